/-
  Parts of the proof, behind each other.
-/
import Derived.Test.YtkeplokjplkcmaaGreatM4
set_option linter.all false
set_option maxRecDepth 100000
namespace Go.Proofs.YtkeplokjplkcmaaGreat.Sym
section
section
variable {m:zab}
def mB(m:zab)(s0 r:Nat):List (Nat×yab):=bfsB (nx m) m.Inputs.toNat s0 r
abbrev MEnd(m:zab)(s0:Nat)(L:List (Nat×yab)):Prop:=zg5 (nx m) m.Inputs.toNat s0 L
def mB_rng(H:zdv m){s0:Nat}(hs:s0<m.Next.length):∀(r:Nat),∀x∈mB m s0 r,x.1<m.Next.length/\x.2.length<=r/\dest m s0 x.2=x.1/\WOk m.Inputs x.2
 |0,x,hx=>by
  have:x=(s0,[]):=by simpa[mB,bfsB]using hx
  subst this;exact⟨hs,yaq _,rfl,λa ha=>by cases ha⟩
 |r+1,x,hx=>by
  have ih:=mB_rng H hs r
  have a2:x∈mB m s0 r->x.1<m.Next.length/\x.2.length<=r+1/\dest m s0 x.2=x.1/\WOk m.Inputs x.2:=λh=>by
   have:=ih x h;exact⟨this.1,by omega,this.2.2⟩
  unfold mB at hx;rw[bfsB]at hx;split at hx
  ·exact a2 hx
  ·rename_i y hy;split at hx
   ·exact a2 hx
   ·rcases yam.1 hx with h|h
    ·exact a2 h
    ·have hK:0<m.Inputs.toNat:=by have:=H.i1;omega
     have a0:=ih y (zkH hy);have ha:=yef r hK;have a4:x=(nx m y.1 (r%m.Inputs.toNat),y.2++[(↑(r%m.Inputs.toNat):Int)]):=by simpa using h
     subst a4;refine⟨(H.at a0.1 ha).1,by simp;omega,?_,?_⟩
     ·simp only;rw[zf5,a0.2.2.1];show nx m y.1 (Int.toNat _)=_;rw[yah]
     ·refine WOk.append a0.2.2.2 λa a3=>?_;have:a=(↑(r%m.Inputs.toNat):Int):=by simpa using a3
      subst this;omega
def mB_len(H:zdv m){s0:Nat}(hs:s0<m.Next.length)(r:Nat):(mB m s0 r).length<=m.Next.length:=by
 have:=zj6 (znh (e:=nx m) (K:=m.Inputs.toNat) (s0:=s0) r) (l':=List.range m.Next.length) λx hx=>by
  obtain⟨y,hy,rfl⟩:=yao.1 hx;exact yay.2 (mB_rng H hs r y hy).1
 rwa [zkK,ya4]at this
def mB_step{s0 i a:Nat}{x:Nat×yab}(ha:a<m.Inputs.toNat)(hx:(mB m s0 (i*m.Inputs.toNat+a))[i]?=some x) :
  mB m s0 (i*m.Inputs.toNat+(a+1))=if nx m x.1 a∈(mB m s0 (i*m.Inputs.toNat+a)).map Prod.fst then mB m s0 (i*m.Inputs.toNat+a) else mB m s0 (i*m.Inputs.toNat+a)++[(nx m x.1 a,x.2++[(a:Int)])]:=bfs_step ha hx
def mB_next{s0 i:Nat}:mB m s0 (i*m.Inputs.toNat+m.Inputs.toNat)=mB m s0 ((i+1)*m.Inputs.toNat):=by rw[ydf]
def mB_get{s0 i r:Nat}{x:Nat×yab}(hx:(mB m s0 (i*m.Inputs.toNat))[i]?=some x)(hr:i*m.Inputs.toNat<=r):(mB m s0 r)[i]?=some x:=zgl (ziv hr) hx
structure zna(n:Nat)(y:List Bool)(l:List Nat):Prop where
 len:y.length=n
 at_:∀t,t<n->y[t]?=some (decide (t∈l))
def zna.push{n t:Nat}{y:List Bool}{l:List Nat}(S:zna n y l)(ht:t<n):zna n (y.set t true) (l++[t]):=by
 refine⟨by simp[S.len],λu hu=>?_⟩;by_cases h:t=u
 ·subst h;rw[ya2 (by rw[S.len];exact ht)];simp
 ·rw[ya3 h,S.at_ u hu];congr 1;apply decide_eq_decide.2;rw[yam];constructor
  ·exact Or.inl
  ·rintro (q|q)
   ·exact q
   ·exact absurd (by simpa using q:u=t).symm h
def seen_nil(n:Nat):zna n (List.replicate n false) []:=⟨by simp,λt ht=>by simp[ht]⟩
def zl5(hv:zg9 m=0):∃L,MEnd m m.Start.toNat L/\zca m=some (natI (L.map Prod.fst)):=by
 have H:=zlj hv;have a8:=H.st;have hn:=H.n2;have hs:m.Start.toNat<m.Next.length:=by omega
 have a4:∀(i:Nat) (x:Nat×yab) (row:yab) (y:List Bool),(mB m m.Start.toNat (i*m.Inputs.toNat))[i]?=some x->m.Next[x.1]?=some row->zna m.Next.length y ((mB m m.Start.toNat (i*m.Inputs.toNat)).map Prod.fst) ->
   ∃y',iter (λ(s:List Bool×yab×Nat)=>zca.s18 row s.1 s.2.1 s.2.2) fuel (y,natI ((mB m m.Start.toNat (i*m.Inputs.toNat)).map Prod.fst),0)=some (y',natI ((mB m m.Start.toNat ((i+1)*m.Inputs.toNat)).map Prod.fst))/\zna m.Next.length y' ((mB m m.Start.toNat ((i+1)*m.Inputs.toNat)).map Prod.fst):=by
  intro i x row y hx a2 S;have a3:=(mB_rng H hs _ x (zkH hx)).1
  have a9:row.length=m.Inputs.toNat:=by
   obtain⟨x',y',h1,_,h3,_⟩:=H.row x.1 a3;rw[a2]at h1;injection h1 with h1
   subst h1;omega
  obtain⟨r,hr,y',rfl,hq⟩:=za1 (step:=λ(s:List Bool×yab×Nat)=>zca.s18 row s.1 s.2.1 s.2.2) (λs=>s.2.2<=m.Inputs.toNat/\s.2.1=natI ((mB m m.Start.toNat (i*m.Inputs.toNat+s.2.2)).map Prod.fst)/\zna m.Next.length s.1 ((mB m m.Start.toNat (i*m.Inputs.toNat+s.2.2)).map Prod.fst)) (λs=>m.Inputs.toNat-s.2.2) (λr=>∃y',r=(y',natI ((mB m m.Start.toNat ((i+1)*m.Inputs.toNat)).map Prod.fst))/\zna m.Next.length y' ((mB m m.Start.toNat ((i+1)*m.Inputs.toNat)).map Prod.fst)) (λs ⟨q1,q2,q3⟩=>by
   obtain⟨y,l,a⟩:=s
   simp only at q1 q2 q3
   subst q2
   simp only[zca.s18]
   by_cases g:a<m.Inputs.toNat
   ·left
    have a6:=mB_get hx (r:=i*m.Inputs.toNat+a) (by omega)
    obtain⟨h1,_,_,x',y',h2,_,h4,_⟩:=H.at a3 g
    rw[a2]at h2
    injection h2 with h2
    subst h2
    have a5:=mB_len H hs (i*m.Inputs.toNat+a)
    have a0:=mB_step g a6
    rw[zkB (by omega),zkD,zah h4,za9 rfl (q3.at_ _ h1)]
    by_cases hm:nx m x.1 a∈(mB m m.Start.toNat (i*m.Inputs.toNat+a)).map Prod.fst
    ·rw[if_pos hm]at a0
     refine⟨(y,natI ((mB m m.Start.toNat (i*m.Inputs.toNat+a)).map Prod.fst),a+1),by rw[zkB hm];rfl,⟨g,by simp only;rw[a0],by simp only;rw[a0];exact q3⟩,by simp only;omega⟩
    ·rw[if_neg hm]at a0
     refine⟨(y.set (nx m x.1 a) true,natI ((mB m m.Start.toNat (i*m.Inputs.toNat+a)).map Prod.fst++[nx m x.1 a]),a+1),?_,⟨g,by simp only;rw[a0,ya0];rfl,by simp only;rw[a0,ya0];exact q3.push h1⟩,by simp only;omega⟩
     rw[zkA hm,ydq,zkD,za9 rfl (q3.at_ _ h1),zaq (by unfold za5;rw[zhp,zkK];omega),natI_push,yah]
   ·right
    have e':a=m.Inputs.toNat:=by omega
    subst e'
    rw[mB_next]at q3 ⊢
    exact⟨_,by rw[zkA (by omega),zkC],_,rfl,q3⟩) fuel (y,natI ((mB m m.Start.toNat (i*m.Inputs.toNat)).map Prod.fst),0) ⟨yaf _,rfl,S⟩ (by have:=zay;have:=H.i2;simp only;omega)
  exact⟨y',hr,hq⟩
 unfold zca;rw[zem,zam,hv,zkA (by decide),zkC,zaq ⟨by omega,by omega,by unfold za5;omega⟩,za9 (i:=m.Start.toNat) (x:=false) (by omega) (by rw[ybi,if_pos hs])]
 obtain⟨r,hr,L,hL,rfl⟩:=za1 (step:=λ(s:List Bool×yab×Nat)=>zca.s20 m s.1 s.2.1 s.2.2) (λs=>s.2.2<=(mB m m.Start.toNat (s.2.2*m.Inputs.toNat)).length/\s.2.1=natI ((mB m m.Start.toNat (s.2.2*m.Inputs.toNat)).map Prod.fst)/\zna m.Next.length s.1 ((mB m m.Start.toNat (s.2.2*m.Inputs.toNat)).map Prod.fst)) (λs=>m.Next.length+1-s.2.2) (λr=>∃L,MEnd m m.Start.toNat L/\r=natI (L.map Prod.fst)) (λs ⟨q1,q2,q3⟩=>by
  obtain⟨y,l,i⟩:=s
  simp only at q1 q2 q3
  subst q2
  simp only[zca.s20]
  have a5:=mB_len H hs (i*m.Inputs.toNat)
  by_cases g:i<(mB m m.Start.toNat (i*m.Inputs.toNat)).length
  ·left
   have hx:=get_at g
   generalize (mB m m.Start.toNat (i*m.Inputs.toNat))[i]=x at hx
   have a3:=(mB_rng H hs _ x (zkH hx)).1
   have a2:=get_at a3
   obtain⟨y',h1,h2⟩:=a4 i x _ y hx a2 q3
   have a7:=(ziv (e:=nx m) (K:=m.Inputs.toNat) (s0:=m.Start.toNat) (show i*m.Inputs.toNat<=(i+1)*m.Inputs.toNat by rw[ydf];omega)).length_le
   refine⟨(y',natI ((mB m m.Start.toNat ((i+1)*m.Inputs.toNat)).map Prod.fst),i+1),?_,⟨by simp only;unfold mB at g ⊢;omega,rfl,h2⟩,by simp only;omega⟩
   rw[zkB (by rw[zhp,zkK];omega),zkD,zah (natI_at (i:=i) (u:=x.1) (by rw[yae,hx];rfl)),za9 rfl a2,h1,zam]
   rfl
  ·right
   refine⟨_,by rw[zkA (by rw[zhp,zkK];omega),zkC],mB m m.Start.toNat (i*m.Inputs.toNat),⟨?_⟩,rfl⟩
   rw[show(mB m m.Start.toNat (i*m.Inputs.toNat)).length=i by omega]
   rfl) fuel ((List.replicate m.Next.length false).set m.Start.toNat true,[m.Start],0) ⟨yaf _,by simp only;rw[ydc];simp[mB,bfsB,natI];omega,by
    simp only
    rw[ydc]
    exact(seen_nil m.Next.length).push hs⟩ (by have:=zay;simp only;omega)
 exact⟨L,hL,by rw[hr,zam]⟩
end
end
section
section
variable {m:zab}
end
end
section
def bfs_stay{A:Type}[DecidableEq A]{e:A->Nat->A}{K:Nat}{s0:A}{L:List (A×yab)}(h:zg5 e K s0 L)(hK:0<K):∀d,bfsB e K s0 (L.length*K+d)=L
 |0=>h.eq.symm
 |d+1=>by
  have ih:=bfs_stay h hK d;show bfsB e K s0 (L.length*K+d+1)=L;rw[bfsB,ih,yat ?_];have h1:(L.length*K) / K<=(L.length*K+d) / K:=yd7 (by omega);rw[Nat.mul_div_cancel _ hK]at h1;exact h1
section
variable {a b:zab}
def pE(a b:zab)(p:Nat×Nat)(x:Nat):Nat×Nat:=(nx a p.1 x,nx b p.2 x)
def pB(a b:zab)(p0:Nat×Nat)(r:Nat):List ((Nat×Nat)×yab):=bfsB (pE a b) a.Inputs.toNat p0 r
abbrev PEnd(a b:zab)(p0:Nat×Nat)(L:List ((Nat×Nat)×yab)):Prop:=zg5 (pE a b) a.Inputs.toNat p0 L
def difB(a b:zab)(p0:Nat×Nat)(r:Nat):Bool:=match (pB a b p0 r)[r / a.Inputs.toNat]? with
 |some x=>decide (ot a x.1.1 (r%a.Inputs.toNat)≠ot b x.1.2 (r%a.Inputs.toNat))
 |none=>false
def zom{p0:Nat×Nat}{i c:Nat}{x:(Nat×Nat)×yab}(hc:c<a.Inputs.toNat)(hx:(pB a b p0 (i*a.Inputs.toNat+c))[i]?=some x):difB a b p0 (i*a.Inputs.toNat+c)=decide (ot a x.1.1 c≠ot b x.1.2 c):=by
 unfold difB;rw[zl2 hc,hx,zte hc]
structure Two(a b:zab):Prop where
 a1:zdv a
 b1:zdv b
 inp:a.Inputs=b.Inputs
def zo4(T:Two a b){p0:Nat×Nat}(h1:p0.1<a.Next.length)(h2:p0.2<b.Next.length):∀(r:Nat),∀x∈pB a b p0 r,x.1.1<a.Next.length/\x.1.2<b.Next.length/\x.2.length<=r/\dest a p0.1 x.2=x.1.1/\dest b p0.2 x.2=x.1.2/\WOk a.Inputs x.2
 |0,x,hx=>by
  have:x=(p0,[]):=by simpa[pB,bfsB]using hx
  subst this;exact⟨h1,h2,yaq _,rfl,rfl,λa ha=>by cases ha⟩
 |r+1,x,hx=>by
  have ih:=zo4 T h1 h2 r
  have a2:x∈pB a b p0 r->x.1.1<a.Next.length/\x.1.2<b.Next.length/\x.2.length<=r+1/\dest a p0.1 x.2=x.1.1/\dest b p0.2 x.2=x.1.2/\WOk a.Inputs x.2:=λh=>by
   have:=ih x h;exact⟨this.1,this.2.1,by omega,this.2.2.2⟩
  unfold pB at hx;rw[bfsB]at hx;split at hx
  ·exact a2 hx
  ·rename_i y hy;split at hx
   ·exact a2 hx
   ·rcases yam.1 hx with h|h
    ·exact a2 h
    ·have hK:0<a.Inputs.toNat:=by have:=T.a1.i1;omega
     have a0:=ih y (zkH hy);have ha:=yef r hK;have a4:x=(pE a b y.1 (r%a.Inputs.toNat),y.2++[(↑(r%a.Inputs.toNat):Int)]):=by simpa using h
     subst a4;refine⟨(T.a1.at a0.1 ha).1,(T.b1.at a0.2.1 (by rw[<- T.inp];exact ha)).1,by simp;omega,?_,?_,?_⟩
     ·simp only;rw[zf5,a0.2.2.2.1];show nx a y.1.1 (Int.toNat _)=_;rw[yah];rfl
     ·simp only;rw[zf5,a0.2.2.2.2.1];show nx b y.1.2 (Int.toNat _)=_;rw[yah];rfl
     ·refine WOk.append a0.2.2.2.2.2 λz a3=>?_;have:z=(↑(r%a.Inputs.toNat):Int):=by simpa using a3
      subst this;omega
def pB_len(T:Two a b){p0:Nat×Nat}(h1:p0.1<a.Next.length)(h2:p0.2<b.Next.length)(r:Nat):(pB a b p0 r).length<=a.Next.length*b.Next.length:=by
 have hn:=znh (e:=pE a b) (K:=a.Inputs.toNat) (s0:=p0) r;have:=zj6 (l:=(((pB a b p0 r).map Prod.fst).map λp=>p.1*b.Next.length+p.2)) (l':=List.range (a.Next.length*b.Next.length)) ?_ λx hx=>?_
 ·rwa [zkK,zkK,ya4]at this
 ·refine List.Pairwise.map _ (R:=λp q=>p∈(pB a b p0 r).map Prod.fst/\q∈(pB a b p0 r).map Prod.fst/\p≠q) (λp q ⟨hp,hq,a0⟩ he=>?_) (List.Pairwise.imp_of_mem (λ{p q} hp hq a0=>⟨hp,hq,a0⟩) hn);obtain⟨x,hx,rfl⟩:=yao.1 hp;obtain⟨y,hy,rfl⟩:=yao.1 hq;have a2:=(zo4 T h1 h2 r x hx).2.1;have a3:=(zo4 T h1 h2 r y hy).2.1;have he:x.1.1*b.Next.length+x.1.2=y.1.1*b.Next.length+y.1.2:=he;have e1:=zl2 (i:=x.1.1) a2;have e2:=zl2 (i:=y.1.1) a3;have e3:=zte (i:=x.1.1) a2;have e4:=zte (i:=y.1.1) a3;rw[he]at e1 e3;exact a0 (Prod.ext (by rw[<- e1,e2]) (by rw[<- e3,e4]))
 ·obtain⟨p,hp,rfl⟩:=yao.1 hx;obtain⟨y,hy,rfl⟩:=yao.1 hp;exact yay.2 (zkp (zo4 T h1 h2 r y hy).1 (zo4 T h1 h2 r y hy).2.1)
def pB_step{p0:Nat×Nat}{i c:Nat}{x:(Nat×Nat)×yab}(hc:c<a.Inputs.toNat)(hx:(pB a b p0 (i*a.Inputs.toNat+c))[i]?=some x) :
  pB a b p0 (i*a.Inputs.toNat+(c+1))=if pE a b x.1 c∈(pB a b p0 (i*a.Inputs.toNat+c)).map Prod.fst then pB a b p0 (i*a.Inputs.toNat+c) else pB a b p0 (i*a.Inputs.toNat+c)++[(pE a b x.1 c,x.2++[(c:Int)])]:=by
 have h:=bfs_step (e:=pE a b) (s0:=p0) hc hx;by_cases g:pE a b x.1 c∈(pB a b p0 (i*a.Inputs.toNat+c)).map Prod.fst
 ·rw[if_pos g];exact h.trans (if_pos g)
 ·rw[if_neg g];exact h.trans (if_neg g)
def pB_next{p0:Nat×Nat}{i:Nat}:pB a b p0 (i*a.Inputs.toNat+a.Inputs.toNat)=pB a b p0 ((i+1)*a.Inputs.toNat):=by rw[ydf]
def pB_get{p0:Nat×Nat}{i r:Nat}{x:(Nat×Nat)×yab}(hx:(pB a b p0 (i*a.Inputs.toNat))[i]?=some x)(hr:i*a.Inputs.toNat<=r):(pB a b p0 r)[i]?=some x:=zgl (ziv hr) hx
def Fst(a b:zab)(p0:Nat×Nat)(res:yab×Bool):Prop :=
 (∃i c x,c<a.Inputs.toNat/\(pB a b p0 (i*a.Inputs.toNat+c))[i]?=some x/\ot a x.1.1 c≠ot b x.1.2 c/\(∀r,r<i*a.Inputs.toNat+c->difB a b p0 r=false)/\res=(x.2++[(c:Int)],true)) \/
 (∃L,PEnd a b p0 L/\(∀r,r<L.length*a.Inputs.toNat->difB a b p0 r=false)/\res=([],false))
def fst_uniq(hK:0<a.Inputs.toNat){p0:Nat×Nat}{u v:yab×Bool}(hu:Fst a b p0 u)(hv:Fst a b p0 v):u=v:=by
 have a0:∀{u v:yab×Bool},(∃i c x,c<a.Inputs.toNat/\(pB a b p0 (i*a.Inputs.toNat+c))[i]?=some x/\ot a x.1.1 c≠ot b x.1.2 c/\(∀r,r<i*a.Inputs.toNat+c->difB a b p0 r=false)/\u=(x.2++[(c:Int)],true))->(∃L,PEnd a b p0 L/\(∀r,r<L.length*a.Inputs.toNat->difB a b p0 r=false)/\v=([],false))->False:=by
  rintro u v ⟨i,c,x,h1,h2,h3,h4,_⟩ ⟨L,h6,h7,_⟩;rcases ya9 (i*a.Inputs.toNat+c) (L.length*a.Inputs.toNat) with g|g
  ·have:=h7 _ g;rw[zom h1 h2,zkB h3]at this;cases this
  ·have hs:=bfs_stay h6 hK (i*a.Inputs.toNat+c-L.length*a.Inputs.toNat);rw[show L.length*a.Inputs.toNat+(i*a.Inputs.toNat+c-L.length*a.Inputs.toNat)=i*a.Inputs.toNat+c by omega]at hs;have a2:(bfsB (pE a b) a.Inputs.toNat p0 (i*a.Inputs.toNat+c))[i]?=some x:=h2;rw[hs]at a2;have hi:=(zkI.1 a2).1;have:=zkp hi h1;omega
 rcases hu with hu|hu<;>rcases hv with hv|hv
 ·obtain⟨i,c,x,h1,h2,h3,h4,rfl⟩:=hu;obtain⟨i',c',x',g1,g2,g3,g4,rfl⟩:=hv
  have hr:i*a.Inputs.toNat+c=i'*a.Inputs.toNat+c':=by
   rcases ydn (i*a.Inputs.toNat+c) (i'*a.Inputs.toNat+c') with q|q|q
   ·have:=g4 _ q;rw[zom h1 h2,zkB h3]at this;cases this
   ·exact q
   ·have:=h4 _ q;rw[zom g1 g2,zkB g3]at this;cases this
  have e1:i=i':=by rw[<- zl2 (i:=i) h1,hr,zl2 g1]
  subst e1;have e2:c=c':=by omega
  subst e2;rw[h2]at g2;injection g2 with g2
  rw[g2]
 ·exact(a0 hu hv).elim
 ·exact(a0 hv hu).elim
 ·obtain⟨_,_,_,rfl⟩:=hu;obtain⟨_,_,_,rfl⟩:=hv;rfl
end
end
section
section
variable {a b:zab}
def plC(x:(Nat×Nat)×yab):zbk:=⟨⟨(x.1.1:Int),(x.1.2:Int)⟩,x.2⟩
def map_get{α β:Type}{f:α->β}{l:List α}{i:Nat}{x:α}(h:l[i]?=some x):(l.map f)[i]?=some (f x):=by rw[yae,h];rfl
structure SeenG(n k:Nat)(y:List (List Bool))(l:yad):Prop where
 len:y.length=n
 at_:∀s t,s<n->t<k->∃row,y[s]?=some row/\row.length=k/\row[t]?=some (decide ((s,t)∈l))
def pair_mem{l:yad}{p q:Nat×Nat}(h:p≠q):p∈l↔p∈l++[q]:=by
 rw[yam,yag];exact⟨Or.inl,λz=>z.elim id λe=>absurd e h⟩
def SeenG.push{n k s t:Nat}{y:List (List Bool)}{l:yad}{row:List Bool}(S:SeenG n k y l)(hs:s<n)(ht:t<k)(hr:y[s]?=some row):SeenG n k (y.set s (row.set t true)) (l++[(s,t)]):=by
 refine⟨by simp[S.len],λu v hu hv=>?_⟩;obtain⟨a0,h1,h2,h3⟩:=S.at_ u v hu hv;by_cases h:s=u
 ·subst h;rw[hr]at h1;injection h1 with h1
  subst h1;refine⟨row.set t true,by rw[ya2 (by rw[S.len];exact hs)],by simp[h2],?_⟩;by_cases g:t=v
  ·subst g;rw[ya2 (by omega)];simp
  ·rw[ya3 g,h3];congr 1;apply decide_eq_decide.2;exact pair_mem λe=>g (congrArg Prod.snd e).symm
 ·refine⟨a0,by rw[ya3 h,h1],h2,?_⟩;rw[h3];congr 1;apply decide_eq_decide.2;exact pair_mem λe=>h (congrArg Prod.fst e).symm
def seenG_nil(n k:Nat):SeenG n k (List.replicate n (List.replicate k false)) []:=⟨by simp,λs t hs ht=>⟨List.replicate k false,by simp[hs],by simp,by simp[ht]⟩⟩
def big_sum{i c n k K:Nat}(hi:i<=n*k)(hn:n<=128)(hk:k<=128)(hK:K<=64)(hc:c<=64):i*K+c<=1048640:=by
 have h1:n*k<=128*128:=yeh hn hk;have h2:i*K<=(128*128)*64:=yeh (by omega) hK;omega
def search_row(T:Two a b){p0:Nat×Nat}(h1:p0.1<a.Next.length)(h2:p0.2<b.Next.length){i:Nat}{x:(Nat×Nat)×yab}{y:List (List Bool)}(hi:i<=a.Next.length*b.Next.length)
  (hx:(pB a b p0 (i*a.Inputs.toNat))[i]?=some x) (S:SeenG a.Next.length b.Next.length y ((pB a b p0 (i*a.Inputs.toNat)).map Prod.fst)) (hd:∀r,r<i*a.Inputs.toNat->difB a b p0 r=false) :
  ∃r,iter (λ(s:List (List Bool)×List zbk×Nat)=>zbl.s20 a b i (plC x) s.1 s.2.1 s.2.2) fuel (y,(pB a b p0 (i*a.Inputs.toNat)).map plC,0)=some r /\
   ((∃y',r=.inl (y',(pB a b p0 ((i+1)*a.Inputs.toNat)).map plC)/\SeenG a.Next.length b.Next.length y' ((pB a b p0 ((i+1)*a.Inputs.toNat)).map Prod.fst)/\∀r,r<(i+1)*a.Inputs.toNat->difB a b p0 r=false) \/
   (∃res,r=.inr (.inr (.inr res))/\Fst a b p0 res)):=by
 have a8:=T.a1.n2;have a7:=T.b1.n2;have hI:=T.a1.i2;have a9:=zo4 T h1 h2 _ x (zkH hx)
 obtain⟨r,hr,hq⟩:=za1 (step:=λ(s:List (List Bool)×List zbk×Nat)=>zbl.s20 a b i (plC x) s.1 s.2.1 s.2.2) (λs=>s.2.2<=a.Inputs.toNat/\s.2.1=(pB a b p0 (i*a.Inputs.toNat+s.2.2)).map plC/\SeenG a.Next.length b.Next.length s.1 ((pB a b p0 (i*a.Inputs.toNat+s.2.2)).map Prod.fst)/\∀r,r<i*a.Inputs.toNat+s.2.2->difB a b p0 r=false) (λs=>a.Inputs.toNat-s.2.2) (λr=>(∃y',r=.inl (y',(pB a b p0 ((i+1)*a.Inputs.toNat)).map plC)/\SeenG a.Next.length b.Next.length y' ((pB a b p0 ((i+1)*a.Inputs.toNat)).map Prod.fst)/\∀r,r<(i+1)*a.Inputs.toNat->difB a b p0 r=false)\/(∃res,r=.inr (.inr (.inr res))/\Fst a b p0 res)) (λs ⟨q1,q2,q3,q4⟩=>by
  obtain⟨y,l,c⟩:=s
  simp only at q1 q2 q3 q4
  subst q2
  simp only[zbl.s20]
  by_cases g:c<a.Inputs.toNat
  ·have a3:=pB_get hx (r:=i*a.Inputs.toNat+c) (by omega)
   obtain⟨g1,_,_,ra,oa,e1,e2,e3,e4⟩:=T.a1.at a9.1 g
   obtain⟨f1,_,_,rb,ob,d1,d2,d3,d4⟩:=T.b1.at a9.2.1 (a:=c) (by rw[<- T.inp];exact g)
   have b4:=big_sum (c:=c) hi a8 a7 (K:=a.Inputs.toNat) (by omega) (by omega)
   have b3:=pB_len T h1 h2 (i*a.Inputs.toNat+c)
   have b6:a.Next.length*b.Next.length<=128*128:=yeh a8 a7
   rw[zkB (by omega),zkD,za9 (n:=(plC x).at_.s) (i:=x.1.1) rfl e2,zah e4,za9 (n:=(plC x).at_.t) (i:=x.1.2) rfl d2,zah d4]
   by_cases a4:ot a x.1.1 c≠ot b x.1.2 c
   ·right
    rw[zkB a4,zkD,zah (map_get a3)]
    show ∃r,((zhb [x.2,[(c:Int)]]).bind _:Option _)=_/\_
    rw[zo0 _ (by simp) (by simp;omega),zam]
    refine⟨_,rfl,Or.inr ⟨_,rfl,Or.inl ⟨i,c,x,g,a3,a4,q4,?_⟩⟩⟩
    simp
   ·left
    have b5:ot a x.1.1 c=ot b x.1.2 c:=ybd a4
    have b0:∀r,r<i*a.Inputs.toNat+(c+1)->difB a b p0 r=false:=λr hr=>by
     rcases ya9 r (i*a.Inputs.toNat+c) with q|q
     ·exact q4 r q
     ·have:r=i*a.Inputs.toNat+c:=by omega
      rw[this,zom g a3,zkA a4]
    have a0:=pB_step g a3
    obtain⟨row,r1,r2,r3⟩:=q3.at_ _ _ g1 f1
    have b2:x.1∈(pB a b p0 (i*a.Inputs.toNat+c)).map Prod.fst:=yao.2 ⟨x,zkH a3,rfl⟩
    have a5:((cond (!(decide ((↑(nx a x.1.1 c):Int)=(plC x).at_.s)&&(decide ((↑(nx b x.1.2 c):Int)=(plC x).at_.t)&&true))) (idx y (↑(nx a x.1.1 c):Int) λa2=>idx a2 (↑(nx b x.1.2 c):Int) λa6=>some (!a6)) (some false):Option Bool))=some (!decide (pE a b x.1 c∈(pB a b p0 (i*a.Inputs.toNat+c)).map Prod.fst)):=by
     by_cases z:pE a b x.1 c=x.1
     ·have z1:nx a x.1.1 c=x.1.1:=congrArg Prod.fst z
      have z2:nx b x.1.2 c=x.1.2:=congrArg Prod.snd z
      rw[zkB (show(↑(nx a x.1.1 c):Int)=(plC x).at_.s by rw[z1];rfl),zkB (show(↑(nx b x.1.2 c):Int)=(plC x).at_.t by rw[z2];rfl),z,zkB b2]
      rfl
     ·have:(!(decide ((↑(nx a x.1.1 c):Int)=(plC x).at_.s)&&(decide ((↑(nx b x.1.2 c):Int)=(plC x).at_.t)&&true)))=true:=by
       by_cases z1:nx a x.1.1 c=x.1.1
       ·have z2:nx b x.1.2 c≠x.1.2:=λq=>z (Prod.ext z1 q)
        rw[zkA (show ¬(↑(nx b x.1.2 c):Int)=(plC x).at_.t from λq=>z2 (Int.ofNat_inj.1 q))]
        simp
       ·rw[zkA (show ¬(↑(nx a x.1.1 c):Int)=(plC x).at_.s from λq=>z1 (Int.ofNat_inj.1 q))]
        rfl
      rw[this,zkD,za9 rfl r1,za9 rfl r3]
      rfl
    rw[zkA a4,zkC,za9 (n:=(plC x).at_.s) (i:=x.1.1) rfl e1,zah e3,za9 (n:=(plC x).at_.t) (i:=x.1.2) rfl d1,zah d3,a5,zam]
    by_cases hm:pE a b x.1 c∈(pB a b p0 (i*a.Inputs.toNat+c)).map Prod.fst
    ·rw[if_pos hm]at a0
     refine⟨(y,(pB a b p0 (i*a.Inputs.toNat+c)).map plC,c+1),by rw[zkB hm,yck,zkC,zaq (by unfold inR;omega)],⟨g,by simp only;rw[a0],by simp only;rw[a0];exact q3,b0⟩,by simp only;omega⟩
    ·rw[if_neg hm]at a0
     refine⟨(y.set (nx a x.1.1 c) (row.set (nx b x.1.2 c) true),(pB a b p0 (i*a.Inputs.toNat+c)).map plC++[plC (pE a b x.1 c,x.2++[(c:Int)])],c+1),?_,⟨g,by simp only;rw[a0,ya0];rfl,by simp only;rw[a0,ya0];exact q3.push g1 f1 r1,b0⟩,by simp only;omega⟩
     rw[zkA hm,ydq,zkD,za9 rfl r1,za9 rfl r3,zah (map_get a3)]
     show(zhb [x.2,[(c:Int)]]).bind _=_
     rw[zo0 _ (by simp) (by simp;omega),zam,zaq (by unfold za5;rw[zkK];omega),zaq (by unfold inR;omega),yah,yah]
     simp[plC,pE]
  ·right
   have e':c=a.Inputs.toNat:=by omega
   subst e'
   rw[pB_next]at q3 ⊢
   exact⟨_,by rw[zkA (by omega),zkC],Or.inl ⟨_,rfl,q3,by rw[ydf];exact q4⟩⟩) fuel (y,(pB a b p0 (i*a.Inputs.toNat)).map plC,0) ⟨yaf _,rfl,S,hd⟩ (by have:=zay;simp only;omega)
 exact⟨r,hr,hq⟩
def zkn(T:Two a b){p0:Nat×Nat}(h1:p0.1<a.Next.length)(h2:p0.2<b.Next.length):∃res,zbl a b (⟨(p0.1:Int),(p0.2:Int)⟩:zdp)=some res/\Fst a b p0 res:=by
 have a2:=T.a1.n2;have a0:=T.b1.n2;have hI:=T.a1.i2;have a5:a.Next.length*b.Next.length<=128*128:=yeh a2 a0;unfold zbl
 have grid:=zek (step:=λ(s:List (List Bool)×Nat)=>zbl.s2 a b s.1 s.2) (r:=List.replicate a.Next.length (List.replicate b.Next.length false)) (λs=>s.2<=a.Next.length/\s.1=List.replicate s.2 (List.replicate b.Next.length false)++List.replicate (a.Next.length-s.2) []) (λs=>a.Next.length-s.2) (λs ⟨q1,q2⟩=>by
  obtain⟨y,k⟩:=s
  simp only at q1 q2
  subst q2
  simp only[zbl.s2]
  by_cases g:k<a.Next.length
  ·left
   refine⟨(List.replicate (k+1) (List.replicate b.Next.length false)++List.replicate (a.Next.length-(k+1)) [],k+1),?_,⟨g,rfl⟩,by simp only;omega⟩
   have hk:(List.replicate k (List.replicate b.Next.length false)++List.replicate (a.Next.length-k) [])[k]?=some []:=by
    rw[ybo (by simp),yak,ycn,ybi,if_pos (by omega)]
   rw[yak,zkB (by omega),zkD,zaq ⟨by omega,by omega,by unfold za5;omega⟩,zah hk,zaq (by unfold inR;omega)]
   congr 4
   rw[List.set_append_right _ _ (by simp),yak,ycn,show a.Next.length-k=(a.Next.length-(k+1))+1 by omega,List.replicate_succ,ye1,List.replicate_succ' (n:=k)]
   simp
  ·right
   have:k=a.Next.length:=by omega
   subst this
   rw[yak,zkA (by omega),zkC]
   simp) (n:=fuel) (s:=(List.replicate a.Next.length [],0)) ⟨yaf _,by simp⟩ (by have:=zay;simp only;omega)
 obtain⟨row,r1,r2,r3⟩:=(seenG_nil a.Next.length b.Next.length).at_ _ _ h1 h2;have hS:=(seenG_nil a.Next.length b.Next.length).push h1 h2 r1;rw[zaq ⟨by omega,by omega,by unfold za5;omega⟩,grid,zam];simp only;rw[za9 rfl r1,za9 rfl r3,yah,yah]
 obtain⟨r,hr,hq⟩:=za1 (step:=λ(s:List (List Bool)×List zbk×Nat)=>zbl.s22 a b s.1 s.2.1 s.2.2) (λs=>s.2.2<=(pB a b p0 (s.2.2*a.Inputs.toNat)).length/\s.2.1=(pB a b p0 (s.2.2*a.Inputs.toNat)).map plC/\SeenG a.Next.length b.Next.length s.1 ((pB a b p0 (s.2.2*a.Inputs.toNat)).map Prod.fst)/\∀r,r<s.2.2*a.Inputs.toNat->difB a b p0 r=false) (λs=>a.Next.length*b.Next.length+1-s.2.2) (λr=>(r=.inl ()/\Fst a b p0 ([],false))\/∃res,r=.inr res/\Fst a b p0 res) (λs ⟨q1,q2,q3,q4⟩=>by
  obtain⟨y,l,i⟩:=s
  simp only at q1 q2 q3 q4
  subst q2
  simp only[zbl.s22]
  have a4:=pB_len T h1 h2 (i*a.Inputs.toNat)
  by_cases g:i<(pB a b p0 (i*a.Inputs.toNat)).length
  ·have hx:=get_at g
   generalize (pB a b p0 (i*a.Inputs.toNat))[i]=x at hx
   obtain⟨r,z1,z2⟩:=search_row T h1 h2 (by omega) hx q3 q4
   rw[zkB (by rw[zkK];omega),zkD,zah (map_get hx),z1,zam]
   rcases z2 with⟨y',rfl,z3,z4⟩|⟨res,rfl,z3⟩
   ·left
    have a3:=(ziv (e:=pE a b) (K:=a.Inputs.toNat) (s0:=p0) (show i*a.Inputs.toNat<=(i+1)*a.Inputs.toNat by rw[ydf];omega)).length_le
    exact⟨(y',(pB a b p0 ((i+1)*a.Inputs.toNat)).map plC,i+1),rfl,⟨by simp only;unfold pB at g ⊢;omega,rfl,z3,z4⟩,by simp only;omega⟩
   ·right
    exact⟨.inr res,rfl,Or.inr ⟨res,rfl,z3⟩⟩
  ·right
   refine⟨.inl (),by rw[zkA (by rw[zkK];omega),zkC],Or.inl ⟨rfl,Or.inr ⟨pB a b p0 (i*a.Inputs.toNat),⟨?_⟩,?_,rfl⟩⟩⟩
   ·rw[show(pB a b p0 (i*a.Inputs.toNat)).length=i by omega]
    rfl
   ·rw[show(pB a b p0 (i*a.Inputs.toNat)).length=i by omega]
    exact q4) fuel ((List.replicate a.Next.length (List.replicate b.Next.length false)).set p0.1 (row.set p0.2 true),[(⟨(⟨(p0.1:Int),(p0.2:Int)⟩:zdp),[]⟩:zbk)],0) ⟨yaf _,by simp only;rw[ydc];simp[pB,bfsB,plC],by
    simp only
    rw[ydc]
    exact hS,λr hr=>by simp only at hr;omega⟩ (by have:=zay;simp only;omega)
 rw[hr,zam];rcases hq with⟨rfl,hq⟩|⟨res,rfl,hq⟩
 ·exact⟨_,rfl,hq⟩
 ·exact⟨_,rfl,hq⟩
end
end
section
section
variable {a b:zab}
def fst_word(T:Two a b){p0:Nat×Nat}(h1:p0.1<a.Next.length)(h2:p0.2<b.Next.length){w:yab}(h:Fst a b p0 (w,true)):WOk a.Inputs w/\w.length<=1048640/\∃(v:yab) (c:Nat),w=v++[(c:Int)]/\c<a.Inputs.toNat/\ot a (dest a p0.1 v) c≠ot b (dest b p0.2 v) c:=by
 rcases h with⟨i,c,x,g1,g2,g3,g4,g5⟩|⟨L,_,_,g⟩
 ·injection g5 with g5 _
  have hr:=zo4 T h1 h2 _ x (zkH g2);have a0:=pB_len T h1 h2 (i*a.Inputs.toNat+c);have hi:=(zkI.1 g2).1;have:=big_sum (c:=c+1) (i:=i) (by omega) T.a1.n2 T.b1.n2 (K:=a.Inputs.toNat) (by have:=T.a1.i2;omega) (by have:=T.a1.i2;omega);refine⟨?_,?_,x.2,c,g5,g1,by rw[hr.2.2.2.1,hr.2.2.2.2.1];exact g3⟩
  ·rw[g5];refine WOk.append hr.2.2.2.2.2 λz hz=>?_;have:z=(c:Int):=by simpa using hz
   omega
  ·rw[g5];simp;omega
 ·injection g with _ g
  cases g
def outs_snoc{m:zab}{v:yab}{c:Nat}{s:Nat}:outs m s (v++[(c:Int)])=outs m s v++[ot m (dest m s v) c]:=by
 rw[zhv];show _++[ot m (dest m s v) (Int.toNat ↑c)]=_;rw[yah]
def fst_ne(T:Two a b){p0:Nat×Nat}(h1:p0.1<a.Next.length)(h2:p0.2<b.Next.length){w:yab}(h:Fst a b p0 (w,true)):outs a p0.1 w≠outs b p0.2 w:=by
 obtain⟨_,_,v,c,rfl,_,h3⟩:=fst_word T h1 h2 h;intro he;rw[outs_snoc,outs_snoc]at he;have:=List.append_inj_right' he rfl;injection this with this _
 exact h3 this
def fst_none{p0:Nat×Nat}{w0:yab}(h:Fst a b p0 (w0,false)):∀w,WOk a.Inputs w->outs a p0.1 w=outs b p0.2 w:=by
 rcases h with⟨i,c,x,_,_,_,_,g⟩|⟨L,g1,g2,_⟩
 ·injection g with _ g
  cases g
 ·have key:∀(w:yab) (i:Nat) (x:(Nat×Nat)×yab),L[i]?=some x->WOk a.Inputs w->outs a x.1.1 w=outs b x.1.2 w:=by
   intro w
   induction w with
   |nil=>intro _ _ _ _;rfl
   |cons z w ih =>
    intro i x hx hw;have hz:=hw.head;have hc:z.toNat<a.Inputs.toNat:=by omega
    have hi:=(zkI.1 hx).1;obtain⟨x',e1,e2⟩:=g1.long hi hc;rw[hx]at e1;injection e1 with e1
    subst e1;have hd:=g2 (i*a.Inputs.toNat+z.toNat) (zkp hi hc);rw[zom hc e2]at hd
    have a0:ot a x.1.1 z.toNat=ot b x.1.2 z.toNat:=ybd λq=>by
     rw[zkB q]at hd;cases hd
    obtain⟨j,y,f1,f2,_⟩:=g1.closed hx hc;have:=ih j y f1 hw.tail;rw[f2]at this;show ot a x.1.1 z.toNat::outs a (nx a x.1.1 z.toNat) w=ot b x.1.2 z.toNat::outs b (nx b x.1.2 z.toNat) w;rw[a0];congr 1
  exact λw hw=>key w 0 _ g1.first hw
end
end
section
structure Can(M:zab):Prop where
 c4:∀i a u,i<M.Next.length->a<M.Inputs.toNat->0<u->u<=nx M i a->∃i' a',a'<M.Inputs.toNat/\i'*M.Inputs.toNat+a'<=i*M.Inputs.toNat+a/\i'<u/\nx M i' a'=u
 c5:∀u,0<u->u<M.Next.length->∃i a,i<u/\a<M.Inputs.toNat/\nx M i a=u
def Eqv(a:zab)(s:Nat)(b:zab)(t:Nat):Prop:=∀w,WOk a.Inputs w->outs a s w=outs b t w
structure MinSem(m M:zab):Prop where
 ok:zdv M
 inp:M.Inputs=m.Inputs
 start:M.Start=0
 eqv:Eqv M 0 m m.Start.toNat
 min:∀i j,i<M.Next.length->j<M.Next.length->Eqv M i M j->i=j
 can:Can M
def Eqv.symm{a b:zab}(hi:a.Inputs=b.Inputs){s t:Nat}(h:Eqv a s b t):Eqv b t a s:=λw hw=>(h w (by rw[hi];exact hw)).symm
def Eqv.trans{a b c:zab}(hi:a.Inputs=b.Inputs){s t u:Nat}(h:Eqv a s b t)(g:Eqv b t c u):Eqv a s c u:=λw hw=>(h w hw).trans (g w (by rw[<- hi];exact hw))
def Eqv.dest{a b:zab}(hi:a.Inputs=b.Inputs){s t:Nat}(h:Eqv a s b t){w:yab}(hw:WOk a.Inputs w):Eqv a (dest a s w) b (dest b t w):=λv hv=>by
 have:=h (w++v) (hw.append hv);rw[zhv,zhv]at this;exact List.append_inj_right this (by rw[zmy,zmy])
section
variable {M M':zab}
end
structure Shape{A:Type}[DecidableEq A](e:A->Nat->A)(o:A->Nat->Int)(L:List (A×yab))(M:zab):Prop where
 len:M.Next.length=L.length
 row:∀i x a,L[i]?=some x->a<M.Inputs.toNat->∃y,L[nx M i a]?=some y/\y.1=e x.1 a/\ot M i a=o x.1 a
def nodup_at{A:Type}{l:List A}(h:l.Nodup){i j:Nat}{x:A}(hi:l[i]?=some x)(hj:l[j]?=some x):i=j:=by
 have h1:=(zkI.1 hi);have h2:=(zkI.1 hj);obtain⟨a1,a2⟩:=h1;obtain⟨b1,b2⟩:=h2;rcases ydn i j with q|q|q
 ·exact absurd (a2.trans b2.symm) (yb6.1 h i j a1 b1 q)
 ·exact q
 ·exact absurd (b2.trans a2.symm) (yb6.1 h j i b1 a1 q)
def shape_can{A:Type}[DecidableEq A]{e:A->Nat->A}{o:A->Nat->Int}{s0:A}{L:List (A×yab)}{M:zab}(hE:zg5 e M.Inputs.toNat s0 L)(S:Shape e o L M)(hK:0<M.Inputs.toNat):Can M:=by
 have at_:∀i a x y j,L[i]?=some x->a<M.Inputs.toNat->L[j]?=some y->y.1=e x.1 a->nx M i a=j:=λi a x y j hx ha hj he=>by
  obtain⟨y',h1,h2,_⟩:=S.row i x a hx ha;exact nodup_at hE.nodup (x:=e x.1 a) (by rw[yae,h1,<- h2];rfl) (by rw[yae,hj,<- he];rfl)
 refine⟨λi a u hi ha hu a0=>?_,λu hu a2=>?_⟩
 ·have hx:=get_at (l:=L) (i:=i) (by rw[<- S.len];exact hi);obtain⟨j,y,h1,h2,h3⟩:=hE.closed hx ha;rw[at_ i a _ y j hx ha h1 h2]at a0;obtain⟨i',a',z,w,g1,g2,g3,g4,g5,g6⟩:=h3 u hu a0;exact⟨i',a',g1,g2,g3,at_ i' a' z w u g4 g1 g5 g6⟩
 ·have hx:=get_at (l:=L) (i:=u) (by rw[<- S.len];exact a2);rcases hE.from hK hx with q|⟨i,a,y,g1,g2,g3,g4⟩
  ·omega
  ·exact⟨i,a,g1,g2,at_ i a y _ u g3 g2 hx (by rw[g4])⟩
end
section
section
variable {m:zab}
def libclone_w{w:yab}(h:w.length<=1000000):zfl w=some w:=zm8 (by unfold SmW;omega)
structure TrimOk(m t:zab)(L:List (Nat×yab)):Prop where
 end_:MEnd m m.Start.toNat L
 inp:t.Inputs=m.Inputs
 start:t.Start=0
 ok:zdv t
 shape:Shape (nx m) (ot m) L t
def mEnd_rng(H:zdv m){s0:Nat}{L:List (Nat×yab)}(hs:s0<m.Next.length)(hE:MEnd m s0 L):L.length<=m.Next.length/\∀x∈L,x.1<m.Next.length/\dest m s0 x.2=x.1/\WOk m.Inputs x.2:=by
 refine⟨?_,λx hx=>?_⟩
 ·rw[hE.eq];exact mB_len H hs _
 ·rw[hE.eq]at hx;have:=mB_rng H hs _ x hx;exact⟨this.1,this.2.2⟩
def mealy_Trim_eq(hv:zg9 m=0):∃t L,zb4 m=some (t,0)/\TrimOk m t L:=by
 have H:=zlj hv;have b3:=H.st;have hn:=H.n2;have hI:=H.i2;have a9:=H.i1;have hs:m.Start.toNat<m.Next.length:=by omega
 obtain⟨L,hE,hR⟩:=zl5 hv;obtain⟨b7,a2⟩:=mEnd_rng H hs hE;have b2:=hE.nodup;unfold zb4;rw[zem,zam,hv,zkA (by decide),zkC,hR,zam,zaq ⟨by omega,by omega,by unfold za5;omega⟩]
 -- the numbers
 obtain⟨num,a6,b4,b0⟩:=za1 (step:=λ(s:yab×Nat)=>zb4.s2 (natI (L.map Prod.fst)) s.1 s.2) (λs=>s.2<=L.length/\s.1.length=m.Next.length/\∀(j:Nat) (x:Nat×yab),j<s.2->L[j]?=some x->s.1[x.1]?=some (j:Int)) (λs=>L.length-s.2) (λr=>r.length=m.Next.length/\∀(j:Nat) (x:Nat×yab),L[j]?=some x->r[x.1]?=some (j:Int)) (λs ⟨q1,q2,q3⟩=>by
  obtain⟨y,i⟩:=s
  simp only at q1 q2 q3
  simp only[zb4.s2]
  by_cases g:i<L.length
  ·left
   have hx:=get_at g
   generalize L[i]=x at hx
   have a0:=(a2 x (zkH hx)).1
   have hy:=get_at (l:=y) (i:=x.1) (by omega)
   refine⟨(y.set x.1 (i:Int),i+1),?_,⟨g,by simp[q2],λj z hj hz=>?_⟩,by simp only;omega⟩
   ·rw[zkB (by rw[zhp,zkK];omega),zkD,zah (natI_at (i:=i) (u:=x.1) (by rw[yae,hx];rfl)),za9 rfl hy,yah]
   ·simp only
    by_cases e:x.1=z.1
    ·have:i=j:=nodup_at b2 (x:=x.1) (by rw[yae,hx];rfl) (by rw[yae,hz,e];rfl)
     subst this
     rw[<- e,ya2 (by omega)]
    ·rw[ya3 e]
     rcases ya9 j i with h|h
     ·exact q3 j z h hz
     ·have:j=i:=by simp only at hj;omega
      subst this
      rw[hx]at hz
      injection hz with hz
      rw[hz]at e
      exact absurd rfl e
  ·right
   exact⟨y,by rw[zkA (by rw[zhp,zkK];omega),zkC],q2,λj x hx=>q3 j x (by have:=(zkI.1 hx).1;omega) hx⟩) fuel (List.replicate m.Next.length 0,0) ⟨yaf _,by simp,λj x h=>absurd h (ybg _)⟩ (by have:=zay;simp only;omega)
 rw[a6,zam]
 -- one row
 have a4:∀(x:Nat×yab) (row:yab),x∈L->m.Next[x.1]?=some row->∃r,iter (λ(s:yab×Nat)=>zb4.s15 num row s.1 s.2) fuel (List.replicate (Int.toNat m.Inputs) 0,0)=some r/\r.length=m.Inputs.toNat/\∀a,a<m.Inputs.toNat->∃(j:Nat) (y:Nat×yab),L[j]?=some y/\y.1=nx m x.1 a/\r[a]?=some (j:Int):=by
  intro x row hx a3;have a0:=(a2 x hx).1
  have b6:row.length=m.Inputs.toNat:=by
   obtain⟨x',y',h1,_,h3,_⟩:=H.row x.1 a0;rw[a3]at h1;injection h1 with h1
   subst h1;omega
  obtain⟨i,hi⟩:=List.mem_iff_getElem?.1 hx
  exact za1 (step:=λ(s:yab×Nat)=>zb4.s15 num row s.1 s.2) (λs=>s.2<=m.Inputs.toNat/\s.1.length=m.Inputs.toNat/\∀a,a<s.2->∃(j:Nat) (y:Nat×yab),L[j]?=some y/\y.1=nx m x.1 a/\s.1[a]?=some (j:Int)) (λs=>m.Inputs.toNat-s.2) (λr=>r.length=m.Inputs.toNat/\∀a,a<m.Inputs.toNat->∃(j:Nat) (y:Nat×yab),L[j]?=some y/\y.1=nx m x.1 a/\r[a]?=some (j:Int)) (λs ⟨q1,q2,q3⟩=>by
   obtain⟨y,a⟩:=s
   simp only at q1 q2 q3
   simp only[zb4.s15]
   by_cases g:a<m.Inputs.toNat
   ·left
    obtain⟨h1,_,_,x',y',h2,_,h4,_⟩:=H.at a0 g
    rw[a3]at h2
    injection h2 with h2
    subst h2
    obtain⟨j,z,z1,z2,_⟩:=hE.closed hi g
    have hy:=get_at (l:=y) (i:=a) (by omega)
    have a5:=b0 j z z1
    rw[z2]at a5
    refine⟨(y.set a (j:Int),a+1),?_,⟨g,by simp[q2],λb hb=>?_⟩,by simp only;omega⟩
    ·rw[zkB (by omega),zkD,zah h4,za9 rfl a5,zah hy]
    ·simp only
     by_cases e:a=b
     ·subst e
      exact⟨j,z,z1,z2,by rw[ya2 (by omega)]⟩
     ·obtain⟨j',z',w1,w2,w3⟩:=q3 b (by simp only at hb;omega)
      exact⟨j',z',w1,w2,by rw[ya3 e,w3]⟩
   ·right
    have:a=m.Inputs.toNat:=by omega
    subst this
    exact⟨y,by rw[zkA (by omega),zkC],q2,q3⟩) fuel (List.replicate (Int.toNat m.Inputs) 0,0) ⟨yaf _,by simp,λa h=>absurd h (ybg _)⟩ (by have:=zay;simp only;omega)
 -- all rows
 obtain⟨r,hr,P,Q,rfl,p1,p2,p3⟩:=za1 (step:=λ(s:yaa×yaa×Nat)=>zb4.s16 m (natI (L.map Prod.fst)) num s.1 s.2.1 s.2.2) (λs=>s.2.2<=L.length/\s.1.length=s.2.2/\s.2.1.length=s.2.2/\∀(i:Nat) (x:Nat×yab),i<s.2.2->L[i]?=some x->(∃r,s.1[i]?=some r/\r.length=m.Inputs.toNat/\∀a,a<m.Inputs.toNat->∃(j:Nat) (y:Nat×yab),L[j]?=some y/\y.1=nx m x.1 a/\r[a]?=some (j:Int))/\s.2.1[i]?=m.Out[x.1]?) (λs=>L.length-s.2.2) (λr=>∃P Q,r=(P,Q)/\P.length=L.length/\Q.length=L.length/\∀(i:Nat) (x:Nat×yab),L[i]?=some x->(∃r,P[i]?=some r/\r.length=m.Inputs.toNat/\∀a,a<m.Inputs.toNat->∃(j:Nat) (y:Nat×yab),L[j]?=some y/\y.1=nx m x.1 a/\r[a]?=some (j:Int))/\Q[i]?=m.Out[x.1]?) (λs ⟨q1,q2,q3,q4⟩=>by
  obtain⟨P,Q,i⟩:=s
  simp only at q1 q2 q3 q4
  simp only[zb4.s16]
  by_cases g:i<L.length
  ·left
   have hx:=get_at g
   generalize L[i]=x at hx
   have a7:=zkH hx
   have a0:=(a2 x a7).1
   obtain⟨row,out,e1,e2,e3,e4,_⟩:=H.row x.1 a0
   obtain⟨r,f1,f2,f3⟩:=a4 x row a7 e1
   refine⟨(P++[r],Q++[out],i+1),?_,⟨g,by simp[q2],by simp[q3],λj z hj hz=>?_⟩,by simp only;omega⟩
   ·rw[zkB (by rw[zhp,zkK];omega),zkD,zah (natI_at (i:=i) (u:=x.1) (by rw[yae,hx];rfl)),zaq ⟨by omega,by omega,by unfold za5;omega⟩,za9 rfl e1,f1,zam,zaq (by unfold za5;omega),za9 rfl e2,libclone_w (by omega),zam,zaq (by unfold za5;omega)]
   ·simp only
    rcases ya9 j i with h|h
    ·obtain⟨⟨r',w1,w2⟩,w3⟩:=q4 j z h hz
     exact⟨⟨r',by rw[ya5 (by omega),w1],w2⟩,by rw[ya5 (by omega),w3]⟩
    ·have:j=i:=by simp only at hj;omega
     subst this
     rw[hx]at hz
     injection hz with hz
     subst hz
     refine⟨⟨r,?_,f2,f3⟩,?_⟩
     ·rw[ybo (by omega),q2,ycn]
      rfl
     ·rw[ybo (by omega),q3,ycn,e2]
      rfl
  ·right
   have:i=L.length:=by omega
   subst this
   exact⟨_,by rw[zkA (by rw[zhp,zkK];omega),zkC],P,Q,rfl,q2,q3,λj x hx=>q4 j x (zkI.1 hx).1 hx⟩) fuel ([],[],0) ⟨yaf _,rfl,rfl,λi x h=>absurd h (ybg _)⟩ (by have:=zay;simp only;omega)
 rw[hr,zam];have b5:0<L.length:=(zkI.1 hE.first).1
 have a8:∀i x a,L[i]?=some x->a<m.Inputs.toNat->∃(j:Nat) (y:Nat×yab),L[j]?=some y/\y.1=nx m x.1 a/\nx (⟨m.Inputs,0,P,Q⟩:zab) i a=j/\ot (⟨m.Inputs,0,P,Q⟩:zab) i a=ot m x.1 a:=λi x a hx ha=>by
  obtain⟨⟨r,w1,w2,w3⟩,w4⟩:=p3 i x hx;obtain⟨j,y,z1,z2,z3⟩:=w3 a ha;refine⟨j,y,z1,z2,?_,?_⟩
  ·unfold nx;simp only;rw[w1,yaj,z3,yaj,yah]
  ·unfold ot;simp only;rw[w4]
 refine⟨⟨m.Inputs,0,P,Q⟩,L,rfl,hE,rfl,rfl,⟨a9,hI,by simp only;omega,by simp only;omega,⟨yc0 0,by simp only;omega⟩,by simp only;omega,λi hi=>?_⟩,⟨p1,λi x a hx ha=>?_⟩⟩
 ·simp only at hi ⊢;have hx:=get_at (l:=L) (i:=i) (by omega);obtain⟨⟨r,w1,w2,w3⟩,w4⟩:=p3 i _ hx;obtain⟨row,out,e1,e2,e3,e4,e5,e6⟩:=H.row L[i].1 (a2 _ (zkH hx)).1;refine⟨r,out,w1,by rw[w4,e2],by omega,e4,λu hu=>?_,e6⟩;obtain⟨a,ha,rfl⟩:=yci.1 hu;obtain⟨j,y,z1,z2,z3⟩:=w3 a (by omega);rw[get_at ha]at z3;injection z3 with z3
  have:=(zkI.1 z1).1;omega
 ·obtain⟨j,y,z1,z2,z3,z4⟩:=a8 i x a hx ha;exact⟨y,by rw[z3];exact z1,z2,z4⟩
def trim_outs{t:zab}{L:List (Nat×yab)}(T:TrimOk m t L):∀(w:yab) (i:Nat) (x:Nat×yab),L[i]?=some x->WOk m.Inputs w->outs t i w=outs m x.1 w
 |[],_,_,_,_=>rfl
 |z::w,i,x,hx,hw=>by
  have hz:=hw.head;obtain⟨y,h1,h2,h3⟩:=T.shape.row i x z.toNat hx (by rw[T.inp];omega);have:=trim_outs T w _ y h1 hw.tail;show ot t i z.toNat::outs t (nx t i z.toNat) w=ot m x.1 z.toNat::outs m (nx m x.1 z.toNat) w;rw[h3,this,h2]
end
end
section
section
variable {κ ν:Type}[BEq κ]
def mset_new{k:κ}{v:ν}:∀{m:List (κ×ν)},mget k m=none->mset k v m=m++[(k,v)]
 |[],_=>rfl
 |p::m,h=>by
  unfold mget at h;unfold mset;cases e:k==p.1 with
  |true=>rw[e]at h;cases h
  |false =>
   rw[e]at h;show p::mset k v m=_;rw[mset_new h];rfl
end
def li_beq(a b:yab):(a==b)=true↔a=b:=beq_iff_eq
section
variable {m:zab}{c:yab}
def sigV(m:zab)(c:yab)(s a p:Nat):Int:=if p<a then ot m s p else if 64<=p/\p-64<a then(c[nx m s (p-64)]?).getD 0 else 0
def sigA(m:zab)(c:yab)(s:Nat):yab:=(List.range 128).map (sigV m c s m.Inputs.toNat)
def sigA_at(s:Nat){p:Nat}(hp:p<128):(sigA m c s)[p]?=some (sigV m c s m.Inputs.toNat p):=by
 unfold sigA;rw[yae,yba hp];rfl
def sigA_len(s:Nat):(sigA m c s).length=128:=by simp[sigA]
def sigV_lo{s a K:Nat}(h:a<K):sigV m c s K a=ot m s a:=if_pos h
def sigV_hi{s a K:Nat}(h:a<K)(hK:K<=64):sigV m c s K (64+a)=(c[nx m s a]?).getD 0:=by
 unfold sigV;have h1:¬64+a<K:=by omega
 have h2:64<=64+a/\64+a-64<K:=by omega
 have h3:64+a-64=a:=by omega
 rw[if_neg h1,if_pos h2,h3]
def sigA_eq(hI:m.Inputs<=64){s t:Nat}:sigA m c s=sigA m c t↔∀a,a<m.Inputs.toNat->ot m s a=ot m t a/\(c[nx m s a]?).getD 0=(c[nx m t a]?).getD 0:=by
 constructor
 ·intro h a ha;have h1:=sigA_at (m:=m) (c:=c) s (p:=a) (by omega);rw[h,sigA_at t (by omega)]at h1;injection h1 with h1
  rw[sigV_lo ha,sigV_lo ha]at h1;have h2:=sigA_at (m:=m) (c:=c) s (p:=64+a) (by omega);rw[h,sigA_at t (by omega)]at h2;injection h2 with h2
  rw[sigV_hi ha (by omega),sigV_hi ha (by omega)]at h2;exact⟨h1.symm,h2.symm⟩
 ·intro h;unfold sigA;refine yda λp _=>?_;unfold sigV;by_cases h1:p<m.Inputs.toNat
  ·rw[if_pos h1,if_pos h1,(h p h1).1]
  ·rw[if_neg h1,if_neg h1];by_cases h2:64<=p/\p-64<m.Inputs.toNat
   ·rw[if_pos h2,if_pos h2,(h _ h2.2).2]
   ·rw[if_neg h2,if_neg h2]
def sig_loop(H:zdv m)(hc:c.length=m.Next.length){s:Nat}(hs:s<m.Next.length):iter (λ(q:yab×Nat)=>zbi.s18 m c s q.1 q.2) fuel (List.replicate 128 0,0)=some (sigA m c s):=by
 have hI:=H.i2;refine zek (λq=>q.2<=m.Inputs.toNat/\q.1=(List.range 128).map (sigV m c s q.2)) (λq=>m.Inputs.toNat-q.2) (λq hq=>?_) ⟨yaf _,?_⟩ (by have:=zay;simp only;omega)
 ·obtain⟨y,a⟩:=q;obtain⟨q1,q2⟩:=hq;simp only at q1 q2;rw[q2];simp only[zbi.s18];by_cases g:a<m.Inputs.toNat
  ·left;obtain⟨h1,_,_,x,o,e1,e2,e3,e4⟩:=H.at hs g;have a0:=get_at (l:=c) (i:=nx m s a) (by omega)
   have hr:∀p,p<128->((List.range 128).map (sigV m c s a))[p]?=some (sigV m c s a p):=λp hp=>by
    rw[yae,yba hp];rfl
   refine⟨((List.range 128).map (sigV m c s (a+1)),a+1),?_,⟨g,rfl⟩,by simp only;omega⟩;rw[zkB (by omega),zkD,zah e2,zah e4,zaq (by omega),zah (hr a (by omega)),zaq (by unfold inR;omega),zah e1,zah e3,za9 rfl a0,zaq (by omega),zah (x:=sigV m c s a (64+a)) (by rw[ya3 (by omega),hr _ (by omega)]),zaq (by unfold inR;omega)];congr 4;refine yca λp=>?_;rcases ya9 p 128 with hp|hp
   ·rw[yae (f:=sigV m c s (a+1)),yba hp,yap];by_cases p1:64+a=p
    ·subst p1;rw[ya2 (by simp;omega)];congr 1;unfold sigV;rw[if_neg (by omega),if_pos (by omega),show 64+a-64=a by omega,a0,yaj]
    ·rw[ya3 p1];by_cases p2:a=p
     ·subst p2;rw[ya2 (by simp;omega)];congr 1;unfold sigV;rw[if_pos (by omega)]
     ·rw[ya3 p2,hr p hp];congr 1;unfold sigV;by_cases p3:p<a
      ·rw[if_pos p3,if_pos (by omega)]
      ·have p5:¬p<a+1:=by omega
       rw[if_neg p3,if_neg p5];by_cases p4:64<=p/\p-64<a
       ·have p6:64<=p/\p-64<a+1:=by omega
        rw[if_pos p4,if_pos p6]
       ·have p6:¬(64<=p/\p-64<a+1):=by omega
        rw[if_neg p4,if_neg p6]
   ·rw[yat (by simp;omega),yat (by simp;omega)]
  ·right;have:a=m.Inputs.toNat:=by omega
   subst this;rw[zkA (by omega),zkC];rfl
 ·simp only;refine yca λp=>?_;rcases ya9 p 128 with hp|hp
  ·rw[ybi,if_pos hp,yae,yba hp,yap];unfold sigV;rw[if_neg (by omega),if_neg (by omega)]
  ·rw[yat (by simp;omega),yat (by simp;omega)]
def FirstOcc(o:yab):Prop:=∀(s x:Nat),o[s]?=some (x:Int)->∀u:Nat,u<x->∃s',s'<s/\o[s']?=some (u:Int)
structure ClsF(m:zab)(k:Nat)(c:yab):Prop where
 cls:ClsOk m k c
 first:FirstOcc c
def E_of_next(H:zdv m):∀{k s t:Nat},s<m.Next.length->t<m.Next.length->(∀a,a<m.Inputs.toNat->ot m s a=ot m t a/\E m k (nx m s a) (nx m t a))->E m (k+1) s t
 |0,_,_,_,_,h=>⟨trivial,h⟩
 |_+1,_,_,hs,ht,h=>⟨E_of_next H hs ht λa ha=>⟨(h a ha).1,(h a ha).2.1⟩,h⟩
def sig_iff(H:zdv m){k:Nat}(C:ClsOk m k c){s t:Nat}(hs:s<m.Next.length)(ht:t<m.Next.length):sigA m c s=sigA m c t↔E m (k+1) s t:=by
 rw[sigA_eq H.i2]
 have hq:∀a,a<m.Inputs.toNat->((c[nx m s a]?).getD 0=(c[nx m t a]?).getD 0↔E m k (nx m s a) (nx m t a)):=λa ha=>by
  have h1:=(H.at hs ha).1;have h2:=(H.at ht ha).1;rw[<- C.cls _ _ h1 h2];obtain⟨x,x1,_⟩:=C.rng _ h1;obtain⟨y,y1,_⟩:=C.rng _ h2;rw[x1,y1,yaj,yaj];exact⟨λh=>by rw[h],λh=>by injection h⟩
 constructor
 ·exact λh=>E_of_next H hs ht λa ha=>⟨(h a ha).1,(hq a ha).1 (h a ha).2⟩
 ·exact λh a ha=>⟨(h.2 a ha).1,(hq a ha).2 (h.2 a ha).2⟩
structure Giv(m:zab)(c:yab)(mp:List (yab×Int))(o:yab)(s:Nat):Prop where
 len:o.length=m.Next.length
 keys:∀p∈mp,p.1.length=128
 le:mp.length<=s
 get:∀s',s'<s->∃x:Nat,x<mp.length/\o[s']?=some (x:Int)/\mget (sigA m c s') mp=some (x:Int)
 org:∀k v,mget k mp=some v->∃s',s'<s/\sigA m c s'=k
 inj:∀s' s'',s'<s->s''<s->o[s']?=o[s'']?->sigA m c s'=sigA m c s''
 first:∀(s' x:Nat),s'<s->o[s']?=some (x:Int)->∀u:Nat,u<x->∃s'',s''<s'/\o[s'']?=some (u:Int)
 all:∀u:Nat,u<mp.length->∃s',s'<s/\o[s']?=some (u:Int)
open Classical in
def zpk(H:zdv m){k:Nat}(C:ClsOk m k c):∃(c':yab) (n:Nat),zbi m c=some (c',(n:Int))/\ClsF m (k+1) c'/\n=nreps m (k+1):=by
 have hn:=H.n2;have hc:=C.len;unfold zbi;rw[zaq ⟨by omega,by omega,by unfold za5;omega⟩]
 obtain⟨r,hr,mp,o,rfl,G,b0⟩:=za1 (step:=λ(s:(List (yab×Int))×yab×Nat)=>zbi.s20 m c s.1 s.2.1 s.2.2) (λs=>s.2.2<=m.Next.length/\Giv m c s.1 s.2.1 s.2.2/\s.1.length=(List.range s.2.2).countP λs=>decide (Rep m (k+1) s)) (λs=>m.Next.length-s.2.2) (λr=>∃mp o,r=(mp,o)/\Giv m c mp o m.Next.length/\mp.length=nreps m (k+1)) (λs ⟨q1,G,q3⟩=>by
  obtain⟨mp,o,s⟩:=s
  simp only at q1 G q3
  simp only[zbi.s20]
  by_cases g:s<m.Next.length
  ·left
   have a4:=sigA_len (m:=m) (c:=c) s
   have b3:=G.le
   have ho:=get_at (l:=o) (i:=s) (by rw[G.len];exact g)
   rw[zkB (by omega),zkD,sig_loop H hc g,zam,zaq a4,zaq ⟨a4,G.keys⟩]
   have a8:(mget (sigA m c s) mp=none)↔Rep m (k+1) s:=by
    constructor
    ·intro h t ht hE
     obtain⟨x,_,_,x3⟩:=G.get t ht
     rw[<- (sig_iff H C g (by omega)).2 hE,h]at x3
     cases x3
    ·intro h
     cases e:mget (sigA m c s) mp with
     |none=>rfl
     |some v =>
      obtain⟨s',h1,h2⟩:=G.org _ _ e
      exact absurd ((sig_iff H C g (by omega)).1 h2.symm) (h s' h1)
   have a5:(List.range (s+1)).countP (λs=>decide (Rep m (k+1) s))=(List.range s).countP (λs=>decide (Rep m (k+1) s))+if Rep m (k+1) s then 1 else 0:=by
    rw[ycs,yee]
    congr 1
    by_cases h:Rep m (k+1) s
    ·rw[if_pos h,ydj,zkB h]
     rfl
    ·rw[if_neg h,ydj,zkA h]
     rfl
   have a0:∀{s':Nat} {v:Int},s'<s->(o.set s v)[s']?=o[s']?:=λh=>ya3 (by omega)
   have a3:∀{v:Int},(o.set s v)[s]?=some v:=ya2 (by rw[G.len];exact g)
   cases e:mget (sigA m c s) mp with
   |none =>
    have hR:=a8.1 e
    have a6:mset (sigA m c s) (mp.length:Int) mp=mp++[(sigA m c s,(mp.length:Int))]:=mset_new e
    refine⟨(mset (sigA m c s) (mp.length:Int) mp,o.set s (mp.length:Int),s+1),?_,⟨g,?_,?_⟩,by simp only;omega⟩
    ·rw[yed,ydq,zkD,zaq a4,zaq ⟨a4,G.keys⟩,zam]
     simp only[zbi.k19]
     rw[zah ho]
    ·simp only
     refine⟨by simp[G.len],?_,by rw[a6];simp;omega,?_,?_,?_,?_,?_⟩
     ·intro p hp
      rw[a6]at hp
      rcases yam.1 hp with h|h
      ·exact G.keys p h
      ·have:p=(sigA m c s,(mp.length:Int)):=by simpa using h
       rw[this]
       exact a4
     ·intro s' b2
      by_cases h:s'<s
      ·obtain⟨x,x1,x2,x3⟩:=G.get s' h
       refine⟨x,by rw[a6];simp;omega,by rw[a0 h,x2],?_⟩
       rw[zga li_beq (λq=>?_),x3]
       rw[q,e]at x3
       cases x3
      ·have:s'=s:=by omega
       subst this
       exact⟨mp.length,by rw[a6];simp,a3,zg2 li_beq mp⟩
     ·intro kk v hv
      by_cases h:kk=sigA m c s
      ·exact⟨s,by omega,h.symm⟩
      ·rw[zga li_beq h]at hv
       obtain⟨s',h1,h2⟩:=G.org _ _ hv
       exact⟨s',by omega,h2⟩
     ·have a7:∀s',s'<s->o[s']?≠some (mp.length:Int):=λs' h q=>by
       obtain⟨x,x1,x2,_⟩:=G.get s' h
       rw[x2]at q
       injection q with q
       omega
      intro s' s'' h1 h2 h3
      by_cases a1:s'<s<;>by_cases a2:s''<s
      ·rw[a0 a1,a0 a2]at h3
       exact G.inj _ _ a1 a2 h3
      ·have:s''=s:=by omega
       subst this
       rw[a0 a1,a3]at h3
       exact absurd h3 (a7 s' a1)
      ·have:s'=s:=by omega
       subst this
       rw[a0 a2,a3]at h3
       exact absurd h3.symm (a7 s'' a2)
      ·have:s'=s'':=by omega
       rw[this]
     ·intro s' x h1 h2 u hu
      by_cases a1:s'<s
      ·rw[a0 a1]at h2
       obtain⟨s'',z1,z2⟩:=G.first s' x a1 h2 u hu
       exact⟨s'',z1,by rw[a0 (by omega),z2]⟩
      ·have:s'=s:=by omega
       subst this
       rw[a3]at h2
       injection h2 with h2
       obtain⟨s'',z1,z2⟩:=G.all u (by omega)
       exact⟨s'',z1,by rw[a0 z1,z2]⟩
     ·intro u hu
      rw[a6]at hu
      simp at hu
      rcases ya9 u mp.length with h|h
      ·obtain⟨s',z1,z2⟩:=G.all u h
       exact⟨s',by omega,by rw[a0 z1,z2]⟩
      ·have:u=mp.length:=by omega
       subst this
       exact⟨s,by omega,a3⟩
    ·simp only
     rw[a5,if_pos hR,a6,<- q3]
     simp
   |some v =>
    have hR:¬Rep m (k+1) s:=λq=>by
     rw[a8.2 q]at e
     cases e
    obtain⟨t,ht,a9⟩:=G.org _ _ e
    obtain⟨x,x1,x2,x3⟩:=G.get t ht
    have hv:v=(x:Int):=by
     rw[a9,e]at x3
     injection x3
    refine⟨(mp,o.set s v,s+1),?_,⟨g,?_,?_⟩,by simp only;omega⟩
    ·rw[ye4,yck,zkC,yaj,zam]
     simp only[zbi.k19]
     rw[zah ho]
    ·simp only
     refine⟨by simp[G.len],G.keys,by omega,?_,?_,?_,?_,?_⟩
     ·intro s' b2
      by_cases h:s'<s
      ·obtain⟨x,y1,y2,y3⟩:=G.get s' h
       exact⟨x,y1,by rw[a0 h,y2],y3⟩
      ·have:s'=s:=by omega
       subst this
       exact⟨x,x1,by rw[a3,hv],by rw[e,hv]⟩
     ·intro kk v hv
      obtain⟨s',h1,h2⟩:=G.org _ _ hv
      exact⟨s',by omega,h2⟩
     ·intro s' s'' h1 h2 h3
      by_cases a1:s'<s<;>by_cases a2:s''<s
      ·rw[a0 a1,a0 a2]at h3
       exact G.inj _ _ a1 a2 h3
      ·have:s''=s:=by omega
       subst this
       rw[a0 a1,a3,hv,<- x2]at h3
       rw[<- a9]
       exact G.inj _ _ a1 ht h3
      ·have:s'=s:=by omega
       subst this
       rw[a0 a2,a3,hv,<- x2]at h3
       rw[<- a9]
       exact G.inj _ _ ht a2 h3
      ·have:s'=s'':=by omega
       rw[this]
     ·intro s' y h1 h2 u hu
      by_cases a1:s'<s
      ·rw[a0 a1]at h2
       obtain⟨s'',z1,z2⟩:=G.first s' y a1 h2 u hu
       exact⟨s'',z1,by rw[a0 (by omega),z2]⟩
      ·have:s'=s:=by omega
       subst this
       rw[a3]at h2
       injection h2 with h2
       obtain⟨s'',z1,z2⟩:=G.first t x ht x2 u (by omega)
       exact⟨s'',by omega,by rw[a0 (by omega),z2]⟩
     ·intro u hu
      obtain⟨s',z1,z2⟩:=G.all u hu
      exact⟨s',by omega,by rw[a0 z1,z2]⟩
    ·simp only
     rw[a5,if_neg hR,<- q3,ybz]
  ·right
   have:s=m.Next.length:=by omega
   subst this
   exact⟨_,by rw[zkA (by omega),zkC],mp,o,rfl,G,q3⟩) fuel ([],List.replicate c.length 0,0) ⟨yaf _,⟨by simp[hc],λp hp=>(by cases hp),yaq _,λs' h=>absurd h (ybg _),λk v h=>(by cases h),λs' _ h=>absurd h (ybg _),λs' _ h=>absurd h (ybg _),λu h=>absurd h (ybg _)⟩,rfl⟩ (by have:=zay;simp only;omega)
 refine⟨o,mp.length,by rw[hr,zam];rfl,⟨⟨G.len,λs hs=>?_,λs t hs ht=>?_⟩,λs x hx=>G.first s x (by rw[<- G.len];exact(zkI.1 hx).1) hx⟩,b0⟩
 ·obtain⟨x,x1,x2,_⟩:=G.get s hs;have:=G.le;exact⟨x,x2,by omega⟩
 ·rw[<- sig_iff H C hs ht];constructor
  ·exact G.inj s t hs ht
  ·intro h;obtain⟨x,_,x2,x3⟩:=G.get s hs;obtain⟨y,_,y2,y3⟩:=G.get t ht;rw[h,y3]at x3;rw[x2,y2,x3]
open Classical in
def zmw(H:zdv m):∃c i,zcl m 128=some (c,i)/\ClsF m m.Next.length c:=by
 have hn:=H.n2;have a2:=H.n1;have a0:(min (max (128:Int) 0) (m.Next.length:Int))=(m.Next.length:Int):=by omega
 unfold zcl;rw[zaq ⟨by omega,by omega,by unfold za5;omega⟩]
 obtain⟨r,hr,hq⟩:=za1 (step:=λ(s:yab×Int×Nat)=>zcl.s2 m 128 s.1 s.2.1 s.2.2) (λs=>s.2.2<=m.Next.length/\ClsF m s.2.2 s.1/\s.2.1=(↑(nreps m s.2.2):Int)) (λs=>m.Next.length-s.2.2) (λr=>(∃c,r=.inl c/\ClsF m m.Next.length c)\/∃c i,r=.inr (c,i)/\ClsF m m.Next.length c) (λs ⟨q1,q2,q3⟩=>by
  obtain⟨c,n,i⟩:=s
  simp only at q1 q2 q3
  simp only[zcl.s2]
  rw[a0]
  by_cases g:i<m.Next.length
  ·obtain⟨c',n',h1,h2,h3⟩:=zpk H q2.cls
   rw[zkB (by omega),zkD,h1,zam]
   by_cases e:n'=nreps m i
   ·right
    rw[zkB (by simp only;omega),zkD]
    refine⟨_,rfl,Or.inr ⟨c,_,rfl,⟨⟨q2.cls.len,q2.cls.rng,λs t hs ht=>?_⟩,q2.first⟩⟩⟩
    rw[q2.cls.cls s t hs ht]
    have hS:Stab m i:=stab_of (by omega)
    constructor
    ·intro h
     have key:∀j,E m (i+j) s t:=by
      intro j
      induction j with
      |zero=>exact h
      |succ j ih=>exact stab_add H hS j s t hs ht ih
     have:=key (m.Next.length-i)
     rwa [show i+(m.Next.length-i)=m.Next.length by omega]at this
    ·exact E_mono (by omega)
   ·left
    exact⟨(c',(n':Int),i+1),by rw[zkA (by simp only;omega),zkC],⟨g,h2,by simp only;rw[h3]⟩,by simp only;omega⟩
  ·right
   have:i=m.Next.length:=by omega
   subst this
   exact⟨_,by rw[zkA (by omega),zkC],Or.inl ⟨c,rfl,q2⟩⟩) fuel (List.replicate m.Next.length 0,1,0) ⟨yaf _,⟨⟨by simp,λs hs=>⟨0,by simp[hs],a2⟩,λs t hs ht=>⟨λ_=>trivial,λ_=>by simp[hs,ht]⟩⟩,λs x hx u hu=>by
    have:=(zkI.1 hx).2
    simp at this
    omega⟩,by
    simp only
    have:nreps m 0=1:=by
     unfold nreps
     have h0:∀n,0<n->(List.range n).countP (λs=>decide (Rep m 0 s))=1:=by
      intro n
      induction n with
      |zero=>intro h;omega
      |succ n ih =>
       intro _
       rw[ycs,yee,ydj]
       by_cases hz:n=0
       ·subst hz
        rw[zkB (show Rep m 0 0 from λt ht=>absurd ht (ybg _))]
        rfl
       ·rw[ih (by omega),zkA (show ¬Rep m 0 n from λq=>q 0 (by omega) trivial)]
        rfl
     exact h0 _ a2
    rw[this]
    rfl⟩ (by have:=zay;simp only;omega)
 rw[hr,zam];rcases hq with⟨c,rfl,h⟩|⟨c,i,rfl,h⟩
 ·exact⟨c,_,rfl,h⟩
 ·exact⟨c,i,rfl,h⟩
def zmj(hv:zg9 m=0):∃c,zey m=some (c,0)/\ClsF m m.Next.length c:=by
 obtain⟨c,i,h1,h2⟩:=zmw (zlj hv);refine⟨c,?_,h2⟩;unfold zey ze7;rw[zem,zam,hv,zkA (by decide),zkC,h1,zam,zam]
end
end
section
section
variable {m t:zab}{c:yab}
def zk4(c:yab)(s u:Nat):Prop:=c[s]?=some (u:Int)/\∀s',s'<s->c[s']?≠some (u:Int)
def first_lt(F:FirstOcc c){s u i v:Nat}(hs:zk4 c s u)(hi:i<s)(hv:c[i]?=some (v:Int)):v<u:=by
 rcases ydn v u with h|h|h
 ·exact h
 ·rw[h]at hv;exact absurd hv (hs.2 i hi)
 ·obtain⟨s',h1,h2⟩:=F i v hv u h;exact absurd h2 (hs.2 s' (by omega))
def first_le(F:FirstOcc c){s u i v:Nat}(hs:zk4 c s u)(hv:c[i]?=some (v:Int))(hu:u<=v):s<=i:=by
 rcases ya9 i s with h|h
 ·have:=first_lt F hs h hv;omega
 ·exact h
structure Quo(t M:zab)(c:yab):Prop where
 inp:M.Inputs=t.Inputs
 start:M.Start=0
 len:M.Out.length=M.Next.length
 ub:∀s,s<t.Next.length->∃x:Nat,c[s]?=some (x:Int)/\x<M.Next.length
 row:∀u,u<M.Next.length->∃s r o,s<t.Next.length/\zk4 c s u/\M.Next[u]?=some r/\M.Out[u]?=some o/\r.length=t.Inputs.toNat/\(∀a,a<t.Inputs.toNat->r[a]?=c[nx t s a]?)/\t.Out[s]?=some o
 le:M.Next.length<=t.Next.length
variable {M:zab}
def zp7(H:zdv t)(Q:Quo t M c){u:Nat}(hu:u<M.Next.length):∃s,s<t.Next.length/\zk4 c s u/\∀a,a<t.Inputs.toNat->c[nx t s a]?=some (↑(nx M u a):Int)/\ot M u a=ot t s a:=by
 obtain⟨s,r,o,h1,h2,h3,h4,h5,h6,h7⟩:=Q.row u hu;refine⟨s,h1,h2,λa ha=>?_⟩;obtain⟨x,x1,_⟩:=Q.ub _ (H.at h1 ha).1;have hr:=h6 a ha;rw[x1]at hr;refine⟨?_,?_⟩
 ·rw[x1];unfold nx;rw[h3,yaj,hr,yaj,yah]
 ·unfold ot;rw[h4,h7]
def quo_step(H:zdv t)(C:ClsF t t.Next.length c){s s' a:Nat}(hs:s<t.Next.length)(hs':s'<t.Next.length)(h:c[s]?=c[s']?)(ha:a<t.Inputs.toNat):ot t s a=ot t s' a/\c[nx t s a]?=c[nx t s' a]?:=by
 have h1:=E_all H hs hs' ((C.cls.cls s s' hs hs').1 h) (t.Next.length+1);exact⟨(h1.2 a ha).1,(C.cls.cls _ _ (H.at hs ha).1 (H.at hs' ha).1).2 (h1.2 a ha).2⟩
def zp1(H:zdv t)(C:ClsF t t.Next.length c)(Q:Quo t M c):∀(w:yab) (s u:Nat),s<t.Next.length->c[s]?=some (u:Int)->WOk t.Inputs w->outs M u w=outs t s w
 |[],_,_,_,_,_=>rfl
 |z::w,s,u,hs,hu,hw=>by
  have hz:=hw.head;have ha:z.toNat<t.Inputs.toNat:=by omega
  obtain⟨x,x1,x2⟩:=Q.ub s hs
  have a0:u<M.Next.length:=by
   rw[hu]at x1;injection x1 with x1
   omega
  obtain⟨s',h1,h2,h3⟩:=zp7 H Q a0;obtain⟨e1,e2⟩:=quo_step H C hs h1 (hu.trans h2.1.symm) ha;have h4:=h3 _ ha;have:=zp1 H C Q w (nx t s z.toNat) (nx M u z.toNat) (H.at hs ha).1 (by rw[e2,h4.1]) hw.tail;show ot M u z.toNat::outs M (nx M u z.toNat) w=ot t s z.toNat::outs t (nx t s z.toNat) w;rw[this,h4.2,e1]
def quo_ok(H:zdv t)(Q:Quo t M c):zdv M:=by
 have hn:=H.n1;have a3:=H.n2;obtain⟨x,_,x2⟩:=Q.ub 0 hn;have a0:=Q.le;refine⟨by rw[Q.inp];exact H.i1,by rw[Q.inp];exact H.i2,by omega,by omega,by rw[Q.start];omega,Q.len,λu hu=>?_⟩;have a2:=H.i1;obtain⟨s,r,o,h1,h2,h3,h4,h5,h6,h7⟩:=Q.row u hu;obtain⟨x',y',e1,e2,e3,e4,e5,e6⟩:=H.row s h1;rw[h7]at e2;injection e2 with e2
 subst e2;refine⟨r,o,h3,h4,by rw[Q.inp];omega,by rw[Q.inp];exact e4,λv hv=>?_,e6⟩;obtain⟨a,ha,rfl⟩:=yci.1 hv;obtain⟨z,z1,z2⟩:=Q.ub _ (H.at h1 (a:=a) (by omega)).1;have hr:=h6 a (by omega);rw[get_at ha,z1]at hr;injection hr with hr
 omega
def quo_can(H:zdv t)(C:ClsF t t.Next.length c)(Q:Quo t M c)(K:Can t):Can M:=by
 have a7:∀s,zk4 c s 0->s=0:=λs hs=>by
  obtain⟨x,x1,_⟩:=Q.ub 0 H.n1;have:=first_le C.first hs x1 (yaf _);omega
 have a2:∀s u,zk4 c s u->0<u->0<s:=λs u hs hu=>by
  rcases ycb s with h|h
  ·subst h;obtain⟨s',h1,_⟩:=C.first 0 u hs.1 0 hu;omega
  ·exact h
 have a0:∀{i a s u:Nat},i<s->i<t.Next.length->a<t.Inputs.toNat->zk4 c s u->nx t i a=s->∃v:Nat,c[i]?=some (v:Int)/\v<u/\nx M v a=u:=λ{i a s u} h1 h2 h3 h4 h5=>by
  obtain⟨v,v1,v2⟩:=Q.ub i h2;refine⟨v,v1,first_lt C.first h4 h1 v1,?_⟩;obtain⟨s',g1,g2,g3⟩:=zp7 H Q v2;have e:=(quo_step H C h2 g1 (v1.trans g2.1.symm) h3).2;have g4:=(g3 a h3).1;rw[<- e,h5,h4.1]at g4;injection g4 with g4
  omega
 refine⟨λi a u hi ha hu a5=>?_,λu hu a6=>?_⟩
 ·rw[Q.inp]at ha ⊢;obtain⟨s,h1,h2,h3⟩:=zp7 H Q hi;have hD:=(h3 a ha).1;have a9:=(H.at h1 ha).1
  have a3:u<M.Next.length:=by
   have:=(quo_ok H Q).at hi (a:=a) (by rw[Q.inp];exact ha);omega
  obtain⟨su,g1,g2,g3⟩:=zp7 H Q a3;have a4:=first_le C.first g2 hD a5;obtain⟨i',a',z1,z2,z3,z4⟩:=K.c4 s a su h1 ha (a2 su u g2 hu) a4;obtain⟨v,v1,v2,v3⟩:=a0 z3 (by omega) z1 g2 z4;refine⟨v,a',z1,?_,v2,v3⟩
  have a8:i'<=s:=by
   rcases ya9 s i' with q|q
   ·have:=zkp q ha;omega
   ·exact q
  rcases ya9 i' s with q|q
  ·have:=first_lt C.first h2 q v1;have:=zkp this z1;omega
  ·have e:i'=s:=by omega
   subst e;have hv:=h2.1;rw[v1]at hv;injection hv with hv
   have:v=i:=by omega
   subst this;omega
 ·rw[Q.inp];obtain⟨su,g1,g2,g3⟩:=zp7 H Q a6;obtain⟨i,a,z1,z2,z3⟩:=K.c5 su (a2 su u g2 hu) g1;obtain⟨v,v1,v2,v3⟩:=a0 z1 (by omega) z2 g2 z3;exact⟨v,a,v2,z2,v3⟩
def quo_min(H:zdv t)(C:ClsF t t.Next.length c)(Q:Quo t M c){i j:Nat}(hi:i<M.Next.length)(hj:j<M.Next.length)(h:Eqv M i M j):i=j:=by
 obtain⟨s,h1,h2,_⟩:=zp7 H Q hi;obtain⟨s',g1,g2,_⟩:=zp7 H Q hj
 have he:E t t.Next.length s s':=znv λw _ hw=>by
  rw[<- zp1 H C Q w s i h1 h2.1 hw,<- zp1 H C Q w s' j g1 g2.1 hw];exact h w (by rw[Q.inp];exact hw)
 have:=(C.cls.cls s s' h1 g1).2 he;rw[h2.1,g2.1]at this;injection this with this
 omega
def quo_sem{L:List (Nat×yab)}(T:TrimOk m t L)(C:ClsF t t.Next.length c)(Q:Quo t M c):MinSem m M:=by
 have H:=T.ok;have hK:0<t.Inputs.toNat:=by have:=H.i1;omega
 have hE:zg5 (nx m) t.Inputs.toNat m.Start.toNat L:=by rw[T.inp];exact T.end_
 have a2:=shape_can hE T.shape hK
 have h0:c[0]?=some (↑(0:Nat):Int):=by
  obtain⟨x,x1,_⟩:=Q.ub 0 H.n1;rcases ycb x with h|h
  ·rw[x1,h]
  ·obtain⟨s',h1,_⟩:=C.first 0 x x1 0 h;omega
 refine⟨quo_ok H Q,Q.inp.trans T.inp,Q.start,λw hw=>?_,λi j hi hj h=>quo_min H C Q hi hj h,quo_can H C Q a2⟩;have a0:WOk t.Inputs w:=by rw[<- Q.inp];exact hw
 rw[zp1 H C Q w 0 0 H.n1 h0 a0,trim_outs T w 0 _ T.end_.first (by rw[<- T.inp];exact a0)]
def min_loop(H:zdv t)(C:ClsF t t.Next.length c)(e e2:Int):∃P R,iter (λ(s:yaa×yaa×Nat)=>zbv.s32 (t,e) (c,e2) s.1 s.2.1 s.2.2) fuel ([],[],0)=some (P,R)/\Quo t (⟨t.Inputs,0,P,R⟩:zab) c:=by
 have hn:=H.n2;have a8:=H.n1;have hI:=H.i2;have a7:=H.i1;have hc:=C.cls.len
 obtain⟨r,hr,P,R,rfl,hQ⟩:=za1 (step:=λ(s:yaa×yaa×Nat)=>zbv.s32 (t,e) (c,e2) s.1 s.2.1 s.2.2) (λs=>s.2.2<=t.Next.length/\s.2.1.length=s.1.length/\s.1.length<=s.2.2/\(∀s',s'<s.2.2->∃x:Nat,c[s']?=some (x:Int)/\x<s.1.length)/\∀u,u<s.1.length->∃s' r o,s'<s.2.2/\zk4 c s' u/\s.1[u]?=some r/\s.2.1[u]?=some o/\r.length=t.Inputs.toNat/\(∀a,a<t.Inputs.toNat->r[a]?=c[nx t s' a]?)/\t.Out[s']?=some o) (λs=>t.Next.length-s.2.2) (λr=>∃P R,r=(P,R)/\Quo t (⟨t.Inputs,0,P,R⟩:zab) c) (λs ⟨q1,q2,q3,q4,q5⟩=>by
  obtain⟨P,R,s⟩:=s
  simp only at q1 q2 q3 q4 q5
  simp only[zbv.s32]
  by_cases g:s<t.Next.length
  ·left
   obtain⟨x,x1,x2⟩:=C.cls.rng s g
   rw[zkB (by omega),zkD,zah x1]
   by_cases hx:x<P.length
   ·refine⟨(P,R,s+1),?_,⟨g,q2,by simp only;omega,λs' a0=>?_,λu hu=>?_⟩,by simp only;omega⟩
    ·rw[zkB (by omega),zkD,zam]
     rfl
    ·simp only at a0 ⊢
     rcases ya9 s' s with h|h
     ·exact q4 s' h
     ·have:s'=s:=by omega
      subst this
      exact⟨x,x1,hx⟩
    ·obtain⟨s',r,o,z1,z2⟩:=q5 u hu
     exact⟨s',r,o,by simp only;omega,z2⟩
   ·have a6:x=P.length:=by
     rcases ya9 P.length x with h|h
     ·obtain⟨s',h1,h2⟩:=C.first s x x1 P.length h
      obtain⟨y,y1,y2⟩:=q4 s' h1
      rw[h2]at y1
      injection y1 with y1
      omega
     ·omega
    subst a6
    obtain⟨row,out,e1,a2,e3,e4,e5,e6⟩:=H.row s g
    obtain⟨r,hr,a4,a5⟩:=za1 (step:=λ(q:yab×Nat)=>zbv.s30 (c,e2) row q.1 q.2) (λq=>q.2<=t.Inputs.toNat/\q.1.length=q.2/\∀a,a<q.2->q.1[a]?=c[nx t s a]?) (λq=>t.Inputs.toNat-q.2) (λr=>r.length=t.Inputs.toNat/\∀a,a<t.Inputs.toNat->r[a]?=c[nx t s a]?) (λq ⟨w1,w2,w3⟩=>by
     obtain⟨y,a⟩:=q
     simp only at w1 w2 w3
     simp only[zbv.s30]
     by_cases f:a<t.Inputs.toNat
     ·left
      obtain⟨h1,_,_,x',y',h2,_,h4,_⟩:=H.at g f
      rw[e1]at h2
      injection h2 with h2
      subst h2
      have a3:=get_at (l:=c) (i:=nx t s a) (by omega)
      refine⟨(y++[c[nx t s a]'(by omega)],a+1),?_,⟨f,by simp[w2],λb hb=>?_⟩,by simp only;omega⟩
      ·rw[zkB (by omega),zkD,zah h4,za9 rfl a3,zaq (by unfold za5;omega)]
      ·simp only at hb ⊢
       rcases ya9 b a with h|h
       ·rw[ya5 (by omega),w3 b h]
       ·have:b=a:=by omega
        subst this
        rw[ybo (by omega),w2,ycn,a3]
        rfl
     ·right
      have:a=t.Inputs.toNat:=by omega
      subst this
      exact⟨y,by rw[zkA (by omega),zkC],w2,w3⟩) fuel ([],0) ⟨yaf _,rfl,λa h=>absurd h (ybg _)⟩ (by have:=zay;simp only;omega)
    refine⟨(P++[r],R++[out],s+1),?_,⟨g,by simp[q2],by simp;omega,λs' a0=>?_,λu hu=>?_⟩,by simp only;omega⟩
    ·rw[zkA (by omega),zkC,zah e1,hr,zam,zaq (by unfold za5;omega),zah a2,zaq (by unfold za5;simp;omega),zaq (by unfold za5;omega),zam]
     rfl
    ·simp only at a0 ⊢
     rw[zkJ,ybc]
     rcases ya9 s' s with h|h
     ·obtain⟨y,y1,y2⟩:=q4 s' h
      exact⟨y,y1,by omega⟩
     ·have:s'=s:=by omega
      subst this
      exact⟨_,x1,by omega⟩
    ·simp only at hu ⊢
     rw[zkJ,ybc]at hu
     rcases ya9 u P.length with h|h
     ·obtain⟨s',r',o,z1,z2,z3,z4,z5⟩:=q5 u h
      exact⟨s',r',o,by omega,z2,by rw[ya5 h,z3],by rw[ya5 (by omega),z4],z5⟩
     ·have:u=P.length:=by omega
      subst this
      refine⟨s,r,out,by omega,⟨x1,λs' a0 q=>?_⟩,by simp,?_,a4,a5,a2⟩
      ·obtain⟨y,y1,y2⟩:=q4 s' a0
       rw[q]at y1
       injection y1 with y1
       omega
      ·rw[ybo (by omega),q2,ycn]
       rfl
  ·right
   have:s=t.Next.length:=by omega
   subst this
   exact⟨_,by rw[zkA (by omega),zkC],P,R,rfl,⟨rfl,rfl,q2,q4,q5,q3⟩⟩) fuel ([],[],0) ⟨yaf _,rfl,yaq _,λs' h=>absurd h (ybg _),λu h=>absurd h (ybg _)⟩ (by have:=zay;simp only;omega)
 exact⟨P,R,hr,hQ⟩
def zrb(H:zdv m):zg9 m=0:=by
 have:=zsh H;rw[zem]at this;injection this
def zk2(hv:zg9 m=0):∃M,zbv m=some (M,0)/\MinSem m M:=by
 obtain⟨t,L,h1,T⟩:=mealy_Trim_eq hv;obtain⟨c,h2,C⟩:=zmj (zrb T.ok);obtain⟨P,R,h3,Q⟩:=min_loop T.ok C 0 0;refine⟨⟨t.Inputs,0,P,R⟩,?_,quo_sem T C Q⟩;unfold zbv;rw[h1,zam,zkA (λh=>h rfl),zkC,h2,zam,zkA (λh=>h rfl),zkC,h3,zam];rfl
end
end
section
section
variable {m:zab}{c:yab}
def clN(c:yab)(s:Nat):Nat:=((c[s]?).getD 0).toNat
open Classical in
structure Nums(m:zab)(c:yab)(ord:List Nat)(num:yab)(B:List (Nat×yab)):Prop where
 ol:ord.length=B.length
 oc:∀(j u:Nat) (x:Nat×yab),ord[j]?=some u->B[j]?=some x->u<m.Next.length/\clN c u=x.1
 nl:num.length=m.Next.length
 n1:∀(j:Nat) (x:Nat×yab),B[j]?=some x->num[x.1]?=some (j:Int)
 n2:∀x:Nat,x<m.Next.length->x∉B.map Prod.fst->num[x]?=some (-1:Int)
end
end
section
def zqz{α:Type}[DecidableEq α]{l l':List α}(h:l.Nodup)(hs:∀x∈l,x∈l')(hl:l'.length<=l.length):∀x∈l',x∈l:=λx hx=>ybd λhn=>by
 have:=zj6 (l:=x::l) (l':=l') (yb0.2 ⟨hn,h⟩) λy hy=>by
  rcases yaw.1 hy with rfl|hy
  ·exact hx
  ·exact hs y hy
 simp only[zkL]at this;omega
section
variable {m M:zab}
def zdv.two(H:zdv m):Two m m:=⟨H,H,rfl⟩
open Classical in
noncomputable def sepR(m:zab)(s t:Nat):yab×Bool:=if h:∃res,Fst m m (s,t) res then Classical.choose h else([],false)
noncomputable def sepW(m:zab)(s t:Nat):yab:=(sepR m s t).1
noncomputable def sepB(m:zab)(s t:Nat):Bool:=(sepR m s t).2
def sepR_of{s t:Nat}{res:yab×Bool}(h:Fst m m (s,t) res):Fst m m (s,t) (sepW m s t,sepB m s t):=by
 have h':∃res,Fst m m (s,t) res:=⟨res,h⟩;have:sepR m s t=Classical.choose h':=dif_pos h';show Fst m m (s,t) (sepR m s t);rw[this];exact yet h'
def sep_fst(H:zdv m){s t:Nat}(hs:s<m.Next.length)(ht:t<m.Next.length):Fst m m (s,t) (sepW m s t,sepB m s t):=by
 obtain⟨res,_,h⟩:=zkn H.two (p0:=(s,t)) hs ht;exact sepR_of h
def States_prog(hv:zg9 m=0){s t:Nat}(hs:s<m.Next.length)(ht:t<m.Next.length):zha m (s:Int) (t:Int)=some (sepW m s t,sepB m s t,0):=by
 have H:=zlj hv;have hK:0<m.Inputs.toNat:=by have:=H.i1;omega
 obtain⟨res,h1,h2⟩:=zkn H.two (p0:=(s,t)) hs ht;have:=fst_uniq hK h2 (sepR_of h2);unfold zha;rw[zem,zam,hv,zkA (by decide),zkC,zkA (by omega),zkC,zkA (by omega),zkC,zkA (by omega),zkC,zkA (by omega),zam,zkC,h1,zam,this]
def sepW_sm(H:zdv m){s t:Nat}(hs:s<m.Next.length)(ht:t<m.Next.length):WOk m.Inputs (sepW m s t)/\(sepW m s t).length<=m.Next.length*m.Next.length*m.Inputs.toNat:=by
 have h:=sep_fst H hs ht;rcases h with⟨i,c,x,g1,g2,g3,g4,g5⟩|⟨L,_,_,g⟩
 ·injection g5 with g5 _
  have hr:=zo4 H.two (p0:=(s,t)) hs ht _ x (zkH g2);have a0:=pB_len H.two (p0:=(s,t)) hs ht (i*m.Inputs.toNat+c);have hi:=(zkI.1 g2).1;have:=zkp (show i<m.Next.length*m.Next.length by omega) g1;refine⟨?_,?_⟩
  ·rw[g5];refine WOk.append hr.2.2.2.2.2 λz hz=>?_;have:z=(c:Int):=by simpa using hz
   omega
  ·rw[g5];simp;omega
 ·injection g with g _
  rw[g];exact⟨λa ha=>(by cases ha),yaf _⟩
structure ze8(m:zab):Prop where
 reach:∀s,s<m.Next.length->∃w,WOk m.Inputs w/\dest m m.Start.toNat w=s
 apart:∀i j,i<m.Next.length->j<m.Next.length->Eqv m i m j->i=j
def sepB_of(H:zdv m)(P:ze8 m){s t:Nat}(hs:s<m.Next.length)(ht:t<m.Next.length)(hne:s≠t):sepB m s t=true:=by
 cases e:sepB m s t with
 |true=>rfl
 |false =>
  have h:=sep_fst H hs ht;rw[e]at h;exact absurd (P.apart s t hs ht (fst_none h)) hne
def sepW_sep(H:zdv m)(P:ze8 m){s t:Nat}(hs:s<m.Next.length)(ht:t<m.Next.length)(hne:s≠t):outs m s (sepW m s t)≠outs m t (sepW m s t):=by
 have h:=sep_fst H hs ht;rw[sepB_of H P hs ht hne]at h;exact fst_ne H.two (p0:=(s,t)) hs ht h
def can_reach(K:Can M)(hK:0<M.Inputs.toNat):∀u,u<M.Next.length->∃w,WOk M.Inputs w/\dest M 0 w=u:=by
 intro u
 induction u using Nat.strongRecOn with
 |ind u ih =>
  intro hu;by_cases hz:u=0
  ·subst hz;exact⟨[],λa ha=>(by cases ha),rfl⟩
  ·obtain⟨i,a,h1,h2,h3⟩:=K.c5 u (by omega) hu;obtain⟨w,w1,w2⟩:=ih i h1 (by omega);refine⟨w++[(a:Int)],w1.append λz hz=>?_,?_⟩
   ·have:z=(a:Int):=by simpa using hz
    omega
   ·rw[zf5,w2];show nx M i (Int.toNat ↑a)=u;rw[yah,h3]
def zrt(S:MinSem m M):ze8 M:=⟨λs hs=>by
 have hK:0<M.Inputs.toNat:=by have:=S.ok.i1;omega
 rw[S.start]
 exact can_reach S.can hK s hs,S.min⟩
def sem_le(H:zdv m)(S:MinSem m M):M.Next.length<=m.Next.length/\(M.Next.length=m.Next.length↔ze8 m):=by
 have hK:0<M.Inputs.toNat:=by have:=S.ok.i1;omega
 have a7:=H.st;have a3:=can_reach S.can hK
 have hf:∀u,∃s,u<M.Next.length->s<m.Next.length/\Eqv M u m s/\∃w,WOk m.Inputs w/\dest m m.Start.toNat w=s:=λu=>by
  by_cases hu:u<M.Next.length
  ·obtain⟨w,w1,w2⟩:=a3 u hu;have hw:WOk m.Inputs w:=by rw[<- S.inp];exact w1
   refine⟨dest m m.Start.toNat w,λ_=>⟨H.dest hw (by omega),?_,w,hw,rfl⟩⟩;have:=S.eqv.dest S.inp w1
   rwa [w2]at this
  ·exact⟨0,λh=>absurd h hu⟩
 obtain⟨f,hf⟩:=yfj hf
 have a0:((List.range M.Next.length).map f).Nodup:=by
  refine ydz.2 (List.Pairwise.imp_of_mem (λ{a b} ha hb hne he=>hne ?_) (yd6 (n:=M.Next.length)));have h1:=hf a (yay.1 ha);have h2:=hf b (yay.1 hb);rw[<- he]at h2;exact S.min a b (yay.1 ha) (yay.1 hb) (h1.2.1.trans S.inp (h2.2.1.symm S.inp))
 have a2:∀x∈(List.range M.Next.length).map f,x∈List.range m.Next.length:=λx hx=>by
  obtain⟨u,hu,rfl⟩:=yao.1 hx;exact yay.2 (hf u (yay.1 hu)).1
 have a5:=zj6 a0 a2;rw[zkK,ya4,ya4]at a5;refine⟨a5,λhe=>⟨λs hs=>?_,λi j hi hj a6=>?_⟩,λP=>?_⟩
 ·have:=zqz a0 a2 (by simp[he]) s (yay.2 hs);obtain⟨u,hu,rfl⟩:=yao.1 this;exact(hf u (yay.1 hu)).2.2
 ·obtain⟨u,hu,rfl⟩:=yao.1 (zqz a0 a2 (by simp[he]) i (yay.2 hi));obtain⟨v,hv,rfl⟩:=yao.1 (zqz a0 a2 (by simp[he]) j (yay.2 hj));have h1:=hf u (yay.1 hu);have h2:=hf v (yay.1 hv);have:=S.min u v (yay.1 hu) (yay.1 hv) ((h1.2.1.trans S.inp a6).trans S.inp (h2.2.1.symm S.inp));rw[this]
 ·have hg:∀s,∃u,s<m.Next.length->u<M.Next.length/\Eqv M u m s:=λs=>by
   by_cases hs:s<m.Next.length
   ·obtain⟨w,w1,w2⟩:=P.reach s hs;have hw:WOk M.Inputs w:=by rw[S.inp];exact w1
    refine⟨dest M 0 w,λ_=>⟨S.ok.dest hw S.ok.n1,?_⟩⟩;have:=S.eqv.dest S.inp hw
    rwa [w2]at this
   ·exact⟨0,λh=>absurd h hs⟩
  obtain⟨g,hg⟩:=yfj hg
  have a4:((List.range m.Next.length).map g).Nodup:=by
   refine ydz.2 (List.Pairwise.imp_of_mem (λ{a b} ha hb hne he=>hne ?_) (yd6 (n:=m.Next.length)));have h1:=hg a (yay.1 ha);have h2:=hg b (yay.1 hb);rw[<- he]at h2;exact P.apart a b (yay.1 ha) (yay.1 hb) ((h1.2.symm S.inp).trans S.inp.symm h2.2)
  have:=zj6 a4 (l':=List.range M.Next.length) λx hx=>by
   obtain⟨u,hu,rfl⟩:=yao.1 hx;exact yay.2 (hg u (yay.1 hu)).1
  rw[zkK,ya4,ya4]at this;omega
def reach_all{L:List (Nat×yab)}{s0:Nat}(hE:MEnd m s0 L):∀(w:yab) (i:Nat) (x:Nat×yab),L[i]?=some x->WOk m.Inputs w->∃(j:Nat) (y:Nat×yab),L[j]?=some y/\y.1=dest m x.1 w
 |[],i,x,hx,_=>⟨i,x,hx,rfl⟩
 |z::w,i,x,hx,hw=>by
  have hz:=hw.head;obtain⟨j,y,h1,h2,_⟩:=hE.closed hx (a:=z.toNat) (by omega);obtain⟨k,v,g1,g2⟩:=reach_all hE w j y h1 hw.tail;exact⟨k,v,g1,by rw[g2,h2];rfl⟩
def minimal_prog(hv:zg9 m=0):∃b,zez m=some b/\(b=true↔ze8 m):=by
 have H:=zlj hv;have a2:=H.st;obtain⟨M,h1,S⟩:=zk2 hv;obtain⟨a3,a0⟩:=sem_le H S;obtain⟨L,hE,hR⟩:=zl5 hv;obtain⟨a4,a5⟩:=mEnd_rng H (by omega) hE;refine⟨decide (M.Next.length=m.Next.length),?_,by rw[decide_eq_true_iff];exact a0⟩;unfold zez;rw[zem,zam,hv,zkA (by decide),zkC,hR,zam,zam];by_cases hl:L.length=m.Next.length
 ·rw[zkA (by rw[zhp,zkK];omega),zkC,h1,zam,zkB rfl,zkD,zam];show some (decide ((M.Next.length:Int)=(m.Next.length:Int)))=_;congr 1;exact decide_eq_decide.2 (by omega)
 ·rw[zkB (by rw[zhp,zkK];omega),zkD,zkA];intro he;have P:=a0.1 he
  have:=zj6 (l:=List.range m.Next.length) (l':=L.map Prod.fst) yd6 λs hs=>by
   obtain⟨w,w1,w2⟩:=P.reach s (yay.1 hs);obtain⟨j,y,g1,g2⟩:=reach_all hE w 0 _ hE.first w1;exact yao.2 ⟨y,zkH g1,by rw[g2];exact w2⟩
  rw[ya4,zkK]at this;omega
open Classical in
noncomputable def chkM(m:zab):Int:=if zg9 m≠0 then zg9 m else if ze8 m then 0 else 1
open Classical in
def check_prog(m:zab):zft m=some (chkM m):=by
 unfold chkM zft;rw[zem,zam];by_cases hv:zg9 m=0
 ·obtain⟨b,h1,h3⟩:=minimal_prog hv;rw[zkA (by omega),zkC,h1,zam,if_neg (λh=>h hv)];cases b with
  |true=>rw[if_pos (h3.1 rfl)];rfl
  |false=>rw[if_neg (λq=>by have:=h3.2 q;cases this)];rfl
 ·rw[zkB hv,zkD,if_pos hv]
open Classical in
end
end
section

end
section
section
variable {m M:zab}{ids:List (yaa)}{front middle:yaa}
structure Parts(M:zab)(front middle:yaa)(ids:List (yaa)):Prop where
 ok:zg9 M=0
 il:ids.length=M.Next.length
 is_:∀l∈ids,l.length<=200/\∀x∈l,x.length<=600
 f1:front.length<=200
 f2:∀u∈front,WOk M.Inputs u/\u.length<=200
 m1:middle.length<=200
 m2:∀v∈middle,WOk M.Inputs v/\v.length<=200
end
end
section
section
variable {M I:zab}{sM sI k:Nat}{U:yaa}{T:Nat->yaa}
structure Pass(M I:zab)(sM sI k:Nat)(U:yaa)(T:Nat->yaa):Prop where
 two:Two M I
 hM:sM<M.Next.length
 hI:sI<I.Next.length
 nil:[]∈U
 ok:∀u∈U,WOk M.Inputs u
 cov:∀s,s<M.Next.length->∃u∈U,dest M sM u=s
 tne:∀s,s<M.Next.length->∃x,x∈T s
 tok:∀s,∀x∈T s,WOk M.Inputs x
 sep:∀s s',s<M.Next.length->s'<M.Next.length->s≠s'->∃x,x∈T s/\x∈T s'/\outs M s x≠outs M s' x
 pass:∀u∈U,∀v,WOk M.Inputs v->v.length<=k+1->∀x∈T (dest M sM (u++v)),outs M sM (u++v++x)=outs I sI (u++v++x)
 few:∀l:List Nat,l.Nodup->(∀q∈l,∃w,WOk M.Inputs w/\dest I sI w=q)->l.length<=M.Next.length+k
variable (P:Pass M I sM sI k U T)
include P
end
end
section
section
variable {m b M:zab}
def zj2(x:yab):zbg x x=x.length:=by
 induction x with
 |nil=>rfl
 |cons u x ih=>simp[zbg,ih]
end
end
section
section
variable {m b M:zab}
end
end
section

end
section
def zs6{R:Type}{F:Nat->R}:∀(a b:yab) (j:Nat) (B:Nat->Option Int),(∀i,B (j+i)=b[i]?)->a.length=b.length->scan (λk x=>if B k=some x then none else some (F k)) j a=if a=b then none else some (F (j+zbg a b))
 |[],[],_,_,_,_=>rfl
 |[],_::_,_,_,_,h=>by cases h
 |_::_,[],_,_,_,h=>by cases h
 |x::a,y::b,j,B,hB,h=>by
  have h0:B j=some y:=by have:=hB 0;simpa using this
  unfold scan;by_cases e:y=x
  ·subst e;rw[if_pos h0];show scan _ (j+1) a=_;rw[zs6 a b (j+1) B (λi=>by have:=hB (i+1);rw[show j+1+i=j+(i+1) by omega];simpa using this) (by simpa using h)];by_cases e2:a=b
   ·subst e2;rw[if_pos rfl,if_pos rfl]
   ·rw[if_neg e2,if_neg (λq=>e2 (by injection q))];rw[show j+1+zbg a b=j+zbg (y::a) (y::b) by simp[zbg];omega]
  ·rw[if_neg (λq=>e (by rw[h0]at q;injection q)),if_neg (λq=>e (by injection q with q1;exact q1.symm))];rw[show zbg (x::a) (y::b)=0 by simp[zbg,Ne.symm e]];rfl
section
variable {m b:zab}
end
end
section
section
variable {m:zab}
open Classical in
end
end
section
def slices_EqualD{a b:yab}(h:SmW a):zb2 a b=some (decide (a=b)):=by
 unfold zb2;by_cases a0:a.length=b.length
 ·rw[zkA (by omega),zkC,zdy (l:=a) (λk x=>if b[k]?=some x then none else some false) (λk x hx=>?_) ?_ (by unfold SmW at h;omega),zam,zs6 (F:=λ_=>false) a b 0 (λk=>b[k]?) (λi=>by rw[yal]) a0]
  ·by_cases e:a=b
   ·rw[if_pos e,zkB e];rfl
   ·rw[if_neg e,zkA e];rfl
  ·simp only[zb2.s2];rw[zkA (by omega),zkC]
  ·have hk:=(zkI.1 hx).1;have hy:=get_at (show k<b.length by omega);simp only[zb2.s2];rw[zkB (by omega),zkD,zah hx,zah hy,hy];by_cases e:x=b[k]'(by omega)
   ·rw[zkA (λh=>h e),zkC,if_pos (by rw[e])]
   ·rw[zkB e,zkD,if_neg (λq=>e (by injection q with q;exact q.symm))]
 ·rw[zkB (by omega),zkD,zkA (λe=>a0 (by rw[e]))]
section
variable {m:zab}
def sepd(m:zab)(s t:Nat)(acc:yaa):Bool:=acc.any λw=>decide (outs m s w≠outs m t w)
noncomputable def chStep(m:zab)(s:Nat)(acc:yaa)(t:Nat):yaa:=if sepd m s t acc=true then acc else acc++[sepW m s t]
noncomputable def chRow(m:zab)(s:Nat)(acc:yaa)(t:Nat):yaa:=(List.range' (s+1) (t-(s+1))).foldl (chStep m s) acc
noncomputable def chTo(m:zab)(s:Nat):yaa:=(List.range s).foldl (λacc s=>chRow m s acc m.Next.length) []
noncomputable def chS(m:zab):yaa:=sortW (chTo m m.Next.length)
def ztn{s t:Nat}{acc:yaa}(h:s<t):chRow m s acc (t+1)=chStep m s (chRow m s acc t) t:=by
 unfold chRow;rw[show t+1-(s+1)=(t-(s+1))+1 by omega,List.range'_concat,yd0,show s+1+1*(t-(s+1))=t by omega];rfl
def zqr(s:Nat):chTo m (s+1)=chRow m s (chTo m s) m.Next.length:=by
 unfold chTo;rw[ycs,yd0];rfl
def zkc(H:zdv m){s:Nat}(hs:s<m.Next.length){w:yab}(hw:WOk m.Inputs w)(hl:w.length<=100000000):zcx m (s:Int) w=some (outs m s w):=by
 unfold zcx
 have key:=zek (step:=λ(q:Int×yab×Nat)=>zcx.s2 m w q.1 q.2.1 q.2.2) (r:=outs m s w) (λq=>q.2.2<=w.length/\q.1=(↑(dest m s (w.take q.2.2)):Int)/\q.2.1=outs m s (w.take q.2.2)) (λq=>w.length-q.2.2) (λq ⟨g1,g2,g3⟩=>by
  obtain⟨st,y,k⟩:=q
  simp only at g1 g2 g3
  subst g2
  subst g3
  simp only[zcx.s2]
  by_cases g4:k<w.length
  ·left
   have hx:=get_at g4
   obtain⟨x0,x1⟩:=hw _ (ya7 g4)
   have ha:w[k].toNat<m.Inputs.toNat:=by omega
   have hd:Sym.dest m s (w.take k)<m.Next.length:=H.dest (hw.take k) hs
   obtain⟨_,_,_,x,y,e1,e2,e3,e4⟩:=H.at hd ha
   refine⟨((↑(Sym.dest m s (w.take (k+1))):Int),outs m s (w.take (k+1)),k+1),?_,⟨g4,rfl,rfl⟩,by simp only;omega⟩
   rw[zdw hx,zkD,zah hx,za9 rfl e2,za9 (i:=w[k].toNat) (by omega) e4,zaq (by unfold za5;rw[zmy,yas];omega),za9 rfl e1,za9 (i:=w[k].toNat) (by omega) e3,zee hx,zf5,zhv]
   rfl
  ·right
   have e:k=w.length:=by omega
   subst e
   rw[zkA (by omega),zkC,ybw]) (n:=fuel) (s:=((s:Int),[],0)) ⟨yaf _,rfl,rfl⟩ (by have:=zay;simp only;omega)
 rw[zaq ⟨yc0 0,by omega,by unfold za5;omega⟩,key,zam]
def SepS(m:zab):Prop:=∀s t,s<t->t<m.Next.length->(sepW m s t).length<=1024
def ChOk(m:zab)(acc:yaa):Prop:=∀w∈acc,WOk m.Inputs w/\w.length<=1024
def separated_eq(H:zdv m){s t:Nat}(hs:s<m.Next.length)(ht:t<m.Next.length){acc:yaa}(hA:ChOk m acc)(hl:acc.length<=1000000):zeh m acc (s:Int) (t:Int)=some (sepd m s t acc):=by
 unfold zeh zb8;rw[zdy (l:=acc) (λ_ w=>if decide (outs m s w≠outs m t w)=true then some true else none) (λi w hw=>?_) ?_ (by omega),zam]
 ·unfold sepd;cases e:scan (λ_ w=>if decide (outs m s w≠outs m t w)=true then some true else none) 0 acc with
  |some r =>
   obtain⟨i,x,hx,hg⟩:=scan_mem e;split at hg
   ·rename_i h;injection hg with hg
    rw[yep.2 ⟨x,zkH hx,h⟩,<- hg];rfl
   ·cases hg
  |none =>
   rw[List.any_eq_false.2 λx hx=>by
    obtain⟨i,hi,rfl⟩:=yci.1 hx
    have:=zfc.1 e i _ (get_at hi)
    split at this
    ·cases this
    ·assumption]
   rfl
 ·simp only[zb8.s2];rw[zkA (by omega),zkC]
 ·have hi:=(zkI.1 hw).1;obtain⟨h1,h2⟩:=hA w (zkH hw);simp only[zb8.s2];rw[zkB (by omega),zkD,zah hw];unfold zd3;rw[zkc H hs h1 (by omega),zam,zkc H ht h1 (by omega),zam,slices_EqualD (by unfold SmW;rw[zmy];omega),zam,zam];by_cases e:outs m s w=outs m t w
  ·rw[zkB e,yck,zkC,if_neg (by simp[e])]
  ·rw[zkA e,ydq,zkD,if_pos (by simp[e])]
def chStep_okS(H:zdv m)(hb:SepS m){s t:Nat}(hs:s<m.Next.length)(ht:t<m.Next.length)(hst:s<t){acc:yaa}(hA:ChOk m acc):ChOk m (chStep m s acc t)/\(chStep m s acc t).length<=acc.length+1:=by
 unfold chStep;split
 ·exact⟨hA,by omega⟩
 ·refine⟨λw hw=>?_,by simp⟩;rcases yam.1 hw with h|h
  ·exact hA w h
  ·have:w=sepW m s t:=by simpa using h
   subst this;obtain⟨h1,h2⟩:=sepW_sm H hs ht;exact⟨h1,hb s t hst ht⟩
def zqu(H:zdv m)(hb:SepS m){s:Nat}(hs:s<m.Next.length){acc:yaa}(hA:ChOk m acc):∀t,t<=m.Next.length->ChOk m (chRow m s acc t)/\(chRow m s acc t).length<=acc.length+t
 |0,_=>by
  unfold chRow;rw[Nat.zero_sub];exact⟨hA,by simp⟩
 |t+1,ht=>by
  obtain⟨h1,h2⟩:=zqu H hb hs hA t (by omega);by_cases g:s<t
  ·rw[ztn g];obtain⟨h3,h4⟩:=chStep_okS H hb hs (t:=t) (by omega) g h1;exact⟨h3,by omega⟩
  ·unfold chRow;rw[show t+1-(s+1)=0 by omega];exact⟨hA,by simp⟩
def znt(H:zdv m)(hb:SepS m):∀s,s<=m.Next.length->ChOk m (chTo m s)/\(chTo m s).length<=s*m.Next.length
 |0,_=>⟨λw hw=>(by cases hw),by simp[chTo]⟩
 |s+1,hs=>by
  obtain⟨h1,h2⟩:=znt H hb s (by omega);rw[zqr];obtain⟨h3,h4⟩:=zqu H hb (s:=s) (by omega) h1 m.Next.length (yaq _);exact⟨h3,by rw[ydf];omega⟩
def zq0(H:zdv m)(hb:SepS m){s:Nat}(hs:s<=m.Next.length):(chTo m s).length<=128*128:=by
 have h1:=(znt H hb s hs).2;have hn:=H.n2;have h2:s*m.Next.length<=128*128:=yeh (by omega) hn;omega
def zl0(hv:zg9 m=0)(P:ze8 m)(hb:SepS m):zby m=some (chS m,0):=by
 have H:=zlj hv;have hn:=H.n2
 have hc:chkM m=0:=by
  unfold chkM;rw[if_neg (λh=>h hv),if_pos P]
 unfold zby;rw[check_prog m,zam,hc,zkA (by decide),zkC]
 have a0:∀s,s<m.Next.length->iter (λ(q:yaa×Nat)=>zby.s13 m s q.1 q.2) fuel (chTo m s,s+1)=some (.inl (chRow m s (chTo m s) m.Next.length)):=λs hs=>by
  obtain⟨c1,_⟩:=znt H hb s (yfg hs);have c2:=zq0 H hb (yfg hs);refine zek (λq=>s<q.2/\q.2<=m.Next.length/\q.1=chRow m s (chTo m s) q.2) (λq=>m.Next.length-q.2) (λq ⟨q1,q2,q3⟩=>?_) ⟨ydb _,hs,by unfold chRow;rw[ycn];rfl⟩ (by have:=zay;simp only;omega);obtain⟨y,t⟩:=q;simp only at q1 q2 q3;subst q3;obtain⟨d1,d2⟩:=zqu H hb hs c1 t q2;simp only[zby.s13];by_cases g:t<m.Next.length
  ·left;refine⟨(chRow m s (chTo m s) (t+1),t+1),?_,⟨by simp only;omega,g,rfl⟩,by simp only;omega⟩;rw[zkB (by omega),zkD,separated_eq H hs g d1 (by omega),zam,ztn q1];unfold chStep;cases e:sepd m s t (chRow m s (chTo m s) t) with
   |true =>
    rw[zkD,zam,if_pos rfl];rfl
   |false =>
    rw[zkC,States_prog hv hs g,zam];simp only;rw[zkA (λh=>h rfl),zkC,zaq (by unfold za5;omega),zam,if_neg (by decide)];rfl
  ·right;have:t=m.Next.length:=by omega
   subst this;rw[zkA (by omega),zkC]
 have a2:=zek (step:=λ(q:yaa×Nat)=>zby.s14 m q.1 q.2) (r:=.inl (chTo m m.Next.length)) (λq=>q.2<=m.Next.length/\q.1=chTo m q.2) (λq=>m.Next.length-q.2) (λq ⟨q1,q2⟩=>by
  obtain⟨y,s⟩:=q
  simp only at q1 q2
  subst q2
  simp only[zby.s14]
  by_cases g:s<m.Next.length
  ·left
   refine⟨(chTo m (s+1),s+1),?_,⟨g,rfl⟩,by simp only;omega⟩
   rw[zkB (by omega),zkD,a0 s g,zam,zqr]
   rfl
  ·right
   have:s=m.Next.length:=by omega
   subst this
   rw[zkA (by omega),zkC]) (n:=fuel) (s:=([],0)) ⟨yaf _,rfl⟩ (by have:=zay;simp only;omega)
 rw[a2,zam];have c2:=zq0 H hb (yaq m.Next.length);show(zd7 (chTo m m.Next.length)).bind _=_
 rw[zgn ⟨by omega,λw hw=>by
  have:=((znt H hb m.Next.length (yaq _)).1 w hw).2
  unfold SmW
  omega⟩,zam]
 rfl
end
end
section
structure Known(mp:List (ByteArray×Bool))(out:yaa):Prop where
 nd:out.Nodup
 le:out.length<=10000
 get:∀w:yab,(mget (⟨(keyL w).toArray⟩:ByteArray) mp).getD false=decide (w∈out)
section
variable {p q:yaa}
end
end
section
section
variable {p q:yaa}
end
end
section
section
variable {M:zab}{P:yaa}
end
end
section
section
variable {front middle last:yaa}
end
end
section
section
variable {m M:zab}
end
end
section
section
variable {m b M:zab}
end
end
section
section
variable {A:Type}[DecidableEq A]{e:A->Nat->A}{K:Nat}{s0:A}
def bfs_mono:∀(r:Nat) {u v:Nat} {x y:A×yab},u<=v->(bfsB e K s0 r)[u]?=some x->(bfsB e K s0 r)[v]?=some y->x.2.length<=y.2.length
 |0,u,v,x,y,huv,hx,hy=>by
  have h1:=(zkI.1 hx).1;have h2:=(zkI.1 hy).1;have hl:(bfsB e K s0 0).length=1:=rfl;have e1:u=0:=by omega
  have e2:v=0:=by omega
  subst e1;subst e2;rw[hx]at hy;injection hy with hy
  rw[hy];exact yaq _
 |r+1,u,v,x,y,huv,hx,hy=>by
  have ih:=λ{u v x y}=>bfs_mono r (u:=u) (v:=v) (x:=x) (y:=y);rw[bfsB]at hx hy;cases hp:(bfsB e K s0 r)[r / K]? with
  |none =>
   rw[hp]at hx hy;exact ih huv hx hy
  |some p =>
   rw[hp]at hx hy;simp only at hx hy;split at hx
   ·rename_i g;rw[if_pos g]at hy;exact ih huv hx hy
   ·rename_i g;rw[if_neg g]at hy;have hv:=(zkI.1 hy).1;rw[zkJ,ybc]at hv;rcases ya9 v (bfsB e K s0 r).length with h|h
    ·rw[ya5 h]at hy;rw[ya5 (by omega)]at hx;exact ih huv hx hy
    ·have ev:v=(bfsB e K s0 r).length:=by omega
     subst ev;rw[ybo (yaq _),ycn]at hy;injection hy with hy
     subst hy;simp only[zkJ,ybc];rcases ya9 u (bfsB e K s0 r).length with h2|h2
     ·rw[ya5 h2]at hx;rcases znj hx with q|⟨r',z,q1,q2,q3,q4⟩
      ·subst q;rw[zqn]at hx;injection hx with hx
       subst hx;simp
      ·have:=ih (yd7 (c:=K) (yfg q1)) q3 hp;rw[q4];simp only[zkJ,ybc];omega
     ·have eu:u=(bfsB e K s0 r).length:=by omega
      subst eu;rw[ybo (yaq _),ycn]at hx;injection hx with hx
      subst hx;simp
def bfs_early{N j r:Nat}{y:A×yab}(hK:0<K)(hy:(bfsB e K s0 N)[j]?=some y)(hr:j*K<=r)(hN:r<=N):(bfsB e K s0 r)[j]?=some y:=by
 have a2:=ziv (e:=e) (K:=K) (s0:=s0) hN;rcases ya9 j (bfsB e K s0 r).length with g|g
 ·have:=zgl a2 (zkM g);rw[hy]at this;rw[zkM g,this]
 ·exfalso
  have a0:∀d,bfsB e K s0 (r+d)=bfsB e K s0 r:=by
   intro d
   induction d with
   |zero=>rfl
   |succ d ih =>
    show bfsB e K s0 (r+d+1)=_;rw[bfsB,ih,yat ?_];have h1:j<=(r+d) / K:=(Nat.le_div_iff_mul_le hK).2 (by omega);omega
  have h2:=a0 (N-r);rw[show r+(N-r)=N by omega]at h2;rw[h2]at hy;have:=(zkI.1 hy).1;omega
def bfs_reach{f:A->yab->A}(f0:∀a,f a []=a)(f1:∀a w (c:Nat),f a (w++[(c:Int)])=e (f a w) c){i:Nat}{x:A×yab}{N:Nat}(hx:(bfsB e K s0 N)[i]?=some x)(hN:i*K<=N) :
  ∀(n:Nat) (w:yab),w.length=n->(∀z∈w,0<=z/\z<(K:Int))->n<x.2.length->∃j y,j<i/\(bfsB e K s0 (i*K))[j]?=some y/\y.1=f s0 w/\y.2.length<=n:=by
 intro n
 induction n with
 |zero =>
  intro w hw _ a5;have:w=[]:=yaz hw;subst this;refine⟨0,(s0,[]),Nat.pos_of_ne_zero λh=>?_,zqn _,(f0 s0).symm,yaq _⟩;subst h;rw[zqn]at hx;injection hx with hx
  subst hx;exact absurd a5 (by simp)
 |succ n ih =>
  intro w hw hz a5;rcases List.eq_nil_or_concat w with rfl|⟨v,c,rfl⟩
  ·simp at hw
  rw[List.concat_eq_append]at hw hz ⊢;obtain⟨c0,c1⟩:=hz c (yai _ (yag.2 rfl));obtain⟨a,rfl⟩:=yel c0;have hK:0<K:=by omega
  have ha:a<K:=by omega
  obtain⟨j,y,j1,j2,j3,j4⟩:=ih v (by simpa using hw) (λz h=>hz z (yan _ h)) (by omega);have a3:j*K+a+1<=i*K:=by have:=zkp j1 ha;omega
  have hy:=bfs_early hK j2 (r:=j*K+a) (by omega) (by omega);have a4:=bfs_to (e:=e) (K:=K) (s0:=s0) (r:=j*K+a) (x:=y) (by rw[zl2 ha];exact hy);rw[zte ha]at a4;obtain⟨z,a8,a9⟩:=yao.1 a4;obtain⟨l,hl,ez⟩:=yci.1 a8;have a0:(bfsB e K s0 (j*K+a+1))[l]?=some z:=by rw[zkM hl,ez]
  have a6:z.2.length<=n+1:=by
   rcases znj a0 with q|⟨r',u,q1,q2,q3,q4⟩
   ·subst q;rw[zqn]at a0;injection a0 with a0
    subst a0;simp
   ·have hd:r' / K<=j:=by
     have:=yd7 (c:=K) (show r'<=j*K+a by omega)
     rwa [zl2 ha]at this
    have a7:=zgl (zpu (e:=e) (K:=K) (s0:=s0) (j*K+a)) hy;have:=bfs_mono _ hd q3 a7;rw[q4];simp only[zkJ,ybc];omega
  have a2:=zgl (ziv (e:=e) (K:=K) (s0:=s0) a3) a0;refine⟨l,z,Nat.lt_of_not_le λb0=>?_,a2,by rw[a9,f1,j3],a6⟩;have h3:=zgl (ziv (e:=e) (K:=K) (s0:=s0) hN) a2;have:=bfs_mono _ b0 hx h3;omega
end
section
variable {m:zab}
def zta:∀{v:yab} {s t:Nat},WOk m.Inputs v->outs m s v≠outs m t v->∃(u:yab) (c:Nat) (z:yab),v=u++(c:Int)::z/\c<m.Inputs.toNat/\ot m (dest m s u) c≠ot m (dest m t u) c
 |[],s,t,_,h=>absurd rfl h
 |a::v,s,t,hw,h=>by
  have ha:=hw.head;obtain⟨c,rfl⟩:=yel ha.1;by_cases g:ot m s c=ot m t c
  ·obtain⟨u,d,z,h1,h2,h3⟩:=zta (v:=v) (s:=nx m s c) (t:=nx m t c) hw.tail λhv=>h (by
    show ot m s (Int.toNat (c:Int))::outs m (nx m s (Int.toNat (c:Int))) v=ot m t (Int.toNat (c:Int))::outs m (nx m t (Int.toNat (c:Int))) v
    rw[yah,g,hv])
   exact⟨(c:Int)::u,d,z,by rw[h1];rfl,h2,h3⟩
  ·exact⟨[],c,v,rfl,by omega,g⟩
def moore(H:zdv m)(P:ze8 m){s t:Nat}(hs:s<m.Next.length)(ht:t<m.Next.length)(hne:s≠t):∃v,v.length<=m.Next.length/\WOk m.Inputs v/\outs m s v≠outs m t v:=by
 refine ybd λg=>hne (P.apart s t hs ht λw hw=>?_);have hE:E m m.Next.length s t:=znv λw hl hw=>ybd λh=>g ⟨w,hl,hw,h⟩;exact E_outs (E_all H hs ht hE w.length) hw
def sepW_short(H:zdv m)(P:ze8 m){s t:Nat}(hs:s<m.Next.length)(ht:t<m.Next.length)(hne:s≠t):(sepW m s t).length<=m.Next.length:=by
 have hF:=sep_fst H hs ht;rw[sepB_of H P hs ht hne]at hF;rcases hF with⟨i,c,x,h1,h2,h3,h4,h5⟩|⟨L,_,_,h5⟩
 ·injection h5 with h5 _
  rw[h5,zkJ,ybc];obtain⟨v,v1,v2,v3⟩:=moore H P hs ht hne;obtain⟨u,d,z,rfl,u2,u3⟩:=zta v2 v3;simp only[zkJ,zkL]at v1;refine yd4 λa2=>?_
  have hu:∀q∈u,0<=q/\q<(m.Inputs.toNat:Int):=λq hq=>by
   have:=v2 q (yan _ hq);omega
  have fd:∀(st:Nat) (w:yab) (c:Nat),dest m st (w++[(c:Int)])=nx m (dest m st w) c:=λst w c=>by
   rw[zf5];show nx m (dest m st w) (Int.toNat (c:Int))=_;rw[yah]
  obtain⟨j,y,j1,j2,j3,j4⟩:=bfs_reach (e:=pE m m) (K:=m.Inputs.toNat) (s0:=(s,t)) (f:=λp w=>(dest m p.1 w,dest m p.2 w)) (λa=>rfl) (λa w c=>by
   simp only[fd]
   rfl) (N:=i*m.Inputs.toNat+c) h2 (by omega) u.length u rfl hu (by omega)
  have hK:0<m.Inputs.toNat:=by omega
  have a0:=zkp j1 u2;have hy:=bfs_early hK j2 (r:=j*m.Inputs.toNat+d) (by omega) (by omega);have:=h4 (j*m.Inputs.toNat+d) (by omega);rw[zom u2 hy,j3,zkB u3]at this;cases this
 ·injection h5 with _ h5
  cases h5
def zsy{s:Nat}:∀(l:List Nat) (acc:yaa) (w:yab),w∈l.foldl (chStep m s) acc->w∈acc\/∃t∈l,w=sepW m s t
 |[],acc,w,h=>.inl h
 |t::l,acc,w,h=>by
  rcases zsy l _ w h with g|⟨u,h1,h2⟩
  ·unfold chStep at g;split at g
   ·exact .inl g
   ·rcases yam.1 g with g|g
    ·exact .inl g
    ·exact .inr ⟨t,ybl,yag.1 g⟩
  ·exact .inr ⟨u,yau _ h1,h2⟩
def chTo_from:∀(s:Nat) (w:yab),w∈chTo m s->∃a b,a<s/\a<b/\b<m.Next.length/\w=sepW m a b
 |0,w,h=>by
  unfold chTo at h;cases h
 |s+1,w,h=>by
  rw[zqr]at h;unfold chRow at h;rcases zsy _ _ w h with g|⟨t,h1,h2⟩
  ·obtain⟨a,b,k1,k2⟩:=chTo_from s w g;exact⟨a,b,by omega,k2⟩
  ·rw[List.mem_range'_1]at h1;exact⟨s,t,by omega,by omega,by omega,h2⟩
end
end
section
def zrm(l:yaa):(sortW l).length<=l.length:=by
 refine ze3 (List.Pairwise.imp (λ{a b} h e=>?_) (zer l)) λx hx=>(zdu l x).1 hx;rw[e,zjt]at h;cases h
def red0_get{P:zaa}(h:0<P.Next.length):(red0 P)[0]?=some true:=by
 unfold red0;rw[ya2 (by rw[yak];exact h)]
section
variable {p:zaa}
def compl_ok(H:zb1 p)(hn:p.Next.length<=128):∃M,complP p 0=(M,0)/\zdv M/\M.Inputs=p.Inputs/\M.Next.length=p.Next.length:=by
 refine⟨⟨p.Inputs,p.Start,(List.range p.Next.length).map (zsm p),(List.range p.Next.length).map (zsf p 0)⟩,?_,⟨H.i1,H.i2,?_,?_,?_,?_,λs hs=>?_⟩,rfl,?_⟩
 ·unfold complP;rw[if_neg (λh=>h H.valid),if_neg (by omega),if_neg (by omega)]
 ·rw[zkK,ya4];exact H.n1
 ·rw[zkK,ya4];exact hn
 ·simp only[zkK,ya4];exact H.st
 ·simp only[zkK,ya4]
 ·simp only[zkK,ya4]at hs ⊢;refine⟨zsm p s,zsf p 0 s,by rw[yae,yba hs];rfl,by rw[yae,yba hs];rfl,?_,?_,λu hu=>?_,λv hv=>?_⟩
  ·unfold zsm;rw[zkK,ya4];have:=H.i1;omega
  ·unfold zsf;rw[zkK,ya4];have:=H.i1;omega
  ·unfold zsm at hu;obtain⟨a,ha,rfl⟩:=yao.1 hu;obtain⟨n1,n2,n3,n4,n5,x,y,hx,hy,a0,a2,_⟩:=H.at hs (yay.1 ha);unfold compN;rw[hx,yaj,a0,yaj];split<;>omega
  ·unfold zsf at hv;obtain⟨a,ha,rfl⟩:=yao.1 hv;obtain⟨n1,n2,n3,n4,n5,x,y,hx,hy,a0,a2,_⟩:=H.at hs (yay.1 ha);unfold compO;rw[hx,yaj,a0,yaj,hy,yaj,a2,yaj];split<;>omega
 ·simp only[zkK,ya4]
end
section
variable {p:zaa}{M:zab}
def sngL(n:Nat):yaa:=(List.range n).map λ(a:Nat)=>[(a:Int)]
def sngL_succ(n:Nat):sngL (n+1)=sngL n++[[(n:Int)]]:=by unfold sngL;rw[ycs,ya0];rfl
def ev_singles{o:zav}(h:o.Inputs<=64):iter (λ(s:yaa×Nat)=>zcs.s2 o s.1 s.2) fuel ([],0)=some (sngL o.Inputs.toNat):=by
 refine zek (λs=>s.2<=o.Inputs.toNat/\s.1=sngL s.2) (λs=>o.Inputs.toNat-s.2) (λ⟨y,a⟩ ⟨g1,g2⟩=>?_) ⟨yaf _,rfl⟩ (by have:=zay;simp only;omega);simp only at g1 g2;subst g2;have hl:(sngL a).length=a:=by unfold sngL;rw[zkK,ya4]
 simp only[zcs.s2];by_cases ha:a<o.Inputs.toNat
 ·left;exact⟨(sngL (a+1),a+1),by rw[zkB (by omega),zkD,zaq (by unfold za5;omega),zaq (by unfold inR;omega),sngL_succ],⟨ha,rfl⟩,by simp only;omega⟩
 ·right;have e1:a=o.Inputs.toNat:=by omega
  subst e1;rw[zkA (by omega),zkC]
def seps(H:zdv M)(P:ze8 M):SepS M:=λs t h ht=>by
 have:=sepW_short H P (s:=s) (t:=t) (by omega) ht (by omega);have:=H.n2;omega
noncomputable def sufE(I:Nat)(M:zab):yaa:=sortW (sngL I++chS M)
def suf_sm(H:zdv M)(P:ze8 M){I:Nat}(hI:I<=64):SmL (sngL I++chS M):=by
 have hc:=(znt H (seps H P) M.Next.length (yaq _)).1;have hl:=zq0 H (seps H P) (yaq M.Next.length);have a0:=zrm (chTo M M.Next.length);refine⟨?_,λw hw=>?_⟩
 ·rw[zkJ];unfold sngL chS;rw[zkK,ya4];omega
 ·rcases yam.1 hw with hw|hw
  ·obtain⟨a,_,rfl⟩:=yao.1 hw;unfold SmW;simp
  ·have:=(hc w ((zdu _ _).1 hw)).2;unfold SmW;omega
def suf_sml(H:zdv M)(P:ze8 M){I:Nat}(hI:I<=64):SmL (sufE I M):=by
 obtain⟨h1,h2⟩:=suf_sm H P hI;have:=zrm (sngL I++chS M);exact⟨by unfold sufE;omega,λw hw=>h2 w ((zdu _ _).1 hw)⟩
def acc_sml(H:zb1 p):SmL (accW p):=by
 have hn:=H.n2;obtain⟨j,K,_⟩:=zj9 H;have:=K.few;exact⟨by unfold accW;rw[zkK];omega,λw hw=>by have:=zjn H hw;unfold SmW;omega⟩
end
end
section
section
variable {p:zaa}
def evp_step{red:List Bool}(K:LrnE p red) :
  (zbh.s4 p.Inputs p.Start p.Next p.Out red=some (.inr (p,0))/\∀r a b,¬zh2 p red r a b) \/
  ∃b,BlueE p red b/\((((∀r:Nat,red[r]?=some true->zge p r b)/\∀c,(∃r a,zh2 p red r a c)->(∀r:Nat,red[r]?=some true->zge p r c)->b<=c)/\LrnE p (red.set b true)/\zbh.s4 p.Inputs p.Start p.Next p.Out red=some (.inl (p.Inputs,p.Start,p.Next,p.Out,red.set b true))) \/
   ∃r0 Q cl red',FoldB p red r0 b Q cl red'/\LrnE (renP Q) red'/\zbh.s4 p.Inputs p.Start p.Next p.Out red=some (.inl ((renP Q).Inputs,(renP Q).Start,(renP Q).Next,(renP Q).Out,red'))):=by
 obtain⟨⟨H,G,hr⟩,a9,a5⟩:=K;have hn:=H.n2;obtain⟨M,b1,b3,b4,b5⟩:=ev_bluesP H hr;have b1:zbe (⟨p.Inputs,p.Start,p.Next,p.Out⟩:zaa) red=some (zch M):=b1;have b2:(zch M).length=M.length:=by unfold zch;rw[zkK]
 have hM:∀b,b∈M->b<p.Next.length/\red[b]?=some false/\b≠0:=λb hb=>by
  obtain⟨r,a,hc⟩:=(b3 b).1 hb;have hw:=hc.2.2;have:=(zkI.1 hw).1;exact⟨by omega,hw,λe=>by rw[e,a5]at hw;cases hw⟩
 have b8:∀r,red[r]?=some true->r<p.Next.length:=λr h=>by have:=(zkI.1 h).1;omega
 have c1:zb0 (⟨p.Inputs,p.Start,p.Next,p.Out⟩:zaa) red (zch M)=some (outCh (chF p red none M)):=ev_choose H hr (λb hb=>⟨(hM b hb).1,(hM b hb).2.2⟩) (by omega);by_cases hz:M=[]
 ·left;subst hz;refine⟨?_,λr a b hc=>by have:=(b3 b).2 ⟨r,a,hc⟩;cases this⟩;unfold zbh.s4;rw[b1,zam,zkB (by simp[zch]),zkD,zam,yc1]
 ·right;have c6:0<M.length:=List.length_pos_iff.2 hz
  have s4:∀cc,zb0 (⟨p.Inputs,p.Start,p.Next,p.Out⟩:zaa) red (zch M)=some cc->zbh.s4 p.Inputs p.Start p.Next p.Out red=(cond (decide (cc.2≠(-1:Int))) (idx red cc.2 λa7=>some (.inl (p.Inputs,p.Start,p.Next,p.Out,(List.set red cc.2.toNat true)))) ((zhq p cc.1.red cc.1.blue).bind λa2=>(za3 p a2.1 red).bind λa6=>some (.inl (a2.1.Inputs,a2.1.Start,a2.1.Next,a2.1.Out,a6))):Option ((Int×Int×yaa×yaa×List Bool)⊕((Int×Int×yaa×yaa×List Bool)⊕(zaa×Int)))).bind (Sum.elim (λ(s:Int×Int×yaa×yaa×List Bool)=>zbh.k3 s.1 s.2.1 s.2.2.1 s.2.2.2.1 s.2.2.2.2) some):=λcc b7=>by
   unfold zbh.s4;rw[b1,zam,zkA (by omega),zkC,b7,zam]
  cases f1:chF p red none M with
  |inl b =>
   obtain⟨g1,g2⟩:=chF_inl f1;obtain⟨h1,h2,h3⟩:=hM b g1;have b6:(red.set b true).length=p.Next.length:=by rw[ybb];exact hr
   refine⟨b,⟨h1,h2,(b3 b).1 g1⟩,.inl ⟨⟨λr a0=>zst g2 r (b8 r a0) a0,λc hc a8=>chF_least b5 f1 ((b3 c).2 hc) (bestF_all a8 _)⟩,⟨⟨H,G,b6⟩,a9,by rw[ya3 h3];exact a5⟩,?_⟩⟩
   ·rw[s4 ((⟨0,0,0⟩:za2),(b:Int)) (by rw[c1,f1];rfl),zkB (show((⟨0,0,0⟩:za2),(b:Int)).2≠-1 by simp only;omega),zkD,za9 (i:=b) rfl h2,zam,ybx];simp only;rw[yah];rfl
  |inr acc =>
   rcases chF_inr f1 with⟨_,h|h⟩|⟨n,b,r,rfl,g1,g2⟩
   ·exact absurd h hz
   ·exact absurd rfl h
   ·obtain⟨h1,h2,h3⟩:=hM b g1;obtain⟨k1,k2,k3,_⟩:=zsx g2;simp only at k1 k2 k3;rcases zr2 H k1 h1 with⟨q1,_⟩|⟨_,Q,cl,KQ,q2,q3⟩
    ·exact absurd q1 k3
    ·have c8:clsL p r b=(List.range p.Next.length).map λq=>(↑(cl q):Int):=yda λq hq=>by rw[q2 q (yay.1 hq)]
     obtain⟨e1,hO⟩:=R35_Folded_eq H KQ;obtain⟨c7,l3,m2,m3⟩:=reds_ref H G KQ hr;obtain⟨p1,p2,p3⟩:=quo_part H KQ;have a4:(renP Q).Next.length=(ordP Q).length:=by unfold renP;simp only[zkK]
     have a3:=fold_hom H KQ;obtain⟨out,u1,u2,u3⟩:=ev_follow H p1 a3 G (λv hv=>by rw[a4];exact yby (KQ.mem H (G v hv))) hr;have b9:r≠b:=λe=>by rw[e,h2]at k2;cases k2
     have b0:cl r=cl b:=by rw[q2 r k1,q2 b h1];exact zsq.1 .base
     have hx:∃x,x<p.Next.length/\cl x≠x:=by
      by_cases k:cl r=r
      ·exact⟨b,h1,λe=>b9 (by rw[<- k,b0,e])⟩
      ·exact⟨r,k1,k⟩
     have hI:LrnI (renP Q) out:=⟨p1,renP_conn KQ.ren,u2⟩;have c0:out[0]?=some true:=(u3 0).2 ⟨0,a5,by have:=a3.st;rw[a9]at this;exact this.symm⟩;refine⟨b,⟨h1,h2,(b3 b).1 g1⟩,.inr ⟨r,Q,cl,out,⟨k2,k3,KQ,q2,u3,hI,p3 hx⟩,⟨hI,rfl,c0⟩,?_⟩⟩
     ·rw[s4 ((⟨(n:Int),(b:Int),(r:Int)⟩:za2),-1) (by rw[c1,f1];rfl),zkA (show ¬((⟨(n:Int),(b:Int),(r:Int)⟩:za2),(-1:Int)).2≠-1 from λh=>h rfl),zkC];simp only;rw[merge_Fold_ok H k1 h1 q3,zam,u1,zam,zam,ybx];rfl
end
def evp_loop{J:zaa->List Bool->Prop}
  (h1:∀p red b,LrnE p red->J p red->BlueE p red b->((∀r:Nat,red[r]?=some true->zge p r b)/\∀c,(∃r a,zh2 p red r a c)->(∀r:Nat,red[r]?=some true->zge p r c)->b<=c)->J p (red.set b true))
  (h2:∀p red b r0 Q cl red',LrnE p red->J p red->BlueE p red b->FoldB p red r0 b Q cl red'->J (renP Q) red') {p:zaa} {red:List Bool} (K:LrnE p red) (j:J p red) :
  ∃p' red',iter (λ(s:Int×Int×yaa×yaa×List Bool)=>zbh.s4 s.1 s.2.1 s.2.2.1 s.2.2.2.1 s.2.2.2.2) fuel (p.Inputs,p.Start,p.Next,p.Out,red)=some (p',0)/\LrnE p' red'/\J p' red'/\∀r a b,¬zh2 p' red' r a b:=by
 have a0:∀{q:zaa} {rd:List Bool},LrnI q rd->zro rd<=4096:=λ{q rd} K=>by
  have:=K.ok.n2;unfold zro;refine ycg yev ?_;rw[K.len];exact this
 have hw:=a0 K.l;have hn:=K.l.ok.n2
 have key:=za1 (step:=λ(s:Int×Int×yaa×yaa×List Bool)=>zbh.s4 s.1 s.2.1 s.2.2.1 s.2.2.2.1 s.2.2.2.2) (λs=>LrnE ⟨s.1,s.2.1,s.2.2.1,s.2.2.2.1⟩ s.2.2.2.2/\J ⟨s.1,s.2.1,s.2.2.1,s.2.2.2.1⟩ s.2.2.2.2) (λs=>5000*s.2.2.1.length+zro s.2.2.2.2) (λr=>∃p' red',r=(p',0)/\LrnE p' red'/\J p' red'/\∀r a b,¬zh2 p' red' r a b) (λ⟨y1,y2,y3,y4,rd⟩ ⟨k1,k2⟩=>by
  simp only at k1 k2 ⊢
  rcases evp_step k1 with⟨e,hc⟩|⟨b,hb,⟨hc,kk,e⟩|⟨r0,Q,cl,red',hF,kk,e⟩⟩
  ·exact .inr ⟨_,e,_,rd,rfl,k1,k2,hc⟩
  ·refine .inl ⟨_,e,⟨kk,h1 _ _ b k1 k2 hb hc⟩,?_⟩
   have:=whites_set hb.wh
   simp only
   omega
  ·refine .inl ⟨_,e,⟨kk,h2 _ _ b r0 Q cl red' k1 k2 hb hF⟩,?_⟩
   have a2:=hF.lt
   have:=a0 hF.ok
   simp only at this a2 ⊢
   omega) fuel (p.Inputs,p.Start,p.Next,p.Out,red) ⟨K,j⟩ (by have:=zay;simp only;omega)
 obtain⟨r,e,p',red',rfl,q⟩:=key;exact⟨p',red',e,q⟩
def learn_ep{o:zav}{P:zaa}{J:zaa->List Bool->Prop}(e1:zbn o=some (P,0))(H:zb1 P)(G:Conn P)(h0:P.Start=0)
  (h1:∀p red b,LrnE p red->J p red->BlueE p red b->((∀r:Nat,red[r]?=some true->zge p r b)/\∀c,(∃r a,zh2 p red r a c)->(∀r:Nat,red[r]?=some true->zge p r c)->b<=c)->J p (red.set b true))
  (h2:∀p red b r0 Q cl red',LrnE p red->J p red->BlueE p red b->FoldB p red r0 b Q cl red'->J (renP Q) red') (j:J P (red0 P)) :
  ∃p' red',zbh o=some (p',0)/\LrnE p' red'/\J p' red'/\∀r a b,¬zh2 p' red' r a b:=by
 have hn:=H.n2;have hp:=H.n1;obtain⟨p',red',l1,a0⟩:=evp_loop h1 h2 ⟨learn_start H G,h0,red0_get hp⟩ j;refine⟨p',red',?_,a0⟩;unfold zbh;rw[e1,zam,zkA (λh=>h rfl),zkC,zaq ⟨by omega,yc0 _,by unfold za5;simp only[yah];omega⟩];simp only;rw[za9 (i:=0) (x:=false) h0 (by rw[ybi,if_pos hp])];have:List.set (List.replicate P.Next.length false) P.Start.toNat true=red0 P:=by rw[h0];rfl
 rw[this];exact l1
def learn_ex{o:zav}(ho:SmO o)(hv:zm6 o)(hP:(allP o).length<=4090):∃P p' red',zbh o=some (p',0)/\LrnE p' red'/\Tells o p'/\p'.Inputs=o.Inputs/\p'.Next.length<=P.Next.length/\P.Next.length<=(allP o).length/\zbn o=some (P,0):=by
 obtain⟨P,t1,H,G,h0,hI,TM,_⟩:=tree_prog ho hv hP;obtain⟨p',red',l1,K,⟨j1,j2,j3⟩,-⟩:=learn_ep (J:=λp _=>Tells o p/\p.Inputs=o.Inputs/\p.Next.length<=P.Next.length) t1 H G h0 (λp red b _ j _ _=>j) (λp red b r0 Q cl red' K j hb hF=>⟨j.1.hom hF.ok.ok (fold_hom K.l.ok hF.quo),by have:=hF.quo.inp;have:=j.2.1;show Q.Inputs=_;omega,by have:=hF.lt;have:=j.2.2;omega⟩) ⟨⟨H,λt ht=>⟨_,tree_run hv h0 TM ht⟩⟩,hI,yaq _⟩;exact⟨P,p',red',l1,K,j1,j2,j3,by rw[TM.gn.len];exact zrm _,t1⟩
def seed_prog{p:zaa}{o:zav}(h1:o.Inputs<=64)(e1:zbh o=some (p,0))(H:zb1 p)(hn:p.Next.length<=128):∃m M,complP p 0=(m,0)/\zdv m/\m.Inputs=p.Inputs/\m.Next.length=p.Next.length/\MinSem m M/\zcs o=some (⟨o.Inputs,accW p,sufE o.Inputs.toNat M⟩,0):=by
 obtain⟨m,c1,Hm,c2,c3⟩:=compl_ok H hn;obtain⟨M,m1,S⟩:=zk2 (zrb Hm);have PM:=zrt S;have hM:=zrb S.ok;have hS:=seps S.ok PM;have a2:=suf_sm S.ok PM (I:=o.Inputs.toNat) (by omega);have a0:[sngL o.Inputs.toNat,chS M].flatten=sngL o.Inputs.toNat++chS M:=by simp
 refine⟨m,M,c1,Hm,c2,c3,S,?_⟩;unfold zcs;rw[e1,zam,zkA (λh=>h rfl),zkC];simp only;rw[zoe (by omega),c1,zam,zkA (λh=>h rfl),zkC];simp only;rw[m1,zam];simp only;rw[zl0 hM PM hS,zam,ev_singles h1,zam,ev_access H,zam];simp only;rw[zps (by simp) (by rw[a0];exact a2),zam,a0];rfl
end
section
def preL_le{k:Nat}:∀{l:yaa},(∀x∈l,x.length<=k)->(preL l).length<=l.length*(k+1)
 |[],_=>by simp[preL]
 |x::l,h=>by
  have h1:=preL_le (k:=k) (l:=l) λy hy=>h y (yau _ hy);have h2:=h x ybl;have e:preL (x::l)=zdi x++preL l:=rfl;rw[e,zkJ,zkL,ydf];have e2:(zdi x).length=x.length+1:=by unfold zdi;rw[zkK,ya4]
  omega
section
variable {p:zaa}{M:zab}
def acc_prefixes(H:zb1 p)(hn:p.Next.length<=61):zcd (accW p)=some (accW p):=by
 have hs:=acc_sml H
 have hl:(accW p).length<=61:=by
  obtain⟨j,K,_⟩:=zj9 H;have:=K.few;unfold accW;rw[zkK];omega
 have a3:=preL_le (k:=4096) (l:=accW p) λw hw=>zjn H hw;have a2:(accW p).length*4097<=61*4097:=ybs _ hl
 have a0:∀x,x∈preL (accW p)↔x∈accW p:=λx=>by
  unfold preL;rw[ycf];constructor
  ·rintro⟨w,hw,hx⟩;exact accW_pre H hw x (ze9.1 hx)
  ·intro hx;exact⟨x,hx,ze9.2 (yb9 x)⟩
 rw[zqq hs (λx hx=>by have:=zjn H hx;omega) ⟨by omega,λx hx=>hs.2 x ((a0 x).1 hx)⟩,sortW_ext a0,zn3 (accW_asc H)]
def suf_mem{I:Nat}{x:yab}:x∈sufE I M↔x∈sngL I\/x∈chTo M M.Next.length:=by
 unfold sufE chS;rw[zdu,yam,zdu]
def suf_ne(H:zdv M)(P:ze8 M){I:Nat}:([]:yab)∉sufE I M:=λh=>by
 rcases suf_mem.1 h with h|h
 ·obtain⟨a,_,h⟩:=yao.1 h;cases h
 ·obtain⟨a,b,h1,h2,h3,h4⟩:=chTo_from _ _ h;have:=sepW_sep H P (s:=a) (t:=b) (by omega) h3 (by omega);rw[<- h4]at this;exact this rfl
def suf_sorted(H:zdv M)(P:ze8 M){I:Nat}(hI:I<=64):zeb (sufE I M)=some (sufE I M):=by
 rw[R02_Sorted_eq (suf_sml H P hI)];have:Asc (sufE I M):=zer _;rw[zn3 this]
def expl_traces{o:zav}(ho:SmO o)(hv:zm6 o)(T:Tells o p):iter (λ(s:Nat)=>zax.s2 o (p,0) s) fuel 0=some (.inl ()):=by
 have hn:=hv.num;refine zek (λj=>j<=o.Traces.length) (λj=>o.Traces.length-j) (λj g=>?_) (yaf _) (by have:=zay;omega);simp only[zax.s2];by_cases h:j<o.Traces.length
 ·left;have hx:=get_at h;have ht:=ya7 h;have a2:SmW o.Traces[j].Out:=(ho.2 _ ht).2;have a0:zgf o.Traces[j].Out o.Traces[j].Out=some true:=by rw[zhw _ _ a2,zkB rfl]
  refine⟨j+1,?_,h,by omega⟩;rw[zdw hx,zkD,zah hx,T.run hv ht,zam];simp only;rw[yck,zkC,zah hx,a0,zam,yck,zam,zkC]
 ·right;rw[zkA (by omega),zkC]
def expl_words(H:zb1 p){I:Int}{S:yaa}:iter (λ(s:Nat)=>zax.s4 (p,0) (⟨I,accW p,S⟩,0) s) fuel 0=some (.inl ()):=by
 have hs:=acc_sml H;have hl:=hs.1;have a0:=accW_asc H;refine zek (λj=>j<=(accW p).length) (λj=>(accW p).length-j) (λj g=>?_) (yaf _) (by have:=zay;omega);simp only[zax.s4];by_cases h:j<(accW p).length
 ·left;have hx:=get_at h;have ht:=ya7 h;obtain⟨y,c,hy⟩:=accW_go H ht;have a3:=zjn H ht;refine⟨j+1,?_,h,by omega⟩;rw[zdw hx,zkD,zah hx,run_goes H (by omega) hy,zam];simp only;rw[yck,zkC];by_cases h0:0<j
  ·have a2:=get_at (l:=accW p) (i:=j-1) (by omega);have hc:cmpW (accW p)[j-1] (accW p)[j]=-1:=yb6.1 a0 (j-1) j (by omega) h (by omega);rw[zkB (by omega),zkD,za9 (i:=j-1) (by omega) a2,zah hx,zi1 _ _ (hs.2 _ (ya7 (by omega))),zam,hc,zkA (by omega),zam,zkC]
  ·rw[zkA (by omega),zkC,zam,zkC]
 ·right;rw[zkA (by omega),zkC]
def expl_singles{o:zav}(hI:o.Inputs<=64){A S:yaa}(hS:SmL S)(hm:∀a:Nat,a<o.Inputs.toNat->[(a:Int)]∈S):iter (λ(s:Nat)=>zax.s6 o (⟨o.Inputs,A,S⟩,0) s) fuel 0=some (.inl ()):=by
 refine zek (λj=>j<=o.Inputs.toNat) (λj=>o.Inputs.toNat-j) (λj g=>?_) (yaf _) (by have:=zay;omega);simp only[zax.s6];by_cases h:j<o.Inputs.toNat
 ·left;exact⟨j+1,by rw[zkB (by omega),zkD,R02_Has_eq _ _ hS,zam,zkB (hm j h),yck,zkC,zaq (by unfold inR;omega)],h,by omega⟩
 ·right;rw[zkA (by omega),zkC]
end
def zq1(o:zav)(ho:SmO o):zax o=some true:=by
 unfold zax;obtain⟨b,e1,hb⟩:=R35_Large_eq ho;have a3:∀k:Option Bool,((some true:Option Bool).bind λy=>cond y ((zjb).bind λc=>some c) k)=some true:=λk=>by rw[zam,zkD,zo1,zam]
 rw[e1,zam];cases b with
 |true=>rw[zkD];exact a3 _
 |false =>
  obtain⟨hP,hI⟩:=hb rfl;obtain⟨e,e2,he⟩:=R16_Valid_tot o ho;rw[zkC,e2,zam];by_cases h:e=0
  ·have hv:=he h;have a8:=hv.inp;obtain⟨P,p,red,l1,K,T,a9,b2,a7,_⟩:=learn_ex ho hv (by omega);obtain⟨m,M,c1,Hm,c2,c3,S,s1⟩:=seed_prog (by omega) l1 T.1 (by omega);have PM:=zrt S;have a4:=suf_sml S.ok PM (I:=o.Inputs.toNat) (by omega);have a6:=acc_sml T.1;have b0:(accW p).length=p.Next.length:=by unfold accW;rw[zkK];exact accL_len T.1 K.l.con
   have b4:=T.1.n1;have h0:[((0:Nat):Int)]∈sufE o.Inputs.toNat M:=suf_mem.2 (.inl (yao.2 ⟨0,yay.2 (by omega),rfl⟩));have a0:0<(sufE o.Inputs.toNat M).length:=yem h0;have a5:=get_at a0;have b3:0<((sufE o.Inputs.toNat M)[0]).length:=List.length_pos_iff.2 λg=>suf_ne S.ok PM (I:=o.Inputs.toNat) (by rw[<- g];exact ya7 a0);rw[zkA (λg=>g h),zam,zkC,l1,s1,zam,zam];simp only
   have hc:(cond (decide ((0:Int)≠0)) (some true) (cond (decide ((0:Int)≠0)) (some true) ((zcb p).bind λa2=>cond (decide (a2≠0)) (some true) (cond (decide ((↑(List.length (accW p)):Int)≠(p.Next.length:Int))) (some true) (cond (decide ((↑(List.length (accW p)):Int)=0)) (some true) (some (decide (o.Inputs≠o.Inputs))))))):Option Bool)=some false:=by
    rw[zkA (λg=>g rfl),zkC,zkC,zg4 (by omega),T.1.valid,zam,zkA (λg=>g rfl),zkC,zkA (λg=>g (by omega)),zkC,zkA (by omega),zkC,zkA (λg=>g rfl)]
   rw[hc,zam,zkC,expl_traces ho hv T,zam,ybx,expl_words T.1,zam,ybx,expl_singles (by omega) a4 (λa ha=>suf_mem.2 (.inl (yao.2 ⟨a,yay.2 ha,rfl⟩))),zam,ybx,acc_prefixes T.1 (by omega),zam,zkh _ _ a6,zam,zkB rfl,zkD,suf_sorted S.ok PM (by omega),zam,zkh _ _ a4,zam,zkB rfl,zkD,zkB (by omega),zkD,zah a5,zkB (by omega),zkD,zo1,zam,zam]
  ·rw[zkB h];exact a3 _
end
section
def zjv(x0:zav)(_:zs9 x0)(s0:zln x0<=1048576):zax x0=some true :=
 zq1 x0 (smo_of s0)
end
section
open Go.RowKit
set_option linter.unusedVariables false
set_option maxHeartbeats 4000000
def eI{σ:St}{src:List (Nat×Option Nat)}{γ:Nat->Nat}{t:Nat}{y b:IV}(h1:σ.av t=.im y)(h2:AV.im y=.im b):∃x,σ.av t=x/\SubR σ src γ x (.im b):=⟨.im y,h1,.im (Sub.rfl' h2)⟩
def odt{p:Prop}[Decidable p](h:decide p=true):p:=of_decide_eq_true h
def odf{p:Prop}[Decidable p](h:decide p=false):¬p:=of_decide_eq_false h
def ctd{α:Type}{p:Prop}[Decidable p]{x y z:α}(hb:decide p=true)(h:cond (decide p) x y=z):x=z/\p:=⟨zbq hb h,odt hb⟩
def cfd{α:Type}{p:Prop}[Decidable p]{x y z:α}(hb:decide p=false)(h:cond (decide p) x y=z):y=z/\¬p:=⟨zbp hb h,odf hb⟩
def hT{σ:St}:Holds σ True:=Holds.true_ _
abbrev lZ{α:Type}(l:List α):Prop:=List.length l<=17592186044416
def eA{σ:St}{avs:List (Nat×AV)}{kds:List (Nat×Kd)}{cels:List (Nat×Nat×AV)}(src:List (Nat×Option Nat))(hn:ndB (srcs src) []=true:=by exact rfl)(ha:SubL σ src (gnM kds) avs:=by repeat' (first|exact trivial|refine⟨eI rfl rfl,?_⟩|refine⟨⟨.own _ _ _,rfl,.own rfl rfl rfl⟩,?_⟩|refine⟨⟨.osl _ _,rfl,.osl rfl rfl rfl⟩,?_⟩|refine⟨⟨.im (.val (.slice none 0 0)),rfl,.made rfl rfl⟩,?_⟩))(hk:KdL σ src kds:=by repeat' (first|exact trivial|refine⟨.inl ⟨_,rfl,rfl,trivial⟩,?_⟩|refine⟨.inl ⟨_,rfl,rfl,⟨rfl,rfl⟩⟩,?_⟩|refine⟨.inr ⟨rfl,rfl,.inl ⟨_,_,rfl,by decide⟩⟩,?_⟩))(hc:CeL σ src (gnM kds) cels:=by repeat' (first|exact trivial|refine⟨⟨_,.im _,rfl,rfl,.im (Sub.rfl' rfl)⟩,?_⟩|refine⟨⟨_,.own _ _ _,rfl,rfl,.own rfl rfl rfl⟩,?_⟩|refine⟨⟨_,.osl _ _,rfl,rfl,.osl rfl rfl rfl⟩,?_⟩)):Ent σ (mkSt avs kds cels):=Ent.mk src hn ha hk hc
def zfu(p_:zaa)(r:Int)(h:Ok (.agg (zaf p_))->zcb p_=some r):Sp Tryz.prog 31 [.im (.agg (zaf p_))] (.im (nI r)):=by
 refine zce rfl [700001] rfl rfl rfl (zkE rfl) rfl λhk=>?_;replace h:=h hk.1;have z1:lZ p_.Next:=zat (zlI hk.1 2 rfl);have z2:lZ p_.Out:=zat (zlI hk.1 3 rfl);unfold zcb at h;refine zlF p_.Next.length zak ?_;obtain⟨e8,hc,g5⟩:=zlA h;clear h;have h:=hc;clear hc;refine Cut.mk (mkSt [(1,.im (.ref (zaf p_))),(3,.im (nI (p_.Next.length:Int))),(11,.im (nB e8))] [] []) (True) (hT) ?_ (λhp=>?_);refine zlC ?_ ?_<;>intro b4;replace b4:=zdd b4;obtain⟨h,d2⟩:=cfd b4 h
 iterate 2 (refine zlD (zbw b4) ?_)
 refine zlE b4 ?_;cases h;exact zlG (eA []);replace b4:=zde b4;obtain⟨h,d2⟩:=ctd b4 h
 iterate 2 (refine zlE (zdf b4) ?_)
 refine zlD b4 ?_;cases h;exact zlG (eA []);replace h:=g5;refine zlC ?_ ?_<;>intro e3;replace h:=zbq e3 h;cases h;exact⟨rfl,rfl⟩;replace h:=zbp e3 h;refine zlC ?_ ?_<;>intro e4;obtain⟨h,d3⟩:=ctd e4 h;cases h;exact⟨rfl,rfl⟩;obtain⟨h,d3⟩:=cfd e4 h;refine zlC ?_ ?_<;>intro e5;obtain⟨h,d4⟩:=ctd e5 h;cases h;exact⟨rfl,rfl⟩;obtain⟨h,d4⟩:=cfd e5 h;obtain⟨e9,hc,g4⟩:=zlA h;clear h;have h:=hc;clear hc;refine Cut.mk (mkSt [(1,.im (.ref (zaf p_))),(3,.im (nI (p_.Next.length:Int))),(26,.im (nB e9))] [] []) (True) (hT) ?_ (λhp=>?_);refine zlC ?_ ?_<;>intro b5;replace b5:=zdd b5;obtain⟨h,d5⟩:=cfd b5 h
 iterate 3 (refine zlD (zbw b5) ?_)
 refine zlE b5 ?_;cases h;exact zlG (eA []);replace b5:=zde b5;obtain⟨h,d5⟩:=ctd b5 h
 iterate 3 (refine zlE (zdf b5) ?_)
 refine zlD b5 ?_;cases h;exact zlG (eA []);replace h:=g4;refine zlC ?_ ?_<;>intro e6;replace h:=zbq e6 h;cases h;exact⟨rfl,rfl⟩;replace h:=zbp e6 h;refine zlF p_.Out.length zak<|zlC ?_ ?_<;>intro e7;obtain⟨h,d6⟩:=ctd e7 h;cases h;exact⟨rfl,rfl⟩;obtain⟨h,d6⟩:=cfd e7 h;obtain⟨oc,hc,a5⟩:=zlA h;clear h;have h:=hc;clear hc;refine zlJ oc (Y:=Unit) (λ(_:Unit)=>mkSt [] [] []) (λ(_:Unit)=>True) (by rintro⟨⟩;exact(hT)) ?_ ?_;refine zb7.iter (λ(s:Nat)=>zcb.s14 p_ s) (λa2=>mkSt [(1,.im (.ref (zaf p_))),(3,.im (nI (p_.Next.length:Int))),(42,.im (nI (p_.Next.length:Int))),(43,.im (nI (a2:Int)))] [] []) (λa2=>True) h (eA []) (by rintro a2;exact(hT)) ?_;clear h;rintro k a2 o hp h a0;replace h:zcb.s14 p_ a2=some o:=h;unfold zcb.s14 at h;refine zlC ?_ ?_<;>intro b6;obtain⟨h,b7⟩:=ctd b6 h;obtain⟨d7,hc,a9⟩:=zlA h;clear h;have h:=hc;clear hc;refine Cut.mk (mkSt [(1,.im (.ref (zaf p_))),(3,.im (nI (p_.Next.length:Int))),(4,.im (nI (a2:Int))),(42,.im (nI (p_.Next.length:Int))),(43,.im (nI (a2:Int))),(65,.im (nB d7))] [] []) (True) (hT) ?_ (λhp=>?_);obtain⟨d8,g1,h⟩:=zac h;refine⟨_,⟨(by omega),zad g1,rfl⟩,?_⟩;refine zlF d8.length zak<|zlC ?_ ?_<;>intro a6;replace a6:=zdd a6;obtain⟨h,b8⟩:=cfd a6 h
 iterate 3 (refine zlD (zbw a6) ?_)
 obtain⟨d9,f9,h⟩:=zac h;refine⟨_,⟨(by omega),zad f9,rfl⟩,?_⟩
 iterate 2 (refine zlD (zbw a6) ?_)
 refine zlF d9.length zak ?_
 iterate 3 (refine zlD (zbw a6) ?_)
 refine zlE a6 ?_;cases h;exact zlG (eA []);replace a6:=zde a6;obtain⟨h,b8⟩:=ctd a6 h
 iterate 8 (refine zlE (zdf a6) ?_)
 refine zlD a6 ?_;cases h;exact zlG (eA []);replace h:=a9;refine zlC ?_ ?_<;>intro b9;replace h:=zbq b9 h;cases h;have a0:_=_:=a0;cases a0;replace h:some _=some _:=a5;cases h;exact⟨rfl,rfl⟩;replace h:=zbp b9 h;obtain⟨b2,f6,h⟩:=zac h;refine⟨_,⟨(by omega),zad f6,rfl⟩,?_⟩;refine zlF b2.length zak ?_;obtain⟨oc,hc,a4⟩:=zlA h;clear h;have h:=hc;clear hc;refine zlJ oc (Y:=Unit) (λ(_:Unit)=>mkSt [(1,.im (.ref (zaf p_))),(3,.im (nI (p_.Next.length:Int))),(42,.im (nI (p_.Next.length:Int))),(43,.im (nI (a2:Int)))] [] []) (λ(_:Unit)=>True) (by rintro⟨⟩;exact(hT)) ?_ ?_;refine zb7.iter (λ(s:Nat)=>zcb.s13 p_ a2 b2 s) (λb3=>mkSt [(1,.im (.ref (zaf p_))),(3,.im (nI (p_.Next.length:Int))),(4,.im (nI (a2:Int))),(42,.im (nI (p_.Next.length:Int))),(43,.im (nI (a2:Int))),(70,.im (nL cI b2)),(71,.im (nI (b2.length:Int))),(72,.im (nI (b3:Int)))] [] []) (λb3=>lZ b2/\True) h (eA []) (by rintro b3;exact((zlH 70 rfl).and (hT))) ?_;clear h;rintro k b3 o hp h a3;replace h:zcb.s13 p_ a2 b2 b3=some o:=h;unfold zcb.s13 at h;obtain⟨f3,_⟩:=hp;refine zlC ?_ ?_<;>intro c0;obtain⟨h,c6⟩:=ctd c0 h;obtain⟨e0,f7,h⟩:=zac h;refine⟨_,⟨(by omega),zad f7,rfl⟩,?_⟩;obtain⟨f4,g3,h⟩:=zac h;refine⟨_,⟨(by omega),zad g3,rfl⟩,?_⟩;obtain⟨e1,g2,h⟩:=zac h;refine⟨_,⟨(by omega),zad g2,rfl⟩,?_⟩;obtain⟨e2,hc,f8⟩:=zlA h;clear h;have h:=hc;clear hc;refine Cut.mk (mkSt [(1,.im (.ref (zaf p_))),(3,.im (nI (p_.Next.length:Int))),(4,.im (nI (a2:Int))),(6,.im (nI e0)),(7,.im (nI e1)),(42,.im (nI (p_.Next.length:Int))),(43,.im (nI (a2:Int))),(70,.im (nL cI b2)),(71,.im (nI (b2.length:Int))),(72,.im (nI (b3:Int))),(99,.im (nB e2))] [] []) (lZ b2/\True) ((zlH 70 rfl).and (hT)) ?_ (λhp=>?_);refine zlC ?_ ?_<;>intro a7;replace a7:=zdd a7;obtain⟨h,c7⟩:=cfd a7 h
 iterate 2 (refine zlD (zbw a7) ?_)
 refine zlE a7<|zlC ?_ ?_<;>intro a8;replace a8:=zdd a8;obtain⟨h,c8⟩:=cfd a8 h;refine zlD (zbw a8)<|zlE a8<|zlC ?_ ?_<;>intro b0;replace b0:=zdd b0;obtain⟨h,c9⟩:=cfd b0 h;refine zlD (zbw b0)<|zlE b0 ?_;cases h;exact zlG (eA []);replace b0:=zde b0;obtain⟨h,c9⟩:=ctd b0 h;refine zlE (zdf b0)<|zlD b0 ?_;cases h;exact zlG (eA []);replace a8:=zde a8;obtain⟨h,c8⟩:=ctd a8 h;refine zlE (zdf a8)<|zlD a8 ?_
 iterate 2 (refine zlE rfl ?_)
 refine zlD rfl ?_;cases h;exact zlG (eA []);replace a7:=zde a7;obtain⟨h,c7⟩:=ctd a7 h
 iterate 2 (refine zlE (zdf a7) ?_)
 refine zlD a7 ?_
 iterate 2 (refine zlE rfl ?_)
 refine zlD rfl ?_
 iterate 2 (refine zlE rfl ?_)
 refine zlD rfl ?_;cases h;exact zlG (eA []);replace h:=f8;obtain⟨f5,_⟩:=hp;refine zlC ?_ ?_<;>intro d0;replace h:=zbq d0 h;cases h;have a3:_=_:=a3;cases a3;replace h:some _=some _:=a4;cases h;have a0:_=_:=a0;cases a0;replace h:some _=some _:=a5;cases h;exact⟨rfl,rfl⟩;replace h:=zbp d0 h;refine zlC ?_ ?_<;>intro d1;replace h:=zbq d1 h;cases h;have a3:_=_:=a3;cases a3;replace h:some _=some _:=a4;cases h;have a0:_=_:=a0;cases a0;replace h:some _=some _:=a5;cases h;exact⟨rfl,rfl⟩;replace h:=zbp d1 h;refine zbt.mk (by show inR _;unfold inR;omega) ?_;cases h;exact zlK _ a3 (eA []);obtain⟨h,c6⟩:=cfd c0 h;cases h;have a3:_=_:=a3;cases a3;exact zdn.mk' _ rfl (eA []);rintro⟨⟩ rfl hp;replace h:=zcf a4;refine zbt.mk (by show inR _;unfold inR;omega) ?_;cases h;exact zlK _ a0 (eA []);obtain⟨h,b7⟩:=cfd b6 h;cases h;have a0:_=_:=a0;cases a0;exact zdn.mk' _ rfl (eA []);rintro⟨⟩ rfl hp;replace h:=zcf a5;cases h;exact⟨rfl,rfl⟩
def zpd(p_:zaa)(w_:yab)(r:yab×Bool)(h:Ok (.agg (zaf p_))->Ok (nL cI w_)->zeg p_ w_=some r):Sp Tryz.prog 32 [.im (.agg (zaf p_)),.im (nL cI w_)] (.tup [nL cI r.1,nB r.2]):=by
 refine zce rfl [700002] rfl rfl rfl (zkE rfl) rfl λhk=>?_;replace h:=h hk.1 hk.2.1;have z1:lZ p_.Next:=zat (zlI hk.1 2 rfl);have z2:lZ p_.Out:=zat (zlI hk.1 3 rfl);have z3:lZ w_:=zat hk.2.1;unfold zeg at h;obtain⟨c9,f4,h⟩:=zlA h;refine⟨_,(zfu p_ c9 (λ_=>f4)),?_⟩;refine zlC ?_ ?_<;>intro c8;obtain⟨h,b9⟩:=ctd c8 h;cases h;exact⟨rfl,rfl⟩;obtain⟨h,b9⟩:=cfd c8 h;refine zlF w_.length zak ?_;obtain⟨oc,hc,e2⟩:=zlA h;clear h;have h:=hc;clear hc;refine zlJ oc (Y:=yab) (λb2=>mkSt [(7,.osl 64 1)] [(64,.row 3 1 (List.map cI b2))] []) (λb2=>lZ b2/\True) (by rintro b2;exact((Holds.kdl 64 rfl).and (hT))) ?_ ?_;refine zb7.iter (λ(s:Int×yab×Nat)=>zeg.s2 p_ w_ s.1 s.2.1 s.2.2) (λ(a8,a6,b0)=>mkSt [(2,.im (.ref (zaf p_))),(6,.im (nI a8)),(7,.osl 64 1),(15,.im (nL cI w_)),(16,.im (nI (w_.length:Int))),(17,.im (nI (b0:Int)))] [(64,.row 3 1 (List.map cI a6))] []) (λ(a8,a6,b0)=>lZ w_/\lZ a6/\True) h (eA [(64,none)]) (by rintro⟨a8,a6,b0⟩;exact((zlH 15 rfl).and ((Holds.kdl 64 rfl).and (hT)))) ?_;clear h;rintro k ⟨a8,a6,b0⟩ o hp h a0;replace h:zeg.s2 p_ w_ a8 a6 b0=some o:=h;unfold zeg.s2 at h;obtain⟨d0,d1,_⟩:=hp;refine zlC ?_ ?_<;>intro b4;obtain⟨h,b5⟩:=ctd b4 h;obtain⟨c0,e4,h⟩:=zac h;refine⟨_,⟨(by omega),zad e4,rfl⟩,?_⟩;obtain⟨c6,hc,e9⟩:=zlA h;clear h;have h:=hc;clear hc;refine Cut.mk (mkSt [(2,.im (.ref (zaf p_))),(6,.im (nI a8)),(7,.osl 64 1),(9,.im (nI c0)),(15,.im (nL cI w_)),(16,.im (nI (w_.length:Int))),(17,.im (nI (b0:Int))),(39,.im (nB c6))] [(64,.row 3 1 (List.map cI a6))] []) (lZ w_/\lZ a6/\True) ((zlH 15 rfl).and ((Holds.kdl 64 rfl).and (hT))) ?_ (λhp=>?_);refine zlC ?_ ?_<;>intro a7;replace a7:=zdd a7;obtain⟨h,b6⟩:=cfd a7 h
 iterate 3 (refine zlD (zbw a7) ?_)
 refine zlE a7<|zlC ?_ ?_<;>intro a2;replace a2:=zdd a2;obtain⟨h,b7⟩:=cfd a2 h
 iterate 3 (refine zlD (zbw a2) ?_)
 obtain⟨d2,e1,e8,h⟩:=zar h;refine⟨_,⟨e1,zad e8,rfl⟩,?_⟩
 iterate 3 (refine zlD (zbw a2) ?_)
 obtain⟨d3,e0,e6,h⟩:=zar h;refine⟨_,⟨e0,zad e6,rfl⟩,?_⟩
 iterate 2 (refine zlD (zbw a2) ?_)
 refine zlE a2 ?_;cases h;exact zlG (eA [(64,some 64)]);replace a2:=zde a2;obtain⟨h,b7⟩:=ctd a2 h
 iterate 8 (refine zlE (zdf a2) ?_)
 refine zlD a2 ?_;cases h;exact zlG (eA [(64,some 64)]);replace a7:=zde a7;obtain⟨h,b6⟩:=ctd a7 h
 iterate 3 (refine zlE (zdf a7) ?_)
 refine zlD a7 ?_
 iterate 9 (refine zlE rfl ?_)
 refine zlD rfl ?_;cases h;exact zlG (eA [(64,some 64)]);replace h:=e9;obtain⟨d4,d5,_⟩:=hp;refine zlC ?_ ?_<;>intro b8;replace h:=zbq b8 h;cases h;have a0:_=_:=a0;cases a0;replace h:some _=some _:=e2;cases h;exact⟨rfl,rfl⟩;replace h:=zbp b8 h;obtain⟨d6,a5,e7,h⟩:=zar h;refine⟨_,⟨a5,zad e7,rfl⟩,?_⟩;obtain⟨b3,a3,f3,h⟩:=zar h;refine⟨_,⟨a3,zad f3,rfl⟩,?_⟩;obtain⟨c7,h⟩:=zan h;refine zlB ⟨rfl,zck (l:=[b3]) (c:=cI) λ_=>rfl,show za5 _ 8 by simpa only[zkK,zkL,ya8,yal]using c7⟩ ?_;refine zlF (List.map cI (a6++[b3])) (zcj (l:=a6) (m:=[b3]) (c:=cI)) ?_;obtain⟨d7,a9,e5,h⟩:=zar h;refine⟨_,⟨a9,zad e5,rfl⟩,?_⟩;obtain⟨d8,a4,e3,h⟩:=zar h;refine⟨_,⟨a4,zad e3,rfl⟩,?_⟩;refine zbt.mk (by show inR _;unfold inR;omega) ?_;cases h;exact zlK _ a0 (eA [(64,some 64)]);obtain⟨h,b5⟩:=cfd b4 h;cases h;have a0:_=_:=a0;cases a0;exact zdn.mk' _ rfl (eA [(64,some 64)]);rintro b2 rfl hp;replace h:=zcf e2;obtain⟨d9,_⟩:=hp;cases h;exact zlB ⟨rfl,trivial⟩ ⟨rfl,rfl⟩
def zhm(a_:yab)(b_:yab)(r:Int)(h:Ok (nL cI a_)->Ok (nL cI b_)->zd0 a_ b_=some r):Sp Tryz.prog 74 [.im (nL cI a_),.im (nL cI b_)] (.im (nI r)):=by
 refine zce rfl [] rfl rfl rfl (zkE rfl) rfl λhk=>?_;replace h:=h hk.1 hk.2.1;have z1:lZ a_:=zat hk.1;have z2:lZ b_:=zat hk.2.1;unfold zd0 at h;obtain⟨b3,hc,a9⟩:=zlA h;clear h;have h:=hc;clear hc;refine Cut.mk (mkSt [(5,.im (nI (b3:Int)))] [] []) (True) (hT) ?_ (λhp=>?_);refine zb7.iter (λ(s:Nat)=>zd0.s2 a_ b_ s) (λa7=>mkSt [(0,.im (nL cI a_)),(1,.im (nL cI b_)),(5,.im (nI (a7:Int)))] [] []) (λa7=>lZ a_/\lZ b_/\True) h (eA []) (by rintro a7;exact((zlH 0 rfl).and ((zlH 1 rfl).and (hT)))) ?_;clear h;rintro k a7 o hp h a0;replace h:zd0.s2 a_ b_ a7=some o:=h;unfold zd0.s2 at h;obtain⟨b6,b7,_⟩:=hp;obtain⟨b4,hc,a3⟩:=zlA h;clear h;have h:=hc;clear hc;refine Cut.mk (mkSt [(0,.im (nL cI a_)),(1,.im (nL cI b_)),(5,.im (nI (a7:Int))),(26,.im (nB b4))] [] []) (lZ a_/\lZ b_/\True) ((zlH 0 rfl).and ((zlH 1 rfl).and (hT))) ?_ (λhp=>?_);refine zlF a_.length zak<|zlC ?_ ?_<;>intro a6;replace a6:=zc6 a6;obtain⟨h,a8⟩:=ctd a6 h
 iterate 2 (refine zlD (zbj a6) ?_)
 refine zlF b_.length zak<|zlD (zbj a6)<|zlD a6<|zlC ?_ ?_<;>intro a2;replace a2:=zc6 a2;obtain⟨h,b0⟩:=ctd a2 h
 iterate 2 (refine zlD (zbj a2) ?_)
 obtain⟨b8,a5,h⟩:=zac h;refine⟨_,⟨(by omega),zad a5,rfl⟩,?_⟩
 iterate 4 (refine zlD (zbj a2) ?_)
 obtain⟨b9,a4,h⟩:=zac h;refine⟨_,⟨(by omega),zad a4,rfl⟩,?_⟩
 iterate 2 (refine zlD (zbj a2) ?_)
 refine zlD a2 ?_;cases h;exact zlG (eA []);replace a2:=zc9 a2;obtain⟨h,b0⟩:=cfd a2 h
 iterate 8 (refine zlE (zdk a2) ?_)
 refine zlE a2 ?_;cases h;exact zlG (eA []);replace a6:=zc9 a6;obtain⟨h,a8⟩:=cfd a6 h
 iterate 3 (refine zlE (zdk a6) ?_)
 refine zlE a6 ?_
 iterate 10 (refine zlE rfl ?_)
 cases h;exact zlG (eA []);replace h:=a3;obtain⟨c0,c6,_⟩:=hp;refine zlC ?_ ?_<;>intro b2;replace h:=zbq b2 h;obtain⟨b5,h⟩:=zan h;refine zbt.mk b5 ?_;cases h;exact zlK _ a0 (eA []);replace h:=zbp b2 h;cases h;have a0:_=_:=a0;cases a0;exact zlG (eA []);replace h:=a9;cases h;exact⟨rfl,rfl⟩
def zh9(a_:yab)(b_:yab)(r:Bool)(h:Ok (nL cI a_)->Ok (nL cI b_)->zgf a_ b_=some r):Sp Tryz.prog 33 [.im (nL cI a_),.im (nL cI b_)] (.im (nB r)):=by
 refine zce rfl [] rfl rfl rfl (zkE rfl) rfl λhk=>?_;replace h:=h hk.1 hk.2.1;have z1:lZ a_:=zat hk.1;have z2:lZ b_:=zat hk.2.1;unfold zgf at h;obtain⟨a7,hc,a0⟩:=zlA h;clear h;have h:=hc;clear hc;refine Cut.mk (mkSt [(4,.im (nB a7))] [] []) (True) (hT) ?_ (λhp=>?_);refine zlF a_.length zak<|zlF b_.length zak<|zlC ?_ ?_<;>intro a2;replace a2:=zc6 a2;obtain⟨h,a6⟩:=ctd a2 h
 iterate 2 (refine zlD (zbj a2) ?_)
 obtain⟨a8,a3,h⟩:=zlA h;refine⟨_,(zhm a_ b_ a8 (λ_ _=>a3)),?_⟩
 iterate 2 (refine zlD (zbj a2) ?_)
 refine zlF a_.length zak<|zlD (zbj a2)<|zlD a2 ?_;cases h;exact zlG (eA []);replace a2:=zc9 a2;obtain⟨h,a6⟩:=cfd a2 h
 iterate 5 (refine zlE (zdk a2) ?_)
 refine zlE a2 ?_;cases h;exact zlG (eA []);replace h:=a0;cases h;exact⟨rfl,rfl⟩
def sp_R01_Lex(a_:yab)(b_:yab)(r:Int)(h:Ok (nL cI a_)->Ok (nL cI b_)->zq6 a_ b_=some r):Sp Tryz.prog 75 [.im (nL cI a_),.im (nL cI b_)] (.im (nI r)):=by
 refine zce rfl [] rfl rfl rfl (zkE rfl) rfl λhk=>?_;replace h:=h hk.1 hk.2.1;have z1:lZ a_:=zat hk.1;have z2:lZ b_:=zat hk.2.1;unfold zq6 at h;obtain⟨b2,a9,h⟩:=zlA h;refine⟨_,(zhm a_ b_ b2 (λ_ _=>a9)),?_⟩;obtain⟨b6,hc,c7⟩:=zlA h;clear h;have h:=hc;clear hc;refine Cut.mk (mkSt [(0,.im (nL cI a_)),(1,.im (nL cI b_)),(5,.im (nI b2)),(9,.im (nB b6))] [] []) (lZ a_/\lZ b_/\True) ((zlH 0 rfl).and ((zlH 1 rfl).and (hT))) ?_ (λhp=>?_);refine zlF a_.length zak<|zlC ?_ ?_<;>intro a6;replace a6:=zc6 a6;obtain⟨h,a7⟩:=ctd a6 h
 iterate 2 (refine zlD (zbj a6) ?_)
 refine zlF b_.length zak<|zlD (zbj a6)<|zlD a6 ?_;cases h;exact zlG (eA []);replace a6:=zc9 a6;obtain⟨h,a7⟩:=cfd a6 h
 iterate 3 (refine zlE (zdk a6) ?_)
 refine zlE a6 ?_;cases h;exact zlG (eA []);replace h:=c7;obtain⟨b8,b9,_⟩:=hp;refine zlC ?_ ?_<;>intro b3;replace h:=zbq b3 h;cases h;exact⟨rfl,rfl⟩;replace h:=zbp b3 h;obtain⟨b7,hc,a4⟩:=zlA h;clear h;have h:=hc;clear hc;refine Cut.mk (mkSt [(20,.im (nB b7))] [] []) (True) (hT) ?_ (λhp=>?_);refine zlF a_.length zak<|zlC ?_ ?_<;>intro b4;obtain⟨h,a8⟩:=ctd b4 h;cases h;exact zlG (eA []);obtain⟨h,a8⟩:=cfd b4 h;refine zlF b_.length zak<|zlC ?_ ?_<;>intro a2;replace a2:=zc6 a2;obtain⟨h,b0⟩:=ctd a2 h
 iterate 2 (refine zlD (zbj a2) ?_)
 obtain⟨c0,a0,c8,h⟩:=zar h;refine⟨_,⟨a0,zad c8,rfl⟩,?_⟩
 iterate 4 (refine zlD (zbj a2) ?_)
 obtain⟨c6,a3,a5,h⟩:=zar h;refine⟨_,⟨a3,zad a5,rfl⟩,?_⟩
 iterate 2 (refine zlD (zbj a2) ?_)
 refine zlD a2 ?_;cases h;exact zlG (eA []);replace a2:=zc9 a2;obtain⟨h,b0⟩:=cfd a2 h
 iterate 8 (refine zlE (zdk a2) ?_)
 refine zlE a2 ?_;cases h;exact zlG (eA []);replace h:=a4;refine zlC ?_ ?_<;>intro b5;replace h:=zbq b5 h;cases h;exact⟨rfl,rfl⟩;replace h:=zbp b5 h;cases h;exact⟨rfl,rfl⟩
def zi3(a_:yab)(b_:yab)(r:Int)(h:Ok (nL cI a_)->Ok (nL cI b_)->zf6 a_ b_=some r):Sp Tryz.prog 34 [.im (nL cI a_),.im (nL cI b_)] (.im (nI r)):=by
 refine zce rfl [] rfl rfl rfl (zkE rfl) rfl λhk=>?_;replace h:=h hk.1 hk.2.1;have z1:lZ a_:=zat hk.1;have z2:lZ b_:=zat hk.2.1;unfold zf6 at h;refine zlF a_.length zak<|zlF b_.length zak<|zlC ?_ ?_<;>intro a7;obtain⟨h,a2⟩:=ctd a7 h;cases h;exact⟨rfl,rfl⟩;obtain⟨h,a2⟩:=cfd a7 h;refine zlF a_.length zak<|zlF b_.length zak<|zlC ?_ ?_<;>intro a8;obtain⟨h,a6⟩:=ctd a8 h;cases h;exact⟨rfl,rfl⟩;obtain⟨h,a6⟩:=cfd a8 h;obtain⟨b0,a0,h⟩:=zlA h;refine⟨_,(sp_R01_Lex a_ b_ b0 (λ_ _=>a0)),?_⟩;cases h;exact⟨rfl,rfl⟩
def sp_R02_Has(l_:yaa)(w_:yab)(r:Bool)(h:Ok (nL (cL cI) l_)->Ok (nL cI w_)->zgs l_ w_=some r):Sp Tryz.prog 35 [.im (nL (cL cI) l_),.im (nL cI w_)] (.im (nB r)):=by
 refine zce rfl [] rfl rfl rfl (zkE rfl) rfl λhk=>?_;replace h:=h hk.1 hk.2.1;have z1:lZ l_:=zat hk.1;have z2:lZ w_:=zat hk.2.1;unfold zgs at h;obtain⟨oc,hc,a3⟩:=zlA h;clear h;have h:=hc;clear hc;refine zlJ oc (Y:=Unit) (λ(_:Unit)=>mkSt [] [] []) (λ(_:Unit)=>True) (by rintro⟨⟩;exact(hT)) ?_ ?_;refine zb7.iter (λ(s:Nat)=>zgs.s2 l_ w_ s) (λa2=>mkSt [(0,.im (nL (cL cI) l_)),(1,.im (nL cI w_)),(5,.im (nI (a2:Int)))] [] []) (λa2=>lZ l_/\lZ w_/\True) h (eA []) (by rintro a2;exact((zlH 0 rfl).and ((zlH 1 rfl).and (hT)))) ?_;clear h;rintro k a2 o hp h a0;replace h:zgs.s2 l_ w_ a2=some o:=h;unfold zgs.s2 at h;obtain⟨b3,b4,_⟩:=hp;refine zlF l_.length zak<|zlC ?_ ?_<;>intro a7;obtain⟨h,a6⟩:=ctd a7 h;obtain⟨b0,a5,h⟩:=zac h;refine⟨_,⟨(by omega),zad a5,rfl⟩,?_⟩;obtain⟨b2,a4,h⟩:=zlA h;refine⟨_,(zh9 b0 w_ b2 (λ_ _=>a4)),?_⟩;refine zlC ?_ ?_<;>intro a8;replace h:=zbq a8 h;cases h;have a0:_=_:=a0;cases a0;replace h:some _=some _:=a3;cases h;exact⟨rfl,rfl⟩;replace h:=zbp a8 h;refine zbt.mk (by show inR _;unfold inR;omega) ?_;cases h;exact zlK _ a0 (eA []);obtain⟨h,a6⟩:=cfd a7 h;cases h;have a0:_=_:=a0;cases a0;exact zdn.mk' _ rfl (eA []);rintro⟨⟩ rfl hp;replace h:=zcf a3;cases h;exact⟨rfl,rfl⟩
def sp_R02_place(l_:yaa)(w_:yab)(r:Int)(h:Ok (nL (cL cI) l_)->Ok (nL cI w_)->zfi l_ w_=some r):Sp Tryz.prog 105 [.im (nL (cL cI) l_),.im (nL cI w_)] (.im (nI r)):=by
 refine zce rfl [] rfl rfl rfl (zkE rfl) rfl λhk=>?_;replace h:=h hk.1 hk.2.1;have z1:lZ l_:=zat hk.1;have z2:lZ w_:=zat hk.2.1;unfold zfi at h;refine zlF l_.length zak ?_;obtain⟨a5,hc,b8⟩:=zlA h;clear h;have h:=hc;clear hc;refine Cut.mk (mkSt [(5,.im (nI (a5:Int)))] [] []) (True) (hT) ?_ (λhp=>?_);refine zb7.iter (λ(s:Nat×Nat)=>zfi.s2 l_ w_ s.1 s.2) (λ(a3,a0)=>mkSt [(0,.im (nL (cL cI) l_)),(1,.im (nL cI w_)),(5,.im (nI (a3:Int))),(6,.im (nI (a0:Int)))] [] []) (λ(a3,a0)=>lZ l_/\lZ w_/\True) h (eA []) (by rintro⟨a3,a0⟩;exact((zlH 0 rfl).and ((zlH 1 rfl).and (hT)))) ?_;clear h;rintro k ⟨a3,a0⟩ o hp h a4;replace h:zfi.s2 l_ w_ a3 a0=some o:=h;unfold zfi.s2 at h;obtain⟨b2,b3,_⟩:=hp;refine zlC ?_ ?_<;>intro a8;obtain⟨h,a2⟩:=ctd a8 h;obtain⟨b4,h⟩:=zan h;refine zbt.mk b4 ?_;obtain⟨b5,h⟩:=zan h;refine zlB b5 ?_;obtain⟨b6,b9,h⟩:=zac h;refine⟨_,⟨(by omega),zad b9,rfl⟩,?_⟩;obtain⟨b7,a9,h⟩:=zlA h;refine⟨_,(zi3 b6 w_ b7 (λ_ _=>a9)),?_⟩;refine zlC ?_ ?_<;>intro b0;obtain⟨h,a6⟩:=ctd b0 h;obtain⟨a7,h⟩:=zan h;refine zbt.mk a7 ?_;cases h;exact zlK _ a4 (eA []);obtain⟨h,a6⟩:=cfd b0 h;cases h;exact zlK _ a4 (eA []);obtain⟨h,a2⟩:=cfd a8 h;cases h;have a4:_=_:=a4;cases a4;exact zlG (eA []);replace h:=b8;cases h;exact⟨rfl,rfl⟩
def zqw(l_:yaa)(w_:yab)(r:yaa)(h:OkL (List.map (cL cI) l_)->Ok (nL cI w_)->zfp l_ w_=some r):Sp Tryz.prog 72 [.row 60 1 (List.map (cL cI) l_),.im (nL cI w_)] (.row 60 1 (List.map (cL cI) r)):=by
 refine zce rfl [44,500009] rfl rfl rfl (zkE rfl) rfl λhk=>?_;replace h:=h hk.1 hk.2.1;have z1:lZ l_:=okl_len hk.1;have z2:lZ w_:=zat hk.2.1;unfold zfp at h;refine zlB ⟨rfl,trivial⟩ ?_;obtain⟨a6,e4,h⟩:=zlA h;refine⟨_,(sp_R02_place l_ w_ a6 (λ_ _=>e4)),?_⟩;refine zlB zhl ?_;obtain⟨c0,hc,e5⟩:=zlA h;clear h;have h:=hc;clear hc;refine Cut.mk (mkSt [(0,.osl 64 1),(1,.im (nL cI w_)),(5,.im (nI a6)),(21,.im (nB c0))] [(64,.row 60 1 (List.map (cL cI) l_))] []) (lZ w_/\lZ l_/\True) ((zlH 1 rfl).and ((Holds.kdl 64 rfl).and (hT))) ?_ (λhp=>?_);refine zlB rfl<|zlF l_.length zak<|zlC ?_ ?_<;>intro a2;replace a2:=zc6 a2;obtain⟨h,b3⟩:=ctd a2 h
 iterate 2 (refine zlD (zbj a2) ?_)
 obtain⟨c6,e1,e0,h⟩:=zar h;refine zlB ⟨e1,rfl,za0 e0⟩<|zlD (zbj a2)<|⟨_,_,⟨rfl,zad e0,rfl,rfl⟩,?_⟩
 iterate 2 (refine zlD (zbj a2) ?_)
 obtain⟨c7,e3,h⟩:=zlA h;refine⟨_,(zh9 c6 w_ c7 (λ_ _=>e3)),?_⟩;refine zlD a2 ?_;cases h;exact zlG (eA [(64,some 0)]);replace a2:=zc9 a2;obtain⟨h,b3⟩:=cfd a2 h
 iterate 5 (refine zlE (zdk a2) ?_)
 refine zlE a2 ?_;cases h;exact zlG (eA [(64,some 0)]);replace h:=e5;obtain⟨d6,d7,_⟩:=hp;refine zlC ?_ ?_<;>intro b9;replace h:=zbq b9 h;cases h;exact zlB ⟨rfl,trivial⟩ ⟨rfl,rfl⟩;replace h:=zbp b9 h;obtain⟨c8,h⟩:=zan h;refine zlB ⟨rfl,zck (l:=[[]]) (c:=cL cI) λ_=>rfl,show za5 _ 24 by simpa only[zkK,zkL,ya8,yal]using c8⟩ ?_;refine zlF (List.map (cL cI) (l_++[[]])) (zcj (l:=l_) (m:=[[]]) (c:=cL cI))<|zlB rfl<|zlF (List.length (l_++[[]])) zak ?_;obtain⟨c9,h⟩:=zan h;refine zbt.mk c9 ?_;obtain⟨b4,hc,e2⟩:=zlA h;clear h;have h:=hc;clear hc;refine Cut.mk (mkSt [(0,.osl 64 1),(1,.im (nL cI w_)),(5,.im (nI a6))] [(64,.row 60 1 (List.map (cL cI) b4))] []) (lZ w_/\lZ b4/\True) ((zlH 1 rfl).and ((Holds.kdl 64 rfl).and (hT))) ?_ (λhp=>?_);refine zb7.iter (λ(s:yaa×Int)=>zfp.s2 a6 s.1 s.2) (λ(a7,a8)=>mkSt [(0,.osl 64 1),(1,.im (nL cI w_)),(5,.im (nI a6)),(6,.im (nI a8))] [(64,.row 60 1 (List.map (cL cI) a7))] []) (λ(a7,a8)=>lZ w_/\lZ a7/\True) h (eA [(64,some 64)]) (by rintro⟨a7,a8⟩;exact((zlH 1 rfl).and ((Holds.kdl 64 rfl).and (hT)))) ?_;clear h;rintro k ⟨a7,a8⟩ o hp h a0;replace h:zfp.s2 a6 a7 a8=some o:=h;unfold zfp.s2 at h;obtain⟨d0,d1,_⟩:=hp;refine zlC ?_ ?_<;>intro b0;obtain⟨h,b2⟩:=ctd b0 h;obtain⟨b5,h⟩:=zan h;refine zbt.mk b5 ?_;obtain⟨b6,d9,a4,h⟩:=zar h;refine zlB ⟨d9,rfl,za0 a4⟩<|⟨_,_,⟨rfl,zad a4,rfl,rfl⟩,?_⟩;obtain⟨d2,d8,a5,h⟩:=zar h;refine zlB ⟨d8,rfl,za0 a5⟩<|zlB ⟨rfl,trivial⟩<|⟨_,zad a5,?_⟩;refine zlF (List.map (cL cI) (List.set a7 a8.toNat b6)) (zc2 rfl) ?_;obtain⟨b7,h⟩:=zan h;refine zbt.mk b7 ?_;cases h;exact zlK _ a0 (eA [(64,some 64)]);obtain⟨h,b2⟩:=cfd b0 h;cases h;have a0:_=_:=a0;cases a0;exact zlG (eA [(64,some 64)]);replace h:=e2;obtain⟨d3,d4,_⟩:=hp;obtain⟨b8,h⟩:=zan h;refine zlB ⟨rfl,zck (l:=w_) (c:=cI) λ_=>rfl,show za5 _ 8 by simpa only[zkK,zkL,ya8,yal]using b8⟩ ?_;refine zlF (List.map cI ([]++w_)) (zcj (l:=[]) (m:=w_) (c:=cI)) ?_;obtain⟨d5,a9,a3,h⟩:=zar h;refine zlB ⟨a9,rfl,za0 a3⟩<|zlB ⟨rfl,rfl,trivial⟩<|⟨_,zad a3,?_⟩;refine zlF (List.map (cL cI) (List.set b4 a6.toNat ([]++w_))) (zc2 rfl) ?_;cases h;exact zlB ⟨rfl,trivial⟩ ⟨rfl,rfl⟩
def zkv(l_:yaa)(r:yaa)(h:Ok (nL (cL cI) l_)->zcd l_=some r):Sp Tryz.prog 36 [.im (nL (cL cI) l_)] (.row 60 1 (List.map (cL cI) r)):=by
 refine zce rfl [29000] rfl rfl rfl (zkE rfl) rfl λhk=>?_;replace h:=h hk.1;have z1:lZ l_:=zat hk.1;unfold zcd at h;obtain⟨b2,hc,d5⟩:=zlA h;clear h;have h:=hc;clear hc;refine Cut.mk (mkSt [(3,.osl 64 1)] [(64,.row 60 1 (List.map (cL cI) b2))] []) (lZ b2/\True) ((Holds.kdl 64 rfl).and (hT)) ?_ (λhp=>?_);refine zb7.iter (λ(s:yaa×Nat)=>zcd.s14 l_ s.1 s.2) (λ(a8,a2)=>mkSt [(0,.im (nL (cL cI) l_)),(3,.osl 64 1),(4,.im (nI (a2:Int)))] [(64,.row 60 1 (List.map (cL cI) a8))] []) (λ(a8,a2)=>lZ l_/\lZ a8/\True) h (eA [(64,none)]) (by rintro⟨a8,a2⟩;exact((zlH 0 rfl).and ((Holds.kdl 64 rfl).and (hT)))) ?_;clear h;rintro k ⟨a8,a2⟩ o hp h a3;replace h:zcd.s14 l_ a8 a2=some o:=h;unfold zcd.s14 at h;obtain⟨c6,c7,_⟩:=hp;refine zlF l_.length zak<|zlC ?_ ?_<;>intro b3;obtain⟨h,b4⟩:=ctd b3 h;obtain⟨b5,hc,a5⟩:=zlA h;clear h;have h:=hc;clear hc;refine Cut.mk (mkSt [(0,.im (nL (cL cI) l_)),(3,.osl 64 1),(4,.im (nI (a2:Int)))] [(64,.row 60 1 (List.map (cL cI) b5))] []) (lZ l_/\lZ b5/\True) ((zlH 0 rfl).and ((Holds.kdl 64 rfl).and (hT))) ?_ (λhp=>?_);refine zb7.iter (λ(s:yaa×Nat)=>zcd.s13 l_ a2 s.1 s.2) (λ(a7,a6)=>mkSt [(0,.im (nL (cL cI) l_)),(3,.osl 64 1),(4,.im (nI (a2:Int))),(5,.im (nI (a6:Int)))] [(64,.row 60 1 (List.map (cL cI) a7))] []) (λ(a7,a6)=>lZ l_/\lZ a7/\True) h (eA [(64,some 64)]) (by rintro⟨a7,a6⟩;exact((zlH 0 rfl).and ((Holds.kdl 64 rfl).and (hT)))) ?_;clear h;rintro k ⟨a7,a6⟩ o hp h a0;replace h:zcd.s13 l_ a2 a7 a6=some o:=h;unfold zcd.s13 at h;obtain⟨c8,c9,_⟩:=hp;obtain⟨b8,a9,h⟩:=zac h;refine⟨_,⟨(by omega),zad a9,rfl⟩,?_⟩;refine zlF b8.length zak<|zlC ?_ ?_<;>intro b6;obtain⟨h,b7⟩:=ctd b6 h;obtain⟨b0,a4,h⟩:=zac h;refine⟨_,⟨(by omega),zad a4,rfl⟩,?_⟩;obtain⟨d0,h⟩:=zan h;refine zlB (show(0:Int)<=(0:Int)/\(0:Int)<=(a6:Int)/\(a6:Int)<=(↑(List.length (List.map cI b0)):Int)/\(∀e∈List.map cI b0,List.length e=1) from⟨by omega,by first|omega|(simp only[zkK];omega),by first|omega|(simp only[zkK];omega),zck λ_=>rfl⟩) ?_
 refine zlF (List.map cI (List.take a6 b0)) zmr<|zlB ⟨rfl,trivial⟩ ?_;obtain⟨b9,d4,h⟩:=zlA h;refine⟨_,(zqw a7 (List.take a6 b0) b9 (λ_ _=>d4)),?_⟩;obtain⟨c0,h⟩:=zan h;refine zbt.mk c0 ?_;cases h;exact zlK _ a0 (eA [(64,some 28)]);obtain⟨h,b7⟩:=cfd b6 h;cases h;have a0:_=_:=a0;cases a0;exact zlG (eA [(64,some 64)]);replace h:=a5;obtain⟨d1,d2,_⟩:=hp;refine zbt.mk (by show inR _;unfold inR;omega) ?_;cases h;exact zlK _ a3 (eA [(64,some 64)]);obtain⟨h,b4⟩:=cfd b3 h;cases h;have a3:_=_:=a3;cases a3;exact zlG (eA [(64,some 64)]);replace h:=d5;obtain⟨d3,_⟩:=hp;cases h;exact zlB ⟨rfl,trivial⟩ ⟨rfl,rfl⟩
def zed(a_:yaa)(b_:yaa)(r:Bool)(h:Ok (nL (cL cI) a_)->Ok (nL (cL cI) b_)->zcg a_ b_=some r):Sp Tryz.prog 28 [.im (nL (cL cI) a_),.im (nL (cL cI) b_)] (.im (nB r)):=by
 refine zce rfl [] rfl rfl rfl (zkE rfl) rfl λhk=>?_;replace h:=h hk.1 hk.2.1;have z1:lZ a_:=zat hk.1;have z2:lZ b_:=zat hk.2.1;unfold zcg at h;refine zlF a_.length zak<|zlF b_.length zak<|zlC ?_ ?_<;>intro a8;obtain⟨h,a6⟩:=ctd a8 h;cases h;exact⟨rfl,rfl⟩;obtain⟨h,a6⟩:=cfd a8 h;obtain⟨oc,hc,a3⟩:=zlA h;clear h;have h:=hc;clear hc;refine zlJ oc (Y:=Unit) (λ(_:Unit)=>mkSt [] [] []) (λ(_:Unit)=>True) (by rintro⟨⟩;exact(hT)) ?_ ?_;refine zb7.iter (λ(s:Nat)=>zcg.s2 a_ b_ s) (λa2=>mkSt [(0,.im (nL (cL cI) a_)),(1,.im (nL (cL cI) b_)),(5,.im (nI (a2:Int)))] [] []) (λa2=>lZ a_/\lZ b_/\True) h (eA []) (by rintro a2;exact((zlH 0 rfl).and ((zlH 1 rfl).and (hT)))) ?_;clear h;rintro k a2 o hp h a0;replace h:zcg.s2 a_ b_ a2=some o:=h;unfold zcg.s2 at h;obtain⟨b6,b7,_⟩:=hp;refine zlF a_.length zak<|zlC ?_ ?_<;>intro b0;obtain⟨h,a7⟩:=ctd b0 h;obtain⟨b3,a9,h⟩:=zac h;refine⟨_,⟨(by omega),zad a9,rfl⟩,?_⟩;obtain⟨b4,a5,h⟩:=zac h;refine⟨_,⟨(by omega),zad a5,rfl⟩,?_⟩;obtain⟨b5,a4,h⟩:=zlA h;refine⟨_,(zh9 b3 b4 b5 (λ_ _=>a4)),?_⟩;refine zlC ?_ ?_<;>intro b2;replace h:=zbq b2 h;cases h;have a0:_=_:=a0;cases a0;replace h:some _=some _:=a3;cases h;exact⟨rfl,rfl⟩;replace h:=zbp b2 h;refine zbt.mk (by show inR _;unfold inR;omega) ?_;cases h;exact zlK _ a0 (eA []);obtain⟨h,a7⟩:=cfd b0 h;cases h;have a0:_=_:=a0;cases a0;exact zdn.mk' _ rfl (eA []);rintro⟨⟩ rfl hp;replace h:=zcf a3;cases h;exact⟨rfl,rfl⟩
def sp_R02_Sorted(l_:yaa)(r:yaa)(h:Ok (nL (cL cI) l_)->zeb l_=some r):Sp Tryz.prog 29 [.im (nL (cL cI) l_)] (.row 60 1 (List.map (cL cI) r)):=by
 refine zce rfl [17000] rfl rfl rfl (zkE rfl) rfl λhk=>?_;replace h:=h hk.1;have z1:lZ l_:=zat hk.1;unfold zeb at h;obtain⟨a8,hc,a4⟩:=zlA h;clear h;have h:=hc;clear hc;refine Cut.mk (mkSt [(3,.osl 64 1)] [(64,.row 60 1 (List.map (cL cI) a8))] []) (lZ a8/\True) ((Holds.kdl 64 rfl).and (hT)) ?_ (λhp=>?_);refine zb7.iter (λ(s:yaa×Nat)=>zeb.s2 l_ s.1 s.2) (λ(a2,a6)=>mkSt [(0,.im (nL (cL cI) l_)),(3,.osl 64 1),(4,.im (nI (a6:Int)))] [(64,.row 60 1 (List.map (cL cI) a2))] []) (λ(a2,a6)=>lZ l_/\lZ a2/\True) h (eA [(64,none)]) (by rintro⟨a2,a6⟩;exact((zlH 0 rfl).and ((Holds.kdl 64 rfl).and (hT)))) ?_;clear h;rintro k ⟨a2,a6⟩ o hp h a0;replace h:zeb.s2 l_ a2 a6=some o:=h;unfold zeb.s2 at h;obtain⟨b4,b5,_⟩:=hp;refine zlF l_.length zak<|zlC ?_ ?_<;>intro b0;obtain⟨h,a7⟩:=ctd b0 h;obtain⟨b2,a3,h⟩:=zac h;refine⟨_,⟨(by omega),zad a3,rfl⟩,?_⟩;refine zlB ⟨rfl,trivial⟩ ?_;obtain⟨b3,a5,h⟩:=zlA h;refine⟨_,(zqw a2 b2 b3 (λ_ _=>a5)),?_⟩;refine zbt.mk (by show inR _;unfold inR;omega) ?_;cases h;exact zlK _ a0 (eA [(64,some 16)]);obtain⟨h,a7⟩:=cfd b0 h;cases h;have a0:_=_:=a0;cases a0;exact zlG (eA [(64,some 64)]);replace h:=a4;obtain⟨b6,_⟩:=hp;cases h;exact zlB ⟨rfl,trivial⟩ ⟨rfl,rfl⟩
def sp_R35_Large(o_:zav)(r:Bool)(h:Ok (.agg (zba o_))->ze0 o_=some r):Sp Tryz.prog 12 [.im (.agg (zba o_))] (.im (nB r)):=by
 refine zce rfl [700001] rfl rfl rfl (zkE rfl) rfl λhk=>?_;replace h:=h hk.1;have z1:lZ o_.Traces:=zat (zlI hk.1 1 rfl);unfold ze0 at h;obtain⟨c0,hc,a9⟩:=zlA h;clear h;have h:=hc;clear hc;refine Cut.mk (mkSt [(1,.im (.ref (zba o_))),(3,.im (nI (c0:Int)))] [] []) (True) (hT) ?_ (λhp=>?_);refine zb7.iter (λ(s:Nat×Nat)=>ze0.s2 o_ s.1 s.2) (λ(a7,a8)=>mkSt [(1,.im (.ref (zba o_))),(3,.im (nI (a7:Int))),(4,.im (nI (a8:Int)))] [] []) (λ(a7,a8)=>True) h (eA []) (by rintro⟨a7,a8⟩;exact(hT)) ?_;clear h;rintro k ⟨a7,a8⟩ o hp h a0;replace h:ze0.s2 o_ a7 a8=some o:=h;unfold ze0.s2 at h;obtain⟨b4,hc,a3⟩:=zlA h;clear h;have h:=hc;clear hc;refine Cut.mk (mkSt [(1,.im (.ref (zba o_))),(3,.im (nI (a7:Int))),(4,.im (nI (a8:Int))),(13,.im (nB b4))] [] []) (True) (hT) ?_ (λhp=>?_);refine zlF o_.Traces.length zak<|zlC ?_ ?_<;>intro a2;replace a2:=zc6 a2;obtain⟨h,b0⟩:=ctd a2 h;refine zlD (zbj a2)<|zlD a2 ?_;cases h;exact zlG (eA []);replace a2:=zc9 a2;obtain⟨h,b0⟩:=cfd a2 h;refine zlE (zdk a2)<|zlE a2 ?_;cases h;exact zlG (eA []);replace h:=a3;refine zlC ?_ ?_<;>intro b2;replace h:=zbq b2 h;obtain⟨b5,h⟩:=zan h;refine zbt.mk b5 ?_;obtain⟨b6,a4,h⟩:=zac h;refine⟨_,⟨(by omega),zad a4,rfl⟩,?_⟩;refine zlF b6.In.length zak ?_;obtain⟨b7,h⟩:=zan h;refine zbt.mk b7 ?_;obtain⟨b8,h⟩:=zan h;refine zbt.mk b8 ?_;cases h;exact zlK _ a0 (eA []);replace h:=zbp b2 h;cases h;have a0:_=_:=a0;cases a0;exact zlG (eA []);replace h:=a9;obtain⟨b9,hc,a5⟩:=zlA h;clear h;have h:=hc;clear hc;refine Cut.mk (mkSt [(2,.im (nB b9))] [] []) (True) (hT) ?_ (λhp=>?_);refine zlC ?_ ?_<;>intro a6;replace a6:=zdd a6;obtain⟨h,b3⟩:=cfd a6 h
 iterate 2 (refine zlD (zbw a6) ?_)
 refine zlE a6 ?_;cases h;exact zlG (eA []);replace a6:=zde a6;obtain⟨h,b3⟩:=ctd a6 h
 iterate 2 (refine zlE (zdf a6) ?_)
 refine zlD a6 ?_;cases h;exact zlG (eA []);replace h:=a5;cases h;exact⟨rfl,rfl⟩
def sp_R01_Size(inputs_:Int)(r:Bool)(h:Ok (nI inputs_)->zno inputs_=some r):Sp Tryz.prog 80 [.im (nI inputs_)] (.im (nB r)):=by
 refine zce rfl [] rfl rfl rfl (zkE rfl) rfl λhk=>?_;replace h:=h hk.1;unfold zno at h;obtain⟨a7,hc,a0⟩:=zlA h;clear h;have h:=hc;clear hc;refine Cut.mk (mkSt [(2,.im (nB a7))] [] []) (True) (hT) ?_ (λhp=>?_);refine zlC ?_ ?_<;>intro a2;replace a2:=zc6 a2;obtain⟨h,a6⟩:=ctd a2 h;refine zlD (zbj a2)<|zlD a2 ?_;cases h;exact zlG (eA []);replace a2:=zc9 a2;obtain⟨h,a6⟩:=cfd a2 h;refine zlE (zdk a2)<|zlE a2 ?_;cases h;exact zlG (eA []);replace h:=a0;cases h;exact⟨rfl,rfl⟩
def zo6(w_:yab)(inputs_:Int)(r:Int)(h:Ok (nL cI w_)->Ok (nI inputs_)->zej w_ inputs_=some r):Sp Tryz.prog 42 [.im (nL cI w_),.im (nI inputs_)] (.im (nI r)):=by
 refine zce rfl [] rfl rfl rfl (zkE rfl) rfl λhk=>?_;replace h:=h hk.1 hk.2.1;have z1:lZ w_:=zat hk.1;unfold zej at h;obtain⟨b7,c7,h⟩:=zlA h;refine⟨_,(sp_R01_Size inputs_ b7 (λ_=>c7)),?_⟩;refine zlC ?_ ?_<;>intro b5;replace h:=zbq b5 h;cases h;exact⟨rfl,rfl⟩;replace h:=zbp b5 h;refine zlF w_.length zak<|zlC ?_ ?_<;>intro b6;obtain⟨h,b3⟩:=ctd b6 h;cases h;exact⟨rfl,rfl⟩;obtain⟨h,b3⟩:=cfd b6 h;obtain⟨oc,hc,a3⟩:=zlA h;clear h;have h:=hc;clear hc;refine zlJ oc (Y:=Unit) (λ(_:Unit)=>mkSt [] [] []) (λ(_:Unit)=>True) (by rintro⟨⟩;exact(hT)) ?_ ?_;refine zb7.iter (λ(s:Nat)=>zej.s2 w_ inputs_ s) (λa6=>mkSt [(0,.im (nL cI w_)),(1,.im (nI inputs_)),(5,.im (nI (a6:Int)))] [] []) (λa6=>lZ w_/\True) h (eA []) (by rintro a6;exact((zlH 0 rfl).and (hT))) ?_;clear h;rintro k a6 o hp h a0;replace h:zej.s2 w_ inputs_ a6=some o:=h;unfold zej.s2 at h;obtain⟨b8,_⟩:=hp;refine zlF w_.length zak<|zlC ?_ ?_<;>intro a7;obtain⟨h,a8⟩:=ctd a7 h;obtain⟨b4,hc,a4⟩:=zlA h;clear h;have h:=hc;clear hc;refine Cut.mk (mkSt [(0,.im (nL cI w_)),(1,.im (nI inputs_)),(5,.im (nI (a6:Int))),(30,.im (nB b4))] [] []) (lZ w_/\True) ((zlH 0 rfl).and (hT)) ?_ (λhp=>?_);obtain⟨b9,a9,h⟩:=zac h;refine⟨_,⟨(by omega),zad a9,rfl⟩,?_⟩;refine zlC ?_ ?_<;>intro a2;replace a2:=zdd a2;obtain⟨h,b0⟩:=cfd a2 h
 iterate 2 (refine zlD (zbw a2) ?_)
 obtain⟨c0,a5,h⟩:=zac h;refine⟨_,⟨(by omega),zad a5,rfl⟩,?_⟩
 iterate 3 (refine zlD (zbw a2) ?_)
 refine zlE a2 ?_;cases h;exact zlG (eA []);replace a2:=zde a2;obtain⟨h,b0⟩:=ctd a2 h
 iterate 5 (refine zlE (zdf a2) ?_)
 refine zlD a2 ?_;cases h;exact zlG (eA []);replace h:=a4;obtain⟨c6,_⟩:=hp;refine zlC ?_ ?_<;>intro b2;replace h:=zbq b2 h;cases h;have a0:_=_:=a0;cases a0;replace h:some _=some _:=a3;cases h;exact⟨rfl,rfl⟩;replace h:=zbp b2 h;refine zbt.mk (by show inR _;unfold inR;omega) ?_;cases h;exact zlK _ a0 (eA []);obtain⟨h,a8⟩:=cfd a7 h;cases h;have a0:_=_:=a0;cases a0;exact zdn.mk' _ rfl (eA []);rintro⟨⟩ rfl hp;replace h:=zcf a3;cases h;exact⟨rfl,rfl⟩
def sp_R16_Proper(t_:zag)(inputs_:Int)(r:Int)(h:Ok (.agg (zau t_))->Ok (nI inputs_)->zea t_ inputs_=some r):Sp Tryz.prog 43 [.im (.agg (zau t_)),.im (nI inputs_)] (.im (nI r)):=by
 refine zce rfl [700002] rfl rfl rfl (zkE rfl) rfl λhk=>?_;replace h:=h hk.1 hk.2.1;have z1:lZ t_.In:=zat (zlI hk.1 0 rfl);have z2:lZ t_.Out:=zat (zlI hk.1 1 rfl);unfold zea at h;obtain⟨b8,c6,h⟩:=zlA h;refine⟨_,(zo6 t_.In inputs_ b8 (λ_ _=>c6)),?_⟩;refine zlC ?_ ?_<;>intro b6;obtain⟨h,b3⟩:=ctd b6 h;cases h;exact⟨rfl,rfl⟩;obtain⟨h,b3⟩:=cfd b6 h;refine zlF t_.Out.length zak<|zlF t_.In.length zak<|zlC ?_ ?_<;>intro b7;obtain⟨h,b4⟩:=ctd b7 h;cases h;exact⟨rfl,rfl⟩;obtain⟨h,b4⟩:=cfd b7 h;obtain⟨oc,hc,a3⟩:=zlA h;clear h;have h:=hc;clear hc;refine zlJ oc (Y:=Unit) (λ(_:Unit)=>mkSt [] [] []) (λ(_:Unit)=>True) (by rintro⟨⟩;exact(hT)) ?_ ?_;refine zb7.iter (λ(s:Nat)=>zea.s2 t_ s) (λa6=>mkSt [(2,.im (.ref (zau t_))),(6,.im (nI (a6:Int)))] [] []) (λa6=>True) h (eA []) (by rintro a6;exact(hT)) ?_;clear h;rintro k a6 o hp h a0;replace h:zea.s2 t_ a6=some o:=h;unfold zea.s2 at h;refine zlF t_.Out.length zak<|zlC ?_ ?_<;>intro a7;obtain⟨h,a8⟩:=ctd a7 h;obtain⟨b5,hc,a9⟩:=zlA h;clear h;have h:=hc;clear hc;refine Cut.mk (mkSt [(2,.im (.ref (zau t_))),(6,.im (nI (a6:Int))),(41,.im (nB b5))] [] []) (True) (hT) ?_ (λhp=>?_);obtain⟨b9,a4,h⟩:=zac h;refine⟨_,⟨(by omega),zad a4,rfl⟩,?_⟩;refine zlC ?_ ?_<;>intro a2;replace a2:=zdd a2;obtain⟨h,b0⟩:=cfd a2 h
 iterate 3 (refine zlD (zbw a2) ?_)
 obtain⟨c0,a5,h⟩:=zac h;refine⟨_,⟨(by omega),zad a5,rfl⟩,?_⟩
 iterate 2 (refine zlD (zbw a2) ?_)
 refine zlE a2 ?_;cases h;exact zlG (eA []);replace a2:=zde a2;obtain⟨h,b0⟩:=ctd a2 h
 iterate 5 (refine zlE (zdf a2) ?_)
 refine zlD a2 ?_;cases h;exact zlG (eA []);replace h:=a9;refine zlC ?_ ?_<;>intro b2;replace h:=zbq b2 h;cases h;have a0:_=_:=a0;cases a0;replace h:some _=some _:=a3;cases h;exact⟨rfl,rfl⟩;replace h:=zbp b2 h;refine zbt.mk (by show inR _;unfold inR;omega) ?_;cases h;exact zlK _ a0 (eA []);obtain⟨h,a8⟩:=cfd a7 h;cases h;have a0:_=_:=a0;cases a0;exact zdn.mk' _ rfl (eA []);rintro⟨⟩ rfl hp;replace h:=zcf a3;cases h;exact⟨rfl,rfl⟩
def zpp(w_:yab)(p_:yab)(r:Bool)(h:Ok (nL cI w_)->Ok (nL cI p_)->zfo w_ p_=some r):Sp Tryz.prog 81 [.im (nL cI w_),.im (nL cI p_)] (.im (nB r)):=by
 refine zce rfl [] rfl rfl rfl (zkE rfl) rfl λhk=>?_;replace h:=h hk.1 hk.2.1;have z1:lZ w_:=zat hk.1;have z2:lZ p_:=zat hk.2.1;unfold zfo at h;obtain⟨a2,a0,h⟩:=zlA h;refine⟨_,(zhm w_ p_ a2 (λ_ _=>a0)),?_⟩;refine zlF p_.length zak ?_;cases h;exact⟨rfl,rfl⟩
def sp_R16_Differ(a_:zag)(b_:zag)(r:Int)(h:Ok (.agg (zau a_))->Ok (.agg (zau b_))->zec a_ b_=some r):Sp Tryz.prog 82 [.im (.agg (zau a_)),.im (.agg (zau b_))] (.im (nI r)):=by
 refine zce rfl [700002,700003] rfl rfl rfl (zkE rfl) rfl λhk=>?_;replace h:=h hk.1 hk.2.1;have z1:lZ a_.In:=zat (zlI hk.1 0 rfl);have z2:lZ a_.Out:=zat (zlI hk.1 1 rfl);have z3:lZ b_.In:=zat (zlI hk.2.1 0 rfl);have z4:lZ b_.Out:=zat (zlI hk.2.1 1 rfl);unfold zec at h;obtain⟨a6,a4,h⟩:=zlA h;refine⟨_,(zhm a_.In b_.In a6 (λ_ _=>a4)),?_⟩;obtain⟨oc,hc,a3⟩:=zlA h;clear h;have h:=hc;clear hc;refine zlJ oc (Y:=Unit) (λ(_:Unit)=>mkSt [] [] []) (λ(_:Unit)=>True) (by rintro⟨⟩;exact(hT)) ?_ ?_;refine zb7.iter (λ(s:Nat)=>zec.s2 a_ b_ a6 s) (λa2=>mkSt [(2,.im (.ref (zau a_))),(3,.im (.ref (zau b_))),(5,.im (nI a6)),(6,.im (nI (a2:Int)))] [] []) (λa2=>True) h (eA []) (by rintro a2;exact(hT)) ?_;clear h;rintro k a2 o hp h a0;replace h:zec.s2 a_ b_ a6 a2=some o:=h;unfold zec.s2 at h;refine zlC ?_ ?_<;>intro b0;obtain⟨h,a7⟩:=ctd b0 h;obtain⟨b4,a5,h⟩:=zac h;refine⟨_,⟨(by omega),zad a5,rfl⟩,?_⟩;obtain⟨b5,a9,h⟩:=zac h;refine⟨_,⟨(by omega),zad a9,rfl⟩,?_⟩;refine zlC ?_ ?_<;>intro b2;obtain⟨h,a8⟩:=ctd b2 h;cases h;have a0:_=_:=a0;cases a0;replace h:some _=some _:=a3;cases h;exact⟨rfl,rfl⟩;obtain⟨h,a8⟩:=cfd b2 h;obtain⟨b3,h⟩:=zan h;refine zbt.mk b3 ?_;cases h;exact zlK _ a0 (eA []);obtain⟨h,a7⟩:=cfd b0 h;cases h;have a0:_=_:=a0;cases a0;exact zdn.mk' _ rfl (eA []);rintro⟨⟩ rfl hp;replace h:=zcf a3;cases h;exact⟨rfl,rfl⟩
def sp_R16_apart(o_:zav)(r:Int)(h:Ok (.agg (zba o_))->zcm o_=some r):Sp Tryz.prog 44 [.im (.agg (zba o_))] (.im (nI r)):=by
 refine zce rfl [700001] rfl rfl rfl (zkE rfl) rfl λhk=>?_;replace h:=h hk.1;have z1:lZ o_.Traces:=zat (zlI hk.1 1 rfl);unfold zcm at h;obtain⟨oc,hc,d0⟩:=zlA h;clear h;have h:=hc;clear hc;refine zlJ oc (Y:=Unit) (λ(_:Unit)=>mkSt [] [] []) (λ(_:Unit)=>True) (by rintro⟨⟩;exact(hT)) ?_ ?_;refine zb7.iter (λ(s:Nat)=>zcm.s32 o_ s) (λa7=>mkSt [(1,.im (.ref (zba o_))),(3,.im (nI (a7:Int)))] [] []) (λa7=>True) h (eA []) (by rintro a7;exact(hT)) ?_;clear h;rintro k a7 o hp h a4;replace h:zcm.s32 o_ a7=some o:=h;unfold zcm.s32 at h;refine zlF o_.Traces.length zak<|zlC ?_ ?_<;>intro b0;obtain⟨h,b2⟩:=ctd b0 h;refine zbt.mk (by show inR _;unfold inR;omega) ?_;obtain⟨⟨a9,c8⟩,hc,d6⟩:=zlA h;clear h;have h:=hc;clear hc;refine Cut.mk (mkSt [(1,.im (.ref (zba o_))),(3,.im (nI (a7:Int))),(4,.im (nB a9)),(5,.im (nB c8))] [] []) (True) (hT) ?_ (λhp=>?_);refine zb7.iter (λ(s:Bool×Bool×Nat)=>zcm.s30 o_ a7 s.1 s.2.1 s.2.2) (λ(a3,a0,a8)=>mkSt [(1,.im (.ref (zba o_))),(3,.im (nI (a7:Int))),(4,.im (nB a3)),(5,.im (nB a0)),(6,.im (nI (a8:Int)))] [] []) (λ(a3,a0,a8)=>True) h (eA []) (by rintro⟨a3,a0,a8⟩;exact(hT)) ?_;clear h;rintro k ⟨a3,a0,a8⟩ o hp h a5;replace h:zcm.s30 o_ a7 a3 a0 a8=some o:=h;unfold zcm.s30 at h;refine zlF o_.Traces.length zak<|zlC ?_ ?_<;>intro b3;obtain⟨h,b4⟩:=ctd b3 h;obtain⟨c9,hc,d7⟩:=zlA h;clear h;have h:=hc;clear hc;refine Cut.mk (mkSt [(1,.im (.ref (zba o_))),(3,.im (nI (a7:Int))),(4,.im (nB c9)),(5,.im (nB a0)),(6,.im (nI (a8:Int)))] [] []) (True) (hT) ?_ (λhp=>?_);refine zlC ?_ ?_<;>intro a6;replace a6:=zdd a6;replace h:=zbp a6 h
 iterate 3 (refine zlD (zbw a6) ?_)
 obtain⟨b7,d4,h⟩:=zac h;refine⟨_,⟨(by omega),zad d4,rfl⟩,?_⟩
 iterate 6 (refine zlD (zbw a6) ?_)
 obtain⟨b8,d1,h⟩:=zac h;refine⟨_,⟨(by omega),zad d1,rfl⟩,?_⟩
 iterate 3 (refine zlD (zbw a6) ?_)
 obtain⟨b9,d5,h⟩:=zlA h;refine⟨_,(zpp b7.In b8.In b9 (λ_ _=>d5)),?_⟩;refine zlE a6 ?_;cases h;exact zlG (eA []);replace a6:=zde a6;replace h:=zbq a6 h
 iterate 12 (refine zlE (zdf a6) ?_)
 refine zlD a6 ?_;cases h;exact zlG (eA []);replace h:=d7;refine zlC ?_ ?_<;>intro a2;replace a2:=zdd a2;replace h:=zbp a2 h
 iterate 3 (refine zlD (zbw a2) ?_)
 obtain⟨c0,d2,h⟩:=zac h;refine⟨_,⟨(by omega),zad d2,rfl⟩,?_⟩
 iterate 5 (refine zlD (zbw a2) ?_)
 obtain⟨c6,d8,h⟩:=zac h;refine⟨_,⟨(by omega),zad d8,rfl⟩,?_⟩
 iterate 2 (refine zlD (zbw a2) ?_)
 obtain⟨c7,d3,h⟩:=zlA h;refine⟨_,(sp_R16_Differ c0 c6 c7 (λ_ _=>d3)),?_⟩;refine zlD (zbw a2)<|zlE a2<|zbt.mk (by show inR _;unfold inR;omega) ?_;cases h;exact zlK _ a5 (eA []);replace a2:=zde a2;replace h:=zbq a2 h
 iterate 11 (refine zlE (zdf a2) ?_)
 refine zlD a2<|zbt.mk (by show inR _;unfold inR;omega) ?_;cases h;exact zlK _ a5 (eA []);obtain⟨h,b4⟩:=cfd b3 h;cases h;have a5:_=_:=a5;cases a5;exact zlG (eA []);replace h:zcm.k31 a7 a9 c8=some _:=d6;unfold zcm.k31 at h;refine zlC ?_ ?_<;>intro b5;replace h:=zbq b5 h;cases h;have a4:_=_:=a4;cases a4;replace h:some _=some _:=d0;cases h;exact⟨rfl,rfl⟩;replace h:=zbp b5 h;refine zlC ?_ ?_<;>intro b6;replace h:=zbq b6 h;cases h;have a4:_=_:=a4;cases a4;replace h:some _=some _:=d0;cases h;exact⟨rfl,rfl⟩;replace h:=zbp b6 h;refine zbt.mk (by show inR _;unfold inR;omega) ?_;cases h;exact zlK _ a4 (eA []);obtain⟨h,b2⟩:=cfd b0 h;cases h;have a4:_=_:=a4;cases a4;exact zdn.mk' _ rfl (eA []);rintro⟨⟩ rfl hp;replace h:=zcf d0;cases h;exact⟨rfl,rfl⟩
def sp_R16_Valid(o_:zav)(r:Int)(h:Ok (.agg (zba o_))->zex o_=some r):Sp Tryz.prog 13 [.im (.agg (zba o_))] (.im (nI r)):=by
 refine zce rfl [700001] rfl rfl rfl (zkE rfl) rfl λhk=>?_;replace h:=h hk.1;have z1:lZ o_.Traces:=zat (zlI hk.1 1 rfl);unfold zex at h;obtain⟨d6,hc,e2⟩:=zlA h;clear h;have h:=hc;clear hc;refine Cut.mk (mkSt [(1,.im (.ref (zba o_))),(14,.im (nB d6))] [] []) (True) (hT) ?_ (λhp=>?_);refine zlC ?_ ?_<;>intro a7;replace a7:=zdd a7;obtain⟨h,c6⟩:=cfd a7 h
 iterate 2 (refine zlD (zbw a7) ?_)
 refine zlE a7 ?_;cases h;exact zlG (eA []);replace a7:=zde a7;obtain⟨h,c6⟩:=ctd a7 h
 iterate 2 (refine zlE (zdf a7) ?_)
 refine zlD a7 ?_;cases h;exact zlG (eA []);replace h:=e2;refine zlC ?_ ?_<;>intro d4;replace h:=zbq d4 h;cases h;exact⟨rfl,rfl⟩;replace h:=zbp d4 h;refine zlF o_.Traces.length zak<|zlC ?_ ?_<;>intro d5;obtain⟨h,c7⟩:=ctd d5 h;cases h;exact⟨rfl,rfl⟩;obtain⟨h,c7⟩:=cfd d5 h;obtain⟨oc,hc,a3⟩:=zlA h;clear h;have h:=hc;clear hc;refine zlJ oc (Y:=Unit) (λ(_:Unit)=>mkSt [(1,.im (.ref (zba o_)))] [] []) (λ(_:Unit)=>True) (by rintro⟨⟩;exact(hT)) ?_ ?_;refine zb7.iter (λ(s:Nat)=>zex.s2 o_ s) (λa6=>mkSt [(1,.im (.ref (zba o_))),(3,.im (nI (a6:Int)))] [] []) (λa6=>True) h (eA []) (by rintro a6;exact(hT)) ?_;clear h;rintro k a6 o hp h a0;replace h:zex.s2 o_ a6=some o:=h;unfold zex.s2 at h;refine zlF o_.Traces.length zak<|zlC ?_ ?_<;>intro b0;obtain⟨h,b2⟩:=ctd b0 h;obtain⟨a8,a9,h⟩:=zac h;refine⟨_,⟨(by omega),zad a9,rfl⟩,?_⟩;refine zlB rfl<|zlB rfl<|zlB rfl ?_;obtain⟨c8,e0,h⟩:=zlA h;refine⟨_,(zo6 a8.In o_.Inputs c8 (λ_ _=>e0)),?_⟩;refine zlC ?_ ?_<;>intro b3;obtain⟨h,b4⟩:=ctd b3 h;cases h;have a0:_=_:=a0;cases a0;replace h:some _=some _:=a3;cases h;exact⟨rfl,rfl⟩;obtain⟨h,b4⟩:=cfd b3 h;refine zlB rfl<|zlB rfl<|zlF a8.In.length zak<|zlC ?_ ?_<;>intro b5;obtain⟨h,b6⟩:=ctd b5 h;cases h;have a0:_=_:=a0;cases a0;replace h:some _=some _:=a3;cases h;exact⟨rfl,rfl⟩;obtain⟨h,b6⟩:=cfd b5 h;refine zlB rfl ?_;obtain⟨c9,e1,h⟩:=zlA h;refine⟨_,(sp_R16_Proper a8 o_.Inputs c9 (λ_ _=>e1)),?_⟩;refine zlC ?_ ?_<;>intro b7;obtain⟨h,b8⟩:=ctd b7 h;cases h;have a0:_=_:=a0;cases a0;replace h:some _=some _:=a3;cases h;exact⟨rfl,rfl⟩;obtain⟨h,b8⟩:=cfd b7 h;obtain⟨d0,hc,d8⟩:=zlA h;clear h;have h:=hc;clear hc;refine Cut.mk (mkSt [(1,.im (.ref (zba o_))),(3,.im (nI (a6:Int))),(64,.im (nB d0))] [] []) (True) (hT) ?_ (λhp=>?_);refine zlC ?_ ?_<;>intro a2;replace a2:=zc6 a2;obtain⟨h,b9⟩:=ctd a2 h
 iterate 3 (refine zlD (zbj a2) ?_)
 refine zbt.mk (by show inR _;unfold inR;omega)<|zlD (zbj a2) ?_;obtain⟨d1,a4,d7,h⟩:=zar h;refine⟨_,⟨a4,zad d7,rfl⟩,?_⟩
 iterate 3 (refine zlD (zbj a2) ?_)
 refine zlB rfl<|zlD (zbj a2)<|zlB rfl<|zlD (zbj a2) ?_;obtain⟨d2,d9,h⟩:=zlA h;refine⟨_,(zi3 d1.In a8.In d2 (λ_ _=>d9)),?_⟩;refine zlD (zbj a2)<|zlD a2 ?_;cases h;exact zlG (eA []);replace a2:=zc9 a2;obtain⟨h,b9⟩:=cfd a2 h
 iterate 10 (refine zlE (zdk a2) ?_)
 refine zlE a2 ?_;cases h;exact zlG (eA []);replace h:=d8;refine zlC ?_ ?_<;>intro c0;replace h:=zbq c0 h;cases h;have a0:_=_:=a0;cases a0;replace h:some _=some _:=a3;cases h;exact⟨rfl,rfl⟩;replace h:=zbp c0 h;refine zbt.mk (by show inR _;unfold inR;omega) ?_;cases h;exact zlK _ a0 (eA []);obtain⟨h,b2⟩:=cfd b0 h;cases h;have a0:_=_:=a0;cases a0;exact zdn.mk' _ rfl (eA []);rintro⟨⟩ rfl hp;replace h:=zcf a3;obtain⟨d3,a5,h⟩:=zlA h;refine⟨_,(sp_R16_apart o_ d3 (λ_=>a5)),?_⟩;cases h;exact⟨rfl,rfl⟩
def zsd(l_:yaa)(w_:yab)(r:Int)(h:Ok (nL (cL cI) l_)->Ok (nL cI w_)->zhj l_ w_=some r):Sp Tryz.prog 77 [.im (nL (cL cI) l_),.im (nL cI w_)] (.im (nI r)):=by
 refine zce rfl [] rfl rfl rfl (zkE rfl) rfl λhk=>?_;replace h:=h hk.1 hk.2.1;have z1:lZ l_:=zat hk.1;have z2:lZ w_:=zat hk.2.1;unfold zhj at h;obtain⟨b5,hc,a9⟩:=zlA h;clear h;have h:=hc;clear hc;refine Cut.mk (mkSt [(5,.im (nI (b5:Int)))] [] []) (True) (hT) ?_ (λhp=>?_);refine zb7.iter (λ(s:Nat)=>zhj.s2 l_ w_ s) (λa6=>mkSt [(0,.im (nL (cL cI) l_)),(1,.im (nL cI w_)),(5,.im (nI (a6:Int)))] [] []) (λa6=>lZ l_/\lZ w_/\True) h (eA []) (by rintro a6;exact((zlH 0 rfl).and ((zlH 1 rfl).and (hT)))) ?_;clear h;rintro k a6 o hp h a0;replace h:zhj.s2 l_ w_ a6=some o:=h;unfold zhj.s2 at h;obtain⟨b6,b7,_⟩:=hp;obtain⟨b0,hc,a5⟩:=zlA h;clear h;have h:=hc;clear hc;refine Cut.mk (mkSt [(0,.im (nL (cL cI) l_)),(1,.im (nL cI w_)),(5,.im (nI (a6:Int))),(18,.im (nB b0))] [] []) (lZ l_/\lZ w_/\True) ((zlH 0 rfl).and ((zlH 1 rfl).and (hT))) ?_ (λhp=>?_);refine zlF l_.length zak<|zlC ?_ ?_<;>intro a2;replace a2:=zc6 a2;obtain⟨h,a7⟩:=ctd a2 h
 iterate 2 (refine zlD (zbj a2) ?_)
 obtain⟨b2,a4,h⟩:=zac h;refine⟨_,⟨(by omega),zad a4,rfl⟩,?_⟩
 iterate 3 (refine zlD (zbj a2) ?_)
 obtain⟨b3,a3,h⟩:=zlA h;refine⟨_,(zh9 b2 w_ b3 (λ_ _=>a3)),?_⟩;refine zlD (zbj a2)<|zlD a2 ?_;cases h;exact zlG (eA []);replace a2:=zc9 a2;obtain⟨h,a7⟩:=cfd a2 h
 iterate 6 (refine zlE (zdk a2) ?_)
 refine zlE a2 ?_;cases h;exact zlG (eA []);replace h:=a5;obtain⟨b8,b9,_⟩:=hp;refine zlC ?_ ?_<;>intro a8;replace h:=zbq a8 h;obtain⟨b4,h⟩:=zan h;refine zbt.mk b4 ?_;cases h;exact zlK _ a0 (eA []);replace h:=zbp a8 h;cases h;have a0:_=_:=a0;cases a0;exact zlG (eA []);replace h:=a9;cases h;exact⟨rfl,rfl⟩
def sp_R35_blank(inputs_:Int)(states_:Int)(r:zaa)(h:Ok (nI inputs_)->Ok (nI states_)->zc8 inputs_ states_=some r):SpX Tryz.prog 76 (.lent .dead::.ow .dead::[.im (nI inputs_),.im (nI states_)]) (.mk true [.im (nI r.Inputs),.im (nI r.Start),.ow (.grid 60 3 1 (List.map (cL cI) r.Next) none),.ow (.grid 60 3 1 (List.map (cL cI) r.Out) none)] []):=by
 refine sp_ofT rfl [9000031,9000037] rfl rfl rfl (zkE rfl) rfl λhk=>?_;replace h:=h hk.1 hk.2.1;unfold zc8 at h;refine zlB rfl ?_;obtain⟨⟨b5,b6⟩,hc,a9⟩:=zlA h;clear h;have h:=hc;clear hc;refine Cut.mk (mkSt [(4,.own 64 1 0),(5,.own 65 1 0)] [(64,.box 24 4),(65,.box 24 4),(66,.grid 60 3 1 (List.map (cL cI) b5) none),(67,.grid 60 3 1 (List.map (cL cI) b6) none)] [(64,0,.im (nI 0)),(64,1,.im (nI 0)),(64,2,.im (.val (.slice none 0 0))),(64,3,.im (.val (.slice none 0 0))),(65,0,.im (nI inputs_)),(65,1,.im (nI 0)),(65,2,.osl 66 1),(65,3,.osl 67 1)]) (lZ b5/\lZ b6/\True) ((Holds.kdg 66 rfl).and ((Holds.kdg 67 rfl).and (hT))) ?_ (λhp=>?_);refine zb7.iter (λ(s:yaa×yaa×Nat)=>zc8.s20 inputs_ states_ s.1 s.2.1 s.2.2) (λ(a2,a6,a7)=>mkSt [(0,.im (nI inputs_)),(1,.im (nI states_)),(4,.own 64 1 0),(5,.own 65 1 0),(6,.im (nI (a7:Int)))] [(64,.box 24 4),(65,.box 24 4),(66,.grid 60 3 1 (List.map (cL cI) a2) none),(67,.grid 60 3 1 (List.map (cL cI) a6) none)] [(64,0,.im (nI 0)),(64,1,.im (nI 0)),(64,2,.im (.val (.slice none 0 0))),(64,3,.im (.val (.slice none 0 0))),(65,0,.im (nI inputs_)),(65,1,.im (nI 0)),(65,2,.osl 66 1),(65,3,.osl 67 1)]) (λ(a2,a6,a7)=>lZ a2/\lZ a6/\True) h (Ent.mk [(64,some 4),(65,some 5),(66,none),(67,none)] rfl ⟨eI rfl rfl,eI rfl rfl,⟨.own 4 _ 0,rfl,.own rfl rfl rfl⟩,⟨.own 5 _ 0,rfl,.own rfl rfl rfl⟩,eI rfl rfl,trivial⟩ ⟨.inl ⟨4,rfl,rfl,trivial⟩,.inl ⟨5,rfl,rfl,trivial⟩,.inr ⟨rfl,rfl,.inr (.inl ⟨_,_,_,rfl⟩)⟩,.inr ⟨rfl,rfl,.inr (.inl ⟨_,_,_,rfl⟩)⟩,trivial⟩ ⟨⟨4,.im _,rfl,rfl,.im (Sub.rfl' rfl)⟩,⟨4,.im _,rfl,rfl,.im (Sub.rfl' rfl)⟩,⟨4,.im (.val (.slice none 0 0)),rfl,rfl,.im (Sub.rfl' rfl)⟩,⟨4,.im (.val (.slice none 0 0)),rfl,rfl,.im (Sub.rfl' rfl)⟩,⟨5,.im _,rfl,rfl,.im (Sub.rfl' rfl)⟩,⟨5,.im _,rfl,rfl,.im (Sub.rfl' rfl)⟩,⟨5,.im (.val (.slice none 0 0)),rfl,rfl,.made rfl rfl⟩,⟨5,.im (.val (.slice none 0 0)),rfl,rfl,.made rfl rfl⟩,trivial⟩) (by rintro⟨a2,a6,a7⟩;exact((Holds.kdg 66 rfl).and ((Holds.kdg 67 rfl).and (hT)))) ?_;clear h;rintro k ⟨a2,a6,a7⟩ o hp h a3;replace h:zc8.s20 inputs_ states_ a2 a6 a7=some o:=h;unfold zc8.s20 at h;obtain⟨d2,d3,_⟩:=hp;refine zlC ?_ ?_<;>intro b7;obtain⟨h,b8⟩:=ctd b7 h;obtain⟨⟨b2,b3⟩,hc,a4⟩:=zlA h;clear h;have h:=hc;clear hc;refine Cut.mk (mkSt [(0,.im (nI inputs_)),(1,.im (nI states_)),(4,.own 64 1 0),(5,.own 65 1 0),(6,.im (nI (a7:Int))),(7,.osl 68 1),(8,.osl 69 1)] [(64,.box 24 4),(65,.box 24 4),(66,.grid 60 3 1 (List.map (cL cI) a2) none),(67,.grid 60 3 1 (List.map (cL cI) a6) none),(68,.row 3 1 (List.map cI b2)),(69,.row 3 1 (List.map cI b3))] [(64,0,.im (nI 0)),(64,1,.im (nI 0)),(64,2,.im (.val (.slice none 0 0))),(64,3,.im (.val (.slice none 0 0))),(65,0,.im (nI inputs_)),(65,1,.im (nI 0)),(65,2,.osl 66 1),(65,3,.osl 67 1)]) (lZ a2/\lZ a6/\lZ b2/\lZ b3/\True) ((Holds.kdg 66 rfl).and ((Holds.kdg 67 rfl).and ((Holds.kdl 68 rfl).and ((Holds.kdl 69 rfl).and (hT))))) ?_ (λhp=>?_);refine zb7.iter (λ(s:yab×yab×Nat)=>zc8.s18 inputs_ s.1 s.2.1 s.2.2) (λ(a8,b0,b4)=>mkSt [(0,.im (nI inputs_)),(1,.im (nI states_)),(4,.own 64 1 0),(5,.own 65 1 0),(6,.im (nI (a7:Int))),(7,.osl 68 1),(8,.osl 69 1),(9,.im (nI (b4:Int)))] [(64,.box 24 4),(65,.box 24 4),(66,.grid 60 3 1 (List.map (cL cI) a2) none),(67,.grid 60 3 1 (List.map (cL cI) a6) none),(68,.row 3 1 (List.map cI a8)),(69,.row 3 1 (List.map cI b0))] [(64,0,.im (nI 0)),(64,1,.im (nI 0)),(64,2,.im (.val (.slice none 0 0))),(64,3,.im (.val (.slice none 0 0))),(65,0,.im (nI inputs_)),(65,1,.im (nI 0)),(65,2,.osl 66 1),(65,3,.osl 67 1)]) (λ(a8,b0,b4)=>lZ a2/\lZ a6/\lZ a8/\lZ b0/\True) h (eA [(64,some 64),(65,some 65),(66,some 66),(67,some 67),(68,none),(69,none)]) (by rintro⟨a8,b0,b4⟩;exact((Holds.kdg 66 rfl).and ((Holds.kdg 67 rfl).and ((Holds.kdl 68 rfl).and ((Holds.kdl 69 rfl).and (hT)))))) ?_;clear h;rintro k ⟨a8,b0,b4⟩ o hp h a0;replace h:zc8.s18 inputs_ a8 b0 b4=some o:=h;unfold zc8.s18 at h;obtain⟨d4,d5,d6,d7,_⟩:=hp;refine zlC ?_ ?_<;>intro b9;obtain⟨h,c0⟩:=ctd b9 h;obtain⟨c6,h⟩:=zan h;refine zlB ⟨rfl,zck (l:=[(-1:Int)]) (c:=cI) λ_=>rfl,show za5 _ 8 by simpa only[zkK,zkL,ya8,yal]using c6⟩ ?_;refine zlF (List.map cI (a8++[(-1:Int)])) (zcj (l:=a8) (m:=[(-1:Int)]) (c:=cI)) ?_;obtain⟨c7,h⟩:=zan h;refine zlB ⟨rfl,zck (l:=[(-1:Int)]) (c:=cI) λ_=>rfl,show za5 _ 8 by simpa only[zkK,zkL,ya8,yal]using c7⟩ ?_;refine zlF (List.map cI (b0++[(-1:Int)])) (zcj (l:=b0) (m:=[(-1:Int)]) (c:=cI)) ?_;obtain⟨c8,h⟩:=zan h;refine zbt.mk c8 ?_;cases h;exact zlK _ a0 (eA [(64,some 64),(65,some 65),(66,some 66),(67,some 67),(68,some 68),(69,some 69)]);obtain⟨h,c0⟩:=cfd b9 h;cases h;have a0:_=_:=a0;cases a0;exact zlG (eA [(64,some 64),(65,some 65),(66,some 66),(67,some 67),(68,some 68),(69,some 69)]);replace h:zc8.k19 a2 a6 a7 b2 b3=some _:=a4;unfold zc8.k19 at h;obtain⟨d8,d9,e0,e1,_⟩:=hp;refine zlB rfl<|zlB rfl<|zlB ⟨rfl,trivial⟩<|zlF (List.map (cL cI) [b2]) rfl ?_;obtain⟨c9,h⟩:=zan h;refine zlB ⟨rfl,rfl,trivial⟩<|zlB (show za5 _ 24 by have a5:=c9;simpa only[zkK]using a5)<|zlF (List.map (cL cI) (a2++[b2])) (zcj (l:=a2) (m:=[b2]) (c:=cL cI))<|zlB rfl<|zlB rfl<|zlB rfl<|zlB rfl<|zlB ⟨rfl,trivial⟩<|zlF (List.map (cL cI) [b3]) rfl ?_;obtain⟨d0,h⟩:=zan h;refine zlB ⟨rfl,rfl,trivial⟩<|zlB (show za5 _ 24 by have a5:=d0;simpa only[zkK]using a5)<|zlF (List.map (cL cI) (a6++[b3])) (zcj (l:=a6) (m:=[b3]) (c:=cL cI))<|zlB rfl<|zlB rfl ?_;obtain⟨d1,h⟩:=zan h;refine zbt.mk d1 ?_;cases h;exact zlK _ a3 (eA [(64,some 64),(65,some 65),(66,some 32),(67,some 38)]);obtain⟨h,b8⟩:=cfd b7 h;cases h;have a3:_=_:=a3;cases a3;exact zlG (eA [(64,some 64),(65,some 65),(66,some 66),(67,some 67)]);replace h:zc8.k21 inputs_ b5 b6=some _:=a9;unfold zc8.k21 at h;obtain⟨e2,e3,_⟩:=hp;refine zlB rfl<|zlB rfl ?_;cases h;refine zlB ⟨rfl,trivial⟩ ?_;exact zlB ⟨rfl,rfl,trivial⟩ ⟨rfl,rfl⟩
def sp_R35_Tree(o_:zav)(r:zaa×Int)(h:Ok (.agg (zba o_))->zc3 o_=some r):Sp Tryz.prog 37 [.im (.agg (zba o_))] (.tup [.agg (zaf r.1),nI r.2]):=by
 refine zce rfl [11,500063,500080,700001,8000038,8700038] rfl rfl rfl (zkE rfl) rfl λhk=>?_;replace h:=h hk.1;have z1:lZ o_.Traces:=zat (zlI hk.1 1 rfl);unfold zc3 at h;obtain⟨d3,hc,i4⟩:=zlA h;clear h;have h:=hc;clear hc;refine Cut.mk (mkSt [(1,.im (.ref (zba o_))),(2,.own 99 1 0),(4,.osl 100 1)] [(99,.box 24 4),(100,.row 60 1 (List.map (cL cI) d3))] [(99,0,.im (nI 0)),(99,1,.im (nI 0)),(99,2,.im (.val (.slice none 0 0))),(99,3,.im (.val (.slice none 0 0)))]) (lZ d3/\True) ((Holds.kdl 100 rfl).and (hT)) ?_ (λhp=>?_);refine zb7.iter (λ(s:yaa×Nat)=>zc3.s2 o_ s.1 s.2) (λ(b6,c7)=>mkSt [(1,.im (.ref (zba o_))),(2,.own 99 1 0),(4,.osl 100 1),(5,.im (nI (c7:Int)))] [(99,.box 24 4),(100,.row 60 1 (List.map (cL cI) b6))] [(99,0,.im (nI 0)),(99,1,.im (nI 0)),(99,2,.im (.val (.slice none 0 0))),(99,3,.im (.val (.slice none 0 0)))]) (λ(b6,c7)=>lZ b6/\True) h (eA [(99,some 2),(100,some 11)]) (by rintro⟨b6,c7⟩;exact((Holds.kdl 100 rfl).and (hT))) ?_;clear h;rintro k ⟨b6,c7⟩ o hp h a9;replace h:zc3.s2 o_ b6 c7=some o:=h;unfold zc3.s2 at h;obtain⟨g7,_⟩:=hp;refine zlF o_.Traces.length zak<|zlC ?_ ?_<;>intro e2;obtain⟨h,d4⟩:=ctd e2 h;obtain⟨d5,i6,h⟩:=zac h;refine⟨_,⟨(by omega),zad i6,rfl⟩,?_⟩;obtain⟨e4,h⟩:=zan h;refine zlB ⟨rfl,zck (l:=[d5.In]) (c:=cL cI) λ_=>rfl,show za5 _ 24 by simpa only[zkK,zkL,ya8,yal]using e4⟩ ?_;refine zlF (List.map (cL cI) (b6++[d5.In])) (zcj (l:=b6) (m:=[d5.In]) (c:=cL cI))<|zbt.mk (by show inR _;unfold inR;omega) ?_;cases h;exact zlK _ a9 (eA [(99,some 99),(100,some 100)]);obtain⟨h,d4⟩:=cfd e2 h;cases h;have a9:_=_:=a9;cases a9;exact zlG (eA [(99,some 99),(100,some 100)]);replace h:=i4;obtain⟨g8,_⟩:=hp;refine zlB ⟨rfl,trivial⟩ ?_;obtain⟨a8,i5,h⟩:=zlA h;refine⟨_,(zkv d3 a8 (λ_=>i5)),?_⟩;refine zlB rfl<|zlF a8.length zak<|zlC ?_ ?_<;>intro e3;obtain⟨h,d6⟩:=ctd e3 h;refine zlB rfl ?_;cases h;refine zlB ⟨rfl,trivial⟩ ?_;exact⟨rfl,rfl⟩;obtain⟨h,d6⟩:=cfd e3 h;refine zlB rfl<|zlF a8.length zak ?_;obtain⟨b5,i8,h⟩:=zlA h;refine⟨_,(sp_R35_blank o_.Inputs (a8.length:Int) b5 (λ_ _=>i8)),?_⟩;refine zlB rfl ?_;obtain⟨⟨b7,b8⟩,hc,i7⟩:=zlA h;clear h;have h:=hc;clear hc;refine Cut.mk (mkSt [(2,.own 99 1 0),(6,.own 100 1 0)] [(99,.box 24 4),(100,.box 24 4),(101,.grid 60 3 1 (List.map (cL cI) b7) none),(102,.grid 60 3 1 (List.map (cL cI) b8) none)] [(99,0,.im (nI 0)),(99,1,.im (nI 0)),(99,2,.im (.val (.slice none 0 0))),(99,3,.im (.val (.slice none 0 0))),(100,0,.im (nI b5.Inputs)),(100,1,.im (nI b5.Start)),(100,2,.osl 101 1),(100,3,.osl 102 1)]) (lZ b7/\lZ b8/\True) ((Holds.kdg 101 rfl).and ((Holds.kdg 102 rfl).and (hT))) ?_ (λhp=>?_);refine zb7.iter (λ(s:yaa×yaa×Nat)=>zc3.s22 o_ a8 s.1 s.2.1 s.2.2) (λ(b3,b4,a7)=>mkSt [(1,.im (.ref (zba o_))),(2,.own 99 1 0),(4,.osl 100 1),(6,.own 101 1 0),(7,.im (nI (a7:Int)))] [(99,.box 24 4),(100,.row 60 1 (List.map (cL cI) a8)),(101,.box 24 4),(102,.grid 60 3 1 (List.map (cL cI) b3) none),(103,.grid 60 3 1 (List.map (cL cI) b4) none)] [(99,0,.im (nI 0)),(99,1,.im (nI 0)),(99,2,.im (.val (.slice none 0 0))),(99,3,.im (.val (.slice none 0 0))),(101,0,.im (nI b5.Inputs)),(101,1,.im (nI b5.Start)),(101,2,.osl 102 1),(101,3,.osl 103 1)]) (λ(b3,b4,a7)=>lZ a8/\lZ b3/\lZ b4/\True) h (eA [(99,some 99),(100,some 29),(101,some 6),(102,some 3254),(103,some 3255)]) (by rintro⟨b3,b4,a7⟩;exact((Holds.kdl 100 rfl).and ((Holds.kdg 102 rfl).and ((Holds.kdg 103 rfl).and (hT))))) ?_;clear h;rintro k ⟨b3,b4,a7⟩ o hp h a0;replace h:zc3.s22 o_ a8 b3 b4 a7=some o:=h;unfold zc3.s22 at h;obtain⟨e5,e6,e7,_⟩:=hp;refine zlF o_.Traces.length zak<|zlC ?_ ?_<;>intro c8;obtain⟨h,c9⟩:=ctd c8 h;obtain⟨a2,h6,h⟩:=zac h;refine⟨_,⟨(by omega),zad h6,rfl⟩,?_⟩;refine zlB rfl ?_;obtain⟨⟨b9,c0⟩,hc,i3⟩:=zlA h;clear h;have h:=hc;clear hc;refine Cut.mk (mkSt [(1,.im (.ref (zba o_))),(2,.own 99 1 0),(4,.osl 100 1),(6,.own 101 1 0),(7,.im (nI (a7:Int)))] [(99,.box 24 4),(100,.row 60 1 (List.map (cL cI) a8)),(101,.box 24 4),(102,.grid 60 3 1 (List.map (cL cI) b9) none),(103,.grid 60 3 1 (List.map (cL cI) c0) none)] [(99,0,.im (nI 0)),(99,1,.im (nI 0)),(99,2,.im (.val (.slice none 0 0))),(99,3,.im (.val (.slice none 0 0))),(101,0,.im (nI b5.Inputs)),(101,1,.im (nI b5.Start)),(101,2,.osl 102 1),(101,3,.osl 103 1)]) (lZ a8/\lZ b9/\lZ c0/\True) ((Holds.kdl 100 rfl).and ((Holds.kdg 102 rfl).and ((Holds.kdg 103 rfl).and (hT)))) ?_ (λhp=>?_);refine zb7.iter (λ(s:yaa×yaa×Nat)=>zc3.s20 a8 a2 s.1 s.2.1 s.2.2) (λ(b0,b2,a6)=>mkSt [(1,.im (.ref (zba o_))),(2,.own 99 1 0),(4,.osl 100 1),(6,.own 101 1 0),(7,.im (nI (a7:Int))),(8,.own 104 1 0),(9,.im (nI (a6:Int)))] [(99,.box 24 4),(100,.row 60 1 (List.map (cL cI) a8)),(101,.box 24 4),(102,.grid 60 3 1 (List.map (cL cI) b0) none),(103,.grid 60 3 1 (List.map (cL cI) b2) none),(104,.box 70 2)] [(99,0,.im (nI 0)),(99,1,.im (nI 0)),(99,2,.im (.val (.slice none 0 0))),(99,3,.im (.val (.slice none 0 0))),(101,0,.im (nI b5.Inputs)),(101,1,.im (nI b5.Start)),(101,2,.osl 102 1),(101,3,.osl 103 1),(104,0,.im (nL cI a2.In)),(104,1,.im (nL cI a2.Out))]) (λ(b0,b2,a6)=>lZ a8/\lZ b0/\lZ b2/\lZ a2.In/\lZ a2.Out/\True) h (eA [(99,some 99),(100,some 100),(101,some 101),(102,some 102),(103,some 103),(104,some 8)]) (by rintro⟨b0,b2,a6⟩;exact((Holds.kdl 100 rfl).and ((Holds.kdg 102 rfl).and ((Holds.kdg 103 rfl).and ((Holds.cel 104 0 rfl (by decide) rfl).and ((Holds.cel 104 1 rfl (by decide) rfl).and (hT))))))) ?_;clear h;rintro k ⟨b0,b2,a6⟩ o hp h a4;replace h:zc3.s20 a8 a2 b0 b2 a6=some o:=h;unfold zc3.s20 at h;obtain⟨e8,e9,f3,f4,f5,_⟩:=hp;refine zlB rfl<|zlB rfl<|zlF a2.In.length zak<|zlC ?_ ?_<;>intro d0;obtain⟨h,d1⟩:=ctd d0 h;refine zlB rfl<|zlB rfl ?_;obtain⟨f7,h⟩:=zan h;refine zlB (show(0:Int)<=(0:Int)/\(0:Int)<=(a6:Int)/\(a6:Int)<=(↑(List.length (List.map cI a2.In)):Int)/\(∀e∈List.map cI a2.In,List.length e=1) from⟨by omega,by first|omega|(simp only[zkK];omega),by first|omega|(simp only[zkK];omega),zck λ_=>rfl⟩) ?_
 refine zlF (List.map cI (List.take a6 a2.In)) zmr<|zlB ⟨rfl,trivial⟩ ?_;obtain⟨c6,h9,h⟩:=zlA h;refine⟨_,(zsd a8 (List.take a6 a2.In) c6 (λ_ _=>h9)),?_⟩;refine zlB zhl<|zlB rfl<|zlB rfl ?_;obtain⟨d7,h2,a3,h⟩:=zar h;refine zlB ⟨h2,rfl,za0 a3⟩<|zlB ⟨rfl,za0 a3⟩<|zlB rfl<|zlB rfl ?_;obtain⟨d8,h5,h⟩:=zac h;refine⟨_,⟨(by omega),zad h5,rfl⟩,?_⟩;refine zlB rfl<|zlB rfl<|zbt.mk (by show inR _;unfold inR;omega) ?_;obtain⟨f8,h⟩:=zan h;refine zlB (show(0:Int)<=(0:Int)/\(0:Int)<=((a6:Int)+1)/\((a6:Int)+1)<=(↑(List.length (List.map cI a2.In)):Int)/\(∀e∈List.map cI a2.In,List.length e=1) from⟨by omega,by first|omega|(simp only[zkK];omega),by first|omega|(simp only[zkK];omega),zck λ_=>rfl⟩) ?_
 refine zlF (List.map cI (List.take (a6+1) a2.In)) zmr<|zlB ⟨rfl,trivial⟩ ?_;obtain⟨d2,h8,h⟩:=zlA h;refine⟨_,(zsd a8 (List.take (a6+1) a2.In) d2 (λ_ _=>h8)),?_⟩;refine zlB zhl ?_;obtain⟨f9,h3,g9,h⟩:=zar h;refine⟨_,⟨h3,rfl,zad a3,za0 g9⟩,?_⟩;refine⟨_,_,⟨rfl,zad a3,zad g9⟩,?_⟩;refine zlF (List.map (cL cI) (List.set b0 (Int.toNat c6) (List.set d7 (Int.toNat d8) d2))) (zgg rfl)<|zlB rfl<|zlB rfl ?_;obtain⟨d9,h4,a5,h⟩:=zar h;refine zlB ⟨h4,rfl,za0 a5⟩<|zlB ⟨rfl,za0 a5⟩<|zlB rfl<|zlB rfl ?_;obtain⟨e0,i0,h⟩:=zac h;refine⟨_,⟨(by omega),zad i0,rfl⟩,?_⟩;refine zlB rfl<|zlB rfl ?_;obtain⟨e1,h7,h⟩:=zac h;refine⟨_,⟨(by omega),zad h7,rfl⟩,?_⟩;obtain⟨g1,h0,f6,h⟩:=zar h;refine⟨_,⟨h0,rfl,zad a5,za0 f6⟩,?_⟩;refine⟨_,_,⟨rfl,zad a5,zad f6⟩,?_⟩;refine zlF (List.map (cL cI) (List.set b2 (Int.toNat c6) (List.set d9 (Int.toNat e0) e1))) (zgg rfl)<|zbt.mk (by show inR _;unfold inR;omega) ?_;cases h;exact zlK _ a4 (eA [(99,some 99),(100,some 100),(101,some 101),(102,some 102),(103,some 103),(104,some 104)]);obtain⟨h,d1⟩:=cfd d0 h;cases h;have a4:_=_:=a4;cases a4;exact zlG (eA [(99,some 99),(100,some 100),(101,some 101),(102,some 102),(103,some 103)]);replace h:zc3.k21 a7 b9 c0=some _:=i3;unfold zc3.k21 at h;obtain⟨g2,g3,g4,_⟩:=hp;refine zbt.mk (by show inR _;unfold inR;omega) ?_;cases h;exact zlK _ a0 (eA [(99,some 99),(100,some 100),(101,some 101),(102,some 102),(103,some 103)]);obtain⟨h,c9⟩:=cfd c8 h;cases h;have a0:_=_:=a0;cases a0;exact zlG (eA [(99,some 99),(100,some 101),(101,some 102),(102,some 103)]);replace h:zc3.k23 b5 b7 b8=some _:=i7;unfold zc3.k23 at h;obtain⟨g5,g6,_⟩:=hp;refine zlB rfl<|zlB rfl ?_;cases h;refine zlB ⟨rfl,trivial⟩ ?_;exact zlB ⟨rfl,rfl,trivial⟩ ⟨rfl,rfl⟩
def zhy(up_:yab)(s_:Int)(r:Int)(h:Ok (nL cI up_)->Ok (nI s_)->zc4 up_ s_=some r):Sp Tryz.prog 108 [.im (nL cI up_),.im (nI s_)] (.im (nI r)):=by
 refine zce rfl [] rfl rfl rfl (zkE rfl) rfl λhk=>?_;replace h:=h hk.1 hk.2.1;have z1:lZ up_:=zat hk.1;unfold zc4 at h;obtain⟨s64,hc,b0⟩:=zlA h;clear h;have h:=hc;clear hc;refine Cut.mk (mkSt [(1,.im (nI s64))] [] []) (True) (hT) ?_ (λhp=>?_);refine zb7.iter (λ(s:Int)=>zc4.s2 up_ s) (λs68=>mkSt [(0,.im (nL cI up_)),(1,.im (nI s68))] [] []) (λs68=>lZ up_/\True) h (eA []) (by rintro s68;exact((zlH 0 rfl).and (hT))) ?_;clear h;rintro k s68 o hp h a0;replace h:zc4.s2 up_ s68=some o:=h;unfold zc4.s2 at h;obtain⟨b2,_⟩:=hp;obtain⟨a7,a3,a5,h⟩:=zar h;refine⟨_,⟨a3,zad a5,rfl⟩,?_⟩;refine zlC ?_ ?_<;>intro a6;obtain⟨h,a2⟩:=ctd a6 h;obtain⟨a8,a4,a9,h⟩:=zar h;refine⟨_,⟨a4,zad a9,rfl⟩,?_⟩;cases h;exact zlK _ a0 (eA []);obtain⟨h,a2⟩:=cfd a6 h;cases h;have a0:_=_:=a0;cases a0;exact zlG (eA []);replace h:=b0;cases h;exact⟨rfl,rfl⟩
def zjh(p_:zaa)(class_:yab)(a_:Int)(r:Int)(h:Ok (.agg (zaf p_))->Ok (nL cI class_)->Ok (nI a_)->zcn p_ class_ a_=some r):Sp Tryz.prog 109 [.im (.agg (zaf p_)),.im (nL cI class_),.im (nI a_)] (.im (nI r)):=by
 refine zce rfl [700003] rfl rfl rfl (zkE rfl) rfl λhk=>?_;replace h:=h hk.1 hk.2.1 hk.2.2.1;have z1:lZ p_.Next:=zat (zlI hk.1 2 rfl);have z2:lZ p_.Out:=zat (zlI hk.1 3 rfl);have z3:lZ class_:=zat hk.2.1;unfold zcn at h;refine zlF class_.length zak ?_;obtain⟨oc,hc,a3⟩:=zlA h;clear h;have h:=hc;clear hc;refine zlJ oc (Y:=Unit) (λ(_:Unit)=>mkSt [] [] []) (λ(_:Unit)=>True) (by rintro⟨⟩;exact(hT)) ?_ ?_;refine zb7.iter (λ(s:Nat)=>zcn.s2 p_ class_ a_ s) (λa2=>mkSt [(2,.im (nI a_)),(3,.im (.ref (zaf p_))),(9,.im (nL cI class_)),(10,.im (nI (class_.length:Int))),(11,.im (nI (a2:Int)))] [] []) (λa2=>lZ class_/\True) h (eA []) (by rintro a2;exact((zlH 9 rfl).and (hT))) ?_;clear h;rintro k a2 o hp h a0;replace h:zcn.s2 p_ class_ a_ a2=some o:=h;unfold zcn.s2 at h;obtain⟨b2,_⟩:=hp;refine zlC ?_ ?_<;>intro a8;obtain⟨h,a6⟩:=ctd a8 h;obtain⟨b3,a9,h⟩:=zac h;refine⟨_,⟨(by omega),zad a9,rfl⟩,?_⟩;obtain⟨b4,a5,b7,h⟩:=zar h;refine⟨_,⟨a5,zad b7,rfl⟩,?_⟩;obtain⟨b5,a4,b6,h⟩:=zar h;refine⟨_,⟨a4,zad b6,rfl⟩,?_⟩;refine zlC ?_ ?_<;>intro b0;obtain⟨h,a7⟩:=ctd b0 h;cases h;have a0:_=_:=a0;cases a0;replace h:some _=some _:=a3;cases h;exact⟨rfl,rfl⟩;obtain⟨h,a7⟩:=cfd b0 h;refine zbt.mk (by show inR _;unfold inR;omega) ?_;cases h;exact zlK _ a0 (eA []);obtain⟨h,a6⟩:=cfd a8 h;cases h;have a0:_=_:=a0;cases a0;exact zdn.mk' _ rfl (eA []);rintro⟨⟩ rfl hp;replace h:=zcf a3;cases h;exact⟨rfl,rfl⟩
def zpj(p_:zaa)(s_:Int)(t_:Int)(r:yab×Bool)(h:Ok (.agg (zaf p_))->Ok (nI s_)->Ok (nI t_)->zap p_ s_ t_=some r):Sp Tryz.prog 78 [.im (.agg (zaf p_)),.im (nI s_),.im (nI t_)] (.tup [nL cI r.1,nB r.2]):=by
 refine zce rfl [37,44,500055,500061,500076,500083,500153,600025,700003] rfl rfl rfl (zkE rfl) rfl λhk=>?_;replace h:=h hk.1 hk.2.1 hk.2.2.1;have z1:lZ p_.Next:=zat (zlI hk.1 2 rfl);have z2:lZ p_.Out:=zat (zlI hk.1 3 rfl);unfold zap at h;refine zlF p_.Next.length zak ?_;obtain⟨k2,h⟩:=zan h;refine zlB k2<|zlF (List.map cI (List.replicate p_.Next.length (0:Int))) (ze6 (c:=cI) (z:=0) (n:=p_.Next.length) rfl rfl)<|zlF p_.Next.length zak ?_;obtain⟨k4,h⟩:=zan h;refine zlB k4<|zlF (List.map (cL cI) (List.replicate p_.Next.length ([]:yab))) (ze6 (c:=(cL cI)) (z:=([]:yab)) (n:=p_.Next.length) rfl rfl) ?_;refine zlB rfl<|zlF (List.length (List.replicate p_.Next.length (0:Int))) zak ?_;obtain⟨⟨g5,g6⟩,hc,q3⟩:=zlA h;clear h;have h:=hc;clear hc;refine Cut.mk (mkSt [(1,.im (nI s_)),(2,.im (nI t_)),(3,.im (.ref (zaf p_))),(8,.osl 157 1),(9,.osl 158 1)] [(157,.row 3 1 (List.map cI g5)),(158,.grid 60 3 1 (List.map (cL cI) g6) none)] []) (lZ g5/\lZ g6/\True) ((Holds.kdl 157 rfl).and ((Holds.kdg 158 rfl).and (hT))) ?_ (λhp=>?_);refine zb7.iter (λ(s:yab×yaa×Nat)=>zap.s2 p_ s.1 s.2.1 s.2.2) (λ(e3,e4,d2)=>mkSt [(1,.im (nI s_)),(2,.im (nI t_)),(3,.im (.ref (zaf p_))),(8,.osl 157 1),(9,.osl 158 1),(27,.im (nI (↑(List.length (List.replicate p_.Next.length (0:Int))):Int))),(28,.im (nI (d2:Int)))] [(157,.row 3 1 (List.map cI e3)),(158,.grid 60 3 1 (List.map (cL cI) e4) none)] []) (λ(e3,e4,d2)=>lZ e3/\lZ e4/\True) h (eA [(157,some 21),(158,some 25)]) (by rintro⟨e3,e4,d2⟩;exact((Holds.kdl 157 rfl).and ((Holds.kdg 158 rfl).and (hT)))) ?_;clear h;rintro k ⟨e3,e4,d2⟩ o hp h m4;replace h:zap.s2 p_ e3 e4 d2=some o:=h;unfold zap.s2 at h;obtain⟨k6,k7,_⟩:=hp;refine zlC ?_ ?_<;>intro g8;obtain⟨h,g7⟩:=ctd g8 h;obtain⟨k8,p9,h⟩:=zac h;refine zlB ⟨(by omega),rfl,za0 p9⟩<|zlB ⟨rfl,trivial⟩<|⟨_,zad p9,?_⟩;refine zlF (List.map cI (List.set e3 d2 (d2:Int))) (zc2 rfl) ?_;obtain⟨l0,q1,h⟩:=zac h;refine zlB ⟨(by omega),rfl,za0 q1⟩<|zlB ⟨rfl,rfl,za0 q1,trivial⟩<|zlF (List.map (cL cI) (List.set e4 d2 [(d2:Int)])) zr5 ?_;obtain⟨k5,h⟩:=zan h;refine zbt.mk k5 ?_;cases h;exact zlK _ m4 (eA [(157,some 157),(158,some 158)]);obtain⟨h,g7⟩:=cfd g8 h;cases h;have m4:_=_:=m4;cases m4;exact zlG (eA [(157,some 157),(158,some 158)]);replace h:zap.k37 p_ s_ t_ g5 g6=some _:=q3;unfold zap.k37 at h;obtain⟨l3,l4,_⟩:=hp;obtain⟨oc,hc,q0⟩:=zlA h;clear h;have h:=hc;clear hc;refine zlJ oc (Y:=yab) (λb2=>mkSt [(8,.osl 157 1)] [(157,.row 3 1 (List.map cI b2))] []) (λb2=>lZ b2/\True) (by rintro b2;exact((Holds.kdl 157 rfl).and (hT))) ?_ ?_;refine zb7.iter (λ(s:yab×yaa×List T_A2)=>zap.s34 p_ s.1 s.2.1 s.2.2) (λ(a2,a6,b6)=>mkSt [(3,.im (.ref (zaf p_))),(8,.osl 157 1),(9,.osl 158 1),(11,.osl 159 1)] [(157,.row 3 1 (List.map cI a2)),(158,.grid 60 3 1 (List.map (cL cI) a6) none),(159,.que 121 2 (List.map c_A2 b6))] []) (λ(a2,a6,b6)=>lZ a2/\lZ a6/\lZ b6/\True) h ((Ent.que 44 rfl).trans (eA [(157,some 157),(158,some 158),(159,some 44)])) (by rintro⟨a2,a6,b6⟩;exact((Holds.kdl 157 rfl).and ((Holds.kdg 158 rfl).and ((Holds.kdql 159 rfl).and (hT))))) ?_;clear h;rintro k ⟨a2,a6,b6⟩ o hp h a3;replace h:zap.s34 p_ a2 a6 b6=some o:=h;unfold zap.s34 at h;obtain⟨g9,h0,h2,_⟩:=hp;refine zlB rfl<|zlF b6.length zak<|zlC ?_ ?_<;>intro d3;obtain⟨h,e5⟩:=ctd d3 h;obtain⟨oc,hc,l9⟩:=zlA h;clear h;have h:=hc;clear hc;refine zlJ oc (Y:=yab×yaa×List T_A2) (λ(b9,c0,b7)=>mkSt [(3,.im (.ref (zaf p_))),(8,.osl 157 1),(9,.osl 158 1),(11,.osl 159 1)] [(157,.row 3 1 (List.map cI b9)),(158,.grid 60 3 1 (List.map (cL cI) c0) none),(159,.que 121 2 (List.map c_A2 b7))] []) (λ(b9,c0,b7)=>lZ b9/\lZ c0/\lZ b7/\True) (by rintro⟨b9,c0,b7⟩;exact((Holds.kdl 157 rfl).and ((Holds.kdg 158 rfl).and ((Holds.kdql 159 rfl).and (hT))))) ?_ ?_;obtain⟨f4,l7,h⟩:=zac h;refine zlB ⟨(by omega),rfl,za0 l7⟩<|zlB ⟨by decide,by decide,rfl⟩<|⟨_,_,⟨rfl,zad l7,rfl,rfl⟩,?_⟩;refine zlB ⟨rfl,trivial⟩ ?_;obtain⟨b3,o3,h⟩:=zlA h;refine⟨_,(zhy a2 f4.f0 b3 (λ_ _=>o3)),?_⟩;refine zlB zhl ?_;obtain⟨f5,l8,h⟩:=zac h;refine zlB ⟨(by omega),rfl,za0 l8⟩<|zlB ⟨by decide,by decide,rfl⟩<|⟨_,_,⟨rfl,zad l8,rfl,rfl⟩,?_⟩;refine zlB ⟨rfl,trivial⟩ ?_;obtain⟨b4,p4,h⟩:=zlA h;refine⟨_,(zhy a2 f5.f1 b4 (λ_ _=>p4)),?_⟩;refine zlB zhl<|zlC ?_ ?_<;>intro d4;obtain⟨h,e6⟩:=ctd d4 h;cases h;exact zdn.mk' _ rfl (eA [(157,some 157),(158,some 158),(159,some 159)]);obtain⟨h,e6⟩:=cfd d4 h;obtain⟨oc,hc,m5⟩:=zlA h;clear h;have h:=hc;clear hc;refine zlJ oc (Y:=List T_A2) (λc6=>mkSt [(3,.im (.ref (zaf p_))),(8,.osl 157 1),(9,.osl 158 1),(11,.osl 159 1),(12,.im (nI b3)),(13,.im (nI b4))] [(157,.row 3 1 (List.map cI a2)),(158,.grid 60 3 1 (List.map (cL cI) a6) none),(159,.que 121 2 (List.map c_A2 c6))] []) (λc6=>lZ a2/\lZ a6/\lZ c6/\True) (by rintro c6;exact((Holds.kdl 157 rfl).and ((Holds.kdg 158 rfl).and ((Holds.kdql 159 rfl).and (hT))))) ?_ ?_;refine zb7.iter (λ(s:List T_A2×Nat)=>zap.s32 p_ a6 b3 b4 s.1 s.2) (λ(a7,a8)=>mkSt [(3,.im (.ref (zaf p_))),(8,.osl 157 1),(9,.osl 158 1),(11,.osl 159 1),(12,.im (nI b3)),(13,.im (nI b4)),(66,.im (nI p_.Inputs)),(67,.im (nI (a8:Int)))] [(157,.row 3 1 (List.map cI a2)),(158,.grid 60 3 1 (List.map (cL cI) a6) none),(159,.que 121 2 (List.map c_A2 a7))] []) (λ(a7,a8)=>lZ a2/\lZ a6/\lZ a7/\True) h (eA [(157,some 157),(158,some 158),(159,some 159)]) (by rintro⟨a7,a8⟩;exact((Holds.kdl 157 rfl).and ((Holds.kdg 158 rfl).and ((Holds.kdql 159 rfl).and (hT))))) ?_;clear h;rintro k ⟨a7,a8⟩ o hp h a0;replace h:zap.s32 p_ a6 b3 b4 a7 a8=some o:=h;unfold zap.s32 at h;obtain⟨h3,h4,h5,_⟩:=hp;refine zlC ?_ ?_<;>intro d5;obtain⟨h,e7⟩:=ctd d5 h;obtain⟨oc,hc,l6⟩:=zlA h;clear h;have h:=hc;clear hc;refine zlJ oc (Y:=List T_A2) (λc7=>mkSt [(3,.im (.ref (zaf p_))),(8,.osl 157 1),(9,.osl 158 1),(11,.osl 159 1),(12,.im (nI b3)),(13,.im (nI b4)),(66,.im (nI p_.Inputs)),(67,.im (nI (a8:Int)))] [(157,.row 3 1 (List.map cI a2)),(158,.grid 60 3 1 (List.map (cL cI) a6) none),(159,.que 121 2 (List.map c_A2 c7))] []) (λc7=>lZ a2/\lZ a6/\lZ c7/\True) (by rintro c7;exact((Holds.kdl 157 rfl).and ((Holds.kdg 158 rfl).and ((Holds.kdql 159 rfl).and (hT))))) ?_ ?_;obtain⟨f7,n5,a5,h⟩:=zar h;refine zlB ⟨n5,rfl,za0 a5⟩<|zlB ⟨rfl,za0 a5⟩<|zlB ⟨rfl,trivial⟩ ?_;obtain⟨d6,o9,h⟩:=zlA h;refine⟨_,(sp_cast (by rw[rowAt_map a5];try rfl) (zjh p_ f7 (a8:Int) d6 (λ_ _ _=>o9))),?_⟩;refine zlB zhl ?_;obtain⟨f8,n8,a9,h⟩:=zar h;refine zlB ⟨n8,rfl,za0 a9⟩<|zlB ⟨rfl,za0 a9⟩<|zlB ⟨rfl,trivial⟩ ?_;obtain⟨d7,o2,h⟩:=zlA h;refine⟨_,(sp_cast (by rw[rowAt_map a9];try rfl) (zjh p_ f8 (a8:Int) d7 (λ_ _ _=>o2))),?_⟩;refine zlB zhl ?_;obtain⟨f9,hc,o5⟩:=zlA h;clear h;have h:=hc;clear hc;refine Cut.mk (mkSt [(3,.im (.ref (zaf p_))),(8,.osl 157 1),(9,.osl 158 1),(11,.osl 159 1),(12,.im (nI b3)),(13,.im (nI b4)),(14,.im (nI (a8:Int))),(15,.im (nI d6)),(16,.im (nI d7)),(66,.im (nI p_.Inputs)),(67,.im (nI (a8:Int))),(89,.im (nB f9))] [(157,.row 3 1 (List.map cI a2)),(158,.grid 60 3 1 (List.map (cL cI) a6) none),(159,.que 121 2 (List.map c_A2 a7))] []) (lZ a2/\lZ a6/\lZ a7/\True) ((Holds.kdl 157 rfl).and ((Holds.kdg 158 rfl).and ((Holds.kdql 159 rfl).and (hT)))) ?_ (λhp=>?_);refine zlC ?_ ?_<;>intro b0;replace b0:=zdd b0;obtain⟨h,e8⟩:=cfd b0 h;refine zlD (zbw b0)<|zlE b0 ?_;cases h;exact zlG (eA [(157,some 157),(158,some 158),(159,some 159)]);replace b0:=zde b0;obtain⟨h,e8⟩:=ctd b0 h;refine zlE (zdf b0)<|zlD b0 ?_;cases h;exact zlG (eA [(157,some 157),(158,some 158),(159,some 159)]);replace h:=o5;obtain⟨h6,h7,h8,_⟩:=hp;refine zlC ?_ ?_<;>intro d8;replace h:=zbq d8 h;cases h;exact zdn.mk' _ rfl (eA [(157,some 157),(158,some 158),(159,some 159)]);replace h:=zbp d8 h;obtain⟨h9,n4,o6,h⟩:=zar h;refine⟨_,⟨n4,zad o6,rfl⟩,?_⟩;obtain⟨i0,o8,h⟩:=zac h;refine⟨_,⟨(by omega),zad o8,rfl⟩,?_⟩;obtain⟨i3,n3,p5,h⟩:=zar h;refine⟨_,⟨n3,zad p5,rfl⟩,?_⟩;obtain⟨i4,p8,h⟩:=zac h;refine⟨_,⟨(by omega),zad p8,rfl⟩,?_⟩;refine zlC ?_ ?_<;>intro d9;obtain⟨h,e9⟩:=ctd d9 h;cases h;replace h:some _=some _:=l6;cases h;have a0:_=_:=a0;cases a0;replace h:some _=some _:=m5;cases h;replace h:some _=some _:=l9;cases h;have a3:_=_:=a3;cases a3;replace h:some _=some _:=q0;cases h;exact⟨rfl,rfl⟩;obtain⟨h,e9⟩:=cfd d9 h;obtain⟨i5,n7,p7,h⟩:=zar h;refine⟨_,⟨n7,zad p7,rfl⟩,?_⟩;obtain⟨c8,p1,h⟩:=zac h;refine⟨_,⟨(by omega),zad p1,rfl⟩,?_⟩;obtain⟨i6,n9,o4,h⟩:=zar h;refine⟨_,⟨n9,zad o4,rfl⟩,?_⟩;obtain⟨c9,p6,h⟩:=zac h;refine⟨_,⟨(by omega),zad p6,rfl⟩,?_⟩;obtain⟨g1,h⟩:=zan h;refine zlB ⟨rfl,yfh _,zck (l:=[(⟨c8,c9⟩:T_A2)]) (c:=c_A2) λ_=>rfl,show za5 _ 16 by simpa only[zkK,zkL,ya8,yal]using g1⟩ ?_;refine zlF (List.map c_A2 (a7++[(⟨c8,c9⟩:T_A2)])) (zcj (l:=a7) (m:=[(⟨c8,c9⟩:T_A2)]) (c:=c_A2)) ?_;cases h;exact zdn.mk' _ rfl (eA [(157,some 157),(158,some 158),(159,some 159)]);rintro c7 rfl hp;replace h:=zcf l6;obtain⟨i7,i8,i9,_⟩:=hp;obtain⟨g2,h⟩:=zan h;refine zbt.mk g2 ?_;cases h;exact zlK _ a0 (eA [(157,some 157),(158,some 158),(159,some 159)]);obtain⟨h,e7⟩:=cfd d5 h;cases h;have a0:_=_:=a0;cases a0;exact zdn.mk' _ rfl (eA [(157,some 157),(158,some 158),(159,some 159)]);rintro c6 rfl hp;replace h:=zcf m5;obtain⟨j0,j1,j2,_⟩:=hp;obtain⟨j3,m7,m0,h⟩:=zar h;refine zlB ⟨m7,rfl,za0 m0⟩<|zlB ⟨rfl,trivial⟩<|⟨_,zad m0,?_⟩;refine zlF (List.map cI (List.set a2 b4.toNat b3)) (zc2 rfl) ?_;obtain⟨d0,o1,l5,h⟩:=zar h;refine zlB ⟨o1,rfl,za0 l5⟩<|zlB ⟨rfl,za0 l5⟩ ?_;obtain⟨d1,m9,f6,h⟩:=zar h;refine zlB ⟨m9,rfl,za0 f6⟩<|zlB ⟨rfl,za0 f6⟩ ?_;obtain⟨g3,h⟩:=zan h;refine⟨_,_,⟨rfl,rfl,by omega,zad l5,zad f6,(show za5 _ 8 by have q2:=g3;simpa only[zkK]using q2)⟩,?_⟩;refine zlF (List.map cI (d0++d1)) (zcj (l:=d0) (m:=d1) (c:=cI)) ?_;obtain⟨j4,m8,m6,h⟩:=zar h;refine zlB ⟨m8,rfl,za0 m6⟩<|zlB ⟨rfl,rfl,za0 m6,rfl⟩<|zlF (List.map (cL cI) (List.set a6 (Int.toNat b3) (d0++d1))) zr5 ?_;cases h;exact zdn.mk' _ rfl (eA [(157,some 157),(158,some 158),(159,some 159)]);rintro⟨b9,c0,b7⟩ rfl hp;have q4:=zcf l9;replace h:zap.k33 b9 c0 b7=some _:=q4;clear q4;unfold zap.k33 at h;obtain⟨j5,j6,j7,_⟩:=hp;obtain⟨g4,h⟩:=zan h;refine zlB ⟨rfl,by decide,by have q2:=g4;simp only[zkK];exact q2⟩ ?_;refine zlF (List.map c_A2 (List.drop 1 b7)) yd8 ?_;cases h;exact zlK _ a3 (eA [(157,some 157),(158,some 158),(159,some 159)]);obtain⟨h,e5⟩:=cfd d3 h;cases h;have a3:_=_:=a3;cases a3;exact zdn.mk' _ rfl (eA [(157,some 157)]);rintro b2 rfl hp;replace h:=zcf q0;obtain⟨j8,_⟩:=hp;refine zlB rfl<|zlF b2.length zak ?_;obtain⟨e0,hc,p3⟩:=zlA h;clear h;have h:=hc;clear hc;refine Cut.mk (mkSt [(8,.osl 157 1)] [(157,.row 3 1 (List.map cI e0))] []) (lZ e0/\True) ((Holds.kdl 157 rfl).and (hT)) ?_ (λhp=>?_);refine zb7.iter (λ(s:yab×Nat)=>zap.s36 b2 s.1 s.2) (λ(b5,b8)=>mkSt [(8,.osl 157 1),(145,.im (nI (b2.length:Int))),(146,.im (nI (b8:Int)))] [(157,.row 3 1 (List.map cI b5))] []) (λ(b5,b8)=>lZ b5/\True) h (eA [(157,some 157)]) (by rintro⟨b5,b8⟩;exact((Holds.kdl 157 rfl).and (hT))) ?_;clear h;rintro k ⟨b5,b8⟩ o hp h a4;replace h:zap.s36 b2 b5 b8=some o:=h;unfold zap.s36 at h;obtain⟨j9,_⟩:=hp;refine zlC ?_ ?_<;>intro e1;obtain⟨h,f3⟩:=ctd e1 h;refine zlB ⟨rfl,trivial⟩ ?_;obtain⟨e2,o7,h⟩:=zlA h;refine⟨_,(zhy b5 (b8:Int) e2 (λ_ _=>o7)),?_⟩;refine zlB zhl ?_;obtain⟨k0,m3,h⟩:=zac h;refine zlB ⟨(by omega),rfl,za0 m3⟩<|zlB ⟨rfl,trivial⟩<|⟨_,zad m3,?_⟩;refine zlF (List.map cI (List.set b5 b8 e2)) (zc2 rfl)<|zbt.mk (by show inR _;unfold inR;omega) ?_;cases h;exact zlK _ a4 (eA [(157,some 157)]);obtain⟨h,f3⟩:=cfd e1 h;cases h;have a4:_=_:=a4;cases a4;exact zlG (eA [(157,some 157)]);replace h:=p3;obtain⟨k1,_⟩:=hp;cases h;exact zlB ⟨rfl,trivial⟩ ⟨rfl,rfl⟩
def zjq(p_:zaa)(s_:Int)(t_:Int)(r:Int×Bool)(h:Ok (.agg (zaf p_))->Ok (nI s_)->Ok (nI t_)->za6 p_ s_ t_=some r):Sp Tryz.prog 38 [.im (.agg (zaf p_)),.im (nI s_),.im (nI t_)] (.tup [nI r.1,nB r.2]):=by
 refine zce rfl [700003] rfl rfl rfl (zkE rfl) rfl λhk=>?_;replace h:=h hk.1 hk.2.1 hk.2.2.1;have z1:lZ p_.Next:=zat (zlI hk.1 2 rfl);have z2:lZ p_.Out:=zat (zlI hk.1 3 rfl);unfold za6 at h;obtain⟨b4,f5,h⟩:=zlA h;refine⟨_,(zpj p_ s_ t_ b4 (λ_ _ _=>f5)),?_⟩;refine zlC ?_ ?_<;>intro d8;replace h:=zbq d8 h;cases h;exact⟨rfl,rfl⟩;replace h:=zbp d8 h;refine zlF p_.Next.length zak ?_;obtain⟨d7,hc,f6⟩:=zlA h;clear h;have h:=hc;clear hc;refine Cut.mk (mkSt [(10,.im (nI (d7:Int)))] [] []) (True) (hT) ?_ (λhp=>?_);refine zb7.iter (λ(s:Nat×(List (yab×Bool))×Nat)=>za6.s56 p_ b4 s.1 s.2.1 s.2.2) (λ(b0,b2,a2)=>mkSt [(3,.im (.ref (zaf p_))),(8,.im (nL cI b4.1)),(10,.im (nI (b0:Int))),(11,.osl 64 1),(27,.im (nI (p_.Next.length:Int))),(28,.im (nI (a2:Int)))] [(64,.map (mapV wA wB b2))] []) (λ(b0,b2,a2)=>lZ b4.1/\True) h (eA [(64,some 24)]) (by rintro⟨b0,b2,a2⟩;exact((zlH 8 rfl).and (hT))) ?_;clear h;rintro k ⟨b0,b2,a2⟩ o hp h a3;replace h:za6.s56 p_ b4 b0 b2 a2=some o:=h;unfold za6.s56 at h;obtain⟨d9,_⟩:=hp;refine zlC ?_ ?_<;>intro b5;obtain⟨h,d0⟩:=ctd b5 h;obtain⟨a7,f4,h⟩:=zac h;refine⟨_,⟨(by omega),zad f4,rfl⟩,?_⟩;refine zlF a7.length zak ?_;obtain⟨⟨b6,b7⟩,hc,f3⟩:=zlA h;clear h;have h:=hc;clear hc;refine Cut.mk (mkSt [(3,.im (.ref (zaf p_))),(8,.im (nL cI b4.1)),(10,.im (nI (b6:Int))),(11,.osl 64 1),(27,.im (nI (p_.Next.length:Int))),(28,.im (nI (a2:Int)))] [(64,.map (mapV wA wB b7))] []) (lZ b4.1/\True) ((zlH 8 rfl).and (hT)) ?_ (λhp=>?_);refine zb7.iter (λ(s:Nat×(List (yab×Bool))×Nat)=>za6.s54 b4 a2 a7 s.1 s.2.1 s.2.2) (λ(b3,a8,a6)=>mkSt [(3,.im (.ref (zaf p_))),(8,.im (nL cI b4.1)),(10,.im (nI (b3:Int))),(11,.osl 64 1),(12,.im (nI (a2:Int))),(27,.im (nI (p_.Next.length:Int))),(28,.im (nI (a2:Int))),(35,.im (nL cI a7)),(36,.im (nI (a7.length:Int))),(37,.im (nI (a6:Int)))] [(64,.map (mapV wA wB a8))] []) (λ(b3,a8,a6)=>lZ b4.1/\lZ a7/\True) h (eA [(64,some 64)]) (by rintro⟨b3,a8,a6⟩;exact((zlH 8 rfl).and ((zlH 35 rfl).and (hT)))) ?_;clear h;rintro k ⟨b3,a8,a6⟩ o hp h a0;replace h:za6.s54 b4 a2 a7 b3 a8 a6=some o:=h;unfold za6.s54 at h;obtain⟨e0,e1,_⟩:=hp;refine zlC ?_ ?_<;>intro b8;obtain⟨h,d1⟩:=ctd b8 h;obtain⟨⟨b9,c0⟩,hc,a5⟩:=zlA h;clear h;have h:=hc;clear hc;refine Cut.mk (mkSt [(3,.im (.ref (zaf p_))),(8,.im (nL cI b4.1)),(10,.im (nI (b9:Int))),(11,.osl 64 1),(12,.im (nI (a2:Int))),(27,.im (nI (p_.Next.length:Int))),(28,.im (nI (a2:Int))),(35,.im (nL cI a7)),(36,.im (nI (a7.length:Int))),(37,.im (nI (a6:Int)))] [(64,.map (mapV wA wB c0))] []) (lZ b4.1/\lZ a7/\True) ((zlH 8 rfl).and ((zlH 35 rfl).and (hT))) ?_ (λhp=>?_);obtain⟨e2,e8,h⟩:=zac h;refine⟨_,⟨(by omega),zad e8,rfl⟩,?_⟩;refine zlC ?_ ?_<;>intro c6;obtain⟨h,d2⟩:=ctd c6 h;cases h;exact zlG (eA [(64,some 64)]);obtain⟨h,d2⟩:=cfd c6 h;obtain⟨d3,hc,e9⟩:=zlA h;clear h;have h:=hc;clear hc;refine Cut.mk (mkSt [(3,.im (.ref (zaf p_))),(8,.im (nL cI b4.1)),(10,.im (nI (d3:Int))),(11,.osl 64 1),(12,.im (nI (a2:Int))),(13,.im (nI (a6:Int))),(27,.im (nI (p_.Next.length:Int))),(28,.im (nI (a2:Int))),(35,.im (nL cI a7)),(36,.im (nI (a7.length:Int))),(37,.im (nI (a6:Int)))] [(64,.map (mapV wA wB a8))] []) (lZ b4.1/\lZ a7/\True) ((zlH 8 rfl).and ((zlH 35 rfl).and (hT))) ?_ (λhp=>?_);obtain⟨c7,a4,h⟩:=zac h;refine⟨_,⟨(by omega),zad a4,rfl⟩,?_⟩;obtain⟨d4,h⟩:=zan h;refine zlB rfl<|⟨[c7,(a6:Int)],_,zp2 (g:=wB) rfl ⟨rfl,d4⟩,?_⟩;refine zlF (wB ((mget [c7,(a6:Int)] a8).getD false)) ((getD_map rfl _).trans (congrArg (Option.getD · _) (get_arr _ _ _).symm))<|zlC ?_ ?_<;>intro c8;replace h:=zbq c8 h;obtain⟨d5,h⟩:=zan h;refine zbt.mk d5 ?_;cases h;exact zlG (eA [(64,some 64)]);replace h:=zbp c8 h;cases h;exact zlG (eA [(64,some 64)]);replace h:=e9;obtain⟨e3,e4,_⟩:=hp;obtain⟨c9,a9,h⟩:=zac h;refine⟨_,⟨(by omega),zad a9,rfl⟩,?_⟩;obtain⟨d6,h⟩:=zan h;refine zlB rfl<|⟨[c9,(a6:Int)],_,zp2 (g:=wB) rfl ⟨rfl,d6⟩,?_⟩;refine zlF (mapV wA wB (mset [c9,(a6:Int)] true a8)) (by rw[set_arr];exact mapA_set _ _) ?_;cases h;exact zlG (eA [(64,some 64)]);replace h:za6.k53 a6 b9 c0=some _:=a5;unfold za6.k53 at h;obtain⟨e5,e6,_⟩:=hp;refine zbt.mk (by show inR _;unfold inR;omega) ?_;cases h;exact zlK _ a0 (eA [(64,some 64)]);obtain⟨h,d1⟩:=cfd b8 h;cases h;have a0:_=_:=a0;cases a0;exact zlG (eA [(64,some 64)]);replace h:za6.k55 a2 b6 b7=some _:=f3;unfold za6.k55 at h;obtain⟨e7,_⟩:=hp;refine zbt.mk (by show inR _;unfold inR;omega) ?_;cases h;exact zlK _ a3 (eA [(64,some 64)]);obtain⟨h,d0⟩:=cfd b5 h;cases h;have a3:_=_:=a3;cases a3;exact zlG (eA []);replace h:=f6;cases h;exact⟨rfl,rfl⟩
def zgw(p_:zaa)(s_:Int)(t_:Int)(r:Int×Bool×Int)(h:Ok (.agg (zaf p_))->Ok (nI s_)->Ok (nI t_)->zfx p_ s_ t_=some r):Sp Tryz.prog 10 [.im (.agg (zaf p_)),.im (nI s_),.im (nI t_)] (.tup [nI r.1,nB r.2.1,nI r.2.2]):=by
 refine zce rfl [700003] rfl rfl rfl (zkE rfl) rfl λhk=>?_;replace h:=h hk.1 hk.2.1 hk.2.2.1;have z1:lZ p_.Next:=zat (zlI hk.1 2 rfl);have z2:lZ p_.Out:=zat (zlI hk.1 3 rfl);unfold zfx at h;obtain⟨b2,a0,h⟩:=zlA h;refine⟨_,(zfu p_ b2 (λ_=>a0)),?_⟩;refine zlC ?_ ?_<;>intro a8;obtain⟨h,a6⟩:=ctd a8 h;cases h;exact⟨rfl,rfl⟩;obtain⟨h,a6⟩:=cfd a8 h;obtain⟨b3,hc,a3⟩:=zlA h;clear h;have h:=hc;clear hc;refine Cut.mk (mkSt [(1,.im (nI s_)),(2,.im (nI t_)),(3,.im (.ref (zaf p_))),(29,.im (nB b3))] [] []) (True) (hT) ?_ (λhp=>?_);refine zlC ?_ ?_<;>intro a2;replace a2:=zdd a2;obtain⟨h,a7⟩:=cfd a2 h
 iterate 5 (refine zlD (zbw a2) ?_)
 refine zlF p_.Next.length zak<|zlD (zbw a2)<|zlE a2 ?_;cases h;exact zlG (eA []);replace a2:=zde a2;obtain⟨h,a7⟩:=ctd a2 h
 iterate 6 (refine zlE (zdf a2) ?_)
 refine zlD a2 ?_;cases h;exact zlG (eA []);replace h:=a3;refine zlC ?_ ?_<;>intro b0;replace h:=zbq b0 h;cases h;exact⟨rfl,rfl⟩;replace h:=zbp b0 h;obtain⟨b4,a4,h⟩:=zlA h;refine⟨_,(zjq p_ s_ t_ b4 (λ_ _ _=>a4)),?_⟩;cases h;exact⟨rfl,rfl⟩
def znz(p_:zaa)(red_:List Bool)(r:yab)(h:Ok (.agg (zaf p_))->Ok (nL cB red_)->zbe p_ red_=some r):Sp Tryz.prog 46 [.im (.agg (zaf p_)),.im (nL cB red_)] (.row 3 1 (List.map cI r)):=by
 refine zce rfl [700002] rfl rfl rfl (zkE rfl) rfl λhk=>?_;replace h:=h hk.1 hk.2.1;have z1:lZ p_.Next:=zat (zlI hk.1 2 rfl);have z2:lZ p_.Out:=zat (zlI hk.1 3 rfl);have z3:lZ red_:=zat hk.2.1;unfold zbe at h;refine zlF red_.length zak ?_;obtain⟨d7,h⟩:=zan h;refine zlB d7<|zlF (List.map cB (List.replicate red_.length false)) (ze6 (c:=cB) (z:=false) (n:=red_.length) rfl rfl)<|zlF red_.length zak ?_;obtain⟨b0,hc,g8⟩:=zlA h;clear h;have h:=hc;clear hc;refine Cut.mk (mkSt [(5,.osl 64 1)] [(64,.row 4 1 (List.map cB b0))] []) (lZ b0/\True) ((Holds.kdl 64 rfl).and (hT)) ?_ (λhp=>?_);refine zb7.iter (λ(s:List Bool×Nat)=>zbe.s14 p_ red_ s.1 s.2) (λ(b5,b2)=>mkSt [(1,.im (nL cB red_)),(2,.im (.ref (zaf p_))),(5,.osl 64 1),(16,.im (nL cB red_)),(17,.im (nI (red_.length:Int))),(18,.im (nI (b2:Int)))] [(64,.row 4 1 (List.map cB b5))] []) (λ(b5,b2)=>lZ red_/\lZ b5/\True) h (eA [(64,some 15)]) (by rintro⟨b5,b2⟩;exact((zlH 1 rfl).and ((Holds.kdl 64 rfl).and (hT)))) ?_;clear h;rintro k ⟨b5,b2⟩ o hp h a4;replace h:zbe.s14 p_ red_ b5 b2=some o:=h;unfold zbe.s14 at h;obtain⟨d8,d9,_⟩:=hp;refine zlC ?_ ?_<;>intro b8;obtain⟨h,b9⟩:=ctd b8 h;obtain⟨b7,g7,h⟩:=zac h;refine⟨_,⟨(by omega),zad g7,rfl⟩,?_⟩;obtain⟨a7,g5,h⟩:=zac h;refine⟨_,⟨(by omega),zad g5,rfl⟩,?_⟩;refine zlF a7.length zak ?_;obtain⟨c0,hc,g1⟩:=zlA h;clear h;have h:=hc;clear hc;refine Cut.mk (mkSt [(1,.im (nL cB red_)),(2,.im (.ref (zaf p_))),(5,.osl 64 1),(16,.im (nL cB red_)),(17,.im (nI (red_.length:Int))),(18,.im (nI (b2:Int)))] [(64,.row 4 1 (List.map cB c0))] []) (lZ red_/\lZ c0/\True) ((zlH 1 rfl).and ((Holds.kdl 64 rfl).and (hT))) ?_ (λhp=>?_);refine zb7.iter (λ(s:List Bool×Nat)=>zbe.s13 red_ b7 a7 s.1 s.2) (λ(a8,b6)=>mkSt [(1,.im (nL cB red_)),(2,.im (.ref (zaf p_))),(5,.osl 64 1),(7,.im (nB b7)),(16,.im (nL cB red_)),(17,.im (nI (red_.length:Int))),(18,.im (nI (b2:Int))),(27,.im (nL cI a7)),(28,.im (nI (a7.length:Int))),(29,.im (nI (b6:Int)))] [(64,.row 4 1 (List.map cB a8))] []) (λ(a8,b6)=>lZ red_/\lZ a7/\lZ a8/\True) h (eA [(64,some 64)]) (by rintro⟨a8,b6⟩;exact((zlH 1 rfl).and ((zlH 27 rfl).and ((Holds.kdl 64 rfl).and (hT))))) ?_;clear h;rintro k ⟨a8,b6⟩ o hp h a3;replace h:zbe.s13 red_ b7 a7 a8 b6=some o:=h;unfold zbe.s13 at h;obtain⟨e0,e1,e2,_⟩:=hp;refine zlC ?_ ?_<;>intro c6;obtain⟨h,c7⟩:=ctd c6 h;obtain⟨c8,g4,h⟩:=zac h;refine⟨_,⟨(by omega),zad g4,rfl⟩,?_⟩;obtain⟨d5,hc,g3⟩:=zlA h;clear h;have h:=hc;clear hc;refine Cut.mk (mkSt [(1,.im (nL cB red_)),(2,.im (.ref (zaf p_))),(5,.osl 64 1),(7,.im (nB b7)),(9,.im (nI c8)),(16,.im (nL cB red_)),(17,.im (nI (red_.length:Int))),(18,.im (nI (b2:Int))),(27,.im (nL cI a7)),(28,.im (nI (a7.length:Int))),(29,.im (nI (b6:Int))),(44,.im (nB d5))] [(64,.row 4 1 (List.map cB a8))] []) (lZ red_/\lZ a7/\lZ a8/\True) ((zlH 1 rfl).and ((zlH 27 rfl).and ((Holds.kdl 64 rfl).and (hT)))) ?_ (λhp=>?_);refine zlC ?_ ?_<;>intro a6;replace a6:=zc6 a6;replace h:=zbq a6 h;refine zlD (zbj a6)<|zlD a6<|zlC ?_ ?_<;>intro a2;replace a2:=zc6 a2;obtain⟨h,c9⟩:=ctd a2 h
 iterate 2 (refine zlD (zbj a2) ?_)
 obtain⟨e3,f9,g6,h⟩:=zar h;refine⟨_,⟨f9,zad g6,rfl⟩,?_⟩
 iterate 2 (refine zlD (zbj a2) ?_)
 refine zlD a2 ?_;cases h;exact zlG (eA [(64,some 64)]);replace a2:=zc9 a2;obtain⟨h,c9⟩:=cfd a2 h
 iterate 4 (refine zlE (zdk a2) ?_)
 refine zlE a2 ?_;cases h;exact zlG (eA [(64,some 64)]);replace a6:=zc9 a6;replace h:=zbp a6 h;refine zlE (zdk a6)<|zlE a6 ?_
 iterate 6 (refine zlE rfl ?_)
 cases h;exact zlG (eA [(64,some 64)]);replace h:=g3;obtain⟨e4,e5,e6,_⟩:=hp;refine zlC ?_ ?_<;>intro d0;replace h:=zbq d0 h;obtain⟨e7,f6,a5,h⟩:=zar h;refine zlB ⟨f6,rfl,za0 a5⟩<|zlB ⟨rfl,trivial⟩<|⟨_,zad a5,?_⟩;refine zlF (List.map cB (List.set a8 c8.toNat true)) (zc2 rfl)<|zbt.mk (by show inR _;unfold inR;omega) ?_;cases h;exact zlK _ a3 (eA [(64,some 64)]);replace h:=zbp d0 h;refine zbt.mk (by show inR _;unfold inR;omega) ?_;cases h;exact zlK _ a3 (eA [(64,some 64)]);obtain⟨h,c7⟩:=cfd c6 h;cases h;have a3:_=_:=a3;cases a3;exact zlG (eA [(64,some 64)]);replace h:=g1;obtain⟨e8,e9,_⟩:=hp;refine zbt.mk (by show inR _;unfold inR;omega) ?_;cases h;exact zlK _ a4 (eA [(64,some 64)]);obtain⟨h,b9⟩:=cfd b8 h;cases h;have a4:_=_:=a4;cases a4;exact zlG (eA [(64,some 64)]);replace h:=g8;obtain⟨f3,_⟩:=hp;refine zlB rfl<|zlF b0.length zak ?_;obtain⟨d1,hc,g2⟩:=zlA h;clear h;have h:=hc;clear hc;refine Cut.mk (mkSt [(10,.osl 64 1)] [(64,.row 3 1 (List.map cI d1))] []) (lZ d1/\True) ((Holds.kdl 64 rfl).and (hT)) ?_ (λhp=>?_);refine zb7.iter (λ(s:yab×Nat)=>zbe.s16 b0 s.1 s.2) (λ(b3,b4)=>mkSt [(10,.osl 64 1),(50,.osl 65 1),(51,.im (nI (b0.length:Int))),(52,.im (nI (b4:Int)))] [(64,.row 3 1 (List.map cI b3)),(65,.row 4 1 (List.map cB b0))] []) (λ(b3,b4)=>lZ b3/\lZ b0/\True) h (eA [(64,none),(65,some 64)]) (by rintro⟨b3,b4⟩;exact((Holds.kdl 64 rfl).and ((Holds.kdl 65 rfl).and (hT)))) ?_;clear h;rintro k ⟨b3,b4⟩ o hp h a0;replace h:zbe.s16 b0 b3 b4=some o:=h;unfold zbe.s16 at h;obtain⟨f4,f5,_⟩:=hp;refine zlC ?_ ?_<;>intro d2;obtain⟨h,d3⟩:=ctd d2 h;obtain⟨f7,a9,h⟩:=zac h;refine zlB ⟨(by omega),rfl,za0 a9⟩<|⟨_,_,⟨rfl,zad a9,rfl,rfl⟩,?_⟩;refine zlC ?_ ?_<;>intro d4;replace h:=zbq d4 h;obtain⟨d6,h⟩:=zan h;refine zlB ⟨rfl,zck (l:=[(b4:Int)]) (c:=cI) λ_=>rfl,show za5 _ 8 by simpa only[zkK,zkL,ya8,yal]using d6⟩ ?_;refine zlF (List.map cI (b3++[(b4:Int)])) (zcj (l:=b3) (m:=[(b4:Int)]) (c:=cI)) ?_;refine zbt.mk (by show inR _;unfold inR;omega) ?_;cases h;exact zlK _ a0 (eA [(64,some 64),(65,some 65)]);replace h:=zbp d4 h;refine zbt.mk (by show inR _;unfold inR;omega) ?_;cases h;exact zlK _ a0 (eA [(64,some 64),(65,some 65)]);obtain⟨h,d3⟩:=cfd d2 h;cases h;have a0:_=_:=a0;cases a0;exact zlG (eA [(64,some 64)]);replace h:=g2;obtain⟨f8,_⟩:=hp;cases h;exact zlB ⟨rfl,trivial⟩ ⟨rfl,rfl⟩
def zph(p_:zaa)(red_:List Bool)(blue_:Int)(r:za2)(h:Ok (.agg (zaf p_))->Ok (nL cB red_)->Ok (nI blue_)->zb9 p_ red_ blue_=some r):Sp Tryz.prog 86 [.im (.agg (zaf p_)),.im (nL cB red_),.im (nI blue_)] (.im (.agg (zfs r))):=by
 refine zce rfl [700003] rfl rfl rfl (zkE rfl) rfl λhk=>?_;replace h:=h hk.1 hk.2.1 hk.2.2.1;have z1:lZ p_.Next:=zat (zlI hk.1 2 rfl);have z2:lZ p_.Out:=zat (zlI hk.1 3 rfl);have z3:lZ red_:=zat hk.2.1;unfold zb9 at h;refine zlF red_.length zak ?_;obtain⟨⟨b3,b4,b5⟩,hc,d4⟩:=zlA h;clear h;have h:=hc;clear hc;refine Cut.mk (mkSt [(6,.own 64 1 0),(7,.own 65 1 0)] [(64,.box 84 3),(65,.box 84 3)] [(64,0,.im (nI 0)),(64,1,.im (nI 0)),(64,2,.im (nI 0)),(65,0,.im (nI b3)),(65,1,.im (nI b4)),(65,2,.im (nI (b5:Int)))]) (True) (hT) ?_ (λhp=>?_);refine zb7.iter (λ(s:Int×Int×Nat×Nat)=>zb9.s10 p_ red_ blue_ s.1 s.2.1 s.2.2.1 s.2.2.2) (λ(a8,b0,b2,a7)=>mkSt [(2,.im (nI blue_)),(3,.im (.ref (zaf p_))),(6,.own 64 1 0),(7,.own 65 1 0),(12,.im (nL cB red_)),(13,.im (nI (red_.length:Int))),(14,.im (nI (a7:Int)))] [(64,.box 84 3),(65,.box 84 3)] [(64,0,.im (nI 0)),(64,1,.im (nI 0)),(64,2,.im (nI 0)),(65,0,.im (nI a8)),(65,1,.im (nI b0)),(65,2,.im (nI (b2:Int)))]) (λ(a8,b0,b2,a7)=>lZ red_/\True) h (eA [(64,some 6),(65,some 7)]) (by rintro⟨a8,b0,b2,a7⟩;exact((zlH 12 rfl).and (hT))) ?_;clear h;rintro k ⟨a8,b0,b2,a7⟩ o hp h a0;replace h:zb9.s10 p_ red_ blue_ a8 b0 b2 a7=some o:=h;unfold zb9.s10 at h;obtain⟨d0,_⟩:=hp;refine zlC ?_ ?_<;>intro b6;obtain⟨h,b7⟩:=ctd b6 h;obtain⟨⟨b8,b9,c0⟩,hc,a4⟩:=zlA h;clear h;have h:=hc;clear hc;refine Cut.mk (mkSt [(2,.im (nI blue_)),(3,.im (.ref (zaf p_))),(6,.own 64 1 0),(7,.own 65 1 0),(12,.im (nL cB red_)),(13,.im (nI (red_.length:Int))),(14,.im (nI (a7:Int)))] [(64,.box 84 3),(65,.box 84 3)] [(64,0,.im (nI 0)),(64,1,.im (nI 0)),(64,2,.im (nI 0)),(65,0,.im (nI b8)),(65,1,.im (nI b9)),(65,2,.im (nI (c0:Int)))]) (lZ red_/\True) ((zlH 12 rfl).and (hT)) ?_ (λhp=>?_);obtain⟨d1,a9,h⟩:=zac h;refine⟨_,⟨(by omega),zad a9,rfl⟩,?_⟩;refine zlC ?_ ?_<;>intro c6;replace h:=zbq c6 h;cases h;exact zlG (eA [(64,some 64),(65,some 65)]);replace h:=zbp c6 h;obtain⟨c7,a3,h⟩:=zlA h;refine⟨_,(zjq p_ (a7:Int) blue_ c7 (λ_ _ _=>a3)),?_⟩;obtain⟨c9,hc,a5⟩:=zlA h;clear h;have h:=hc;clear hc;refine Cut.mk (mkSt [(2,.im (nI blue_)),(3,.im (.ref (zaf p_))),(6,.own 64 1 0),(7,.own 65 1 0),(8,.im (nI (a7:Int))),(10,.im (nI c7.1)),(12,.im (nL cB red_)),(13,.im (nI (red_.length:Int))),(14,.im (nI (a7:Int))),(39,.im (nB c9))] [(64,.box 84 3),(65,.box 84 3)] [(64,0,.im (nI 0)),(64,1,.im (nI 0)),(64,2,.im (nI 0)),(65,0,.im (nI a8)),(65,1,.im (nI b0)),(65,2,.im (nI (b2:Int)))]) (lZ red_/\True) ((zlH 12 rfl).and (hT)) ?_ (λhp=>?_);refine zlC ?_ ?_<;>intro a2;replace a2:=zc6 a2;replace h:=zbq a2 h;refine zlB rfl ?_
 iterate 2 (refine zlD (zbj a2) ?_)
 refine zlB (by kernel_rfl)<|zlF (decide (a8=0)&&(decide (b0=0)&&(decide ((b2:Int)=0)&&true))) rfl<|zlD (zbj a2)<|zlC ?_ ?_<;>intro a6;replace a6:=zdd a6;replace h:=zbp a6 h;refine zlD (zbw a6)<|zlB rfl<|zlD (zbw a6)<|zlB rfl<|zlD (zbw a6)<|zlD (zbj a2)<|zlE a6<|zlD a2 ?_;cases h;exact zlG (eA [(64,some 64),(65,some 65)]);replace a6:=zde a6;replace h:=zbq a6 h
 iterate 3 (refine zlE (zdf a6) ?_)
 refine zlD (zbj a2)<|zlD a6<|zlD a2 ?_;cases h;exact zlG (eA [(64,some 64),(65,some 65)]);replace a2:=zc9 a2;replace h:=zbp a2 h
 iterate 4 (refine zlE (zdk a2) ?_)
 refine zlE a2 ?_;cases h;exact zlG (eA [(64,some 64),(65,some 65)]);replace h:=a5;obtain⟨d2,_⟩:=hp;refine zlC ?_ ?_<;>intro c8;replace h:=zbq c8 h;refine zlB rfl ?_;cases h;exact zlG (eA [(64,some 64),(65,some 65)]);replace h:=zbp c8 h;cases h;exact zlG (eA [(64,some 64),(65,some 65)]);replace h:zb9.k9 a7 b8 b9 c0=some _:=a4;unfold zb9.k9 at h;obtain⟨d3,_⟩:=hp;refine zbt.mk (by show inR _;unfold inR;omega) ?_;cases h;exact zlK _ a0 (eA [(64,some 64),(65,some 65)]);obtain⟨h,b7⟩:=cfd b6 h;cases h;have a0:_=_:=a0;cases a0;exact zlG (eA [(64,some 64),(65,some 65)]);replace h:zb9.k11 b3 b4 b5=some _:=d4;unfold zb9.k11 at h;refine zlB rfl<|zlB rfl ?_;cases h;refine zlB ⟨rfl,trivial⟩ ?_;exact⟨rfl,rfl⟩
def zng(p_:zaa)(red_:List Bool)(l_:yab)(r:za2×Int)(h:Ok (.agg (zaf p_))->Ok (nL cB red_)->Ok (nL cI l_)->zb0 p_ red_ l_=some r):Sp Tryz.prog 47 [.im (.agg (zaf p_)),.im (nL cB red_),.im (nL cI l_)] (.tup [.agg (zfs r.1),nI r.2]):=by
 refine zce rfl [700003] rfl rfl rfl (zkE rfl) rfl λhk=>?_;replace h:=h hk.1 hk.2.1 hk.2.2.1;have z1:lZ p_.Next:=zat (zlI hk.1 2 rfl);have z2:lZ p_.Out:=zat (zlI hk.1 3 rfl);have z3:lZ red_:=zat hk.2.1;have z4:lZ l_:=zat hk.2.2.1;unfold zb0 at h;refine zlF l_.length zak ?_;obtain⟨oc,hc,a3⟩:=zlA h;clear h;have h:=hc;clear hc;refine zlJ oc (Y:=Int×Int×Int) (λ(b3,b4,b5)=>mkSt [(6,.own 64 1 0),(8,.own 65 1 0)] [(64,.box 84 3),(65,.box 84 3)] [(64,0,.im (nI 0)),(64,1,.im (nI 0)),(64,2,.im (nI 0)),(65,0,.im (nI b3)),(65,1,.im (nI b4)),(65,2,.im (nI b5))]) (λ(b3,b4,b5)=>True) (by rintro⟨b3,b4,b5⟩;exact(hT)) ?_ ?_;refine zb7.iter (λ(s:Int×Int×Int×Nat)=>zb0.s2 p_ red_ l_ s.1 s.2.1 s.2.2.1 s.2.2.2) (λ(a6,a7,a8,b2)=>mkSt [(1,.im (nL cB red_)),(3,.im (.ref (zaf p_))),(6,.own 64 1 0),(8,.own 65 1 0),(12,.im (nL cI l_)),(13,.im (nI (l_.length:Int))),(14,.im (nI (b2:Int)))] [(64,.box 84 3),(65,.box 84 3)] [(64,0,.im (nI 0)),(64,1,.im (nI 0)),(64,2,.im (nI 0)),(65,0,.im (nI a6)),(65,1,.im (nI a7)),(65,2,.im (nI a8))]) (λ(a6,a7,a8,b2)=>lZ red_/\lZ l_/\True) h (eA [(64,some 6),(65,some 8)]) (by rintro⟨a6,a7,a8,b2⟩;exact((zlH 1 rfl).and ((zlH 12 rfl).and (hT)))) ?_;clear h;rintro k ⟨a6,a7,a8,b2⟩ o hp h a0;replace h:zb0.s2 p_ red_ l_ a6 a7 a8 b2=some o:=h;unfold zb0.s2 at h;obtain⟨c7,c8,_⟩:=hp;refine zlC ?_ ?_<;>intro b6;obtain⟨h,b7⟩:=ctd b6 h;obtain⟨c0,a9,h⟩:=zac h;refine⟨_,⟨(by omega),zad a9,rfl⟩,?_⟩;obtain⟨b0,a5,h⟩:=zlA h;refine⟨_,(zph p_ red_ c0 b0 (λ_ _ _=>a5)),?_⟩;refine zlB rfl<|zlB rfl<|zlB (by kernel_rfl)<|zlF (decide (b0.score=0)&&(decide (b0.blue=0)&&(decide (b0.red=0)&&true))) rfl<|zlC ?_ ?_<;>intro b8;replace h:=zbq b8 h;refine zlB rfl<|zlB rfl ?_;cases h;have a0:_=_:=a0;cases a0;replace h:some _=some _:=a3;cases h;refine zlB ⟨rfl,trivial⟩ ?_;exact⟨rfl,rfl⟩;replace h:=zbp b8 h;obtain⟨c6,hc,a4⟩:=zlA h;clear h;have h:=hc;clear hc;refine Cut.mk (mkSt [(1,.im (nL cB red_)),(3,.im (.ref (zaf p_))),(6,.own 64 1 0),(8,.own 65 1 0),(11,.own 66 1 0),(12,.im (nL cI l_)),(13,.im (nI (l_.length:Int))),(14,.im (nI (b2:Int))),(36,.im (nB c6))] [(64,.box 84 3),(65,.box 84 3),(66,.box 84 3)] [(64,0,.im (nI 0)),(64,1,.im (nI 0)),(64,2,.im (nI 0)),(65,0,.im (nI a6)),(65,1,.im (nI a7)),(65,2,.im (nI a8)),(66,0,.im (nI b0.score)),(66,1,.im (nI b0.blue)),(66,2,.im (nI b0.red))]) (lZ red_/\lZ l_/\True) ((zlH 1 rfl).and ((zlH 12 rfl).and (hT))) ?_ (λhp=>?_);refine zlB rfl<|zlB (by kernel_rfl)<|zlF (decide (a6=0)&&(decide (a7=0)&&(decide (a8=0)&&true))) rfl<|zlC ?_ ?_<;>intro a2;replace a2:=zdd a2;replace h:=zbp a2 h;refine zlB rfl<|zlD (zbw a2)<|zlB rfl<|zlD (zbw a2)<|zlB rfl<|zlD (zbw a2)<|zlB rfl<|zlD (zbw a2)<|zlE a2 ?_;cases h;exact zlG (eA [(64,some 64),(65,some 65),(66,some 11)]);replace a2:=zde a2;replace h:=zbq a2 h
 iterate 4 (refine zlE (zdf a2) ?_)
 refine zlD a2 ?_;cases h;exact zlG (eA [(64,some 64),(65,some 65),(66,some 11)]);replace h:=a4;obtain⟨c9,d0,_⟩:=hp;refine zlC ?_ ?_<;>intro b9;replace h:=zbq b9 h;refine zlB rfl<|zlB rfl<|zbt.mk (by show inR _;unfold inR;omega) ?_;cases h;exact zlK _ a0 (eA [(64,some 64),(65,some 65)]);replace h:=zbp b9 h;refine zbt.mk (by show inR _;unfold inR;omega) ?_;cases h;exact zlK _ a0 (eA [(64,some 64),(65,some 65)]);obtain⟨h,b7⟩:=cfd b6 h;cases h;have a0:_=_:=a0;cases a0;exact zdn.mk' _ rfl (eA [(64,some 64),(65,some 65)]);rintro⟨b3,b4,b5⟩ rfl hp;have d1:=zcf a3;replace h:zb0.k3 b3 b4 b5=some _:=d1;clear d1;unfold zb0.k3 at h;refine zlB rfl<|zlB rfl ?_;cases h;refine zlB ⟨rfl,trivial⟩ ?_;exact⟨rfl,rfl⟩
end
end Go.Proofs.YtkeplokjplkcmaaGreat.Sym

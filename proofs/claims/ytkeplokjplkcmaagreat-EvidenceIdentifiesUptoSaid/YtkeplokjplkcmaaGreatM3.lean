/- Parts of the proof. -/
import Derived.Test.YtkeplokjplkcmaaGreatM2
import Derived.Shelf.SlSortCmp.NoneTotal
import Derived.Lib.OwnBridge
import Derived.Lib.BufferRead
import Derived.WalkSmall
import Derived.Shelf.SlSortCmp.Whole1
import Derived.Shelf.SlSortCmp.WholeK
import Derived.Shelf.SlGeneric
import Derived.Ground.SlsfProg
set_option linter.all false
set_option maxRecDepth 100000
set_option maxHeartbeats 4000000
open Go.RowKit
namespace Go.Proofs.YtkeplokjplkcmaaGreat.Sym
def zM{g:FuncId}{t:TypeId}{n:Int}(he:∀args w,(callFunc g args).run Tryz.prog w=.ok (.enter g args) w)(h0:0<=n)(h1:n<=1000000000)
  (h:∀(n:Nat),n<=1000000000->∀w,Calls Tryz.prog g #[.slice none 0 0,.int .i64 n] w (GrowPost t w)):Sp Tryz.prog g [.im (.val (.slice none 0 0)),.im (nI n)] (.row t 1 []):=by
 refine⟨he,λw S vs F hS hv hn hF=>?_⟩
 match vs,hv with
 |[v,u],⟨F1,F2,⟨h3,e1⟩,⟨F3,F4,⟨h4,e2⟩,h5,e3⟩,e4⟩ =>
  have h5:F4=[]:=h5;subst e1 e2 h5 e3 e4;cases h3;cases h4;have hc:=h n.toNat (by omega) w;rw[oO h0]at hc;refine hc.mono ?_;rintro e w' ⟨v',rfl,ho,hb⟩
  have a2:w'.ownsRow 0 t 1 v' 0 []:=by
   refine⟨ho.1,?_⟩;rcases ho.2 with h6|⟨g1,cap,cur,k1,_,k3⟩
   ·exact .inl h6
   ·exact .inr ⟨g1,cap,cur,k1,D8 _,k3⟩
  have a4:=ho.lt
  have a3:∀b∈(F6 v').toList,w.heap.size<=b/\b<w'.heap.size:=λb hb=>by
   refine a4 b ?_;rw[dU a2];simpa using hb
  refine⟨v',(F6 v').toList,rfl,.of hb,⟨[v'],(F6 v').toList,[],rfl,⟨(F6 v').toList,[],⟨row_one a2,[],⟨[],Nat.one_pos,λx hx=>by simp at hx,by decide,a2,rfl,λu hu=>by simp at hu,λi u x hu=>by simp at hu⟩,rfl⟩,rfl,by simp⟩,rfl,by simp⟩,?_,λb hb=>⟨.inl (a3 b hb).1,(a3 b hb).2⟩⟩;cases F6 v'<;>simp
def wY(n:Int):Option (A2):=chk (0<=n/\n<=1000000000) (some [])
def zs6(n:Int)(r:A2)(h:wY n=some r):Sp Tryz.prog 174 [.im (.val (.slice none 0 0)),.im (nI n)] (.row 3 1 (List.map cI r)):=by
 obtain⟨h1,h⟩:=D1 h;injection h with h
 subst h;exact zM (λargs w=>eR rfl rfl rfl args w) h1.1 h1.2 growI_any
def xI(n:Int):Option (A4):=chk (0<=n/\n<=1000000000) (some [])
def zp5(n:Int)(r:A4)(h:xI n=some r):Sp Tryz.prog 131 [.im (.val (.slice none 0 0)),.im (nI n)] (.row 60 1 (List.map (cL cI) r)):=by
 obtain⟨h1,h⟩:=D1 h;injection h with h
 subst h;exact zM (λargs w=>eR rfl rfl rfl args w) h1.1 h1.2 growW_any
section
open Go.RowKit Go.Sort
section plain
variable {V:Type}
def totB[DecidableEq V](f:V->V->Option Int)(l:List V):Bool :=
 l.all λa=>l.all λb=>match f a b,f b a with
  |some m,some n=>(decide (m=0)==decide (a=b))&&(decide (m<0)==decide (0<n))&&(decide (-1<=m/\m<=1))&&l.all λc=>!(decide (m<0)&&(match f b c with|some x=>decide (x<0)|none=>false))||(match f a c with|some x=>decide (x<0)|none=>false)
  |_,_=>false
def insF(f:V->V->Option Int)(x:V):List V->List V
 |[]=>[x]
 |y::l=>match f x y with
  |some m=>cond (decide (m<=0)) (x::y::l) (y::insF f x l)
  |none=>x::y::l
def eP(f:V->V->Option Int):List V->List V
 |[]=>[]
 |x::l=>insF f x (eP f l)
def mJ[DecidableEq V](l:List V)(f:V->V->Option Int):Option (List V):=chk (l.length<=1000000000) (cond (totB f l) (some (eP f l)) none)
def cfv(f:V->V->Option Int)(a b:V):Int:=(f a b).getD 0
structure TotF(f:V->V->Option Int)(l:List V):Prop where
 get:∀a∈l,∀b∈l,f a b=some (cfv f a b)
 zero:∀a∈l,∀b∈l,cfv f a b=0->a=b
 self:∀a∈l,cfv f a a=0
 swap:∀a∈l,∀b∈l,(cfv f a b<0↔0<cfv f b a)
 trans:∀a∈l,∀b∈l,∀c∈l,cfv f a b<0->cfv f b c<0->cfv f a c<0
def totB_iff[DecidableEq V]{f:V->V->Option Int}{l:List V}(h:totB f l=true):TotF f l:=by
 have key:∀a∈l,∀b∈l,∃m n,f a b=some m/\f b a=some n/\(m=0↔a=b)/\(m<0↔0<n)/\∀c∈l,m<0->(∃x,f b c=some x/\x<0)->∃x,f a c=some x/\x<0:=by
  intro a ha b hb;have h1:=R3.1 (R3.1 h a ha) b hb;cases e1:f a b with
  |none=>rw[e1]at h1;cases h1
  |some m =>
   cases e2:f b a with
   |none=>rw[e1,e2]at h1;cases h1
   |some n =>
    rw[e1,e2]at h1;simp only[O2]at h1;obtain⟨⟨⟨h2,h3⟩,_⟩,h5⟩:=h1;refine⟨m,n,rfl,rfl,?_,?_,λc hc hm ⟨x,hx,a2⟩=>?_⟩
    ·have h2:=eq_of_beq h2;simpa using h2
    ·have h3:=eq_of_beq h3;simpa using h3
    ·have h6:=R3.1 h5 c hc;rw[hx]at h6;simp only[hm,a2,decide_true,Bool.and_self,Z9,rB]at h6;cases e3:f a c with
     |none=>rw[e3]at h6;cases h6
     |some y=>rw[e3]at h6;exact⟨y,rfl,by simpa using h6⟩
 have get:∀a∈l,∀b∈l,f a b=some (cfv f a b):=λa ha b hb=>by
  obtain⟨m,n,e1,_⟩:=key a ha b hb;unfold cfv;rw[e1];rfl
 refine⟨get,λa ha b hb=>?_,λa ha=>?_,λa ha b hb=>?_,λa ha b hb c hc h1 h2=>?_⟩
 ·obtain⟨m,n,e1,e2,h3,_⟩:=key a ha b hb;rw[get a ha b hb]at e1;injection e1 with e1
  rw[e1];exact h3.1
 ·obtain⟨m,n,e1,e2,h3,_⟩:=key a ha a ha;rw[get a ha a ha]at e1;injection e1 with e1
  rw[e1];exact h3.2 rfl
 ·obtain⟨m,n,e1,e2,h3,h4,_⟩:=key a ha b hb;rw[get a ha b hb]at e1;rw[get b hb a ha]at e2;injection e1 with e1
  injection e2 with e2
  rw[e1,e2];exact h4
 ·obtain⟨m,n,e1,e2,h3,h4,h5⟩:=key a ha b hb;rw[get a ha b hb]at e1;injection e1 with e1
  obtain⟨x,hx,a2⟩:=h5 c hc (by omega) ⟨_,get b hb c hc,h2⟩;rw[get a ha c hc]at hx;injection hx with hx
  omega
def TotF.sub{f:V->V->Option Int}{l l':List V}(T:TotF f l)(h:∀x∈l',x∈l):TotF f l' :=
 ⟨λa ha b hb=>T.get a (h a ha) b (h b hb),λa ha b hb=>T.zero a (h a ha) b (h b hb),λa ha=>T.self a (h a ha),λa ha b hb=>T.swap a (h a ha) b (h b hb),λa ha b hb c hc=>T.trans a (h a ha) b (h b hb) c (h c hc)⟩
def NGt(f:V->V->Option Int)(a b:V):Prop:=¬cfv f b a<0
def TotF.ngt_trans{f:V->V->Option Int}{l:List V}(T:TotF f l){a b c:V}(ha:a∈l)(hb:b∈l)(hc:c∈l)(h1:NGt f a b)(h2:NGt f b c):NGt f a c:=by
 intro h3;have s1:=T.swap a ha b hb;have s2:=T.swap b hb c hc;have s3:=T.swap c hc a ha;have t1:=T.swap b hb a ha;have t2:=T.swap c hc b hb;unfold NGt at h1 h2;by_cases e1:cfv f b a=0
 ·have:=T.zero b hb a ha e1;subst this;exact h2 h3
 ·by_cases e2:cfv f c b=0
  ·have:=T.zero c hc b hb e2;subst this;exact h1 h3
  ·have h4:cfv f a b<0:=s1.2 (by omega);have h5:=T.trans c hc a ha b hb h3 h4;exact h2 h5
def insF_le{f:V->V->Option Int}{x y:V}{l:List V}{m:Int}(h:f x y=some m)(hm:m<=0):insF f x (y::l)=x::y::l:=by
 simp[insF,h,hm]
def insF_gt{f:V->V->Option Int}{x y:V}{l:List V}{m:Int}(h:f x y=some m)(hm:¬m<=0):insF f x (y::l)=y::insF f x l:=by
 simp[insF,h,hm]
def uS(f:V->V->Option Int)(x:V):∀l:List V,(insF f x l).Perm (x::l)
 |[]=>List.Perm.refl _
 |y::l=>by
  cases h:f x y with
  |none=>simp[insF,h]
  |some m =>
   by_cases hm:m<=0
   ·rw[insF_le h hm]
   ·rw[insF_gt h hm];exact((uS f x l).cons y).trans (List.Perm.swap x y l)
def gY(f:V->V->Option Int):∀l:List V,(eP f l).Perm l
 |[]=>List.Perm.refl _
 |x::l=>(uS f x _).trans ((gY f l).cons x)
def BE{f:V->V->Option Int}{x:V}:∀{l:List V},TotF f (x::l)->l.Pairwise (NGt f)->(insF f x l).Pairwise (NGt f)
 |[],_,_=>List.pairwise_singleton _ _
 |y::l,T,h=>by
  have hx:x∈x::y::l:=by simp
  have hy:y∈x::y::l:=by simp
  have hc:=bW.1 h;by_cases hd:cfv f x y<=0
  ·rw[insF_le (T.get x hx y hy) hd]
   have a3:NGt f x y:=λh0=>by
    have:=(T.swap y hy x hx).1 h0;omega
   exact bW.2 ⟨λz hz=>by
    rcases M4.1 hz with rfl|a2
    ·exact a3
    ·exact T.ngt_trans hx hy (by simp[a2]) a3 (hc.1 z a2),h⟩
  ·rw[insF_gt (T.get x hx y hy) hd];have a4:NGt f y x:=by unfold NGt;omega
   refine bW.2 ⟨λz hz=>?_,BE (T.sub λz hz=>?_) hc.2⟩
   ·rcases M4.1 ((uS f x l).mem_iff.1 hz) with rfl|a2
    ·exact a4
    ·exact hc.1 z a2
   ·rcases M4.1 hz with rfl|a2
    ·simp
    ·simp[a2]
def xE{f:V->V->Option Int}:∀{l:List V},TotF f l->(eP f l).Pairwise (NGt f)
 |[],_=>List.Pairwise.nil
 |x::l,T=>BE (T.sub λz hz=>by
   rcases M4.1 hz with rfl|hz'
   ·simp
   ·exact M7 _ ((gY f l).mem_iff.1 hz')) (xE (T.sub λz hz=>M7 _ hz))
def AZ{f:V->V->Option Int}:∀{l1 l2:List V},TotF f l1->l1.Perm l2->l1.Pairwise (NGt f)->l2.Pairwise (NGt f)->l1=l2
 |[],l2,_,hp,_,_=>(List.nil_perm.1 hp).symm
 |x::l1,[],_,hp,_,_=>absurd hp.length_eq (by simp)
 |x::l1,y::l2,T,hp,h1,h2=>by
  have p1:=bW.1 h1;have p2:=bW.1 h2;have hx:x∈x::l1:=by simp
  have hy:y∈x::l1:=hp.mem_iff.2 (by simp)
  have e:x=y:=by
   rcases M4.1 hy with e|a3
   ·exact e.symm
   ·have a2:=p1.1 y a3;rcases M4.1 (hp.mem_iff.1 hx) with e|a5
    ·exact e
    ·have a4:=p2.1 x a5;have s1:=T.swap y hy x hx;have s2:=T.swap x hx y hy;unfold NGt at a2 a4;exact T.zero x hx y hy (by omega)
  subst e;rw[AZ (T.sub λz hz=>M7 _ hz) (List.Perm.cons_inv hp) p1.2 p2.2]
end plain
section model
variable {V:Type}
def CmpG(P:Program)(g:FuncId)(X:V->IV)(f:V->V->Option Int):Prop :=
 ∀(W:World) (S:Nat->Prop) (u u':Value) (x y:V) (r:Int),f x y=some r->RepI W S u (X x)->RepI W S u' (X y) ->
  Calls P g #[u,u'] W λe w'=>e=.returned (.int .i64 r)/\∃q os,w'=Sort.grow (W.drewN q) os
def El(w:World)(S:Nat->Prop)(k:Nat)(c:V->List IV)(l:List V):Type:={ p:List Value×V // p.1.length=k/\(∀v∈p.1,v.oneCell'=true)/\X3 w S p.1 (c p.2)/\p.2∈l }
variable {w:World}{S:Nat->Prop}{k:Nat}{c:V->List IV}{l:List V}
def El.enc(x:El w S k c l):List Value:=x.val.1
def El.wd(x:El w S k c l):V:=x.val.2
def El.of(us:List Value)(x:V)(h1:us.length=k)(h2:∀v∈us,v.oneCell'=true)(h3:X3 w S us (c x))(h4:x∈l):El w S k c l:=⟨(us,x),h1,h2,h3,h4⟩
def el_list(hk:∀x,(c x).length=k):∀(l0:List V) (us:List Value),(∀x∈l0,x∈l)->us.length=(l0.map c).flatten.length->(∀u∈us,u.oneCell'=true) ->
  (∀(i:Nat) u x,us[i]?=some u->(l0.map c).flatten[i]?=some x->RepI w S u x)->∃zs:List (El w S k c l),(zs.map El.enc).flatten=us/\zs.map El.wd=l0
 |[],us,_,hl,_,_=>⟨[],(V0 hl).symm,rfl⟩
 |x::l0,us,hm,hl,h1,hr=>by
  rw[M2,V4]at hl hr;rw[H4,hk]at hl
  obtain⟨zs,e1,e2⟩:=el_list hk l0 (us.drop k) (λy hy=>hm y (M7 _ hy)) (by rw[V7];omega) (λu hu=>h1 u (bX hu)) λi u y hu hy=>by
   rw[aB]at hu;refine hr (k+i) u y hu ?_;rw[Q0,if_neg (by rw[hk];omega),hk]
   rwa [yV]
  have hx1:(us.take k).length=k:=by rw[M3];omega
  have a3:∀v∈us.take k,v.oneCell'=true:=λu hu=>h1 u (aD hu)
  have a2:X3 w S (us.take k) (c x):=⟨by rw[hx1,hk],λi u y hu hy=>by
   have hi:i<k:=by
    rw[<- hk x]
    exact(E0.1 hy).1
   rw[aC,if_pos hi]at hu
   exact hr i u y hu (by rw[Q0,if_pos (by rw[hk];exact hi)];exact hy)⟩
  refine⟨El.of (us.take k) x hx1 a3 a2 (hm x (by simp))::zs,?_,?_⟩
  ·rw[M2,V4,e1];exact zD k us
  ·rw[M2,e2];rfl
def el_swo{f:V->V->Option Int}(T:TotF f l):SWO (ltOf λx y:El w S k c l=>cfv f x.wd y.wd) where
 irrefl x:=by
  have:=T.self x.wd x.property.2.2.2;simp[ltOf,this]
 trans x y z h1 h2:=by
  simp only[ltOf,decide_eq_true_eq]at *;exact T.trans _ x.property.2.2.2 _ y.property.2.2.2 _ z.property.2.2.2 h1 h2
 ntrans x y z h1 h2:=by
  simp only[ltOf,decide_eq_false_iff_not]at *;exact T.ngt_trans z.property.2.2.2 y.property.2.2.2 x.property.2.2.2 h2 h1
def SortC(P:Program)(sg:FuncId)(k:Nat)(mk:List Value->Value):Prop :=
 (∀(p:Option Addr) (cap:Nat) (fv:Value) (w:World),Calls P sg #[.slice p 0 cap,fv] w λe w'=>e=.returned (.tuple #[])/\w'=w) /\
 ∀(E:Type) [Inhabited E] (enc:E->List Value) (cf:E->E->Int) (g blk cap:Nat) (d:Array E) (w:World),(∀x,(enc x).length=k)->(∀x,∀v∈enc x,v.oneCell'=true)->SWO (ltOf cf) ->
  (∀args w,(callFunc g args).run P w=.ok (.enter g args) w) ->
  (∀(m:Nat) (os:Array Obj) (dk:Array E),dk.size=d.size->∀x y:E,Calls P g #[mk (enc x),mk (enc y)] (Sort.grow (putRow id (Sort.ahead w m) blk 0 (Go.Sort.flatK enc k dk)) os) λe w' =>
   e=.returned (.int .i64 (cf x y))/\∃q os',w'=Sort.grow ((Sort.grow (putRow id (Sort.ahead w m) blk 0 (Go.Sort.flatK enc k dk)) os).drewN q) os') ->
  Go.Sort.Holds id w blk 0 (Go.Sort.flatK enc k d)->blk<w.heap.size->d.size<4611686018427387904 ->
  Calls P sg #[.slice (some ⟨blk,0,none⟩) d.size cap,.func (.func g) #[] #[]] w λe w' =>
   e=.returned (.tuple #[])/\∃d' n os,PermIn 0 d.size d d'/\SortedIn (ltOf cf) 0 d.size d'/\w'=Sort.grow (putRow id (Sort.ahead w n) blk 0 (Go.Sort.flatK enc k d')) os
def perm_of_in'{G:Type}[Inhabited G]{d d':Array G}(h:PermIn 0 d.size d d'):d'.toList.Perm d.toList:=by
 obtain⟨hs,_,hp⟩:=h;have e1:d'.extract 0 d.size=d':=by rw[<- hs];simp
 have e2:d.extract 0 d.size=d:=by simp
 rwa [e1,e2]at hp
def zty{G:Type}[Inhabited G]{lt:G->G->Bool}{d:Array G}{n:Nat}(hn:d.size=n)(h:SortedIn lt 0 n d):d.toList.Pairwise λa b=>lt b a=false:=by
 rw[dL];intro i j hi hj a2;have:=h i j (D8 _) a2 (by rw[<- hn];simpa using hj);simp at hi hj;simpa[getElem!_pos,hi,hj]using this
def zE{G:Type}[Inhabited G]{enc:G->List Value}{k:Nat}(hk:∀x,(enc x).length=k)(d:Array G):Go.Sort.flatK enc k d=(d.toList.map enc).flatten.toArray:=by
 have hl:((d.toList.map enc).flatten).length=d.size*k:=by
  rw[R1 (k:=k) λx hx=>by obtain⟨y,_,rfl⟩:=H0.1 hx;exact hk y];simp
 refine ext_get! (by simp[hl]) λt ht=>?_;rw[size_flatK]at ht;rw[get_flatK _ _ _ t ht]
 have k0:0<k:=by
  rcases dJ k with h|h
  ·subst h;simp at ht
  ·exact h
 have hq:t / k<d.size:=Nat.div_lt_of_lt_mul (by rwa [jD]at ht);have hm:t%k<k:=fC _ k0;have hg:=flat_get (es:=d.toList.map enc) (i:=t / k) (j:=t%k) (e:=enc (d[t / k]'hq)) (λx hx=>by obtain⟨y,_,rfl⟩:=H0.1 hx;exact hk y) (by simp[hq]) hm;rw[show t / k*k+t%k=t by rw[jD];exact rE t k]at hg;have a2:t%k<(enc (d[t / k]'hq)).length:=by rw[hk];exact hm
 rw[K8 a2,K8 (by rw[hl];exact ht)]at hg;injection hg with hg
 rw[getElem!_pos d _ hq,getElem!_pos (enc (d[t / k]'hq)) (t%k) a2,getElem!_pos ((d.toList.map enc).flatten.toArray) t (by simpa[hl]using ht)];simpa using hg.symm
def own_put{w:World}{base:Nat}{e:TypeId}{g n cap k q:Nat}{us us':List Value}{os:Array Obj}(h:w.ownsRow base e k (.slice (some ⟨g,0,none⟩) n cap) n us)(hl:us'.length=n*k) :
  (Sort.grow (putRow id (Sort.ahead w q) g 0 us'.toArray) os).ownsRow base e k (.slice (some ⟨g,0,none⟩) n cap) n us':=by
 rcases h.2 with⟨e0,_⟩|⟨g',a4,cur,e0,hb,hg,hn,hm,hs,ht⟩
 ·cases e0
 ·injection e0 with e1 _ e3
  injection e1 with e1
  injection e1 with e1
  subst e1;subst e3
  have a2:g<w.heap.size:=by
   rcases J3 g w.heap.size with h'|h'
   ·exact h'
   ·rw[Array.getElem?_eq_none h']at hg;cases hg
  refine⟨hl,.inr ⟨g,cap,putCells id 0 us'.toArray cur,rfl,hb,?_,hn,hm,by simpa[putCells]using hs,?_⟩⟩
  ·have:g<(putRow id (Sort.ahead w q) g 0 us'.toArray).heap.size:=by simpa[putRow,mapBlock,Sort.ahead]using a2
   simp only[Sort.grow,Array.getElem?_append,if_pos this];simp[putRow,mapBlock,Sort.ahead,rL,hg,onCells]
  ·have a5:n*k<=cap*k:=bC k hn;apply aA;intro j;rw[aC,R4];by_cases hj:j<n*k
   ·have a3:j<cur.size:=by omega
    rw[if_pos hj];simp only[putCells,Array.getElem?_mapIdx,rO a3,J4];rw[if_pos (by simp;omega),K8 (by omega)];simp[getElem!_pos,show j<us'.length by omega]
   ·rw[if_neg hj,L0 (by omega)]
def holds_own{w:World}{base:Nat}{e:TypeId}{g n cap k:Nat}{us:List Value}(h:w.ownsRow base e k (.slice (some ⟨g,0,none⟩) n cap) n us):Go.Sort.Holds id w g 0 us.toArray:=by
 rcases h.2 with⟨e0,_⟩|⟨g',a4,cur,e0,hb,hg,hn,hm,hs,ht⟩
 ·cases e0
 ·injection e0 with e1 _ e3
  injection e1 with e1
  injection e1 with e1
  subst e1;subst e3;intro j hj;have a2:j<us.length:=by simpa using hj
  have a3:j<n*k:=by rw[<- h.1];exact a2
  have a5:n*k<=cap*k:=bC k hn;have a6:j<cur.size:=by omega
  have e1:(cur.toList.take (n*k))[j]?=us[j]?:=by rw[ht]
  rw[aC,if_pos a3,R4,K8 a2]at e1;refine⟨?_,by simp[World.frozen?,hg]⟩;simp only[World.cell?,hg,E8,uC,uD,if_false];rw[e1];simp[getElem!_pos,a2]
def put_block{w:World}{g q:Nat}{F:Array Value}{os:Array Obj}{b:Nat}(hb:b<w.heap.size)(hne:b≠g):(Sort.grow (putRow id (Sort.ahead w q) g 0 F) os).heap[b]?=w.heap[b]?:=by
 have:b<(putRow id (Sort.ahead w q) g 0 F).heap.size:=by simpa[putRow,mapBlock,Sort.ahead]using hb
 simp only[Sort.grow,Array.getElem?_append,if_pos this];simp[putRow,mapBlock,Sort.ahead,rL,Ne.symm hne]
def put_cell{w:World}{g q:Nat}{F:Array Value}{os:Array Obj}{p:Addr}{u:Value}(hne:p.block≠g)(h:w.cell? p=some u):(Sort.grow (putRow id (Sort.ahead w q) g 0 F) os).cell? p=some u:=by
 have a2:=World.block_lt_of_cell? w _ h;unfold World.cell? at h ⊢;rw[put_block a2 hne];exact h
def AD[DecidableEq V]{P:Program}{sg:FuncId}{mk:List Value->Value}{t:TypeId}{X:V->IV}(he:∀args w,(callFunc sg args).run P w=.ok (.enter sg args) w)(C:SortC P sg k mk)(hk0:0<k)(hk:∀x,(c x).length=k)
  (hX:∀(W:World) (S:Nat->Prop) us x,us.length=k->(∀v∈us,v.oneCell'=true)->X3 W S us (c x)->RepI W S (mk us) (X x))
  {f:V->V->Option Int} {g:FuncId} (eg:∀args w,(callFunc g args).run P w=.ok (.enter g args) w) (hg:CmpG P g X f) {l r:List V} (h:mJ l f=some r) :
  Sp P sg [.lent (.row t k (l.map c)),.im (.fn g [])] (.mk true [] [.lent (.row t k (r.map c))]):=by
 obtain⟨e8,h⟩:=D1 h;cases hT:totB f l with
 |false=>rw[hT]at h;cases h
 |true =>
 rw[hT]at h;injection h with h
 subst h;have T:=totB_iff hT;refine⟨he,λw S vs F hS hv hn hF=>?_⟩
 match vs,hv with
 |[v,u],⟨F1,F2,⟨hv1,inn,hrow,e1⟩,⟨F3,F4,⟨h4,e2⟩,h5,e3⟩,e4⟩ =>
  have h5:F4=[]:=h5;have e1:F1=(F6 v).toList:=e1;subst e1 e2 h5 e3;have e4:F=(F6 v).toList:=by rw[e4];simp
  subst e4;obtain⟨us,_,_,b5,a2,b9,h1,hr⟩:=hrow;rw[B7]at a2 b5
  have hu:u=.func (.func g) #[] #[]:=by
   generalize hx:IV.fn g []=x at h4;cases h4 with
   |fn f us cs hl hr =>
    injection hx with d4 d9
    subst d4 d9;have:=V0 hl;subst this;rfl
   |_=>cases hx
  subst hu
  have c8:∀(w':World) (a6:List Value),w'.ownsRow 0 t k v l.length a6->a6.length=((eP f l).map c).flatten.length->(∀u∈a6,u.oneCell'=true) ->
    Belo (λb=>b∈(F6 v).toList) w.heap.size w w'->(∀(i:Nat) u x,a6[i]?=some u->((eP f l).map c).flatten[i]?=some x->RepI w' (λb=>(S b\/w.heap.size<=b\/b∈(F6 v).toList)/\b<w'.heap.size/\b∉(F6 v).toList) u x) ->
    ∃(v1:Value) (F':List Nat),Ending.returned (.tuple #[])=.returned v1/\Belo (λb=>b∈(F6 v).toList) w.heap.size w w' /\
     bY w' (λb=>(S b\/w.heap.size<=b\/b∈(F6 v).toList)/\b<w'.heap.size/\b∉F') v1 (bxVs [v,.func (.func g) #[] #[]] [.lent (.row t k (l.map c)),.im (.fn g [])]) (.mk true [] [.lent (.row t k ((eP f l).map c))]) F'/\F'.Nodup/\∀b∈F',(w.heap.size<=b\/b∈(F6 v).toList)/\b<w'.heap.size:=by
   intro w' a6 ho d5 d7 hb d3;refine⟨_,(F6 v).toList,rfl,hb,⟨[],[],(F6 v).toList,rfl,rfl,⟨(F6 v).toList,[],⟨hv1,inn,⟨a6,hk0,λx hx=>?_,?_,?_,d5,d7,d3⟩,rfl⟩,rfl,by simp⟩,by simp⟩,hn,λb b2=>⟨.inr b2,jF (hF b b2).2 hb.size⟩⟩
   ·obtain⟨y,_,rfl⟩:=H0.1 hx;exact hk y
   ·rw[B7,(gY f l).length_eq];exact b5
   ·rw[B7,(gY f l).length_eq];exact ho
  by_cases b4:v=.slice none 0 0
  ·subst b4
   have a5:l.length=0:=by
    rcases a2.2 with⟨_,h0⟩|⟨_,_,_,e,_⟩
    ·exact h0
    ·cases e
   have a5:l=[]:=V0 a5;subst a5;refine(C.1 none 0 _ w).mono ?_;rintro e w' ⟨rfl,rfl⟩;have c7:us=[]:=V0 (by rw[b9];rfl);subst c7;exact c8 w' [] a2 rfl (λu hu=>by cases hu) (Belo.refl _ _ _) λi u x hu=>by simp at hu
  ·obtain⟨blk,cap,rfl⟩:∃blk cap,v=.slice (some ⟨blk,0,none⟩) l.length cap:=by
    rcases a2.2 with⟨e0,_⟩|⟨g,cap,cur,e,_⟩
    ·exact absurd e0 b4
    ·exact⟨g,cap,e⟩
   have d1:blk<w.heap.size:=(hF blk (by simp[F6])).2;have b3:¬S blk:=(hF blk (by simp[F6])).1;obtain⟨zs,e6,b6⟩:=el_list (w:=w) (S:=S) (l:=l) hk l us (λx hx=>hx) b9 h1 hr;by_cases a5:l=[]
   ·subst a5;refine(C.1 (some ⟨blk,0,none⟩) cap _ w).mono ?_;rintro e w' ⟨rfl,rfl⟩;have c7:us=[]:=V0 (by rw[b9];rfl);subst c7;exact c8 w' [] a2 rfl (λu hu=>by cases hu) (Belo.refl _ _ _) λi u x hu=>by simp at hu
   ·have d8:zs.length=l.length:=by have:=congrArg List.length b6;simpa using this
    obtain⟨z0,e9⟩:∃z,z∈zs:=by
     cases zs with
     |nil=>exact absurd (by simpa using b6.symm) a5
     |cons z zs=>exact⟨z,by simp⟩
    haveI:Inhabited (El w S k c l):=⟨z0⟩
    have a4:∀x:El w S k c l,(El.enc x).length=k:=λx=>x.property.1;have a8:∀d:Array (El w S k c l),Go.Sort.flatK El.enc k d=(d.toList.map El.enc).flatten.toArray:=zE a4
    have a7:=C.2 (El w S k c l) El.enc (λx y=>cfv f x.wd y.wd) g blk cap zs.toArray w a4 (λx=>x.property.2.1) (el_swo T) eg (λm os dk _ x y=>by
      refine hg _ S _ _ x.wd y.wd _ (T.get _ x.property.2.2.2 _ y.property.2.2.2) (hX _ _ _ _ x.property.1 x.property.2.1 ⟨x.property.2.2.1.1,λi u z hu hz=>?_⟩) (hX _ _ _ _ y.property.1 y.property.2.1 ⟨y.property.2.2.1.1,λi u z hu hz=>?_⟩)
      ·exact(x.property.2.2.1.2 i u z hu hz).mono (λ_ h=>h) λp u hp hu=>put_cell (λe=>b3 (by rw[<- e];exact hp)) hu
      ·exact(y.property.2.2.1.2 i u z hu hz).mono (λ_ h=>h) λp u hp hu=>put_cell (λe=>b3 (by rw[<- e];exact hp)) hu)
     (by rw[a8];show Go.Sort.Holds id w blk 0 ((zs.map El.enc).flatten).toArray;rw[e6];exact holds_own a2) d1 (by simp;omega)
    have c0:zs.toArray.size=l.length:=by simpa using d8
    rw[c0]at a7;refine a7.mono ?_;rintro e w' ⟨rfl,d',n,os,hp,hs,rfl⟩;have b7:d'.size=l.length:=by rw[hp.1];exact c0
    have c6:=perm_of_in' (d:=zs.toArray) (by rw[c0];exact hp);have d6:=zty b7 hs
    have e7:d'.toList.map El.wd=eP f l:=by
     have c9:(d'.toList.map El.wd).Perm l:=(c6.map El.wd).trans (List.Perm.of_eq b6);refine AZ (T.sub λx hx=>c9.mem_iff.1 hx) (c9.trans (gY f l).symm) ?_ (xE T);rw[lR];refine d6.imp λ{a b} hab=>?_;have d0:¬cfv f b.wd a.wd<0:=by simpa only[ltOf,decide_eq_false_iff_not]using hab
     exact d0
    rw[a8]
    have a3:((d'.toList.map El.enc).flatten).length=l.length*k:=by
     rw[R1 (k:=k) λx hx=>by obtain⟨y,_,rfl⟩:=H0.1 hx;exact a4 y];simp[b7]
    have b8:((eP f l).map c).flatten.length=l.length*k:=by
     rw[R1 (k:=k) λx hx=>by obtain⟨y,_,rfl⟩:=H0.1 hx;exact hk y,B7,(gY f l).length_eq]
    refine c8 _ _ (own_put a2 a3) (by rw[a3,b8]) (λu hu=>?_) ⟨rfl,rfl,rfl,?_,λb hb e5=>put_block hb λe=>e5 (by simp[F6,e])⟩ λi u x hu hx=>?_
    ·obtain⟨f3,h2,h3⟩:=rP.1 hu;obtain⟨y,_,rfl⟩:=H0.1 h2;exact y.property.2.1 u h3
    ·simp[Sort.grow,putRow,mapBlock,Sort.ahead]
    ·have hi:i<l.length*k:=by rw[<- a3];exact(E0.1 hu).1
     have hq:i / k<l.length:=Nat.div_lt_of_lt_mul (by rwa [jD]at hi);have hm:i%k<k:=fC _ hk0;have d2:i / k*k+i%k=i:=by rw[jD];exact rE i k
     have a9:i / k<d'.size:=by rw[b7];exact hq
     have g1:=flat_get (es:=d'.toList.map El.enc) (i:=i / k) (j:=i%k) (e:=El.enc (d'[i / k]'a9)) (λx hx=>by obtain⟨y,_,rfl⟩:=H0.1 hx;exact a4 y) (by simp[a9]) hm;have g2:=flat_get (es:=(eP f l).map c) (i:=i / k) (j:=i%k) (e:=c (El.wd (d'[i / k]'a9))) (λx hx=>by obtain⟨y,_,rfl⟩:=H0.1 hx;exact hk y) (by rw[<- e7];simp[a9]) hm;rw[d2,hu]at g1;rw[d2,hx]at g2;refine((d'[i / k]'a9).property.2.2.1.2 _ _ _ g1.symm g2.symm).mono (λb hb=>⟨.inl hb,?_,?_⟩) λp u hp hu=>put_cell (λe=>b3 (by rw[<- e];exact hp)) hu
     ·have:w.heap.size<=(Sort.grow (putRow id (Sort.ahead w n) blk 0 ((d'.toList.map El.enc).flatten).toArray) os).heap.size:=by simp[Sort.grow,putRow,mapBlock,Sort.ahead]
      exact jF (hS b hb) this
     ·intro b2;have:b=blk:=by simpa[F6]using b2
      subst this;exact b3 hb
end model
end
end Go.Proofs.YtkeplokjplkcmaaGreat.Sym
namespace Go.Proofs.YtkeplokjplkcmaaGreat
def dig36(d:Nat):UInt8:=if d<10 then UInt8.ofNat (48+d) else UInt8.ofNat (87+d)
def digsF:Nat->Nat->List UInt8
 |0,u=>[dig36 u]
 |f+1,u=>if u<36 then [dig36 u] else digsF f (u / 36)++[dig36 (u%36)]
def digs(u:Nat):List UInt8:=digsF u u
def enc36(a:Int):List UInt8:=if a<0 then 45::digs a.natAbs else digs a.natAbs
def keyL:List Int->List UInt8
 |[]=>[]
 |a::xs=>enc36 a++32::keyL xs

end Go.Proofs.YtkeplokjplkcmaaGreat
namespace Go.Proofs.YtkeplokjplkcmaaGreat.Sym
def nG{w:World}{S:Nat->Prop}{v:Value}{l:A2}(h:RepI w S v (nL cI l)):∃A n c,v=.slice A n c/\S9 w cW A n c l:=by
 have h:RepI w S v (.sl (l.map cI)):=h;generalize he:l.map cI=es at h;cases h with
 |emp A c =>
  have:l=[]:=by simpa using he
  subst this;exact⟨A,0,c,rfl,rfl,D8 _,by omega,λh=>by omega⟩
 |sl b o c k n _ us hn hk hc hs hS hl h1 hu hr =>
  subst he
  have hf:(l.map cI).flatten=l.map λx=>nI x:=by
   clear hn hk hl hr h
   induction l with
   |nil=>rfl
   |cons x l ih=>rw[M2,V4,ih];rfl
  rw[hf]at hl hr;refine⟨_,_,_,rfl,by simpa using hn,hc,hs,λ_=>⟨b,o,rfl,λi x hx=>?_⟩⟩;have hi:i<us.length:=by rw[hl,B7];exact(E0.1 hx).1
  have hg:=K8 hi;refine⟨_,hu i _ hg,?_⟩;have:=hr i _ (nI x) hg (by rw[H1,hx];rfl);generalize us[i]=u at this;cases this with
  |val _=>rfl
end Go.Proofs.YtkeplokjplkcmaaGreat.Sym
namespace Go.Proofs.YtkeplokjplkcmaaGreat
def cmpI(x y:Int):Int:=if x<y then -1 else if y<x then 1 else 0
def xJ(x y:Int)(w:World) :
  Calls Tryz.prog 153 #[.int .i64 x,.int .i64 y] w λe w'=>e=.returned (.int .i64 (cmpI x y))/\w=w':=by
 by_cases h1:x<y
 ·go_enter Tryz.func153,Tryz.ntmps153
  go_wp2
  go_ret
  exact⟨gO (by unfold cmpI;rw[if_pos h1]),rfl⟩
 ·by_cases h2:y<x
  ·go_enter Tryz.func153,Tryz.ntmps153
   go_wp2
   go_ret
   exact⟨gO (by unfold cmpI;rw[if_neg (by omega),if_pos h2]),rfl⟩
  ·go_enter Tryz.func153,Tryz.ntmps153
   go_wp2
   go_ret
   exact⟨gO (by unfold cmpI;rw[if_neg (by omega),if_neg (by omega)]),rfl⟩
def lexI_step{xs ys:List Int}{k:Nat}{x y:Int}(hx:xs[k]?=some x)(hy:ys[k]?=some y) :
  lexI (xs.drop k) (ys.drop k)=if cmpI x y=0 then lexI (xs.drop (k+1)) (ys.drop (k+1)) else cmpI x y:=by
 obtain⟨h1,a2⟩:=List.getElem?_eq_some_iff.1 hx;obtain⟨h2,a3⟩:=List.getElem?_eq_some_iff.1 hy;rw[List.drop_eq_getElem_cons h1,List.drop_eq_getElem_cons h2,a2,a3];simp only[lexI,cmpI];by_cases a:x<y
 ·simp[a]
 ·by_cases b:y<x
  ·simp[a,b]
  ·simp[a,b]
def lexI_long{xs ys:List Int}{k:Nat}(h1:k<xs.length)(h2:ys.length<=k):lexI (xs.drop k) (ys.drop k)=1:=by
 rw[List.drop_eq_getElem_cons h1,List.drop_eq_nil_of_le h2];rfl
def lexI_end{xs ys:List Int}{k:Nat}(h1:xs.length<=k):lexI (xs.drop k) (ys.drop k)=if k<ys.length then -1 else 0:=by
 rw[List.drop_eq_nil_of_le h1];by_cases h2:k<ys.length
 ·rw[if_pos h2,List.drop_eq_getElem_cons h2];rfl
 ·rw[if_neg h2,List.drop_eq_nil_of_le (by omega)];rfl
set_option maxHeartbeats 800000 in
def DR{A B:Option Addr}{n c m c':Nat}{xs ys:List Int}{w:World}(hx:S9 w cW A n c xs)(hy:S9 w cW B m c' ys) :
  Calls Tryz.prog 154 #[.slice A n c,.slice B m c'] w λe w'=>e=.returned (.int .i64 (lexI xs ys))/\w=w':=by
 have hn:=hx.small;have hm:=hy.small;have HL:=Lib.hid (And.intro hx.len hy.len)
 go_enter Tryz.func154,Tryz.ntmps154
 go_wp2
 go_loop [5,6,7,8,11] (λ_ _ _ _ i=>∃k:Nat,k<=n/\k<=m/\i=.int .i64 k/\Hid (lexI xs ys=lexI (xs.drop k) (ys.drop k))) (λ_ _ _ _ i=>n-(intOf i).toNat)
 case atStart=>exact⟨0,by omega,by omega,rfl,Lib.hid (by simp)⟩
 case round =>
  obtain⟨k,hk,a7,rfl,HT⟩:=hrel;by_cases h1:k<n
  ·obtain⟨b,o,x,rfl,a4,a8⟩:=hx.int_at h1;have HX:=Lib.hid a4;clear a4;by_cases h2:k<m
   ·obtain⟨b',o',y,rfl,a5,a6⟩:=hy.int_at h2;have HY:=Lib.hid a5;clear a5;have a2:=lexI_step HX.out HY.out;by_cases h3:cmpI x y=0
    ·rw[if_pos h3]at a2;have a3:=Lib.hid a2;have d3:(cmpI x y != 0)=false:=by simp[h3]
     have H3:=Lib.hid h3;clear h3 a2
     go_wp2_with (go_at_call 153;refine(xJ _ _ _).mono ?_;rintro e w' ⟨rfl,rfl⟩)
     go_round
     case rel=>exact⟨k+1,by omega,by omega,by go_num,Lib.hid (by rw[HT.out,a3.out])⟩
     case measure=>simp[intOf];omega
    ·rw[if_neg h3]at a2;have a3:=Lib.hid a2;have d3:(cmpI x y != 0)=true:=by simp[h3]
     clear h3 a2
     go_wp2_with (go_at_call 153;refine(xJ _ _ _).mono ?_;rintro e w' ⟨rfl,rfl⟩)
     go_ret
     exact⟨gO (by rw[HT.out,a3.out]),rfl⟩
   ·go_wp2
    go_ret
    obtain⟨h3,h4⟩:=HL.out;exact⟨gO (by rw[HT.out,lexI_long (by omega) (by omega)]),rfl⟩
  ·obtain⟨h3,h4⟩:=HL.out;have HE:=Lib.hid (lexI_end (xs:=xs) (ys:=ys) (k:=k) (by omega));clear h3 h4;by_cases h2:n<m
   ·go_wp2
    go_ret
    obtain⟨h3,h4⟩:=HL.out;exact⟨gO (by rw[HT.out,HE.out,if_pos (by omega)]),rfl⟩
   ·go_wp2
    go_ret
    obtain⟨h3,h4⟩:=HL.out;exact⟨gO (by rw[HT.out,HE.out,if_neg (by omega)]),rfl⟩
def wordLex_any{A B:Option Addr}{n c m c':Nat}{xs ys:List Int}{w:World}(hx:S9 w cW A n c xs)(hy:S9 w cW B m c' ys) :
  Calls Tryz.prog 143 #[.slice A n c,.slice B m c'] w λe w'=>e=.returned (.int .i64 (lexI xs ys))/\w=w':=by
 go_enter Tryz.func143,Tryz.ntmps143
 go_wp2_with (go_at_call 154;refine(DR hx hy).mono ?_;rintro e w' ⟨rfl,rfl⟩)
 go_ret
 exact⟨rfl,rfl⟩
def orI(xs:List Int):Int:=(xs.find? λa=>a != 0).getD 0
set_option maxHeartbeats 400000 in
def cmpOr_any{A:Option Addr}{n c:Nat}{xs:List Int}{w:World}(hx:S9 w cW A n c xs) :
  Calls Tryz.prog 152 #[.slice A n c] w λe w'=>e=.returned (.int .i64 (orI xs))/\w=w':=by
 have a5:=hx.small;have HL:=Lib.hid hx.len
 go_enter Tryz.func152,Tryz.ntmps152
 go_wp2
 go_loop [5,8] (λ_ i=>∃k:Nat,k<=n/\i=.int .i64 k/\Hid (((xs.take k).find? λa=>a != 0)=none)) (λ_ i=>n-(intOf i).toNat)
 case atStart=>exact⟨0,by omega,rfl,Lib.hid (by simp)⟩
 case round =>
  obtain⟨k,hk,rfl,HT⟩:=hrel;by_cases h1:k<n
  ·obtain⟨b,o,x,rfl,a2,a4⟩:=hx.int_at h1;have HX:=Lib.hid a2;clear a2;by_cases h2:x=0
   ·have d2:(x != 0)=false:=by simp[h2]
    have H2:=Lib.hid h2;clear h2
    go_wp2
    go_round
    case rel=>exact⟨k+1,by omega,by go_num,Lib.hid (by rw[W4 HX.out,List.find?_append,HT.out,H2.out];rfl)⟩
    case measure=>simp[intOf]<;>omega
   ·have d2:(x != 0)=true:=by simp[h2]
    go_wp2
    go_ret
    refine⟨gO ?_,rfl⟩;have a3:=List.take_append_drop (k+1) xs;unfold orI;rw[<- a3,List.find?_append,W4 HX.out,List.find?_append,HT.out];simp[h2]
  ·go_wp2
   go_ret
   have ht:=HT.out;rw[List.take_of_length_le (by rw[HL.out];omega)]at ht;exact⟨gO (by unfold orI;rw[ht];rfl),rfl⟩
def orI_cmp(xs ys:List Int):orI [cmpI xs.length ys.length,lexI xs ys]=cmpW xs ys:=by
 unfold orI cmpI cmpW;by_cases h1:xs.length<ys.length
 ·rw[if_pos (by omega),if_pos h1];rfl
 ·by_cases h2:ys.length<xs.length
  ·rw[if_neg (by omega),if_pos (by omega),if_neg h1,if_pos h2];rfl
  ·rw[if_neg (by omega),if_neg (by omega),if_neg h1,if_neg h2];by_cases h3:lexI xs ys=0
   ·simp[h3]
   ·simp[h3]
def src_two{w:World}(x y:Value)(t:TypeId):Src (w.alloc (.cells #[x,y] t)) (some ⟨w.heap.size,0,none⟩) 2 [x,y] :=
 ⟨rfl,λ_=>⟨_,_,rfl,λj u hu=>by
  have:=cell_two_new w x y t j u hu
  rwa [addr_add]at this⟩⟩
def ints_row{w:World}(x y:Int)(t:TypeId):S9 (w.alloc (.cells #[.int .i64 x,.int .i64 y] t)) cW (some ⟨w.heap.size,0,none⟩) 2 2 [x,y]:=by
 refine⟨rfl,Nat.le_refl _,by omega,λ_=>⟨_,_,rfl,λi z hz=>?_⟩⟩;obtain⟨_,hc⟩:=src_two (w:=w) (.int .i64 x) (.int .i64 y) t;obtain⟨b,o,e,a2⟩:=hc (by omega);injection e with e
 injection e with e1 e2
 subst e1 e2
 match i,hz with
 |0,hz =>
  simp at hz;subst hz;exact⟨_,a2 0 _ rfl,rfl⟩
 |1,hz =>
  simp at hz;subst hz;exact⟨_,a2 1 _ rfl,rfl⟩
set_option maxHeartbeats 400000 in
def zsw{A B:Option Addr}{n c m c':Nat}{xs ys:List Int}{w:World}(hx:S9 w cW A n c xs)(hy:S9 w cW B m c' ys) :
  Calls Tryz.prog 130 #[.slice A n c,.slice B m c'] w λe w'=>e=.returned (.int .i64 (cmpW xs ys))/\w.alloc (.cells #[.int .i64 (cmpI xs.length ys.length),.int .i64 (lexI xs ys)] 3)=w':=by
 have hn:=hx.small;have hm:=hy.small;have a2:=Lib.hid (DR hx hy);have HE:=Lib.hid (orI_cmp xs ys);have h1:=hx.len;have h2:=hy.len;have HO:=Lib.hid (λt=>cmpOr_any (ints_row (w:=w) (cmpI xs.length ys.length) (lexI xs ys) t));rw[h1,h2]at HE HO;rw[h1,h2];clear h1 h2 hx hy
 go_enter Tryz.func130,Tryz.ntmps130
 go_wp2_with (first|(go_at_call 153;refine(xJ _ _ _).mono ?_;rintro e w' ⟨rfl,rfl⟩)|(go_at_call 154;refine a2.out.mono ?_;rintro e w' ⟨rfl,rfl⟩)|(go_at_call 152;refine(HO.out _).mono ?_;rintro e w' ⟨rfl,rfl⟩))
 go_ret
 exact⟨gO HE.out,rfl⟩
end Go.Proofs.YtkeplokjplkcmaaGreat
namespace Go.Proofs
section
open Go.Shelf
def Tryz.sortW_ren:Go.Shelf.Ren:=⟨fun|6=>149|15=>159|14=>162|28=>172|29=>173|20=>175|21=>176|22=>177|23=>178|24=>179|25=>180|26=>181|27=>182|46=>188|47=>184|48=>185|49=>189|50=>190|57=>192|n=>n,fun|22=>22|24=>60|25=>72|3=>3|39=>191|0=>0|53=>202|55=>204|4=>4|46=>196|45=>195|50=>74|5=>5|9=>9|66=>213|70=>217|76=>221|77=>222|n=>n,fun|n=>n⟩
def Tryz.sortW:Go.Proofs.SlLaysF.n6 Tryz.prog Tryz.sortW_ren:={
 mixed:=by kernel_rfl
 f6:=⟨Tryz.f149.name,by decide,Tryz.func149.trans (congrArg some (by kernel_rfl))⟩
 f14:=⟨Tryz.f162.name,by decide,Tryz.func162.trans (congrArg some (by kernel_rfl))⟩
 f15:=Tryz.func159.trans (congrArg some (by kernel_rfl))
 f20:=⟨Tryz.f175.name,by decide,Tryz.func175.trans (congrArg some (by kernel_rfl))⟩
 f21:=⟨Tryz.f176.name,by decide,Tryz.func176.trans (congrArg some (by kernel_rfl))⟩
 f22:=⟨Tryz.f177.name,by decide,Tryz.func177.trans (congrArg some (by kernel_rfl))⟩
 f23:=⟨Tryz.f178.name,by decide,Tryz.func178.trans (congrArg some (by kernel_rfl))⟩
 f24:=⟨Tryz.f179.name,by decide,Tryz.func179.trans (congrArg some (by kernel_rfl))⟩
 f25:=⟨Tryz.f180.name,by decide,Tryz.func180.trans (congrArg some (by kernel_rfl))⟩
 f26:=⟨Tryz.f181.name,by decide,Tryz.func181.trans (congrArg some (by kernel_rfl))⟩
 f27:=⟨Tryz.f182.name,by decide,Tryz.func182.trans (congrArg some (by kernel_rfl))⟩
 f28:=Tryz.func172.trans (congrArg some (by kernel_rfl))
 f29:=Tryz.func173.trans (congrArg some (by kernel_rfl))
 f46:=⟨Tryz.f188.name,by decide,Tryz.func188.trans (congrArg some (by kernel_rfl))⟩
 f47:=Tryz.func184.trans (congrArg some (by kernel_rfl))
 f48:=Tryz.func185.trans (congrArg some (by kernel_rfl))
 f49:=⟨Tryz.f189.name,by decide,Tryz.func189.trans (congrArg some (by kernel_rfl))⟩
 f50:=⟨Tryz.f190.name,by decide,Tryz.func190.trans (congrArg some (by kernel_rfl))⟩
 f57:=⟨Tryz.f192.name,by decide,Tryz.func192.trans (congrArg some (by kernel_rfl))⟩
 t0:=Tryz.underlying0
 a0:=Tryz.isAgg0
 z0:=Tryz.sizeOf0
 v0:=Tryz.zeroValue0
 t3:=Tryz.underlying3
 a3:=Tryz.isAgg3
 z3:=Tryz.sizeOf3
 v3:=Tryz.zeroValue3
 t4:=Tryz.underlying4
 a4:=Tryz.isAgg4
 z4:=Tryz.sizeOf4
 v4:=Tryz.zeroValue4
 t5:=Tryz.underlying5
 a5:=Tryz.isAgg5
 z5:=Tryz.sizeOf5
 v5:=Tryz.zeroValue5
 t9:=Tryz.underlying9
 a9:=Tryz.isAgg9
 z9:=Tryz.sizeOf9
 v9:=Tryz.zeroValue9
 t22:=Tryz.underlying22
 a22:=Tryz.isAgg22
 z22:=Tryz.sizeOf22
 v22:=Tryz.zeroValue22
 a24:=Tryz.isAgg60
 z24:=Tryz.sizeOf60
 t25:=Tryz.underlying72
 a25:=Tryz.isAgg72
 z25:=Tryz.sizeOf72
 v25:=Tryz.zeroValue72
 t39:=Tryz.underlying191
 a39:=Tryz.isAgg191
 z39:=Tryz.sizeOf191
 v39:=Tryz.zeroValue191
 t45:=Tryz.underlying195
 a45:=Tryz.isAgg195
 z45:=Tryz.sizeOf195
 v45:=Tryz.zeroValue195
 t46:=Tryz.underlying196
 a46:=Tryz.isAgg196
 z46:=Tryz.sizeOf196
 v46:=Tryz.zeroValue196
 t50:=Tryz.underlying74
 a50:=Tryz.isAgg74
 z50:=Tryz.sizeOf74
 v50:=Tryz.zeroValue74
 t53:=Tryz.underlying202
 a53:=Tryz.isAgg202
 z53:=Tryz.sizeOf202
 v53:=Tryz.zeroValue202
 t55:=Tryz.underlying204
 a55:=Tryz.isAgg204
 z55:=Tryz.sizeOf204
 v55:=Tryz.zeroValue204
 t66:=Tryz.underlying213
 a66:=Tryz.isAgg213
 z66:=Tryz.sizeOf213
 v66:=Tryz.zeroValue213
 t70:=Tryz.underlying217
 a70:=Tryz.isAgg217
 z70:=Tryz.sizeOf217
 v70:=Tryz.zeroValue217
 t76:=Tryz.underlying221
 a76:=Tryz.isAgg221
 z76:=Tryz.sizeOf221
 v76:=Tryz.zeroValue221
 t77:=Tryz.underlying222
 a77:=Tryz.isAgg222
 z77:=Tryz.sizeOf222
 v77:=Tryz.zeroValue222 }
def Tryz.sortF_ren:Go.Shelf.Ren:=⟨fun|14=>158|20=>164|21=>165|22=>166|23=>167|24=>168|25=>169|26=>170|27=>171|46=>183|47=>184|48=>185|49=>186|50=>187|15=>159|57=>191|28=>172|29=>173|n=>n,fun|24=>70|22=>33|3=>3|25=>124|4=>4|0=>0|46=>196|45=>195|50=>74|66=>213|39=>191|55=>204|70=>217|76=>221|77=>222|53=>202|5=>5|9=>9|n=>n,fun|n=>n⟩
def Tryz.sortF:Go.Proofs.SlLaysF0.n14 Tryz.prog Tryz.sortF_ren:={
 mixed:=by kernel_rfl
 f14:=⟨Tryz.f158.name,by decide,Tryz.func158.trans (congrArg some (by kernel_rfl))⟩
 f15:=Tryz.func159.trans (congrArg some (by kernel_rfl))
 f20:=⟨Tryz.f164.name,by decide,Tryz.func164.trans (congrArg some (by kernel_rfl))⟩
 f21:=⟨Tryz.f165.name,by decide,Tryz.func165.trans (congrArg some (by kernel_rfl))⟩
 f22:=⟨Tryz.f166.name,by decide,Tryz.func166.trans (congrArg some (by kernel_rfl))⟩
 f23:=⟨Tryz.f167.name,by decide,Tryz.func167.trans (congrArg some (by kernel_rfl))⟩
 f24:=⟨Tryz.f168.name,by decide,Tryz.func168.trans (congrArg some (by kernel_rfl))⟩
 f25:=⟨Tryz.f169.name,by decide,Tryz.func169.trans (congrArg some (by kernel_rfl))⟩
 f26:=⟨Tryz.f170.name,by decide,Tryz.func170.trans (congrArg some (by kernel_rfl))⟩
 f27:=⟨Tryz.f171.name,by decide,Tryz.func171.trans (congrArg some (by kernel_rfl))⟩
 f28:=Tryz.func172.trans (congrArg some (by kernel_rfl))
 f29:=Tryz.func173.trans (congrArg some (by kernel_rfl))
 f46:=⟨Tryz.f183.name,by decide,Tryz.func183.trans (congrArg some (by kernel_rfl))⟩
 f47:=Tryz.func184.trans (congrArg some (by kernel_rfl))
 f48:=Tryz.func185.trans (congrArg some (by kernel_rfl))
 f49:=⟨Tryz.f186.name,by decide,Tryz.func186.trans (congrArg some (by kernel_rfl))⟩
 f50:=⟨Tryz.f187.name,by decide,Tryz.func187.trans (congrArg some (by kernel_rfl))⟩
 f57:=⟨Tryz.f191.name,by decide,Tryz.func191.trans (congrArg some (by kernel_rfl))⟩
 t0:=Tryz.underlying0
 a0:=Tryz.isAgg0
 z0:=Tryz.sizeOf0
 v0:=Tryz.zeroValue0
 t3:=Tryz.underlying3
 a3:=Tryz.isAgg3
 z3:=Tryz.sizeOf3
 v3:=Tryz.zeroValue3
 t4:=Tryz.underlying4
 a4:=Tryz.isAgg4
 z4:=Tryz.sizeOf4
 v4:=Tryz.zeroValue4
 t5:=Tryz.underlying5
 a5:=Tryz.isAgg5
 z5:=Tryz.sizeOf5
 v5:=Tryz.zeroValue5
 t9:=Tryz.underlying9
 a9:=Tryz.isAgg9
 z9:=Tryz.sizeOf9
 v9:=Tryz.zeroValue9
 t22:=Tryz.underlying33
 a22:=Tryz.isAgg33
 z22:=Tryz.sizeOf33
 v22:=Tryz.zeroValue33
 t25:=Tryz.underlying124
 a25:=Tryz.isAgg124
 z25:=Tryz.sizeOf124
 v25:=Tryz.zeroValue124
 t39:=Tryz.underlying191
 a39:=Tryz.isAgg191
 z39:=Tryz.sizeOf191
 v39:=Tryz.zeroValue191
 t45:=Tryz.underlying195
 a45:=Tryz.isAgg195
 z45:=Tryz.sizeOf195
 v45:=Tryz.zeroValue195
 t46:=Tryz.underlying196
 a46:=Tryz.isAgg196
 z46:=Tryz.sizeOf196
 v46:=Tryz.zeroValue196
 t50:=Tryz.underlying74
 a50:=Tryz.isAgg74
 z50:=Tryz.sizeOf74
 v50:=Tryz.zeroValue74
 t53:=Tryz.underlying202
 a53:=Tryz.isAgg202
 z53:=Tryz.sizeOf202
 v53:=Tryz.zeroValue202
 t55:=Tryz.underlying204
 a55:=Tryz.isAgg204
 z55:=Tryz.sizeOf204
 v55:=Tryz.zeroValue204
 t66:=Tryz.underlying213
 a66:=Tryz.isAgg213
 z66:=Tryz.sizeOf213
 v66:=Tryz.zeroValue213
 t70:=Tryz.underlying217
 a70:=Tryz.isAgg217
 z70:=Tryz.sizeOf217
 v70:=Tryz.zeroValue217
 t76:=Tryz.underlying221
 a76:=Tryz.isAgg221
 z76:=Tryz.sizeOf221
 v76:=Tryz.zeroValue221
 t77:=Tryz.underlying222
 a77:=Tryz.isAgg222
 z77:=Tryz.sizeOf222
 v77:=Tryz.zeroValue222 }
end
end Go.Proofs
namespace Go.Proofs.YtkeplokjplkcmaaGreat.Sym
section
open Go.RowKit Go.Sort
def putRow_map{E:Type}[Inhabited E](enc:E->Value)(w:World)(blk off:Nat)(d:Array E):putRow enc w blk off d=putRow id w blk off (d.map enc):=by
 unfold putRow;congr 1;funext c;unfold putCells;congr 1;funext k x;rw[Array.size_map];by_cases h:off<=k/\k<off+d.size
 ·have h1:k-off<d.size:=by omega
  rw[if_pos h,if_pos h,getElem!_pos d _ h1,getElem!_pos (d.map enc) _ (by simpa using h1)];simp
 ·rw[if_neg h,if_neg h]
def holds_map{E:Type}[Inhabited E]{enc:E->Value}{w:World}{blk off:Nat}{d:Array E}(h:Go.Sort.Holds id w blk off (d.map enc)):Go.Sort.Holds enc w blk off d:=λj hj=>by
 have:=h j (by simpa using hj);rw[getElem!_pos (d.map enc) _ (by simpa using hj)]at this;rw[getElem!_pos d _ hj];simpa using this
def one1(us:List Value):Value:=us.headD undef
def flat_one1{E:Type}[Inhabited E]{enc:E->List Value}(hk:∀x,(enc x).length=1)(d:Array E):Go.Sort.flatK enc 1 d=d.map λx=>one1 (enc x):=by
 rw[zE hk]
 have:(d.toList.map enc).flatten=d.toList.map λx=>one1 (enc x):=by
  generalize d.toList=l
  induction l with
  |nil=>rfl
  |cons x l ih =>
   rw[M2,V4,ih,M2];have:=hk x
   match h:enc x,this with
   |[v],_=>rfl
 rw[this];apply tU;simp
def sortC_words:SortC Tryz.prog 149 1 one1:=by
 refine⟨λp a3 fv w=>AnyF.slices_SortFunc_none { Tryz.sortW with } p a3 fv w,?_⟩;intro E _ enc cf g a2 a3 d w hk h1 hO eg a5 hH a6 a7;have e1:∀m (dk:Array E),putRow (λx=>one1 (enc x)) (Sort.ahead w m) a2 0 dk=putRow id (Sort.ahead w m) a2 0 (Go.Sort.flatK enc 1 dk):=λm dk=>by rw[flat_one1 hk,putRow_map]
 have a4:OneCell λx=>one1 (enc x):=λx=>by
  have h2:=hk x;have h3:=h1 x
  match h:enc x,h2 with
  |[v],_ =>
   show(one1 (enc x)).oneCell'=true;rw[h]at h3 ⊢;exact h3 v (by simp)
 refine(Any.slices_SortFunc Tryz.sortW (λx=>one1 (enc x)) a4 cf hO g #[] a2 0 a3 d w eg (λm os dk hs x y=>?_) (holds_map (by rw[<- flat_one1 hk];exact hH)) a6 a7).mono ?_
 ·have:=a5 m os dk hs x y;unfold sortWorld;rw[e1];simpa using this
 ·rintro e w' ⟨he,d',n,os,hp,hs,hw⟩;exact⟨he,d',n,os,hp,hs,by rw[hw];unfold sortWorld;rw[e1]⟩
def aggF:∀w,(isAgg (Tryz.sortF_ren.t 24)).run Tryz.prog w=.ok true w:=Tryz.isAgg70
def sizF:∀w,(Go.sizeOf (Tryz.sortF_ren.t 24)).run Tryz.prog w=.ok 2 w:=Tryz.sizeOf70
set_option maxHeartbeats 2000000 in
def sortC_traces:SortC Tryz.prog 141 2 (λus=>.agg us.toArray):=by
 refine⟨λp a4 fv w=>?_,?_⟩
 ·have hp:=λb2 W=>AnyF.pdqsortCmpFunc_none (P:=Tryz.prog) (ρ:=Tryz.sortF_ren) Tryz.sortF p a4 b2 fv W
  have hl:∀W,Calls Tryz.prog 159 #[.int .u64 0] W λe w'=>e=.returned (.int .i64 (Lib.bitLen 0:Nat))/\w'=W:=λW=>by
   have h:=Any.bits_Len (SlLaysF0.n15.bits (P:=Tryz.prog) (ρ:=Tryz.sortF_ren) { Tryz.sortF with }) 0 W (by omega) (by omega);exact h
  go_enter Tryz.func141,Tryz.ntmps141
  go_wp2_with (first|(go_at_call 159;refine(hl _).mono ?_;rintro e w' ⟨rfl,rfl⟩)|(go_at_call 158;refine(hp _ _).mono ?_;rintro e w' ⟨rfl,rfl⟩))
  go_end0
  exact⟨rfl,rfl⟩
 ·intro E _ enc cf g a6 a4 d w hk h1 hO eg a3 hH a7 a9;have a5:Lib.bitLen d.size<4611686018427387904:=Nat.lt_of_le_of_lt (Lib.bitLen_le d.size 62 (by omega) (by omega)) (by omega)
  have a2:CmpLays Tryz.prog g #[] enc 2 cf a6 0 d.size w:=λm os dk hs x y=>by
   unfold sortWorldK putRowK;simpa using a3 m os dk hs x y
  have hp:=AnyQ.pdqsortCmpFunc_all (P:=Tryz.prog) (ρ:=Tryz.sortF_ren) Tryz.sortF 2 aggF sizF enc cf g #[] hO a6 0 a4 d w eg a2 ⟨hk,h1,hH,a7⟩ (d.size+1) 0 d.size (Lib.bitLen d.size) d w (by omega) rfl (SWK.start hH) (D8 _) (F9 _) a9 a5 (Or.inl rfl)
  have hl:Calls Tryz.prog 159 #[.int .u64 (d.size:Int)] w λe w'=>e=.returned (.int .i64 (Lib.bitLen d.size:Nat))/\w'=w:=by
   have h:=Any.bits_Len (SlLaysF0.n15.bits (P:=Tryz.prog) (ρ:=Tryz.sortF_ren) { Tryz.sortF with }) (d.size:Int) w (by omega) (by omega)
   rwa [H6]at h
  have wr:IntKind.u64.wrap (d.size:Int)=d.size:=by simp[IntKind.wrap,IntKind.bits,IntKind.signed];omega
  have a8:=pdq_sorts (ltOf cf) hO d 0 d.size (Lib.bitLen d.size) true true (D8 _) (F9 _) (Or.inl rfl);clear hH a3 a2 hk h1
  go_enter Tryz.func141,Tryz.ntmps141
  go_wp2_with (first|(go_at_call 159;refine hl.mono ?_;rintro e w' ⟨rfl,rfl⟩)|(go_at_call 158;refine hp.mono ?_;rintro e w' ⟨rfl,n,os,rfl⟩))
  go_end0
  exact⟨rfl,_,n,os,a8.1,a8.2,rfl⟩
def cmpG_compare{f:A2->A2->Option Int}(hf:∀x y r,x.length<=17592186044416->f x y=some r->r=cmpW x y):CmpG Tryz.prog 130 (nL cI) f:=by
 intro W S u u' x y r h hu a2;obtain⟨A,n,c,rfl,h1⟩:=nG hu;have:=hf x y r (by rw[h1.len];exact h1.small) h;subst this;obtain⟨B,m,c',rfl,h2⟩:=nG a2;refine(zsw h1 h2).mono λe w' ⟨he,hw⟩=>⟨he,0,#[.cells #[.int .i64 (cmpI x.length y.length),.int .i64 (lexI x y)] 3],?_⟩;rw[<- hw,Sort.alloc_eq_grow];rfl
def rep_two{w:World}{S:Nat->Prop}{u:Value}{x y:IV}(h:RepI w S u (.agg [x,y])):∃a b,u=.agg #[a,b]/\RepI w S a x/\RepI w S b y:=by
 generalize hz:IV.agg [x,y]=z at h;cases h with
 |agg us cs hl h1 hr =>
  injection hz with hz
  subst hz
  match us,hl with
  |[a,b],_=>exact⟨a,b,rfl,hr 0 a x rfl rfl,hr 1 b y rfl rfl⟩
 |_=>cases hz
set_option maxHeartbeats 400000 in
def fits1_any{A A' B B':Option Addr}{n c m c' p q p' q':Nat}{xs ys:A2}{w:World}(hx:S9 w cW A n c xs)(hy:S9 w cW B m c' ys) :
  Calls Tryz.prog 142 #[.agg #[.slice A n c,.slice A' p q],.agg #[.slice B m c',.slice B' p' q']] w λe w'=>e=.returned (.int .i64 (lexI xs ys))/\∃q os,w'=Sort.grow (w.drewN q) os:=by
 have key:∀o o',∃q os,(w.alloc o).alloc o'=Sort.grow (w.drewN q) os:=λo o'=>⟨0,#[o]++#[o'],by
  rw[Sort.alloc_eq_grow,Sort.alloc_eq_grow,Sort.grow_grow]
  rfl⟩
 have a3:∀o o',S9 ((w.alloc o).alloc o') cW A n c xs:=λo o'=>(hx.kept (lF (World.grownBy_alloc w o none))).kept (lF (World.grownBy_alloc _ o' none));have a2:∀o o',S9 ((w.alloc o).alloc o') cW B m c' ys:=λo o'=>(hy.kept (lF (World.grownBy_alloc w o none))).kept (lF (World.grownBy_alloc _ o' none))
 go_enter Tryz.func142,Tryz.ntmps142
 go_wp2_with (go_at_call 143;refine(wordLex_any (a3 _ _) (a2 _ _)).mono ?_;rintro e w' ⟨rfl,rfl⟩)
 go_ret
 exact⟨rfl,key _ _⟩
def cmpG_fits1{T:Type}{X:T->IV}{i o:T->A2}(hX:∀x,X x=.agg [nL cI (i x),nL cI (o x)]){f:T->T->Option Int}(hf:∀x y r,(i x).length<=17592186044416->f x y=some r->r=lexI (i x) (i y)):CmpG Tryz.prog 142 X f:=by
 intro W S u u' x y r h hu a2;rw[hX]at hu a2;obtain⟨a,b,rfl,ha,hb⟩:=rep_two hu;obtain⟨a',b',rfl,a4,a3⟩:=rep_two a2;obtain⟨A,n,c,rfl,h1⟩:=nG ha;have:=hf x y r (by rw[h1.len];exact h1.small) h;subst this;obtain⟨B,m,c',rfl,h2⟩:=nG a4;obtain⟨_,_,_,rfl,_⟩:=nG hb;obtain⟨_,_,_,rfl,_⟩:=nG a3;exact fits1_any h1 h2
def rep_of_one{W:World}{S:Nat->Prop}{us:List Value}{x:IV}(hl:us.length=1)(hr:X3 W S us [x]):RepI W S (one1 us) x:=by
 match us,hl with
 |[u],_=>exact hr.2 0 u x rfl rfl
def CmpE{T:Type}(P:Program)(g:FuncId)(X:T->IV)(f:T->T->Option Int):Prop:=(∀args w,(callFunc g args).run P w=.ok (.enter g args) w)/\CmpG P g X f
end
def mW{V:Type}(by_:Nat)(l:List V):Option (List V):=chk (B4 l.length by_) (some l)
def nW(l:A2):Option (A2):=mW 8 l
def DD(l r:A2)(h:nW l=some r):Sp Tryz.prog 121 [.im (nL cI l)] (.row 3 1 (List.map cI r)):=by
 obtain⟨h1,h⟩:=D1 h;injection h with h
 subst h;exact wO (by_:=8) (λargs w=>eR rfl rfl rfl args w) (by decide) clone_int (λe he=>by obtain⟨y,_,rfl⟩:=H0.1 he;rfl) (by rw[B7];exact h1)
def tR(l:A4):Option (A4):=mW 24 l
def zpf(l r:A4)(h:tR l=some r):Sp Tryz.prog 148 [.im (nL (cL cI) l)] (.row 60 1 (List.map (cL cI) r)):=by
 obtain⟨h1,h⟩:=D1 h;injection h with h
 subst h;exact wO (by_:=24) (λargs w=>eR rfl rfl rfl args w) (by decide) clone_words (λe he=>by obtain⟨y,_,rfl⟩:=H0.1 he;rfl) (by rw[B7];exact h1)
def xZ(l:A4)(f:(A2)->(A2)->Option Int):Option (A4):=mJ l f
def zmk(l:A4)(f:(A2)->(A2)->Option Int)(g:FuncId)(hd:CmpE Tryz.prog g (λx=>nL cI x) f)(r:A4)(h:xZ l f=some r):Sp Tryz.prog 149 [.lent (.row 60 1 (List.map (cL cI) l)),.im (.fn g [])] (.mk true [] [.lent (.row 60 1 (List.map (cL cI) r))]) :=
 AD (λargs w=>eR rfl rfl rfl args w) sortC_words (by decide) (λ_=>rfl) (λW S us x hl h1 hr=>rep_of_one hl hr) hd.1 hd.2 h
def xL(l:List C7):Option (List C7):=mW 48 l
def zn6(l r:List C7)(h:xL l=some r):Sp Tryz.prog 140 [.im (nL I6 l)] (.row 70 2 (List.map I6 r)):=by
 obtain⟨h1,h⟩:=D1 h;injection h with h
 subst h;exact wO (by_:=48) (λargs w=>eR rfl rfl rfl args w) (by decide) clone_traces (λe he=>by obtain⟨y,_,rfl⟩:=H0.1 he;rfl) (by rw[B7];exact h1)
def xX(l:List C7)(f:C7->C7->Option Int):Option (List C7):=mJ l f
def zlp(l:List C7)(f:C7->C7->Option Int)(g:FuncId)(hd:CmpE Tryz.prog g (λx=>.agg (I6 x)) f)(r:List C7)(h:xX l f=some r):Sp Tryz.prog 141 [.lent (.row 70 2 (List.map I6 l)),.im (.fn g [])] (.mk true [] [.lent (.row 70 2 (List.map I6 r))]) :=
 AD (λargs w=>eR rfl rfl rfl args w) sortC_traces (by decide) (λ_=>rfl) (λW S us x hl h1 hr=>.agg _ _ hr.1 h1 hr.2) hd.1 hd.2 h
def dZ.s2(l_:A4)(words_ symbols_:Int)(a2:Nat):Option (Nat⊕(Unit⊕Bool)):=(cond (decide ((a2:Int)<(l_.length:Int))) (some (decide ((a2:Int)<=words_))) (some false)).bind (λa6=>cond (a6) (idxn l_ a2 λa7=>cond (decide (symbols_<(a7.length:Int))) (some (.inr (.inr true))) (chk (inR ((a2:Int)+1)) (some (.inl (a2+1))))) (some (.inr (.inl ()))))
def dZ(l_:A4)(words_ symbols_:Int):Option Bool:=(iter (λ(s:Nat)=>dZ.s2 l_ words_ symbols_ s) fuel 0).bind (Sum.elim (λ_=>some (decide (words_<(l_.length:Int)))) some)
def pH(inputs_:Int):Option Bool:=(cond (decide (1<=inputs_)) (some (decide (inputs_<=1024))) (some false)).bind (λa2=>some a2)
def dY.s2(w_:A2)(inputs_:Int)(a2:Nat):Option (Nat⊕(Unit⊕Int)):=cond (decide ((a2:Int)<(w_.length:Int))) ((idxn w_ a2 λa6=>cond (decide (a6<0)) (some true) (idxn w_ a2 λa7=>some (decide (inputs_<=a7)))).bind (λa8=>cond (a8) (some (.inr (.inr 1))) (some (.inl (a2+1))))) (some (.inr (.inl ())))
def dY(w_:A2)(inputs_:Int):Option Int:=(pH inputs_).bind λa2=>cond ((!a2)) (some 2) (cond (decide (1024<(w_.length:Int))) (some 3) ((iter (λ(s:Nat)=>dY.s2 w_ inputs_ s) fuel 0).bind (Sum.elim (λ_=>some 0) some)))
def bU.s2(m_:A8)(w_:A2)(s90:Int)(a6:A2)(a2:Nat):Option ((Int×A2×Nat)⊕(Int×A2)):=cond (decide ((a2:Int)<(w_.length:Int))) (idx m_.O s90 λa7=>idxn w_ a2 λa8=>idx a7 a8 λb2=>chk (B4 (List.length a6+1) 8) (idx m_.N s90 λb3=>idxn w_ a2 λb4=>idx b3 b4 λb5=>some (.inl (b5,(a6++[b2]),(a2+1))))) (some (.inr (s90,a6)))
def bU.k3(a2:Int)(a6:A2):Option (A2×Int):=some (a6,a2)
def bU(m_:A8)(s_:Int)(w_:A2):Option (A2×Int):=(iter (λ(s:Int×A2×Nat)=>bU.s2 m_ w_ s.1 s.2.1 s.2.2) fuel (s_,[],0)).bind (λs=>bU.k3 s.1 s.2)
def dB.s2(parts_:A4)(a2:A2)(a6:Nat):Option ((A2×Nat)⊕A2):=cond (decide ((a6:Int)<(parts_.length:Int))) (idxn parts_ a6 λa7=>chk (B4 (List.length a2+List.length a7) 8) (some (.inl ((a2++a7),(a6+1))))) (some (.inr a2))
def dB(parts_:A4):Option A2:=(iter (λ(s:A2×Nat)=>dB.s2 parts_ s.1 s.2) fuel ([],0)).bind (λa2=>some a2)
def dA.s2(m_:A8)(s_:Int)(a2:Nat):Option (Nat⊕(Unit⊕Int)):=cond (decide ((a2:Int)<m_.I)) ((idx m_.N s_ λa6=>idxn a6 a2 λa7=>cond (decide (a7<0)) (some true) (idx m_.N s_ λa8=>idxn a8 a2 λb2=>cond (decide ((m_.N.length:Int)<=b2)) (some true) (idx m_.O s_ λb3=>idxn b3 a2 λb4=>cond (decide (b4<0)) (some true) (idx m_.O s_ λb5=>idxn b5 a2 λb6=>some (decide (1048576<b6)))))).bind (λb7=>cond (b7) (some (.inr (.inr 2))) (chk (inR ((a2:Int)+1)) (some (.inl (a2+1)))))) (some (.inr (.inl ())))
def dA(m_:A8)(s_:Int):Option Int:=(idx m_.N s_ λa2=>cond (decide ((a2.length:Int)≠m_.I)) (some true) (idx m_.O s_ λa6=>some (decide ((a6.length:Int)≠m_.I)))).bind (λa7=>cond (a7) (some 1) ((iter (λ(s:Nat)=>dA.s2 m_ s_ s) fuel 0).bind (Sum.elim (λ_=>some 0) some)))
def U3.s2(m_:A8)(a2:Nat):Option (Nat⊕(Unit⊕Int)):=cond (decide ((a2:Int)<(m_.N.length:Int))) ((dA m_ (a2:Int)).bind λa6=>cond (decide (a6≠0)) (some (.inr (.inr a6))) (some (.inl (a2+1)))) (some (.inr (.inl ())))
def U3(m_:A8):Option Int:=(cond (decide (m_.I<1)) (some true) (some (decide (64<m_.I)))).bind (λa2=>cond (a2) (some 2) (cond (decide ((m_.N.length:Int)=0)) (some 19) (cond (decide (128<(m_.N.length:Int))) (some 11) ((cond (decide (m_.S<0)) (some true) (some (decide ((m_.N.length:Int)<=m_.S)))).bind (λa6=>cond (a6) (some 2) (cond (decide ((m_.O.length:Int)≠(m_.N.length:Int))) (some 1) ((iter (λ(s:Nat)=>U3.s2 m_ s) fuel 0).bind (Sum.elim (λ_=>some 0) some))))))))
def fS.s2(m_:A8)(words_:A4)(a7:List C7)(a2:Nat):Option ((List C7×Nat)⊕(List C7⊕(List C7×Int))):=cond (decide ((a2:Int)<(words_.length:Int))) (idxn words_ a2 λa8=>(dY a8 m_.I).bind λa6=>cond (decide (a6≠0)) (some (.inr (.inr ([],a6)))) (idxn words_ a2 λb2=>(bU m_ m_.S b2).bind λb3=>idxn words_ a2 λb4=>(dB [b4]).bind λb5=>chk (B4 (List.length a7+1) 48) (some (.inl ((a7++[(⟨b5,b3.1⟩:C7)]),(a2+1)))))) (some (.inr (.inl a7)))
def fS(m_:A8)(words_:A4):Option (List C7×Int):=(U3 m_).bind λa2=>cond (decide (a2≠0)) (some ([],a2)) (cond (decide (10000<(words_.length:Int))) (some ([],11)) ((iter (λ(s:List C7×Nat)=>fS.s2 m_ words_ s.1 s.2) fuel ([],0)).bind (Sum.elim (λa6=>some (a6,0)) some)))
def fR.s2(t_:C7)(a2:Nat):Option (Nat⊕(Unit⊕Int)):=cond (decide ((a2:Int)<(t_.O.length:Int))) ((idxn t_.O a2 λa6=>cond (decide (a6<0)) (some true) (idxn t_.O a2 λa7=>some (decide (1048576<a7)))).bind (λa8=>cond (a8) (some (.inr (.inr 2))) (some (.inl (a2+1))))) (some (.inr (.inl ())))
def fR(t_:C7)(inputs_:Int):Option Int:=(dY t_.In inputs_).bind λa2=>cond (decide (a2≠0)) (some a2) (cond (decide ((t_.O.length:Int)≠(t_.In.length:Int))) (some 1) ((iter (λ(s:Nat)=>fR.s2 t_ s) fuel 0).bind (Sum.elim (λ_=>some 0) some)))
def eT.s2(a_ b_:A2)(a2:Nat):Option (Nat⊕Nat):=(cond (decide ((a2:Int)<(a_.length:Int))) (cond (decide ((a2:Int)<(b_.length:Int))) (idxn a_ a2 λa6=>idxn b_ a2 λa7=>some (decide (a6=a7))) (some false)) (some false)).bind (λa8=>cond (a8) (chk (inR ((a2:Int)+1)) (some (.inl (a2+1)))) (some (.inr a2)))
def eT(a_ b_:A2):Option Int:=(iter (λ(s:Nat)=>eT.s2 a_ b_ s) fuel 0).bind (λa2=>some (a2:Int))
def gX.s2(a_ b_:C7)(a6:Int)(a2:Nat):Option (Nat⊕(Unit⊕Int)):=cond (decide ((a2:Int)<a6)) (idxn a_.O a2 λa7=>idxn b_.O a2 λa8=>cond (decide (a7≠a8)) (some (.inr (.inr (a2:Int)))) (chk (inR ((a2:Int)+1)) (some (.inl (a2+1))))) (some (.inr (.inl ())))
def gX(a_ b_:C7):Option Int:=(eT a_.In b_.In).bind λa2=>(iter (λ(s:Nat)=>gX.s2 a_ b_ a2 s) fuel 0).bind (Sum.elim (λ_=>some (-1:Int)) some)
def jZ(w_ p_:A2):Option Bool:=(eT w_ p_).bind λa2=>some (decide (a2=(p_.length:Int)))
def oV(a_ b_:A2):Option Int:=(eT a_ b_).bind λa2=>(cond (decide (a2=(a_.length:Int))) (some (decide (a2=(b_.length:Int)))) (some false)).bind (λa6=>cond (a6) (some 0) ((cond (decide (a2=(a_.length:Int))) (some (decide (a2=(a_.length:Int)))) (cond (decide (a2<(b_.length:Int))) (idx a_ a2 λa7=>idx b_ a2 λa8=>some (decide (a7<a8))) (some false))).bind (λb2=>cond (b2) (some (-1:Int)) (some 1))))
def lE(a_ b_:A2):Option Int:=cond (decide ((a_.length:Int)<(b_.length:Int))) (some (-1:Int)) (cond (decide ((b_.length:Int)<(a_.length:Int))) (some 1) ((oV a_ b_).bind λa2=>some a2))
def lB(t_:C7):Option C7:=(dB [t_.In]).bind λa2=>(dB [t_.O]).bind λa6=>some (⟨a2,a6⟩:C7)
def S1.s2(o_:G7)(t_:C7)(done72:Bool)(a2:Nat):Option ((Bool×Nat)⊕Bool):=cond (decide ((a2:Int)<(o_.T.length:Int))) (cond (done72) (some (.inl (true,(a2+1)))) (idxn o_.T a2 λa6=>(jZ a6.In t_.In).bind λa7=>some (.inl (a7,(a2+1))))) (some (.inr done72))
def S1.k9(t_:C7)(a7:Nat)(a2:C7)(a6:List C7)(done345:Bool):Option ((List C7×Bool×Nat)⊕(List C7×Bool)):=((jZ t_.In a2.In).bind λa8=>cond ((!a8)) (some true) (some (decide ((t_.In.length:Int)=(a2.In.length:Int))))).bind (λb2=>cond (b2) ((lB a2).bind λb3=>chk (B4 (List.length a6+1) 48) (some (.inl ((a6++[b3]),done345,(a7+1))))) (some (.inl (a6,done345,(a7+1)))))
def S1.s10(o_:G7)(t_:C7)(a2:List C7)(done276:Bool)(a6:Nat):Option ((List C7×Bool×Nat)⊕(List C7×Bool)):=cond (decide ((a6:Int)<(o_.T.length:Int))) (idxn o_.T a6 λa7=>((cond ((!done276)) ((lE t_.In a7.In).bind λa8=>some (decide (a8<0))) (some false)).bind (λb2=>cond (b2) ((lB t_).bind λb3=>chk (B4 (List.length a2+1) 48) (some ((a2++[b3]),true))) (some (a2,done276))):Option (List C7×Bool)).bind (λs=>S1.k9 t_ a6 a7 s.1 s.2)) (some (.inr (a2,done276)))
def S1.k11(o_:G7)(t_:C7)(a2:List C7)(done230:Bool):Option G7:=(cond ((!done230)) ((lB t_).bind λa6=>chk (B4 (List.length a2+1) 48) (some (a2++[a6]))) (some a2):Option (List C7)).bind (λa7=>some (⟨o_.I,a7⟩:G7))
def S1(o_:G7)(t_:C7):Option G7:=(iter (λ(s:Bool×Nat)=>S1.s2 o_ t_ s.1 s.2) fuel (decide ((t_.In.length:Int)=0),0)).bind (λdone67=>(iter (λ(s:List C7×Bool×Nat)=>S1.s10 o_ t_ s.1 s.2.1 s.2.2) fuel ([],done67,0)).bind (λs=>S1.k11 o_ t_ s.1 s.2))
def gN.s2(o_:G7)(t_:C7)(a2:Nat):Option (Nat⊕(Unit⊕(G7×Int))):=cond (decide ((a2:Int)<(o_.T.length:Int))) (idxn o_.T a2 λa6=>(gX a6 t_).bind λa7=>cond (decide (0<=a7)) (some (.inr (.inr (o_,13)))) (some (.inl (a2+1)))) (some (.inr (.inl ())))
def gN(o_:G7)(t_:C7):Option (G7×Int):=(fR t_ o_.I).bind λa2=>cond (decide (a2≠0)) (some (o_,a2)) ((iter (λ(s:Nat)=>gN.s2 o_ t_ s) fuel 0).bind (Sum.elim (λ_=>(S1 o_ t_).bind λa6=>cond (decide (10000<(a6.T.length:Int))) (some (o_,11)) (some (a6,0))) some))
def cF.s2(o_:G7)(l_:List C7)(a7:Int)(a8:List C7)(a6:Nat):Option ((Int×List C7×Nat)⊕((Int×List C7)⊕(G7×Int))):=cond (decide ((a6:Int)<(l_.length:Int))) (idxn l_ a6 λb2=>(gN (⟨a7,a8⟩:G7) b2).bind λa2=>cond (decide (a2.2≠0)) (some (.inr (.inr (o_,a2.2)))) (some (.inl (a2.1.I,a2.1.T,(a6+1))))) (some (.inr (.inl (a7,a8))))
def cF.k3(a2:Int)(a6:List C7):Option (G7×Int):=some ((⟨a2,a6⟩:G7),0)
def cF(o_:G7)(l_:List C7):Option (G7×Int):=(iter (λ(s:Int×List C7×Nat)=>cF.s2 o_ l_ s.1 s.2.1 s.2.2) fuel (o_.I,o_.T,0)).bind (Sum.elim (λs=>cF.k3 s.1 s.2) some)
def R16_Of(m_:A8)(words_:A4):Option (G7×Int):=(fS m_ words_).bind λa2=>cond (decide (a2.2≠0)) (some ((⟨0,[]⟩:G7),a2.2)) ((cF (⟨m_.I,[]⟩:G7) a2.1).bind λa6=>cond (decide (a6.2≠0)) (some ((⟨0,[]⟩:G7),a6.2)) (some (a6.1,0)))
def jU(a_ b_:A2):Option Bool:=(cond (decide ((a_.length:Int)=(b_.length:Int))) ((eT a_ b_).bind λa2=>some (decide (a2=(a_.length:Int)))) (some false)).bind (λa6=>some a6)
def aO.s2(a_ b_:A4)(a2:Nat):Option (Nat⊕(Unit⊕Bool)):=cond (decide ((a2:Int)<(a_.length:Int))) (idxn a_ a2 λa6=>idxn b_ a2 λa7=>(jU a6 a7).bind λa8=>cond ((!a8)) (some (.inr (.inr false))) (some (.inl (a2+1)))) (some (.inr (.inl ())))
def aO(a_ b_:A4):Option Bool:=cond (decide ((a_.length:Int)≠(b_.length:Int))) (some false) ((iter (λ(s:Nat)=>aO.s2 a_ b_ s) fuel 0).bind (Sum.elim (λ_=>some true) some))
def gW.s2(l_:A4)(w_:A2)(low84 high85:Nat):Option ((Nat×Nat)⊕Nat):=cond (decide ((low84:Int)<(high85:Int))) (chk (inR ((low84:Int)+(high85:Int))) (chk (inR (((low84:Int)+(high85:Int)) / 2)/\(0:Int)<=((low84:Int)+(high85:Int))/\(1:Int)<=2) (idxn l_ ((low84+high85) / 2) λa2=>(lE a2 w_).bind λa6=>cond (decide (a6<0)) (chk (inR ((((low84:Int)+(high85:Int)) / 2)+1)) (some (.inl ((((low84+high85) / 2)+1),high85)))) (some (.inl (low84,((low84+high85) / 2))))))) (some (.inr low84))
def gW(l_:A4)(w_:A2):Option Int:=(iter (λ(s:Nat×Nat)=>gW.s2 l_ w_ s.1 s.2) fuel (0,l_.length)).bind (λlow77=>some (low77:Int))
def dW.s2(a8:Int)(a6:A4)(a2:Int):Option ((A4×Int)⊕A4):=cond (decide (a8<a2)) (chk (inR (a2-1)) (idx a6 (a2-1) λa7=>idx a6 a2 λb2=>chk (inR (a2-1)) (some (.inl ((List.set a6 a2.toNat a7),(a2-1)))))) (some (.inr a6))
def dW(l_:A4)(w_:A2):Option A4:=(gW l_ w_).bind λa2=>(cond (decide (a2<(l_.length:Int))) (idx l_ a2 λa7=>(jU a7 w_).bind λa8=>some a8) (some false)).bind (λb2=>cond (b2) (some l_) (chk (B4 (List.length l_+1) 24) (chk (inR ((↑(List.length (l_++[[]])):Int)-1)) ((iter (λ(s:A4×Int)=>dW.s2 a2 s.1 s.2) fuel ((l_++[[]]),((↑(List.length (l_++[[]])):Int)-1))).bind (λa6=>chk (B4 (List.length ([]:List Unit)+List.length w_) 8) (idx a6 a2 λb3=>some (List.set a6 a2.toNat ([]++w_))))))))
def cG.s2(l_ a6:A4)(a2:Nat):Option ((A4×Nat)⊕A4):=cond (decide ((a2:Int)<(l_.length:Int))) (idxn l_ a2 λa7=>(dW a6 a7).bind λa8=>some (.inl (a8,(a2+1)))) (some (.inr a6))
def cG(l_:A4):Option A4:=(iter (λ(s:A4×Nat)=>cG.s2 l_ s.1 s.2) fuel ([],0)).bind (λa2=>some a2)
def bJ.s2(m_:A8)(a2:Nat):Option (Nat⊕(Unit⊕Bool)):=(cond (decide ((a2:Int)<(m_.N.length:Int))) (some (decide ((a2:Int)<7))) (some false)).bind (λa6=>cond (a6) (idxn m_.N a2 λa7=>cond (decide (3<(a7.length:Int))) (some (.inr (.inr true))) (chk (inR ((a2:Int)+1)) (some (.inl (a2+1))))) (some (.inr (.inl ()))))
def bJ.s4(m_:A8)(a2:Nat):Option (Nat⊕(Unit⊕Bool)):=(cond (decide ((a2:Int)<(m_.O.length:Int))) (some (decide ((a2:Int)<11))) (some false)).bind (λa6=>cond (a6) (idxn m_.O a2 λa7=>cond (decide (3<(a7.length:Int))) (some (.inr (.inr true))) (chk (inR ((a2:Int)+1)) (some (.inl (a2+1))))) (some (.inr (.inl ()))))
def bJ(m_:A8):Option Bool:=(iter (λ(s:Nat)=>bJ.s2 m_ s) fuel 0).bind (Sum.elim (λ_=>(iter (λ(s:Nat)=>bJ.s4 m_ s) fuel 0).bind (Sum.elim (λ_=>(cond (decide (6<(m_.N.length:Int))) (some true) (some (decide (10<(m_.O.length:Int))))).bind (λa2=>some a2)) some)) some)
def fU.s13(l_:A4)(a6:Nat)(a7:A4)(a2:Nat):Option ((A4×Nat)⊕A4):=idxn l_ a6 λb2=>cond (decide ((a2:Int)<=(b2.length:Int))) (idxn l_ a6 λa8=>chk ((0:Int)<=(a2:Int)/\(a2:Int)<=(a8.length:Int)) ((dW a7 (List.take a2 a8)).bind λb3=>chk (inR ((a2:Int)+1)) (some (.inl (b3,(a2+1)))))) (some (.inr a7))
def fU.s14(l_ a6:A4)(a2:Nat):Option ((A4×Nat)⊕A4):=cond (decide ((a2:Int)<(l_.length:Int))) ((iter (λ(s:A4×Nat)=>fU.s13 l_ a2 s.1 s.2) fuel (a6,0)).bind (λa7=>some (.inl (a7,(a2+1))))) (some (.inr a6))
def fU(l_:A4):Option A4:=(iter (λ(s:A4×Nat)=>fU.s14 l_ s.1 s.2) fuel ([],0)).bind (λa2=>some a2)
def kT.s2(l_:A4)(w_:A2)(a2:Nat):Option (Nat⊕Nat):=(cond (decide ((a2:Int)<(l_.length:Int))) (idxn l_ a2 λa6=>(jU a6 w_).bind λa7=>some (!a7)) (some false)).bind (λa8=>cond (a8) (chk (inR ((a2:Int)+1)) (some (.inl (a2+1)))) (some (.inr a2)))
def kT(l_:A4)(w_:A2):Option Int:=(iter (λ(s:Nat)=>kT.s2 l_ w_ s) fuel 0).bind (λa2=>some (a2:Int))
def aI.s18(inputs_:Int)(a2 a6:A2)(a7:Nat):Option ((A2×A2×Nat)⊕(A2×A2)):=cond (decide ((a7:Int)<inputs_)) (chk (B4 (List.length a2+1) 8) (chk (B4 (List.length a6+1) 8) (chk (inR ((a7:Int)+1)) (some (.inl ((a2++[(-1:Int)]),(a6++[(-1:Int)]),(a7+1))))))) (some (.inr (a2,a6)))
def aI.k19(a2 a6:A4)(a7:Nat)(a8 b2:A2):Option ((A4×A4×Nat)⊕(A4×A4)):=chk (B4 (List.length a2+List.length [a8]) 24) (chk (B4 (List.length a6+List.length [b2]) 24) (chk (inR ((a7:Int)+1)) (some (.inl ((a2++[a8]),(a6++[b2]),(a7+1))))))
def aI.s20(inputs_ states_:Int)(a2 a6:A4)(a7:Nat):Option ((A4×A4×Nat)⊕(A4×A4)):=cond (decide ((a7:Int)<states_)) ((iter (λ(s:A2×A2×Nat)=>aI.s18 inputs_ s.1 s.2.1 s.2.2) fuel ([],[],0)).bind (λs=>aI.k19 a2 a6 a7 s.1 s.2)) (some (.inr (a2,a6)))
def aI.k21(inputs_:Int)(a2 a6:A4):Option A9:=some (⟨inputs_,0,a2,a6⟩:A9)
def aI(inputs_ states_:Int):Option A9:=(iter (λ(s:A4×A4×Nat)=>aI.s20 inputs_ states_ s.1 s.2.1 s.2.2) fuel ([],[],0)).bind (λs=>aI.k21 inputs_ s.1 s.2)
def W3.s2(o_:G7)(a2:A4)(a6:Nat):Option ((A4×Nat)⊕A4):=cond (decide ((a6:Int)<(o_.T.length:Int))) (idxn o_.T a6 λa7=>chk (B4 (List.length a2+1) 24) (some (.inl ((a2++[a7.In]),(a6+1))))) (some (.inr a2))
def W3.s20(b9:A4)(a6:C7)(a8 b2:A4)(a2:Nat):Option ((A4×A4×Nat)⊕(A4×A4)):=cond (decide ((a2:Int)<(a6.In.length:Int))) (chk ((0:Int)<=(a2:Int)/\(a2:Int)<=(a6.In.length:Int)) ((kT b9 (List.take a2 a6.In)).bind λa7=>idx a8 a7 λb3=>idxn a6.In a2 λb4=>chk ((0:Int)<=((a2:Int)+1)/\((a2:Int)+1)<=(a6.In.length:Int)) ((kT b9 (List.take (a2+1) a6.In)).bind λb7=>idx b3 b4 λc0=>idx b2 a7 λb5=>idxn a6.In a2 λb6=>idxn a6.O a2 λb8=>idx b5 b6 λc6=>some (.inl ((List.set a8 (Int.toNat a7) (List.set b3 (Int.toNat b4) b7)),(List.set b2 (Int.toNat a7) (List.set b5 (Int.toNat b6) b8)),(a2+1)))))) (some (.inr (a8,b2)))
def W3.k21(a2:Nat)(a6 a7:A4):Option ((A4×A4×Nat)⊕(A4×A4)):=some (.inl (a6,a7,(a2+1)))
def W3.s22(o_:G7)(b2 a6 a7:A4)(a2:Nat):Option ((A4×A4×Nat)⊕(A4×A4)):=cond (decide ((a2:Int)<(o_.T.length:Int))) (idxn o_.T a2 λa8=>(iter (λ(s:A4×A4×Nat)=>W3.s20 b2 a8 s.1 s.2.1 s.2.2) fuel (a6,a7,0)).bind (λs=>W3.k21 a2 s.1 s.2)) (some (.inr (a6,a7)))
def W3.k23(a7:A9)(a2 a6:A4):Option (A9×Int):=some ((⟨a7.I,a7.S,a2,a6⟩:A9),0)
def W3(o_:G7):Option (A9×Int):=(iter (λ(s:A4×Nat)=>W3.s2 o_ s.1 s.2) fuel ([[]],0)).bind (λa7=>(fU a7).bind λa2=>cond (decide (4096<(a2.length:Int))) (some ((⟨0,0,[],[]⟩:A9),11)) ((aI o_.I (a2.length:Int)).bind λa6=>(iter (λ(s:A4×A4×Nat)=>W3.s22 o_ a2 s.1 s.2.1 s.2.2) fuel (a6.N,a6.O,0)).bind (λs=>W3.k23 a6 s.1 s.2)))
def bM.s13(p_:A9)(b2:Nat)(a8:A2)(a2:Nat):Option (Nat⊕(Unit⊕(Nat⊕(Unit⊕Int)))):=cond (decide ((a2:Int)<(a8.length:Int))) (idxn a8 a2 λa6=>idxn p_.O b2 λb3=>idxn b3 a2 λa7=>(cond (decide (a6<(-1:Int))) (some true) (cond (decide ((p_.N.length:Int)<=a6)) (some true) (cond (decide (a7<(-1:Int))) (some true) (some (decide (1048576<a7)))))).bind (λb4=>cond (b4) (some (.inr (.inr (.inr (.inr 2))))) (cond ((!((decide (a6=(-1:Int)))==(decide (a7=(-1:Int)))))) (some (.inr (.inr (.inr (.inr 1))))) (some (.inl (a2+1)))))) (some (.inr (.inl ())))
def bM.s14(p_:A9)(a2:Nat):Option (Nat⊕(Unit⊕Int)):=cond (decide ((a2:Int)<(p_.N.length:Int))) ((idxn p_.N a2 λa6=>cond (decide ((a6.length:Int)≠p_.I)) (some true) (idxn p_.O a2 λa7=>some (decide ((a7.length:Int)≠p_.I)))).bind (λa8=>cond (a8) (some (.inr (.inr 1))) (idxn p_.N a2 λb2=>(iter (λ(s:Nat)=>bM.s13 p_ a2 b2 s) fuel 0).bind (Sum.elim (λ_=>some (.inl (a2+1))) some)))) (some (.inr (.inl ())))
def bM(p_:A9):Option Int:=(cond (decide (p_.I<1)) (some true) (some (decide (64<p_.I)))).bind (λa2=>cond (a2) (some 2) (cond (decide ((p_.N.length:Int)=0)) (some 19) (cond (decide (4096<(p_.N.length:Int))) (some 11) ((cond (decide (p_.S<0)) (some true) (some (decide ((p_.N.length:Int)<=p_.S)))).bind (λa6=>cond (a6) (some 2) (cond (decide ((p_.O.length:Int)≠(p_.N.length:Int))) (some 1) ((iter (λ(s:Nat)=>bM.s14 p_ s) fuel 0).bind (Sum.elim (λ_=>some 0) some))))))))
def eX.s2(up_:A2)(s68:Int):Option (Int⊕Int):=idx up_ s68 λa2=>cond (decide (a2≠s68)) (idx up_ s68 λa6=>some (.inl a6)) (some (.inr s68))
def eX(up_:A2)(s_:Int):Option Int:=(iter (λ(s:Int)=>eX.s2 up_ s) fuel s_).bind (λs64=>some s64)
def fW.s2(p_:A9)(class_:A2)(a_:Int)(a2:Nat):Option (Nat⊕(Unit⊕Int)):=cond (decide ((a2:Int)<(class_.length:Int))) (idxn class_ a2 λa6=>idx p_.N a6 λa7=>idx a7 a_ λa8=>cond (decide (a8≠(-1:Int))) (some (.inr (.inr a6))) (some (.inl (a2+1)))) (some (.inr (.inl ())))
def fW(p_:A9)(class_:A2)(a_:Int):Option Int:=(iter (λ(s:Nat)=>fW.s2 p_ class_ a_ s) fuel 0).bind (Sum.elim (λ_=>some (-1:Int)) some)
def L6.s2(p_:A9)(a6:A2)(a7:A4)(a2:Nat):Option ((A2×A4×Nat)⊕(A2×A4)):=cond (decide ((a2:Int)<(↑(List.length (List.replicate p_.N.length (0:Int))):Int))) (idxn a6 a2 λa8=>idxn a7 a2 λb2=>chk (inR ((a2:Int)+1)) (some (.inl ((List.set a6 a2 (a2:Int)),(List.set a7 a2 [(a2:Int)]),(a2+1))))) (some (.inr (a6,a7)))
def L6.s32(p_:A9)(b2:A4)(b3 b4:Int)(a6:List T_A2)(a2:Nat):Option ((List T_A2×Nat)⊕(List T_A2⊕((A2×A4×List T_A2)⊕((A2×A4×List T_A2)⊕(A2⊕(A2×Bool)))))):=cond (decide ((a2:Int)<p_.I)) ((idx b2 b3 λb5=>(fW p_ b5 (a2:Int)).bind λa7=>idx b2 b4 λb6=>(fW p_ b6 (a2:Int)).bind λa8=>(cond (decide (a7=(-1:Int))) (some true) (some (decide (a8=(-1:Int))))).bind (λb7=>cond (b7) (some (.inl a6)) (idx p_.O a7 λb8=>idxn b8 a2 λb9=>idx p_.O a8 λc0=>idxn c0 a2 λc6=>cond (decide (b9≠c6)) (some (.inr (.inr (.inr (.inr (.inr (.inr ([],false)))))))) (idx p_.N a7 λc7=>idxn c7 a2 λc8=>idx p_.N a8 λc9=>idxn c9 a2 λd0=>chk (B4 (List.length a6+1) 16) (some (.inl (a6++[(⟨c8,d0⟩:T_A2)])))))):Option (List T_A2⊕((List T_A2×Nat)⊕(List T_A2⊕((A2×A4×List T_A2)⊕((A2×A4×List T_A2)⊕(A2⊕(A2×Bool)))))))).bind (Sum.elim (λd1=>chk (inR ((a2:Int)+1)) (some (.inl (d1,(a2+1))))) some)) (some (.inr (.inl a6)))
def L6.k33(a6:A2)(a7:A4)(a2:List T_A2):Option ((A2×A4×List T_A2)⊕(A2⊕(A2×Bool))):=chk (1<=List.length a2) (some (.inl (a6,a7,(List.drop 1 a2))))
def L6.s34(p_:A9)(a2:A2)(a6:A4)(a8:List T_A2):Option ((A2×A4×List T_A2)⊕(A2⊕(A2×Bool))):=cond (decide (0<(a8.length:Int))) ((idxn a8 0 λb5=>(eX a2 b5.f0).bind λa7=>idxn a8 0 λb6=>(eX a2 b6.f1).bind λb2=>cond (decide (a7=b2)) (some (.inl (a2,a6,a8))) ((iter (λ(s:List T_A2×Nat)=>L6.s32 p_ a6 a7 b2 s.1 s.2) fuel (a8,0)).bind (Sum.elim (λb7=>idx a2 b2 λb8=>idx a6 a7 λb3=>idx a6 b2 λb4=>chk (B4 (List.length b3+List.length b4) 8) (idx a6 a7 λb9=>some (.inl ((List.set a2 b2.toNat a7),(List.set a6 (Int.toNat a7) (b3++b4)),b7)))) some)):Option ((A2×A4×List T_A2)⊕((A2×A4×List T_A2)⊕(A2⊕(A2×Bool))))).bind (Sum.elim (λs=>L6.k33 s.1 s.2.1 s.2.2) some)) (some (.inr (.inl a2)))
def L6.s36(a7 a6:A2)(a2:Nat):Option ((A2×Nat)⊕A2):=cond (decide ((a2:Int)<(a7.length:Int))) ((eX a6 (a2:Int)).bind λa8=>idxn a6 a2 λb2=>some (.inl ((List.set a6 a2 a8),(a2+1)))) (some (.inr a6))
def L6.k37(p_:A9)(s_ t_:Int)(a7:A2)(a8:A4):Option (A2×Bool):=(iter (λ(s:A2×A4×List T_A2)=>L6.s34 p_ s.1 s.2.1 s.2.2) fuel (a7,a8,[(⟨s_,t_⟩:T_A2)])).bind (Sum.elim (λa2=>(iter (λ(s:A2×Nat)=>L6.s36 a2 s.1 s.2) fuel (a2,0)).bind (λa6=>some (a6,true))) some)
def L6(p_:A9)(s_ t_:Int):Option (A2×Bool):=chk ((0:Int)<=(p_.N.length:Int)/\(p_.N.length:Int)<=(p_.N.length:Int)/\B4 (Int.toNat (p_.N.length:Int)) 8) (chk ((0:Int)<=(p_.N.length:Int)/\(p_.N.length:Int)<=(p_.N.length:Int)/\B4 (Int.toNat (p_.N.length:Int)) 24) ((iter (λ(s:A2×A4×Nat)=>L6.s2 p_ s.1 s.2.1 s.2.2) fuel ((List.replicate p_.N.length (0:Int)),(List.replicate p_.N.length ([]:A2)),0)).bind (λs=>L6.k37 p_ s_ t_ s.1 s.2)))
def Q5.k53(a2 a6:Nat)(a7:List (A2×Bool)):Option ((Nat×(List (A2×Bool))×Nat)⊕(Nat×(List (A2×Bool)))):=some (.inl (a6,a7,(a2+1)))
def Q5.s54(b7:A2×Bool)(a8:Nat)(b2:A2)(a6:Nat)(a2:List (A2×Bool))(a7:Nat):Option ((Nat×(List (A2×Bool))×Nat)⊕(Nat×(List (A2×Bool)))):=cond (decide ((a7:Int)<(b2.length:Int))) ((idxn b2 a7 λb3=>cond (decide (b3=(-1:Int))) (some (a6,a2)) ((idxn b7.1 a8 λb4=>chk ((∀p∈a2,List.length p.1=2)) (cond (((mget [b4,(a7:Int)] a2).getD false)) (chk (inR ((a6:Int)+1)) (some (a6+1))) (some a6)):Option Nat).bind (λb5=>idxn b7.1 a8 λb6=>chk ((∀p∈a2,List.length p.1=2)) (some (b5,(mset [b6,(a7:Int)] true a2))))):Option (Nat×(List (A2×Bool)))).bind (λs=>Q5.k53 a7 s.1 s.2)) (some (.inr (a6,a2)))
def Q5.k55(a2 a6:Nat)(a7:List (A2×Bool)):Option ((Nat×(List (A2×Bool))×Nat)⊕Nat):=some (.inl (a6,a7,(a2+1)))
def Q5.s56(p_:A9)(b2:A2×Bool)(a6:Nat)(a7:List (A2×Bool))(a2:Nat):Option ((Nat×(List (A2×Bool))×Nat)⊕Nat):=cond (decide ((a2:Int)<(p_.N.length:Int))) (idxn p_.N a2 λa8=>(iter (λ(s:Nat×(List (A2×Bool))×Nat)=>Q5.s54 b2 a2 a8 s.1 s.2.1 s.2.2) fuel (a6,a7,0)).bind (λs=>Q5.k55 a2 s.1 s.2)) (some (.inr a6))
def Q5(p_:A9)(s_ t_:Int):Option (Int×Bool):=(L6 p_ s_ t_).bind λa6=>cond ((!a6.2)) (some (0,false)) ((iter (λ(s:Nat×(List (A2×Bool))×Nat)=>Q5.s56 p_ a6 s.1 s.2.1 s.2.2) fuel (0,([]:List (A2×Bool)),0)).bind (λa2=>some ((a2:Int),true)))
def qM(p_:A9)(s_ t_:Int):Option (Int×Bool×Int):=(bM p_).bind λa2=>cond (decide (a2≠0)) (some (0,false,a2)) ((cond (decide ((min s_ t_)<0)) (some true) (some (decide ((p_.N.length:Int)<=(max s_ t_))))).bind (λa7=>cond (a7) (some (0,false,2)) ((Q5 p_ s_ t_).bind λa6=>some (a6.1,a6.2,0))))
def V3.s13(red_:List Bool)(b2:Bool)(a8:A2)(a2:List Bool)(a6:Nat):Option ((List Bool×Nat)⊕List Bool):=cond (decide ((a6:Int)<(a8.length:Int))) (idxn a8 a6 λa7=>(cond (b2) (cond (decide (a7≠(-1:Int))) (idx red_ a7 λb3=>some (!b3)) (some false)) (some false)).bind (λb4=>cond (b4) (idx a2 a7 λb5=>some (.inl ((List.set a2 a7.toNat true),(a6+1)))) (some (.inl (a2,(a6+1)))))) (some (.inr a2))
def V3.s14(p_:A9)(red_ a6:List Bool)(a2:Nat):Option ((List Bool×Nat)⊕List Bool):=cond (decide ((a2:Int)<(red_.length:Int))) (idxn red_ a2 λa7=>idxn p_.N a2 λa8=>(iter (λ(s:List Bool×Nat)=>V3.s13 red_ a7 a8 s.1 s.2) fuel (a6,0)).bind (λb2=>some (.inl (b2,(a2+1))))) (some (.inr a6))
def V3.s16(a7:List Bool)(a6:A2)(a2:Nat):Option ((A2×Nat)⊕A2):=cond (decide ((a2:Int)<(a7.length:Int))) (idxn a7 a2 λa8=>cond (a8) (chk (B4 (List.length a6+1) 8) (some (.inl ((a6++[(a2:Int)]),(a2+1))))) (some (.inl (a6,(a2+1))))) (some (.inr a6))
def V3(p_:A9)(red_:List Bool):Option A2:=chk ((0:Int)<=(red_.length:Int)/\(red_.length:Int)<=(red_.length:Int)/\B4 (Int.toNat (red_.length:Int)) 1) ((iter (λ(s:List Bool×Nat)=>V3.s14 p_ red_ s.1 s.2) fuel ((List.replicate red_.length false),0)).bind (λa2=>(iter (λ(s:A2×Nat)=>V3.s16 a2 s.1 s.2) fuel ([],0)).bind (λa6=>some a6)))
def aN.k9(a2:Nat)(a6 a7:Int)(a8:Nat):Option ((Int×Int×Nat×Nat)⊕(Int×Int×Nat)):=some (.inl (a6,a7,a8,(a2+1)))
def aN.s10(p_:A9)(red_:List Bool)(blue_ a2 a7:Int)(a8 a6:Nat):Option ((Int×Int×Nat×Nat)⊕(Int×Int×Nat)):=cond (decide ((a6:Int)<(red_.length:Int))) ((idxn red_ a6 λb3=>cond ((!b3)) (some (a2,a7,a8)) ((Q5 p_ (a6:Int) blue_).bind λb2=>(cond (b2.2) (cond ((decide (a2=0)&&(decide (a7=0)&&(decide ((a8:Int)=0)&&true)))) (some true) (some (decide (a2<b2.1)))) (some false)).bind (λb4=>cond (b4) (some (b2.1,blue_,a6)) (some (a2,a7,a8)))):Option (Int×Int×Nat)).bind (λs=>aN.k9 a6 s.1 s.2.1 s.2.2)) (some (.inr (a2,a7,a8)))
def aN.k11(a2 a6:Int)(a7:Nat):Option X7:=some (⟨a2,a6,(a7:Int)⟩:X7)
def aN(p_:A9)(red_:List Bool)(blue_:Int):Option X7:=(iter (λ(s:Int×Int×Nat×Nat)=>aN.s10 p_ red_ blue_ s.1 s.2.1 s.2.2.1 s.2.2.2) fuel (0,0,0,0)).bind (λs=>aN.k11 s.1 s.2.1 s.2.2)
def bB.s2(p_:A9)(red_:List Bool)(l_:A2)(a6 a8 b2:Int)(a7:Nat):Option ((Int×Int×Int×Nat)⊕((Int×Int×Int)⊕(X7×Int))):=cond (decide ((a7:Int)<(l_.length:Int))) (idxn l_ a7 λb3=>(aN p_ red_ b3).bind λa2=>cond ((decide (a2.score=0)&&(decide (a2.blue=0)&&(decide (a2.red=0)&&true)))) (some (.inr (.inr (a2,b3)))) ((cond ((decide (a6=0)&&(decide (a8=0)&&(decide (b2=0)&&true)))) (some true) (some (decide (a6<a2.score)))).bind (λb4=>cond (b4) (some (.inl (a2.score,a2.blue,a2.red,(a7+1)))) (some (.inl (a6,a8,b2,(a7+1))))))) (some (.inr (.inl (a6,a8,b2))))
def bB.k3(a2 a6 a7:Int):Option (X7×Int):=some ((⟨a2,a6,a7⟩:X7),(-1:Int))
def bB(p_:A9)(red_:List Bool)(l_:A2):Option (X7×Int):=(iter (λ(s:Int×Int×Int×Nat)=>bB.s2 p_ red_ l_ s.1 s.2.1 s.2.2.1 s.2.2.2) fuel (0,0,0,0)).bind (Sum.elim (λs=>bB.k3 s.1 s.2.1 s.2.2) some)
def R2.s2(p_:A9)(a6:A2)(a2:Nat):Option ((A2×Nat)⊕A2):=cond (decide ((a2:Int)<(↑(List.length (List.replicate p_.N.length (0:Int))):Int))) (idxn a6 a2 λa7=>chk (inR ((a2:Int)+1)) (some (.inl ((List.set a6 a2 (-1:Int)),(a2+1))))) (some (.inr a6))
def R2.s20(q_:A9)(b8:Int)(b2 a2 a8:A2)(a6:Nat):Option ((A2×A2×Nat)⊕(A2×A2)):=cond (decide ((a6:Int)<(b2.length:Int))) (idxn b2 a6 λa7=>(cond (decide (a7≠(-1:Int))) (idx a2 a7 λb3=>some (decide (b3=(-1:Int)))) (some false)).bind (λb4=>cond (b4) (idx a2 b8 λb5=>idx q_.N b5 λb6=>idxn b6 a6 λb7=>idx a2 a7 λb9=>chk (B4 (List.length a8+1) 8) (some (.inl ((List.set a2 a7.toNat b7),(a8++[a7]),(a6+1))))) (some (.inl (a2,a8,(a6+1)))))) (some (.inr (a2,a8)))
def R2.k21(a7:List Bool)(a6 a2:A2):Option ((A2×List Bool×A2)⊕List Bool):=chk (1<=List.length a2) (some (.inl (a6,a7,(List.drop 1 a2))))
def R2.s22(p_ q_:A9)(red_:List Bool)(a8:A2)(a2:List Bool)(a7:A2):Option ((A2×List Bool×A2)⊕List Bool):=cond (decide (0<(a7.length:Int))) (idxn a7 0 λa6=>(idx red_ a6 λb3=>cond (b3) (idx a8 a6 λb2=>idx a2 b2 λb6=>some (List.set a2 b2.toNat true)) (some a2):Option (List Bool)).bind (λb4=>idx p_.N a6 λb5=>(iter (λ(s:A2×A2×Nat)=>R2.s20 q_ a6 b5 s.1 s.2.1 s.2.2) fuel (a8,a7,0)).bind (λs=>R2.k21 b4 s.1 s.2))) (some (.inr a2))
def R2(p_ q_:A9)(red_:List Bool):Option (List Bool):=chk ((0:Int)<=(p_.N.length:Int)/\(p_.N.length:Int)<=(p_.N.length:Int)/\B4 (Int.toNat (p_.N.length:Int)) 8) ((iter (λ(s:A2×Nat)=>R2.s2 p_ s.1 s.2) fuel ((List.replicate p_.N.length (0:Int)),0)).bind (λa6=>idx a6 p_.S λa7=>chk ((0:Int)<=(q_.N.length:Int)/\(q_.N.length:Int)<=(q_.N.length:Int)/\B4 (Int.toNat (q_.N.length:Int)) 1) ((iter (λ(s:A2×List Bool×A2)=>R2.s22 p_ q_ red_ s.1 s.2.1 s.2.2) fuel ((List.set a6 p_.S.toNat q_.S),(List.replicate q_.N.length false),[p_.S])).bind (λa2=>some a2))))
def iD.s2(s_:A2)(f_:Int->Option Bool)(a2:Nat):Option (Nat⊕(Unit⊕Int)):=cond (decide ((a2:Int)<(s_.length:Int))) (idxn s_ a2 λa6=>(f_ a6).bind λa7=>cond (a7) (some (.inr (.inr (a2:Int)))) (some (.inl (a2+1)))) (some (.inr (.inl ())))
def iD(s_:A2)(f_:Int->Option Bool):Option Int:=(iter (λ(s:Nat)=>iD.s2 s_ f_ s) fuel 0).bind (Sum.elim (λ_=>some (-1:Int)) some)
def rA(s_:A2)(f_:Int->Option Bool):Option Bool:=(iD s_ f_).bind λa2=>some (decide (0<=a2))
def qL(inputs_:Int):Option Bool:=(cond (decide (1<=inputs_)) (some (decide (inputs_<=1024))) (some false)).bind (λa2=>some a2)
def nR(a_ p1_:Int):Option Bool:=(cond (decide (a_<0)) (some true) (some (decide (p1_<=a_)))).bind (λa2=>some a2)
def iE.s2(s_:A2)(f_:Int->Option Bool)(a2:Nat):Option (Nat⊕(Unit⊕Int)):=cond (decide ((a2:Int)<(s_.length:Int))) (idxn s_ a2 λa6=>(f_ a6).bind λa7=>cond (a7) (some (.inr (.inr (a2:Int)))) (some (.inl (a2+1)))) (some (.inr (.inl ())))
def iE(s_:A2)(f_:Int->Option Bool):Option Int:=(iter (λ(s:Nat)=>iE.s2 s_ f_ s) fuel 0).bind (Sum.elim (λ_=>some (-1:Int)) some)
def tT(s_:A2)(f_:Int->Option Bool):Option Bool:=(iE s_ f_).bind λa2=>some (decide (0<=a2))
def nK(w_:A2)(inputs_:Int):Option Int:=(qL inputs_).bind λa2=>cond ((!a2)) (some 2) (cond (decide (1024<(w_.length:Int))) (some 3) ((tT w_ (λu0=>nR u0 inputs_)).bind λa6=>cond (a6) (some 1) (some 0)))
def fB.s2(a_ b_:A2)(a2:Nat):Option (Nat⊕(Unit⊕Int)):=cond (decide ((a2:Int)<(min (a_.length:Int) (b_.length:Int)))) (idxn a_ a2 λa6=>idxn b_ a2 λa7=>cond (decide (a6≠a7)) (some (.inr (.inr (a2:Int)))) (some (.inl (a2+1)))) (some (.inr (.inl ())))
def fB(a_ b_:A2):Option Int:=(iter (λ(s:Nat)=>fB.s2 a_ b_ s) fuel 0).bind (Sum.elim (λ_=>some (min (a_.length:Int) (b_.length:Int))) some)
def nU(w_ p_:A2):Option Bool:=(fB w_ p_).bind λa2=>some (decide (a2=(p_.length:Int)))
def nV(a_ b_:C7):Option Int:=(fB a_.In b_.In).bind λa2=>chk ((0:Int)<=(min (min a2 (a_.O.length:Int)) (b_.O.length:Int))/\(min (min a2 (a_.O.length:Int)) (b_.O.length:Int))<=(a_.O.length:Int)) (chk ((0:Int)<=(min (min a2 (a_.O.length:Int)) (b_.O.length:Int))/\(min (min a2 (a_.O.length:Int)) (b_.O.length:Int))<=(b_.O.length:Int)) ((fB (List.take (Int.toNat (min (min a2 (a_.O.length:Int)) (b_.O.length:Int))) a_.O) (List.take (Int.toNat (min (min a2 (a_.O.length:Int)) (b_.O.length:Int))) b_.O)).bind λa6=>cond (decide (a6<(min (min a2 (a_.O.length:Int)) (b_.O.length:Int)))) (some a6) (some (-1:Int))))
def cmp_isNaN_int(x_:Int):Option Bool:=some (decide (x_≠x_))
def cmp_Compare_int(x_ y_:Int):Option Int:=(cmp_isNaN_int x_).bind λa6=>(cmp_isNaN_int y_).bind λa2=>cond (a6) (cond (a2) (some 0) (some (-1:Int))) (cond (a2) (some 1) (cond (decide (x_<y_)) (some (-1:Int)) (cond (decide (y_<x_)) (some 1) (some 0))))
def fY.s2(s1_ s2_:A2)(a2:Nat):Option (Nat⊕(Unit⊕Int)):=cond (decide ((a2:Int)<(s1_.length:Int))) (idxn s1_ a2 λa7=>cond (decide ((s2_.length:Int)<=(a2:Int))) (some (.inr (.inr 1))) (idxn s2_ a2 λa8=>(cmp_Compare_int a7 a8).bind λa6=>cond (decide (a6≠0)) (some (.inr (.inr a6))) (some (.inl (a2+1))))) (some (.inr (.inl ())))
def fY(s1_ s2_:A2):Option Int:=(iter (λ(s:Nat)=>fY.s2 s1_ s2_ s) fuel 0).bind (Sum.elim (λ_=>cond (decide ((s1_.length:Int)<(s2_.length:Int))) (some (-1:Int)) (some 0)) some)
def word_Lex(a_ b_:A2):Option Int:=(fY a_ b_).bind λa2=>some a2
def iB(a_ b_:C7):Option Int:=(word_Lex a_.In b_.In).bind λa2=>some a2
def iA.s2(a6:List C7)(a2:Nat):Option (Nat⊕(Unit⊕Bool)):=cond (decide ((a2:Int)<(a6.length:Int))) ((idxn a6 a2 λa7=>idx a6 ((a2:Int)-1) λa8=>(nU a7.In a8.In).bind λb2=>cond (b2) (some true) (idx a6 ((a2:Int)-1) λb3=>idxn a6 a2 λb4=>(nV b3 b4).bind λb5=>some (decide (0<=b5)))).bind (λb6=>cond (b6) (some (.inr (.inr false))) (some (.inl (a2+1))))) (some (.inr (.inl ())))
def iA(l_:List C7):Option Bool:=(xL l_).bind λa2=>(xX a2 (λu0 u1=>iB u0 u1)).bind λa6=>(iter (λ(s:Nat)=>iA.s2 a6 s) fuel 1).bind (Sum.elim (λ_=>some true) some)
def qS(o_:Int):Option Bool:=(cond (decide (o_<0)) (some true) (some (decide (1048576<o_)))).bind (λa2=>some a2)
def qN(t_:C7)(inputs_:Int):Option Int:=(nK t_.In inputs_).bind λa2=>cond (decide (a2≠0)) (some a2) (cond (decide ((t_.O.length:Int)≠(t_.In.length:Int))) (some 1) ((rA t_.O (λu0=>qS u0)).bind λa6=>cond (a6) (some 2) (some 0)))
def eU.s2(vals_:A2)(a2:Nat):Option (Nat⊕(Unit⊕Int)):=cond (decide ((a2:Int)<(vals_.length:Int))) (idxn vals_ a2 λa6=>cond (decide (a6≠0)) (some (.inr (.inr a6))) (some (.inl (a2+1)))) (some (.inr (.inl ())))
def eU(vals_:A2):Option Int:=(iter (λ(s:Nat)=>eU.s2 vals_ s) fuel 0).bind (Sum.elim (λ_=>some 0) some)
def iW(a_ b_:A2):Option Int:=(cmp_Compare_int (a_.length:Int) (b_.length:Int)).bind λa2=>(fY a_ b_).bind λa6=>(eU [a2,a6]).bind λa7=>some a7
def tN(a_ b_:C7):Option Int:=(iW a_.In b_.In).bind λa2=>some a2
def qT(u_ p1_:C7):Option Bool:=(nU u_.In p1_.In).bind λa2=>some a2
def qU(u_ p1_:C7):Option Bool:=(nV p1_ u_).bind λa2=>some (decide (0<=a2))
def fZ.s2(s_:List C7)(f_:C7->Option Bool)(a2:Nat):Option (Nat⊕(Unit⊕Int)):=cond (decide ((a2:Int)<(s_.length:Int))) (idxn s_ a2 λa6=>(f_ a6).bind λa7=>cond (a7) (some (.inr (.inr (a2:Int)))) (some (.inl (a2+1)))) (some (.inr (.inl ())))
def fZ(s_:List C7)(f_:C7->Option Bool):Option Int:=(iter (λ(s:Nat)=>fZ.s2 s_ f_ s) fuel 0).bind (Sum.elim (λ_=>some (-1:Int)) some)
def oB(s_:List C7)(f_:C7->Option Bool):Option Bool:=(fZ s_ f_).bind λa2=>some (decide (0<=a2))
def bN.s2(o_:G7)(a2:Nat):Option (Nat⊕(Unit⊕Int)):=cond (decide ((a2:Int)<(o_.T.length:Int))) (idxn o_.T a2 λa6=>(nK a6.In o_.I).bind λa7=>cond (decide (a7≠0)) (some (.inr (.inr a7))) (cond (decide ((a6.In.length:Int)=0)) (some (.inr (.inr 19))) ((qN a6 o_.I).bind λa8=>cond (decide (a8≠0)) (some (.inr (.inr a8))) ((cond (decide (0<(a2:Int))) (idx o_.T ((a2:Int)-1) λb2=>(tN b2 a6).bind λb3=>some (decide (0<=b3))) (some false)).bind (λb4=>cond (b4) (some (.inr (.inr 10))) (some (.inl (a2+1)))))))) (some (.inr (.inl ())))
def bN.s4(o_:G7)(a2:Nat):Option (Nat⊕(Unit⊕Int)):=cond (decide ((a2:Int)<(o_.T.length:Int))) (idxn o_.T a2 λa6=>chk ((0:Int)<=((a2:Int)+1)/\((a2:Int)+1)<=(o_.T.length:Int)) ((oB (List.drop (a2+1) o_.T) (λu0=>qT u0 a6)).bind λa7=>cond (a7) (some (.inr (.inr 7))) ((oB (List.drop (a2+1) o_.T) (λu0=>qU u0 a6)).bind λa8=>cond (a8) (some (.inr (.inr 13))) (some (.inl (a2+1)))))) (some (.inr (.inl ())))
def bN(o_:G7):Option Int:=(cond (decide (o_.I<1)) (some true) (some (decide (64<o_.I)))).bind (λa6=>cond (a6) (some 2) (cond (decide (10000<(o_.T.length:Int))) (some 11) ((iter (λ(s:Nat)=>bN.s2 o_ s) fuel 0).bind (Sum.elim (λ_=>(iA o_.T).bind λa2=>cond (a2) (some 0) ((iter (λ(s:Nat)=>bN.s4 o_ s) fuel 0).bind (Sum.elim (λ_=>some 0) some))) some))))
def Z7.s2(inputs_:Int)(a6:A2)(a2:Nat):Option ((A2×Nat)⊕A2):=cond (decide ((a2:Int)<(↑(List.length (List.replicate (Int.toNat inputs_) (0:Int))):Int))) (idxn a6 a2 λa7=>chk (inR ((a2:Int)+1)) (some (.inl ((List.set a6 a2 (-1:Int)),(a2+1))))) (some (.inr a6))
def Z7(inputs_:Int):Option A2:=chk ((0:Int)<=inputs_/\inputs_<=inputs_/\B4 (Int.toNat inputs_) 8) ((iter (λ(s:A2×Nat)=>Z7.s2 inputs_ s.1 s.2) fuel ((List.replicate (Int.toNat inputs_) (0:Int)),0)).bind (λa2=>some a2))
def M0.s18(b2 a2 a6:A2)(a8:Nat):Option ((A2×A2×Nat)⊕(A2×A2)):=cond (decide ((a8:Int)<(b2.length:Int))) (idxn b2 a8 λa7=>(cond (decide (a7≠(-1:Int))) (idx a2 a7 λb3=>some (decide (b3=(-1:Int)))) (some false)).bind (λb4=>cond (b4) (idx a2 a7 λb5=>chk (B4 (List.length a6+1) 8) (some (.inl ((List.set a2 a7.toNat (a6.length:Int)),(a6++[a7]),(a8+1))))) (some (.inl (a2,a6,(a8+1)))))) (some (.inr (a2,a6)))
def M0.k19(a2:Nat)(a6 a7:A2):Option ((A2×A2×Nat)⊕(A2×A2)):=some (.inl (a6,a7,(a2+1)))
def M0.s20(p_:A9)(a7 a2:A2)(a6:Nat):Option ((A2×A2×Nat)⊕(A2×A2)):=cond (decide ((a6:Int)<(a2.length:Int))) (idxn a2 a6 λa8=>idx p_.N a8 λb2=>(iter (λ(s:A2×A2×Nat)=>M0.s18 b2 s.1 s.2.1 s.2.2) fuel (a7,a2,0)).bind (λs=>M0.k19 a6 s.1 s.2)) (some (.inr (a7,a2)))
def M0.s38(p_:A9)(b7:A2)(b3:Int)(a8 a6 a7:A2)(a2:Nat):Option ((A2×A2×Nat)⊕(A2×A2)):=cond (decide ((a2:Int)<(a8.length:Int))) (idxn a8 a2 λb2=>cond (decide (b2≠(-1:Int))) (idx b7 b2 λb4=>idx p_.O b3 λb5=>idxn b5 a2 λb6=>idxn a6 a2 λb8=>idxn a7 a2 λb9=>some (.inl ((List.set a6 a2 b4),(List.set a7 a2 b6),(a2+1)))) (some (.inl (a6,a7,(a2+1))))) (some (.inr (a6,a7)))
def M0.k39(a2 a6:A4)(a7:Nat)(a8 b2:A2):Option ((A4×A4×Nat)⊕(A4×A4)):=chk (B4 (List.length a2+1) 24) (chk (B4 (List.length a6+1) 24) (some (.inl ((a2++[a8]),(a6++[b2]),(a7+1)))))
def M0.s40(p_:A9)(b6 b2:A2)(a6 a7:A4)(a2:Nat):Option ((A4×A4×Nat)⊕(A4×A4)):=cond (decide ((a2:Int)<(b2.length:Int))) (idxn b2 a2 λa8=>(Z7 p_.I).bind λb3=>(Z7 p_.I).bind λb4=>idx p_.N a8 λb5=>(iter (λ(s:A2×A2×Nat)=>M0.s38 p_ b6 a8 b5 s.1 s.2.1 s.2.2) fuel (b3,b4,0)).bind (λs=>M0.k39 a6 a7 a2 s.1 s.2)) (some (.inr (a6,a7)))
def M0.k41(p_:A9)(a7:A2)(a2 a6:A4):Option (A9×A2):=some ((⟨p_.I,0,a2,a6⟩:A9),a7)
def M0.k42(p_:A9)(a2 a6:A2):Option (A9×A2):=(iter (λ(s:A4×A4×Nat)=>M0.s40 p_ a2 a6 s.1 s.2.1 s.2.2) fuel ([],[],0)).bind (λs=>M0.k41 p_ a2 s.1 s.2)
def M0(p_:A9):Option (A9×A2):=(Z7 (p_.N.length:Int)).bind λa2=>idx a2 p_.S λa6=>(iter (λ(s:A2×A2×Nat)=>M0.s20 p_ s.1 s.2.1 s.2.2) fuel ((List.set a2 p_.S.toNat 0),[p_.S],0)).bind (λs=>M0.k42 p_ s.1 s.2)
def P3.k53(a6:Int)(a7:Nat)(a8:Int)(a2 b2:A4):Option ((A4×A4×Int×Nat)⊕((A4×A4)⊕((A4×A4×Nat)⊕((A4×A4)⊕(A9×Int))))):=idx a2 a6 λb3=>idx b3 a8 λb4=>some (.inl (a2,b2,b4,(a7+1)))
def P3.s54(o_:G7)(b3:C7)(a2 a8:A4)(a6:Int)(b2:Nat):Option ((A4×A4×Int×Nat)⊕((A4×A4)⊕((A4×A4×Nat)⊕((A4×A4)⊕(A9×Int))))):=cond (decide ((b2:Int)<(b3.In.length:Int))) (idxn b3.In b2 λa7=>(idx a2 a6 λb9=>idx b9 a7 λc0=>cond (decide (c0=(-1:Int))) (cond (decide ((a2.length:Int)=4096)) (some (.inr (.inr (.inr (.inr (.inr ((⟨0,0,[],[]⟩:A9),11))))))) (idx a2 a6 λb4=>idx a8 a6 λb5=>idxn b3.O b2 λb6=>idx b4 a7 λc6=>idx b5 a7 λc7=>(Z7 o_.I).bind λb7=>chk (B4 (List.length (List.set a2 (Int.toNat a6) (List.set b4 (Int.toNat a7) (a2.length:Int)))+List.length [b7]) 24) ((Z7 o_.I).bind λb8=>chk (B4 (List.length (List.set a8 (Int.toNat a6) (List.set b5 (Int.toNat a7) b6))+List.length [b8]) 24) (some (.inl (((List.set a2 (Int.toNat a6) (List.set b4 (Int.toNat a7) (a2.length:Int)))++[b7]),((List.set a8 (Int.toNat a6) (List.set b5 (Int.toNat a7) b6))++[b8]))))))) (some (.inl (a2,a8))):Option ((A4×A4)⊕((A4×A4×Int×Nat)⊕((A4×A4)⊕((A4×A4×Nat)⊕((A4×A4)⊕(A9×Int))))))).bind (Sum.elim (λs=>P3.k53 a6 b2 a7 s.1 s.2) some)) (some (.inr (.inl (a2,a8))))
def P3.k55(a2:Nat)(a6 a7:A4):Option ((A4×A4×Nat)⊕((A4×A4)⊕(A9×Int))):=some (.inl (a6,a7,(a2+1)))
def P3.s56(o_:G7)(a6 a7:A4)(a2:Nat):Option ((A4×A4×Nat)⊕((A4×A4)⊕(A9×Int))):=cond (decide ((a2:Int)<(o_.T.length:Int))) (idxn o_.T a2 λa8=>(iter (λ(s:A4×A4×Int×Nat)=>P3.s54 o_ a8 s.1 s.2.1 s.2.2.1 s.2.2.2) fuel (a6,a7,0,0)).bind (Sum.elim (λs=>P3.k55 a2 s.1 s.2) some)) (some (.inr (.inl (a6,a7))))
def P3.k57(o_:G7)(a6 a7:A4):Option (A9×Int):=(M0 (⟨o_.I,0,a6,a7⟩:A9)).bind λa2=>some (a2.1,0)
def P3(o_:G7):Option (A9×Int):=(bN o_).bind λa2=>cond (decide (a2≠0)) (some ((⟨0,0,[],[]⟩:A9),a2)) ((Z7 o_.I).bind λa6=>(Z7 o_.I).bind λa7=>(iter (λ(s:A4×A4×Nat)=>P3.s56 o_ s.1 s.2.1 s.2.2) fuel ([a6],[a7],0)).bind (Sum.elim (λs=>P3.k57 o_ s.1 s.2) some))
def dF.s1(b_:bP)(a2:Int):Option (Int⊕(Int×(List (Int×Int)))):=cond ((!((mget a2 b_.up).isSome))) (some (.inr (a2,b_.up))) (some (.inl ((mget a2 b_.up).getD 0)))
def dF(b_:bP)(x_:Int):Option (Int×(List (Int×Int))):=iter (λ(s:Int)=>dF.s1 b_ s) fuel x_
def qZ(b_:bP)(x_ y_:Int):Option (List (Int×Int)):=some (mset y_ x_ b_.up)
def I4.s2(p_:A9)(a6 a7:A4)(a2:Nat):Option ((A4×A4×Nat)⊕(A4×A4)):=cond (decide ((a2:Int)<(p_.N.length:Int))) (idxn p_.N a2 λa8=>chk (B4 (List.length ([]:List Unit)+List.length a8) 8) (chk (B4 (List.length a6+List.length [([]++a8)]) 24) (idxn p_.O a2 λb2=>chk (B4 (List.length ([]:List Unit)+List.length b2) 8) (chk (B4 (List.length a7+List.length [([]++b2)]) 24) (some (.inl ((a6++[([]++a8)]),(a7++[([]++b2)]),(a2+1)))))))) (some (.inr (a6,a7)))
def I4.s43(a6 a7:Int×(List (Int×Int)))(b7:A2)(a8 b2:A4)(b3:List T_A2)(a2:Nat):Option ((A4×A4×List T_A2×Nat)⊕((A4×A4×List T_A2)⊕((A4×A4×(List (Int×Int))×List T_A2)⊕((A4×A4×(List (Int×Int))×List T_A2)⊕((A4×A4×(List (Int×Int)))⊕(A9×A2×Bool)))))):=cond (decide ((a2:Int)<(b7.length:Int))) (idxn a8 (Int.toNat (max a6.1 a7.1)) λb8=>idxn b8 a2 λb4=>cond (decide (b4=(-1:Int))) (chk (inR ((a2:Int)+1)) (some (.inl (a8,b2,b3,(a2+1))))) (idx a8 (min a6.1 a7.1) λb9=>idxn b9 a2 λc0=>cond (decide (c0=(-1:Int))) (idx a8 (min a6.1 a7.1) λb5=>idx b2 (min a6.1 a7.1) λb6=>idx b2 (max a6.1 a7.1) λc6=>idxn c6 a2 λc7=>idxn b5 a2 λd4=>idxn b6 a2 λd5=>chk (inR ((a2:Int)+1)) (some (.inl ((List.set a8 (Int.toNat (min a6.1 a7.1)) (List.set b5 a2 b4)),(List.set b2 (Int.toNat (min a6.1 a7.1)) (List.set b6 a2 c7)),b3,(a2+1))))) (idx b2 (min a6.1 a7.1) λc8=>idxn c8 a2 λc9=>idx b2 (max a6.1 a7.1) λd0=>idxn d0 a2 λd1=>cond (decide (c9≠d1)) (some (.inr (.inr (.inr (.inr (.inr ((⟨0,0,[],[]⟩:A9),[],false))))))) (idx a8 (min a6.1 a7.1) λd2=>idxn d2 a2 λd3=>chk (B4 (List.length b3+1) 16) (chk (inR ((a2:Int)+1)) (some (.inl (a8,b2,(b3++[(⟨d3,b4⟩:T_A2)]),(a2+1))))))))) (some (.inr (.inl (a8,b2,b3))))
def I4.k44(a2:List (Int×Int))(a6 a7:A4)(a8:List T_A2):Option ((A4×A4×(List (Int×Int))×List T_A2)⊕((A4×A4×(List (Int×Int))×List T_A2)⊕((A4×A4×(List (Int×Int)))⊕(A9×A2×Bool)))):=some (.inl (a6,a7,a2,a8))
def I4.k45(a2 a6:A4)(a7:List (Int×Int))(a8:List T_A2):Option ((A4×A4×(List (Int×Int))×List T_A2)⊕((A4×A4×(List (Int×Int)))⊕(A9×A2×Bool))):=some (.inl (a2,a6,a7,a8))
def I4.s46(a8 b2:A4)(b3:List (Int×Int))(a6:List T_A2):Option ((A4×A4×(List (Int×Int))×List T_A2)⊕((A4×A4×(List (Int×Int)))⊕(A9×A2×Bool))):=cond (decide (0<(a6.length:Int))) ((idxn a6 0 λb4=>(dF (⟨b3⟩:bP) b4.f0).bind λa7=>idxn a6 0 λb5=>(dF (⟨a7.2⟩:bP) b5.f1).bind λa2=>chk (1<=List.length a6) (cond (decide (a7.1=a2.1)) (some (.inl (a8,b2,a2.2,(List.drop 1 a6)))) ((qZ (⟨a2.2⟩:bP) (min a7.1 a2.1) (max a7.1 a2.1)).bind λb6=>idx a8 (max a7.1 a2.1) λb7=>(iter (λ(s:A4×A4×List T_A2×Nat)=>I4.s43 a7 a2 b7 s.1 s.2.1 s.2.2.1 s.2.2.2) fuel (a8,b2,(List.drop 1 a6),0)).bind (Sum.elim (λs=>I4.k44 b6 s.1 s.2.1 s.2.2) some))):Option ((A4×A4×(List (Int×Int))×List T_A2)⊕((A4×A4×(List (Int×Int))×List T_A2)⊕((A4×A4×(List (Int×Int)))⊕(A9×A2×Bool))))).bind (Sum.elim (λs=>I4.k45 s.1 s.2.1 s.2.2.1 s.2.2.2) some)) (some (.inr (.inl (a8,b2,b3))))
def I4.s64(a7:Nat)(b5:A2)(a6:A4)(a8:List (Int×Int))(a2:Nat):Option ((A4×(List (Int×Int))×Nat)⊕(A4×(List (Int×Int)))):=cond (decide ((a2:Int)<(b5.length:Int))) (idxn a6 a7 λb6=>idxn b6 a2 λb2=>cond (decide (b2≠(-1:Int))) (idxn a6 a7 λb3=>(dF (⟨a8⟩:bP) b2).bind λb4=>idxn b3 a2 λb7=>chk (inR ((a2:Int)+1)) (some (.inl ((List.set a6 a7 (List.set b3 a2 b4.1)),b4.2,(a2+1))))) (chk (inR ((a2:Int)+1)) (some (.inl (a6,a8,(a2+1)))))) (some (.inr (a6,a8)))
def I4.k65(a2:Nat)(a6:A4)(a7:List (Int×Int)):Option ((A4×(List (Int×Int))×Nat)⊕(A4×(List (Int×Int)))):=some (.inl (a6,a7,(a2+1)))
def I4.s66(a8 a6:A4)(a7:List (Int×Int))(a2:Nat):Option ((A4×(List (Int×Int))×Nat)⊕(A4×(List (Int×Int)))):=cond (decide ((a2:Int)<(a8.length:Int))) (idxn a6 a2 λb2=>(iter (λ(s:A4×(List (Int×Int))×Nat)=>I4.s64 a2 b2 s.1 s.2.1 s.2.2) fuel (a6,a7,0)).bind (λs=>I4.k65 a2 s.1 s.2)) (some (.inr (a6,a7)))
def I4.s68(a7:A9×A2)(b2:List (Int×Int))(a6:A2)(a2:Nat):Option (((List (Int×Int))×A2×Nat)⊕A2):=cond (decide ((a2:Int)<(↑(List.length (List.replicate a7.2.length (0:Int))):Int))) ((dF (⟨b2⟩:bP) (a2:Int)).bind λa8=>idx a7.2 a8.1 λb3=>idxn a6 a2 λb4=>chk (inR ((a2:Int)+1)) (some (.inl (a8.2,(List.set a6 a2 b3),(a2+1))))) (some (.inr a6))
def I4.k69(p_:A9)(a7 a8:A4)(b2:List (Int×Int)):Option (A9×A2×Bool):=(dF (⟨b2⟩:bP) p_.S).bind λa6=>(M0 (⟨p_.I,a6.1,a8,a7⟩:A9)).bind λa2=>chk ((0:Int)<=(a2.2.length:Int)/\(a2.2.length:Int)<=(a2.2.length:Int)/\B4 (Int.toNat (a2.2.length:Int)) 8) ((iter (λ(s:(List (Int×Int))×A2×Nat)=>I4.s68 a2 s.1 s.2.1 s.2.2) fuel (a6.2,(List.replicate a2.2.length (0:Int)),0)).bind (λb3=>some (a2.1,b3,true)))
def I4.k70(p_:A9)(a2 a6:A4)(a7:List (Int×Int)):Option (A9×A2×Bool):=(iter (λ(s:A4×(List (Int×Int))×Nat)=>I4.s66 a2 s.1 s.2.1 s.2.2) fuel (a2,a7,0)).bind (λs=>I4.k69 p_ a6 s.1 s.2)
def I4.k71(p_:A9)(s_ t_:Int)(a2 a6:A4):Option (A9×A2×Bool):=(iter (λ(s:A4×A4×(List (Int×Int))×List T_A2)=>I4.s46 s.1 s.2.1 s.2.2.1 s.2.2.2) fuel (a2,a6,([]:List (Int×Int)),[(⟨s_,t_⟩:T_A2)])).bind (Sum.elim (λs=>I4.k70 p_ s.1 s.2.1 s.2.2) some)
def I4(p_:A9)(s_ t_:Int):Option (A9×A2×Bool):=(iter (λ(s:A4×A4×Nat)=>I4.s2 p_ s.1 s.2.1 s.2.2) fuel ([],[],0)).bind (λs=>I4.k71 p_ s_ t_ s.1 s.2)
def nJ(p_:A9)(s_ t_:Int):Option (A9×Bool×Int):=(bM p_).bind λa2=>cond (decide (a2≠0)) (some ((⟨0,0,[],[]⟩:A9),false,a2)) ((cond (decide ((min s_ t_)<0)) (some true) (some (decide ((p_.N.length:Int)<=(max s_ t_))))).bind (λa7=>cond (a7) (some ((⟨0,0,[],[]⟩:A9),false,2)) ((I4 p_ s_ t_).bind λa6=>some (a6.1,a6.2.2,0))))
def U7.k3(a2 a6:Int)(a7 a8:A4)(b2:List Bool):Option ((Int×Int×A4×A4×List Bool)⊕(A9×Int)):=some (.inl (a2,a6,a7,a8,b2))
def U7.s4(a7 a8:Int)(b2 b3:A4)(b4:List Bool):Option ((Int×Int×A4×A4×List Bool)⊕(A9×Int)):=((V3 (⟨a7,a8,b2,b3⟩:A9) b4).bind λb5=>cond (decide ((b5.length:Int)=0)) (some (.inr (.inr ((⟨a7,a8,b2,b3⟩:A9),0)))) ((bB (⟨a7,a8,b2,b3⟩:A9) b4 b5).bind λa2=>cond (decide (a2.2≠(-1:Int))) (idx b4 a2.2 λb7=>some (.inl (a7,a8,b2,b3,(List.set b4 a2.2.toNat true)))) ((nJ (⟨a7,a8,b2,b3⟩:A9) a2.1.red a2.1.blue).bind λa6=>(R2 (⟨a7,a8,b2,b3⟩:A9) a6.1 b4).bind λb6=>some (.inl (a6.1.I,a6.1.S,a6.1.N,a6.1.O,b6)))):Option ((Int×Int×A4×A4×List Bool)⊕((Int×Int×A4×A4×List Bool)⊕(A9×Int)))).bind (Sum.elim (λs=>U7.k3 s.1 s.2.1 s.2.2.1 s.2.2.2.1 s.2.2.2.2) some)
def U7(o_:G7):Option (A9×Int):=(P3 o_).bind λa2=>cond (decide (a2.2≠0)) (some ((⟨0,0,[],[]⟩:A9),a2.2)) (chk ((0:Int)<=(a2.1.N.length:Int)/\(a2.1.N.length:Int)<=(a2.1.N.length:Int)/\B4 (Int.toNat (a2.1.N.length:Int)) 1) (idx (List.replicate a2.1.N.length false) a2.1.S λa6=>iter (λ(s:Int×Int×A4×A4×List Bool)=>U7.s4 s.1 s.2.1 s.2.2.1 s.2.2.2.1 s.2.2.2.2) fuel (a2.1.I,a2.1.S,a2.1.N,a2.1.O,(List.set (List.replicate a2.1.N.length false) a2.1.S.toNat true))))
def cK.s2(slices_:List (A4))(size73 a2:Nat):Option ((Nat×Nat)⊕Nat):=cond (decide ((a2:Int)<(slices_.length:Int))) (idxn slices_ a2 λa6=>chk (inR ((size73:Int)+(a6.length:Int))) (cond (decide (((size73:Int)+(a6.length:Int))<0)) (none) (some (.inl ((size73+a6.length),(a2+1)))))) (some (.inr size73))
def cK.s4(slices_:List (A4))(a2:A4)(a6:Nat):Option ((A4×Nat)⊕A4):=cond (decide ((a6:Int)<(slices_.length:Int))) (idxn slices_ a6 λa7=>chk (B4 (List.length a2+List.length a7) 24) (some (.inl ((a2++a7),(a6+1))))) (some (.inr a2))
def cK(slices_:List (A4)):Option A4:=(iter (λ(s:Nat×Nat)=>cK.s2 slices_ s.1 s.2) fuel (0,0)).bind (λsize68=>(xI (size68:Int)).bind λa6=>(iter (λ(s:A4×Nat)=>cK.s4 slices_ s.1 s.2) fuel (a6,0)).bind (λa2=>some a2))
def qW(a_ b_:A2)(p2_:(A2)->(A2)->Option Int):Option Bool:=(p2_ a_ b_).bind λa2=>some (decide (a2=0))
def Y5.s18(eq_:(A2)->(A2)->Option Bool)(a8:Nat)(a2:A4)(a7 a6:Nat):Option ((A4×Nat×Nat)⊕(A4×Nat)):=cond (decide ((a6:Int)<(↑(List.length a2-a8):Int))) (idxn a2 (a8+a6) λb2=>chk ((0:Int)<=((a6:Int)-1)) (idxn a2 (a8+(Int.toNat ((a6:Int)-1))) λb3=>(eq_ b2 b3).bind λb4=>cond ((!b4)) (idxn a2 (a8+a6) λb5=>idxn a2 a7 λb6=>chk (inR ((a7:Int)+1)) (some (.inl ((List.set a2 a7 b5),(a7+1),(a6+1))))) (some (.inl (a2,a7,(a6+1)))))) (some (.inr (a2,a7)))
def Y5.k19(a6:A4)(a2:Nat):Option (Nat⊕(Unit⊕A4)):=chk ((0:Int)<=(a2:Int)/\(a2:Int)<=(a6.length:Int)/\0<List.length a6) (chk (a2<=List.length a6) (chk ((0:Int)<=(a2:Int)/\(a2:Int)<=(↑(List.length (List.take a2 a6++List.replicate (List.length a6-a2) [])):Int)/\0<List.length (List.take a2 a6++List.replicate (List.length a6-a2) [])) (some (.inr (.inr (List.take a2 (List.take a2 a6++List.replicate (List.length a6-a2) [])))))))
def Y5.s20(s_:A4)(eq_:(A2)->(A2)->Option Bool)(a2:Nat):Option (Nat⊕(Unit⊕A4)):=cond (decide ((a2:Int)<(s_.length:Int))) (idxn s_ a2 λa6=>idx s_ ((a2:Int)-1) λa7=>(eq_ a6 a7).bind λa8=>cond (a8) (chk ((0:Int)<=(a2:Int)/\(a2:Int)<=(s_.length:Int)/\0<List.length s_) ((iter (λ(s:A4×Nat×Nat)=>Y5.s18 eq_ a2 s.1 s.2.1 s.2.2) fuel (s_,a2,1)).bind (λs=>Y5.k19 s.1 s.2))) (some (.inl (a2+1)))) (some (.inr (.inl ())))
def Y5(s_:A4)(eq_:(A2)->(A2)->Option Bool):Option A4:=cond (decide ((s_.length:Int)<2)) (some s_) ((iter (λ(s:Nat)=>Y5.s20 s_ eq_ s) fuel 1).bind (Sum.elim (λ_=>some s_) some))
def iC.s2(a7 a6:A4)(a2:Nat):Option ((A4×Nat)⊕A4):=cond (decide ((a2:Int)<(a7.length:Int))) (idxn a6 a2 λa8=>(nW a8).bind λb2=>idxn a6 a2 λb3=>chk (inR ((a2:Int)+1)) (some (.inl ((List.set a6 a2 b2),(a2+1))))) (some (.inr a6))
def iC(l_:A4)(order_:(A2)->(A2)->Option Int):Option A4:=(tR l_).bind λa6=>(xZ a6 order_).bind λa7=>(Y5 a7 (λu0 u1=>qW u0 u1 order_)).bind λa2=>(iter (λ(s:A4×Nat)=>iC.s2 a2 s.1 s.2) fuel (a2,0)).bind (λa8=>some a8)
def kB(l_:A4):Option A4:=(iC l_ (λu0 u1=>iW u0 u1)).bind λa2=>some a2
def qI(lists_:List (A4)):Option A4:=(cK lists_).bind λa2=>(kB a2).bind λa6=>some a6
def U8.s18(p_:A9)(out_:Int)(b3:Nat)(b4 a6 a7:A2)(a2:Nat):Option ((A2×A2×Nat)⊕(A2×A2)):=cond (decide ((a2:Int)<(b4.length:Int))) (idxn b4 a2 λa8=>idxn p_.O b3 λb5=>idxn b5 a2 λb2=>idxn a6 a2 λb6=>idxn a7 a2 λb7=>cond (decide (a8=(-1:Int))) (idxn (List.set a6 a2 a8) a2 λb8=>idxn (List.set a7 a2 b2) a2 λb9=>some (.inl ((List.set (List.set a6 a2 a8) a2 (b3:Int)),(List.set (List.set a7 a2 b2) a2 out_),(a2+1)))) (some (.inl ((List.set a6 a2 a8),(List.set a7 a2 b2),(a2+1))))) (some (.inr (a6,a7)))
def U8.k19(a2 a6:A4)(a7:Nat)(a8 b2:A2):Option ((A4×A4×Nat)⊕(A4×A4)):=chk (B4 (List.length a2+1) 24) (chk (B4 (List.length a6+1) 24) (some (.inl ((a2++[a8]),(a6++[b2]),(a7+1)))))
def U8.s20(p_:A9)(out_:Int)(a6 a7:A4)(a2:Nat):Option ((A4×A4×Nat)⊕(A4×A4)):=cond (decide ((a2:Int)<(p_.N.length:Int))) (chk ((0:Int)<=p_.I/\p_.I<=p_.I/\B4 (Int.toNat p_.I) 8) (chk ((0:Int)<=p_.I/\p_.I<=p_.I/\B4 (Int.toNat p_.I) 8) (idxn p_.N a2 λa8=>(iter (λ(s:A2×A2×Nat)=>U8.s18 p_ out_ a2 a8 s.1 s.2.1 s.2.2) fuel ((List.replicate (Int.toNat p_.I) (0:Int)),(List.replicate (Int.toNat p_.I) (0:Int)),0)).bind (λs=>U8.k19 a6 a7 a2 s.1 s.2)))) (some (.inr (a6,a7)))
def U8.k21(p_:A9)(a2 a6:A4):Option (A8×Int):=some ((⟨p_.I,p_.S,a2,a6⟩:A8),0)
def U8(p_:A9)(out_:Int):Option (A8×Int):=(bM p_).bind λa2=>cond (decide (a2≠0)) (some ((⟨0,0,[],[]⟩:A8),a2)) ((cond (decide (out_<0)) (some true) (some (decide (1048576<out_)))).bind (λa6=>cond (a6) (some ((⟨0,0,[],[]⟩:A8),2)) (cond (decide (128<(p_.N.length:Int))) (some ((⟨0,0,[],[]⟩:A8),11)) ((iter (λ(s:A4×A4×Nat)=>U8.s20 p_ out_ s.1 s.2.1 s.2.2) fuel ([],[],0)).bind (λs=>U8.k21 p_ s.1 s.2)))))
def T4.s13(m_:A8)(a6 a2:Nat):Option (Nat⊕(Unit⊕(Nat⊕(Unit⊕Int)))):=cond (decide ((a2:Int)<m_.I)) (idxn m_.N a6 λb2=>idxn b2 a2 λa7=>idxn m_.O a6 λb3=>idxn b3 a2 λa8=>(cond (decide (a7<0)) (some true) (cond (decide ((m_.N.length:Int)<=a7)) (some true) (cond (decide (a8<0)) (some true) (some (decide (1048576<a8)))))).bind (λb4=>cond (b4) (some (.inr (.inr (.inr (.inr 2))))) (chk (inR ((a2:Int)+1)) (some (.inl (a2+1)))))) (some (.inr (.inl ())))
def T4.s14(m_:A8)(a2:Nat):Option (Nat⊕(Unit⊕Int)):=cond (decide ((a2:Int)<(m_.N.length:Int))) ((idxn m_.N a2 λa6=>cond (decide ((a6.length:Int)≠m_.I)) (some true) (idxn m_.O a2 λa7=>some (decide ((a7.length:Int)≠m_.I)))).bind (λa8=>cond (a8) (some (.inr (.inr 1))) ((iter (λ(s:Nat)=>T4.s13 m_ a2 s) fuel 0).bind (Sum.elim (λ_=>some (.inl (a2+1))) some)))) (some (.inr (.inl ())))
def T4(m_:A8):Option Int:=(cond (decide (m_.I<1)) (some true) (some (decide (64<m_.I)))).bind (λa2=>cond (a2) (some 2) (cond (decide ((m_.N.length:Int)=0)) (some 19) (cond (decide (128<(m_.N.length:Int))) (some 11) ((cond (decide (m_.S<0)) (some true) (some (decide ((m_.N.length:Int)<=m_.S)))).bind (λa6=>cond (a6) (some 2) (cond (decide ((m_.O.length:Int)≠(m_.N.length:Int))) (some 1) ((iter (λ(s:Nat)=>T4.s14 m_ s) fuel 0).bind (Sum.elim (λ_=>some 0) some))))))))
def W7.s18(b2:A2)(a2:List Bool)(a6:A2)(a7:Nat):Option ((List Bool×A2×Nat)⊕(List Bool×A2)):=cond (decide ((a7:Int)<(b2.length:Int))) (idxn b2 a7 λa8=>idx a2 a8 λb3=>cond ((!b3)) (idx a2 a8 λb4=>chk (B4 (List.length a6+1) 8) (some (.inl ((List.set a2 a8.toNat true),(a6++[a8]),(a7+1))))) (some (.inl (a2,a6,(a7+1))))) (some (.inr (a2,a6)))
def W7.k19(a2:Nat)(a6:List Bool)(a7:A2):Option ((List Bool×A2×Nat)⊕A2):=some (.inl (a6,a7,(a2+1)))
def W7.s20(m_:A8)(a7:List Bool)(a2:A2)(a6:Nat):Option ((List Bool×A2×Nat)⊕A2):=cond (decide ((a6:Int)<(a2.length:Int))) (idxn a2 a6 λa8=>idx m_.N a8 λb2=>(iter (λ(s:List Bool×A2×Nat)=>W7.s18 b2 s.1 s.2.1 s.2.2) fuel (a7,a2,0)).bind (λs=>W7.k19 a6 s.1 s.2)) (some (.inr a2))
def W7(m_:A8):Option A2:=(T4 m_).bind λa6=>cond (decide (a6≠0)) (some []) (chk ((0:Int)<=(m_.N.length:Int)/\(m_.N.length:Int)<=(m_.N.length:Int)/\B4 (Int.toNat (m_.N.length:Int)) 1) (idx (List.replicate m_.N.length false) m_.S λa7=>(iter (λ(s:List Bool×A2×Nat)=>W7.s20 m_ s.1 s.2.1 s.2.2) fuel ((List.set (List.replicate m_.N.length false) m_.S.toNat true),[m_.S],0)).bind (λa2=>some a2)))
def S5.s2(a7 a6:A2)(a2:Nat):Option ((A2×Nat)⊕A2):=cond (decide ((a2:Int)<(a7.length:Int))) (idxn a7 a2 λa8=>idx a6 a8 λb2=>some (.inl ((List.set a6 a8.toNat (a2:Int)),(a2+1)))) (some (.inr a6))
def S5.s15(b3 a7 a6:A2)(a2:Nat):Option ((A2×Nat)⊕A2):=cond (decide ((a2:Int)<(a7.length:Int))) (idxn a7 a2 λa8=>idx b3 a8 λb2=>idxn a6 a2 λb4=>some (.inl ((List.set a6 a2 b2),(a2+1)))) (some (.inr a6))
def S5.s16(m_:A8)(b6 b7:A2)(a2 a6:A4)(a7:Nat):Option ((A4×A4×Nat)⊕(A4×A4)):=cond (decide ((a7:Int)<(b6.length:Int))) (idxn b6 a7 λa8=>chk ((0:Int)<=m_.I/\m_.I<=m_.I/\B4 (Int.toNat m_.I) 8) (idx m_.N a8 λb2=>(iter (λ(s:A2×Nat)=>S5.s15 b7 b2 s.1 s.2) fuel ((List.replicate (Int.toNat m_.I) (0:Int)),0)).bind (λb3=>chk (B4 (List.length a2+1) 24) (idx m_.O a8 λb4=>(nW b4).bind λb5=>chk (B4 (List.length a6+1) 24) (some (.inl ((a2++[b3]),(a6++[b5]),(a7+1)))))))) (some (.inr (a2,a6)))
def S5.k17(m_:A8)(a2 a6:A4):Option (A8×Int):=some ((⟨m_.I,0,a2,a6⟩:A8),0)
def S5(m_:A8):Option (A8×Int):=(T4 m_).bind λa2=>cond (decide (a2≠0)) (some ((⟨0,0,[],[]⟩:A8),a2)) ((W7 m_).bind λa6=>chk ((0:Int)<=(m_.N.length:Int)/\(m_.N.length:Int)<=(m_.N.length:Int)/\B4 (Int.toNat (m_.N.length:Int)) 8) ((iter (λ(s:A2×Nat)=>S5.s2 a6 s.1 s.2) fuel ((List.replicate m_.N.length (0:Int)),0)).bind (λa7=>(iter (λ(s:A4×A4×Nat)=>S5.s16 m_ a6 a7 s.1 s.2.1 s.2.2) fuel ([],[],0)).bind (λs=>S5.k17 m_ s.1 s.2))))
def T3.s18(m_:A8)(class_:A2)(a7:Nat)(a6:A2)(a2:Nat):Option ((A2×Nat)⊕A2):=cond (decide ((a2:Int)<m_.I)) (idxn m_.O a7 λb2=>idxn b2 a2 λa8=>chk ((a2:Int)<128) (idxn a6 a2 λb6=>chk (inR (64+(a2:Int))) (idxn m_.N a7 λb3=>idxn b3 a2 λb4=>idx class_ b4 λb5=>chk ((64+(a2:Int))<128) (idxn (List.set a6 a2 a8) (64+a2) λb7=>chk (inR ((a2:Int)+1)) (some (.inl ((List.set (List.set a6 a2 a8) (64+a2) b5),(a2+1)))))))) (some (.inr a6))
def T3.k19(a6:A2)(a2:Nat)(a7:List (A2×Int))(a8:Int):Option (((List (A2×Int))×A2×Nat)⊕((List (A2×Int))×A2)):=idxn a6 a2 λb2=>some (.inl (a7,(List.set a6 a2 a8),(a2+1)))
def T3.s20(m_:A8)(class_:A2)(a2:List (A2×Int))(a8:A2)(a7:Nat):Option (((List (A2×Int))×A2×Nat)⊕((List (A2×Int))×A2)):=cond (decide ((a7:Int)<(class_.length:Int))) ((iter (λ(s:A2×Nat)=>T3.s18 m_ class_ a7 s.1 s.2) fuel ((List.replicate 128 0),0)).bind (λa6=>chk (List.length a6=128) (chk (List.length a6=128/\∀p∈a2,List.length p.1=128) ((cond ((!((mget a6 a2).isSome))) (chk (List.length a6=128) (chk (List.length a6=128/\∀p∈a2,List.length p.1=128) (some ((mset a6 (a2.length:Int) a2),(a2.length:Int))))) (some (a2,((mget a6 a2).getD 0))):Option ((List (A2×Int))×Int)).bind (λs=>T3.k19 a8 a7 s.1 s.2))))) (some (.inr (a2,a8)))
def T3.k21(a2:List (A2×Int))(a6:A2):Option (A2×Int):=some (a6,(a2.length:Int))
def T3(m_:A8)(class_:A2):Option (A2×Int):=chk ((0:Int)<=(class_.length:Int)/\(class_.length:Int)<=(class_.length:Int)/\B4 (Int.toNat (class_.length:Int)) 8) ((iter (λ(s:(List (A2×Int))×A2×Nat)=>T3.s20 m_ class_ s.1 s.2.1 s.2.2) fuel (([]:List (A2×Int)),(List.replicate class_.length (0:Int)),0)).bind (λs=>T3.k21 s.1 s.2))
def fV.s2(m_:A8)(k_:Int)(class71:A2)(a7:Int)(a2:Nat):Option ((A2×Int×Nat)⊕(A2⊕(A2×Int))):=cond (decide ((a2:Int)<(min (max k_ 0) (m_.N.length:Int)))) ((T3 m_ class71).bind λa6=>cond (decide (a6.2=a7)) (some (.inr (.inr (class71,(a2:Int))))) (some (.inl (a6.1,a6.2,(a2+1))))) (some (.inr (.inl class71)))
def fV(m_:A8)(k_:Int):Option (A2×Int):=chk ((0:Int)<=(m_.N.length:Int)/\(m_.N.length:Int)<=(m_.N.length:Int)/\B4 (Int.toNat (m_.N.length:Int)) 8) ((iter (λ(s:A2×Int×Nat)=>fV.s2 m_ k_ s.1 s.2.1 s.2.2) fuel ((List.replicate m_.N.length (0:Int)),1,0)).bind (Sum.elim (λclass67=>some (class67,(min (max k_ 0) (m_.N.length:Int)))) some))
def tS(m_:A8)(k_:Int):Option (A2×Int):=(T4 m_).bind λa2=>cond (decide (a2≠0)) (some ([],a2)) ((fV m_ k_).bind λa6=>some (a6.1,0))
def qQ(m_:A8):Option (A2×Int):=(tS m_ 128).bind λa2=>some (a2.1,a2.2)
def S3.s30(b3:A2×Int)(a7 a2:A2)(a6:Nat):Option ((A2×Nat)⊕A2):=cond (decide ((a6:Int)<(a7.length:Int))) (idxn a7 a6 λa8=>idx b3.1 a8 λb2=>chk (B4 (List.length a2+1) 8) (some (.inl ((a2++[b2]),(a6+1))))) (some (.inr a2))
def S3.k31(a2:Nat)(a6 a7:A4):Option ((A4×A4×Nat)⊕(A4×A4)):=some (.inl (a6,a7,(a2+1)))
def S3.s32(b6:A8×Int)(b2:A2×Int)(a2 a7:A4)(a6:Nat):Option ((A4×A4×Nat)⊕(A4×A4)):=cond (decide ((a6:Int)<(b2.1.length:Int))) ((idxn b2.1 a6 λb3=>cond (decide (b3<(a2.length:Int))) (some (a2,a7)) (idxn b6.1.N a6 λb4=>(iter (λ(s:A2×Nat)=>S3.s30 b2 b4 s.1 s.2) fuel ([],0)).bind (λb5=>chk (B4 (List.length a2+1) 24) (idxn b6.1.O a6 λa8=>chk (B4 (List.length ([]:List Unit)+List.length a8) 8) (chk (B4 (List.length a7+1) 24) (some ((a2++[b5]),(a7++[([]++a8)]))))))):Option (A4×A4)).bind (λs=>S3.k31 a6 s.1 s.2)) (some (.inr (a2,a7)))
def S3.k33(a7:A8×Int)(a2 a6:A4):Option (A8×Int):=some ((⟨a7.1.I,0,a2,a6⟩:A8),0)
def S3(m_:A8):Option (A8×Int):=(S5 m_).bind λa2=>cond (decide (a2.2≠0)) (some ((⟨0,0,[],[]⟩:A8),a2.2)) ((qQ a2.1).bind λa6=>cond (decide (a6.2≠0)) (some ((⟨0,0,[],[]⟩:A8),a6.2)) ((iter (λ(s:A4×A4×Nat)=>S3.s32 a2 a6 s.1 s.2.1 s.2.2) fuel ([],[],0)).bind (λs=>S3.k33 a2 s.1 s.2)))
def eY.s2(m_:A8)(w_:A2)(b5:Int)(a6:A2)(a7:Nat):Option ((Int×A2×Nat)⊕A2):=cond (decide ((a7:Int)<(w_.length:Int))) (idxn w_ a7 λa2=>idx m_.O b5 λa8=>idx a8 a2 λb2=>chk (B4 (List.length a6+1) 8) (idx m_.N b5 λb3=>idx b3 a2 λb4=>some (.inl (b4,(a6++[b2]),(a7+1))))) (some (.inr a6))
def eY(m_:A8)(s_:Int)(w_:A2):Option A2:=chk ((0:Int)<=0/\0<=(w_.length:Int)/\B4 (Int.toNat (w_.length:Int)) 8) ((iter (λ(s:Int×A2×Nat)=>eY.s2 m_ w_ s.1 s.2.1 s.2.2) fuel (s_,[],0)).bind (λa2=>some a2))
def iF.s2(s1_ s2_:A2)(a2:Nat):Option (Nat⊕(Unit⊕Bool)):=cond (decide ((a2:Int)<(s1_.length:Int))) (idxn s1_ a2 λa6=>idxn s2_ a2 λa7=>cond (decide (a6≠a7)) (some (.inr (.inr false))) (some (.inl (a2+1)))) (some (.inr (.inl ())))
def iF(s1_ s2_:A2):Option Bool:=cond (decide ((s1_.length:Int)≠(s2_.length:Int))) (some false) ((iter (λ(s:Nat)=>iF.s2 s1_ s2_ s) fuel 0).bind (Sum.elim (λ_=>some true) some))
def qY(w_:A2)(p1_:A8)(p2_ p3_:Int):Option Bool:=(eY p1_ p2_ w_).bind λa2=>(eY p1_ p3_ w_).bind λa6=>(iF a2 a6).bind λa7=>some (!a7)
def jB.s2(l_:A4)(has_:(A2)->Option Bool)(a2:Nat):Option (Nat⊕(Unit⊕Bool)):=cond (decide ((a2:Int)<(l_.length:Int))) (idxn l_ a2 λa6=>(has_ a6).bind λa7=>cond (a7) (some (.inr (.inr true))) (some (.inl (a2+1)))) (some (.inr (.inl ())))
def jB(l_:A4)(has_:(A2)->Option Bool):Option Bool:=(iter (λ(s:Nat)=>jB.s2 l_ has_ s) fuel 0).bind (Sum.elim (λ_=>some false) some)
def qV(m_:A8)(words_:A4)(s_ t_:Int):Option Bool:=(jB words_ (λu0=>qY u0 m_ s_ t_)).bind λa2=>some a2
def qR(m_:A8):Option Bool:=((T4 m_).bind λa6=>cond (decide (a6≠0)) (some true) ((W7 m_).bind λa7=>some (decide ((a7.length:Int)≠(m_.N.length:Int))))).bind (λa8=>cond (a8) (some false) ((S3 m_).bind λa2=>(cond (decide (a2.2=0)) (some (decide ((a2.1.N.length:Int)=(m_.N.length:Int)))) (some false)).bind (λb2=>some b2)))
def qP(m_:A8):Option Int:=(T4 m_).bind λa2=>cond (decide (a2≠0)) (some a2) ((qR m_).bind λa6=>cond ((!a6)) (some 1) (some 0))
def cJ.s2(slices_:A4)(size73 a2:Nat):Option ((Nat×Nat)⊕Nat):=cond (decide ((a2:Int)<(slices_.length:Int))) (idxn slices_ a2 λa6=>chk (inR ((size73:Int)+(a6.length:Int))) (cond (decide (((size73:Int)+(a6.length:Int))<0)) (none) (some (.inl ((size73+a6.length),(a2+1)))))) (some (.inr size73))
def cJ.s4(slices_:A4)(a2:A2)(a6:Nat):Option ((A2×Nat)⊕A2):=cond (decide ((a6:Int)<(slices_.length:Int))) (idxn slices_ a6 λa7=>chk (B4 (List.length a2+List.length a7) 8) (some (.inl ((a2++a7),(a6+1))))) (some (.inr a2))
def cJ(slices_:A4):Option A2:=(iter (λ(s:Nat×Nat)=>cJ.s2 slices_ s.1 s.2) fuel (0,0)).bind (λsize68=>(wY (size68:Int)).bind λa6=>(iter (λ(s:A2×Nat)=>cJ.s4 slices_ s.1 s.2) fuel (a6,0)).bind (λa2=>some a2))
def jW(parts_:A4):Option A2:=(cJ parts_).bind λa2=>some a2
def S4.s2(a_ b_:A8)(a6:List (List Bool))(a2:Nat):Option ((List (List Bool)×Nat)⊕List (List Bool)):=cond (decide ((a2:Int)<(↑(List.length (List.replicate a_.N.length ([]:List Bool))):Int))) (chk ((0:Int)<=(b_.N.length:Int)/\(b_.N.length:Int)<=(b_.N.length:Int)/\B4 (Int.toNat (b_.N.length:Int)) 1) (idxn a6 a2 λa7=>chk (inR ((a2:Int)+1)) (some (.inl ((List.set a6 a2 (List.replicate b_.N.length false)),(a2+1)))))) (some (.inr a6))
def S4.s20(a_ b_:A8)(b5:Nat)(a6:W5)(a8:List (List Bool))(a7:List W5)(a2:Nat):Option ((List (List Bool)×List W5×Nat)⊕((List (List Bool)×List W5)⊕((List (List Bool)×List W5×Nat)⊕(Unit⊕(A2×Bool))))):=cond (decide ((a2:Int)<a_.I)) (idx a_.O a6.at_.s λb6=>idxn b6 a2 λb7=>idx b_.O a6.at_.t λb8=>idxn b8 a2 λb9=>cond (decide (b7≠b9)) (idxn a7 b5 λc0=>(jW [c0.word,[(a2:Int)]]).bind λc6=>some (.inr (.inr (.inr (.inr (c6,true)))))) (idx a_.N a6.at_.s λc7=>idxn c7 a2 λb2=>idx b_.N a6.at_.t λc8=>idxn c8 a2 λb3=>(cond ((!(decide (b2=a6.at_.s)&&(decide (b3=a6.at_.t)&&true)))) (idx a8 b2 λc9=>idx c9 b3 λd0=>some (!d0)) (some false)).bind (λd1=>cond (d1) (idx a8 b2 λb4=>idx b4 b3 λd4=>idxn a7 b5 λd2=>(jW [d2.word,[(a2:Int)]]).bind λd3=>chk (B4 (List.length a7+1) 40) (chk (inR ((a2:Int)+1)) (some (.inl ((List.set a8 (Int.toNat b2) (List.set b4 (Int.toNat b3) true)),(a7++[(⟨(⟨b2,b3⟩:eW),d3⟩:W5)]),(a2+1)))))) (chk (inR ((a2:Int)+1)) (some (.inl (a8,a7,(a2+1)))))))) (some (.inr (.inl (a8,a7))))
def S4.k21(a7:Nat)(a2:List (List Bool))(a6:List W5):Option ((List (List Bool)×List W5×Nat)⊕(Unit⊕(A2×Bool))):=some (.inl (a2,a6,(a7+1)))
def S4.s22(a_ b_:A8)(a8:List (List Bool))(a6:List W5)(a2:Nat):Option ((List (List Bool)×List W5×Nat)⊕(Unit⊕(A2×Bool))):=cond (decide ((a2:Int)<(a6.length:Int))) (idxn a6 a2 λa7=>(iter (λ(s:List (List Bool)×List W5×Nat)=>S4.s20 a_ b_ a2 a7 s.1 s.2.1 s.2.2) fuel (a8,a6,0)).bind (Sum.elim (λs=>S4.k21 a2 s.1 s.2) some)) (some (.inr (.inl ())))
def S4(a_ b_:A8)(first_:eW):Option (A2×Bool):=chk ((0:Int)<=(a_.N.length:Int)/\(a_.N.length:Int)<=(a_.N.length:Int)/\B4 (Int.toNat (a_.N.length:Int)) 24) ((iter (λ(s:List (List Bool)×Nat)=>S4.s2 a_ b_ s.1 s.2) fuel ((List.replicate a_.N.length ([]:List Bool)),0)).bind (λa2=>idx a2 first_.s λa6=>idx a6 first_.t λa7=>(iter (λ(s:List (List Bool)×List W5×Nat)=>S4.s22 a_ b_ s.1 s.2.1 s.2.2) fuel ((List.set a2 (Int.toNat first_.s) (List.set a6 (Int.toNat first_.t) true)),[(⟨first_,[]⟩:W5)],0)).bind (Sum.elim (λ_=>some ([],false)) some)))
def qH(m_:A8)(s_ t_:Int):Option (A2×Bool×Int):=(T4 m_).bind λa2=>cond (decide (a2≠0)) (some ([],false,a2)) ((cond (decide (s_<0)) (some true) (cond (decide ((m_.N.length:Int)<=s_)) (some true) (cond (decide (t_<0)) (some true) (some (decide ((m_.N.length:Int)<=t_)))))).bind (λa7=>cond (a7) (some ([],false,2)) ((S4 m_ m_ (⟨s_,t_⟩:eW)).bind λa6=>some (a6.1,a6.2,0))))
def bO.s13(m_:A8)(a8:Nat)(a2:A4)(a6:Nat):Option ((A4×Nat)⊕(A4⊕((A4×Nat)⊕(A4⊕(A4×Int))))):=cond (decide ((a6:Int)<(m_.N.length:Int))) (((qV m_ a2 (a8:Int) (a6:Int)).bind λb2=>cond (b2) (some (.inl a2)) ((qH m_ (a8:Int) (a6:Int)).bind λa7=>cond (decide (a7.2.2≠0)) (some (.inr (.inr (.inr (.inr (.inr ([],a7.2.2))))))) (chk (B4 (List.length a2+1) 24) (some (.inl (a2++[a7.1]))))):Option (A4⊕((A4×Nat)⊕(A4⊕((A4×Nat)⊕(A4⊕(A4×Int))))))).bind (Sum.elim (λb3=>some (.inl (b3,(a6+1)))) some)) (some (.inr (.inl a2)))
def bO.s14(m_:A8)(a6:A4)(a2:Nat):Option ((A4×Nat)⊕(A4⊕(A4×Int))):=cond (decide ((a2:Int)<(m_.N.length:Int))) ((iter (λ(s:A4×Nat)=>bO.s13 m_ a2 s.1 s.2) fuel (a6,(a2+1))).bind (Sum.elim (λa7=>some (.inl (a7,(a2+1)))) some)) (some (.inr (.inl a6)))
def bO(m_:A8):Option (A4×Int):=(qP m_).bind λa7=>cond (decide (a7≠0)) (some ([],a7)) ((iter (λ(s:A4×Nat)=>bO.s14 m_ s.1 s.2) fuel ([],0)).bind (Sum.elim (λa2=>(kB a2).bind λa6=>some (a6,0)) some))
def W6.s18(b5:A2)(a2:List (Option A2))(b2:A4)(a8:A2)(a7:Nat):Option ((List (Option A2)×A4×A2×Nat)⊕(List (Option A2)×A4×A2)):=cond (decide ((a7:Int)<(b5.length:Int))) (idxn b5 a7 λa6=>(cond (decide (a6≠(-1:Int))) (idx a2 a6 λb6=>some (Option.isNone b6)) (some false)).bind (λb7=>cond (b7) (idxn a8 0 λb8=>idx a2 b8 λb9=>Option.bind b9 λb3=>chk (B4 (List.length ([]:List Unit)+List.length b3) 8) (chk (B4 (List.length ([]++b3)+1) 8) (idx a2 a6 λc6=>idx (List.set a2 a6.toNat (some (([]++b3)++[(a7:Int)]))) a6 λc0=>Option.bind c0 λb4=>chk (B4 (List.length ([]:List Unit)+List.length b4) 8) (chk (B4 (List.length b2+1) 24) (chk (B4 (List.length a8+1) 8) (some (.inl ((List.set a2 a6.toNat (some (([]++b3)++[(a7:Int)]))),(b2++[([]++b4)]),(a8++[a6]),(a7+1))))))))) (some (.inl (a2,b2,a8,(a7+1)))))) (some (.inr (a2,b2,a8)))
def W6.k19(a6:List (Option A2))(a7:A4)(a2:A2):Option ((List (Option A2)×A4×A2)⊕A4):=chk (1<=List.length a2) (some (.inl (a6,a7,(List.drop 1 a2))))
def W6.s20(p_:A9)(a7:List (Option A2))(a6:A4)(a2:A2):Option ((List (Option A2)×A4×A2)⊕A4):=cond (decide (0<(a2.length:Int))) (idxn a2 0 λa8=>idx p_.N a8 λb2=>(iter (λ(s:List (Option A2)×A4×A2×Nat)=>W6.s18 b2 s.1 s.2.1 s.2.2.1 s.2.2.2) fuel (a7,a6,a2,0)).bind (λs=>W6.k19 s.1 s.2.1 s.2.2)) (some (.inr a6))
def W6(p_:A9):Option A4:=chk ((0:Int)<=(p_.N.length:Int)/\(p_.N.length:Int)<=(p_.N.length:Int)/\B4 (Int.toNat (p_.N.length:Int)) 24) (idx (List.replicate p_.N.length (none:Option A2)) p_.S λa7=>(iter (λ(s:List (Option A2)×A4×A2)=>W6.s20 p_ s.1 s.2.1 s.2.2) fuel ((List.set (List.replicate p_.N.length (none:Option A2)) p_.S.toNat (some ([]:A2))),[[]],[p_.S])).bind (λa6=>(kB a6).bind λa2=>some a2))
def dE.s2(o_:G7)(a6:A4)(a2:Nat):Option ((A4×Nat)⊕A4):=cond (decide ((a2:Int)<o_.I)) (chk (B4 (List.length a6+1) 24) (chk (inR ((a2:Int)+1)) (some (.inl ((a6++[[(a2:Int)]]),(a2+1)))))) (some (.inr a6))
def dE(o_:G7):Option (bV×Int):=(U7 o_).bind λa2=>cond (decide (a2.2≠0)) (some ((⟨0,[],[]⟩:bV),a2.2)) ((U8 a2.1 0).bind λa6=>cond (decide (a6.2≠0)) (some ((⟨0,[],[]⟩:bV),a6.2)) ((S3 a6.1).bind λa7=>(bO a7.1).bind λa8=>(iter (λ(s:A4×Nat)=>dE.s2 o_ s.1 s.2) fuel ([],0)).bind (λb2=>(W6 a2.1).bind λb3=>(qI [b2,a8.1]).bind λb4=>some ((⟨o_.I,b3,b4⟩:bV),0))))
def R35_Same(a_ b_:A9):Option Bool:=(cond (decide (a_.I=b_.I)) (cond (decide (a_.S=b_.S)) ((aO a_.N b_.N).bind λa2=>cond (a2) ((aO a_.O b_.O).bind λa6=>some a6) (some false)) (some false)) (some false)).bind (λa7=>some a7)
def nX(a_ b_:bV):Option Bool:=(cond (decide (a_.I=b_.I)) ((aO a_.P b_.P).bind λa2=>cond (a2) ((aO a_.X b_.X).bind λa6=>some a6) (some false)) (some false)).bind (λa7=>some a7)
def lA:Option Bool:=(W3 (⟨1,[(⟨[0,0,0,0],[1,2,1,2]⟩:C7)]⟩:G7)).bind λa2=>(qM a2.1 0 2).bind λa6=>(qM a2.1 0 4).bind λa7=>(qM a2.1 0 1).bind λa8=>(U7 (⟨1,[(⟨[0,0,0,0],[1,2,1,2]⟩:C7)]⟩:G7)).bind λb2=>(dE (⟨1,[(⟨[0,0,0,0],[1,2,1,2]⟩:C7)]⟩:G7)).bind λb3=>(dE (⟨2,[]⟩:G7)).bind λb4=>(cond (decide (a6.1=2)) (cond (a6.2.1) (cond (decide (a6.2.2=0)) (cond (decide (a7.1=0)) (cond (a7.2.1) (cond (decide (a7.2.2=0)) (cond ((!a8.2.1)) (cond (decide (a8.2.2=0)) ((R35_Same b2.1 (⟨1,0,[[1],[0]],[[1],[2]]⟩:A9)).bind λb5=>cond (b5) (cond (decide (b2.2=0)) ((nX b3.1 (⟨1,[[],[0]],[[0]]⟩:bV)).bind λb6=>cond (b6) (cond (decide (b3.2=0)) ((nX b4.1 (⟨2,[[]],[[0],[1]]⟩:bV)).bind λb7=>cond (b7) (some (decide (b4.2=0))) (some false)) (some false)) (some false)) (some false)) (some false)) (some false)) (some false)) (some false)) (some false)) (some false)) (some false)) (some false)) (some false)).bind (λb8=>some b8)
def gV.s2(lists_:List (A4))(a2:A4)(a6:Nat):Option ((A4×Nat)⊕A4):=cond (decide ((a6:Int)<(lists_.length:Int))) (idxn lists_ a6 λa7=>chk (B4 (List.length a2+List.length a7) 24) (some (.inl ((a2++a7),(a6+1))))) (some (.inr a2))
def gV(lists_:List (A4)):Option A4:=(iter (λ(s:A4×Nat)=>gV.s2 lists_ s.1 s.2) fuel ([],0)).bind (λa2=>(cG a2).bind λa6=>some a6)
def cH.s2(l_:A4)(a6:Int)(a2:Nat):Option ((Int×Nat)⊕Int):=cond (decide ((a2:Int)<(l_.length:Int))) (idxn l_ a2 λa7=>some (.inl ((max a6 (a7.length:Int)),(a2+1)))) (some (.inr a6))
def cH(l_:A4):Option Int:=(iter (λ(s:Int×Nat)=>cH.s2 l_ s.1 s.2) fuel (0,0)).bind (λa2=>some a2)
def bA.s13(b6 b5:A4)(a8:Nat)(a6:A4)(a2:Nat):Option ((A4×Nat)⊕(A4⊕((A4×Nat)⊕(A4⊕(A4×Int))))):=cond (decide ((a2:Int)<(b5.length:Int))) (idxn b6 a8 λb2=>idxn b5 a2 λb3=>(dB [b2,b3]).bind λb4=>(dW a6 b4).bind λa7=>cond (decide (10000<(a7.length:Int))) (some (.inr (.inr (.inr (.inr ([],11)))))) (some (.inl (a7,(a2+1))))) (some (.inr (.inl a6)))
def bA.s14(a8 b2 a6:A4)(a2:Nat):Option ((A4×Nat)⊕(A4⊕(A4×Int))):=cond (decide ((a2:Int)<(a8.length:Int))) ((iter (λ(s:A4×Nat)=>bA.s13 a8 b2 a2 s.1 s.2) fuel (a6,0)).bind (Sum.elim (λa7=>some (.inl (a7,(a2+1)))) some)) (some (.inr (.inl a6)))
def bA(a_ b_:A4):Option (A4×Int):=(cond (decide (0<(a_.length:Int))) (cond (decide (0<(b_.length:Int))) ((cH a_).bind λa6=>(cH b_).bind λa7=>chk (inR (a6+a7)) (some (decide (1024<(a6+a7))))) (some false)) (some false)).bind (λa8=>cond (a8) (some ([],3)) ((cG a_).bind λb2=>(cG b_).bind λb3=>(iter (λ(s:A4×Nat)=>bA.s14 b2 b3 s.1 s.2) fuel ([],0)).bind (Sum.elim (λa2=>some (a2,0)) some)))
def bL.s13(a6:A4)(a7:Nat)(top412:Bool)(a2:Nat):Option ((Bool×Nat)⊕Bool):=cond (decide ((a2:Int)<(a6.length:Int))) (cond (top412) (idxn a6 a2 λa8=>idxn a6 a7 λb2=>cond (decide ((a8.length:Int)=(b2.length:Int))) (some (.inl (true,(a2+1)))) (idxn a6 a2 λb3=>idxn a6 a7 λb4=>(jZ b3 b4).bind λb5=>some (.inl ((!b5),(a2+1))))) (some (.inl (false,(a2+1))))) (some (.inr top412))
def bL.s14(a7 a6:A4)(a2:Nat):Option ((A4×Nat)⊕A4):=cond (decide ((a2:Int)<(a7.length:Int))) ((iter (λ(s:Bool×Nat)=>bL.s13 a7 a2 s.1 s.2) fuel (true,(a2+1))).bind (λtop404=>cond (top404) (idxn a7 a2 λa8=>chk (B4 (List.length a6+1) 24) (some (.inl ((a6++[a8]),(a2+1))))) (some (.inl (a6,(a2+1)))))) (some (.inr a6))
def bL(l_:A4):Option A4:=(cG l_).bind λa6=>(iter (λ(s:A4×Nat)=>bL.s14 a6 s.1 s.2) fuel ([],0)).bind (λa2=>some a2)
def Q8.s89(m_:A8)(class_:A2)(a6:Nat)(a7:Int)(same5139:Bool)(a2:Nat):Option ((Bool×Nat)⊕Bool):=(cond (decide ((a2:Int)<m_.I)) (some same5139) (some false)).bind (λa8=>cond (a8) (idxn m_.O a6 λb2=>idxn b2 a2 λb3=>idx m_.O a7 λb4=>idxn b4 a2 λb5=>cond (decide (b3=b5)) (idxn m_.N a6 λb6=>idxn b6 a2 λb7=>idx class_ b7 λb8=>idx m_.N a7 λb9=>idxn b9 a2 λc0=>idx class_ c0 λc6=>chk (inR ((a2:Int)+1)) (some (.inl (decide (b8=c6),(a2+1))))) (chk (inR ((a2:Int)+1)) (some (.inl (false,(a2+1)))))) (some (.inr same5139)))
def Q8.s90(m_:A8)(class_ a7:A2)(a6:Nat)(found4903 a2:Int):Option ((Int×Int)⊕Int):=cond (decide (0<=a2)) (idxn class_ a6 λa8=>idx class_ a2 λb2=>(iter (λ(s:Bool×Nat)=>Q8.s89 m_ class_ a6 a2 s.1 s.2) fuel (decide (a8=b2),0)).bind (λsame5119=>cond (same5119) (idx a7 a2 λb3=>chk (inR (a2-1)) (some (.inl (b3,(a2-1))))) (chk (inR (a2-1)) (some (.inl (found4903,(a2-1))))))) (some (.inr found4903))
def Q8.k91(a2:A2)(a6 count5200:Nat)(found5201:Int):Option ((A2×Nat×Nat)⊕A2):=chk (B4 (List.length a2+1) 8) (some (.inl ((a2++[found5201]),count5200,(a6+1))))
def Q8.s92(m_:A8)(class_ a6:A2)(count3444 a2:Nat):Option ((A2×Nat×Nat)⊕A2):=cond (decide ((a2:Int)<(class_.length:Int))) ((iter (λ(s:Int×Int)=>Q8.s90 m_ class_ a6 a2 s.1 s.2) fuel ((-1:Int),((a2:Int)-1))).bind (λfound4761=>(cond (decide (found4761<0)) (chk (inR ((count3444:Int)+1)) (some ((count3444+1),(count3444:Int)))) (some (count3444,found4761)):Option (Nat×Int)).bind (λs=>Q8.k91 a6 a2 s.1 s.2))) (some (.inr a6))
def Q8(m_:A8)(class_:A2):Option A2:=(iter (λ(s:A2×Nat×Nat)=>Q8.s92 m_ class_ s.1 s.2.1 s.2.2) fuel ([],0,0)).bind (λa2=>some a2)
def fT.s2(m_:A8)(k_:Int)(class94:A2)(a2:Nat):Option ((A2×Nat)⊕A2):=(cond (decide ((a2:Int)<k_)) (some (decide ((a2:Int)<(m_.N.length:Int)))) (some false)).bind (λa6=>cond (a6) ((Q8 m_ class94).bind λa7=>chk (inR ((a2:Int)+1)) (some (.inl (a7,(a2+1))))) (some (.inr class94)))
def fT(m_:A8)(k_:Int):Option (A2×Int):=(U3 m_).bind λa2=>cond (decide (a2≠0)) (some ([],a2)) (chk ((0:Int)<=(m_.N.length:Int)/\(m_.N.length:Int)<=(m_.N.length:Int)/\B4 (Int.toNat (m_.N.length:Int)) 8) ((iter (λ(s:A2×Nat)=>fT.s2 m_ k_ s.1 s.2) fuel ((List.replicate m_.N.length (0:Int)),0)).bind (λclass85=>some (class85,0))))
def qF(m_:A8):Option (A2×Int):=(fT m_ (m_.N.length:Int)).bind λa2=>some (a2.1,a2.2)
def N4.s2(a2:A2)(a6:Nat):Option ((A2×Nat)⊕A2):=cond (decide ((a6:Int)<(a2.length:Int))) (idxn a2 a6 λa7=>some (.inl ((List.set a2 a6 (-1:Int)),(a6+1)))) (some (.inr a2))
def N4.k55(m_:A8)(c0:A2×Int)(b3:Nat)(a6 a7:A2)(a2:Nat)(b4:Int)(a8 b2:A2):Option ((A2×A2×A2×A2×Nat)⊕(A2×A2×A2×A2)):=idx c0.1 b4 λb5=>idx b2 b5 λb6=>chk (B4 (List.length a6+1) 8) (idxn a8 b3 λb7=>idx m_.O b7 λb8=>idxn b8 a2 λb9=>chk (B4 (List.length a7+1) 8) (chk (inR ((a2:Int)+1)) (some (.inl (a8,b2,(a6++[b6]),(a7++[b9]),(a2+1))))))
def N4.s56(m_:A8)(c0:A2×Int)(b2:Nat)(a2 a6 b3 b4:A2)(a8:Nat):Option ((A2×A2×A2×A2×Nat)⊕(A2×A2×A2×A2)):=cond (decide ((a8:Int)<m_.I)) (idxn a2 b2 λb6=>idx m_.N b6 λb7=>idxn b7 a8 λa7=>(idx c0.1 a7 λb8=>idx a6 b8 λb9=>cond (decide (b9<0)) (idx c0.1 a7 λb5=>idx a6 b5 λc6=>chk (B4 (List.length a2+1) 8) (some ((a2++[a7]),(List.set a6 b5.toNat (a2.length:Int))))) (some (a2,a6)):Option (A2×A2)).bind (λs=>N4.k55 m_ c0 b2 b3 b4 a8 a7 s.1 s.2)) (some (.inr (a2,a6,b3,b4)))
def N4.k57(a2 a6:A4)(a7:Nat)(a8 b2 b3 b4:A2):Option ((A2×A2×A4×A4×Nat)⊕(A4×A4)):=chk (B4 (List.length a2+1) 24) (chk (B4 (List.length a6+1) 24) (some (.inl (a8,b2,(a2++[b3]),(a6++[b4]),(a7+1)))))
def N4.s58(m_:A8)(b3:A2×Int)(a6 b2:A2)(a7 a8:A4)(a2:Nat):Option ((A2×A2×A4×A4×Nat)⊕(A4×A4)):=cond (decide ((a2:Int)<(a6.length:Int))) ((iter (λ(s:A2×A2×A2×A2×Nat)=>N4.s56 m_ b3 a2 s.1 s.2.1 s.2.2.1 s.2.2.2.1 s.2.2.2.2) fuel (a6,b2,[],[],0)).bind (λs=>N4.k57 a7 a8 a2 s.1 s.2.1 s.2.2.1 s.2.2.2)) (some (.inr (a7,a8)))
def N4.k59(m_:A8)(a2 a6:A4):Option (A8×Int):=some ((⟨m_.I,0,a2,a6⟩:A8),0)
def N4(m_:A8):Option (A8×Int):=(qF m_).bind λa2=>cond (decide (a2.2≠0)) (some ((⟨0,0,[],[]⟩:A8),a2.2)) (chk ((0:Int)<=(m_.N.length:Int)/\(m_.N.length:Int)<=(m_.N.length:Int)/\B4 (Int.toNat (m_.N.length:Int)) 8) ((iter (λ(s:A2×Nat)=>N4.s2 s.1 s.2) fuel ((List.replicate m_.N.length (0:Int)),0)).bind (λa6=>idx a2.1 m_.S λa7=>idx a6 a7 λa8=>(iter (λ(s:A2×A2×A4×A4×Nat)=>N4.s58 m_ a2 s.1 s.2.1 s.2.2.1 s.2.2.2.1 s.2.2.2.2) fuel ([m_.S],(List.set a6 a7.toNat 0),[],[],0)).bind (λs=>N4.k59 m_ s.1 s.2))))
def gM.s2(l_:A2)(n_:Int)(a2:Nat):Option (Nat⊕(Unit⊕Bool)):=cond (decide ((a2:Int)<(l_.length:Int))) (idxn l_ a2 λa6=>cond (decide (a6=n_)) (some (.inr (.inr true))) (some (.inl (a2+1)))) (some (.inr (.inl ())))
def gM(l_:A2)(n_:Int):Option Bool:=(iter (λ(s:Nat)=>gM.s2 l_ n_ s) fuel 0).bind (Sum.elim (λ_=>some false) some)
def lI(w_:A2)(a_:Int):Option A2:=chk (B4 w_.length 8) (chk (B4 (List.length w_+1) 8) (some (w_++[a_])))
def U5.s18(m_:A8)(a8:Nat)(a6:A2)(a7:A4)(a2:Nat):Option ((A2×A4×Nat)⊕(A2×A4)):=cond (decide ((a2:Int)<m_.I)) (idxn a6 a8 λb3=>idx m_.N b3 λb4=>idxn b4 a2 λb2=>(gM a6 b2).bind λb5=>cond ((!b5)) (chk (B4 (List.length a6+1) 8) (idxn a7 a8 λb6=>(lI b6 (a2:Int)).bind λb7=>chk (B4 (List.length a7+1) 24) (chk (inR ((a2:Int)+1)) (some (.inl ((a6++[b2]),(a7++[b7]),(a2+1))))))) (chk (inR ((a2:Int)+1)) (some (.inl (a6,a7,(a2+1)))))) (some (.inr (a6,a7)))
def U5.k19(a2:Nat)(a6:A2)(a7:A4):Option ((A2×A4×Nat)⊕(A2×A4)):=some (.inl (a6,a7,(a2+1)))
def U5.s20(m_:A8)(a2:A2)(a7:A4)(a6:Nat):Option ((A2×A4×Nat)⊕(A2×A4)):=cond (decide ((a6:Int)<(a2.length:Int))) ((iter (λ(s:A2×A4×Nat)=>U5.s18 m_ a6 s.1 s.2.1 s.2.2) fuel (a2,a7,0)).bind (λs=>U5.k19 a6 s.1 s.2)) (some (.inr (a2,a7)))
def U5.k21(a2:A2)(a6:A4):Option (A2×A4×Int):=some (a2,a6,0)
def U5(m_:A8):Option (A2×A4×Int):=(U3 m_).bind λa2=>cond (decide (a2≠0)) (some ([],[],a2)) ((iter (λ(s:A2×A4×Nat)=>U5.s20 m_ s.1 s.2.1 s.2.2) fuel ([m_.S],[[]],0)).bind (λs=>U5.k21 s.1 s.2))
def kA(m_:A8):Option (A4×Int):=(U5 m_).bind λa2=>some (a2.2.1,a2.2.2)
def pA(m_:A8)(s_:Int)(w_:A2):Option (A2×Int×Int):=(U3 m_).bind λa2=>cond (decide (a2≠0)) (some ([],0,a2)) ((cond (decide (s_<0)) (some true) (some (decide ((m_.N.length:Int)<=s_)))).bind (λa8=>cond (a8) (some ([],0,2)) ((dY w_ m_.I).bind λa6=>cond (decide (a6≠0)) (some ([],0,a6)) ((bU m_ s_ w_).bind λa7=>some (a7.1,a7.2,0)))))
def pJ(m_:A8)(s_:Int)(w_:A2):Option A2:=(pA m_ s_ w_).bind λa2=>some a2.1
def gU.s2(a_ b_:A2)(a2:Nat):Option (Nat⊕(Unit⊕Bool)):=cond (decide ((a2:Int)<(a_.length:Int))) (idxn a_ a2 λa6=>idxn b_ a2 λa7=>cond (decide (a6≠a7)) (some (.inr (.inr false))) (some (.inl (a2+1)))) (some (.inr (.inl ())))
def gU(a_ b_:A2):Option Bool:=cond (decide ((a_.length:Int)≠(b_.length:Int))) (some false) ((iter (λ(s:Nat)=>gU.s2 a_ b_ s) fuel 0).bind (Sum.elim (λ_=>some true) some))
def tO(m_:A8)(s_ t_:Int)(w_:A2):Option Bool:=(pJ m_ s_ w_).bind λa2=>(pJ m_ t_ w_).bind λa6=>(gU a2 a6).bind λa7=>some (!a7)
def gR.s2(m_:A8)(s_ t_:Int)(words_:A4)(a2:Nat):Option (Nat⊕(Unit⊕Bool)):=cond (decide ((a2:Int)<(words_.length:Int))) (idxn words_ a2 λa6=>(tO m_ s_ t_ a6).bind λa7=>cond (a7) (some (.inr (.inr true))) (some (.inl (a2+1)))) (some (.inr (.inl ())))
def gR(m_:A8)(s_ t_:Int)(words_:A4):Option Bool:=(iter (λ(s:Nat)=>gR.s2 m_ s_ t_ words_ s) fuel 0).bind (Sum.elim (λ_=>some false) some)
def qA(m_:A8):Option Bool:=(N4 m_).bind λa2=>(cond (decide (a2.2=0)) (some (decide ((a2.1.N.length:Int)=(m_.N.length:Int)))) (some false)).bind (λa6=>some a6)
def pS(m_:A8):Option Int:=(U3 m_).bind λa2=>cond (decide (a2≠0)) (some a2) ((qA m_).bind λa6=>cond ((!a6)) (some 1) (some 0))
def V6.s84(a6:List Y6)(a7 a8:Int)(known2308:Bool)(a2:Nat):Option ((Bool×Nat)⊕Bool):=cond (decide ((a2:Int)<(a6.length:Int))) (cond (known2308) (some (.inl (true,(a2+1)))) (idxn a6 a2 λb2=>cond (decide (b2.S=a7)) (idxn a6 a2 λb3=>some (.inl (decide (b3.T=a8),(a2+1)))) (some (.inl (false,(a2+1)))))) (some (.inr known2308))
def V6.s85(a_ b_:A8)(a7:Nat)(a2:List Y6)(a6:Nat):Option ((List Y6×Nat)⊕(List Y6⊕((List Y6×Nat)⊕(Unit⊕(A2×Bool))))):=cond (decide ((a6:Int)<a_.I)) (idxn a2 a7 λb4=>(lI b4.Word (a6:Int)).bind λa8=>idxn a2 a7 λb5=>idx a_.O b5.S λb6=>idxn b6 a6 λb7=>idxn a2 a7 λb8=>idx b_.O b8.T λb9=>idxn b9 a6 λc0=>cond (decide (b7≠c0)) (some (.inr (.inr (.inr (.inr (a8,true)))))) (idxn a2 a7 λc6=>idx a_.N c6.S λc7=>idxn c7 a6 λb2=>idxn a2 a7 λc8=>idx b_.N c8.T λc9=>idxn c9 a6 λb3=>(iter (λ(s:Bool×Nat)=>V6.s84 a2 b2 b3 s.1 s.2) fuel (false,0)).bind (λknown2303=>cond ((!known2303)) (chk (B4 (List.length a2+1) 40) (chk (inR ((a6:Int)+1)) (some (.inl ((a2++[(⟨b2,b3,a8⟩:Y6)]),(a6+1)))))) (chk (inR ((a6:Int)+1)) (some (.inl (a2,(a6+1)))))))) (some (.inr (.inl a2)))
def V6.s86(a_ b_:A8)(a6:List Y6)(a2:Nat):Option ((List Y6×Nat)⊕(Unit⊕(A2×Bool))):=cond (decide ((a2:Int)<(a6.length:Int))) ((iter (λ(s:List Y6×Nat)=>V6.s85 a_ b_ a2 s.1 s.2) fuel (a6,0)).bind (Sum.elim (λa7=>some (.inl (a7,(a2+1)))) some)) (some (.inr (.inl ())))
def V6(a_ b_:A8)(s_ t_:Int):Option (A2×Bool):=(iter (λ(s:List Y6×Nat)=>V6.s86 a_ b_ s.1 s.2) fuel ([(⟨s_,t_,[]⟩:Y6)],0)).bind (Sum.elim (λ_=>some ([],false)) some)
def pV(m_:A8)(s_ t_:Int):Option (A2×Bool×Int):=(U3 m_).bind λa2=>cond (decide (a2≠0)) (some ([],false,a2)) ((cond (decide (s_<0)) (some true) (cond (decide ((m_.N.length:Int)<=s_)) (some true) (cond (decide (t_<0)) (some true) (some (decide ((m_.N.length:Int)<=t_)))))).bind (λa7=>cond (a7) (some ([],false,2)) ((V6 m_ m_ s_ t_).bind λa6=>some (a6.1,a6.2,0))))
def aL.s13(m_:A8)(a7:Nat)(a2:A4)(a6:Nat):Option ((A4×Nat)⊕A4):=cond (decide ((a6:Int)<(m_.N.length:Int))) ((gR m_ (a7:Int) (a6:Int) a2).bind λa8=>cond ((!a8)) ((pV m_ (a7:Int) (a6:Int)).bind λb2=>chk (B4 (List.length a2+1) 24) (some (.inl ((a2++[b2.1]),(a6+1))))) (some (.inl (a2,(a6+1))))) (some (.inr a2))
def aL.s14(m_:A8)(a6:A4)(a2:Nat):Option ((A4×Nat)⊕A4):=cond (decide ((a2:Int)<(m_.N.length:Int))) ((iter (λ(s:A4×Nat)=>aL.s13 m_ a2 s.1 s.2) fuel (a6,(a2+1))).bind (λa7=>some (.inl (a7,(a2+1))))) (some (.inr a6))
def aL(m_:A8):Option (A4×Int):=(pS m_).bind λa7=>cond (decide (a7≠0)) (some ([],a7)) ((iter (λ(s:A4×Nat)=>aL.s14 m_ s.1 s.2) fuel ([],0)).bind (λa2=>(cG a2).bind λa6=>some (a6,0)))
def aM.s13(b3:A8×Int)(b4:A4×Int)(a7:Nat)(a6:A4)(a2:Nat):Option ((A4×Nat)⊕A4):=cond (decide ((a2:Int)<b3.1.I)) (idxn b4.1 a7 λa8=>(dB [a8,[(a2:Int)]]).bind λb2=>chk (B4 (List.length a6+1) 24) (chk (inR ((a2:Int)+1)) (some (.inl ((a6++[b2]),(a2+1)))))) (some (.inr a6))
def aM.s14(b2:A8×Int)(a8:A4×Int)(a6:A4)(a2:Nat):Option ((A4×Nat)⊕A4):=cond (decide ((a2:Int)<(a8.1.length:Int))) ((iter (λ(s:A4×Nat)=>aM.s13 b2 a8 a2 s.1 s.2) fuel (a6,0)).bind (λa7=>some (.inl (a7,(a2+1))))) (some (.inr a6))
def aM(m_:A8):Option (A4×Int):=(U3 m_).bind λb6=>cond (decide (b6≠0)) ((U3 m_).bind λb7=>some ([],b7)) ((N4 m_).bind λa8=>(kA a8.1).bind λb5=>(iter (λ(s:A4×Nat)=>aM.s14 a8 b5 s.1 s.2) fuel ([],0)).bind (λa6=>(aL a8.1).bind λa7=>(cond (decide ((a7.1.length:Int)=0)) (some [[]]) (some a7.1):Option A4).bind (λb2=>(gV [b5.1,a6]).bind λb3=>(bA b3 b2).bind λa2=>cond (decide (a2.2≠0)) (some ([],a2.2)) (chk (B4 (List.length a2.1+List.length a6) 24) ((bL (a2.1++a6)).bind λb4=>some (b4,0))))))
def fX.s2(a7:A8×Int)(a6:A4)(a2:Nat):Option ((A4×Nat)⊕A4):=cond (decide ((a2:Int)<a7.1.I)) (chk (B4 (List.length a6+1) 24) (chk (inR ((a2:Int)+1)) (some (.inl ((a6++[[(a2:Int)]]),(a2+1)))))) (some (.inr a6))
def fX(m_:A8)(more_:A4):Option Bool:=((bJ m_).bind λb9=>cond (b9) (some true) ((U3 m_).bind λc0=>cond (decide (c0≠0)) (some true) ((dZ more_ 6 6).bind λc6=>some c6))).bind (λc7=>cond (c7) ((lA).bind λc8=>some c8) ((aM m_).bind λa7=>chk (B4 (List.length ([]:List Unit)+List.length a7.1) 24) (chk (B4 (List.length ([]++a7.1)+List.length more_) 24) ((R16_Of m_ (([]++a7.1)++more_)).bind λa8=>cond (decide (a8.2≠0)) ((lA).bind λc9=>some c9) ((U7 a8.1).bind λa6=>(dE a8.1).bind λb8=>(N4 m_).bind λa2=>(kA a2.1).bind λd0=>(aL a2.1).bind λd1=>(iter (λ(s:A4×Nat)=>fX.s2 a2 s.1 s.2) fuel (d1.1,0)).bind (λd2=>(cond (decide (a6.2=0)) (cond (decide (a6.1.I=a2.1.I)) (cond (decide (a6.1.S=a2.1.S)) ((aO a6.1.N a2.1.N).bind λb2=>cond (b2) ((aO a6.1.O a2.1.O).bind λb3=>cond (b3) (cond (decide (b8.2=0)) ((cG d2).bind λb4=>(nX b8.1 (⟨a2.1.I,d0.1,b4⟩:bV)).bind λb5=>cond (b5) ((lA).bind λb6=>some b6) (some false)) (some false)) (some false)) (some false)) (some false)) (some false)) (some false)).bind (λb7=>some b7)))))))
def mR.s2(a7 a8 b2 b3:Int)(a2:A2)(a6:Nat):Option ((A2×Nat)⊕A2):=cond (decide ((a6:Int)<(a2.length:Int))) (idxn a2 a6 λb4=>cond (decide (b4=(max b2 b3))) (idxn a2 a6 λb5=>some (.inl ((List.set a2 a6 (min a7 a8)),(a6+1)))) (some (.inl (a2,(a6+1))))) (some (.inr a2))
def mR(class_:A2)(s_ t_:Int):Option A2:=idx class_ s_ λa2=>idx class_ t_ λa6=>idx class_ s_ λa7=>idx class_ t_ λa8=>(iter (λ(s:A2×Nat)=>mR.s2 a2 a6 a7 a8 s.1 s.2) fuel (class_,0)).bind (λb2=>some b2)
def gS.s2(l_:A2)(n_:Int)(a2:Nat):Option (Nat⊕Nat):=(cond (decide ((a2:Int)<(l_.length:Int))) (idxn l_ a2 λa6=>some (decide (a6≠n_))) (some false)).bind (λa7=>cond (a7) (chk (inR ((a2:Int)+1)) (some (.inl (a2+1)))) (some (.inr a2)))
def gS(l_:A2)(n_:Int):Option Int:=(iter (λ(s:Nat)=>gS.s2 l_ n_ s) fuel 0).bind (λa2=>some (a2:Int))
def kZ.s2(p_:A9)(class_:A2)(c_ a_:Int)(a2:Nat):Option (Nat⊕(Unit⊕Int)):=cond (decide ((a2:Int)<(class_.length:Int))) ((idxn class_ a2 λa6=>cond (decide (a6=c_)) (idxn p_.N a2 λa7=>idx a7 a_ λa8=>some (decide (a8≠(-1:Int)))) (some false)).bind (λb2=>cond (b2) (some (.inr (.inr (a2:Int)))) (some (.inl (a2+1))))) (some (.inr (.inl ())))
def kZ(p_:A9)(class_:A2)(c_ a_:Int):Option Int:=(iter (λ(s:Nat)=>kZ.s2 p_ class_ c_ a_ s) fuel 0).bind (Sum.elim (λ_=>some (-1:Int)) some)
def Y4.k53(a2:Nat)(a6 a7 a8:A2):Option ((A2×A2×A2×Nat)⊕(A2×A2×A2)):=chk (inR ((a2:Int)+1)) (some (.inl (a6,a7,a8,(a2+1))))
def Y4.s54(p_:A9)(class_:A2)(b5:Nat)(a2 a6 a7:A2)(a8:Nat):Option ((A2×A2×A2×Nat)⊕(A2×A2×A2)):=cond (decide ((a8:Int)<p_.I)) ((idxn a2 b5 λb6=>(kZ p_ class_ b6 (a8:Int)).bind λb2=>cond (decide (b2=(-1:Int))) (chk (B4 (List.length a6+1) 8) (chk (B4 (List.length a7+1) 8) (some (a2,(a6++[(-1:Int)]),(a7++[(-1:Int)]))))) (idx p_.N b2 λb7=>idxn b7 a8 λb8=>idx class_ b8 λb3=>((gS a2 b3).bind λb9=>cond (decide (b9=(a2.length:Int))) (chk (B4 (List.length a2+1) 8) (some (a2++[b3]))) (some a2):Option A2).bind (λb4=>(gS b4 b3).bind λc0=>chk (B4 (List.length a6+1) 8) (idx p_.O b2 λc6=>idxn c6 a8 λc7=>chk (B4 (List.length a7+1) 8) (some (b4,(a6++[c0]),(a7++[c7])))))):Option (A2×A2×A2)).bind (λs=>Y4.k53 a8 s.1 s.2.1 s.2.2)) (some (.inr (a2,a6,a7)))
def Y4.k55(a2 a6:A4)(a7:Nat)(a8 b2 b3:A2):Option ((A2×A4×A4×Nat)⊕(A2×A4×A4)):=chk (B4 (List.length a2+1) 24) (chk (B4 (List.length a6+1) 24) (some (.inl (a8,(a2++[b2]),(a6++[b3]),(a7+1)))))
def Y4.s56(p_:A9)(class_ a2:A2)(a7 a8:A4)(a6:Nat):Option ((A2×A4×A4×Nat)⊕(A2×A4×A4)):=cond (decide ((a6:Int)<(a2.length:Int))) ((iter (λ(s:A2×A2×A2×Nat)=>Y4.s54 p_ class_ a6 s.1 s.2.1 s.2.2.1 s.2.2.2) fuel (a2,[],[],0)).bind (λs=>Y4.k55 a7 a8 a6 s.1 s.2.1 s.2.2)) (some (.inr (a2,a7,a8)))
def Y4.k57(p_:A9)(a2:A2)(a6 a7:A4):Option (A9×A2):=some ((⟨p_.I,0,a6,a7⟩:A9),a2)
def Y4(p_:A9)(class_:A2):Option (A9×A2):=idx class_ p_.S λa2=>(iter (λ(s:A2×A4×A4×Nat)=>Y4.s56 p_ class_ s.1 s.2.1 s.2.2.1 s.2.2.2) fuel ([a2],[],[],0)).bind (λs=>Y4.k57 p_ s.1 s.2.1 s.2.2)
def mU.s2(red_:List Bool)(class_ l_:A2)(a6:List Bool)(a2:Nat):Option ((List Bool×Nat)⊕List Bool):=cond (decide ((a2:Int)<(red_.length:Int))) (idxn red_ a2 λa8=>cond (a8) (idxn class_ a2 λb2=>(gS l_ b2).bind λa7=>idx a6 a7 λb3=>some (.inl ((List.set a6 a7.toNat true),(a2+1)))) (some (.inl (a6,(a2+1))))) (some (.inr a6))
def mU(red_:List Bool)(class_ l_:A2):Option (List Bool):=chk ((0:Int)<=(l_.length:Int)/\(l_.length:Int)<=(l_.length:Int)/\B4 (Int.toNat (l_.length:Int)) 1) ((iter (λ(s:List Bool×Nat)=>mU.s2 red_ class_ l_ s.1 s.2) fuel ((List.replicate l_.length false),0)).bind (λa2=>some a2))
section
section
variable {S R A B V G:Type}
def aZ{step:S->Option (S⊕R)}(I:S->Prop)(m:S->Nat)(Q:R->Prop)(h:∀s,I s->(∃s',step s=some (.inl s')/\I s'/\m s'<m s)\/∃r,step s=some (.inr r)/\Q r) :
  ∀(n:Nat) (s:S),I s->m s<n->∃r,iter step n s=some r/\Q r
 |0,_,_,hm=>absurd hm (O4 _)
 |n+1,s,hi,hm=>by
  unfold iter;rcases h s hi with⟨s',e,hi',hm'⟩|⟨r,e,hq⟩
  ·rw[e];exact aZ I m Q h n s' hi' (by omega)
  ·rw[e];exact⟨r,rfl,hq⟩
def U2{step:S->Option (S⊕R)}{r:R}(I:S->Prop)(m:S->Nat)(h:∀s,I s->(∃s',step s=some (.inl s')/\I s'/\m s'<m s)\/step s=some (.inr r)){n:Nat}{s:S}(hi:I s)(hm:m s<n:=by have:=Y0;(try simp only);omega):iter step n s=some r:=by
 obtain⟨r',e,rfl⟩:=aZ I m (λr'=>r'=r) (λs hs=>(h s hs).imp id λe=>⟨r,e,rfl⟩) n s hi hm;exact e
def walk(g:A->Nat->V->Option (A⊕R))(fin:A->Option R):A->Nat->List V->Option R
 |a,_,[]=>fin a
 |a,i,x::l=>(g a i x).bind (Sum.elim (λa'=>walk g fin a' (i+1) l) some)
def B8{l:List V}{i:Nat}{x:V}{k:V->Option G}(h:l[i]?=some x):idxn l i k=k x:=by unfold idxn;rw[h]
def D7{l:List V}{n:Int}{i:Nat}{x:V}{k:V->Option G}(hn:n=(i:Int))(h:l[i]?=some x):idx l n k=k x:=by
 subst hn;unfold idx;rw[if_pos (by omega),H6,h]
def H9{c:Prop}[Decidable c]{k:Option V}(h:c):chk c k=k:=by unfold chk;rw[if_pos h]
def L3{V:Type _}{c:Prop}[Decidable c]{k:Option V}(h:c:=by unfold inR;omega):chk c k=k:=H9 h
def O6{V:Type _}{c:Prop}[Decidable c]{k:Option V}(h:c:=by unfold B4;omega):chk c k=k:=H9 h
def A5{a:V}{f:V->Option G}:(some a).bind f=f a:=(T5 a f).trans (Eq.trans rfl rfl)
def Y0:100000000000000<fuel:=by unfold fuel;omega
def J2{S R:Type}{step:S->Option (S⊕R)}(I:S->Prop)(m:S->Nat)(Q:R->Prop)(h:∀s,I s->(∃s',step s=some (.inl s')/\I s'/\m s'<m s)\/∃r,step s=some (.inr r)/\Q r)(s:S)(hi:I s)(hm:m s<fuel:=by have:=Y0;(try simp only);omega):∃r,iter step fuel s=some r/\Q r:=aZ I m Q h fuel s hi hm
def M6{l:List V}{i:Nat}{x:V}(h:l[i]?=some x):decide ((i:Int)<(l.length:Int))=true:=by
 have:=(E0.1 h).1;simpa using this
def X6(l:List V):decide ((l.length:Int)<(l.length:Int))=false:=by simp
def scan(g:Nat->V->Option R):Nat->List V->Option R
 |_,[]=>none
 |i,x::l=>match g i x with|some r=>some r|none=>scan g (i+1) l
def dD{g:Nat->V->Option R}:∀{l:List V} {j:Nat},scan g j l=none↔∀i x,l[i]?=some x->g (j+i) x=none
 |[],j=>by simp[scan]
 |y::l,j=>by
  constructor
  ·intro h i x hx;unfold scan at h;cases e:g j y with
   |some r=>rw[e]at h;cases h
   |none =>
    rw[e]at h
    match i,hx with
    |0,hx =>
     simp at hx;subst hx;exact e
    |i+1,hx =>
     have:=(dD (g:=g) (l:=l) (j:=j+1)).1 h i x (by simpa using hx)
     rwa [show j+1+i=j+(i+1) by omega]at this
  ·intro h;unfold scan;have h0:=h 0 y rfl;rw[V8]at h0;rw[h0]
   exact(dD (g:=g) (l:=l) (j:=j+1)).2 λi x hx=>by
    have:=h (i+1) x (by simpa using hx)
    rwa [show j+(i+1)=j+1+i by omega]at this
def aJ{step:Nat->Option (Nat⊕(Unit⊕R))}{l:List V}(g:Nat->V->Option R)(h1:∀i x,l[i]?=some x->step i=some (match g i x with|some r=>.inr (.inr r)|none=>.inl (i+1)))(h2:step l.length=some (.inr (.inl ())))(hl:l.length<=100000000000000) :
  iter step fuel 0=some (match scan g 0 l with|some r=>.inr r|none=>.inl ()):=by
 have key:∀(n i:Nat),i<=l.length->l.length-i<n->iter step n i=some (match scan g i (l.drop i) with|some r=>.inr r|none=>.inl ()):=by
  intro n
  induction n with
  |zero=>intro i _ h;omega
  |succ n ih =>
   intro i hi hn;rcases J3 i l.length with h|h
   ·rw[fI h];unfold iter scan;rw[h1 i _ (K8 h)];cases g i l[i]with
    |some r=>rfl
    |none=>exact ih (i+1) h (by omega)
   ·have e:i=l.length:=by omega
    subst e;rw[rG];unfold iter scan;rw[h2]
 exact key fuel 0 (D8 _) (by have:=Y0;omega)
def foldi(f:A->Nat->V->A):A->Nat->List V->A
 |a,_,[]=>a
 |a,i,x::l=>foldi f (f a i x) (i+1) l
def iter_fold{step:A×Nat->Option ((A×Nat)⊕R)}{l:List V}(f:A->Nat->V->A)(fin:A->R)(Inv:A->Nat->Prop)(h1:∀a i x,Inv a i->l[i]?=some x->step (a,i)=some (.inl (f a i x,i+1))/\Inv (f a i x) (i+1))
  (h2:∀a,Inv a l.length->step (a,l.length)=some (.inr (fin a))) (hl:l.length<=100000000000000) {a0:A} (h0:Inv a0 0):iter step fuel (a0,0)=some (fin (foldi f a0 0 l))/\Inv (foldi f a0 0 l) l.length:=by
 have key:∀(n i:Nat) (a:A),Inv a i->i<=l.length->l.length-i<n->iter step n (a,i)=some (fin (foldi f a i (l.drop i)))/\Inv (foldi f a i (l.drop i)) l.length:=by
  intro n
  induction n with
  |zero=>intro i _ _ _ h;omega
  |succ n ih =>
   intro i a hv hi hn;rcases J3 i l.length with h|h
   ·rw[fI h];unfold iter foldi;obtain⟨e,a2⟩:=h1 a i _ hv (K8 h);rw[e];exact ih (i+1) _ a2 h (by omega)
   ·have e:i=l.length:=by omega
    subst e;rw[rG];unfold iter foldi;rw[h2 a hv];exact⟨rfl,hv⟩
 exact key fuel 0 a0 h0 (D8 _) (by have:=Y0;omega)
def foldi_eq{f:A->V->A}:∀(l:List V) (a:A) (i:Nat),foldi (λa _ x=>f a x) a i l=l.foldl f a
 |[],_,_=>rfl
 |x::l,a,i=>by unfold foldi;exact foldi_eq l (f a x) (i+1)
end
end
def DU(x y:Int):cmp_Compare_int x y=some (cmpI x y):=by
 unfold cmp_Compare_int cmp_isNaN_int cmpI;by_cases h1:x<y
 ·simp[h1]
 ·by_cases h2:y<x<;>simp[h1,h2]
def EA(s t:A2)(hs:s.length<=100000000000000):fY s t=some (lexI s t):=by
 have key:=aZ (step:=λk=>fY.s2 s t k) (λk=>k<=s.length/\k<=t.length/\lexI s t=lexI (s.drop k) (t.drop k)) (λk=>s.length-k)
  (λr=>Sum.elim (λ(_:Unit)=>cond (decide ((s.length:Int)<(t.length:Int))) (some (-1:Int)) (some 0)) some r=some (lexI s t)) (λk ⟨h1,h2,h3⟩=>by
   unfold fY.s2
   rcases J3 k s.length with h|h
   ·have hx:=K8 h
    rw[M6 hx,F7,B8 hx]
    by_cases h4:t.length<=k
    ·right
     refine⟨.inr 1,by simp[h4],?_⟩
     rw[h3,lexI_long h h4]
     rfl
    ·have hy:=K8 (show k<t.length by omega)
     have a2:=lexI_step hx hy
     have d4:decide ((t.length:Int)<=(k:Int))=false:=by simp;omega
     rw[d4,G5,B8 hy,DU]
     by_cases h5:cmpI s[k] t[k]=0
     ·left
      rw[if_pos h5]at a2
      exact⟨k+1,by simp[h5],⟨by omega,by omega,by rw[h3,a2]⟩,by omega⟩
     ·right
      rw[if_neg h5]at a2
      exact⟨.inr (cmpI s[k] t[k]),by simp[h5],by rw[h3,a2];rfl⟩
   ·right
    have e:k=s.length:=by omega
    subst e
    rw[X6,G5]
    refine⟨.inl (),rfl,?_⟩
    rw[h3,lexI_end (F9 _)]
    by_cases h4:s.length<t.length<;>simp[h4]) fuel 0 ⟨D8 _,D8 _,rfl⟩ (by have:=Y0;simp only[rI];omega)
 obtain⟨r,e,hq⟩:=key;unfold fY;rw[e];exact hq
def cmp_Or_two(x y:Int):eU [x,y]=some (if x≠0 then x else y):=by
 unfold eU;have e:fuel=(fuel-3)+1+1+1:=by unfold fuel;omega
 rw[e];by_cases h1:x=0
 ·by_cases h2:y=0
  ·simp[iter,eU.s2,idxn,h1,h2]
  ·simp[iter,eU.s2,idxn,h1,h2]
 ·simp[iter,eU.s2,idxn,h1]
def BA(s t:A2)(hs:s.length<=100000000000000):word_Lex s t=some (lexI s t):=by
 unfold word_Lex;rw[EA s t hs];rfl
def xK(s t:A2)(hs:s.length<=100000000000000):iW s t=some (cmpW s t):=by
 unfold iW;rw[EA s t hs,DU];show(eU [cmpI s.length t.length,lexI s t]).bind some=_;rw[cmp_Or_two];show some _=some _;congr 1;unfold cmpI cmpW;by_cases h1:s.length<t.length
 ·simp[h1]
 ·by_cases h2:t.length<s.length
  ·simp[h1,h2]
  ·simp[h1,h2]
def zpw:CmpE Tryz.prog 130 (λx=>nL cI x) (λx y=>iW x y) :=
 ⟨λargs w=>eR rfl rfl rfl args w,cmpG_compare λx y r hx h=>by rw[xK x y (by omega)]at h;injection h with h;exact h.symm⟩
def zn0:CmpE Tryz.prog 142 (λx=>.agg (I6 x)) (λx y=>iB x y) :=
 ⟨λargs w=>eR rfl rfl rfl args w,cmpG_fits1 (T:=C7) (i:=λx=>x.In) (o:=λx=>x.O) (f:=λx y=>iB x y) (λ_=>rfl) λx y r hx h=>by
  simp only[iB]at h
  rw[BA _ _ (by omega)]at h
  injection h with h
  exact h.symm⟩
section
section
variable {V G R:Type}
def get_at{l:List V}{i:Nat}(h:i<l.length):l[i]?=some l[i]:=K8 h
def iter_all2[DecidableEq V]{a b:List V}{step:Nat->Option (Nat⊕(Unit⊕Bool))}(hlen:a.length=b.length)(h1:∀i x y,a[i]?=some x->b[i]?=some y->step i=some (if x=y then .inl (i+1) else .inr (.inr false)))
  (h2:step a.length=some (.inr (.inl ()))) (hl:a.length<=100000000000000):(iter step fuel 0).bind (Sum.elim (λ_=>some true) some)=some (decide (a=b)):=by
 rw[aJ (l:=a) (λi x=>if b[i]?=some x then none else some false) (λi x hx=>?_) h2 hl]
 ·cases e:scan (λi x=>if b[i]?=some x then none else some false) 0 a with
  |none =>
   have:=dD.1 e
   have a2:a=b:=by
    apply aA;intro i;rcases J3 i a.length with h|h
    ·have h3:=this i _ (get_at h);rw[E8]at h3;split at h3
     ·rename_i h4;rw[get_at h,h4]
     ·cases h3
    ·rw[L0 h,L0 (by omega)]
   simp[a2]
  |some r =>
   have a3:a≠b:=λa2=>by
    subst a2;have:scan (λi x=>if a[i]?=some x then none else some false) 0 a=none:=dD.2 λi x hx=>by rw[E8,if_pos hx]
    rw[this]at e;cases e
   have hr:r=false:=by
    have key:∀(l:List V) (j:Nat),scan (λi x=>if b[i]?=some x then none else some false) j l=some r->r=false:=by
     intro l
     induction l with
     |nil=>intro j h;cases h
     |cons x l ih =>
      intro j h;unfold scan at h;split at h
      ·rename_i r' h3;injection h with h
       subst h;split at h3
       ·cases h3
       ·injection h3 with h3
        exact h3.symm
      ·exact ih _ h
    exact key a 0 e
   subst hr;simp[a3]
 ·have hi:=(E0.1 hx).1;have hy:=get_at (l:=b) (i:=i) (by omega);rw[h1 i x _ hx hy];by_cases h:x=b[i]'(by omega)
  ·rw[if_pos h,hy,if_pos (by rw[h])]
  ·rw[if_neg h,hy,if_neg (λh3=>h (by injection h3 with h3;exact h3.symm))]
end
def SmW(x:A2):Prop:=x.length<=2000000
def SmL(l:A4):Prop:=l.length<=2000000/\∀x∈l,SmW x
def R01_Size_eq(n:Int):pH n=some (decide (1<=n/\n<=1024)):=by
 unfold pH;by_cases h1:1<=n<;>by_cases h2:n<=1024<;>simp[h1,h2]
def zps(n:Int):qL n=some (decide (1<=n/\n<=1024)):=by
 unfold qL;by_cases h1:1<=n<;>by_cases h2:n<=1024<;>simp[h1,h2]
def scan_all{V R:Type}{p:V->Bool}{r:R}:∀(l:List V) (j:Nat),scan (λ_ x=>if p x=true then none else some r) j l=if l.all p=true then none else some r
 |[],_=>rfl
 |x::l,j=>by
  unfold scan;by_cases h:p x=true
  ·simp only[h,if_true,yB,yA];exact scan_all l (j+1)
  ·simp[h]
def wT(w:A2)(n:Int)(hl:SmW w):dY w n=some (R8 w n):=by
 unfold dY R8;rw[R01_Size_eq];by_cases h1:1<=n/\n<=1024
 ·rw[if_pos h1];simp only[T5,h1,and_self,decide_true,Z9,G5];by_cases h2:1024<w.length
  ·rw[if_pos h2,show decide ((1024:Int)<(w.length:Int))=true from E9 (by omega),F7]
  ·rw[if_neg h2,show decide ((1024:Int)<(w.length:Int))=false from I3 (by omega),G5]
   have key:=aJ (step:=λs=>dY.s2 w n s) (l:=w) (λ_ x=>if decide (0<=x/\x<n)=true then none else some (1:Int)) (λi x hx=>by
    simp only[dY.s2]
    rw[M6 hx,F7,B8 hx,B8 hx]
    by_cases a1:x<0
    ·simp[a1,show ¬(0<=x) by omega]
    ·by_cases a2:n<=x
     ·simp[a1,a2,show ¬(x<n) by omega]
     ·simp[a1,a2,show 0<=x by omega,show x<n by omega]) (by
    simp only[dY.s2]
    rw[X6]
    rfl) (by unfold SmW at hl;omega)
   rw[key,scan_all (p:=λx=>decide (0<=x/\x<n))];by_cases h:(w.all λx=>decide (0<=x/\x<n))=true
   ·rw[if_pos h,if_pos h];rfl
   ·rw[if_neg h,if_neg h];rfl
 ·rw[if_neg h1];simp[h1]
def CN(w:A2)(n:Int)(hl:SmW w):nK w n=some (R8 w n):=by
 unfold nK R8 tT iE;rw[zps];by_cases h1:1<=n/\n<=1024
 ·rw[if_pos h1];simp only[T5,h1,and_self,decide_true,Z9,G5];by_cases h2:1024<w.length
  ·rw[if_pos h2,show decide ((1024:Int)<(w.length:Int))=true from E9 (by omega),F7]
  ·rw[if_neg h2,show decide ((1024:Int)<(w.length:Int))=false from I3 (by omega),G5]
   have key:=aJ (step:=λs=>iE.s2 w (λu0=>nR u0 n) s) (l:=w) (λi x=>if decide (0<=x/\x<n)=true then none else some (i:Int)) (λi x hx=>by
    simp only[iE.s2,nR]
    rw[M6 hx,F7,B8 hx]
    by_cases a1:x<0
    ·simp[a1,show ¬(0<=x) by omega]
    ·by_cases a2:n<=x
     ·simp[a1,a2,show ¬(x<n) by omega]
     ·simp[a1,a2,show 0<=x by omega,show x<n by omega]) (by
    simp only[iE.s2]
    rw[X6]
    rfl) (by unfold SmW at hl;omega)
   rw[key];cases e:scan (λi x=>if decide (0<=x/\x<n)=true then none else some (i:Int)) 0 w with
   |none =>
    have h3:=dD.1 e
    have h:(w.all λx=>decide (0<=x/\x<n))=true:=R3.2 λx hx=>by
     obtain⟨i,hi,rfl⟩:=cQ.1 hx;have:=h3 i _ (get_at hi);split at this
     ·assumption
     ·cases this
    rw[if_pos h];simp
   |some r =>
    have h:¬(w.all λx=>decide (0<=x/\x<n))=true:=λh=>by
     have:scan (λi x=>if decide (0<=x/\x<n)=true then none else some (i:Int)) 0 w=none:=dD.2 λi x hx=>if_pos (R3.1 h x (G6 hx));rw[this]at e;cases e
    have hr:0<=r:=by
     have key:∀(l:A2) (j:Nat),scan (λi x=>if decide (0<=x/\x<n)=true then none else some (i:Int)) j l=some r->0<=r:=by
      intro l
      induction l with
      |nil=>intro j h;cases h
      |cons x l ih =>
       intro j h;unfold scan at h;split at h
       ·rename_i r' h3;injection h with h
        subst h;split at h3
        ·cases h3
        ·injection h3 with h3
         omega
       ·exact ih _ h
     exact key w 0 e
    rw[if_neg h];simp[hr]
 ·rw[if_neg h1];simp[h1]
def tM(a b:A2)(ha:SmW a):eT a b=some (F8 a b:Int):=by
 unfold eT;rw[U2 (r:=F8 a b) (λk=>k<=a.length/\F8 a b=F8 (a.drop k) (b.drop k)+k) (λk=>a.length-k) (λk ⟨h1,h2⟩=>?_) ⟨D8 _,by simp⟩ (by have:=Y0;unfold SmW at ha;omega)]
 ·rfl
 ·simp only[eT.s2];rcases J3 k a.length with h|h
  ·have hx:=get_at h;rcases J3 k b.length with h'|h'
   ·have hy:=get_at h';rw[M6 hx,M6 hy,F7,F7,B8 hx,B8 hy];rw[fI h,fI h']at h2;by_cases e:a[k]=b[k]
    ·left;unfold SmW at ha;refine⟨k+1,?_,⟨h,?_⟩,by omega⟩
     ·rw[L3];simp[e]
     ·rw[h2,e];simp[F8];omega
    ·right;simp only[F8,e,if_false,E8]at h2;simp[e,h2]
   ·right;rw[M6 hx,F7,show decide ((k:Int)<(b.length:Int))=false by simp;omega];rw[vU (Or.inr h'),E8]at h2;simp[h2]
  ·right;rw[show decide ((k:Int)<(a.length:Int))=false by simp;omega];rw[vU (Or.inl h),E8]at h2;simp[h2]
def wF(a b:A2)(ha:SmW a):jU a b=some (decide (a=b)):=by
 unfold jU;rw[tM a b ha];have h:=same_iff a b;by_cases h1:a.length=b.length
 ·rw[show decide ((a.length:Int)=(b.length:Int))=true from E9 (by omega),F7];by_cases h2:F8 a b=a.length
  ·have:a=b:=h.1 ⟨h1,h2⟩;subst this;simp[tE]
  ·have:a≠b:=λe=>h2 (h.2 e).2;simp only[T5,this,decide_false];rw[I3 (by omega)]
 ·have:a≠b:=λe=>h1 (by rw[e]);rw[show decide ((a.length:Int)=(b.length:Int))=false from I3 (by omega),G5];simp[this]
def R01_Lex_eq(a b:A2)(ha:SmW a):oV a b=some (lexI a b):=by
 unfold oV;rw[tM a b ha];have a3:=mZ a b;have a2:=BK a b;rw[a2];simp only[T5];by_cases h1:F8 a b=a.length
 ·rw[show decide ((↑(F8 a b):Int)=↑a.length)=true from E9 (by omega),F7,F7];by_cases h2:F8 a b=b.length
  ·rw[show decide ((↑(F8 a b):Int)=↑b.length)=true from E9 (by omega),if_pos ⟨h1,h2⟩];rfl
  ·rw[show decide ((↑(F8 a b):Int)=↑b.length)=false from I3 (by omega),if_neg (λh=>h2 h.2),if_pos (Or.inl h1)];rfl
 ·rw[show decide ((↑(F8 a b):Int)=↑a.length)=false from I3 (by omega),G5,G5,if_neg (λh=>h1 h.1)];by_cases h2:F8 a b=b.length
  ·rw[show decide ((↑(F8 a b):Int)<(b.length:Int))=false from I3 (by omega),if_neg (λh=>by omega)];rfl
  ·have hx:=get_at (l:=a) (i:=F8 a b) (by omega);have hy:=get_at (l:=b) (i:=F8 a b) (by omega);rw[show decide ((↑(F8 a b):Int)<(b.length:Int))=true from E9 (by omega),F7,D7 rfl hx,D7 rfl hy];rw[eG,eG,hx,hy];by_cases h3:a[F8 a b]'(by omega)<b[F8 a b]'(by omega)
   ·rw[if_pos (Or.inr ⟨by omega,h3⟩)];simp[h3]
   ·rw[if_neg (λh=>by
     rcases h with h|⟨_,h⟩
     ·omega
     ·exact h3 h)]
    simp[h3]
def CU(a b:A2)(ha:SmW a):lE a b=some (cmpW a b):=by
 unfold lE cmpW;rw[R01_Lex_eq a b ha];by_cases h1:a.length<b.length
 ·rw[show decide ((a.length:Int)<(b.length:Int))=true from E9 (by omega),if_pos h1];rfl
 ·rw[show decide ((a.length:Int)<(b.length:Int))=false from I3 (by omega),if_neg h1,G5];by_cases h2:b.length<a.length
  ·rw[show decide ((b.length:Int)<(a.length:Int))=true from E9 (by omega),if_pos h2];rfl
  ·rw[show decide ((b.length:Int)<(a.length:Int))=false from I3 (by omega),if_neg h2];rfl
end
section
section
variable {O Z:Type}[BEq O]
def tP{k:O}{v:Z}(hb:∀a b:O,(a==b)=true↔a=b):∀m:List (O×Z),mget k (mset k v m)=some v
 |[]=>by
  unfold mset mget;rw[(hb k k).2 rfl]
 |p::m=>by
  unfold mset;cases h:k==p.1 with
  |true =>
   show mget k ((k,v)::m)=_;unfold mget;rw[(hb k k).2 rfl]
  |false =>
   show mget k (p::mset k v m)=_;unfold mget;rw[h];exact tP hb m
def nQ{k k':O}{v:Z}(hb:∀a b:O,(a==b)=true↔a=b)(hne:¬k'=k):∀m:List (O×Z),mget k' (mset k v m)=mget k' m
 |[]=>by
  have e:(k'==k)=false:=by
   cases e:k'==k with
   |true=>exact absurd ((hb _ _).1 e) hne
   |false=>rfl
  unfold mset mget;simp only[e];rfl
 |p::m=>by
  unfold mset;cases h:k==p.1 with
  |true =>
   have e1:k=p.1:=(hb _ _).1 h;show mget k' ((k,v)::m)=mget k' (p::m)
   have e:(k'==k)=false:=by
    cases e:k'==k with
    |true=>exact absurd ((hb _ _).1 e) hne
    |false=>rfl
   unfold mget;rw[<- e1];simp only[e]
  |false =>
   show mget k' (p::mset k v m)=mget k' (p::m);unfold mget;rw[nQ hb hne m]
end
def longest_fold(l:A4):∀n:Nat,l.foldl (λ(n:Int) w=>max n (w.length:Int)) (n:Int)=↑(l.foldl (λn w=>max n w.length) n):=by
 induction l with
 |nil=>intro n;rfl
 |cons x l ih =>
  intro n;rw[gA,gA,show max (n:Int) (x.length:Int)=((max n x.length:Nat):Int) by omega,ih]
def SmT(t:bV):Prop:=inR t.I/\SmL t.P/\SmL t.X/\∀x∈t.P,∀a∈x,inR a
end
def bZ(n:Nat)(t o:Int):Int:=if t < -1\/(n:Int)<=t\/o < -1\/1048576<o then 2 else if(t=-1)≠(o=-1) then 1 else 0
def cellP(n:Nat)(y:A2)(a:Nat)(t:Int):Option Int:=if bZ n t ((y[a]?).getD 0)≠0 then some (bZ n t ((y[a]?).getD 0)) else none
def rowG(p:A9)(s:Nat)(x:A2):Option Int:=if(x.length:Int)≠p.I\/(↑((p.O[s]?).getD []).length:Int)≠p.I then some 1 else scan (cellP p.N.length ((p.O[s]?).getD [])) 0 x
def iM(p:A9):Int:=if p.I<1\/64<p.I then 2 else if p.N.length=0 then 19 else if 4096<p.N.length then 11 else if p.S<0\/(p.N.length:Int)<=p.S then 2 else if p.O.length≠p.N.length then 1 else match scan (rowG p) 0 p.N with|some e=>e|none=>0
def cell_cond(n:Nat)(t o:Int){G:Type}(k2 k1 k0:Option G):((cond (decide (t<(-1:Int))) (some true) (cond (decide ((n:Int)<=t)) (some true) (cond (decide (o<(-1:Int))) (some true) (some (decide (1048576<o))))):Option Bool).bind λ(y:Bool)=>cond y k2 (cond ((!((decide (t=(-1:Int)))==(decide (o=(-1:Int)))))) k1 k0))=if bZ n t o=2 then k2 else if bZ n t o=1 then k1 else k0:=by
 have two:(t < -1\/(n:Int)<=t\/o < -1\/1048576<o)->(if bZ n t o=2 then k2 else if bZ n t o=1 then k1 else k0)=k2:=λh=>by
  have e:bZ n t o=2:=if_pos h;rw[e];rfl
 by_cases h1:t < -1
 ·rw[C2 h1,A5,F7,two (.inl h1)]
 rw[B1 h1];by_cases h2:(n:Int)<=t
 ·rw[C2 h2,A5,F7,two (.inr (.inl h2))]
 rw[B1 h2];by_cases h3:o < -1
 ·rw[C2 h3,A5,F7,two (.inr (.inr (.inl h3)))]
 rw[B1 h3,A5];by_cases h4:1048576<o
 ·rw[C2 h4,two (.inr (.inr (.inr h4)))]
 rw[B1 h4];have e0:bZ n t o=if(t=-1)≠(o=-1) then 1 else 0:=if_neg (by omega)
 rw[e0];by_cases h5:t=-1<;>by_cases h6:o=-1<;>simp[h5,h6]
def cellE_cases(n:Nat)(t o:Int):bZ n t o=0\/bZ n t o=1\/bZ n t o=2:=by
 unfold bZ;split
 ·exact .inr (.inr rfl)
 ·split
  ·exact .inr (.inl rfl)
  ·exact .inl rfl
def scan_wrap{V R S:Type}{g:Nat->V->Option R}(f:R->S):∀(l:List V) (j:Nat),scan (λi x=>(g i x).map f) j l=(scan g j l).map f
 |[],_=>rfl
 |x::l,j=>by
  unfold scan;cases h:g j x with
  |some r=>rfl
  |none=>exact scan_wrap f l (j+1)
def CS{p:A9}(hl:p.N.length<=10000000):bM p=some (iM p):=by
 unfold bM iM
 have a2:(cond (decide (p.S<0)) (some true) (some (decide ((p.N.length:Int)<=p.S))):Option Bool)=some (decide (p.S<0\/(p.N.length:Int)<=p.S)):=by
  by_cases h:p.S<0
  ·rw[C2 h,E9 (.inl h)]
  ·rw[B1 h];simp[h]
 by_cases h0:p.I<1
 ·rw[C2 h0,A5,F7,if_pos (.inl h0)]
 rw[B1 h0,A5];by_cases h1:64<p.I
 ·rw[C2 h1,if_pos (.inr h1)]
 rw[B1 h1,if_neg (by omega)];by_cases h2:p.N.length=0
 ·rw[C2,if_pos h2]
 rw[B1,if_neg h2];by_cases h3:4096<p.N.length
 ·rw[C2,if_pos h3]
 rw[B1,if_neg h3,a2,A5];by_cases h4:p.S<0\/(p.N.length:Int)<=p.S
 ·rw[C2 h4,if_pos h4]
 rw[B1 h4,if_neg h4];by_cases h5:p.O.length≠p.N.length
 ·rw[C2,if_pos h5]
 rw[B1,if_neg h5,aJ (l:=p.N) (rowG p) (λs x hx=>by
  have hs:=(E0.1 hx).1
  have hy:=get_at (l:=p.O) (i:=s) (by omega)
  simp only[bM.s14,rowG]
  rw[M6 hx,F7,B8 hx,hy,E7]
  by_cases k1:(x.length:Int)≠p.I
  ·rw[C2 k1,A5,F7,if_pos (.inl k1)]
  rw[B1 k1,B8 hy,A5]
  by_cases k2:(↑p.O[s].length:Int)≠p.I
  ·rw[C2 k2,if_pos (.inr k2)]
  rw[B1 k2,if_neg (λh=>h.elim k1 k2),B8 hx,aJ (l:=x) (λa t=>(cellP p.N.length p.O[s] a t).map λe=>(Sum.inr (Sum.inr e):Nat⊕(Unit⊕Int))) (λa t ht=>by
   have ha:=(E0.1 ht).1
   have hz:=get_at (l:=p.O[s]) (i:=a) (by omega)
   simp only[bM.s13,cellP]
   rw[M6 ht,F7,B8 ht,B8 hy,B8 hz,hz,E7,cell_cond]
   rcases cellE_cases p.N.length t p.O[s][a]with e|e|e<;>rw[e]<;>rfl) (by simp only[bM.s13];rw[X6,G5]) (by omega),A5,scan_wrap]
  cases scan (cellP p.N.length p.O[s]) 0 x<;>rfl) (by simp only[bM.s14];rw[X6,G5]) (by omega),A5]
 cases scan (rowG p) 0 p.N<;>rfl
structure H7(p:A9):Prop where
 i1:1<=p.I
 i2:p.I<=64
 n1:0<p.N.length
 n2:p.N.length<=4096
 st:0<=p.S/\p.S<(p.N.length:Int)
 ol:p.O.length=p.N.length
 row:∀s,s<p.N.length->∃x y,p.N[s]?=some x/\p.O[s]?=some y/\(x.length:Int)=p.I/\(y.length:Int)=p.I/\∀(a:Nat) (t o:Int),x[a]?=some t->y[a]?=some o->-1<=t/\t<(p.N.length:Int)/\-1<=o/\o<=1048576/\(t=-1↔o=-1)
def validP_ok{p:A9}(h:iM p=0):H7 p:=by
 unfold iM at h;split at h
 ·cases h
 rename_i c1;split at h
 ·cases h
 rename_i c2;split at h
 ·cases h
 rename_i c3;split at h
 ·cases h
 rename_i c4;split at h
 ·cases h
 rename_i c5;have a2:p.O.length=p.N.length:=oL.1 c5
 have hs:scan (rowG p) 0 p.N=none:=by
  cases e:scan (rowG p) 0 p.N with
  |none=>rfl
  |some r =>
   rw[e]at h;have h:r=0:=h
   obtain⟨i,x,hx,hr⟩:∃i x,p.N[i]?=some x/\rowG p (0+i) x=some r:=by
    have:∀(l:A4) (j:Nat),scan (rowG p) j l=some r->∃i x,l[i]?=some x/\rowG p (j+i) x=some r:=by
     intro l
     induction l with
     |nil=>intro j h;cases h
     |cons x l ih =>
      intro j h;unfold scan at h;cases e2:rowG p j x with
      |some q =>
       rw[e2]at h;injection h with h
       subst h;exact⟨0,x,rfl,e2⟩
      |none =>
       rw[e2]at h;obtain⟨i,y,q1,q2⟩:=ih (j+1) h;exact⟨i+1,y,q1,by rw[show j+(i+1)=j+1+i by omega];exact q2⟩
    exact this _ 0 e
   rw[h]at hr;unfold rowG at hr;split at hr
   ·cases hr
   ·have:∀(y l:A2) (j:Nat),scan (cellP p.N.length y) j l≠some 0:=by
     intro y l
     induction l with
     |nil=>intro j h;cases h
     |cons x l ih =>
      intro j h;unfold scan at h;cases e:cellP p.N.length y j x with
      |some q =>
       rw[e]at h;injection h with h
       unfold cellP at e;split at e
       ·rename_i g;injection e with e
        exact g (e.trans h)
       ·cases e
      |none =>
       rw[e]at h;exact ih _ h
    exact absurd hr (this _ _ _)
 refine⟨by omega,by omega,by omega,by omega,by omega,a2,λs a3=>?_⟩;have hx:=get_at a3;have hy:=get_at (l:=p.O) (i:=s) (by omega);have hr:=dD.1 hs s _ hx;unfold rowG at hr;rw[E8,hy,E7]at hr;split at hr
 ·cases hr
 ·rename_i k;refine⟨_,_,hx,hy,Q9 λe=>k (.inl e),Q9 λe=>k (.inr e),λa t o ha ho=>?_⟩;have hc:=dD.1 hr a t ha;unfold cellP at hc;rw[E8,ho,E7]at hc;split at hc
  ·cases hc
  ·rename_i g;have g:=oL.1 g;unfold bZ at g;split at g
   ·cases g
   ·rename_i g1;split at g
    ·cases g
    ·rename_i g2;have g2:=oL.1 g2;exact⟨by omega,by omega,by omega,by omega,by rw[g2]⟩
structure Wrt(f:Nat->Int)(init:A2)(a:Nat)(y:A2):Prop where
 len:y.length=init.length
 at_:∀b,b<init.length->y[b]?=if b<a then some (f b) else init[b]?
def Wrt.zero(f:Nat->Int)(init:A2):Wrt f init 0 init:=⟨rfl,λb _=>by rw[if_neg (by omega)]⟩
def Wrt.step{f:Nat->Int}{init:A2}{a:Nat}{y:A2}(h:Wrt f init a y)(ha:a<init.length){v:Int}(hv:v=f a):Wrt f init (a+1) (y.set a v):=by
 refine⟨by rw[P2];exact h.len,λb hb=>?_⟩;have hl:=h.len;by_cases e:b=a
 ·subst e;rw[if_pos (by omega),P5 (by omega),hv]
 ·rw[O3 (by omega),h.at_ b hb];by_cases g:b<a
  ·rw[if_pos g,if_pos (by omega)]
  ·rw[if_neg g,if_neg (by omega)]
def Wrt.skip{f:Nat->Int}{init:A2}{a:Nat}{y:A2}(h:Wrt f init a y)(ha:a<init.length)(hv:init[a]?=some (f a)):Wrt f init (a+1) y:=by
 refine⟨h.len,λb hb=>?_⟩;rw[h.at_ b hb];by_cases e:b=a
 ·subst e;rw[if_neg (by omega),if_pos (by omega),hv]
 ·by_cases g:b<a
  ·rw[if_pos g,if_pos (by omega)]
  ·rw[if_neg g,if_neg (by omega)]
def Wrt.done{f:Nat->Int}{init y:A2}{a:Nat}(h:Wrt f init a y)(ha:init.length<=a):y=(List.range init.length).map f:=by
 refine aA λb=>?_;by_cases g:b<init.length
 ·rw[h.at_ b g,if_pos (by omega),H1,P4 g];rfl
 ·rw[L0 (by have:=h.len;omega),L0 (by simp;omega)]
def Wrt.cur{f:Nat->Int}{init:A2}{a:Nat}{y:A2}(h:Wrt f init a y)(ha:a<init.length):y[a]?=init[a]?:=by rw[h.at_ a ha,if_neg (by omega)]
def compN(s:Nat)(x:A2)(a:Nat):Int:=if(x[a]?).getD 0=-1 then(s:Int) else(x[a]?).getD 0
def compO(out:Int)(x y:A2)(a:Nat):Int:=if(x[a]?).getD 0=-1 then out else(y[a]?).getD 0
def cS(p:A9)(s:Nat):A2:=(List.range p.I.toNat).map (compN s ((p.N[s]?).getD []))
def cT(p:A9)(out:Int)(s:Nat):A2:=(List.range p.I.toNat).map (compO out ((p.N[s]?).getD []) ((p.O[s]?).getD []))
def rng_snoc{V:Type}(f:Nat->V)(k:Nat):(List.range (k+1)).map f=(List.range k).map f++[f k]:=by rw[eD,L1];rfl
def kO(p:A9)(out:Int):A8×Int:=if iM p≠0 then(⟨0,0,[],[]⟩,iM p) else if out<0\/1048576<out then(⟨0,0,[],[]⟩,2) else if 128<p.N.length then(⟨0,0,[],[]⟩,11) else(⟨p.I,p.S,(List.range p.N.length).map (cS p),(List.range p.N.length).map (cT p out)⟩,0)
def zqa{p:A9}(hl:p.N.length<=10000000)(out:Int):U8 p out=some (kO p out):=by
 unfold U8 kO;rw[CS hl,A5];by_cases hv:iM p≠0
 ·rw[C2 hv,if_pos hv]
 rw[B1 hv,if_neg hv];have H:=validP_ok (oL.1 hv);by_cases h1:out<0
 ·rw[C2 h1,A5,F7,if_pos (.inl h1)]
 rw[B1 h1,A5];by_cases h2:1048576<out
 ·rw[C2 h2,if_pos (.inr h2)]
 rw[B1 h2,if_neg (by omega)];by_cases h3:128<p.N.length
 ·rw[C2,if_pos h3]
 rw[B1,if_neg h3];have b3:=H.i1;have a9:=H.i2
 have key:=J2 (step:=λ(s:A4×A4×Nat)=>U8.s20 p out s.1 s.2.1 s.2.2) (λs=>s.2.2<=p.N.length/\s.1=(List.range s.2.2).map (cS p)/\s.2.1=(List.range s.2.2).map (cT p out)) (λs=>p.N.length-s.2.2) (λr=>r=((List.range p.N.length).map (cS p),(List.range p.N.length).map (cT p out))) (λ⟨A,B,s⟩ ⟨g1,g2,g3⟩=>by
  simp only at g1 g2 g3
  subst g2 g3
  simp only[U8.s20]
  by_cases hs:s<p.N.length
  ·left
   obtain⟨x,y,hx,hy,b4,b6,b2⟩:=H.row s hs
   refine⟨((List.range (s+1)).map (cS p),(List.range (s+1)).map (cT p out),s+1),?_,⟨hs,rfl,rfl⟩,by simp only;omega⟩
   have a3:=J2 (step:=λ(q:A2×A2×Nat)=>U8.s18 p out s x q.1 q.2.1 q.2.2) (λq=>q.2.2<=x.length/\Wrt (compN s x) (List.replicate p.I.toNat 0) q.2.2 q.1/\Wrt (compO out x y) (List.replicate p.I.toNat 0) q.2.2 q.2.1) (λq=>x.length-q.2.2) (λr=>r=(cS p s,cT p out s)) (λ⟨A,B,a⟩ ⟨q1,q2,q3⟩=>by
    simp only at q1 q2 q3
    simp only[U8.s18]
    by_cases ha:a<x.length
    ·left
     have a2:=get_at ha
     have a4:=get_at (l:=y) (i:=a) (by omega)
     have a8:=q2.len
     have a7:=q3.len
     rw[K7]at a8 a7
     have a6:=get_at (l:=A) (i:=a) (by omega)
     have a5:=get_at (l:=B) (i:=a) (by omega)
     have b5:(List.replicate p.I.toNat (0:Int)).length=p.I.toNat:=K7
     have hn:compN s x a=if x[a]=-1 then(s:Int) else x[a]:=by unfold compN;rw[a2,E7]
     have ho:compO out x y a=if x[a]=-1 then out else y[a]:=by unfold compO;rw[a2,a4,E7,E7]
     rw[M6 a2,F7,B8 a2,B8 hy,B8 a4,B8 a6,B8 a5]
     by_cases e:x[a]=-1
     ·rw[if_pos e]at hn ho
      refine⟨((A.set a x[a]).set a (s:Int),(B.set a y[a]).set a out,a+1),?_,⟨ha,?_,?_⟩,by simp only;omega⟩
      ·rw[C2 e,B8 (get_at (by rw[P2];omega)),B8 (get_at (by rw[P2];omega))]
      ·simp only[List.set_set];exact q2.step (by omega) hn.symm
      ·simp only[List.set_set];exact q3.step (by omega) ho.symm
     ·rw[if_neg e]at hn ho
      exact⟨(A.set a x[a],B.set a y[a],a+1),by rw[B1 e],⟨ha,q2.step (by omega) hn.symm,q3.step (by omega) ho.symm⟩,by simp only;omega⟩
    ·right
     have e:a=x.length:=by omega
     subst e
     refine⟨_,by rw[X6,G5],?_⟩
     rw[q2.done (by rw[K7];omega),q3.done (by rw[K7];omega),K7]
     unfold cS cT
     rw[hx,hy]
     rfl) (List.replicate p.I.toNat 0,List.replicate p.I.toNat 0,0) ⟨D8 _,Wrt.zero _ _,Wrt.zero _ _⟩
   obtain⟨r,e,rfl⟩:=a3
   rw[C2,H9 ⟨by omega,eF _,by unfold B4;omega⟩,H9 ⟨by omega,eF _,by unfold B4;omega⟩,B8 hx,e,A5]
   simp only[U8.k19]
   rw[H9 (by unfold B4;simp;omega),H9 (by unfold B4;simp;omega),rng_snoc,rng_snoc]
  ·right
   have e:s=p.N.length:=by omega
   subst e
   exact⟨_,by rw[B1],rfl⟩) ([],[],0) ⟨D8 _,rfl,rfl⟩
 obtain⟨r,e,rfl⟩:=key;rw[e,A5];rfl
section
def pnx(p:A9)(s a:Nat):Int:=(((p.N[s]?).getD [])[a]?).getD (-1)
def pot(p:A9)(s a:Nat):Int:=(((p.O[s]?).getD [])[a]?).getD (-1)
def H7.at{p:A9}(H:H7 p){s a:Nat}(hs:s<p.N.length)(ha:a<p.I.toNat):-1<=pnx p s a/\pnx p s a<(p.N.length:Int)/\-1<=pot p s a/\pot p s a<=1048576/\(pnx p s a=-1↔pot p s a=-1)/\∃x y,p.N[s]?=some x/\p.O[s]?=some y/\x[a]?=some (pnx p s a)/\y[a]?=some (pot p s a)/\(x.length:Int)=p.I/\(y.length:Int)=p.I:=by
 obtain⟨x,y,h1,h2,h3,h4,h5⟩:=H.row s hs;have hx:=get_at (l:=x) (i:=a) (by omega);have hy:=get_at (l:=y) (i:=a) (by omega);have e1:pnx p s a=x[a]:=by unfold pnx;rw[h1,E7,hx,E7]
 have e2:pot p s a=y[a]:=by unfold pot;rw[h2,E7,hy,E7]
 obtain⟨k1,k2,k3,k4,k5⟩:=h5 a _ _ hx hy;rw[e1,e2];exact⟨k1,k2,k3,k4,k5,x,y,h1,h2,hx,hy,h3,h4⟩
def Q4{p:A9}(H:H7 p){q a u:Nat}(h:pnx p q a=(u:Int)):q<p.N.length/\a<p.I.toNat/\u<p.N.length:=by
 have hq:q<p.N.length:=Q9 λg=>by
  unfold pnx at h;rw[show p.N[q]?=none from L0 (by omega)]at h;have h:(-1:Int)=↑u:=h;omega
 have ha:a<p.I.toNat:=Q9 λg=>by
  obtain⟨x,y,h1,h2,h3,h4,h5⟩:=H.row q hq;unfold pnx at h;rw[h1,E7,show x[a]?=none from L0 (by omega)]at h;have h:(-1:Int)=↑u:=h;omega
 have:=(H.at hq ha).2.1;exact⟨hq,ha,by omega⟩
inductive Cong(p:A9)(s t:Nat):Nat->Nat->Prop
 |base:Cong p s t s t
 |refl (q:Nat):Cong p s t q q
 |symm {q r:Nat} (h:Cong p s t q r):Cong p s t r q
 |trans {q r u:Nat} (h:Cong p s t q r) (k:Cong p s t r u):Cong p s t q u
 |step {q r:Nat} (a u v:Nat) (h:Cong p s t q r) (hu:pnx p q a=(u:Int)) (hv:pnx p r a=(v:Int)):Cong p s t u v
def P8(p:A9)(s t:Nat):Prop:=∃q r a,Cong p s t q r/\pnx p q a≠-1/\pnx p r a≠-1/\pot p q a≠pot p r a
noncomputable def clsOf(p:A9)(s t q:Nat):Nat:=by
 classical
 exact((List.range (q+1)).find? λr=>decide (Cong p s t q r)).getD q
section
variable {p:A9}{s t:Nat}
def sU(q:Nat):clsOf p s t q<=q/\Cong p s t q (clsOf p s t q)/\∀r,r<clsOf p s t q->¬Cong p s t q r:=by
 classical
 unfold clsOf;cases h:(List.range (q+1)).find? λr=>decide (Cong p s t q r) with
 |none=>exact absurd (E9 (Cong.refl q)) (List.find?_eq_none.1 h q (K6.2 (by omega)))
 |some r =>
  obtain⟨h1,h2,h3⟩:=List.find?_range_eq_some.1 h;rw[E7];have h2:=K6.1 h2;refine⟨by omega,of_decide_eq_true h1,λu hu hc=>?_⟩;have:=h3 u hu;simp[hc]at this
def clsOf_eq{q c:Nat}(h:Cong p s t q c)(h2:∀r,Cong p s t q r->c<=r):clsOf p s t q=c:=by
 obtain⟨g1,g2,g3⟩:=sU (p:=p) (s:=s) (t:=t) q;have h3:=h2 _ g2;rcases J3 c (clsOf p s t q) with k|k
 ·exact absurd h (g3 c k)
 ·omega
def zF{q r:Nat}:Cong p s t q r↔clsOf p s t q=clsOf p s t r:=by
 obtain⟨a1,a2,a3⟩:=sU (p:=p) (s:=s) (t:=t) q;obtain⟨b1,b2,b3⟩:=sU (p:=p) (s:=s) (t:=t) r;constructor
 ·intro h;refine clsOf_eq (h.trans b2) λu hu=>oH λk=>b3 u k (h.symm.trans hu)
 ·intro h;rw[h]at a2;exact a2.trans b2.symm
def vC(H:H7 p)(hs:s<p.N.length)(ht:t<p.N.length){cl:Nat->Nat}(h0:cl s=cl t)(hc:∀q r a u v:Nat,q<p.N.length->r<p.N.length->cl q=cl r->pnx p q a=(u:Int)->pnx p r a=(v:Int)->cl u=cl v){q r:Nat}(h:Cong p s t q r):q=r\/(q<p.N.length/\r<p.N.length/\cl q=cl r):=by
 induction h with
 |base=>exact .inr ⟨hs,ht,h0⟩
 |refl q=>exact .inl rfl
 |symm _ ih =>
  rcases ih with e|⟨a,b,c⟩
  ·exact .inl e.symm
  ·exact .inr ⟨b,a,c.symm⟩
 |trans _ _ ih1 ih2 =>
  rcases ih1 with rfl|⟨a,b,c⟩
  ·exact ih2
  ·rcases ih2 with rfl|⟨a',b',c'⟩
   ·exact .inr ⟨a,b,c⟩
   ·exact .inr ⟨a,b',c.trans c'⟩
 |step a u v _ hu hv ih =>
  obtain⟨q1,_,q3⟩:=Q4 H hu;obtain⟨r1,_,r3⟩:=Q4 H hv;rcases ih with rfl|⟨_,_,c⟩
  ·rw[hu]at hv;exact .inl (by omega)
  ·exact .inr ⟨q3,r3,hc _ _ a u v q1 r1 c hu hv⟩
structure ClsL(p:A9)(s t:Nat)(C:A2)(cl:Nat->Nat):Prop where
 len:C.length=p.N.length
 at_:∀q,q<p.N.length->C[q]?=some (↑(cl q):Int)
 le:∀q,q<p.N.length->cl q<=q
 idem:∀q,q<p.N.length->cl (cl q)=cl q
 sound:∀q,q<p.N.length->Cong p s t q (cl q)
def Y9(n:Nat)(cl:Nat->Nat):Nat:=(List.range n).countP λq=>decide (cl q=q)
def O7(cl:Nat->Nat)(u v q:Nat):Nat:=if cl q=max (cl u) (cl v) then min (cl u) (cl v) else cl q
def joinF_same(cl:Nat->Nat)(u v:Nat):O7 cl u v u=O7 cl u v v:=by
 unfold O7;rcases kD (cl u) (cl v) with h|h
 ·rw[oF h,fD h,if_pos rfl];split<;>omega
 ·rw[oQ h,oE h,if_pos rfl];split<;>omega
def zL{cl:Nat->Nat}{u v q r:Nat}(h:cl q=cl r):O7 cl u v q=O7 cl u v r:=by unfold O7;rw[h]
def countP_lt{n:Nat}{f g:Nat->Bool}(h:∀q,q<n->g q=true->f q=true){x:Nat}(hx:x<n)(h1:f x=true)(h2:g x=false):(List.range n).countP g<(List.range n).countP f:=by
 induction n with
 |zero=>omega
 |succ n ih =>
  rw[eD,uB,uB,rK,rK];by_cases e:x=n
  ·subst e;have a2:(List.range x).countP g<=(List.range x).countP f:=List.countP_mono_left λq hq hg=>h q (by have:=K6.1 hq;omega) hg;rw[h1,h2];simp;omega
  ·have:=ih (λq hq=>h q (by omega)) (by omega)
   have h3:(if g n=true then 1 else 0)<=(if f n=true then 1 else 0:Nat):=by
    by_cases k:g n=true
    ·rw[if_pos k,if_pos (h n (by omega) k)];omega
    ·rw[if_neg k];omega
   omega
def ClsL.join{C:A2}{cl:Nat->Nat}(K:ClsL p s t C cl){u v:Nat}(hu:u<p.N.length)(hv:v<p.N.length)(hc:Cong p s t u v)(hn:p.N.length<=10000000):∃C',mR C (u:Int) (v:Int)=some C'/\ClsL p s t C' (O7 cl u v)/\(cl u≠cl v->Y9 p.N.length (O7 cl u v)<Y9 p.N.length cl):=by
 have a7:=K.len
 have key:=J2 (step:=λ(q:A2×Nat)=>mR.s2 (↑(cl u):Int) (↑(cl v):Int) (↑(cl u):Int) (↑(cl v):Int) q.1 q.2) (λq=>q.2<=C.length/\Wrt (λb=>(↑(O7 cl u v b):Int)) C q.2 q.1) (λq=>C.length-q.2) (λr=>r=(List.range C.length).map λb=>(↑(O7 cl u v b):Int)) (λ⟨y,i⟩ ⟨g1,g2⟩=>by
  simp only at g1 g2
  simp only[mR.s2]
  have b3:=g2.len
  by_cases h:i<C.length
  ·left
   have hy:y[i]?=some (↑(cl i):Int):=(g2.cur h).trans (K.at_ i (by omega))
   rw[C2,B8 hy]
   by_cases e:cl i=max (cl u) (cl v)
   ·refine⟨(y.set i (min (↑(cl u):Int) (↑(cl v):Int)),i+1),by rw[C2,B8 hy],⟨h,g2.step h ?_⟩,by simp only;omega⟩
    unfold O7
    rw[if_pos e]
    omega
   ·refine⟨(y,i+1),by rw[B1],⟨h,g2.skip h ?_⟩,by simp only;omega⟩
    unfold O7
    rw[if_neg e]
    exact K.at_ i (by omega)
  ·right
   exact⟨_,by rw[B1],g2.done (by omega)⟩) (C,0) ⟨D8 _,Wrt.zero _ _⟩
 obtain⟨r,e,rfl⟩:=key;have b2:min (cl u) (cl v)<p.N.length:=by have:=K.le u hu;omega
 have a5:∀q,q<p.N.length->cl q<p.N.length:=λq hq=>by have:=K.le q hq;omega
 have a3:Cong p s t (cl u) (cl v):=(K.sound u hu).symm.trans (hc.trans (K.sound v hv))
 have a8:Cong p s t (max (cl u) (cl v)) (min (cl u) (cl v)):=by
  rcases kD (cl u) (cl v) with h|h
  ·rw[oF h,fD h];exact a3.symm
  ·rw[oQ h,oE h];exact a3
 have a6:cl (min (cl u) (cl v))=min (cl u) (cl v):=by
  rcases kD (cl u) (cl v) with h|h
  ·rw[fD h];exact K.idem u hu
  ·rw[oE h];exact K.idem v hv
 have a4:cl (max (cl u) (cl v))=max (cl u) (cl v):=by
  rcases kD (cl u) (cl v) with h|h
  ·rw[oF h];exact K.idem v hv
  ·rw[oQ h];exact K.idem u hu
 have a2:O7 cl u v (min (cl u) (cl v))=min (cl u) (cl v):=by
  unfold O7;rw[a6];split<;>omega
 refine⟨(List.range C.length).map λb=>(↑(O7 cl u v b):Int),?_,⟨by simp[a7],λq hq=>?_,λq hq=>?_,λq hq=>?_,λq hq=>?_⟩,λb4=>?_⟩
 ·unfold mR;rw[D7 (i:=u) rfl (K.at_ u hu),D7 (i:=v) rfl (K.at_ v hv),D7 (i:=u) rfl (K.at_ u hu),D7 (i:=v) rfl (K.at_ v hv),e,A5]
 ·rw[H1,P4 (by omega)];rfl
 ·have:=K.le q hq;unfold O7;split<;>omega
 ·have h1:O7 cl u v q=min (cl u) (cl v)\/(O7 cl u v q=cl q/\cl q≠max (cl u) (cl v)):=by
   unfold O7;split
   ·exact .inl rfl
   ·rename_i g;exact .inr ⟨rfl,g⟩
  rcases h1 with h1|⟨h1,h2⟩
  ·rw[h1,a2]
  ·rw[h1];unfold O7;rw[K.idem q hq,if_neg h2]
 ·unfold O7;split
  ·rename_i g;have:=K.sound q hq;rw[g]at this;exact this.trans a8
  ·exact K.sound q hq
 ·have b5:min (cl u) (cl v)<max (cl u) (cl v):=by omega
  have a9:max (cl u) (cl v)<p.N.length:=by have:=a5 u hu;have:=a5 v hv;omega
  refine countP_lt (λq hq h=>?_) a9 (E9 a4) (I3 ?_)
  ·have h:=of_decide_eq_true h;refine E9 ?_;unfold O7 at h;split at h
   ·rename_i g;rw[<- h,a6]
   ·exact h
  ·unfold O7;rw[a4,if_pos rfl];omega
structure FstOk(p:A9)(cl:Nat->Nat)(a q:Nat)(F:A2):Prop where
 len:F.length=p.N.length
 none_:∀c,c<p.N.length->F[c]?=some (-1)->∀r,r<q->cl r=c->pnx p r a=-1
 some_:∀c,c<p.N.length->F[c]?≠some (-1)->∃f:Nat,F[c]?=some (f:Int)/\f<q/\cl f=c/\pnx p f a≠-1/\∀r,r<q->cl r=c->pnx p r a≠-1->pot p f a=pot p r a/\cl (pnx p f a).toNat=cl (pnx p r a).toNat
def SymOk(p:A9)(cl:Nat->Nat)(a:Nat):Prop:=∀q r,q<p.N.length->r<p.N.length->cl q=cl r->pnx p q a≠-1->pnx p r a≠-1->pot p q a=pot p r a/\cl (pnx p q a).toNat=cl (pnx p r a).toNat
end
end
section
section
variable {p:A9}{s t:Nat}
def pG(n:Nat)(cl:Nat->Nat):Y9 n cl<=n:=by
 have:=zC (p:=λq=>decide (cl q=q)) (l:=List.range n);rw[M5]at this;exact this
def cls_done(H:H7 p)(hs:s<p.N.length)(ht:t<p.N.length){C:A2}{cl:Nat->Nat}(K:ClsL p s t C cl)(h0:cl s=cl t)(hS:∀a,a<p.I.toNat->SymOk p cl a):(∀q,q<p.N.length->cl q=clsOf p s t q)/\¬P8 p s t:=by
 have a2:∀{q r:Nat},Cong p s t q r->q=r\/(q<p.N.length/\r<p.N.length/\cl q=cl r):=λh=>vC H hs ht h0 (λq r a u v hq hr e hu hv=>by
  obtain⟨_,ha,_⟩:=Q4 H hu
  have:=(hS a ha q r hq hr e (by rw[hu];omega) (by rw[hv];omega)).2
  rw[hu,hv]at this
  simpa using this) h
 refine⟨λq hq=>(clsOf_eq (K.sound q hq) λr hr=>?_).symm,λ⟨q,r,a,hc,h1,h2,h3⟩=>?_⟩
 ·rcases a2 hr with rfl|⟨_,hr2,e⟩
  ·exact K.le q hq
  ·rw[e];exact K.le r hr2
 ·have rng:∀q,pnx p q a≠-1->q<p.N.length/\a<p.I.toNat:=λq h=>by
   have hq:q<p.N.length:=Q9 λg=>h (by unfold pnx;rw[show p.N[q]?=none from L0 (by omega)];rfl);refine⟨hq,Q9 λg=>h ?_⟩;obtain⟨x,y,e1,e2,e3,e4,e5⟩:=H.row q hq;unfold pnx;rw[e1,E7,show x[a]?=none from L0 (by omega)];rfl
  obtain⟨hq,ha⟩:=rng q h1;obtain⟨hr,_⟩:=rng r h2;rcases a2 hc with rfl|⟨_,_,e⟩
  ·exact h3 rfl
  ·exact h3 (hS a ha q r hq hr e h1 h2).1
end
end
section
def gx(N:A4)(q a:Nat):Int:=(((N[q]?).getD [])[a]?).getD (-1)
structure Grid(n I:Nat)(N:A4):Prop where
 len:N.length=n
 row:∀q,q<n->∃x,N[q]?=some x/\x.length=I
def Grid.at{n I:Nat}{N:A4}(G:Grid n I N){q a:Nat}(hq:q<n)(ha:a<I):∃x,N[q]?=some x/\x[a]?=some (gx N q a)/\x.length=I:=by
 obtain⟨x,h1,h2⟩:=G.row q hq;refine⟨x,h1,?_,h2⟩;have hx:=get_at (l:=x) (i:=a) (by omega);unfold gx;rw[h1,E7,hx,E7]
def Grid.put{n I:Nat}{N:A4}(G:Grid n I N){c a:Nat}{x:A2}(hc:c<n)(ha:a<I)(hx:N[c]?=some x)(v:Int):Grid n I (N.set c (x.set a v))/\∀q b,q<n->b<I->gx (N.set c (x.set a v)) q b=if q=c/\b=a then v else gx N q b:=by
 obtain⟨x',h1,h2⟩:=G.row c hc;rw[hx]at h1;injection h1 with h1
 subst h1;have a2:=G.len;constructor
 ·refine⟨by rw[P2];exact G.len,λq hq=>?_⟩;by_cases e:q=c
  ·subst e;exact⟨_,P5 (by omega),by rw[P2];exact h2⟩
  ·rw[O3 (by omega)];exact G.row q hq
 ·intro q b hq hb;by_cases e:q=c
  ·subst e;unfold gx;rw[P5 (by omega),E7];by_cases e2:b=a
   ·subst e2;rw[P5 (by omega),E7,if_pos ⟨rfl,rfl⟩]
   ·rw[O3 (by omega),if_neg (λh=>e2 h.2),hx,E7]
  ·unfold gx;rw[O3 (by omega),if_neg (λh=>e h.1)]
def H7.gn{p:A9}(H:H7 p):Grid p.N.length p.I.toNat p.N:=⟨rfl,λq hq=>by
 obtain⟨x,y,h1,h2,h3,h4,h5⟩:=H.row q hq
 exact⟨x,h1,by omega⟩⟩
def H7.go{p:A9}(H:H7 p):Grid p.N.length p.I.toNat p.O:=⟨H.ol,λq hq=>by
 obtain⟨x,y,h1,h2,h3,h4,h5⟩:=H.row q hq
 exact⟨y,h2,by omega⟩⟩
structure UpOk(n:Nat)(cl:Nat->Nat)(M:List (Int×Int)):Prop where
 u0:∀q,q<n->cl q=q->mget (q:Int) M=none
 u1:∀q,q<n->cl q≠q->∃u:Nat,u<q/\mget (q:Int) M=some (u:Int)/\cl u=cl q
def of_eq{n:Nat}{cl:Nat->Nat}{M:List (Int×Int)}(U:UpOk n cl M)(hn:n<=10000000){u:Nat}(hu:u<n):dF ⟨M⟩ (u:Int)=some ((↑(cl u):Int),M):=by
 unfold dF
 have key:=J2 (step:=λ(s:Int)=>dF.s1 ⟨M⟩ s) (λs=>∃v:Nat,s=(v:Int)/\v<=u/\cl v=cl u) (λs=>s.toNat) (λr=>r=((↑(cl u):Int),M)) (λs ⟨v,e,h1,h2⟩=>by
  subst e
  simp only[dF.s1]
  by_cases g:cl v=v
  ·right
   rw[U.u0 v (by omega) g]
   exact⟨_,rfl,by rw[<- h2,g]⟩
  ·left
   obtain⟨w,w1,w2,w3⟩:=U.u1 v (by omega) g
   rw[w2]
   exact⟨_,rfl,⟨w,rfl,by omega,w3.trans h2⟩,by rw[E7];omega⟩) (↑u) ⟨u,rfl,F9 _,rfl⟩
 obtain⟨r,e,rfl⟩:=key;exact e
section
variable {p:A9}{s t:Nat}
def ClsL.mm{C:A2}{cl:Nat->Nat}(K:ClsL p s t C cl){u v:Nat}(hu:u<p.N.length)(hv:v<p.N.length):cl (min (cl u) (cl v))=min (cl u) (cl v)/\cl (max (cl u) (cl v))=max (cl u) (cl v):=by
 rcases kD (cl u) (cl v) with h|h
 ·rw[fD h,oF h];exact⟨K.idem u hu,K.idem v hv⟩
 ·rw[oE h,oQ h];exact⟨K.idem v hv,K.idem u hu⟩
def joinF_min{C:A2}{cl:Nat->Nat}(K:ClsL p s t C cl){u v:Nat}(hu:u<p.N.length)(hv:v<p.N.length):O7 cl u v (min (cl u) (cl v))=min (cl u) (cl v):=by
 unfold O7;rw[(K.mm hu hv).1];split<;>omega
def UpOk.join{C:A2}{cl:Nat->Nat}{M:List (Int×Int)}(K:ClsL p s t C cl)(U:UpOk p.N.length cl M){u v:Nat}(hu:u<p.N.length)(hv:v<p.N.length)(hne:cl u≠cl v):UpOk p.N.length (O7 cl u v) (mset (↑(max (cl u) (cl v)):Int) (↑(min (cl u) (cl v)):Int) M):=by
 obtain⟨m1,m2⟩:=K.mm hu hv;have hb:∀a b:Int,(a==b)=true↔a=b:=λa b=>beq_iff_eq;have a2:O7 cl u v (max (cl u) (cl v))=min (cl u) (cl v):=by unfold O7;rw[m2,if_pos rfl]
 refine⟨λq hq h=>?_,λq hq h=>?_⟩
 ·by_cases e:q=max (cl u) (cl v)
  ·rw[e,a2]at h;omega
  ·rw[nQ hb (by omega)];refine U.u0 q hq ?_;unfold O7 at h;split at h
   ·rw[<- h,m1]
   ·exact h
 ·by_cases e:q=max (cl u) (cl v)
  ·subst e;exact⟨min (cl u) (cl v),by omega,tP hb _,by rw[a2,joinF_min K hu hv]⟩
  ·rw[nQ hb (by omega)]
   have h0:cl q≠q:=λg=>h (by
    unfold O7
    rw[g,if_neg e])
   obtain⟨w,w1,w2,w3⟩:=U.u1 q hq h0;exact⟨w,w1,w2,zL w3⟩
end
structure InI(n I:Nat)(N O:A4)(W0:List T_A2)(c1 c2:Nat)(N1 O1:A4)(W1:List T_A2)(a:Nat):Prop where
 gn:Grid n I N1
 go:Grid n I O1
 nx:∀q b,q<n->b<I->gx N1 q b=if q=c1/\b<a/\gx N c1 b=-1 then gx N c2 b else gx N q b
 ot:∀q b,q<n->b<I->gx O1 q b=if q=c1/\b<a/\gx N c1 b=-1 then gx O c2 b else gx O q b
 wk:∀w,w∈W1->w∈W0\/∃b,b<a/\gx N c1 b≠-1/\gx N c2 b≠-1/\w=⟨gx N c1 b,gx N c2 b⟩
 w0:∀w,w∈W0->w∈W1
 w1:∀b,b<a->gx N c1 b≠-1->gx N c2 b≠-1->gx O c1 b=gx O c2 b/\(⟨gx N c1 b,gx N c2 b⟩:T_A2)∈W1
 few:W1.length<=W0.length+a
def InQ(n I:Nat)(N O:A4)(W0:List T_A2)(c1 c2:Nat)(r:(A4×A4×List T_A2)⊕((A4×A4×(List (Int×Int))×List T_A2)⊕((A4×A4×(List (Int×Int))×List T_A2)⊕((A4×A4×(List (Int×Int)))⊕(A9×A2×Bool))))):Prop :=
 (r=.inr (.inr (.inr (.inr (⟨0,0,[],[]⟩,[],false))))/\∃b,b<I/\gx N c1 b≠-1/\gx N c2 b≠-1/\gx O c1 b≠gx O c2 b)\/∃N1 O1 W1,r=.inl (N1,O1,W1)/\InI n I N O W0 c1 c2 N1 O1 W1 I
def loop_in{n I:Nat}{N O:A4}{W0:List T_A2}{c1 c2:Nat}{x y:Int×List (Int×Int)}(hmin:min x.1 y.1=(c1:Int))(hmax:max x.1 y.1=(c2:Int))(hc1:c1<n)(hc2:c2<n)(hne:c2≠c1){e:A2}(he:e.length=I)(hI:I<=64)(GN:Grid n I N)(GO:Grid n I O)
  (h1:∀b,b<I->gx N c1 b=-1->gx O c1 b=-1) (h2:∀b,b<I->gx N c2 b=-1->gx O c2 b=-1) (hW:W0.length<=1000000) :
  ∃r,iter (λ(s:A4×A4×List T_A2×Nat)=>I4.s43 x y e s.1 s.2.1 s.2.2.1 s.2.2.2) fuel (N,O,W0,0)=some r/\InQ n I N O W0 c1 c2 r:=by
 refine J2 (step:=λ(s:A4×A4×List T_A2×Nat)=>I4.s43 x y e s.1 s.2.1 s.2.2.1 s.2.2.2) (λs=>s.2.2.2<=I/\InI n I N O W0 c1 c2 s.1 s.2.1 s.2.2.1 s.2.2.2) (λs=>I-s.2.2.2) (InQ n I N O W0 c1 c2) (λ⟨N1,O1,W1,a⟩ ⟨g1,g2⟩=>?_) (N,O,W0,0) ⟨D8 _,⟨GN,GO,λq b _ _=>?_,λq b _ _=>?_,λw hw=>.inl hw,λw hw=>hw,λb hb=>?_,F9 _⟩⟩
 ·simp only at g1 g2;unfold InQ;simp only[I4.s43,hmin,hmax,H6];by_cases ha:a<I
  ·obtain⟨x2,b5,a9,b7⟩:=g2.gn.at hc2 ha;obtain⟨x1,a8,a3,b8⟩:=g2.gn.at hc1 ha;obtain⟨y2,b4,a6,b6⟩:=g2.go.at hc2 ha;obtain⟨y1,b3,a7,b9⟩:=g2.go.at hc1 ha;have e2:gx N1 c2 a=gx N c2 a:=by rw[g2.nx c2 a hc2 ha,if_neg (λh=>hne h.1)]
   have e1:gx N1 c1 a=gx N c1 a:=by rw[g2.nx c1 a hc1 ha,if_neg (λh=>tX _ h.2.1)]
   have o2:gx O1 c2 a=gx O c2 a:=by rw[g2.ot c2 a hc2 ha,if_neg (λh=>hne h.1)]
   have o1:gx O1 c1 a=gx O c1 a:=by rw[g2.ot c1 a hc1 ha,if_neg (λh=>tX _ h.2.1)]
   rw[e1]at a3;rw[e2]at a9;rw[o1]at a7;rw[o2]at a6;have hf:=g2.few
   have a2:∀{q b:Nat} {A B D:Int},(q=c1->b=a->gx N c1 a=-1->A=B)->(if q=c1/\b<a/\gx N c1 b=-1 then A else B)=if q=c1/\b<a+1/\gx N c1 b=-1 then A else B:=λ{q b A B D} h=>by
    by_cases k:q=c1/\b<a/\gx N c1 b=-1
    ·rw[if_pos k,if_pos ⟨k.1,by omega,k.2.2⟩]
    ·rw[if_neg k];by_cases k2:q=c1/\b<a+1/\gx N c1 b=-1
     ·have:b=a:=Nat.le_antisymm (by omega) (oH λk3=>k ⟨k2.1,k3,k2.2.2⟩);subst this;rw[if_pos k2,h k2.1 rfl k2.2.2]
     ·rw[if_neg k2]
   rw[C2,B8 b5,B8 a9];by_cases k2:gx N c2 a=-1
   ·left;refine⟨(N1,O1,W1,a+1),by rw[C2 k2,L3],⟨ha,g2.gn,g2.go,λq b hq hb=>?_,λq b hq hb=>?_,λw hw=>?_,g2.w0,λb hb a5 a4=>?_,by simp only;omega⟩,by simp only;omega⟩
    ·simp only;rw[g2.nx q b hq hb];exact a2 (D:=0) λe3 e4 e5=>by rw[e3,e4,k2,e5]
    ·simp only;rw[g2.ot q b hq hb];exact a2 (D:=0) λe3 e4 e5=>by rw[e3,e4,h1 a ha e5,h2 a ha k2]
    ·rcases g2.wk w hw with h|⟨b,b1,b2⟩
     ·exact .inl h
     ·exact .inr ⟨b,by simp only;omega,b2⟩
    ·exact g2.w1 b (iH (by simp only at hb;omega) λe3=>a4 (by rw[e3];exact k2)) a5 a4
   ·rw[B1 k2,D7 (i:=c1) rfl a8,B8 a3];by_cases k1:gx N c1 a=-1
    ·left;obtain⟨p1,p2⟩:=g2.gn.put hc1 ha a8 (gx N c2 a);obtain⟨r1,r2⟩:=g2.go.put hc1 ha b3 (gx O c2 a);refine⟨(N1.set c1 (x1.set a (gx N c2 a)),O1.set c1 (y1.set a (gx O c2 a)),W1,a+1),by rw[C2 k1,D7 (i:=c1) rfl a8,D7 (i:=c1) rfl b3,D7 (i:=c2) rfl b4,B8 a6,B8 a3,B8 a7,L3],⟨ha,p1,r1,λq b hq hb=>?_,λq b hq hb=>?_,λw hw=>?_,g2.w0,λb hb a5 a4=>?_,by simp only;omega⟩,by simp only;omega⟩
     ·simp only;rw[p2 q b hq hb];by_cases k:q=c1/\b=a
      ·rw[if_pos k,if_pos ⟨k.1,by omega,by rw[k.2];exact k1⟩,k.2]
      ·rw[if_neg k,g2.nx q b hq hb];exact a2 (D:=0) λe3 e4=>absurd ⟨e3,e4⟩ k
     ·simp only;rw[r2 q b hq hb];by_cases k:q=c1/\b=a
      ·rw[if_pos k,if_pos ⟨k.1,by omega,by rw[k.2];exact k1⟩,k.2]
      ·rw[if_neg k,g2.ot q b hq hb];exact a2 (D:=0) λe3 e4=>absurd ⟨e3,e4⟩ k
     ·rcases g2.wk w hw with h|⟨b,b1,b2⟩
      ·exact .inl h
      ·exact .inr ⟨b,by simp only;omega,b2⟩
     ·exact g2.w1 b (iH (by simp only at hb;omega) λe3=>a5 (by rw[e3];exact k1)) a5 a4
    ·rw[B1 k1,D7 (i:=c1) rfl b3,B8 a7,D7 (i:=c2) rfl b4,B8 a6];by_cases k3:gx O c1 a≠gx O c2 a
     ·right;exact⟨_,by rw[C2 k3],.inl ⟨rfl,a,ha,k1,k2,k3⟩⟩
     ·left;have k3:=oL.1 k3;refine⟨(N1,O1,W1++[⟨gx N c1 a,gx N c2 a⟩],a+1),by rw[B1 (λh=>h k3),D7 (i:=c1) rfl a8,B8 a3,O6,L3],⟨ha,g2.gn,g2.go,λq b hq hb=>?_,λq b hq hb=>?_,λw hw=>?_,λw hw=>K9 _ (g2.w0 w hw),λb hb a5 a4=>?_,by simp only[H4,O8];omega⟩,by simp only;omega⟩
      ·simp only;rw[g2.nx q b hq hb];exact a2 (D:=0) λ_ _ e5=>absurd e5 k1
      ·simp only;rw[g2.ot q b hq hb];exact a2 (D:=0) λ_ _ e5=>absurd e5 k1
      ·rcases I2.1 hw with hw|hw
       ·rcases g2.wk w hw with h|⟨b,b1,b2⟩
        ·exact .inl h
        ·exact .inr ⟨b,by simp only;omega,b2⟩
       ·exact .inr ⟨a,by simp only;omega,k1,k2,I7.1 hw⟩
      ·by_cases e3:b=a
       ·rw[e3];exact⟨k3,L2 _ (I7.2 rfl)⟩
       ·obtain⟨q1,q2⟩:=g2.w1 b (by simp only at hb;omega) a5 a4;exact⟨q1,K9 _ q2⟩
  ·right;have e3:a=I:=by omega
   rw[e3]at g2;exact⟨_,by rw[B1],.inr ⟨N1,O1,W1,rfl,g2⟩⟩
 ·rw[if_neg (λh=>O4 _ h.2.1)]
 ·rw[if_neg (λh=>O4 _ h.2.1)]
 ·exact absurd hb (O4 _)
end
section
def Lab(n:Nat)(cl:Nat->Nat)(W:List T_A2)(f:Nat->Nat):Prop:=(∀q r,q<n->r<n->cl q=cl r->f q=f r)/\∀u v:Nat,(⟨(u:Int),(v:Int)⟩:T_A2)∈W->f u=f v
structure dO(p:A9)(s t:Nat)(cl:Nat->Nat)(N O:A4)(M:List (Int×Int))(W:List T_A2):Prop where
 gn:Grid p.N.length p.I.toNat N
 go:Grid p.N.length p.I.toNat O
 cls:∃C,ClsL p s t C cl
 up:UpOk p.N.length cl M
 wk:∀w,w∈W->∃u v:Nat,w=⟨(u:Int),(v:Int)⟩/\u<p.N.length/\v<p.N.length/\Cong p s t u v
 st:∀f,Lab p.N.length cl W f->f s=f t
 row:∀c a,c<p.N.length->a<p.I.toNat->cl c=c->(gx N c a=-1->gx O c a=-1/\∀r,r<p.N.length->cl r=c->pnx p r a=-1)/\(gx N c a≠-1->∃u:Nat,gx N c a=(u:Int)/\u<p.N.length/\(∃r,r<p.N.length/\cl r=c/\pnx p r a=(u:Int)/\pot p r a=gx O c a)/\∀r,r<p.N.length->cl r=c->pnx p r a≠-1->pot p r a=gx O c a/\∀f,Lab p.N.length cl W f->f u=f (pnx p r a).toNat)
 few:65*Y9 p.N.length cl+W.length<=65*p.N.length+1
 rng:∀q a,q<p.N.length->a<p.I.toNat->gx N q a=-1\/∃u:Nat,gx N q a=(u:Int)/\u<p.N.length
section
variable {p:A9}{s t:Nat}
def dO.join{cl:Nat->Nat}{N O:A4}{M:List (Int×Int)}{W:List T_A2}{u v:Nat}(H:H7 p)(F:dO p s t cl N O M (⟨(u:Int),(v:Int)⟩::W))(hu:u<p.N.length)(hv:v<p.N.length)(huv:Cong p s t u v)(hne:cl u≠cl v){N1 O1:A4}{W1:List T_A2}(J:InI p.N.length p.I.toNat N O W (min (cl u) (cl v)) (max (cl u) (cl v)) N1 O1 W1 p.I.toNat) :
  dO p s t (O7 cl u v) N1 O1 (mset (↑(max (cl u) (cl v)):Int) (↑(min (cl u) (cl v)):Int) M) W1/\65*Y9 p.N.length (O7 cl u v)+W1.length<65*Y9 p.N.length cl+(W.length+1):=by
 obtain⟨C,K⟩:=F.cls;have hn:=H.n2;have hi:=H.i2;obtain⟨C',_,K',a9⟩:=K.join hu hv huv (by omega);have a9:=a9 hne;obtain⟨m1,m2⟩:=K.mm hu hv;have d5:=F.up.join K hu hv hne;have d9:=K.le u hu;have d6:=K.le v hv
 have c9:Cong p s t (min (cl u) (cl v)) (max (cl u) (cl v)):=by
  have h0:Cong p s t (cl u) (cl v):=(K.sound u hu).symm.trans (huv.trans (K.sound v hv));rcases kD (cl u) (cl v) with h|h
  ·rw[oF h,fD h];exact h0
  ·rw[oQ h,oE h];exact h0.symm
 have hj:∀r,O7 cl u v r=if cl r=max (cl u) (cl v) then min (cl u) (cl v) else cl r:=λr=>rfl
 have b8:=joinF_same cl u v;have e0:min (cl u) (cl v)<max (cl u) (cl v):=by omega
 have c7:min (cl u) (cl v)<p.N.length:=by omega
 have b9:max (cl u) (cl v)<p.N.length:=by omega
 generalize d8:min (cl u) (cl v)=c1 at *;generalize d7:max (cl u) (cl v)=c2 at *;have d4:∀r,cl r=c1->O7 cl u v r=c1:=λr h=>by rw[hj,h,if_neg (by omega)]
 have d0:∀r,cl r=c2->O7 cl u v r=c1:=λr h=>by rw[hj,h,if_pos rfl]
 have c8:∀r c,cl r=c->c≠c2->O7 cl u v r=c:=λr c h h2=>by rw[hj,h,if_neg h2]
 have a7:∀f,Lab p.N.length (O7 cl u v) W1 f->Lab p.N.length cl (⟨(u:Int),(v:Int)⟩::W) f:=λf ⟨f1,f2⟩=>⟨λq r hq hr e=>f1 q r hq hr (zL e),λu' v' h=>by
  rcases M4.1 h with h|h
  ·injection h with h3 h4
   have e1:u'=u:=by omega
   have e2:v'=v:=by omega
   rw[e1,e2]
   exact f1 _ _ hu hv b8
  ·exact f2 u' v' (J.w0 _ h)⟩
 have c6:=F.few;have hJ:=J.few;rw[G8]at c6
 have c0:∀q a,q<p.N.length->a<p.I.toNat->gx N1 q a=-1\/∃u:Nat,gx N1 q a=(u:Int)/\u<p.N.length:=λq a hq ha=>by
  rw[J.nx q a hq ha];split
  ·exact F.rng _ _ b9 ha
  ·exact F.rng _ _ hq ha
 refine⟨⟨J.gn,J.go,⟨C',K'⟩,d5,λw hw=>?_,λf hf=>F.st f (a7 f hf),λc a hc ha b5=>?_,by omega,c0⟩,by omega⟩
 ·rcases J.wk w hw with h|⟨b,b1,b2,b3,b4⟩
  ·exact F.wk w (M7 _ h)
  ·obtain⟨u1,a1,a2,⟨r1,d1,d2,d3,_⟩,_⟩:=(F.row c1 b c7 b1 m1).2 b2;obtain⟨u2,e1,e2,⟨r2,g1,g2,g3,_⟩,_⟩:=(F.row c2 b b9 b1 m2).2 b3;refine⟨u1,u2,by rw[b4,a1,e1],a2,e2,.step b u1 u2 ?_ d3 g3⟩;have k1:=K.sound r1 d1;have k2:=K.sound r2 g1;rw[d2]at k1;rw[g2]at k2;exact k1.trans (c9.trans k2.symm)
 ·have b6:cl c=c/\c≠c2:=by
   rw[hj]at b5;split at b5
   ·rename_i g;rw[<- b5,m1]at g;omega
   ·rename_i g;exact⟨b5,λe=>g (by rw[e];exact m2)⟩
  have a3:∀r,O7 cl u v r=c->cl r=c\/(c=c1/\cl r=c2):=λr h=>by
   rw[hj]at h;split at h
   ·rename_i g;exact .inr ⟨h.symm,g⟩
   ·exact .inl h
  by_cases e:c=c1
  ·have hN:=J.nx c a hc ha;have hO:=J.ot c a hc ha;rw[e]at hN hO a3;rw[e];have a5:=F.row c1 a c7 ha m1;have a8:=F.row c2 a b9 ha m2;by_cases k1:gx N c1 a=-1
   ·rw[if_pos ⟨rfl,ha,k1⟩]at hN hO;rw[hN,hO];refine⟨λk2=>⟨(a8.1 k2).1,λr hr a6=>?_⟩,λk2=>?_⟩
    ·rcases a3 r a6 with h|⟨_,h⟩
     ·exact(a5.1 k1).2 r hr h
     ·exact(a8.1 k2).2 r hr h
    ·obtain⟨u2,a1,a2,⟨r2,b1,b2,b3,b4⟩,a4⟩:=a8.2 k2;refine⟨u2,a1,a2,⟨r2,b1,d0 _ b2,b3,b4⟩,λr hr a6 hp=>?_⟩;rcases a3 r a6 with h|⟨_,h⟩
     ·exact absurd ((a5.1 k1).2 r hr h) hp
     ·obtain⟨d1,d2⟩:=a4 r hr h hp;exact⟨d1,λf hf=>d2 f (a7 f hf)⟩
   ·rw[if_neg (λh=>k1 h.2.2)]at hN hO;rw[hN,hO];refine⟨λk=>absurd k k1,λ_=>?_⟩;obtain⟨u1,a1,a2,⟨r1,b1,b2,b3,b4⟩,a4⟩:=a5.2 k1;refine⟨u1,a1,a2,⟨r1,b1,d4 _ b2,b3,b4⟩,λr hr a6 hp=>?_⟩;rcases a3 r a6 with h|⟨_,h⟩
    ·obtain⟨d1,d2⟩:=a4 r hr h hp;exact⟨d1,λf hf=>d2 f (a7 f hf)⟩
    ·have k2:gx N c2 a≠-1:=λk=>hp ((a8.1 k).2 r hr h);obtain⟨u2,e1,e2,_,e4⟩:=a8.2 k2;obtain⟨d1,d2⟩:=e4 r hr h hp;obtain⟨j1,j2⟩:=J.w1 a ha k1 k2;rw[a1,e1]at j2;exact⟨by rw[j1];exact d1,λf hf=>(hf.2 u1 u2 j2).trans (d2 f (a7 f hf))⟩
  ·have hN:=J.nx c a hc ha;have hO:=J.ot c a hc ha;rw[if_neg (λh=>e h.1)]at hN hO;rw[hN,hO];have a5:=F.row c a hc ha b6.1;have b7:∀r,O7 cl u v r=c->cl r=c:=λr h=>(a3 r h).elim id λh=>absurd h.1 e;refine⟨λk=>⟨(a5.1 k).1,λr hr a6=>(a5.1 k).2 r hr (b7 r a6)⟩,λk=>?_⟩;obtain⟨u1,a1,a2,⟨r1,b1,b2,b3,b4⟩,a4⟩:=a5.2 k;refine⟨u1,a1,a2,⟨r1,b1,c8 _ _ b2 b6.2,b3,b4⟩,λr hr a6 hp=>?_⟩;obtain⟨d1,d2⟩:=a4 r hr (b7 r a6) hp;exact⟨d1,λf hf=>d2 f (a7 f hf)⟩
def fold_step(H:H7 p){cl:Nat->Nat}{N O:A4}{M:List (Int×Int)}{W:List T_A2}(F:dO p s t cl N O M W) :
  (W=[]/\I4.s46 N O M W=some (.inr (.inl (N,O,M))))\/(I4.s46 N O M W=some (.inr (.inr (⟨0,0,[],[]⟩,[],false)))/\P8 p s t)\/∃N' O' M' W' cl',I4.s46 N O M W=some (.inl (N',O',M',W'))/\dO p s t cl' N' O' M' W'/\65*Y9 p.N.length cl'+W'.length<65*Y9 p.N.length cl+W.length:=by
 have hn:=H.n2;have hi:=H.i2;cases W with
 |nil=>exact .inl ⟨rfl,by unfold I4.s46;rw[B1 (by simp)]⟩
 |cons w W =>
  right;obtain⟨u,v,rfl,hu,hv,a9⟩:=F.wk w U9;obtain⟨C,K⟩:=F.cls;have a8:=F.few;rw[G8]at a8;have c6:=K.le u hu;have c0:=K.le v hv;have e0:=of_eq F.up (by omega) hu;have e1:=of_eq F.up (by omega) hv;by_cases g:cl u=cl v
  ·right;refine⟨N,O,M,W,cl,?_,⟨F.gn,F.go,F.cls,F.up,λw hw=>F.wk w (M7 _ hw),λf hf=>F.st f ?_,λc a hc ha b9=>?_,by omega,F.rng⟩,by rw[G8];omega⟩
   ·unfold I4.s46;rw[C2 (by rw[G8];omega),B8 (x:=⟨(u:Int),(v:Int)⟩) rfl,e0,A5,B8 (x:=⟨(u:Int),(v:Int)⟩) rfl,e1,A5,H9 (by simp),C2 (by simp[g]),A5,T6];rfl
   ·refine⟨hf.1,λu' v' h=>?_⟩;rcases M4.1 h with h|h
    ·injection h with h3 h4
     have q1:u'=u:=by omega
     have q2:v'=v:=by omega
     rw[q1,q2];exact hf.1 u v hu hv g
    ·exact hf.2 u' v' h
   ·have b5:∀f,Lab p.N.length cl W f->Lab p.N.length cl (⟨(u:Int),(v:Int)⟩::W) f:=λf hf=>⟨hf.1,λu' v' h=>by
     rcases M4.1 h with h|h
     ·injection h with h3 h4
      have q1:u'=u:=by omega
      have q2:v'=v:=by omega
      rw[q1,q2]
      exact hf.1 u v hu hv g
     ·exact hf.2 u' v' h⟩
    obtain⟨r1,r2⟩:=F.row c a hc ha b9;refine⟨r1,λk=>?_⟩;obtain⟨x,a1,a2,a3,a4⟩:=r2 k;exact⟨x,a1,a2,a3,λr hr a7 hp=>⟨(a4 r hr a7 hp).1,λf hf=>(a4 r hr a7 hp).2 f (b5 f hf)⟩⟩
  ·have a6:min (cl u) (cl v)<p.N.length:=by omega
   have a5:max (cl u) (cl v)<p.N.length:=by omega
   obtain⟨m1,m2⟩:=K.mm hu hv;obtain⟨x2,b8,b6⟩:=F.gn.row _ a5;obtain⟨r,e,hr⟩:=loop_in (W0:=W) (c1:=min (cl u) (cl v)) (c2:=max (cl u) (cl v)) (x:=((↑(cl u):Int),M)) (y:=((↑(cl v):Int),M)) (show min (↑(cl u):Int) (↑(cl v):Int)=_ by omega) (show max (↑(cl u):Int) (↑(cl v):Int)=_ by omega) a6 a5 (by omega) b6 (by omega) F.gn F.go (λb hb h=>((F.row _ b a6 hb m1).1 h).1) (λb hb h=>((F.row _ b a5 hb m2).1 h).1) (by omega)
   have es:I4.s46 N O M (⟨(u:Int),(v:Int)⟩::W)=((Sum.elim (λ(s:A4×A4×List T_A2)=>I4.k44 (mset (↑(max (cl u) (cl v)):Int) (↑(min (cl u) (cl v)):Int) M) s.1 s.2.1 s.2.2) some r)).bind (Sum.elim (λ(s:A4×A4×(List (Int×Int))×List T_A2)=>I4.k45 s.1 s.2.1 s.2.2.1 s.2.2.2) some):=by
    unfold I4.s46
    have ej:qZ ⟨M⟩ (min (↑(cl u):Int) (↑(cl v):Int)) (max (↑(cl u):Int) (↑(cl v):Int))=some (mset (↑(max (cl u) (cl v)):Int) (↑(min (cl u) (cl v)):Int) M):=by
     unfold qZ;rw[show max (↑(cl u):Int) (↑(cl v):Int)=(↑(max (cl u) (cl v)):Int) by omega,show min (↑(cl u):Int) (↑(cl v):Int)=(↑(min (cl u) (cl v)):Int) by omega]
    rw[C2 (by rw[G8];omega),B8 (x:=⟨(u:Int),(v:Int)⟩) rfl,e0,A5,B8 (x:=⟨(u:Int),(v:Int)⟩) rfl,e1,A5,H9 (by simp),B1 (by simp only;omega),ej,A5,D7 (i:=max (cl u) (cl v)) (by simp only;omega) b8,List.drop_succ_cons,rD,e,A5]
   rw[es];rcases hr with⟨hr,b,b1,b2,b3,b4⟩|⟨N1,O1,W1,hr,J⟩
   ·left;refine⟨by rw[hr,eC,A5,eC],?_⟩;obtain⟨u1,_,_,⟨r1,d1,d2,d3,d4⟩,_⟩:=(F.row _ b a6 b1 m1).2 b2;obtain⟨u2,_,_,⟨r2,g1,g2,g3,g4⟩,_⟩:=(F.row _ b a5 b1 m2).2 b3;have k1:=K.sound r1 d1;have k2:=K.sound r2 g1;rw[d2]at k1;rw[g2]at k2;have h0:Cong p s t (cl u) (cl v):=(K.sound u hu).symm.trans (a9.trans (K.sound v hv))
    have b7:Cong p s t (min (cl u) (cl v)) (max (cl u) (cl v)):=by
     rcases kD (cl u) (cl v) with h|h
     ·rw[oF h,fD h];exact h0
     ·rw[oQ h,oE h];exact h0.symm
    exact⟨r1,r2,b,k1.trans (b7.trans k2.symm),by rw[d3];omega,by rw[g3];omega,by rw[d4,g4];exact b4⟩
   ·right;obtain⟨F',hd⟩:=F.join H hu hv a9 g J;exact⟨N1,O1,_,W1,_,by rw[hr,T6];unfold I4.k44;rw[A5,T6];rfl,F',by rw[G8];exact hd⟩
def repsM(n:Nat)(M:List (Int×Int)):Nat:=(List.range n).countP λ(q:Nat)=>(mget (q:Int) M).isNone
def loop_fold(H:H7 p)(hs:s<p.N.length)(ht:t<p.N.length) :
  ∃r,iter (λ(q:A4×A4×(List (Int×Int))×List T_A2)=>I4.s46 q.1 q.2.1 q.2.2.1 q.2.2.2) fuel (p.N,p.O,[],[⟨(s:Int),(t:Int)⟩])=some r /\
   ((r=.inr (⟨0,0,[],[]⟩,[],false)/\P8 p s t)\/∃N O M cl,r=.inl (N,O,M)/\dO p s t cl N O M []):=by
 have hn:=H.n2;have hi:=H.i2;have K0:ClsL p s t ((List.range p.N.length).map λ(b:Nat)=>(b:Int)) (λb=>b):=⟨by simp,λq hq=>by rw[H1,P4 hq];rfl,λq _=>F9 q,λ_ _=>rfl,λq _=>.refl q⟩
 have F0:dO p s t (λb=>b) p.N p.O [] [⟨(s:Int),(t:Int)⟩]:=by
  refine⟨H.gn,H.go,⟨_,K0⟩,⟨λq _ _=>rfl,λq _ h=>absurd rfl h⟩,λw hw=>⟨s,t,I7.1 hw,hs,ht,.base⟩,λf hf=>hf.2 s t (I7.2 rfl),λc a hc ha _=>?_,?_,λq a hq ha=>?_⟩
  ·obtain⟨n1,n2,n3,n4,n5,_⟩:=H.at hc ha;have h1:gx p.N c a=pnx p c a:=rfl;have h2:gx p.O c a=pot p c a:=rfl;rw[h1,h2];refine⟨λh=>⟨n5.1 h,λr _ e=>by rw[e];exact h⟩,λh=>⟨(pnx p c a).toNat,by omega,by omega,⟨c,hc,rfl,by omega,rfl⟩,λr _ e _=>?_⟩⟩;rw[e];exact⟨rfl,λf _=>rfl⟩
  ·have:=pG p.N.length λb=>b;simp only[O8];omega
  ·obtain⟨n1,n2,_⟩:=H.at hq ha;have h1:gx p.N q a=pnx p q a:=rfl;rw[h1];by_cases k:pnx p q a=-1
   ·exact .inl k
   ·exact .inr ⟨(pnx p q a).toNat,by omega,by omega⟩
 have hm:∀(cl:Nat->Nat) (M:List (Int×Int)),UpOk p.N.length cl M->repsM p.N.length M=Y9 p.N.length cl:=λcl M U=>by
  unfold repsM Y9;refine List.countP_congr λq hq=>?_;have hq:=K6.1 hq;by_cases h:cl q=q
  ·rw[U.u0 q hq h,E9 h];simp
  ·obtain⟨w,_,w2,_⟩:=U.u1 q hq h;rw[w2,I3 h];simp
 refine aZ (step:=λ(q:A4×A4×(List (Int×Int))×List T_A2)=>I4.s46 q.1 q.2.1 q.2.2.1 q.2.2.2) (λq=>∃cl,dO p s t cl q.1 q.2.1 q.2.2.1 q.2.2.2) (λq=>65*repsM p.N.length q.2.2.1+q.2.2.2.length) (λr=>(r=.inr (⟨0,0,[],[]⟩,[],false)/\P8 p s t)\/∃N O M cl,r=.inl (N,O,M)/\dO p s t cl N O M []) (λ⟨N,O,M,W⟩ ⟨cl,F⟩=>?_) fuel _ ⟨_,F0⟩ ?_
 ·simp only at F;simp only;rcases fold_step H F with⟨e1,e2⟩|⟨e1,e2⟩|⟨N',O',M',W',a2,e1,F',e2⟩
  ·rw[e1]at F;exact .inr ⟨_,e2,.inr ⟨N,O,M,cl,rfl,F⟩⟩
  ·exact .inr ⟨_,e1,.inl ⟨rfl,e2⟩⟩
  ·exact .inl ⟨(N',O',M',W'),e1,⟨a2,F'⟩,by simp only;rw[hm _ _ F.up,hm _ _ F'.up];exact e2⟩
 ·have h1:=hm _ _ F0.up;have h2:=pG p.N.length λb=>b;have:=Y0;simp only[O8];omega
def dO.done(H:H7 p)(hs:s<p.N.length)(ht:t<p.N.length){cl:Nat->Nat}{N O:A4}{M:List (Int×Int)}(F:dO p s t cl N O M []):(∀q,q<p.N.length->cl q=clsOf p s t q)/\¬P8 p s t:=by
 obtain⟨C,K⟩:=F.cls;have a5:Lab p.N.length cl [] cl:=⟨λ_ _ _ _ h=>h,λ_ _ h=>by cases h⟩;refine cls_done H hs ht K (F.st cl a5) λa ha q r hq hr e h1 h2=>?_;have hc:cl q<p.N.length:=by have:=K.le q hq;omega
 obtain⟨r1,r2⟩:=F.row (cl q) a hc ha (K.idem q hq);by_cases k:gx N (cl q) a=-1
 ·exact absurd ((r1 k).2 q hq rfl) h1
 ·obtain⟨u,a1,a2,a3,a4⟩:=r2 k;obtain⟨b1,b2⟩:=a4 q hq rfl h1;obtain⟨c1,c2⟩:=a4 r hr e.symm h2;exact⟨b1.trans c1.symm,(b2 cl a5).symm.trans (c2 cl a5)⟩
end
end
def eV{V:Type}[DecidableEq V]:∀{a b:List V},a.Nodup->(∀x∈a,x∈b)->a.length<=b.length
 |[],_,_,_=>D8 _
 |x::a,b,hn,h=>by
  obtain⟨h1,h2⟩:=aR.1 hn;have:=eV (a:=a) (b:=b.erase x) h2 λy hy=>(yZ (λe=>h1 (by rw[<- e];exact hy))).2 (h y (M7 _ hy));rw[yX (h x U9)]at this;have hp:0<b.length:=uM (h x U9);rw[G8];omega
def addT(L:List Nat)(t:Int):List Nat:=if t=-1\/t.toNat∈L then L else L++[t.toNat]
def bfsL(R:Nat->A2):Nat->Nat->List Nat->List Nat
 |0,_,L=>L
 |f+1,i,L=>match L[i]? with
  |none=>L
  |some c=>bfsL R f (i+1) ((R c).foldl addT L)
structure NumL(n:Nat)(L:List Nat)(nums:A2):Prop where
 len:nums.length=n
 at_:∀c,c<n->nums[c]?=some (if c∈L then(↑(L.idxOf c):Int) else -1)
 nd:L.Nodup
 lt:∀c,c∈L->c<n
def NumL.le{n:Nat}{L:List Nat}{nums:A2}(A:NumL n L nums):L.length<=n:=by
 have:=eV (b:=List.range n) A.nd λx hx=>K6.2 (A.lt x hx)
 rwa [M5]at this
def NumL.push{n:Nat}{L:List Nat}{nums:A2}(A:NumL n L nums){c:Nat}(hc:c<n)(h:c∉L):NumL n (L++[c]) (nums.set c (L.length:Int)):=by
 have hl:=A.len;refine⟨by rw[P2];exact A.len,λd hd=>?_,?_,λd hd=>?_⟩
 ·by_cases e:d=c
  ·subst e;rw[P5 (by omega),if_pos (L2 _ (I7.2 rfl)),oK,if_neg h];simp
  ·rw[O3 (by omega),A.at_ d hd];by_cases k:d∈L
   ·rw[if_pos k,if_pos (K9 _ k),oK,if_pos k]
   ·rw[if_neg k,if_neg (λg=>(I2.1 g).elim k λg=>e (I7.1 g))]
 ·refine V5.2 ⟨A.nd,by simp,λa ha b hb=>?_⟩;rw[I7.1 hb];exact λg=>h (by rw[<- g];exact ha)
 ·rcases I2.1 hd with k|k
  ·exact A.lt d k
  ·rw[I7.1 k];exact hc
def I0(L:List Nat):A2:=L.map λ(c:Nat)=>(c:Int)
def loop_s18{n:Nat}{e:A2}(he:∀(k:Nat) (t:Int),e[k]?=some t->t=-1\/∃u:Nat,t=(u:Int)/\u<n)(hl:e.length<=1000000){L:List Nat}{nums:A2}(A:NumL n L nums)(hn:n<=1000000) :
  ∃nums',iter (λ(s:A2×A2×Nat)=>M0.s18 e s.1 s.2.1 s.2.2) fuel (nums,I0 L,0)=some (nums',I0 (e.foldl addT L))/\NumL n (e.foldl addT L) nums':=by
 have key:=J2 (step:=λ(s:A2×A2×Nat)=>M0.s18 e s.1 s.2.1 s.2.2) (λs=>s.2.2<=e.length/\∃L',s.2.1=I0 L'/\NumL n L' s.1/\(e.drop s.2.2).foldl addT L'=e.foldl addT L) (λs=>e.length-s.2.2) (λr=>∃nums',r=(nums',I0 (e.foldl addT L))/\NumL n (e.foldl addT L) nums') (λ⟨y,z,k⟩ ⟨g1,L',g2,g3,g4⟩=>by
  simp only at g1 g2 g3 g4
  subst g2
  simp only[M0.s18]
  by_cases h:k<e.length
  ·left
   have hx:=get_at h
   have hd:(e.drop k).foldl addT L'=(e.drop (k+1)).foldl addT (addT L' e[k]):=by rw[fI h,gA]
   rw[hd]at g4
   rw[M6 hx,F7,B8 hx]
   by_cases t0:e[k]=-1
   ·exact⟨(y,I0 L',k+1),by rw[B1 (λg=>g t0),A5,G5],⟨h,L',rfl,g3,by rw[<- g4];unfold addT;rw[if_pos (.inl t0)]⟩,by simp only;omega⟩
   ·obtain⟨u,hu,a2⟩:=(he k _ hx).resolve_left t0
    have hy:=g3.at_ u a2
    rw[C2 t0,D7 (i:=u) hu hy,A5]
    by_cases k1:u∈L'
    ·rw[if_pos k1,B1]
     exact⟨(y,I0 L',k+1),rfl,⟨h,L',rfl,g3,by rw[<- g4];unfold addT;rw[if_pos (.inr (by rw[hu];exact k1))]⟩,by simp only;omega⟩
    ·have a4:=g3.le
     have a3:(I0 L').length=L'.length:=by unfold I0;rw[B7]
     rw[if_neg k1,C2 rfl,D7 (i:=u) hu hy,O6]
     refine⟨(y.set u (L'.length:Int),I0 (L'++[u]),k+1),?_,⟨h,L'++[u],rfl,g3.push a2 k1,?_⟩,by simp only;omega⟩
     ·rw[hu,a3]
      unfold I0
      rw[L1,H6]
      rfl
     ·rw[<- g4]
      unfold addT
      rw[if_neg (λg=>g.elim t0 λg=>k1 (by rw[hu]at g;exact g)),hu,H6]
  ·right
   have e1:k=e.length:=by omega
   subst e1
   rw[rG]at g4
   refine⟨_,by rw[X6,G5],y,?_,?_⟩
   ·rw[<- g4];rfl
   ·rw[<- g4];exact g3) (nums,I0 L,0) ⟨D8 _,L,rfl,A,rfl⟩
 obtain⟨r,e1,nums',rfl,h⟩:=key;exact⟨nums',e1,h⟩
structure fJ(p:A9):Prop where
 i1:0<=p.I
 i2:p.I<=64
 n2:p.N.length<=1000000
 st:∃c:Nat,p.S=(c:Int)/\c<p.N.length
 gn:Grid p.N.length p.I.toNat p.N
 go:Grid p.N.length p.I.toNat p.O
 rng:∀q a,q<p.N.length->a<p.I.toNat->gx p.N q a=-1\/∃u:Nat,gx p.N q a=(u:Int)/\u<p.N.length
def ordP(p:A9):List Nat:=bfsL (λc=>(p.N[c]?).getD []) (p.N.length+1) 0 [p.S.toNat]
def tJ{x:Nat}(hx:x<=1000000):Z7 (x:Int)=some (List.replicate x (-1)):=by
 unfold Z7;rw[H9 ⟨by omega,eF _,by unfold B4;omega⟩,H6]
 have key:=J2 (step:=λ(q:A2×Nat)=>Z7.s2 (x:Int) q.1 q.2) (λq=>q.2<=x/\Wrt (λ_=>(-1:Int)) (List.replicate x 0) q.2 q.1) (λq=>x-q.2) (λr=>r=List.replicate x (-1)) (λ⟨y,i⟩ ⟨g1,g2⟩=>by
  simp only at g1 g2
  simp only[Z7.s2,H6,K7]
  have a2:=g2.len
  rw[K7]at a2
  by_cases h:i<x
  ·left
   exact⟨(y.set i (-1),i+1),by rw[C2,B8 (get_at (l:=y) (i:=i) (by omega)),L3],⟨h,g2.step (by rw[K7];exact h) rfl⟩,by simp only;omega⟩
  ·right
   refine⟨_,by rw[B1],?_⟩
   rw[g2.done (by rw[K7];omega),K7]
   exact aA λb=>by
    by_cases g:b<x
    ·rw[H1,P4 g,Y8,if_pos g];rfl
    ·rw[L0 (by simp;omega),L0 (by simp;omega)]) (List.replicate x 0,0) ⟨D8 _,Wrt.zero _ _⟩
 obtain⟨r,e,rfl⟩:=key;rw[e,A5]
def loop_s20{p:A9}(R:fJ p):∃nums,iter (λ(s:A2×A2×Nat)=>M0.s20 p s.1 s.2.1 s.2.2) fuel ((List.replicate p.N.length (-1)).set p.S.toNat 0,[p.S],0)=some (nums,I0 (ordP p))/\NumL p.N.length (ordP p) nums:=by
 obtain⟨c,hc,a5⟩:=R.st;have hn:=R.n2
 have A0:NumL p.N.length [c] ((List.replicate p.N.length (-1)).set c 0):=by
  have B:NumL p.N.length [] (List.replicate p.N.length (-1)):=⟨K7,λd hd=>by rw[Y8,if_pos hd,if_neg yK],jE,λd hd=>by cases hd⟩;exact B.push a5 yK
 have key:=J2 (step:=λ(s:A2×A2×Nat)=>M0.s20 p s.1 s.2.1 s.2.2) (λs=>∃L,s.2.1=I0 L/\s.2.2<=L.length/\NumL p.N.length L s.1/\bfsL (λc=>(p.N[c]?).getD []) (p.N.length+1-s.2.2) s.2.2 L=ordP p) (λs=>p.N.length+1-s.2.2) (λr=>∃nums,r=(nums,I0 (ordP p))/\NumL p.N.length (ordP p) nums) (λ⟨y,z,i⟩ ⟨L,g1,g2,g3,g4⟩=>by
  simp only at g1 g2 g3 g4
  subst g1
  simp only[M0.s20]
  have a7:=g3.le
  have a4:(I0 L).length=L.length:=by unfold I0;rw[B7]
  by_cases h:i<L.length
  ·left
   have hx:=get_at h
   have hq:L[i]<p.N.length:=g3.lt _ (M8 h)
   obtain⟨x,x1,x2⟩:=R.gn.row _ hq
   obtain⟨a2,e1,e2⟩:=loop_s18 (e:=x) (λk t hk=>by
    have a6:=(E0.1 hk).1
    have:=R.rng L[i] k hq (by omega)
    unfold gx at this
    rw[x1,E7,hk,E7]at this
    exact this) (by have:=R.i2;omega) g3 hn
   have a8:=e2.le
   have a3:i+1<=(x.foldl addT L).length:=by
    have:∀(x:A2) (L:List Nat),L.length<=(x.foldl addT L).length:=by
     intro x
     induction x with
     |nil=>exact λL=>F9 _
     |cons t x ih =>
      intro L
      rw[gA]
      refine aP ?_ (ih _)
      unfold addT
      split
      ·exact F9 _
      ·rw[H4];omega
    have:=this x L
    omega
   refine⟨(a2,I0 (x.foldl addT L),i+1),?_,⟨_,rfl,a3,e2,?_⟩,by simp only;omega⟩
   ·rw[C2,B8 (x:=(↑L[i]:Int)) (by unfold I0;rw[H1,hx];rfl),D7 (i:=L[i]) rfl x1,e1,A5]
    rfl
   ·rw[<- g4,show p.N.length+1-i=(p.N.length+1-(i+1))+1 by omega]
    simp only[bfsL,hx,x1,E7]
  ·right
   have e1:ordP p=L:=by
    rw[<- g4]
    cases hk:p.N.length+1-i with
    |zero=>rfl
    |succ k =>
     simp only[bfsL]
     rw[show L[i]?=none from L0 (by omega)]
   exact⟨_,by rw[B1],y,by rw[e1],by rw[e1];exact g3⟩) ((List.replicate p.N.length (-1)).set p.S.toNat 0,[p.S],0) ⟨[c],by rw[hc];rfl,D8 _,by rw[hc];exact A0,by unfold ordP;rw[hc,H6];rfl⟩
 obtain⟨r,e1,nums,rfl,h⟩:=key;exact⟨nums,e1,h⟩
def numT(F:List Nat)(t:Int):Int:=if t≠-1/\t.toNat∈F then(↑(F.idxOf t.toNat):Int) else -1
def U0(p:A9)(F:List Nat)(c:Nat):A2:=(List.range p.I.toNat).map λa=>numT F (gx p.N c a)
def Z0(p:A9)(c:Nat):A2:=(List.range p.I.toNat).map λa=>if gx p.N c a=-1 then(-1:Int) else gx p.O c a
def loop_s38{p:A9}(R:fJ p){F:List Nat}{nums:A2}(A:NumL p.N.length F nums){c:Nat}(hc:c<p.N.length){x:A2}(hx:p.N[c]?=some x) :
  iter (λ(s:A2×A2×Nat)=>M0.s38 p nums (c:Int) x s.1 s.2.1 s.2.2) fuel (List.replicate p.I.toNat (-1),List.replicate p.I.toNat (-1),0)=some (U0 p F c,Z0 p c):=by
 have hi:=R.i2;obtain⟨x',a2,a6⟩:=R.gn.row c hc;rw[hx]at a2;injection a2 with a2
 subst a2
 have key:=J2 (step:=λ(s:A2×A2×Nat)=>M0.s38 p nums (c:Int) x s.1 s.2.1 s.2.2) (λs=>s.2.2<=p.I.toNat/\Wrt (λa=>numT F (gx p.N c a)) (List.replicate p.I.toNat (-1)) s.2.2 s.1/\Wrt (λa=>if gx p.N c a=-1 then(-1:Int) else gx p.O c a) (List.replicate p.I.toNat (-1)) s.2.2 s.2.1) (λs=>p.I.toNat-s.2.2) (λr=>r=(U0 p F c,Z0 p c)) (λ⟨y,z,k⟩ ⟨g1,g2,g3⟩=>by
  simp only at g1 g2 g3
  simp only[M0.s38]
  have a4:=g2.len
  have a3:=g3.len
  rw[K7]at a4 a3
  by_cases h:k<p.I.toNat
  ·left
   obtain⟨x1,q1,q2,q3⟩:=R.gn.at hc h
   obtain⟨o1,r1,r2,r3⟩:=R.go.at hc h
   rw[hx]at q1
   injection q1 with q1
   subst q1
   rw[C2,B8 q2]
   by_cases t0:gx p.N c k=-1
   ·refine⟨(y,z,k+1),by rw[B1 (λg=>g t0)],⟨h,g2.skip (by rw[K7];exact h) ?_,g3.skip (by rw[K7];exact h) ?_⟩,by simp only;omega⟩
    ·rw[Y8,if_pos h]
     unfold numT
     rw[if_neg (λg=>g.1 t0)]
    ·rw[Y8,if_pos h,if_pos t0]
   ·obtain⟨u,hu,a5⟩:=(R.rng c k hc h).resolve_left t0
    have hy:=A.at_ u a5
    refine⟨(y.set k (numT F (gx p.N c k)),z.set k (gx p.O c k),k+1),?_,⟨h,g2.step (by rw[K7];exact h) rfl,g3.step (by rw[K7];exact h) (by rw[if_neg t0])⟩,by simp only;omega⟩
    rw[C2 t0,D7 (i:=u) hu hy,D7 (i:=c) rfl r1,B8 r2,B8 (get_at (l:=y) (i:=k) (by omega)),B8 (get_at (l:=z) (i:=k) (by omega))]
    have:numT F (gx p.N c k)=if u∈F then(↑(F.idxOf u):Int) else -1:=by
     unfold numT
     rw[hu,H6]
     by_cases k1:u∈F
     ·rw[if_pos ⟨by omega,k1⟩,if_pos k1]
     ·rw[if_neg (λg=>k1 g.2),if_neg k1]
    rw[this]
  ·right
   have e1:k=p.I.toNat:=by omega
   subst e1
   refine⟨_,by rw[B1],?_⟩
   rw[g2.done (by rw[K7];exact F9 _),g3.done (by rw[K7];exact F9 _),K7]
   rfl) (List.replicate p.I.toNat (-1),List.replicate p.I.toNat (-1),0) ⟨D8 _,Wrt.zero _ _,Wrt.zero _ _⟩
 obtain⟨r,e1,rfl⟩:=key;exact e1
def renP(p:A9):A9:=⟨p.I,0,(ordP p).map (U0 p (ordP p)),(ordP p).map (Z0 p)⟩
def jA{p:A9}(R:fJ p):∃nums,M0 p=some (renP p,nums)/\NumL p.N.length (ordP p) nums:=by
 obtain⟨nums,e1,A⟩:=loop_s20 R;obtain⟨c,hc,a4⟩:=R.st;have hn:=R.n2;have hi:=R.i2;have a3:=R.i1;have a6:=A.le;refine⟨nums,?_,A⟩
 have a5:Z7 p.I=some (List.replicate p.I.toNat (-1)):=by
  have:=tJ (x:=p.I.toNat) (by omega)
  rwa [oO a3]at this
 have a2:(I0 (ordP p)).length=(ordP p).length:=by unfold I0;rw[B7]
 have key:=J2 (step:=λ(s:A4×A4×Nat)=>M0.s40 p nums (I0 (ordP p)) s.1 s.2.1 s.2.2) (λs=>s.2.2<=(ordP p).length/\s.1=((ordP p).take s.2.2).map (U0 p (ordP p))/\s.2.1=((ordP p).take s.2.2).map (Z0 p)) (λs=>(ordP p).length-s.2.2) (λr=>r=((ordP p).map (U0 p (ordP p)),(ordP p).map (Z0 p))) (λ⟨y,z,k⟩ ⟨g1,g2,g3⟩=>by
  simp only at g1 g2 g3
  subst g2
  subst g3
  simp only[M0.s40]
  by_cases h:k<(ordP p).length
  ·left
   have hx:=get_at h
   have hq:(ordP p)[k]<p.N.length:=A.lt _ (M8 h)
   obtain⟨x,x1,x2⟩:=R.gn.row _ hq
   have a8:(((ordP p).take k).map (U0 p (ordP p))).length=k:=by rw[B7,M3];omega
   have a7:(((ordP p).take k).map (Z0 p)).length=k:=by rw[B7,M3];omega
   refine⟨(((ordP p).take (k+1)).map (U0 p (ordP p)),((ordP p).take (k+1)).map (Z0 p),k+1),?_,⟨h,rfl,rfl⟩,by simp only;omega⟩
   rw[C2,B8 (x:=(↑(ordP p)[k]:Int)) (by unfold I0;rw[H1,hx];rfl),a5,A5,A5,D7 (i:=(ordP p)[k]) rfl x1,loop_s38 R A hq x1,A5]
   unfold M0.k39
   simp only
   rw[O6,O6,kF h,L1,L1]
   rfl
  ·right
   have e1:k=(ordP p).length:=by omega
   subst e1
   exact⟨_,by rw[B1],by rw[R5]⟩) ([],[],0) ⟨D8 _,rfl,rfl⟩
 obtain⟨r,e2,rfl⟩:=key;unfold M0;rw[tJ hn,A5,D7 (i:=c) hc (x:=(-1:Int)) (by rw[Y8,if_pos a4]),e1,A5];unfold M0.k42;simp only;rw[e2,A5];rfl
section
def place_eq{L:List Nat}{d:Nat}(hl:L.length<=10000000):gS (I0 L) (d:Int)=some (↑(L.idxOf d):Int):=by
 have a2:(I0 L).length=L.length:=by unfold I0;rw[B7]
 have key:=J2 (step:=λ(i:Nat)=>gS.s2 (I0 L) (d:Int) i) (λi=>i<=L.length/\d∉L.take i) (λi=>L.length-i) (λr=>r=L.idxOf d) (λi ⟨g1,g2⟩=>by
  simp only[gS.s2]
  by_cases h:i<L.length
  ·have hx:=get_at h
   rw[C2,B8 (x:=(↑L[i]:Int)) (by unfold I0;rw[H1,hx];rfl),A5]
   by_cases e:L[i]=d
   ·right
    refine⟨i,by rw[B1],?_⟩
    have hL:L=L.take i++L[i]::L.drop (i+1):=by rw[<- fI h,zD]
    rw[hL,oK,if_neg g2,e,List.idxOf_cons_self,E8,M3]
    omega
   ·left
    refine⟨i+1,by rw[C2,L3],⟨h,λhm=>?_⟩,by omega⟩
    rw[kF h]at hm
    rcases I2.1 hm with k|k
    ·exact g2 k
    ·exact e (I7.1 k).symm
  ·right
   have e1:i=L.length:=by omega
   subst e1
   rw[R5]at g2
   exact⟨L.length,by rw[B1,A5,G5],(List.idxOf_eq_length g2).symm⟩) 0 ⟨D8 _,by simp⟩
 obtain⟨r,e1,rfl⟩:=key;unfold gS;rw[e1,A5]
section
variable {p:A9}
def knownQ_eq(H:H7 p){cl:Nat->Nat}{c a:Nat}(ha:a<p.I.toNat):∃k,kZ p ((List.range p.N.length).map λq=>(↑(cl q):Int)) (c:Int) (a:Int)=some k/\((k=-1/\∀r,r<p.N.length->cl r=c->pnx p r a=-1)\/∃q:Nat,k=(q:Int)/\q<p.N.length/\cl q=c/\pnx p q a≠-1):=by
 have hn:=H.n2
 have key:=J2 (step:=λ(q:Nat)=>kZ.s2 p ((List.range p.N.length).map λq=>(↑(cl q):Int)) (c:Int) (a:Int) q) (λq=>q<=p.N.length/\∀r,r<q->cl r=c->pnx p r a=-1) (λq=>p.N.length-q) (λr=>(r=.inl ()/\∀r,r<p.N.length->cl r=c->pnx p r a=-1)\/∃q:Nat,r=.inr (q:Int)/\q<p.N.length/\cl q=c/\pnx p q a≠-1) (λq ⟨g1,g2⟩=>by
  simp only[kZ.s2,B7,M5]
  by_cases h:q<p.N.length
  ·obtain⟨_,_,_,_,_,x,y,hx,hy,a3,a4,_,_⟩:=H.at h ha
   rw[C2,B8 (x:=(↑(cl q):Int)) (by rw[H1,P4 h];rfl)]
   by_cases e:cl q=c
   ·rw[C2,B8 hx,D7 (i:=a) rfl a3,A5]
    by_cases k:pnx p q a=-1
    ·left
     refine⟨q+1,by rw[B1 (λg=>g k)],⟨h,λr hr a2=>?_⟩,by omega⟩
     by_cases e2:r=q
     ·rw[e2];exact k
     ·exact g2 r (by omega) a2
    ·right
     exact⟨_,by rw[C2 k],.inr ⟨q,rfl,h,e,k⟩⟩
   ·left
    refine⟨q+1,by rw[B1,A5,G5],⟨h,λr hr a2=>?_⟩,by omega⟩
    by_cases e2:r=q
    ·rw[e2]at a2;exact absurd a2 e
    ·exact g2 r (by omega) a2
  ·right
   have e1:q=p.N.length:=by omega
   subst e1
   exact⟨_,by rw[B1],.inl ⟨rfl,g2⟩⟩) 0 ⟨D8 _,λr hr=>absurd hr (O4 _)⟩
 obtain⟨r,e1,hr⟩:=key;unfold kZ;rw[e1,A5];rcases hr with⟨rfl,h⟩|⟨q,rfl,h⟩
 ·exact⟨-1,by rw[T6],.inl ⟨rfl,h⟩⟩
 ·exact⟨_,by rw[eC],.inr ⟨q,rfl,h⟩⟩
structure eK(p Q:A9)(cl:Nat->Nat):Prop where
 ren:fJ Q
 len:Q.N.length=p.N.length
 inp:Q.I=p.I
 st:Q.S=(↑(cl p.S.toNat):Int)
 idem:∀q,q<p.N.length->cl (cl q)=cl q
 lt:∀q,q<p.N.length->cl q<p.N.length
 row:∀c a,c<p.N.length->a<p.I.toNat->cl c=c->(gx Q.N c a=-1->∀r,r<p.N.length->cl r=c->pnx p r a=-1)/\(gx Q.N c a≠-1->(∃r,r<p.N.length/\cl r=c/\pnx p r a≠-1)/\∀r,r<p.N.length->cl r=c->pnx p r a≠-1->gx Q.N c a=(↑(cl (pnx p r a).toNat):Int)/\pot p r a=gx Q.O c a)
structure OrdI(n:Nat)(cl:Nat->Nat)(L:List Nat):Prop where
 nd:L.Nodup
 lt:∀c,c∈L->c<n/\cl c=c
def OrdI.le{n:Nat}{cl:Nat->Nat}{L:List Nat}(A:OrdI n cl L):L.length<=n:=by
 have:=eV (b:=List.range n) A.nd λx hx=>K6.2 (A.lt x hx).1
 rwa [M5]at this
def OrdI.push{n:Nat}{cl:Nat->Nat}{L:List Nat}(A:OrdI n cl L){c:Nat}(hc:c<n)(h2:cl c=c)(h:c∉L):OrdI n cl (L++[c]):=by
 refine⟨V5.2 ⟨A.nd,by simp,λa ha b hb=>?_⟩,λd hd=>?_⟩
 ·rw[I7.1 hb];exact λg=>h (by rw[<- g];exact ha)
 ·rcases I2.1 hd with k|k
  ·exact A.lt d k
  ·rw[I7.1 k];exact⟨hc,h2⟩
def numT_grow{L L':List Nat}(h:L <+: L'){t:Int}(ht:t=-1\/t.toNat∈L):numT L' t=numT L t:=by
 obtain⟨K,rfl⟩:=h;unfold numT;by_cases t0:t=-1
 ·rw[if_neg (λg=>g.1 t0),if_neg (λg=>g.1 t0)]
 ·have h:=ht.resolve_left t0;rw[if_pos ⟨t0,K9 _ h⟩,if_pos ⟨t0,h⟩,oK,if_pos h]
def loop_s54(H:H7 p){Q:A9}{cl:Nat->Nat}(K:eK p Q cl){L:List Nat}(A:OrdI p.N.length cl L){i c:Nat}(hi:L[i]?=some c){x:A2}(hx:Q.N[c]?=some x) :
  ∃L',iter (λ(s:A2×A2×A2×Nat)=>Y4.s54 p ((List.range p.N.length).map λq=>(↑(cl q):Int)) i s.1 s.2.1 s.2.2.1 s.2.2.2) fuel (I0 L,[],[],0)=some (I0 L',U0 Q L' c,Z0 Q c)/\L'=x.foldl addT L/\L <+: L'/\OrdI p.N.length cl L'/\∀b,b<p.I.toNat->gx Q.N c b=-1\/(gx Q.N c b).toNat∈L':=by
 have hn:=H.n2;have d8:=H.i2;obtain⟨hc,c8⟩:=A.lt c (G6 hi)
 have c7:x.length=p.I.toNat:=by
  obtain⟨x',q1,q2⟩:=K.ren.gn.row c (by rw[K.len];exact hc);rw[hx]at q1;injection q1 with q1
  rw[q1,q2,K.inp]
 have c6:∀b,b<p.I.toNat->x[b]?=some (gx Q.N c b):=λb hb=>by
  obtain⟨x',q1,q2,_⟩:=K.ren.gn.at (q:=c) (a:=b) (by rw[K.len];exact hc) (by rw[K.inp];exact hb);rw[hx]at q1;injection q1 with q1
  rw[q1,q2]
 have key:=J2 (step:=λ(s:A2×A2×A2×Nat)=>Y4.s54 p ((List.range p.N.length).map λq=>(↑(cl q):Int)) i s.1 s.2.1 s.2.2.1 s.2.2.2) (λs=>s.2.2.2<=p.I.toNat/\∃La,s.1=I0 La/\La=(x.take s.2.2.2).foldl addT L/\L <+: La/\OrdI p.N.length cl La/\(∀b,b<s.2.2.2->gx Q.N c b=-1\/(gx Q.N c b).toNat∈La)/\s.2.1=(List.range s.2.2.2).map (λb=>numT La (gx Q.N c b))/\s.2.2.1=(List.range s.2.2.2).map (λa=>if gx Q.N c a=-1 then(-1:Int) else gx Q.O c a)) (λs=>p.I.toNat-s.2.2.2) (λr=>∃L',r=(I0 L',U0 Q L' c,Z0 Q c)/\L'=x.foldl addT L/\L <+: L'/\OrdI p.N.length cl L'/\∀b,b<p.I.toNat->gx Q.N c b=-1\/(gx Q.N c b).toNat∈L') (λ⟨l,y,z,a⟩ ⟨g1,La,g2,g3,g4,g5,g6,g7,g8⟩=>by
  simp only at g1 g2 g3 g6 g7 g8
  subst g2
  subst g7
  subst g8
  simp only[Y4.s54]
  have d7:=g5.le
  have b2:∀L:List Nat,(I0 L).length=L.length:=λL=>by unfold I0;rw[B7]
  by_cases ha:a<p.I.toNat
  ·left
   have d5:=c6 a ha
   have d3:(I0 La)[i]?=some (c:Int):=by
    obtain⟨T,rfl⟩:=g4
    unfold I0
    rw[H1,N6 (E0.1 hi).1,hi]
    rfl
   have hf:(x.take (a+1)).foldl addT L=addT La (gx Q.N c a):=by
    have h1:a<x.length:=by omega
    have h2:=get_at h1
    rw[d5]at h2
    injection h2 with h2
    rw[kF h1,oJ,<- g3,<- h2]
    rfl
   have a8:∀(l x y:A2),Y4.k53 a l x y=some (.inl (l,x,y,a+1)):=λl x y=>by
    unfold Y4.k53
    rw[L3]
   obtain⟨k,e1,hk⟩:=knownQ_eq H (cl:=cl) (c:=c) ha
   obtain⟨c0,a4⟩:=K.row c a hc ha c8
   rw[C2 (by clear hk a4;omega),B8 d3,e1,A5]
   by_cases t0:gx Q.N c a=-1
   ·have c9:k=-1:=by
     rcases hk with h|⟨q,_,q2,q3,q4⟩
     ·exact h.1
     ·exact absurd (c0 t0 q q2 q3) q4
    clear hk a4
    have d0:addT La (gx Q.N c a)=La:=by unfold addT;rw[if_pos (.inl t0)]
    refine⟨(I0 La,(List.range (a+1)).map (λb=>numT La (gx Q.N c b)),(List.range (a+1)).map (λa=>if gx Q.N c a=-1 then(-1:Int) else gx Q.O c a),a+1),?_,⟨ha,La,rfl,by rw[hf,d0],g4,g5,λb hb=>?_,rfl,rfl⟩,by simp only;omega⟩
    ·rw[C2 c9,H9 (by unfold B4;rw[B7,M5];omega),H9 (by unfold B4;rw[B7,M5];omega),A5,a8,eD,L1,L1,uA,uA,if_pos t0,show numT La (gx Q.N c a)=-1 by unfold numT;rw[if_neg (λg=>g.1 t0)]]
    ·by_cases e:b=a
     ·rw[e];exact .inl t0
     ·exact g6 b (by simp only at hb;omega)
   ·obtain⟨⟨r0,r1,r2,r3⟩,b6⟩:=a4 t0
    obtain⟨q,q1,q2,q3,q4⟩:∃q:Nat,k=(q:Int)/\q<p.N.length/\cl q=c/\pnx p q a≠-1:=by
     rcases hk with h|h
     ·exact absurd (h.2 r0 r1 r2) r3
     ·exact h
    clear hk a4
    obtain⟨m1,m2⟩:=b6 q q2 q3 q4
    obtain⟨w1,w2,w3,w4,w5,xr,yr,d2,d4,b5,b8,_,_⟩:=H.at q2 ha
    obtain⟨u,hu⟩:∃u:Nat,pnx p q a=(u:Int):=⟨(pnx p q a).toNat,by omega⟩
    have b3:u<p.N.length:=by omega
    rw[hu,H6]at m1
    have d1:=K.lt u b3
    have b4:=K.idem u b3
    -- the order behind this symbol
    have a3:addT La (gx Q.N c a)=if cl u∈La then La else La++[cl u]:=by
     unfold addT
     rw[m1,H6]
     by_cases h:cl u∈La
     ·rw[if_pos (.inr h),if_pos h]
     ·rw[if_neg (λg=>g.elim (by omega) h),if_neg h]
    have hb:((gS (I0 La) (↑(cl u):Int)).bind λa2=>cond (decide (a2=(↑(List.length (I0 La)):Int))) (chk (B4 (List.length (I0 La)+1) 8) (some (I0 La++[(↑(cl u):Int)]))) (some (I0 La)):Option (A2))=some (I0 (addT La (gx Q.N c a))):=by
     rw[place_eq (by omega),A5,b2,a3]
     by_cases h:cl u∈La
     ·have:=cP h
      rw[if_pos h,B1]
     ·have:=List.idxOf_eq_length h
      rw[if_neg h,C2,O6]
      unfold I0
      rw[L1]
      rfl
    have a6:La <+: addT La (gx Q.N c a):=by
     rw[a3]
     split
     ·exact W9 _
     ·exact yN _ _
    have a5:cl u∈addT La (gx Q.N c a):=by
     rw[a3]
     split
     ·assumption
     ·exact L2 _ (I7.2 rfl)
    have a7:OrdI p.N.length cl (addT La (gx Q.N c a)):=by
     rw[a3]
     split
     ·exact g5
     ·rename_i h;exact g5.push d1 b4 h
    have d6:=a7.le
    refine⟨(I0 (addT La (gx Q.N c a)),(List.range (a+1)).map (λb=>numT (addT La (gx Q.N c a)) (gx Q.N c b)),(List.range (a+1)).map (λa=>if gx Q.N c a=-1 then(-1:Int) else gx Q.O c a),a+1),?_,⟨ha,_,rfl,hf.symm,g4.trans a6,a7,λb a9=>?_,rfl,rfl⟩,by simp only;omega⟩
    ·rw[B1,D7 (i:=q) q1 d2,B8 b5,hu,D7 (i:=u) rfl (x:=(↑(cl u):Int)) (by rw[H1,P4 b3];rfl),hb,A5,place_eq (by omega),A5,H9 (by unfold B4;rw[B7,M5];omega),D7 (i:=q) q1 d4,B8 b8,H9 (by unfold B4;rw[B7,M5];omega),A5,a8,eD,L1,L1,uA,uA,if_neg t0,m2]
     have b9:(List.range a).map (λb=>numT La (gx Q.N c b))=(List.range a).map (λb=>numT (addT La (gx Q.N c a)) (gx Q.N c b)):=oP λb a9=>(numT_grow a6 (g6 b (K6.1 a9))).symm
     have b7:numT (addT La (gx Q.N c a)) (gx Q.N c a)=(↑((addT La (gx Q.N c a)).idxOf (cl u)):Int):=by
      generalize hG:addT La (gx Q.N c a)=G at a5 ⊢
      unfold numT
      rw[m1,H6,if_pos ⟨by omega,a5⟩]
     rw[b9,b7]
    ·by_cases e:b=a
     ·rw[e];right;rw[m1,H6,<- m1];exact a5
     ·rcases g6 b (by simp only at a9;omega) with h|h
      ·exact .inl h
      ·exact .inr (a6.subset h)
  ·right
   have e1:a=p.I.toNat:=by omega
   subst e1
   rw[<- c7,R5]at g3
   refine⟨_,by rw[B1 (by have:=H.i1;omega)],La,?_,g3,g4,g5,g6⟩
   unfold U0 Z0
   rw[K.inp]) (I0 L,[],[],0) ⟨D8 _,L,rfl,rfl,W9 _,A,λb hb=>absurd hb (O4 _),rfl,rfl⟩
 obtain⟨r,e1,L',rfl,h⟩:=key;exact⟨L',e1,h⟩
end
end
section
section
variable {p:A9}
def foldl_len(x:A2):∀L:List Nat,L.length<=(x.foldl addT L).length:=by
 induction x with
 |nil=>exact λL=>F9 _
 |cons t x ih =>
  intro L;rw[gA];refine aP ?_ (ih _);unfold addT;split
  ·exact F9 _
  ·rw[H4];omega
def R35_Folded_eq(H:H7 p){Q:A9}{cl:Nat->Nat}(K:eK p Q cl):Y4 p ((List.range p.N.length).map λq=>(↑(cl q):Int))=some (renP Q,I0 (ordP Q))/\OrdI p.N.length cl (ordP Q):=by
 have hn:=H.n2;have a7:=H.st;have hs:p.S.toNat<p.N.length:=by omega
 have a2:∀L:List Nat,(I0 L).length=L.length:=λL=>by unfold I0;rw[B7]
 have A0:OrdI p.N.length cl [cl p.S.toNat]:=⟨by simp,λc hc=>by
  rw[I7.1 hc]
  exact⟨K.lt _ hs,K.idem _ hs⟩⟩
 have key:=J2 (step:=λ(s:A2×A4×A4×Nat)=>Y4.s56 p ((List.range p.N.length).map λq=>(↑(cl q):Int)) s.1 s.2.1 s.2.2.1 s.2.2.2) (λs=>∃L,s.1=I0 L/\s.2.2.2<=L.length/\OrdI p.N.length cl L/\bfsL (λc=>(Q.N[c]?).getD []) (Q.N.length+1-s.2.2.2) s.2.2.2 L=ordP Q/\s.2.1=(L.take s.2.2.2).map (U0 Q L)/\s.2.2.1=(L.take s.2.2.2).map (Z0 Q)/\∀c,c∈L.take s.2.2.2->∀b,b<p.I.toNat->gx Q.N c b=-1\/(gx Q.N c b).toNat∈L) (λs=>p.N.length+1-s.2.2.2) (λr=>r=(I0 (ordP Q),(ordP Q).map (U0 Q (ordP Q)),(ordP Q).map (Z0 Q))/\OrdI p.N.length cl (ordP Q)) (λ⟨l,y,z,i⟩ ⟨L,g1,g2,g3,g4,g5,g6,g7⟩=>by
  simp only at g1 g2 g4 g5 g6 g7
  subst g1
  subst g5
  subst g6
  simp only[Y4.s56]
  have a8:=g3.le
  by_cases h:i<L.length
  ·left
   have hx:=get_at h
   obtain⟨hc,a9⟩:=g3.lt L[i] (M8 h)
   obtain⟨x,x1,x2⟩:=K.ren.gn.row L[i] (by rw[K.len];exact hc)
   obtain⟨L',e1,e2,e3,e4,e5⟩:=loop_s54 H K g3 hx x1
   have a6:i+1<=L'.length:=by
    have:=foldl_len x L
    rw[<- e2]at this
    omega
   have a4:L'.take (i+1)=L.take i++[L[i]]:=by
    obtain⟨T,rfl⟩:=e3
    rw[uK (by omega),kF h]
   refine⟨(I0 L',(L'.take (i+1)).map (U0 Q L'),(L'.take (i+1)).map (Z0 Q),i+1),?_,⟨L',rfl,a6,e4,?_,rfl,rfl,λc a3 b hb=>?_⟩,by simp only;omega⟩
   ·rw[C2 (by rw[a2];omega),e1,A5]
    unfold Y4.k55
    simp only
    have a5:(L.take i).map (U0 Q L)=(L.take i).map (U0 Q L'):=oP λc a3=>by
     unfold U0
     refine oP λb hb=>(numT_grow e3 (g7 c a3 b ?_)).symm
     have:=K6.1 hb
     rwa [K.inp]at this
    rw[H9 (by unfold B4;rw[B7,M3];omega),H9 (by unfold B4;rw[B7,M3];omega),a4,L1,L1,a5]
    rfl
   ·rw[<- g4,show Q.N.length+1-i=(Q.N.length+1-(i+1))+1 by rw[K.len];omega]
    simp only[bfsL,hx,x1,E7]
    rw[e2]
   ·rw[a4]at a3
    rcases I2.1 a3 with k|k
    ·exact(g7 c k b hb).elim .inl λk=>.inr (e3.subset k)
    ·rw[I7.1 k];exact e5 b hb
  ·right
   have e1:i=L.length:=by omega
   have e2:ordP Q=L:=by
    rw[<- g4]
    cases hk:Q.N.length+1-i with
    |zero=>rfl
    |succ k =>
     simp only[bfsL]
     rw[show L[i]?=none from L0 (by omega)]
   subst e1
   refine⟨_,by rw[B1 (by rw[a2];omega)],?_⟩
   rw[e2,R5]
   exact⟨rfl,g3⟩) (I0 [cl p.S.toNat],[],[],0) ⟨_,rfl,D8 _,A0,by unfold ordP;rw[K.st,H6];rfl,rfl,rfl,λc hc=>by simp at hc⟩
 obtain⟨r,e1,rfl,hO⟩:=key;refine⟨?_,hO⟩;unfold Y4;rw[D7 (i:=p.S.toNat) (by omega) (x:=(↑(cl p.S.toNat):Int)) (by rw[H1,P4 hs];rfl)];have:[(↑(cl p.S.toNat):Int)]=I0 [cl p.S.toNat]:=rfl;rw[this,e1,A5];unfold Y4.k57 renP;rw[K.inp]
end
end
section
section
variable {p:A9}{s t:Nat}
def clT(cl:Nat->Nat)(v:Int):Int:=if v=-1 then -1 else(↑(cl v.toNat):Int)
def loop_s64{n I:Nat}{cl:Nat->Nat}{M:List (Int×Int)}(U:UpOk n cl M)(hn:n<=10000000)(hI:I<=64){G:A4}(GG:Grid n I G)(rng:∀q a,q<n->a<I->gx G q a=-1\/∃u:Nat,gx G q a=(u:Int)/\u<n){q:Nat}(hq:q<n){e:A2}(he:e.length=I) :
  ∃G',iter (λ(s:A4×(List (Int×Int))×Nat)=>I4.s64 q e s.1 s.2.1 s.2.2) fuel (G,M,0)=some (G',M)/\Grid n I G'/\∀r b,r<n->b<I->gx G' r b=if r=q then clT cl (gx G r b) else gx G r b:=by
 have key:=J2 (step:=λ(s:A4×(List (Int×Int))×Nat)=>I4.s64 q e s.1 s.2.1 s.2.2) (λs=>s.2.2<=I/\s.2.1=M/\Grid n I s.1/\∀r b,r<n->b<I->gx s.1 r b=if r=q/\b<s.2.2 then clT cl (gx G r b) else gx G r b) (λs=>I-s.2.2) (λr=>∃G',r=(G',M)/\Grid n I G'/\∀r b,r<n->b<I->gx G' r b=if r=q then clT cl (gx G r b) else gx G r b) (λ⟨y,m,k⟩ ⟨g1,g2,g3,g4⟩=>by
  simp only at g1 g2 g3 g4
  subst g2
  simp only[I4.s64]
  by_cases h:k<I
  ·left
   obtain⟨x,x1,x2,x3⟩:=g3.at hq h
   have a2:gx y q k=gx G q k:=by rw[g4 q k hq h,if_neg (λg=>tX _ g.2)]
   rw[a2]at x2
   rw[C2,B8 x1,B8 x2]
   by_cases t0:gx G q k=-1
   ·refine⟨(y,m,k+1),by rw[B1 (λg=>g t0),L3],⟨h,rfl,g3,λr b hr hb=>?_⟩,by simp only;omega⟩
    simp only
    rw[g4 r b hr hb]
    by_cases k1:r=q/\b<k
    ·rw[if_pos k1,if_pos ⟨k1.1,by omega⟩]
    ·rw[if_neg k1]
     by_cases k2:r=q/\b<k+1
     ·have e2:b=k:=Nat.le_antisymm (by omega) (oH λg=>k1 ⟨k2.1,g⟩)
      rw[if_pos k2,k2.1,e2,t0]
      rfl
     ·rw[if_neg k2]
   ·obtain⟨u,hu,a3⟩:=(rng q k hq h).resolve_left t0
    obtain⟨p1,p2⟩:=g3.put hq h x1 (↑(cl u):Int)
    refine⟨(y.set q (x.set k (↑(cl u):Int)),m,k+1),?_,⟨h,rfl,p1,λr b hr hb=>?_⟩,by simp only;omega⟩
    ·rw[C2 t0,B8 x1,hu,of_eq U hn a3,A5,B8 x2,L3]
    ·simp only
     rw[p2 r b hr hb]
     by_cases k1:r=q/\b=k
     ·rw[if_pos k1,if_pos ⟨k1.1,by omega⟩,k1.1,k1.2]
      unfold clT
      rw[if_neg t0,hu,H6]
     ·rw[if_neg k1,g4 r b hr hb]
      by_cases k2:r=q/\b<k
      ·rw[if_pos k2,if_pos ⟨k2.1,by omega⟩]
      ·rw[if_neg k2,if_neg (λg=>k2 ⟨g.1,iH (by omega) λe3=>k1 ⟨g.1,e3⟩⟩)]
  ·right
   have e1:k=I:=by omega
   subst e1
   refine⟨_,by rw[B1],y,rfl,g3,λr b hr hb=>?_⟩
   rw[g4 r b hr hb]
   by_cases k1:r=q
   ·rw[if_pos ⟨k1,hb⟩,if_pos k1]
   ·rw[if_neg (λg=>k1 g.1),if_neg k1]) (G,M,0) ⟨D8 _,rfl,GG,λr b _ _=>by rw[if_neg (λg=>O4 _ g.2)]⟩
 obtain⟨r,e1,G',rfl,h⟩:=key;exact⟨G',e1,h⟩
def loop_s66{n I:Nat}{cl:Nat->Nat}{M:List (Int×Int)}(U:UpOk n cl M)(hn:n<=10000000)(hI:I<=64){N:A4}(GN:Grid n I N)(rng:∀q a,q<n->a<I->gx N q a=-1\/∃u:Nat,gx N q a=(u:Int)/\u<n) :
  ∃N',iter (λ(s:A4×(List (Int×Int))×Nat)=>I4.s66 N s.1 s.2.1 s.2.2) fuel (N,M,0)=some (N',M)/\Grid n I N'/\∀r b,r<n->b<I->gx N' r b=clT cl (gx N r b):=by
 have hl:=GN.len
 have key:=J2 (step:=λ(s:A4×(List (Int×Int))×Nat)=>I4.s66 N s.1 s.2.1 s.2.2) (λs=>s.2.2<=n/\s.2.1=M/\Grid n I s.1/\∀r b,r<n->b<I->gx s.1 r b=if r<s.2.2 then clT cl (gx N r b) else gx N r b) (λs=>n-s.2.2) (λr=>∃N',r=(N',M)/\Grid n I N'/\∀r b,r<n->b<I->gx N' r b=clT cl (gx N r b)) (λ⟨y,m,q⟩ ⟨g1,g2,g3,g4⟩=>by
  simp only at g1 g2 g3 g4
  subst g2
  simp only[I4.s66]
  by_cases h:q<n
  ·left
   obtain⟨x,x1,x2⟩:=g3.row q h
   obtain⟨y',e1,e2,e3⟩:=loop_s64 (e:=x) U hn hI g3 (λr a hr ha=>by
    rw[g4 r a hr ha]
    split
    ·unfold clT
     rcases rng r a hr ha with k|⟨u,k1,k2⟩
     ·rw[if_pos k];exact .inl rfl
     ·refine .inr ⟨cl u,by rw[if_neg (by omega),k1,H6],?_⟩
      by_cases k3:cl u=u
      ·omega
      ·have a2:∀v:Nat,v<n->cl v<=v:=λv=>by
        induction v using Nat.strongRecOn with
        |_ v ih =>
         intro hv
         by_cases k4:cl v=v
         ·omega
         ·obtain⟨w,w1,_,w3⟩:=U.u1 v hv k4
          have:=ih w w1 (by omega)
          omega
       have:=a2 u k2
       omega
    ·exact rng r a hr ha) h x2
   refine⟨(y',m,q+1),?_,⟨h,rfl,e2,λr b hr hb=>?_⟩,by simp only;omega⟩
   ·rw[C2,B8 x1,e1,A5]
    rfl
   ·simp only
    rw[e3 r b hr hb,g4 r b hr hb]
    by_cases k1:r=q
    ·rw[if_pos k1,if_neg (by omega),if_pos (by omega)]
    ·rw[if_neg k1]
     by_cases k2:r<q
     ·rw[if_pos k2,if_pos (by omega)]
     ·rw[if_neg k2,if_neg (by omega)]
  ·right
   have e1:q=n:=by omega
   subst e1
   refine⟨_,by rw[B1],y,rfl,g3,λr b hr hb=>?_⟩
   rw[g4 r b hr hb,if_pos hr]) (N,M,0) ⟨D8 _,rfl,GN,λr b _ _=>by rw[if_neg (O4 _)]⟩
 obtain⟨r,e1,N',rfl,h⟩:=key;exact⟨N',e1,h⟩
def loop_s68{n:Nat}{cl:Nat->Nat}{M:List (Int×Int)}(U:UpOk n cl M)(hn:n<=1000000)(hcl:∀q,q<n->cl q<n){F:List Nat}{nums:A2}(A:NumL n F nums)(P:A9) :
  iter (λ(s:(List (Int×Int))×A2×Nat)=>I4.s68 (P,nums) s.1 s.2.1 s.2.2) fuel (M,List.replicate n 0,0)=some ((List.range n).map λq=>numT F (↑(cl q):Int)):=by
 have hl:=A.len
 have key:=J2 (step:=λ(s:(List (Int×Int))×A2×Nat)=>I4.s68 (P,nums) s.1 s.2.1 s.2.2) (λs=>s.2.2<=n/\s.1=M/\Wrt (λq=>numT F (↑(cl q):Int)) (List.replicate n 0) s.2.2 s.2.1) (λs=>n-s.2.2) (λr=>r=(List.range n).map λq=>numT F (↑(cl q):Int)) (λ⟨m,y,q⟩ ⟨g1,g2,g3⟩=>by
  simp only at g1 g2 g3
  subst g2
  simp only[I4.s68,K7]
  have a2:=g3.len
  rw[K7]at a2
  by_cases h:q<n
  ·left
   have hc:=hcl q h
   refine⟨(m,y.set q (numT F (↑(cl q):Int)),q+1),?_,⟨h,rfl,g3.step (by rw[K7];exact h) rfl⟩,by simp only;omega⟩
   rw[C2,of_eq U (by omega) h,A5,D7 (i:=cl q) rfl (A.at_ _ hc),B8 (get_at (l:=y) (i:=q) (by omega)),L3]
   unfold numT
   rw[H6]
   by_cases k1:cl q∈F
   ·rw[if_pos k1,if_pos ⟨by omega,k1⟩]
   ·rw[if_neg k1,if_neg (λg=>k1 g.2)]
  ·right
   have e1:q=n:=by omega
   subst e1
   refine⟨_,by rw[B1],?_⟩
   rw[g3.done (by rw[K7];exact F9 _),K7]) (M,List.replicate n 0,0) ⟨D8 _,rfl,Wrt.zero _ _⟩
 obtain⟨r,e1,rfl⟩:=key;exact e1
def dO.quo(H:H7 p){cl:Nat->Nat}{N O:A4}{M:List (Int×Int)}(F:dO p s t cl N O M []){N':A4}(GN:Grid p.N.length p.I.toNat N')(hN:∀r b,r<p.N.length->b<p.I.toNat->gx N' r b=clT cl (gx N r b)):eK p ⟨p.I,(↑(cl p.S.toNat):Int),N',O⟩ cl:=by
 have hn:=H.n2;have a8:=H.st;obtain⟨C,K⟩:=F.cls;have a3:∀q,q<p.N.length->cl q<p.N.length:=λq hq=>by have:=K.le q hq;omega
 have hl:=GN.len;have hs:p.S.toNat<p.N.length:=by omega
 have a5:Lab p.N.length cl [] cl:=⟨λ_ _ _ _ h=>h,λ_ _ h=>by cases h⟩;refine⟨⟨by have:=H.i1;simp only;omega,H.i2,by simp only;omega,⟨cl p.S.toNat,rfl,by simp only;rw[hl];exact a3 _ hs⟩,by simp only;rw[hl];exact GN,by simp only;rw[hl];exact F.go,λq a hq ha=>?_⟩,hl,rfl,rfl,K.idem,a3,λc a hc ha a7=>?_⟩
 ·simp only at hq ha ⊢;rw[hl]at hq ⊢;rw[hN q a hq ha];unfold clT;rcases F.rng q a hq ha with k|⟨u,k1,k2⟩
  ·rw[if_pos k];exact .inl rfl
  ·exact .inr ⟨cl u,by rw[if_neg (by omega),k1,H6],a3 u k2⟩
 ·simp only;rw[hN c a hc ha];obtain⟨r1,r2⟩:=F.row c a hc ha a7;unfold clT;by_cases k:gx N c a=-1
  ·rw[if_pos k];exact⟨λ_=>(r1 k).2,λh=>absurd rfl h⟩
  ·rw[if_neg k];obtain⟨u,a1,a2,⟨r,b1,b2,b3,b4⟩,a4⟩:=r2 k;refine⟨λh=>by omega,λ_=>⟨⟨r,b1,b2,by omega⟩,λr hr a6 hp=>?_⟩⟩;obtain⟨d1,d2⟩:=a4 r hr a6 hp;exact⟨by rw[a1,H6,d2 cl a5],d1⟩
def loop_copy(H:H7 p):iter (λ(s:A4×A4×Nat)=>I4.s2 p s.1 s.2.1 s.2.2) fuel ([],[],0)=some (p.N,p.O):=by
 have hn:=H.n2;have hi:=H.i2;have ho:=H.ol
 have key:=J2 (step:=λ(s:A4×A4×Nat)=>I4.s2 p s.1 s.2.1 s.2.2) (λs=>s.2.2<=p.N.length/\s.1=p.N.take s.2.2/\s.2.1=p.O.take s.2.2) (λs=>p.N.length-s.2.2) (λr=>r=(p.N,p.O)) (λ⟨y,z,k⟩ ⟨g1,g2,g3⟩=>by
  simp only at g1 g2 g3
  subst g2
  subst g3
  simp only[I4.s2,K3,dI,M3,O8,E8]
  by_cases h:k<p.N.length
  ·left
   obtain⟨x,y,h1,h2,h3,h4,_⟩:=H.row k h
   refine⟨(p.N.take (k+1),p.O.take (k+1),k+1),?_,⟨h,rfl,rfl⟩,by simp only;omega⟩
   rw[C2,B8 h1,O6,O6,B8 h2,O6,O6]
   have q1:p.N.take (k+1)=p.N.take k++[x]:=by rw[List.take_succ,h1];rfl
   have q2:p.O.take (k+1)=p.O.take k++[y]:=by rw[List.take_succ,h2];rfl
   rw[q1,q2]
  ·right
   have e1:k=p.N.length:=by omega
   subst e1
   exact⟨_,by rw[B1],by rw[R5,<- ho,R5]⟩) ([],[],0) ⟨D8 _,rfl,rfl⟩
 obtain⟨r,e1,rfl⟩:=key;exact e1
def zr3(H:H7 p)(hs:s<p.N.length)(ht:t<p.N.length):(P8 p s t/\I4 p (s:Int) (t:Int)=some (⟨0,0,[],[]⟩,[],false))\/(¬P8 p s t/\∃Q cl,eK p Q cl/\(∀q,q<p.N.length->cl q=clsOf p s t q)/\I4 p (s:Int) (t:Int)=some (renP Q,(List.range p.N.length).map λq=>numT (ordP Q) (↑(cl q):Int),true)):=by
 have hn:=H.n2;have a4:=H.st;have a3:p.S.toNat<p.N.length:=by omega
 obtain⟨r,e1,hr⟩:=loop_fold H hs ht;unfold I4;rw[loop_copy H,A5];unfold I4.k71;simp only;rw[e1,A5];rcases hr with⟨rfl,hc⟩|⟨N,O,M,cl,rfl,F⟩
 ·exact .inl ⟨hc,by rw[eC]⟩
 ·obtain⟨d1,d2⟩:=F.done H hs ht;obtain⟨N',e2,GN,hN⟩:=loop_s66 F.up (by omega) (by have:=H.i2;omega) F.gn F.rng;have K:=F.quo H GN hN;obtain⟨nums,e3,A⟩:=jA K.ren;refine .inr ⟨d2,_,cl,K,d1,?_⟩;rw[T6];unfold I4.k70;simp only;rw[e2,A5];unfold I4.k69;simp only;have a2:=A.len;simp only at A a2;rw[GN.len]at A a2;rw[show p.S=(p.S.toNat:Int) by omega,of_eq F.up (by omega) a3,A5,H6,e3,A5]
  dsimp only
  rw[H9 ⟨by omega,eF _,by unfold B4;omega⟩,a2,loop_s68 F.up (by omega) K.lt A,A5]
end
end

def check_mem{w:A2}{n:Int}(h:R8 w n=0):∀a∈w,0<=a/\a<n:=by
 unfold R8 at h;split at h
 ·split at h
  ·cases h
  ·split at h
   ·rename_i h3;intro a ha;exact of_decide_eq_true (R3.1 h3 a ha)
   ·cases h
 ·cases h
end Go.Proofs.YtkeplokjplkcmaaGreat.Sym
namespace Go.Proofs.YtkeplokjplkcmaaGreat
structure oZ(cf:List Int->List Int->Int):Prop where
 range:∀a b,cf a b=-1\/cf a b=0\/cf a b=1
 zero:∀a b,cf a b=0↔a=b
 swap:∀a b,cf b a=- cf a b
 trans:∀a b c,cf a b=-1->cf b c=-1->cf a c=-1
def cmpW_total:oZ cmpW:=⟨pX,sN,sH,jX⟩
def N5(l:List (List Int)):List (List Int):=l.foldl (λacc x=>if acc.getLast?=some x then acc else acc++[x]) []
def BL(l:List (List Int))(x:List Int):N5 (l++[x])=if(N5 l).getLast?=some x then N5 l else N5 l++[x]:=by
 unfold N5;rw[List.foldl_append];rfl
def AR:∀(l acc:List (List Int)),(l.foldl (λacc x=>if acc.getLast?=some x then acc else acc++[x]) acc).getLast?=if l=[] then acc.getLast? else l.getLast?
 |[],acc=>by rw[if_pos rfl];rfl
 |x::l,acc=>by
  have hx:(if acc.getLast?=some x then acc else acc++[x]).getLast?=some x:=by
   split
   ·assumption
   ·simp
  rw[List.foldl_cons,AR l,if_neg (show ¬x::l=[] by simp)];cases l with
  |nil=>rw[if_pos rfl,hx];rfl
  |cons y l =>
   rw[if_neg (show ¬y::l=[] by simp),List.getLast?_cons_cons]
def dedupA_last(l:List (List Int)):(N5 l).getLast?=l.getLast?:=by
 unfold N5;rw[AR];split
 ·rename_i h;rw[h]
 ·rfl
def AJ{l:List (List Int)}{k:Nat}{x y:List Int}(hy:l[k]?=some y)(hx:l[k+1]?=some x) :
  N5 (l.take (k+1+1))=if x=y then N5 (l.take (k+1)) else N5 (l.take (k+1))++[x]:=by
 rw[W4 hx,BL,dedupA_last,W4 hy];simp only[List.getLast?_append,List.getLast?_singleton,Option.some_or];by_cases h:y=x
 ·subst h;simp
 ·have h':¬x=y:=λe=>h e.symm;simp[h,h']
def BU{l:List (List Int)}(h:l.length<=1):N5 l=l:=by
 match l,h with
 |[],_=>rfl
 |[x],_=>rfl
def dedup_asc{cf:List Int->List Int->Int}(T:oZ cf):∀{l:List (List Int)},l.Pairwise (λa b=>0<=cf b a)->(N5 l).Pairwise (λa b=>cf a b=-1)/\∀x,x∈N5 l↔x∈l:=by
 intro l
 -- from the end of the list
 suffices H:∀n (l:List (List Int)),l.length=n->l.Pairwise (λa b=>0<=cf b a)->(N5 l).Pairwise (λa b=>cf a b=-1)/\∀x,x∈N5 l↔x∈l from H _ l rfl
 intro n
 induction n with
 |zero =>
  intro l hl _;have:l=[]:=List.eq_nil_of_length_eq_zero hl;subst this;exact⟨List.Pairwise.nil,λx=>Iff.rfl⟩
 |succ n ih =>
  intro l hl hp
  obtain⟨m,x,rfl⟩:∃m x,l=m++[x]:=by
   have a2:l≠[]:=by intro e;rw[e]at hl;simp at hl
   exact⟨l.dropLast,l.getLast a2,(List.dropLast_concat_getLast a2).symm⟩
  have b2:m.length=n:=by simpa using hl
  rw[List.pairwise_append]at hp;obtain⟨a8,_,a5⟩:=hp;obtain⟨h1,h2⟩:=ih m b2 a8;rw[BL];by_cases h:(N5 m).getLast?=some x
  ·rw[if_pos h];refine⟨h1,λy=>?_⟩;have hx:x∈m:=(h2 x).1 (List.mem_of_getLast? h);rw[h2,List.mem_append,List.mem_singleton];constructor
   ·exact Or.inl
   ·rintro (h'|rfl)
    ·exact h'
    ·exact hx
  ·rw[if_neg h];refine⟨?_,λy=>by rw[List.mem_append,List.mem_append,h2]⟩;rw[List.pairwise_append];refine⟨h1,by simp,λa ha b hb=>?_⟩;rw[List.mem_singleton]at hb;subst hb;have a9:a∈m:=(h2 a).1 ha;have b3:0<=cf b a:=a5 a a9 b (by simp);have hr:=T.range b a;have b4:=T.swap b a;by_cases e:cf b a=0
   ·-- a would be the last one
    exfalso;have a6:b=a:=(T.zero _ _).1 e;subst a6
    -- the last of m is the greatest, and b is in m and not less than it
    have a2:N5 m≠[]:=λe=>by rw[e]at ha;cases ha
    have a7:=List.getLast?_eq_some_getLast a2;have a4:(N5 m).getLast a2∈m:=(h2 _).1 (List.getLast_mem a2);have h3:0<=cf b ((N5 m).getLast a2):=a5 _ a4 b (by simp);have a3:N5 m=(N5 m).dropLast++[(N5 m).getLast a2]:=(List.dropLast_concat_getLast a2).symm
    have h4:b=(N5 m).getLast a2\/cf b ((N5 m).getLast a2)=-1:=by
     rw[a3]at ha h1;rw[List.pairwise_append]at h1;rcases List.mem_append.1 ha with h5|h5
     ·exact Or.inr (h1.2.2 b h5 _ (by simp))
     ·exact Or.inl (List.mem_singleton.1 h5)
    rcases h4 with h4|h4
    ·exact h (by rw[a7,<- h4])
    ·omega
   ·omega
def dedupA_length(l:List (List Int)):(N5 l).length<=l.length:=by
 suffices H:∀(l acc:List (List Int)),(l.foldl (λacc x=>if acc.getLast?=some x then acc else acc++[x]) acc).length<=acc.length+l.length by
  simpa[N5]using H l []
 intro l
 induction l with
 |nil=>intro acc;simp
 |cons x l ih =>
  intro acc;rw[List.foldl_cons];refine Nat.le_trans (ih _) ?_;split
  ·simp
  ·simp;omega
def gP(x:List Int):List (List Int):=(List.range (x.length+1)).map x.take
def suffixes(x:List Int):List (List Int):=(List.range (x.length+1)).map x.drop
def preL(l:List (List Int)):List (List Int):=l.flatMap gP
def DJ(x:List Int):(gP x).length=x.length+1:=by simp[gP]
def topB(all:List (List Int))(x:List Int):Bool:=all.all λy=>decide (y=x\/¬x <+: y)
def maxR(l:List (List Int)):List (List Int):=(sortW l).filter (topB (sortW l))
def tailB(x:List Int)(l:List (List Int)):Bool:=l.all λy=>decide (y.length=x.length\/¬x <+: y)
def top_eq{all:List (List Int)}(hs:Asc all){k:Nat}{x:List Int}(hx:all[k]?=some x):tailB x (all.drop (k+1))=topB all x:=by
 rw[Bool.eq_iff_iff,tailB,topB,List.all_eq_true,List.all_eq_true];simp only[decide_eq_true_eq];constructor
 ·intro h y hy;obtain⟨i,hi⟩:=List.getElem?_of_mem hy;rcases Nat.lt_trichotomy i k with a2|a2|a2
  ·right;intro hp;have hc:=hs.get a2 hi hx;have hl:=hp.length_le
   have:x=y:=hp.eq_of_length_le (by
    unfold cmpW at hc
    split at hc
    ·omega
    ·split at hc
     ·omega
     ·omega)
   rw[this,eQ]at hc;omega
  ·left;rw[a2,hx]at hi;injection hi with hi
   exact hi.symm
  ·have a3:y∈all.drop (k+1):=by
    have:(all.drop (k+1))[i-(k+1)]?=some y:=by rw[List.getElem?_drop,show k+1+(i-(k+1))=i by omega];exact hi
    exact List.mem_of_getElem? this
   rcases h y a3 with h1|h1
   ·by_cases hp:x <+: y
    ·left;exact(hp.eq_of_length h1.symm).symm
    ·exact Or.inr hp
   ·exact Or.inr h1
 ·intro h y hy;obtain⟨i,hi⟩:=List.getElem?_of_mem hy;rw[List.getElem?_drop]at hi;rcases h y (List.mem_of_getElem? hi) with h1|h1
  ·have hc:=hs.get (show k<k+1+i by omega) hx hi;rw[h1,eQ]at hc;omega
  ·exact Or.inr h1
def tailB_step{x y:List Int}{all:List (List Int)}{k j:Nat}(hk:k+1<=j)(hy:all[j]?=some y) :
  tailB x ((all.take (j+1)).drop (k+1))=(tailB x ((all.take j).drop (k+1))&&decide (y.length=x.length\/¬x <+: y)):=by
 have hj:j<all.length:=(List.getElem?_eq_some_iff.1 hy).1;rw[W4 hy,List.drop_append_of_le_length (by rw[List.length_take];omega)];simp[tailB,List.all_append]
def filter_step{p:List Int->Bool}{all:List (List Int)}{k:Nat}{x:List Int}(h:all[k]?=some x):(all.take (k+1)).filter p=(all.take k).filter p++(if p x=true then [x] else []):=by
 rw[W4 h,List.filter_append];by_cases hp:p x=true<;>simp[hp]
def mem_maxR{l:List (List Int)}{x:List Int}(h:x∈maxR l):x∈l:=by
 unfold maxR at h;exact(Q3 l x).1 (List.mem_filter.1 h).1
def maxR_length(l:List (List Int)):(maxR l).length<=l.length:=Nat.le_trans (List.length_filter_le _ _) (jY l)
def BP(l:List (List Int))(x:List Int):x∈maxR l↔x∈l/\∀y∈l,y=x\/¬x <+: y:=by
 unfold maxR;rw[List.mem_filter,Q3,topB,List.all_eq_true];simp only[Q3,decide_eq_true_eq]
end Go.Proofs.YtkeplokjplkcmaaGreat
namespace Go.Proofs.YtkeplokjplkcmaaGreat.Sym
def nS{V:Type}{l:List (List V)}{i:Nat}{x:List V}(h:l[i]?=some x):(l.take (i+1)).flatten=(l.take i).flatten++x:=by
 rw[W4 h];simp
def nY{V:Type}{l:List (List V)}(i:Nat):(l.take i).flatten.length<=l.flatten.length:=by
 have h:l.flatten=(l.take i).flatten++(l.drop i).flatten:=by rw[<- kI,zD]
 rw[h,H4];omega
def concat_ints(l:A4)(hl:l.length<=100000000)(hf:l.flatten.length<=1000000000):cJ l=some l.flatten:=by
 unfold cJ
 rw[U2 (r:=l.flatten.length) (λs=>s.2<=l.length/\s.1=(l.take s.2).flatten.length) (λs=>l.length-s.2) (λs ⟨h1,h2⟩=>by
  simp only[cJ.s2]
  by_cases h3:s.2<l.length
  ·left
   have hx:=get_at h3
   have h4:=nS hx
   have h5:=nY (l:=l) (s.2+1)
   rw[h4,H4]at h5
   refine⟨((l.take (s.2+1)).flatten.length,s.2+1),?_,⟨by omega,rfl⟩,by simp only;omega⟩
   rw[M6 hx,F7,B8 hx,L3,B1,h4,H4,h2]
  ·right
   have e:s.2=l.length:=by omega
   rw[B1,h2,e,R5]) (s:=(0,0)) ⟨D8 _,by simp⟩]
 simp only[T5];unfold wY;rw[H9 (by omega)];simp only[T5]
 rw[U2 (r:=l.flatten) (λs=>s.2<=l.length/\s.1=(l.take s.2).flatten) (λs=>l.length-s.2) (λs ⟨h1,h2⟩=>by
  simp only[cJ.s4]
  by_cases h3:s.2<l.length
  ·left
   have hx:=get_at h3
   have h4:=nS hx
   have h5:=nY (l:=l) (s.2+1)
   rw[h4,H4]at h5
   refine⟨((l.take (s.2+1)).flatten,s.2+1),?_,⟨by omega,rfl⟩,by simp only;omega⟩
   rw[M6 hx,F7,B8 hx,H9 (by rw[h2];unfold B4;omega),h4,h2]
  ·right
   have e:s.2=l.length:=by omega
   rw[B1,h2,e,R5]) (s:=([],0)) ⟨D8 _,by simp⟩]
 rfl
def concat_words(l:List (A4))(hl:l.length<=100000000)(hf:l.flatten.length<=1000000000):cK l=some l.flatten:=by
 unfold cK
 rw[U2 (r:=l.flatten.length) (λs=>s.2<=l.length/\s.1=(l.take s.2).flatten.length) (λs=>l.length-s.2) (λs ⟨h1,h2⟩=>by
  simp only[cK.s2]
  by_cases h3:s.2<l.length
  ·left
   have hx:=get_at h3
   have h4:=nS hx
   have h5:=nY (l:=l) (s.2+1)
   rw[h4,H4]at h5
   refine⟨((l.take (s.2+1)).flatten.length,s.2+1),?_,⟨by omega,rfl⟩,by simp only;omega⟩
   rw[M6 hx,F7,B8 hx,L3,B1,h4,H4,h2]
  ·right
   have e:s.2=l.length:=by omega
   rw[B1,h2,e,R5]) (s:=(0,0)) ⟨D8 _,by simp⟩]
 simp only[T5];unfold xI;rw[H9 (by omega)];simp only[T5]
 rw[U2 (r:=l.flatten) (λs=>s.2<=l.length/\s.1=(l.take s.2).flatten) (λs=>l.length-s.2) (λs ⟨h1,h2⟩=>by
  simp only[cK.s4]
  by_cases h3:s.2<l.length
  ·left
   have hx:=get_at h3
   have h4:=nS hx
   have h5:=nY (l:=l) (s.2+1)
   rw[h4,H4]at h5
   refine⟨((l.take (s.2+1)).flatten,s.2+1),?_,⟨by omega,rfl⟩,by simp only;omega⟩
   rw[M6 hx,F7,B8 hx,H9 (by rw[h2];unfold B4;omega),h4,h2]
  ·right
   have e:s.2=l.length:=by omega
   rw[B1,h2,e,R5]) (s:=([],0)) ⟨D8 _,by simp⟩]
 rfl
def CC(l:A4)(hl:l.length<=100000000)(hf:l.flatten.length<=1000000000):jW l=some l.flatten:=by
 unfold jW;rw[concat_ints l hl hf];rfl
def totB_of{cf:A2->A2->Int}(T:oZ cf){f:A2->A2->Option Int}{l:A4}(hf:∀a∈l,∀b∈l,f a b=some (cf a b)):totB f l=true:=by
 refine R3.2 λa ha=>R3.2 λb hb=>?_;rw[hf a ha b hb,hf b hb a ha];simp only[O2];refine⟨⟨⟨?_,?_⟩,?_⟩,R3.2 λc hc=>?_⟩
 ·rw[beq_iff_eq];have:=T.zero a b;by_cases h:a=b
  ·simp[h,this.2 h];rw[<- h];exact(T.zero a a).2 rfl
  ·have h2:¬cf a b=0:=λe=>h (this.1 e);simp[h,h2]
 ·rw[beq_iff_eq];have:=T.swap a b;by_cases h:cf a b<0
  ·simp[h];omega
  ·simp[h];omega
 ·have:=T.range a b;exact E9 (by omega)
 ·rw[hf b hb c hc,hf a ha c hc];have r1:=T.range a b;have r2:=T.range b c;by_cases h1:cf a b<0
  ·by_cases h2:cf b c<0
   ·have:=T.trans a b c (by omega) (by omega);simp[h1,h2,this]
   ·simp[h1,h2]
  ·simp[h1]
def libSort_eq{cf:A2->A2->Int}(T:oZ cf){f:A2->A2->Option Int}{l:A4}(hl:l.length<=1000000000)(hf:∀a∈l,∀b∈l,f a b=some (cf a b)) :
  ∃S,mJ l f=some S/\S.Perm l/\S.Pairwise (λa b=>0<=cf b a):=by
 refine⟨eP f l,?_,gY f l,?_⟩
 ·unfold mJ;rw[H9 hl,totB_of T hf];rfl
 ·have h:=xE (totB_iff (totB_of T hf));rw[dL]at h ⊢;intro i j hi hj a2;have:=h i j hi hj a2;have m1:=(gY f l).mem_iff.1 (M8 hi);have m2:=(gY f l).mem_iff.1 (M8 hj);unfold NGt cfv at this;rw[hf _ m2 _ m1]at this;simp only[E7]at this;omega
def compact_eq{q:A2->A2->Option Bool}{l:A4}(hl:l.length<=1000000000)(hq:∀a∈l,∀b∈l,q a b=some (decide (a=b))):Y5 l q=some (N5 l):=by
 unfold Y5;by_cases h2:l.length<2
 ·rw[C2,BU (by omega)]
 rw[B1]
 have key:=J2 (step:=λk=>Y5.s20 l q k) (λk=>1<=k/\k<=l.length/\N5 (l.take k)=l.take k) (λk=>l.length-k) (λr=>Sum.elim (λ(_:Unit)=>some l) some r=some (N5 l)) (λk ⟨h1,h3,h4⟩=>by
  simp only[Y5.s20]
  by_cases h5:k<l.length
  ·have hx:=get_at h5
   have hp:=get_at (l:=l) (i:=k-1) (by omega)
   have a3:=AJ (l:=l) (k:=k-1) (x:=l[k]) hp (by rw[show k-1+1=k by omega];exact hx)
   rw[show k-1+1=k by omega]at a3
   rw[M6 hx,F7,B8 hx,D7 (i:=k-1) (by omega) hp,hq _ (M8 _) _ (M8 _)]
   simp only[T5]
   by_cases h6:l[k]=l[k-1]'(by omega)
   ·right
    rw[if_pos h6]at a3
    rw[C2 h6,H9 (by omega)]
    have a4:=aZ (step:=λ(s:A4×Nat×Nat)=>Y5.s18 q k s.1 s.2.1 s.2.2) (λs=>1<=s.2.2/\k+s.2.2<=l.length/\s.1.length=l.length/\s.2.1=(N5 (l.take (k+s.2.2))).length/\s.2.1<k+s.2.2/\s.1.take s.2.1=N5 (l.take (k+s.2.2))/\∀j,s.2.1<=j->s.1[j]?=l[j]?) (λs=>l.length-(k+s.2.2))
     (λr=>r.2<=l.length/\r.1.length=l.length/\r.1.take r.2=N5 l) (λs ⟨g1,g2,g3,g4,g5,g6,g7⟩=>by
      obtain⟨y,kk,t⟩:=s
      simp only at g1 g2 g3 g4 g5 g6 g7
      simp only[Y5.s18]
      by_cases g8:k+t<l.length
      ·left
       have gx:=get_at (l:=l) (i:=k+t) g8
       have gp:=get_at (l:=l) (i:=k+(t-1)) (by omega)
       have yx:y[k+t]?=some l[k+t]:=by rw[g7 _ (by omega)];exact gx
       have yp:y[k+(t-1)]?=some (l[k+(t-1)]'(by omega)):=by rw[g7 _ (by omega)];exact gp
       have a2:=AJ (l:=l) (k:=k+(t-1)) (x:=l[k+t]) gp (by rw[show k+(t-1)+1=k+t by omega];exact gx)
       rw[show k+(t-1)+1=k+t by omega]at a2
       rw[C2 (show(t:Int)<(↑(List.length y-k):Int) by omega),B8 yx,H9 (by omega),show Int.toNat ((t:Int)-1)=t-1 by omega,B8 yp,hq _ (M8 _) _ (M8 _)]
       simp only[T5]
       by_cases g9:l[k+t]=l[k+(t-1)]'(by omega)
       ·rw[if_pos g9]at a2
        refine⟨(y,kk,t+1),by rw[E9 g9];rfl,⟨by simp only;omega,by simp only;omega,g3,?_,by simp only;omega,?_,g7⟩,by simp only;omega⟩
        ·simp only
         rw[show k+(t+1)=k+t+1 by omega,a2]
         exact g4
        ·simp only
         rw[show k+(t+1)=k+t+1 by omega,a2]
         exact g6
       ·rw[if_neg g9]at a2
        have yk:=get_at (l:=y) (i:=kk) (by omega)
        refine⟨(y.set kk l[k+t],kk+1,t+1),?_,⟨by simp only;omega,by simp only;omega,by simp only[P2];exact g3,?_,by simp only;omega,?_,λj hj=>?_⟩,by simp only;omega⟩
        ·rw[I3 g9]
         simp only[cN,F7]
         rw[B8 yx,B8 yk,L3]
        ·simp only
         rw[show k+(t+1)=k+t+1 by omega,a2,H4,<- g4]
         rfl
        ·simp only
         have e1:(y.set kk l[k+t])[kk]?=some l[k+t]:=by rw[oM];simp;omega
         rw[show k+(t+1)=k+t+1 by omega,a2,W4 e1,List.take_set_of_le (F9 _),g6]
        ·simp only at hj
         rw[O3 (by omega)]
         exact g7 j (by omega)
      ·right
       have e:k+t=l.length:=by omega
       refine⟨(y,kk),?_,by simp only;omega,g3,?_⟩
       ·rw[B1]
       ·simp only
        rw[e,R5]at g6
        exact g6) fuel (l,k,1) ⟨F9 _,by simp only;omega,rfl,by simp only;rw[a3,h4,M3];omega,by simp only;omega,by simp only;rw[a3,h4],λj _=>rfl⟩ (by have:=Y0;simp only;omega)
    obtain⟨⟨y,kk⟩,e,g1,g2,g3⟩:=a4
    simp only at g1 g2 g3
    refine⟨.inr (N5 l),?_,rfl⟩
    rw[e]
    simp only[T5,Y5.k19]
    have e2:(List.take kk y++List.replicate (List.length y-kk) ([]:A2)).length=l.length:=by
     rw[H4,M3,K7]
     omega
    rw[H9 (by omega),H9 (by omega),H9 (by rw[e2];omega),uK (by rw[M3];omega),yC,Nat.min_self,g3]
   ·left
    rw[if_neg h6]at a3
    refine⟨k+1,by rw[I3 h6];rfl,⟨by omega,by omega,?_⟩,by omega⟩
    rw[a3,h4,W4 hx]
  ·right
   have e:k=l.length:=by omega
   subst e
   refine⟨.inl (),?_,?_⟩
   ·rw[X6];rfl
   ·rw[R5]at h4
    rw[h4]
    rfl) 1 ⟨F9 _,by omega,BU (by rw[M3];omega)⟩
 obtain⟨r,e,hr⟩:=key;rw[e];exact hr
def CG{w:A2}(h:SmW w):nW w=some w:=by
 unfold nW mW;exact H9 (by unfold SmW at h;unfold B4;omega)
def zuq{l:A4}(h:l.length<=2000000):tR l=some l:=by
 unfold tR mW;exact O6
def ordered_eq{cf:A2->A2->Int}(T:oZ cf){f:A2->A2->Option Int}{l:A4}(hl:SmL l)(hf:∀a∈l,∀b∈l,f a b=some (cf a b)) :
  ∃S,iC l f=some S/\S.Pairwise (λa b=>cf a b=-1)/\(∀x,x∈S↔x∈l)/\S.length<=l.length:=by
 have a3:l.length<=2000000:=hl.1;obtain⟨S,e1,hp,hs⟩:=libSort_eq T (by omega:l.length<=1000000000) hf;obtain⟨d1,d2⟩:=dedup_asc T hs;have hm:∀x,x∈N5 S↔x∈l:=λx=>by rw[d2,hp.mem_iff]
 have a2:(N5 S).length<=l.length:=by
  have:=dedupA_length S;rw[hp.length_eq]at this;exact this
 refine⟨N5 S,?_,d1,hm,a2⟩;unfold iC xZ;rw[zuq a3];simp only[T5];rw[e1];simp only[T5]
 rw[compact_eq (by rw[hp.length_eq];omega) (λa ha b hb=>by
  unfold qW
  rw[hf a (hp.mem_iff.1 ha) b (hp.mem_iff.1 hb)]
  simp only[T5]
  congr 1
  exact decide_eq_decide.2 (T.zero a b))]
 simp only[T5]
 rw[U2 (r:=N5 S) (λs=>s.1=N5 S) (λs=>(N5 S).length-s.2) (λs h1=>by
  simp only[iC.s2]
  by_cases h3:s.2<(N5 S).length
  ·left
   have hx:=get_at h3
   have a4:SmW ((N5 S)[s.2]):=hl.2 _ ((hm _).1 (M8 _))
   refine⟨(N5 S,s.2+1),?_,rfl,by simp only;omega⟩
   rw[M6 hx,F7,h1,B8 hx,CG a4]
   simp only[T5]
   rw[B8 hx,L3,List.set_getElem_self]
  ·right
   rw[B1,h1]) (s:=(N5 S,0)) rfl]
 rfl
def xS{l:A4}(hl:SmL l):kB l=some (sortW l):=by
 obtain⟨S,e,h1,h2,_⟩:=ordered_eq cmpW_total (f:=λu0 u1=>iW u0 u1) hl λa ha b hb=>xK a b (by have:SmW a:=hl.2 a ha;unfold SmW at this;omega);unfold kB;rw[e];show some S=_;congr 1;exact mK h1 (dC l) λx=>by rw[h2,Q3]
def sml_sort{l:A4}(h:SmL l):SmL (sortW l):=⟨aP (jY l) h.1,λx hx=>h.2 x ((Q3 l x).1 hx)⟩
def zrd{ls:List (A4)}(h0:ls.length<=100000000)(hl:SmL ls.flatten):qI ls=some (sortW ls.flatten):=by
 unfold qI;rw[concat_words ls h0 (by have:=hl.1;omega)];simp only[T5];rw[xS hl];rfl
def R02_place_eq{l:A4}{w:A2}(hA:Asc l)(hl:SmL l):gW l w=some (↑(M1 l w):Int):=by
 have a5:l.length<=2000000:=hl.1;have a2:=tD l w;have a4:=placeL_le l w;unfold gW
 rw[U2 (r:=M1 l w) (λs=>s.1<=M1 l w/\M1 l w<=s.2/\s.2<=l.length) (λs=>s.2-s.1) (λs ⟨h1,h2,h3⟩=>by
  obtain⟨lo,hi⟩:=s
  simp only at h1 h2 h3
  simp only[gW.s2]
  by_cases h4:lo<hi
  ·left
   have hx:=get_at (l:=l) (i:=(lo+hi) / 2) (by omega)
   rw[C2,L3,L3,B8 hx,CU _ _ (hl.2 _ (M8 _))]
   simp only[T5]
   by_cases h5:cmpW (l[(lo+hi) / 2]'(by omega)) w<0
   ·refine⟨((lo+hi) / 2+1,hi),by rw[C2 h5,L3],⟨?_,h2,h3⟩,by simp only;omega⟩
    simp only
    rcases J3 ((lo+hi) / 2) (M1 l w) with h|h
    ·exact h
    ·exfalso
     have hp:=get_at (l:=l) (i:=M1 l w) (by omega)
     have a3:=a2.2 _ hp
     have r1:=pX (l[(lo+hi) / 2]'(by omega)) w
     rcases J3 (M1 l w) ((lo+hi) / 2) with h'|h'
     ·have:=hA.get h' hp hx
      exact a3 (jX _ _ _ this (by omega))
     ·have e:M1 l w=(lo+hi) / 2:=by omega
      simp only[e]at a3
      omega
   ·refine⟨(lo,(lo+hi) / 2),by rw[B1 h5],⟨h1,?_,by simp only;omega⟩,by simp only;omega⟩
    simp only
    rcases J3 ((lo+hi) / 2) (M1 l w) with h|h
    ·exfalso
     have:=a2.1 _ _ h hx
     omega
    ·exact h
  ·right
   rw[B1,show lo=M1 l w by omega]) (s:=(0,l.length)) ⟨D8 _,a4,F9 _⟩]
 rfl
def AN{l:A4}{w:A2}(hA:Asc l)(hl:SmL l)(hw:SmW w):dW l w=some (insW l w):=by
 have a8:l.length<=2000000:=hl.1;have a9:w.length<=2000000:=hw;have a4:=placeL_le l w;have a7:=hA.mem_place w;unfold dW;rw[R02_place_eq hA hl];simp only[T5];by_cases hm:w∈l
 ·have hx:=a7.1 hm;have a5:=(E0.1 hx).1;rw[C2 (show(↑(M1 l w):Int)<(l.length:Int) by omega),D7 rfl hx,wF _ _ hw];unfold insW;rw[if_pos hm];simp
 ·have hc:(cond (decide ((↑(M1 l w):Int)<(l.length:Int))) (idx l (↑(M1 l w):Int) λa2=>(jU a2 w).bind λa6=>some a6) (some false):Option Bool)=some false:=by
   by_cases a5:M1 l w<l.length
   ·have hx:=get_at a5;rw[C2,D7 rfl hx,wF _ _ (hl.2 _ (M8 _))];have:¬l[M1 l w]=w:=λe=>hm (a7.2 (by rw[hx,e]));simp[this]
   ·rw[B1]
  rw[hc];simp only[T5,G5];have a3:(l++[([]:A2)]).length=l.length+1:=by simp
  rw[O6,H9 (by rw[a3];unfold inR;omega)]
  have key:=aZ (step:=λ(s:A4×Int)=>dW.s2 (↑(M1 l w):Int) s.1 s.2) (λs=>∃i:Nat,s.2=(i:Int)/\M1 l w<=i/\i<=l.length/\∃z,s.1=stage l z i) (λs=>s.2.toNat-M1 l w) (λr=>∃z,r=stage l z (M1 l w)) (λs ⟨i,h1,h2,h3,z,h4⟩=>by
   obtain⟨y,i'⟩:=s
   simp only at h1 h4
   subst h1 h4
   simp only[dW.s2]
   by_cases h5:M1 l w<i
   ·left
    have hx:=get_at (l:=l) (i:=i-1) (by omega)
    have e1:(stage l z i)[i-1]?=some (l[i-1]'(by omega)):=by rw[stage_before (by omega) h3];exact hx
    have e2:(stage l z i)[i]?=some z:=stage_at h3
    refine⟨(stage l (l[i-1]'(by omega)) (i-1),↑(i-1:Nat)),?_,⟨i-1,rfl,by omega,by omega,_,rfl⟩,by simp only;omega⟩
    rw[C2,L3,D7 (i:=i-1) (by omega) e1,D7 rfl e2,L3,H6,stage_set h3]
    have h6:=stage_down (us:=l) (j:=i-1) hx
    rw[show i-1+1=i by omega]at h6
    rw[h6,show(i:Int)-1=((i-1:Nat):Int) by omega]
   ·right
    have e:i=M1 l w:=by omega
    subst e
    refine⟨_,by rw[B1],z,rfl⟩) fuel (l++[[]],(↑(l++[([]:A2)]).length:Int)-1) ⟨l.length,by simp only[a3];omega,a4,F9 _,[],(stage_end l []).symm⟩ (by have:=Y0;simp only[a3];omega)
  obtain⟨r,e,z,hz⟩:=key;subst hz;rw[e];simp only[T5];have e2:(stage l z (M1 l w))[M1 l w]?=some z:=stage_at a4;rw[H9 (by unfold B4;simp;omega),D7 rfl e2,H6,stage_set a4,dI];unfold insW;rw[if_neg hm];rfl
def nP{l:A4}(hl:SmL l):cG l=some (sortW l):=by
 have a3:l.length<=2000000:=hl.1;unfold cG
 rw[U2 (r:=sortW l) (λs=>s.2<=l.length/\s.1=sortW (l.take s.2)) (λs=>l.length-s.2) (λs ⟨h1,h2⟩=>by
  obtain⟨y,i⟩:=s
  simp only at h1 h2
  subst h2
  simp only[cG.s2]
  by_cases h3:i<l.length
  ·left
   have hx:=get_at h3
   have a2:SmL (sortW (l.take i)):=sml_sort ⟨by rw[M3];omega,λx hx=>hl.2 x (aD hx)⟩
   refine⟨(sortW (l.take (i+1)),i+1),?_,⟨h3,rfl⟩,by simp only;omega⟩
   rw[M6 hx,F7,B8 hx,AN (dC _) a2 (hl.2 _ (M8 _)),W4 hx,zK]
   rfl
  ·right
   have e:i=l.length:=by omega
   subst e
   rw[B1,R5]) (s:=([],0)) ⟨D8 _,by simp[sortW]⟩]
 rfl
def R02_Union_eq{ls:List (A4)}(h0:ls.length<=100000000)(hl:SmL ls.flatten):gV ls=some (sortW ls.flatten):=by
 have a2:ls.flatten.length<=2000000:=hl.1;unfold gV
 rw[U2 (r:=ls.flatten) (λs=>s.2<=ls.length/\s.1=(ls.take s.2).flatten) (λs=>ls.length-s.2) (λs ⟨h1,h2⟩=>by
  simp only[gV.s2]
  by_cases h3:s.2<ls.length
  ·left
   have hx:=get_at h3
   have h4:=nS hx
   have h5:=nY (l:=ls) (s.2+1)
   rw[h4,H4]at h5
   refine⟨((ls.take (s.2+1)).flatten,s.2+1),?_,⟨by omega,rfl⟩,by simp only;omega⟩
   rw[M6 hx,F7,B8 hx,H9 (by rw[h2];unfold B4;omega),h4,h2]
  ·right
   have e:s.2=ls.length:=by omega
   rw[B1,h2,e,R5]) (s:=([],0)) ⟨D8 _,by simp⟩]
 simp only[T5];rw[nP hl];rfl
def qC(l:A4)(hl:l.length<=100000000)(hf:l.flatten.length<=1000000000):dB l=some l.flatten:=by
 unfold dB
 rw[U2 (r:=l.flatten) (λs=>s.2<=l.length/\s.1=(l.take s.2).flatten) (λs=>l.length-s.2) (λs ⟨h1,h2⟩=>by
  simp only[dB.s2]
  by_cases h3:s.2<l.length
  ·left
   have hx:=get_at h3
   have h4:=nS hx
   have h5:=nY (l:=l) (s.2+1)
   rw[h4,H4]at h5
   refine⟨((l.take (s.2+1)).flatten,s.2+1),?_,⟨by omega,rfl⟩,by simp only;omega⟩
   rw[M6 hx,F7,B8 hx,H9 (by rw[h2];unfold B4;omega),h4,h2]
  ·right
   have e:s.2=l.length:=by omega
   rw[B1,h2,e,R5]) (s:=([],0)) ⟨D8 _,by simp⟩]
 rfl
def SmO(o:G7):Prop:=o.T.length<=1100000/\∀t∈o.T,t.In.length<=1100000/\t.O.length<=2000000
def xW(w p:A2)(hw:SmW w):jZ w p=some (decide (p <+: w)):=by
 unfold jZ;rw[tM w p hw,A5];congr 1;exact decide_eq_decide.2 (by rw[<- tA w p];omega)
def xG(a b:A2)(ha:SmW a):fB a b=some (F8 a b:Int):=by
 have a3:a.length<=2000000:=ha;have a2:=mZ a b;unfold fB
 have key:=J2 (step:=λk=>fB.s2 a b k) (λk=>k<=a.length/\k<=b.length/\F8 a b=F8 (a.drop k) (b.drop k)+k) (λk=>a.length-k) (λr=>Sum.elim (λ(_:Unit)=>some (min (a.length:Int) (b.length:Int))) some r=some (F8 a b:Int)) (λk ⟨h1,h2,h3⟩=>by
  simp only[fB.s2]
  by_cases h4:k<a.length/\k<b.length
  ·have hx:=get_at h4.1
   have hy:=get_at h4.2
   rw[C2 (show(k:Int)<min (a.length:Int) (b.length:Int) by omega),B8 hx,B8 hy]
   rw[fI h4.1,fI h4.2]at h3
   by_cases e:a[k]=b[k]
   ·left
    refine⟨k+1,by simp[e],⟨h4.1,h4.2,?_⟩,by omega⟩
    rw[h3,e]
    simp[F8]
    omega
   ·right
    simp only[F8,e,if_false,E8]at h3
    exact⟨.inr (k:Int),by simp[e],by rw[h3];rfl⟩
  ·right
   rw[B1]
   refine⟨.inl (),rfl,?_⟩
   rw[vU (by omega),E8]at h3
   simp only[T6]
   congr 1
   omega) 0 ⟨D8 _,D8 _,by simp⟩
 obtain⟨r,e,hq⟩:=key;rw[e];exact hq
def DO(w p:A2)(hw:SmW w):nU w p=some (decide (p <+: w)):=by
 unfold nU;rw[xG w p hw,A5];congr 1;exact decide_eq_decide.2 (by rw[<- tA w p];omega)
def gD(n:Int)(t:C7):Prop:=R8 t.In n=0/\t.O.length=t.In.length/\∀y∈t.O,0<=y/\y<=1048576
def Agree(a b:C7):Prop:=a.O.take (F8 a.In b.In)=b.O.take (F8 a.In b.In)
structure X0(o:G7):Prop where
 inp:1<=o.I/\o.I<=64
 num:o.T.length<=10000
 prop:∀t∈o.T,gD o.I t/\t.In≠[]
 asc:∀(i j:Nat) a b,i<j->o.T[i]?=some a->o.T[j]?=some b->cmpW a.In b.In=-1
 apart:∀(i j:Nat) a b,i<j->o.T[i]?=some a->o.T[j]?=some b->¬a.In <+: b.In/\Agree a b

def sortW_ext{l m:A4}(h:∀x,x∈l↔x∈m):sortW l=sortW m:=mK (dC l) (dC m) λx=>by rw[Q3,Q3,h]
def zub{l:A4}(hl:SmL l):bL l=some (maxR l):=by
 have hA:=dC l;have hs:=sml_sort hl;have a5:(sortW l).length<=2000000:=hs.1;unfold bL maxR;rw[nP hl,A5]
 have a3:∀(i:Nat) (x:A2),(sortW l)[i]?=some x->iter (λ(s:Bool×Nat)=>bL.s13 (sortW l) i s.1 s.2) fuel (true,i+1)=some (topB (sortW l) x):=by
  intro i x hx;have hi:=(E0.1 hx).1;refine U2 (λs=>i+1<=s.2/\s.2<=(sortW l).length/\s.1=tailB x (((sortW l).take s.2).drop (i+1))) (λs=>(sortW l).length-s.2) (λs ⟨g1,g2,g3⟩=>?_) ⟨F9 _,by simp only;omega,by simp[tailB]⟩;obtain⟨b,k⟩:=s;simp only at g1 g2 g3;simp only[bL.s13];by_cases g4:k<(sortW l).length
  ·left;have hy:=get_at g4;have a2:=tailB_step (x:=x) g1 hy;rw[<- g3]at a2;refine⟨(tailB x (((sortW l).take (k+1)).drop (i+1)),k+1),?_,⟨by simp only;omega,by simp only;omega,rfl⟩,by simp only;omega⟩;rw[M6 hy,F7,a2];cases b with
   |false=>rfl
   |true =>
    rw[F7,B8 hy,B8 hx,yA];by_cases g5:(sortW l)[k].length=x.length
    ·rw[C2,E9 (Or.inl g5)]
    ·rw[B1,B8 hy,B8 hx,xW _ _ (hs.2 _ (M8 _)),A5];by_cases g6:x <+: (sortW l)[k]
     ·rw[E9 g6,I3 (λh=>h.elim g5 λh=>h g6)];rfl
     ·rw[I3 g6,E9 (Or.inr g6)];rfl
  ·right;have e:k=(sortW l).length:=by omega
   subst e;rw[B1,g3,R5,top_eq hA hx]
 have key:=U2 (step:=λ(s:A4×Nat)=>bL.s14 (sortW l) s.1 s.2) (r:=(sortW l).filter (topB (sortW l))) (λs=>s.2<=(sortW l).length/\s.1=((sortW l).take s.2).filter (topB (sortW l))) (λs=>(sortW l).length-s.2) (λs ⟨g1,g2⟩=>by
  obtain⟨y,i⟩:=s
  simp only at g1 g2
  subst g2
  simp only[bL.s14]
  by_cases g4:i<(sortW l).length
  ·left
   have hx:=get_at g4
   have a2:=filter_step (p:=topB (sortW l)) hx
   have a4:=List.length_filter_le (topB (sortW l)) ((sortW l).take i)
   rw[M3]at a4
   refine⟨(((sortW l).take (i+1)).filter (topB (sortW l)),i+1),?_,⟨by simp only;omega,rfl⟩,by simp only;omega⟩
   rw[M6 hx,F7,a3 i _ hx,A5,a2]
   cases topB (sortW l) (sortW l)[i]with
   |true =>
    rw[F7,B8 hx,O6]
    rfl
   |false=>simp
  ·right
   have e:i=(sortW l).length:=by omega
   subst e
   rw[B1,R5]) (n:=fuel) (s:=([],0)) ⟨D8 _,by simp⟩
 rw[key,A5]
structure TabOk(t:bV):Prop where
 sm:SmT t
 n:t.I<=4
 p:t.P.length<=80
 s:t.X.length<=12
 pw:∀x∈t.P,x.length<=80
 sw:∀x∈t.X,x.length<=30
def tQ(a b:A4)(ha:SmL a):aO a b=some (decide (a=b)):=by
 have a3:a.length<=2000000:=ha.1;unfold aO;by_cases a2:a.length=b.length
 ·rw[B1];refine iter_all2 a2 (λi x y hx hy=>?_) ?_ (by omega)
  ·simp only[aO.s2];rw[M6 hx,F7,B8 hx,B8 hy,wF x y (ha.2 x (G6 hx)),A5];by_cases h:x=y<;>simp[h]
  ·simp only[aO.s2];rw[X6];rfl
 ·rw[C2];have:a≠b:=λh=>a2 (by rw[h]);simp[this]


structure UpF(n:Nat)(tp dp:Nat->Nat)(up:A2):Prop where
 len:up.length=n
 lt:∀q,q<n->tp q<n
 idem:∀q,q<n->tp (tp q)=tp q
 at_:∀q,q<n->∃u:Nat,u<n/\up[q]?=some (u:Int)/\(tp q=q->u=q)/\(tp q≠q->tp u=tp q/\dp u<dp q)
 few:∀q,q<n->dp q+Y9 n tp<=n
def top_eq{n:Nat}{tp dp:Nat->Nat}{up:A2}(U:UpF n tp dp up)(hn:n<=10000000){u:Nat}(hu:u<n):eX up (u:Int)=some (↑(tp u):Int):=by
 unfold eX
 have key:=aZ (step:=λ(s:Int)=>eX.s2 up s) (λs=>∃v:Nat,s=(v:Int)/\v<n/\tp v=tp u) (λs=>dp s.toNat) (λr=>r=(↑(tp u):Int)) (λs ⟨v,e,h1,h2⟩=>by
  subst e
  simp only[eX.s2]
  obtain⟨w,w1,w2,w3,w4⟩:=U.at_ v h1
  rw[D7 (i:=v) rfl w2]
  by_cases g:tp v=v
  ·right
   have:=w3 g
   exact⟨_,by rw[B1],by omega⟩
  ·left
   obtain⟨k1,k2⟩:=w4 g
   have a2:w≠v:=λe=>by rw[e]at k2;omega
   exact⟨(w:Int),by rw[C2,D7 (i:=v) rfl w2],⟨w,rfl,w1,by omega⟩,by simp only[H6];exact k2⟩) fuel (↑u) ⟨u,rfl,hu,rfl⟩ (by have:=Y0;have:=U.few u hu;simp only[H6];omega)
 obtain⟨r,e,rfl⟩:=key;rw[e,A5]
def UpF.flat{n:Nat}{tp dp:Nat->Nat}{up:A2}(U:UpF n tp dp up)(hz:∀q,q<n->tp q≠q->dp (tp q)<dp q){i:Nat}(hi:i<n):UpF n tp dp (up.set i (↑(tp i):Int)):=by
 refine⟨by rw[P2];exact U.len,U.lt,U.idem,λq hq=>?_,U.few⟩;by_cases e:q=i
 ·subst e;refine⟨tp q,U.lt q hq,by rw[P5 (by rw[U.len];exact hq)],λh=>h,λh=>⟨U.idem q hq,hz q hq h⟩⟩
 ·rw[O3 (λh=>e h.symm)];exact U.at_ q hq
structure MemF(n:Nat)(tp:Nat->Nat)(mem:A4):Prop where
 len:mem.length=n
 at_:∀c,c<n->tp c=c->∃L:List Nat,mem[c]?=some (L.map λ(q:Nat)=>(q:Int))/\L.Nodup/\∀q,q∈L↔q<n/\tp q=c
def zU{n:Nat}{L:List Nat}(h:L.Nodup)(hL:∀q,q∈L->q<n):L.length<=n:=by
 have h1:=eV h (b:=List.range n) λq hq=>K6.2 (hL q hq)
 rwa [M5]at h1
def AO{p:A9}(H:H7 p){L:List Nat}(hL:∀q,q∈L->q<p.N.length)(hl:L.length<=10000000){a:Nat}(ha:a<p.I.toNat):∃r,fW p (L.map λ(q:Nat)=>(q:Int)) (a:Int)=some r/\((r=-1/\∀q,q∈L->pnx p q a=-1)\/∃i:Nat,r=(i:Int)/\i∈L/\pnx p i a≠-1):=by
 have key:=J2 (step:=λ(s:Nat)=>fW.s2 p (L.map λ(q:Nat)=>(q:Int)) (a:Int) s) (λk=>k<=L.length/\∀j q:Nat,j<k->L[j]?=some q->pnx p q a=-1) (λk=>L.length-k) (λr=>(r=.inl ()/\∀q,q∈L->pnx p q a=-1)\/∃i:Nat,r=.inr (i:Int)/\i∈L/\pnx p i a≠-1) (λk ⟨g1,g2⟩=>by
  simp only[fW.s2,B7]
  by_cases h:k<L.length
  ·have hx:=get_at h
   have hq:=hL _ (G6 hx)
   obtain⟨n1,n2,n3,n4,n5,xr,yr,a4,a5,a3,a6,_,_⟩:=H.at hq ha
   have hm:(L.map λ(q:Nat)=>(q:Int))[k]?=some (↑(L[k]):Int):=by rw[H1,hx];rfl
   rw[C2,B8 hm,D7 (i:=L[k]) rfl a4,D7 (i:=a) rfl a3]
   by_cases t0:pnx p L[k] a=-1
   ·left
    refine⟨k+1,by rw[B1 (λg=>g t0)],⟨h,λj q hj a2=>?_⟩,by omega⟩
    by_cases e:j=k
    ·subst e
     rw[hx]at a2
     injection a2 with a2
     rw[<- a2]
     exact t0
    ·exact g2 j q (by omega) a2
   ·right
    exact⟨_,by rw[C2 t0],.inr ⟨L[k],rfl,G6 hx,t0⟩⟩
  ·right
   refine⟨_,by rw[B1],.inl ⟨rfl,λq hq=>?_⟩⟩
   obtain⟨j,hj⟩:=iI hq
   have:=(E0.1 hj).1
   exact g2 j q (by omega) hj) 0 ⟨D8 _,λj q hj=>absurd hj (O4 _)⟩
 obtain⟨r,e,hr⟩:=key;unfold fW;rw[e,A5];rcases hr with⟨rfl,h⟩|⟨i,rfl,h⟩
 ·exact⟨_,by rw[T6],.inl ⟨rfl,h⟩⟩
 ·exact⟨_,by rw[eC],.inr ⟨i,rfl,h⟩⟩
structure EvIn(p:A9)(Lx Ly:List Nat)(new:List T_A2)(a:Nat):Prop where
 few:new.length<=a
 wk:∀w,w∈new->∃b i j u v:Nat,i∈Lx/\j∈Ly/\pnx p i b=(u:Int)/\pnx p j b=(v:Int)/\w=⟨(u:Int),(v:Int)⟩
 all:∀b,b<a->(∀q,q∈Lx->pnx p q b=-1)\/(∀q,q∈Ly->pnx p q b=-1)\/∃i j,i∈Lx/\j∈Ly/\pnx p i b≠-1/\pnx p j b≠-1/\pot p i b=pot p j b/\(⟨pnx p i b,pnx p j b⟩:T_A2)∈new
def EvQ(p:A9)(Lx Ly:List Nat)(W0:List T_A2)(r:List T_A2⊕((A2×A4×List T_A2)⊕((A2×A4×List T_A2)⊕(A2⊕(A2×Bool))))):Prop :=
 (r=.inr (.inr (.inr (.inr ([],false))))/\∃b i j,i∈Lx/\j∈Ly/\pnx p i b≠-1/\pnx p j b≠-1/\pot p i b≠pot p j b)\/∃new,r=.inl (W0++new)/\EvIn p Lx Ly new p.I.toNat
def loop_ev{p:A9}(H:H7 p){mem:A4}{x y:Nat}{Lx Ly:List Nat}(hx:mem[x]?=some (Lx.map λ(q:Nat)=>(q:Int)))(hy:mem[y]?=some (Ly.map λ(q:Nat)=>(q:Int)))(hLx:∀q,q∈Lx->q<p.N.length)(hLy:∀q,q∈Ly->q<p.N.length)(lx:Lx.length<=10000000)(ly:Ly.length<=10000000){W0:List T_A2}(hW:W0.length<=1000000) :
  ∃r,iter (λ(s:List T_A2×Nat)=>L6.s32 p mem (x:Int) (y:Int) s.1 s.2) fuel (W0,0)=some r/\EvQ p Lx Ly W0 r:=by
 have hi:=H.i2;have c0:=H.i1;refine J2 (step:=λ(s:List T_A2×Nat)=>L6.s32 p mem (x:Int) (y:Int) s.1 s.2) (λs=>s.2<=p.I.toNat/\∃new,s.1=W0++new/\EvIn p Lx Ly new s.2) (λs=>p.I.toNat-s.2) (EvQ p Lx Ly W0) (λ⟨W1,a⟩ ⟨g1,new,g2,J⟩=>?_) (W0,0) ⟨D8 _,[],(W8 _).symm,⟨F9 _,λw hw=>(by cases hw),λb hb=>absurd hb (O4 _)⟩⟩;simp only at g1 g2 J;subst g2;simp only[L6.s32];by_cases h:a<p.I.toNat
 ·have b6:(a:Int)<p.I:=by omega
  obtain⟨i,ei,a6⟩:=AO H hLx lx h;obtain⟨j,ej,a7⟩:=AO H hLy ly h;have b9:=J.few;rw[C2 b6,D7 (i:=x) rfl hx,ei,A5,D7 (i:=y) rfl hy,ej,A5]
  have skip:((∀q,q∈Lx->pnx p q a=-1)\/(∀q,q∈Ly->pnx p q a=-1))->EvIn p Lx Ly new (a+1):=λhh=>⟨by omega,J.wk,λb hb=>by
   by_cases e:b=a
   ·subst e
    exact hh.elim .inl λk=>.inr (.inl k)
   ·exact J.all b (by omega)⟩
  rcases a6 with⟨rfl,a6⟩|⟨i,rfl,a2,a5⟩
  ·left;exact⟨(W0++new,a+1),by rw[C2 rfl,A5,F7,A5,T6,L3],⟨h,new,rfl,skip (.inl a6)⟩,by simp only;omega⟩
  rcases a7 with⟨rfl,a7⟩|⟨j,rfl,a3,a4⟩
  ·left;exact⟨(W0++new,a+1),by rw[B1,E9 rfl,A5,F7,A5,T6,L3],⟨h,new,rfl,skip (.inr a7)⟩,by simp only;omega⟩
  obtain⟨n1,n2,n3,n4,n5,xi,yi,b7,b5,b2,a8,_,_⟩:=H.at (hLx _ a2) h;obtain⟨m1,m2,m3,m4,m5,xj,yj,b4,b8,b3,a9,_,_⟩:=H.at (hLy _ a3) h;rw[B1,I3 (by omega),A5,G5,D7 (i:=i) rfl b5,B8 a8,D7 (i:=j) rfl b8,B8 a9];by_cases t0:pot p i a=pot p j a
  ·left;refine⟨(W0++(new++[⟨pnx p i a,pnx p j a⟩]),a+1),by rw[B1 (λg=>g t0),D7 (i:=i) rfl b7,B8 b2,D7 (i:=j) rfl b4,B8 b3,H9 (by unfold B4;rw[H4];omega),A5,T6,L3,aS],⟨h,_,rfl,⟨by rw[H4,O8];omega,λw hw=>?_,λb hb=>?_⟩⟩,by simp only;omega⟩
   ·rcases I2.1 hw with hw|hw
    ·exact J.wk w hw
    ·rw[I7.1 hw];exact⟨a,i,j,(pnx p i a).toNat,(pnx p j a).toNat,a2,a3,by omega,by omega,by rw[show((↑(pnx p i a).toNat:Int))=pnx p i a by omega,show((↑(pnx p j a).toNat:Int))=pnx p j a by omega]⟩
   ·by_cases e:b=a
    ·subst e;exact .inr (.inr ⟨i,j,a2,a3,a5,a4,t0,L2 _ (I7.2 rfl)⟩)
    ·rcases J.all b (by omega) with k|k|⟨i',j',k1,k2,k3,k4,k5,k6⟩
     ·exact .inl k
     ·exact .inr (.inl k)
     ·exact .inr (.inr ⟨i',j',k1,k2,k3,k4,k5,K9 _ k6⟩)
  ·right;exact⟨_,by rw[C2 t0,A5,eC],.inl ⟨rfl,a,i,j,a2,a3,a5,a4,t0⟩⟩
 ·right;have e1:a=p.I.toNat:=by omega
  subst e1;exact⟨_,by rw[B1],.inr ⟨new,rfl,J⟩⟩
section
structure EvF(p:A9)(s t:Nat)(tp dp:Nat->Nat)(up:A2)(mem:A4)(W:List T_A2):Prop where
 up:UpF p.N.length tp dp up
 z:∀q,q<p.N.length->tp q=q->dp q=0
 mem:MemF p.N.length tp mem
 sound:∀q,q<p.N.length->Cong p s t q (tp q)
 wk:∀w,w∈W->∃u v:Nat,w=⟨(u:Int),(v:Int)⟩/\u<p.N.length/\v<p.N.length/\Cong p s t u v
 st:∀f,Lab p.N.length tp W f->f s=f t
 cong:∀q r a,q<p.N.length->r<p.N.length->tp q=tp r->pnx p q a≠-1->pnx p r a≠-1->pot p q a=pot p r a/\∀f,Lab p.N.length tp W f->f (pnx p q a).toNat=f (pnx p r a).toNat
 few:65*Y9 p.N.length tp+W.length<=65*p.N.length+1
section
variable {p:A9}{s t:Nat}
def EvF.skip{tp dp:Nat->Nat}{up:A2}{mem:A4}{W:List T_A2}{u v:Nat}(F:EvF p s t tp dp up mem (⟨(u:Int),(v:Int)⟩::W))(hu:u<p.N.length)(hv:v<p.N.length)(g:tp u=tp v):EvF p s t tp dp up mem W:=by
 have a2:∀f,Lab p.N.length tp W f->Lab p.N.length tp (⟨(u:Int),(v:Int)⟩::W) f:=λf hf=>⟨hf.1,λu' v' h=>by
  rcases M4.1 h with h|h
  ·injection h with h3 h4
   have q1:u'=u:=by omega
   have q2:v'=v:=by omega
   rw[q1,q2]
   exact hf.1 u v hu hv g
  ·exact hf.2 u' v' h⟩
 have a3:=F.few;rw[G8]at a3;exact⟨F.up,F.z,F.mem,F.sound,λw hw=>F.wk w (M7 _ hw),λf hf=>F.st f (a2 f hf),λq r a hq hr e h1 h2=>⟨(F.cong q r a hq hr e h1 h2).1,λf hf=>(F.cong q r a hq hr e h1 h2).2 f (a2 f hf)⟩,by omega⟩
def EvF.join(H:H7 p){tp dp:Nat->Nat}{up:A2}{mem:A4}{W new:List T_A2}{u v:Nat}(F:EvF p s t tp dp up mem (⟨(u:Int),(v:Int)⟩::W))(hu:u<p.N.length)(hv:v<p.N.length)(huv:Cong p s t u v)(hne:tp u≠tp v){Lx Ly:List Nat}
  (lx:Lx.Nodup) (ly:Ly.Nodup) (mx:∀q,q∈Lx↔q<p.N.length/\tp q=tp u) (my:∀q,q∈Ly↔q<p.N.length/\tp q=tp v) (J:EvIn p Lx Ly new p.I.toNat) :
  ∃tp' dp',EvF p s t tp' dp' (up.set (tp v) (↑(tp u):Int)) (mem.set (tp u) ((Lx++Ly).map λ(q:Nat)=>(q:Int))) (W++new)/\65*Y9 p.N.length tp'+(W++new).length<65*Y9 p.N.length tp+(W.length+1):=by
 have hi:=H.i2;have b3:=F.few;have hJ:=J.few;rw[G8]at b3;have hx:=F.up.lt u hu;have hy:=F.up.lt v hv;have ix:=F.up.idem u hu;have iy:=F.up.idem v hv;have a9:Cong p s t (tp u) (tp v):=(F.sound u hu).symm.trans (huv.trans (F.sound v hv));have zx:=F.z _ hx ix;generalize b7:tp u=x at *;generalize b8:tp v=y at *;obtain⟨tp',a7⟩:∃tp':Nat->Nat,tp'=λq=>if tp q=y then x else tp q:=⟨_,rfl⟩
 obtain⟨dp',a6⟩:∃dp':Nat->Nat,dp'=λq=>if tp q=y then dp q+1 else dp q:=⟨_,rfl⟩
 have t1:∀q,tp q=y->tp' q=x:=λq h=>by rw[a7];simp only;rw[if_pos h]
 have t2:∀q,tp q≠y->tp' q=tp q:=λq h=>by rw[a7];simp only;rw[if_neg h]
 have d1:∀q,tp q=y->dp' q=dp q+1:=λq h=>by rw[a6];simp only;rw[if_pos h]
 have d2:∀q,tp q≠y->dp' q=dp q:=λq h=>by rw[a6];simp only;rw[if_neg h]
 clear a7 a6
 have keep:∀q r,tp q=tp r->tp' q=tp' r:=λq r h=>by
  by_cases g:tp q=y
  ·rw[t1 q g,t1 r (by omega)]
  ·rw[t2 q g,t2 r (by omega),h]
 have a5:∀q,tp' q=q->tp q=q/\q≠y:=λq h=>by
  by_cases g:tp q=y
  ·rw[t1 q g]at h;subst h;omega
  ·rw[t2 q g]at h;exact⟨h,by omega⟩
 have b5:Y9 p.N.length tp'<Y9 p.N.length tp:=countP_lt (λq _ h=>E9 (a5 q (of_decide_eq_true h)).1) hy (E9 iy) (I3 λh=>(a5 y h).2 rfl);have b4:tp' x=x:=by rw[t2 x (by omega),ix]
 have b6:UpF p.N.length tp' dp' (up.set y (x:Int)):=by
  refine⟨by rw[P2];exact F.up.len,λq hq=>?_,λq hq=>?_,λq hq=>?_,λq hq=>?_⟩
  ·by_cases g:tp q=y
   ·rw[t1 q g];exact hx
   ·rw[t2 q g];exact F.up.lt q hq
  ·by_cases g:tp q=y
   ·rw[t1 q g];exact b4
   ·rw[t2 q g,t2 (tp q) (by rw[F.up.idem q hq];exact g)];exact F.up.idem q hq
  ·by_cases e:q=y
   ·rw[e];refine⟨x,hx,by rw[P5 (by rw[F.up.len];exact hy)],λh=>absurd rfl (a5 y h).2,λh=>⟨by rw[b4,t1 y iy],?_⟩⟩;rw[d1 y iy,d2 x (by omega)];omega
   ·obtain⟨w,w1,w2,w3,w4⟩:=F.up.at_ q hq;refine⟨w,w1,by rw[O3 (λh=>e h.symm)];exact w2,λh=>w3 (a5 q h).1,λh=>?_⟩;have g:tp q≠q:=λg=>h (by rw[t2 q (by omega)];exact g);obtain⟨k1,k2⟩:=w4 g;refine⟨keep _ _ k1,?_⟩;by_cases g2:tp q=y
    ·rw[d1 q g2,d1 w (by omega)];omega
    ·rw[d2 q g2,d2 w (by omega)];omega
  ·have:=F.up.few q hq;by_cases g:tp q=y
   ·rw[d1 q g];omega
   ·rw[d2 q g];omega
 have a3:∀f,Lab p.N.length tp' (W++new) f->Lab p.N.length tp (⟨(u:Int),(v:Int)⟩::W) f:=λf ⟨f1,f2⟩=>⟨λq r hq hr e=>f1 q r hq hr (keep _ _ e),λu' v' h=>by
  rcases M4.1 h with h|h
  ·injection h with h3 h4
   have e1:u'=u:=by omega
   have e2:v'=v:=by omega
   rw[e1,e2]
   exact f1 _ _ hu hv (by rw[t1 v b8,t2 u (by omega),b7])
  ·exact f2 u' v' (K9 _ h)⟩
 have a4:∀q r a,q<p.N.length->r<p.N.length->tp q=y->tp r=x->pnx p q a≠-1->pnx p r a≠-1->pot p q a=pot p r a/\∀f,Lab p.N.length tp' (W++new) f->f (pnx p q a).toNat=f (pnx p r a).toNat:=λq r a hq hr eq er h1 h2=>by
  have ha:a<p.I.toNat:=Q9 λg=>by
   have a8:=H.row q hq;obtain⟨xr,yr,k1,k2,k3,k4,_⟩:=a8;apply h1;unfold pnx;rw[k1,E7,L0 (by omega),yH]
  rcases J.all a ha with k|k|⟨i,j,k1,k2,k3,k4,k5,k6⟩
  ·exact absurd (k r ((mx r).2 ⟨hr,er⟩)) h2
  ·exact absurd (k q ((my q).2 ⟨hq,eq⟩)) h1
  ·obtain⟨i1,i2⟩:=(mx i).1 k1;obtain⟨j1,j2⟩:=(my j).1 k2;obtain⟨a1,a2⟩:=F.cong r i a hr i1 (er.trans i2.symm) h2 k3;obtain⟨b1,b2⟩:=F.cong q j a hq j1 (eq.trans j2.symm) h1 k4;refine⟨by rw[b1,<- k5,a1],λf hf=>?_⟩;have ni:=H.at i1 ha;have nj:=H.at j1 ha;rw[b2 f (a3 f hf),a2 f (a3 f hf)];refine(hf.2 _ _ (L2 _ ?_)).symm;rw[show((↑(pnx p i a).toNat:Int))=pnx p i a by omega,show((↑(pnx p j a).toNat:Int))=pnx p j a by omega];exact k6
 refine⟨tp',dp',⟨b6,λq hq h=>?_,⟨by rw[P2];exact F.mem.len,λc hc h=>?_⟩,λq hq=>?_,λw hw=>?_,λf hf=>F.st f (a3 f hf),λq r a hq hr e h1 h2=>?_,by rw[H4];omega⟩,by rw[H4];omega⟩
 ·obtain⟨g1,g2⟩:=a5 q h;rw[d2 q (by omega)];exact F.z q hq g1
 ·obtain⟨g1,g2⟩:=a5 c h;by_cases e:c=x
  ·subst e;refine⟨Lx++Ly,by rw[P5 (by rw[F.mem.len];exact hc)],?_,λq=>?_⟩
   ·refine V5.2 ⟨lx,ly,λa ha b hb e=>?_⟩;subst e;exact hne (((mx a).1 ha).2.symm.trans ((my a).1 hb).2)
   ·rw[I2,mx,my];constructor
    ·rintro (⟨k1,k2⟩|⟨k1,k2⟩)
     ·exact⟨k1,by rw[t2 q (by omega),k2]⟩
     ·exact⟨k1,t1 q k2⟩
    ·rintro⟨k1,k2⟩;by_cases g:tp q=y
     ·exact .inr ⟨k1,g⟩
     ·exact .inl ⟨k1,by rw[<- t2 q g];exact k2⟩
  ·obtain⟨L,l1,l2,l3⟩:=F.mem.at_ c hc g1;refine⟨L,by rw[O3 (λh=>e h.symm)];exact l1,l2,λq=>?_⟩;rw[l3];refine and_congr_right λ_=>⟨λk=>by rw[t2 q (by omega),k],λk=>?_⟩;by_cases g:tp q=y
   ·rw[t1 q g]at k;exact absurd k.symm e
   ·rw[<- t2 q g];exact k
 ·by_cases g:tp q=y
  ·rw[t1 q g];have h1:=F.sound q hq;rw[g]at h1;exact h1.trans a9.symm
  ·rw[t2 q g];exact F.sound q hq
 ·rcases I2.1 hw with hw|hw
  ·exact F.wk w (M7 _ hw)
  ·obtain⟨b,i,j,u',v',h1,h2,h3,h4,h5⟩:=J.wk w hw;obtain⟨i1,i2⟩:=(mx i).1 h1;obtain⟨j1,j2⟩:=(my j).1 h2;refine⟨u',v',h5,(Q4 H h3).2.2,(Q4 H h4).2.2,.step b u' v' ?_ h3 h4⟩;have k1:=F.sound i i1;have k2:=F.sound j j1;rw[i2]at k1;rw[j2]at k2;exact k1.trans (a9.trans k2.symm)
 ·by_cases g1:tp q=y<;>by_cases g2:tp r=y
  ·obtain⟨k1,k2⟩:=F.cong q r a hq hr (by omega) h1 h2;exact⟨k1,λf hf=>k2 f (a3 f hf)⟩
  ·rw[t1 q g1,t2 r g2]at e;exact a4 q r a hq hr g1 e.symm h1 h2
  ·rw[t2 q g1,t1 r g2]at e;obtain⟨k1,k2⟩:=a4 r q a hr hq g2 e h2 h1;exact⟨k1.symm,λf hf=>(k2 f hf).symm⟩
  ·rw[t2 q g1,t2 r g2]at e;obtain⟨k1,k2⟩:=F.cong q r a hq hr e h1 h2;exact⟨k1,λf hf=>k2 f (a3 f hf)⟩
def ev_step(H:H7 p){tp dp:Nat->Nat}{up:A2}{mem:A4}{W:List T_A2}(F:EvF p s t tp dp up mem W) :
  (W=[]/\L6.s34 p up mem W=some (.inr (.inl up)))\/(L6.s34 p up mem W=some (.inr (.inr ([],false)))/\P8 p s t)\/∃up' mem' W' tp' dp',L6.s34 p up mem W=some (.inl (up',mem',W'))/\EvF p s t tp' dp' up' mem' W'/\65*Y9 p.N.length tp'+W'.length<65*Y9 p.N.length tp+W.length:=by
 have hn:=H.n2;have hi:=H.i2;cases W with
 |nil=>exact .inl ⟨rfl,by unfold L6.s34;rw[B1 (by simp)]⟩
 |cons w W =>
  right;obtain⟨u,v,rfl,hu,hv,a4⟩:=F.wk w U9;have a3:=F.few;have a5:=pG p.N.length tp;rw[G8]at a3;have e0:=top_eq F.up (by omega) hu;have e1:=top_eq F.up (by omega) hv;by_cases g:tp u=tp v
  ·right;refine⟨up,mem,W,tp,dp,?_,F.skip hu hv g,by rw[G8];omega⟩;unfold L6.s34;rw[C2 (by rw[G8];omega),B8 (x:=⟨(u:Int),(v:Int)⟩) rfl,e0,A5,B8 (x:=⟨(u:Int),(v:Int)⟩) rfl,e1,A5,C2,A5,T6];unfold L6.k33;rw[H9 (by simp)];rfl
  ·have hx:=F.up.lt u hu;have hy:=F.up.lt v hv;obtain⟨Lx,x1,x2,x3⟩:=F.mem.at_ _ hx (F.up.idem u hu);obtain⟨Ly,y1,y2,y3⟩:=F.mem.at_ _ hy (F.up.idem v hv);have lx:=zU x2 λq hq=>((x3 q).1 hq).1;have ly:=zU y2 λq hq=>((y3 q).1 hq).1;obtain⟨r,e,hr⟩:=loop_ev H x1 y1 (λq hq=>((x3 q).1 hq).1) (λq hq=>((y3 q).1 hq).1) (by omega) (by omega) (W0:=⟨(u:Int),(v:Int)⟩::W) (by rw[G8];omega)
   have es:L6.s34 p up mem (⟨(u:Int),(v:Int)⟩::W)=((Sum.elim (λ(a7:List T_A2)=>idx up (↑(tp v):Int) λa8=>idx mem (↑(tp u):Int) λa2=>idx mem (↑(tp v):Int) λa6=>chk (B4 (List.length a2+List.length a6) 8) (idx mem (↑(tp u):Int) λb2=>some (.inl ((List.set up (↑(tp v):Int).toNat (↑(tp u):Int)),(List.set mem (Int.toNat (↑(tp u):Int)) (a2++a6)),a7)))) some r):Option ((A2×A4×List T_A2)⊕((A2×A4×List T_A2)⊕(A2⊕(A2×Bool))))).bind (Sum.elim (λ(s:A2×A4×List T_A2)=>L6.k33 s.1 s.2.1 s.2.2) some):=by
    unfold L6.s34;rw[C2 (by rw[G8];omega),B8 (x:=⟨(u:Int),(v:Int)⟩) rfl,e0,A5,B8 (x:=⟨(u:Int),(v:Int)⟩) rfl,e1,A5,B1,e,A5]
   rw[es];rcases hr with⟨rfl,b,i,j,i1,j1,i2,j2,h⟩|⟨new,rfl,J⟩
   ·left;refine⟨by rw[eC,A5,eC],i,j,b,?_,i2,j2,h⟩;obtain⟨i3,i4⟩:=(x3 i).1 i1;obtain⟨j3,j4⟩:=(y3 j).1 j1;have k1:=F.sound i i3;have k2:=F.sound j j3;rw[i4]at k1;rw[j4]at k2;exact k1.trans ((F.sound u hu).symm.trans (a4.trans ((F.sound v hv).trans k2.symm)))
   ·right;obtain⟨tp',dp',F',hd⟩:=F.join H hu hv a4 g x2 y2 x3 y3 J;refine⟨_,_,_,tp',dp',?_,F',by rw[G8];exact hd⟩;rw[T6,D7 (i:=tp v) rfl (get_at (l:=up) (by rw[F.up.len];exact hy)),D7 (i:=tp u) rfl x1,D7 (i:=tp v) rfl y1,H9 (by unfold B4;rw[B7,B7];omega),D7 (i:=tp u) rfl x1,A5,T6];unfold L6.k33;rw[H9 (by simp),L1,H6,H6];rfl
end
end
end Go.Proofs.YtkeplokjplkcmaaGreat.Sym

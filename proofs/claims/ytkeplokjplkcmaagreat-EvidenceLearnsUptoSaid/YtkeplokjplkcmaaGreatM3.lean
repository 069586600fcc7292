/-
  Parts of the proof, behind each other.
-/
import Derived.Test.YtkeplokjplkcmaaGreatM2
import Derived.Shelf.SlSortCmp.NoneTotal
import Derived.Lib.OwnBridge
import Derived.Lib.BufferRead
import Derived.WalkSmall
import Derived.Shelf.SlSortCmp.Whole1
import Derived.Shelf.SlSortCmp.WholeK
import Derived.Shelf.SlGeneric
import Derived.Ground.SlsfProg
set_option linter.all false
set_option maxRecDepth 100000
set_option maxHeartbeats 4000000
open Go.RowKit
namespace Go.Proofs.YtkeplokjplkcmaaGreat.Sym
def yG{g:FuncId}{t:TypeId}{n:Int}(he:∀args w,(callFunc g args).run Tryz.prog w=.ok (.enter g args) w)(h0:0<=n)(h1:n<=1000000000)
  (h:∀(n:Nat),n<=1000000000->∀w,Calls Tryz.prog g #[.slice none 0 0,.int .i64 n] w (GrowPost t w)):Sp Tryz.prog g [.im (.val (.slice none 0 0)),.im (nI n)] (.row t 1 []):=by
 refine⟨he,λw S vs F hS hv hn hF=>?_⟩
 match vs,hv with
 |[v,u],⟨F1,F2,⟨h3,e1⟩,⟨F3,F4,⟨h4,e2⟩,h5,e3⟩,e4⟩ =>
  have h5:F4=[]:=h5;subst e1 e2 h5 e3 e4;cases h3;cases h4;have hc:=h n.toNat (by omega) w;rw[qA h0]at hc;refine hc.mono ?_;rintro e w' ⟨v',rfl,ho,hb⟩
  have a0:w'.ownsRow 0 t 1 v' 0 []:=by
   refine⟨ho.1,?_⟩;rcases ho.2 with h6|⟨g1,cap,cur,k1,_,k3⟩
   ·exact .inl h6
   ·exact .inr ⟨g1,cap,cur,k1,D9 _,k3⟩
  have a3:=ho.lt
  have a2:∀b∈(F9 v').toList,w.heap.size<=b/\b<w'.heap.size:=λb hb=>by
   refine a3 b ?_;rw[dG a0];simpa using hb
  refine⟨v',(F9 v').toList,rfl,.of hb,⟨[v'],(F9 v').toList,[],rfl,⟨(F9 v').toList,[],⟨row_one a0,[],⟨[],Nat.one_pos,λx hx=>by simp at hx,by decide,a0,rfl,λu hu=>by simp at hu,λi u x hu=>by simp at hu⟩,rfl⟩,rfl,by simp⟩,rfl,by simp⟩,?_,λb hb=>⟨.inl (a2 b hb).1,(a2 b hb).2⟩⟩;cases F9 v'<;>simp
def vS(n:Int):Option (A2):=chk (0<=n/\n<=1000000000) (some [])
def zrn(n:Int)(r:A2)(h:vS n=some r):Sp Tryz.prog 174 [.im (.val (.slice none 0 0)),.im (nI n)] (.row 3 1 (List.map cI r)):=by
 obtain⟨h1,h⟩:=C8 h;injection h with h
 subst h;exact yG (λargs w=>eH rfl rfl rfl args w) h1.1 h1.2 growI_any
def wC(n:Int):Option (A4):=chk (0<=n/\n<=1000000000) (some [])
def zoy(n:Int)(r:A4)(h:wC n=some r):Sp Tryz.prog 131 [.im (.val (.slice none 0 0)),.im (nI n)] (.row 60 1 (List.map (cL cI) r)):=by
 obtain⟨h1,h⟩:=C8 h;injection h with h
 subst h;exact yG (λargs w=>eH rfl rfl rfl args w) h1.1 h1.2 growW_any
section
open Go.RowKit Go.Sort
section plain
variable {V:Type}
def totB[DecidableEq V](f:V->V->Option Int)(l:List V):Bool :=
 l.all λa=>l.all λb=>match f a b,f b a with
  |some m,some n=>(decide (m=0)==decide (a=b))&&(decide (m<0)==decide (0<n))&&(decide (-1<=m/\m<=1))&&l.all λc=>!(decide (m<0)&&(match f b c with|some x=>decide (x<0)|none=>false))||(match f a c with|some x=>decide (x<0)|none=>false)
  |_,_=>false
def insF(f:V->V->Option Int)(x:V):List V->List V
 |[]=>[x]
 |y::l=>match f x y with
  |some m=>cond (decide (m<=0)) (x::y::l) (y::insF f x l)
  |none=>x::y::l
def dY(f:V->V->Option Int):List V->List V
 |[]=>[]
 |x::l=>insF f x (dY f l)
def lG[DecidableEq V](l:List V)(f:V->V->Option Int):Option (List V):=chk (l.length<=1000000000) (cond (totB f l) (some (dY f l)) none)
def cfv(f:V->V->Option Int)(a b:V):Int:=(f a b).getD 0
structure TotF(f:V->V->Option Int)(l:List V):Prop where
 get:∀a∈l,∀b∈l,f a b=some (cfv f a b)
 zero:∀a∈l,∀b∈l,cfv f a b=0->a=b
 self:∀a∈l,cfv f a a=0
 swap:∀a∈l,∀b∈l,(cfv f a b<0↔0<cfv f b a)
 trans:∀a∈l,∀b∈l,∀c∈l,cfv f a b<0->cfv f b c<0->cfv f a c<0
def totB_iff[DecidableEq V]{f:V->V->Option Int}{l:List V}(h:totB f l=true):TotF f l:=by
 have key:∀a∈l,∀b∈l,∃m n,f a b=some m/\f b a=some n/\(m=0↔a=b)/\(m<0↔0<n)/\∀c∈l,m<0->(∃x,f b c=some x/\x<0)->∃x,f a c=some x/\x<0:=by
  intro a ha b hb;have h1:=R4.1 (R4.1 h a ha) b hb;cases e1:f a b with
  |none=>rw[e1]at h1;cases h1
  |some m =>
   cases e2:f b a with
   |none=>rw[e1,e2]at h1;cases h1
   |some n =>
    rw[e1,e2]at h1;simp only[O8]at h1;obtain⟨⟨⟨h2,h3⟩,_⟩,h5⟩:=h1;refine⟨m,n,rfl,rfl,?_,?_,λc hc hm ⟨x,hx,a0⟩=>?_⟩
    ·have h2:=eq_of_beq h2;simpa using h2
    ·have h3:=eq_of_beq h3;simpa using h3
    ·have h6:=R4.1 h5 c hc;rw[hx]at h6;simp only[hm,a0,decide_true,Bool.and_self,aS,wW]at h6;cases e3:f a c with
     |none=>rw[e3]at h6;cases h6
     |some y=>rw[e3]at h6;exact⟨y,rfl,by simpa using h6⟩
 have get:∀a∈l,∀b∈l,f a b=some (cfv f a b):=λa ha b hb=>by
  obtain⟨m,n,e1,_⟩:=key a ha b hb;unfold cfv;rw[e1];rfl
 refine⟨get,λa ha b hb=>?_,λa ha=>?_,λa ha b hb=>?_,λa ha b hb c hc h1 h2=>?_⟩
 ·obtain⟨m,n,e1,e2,h3,_⟩:=key a ha b hb;rw[get a ha b hb]at e1;injection e1 with e1
  rw[e1];exact h3.1
 ·obtain⟨m,n,e1,e2,h3,_⟩:=key a ha a ha;rw[get a ha a ha]at e1;injection e1 with e1
  rw[e1];exact h3.2 rfl
 ·obtain⟨m,n,e1,e2,h3,h4,_⟩:=key a ha b hb;rw[get a ha b hb]at e1;rw[get b hb a ha]at e2;injection e1 with e1
  injection e2 with e2
  rw[e1,e2];exact h4
 ·obtain⟨m,n,e1,e2,h3,h4,h5⟩:=key a ha b hb;rw[get a ha b hb]at e1;injection e1 with e1
  obtain⟨x,hx,a0⟩:=h5 c hc (by omega) ⟨_,get b hb c hc,h2⟩;rw[get a ha c hc]at hx;injection hx with hx
  omega
def TotF.sub{f:V->V->Option Int}{l l':List V}(T:TotF f l)(h:∀x∈l',x∈l):TotF f l' :=
 ⟨λa ha b hb=>T.get a (h a ha) b (h b hb),λa ha b hb=>T.zero a (h a ha) b (h b hb),λa ha=>T.self a (h a ha),λa ha b hb=>T.swap a (h a ha) b (h b hb),λa ha b hb c hc=>T.trans a (h a ha) b (h b hb) c (h c hc)⟩
def NGt(f:V->V->Option Int)(a b:V):Prop:=¬cfv f b a<0
def TotF.ngt_trans{f:V->V->Option Int}{l:List V}(T:TotF f l){a b c:V}(ha:a∈l)(hb:b∈l)(hc:c∈l)(h1:NGt f a b)(h2:NGt f b c):NGt f a c:=by
 intro h3;have s1:=T.swap a ha b hb;have s2:=T.swap b hb c hc;have s3:=T.swap c hc a ha;have t1:=T.swap b hb a ha;have t2:=T.swap c hc b hb;unfold NGt at h1 h2;by_cases e1:cfv f b a=0
 ·have:=T.zero b hb a ha e1;subst this;exact h2 h3
 ·by_cases e2:cfv f c b=0
  ·have:=T.zero c hc b hb e2;subst this;exact h1 h3
  ·have h4:cfv f a b<0:=s1.2 (by omega);have h5:=T.trans c hc a ha b hb h3 h4;exact h2 h5
def insF_le{f:V->V->Option Int}{x y:V}{l:List V}{m:Int}(h:f x y=some m)(hm:m<=0):insF f x (y::l)=x::y::l:=by
 simp[insF,h,hm]
def insF_gt{f:V->V->Option Int}{x y:V}{l:List V}{m:Int}(h:f x y=some m)(hm:¬m<=0):insF f x (y::l)=y::insF f x l:=by
 simp[insF,h,hm]
def uG(f:V->V->Option Int)(x:V):∀l:List V,(insF f x l).Perm (x::l)
 |[]=>List.Perm.refl _
 |y::l=>by
  cases h:f x y with
  |none=>simp[insF,h]
  |some m =>
   by_cases hm:m<=0
   ·rw[insF_le h hm]
   ·rw[insF_gt h hm];exact((uG f x l).cons y).trans (List.Perm.swap x y l)
def gM(f:V->V->Option Int):∀l:List V,(dY f l).Perm l
 |[]=>List.Perm.refl _
 |x::l=>(uG f x _).trans ((gM f l).cons x)
def zQ{f:V->V->Option Int}{x:V}:∀{l:List V},TotF f (x::l)->l.Pairwise (NGt f)->(insF f x l).Pairwise (NGt f)
 |[],_,_=>List.pairwise_singleton _ _
 |y::l,T,h=>by
  have hx:x∈x::y::l:=by simp
  have hy:y∈x::y::l:=by simp
  have hc:=fQ.1 h;by_cases hd:cfv f x y<=0
  ·rw[insF_le (T.get x hx y hy) hd]
   have a2:NGt f x y:=λh0=>by
    have:=(T.swap y hy x hx).1 h0;omega
   exact fQ.2 ⟨λz hz=>by
    rcases L8.1 hz with rfl|a0
    ·exact a2
    ·exact T.ngt_trans hx hy (by simp[a0]) a2 (hc.1 z a0),h⟩
  ·rw[insF_gt (T.get x hx y hy) hd];have a3:NGt f y x:=by unfold NGt;omega
   refine fQ.2 ⟨λz hz=>?_,zQ (T.sub λz hz=>?_) hc.2⟩
   ·rcases L8.1 ((uG f x l).mem_iff.1 hz) with rfl|a0
    ·exact a3
    ·exact hc.1 z a0
   ·rcases L8.1 hz with rfl|a0
    ·simp
    ·simp[a0]
def vY{f:V->V->Option Int}:∀{l:List V},TotF f l->(dY f l).Pairwise (NGt f)
 |[],_=>List.Pairwise.nil
 |x::l,T=>zQ (T.sub λz hz=>by
   rcases L8.1 hz with rfl|hz'
   ·simp
   ·exact O7 _ ((gM f l).mem_iff.1 hz')) (vY (T.sub λz hz=>O7 _ hz))
def zD{f:V->V->Option Int}:∀{l1 l2:List V},TotF f l1->l1.Perm l2->l1.Pairwise (NGt f)->l2.Pairwise (NGt f)->l1=l2
 |[],l2,_,hp,_,_=>(List.nil_perm.1 hp).symm
 |x::l1,[],_,hp,_,_=>absurd hp.length_eq (by simp)
 |x::l1,y::l2,T,hp,h1,h2=>by
  have p1:=fQ.1 h1;have p2:=fQ.1 h2;have hx:x∈x::l1:=by simp
  have hy:y∈x::l1:=hp.mem_iff.2 (by simp)
  have e:x=y:=by
   rcases L8.1 hy with e|a2
   ·exact e.symm
   ·have a0:=p1.1 y a2;rcases L8.1 (hp.mem_iff.1 hx) with e|a4
    ·exact e
    ·have a3:=p2.1 x a4;have s1:=T.swap y hy x hx;have s2:=T.swap x hx y hy;unfold NGt at a0 a3;exact T.zero x hx y hy (by omega)
  subst e;rw[zD (T.sub λz hz=>O7 _ hz) (List.Perm.cons_inv hp) p1.2 p2.2]
end plain
section model
variable {V:Type}
def CmpG(P:Program)(g:FuncId)(X:V->IV)(f:V->V->Option Int):Prop :=
 ∀(W:World) (S:Nat->Prop) (u u':Value) (x y:V) (r:Int),f x y=some r->RepI W S u (X x)->RepI W S u' (X y) ->
  Calls P g #[u,u'] W λe w'=>e=.returned (.int .i64 r)/\∃q os,w'=Sort.grow (W.drewN q) os
def El(w:World)(S:Nat->Prop)(k:Nat)(c:V->List IV)(l:List V):Type:={ p:List Value×V // p.1.length=k/\(∀v∈p.1,v.oneCell'=true)/\X4 w S p.1 (c p.2)/\p.2∈l }
variable {w:World}{S:Nat->Prop}{k:Nat}{c:V->List IV}{l:List V}
def El.enc(x:El w S k c l):List Value:=x.val.1
def El.wd(x:El w S k c l):V:=x.val.2
def El.of(us:List Value)(x:V)(h1:us.length=k)(h2:∀v∈us,v.oneCell'=true)(h3:X4 w S us (c x))(h4:x∈l):El w S k c l:=⟨(us,x),h1,h2,h3,h4⟩
def el_list(hk:∀x,(c x).length=k):∀(l0:List V) (us:List Value),(∀x∈l0,x∈l)->us.length=(l0.map c).flatten.length->(∀u∈us,u.oneCell'=true) ->
  (∀(i:Nat) u x,us[i]?=some u->(l0.map c).flatten[i]?=some x->RepI w S u x)->∃zs:List (El w S k c l),(zs.map El.enc).flatten=us/\zs.map El.wd=l0
 |[],us,_,hl,_,_=>⟨[],(V7 hl).symm,rfl⟩
 |x::l0,us,hm,hl,h1,hr=>by
  rw[L3,Z0]at hl hr;rw[J4,hk]at hl
  obtain⟨zs,e1,e2⟩:=el_list hk l0 (us.drop k) (λy hy=>hm y (O7 _ hy)) (by rw[W3];omega) (λu hu=>h1 u (bP hu)) λi u y hu hy=>by
   rw[aD]at hu;refine hr (k+i) u y hu ?_;rw[Q7,if_neg (by rw[hk];omega),hk]
   rwa [xH]
  have hx1:(us.take k).length=k:=by rw[M7];omega
  have a0:∀v∈us.take k,v.oneCell'=true:=λu hu=>h1 u (aE hu)
  have a2:X4 w S (us.take k) (c x):=⟨by rw[hx1,hk],λi u y hu hy=>by
   have hi:i<k:=by
    rw[<- hk x]
    exact(F6.1 hy).1
   rw[aT,if_pos hi]at hu
   exact hr i u y hu (by rw[Q7,if_pos (by rw[hk];exact hi)];exact hy)⟩
  refine⟨El.of (us.take k) x hx1 a0 a2 (hm x (by simp))::zs,?_,?_⟩
  ·rw[L3,Z0,e1];exact tR k us
  ·rw[L3,e2];rfl
def el_swo{f:V->V->Option Int}(T:TotF f l):SWO (ltOf λx y:El w S k c l=>cfv f x.wd y.wd) where
 irrefl x:=by
  have:=T.self x.wd x.property.2.2.2;simp[ltOf,this]
 trans x y z h1 h2:=by
  simp only[ltOf,decide_eq_true_eq]at *;exact T.trans _ x.property.2.2.2 _ y.property.2.2.2 _ z.property.2.2.2 h1 h2
 ntrans x y z h1 h2:=by
  simp only[ltOf,decide_eq_false_iff_not]at *;exact T.ngt_trans z.property.2.2.2 y.property.2.2.2 x.property.2.2.2 h2 h1
def SortC(P:Program)(sg:FuncId)(k:Nat)(mk:List Value->Value):Prop :=
 (∀(p:Option Addr) (cap:Nat) (fv:Value) (w:World),Calls P sg #[.slice p 0 cap,fv] w λe w'=>e=.returned (.tuple #[])/\w'=w) /\
 ∀(E:Type) [Inhabited E] (enc:E->List Value) (cf:E->E->Int) (g blk cap:Nat) (d:Array E) (w:World),(∀x,(enc x).length=k)->(∀x,∀v∈enc x,v.oneCell'=true)->SWO (ltOf cf) ->
  (∀args w,(callFunc g args).run P w=.ok (.enter g args) w) ->
  (∀(m:Nat) (os:Array Obj) (dk:Array E),dk.size=d.size->∀x y:E,Calls P g #[mk (enc x),mk (enc y)] (Sort.grow (putRow id (Sort.ahead w m) blk 0 (Go.Sort.flatK enc k dk)) os) λe w' =>
   e=.returned (.int .i64 (cf x y))/\∃q os',w'=Sort.grow ((Sort.grow (putRow id (Sort.ahead w m) blk 0 (Go.Sort.flatK enc k dk)) os).drewN q) os') ->
  Go.Sort.Holds id w blk 0 (Go.Sort.flatK enc k d)->blk<w.heap.size->d.size<4611686018427387904 ->
  Calls P sg #[.slice (some ⟨blk,0,none⟩) d.size cap,.func (.func g) #[] #[]] w λe w' =>
   e=.returned (.tuple #[])/\∃d' n os,PermIn 0 d.size d d'/\SortedIn (ltOf cf) 0 d.size d'/\w'=Sort.grow (putRow id (Sort.ahead w n) blk 0 (Go.Sort.flatK enc k d')) os
def perm_of_in'{G:Type}[Inhabited G]{d d':Array G}(h:PermIn 0 d.size d d'):d'.toList.Perm d.toList:=by
 obtain⟨hs,_,hp⟩:=h;have e1:d'.extract 0 d.size=d':=by rw[<- hs];simp
 have e2:d.extract 0 d.size=d:=by simp
 rwa [e1,e2]at hp
def zrz{G:Type}[Inhabited G]{lt:G->G->Bool}{d:Array G}{n:Nat}(hn:d.size=n)(h:SortedIn lt 0 n d):d.toList.Pairwise λa b=>lt b a=false:=by
 rw[iQ];intro i j hi hj a0;have:=h i j (D9 _) a0 (by rw[<- hn];simpa using hj);simp at hi hj;simpa[getElem!_pos,hi,hj]using this
def yF{G:Type}[Inhabited G]{enc:G->List Value}{k:Nat}(hk:∀x,(enc x).length=k)(d:Array G):Go.Sort.flatK enc k d=(d.toList.map enc).flatten.toArray:=by
 have hl:((d.toList.map enc).flatten).length=d.size*k:=by
  rw[R6 (k:=k) λx hx=>by obtain⟨y,_,rfl⟩:=I3.1 hx;exact hk y];simp
 refine ext_get! (by simp[hl]) λt ht=>?_;rw[size_flatK]at ht;rw[get_flatK _ _ _ t ht]
 have k0:0<k:=by
  rcases eT k with h|h
  ·subst h;simp at ht
  ·exact h
 have hq:t / k<d.size:=Nat.div_lt_of_lt_mul (by rwa [mU]at ht);have hm:t%k<k:=jJ _ k0;have hg:=flat_get (es:=d.toList.map enc) (i:=t / k) (j:=t%k) (e:=enc (d[t / k]'hq)) (λx hx=>by obtain⟨y,_,rfl⟩:=I3.1 hx;exact hk y) (by simp[hq]) hm;rw[show t / k*k+t%k=t by rw[mU];exact tB t k]at hg;have a0:t%k<(enc (d[t / k]'hq)).length:=by rw[hk];exact hm
 rw[L1 a0,L1 (by rw[hl];exact ht)]at hg;injection hg with hg
 rw[getElem!_pos d _ hq,getElem!_pos (enc (d[t / k]'hq)) (t%k) a0,getElem!_pos ((d.toList.map enc).flatten.toArray) t (by simpa[hl]using ht)];simpa using hg.symm
def own_put{w:World}{base:Nat}{e:TypeId}{g n cap k q:Nat}{us us':List Value}{os:Array Obj}(h:w.ownsRow base e k (.slice (some ⟨g,0,none⟩) n cap) n us)(hl:us'.length=n*k) :
  (Sort.grow (putRow id (Sort.ahead w q) g 0 us'.toArray) os).ownsRow base e k (.slice (some ⟨g,0,none⟩) n cap) n us':=by
 rcases h.2 with⟨e0,_⟩|⟨g',a3,cur,e0,hb,hg,hn,hm,hs,ht⟩
 ·cases e0
 ·injection e0 with e1 _ e3
  injection e1 with e1
  injection e1 with e1
  subst e1;subst e3
  have a0:g<w.heap.size:=by
   rcases K4 g w.heap.size with h'|h'
   ·exact h'
   ·rw[Array.getElem?_eq_none h']at hg;cases hg
  refine⟨hl,.inr ⟨g,cap,putCells id 0 us'.toArray cur,rfl,hb,?_,hn,hm,by simpa[putCells]using hs,?_⟩⟩
  ·have:g<(putRow id (Sort.ahead w q) g 0 us'.toArray).heap.size:=by simpa[putRow,mapBlock,Sort.ahead]using a0
   simp only[Sort.grow,Array.getElem?_append,if_pos this];simp[putRow,mapBlock,Sort.ahead,qF,hg,onCells]
  ·have a4:n*k<=cap*k:=bO k hn;apply aC;intro j;rw[aT,R8];by_cases hj:j<n*k
   ·have a2:j<cur.size:=by omega
    rw[if_pos hj];simp only[putCells,Array.getElem?_mapIdx,qM a2,K6];rw[if_pos (by simp;omega),L1 (by omega)];simp[getElem!_pos,show j<us'.length by omega]
   ·rw[if_neg hj,M2 (by omega)]
def holds_own{w:World}{base:Nat}{e:TypeId}{g n cap k:Nat}{us:List Value}(h:w.ownsRow base e k (.slice (some ⟨g,0,none⟩) n cap) n us):Go.Sort.Holds id w g 0 us.toArray:=by
 rcases h.2 with⟨e0,_⟩|⟨g',a3,cur,e0,hb,hg,hn,hm,hs,ht⟩
 ·cases e0
 ·injection e0 with e1 _ e3
  injection e1 with e1
  injection e1 with e1
  subst e1;subst e3;intro j hj;have a0:j<us.length:=by simpa using hj
  have a2:j<n*k:=by rw[<- h.1];exact a0
  have a4:n*k<=cap*k:=bO k hn;have a5:j<cur.size:=by omega
  have e1:(cur.toList.take (n*k))[j]?=us[j]?:=by rw[ht]
  rw[aT,if_pos a2,R8,L1 a0]at e1;refine⟨?_,by simp[World.frozen?,hg]⟩;simp only[World.cell?,hg,F7,tG,tH,if_false];rw[e1];simp[getElem!_pos,a0]
def put_block{w:World}{g q:Nat}{F:Array Value}{os:Array Obj}{b:Nat}(hb:b<w.heap.size)(hne:b≠g):(Sort.grow (putRow id (Sort.ahead w q) g 0 F) os).heap[b]?=w.heap[b]?:=by
 have:b<(putRow id (Sort.ahead w q) g 0 F).heap.size:=by simpa[putRow,mapBlock,Sort.ahead]using hb
 simp only[Sort.grow,Array.getElem?_append,if_pos this];simp[putRow,mapBlock,Sort.ahead,qF,Ne.symm hne]
def put_cell{w:World}{g q:Nat}{F:Array Value}{os:Array Obj}{p:Addr}{u:Value}(hne:p.block≠g)(h:w.cell? p=some u):(Sort.grow (putRow id (Sort.ahead w q) g 0 F) os).cell? p=some u:=by
 have a0:=World.block_lt_of_cell? w _ h;unfold World.cell? at h ⊢;rw[put_block a0 hne];exact h
def zB[DecidableEq V]{P:Program}{sg:FuncId}{mk:List Value->Value}{t:TypeId}{X:V->IV}(he:∀args w,(callFunc sg args).run P w=.ok (.enter sg args) w)(C:SortC P sg k mk)(hk0:0<k)(hk:∀x,(c x).length=k)
  (hX:∀(W:World) (S:Nat->Prop) us x,us.length=k->(∀v∈us,v.oneCell'=true)->X4 W S us (c x)->RepI W S (mk us) (X x))
  {f:V->V->Option Int} {g:FuncId} (eg:∀args w,(callFunc g args).run P w=.ok (.enter g args) w) (hg:CmpG P g X f) {l r:List V} (h:lG l f=some r) :
  Sp P sg [.lent (.row t k (l.map c)),.im (.fn g [])] (.mk true [] [.lent (.row t k (r.map c))]):=by
 obtain⟨e7,h⟩:=C8 h;cases hT:totB f l with
 |false=>rw[hT]at h;cases h
 |true =>
 rw[hT]at h;injection h with h
 subst h;have T:=totB_iff hT;refine⟨he,λw S vs F hS hv hn hF=>?_⟩
 match vs,hv with
 |[v,u],⟨F1,F2,⟨hv1,inn,hrow,e1⟩,⟨F3,F4,⟨h4,e2⟩,h5,e3⟩,e4⟩ =>
  have h5:F4=[]:=h5;have e1:F1=(F9 v).toList:=e1;subst e1 e2 h5 e3;have e4:F=(F9 v).toList:=by rw[e4];simp
  subst e4;obtain⟨us,_,_,b4,a0,b9,h1,hr⟩:=hrow;rw[C3]at a0 b4
  have hu:u=.func (.func g) #[] #[]:=by
   generalize hx:IV.fn g []=x at h4;cases h4 with
   |fn f us cs hl hr =>
    injection hx with d2 d6
    subst d2 d6;have:=V7 hl;subst this;rfl
   |_=>cases hx
  subst hu
  have b5:∀(w':World) (a4:List Value),w'.ownsRow 0 t k v l.length a4->a4.length=((dY f l).map c).flatten.length->(∀u∈a4,u.oneCell'=true) ->
    Belo (λb=>b∈(F9 v).toList) w.heap.size w w'->(∀(i:Nat) u x,a4[i]?=some u->((dY f l).map c).flatten[i]?=some x->RepI w' (λb=>(S b\/w.heap.size<=b\/b∈(F9 v).toList)/\b<w'.heap.size/\b∉(F9 v).toList) u x) ->
    ∃(v1:Value) (F':List Nat),Ending.returned (.tuple #[])=.returned v1/\Belo (λb=>b∈(F9 v).toList) w.heap.size w w' /\
     bU w' (λb=>(S b\/w.heap.size<=b\/b∈(F9 v).toList)/\b<w'.heap.size/\b∉F') v1 (bxVs [v,.func (.func g) #[] #[]] [.lent (.row t k (l.map c)),.im (.fn g [])]) (.mk true [] [.lent (.row t k ((dY f l).map c))]) F'/\F'.Nodup/\∀b∈F',(w.heap.size<=b\/b∈(F9 v).toList)/\b<w'.heap.size:=by
   intro w' a4 ho d7 e5 hb d4;refine⟨_,(F9 v).toList,rfl,hb,⟨[],[],(F9 v).toList,rfl,rfl,⟨(F9 v).toList,[],⟨hv1,inn,⟨a4,hk0,λx hx=>?_,?_,?_,d7,e5,d4⟩,rfl⟩,rfl,by simp⟩,by simp⟩,hn,λb a9=>⟨.inr a9,iO (hF b a9).2 hb.size⟩⟩
   ·obtain⟨y,_,rfl⟩:=I3.1 hx;exact hk y
   ·rw[C3,(gM f l).length_eq];exact b4
   ·rw[C3,(gM f l).length_eq];exact ho
  by_cases b3:v=.slice none 0 0
  ·subst b3
   have a5:l.length=0:=by
    rcases a0.2 with⟨_,h0⟩|⟨_,_,_,e,_⟩
    ·exact h0
    ·cases e
   have a5:l=[]:=V7 a5;subst a5;refine(C.1 none 0 _ w).mono ?_;rintro e w' ⟨rfl,rfl⟩;have b7:us=[]:=V7 (by rw[b9];rfl);subst b7;exact b5 w' [] a0 rfl (λu hu=>by cases hu) (Belo.refl _ _ _) λi u x hu=>by simp at hu
  ·obtain⟨blk,cap,rfl⟩:∃blk cap,v=.slice (some ⟨blk,0,none⟩) l.length cap:=by
    rcases a0.2 with⟨e0,_⟩|⟨g,cap,cur,e,_⟩
    ·exact absurd e0 b3
    ·exact⟨g,cap,e⟩
   have d0:blk<w.heap.size:=(hF blk (by simp[F9])).2;have b2:¬S blk:=(hF blk (by simp[F9])).1;obtain⟨zs,e6,c6⟩:=el_list (w:=w) (S:=S) (l:=l) hk l us (λx hx=>hx) b9 h1 hr;by_cases a5:l=[]
   ·subst a5;refine(C.1 (some ⟨blk,0,none⟩) cap _ w).mono ?_;rintro e w' ⟨rfl,rfl⟩;have b7:us=[]:=V7 (by rw[b9];rfl);subst b7;exact b5 w' [] a0 rfl (λu hu=>by cases hu) (Belo.refl _ _ _) λi u x hu=>by simp at hu
   ·have d8:zs.length=l.length:=by have:=congrArg List.length c6;simpa using this
    obtain⟨z0,e9⟩:∃z,z∈zs:=by
     cases zs with
     |nil=>exact absurd (by simpa using c6.symm) a5
     |cons z zs=>exact⟨z,by simp⟩
    haveI:Inhabited (El w S k c l):=⟨z0⟩
    have a3:∀x:El w S k c l,(El.enc x).length=k:=λx=>x.property.1;have a7:∀d:Array (El w S k c l),Go.Sort.flatK El.enc k d=(d.toList.map El.enc).flatten.toArray:=yF a3
    have a8:=C.2 (El w S k c l) El.enc (λx y=>cfv f x.wd y.wd) g blk cap zs.toArray w a3 (λx=>x.property.2.1) (el_swo T) eg (λm os dk _ x y=>by
      refine hg _ S _ _ x.wd y.wd _ (T.get _ x.property.2.2.2 _ y.property.2.2.2) (hX _ _ _ _ x.property.1 x.property.2.1 ⟨x.property.2.2.1.1,λi u z hu hz=>?_⟩) (hX _ _ _ _ y.property.1 y.property.2.1 ⟨y.property.2.2.1.1,λi u z hu hz=>?_⟩)
      ·exact(x.property.2.2.1.2 i u z hu hz).mono (λ_ h=>h) λp u hp hu=>put_cell (λe=>b2 (by rw[<- e];exact hp)) hu
      ·exact(y.property.2.2.1.2 i u z hu hz).mono (λ_ h=>h) λp u hp hu=>put_cell (λe=>b2 (by rw[<- e];exact hp)) hu)
     (by rw[a7];show Go.Sort.Holds id w blk 0 ((zs.map El.enc).flatten).toArray;rw[e6];exact holds_own a0) d0 (by simp;omega)
    have c0:zs.toArray.size=l.length:=by simpa using d8
    rw[c0]at a8;refine a8.mono ?_;rintro e w' ⟨rfl,d',n,os,hp,hs,rfl⟩;have b8:d'.size=l.length:=by rw[hp.1];exact c0
    have c7:=perm_of_in' (d:=zs.toArray) (by rw[c0];exact hp);have d3:=zrz b8 hs
    have d9:d'.toList.map El.wd=dY f l:=by
     have c8:(d'.toList.map El.wd).Perm l:=(c7.map El.wd).trans (List.Perm.of_eq c6);refine zD (T.sub λx hx=>c8.mem_iff.1 hx) (c8.trans (gM f l).symm) ?_ (vY T);rw[qJ];refine d3.imp λ{a b} hab=>?_;have d1:¬cfv f b.wd a.wd<0:=by simpa only[ltOf,decide_eq_false_iff_not]using hab
     exact d1
    rw[a7]
    have a2:((d'.toList.map El.enc).flatten).length=l.length*k:=by
     rw[R6 (k:=k) λx hx=>by obtain⟨y,_,rfl⟩:=I3.1 hx;exact a3 y];simp[b8]
    have b6:((dY f l).map c).flatten.length=l.length*k:=by
     rw[R6 (k:=k) λx hx=>by obtain⟨y,_,rfl⟩:=I3.1 hx;exact hk y,C3,(gM f l).length_eq]
    refine b5 _ _ (own_put a0 a2) (by rw[a2,b6]) (λu hu=>?_) ⟨rfl,rfl,rfl,?_,λb hb d5=>put_block hb λe=>d5 (by simp[F9,e])⟩ λi u x hu hx=>?_
    ·obtain⟨e8,h2,h3⟩:=qH.1 hu;obtain⟨y,_,rfl⟩:=I3.1 h2;exact y.property.2.1 u h3
    ·simp[Sort.grow,putRow,mapBlock,Sort.ahead]
    ·have hi:i<l.length*k:=by rw[<- a2];exact(F6.1 hu).1
     have hq:i / k<l.length:=Nat.div_lt_of_lt_mul (by rwa [mU]at hi);have hm:i%k<k:=jJ _ hk0;have c9:i / k*k+i%k=i:=by rw[mU];exact tB i k
     have a6:i / k<d'.size:=by rw[b8];exact hq
     have g1:=flat_get (es:=d'.toList.map El.enc) (i:=i / k) (j:=i%k) (e:=El.enc (d'[i / k]'a6)) (λx hx=>by obtain⟨y,_,rfl⟩:=I3.1 hx;exact a3 y) (by simp[a6]) hm;have g2:=flat_get (es:=(dY f l).map c) (i:=i / k) (j:=i%k) (e:=c (El.wd (d'[i / k]'a6))) (λx hx=>by obtain⟨y,_,rfl⟩:=I3.1 hx;exact hk y) (by rw[<- d9];simp[a6]) hm;rw[c9,hu]at g1;rw[c9,hx]at g2;refine((d'[i / k]'a6).property.2.2.1.2 _ _ _ g1.symm g2.symm).mono (λb hb=>⟨.inl hb,?_,?_⟩) λp u hp hu=>put_cell (λe=>b2 (by rw[<- e];exact hp)) hu
     ·have:w.heap.size<=(Sort.grow (putRow id (Sort.ahead w n) blk 0 ((d'.toList.map El.enc).flatten).toArray) os).heap.size:=by simp[Sort.grow,putRow,mapBlock,Sort.ahead]
      exact iO (hS b hb) this
     ·intro a9;have:b=blk:=by simpa[F9]using a9
      subst this;exact b2 hb
end model
end
end Go.Proofs.YtkeplokjplkcmaaGreat.Sym
namespace Go.Proofs.YtkeplokjplkcmaaGreat
def dig36(d:Nat):UInt8:=if d<10 then UInt8.ofNat (48+d) else UInt8.ofNat (87+d)
def digsF:Nat->Nat->List UInt8
 |0,u=>[dig36 u]
 |f+1,u=>if u<36 then [dig36 u] else digsF f (u / 36)++[dig36 (u%36)]
def digs(u:Nat):List UInt8:=digsF u u
def enc36(a:Int):List UInt8:=if a<0 then 45::digs a.natAbs else digs a.natAbs
def keyL:List Int->List UInt8
 |[]=>[]
 |a::xs=>enc36 a++32::keyL xs

end Go.Proofs.YtkeplokjplkcmaaGreat
namespace Go.Proofs.YtkeplokjplkcmaaGreat.Sym
def mD{w:World}{S:Nat->Prop}{v:Value}{l:A2}(h:RepI w S v (nL cI l)):∃A n c,v=.slice A n c/\T4 w cE A n c l:=by
 have h:RepI w S v (.sl (l.map cI)):=h;generalize he:l.map cI=es at h;cases h with
 |emp A c =>
  have:l=[]:=by simpa using he
  subst this;exact⟨A,0,c,rfl,rfl,D9 _,by omega,λh=>by omega⟩
 |sl b o c k n _ us hn hk hc hs hS hl h1 hu hr =>
  subst he
  have hf:(l.map cI).flatten=l.map λx=>nI x:=by
   clear hn hk hl hr h
   induction l with
   |nil=>rfl
   |cons x l ih=>rw[L3,Z0,ih];rfl
  rw[hf]at hl hr;refine⟨_,_,_,rfl,by simpa using hn,hc,hs,λ_=>⟨b,o,rfl,λi x hx=>?_⟩⟩;have hi:i<us.length:=by rw[hl,C3];exact(F6.1 hx).1
  have hg:=L1 hi;refine⟨_,hu i _ hg,?_⟩;have:=hr i _ (nI x) hg (by rw[H7,hx];rfl);generalize us[i]=u at this;cases this with
  |val _=>rfl
end Go.Proofs.YtkeplokjplkcmaaGreat.Sym
namespace Go.Proofs.YtkeplokjplkcmaaGreat
def cmpI(x y:Int):Int:=if x<y then -1 else if y<x then 1 else 0
def wD(x y:Int)(w:World) :
  Calls Tryz.prog 153 #[.int .i64 x,.int .i64 y] w λe w'=>e=.returned (.int .i64 (cmpI x y))/\w=w':=by
 by_cases h1:x<y
 ·go_enter Tryz.func153,Tryz.ntmps153
  go_wp2
  go_ret
  exact⟨gA (by unfold cmpI;rw[if_pos h1]),rfl⟩
 ·by_cases h2:y<x
  ·go_enter Tryz.func153,Tryz.ntmps153
   go_wp2
   go_ret
   exact⟨gA (by unfold cmpI;rw[if_neg (by omega),if_pos h2]),rfl⟩
  ·go_enter Tryz.func153,Tryz.ntmps153
   go_wp2
   go_ret
   exact⟨gA (by unfold cmpI;rw[if_neg (by omega),if_neg (by omega)]),rfl⟩
def lexI_step{xs ys:List Int}{k:Nat}{x y:Int}(hx:xs[k]?=some x)(hy:ys[k]?=some y) :
  lexI (xs.drop k) (ys.drop k)=if cmpI x y=0 then lexI (xs.drop (k+1)) (ys.drop (k+1)) else cmpI x y:=by
 obtain⟨h1,a0⟩:=List.getElem?_eq_some_iff.1 hx;obtain⟨h2,a2⟩:=List.getElem?_eq_some_iff.1 hy;rw[List.drop_eq_getElem_cons h1,List.drop_eq_getElem_cons h2,a0,a2];simp only[lexI,cmpI];by_cases a:x<y
 ·simp[a]
 ·by_cases b:y<x
  ·simp[a,b]
  ·simp[a,b]
def lexI_long{xs ys:List Int}{k:Nat}(h1:k<xs.length)(h2:ys.length<=k):lexI (xs.drop k) (ys.drop k)=1:=by
 rw[List.drop_eq_getElem_cons h1,List.drop_eq_nil_of_le h2];rfl
def lexI_end{xs ys:List Int}{k:Nat}(h1:xs.length<=k):lexI (xs.drop k) (ys.drop k)=if k<ys.length then -1 else 0:=by
 rw[List.drop_eq_nil_of_le h1];by_cases h2:k<ys.length
 ·rw[if_pos h2,List.drop_eq_getElem_cons h2];rfl
 ·rw[if_neg h2,List.drop_eq_nil_of_le (by omega)];rfl
set_option maxHeartbeats 800000 in
def CB{A B:Option Addr}{n c m c':Nat}{xs ys:List Int}{w:World}(hx:T4 w cE A n c xs)(hy:T4 w cE B m c' ys) :
  Calls Tryz.prog 154 #[.slice A n c,.slice B m c'] w λe w'=>e=.returned (.int .i64 (lexI xs ys))/\w=w':=by
 have hn:=hx.small;have hm:=hy.small;have HL:=Lib.hid (And.intro hx.len hy.len)
 go_enter Tryz.func154,Tryz.ntmps154
 go_wp2
 go_loop [5,6,7,8,11] (λ_ _ _ _ i=>∃k:Nat,k<=n/\k<=m/\i=.int .i64 k/\Hid (lexI xs ys=lexI (xs.drop k) (ys.drop k))) (λ_ _ _ _ i=>n-(intOf i).toNat)
 case atStart=>exact⟨0,by omega,by omega,rfl,Lib.hid (by simp)⟩
 case round =>
  obtain⟨k,hk,a5,rfl,HT⟩:=hrel;by_cases h1:k<n
  ·obtain⟨b,o,x,rfl,a3,a6⟩:=hx.int_at h1;have HX:=Lib.hid a3;clear a3;by_cases h2:k<m
   ·obtain⟨b',o',y,rfl,a4,a7⟩:=hy.int_at h2;have HY:=Lib.hid a4;clear a4;have a0:=lexI_step HX.out HY.out;by_cases h3:cmpI x y=0
    ·rw[if_pos h3]at a0;have a2:=Lib.hid a0;have d3:(cmpI x y != 0)=false:=by simp[h3]
     have H3:=Lib.hid h3;clear h3 a0
     go_wp2_with (go_at_call 153;refine(wD _ _ _).mono ?_;rintro e w' ⟨rfl,rfl⟩)
     go_round
     case rel=>exact⟨k+1,by omega,by omega,by go_num,Lib.hid (by rw[HT.out,a2.out])⟩
     case measure=>simp[intOf];omega
    ·rw[if_neg h3]at a0;have a2:=Lib.hid a0;have d3:(cmpI x y != 0)=true:=by simp[h3]
     clear h3 a0
     go_wp2_with (go_at_call 153;refine(wD _ _ _).mono ?_;rintro e w' ⟨rfl,rfl⟩)
     go_ret
     exact⟨gA (by rw[HT.out,a2.out]),rfl⟩
   ·go_wp2
    go_ret
    obtain⟨h3,h4⟩:=HL.out;exact⟨gA (by rw[HT.out,lexI_long (by omega) (by omega)]),rfl⟩
  ·obtain⟨h3,h4⟩:=HL.out;have HE:=Lib.hid (lexI_end (xs:=xs) (ys:=ys) (k:=k) (by omega));clear h3 h4;by_cases h2:n<m
   ·go_wp2
    go_ret
    obtain⟨h3,h4⟩:=HL.out;exact⟨gA (by rw[HT.out,HE.out,if_pos (by omega)]),rfl⟩
   ·go_wp2
    go_ret
    obtain⟨h3,h4⟩:=HL.out;exact⟨gA (by rw[HT.out,HE.out,if_neg (by omega)]),rfl⟩
def wordLex_any{A B:Option Addr}{n c m c':Nat}{xs ys:List Int}{w:World}(hx:T4 w cE A n c xs)(hy:T4 w cE B m c' ys) :
  Calls Tryz.prog 143 #[.slice A n c,.slice B m c'] w λe w'=>e=.returned (.int .i64 (lexI xs ys))/\w=w':=by
 go_enter Tryz.func143,Tryz.ntmps143
 go_wp2_with (go_at_call 154;refine(CB hx hy).mono ?_;rintro e w' ⟨rfl,rfl⟩)
 go_ret
 exact⟨rfl,rfl⟩
def orI(xs:List Int):Int:=(xs.find? λa=>a != 0).getD 0
set_option maxHeartbeats 400000 in
def cmpOr_any{A:Option Addr}{n c:Nat}{xs:List Int}{w:World}(hx:T4 w cE A n c xs) :
  Calls Tryz.prog 152 #[.slice A n c] w λe w'=>e=.returned (.int .i64 (orI xs))/\w=w':=by
 have a4:=hx.small;have HL:=Lib.hid hx.len
 go_enter Tryz.func152,Tryz.ntmps152
 go_wp2
 go_loop [5,8] (λ_ i=>∃k:Nat,k<=n/\i=.int .i64 k/\Hid (((xs.take k).find? λa=>a != 0)=none)) (λ_ i=>n-(intOf i).toNat)
 case atStart=>exact⟨0,by omega,rfl,Lib.hid (by simp)⟩
 case round =>
  obtain⟨k,hk,rfl,HT⟩:=hrel;by_cases h1:k<n
  ·obtain⟨b,o,x,rfl,a0,a3⟩:=hx.int_at h1;have HX:=Lib.hid a0;clear a0;by_cases h2:x=0
   ·have d2:(x != 0)=false:=by simp[h2]
    have H2:=Lib.hid h2;clear h2
    go_wp2
    go_round
    case rel=>exact⟨k+1,by omega,by go_num,Lib.hid (by rw[bC HX.out,List.find?_append,HT.out,H2.out];rfl)⟩
    case measure=>simp[intOf]<;>omega
   ·have d2:(x != 0)=true:=by simp[h2]
    go_wp2
    go_ret
    refine⟨gA ?_,rfl⟩;have a2:=List.take_append_drop (k+1) xs;unfold orI;rw[<- a2,List.find?_append,bC HX.out,List.find?_append,HT.out];simp[h2]
  ·go_wp2
   go_ret
   have ht:=HT.out;rw[List.take_of_length_le (by rw[HL.out];omega)]at ht;exact⟨gA (by unfold orI;rw[ht];rfl),rfl⟩
def orI_cmp(xs ys:List Int):orI [cmpI xs.length ys.length,lexI xs ys]=cmpW xs ys:=by
 unfold orI cmpI cmpW;by_cases h1:xs.length<ys.length
 ·rw[if_pos (by omega),if_pos h1];rfl
 ·by_cases h2:ys.length<xs.length
  ·rw[if_neg (by omega),if_pos (by omega),if_neg h1,if_pos h2];rfl
  ·rw[if_neg (by omega),if_neg (by omega),if_neg h1,if_neg h2];by_cases h3:lexI xs ys=0
   ·simp[h3]
   ·simp[h3]
def src_two{w:World}(x y:Value)(t:TypeId):Src (w.alloc (.cells #[x,y] t)) (some ⟨w.heap.size,0,none⟩) 2 [x,y] :=
 ⟨rfl,λ_=>⟨_,_,rfl,λj u hu=>by
  have:=cell_two_new w x y t j u hu
  rwa [addr_add]at this⟩⟩
def ints_row{w:World}(x y:Int)(t:TypeId):T4 (w.alloc (.cells #[.int .i64 x,.int .i64 y] t)) cE (some ⟨w.heap.size,0,none⟩) 2 2 [x,y]:=by
 refine⟨rfl,Nat.le_refl _,by omega,λ_=>⟨_,_,rfl,λi z hz=>?_⟩⟩;obtain⟨_,hc⟩:=src_two (w:=w) (.int .i64 x) (.int .i64 y) t;obtain⟨b,o,e,a0⟩:=hc (by omega);injection e with e
 injection e with e1 e2
 subst e1 e2
 match i,hz with
 |0,hz =>
  simp at hz;subst hz;exact⟨_,a0 0 _ rfl,rfl⟩
 |1,hz =>
  simp at hz;subst hz;exact⟨_,a0 1 _ rfl,rfl⟩
set_option maxHeartbeats 400000 in
def zsq{A B:Option Addr}{n c m c':Nat}{xs ys:List Int}{w:World}(hx:T4 w cE A n c xs)(hy:T4 w cE B m c' ys) :
  Calls Tryz.prog 130 #[.slice A n c,.slice B m c'] w λe w'=>e=.returned (.int .i64 (cmpW xs ys))/\w.alloc (.cells #[.int .i64 (cmpI xs.length ys.length),.int .i64 (lexI xs ys)] 3)=w':=by
 have hn:=hx.small;have hm:=hy.small;have a0:=Lib.hid (CB hx hy);have HE:=Lib.hid (orI_cmp xs ys);have h1:=hx.len;have h2:=hy.len;have HO:=Lib.hid (λt=>cmpOr_any (ints_row (w:=w) (cmpI xs.length ys.length) (lexI xs ys) t));rw[h1,h2]at HE HO;rw[h1,h2];clear h1 h2 hx hy
 go_enter Tryz.func130,Tryz.ntmps130
 go_wp2_with (first|(go_at_call 153;refine(wD _ _ _).mono ?_;rintro e w' ⟨rfl,rfl⟩)|(go_at_call 154;refine a0.out.mono ?_;rintro e w' ⟨rfl,rfl⟩)|(go_at_call 152;refine(HO.out _).mono ?_;rintro e w' ⟨rfl,rfl⟩))
 go_ret
 exact⟨gA HE.out,rfl⟩
end Go.Proofs.YtkeplokjplkcmaaGreat
namespace Go.Proofs
section
open Go.Shelf
def Tryz.sortW_ren:Go.Shelf.Ren:=⟨fun|6=>149|15=>159|14=>162|28=>172|29=>173|20=>175|21=>176|22=>177|23=>178|24=>179|25=>180|26=>181|27=>182|46=>188|47=>184|48=>185|49=>189|50=>190|57=>192|n=>n,fun|22=>22|24=>60|25=>72|3=>3|39=>191|0=>0|53=>202|55=>204|4=>4|46=>196|45=>195|50=>74|5=>5|9=>9|66=>213|70=>217|76=>221|77=>222|n=>n,fun|n=>n⟩
def Tryz.sortW:Go.Proofs.SlLaysF.n6 Tryz.prog Tryz.sortW_ren:={
 mixed:=by kernel_rfl
 f6:=⟨Tryz.f149.name,by decide,Tryz.func149.trans (congrArg some (by kernel_rfl))⟩
 f14:=⟨Tryz.f162.name,by decide,Tryz.func162.trans (congrArg some (by kernel_rfl))⟩
 f15:=Tryz.func159.trans (congrArg some (by kernel_rfl))
 f20:=⟨Tryz.f175.name,by decide,Tryz.func175.trans (congrArg some (by kernel_rfl))⟩
 f21:=⟨Tryz.f176.name,by decide,Tryz.func176.trans (congrArg some (by kernel_rfl))⟩
 f22:=⟨Tryz.f177.name,by decide,Tryz.func177.trans (congrArg some (by kernel_rfl))⟩
 f23:=⟨Tryz.f178.name,by decide,Tryz.func178.trans (congrArg some (by kernel_rfl))⟩
 f24:=⟨Tryz.f179.name,by decide,Tryz.func179.trans (congrArg some (by kernel_rfl))⟩
 f25:=⟨Tryz.f180.name,by decide,Tryz.func180.trans (congrArg some (by kernel_rfl))⟩
 f26:=⟨Tryz.f181.name,by decide,Tryz.func181.trans (congrArg some (by kernel_rfl))⟩
 f27:=⟨Tryz.f182.name,by decide,Tryz.func182.trans (congrArg some (by kernel_rfl))⟩
 f28:=Tryz.func172.trans (congrArg some (by kernel_rfl))
 f29:=Tryz.func173.trans (congrArg some (by kernel_rfl))
 f46:=⟨Tryz.f188.name,by decide,Tryz.func188.trans (congrArg some (by kernel_rfl))⟩
 f47:=Tryz.func184.trans (congrArg some (by kernel_rfl))
 f48:=Tryz.func185.trans (congrArg some (by kernel_rfl))
 f49:=⟨Tryz.f189.name,by decide,Tryz.func189.trans (congrArg some (by kernel_rfl))⟩
 f50:=⟨Tryz.f190.name,by decide,Tryz.func190.trans (congrArg some (by kernel_rfl))⟩
 f57:=⟨Tryz.f192.name,by decide,Tryz.func192.trans (congrArg some (by kernel_rfl))⟩
 t0:=Tryz.underlying0
 a0:=Tryz.isAgg0
 z0:=Tryz.sizeOf0
 v0:=Tryz.zeroValue0
 t3:=Tryz.underlying3
 a3:=Tryz.isAgg3
 z3:=Tryz.sizeOf3
 v3:=Tryz.zeroValue3
 t4:=Tryz.underlying4
 a4:=Tryz.isAgg4
 z4:=Tryz.sizeOf4
 v4:=Tryz.zeroValue4
 t5:=Tryz.underlying5
 a5:=Tryz.isAgg5
 z5:=Tryz.sizeOf5
 v5:=Tryz.zeroValue5
 t9:=Tryz.underlying9
 a9:=Tryz.isAgg9
 z9:=Tryz.sizeOf9
 v9:=Tryz.zeroValue9
 t22:=Tryz.underlying22
 a22:=Tryz.isAgg22
 z22:=Tryz.sizeOf22
 v22:=Tryz.zeroValue22
 a24:=Tryz.isAgg60
 z24:=Tryz.sizeOf60
 t25:=Tryz.underlying72
 a25:=Tryz.isAgg72
 z25:=Tryz.sizeOf72
 v25:=Tryz.zeroValue72
 t39:=Tryz.underlying191
 a39:=Tryz.isAgg191
 z39:=Tryz.sizeOf191
 v39:=Tryz.zeroValue191
 t45:=Tryz.underlying195
 a45:=Tryz.isAgg195
 z45:=Tryz.sizeOf195
 v45:=Tryz.zeroValue195
 t46:=Tryz.underlying196
 a46:=Tryz.isAgg196
 z46:=Tryz.sizeOf196
 v46:=Tryz.zeroValue196
 t50:=Tryz.underlying74
 a50:=Tryz.isAgg74
 z50:=Tryz.sizeOf74
 v50:=Tryz.zeroValue74
 t53:=Tryz.underlying202
 a53:=Tryz.isAgg202
 z53:=Tryz.sizeOf202
 v53:=Tryz.zeroValue202
 t55:=Tryz.underlying204
 a55:=Tryz.isAgg204
 z55:=Tryz.sizeOf204
 v55:=Tryz.zeroValue204
 t66:=Tryz.underlying213
 a66:=Tryz.isAgg213
 z66:=Tryz.sizeOf213
 v66:=Tryz.zeroValue213
 t70:=Tryz.underlying217
 a70:=Tryz.isAgg217
 z70:=Tryz.sizeOf217
 v70:=Tryz.zeroValue217
 t76:=Tryz.underlying221
 a76:=Tryz.isAgg221
 z76:=Tryz.sizeOf221
 v76:=Tryz.zeroValue221
 t77:=Tryz.underlying222
 a77:=Tryz.isAgg222
 z77:=Tryz.sizeOf222
 v77:=Tryz.zeroValue222 }
def Tryz.sortF_ren:Go.Shelf.Ren:=⟨fun|14=>158|20=>164|21=>165|22=>166|23=>167|24=>168|25=>169|26=>170|27=>171|46=>183|47=>184|48=>185|49=>186|50=>187|15=>159|57=>191|28=>172|29=>173|n=>n,fun|24=>70|22=>33|3=>3|25=>124|4=>4|0=>0|46=>196|45=>195|50=>74|66=>213|39=>191|55=>204|70=>217|76=>221|77=>222|53=>202|5=>5|9=>9|n=>n,fun|n=>n⟩
def Tryz.sortF:Go.Proofs.SlLaysF0.n14 Tryz.prog Tryz.sortF_ren:={
 mixed:=by kernel_rfl
 f14:=⟨Tryz.f158.name,by decide,Tryz.func158.trans (congrArg some (by kernel_rfl))⟩
 f15:=Tryz.func159.trans (congrArg some (by kernel_rfl))
 f20:=⟨Tryz.f164.name,by decide,Tryz.func164.trans (congrArg some (by kernel_rfl))⟩
 f21:=⟨Tryz.f165.name,by decide,Tryz.func165.trans (congrArg some (by kernel_rfl))⟩
 f22:=⟨Tryz.f166.name,by decide,Tryz.func166.trans (congrArg some (by kernel_rfl))⟩
 f23:=⟨Tryz.f167.name,by decide,Tryz.func167.trans (congrArg some (by kernel_rfl))⟩
 f24:=⟨Tryz.f168.name,by decide,Tryz.func168.trans (congrArg some (by kernel_rfl))⟩
 f25:=⟨Tryz.f169.name,by decide,Tryz.func169.trans (congrArg some (by kernel_rfl))⟩
 f26:=⟨Tryz.f170.name,by decide,Tryz.func170.trans (congrArg some (by kernel_rfl))⟩
 f27:=⟨Tryz.f171.name,by decide,Tryz.func171.trans (congrArg some (by kernel_rfl))⟩
 f28:=Tryz.func172.trans (congrArg some (by kernel_rfl))
 f29:=Tryz.func173.trans (congrArg some (by kernel_rfl))
 f46:=⟨Tryz.f183.name,by decide,Tryz.func183.trans (congrArg some (by kernel_rfl))⟩
 f47:=Tryz.func184.trans (congrArg some (by kernel_rfl))
 f48:=Tryz.func185.trans (congrArg some (by kernel_rfl))
 f49:=⟨Tryz.f186.name,by decide,Tryz.func186.trans (congrArg some (by kernel_rfl))⟩
 f50:=⟨Tryz.f187.name,by decide,Tryz.func187.trans (congrArg some (by kernel_rfl))⟩
 f57:=⟨Tryz.f191.name,by decide,Tryz.func191.trans (congrArg some (by kernel_rfl))⟩
 t0:=Tryz.underlying0
 a0:=Tryz.isAgg0
 z0:=Tryz.sizeOf0
 v0:=Tryz.zeroValue0
 t3:=Tryz.underlying3
 a3:=Tryz.isAgg3
 z3:=Tryz.sizeOf3
 v3:=Tryz.zeroValue3
 t4:=Tryz.underlying4
 a4:=Tryz.isAgg4
 z4:=Tryz.sizeOf4
 v4:=Tryz.zeroValue4
 t5:=Tryz.underlying5
 a5:=Tryz.isAgg5
 z5:=Tryz.sizeOf5
 v5:=Tryz.zeroValue5
 t9:=Tryz.underlying9
 a9:=Tryz.isAgg9
 z9:=Tryz.sizeOf9
 v9:=Tryz.zeroValue9
 t22:=Tryz.underlying33
 a22:=Tryz.isAgg33
 z22:=Tryz.sizeOf33
 v22:=Tryz.zeroValue33
 t25:=Tryz.underlying124
 a25:=Tryz.isAgg124
 z25:=Tryz.sizeOf124
 v25:=Tryz.zeroValue124
 t39:=Tryz.underlying191
 a39:=Tryz.isAgg191
 z39:=Tryz.sizeOf191
 v39:=Tryz.zeroValue191
 t45:=Tryz.underlying195
 a45:=Tryz.isAgg195
 z45:=Tryz.sizeOf195
 v45:=Tryz.zeroValue195
 t46:=Tryz.underlying196
 a46:=Tryz.isAgg196
 z46:=Tryz.sizeOf196
 v46:=Tryz.zeroValue196
 t50:=Tryz.underlying74
 a50:=Tryz.isAgg74
 z50:=Tryz.sizeOf74
 v50:=Tryz.zeroValue74
 t53:=Tryz.underlying202
 a53:=Tryz.isAgg202
 z53:=Tryz.sizeOf202
 v53:=Tryz.zeroValue202
 t55:=Tryz.underlying204
 a55:=Tryz.isAgg204
 z55:=Tryz.sizeOf204
 v55:=Tryz.zeroValue204
 t66:=Tryz.underlying213
 a66:=Tryz.isAgg213
 z66:=Tryz.sizeOf213
 v66:=Tryz.zeroValue213
 t70:=Tryz.underlying217
 a70:=Tryz.isAgg217
 z70:=Tryz.sizeOf217
 v70:=Tryz.zeroValue217
 t76:=Tryz.underlying221
 a76:=Tryz.isAgg221
 z76:=Tryz.sizeOf221
 v76:=Tryz.zeroValue221
 t77:=Tryz.underlying222
 a77:=Tryz.isAgg222
 z77:=Tryz.sizeOf222
 v77:=Tryz.zeroValue222 }
end
end Go.Proofs
namespace Go.Proofs.YtkeplokjplkcmaaGreat.Sym
section
open Go.RowKit Go.Sort
def putRow_map{E:Type}[Inhabited E](enc:E->Value)(w:World)(blk off:Nat)(d:Array E):putRow enc w blk off d=putRow id w blk off (d.map enc):=by
 unfold putRow;congr 1;funext c;unfold putCells;congr 1;funext k x;rw[Array.size_map];by_cases h:off<=k/\k<off+d.size
 ·have h1:k-off<d.size:=by omega
  rw[if_pos h,if_pos h,getElem!_pos d _ h1,getElem!_pos (d.map enc) _ (by simpa using h1)];simp
 ·rw[if_neg h,if_neg h]
def holds_map{E:Type}[Inhabited E]{enc:E->Value}{w:World}{blk off:Nat}{d:Array E}(h:Go.Sort.Holds id w blk off (d.map enc)):Go.Sort.Holds enc w blk off d:=λj hj=>by
 have:=h j (by simpa using hj);rw[getElem!_pos (d.map enc) _ (by simpa using hj)]at this;rw[getElem!_pos d _ hj];simpa using this
def one1(us:List Value):Value:=us.headD undef
def flat_one1{E:Type}[Inhabited E]{enc:E->List Value}(hk:∀x,(enc x).length=1)(d:Array E):Go.Sort.flatK enc 1 d=d.map λx=>one1 (enc x):=by
 rw[yF hk]
 have:(d.toList.map enc).flatten=d.toList.map λx=>one1 (enc x):=by
  generalize d.toList=l
  induction l with
  |nil=>rfl
  |cons x l ih =>
   rw[L3,Z0,ih,L3];have:=hk x
   match h:enc x,this with
   |[v],_=>rfl
 rw[this];apply sV;simp
def sortC_words:SortC Tryz.prog 149 1 one1:=by
 refine⟨λp a2 fv w=>AnyF.slices_SortFunc_none { Tryz.sortW with } p a2 fv w,?_⟩;intro E _ enc cf g a0 a2 d w hk h1 hO eg a4 hH a5 a6;have e1:∀m (dk:Array E),putRow (λx=>one1 (enc x)) (Sort.ahead w m) a0 0 dk=putRow id (Sort.ahead w m) a0 0 (Go.Sort.flatK enc 1 dk):=λm dk=>by rw[flat_one1 hk,putRow_map]
 have a3:OneCell λx=>one1 (enc x):=λx=>by
  have h2:=hk x;have h3:=h1 x
  match h:enc x,h2 with
  |[v],_ =>
   show(one1 (enc x)).oneCell'=true;rw[h]at h3 ⊢;exact h3 v (by simp)
 refine(Any.slices_SortFunc Tryz.sortW (λx=>one1 (enc x)) a3 cf hO g #[] a0 0 a2 d w eg (λm os dk hs x y=>?_) (holds_map (by rw[<- flat_one1 hk];exact hH)) a5 a6).mono ?_
 ·have:=a4 m os dk hs x y;unfold sortWorld;rw[e1];simpa using this
 ·rintro e w' ⟨he,d',n,os,hp,hs,hw⟩;exact⟨he,d',n,os,hp,hs,by rw[hw];unfold sortWorld;rw[e1]⟩
def aggF:∀w,(isAgg (Tryz.sortF_ren.t 24)).run Tryz.prog w=.ok true w:=Tryz.isAgg70
def sizF:∀w,(Go.sizeOf (Tryz.sortF_ren.t 24)).run Tryz.prog w=.ok 2 w:=Tryz.sizeOf70
set_option maxHeartbeats 2000000 in
def sortC_traces:SortC Tryz.prog 141 2 (λus=>.agg us.toArray):=by
 refine⟨λp a3 fv w=>?_,?_⟩
 ·have hp:=λa8 W=>AnyF.pdqsortCmpFunc_none (P:=Tryz.prog) (ρ:=Tryz.sortF_ren) Tryz.sortF p a3 a8 fv W
  have hl:∀W,Calls Tryz.prog 159 #[.int .u64 0] W λe w'=>e=.returned (.int .i64 (Lib.bitLen 0:Nat))/\w'=W:=λW=>by
   have h:=Any.bits_Len (SlLaysF0.n15.bits (P:=Tryz.prog) (ρ:=Tryz.sortF_ren) { Tryz.sortF with }) 0 W (by omega) (by omega);exact h
  go_enter Tryz.func141,Tryz.ntmps141
  go_wp2_with (first|(go_at_call 159;refine(hl _).mono ?_;rintro e w' ⟨rfl,rfl⟩)|(go_at_call 158;refine(hp _ _).mono ?_;rintro e w' ⟨rfl,rfl⟩))
  go_end0
  exact⟨rfl,rfl⟩
 ·intro E _ enc cf g a5 a3 d w hk h1 hO eg a2 hH a7 a9;have a6:Lib.bitLen d.size<4611686018427387904:=Nat.lt_of_le_of_lt (Lib.bitLen_le d.size 62 (by omega) (by omega)) (by omega)
  have a0:CmpLays Tryz.prog g #[] enc 2 cf a5 0 d.size w:=λm os dk hs x y=>by
   unfold sortWorldK putRowK;simpa using a2 m os dk hs x y
  have hp:=AnyQ.pdqsortCmpFunc_all (P:=Tryz.prog) (ρ:=Tryz.sortF_ren) Tryz.sortF 2 aggF sizF enc cf g #[] hO a5 0 a3 d w eg a0 ⟨hk,h1,hH,a7⟩ (d.size+1) 0 d.size (Lib.bitLen d.size) d w (by omega) rfl (SWK.start hH) (D9 _) (H0 _) a9 a6 (Or.inl rfl)
  have hl:Calls Tryz.prog 159 #[.int .u64 (d.size:Int)] w λe w'=>e=.returned (.int .i64 (Lib.bitLen d.size:Nat))/\w'=w:=by
   have h:=Any.bits_Len (SlLaysF0.n15.bits (P:=Tryz.prog) (ρ:=Tryz.sortF_ren) { Tryz.sortF with }) (d.size:Int) w (by omega) (by omega)
   rwa [I7]at h
  have wr:IntKind.u64.wrap (d.size:Int)=d.size:=by simp[IntKind.wrap,IntKind.bits,IntKind.signed];omega
  have a4:=pdq_sorts (ltOf cf) hO d 0 d.size (Lib.bitLen d.size) true true (D9 _) (H0 _) (Or.inl rfl);clear hH a2 a0 hk h1
  go_enter Tryz.func141,Tryz.ntmps141
  go_wp2_with (first|(go_at_call 159;refine hl.mono ?_;rintro e w' ⟨rfl,rfl⟩)|(go_at_call 158;refine hp.mono ?_;rintro e w' ⟨rfl,n,os,rfl⟩))
  go_end0
  exact⟨rfl,_,n,os,a4.1,a4.2,rfl⟩
def cmpG_compare{f:A2->A2->Option Int}(hf:∀x y r,x.length<=17592186044416->f x y=some r->r=cmpW x y):CmpG Tryz.prog 130 (nL cI) f:=by
 intro W S u u' x y r h hu a0;obtain⟨A,n,c,rfl,h1⟩:=mD hu;have:=hf x y r (by rw[h1.len];exact h1.small) h;subst this;obtain⟨B,m,c',rfl,h2⟩:=mD a0;refine(zsq h1 h2).mono λe w' ⟨he,hw⟩=>⟨he,0,#[.cells #[.int .i64 (cmpI x.length y.length),.int .i64 (lexI x y)] 3],?_⟩;rw[<- hw,Sort.alloc_eq_grow];rfl
def rep_two{w:World}{S:Nat->Prop}{u:Value}{x y:IV}(h:RepI w S u (.agg [x,y])):∃a b,u=.agg #[a,b]/\RepI w S a x/\RepI w S b y:=by
 generalize hz:IV.agg [x,y]=z at h;cases h with
 |agg us cs hl h1 hr =>
  injection hz with hz
  subst hz
  match us,hl with
  |[a,b],_=>exact⟨a,b,rfl,hr 0 a x rfl rfl,hr 1 b y rfl rfl⟩
 |_=>cases hz
set_option maxHeartbeats 400000 in
def fits1_any{A A' B B':Option Addr}{n c m c' p q p' q':Nat}{xs ys:A2}{w:World}(hx:T4 w cE A n c xs)(hy:T4 w cE B m c' ys) :
  Calls Tryz.prog 142 #[.agg #[.slice A n c,.slice A' p q],.agg #[.slice B m c',.slice B' p' q']] w λe w'=>e=.returned (.int .i64 (lexI xs ys))/\∃q os,w'=Sort.grow (w.drewN q) os:=by
 have key:∀o o',∃q os,(w.alloc o).alloc o'=Sort.grow (w.drewN q) os:=λo o'=>⟨0,#[o]++#[o'],by
  rw[Sort.alloc_eq_grow,Sort.alloc_eq_grow,Sort.grow_grow]
  rfl⟩
 have a2:∀o o',T4 ((w.alloc o).alloc o') cE A n c xs:=λo o'=>(hx.kept (kI (World.grownBy_alloc w o none))).kept (kI (World.grownBy_alloc _ o' none));have a0:∀o o',T4 ((w.alloc o).alloc o') cE B m c' ys:=λo o'=>(hy.kept (kI (World.grownBy_alloc w o none))).kept (kI (World.grownBy_alloc _ o' none))
 go_enter Tryz.func142,Tryz.ntmps142
 go_wp2_with (go_at_call 143;refine(wordLex_any (a2 _ _) (a0 _ _)).mono ?_;rintro e w' ⟨rfl,rfl⟩)
 go_ret
 exact⟨rfl,key _ _⟩
def cmpG_fits1{T:Type}{X:T->IV}{i o:T->A2}(hX:∀x,X x=.agg [nL cI (i x),nL cI (o x)]){f:T->T->Option Int}(hf:∀x y r,(i x).length<=17592186044416->f x y=some r->r=lexI (i x) (i y)):CmpG Tryz.prog 142 X f:=by
 intro W S u u' x y r h hu a0;rw[hX]at hu a0;obtain⟨a,b,rfl,ha,hb⟩:=rep_two hu;obtain⟨a',b',rfl,a3,a2⟩:=rep_two a0;obtain⟨A,n,c,rfl,h1⟩:=mD ha;have:=hf x y r (by rw[h1.len];exact h1.small) h;subst this;obtain⟨B,m,c',rfl,h2⟩:=mD a3;obtain⟨_,_,_,rfl,_⟩:=mD hb;obtain⟨_,_,_,rfl,_⟩:=mD a2;exact fits1_any h1 h2
def rep_of_one{W:World}{S:Nat->Prop}{us:List Value}{x:IV}(hl:us.length=1)(hr:X4 W S us [x]):RepI W S (one1 us) x:=by
 match us,hl with
 |[u],_=>exact hr.2 0 u x rfl rfl
def CmpE{T:Type}(P:Program)(g:FuncId)(X:T->IV)(f:T->T->Option Int):Prop:=(∀args w,(callFunc g args).run P w=.ok (.enter g args) w)/\CmpG P g X f
end
def lS{V:Type}(by_:Nat)(l:List V):Option (List V):=chk (B5 l.length by_) (some l)
def mQ(l:A2):Option (A2):=lS 8 l
def BP(l r:A2)(h:mQ l=some r):Sp Tryz.prog 121 [.im (nL cI l)] (.row 3 1 (List.map cI r)):=by
 obtain⟨h1,h⟩:=C8 h;injection h with h
 subst h;exact vL (by_:=8) (λargs w=>eH rfl rfl rfl args w) (by decide) clone_int (λe he=>by obtain⟨y,_,rfl⟩:=I3.1 he;rfl) (by rw[C3];exact h1)
def sQ(l:A4):Option (A4):=lS 24 l
def zn6(l r:A4)(h:sQ l=some r):Sp Tryz.prog 148 [.im (nL (cL cI) l)] (.row 60 1 (List.map (cL cI) r)):=by
 obtain⟨h1,h⟩:=C8 h;injection h with h
 subst h;exact vL (by_:=24) (λargs w=>eH rfl rfl rfl args w) (by decide) clone_words (λe he=>by obtain⟨y,_,rfl⟩:=I3.1 he;rfl) (by rw[C3];exact h1)
def wT(l:A4)(f:(A2)->(A2)->Option Int):Option (A4):=lG l f
def zlp(l:A4)(f:(A2)->(A2)->Option Int)(g:FuncId)(hd:CmpE Tryz.prog g (λx=>nL cI x) f)(r:A4)(h:wT l f=some r):Sp Tryz.prog 149 [.lent (.row 60 1 (List.map (cL cI) l)),.im (.fn g [])] (.mk true [] [.lent (.row 60 1 (List.map (cL cI) r))]) :=
 zB (λargs w=>eH rfl rfl rfl args w) sortC_words (by decide) (λ_=>rfl) (λW S us x hl h1 hr=>rep_of_one hl hr) hd.1 hd.2 h
def wO(l:List I0):Option (List I0):=lS 48 l
def znk(l r:List I0)(h:wO l=some r):Sp Tryz.prog 140 [.im (nL M8 l)] (.row 70 2 (List.map M8 r)):=by
 obtain⟨h1,h⟩:=C8 h;injection h with h
 subst h;exact vL (by_:=48) (λargs w=>eH rfl rfl rfl args w) (by decide) clone_traces (λe he=>by obtain⟨y,_,rfl⟩:=I3.1 he;rfl) (by rw[C3];exact h1)
def wR(l:List I0)(f:I0->I0->Option Int):Option (List I0):=lG l f
def zk6(l:List I0)(f:I0->I0->Option Int)(g:FuncId)(hd:CmpE Tryz.prog g (λx=>.agg (M8 x)) f)(r:List I0)(h:wR l f=some r):Sp Tryz.prog 141 [.lent (.row 70 2 (List.map M8 l)),.im (.fn g [])] (.mk true [] [.lent (.row 70 2 (List.map M8 r))]) :=
 zB (λargs w=>eH rfl rfl rfl args w) sortC_traces (by decide) (λ_=>rfl) (λW S us x hl h1 hr=>.agg _ _ hr.1 h1 hr.2) hd.1 hd.2 h
def fH.s2(o_:I4)(a2 a7:Nat):Option ((Nat×Nat)⊕Nat):=(cond (decide ((a7:Int)<(o_.T.length:Int))) (some (decide ((a2:Int)<=60))) (some false)).bind (λa8=>cond (a8) (chk (inR ((a2:Int)+1)) (idxn o_.T a7 λa6=>chk (inR (((a2:Int)+1)+(a6.In.length:Int))) (chk (inR ((a7:Int)+1)) (some (.inl (((a2+1)+a6.In.length),(a7+1))))))) (some (.inr a2)))
def fH(o_:I4):Option Bool:=(iter (λ(s:Nat×Nat)=>fH.s2 o_ s.1 s.2) fuel (0,0)).bind (λa6=>(cond (decide (60<(a6:Int))) (some true) (some (decide (4<o_.I)))).bind (λa2=>some a2))
def nU(inputs_:Int):Option Bool:=(cond (decide (1<=inputs_)) (some (decide (inputs_<=1024))) (some false)).bind (λa2=>some a2)
def dK.s2(w_:A2)(inputs_:Int)(a2:Nat):Option (Nat⊕(Unit⊕Int)):=cond (decide ((a2:Int)<(w_.length:Int))) ((idxn w_ a2 λa6=>cond (decide (a6<0)) (some true) (idxn w_ a2 λa7=>some (decide (inputs_<=a7)))).bind (λa8=>cond (a8) (some (.inr (.inr 1))) (some (.inl (a2+1))))) (some (.inr (.inl ())))
def dK(w_:A2)(inputs_:Int):Option Int:=(nU inputs_).bind λa2=>cond ((!a2)) (some 2) (cond (decide (1024<(w_.length:Int))) (some 3) ((iter (λ(s:Nat)=>dK.s2 w_ inputs_ s) fuel 0).bind (Sum.elim (λ_=>some 0) some)))
def eE.s2(a_ b_:A2)(a2:Nat):Option (Nat⊕Nat):=(cond (decide ((a2:Int)<(a_.length:Int))) (cond (decide ((a2:Int)<(b_.length:Int))) (idxn a_ a2 λa6=>idxn b_ a2 λa7=>some (decide (a6=a7))) (some false)) (some false)).bind (λa8=>cond (a8) (chk (inR ((a2:Int)+1)) (some (.inl (a2+1)))) (some (.inr a2)))
def eE(a_ b_:A2):Option Int:=(iter (λ(s:Nat)=>eE.s2 a_ b_ s) fuel 0).bind (λa2=>some (a2:Int))
def nK(a_ b_:A2):Option Int:=(eE a_ b_).bind λa2=>(cond (decide (a2=(a_.length:Int))) (some (decide (a2=(b_.length:Int)))) (some false)).bind (λa6=>cond (a6) (some 0) ((cond (decide (a2=(a_.length:Int))) (some (decide (a2=(a_.length:Int)))) (cond (decide (a2<(b_.length:Int))) (idx a_ a2 λa7=>idx b_ a2 λa8=>some (decide (a7<a8))) (some false))).bind (λb2=>cond (b2) (some (-1:Int)) (some 1))))
def mH(a_ b_:A2):Option Int:=cond (decide ((a_.length:Int)<(b_.length:Int))) (some (-1:Int)) (cond (decide ((b_.length:Int)<(a_.length:Int))) (some 1) ((nK a_ b_).bind λa2=>some a2))
def fI.s2(t_:I0)(a2:Nat):Option (Nat⊕(Unit⊕Int)):=cond (decide ((a2:Int)<(t_.O.length:Int))) ((idxn t_.O a2 λa6=>cond (decide (a6<0)) (some true) (idxn t_.O a2 λa7=>some (decide (1048576<a7)))).bind (λa8=>cond (a8) (some (.inr (.inr 2))) (some (.inl (a2+1))))) (some (.inr (.inl ())))
def fI(t_:I0)(inputs_:Int):Option Int:=(dK t_.In inputs_).bind λa2=>cond (decide (a2≠0)) (some a2) (cond (decide ((t_.O.length:Int)≠(t_.In.length:Int))) (some 1) ((iter (λ(s:Nat)=>fI.s2 t_ s) fuel 0).bind (Sum.elim (λ_=>some 0) some)))
def mM(w_ p_:A2):Option Bool:=(eE w_ p_).bind λa2=>some (decide (a2=(p_.length:Int)))
def gK.s2(a_ b_:I0)(a6:Int)(a2:Nat):Option (Nat⊕(Unit⊕Int)):=cond (decide ((a2:Int)<a6)) (idxn a_.O a2 λa7=>idxn b_.O a2 λa8=>cond (decide (a7≠a8)) (some (.inr (.inr (a2:Int)))) (chk (inR ((a2:Int)+1)) (some (.inl (a2+1))))) (some (.inr (.inl ())))
def gK(a_ b_:I0):Option Int:=(eE a_.In b_.In).bind λa2=>(iter (λ(s:Nat)=>gK.s2 a_ b_ a2 s) fuel 0).bind (Sum.elim (λ_=>some (-1:Int)) some)
def X7.s30(o_:I4)(a6:Nat)(prefix714 clash715:Bool)(a2:Nat):Option ((Bool×Bool×Nat)⊕(Bool×Bool)):=cond (decide ((a2:Int)<(o_.T.length:Int))) ((cond (prefix714) (some true) (idxn o_.T a2 λa7=>idxn o_.T a6 λa8=>(mM a7.In a8.In).bind λb2=>some b2)).bind (λprefix741=>cond (clash715) (some (.inl (prefix741,true,(a2+1)))) (idxn o_.T a6 λb3=>idxn o_.T a2 λb4=>(gK b3 b4).bind λb5=>some (.inl (prefix741,decide (0<=b5),(a2+1)))))) (some (.inr (prefix714,clash715)))
def X7.k31(a2:Nat)(prefix693 clash694:Bool):Option (Nat⊕(Unit⊕Int)):=cond (prefix693) (some (.inr (.inr 7))) (cond (clash694) (some (.inr (.inr 13))) (some (.inl (a2+1))))
def X7.s32(o_:I4)(a2:Nat):Option (Nat⊕(Unit⊕Int)):=cond (decide ((a2:Int)<(o_.T.length:Int))) ((iter (λ(s:Bool×Bool×Nat)=>X7.s30 o_ a2 s.1 s.2.1 s.2.2) fuel (false,false,(a2+1))).bind (λs=>X7.k31 a2 s.1 s.2)) (some (.inr (.inl ())))
def X7(o_:I4):Option Int:=(iter (λ(s:Nat)=>X7.s32 o_ s) fuel 0).bind (Sum.elim (λ_=>some 0) some)
def gG.s2(o_:I4)(a2:Nat):Option (Nat⊕(Unit⊕Int)):=cond (decide ((a2:Int)<(o_.T.length:Int))) (idxn o_.T a2 λa6=>(dK a6.In o_.I).bind λa7=>cond (decide (a7≠0)) (some (.inr (.inr a7))) (cond (decide ((a6.In.length:Int)=0)) (some (.inr (.inr 19))) ((fI a6 o_.I).bind λa8=>cond (decide (a8≠0)) (some (.inr (.inr a8))) ((cond (decide (0<(a2:Int))) (idx o_.T ((a2:Int)-1) λb2=>(mH b2.In a6.In).bind λb3=>some (decide (0<=b3))) (some false)).bind (λb4=>cond (b4) (some (.inr (.inr 10))) (some (.inl (a2+1)))))))) (some (.inr (.inl ())))
def gG(o_:I4):Option Int:=(cond (decide (o_.I<1)) (some true) (some (decide (64<o_.I)))).bind (λa6=>cond (a6) (some 2) (cond (decide (10000<(o_.T.length:Int))) (some 11) ((iter (λ(s:Nat)=>gG.s2 o_ s) fuel 0).bind (Sum.elim (λ_=>(X7 o_).bind λa2=>some a2) some))))
def gI.s2(l_:A4)(w_:A2)(low84 high85:Nat):Option ((Nat×Nat)⊕Nat):=cond (decide ((low84:Int)<(high85:Int))) (chk (inR ((low84:Int)+(high85:Int))) (chk (inR (((low84:Int)+(high85:Int)) / 2)/\(0:Int)<=((low84:Int)+(high85:Int))/\(1:Int)<=2) (idxn l_ ((low84+high85) / 2) λa2=>(mH a2 w_).bind λa6=>cond (decide (a6<0)) (chk (inR ((((low84:Int)+(high85:Int)) / 2)+1)) (some (.inl ((((low84+high85) / 2)+1),high85)))) (some (.inl (low84,((low84+high85) / 2))))))) (some (.inr low84))
def gI(l_:A4)(w_:A2):Option Int:=(iter (λ(s:Nat×Nat)=>gI.s2 l_ w_ s.1 s.2) fuel (0,l_.length)).bind (λlow77=>some (low77:Int))
def jC(a_ b_:A2):Option Bool:=(cond (decide ((a_.length:Int)=(b_.length:Int))) ((eE a_ b_).bind λa2=>some (decide (a2=(a_.length:Int)))) (some false)).bind (λa6=>some a6)
def eB.s2(a8:Int)(a6:A4)(a2:Int):Option ((A4×Int)⊕A4):=cond (decide (a8<a2)) (chk (inR (a2-1)) (idx a6 (a2-1) λa7=>idx a6 a2 λb2=>chk (inR (a2-1)) (some (.inl ((List.set a6 a2.toNat a7),(a2-1)))))) (some (.inr a6))
def eB(l_:A4)(w_:A2):Option A4:=(gI l_ w_).bind λa2=>(cond (decide (a2<(l_.length:Int))) (idx l_ a2 λa7=>(jC a7 w_).bind λa8=>some a8) (some false)).bind (λb2=>cond (b2) (some l_) (chk (B5 (List.length l_+1) 24) (chk (inR ((↑(List.length (l_++[[]])):Int)-1)) ((iter (λ(s:A4×Int)=>eB.s2 a2 s.1 s.2) fuel ((l_++[[]]),((↑(List.length (l_++[[]])):Int)-1))).bind (λa6=>chk (B5 (List.length ([]:List Unit)+List.length w_) 8) (idx a6 a2 λb3=>some (List.set a6 a2.toNat ([]++w_))))))))
def aP.s13(l_:A4)(a6:Nat)(a7:A4)(a2:Nat):Option ((A4×Nat)⊕A4):=idxn l_ a6 λb2=>cond (decide ((a2:Int)<=(b2.length:Int))) (idxn l_ a6 λa8=>chk ((0:Int)<=(a2:Int)/\(a2:Int)<=(a8.length:Int)) ((eB a7 (List.take a2 a8)).bind λb3=>chk (inR ((a2:Int)+1)) (some (.inl (b3,(a2+1)))))) (some (.inr a7))
def aP.s14(l_ a6:A4)(a2:Nat):Option ((A4×Nat)⊕A4):=cond (decide ((a2:Int)<(l_.length:Int))) ((iter (λ(s:A4×Nat)=>aP.s13 l_ a2 s.1 s.2) fuel (a6,0)).bind (λa7=>some (.inl (a7,(a2+1))))) (some (.inr a6))
def aP(l_:A4):Option A4:=(iter (λ(s:A4×Nat)=>aP.s14 l_ s.1 s.2) fuel ([],0)).bind (λa2=>some a2)
def fD.s2(l_:A4)(w_:A2)(a2:Nat):Option (Nat⊕Nat):=(cond (decide ((a2:Int)<(l_.length:Int))) (idxn l_ a2 λa6=>(jC a6 w_).bind λa7=>some (!a7)) (some false)).bind (λa8=>cond (a8) (chk (inR ((a2:Int)+1)) (some (.inl (a2+1)))) (some (.inr a2)))
def fD(l_:A4)(w_:A2):Option Int:=(iter (λ(s:Nat)=>fD.s2 l_ w_ s) fuel 0).bind (λa2=>some (a2:Int))
def U2.s18(inputs_:Int)(a2 a6:A2)(a7:Nat):Option ((A2×A2×Nat)⊕(A2×A2)):=cond (decide ((a7:Int)<inputs_)) (chk (B5 (List.length a2+1) 8) (chk (B5 (List.length a6+1) 8) (chk (inR ((a7:Int)+1)) (some (.inl ((a2++[(-1:Int)]),(a6++[(-1:Int)]),(a7+1))))))) (some (.inr (a2,a6)))
def U2.k19(a2 a6:A4)(a7:Nat)(a8 b2:A2):Option ((A4×A4×Nat)⊕(A4×A4)):=chk (B5 (List.length a2+List.length [a8]) 24) (chk (B5 (List.length a6+List.length [b2]) 24) (chk (inR ((a7:Int)+1)) (some (.inl ((a2++[a8]),(a6++[b2]),(a7+1))))))
def U2.s20(inputs_ states_:Int)(a2 a6:A4)(a7:Nat):Option ((A4×A4×Nat)⊕(A4×A4)):=cond (decide ((a7:Int)<states_)) ((iter (λ(s:A2×A2×Nat)=>U2.s18 inputs_ s.1 s.2.1 s.2.2) fuel ([],[],0)).bind (λs=>U2.k19 a2 a6 a7 s.1 s.2)) (some (.inr (a2,a6)))
def U2.k21(inputs_:Int)(a2 a6:A4):Option A8:=some (⟨inputs_,0,a2,a6⟩:A8)
def U2(inputs_ states_:Int):Option A8:=(iter (λ(s:A4×A4×Nat)=>U2.s20 inputs_ states_ s.1 s.2.1 s.2.2) fuel ([],[],0)).bind (λs=>U2.k21 inputs_ s.1 s.2)
def P5.s2(o_:I4)(a2:A4)(a6:Nat):Option ((A4×Nat)⊕A4):=cond (decide ((a6:Int)<(o_.T.length:Int))) (idxn o_.T a6 λa7=>chk (B5 (List.length a2+1) 24) (some (.inl ((a2++[a7.In]),(a6+1))))) (some (.inr a2))
def P5.s20(b9:A4)(a6:I0)(a8 b2:A4)(a2:Nat):Option ((A4×A4×Nat)⊕(A4×A4)):=cond (decide ((a2:Int)<(a6.In.length:Int))) (chk ((0:Int)<=(a2:Int)/\(a2:Int)<=(a6.In.length:Int)) ((fD b9 (List.take a2 a6.In)).bind λa7=>idx a8 a7 λb3=>idxn a6.In a2 λb4=>chk ((0:Int)<=((a2:Int)+1)/\((a2:Int)+1)<=(a6.In.length:Int)) ((fD b9 (List.take (a2+1) a6.In)).bind λb7=>idx b3 b4 λc0=>idx b2 a7 λb5=>idxn a6.In a2 λb6=>idxn a6.O a2 λb8=>idx b5 b6 λc6=>some (.inl ((List.set a8 (Int.toNat a7) (List.set b3 (Int.toNat b4) b7)),(List.set b2 (Int.toNat a7) (List.set b5 (Int.toNat b6) b8)),(a2+1)))))) (some (.inr (a8,b2)))
def P5.k21(a2:Nat)(a6 a7:A4):Option ((A4×A4×Nat)⊕(A4×A4)):=some (.inl (a6,a7,(a2+1)))
def P5.s22(o_:I4)(b2 a6 a7:A4)(a2:Nat):Option ((A4×A4×Nat)⊕(A4×A4)):=cond (decide ((a2:Int)<(o_.T.length:Int))) (idxn o_.T a2 λa8=>(iter (λ(s:A4×A4×Nat)=>P5.s20 b2 a8 s.1 s.2.1 s.2.2) fuel (a6,a7,0)).bind (λs=>P5.k21 a2 s.1 s.2)) (some (.inr (a6,a7)))
def P5.k23(a7:A8)(a2 a6:A4):Option (A8×Int):=some ((⟨a7.I,a7.S,a2,a6⟩:A8),0)
def P5(o_:I4):Option (A8×Int):=(iter (λ(s:A4×Nat)=>P5.s2 o_ s.1 s.2) fuel ([[]],0)).bind (λa7=>(aP a7).bind λa2=>cond (decide (4096<(a2.length:Int))) (some ((⟨0,0,[],[]⟩:A8),11)) ((U2 o_.I (a2.length:Int)).bind λa6=>(iter (λ(s:A4×A4×Nat)=>P5.s22 o_ a2 s.1 s.2.1 s.2.2) fuel (a6.N,a6.O,0)).bind (λs=>P5.k23 a6 s.1 s.2)))
def bE.s13(p_:A8)(b2:Nat)(a8:A2)(a2:Nat):Option (Nat⊕(Unit⊕(Nat⊕(Unit⊕Int)))):=cond (decide ((a2:Int)<(a8.length:Int))) (idxn a8 a2 λa6=>idxn p_.O b2 λb3=>idxn b3 a2 λa7=>(cond (decide (a6<(-1:Int))) (some true) (cond (decide ((p_.N.length:Int)<=a6)) (some true) (cond (decide (a7<(-1:Int))) (some true) (some (decide (1048576<a7)))))).bind (λb4=>cond (b4) (some (.inr (.inr (.inr (.inr 2))))) (cond ((!((decide (a6=(-1:Int)))==(decide (a7=(-1:Int)))))) (some (.inr (.inr (.inr (.inr 1))))) (some (.inl (a2+1)))))) (some (.inr (.inl ())))
def bE.s14(p_:A8)(a2:Nat):Option (Nat⊕(Unit⊕Int)):=cond (decide ((a2:Int)<(p_.N.length:Int))) ((idxn p_.N a2 λa6=>cond (decide ((a6.length:Int)≠p_.I)) (some true) (idxn p_.O a2 λa7=>some (decide ((a7.length:Int)≠p_.I)))).bind (λa8=>cond (a8) (some (.inr (.inr 1))) (idxn p_.N a2 λb2=>(iter (λ(s:Nat)=>bE.s13 p_ a2 b2 s) fuel 0).bind (Sum.elim (λ_=>some (.inl (a2+1))) some)))) (some (.inr (.inl ())))
def bE(p_:A8):Option Int:=(cond (decide (p_.I<1)) (some true) (some (decide (64<p_.I)))).bind (λa2=>cond (a2) (some 2) (cond (decide ((p_.N.length:Int)=0)) (some 19) (cond (decide (4096<(p_.N.length:Int))) (some 11) ((cond (decide (p_.S<0)) (some true) (some (decide ((p_.N.length:Int)<=p_.S)))).bind (λa6=>cond (a6) (some 2) (cond (decide ((p_.O.length:Int)≠(p_.N.length:Int))) (some 1) ((iter (λ(s:Nat)=>bE.s14 p_ s) fuel 0).bind (Sum.elim (λ_=>some 0) some))))))))
def eK.s2(up_:A2)(s68:Int):Option (Int⊕Int):=idx up_ s68 λa2=>cond (decide (a2≠s68)) (idx up_ s68 λa6=>some (.inl a6)) (some (.inr s68))
def eK(up_:A2)(s_:Int):Option Int:=(iter (λ(s:Int)=>eK.s2 up_ s) fuel s_).bind (λs64=>some s64)
def fM.s2(p_:A8)(class_:A2)(a_:Int)(a2:Nat):Option (Nat⊕(Unit⊕Int)):=cond (decide ((a2:Int)<(class_.length:Int))) (idxn class_ a2 λa6=>idx p_.N a6 λa7=>idx a7 a_ λa8=>cond (decide (a8≠(-1:Int))) (some (.inr (.inr a6))) (some (.inl (a2+1)))) (some (.inr (.inl ())))
def fM(p_:A8)(class_:A2)(a_:Int):Option Int:=(iter (λ(s:Nat)=>fM.s2 p_ class_ a_ s) fuel 0).bind (Sum.elim (λ_=>some (-1:Int)) some)
def M1.s2(p_:A8)(a6:A2)(a7:A4)(a2:Nat):Option ((A2×A4×Nat)⊕(A2×A4)):=cond (decide ((a2:Int)<(↑(List.length (List.replicate p_.N.length (0:Int))):Int))) (idxn a6 a2 λa8=>idxn a7 a2 λb2=>chk (inR ((a2:Int)+1)) (some (.inl ((List.set a6 a2 (a2:Int)),(List.set a7 a2 [(a2:Int)]),(a2+1))))) (some (.inr (a6,a7)))
def M1.s32(p_:A8)(b2:A4)(b3 b4:Int)(a6:List T_A2)(a2:Nat):Option ((List T_A2×Nat)⊕(List T_A2⊕((A2×A4×List T_A2)⊕((A2×A4×List T_A2)⊕(A2⊕(A2×Bool)))))):=cond (decide ((a2:Int)<p_.I)) ((idx b2 b3 λb5=>(fM p_ b5 (a2:Int)).bind λa7=>idx b2 b4 λb6=>(fM p_ b6 (a2:Int)).bind λa8=>(cond (decide (a7=(-1:Int))) (some true) (some (decide (a8=(-1:Int))))).bind (λb7=>cond (b7) (some (.inl a6)) (idx p_.O a7 λb8=>idxn b8 a2 λb9=>idx p_.O a8 λc0=>idxn c0 a2 λc6=>cond (decide (b9≠c6)) (some (.inr (.inr (.inr (.inr (.inr (.inr ([],false)))))))) (idx p_.N a7 λc7=>idxn c7 a2 λc8=>idx p_.N a8 λc9=>idxn c9 a2 λd0=>chk (B5 (List.length a6+1) 16) (some (.inl (a6++[(⟨c8,d0⟩:T_A2)])))))):Option (List T_A2⊕((List T_A2×Nat)⊕(List T_A2⊕((A2×A4×List T_A2)⊕((A2×A4×List T_A2)⊕(A2⊕(A2×Bool)))))))).bind (Sum.elim (λd1=>chk (inR ((a2:Int)+1)) (some (.inl (d1,(a2+1))))) some)) (some (.inr (.inl a6)))
def M1.k33(a6:A2)(a7:A4)(a2:List T_A2):Option ((A2×A4×List T_A2)⊕(A2⊕(A2×Bool))):=chk (1<=List.length a2) (some (.inl (a6,a7,(List.drop 1 a2))))
def M1.s34(p_:A8)(a2:A2)(a6:A4)(a8:List T_A2):Option ((A2×A4×List T_A2)⊕(A2⊕(A2×Bool))):=cond (decide (0<(a8.length:Int))) ((idxn a8 0 λb5=>(eK a2 b5.f0).bind λa7=>idxn a8 0 λb6=>(eK a2 b6.f1).bind λb2=>cond (decide (a7=b2)) (some (.inl (a2,a6,a8))) ((iter (λ(s:List T_A2×Nat)=>M1.s32 p_ a6 a7 b2 s.1 s.2) fuel (a8,0)).bind (Sum.elim (λb7=>idx a2 b2 λb8=>idx a6 a7 λb3=>idx a6 b2 λb4=>chk (B5 (List.length b3+List.length b4) 8) (idx a6 a7 λb9=>some (.inl ((List.set a2 b2.toNat a7),(List.set a6 (Int.toNat a7) (b3++b4)),b7)))) some)):Option ((A2×A4×List T_A2)⊕((A2×A4×List T_A2)⊕(A2⊕(A2×Bool))))).bind (Sum.elim (λs=>M1.k33 s.1 s.2.1 s.2.2) some)) (some (.inr (.inl a2)))
def M1.s36(a7 a6:A2)(a2:Nat):Option ((A2×Nat)⊕A2):=cond (decide ((a2:Int)<(a7.length:Int))) ((eK a6 (a2:Int)).bind λa8=>idxn a6 a2 λb2=>some (.inl ((List.set a6 a2 a8),(a2+1)))) (some (.inr a6))
def M1.k37(p_:A8)(s_ t_:Int)(a7:A2)(a8:A4):Option (A2×Bool):=(iter (λ(s:A2×A4×List T_A2)=>M1.s34 p_ s.1 s.2.1 s.2.2) fuel (a7,a8,[(⟨s_,t_⟩:T_A2)])).bind (Sum.elim (λa2=>(iter (λ(s:A2×Nat)=>M1.s36 a2 s.1 s.2) fuel (a2,0)).bind (λa6=>some (a6,true))) some)
def M1(p_:A8)(s_ t_:Int):Option (A2×Bool):=chk ((0:Int)<=(p_.N.length:Int)/\(p_.N.length:Int)<=(p_.N.length:Int)/\B5 (Int.toNat (p_.N.length:Int)) 8) (chk ((0:Int)<=(p_.N.length:Int)/\(p_.N.length:Int)<=(p_.N.length:Int)/\B5 (Int.toNat (p_.N.length:Int)) 24) ((iter (λ(s:A2×A4×Nat)=>M1.s2 p_ s.1 s.2.1 s.2.2) fuel ((List.replicate p_.N.length (0:Int)),(List.replicate p_.N.length ([]:A2)),0)).bind (λs=>M1.k37 p_ s_ t_ s.1 s.2)))
def R0.k53(a2 a6:Nat)(a7:List (A2×Bool)):Option ((Nat×(List (A2×Bool))×Nat)⊕(Nat×(List (A2×Bool)))):=some (.inl (a6,a7,(a2+1)))
def R0.s54(b7:A2×Bool)(a8:Nat)(b2:A2)(a6:Nat)(a2:List (A2×Bool))(a7:Nat):Option ((Nat×(List (A2×Bool))×Nat)⊕(Nat×(List (A2×Bool)))):=cond (decide ((a7:Int)<(b2.length:Int))) ((idxn b2 a7 λb3=>cond (decide (b3=(-1:Int))) (some (a6,a2)) ((idxn b7.1 a8 λb4=>chk ((∀p∈a2,List.length p.1=2)) (cond (((mget [b4,(a7:Int)] a2).getD false)) (chk (inR ((a6:Int)+1)) (some (a6+1))) (some a6)):Option Nat).bind (λb5=>idxn b7.1 a8 λb6=>chk ((∀p∈a2,List.length p.1=2)) (some (b5,(mset [b6,(a7:Int)] true a2))))):Option (Nat×(List (A2×Bool)))).bind (λs=>R0.k53 a7 s.1 s.2)) (some (.inr (a6,a2)))
def R0.k55(a2 a6:Nat)(a7:List (A2×Bool)):Option ((Nat×(List (A2×Bool))×Nat)⊕Nat):=some (.inl (a6,a7,(a2+1)))
def R0.s56(p_:A8)(b2:A2×Bool)(a6:Nat)(a7:List (A2×Bool))(a2:Nat):Option ((Nat×(List (A2×Bool))×Nat)⊕Nat):=cond (decide ((a2:Int)<(p_.N.length:Int))) (idxn p_.N a2 λa8=>(iter (λ(s:Nat×(List (A2×Bool))×Nat)=>R0.s54 b2 a2 a8 s.1 s.2.1 s.2.2) fuel (a6,a7,0)).bind (λs=>R0.k55 a2 s.1 s.2)) (some (.inr a6))
def R0(p_:A8)(s_ t_:Int):Option (Int×Bool):=(M1 p_ s_ t_).bind λa6=>cond ((!a6.2)) (some (0,false)) ((iter (λ(s:Nat×(List (A2×Bool))×Nat)=>R0.s56 p_ a6 s.1 s.2.1 s.2.2) fuel (0,([]:List (A2×Bool)),0)).bind (λa2=>some ((a2:Int),true)))
def pD(p_:A8)(s_ t_:Int):Option (Int×Bool×Int):=(bE p_).bind λa2=>cond (decide (a2≠0)) (some (0,false,a2)) ((cond (decide ((min s_ t_)<0)) (some true) (some (decide ((p_.N.length:Int)<=(max s_ t_))))).bind (λa7=>cond (a7) (some (0,false,2)) ((R0 p_ s_ t_).bind λa6=>some (a6.1,a6.2,0))))
def U5.s13(red_:List Bool)(b2:Bool)(a8:A2)(a2:List Bool)(a6:Nat):Option ((List Bool×Nat)⊕List Bool):=cond (decide ((a6:Int)<(a8.length:Int))) (idxn a8 a6 λa7=>(cond (b2) (cond (decide (a7≠(-1:Int))) (idx red_ a7 λb3=>some (!b3)) (some false)) (some false)).bind (λb4=>cond (b4) (idx a2 a7 λb5=>some (.inl ((List.set a2 a7.toNat true),(a6+1)))) (some (.inl (a2,(a6+1)))))) (some (.inr a2))
def U5.s14(p_:A8)(red_ a6:List Bool)(a2:Nat):Option ((List Bool×Nat)⊕List Bool):=cond (decide ((a2:Int)<(red_.length:Int))) (idxn red_ a2 λa7=>idxn p_.N a2 λa8=>(iter (λ(s:List Bool×Nat)=>U5.s13 red_ a7 a8 s.1 s.2) fuel (a6,0)).bind (λb2=>some (.inl (b2,(a2+1))))) (some (.inr a6))
def U5.s16(a7:List Bool)(a6:A2)(a2:Nat):Option ((A2×Nat)⊕A2):=cond (decide ((a2:Int)<(a7.length:Int))) (idxn a7 a2 λa8=>cond (a8) (chk (B5 (List.length a6+1) 8) (some (.inl ((a6++[(a2:Int)]),(a2+1))))) (some (.inl (a6,(a2+1))))) (some (.inr a6))
def U5(p_:A8)(red_:List Bool):Option A2:=chk ((0:Int)<=(red_.length:Int)/\(red_.length:Int)<=(red_.length:Int)/\B5 (Int.toNat (red_.length:Int)) 1) ((iter (λ(s:List Bool×Nat)=>U5.s14 p_ red_ s.1 s.2) fuel ((List.replicate red_.length false),0)).bind (λa2=>(iter (λ(s:A2×Nat)=>U5.s16 a2 s.1 s.2) fuel ([],0)).bind (λa6=>some a6)))
def aK.k9(a2:Nat)(a6 a7:Int)(a8:Nat):Option ((Int×Int×Nat×Nat)⊕(Int×Int×Nat)):=some (.inl (a6,a7,a8,(a2+1)))
def aK.s10(p_:A8)(red_:List Bool)(blue_ a2 a7:Int)(a8 a6:Nat):Option ((Int×Int×Nat×Nat)⊕(Int×Int×Nat)):=cond (decide ((a6:Int)<(red_.length:Int))) ((idxn red_ a6 λb3=>cond ((!b3)) (some (a2,a7,a8)) ((R0 p_ (a6:Int) blue_).bind λb2=>(cond (b2.2) (cond ((decide (a2=0)&&(decide (a7=0)&&(decide ((a8:Int)=0)&&true)))) (some true) (some (decide (a2<b2.1)))) (some false)).bind (λb4=>cond (b4) (some (b2.1,blue_,a6)) (some (a2,a7,a8)))):Option (Int×Int×Nat)).bind (λs=>aK.k9 a6 s.1 s.2.1 s.2.2)) (some (.inr (a2,a7,a8)))
def aK.k11(a2 a6:Int)(a7:Nat):Option X8:=some (⟨a2,a6,(a7:Int)⟩:X8)
def aK(p_:A8)(red_:List Bool)(blue_:Int):Option X8:=(iter (λ(s:Int×Int×Nat×Nat)=>aK.s10 p_ red_ blue_ s.1 s.2.1 s.2.2.1 s.2.2.2) fuel (0,0,0,0)).bind (λs=>aK.k11 s.1 s.2.1 s.2.2)
def aQ.s2(p_:A8)(red_:List Bool)(l_:A2)(a6 a8 b2:Int)(a7:Nat):Option ((Int×Int×Int×Nat)⊕((Int×Int×Int)⊕(X8×Int))):=cond (decide ((a7:Int)<(l_.length:Int))) (idxn l_ a7 λb3=>(aK p_ red_ b3).bind λa2=>cond ((decide (a2.score=0)&&(decide (a2.blue=0)&&(decide (a2.red=0)&&true)))) (some (.inr (.inr (a2,b3)))) ((cond ((decide (a6=0)&&(decide (a8=0)&&(decide (b2=0)&&true)))) (some true) (some (decide (a6<a2.score)))).bind (λb4=>cond (b4) (some (.inl (a2.score,a2.blue,a2.red,(a7+1)))) (some (.inl (a6,a8,b2,(a7+1))))))) (some (.inr (.inl (a6,a8,b2))))
def aQ.k3(a2 a6 a7:Int):Option (X8×Int):=some ((⟨a2,a6,a7⟩:X8),(-1:Int))
def aQ(p_:A8)(red_:List Bool)(l_:A2):Option (X8×Int):=(iter (λ(s:Int×Int×Int×Nat)=>aQ.s2 p_ red_ l_ s.1 s.2.1 s.2.2.1 s.2.2.2) fuel (0,0,0,0)).bind (Sum.elim (λs=>aQ.k3 s.1 s.2.1 s.2.2) some)
def R7.s2(p_:A8)(a6:A2)(a2:Nat):Option ((A2×Nat)⊕A2):=cond (decide ((a2:Int)<(↑(List.length (List.replicate p_.N.length (0:Int))):Int))) (idxn a6 a2 λa7=>chk (inR ((a2:Int)+1)) (some (.inl ((List.set a6 a2 (-1:Int)),(a2+1))))) (some (.inr a6))
def R7.s20(q_:A8)(b8:Int)(b2 a2 a8:A2)(a6:Nat):Option ((A2×A2×Nat)⊕(A2×A2)):=cond (decide ((a6:Int)<(b2.length:Int))) (idxn b2 a6 λa7=>(cond (decide (a7≠(-1:Int))) (idx a2 a7 λb3=>some (decide (b3=(-1:Int)))) (some false)).bind (λb4=>cond (b4) (idx a2 b8 λb5=>idx q_.N b5 λb6=>idxn b6 a6 λb7=>idx a2 a7 λb9=>chk (B5 (List.length a8+1) 8) (some (.inl ((List.set a2 a7.toNat b7),(a8++[a7]),(a6+1))))) (some (.inl (a2,a8,(a6+1)))))) (some (.inr (a2,a8)))
def R7.k21(a7:List Bool)(a6 a2:A2):Option ((A2×List Bool×A2)⊕List Bool):=chk (1<=List.length a2) (some (.inl (a6,a7,(List.drop 1 a2))))
def R7.s22(p_ q_:A8)(red_:List Bool)(a8:A2)(a2:List Bool)(a7:A2):Option ((A2×List Bool×A2)⊕List Bool):=cond (decide (0<(a7.length:Int))) (idxn a7 0 λa6=>(idx red_ a6 λb3=>cond (b3) (idx a8 a6 λb2=>idx a2 b2 λb6=>some (List.set a2 b2.toNat true)) (some a2):Option (List Bool)).bind (λb4=>idx p_.N a6 λb5=>(iter (λ(s:A2×A2×Nat)=>R7.s20 q_ a6 b5 s.1 s.2.1 s.2.2) fuel (a8,a7,0)).bind (λs=>R7.k21 b4 s.1 s.2))) (some (.inr a2))
def R7(p_ q_:A8)(red_:List Bool):Option (List Bool):=chk ((0:Int)<=(p_.N.length:Int)/\(p_.N.length:Int)<=(p_.N.length:Int)/\B5 (Int.toNat (p_.N.length:Int)) 8) ((iter (λ(s:A2×Nat)=>R7.s2 p_ s.1 s.2) fuel ((List.replicate p_.N.length (0:Int)),0)).bind (λa6=>idx a6 p_.S λa7=>chk ((0:Int)<=(q_.N.length:Int)/\(q_.N.length:Int)<=(q_.N.length:Int)/\B5 (Int.toNat (q_.N.length:Int)) 1) ((iter (λ(s:A2×List Bool×A2)=>R7.s22 p_ q_ red_ s.1 s.2.1 s.2.2) fuel ((List.set a6 p_.S.toNat q_.S),(List.replicate q_.N.length false),[p_.S])).bind (λa2=>some a2))))
def gT.s2(s_:A2)(f_:Int->Option Bool)(a2:Nat):Option (Nat⊕(Unit⊕Int)):=cond (decide ((a2:Int)<(s_.length:Int))) (idxn s_ a2 λa6=>(f_ a6).bind λa7=>cond (a7) (some (.inr (.inr (a2:Int)))) (some (.inl (a2+1)))) (some (.inr (.inl ())))
def gT(s_:A2)(f_:Int->Option Bool):Option Int:=(iter (λ(s:Nat)=>gT.s2 s_ f_ s) fuel 0).bind (Sum.elim (λ_=>some (-1:Int)) some)
def pT(s_:A2)(f_:Int->Option Bool):Option Bool:=(gT s_ f_).bind λa2=>some (decide (0<=a2))
def pC(inputs_:Int):Option Bool:=(cond (decide (1<=inputs_)) (some (decide (inputs_<=1024))) (some false)).bind (λa2=>some a2)
def mL(a_ p1_:Int):Option Bool:=(cond (decide (a_<0)) (some true) (some (decide (p1_<=a_)))).bind (λa2=>some a2)
def gU.s2(s_:A2)(f_:Int->Option Bool)(a2:Nat):Option (Nat⊕(Unit⊕Int)):=cond (decide ((a2:Int)<(s_.length:Int))) (idxn s_ a2 λa6=>(f_ a6).bind λa7=>cond (a7) (some (.inr (.inr (a2:Int)))) (some (.inl (a2+1)))) (some (.inr (.inl ())))
def gU(s_:A2)(f_:Int->Option Bool):Option Int:=(iter (λ(s:Nat)=>gU.s2 s_ f_ s) fuel 0).bind (Sum.elim (λ_=>some (-1:Int)) some)
def sU(s_:A2)(f_:Int->Option Bool):Option Bool:=(gU s_ f_).bind λa2=>some (decide (0<=a2))
def mG(w_:A2)(inputs_:Int):Option Int:=(pC inputs_).bind λa2=>cond ((!a2)) (some 2) (cond (decide (1024<(w_.length:Int))) (some 3) ((sU w_ (λu0=>mL u0 inputs_)).bind λa6=>cond (a6) (some 1) (some 0)))
def eN.s2(a_ b_:A2)(a2:Nat):Option (Nat⊕(Unit⊕Int)):=cond (decide ((a2:Int)<(min (a_.length:Int) (b_.length:Int)))) (idxn a_ a2 λa6=>idxn b_ a2 λa7=>cond (decide (a6≠a7)) (some (.inr (.inr (a2:Int)))) (some (.inl (a2+1)))) (some (.inr (.inl ())))
def eN(a_ b_:A2):Option Int:=(iter (λ(s:Nat)=>eN.s2 a_ b_ s) fuel 0).bind (Sum.elim (λ_=>some (min (a_.length:Int) (b_.length:Int))) some)
def mN(w_ p_:A2):Option Bool:=(eN w_ p_).bind λa2=>some (decide (a2=(p_.length:Int)))
def mS(a_ b_:I0):Option Int:=(eN a_.In b_.In).bind λa2=>chk ((0:Int)<=(min (min a2 (a_.O.length:Int)) (b_.O.length:Int))/\(min (min a2 (a_.O.length:Int)) (b_.O.length:Int))<=(a_.O.length:Int)) (chk ((0:Int)<=(min (min a2 (a_.O.length:Int)) (b_.O.length:Int))/\(min (min a2 (a_.O.length:Int)) (b_.O.length:Int))<=(b_.O.length:Int)) ((eN (List.take (Int.toNat (min (min a2 (a_.O.length:Int)) (b_.O.length:Int))) a_.O) (List.take (Int.toNat (min (min a2 (a_.O.length:Int)) (b_.O.length:Int))) b_.O)).bind λa6=>cond (decide (a6<(min (min a2 (a_.O.length:Int)) (b_.O.length:Int)))) (some a6) (some (-1:Int))))
def cmp_isNaN_int(x_:Int):Option Bool:=some (decide (x_≠x_))
def cmp_Compare_int(x_ y_:Int):Option Int:=(cmp_isNaN_int x_).bind λa6=>(cmp_isNaN_int y_).bind λa2=>cond (a6) (cond (a2) (some 0) (some (-1:Int))) (cond (a2) (some 1) (cond (decide (x_<y_)) (some (-1:Int)) (cond (decide (y_<x_)) (some 1) (some 0))))
def fN.s2(s1_ s2_:A2)(a2:Nat):Option (Nat⊕(Unit⊕Int)):=cond (decide ((a2:Int)<(s1_.length:Int))) (idxn s1_ a2 λa7=>cond (decide ((s2_.length:Int)<=(a2:Int))) (some (.inr (.inr 1))) (idxn s2_ a2 λa8=>(cmp_Compare_int a7 a8).bind λa6=>cond (decide (a6≠0)) (some (.inr (.inr a6))) (some (.inl (a2+1))))) (some (.inr (.inl ())))
def fN(s1_ s2_:A2):Option Int:=(iter (λ(s:Nat)=>fN.s2 s1_ s2_ s) fuel 0).bind (Sum.elim (λ_=>cond (decide ((s1_.length:Int)<(s2_.length:Int))) (some (-1:Int)) (some 0)) some)
def word_Lex(a_ b_:A2):Option Int:=(fN a_ b_).bind λa2=>some a2
def gQ(a_ b_:I0):Option Int:=(word_Lex a_.In b_.In).bind λa2=>some a2
def gP.s2(a6:List I0)(a2:Nat):Option (Nat⊕(Unit⊕Bool)):=cond (decide ((a2:Int)<(a6.length:Int))) ((idxn a6 a2 λa7=>idx a6 ((a2:Int)-1) λa8=>(mN a7.In a8.In).bind λb2=>cond (b2) (some true) (idx a6 ((a2:Int)-1) λb3=>idxn a6 a2 λb4=>(mS b3 b4).bind λb5=>some (decide (0<=b5)))).bind (λb6=>cond (b6) (some (.inr (.inr false))) (some (.inl (a2+1))))) (some (.inr (.inl ())))
def gP(l_:List I0):Option Bool:=(wO l_).bind λa2=>(wR a2 (λu0 u1=>gQ u0 u1)).bind λa6=>(iter (λ(s:Nat)=>gP.s2 a6 s) fuel 1).bind (Sum.elim (λ_=>some true) some)
def pP(o_:Int):Option Bool:=(cond (decide (o_<0)) (some true) (some (decide (1048576<o_)))).bind (λa2=>some a2)
def pA(t_:I0)(inputs_:Int):Option Int:=(mG t_.In inputs_).bind λa2=>cond (decide (a2≠0)) (some a2) (cond (decide ((t_.O.length:Int)≠(t_.In.length:Int))) (some 1) ((pT t_.O (λu0=>pP u0)).bind λa6=>cond (a6) (some 2) (some 0)))
def eF.s2(vals_:A2)(a2:Nat):Option (Nat⊕(Unit⊕Int)):=cond (decide ((a2:Int)<(vals_.length:Int))) (idxn vals_ a2 λa6=>cond (decide (a6≠0)) (some (.inr (.inr a6))) (some (.inl (a2+1)))) (some (.inr (.inl ())))
def eF(vals_:A2):Option Int:=(iter (λ(s:Nat)=>eF.s2 vals_ s) fuel 0).bind (Sum.elim (λ_=>some 0) some)
def iI(a_ b_:A2):Option Int:=(cmp_Compare_int (a_.length:Int) (b_.length:Int)).bind λa2=>(fN a_ b_).bind λa6=>(eF [a2,a6]).bind λa7=>some a7
def sP(a_ b_:I0):Option Int:=(iI a_.In b_.In).bind λa2=>some a2
def pG(u_ p1_:I0):Option Bool:=(mN u_.In p1_.In).bind λa2=>some a2
def pI(u_ p1_:I0):Option Bool:=(mS p1_ u_).bind λa2=>some (decide (0<=a2))
def fO.s2(s_:List I0)(f_:I0->Option Bool)(a2:Nat):Option (Nat⊕(Unit⊕Int)):=cond (decide ((a2:Int)<(s_.length:Int))) (idxn s_ a2 λa6=>(f_ a6).bind λa7=>cond (a7) (some (.inr (.inr (a2:Int)))) (some (.inl (a2+1)))) (some (.inr (.inl ())))
def fO(s_:List I0)(f_:I0->Option Bool):Option Int:=(iter (λ(s:Nat)=>fO.s2 s_ f_ s) fuel 0).bind (Sum.elim (λ_=>some (-1:Int)) some)
def mT(s_:List I0)(f_:I0->Option Bool):Option Bool:=(fO s_ f_).bind λa2=>some (decide (0<=a2))
def bG.s2(o_:I4)(a2:Nat):Option (Nat⊕(Unit⊕Int)):=cond (decide ((a2:Int)<(o_.T.length:Int))) (idxn o_.T a2 λa6=>(mG a6.In o_.I).bind λa7=>cond (decide (a7≠0)) (some (.inr (.inr a7))) (cond (decide ((a6.In.length:Int)=0)) (some (.inr (.inr 19))) ((pA a6 o_.I).bind λa8=>cond (decide (a8≠0)) (some (.inr (.inr a8))) ((cond (decide (0<(a2:Int))) (idx o_.T ((a2:Int)-1) λb2=>(sP b2 a6).bind λb3=>some (decide (0<=b3))) (some false)).bind (λb4=>cond (b4) (some (.inr (.inr 10))) (some (.inl (a2+1)))))))) (some (.inr (.inl ())))
def bG.s4(o_:I4)(a2:Nat):Option (Nat⊕(Unit⊕Int)):=cond (decide ((a2:Int)<(o_.T.length:Int))) (idxn o_.T a2 λa6=>chk ((0:Int)<=((a2:Int)+1)/\((a2:Int)+1)<=(o_.T.length:Int)) ((mT (List.drop (a2+1) o_.T) (λu0=>pG u0 a6)).bind λa7=>cond (a7) (some (.inr (.inr 7))) ((mT (List.drop (a2+1) o_.T) (λu0=>pI u0 a6)).bind λa8=>cond (a8) (some (.inr (.inr 13))) (some (.inl (a2+1)))))) (some (.inr (.inl ())))
def bG(o_:I4):Option Int:=(cond (decide (o_.I<1)) (some true) (some (decide (64<o_.I)))).bind (λa6=>cond (a6) (some 2) (cond (decide (10000<(o_.T.length:Int))) (some 11) ((iter (λ(s:Nat)=>bG.s2 o_ s) fuel 0).bind (Sum.elim (λ_=>(gP o_.T).bind λa2=>cond (a2) (some 0) ((iter (λ(s:Nat)=>bG.s4 o_ s) fuel 0).bind (Sum.elim (λ_=>some 0) some))) some))))
def Z9.s2(inputs_:Int)(a6:A2)(a2:Nat):Option ((A2×Nat)⊕A2):=cond (decide ((a2:Int)<(↑(List.length (List.replicate (Int.toNat inputs_) (0:Int))):Int))) (idxn a6 a2 λa7=>chk (inR ((a2:Int)+1)) (some (.inl ((List.set a6 a2 (-1:Int)),(a2+1))))) (some (.inr a6))
def Z9(inputs_:Int):Option A2:=chk ((0:Int)<=inputs_/\inputs_<=inputs_/\B5 (Int.toNat inputs_) 8) ((iter (λ(s:A2×Nat)=>Z9.s2 inputs_ s.1 s.2) fuel ((List.replicate (Int.toNat inputs_) (0:Int)),0)).bind (λa2=>some a2))
def M4.s18(b2 a2 a6:A2)(a8:Nat):Option ((A2×A2×Nat)⊕(A2×A2)):=cond (decide ((a8:Int)<(b2.length:Int))) (idxn b2 a8 λa7=>(cond (decide (a7≠(-1:Int))) (idx a2 a7 λb3=>some (decide (b3=(-1:Int)))) (some false)).bind (λb4=>cond (b4) (idx a2 a7 λb5=>chk (B5 (List.length a6+1) 8) (some (.inl ((List.set a2 a7.toNat (a6.length:Int)),(a6++[a7]),(a8+1))))) (some (.inl (a2,a6,(a8+1)))))) (some (.inr (a2,a6)))
def M4.k19(a2:Nat)(a6 a7:A2):Option ((A2×A2×Nat)⊕(A2×A2)):=some (.inl (a6,a7,(a2+1)))
def M4.s20(p_:A8)(a7 a2:A2)(a6:Nat):Option ((A2×A2×Nat)⊕(A2×A2)):=cond (decide ((a6:Int)<(a2.length:Int))) (idxn a2 a6 λa8=>idx p_.N a8 λb2=>(iter (λ(s:A2×A2×Nat)=>M4.s18 b2 s.1 s.2.1 s.2.2) fuel (a7,a2,0)).bind (λs=>M4.k19 a6 s.1 s.2)) (some (.inr (a7,a2)))
def M4.s38(p_:A8)(b7:A2)(b3:Int)(a8 a6 a7:A2)(a2:Nat):Option ((A2×A2×Nat)⊕(A2×A2)):=cond (decide ((a2:Int)<(a8.length:Int))) (idxn a8 a2 λb2=>cond (decide (b2≠(-1:Int))) (idx b7 b2 λb4=>idx p_.O b3 λb5=>idxn b5 a2 λb6=>idxn a6 a2 λb8=>idxn a7 a2 λb9=>some (.inl ((List.set a6 a2 b4),(List.set a7 a2 b6),(a2+1)))) (some (.inl (a6,a7,(a2+1))))) (some (.inr (a6,a7)))
def M4.k39(a2 a6:A4)(a7:Nat)(a8 b2:A2):Option ((A4×A4×Nat)⊕(A4×A4)):=chk (B5 (List.length a2+1) 24) (chk (B5 (List.length a6+1) 24) (some (.inl ((a2++[a8]),(a6++[b2]),(a7+1)))))
def M4.s40(p_:A8)(b6 b2:A2)(a6 a7:A4)(a2:Nat):Option ((A4×A4×Nat)⊕(A4×A4)):=cond (decide ((a2:Int)<(b2.length:Int))) (idxn b2 a2 λa8=>(Z9 p_.I).bind λb3=>(Z9 p_.I).bind λb4=>idx p_.N a8 λb5=>(iter (λ(s:A2×A2×Nat)=>M4.s38 p_ b6 a8 b5 s.1 s.2.1 s.2.2) fuel (b3,b4,0)).bind (λs=>M4.k39 a6 a7 a2 s.1 s.2)) (some (.inr (a6,a7)))
def M4.k41(p_:A8)(a7:A2)(a2 a6:A4):Option (A8×A2):=some ((⟨p_.I,0,a2,a6⟩:A8),a7)
def M4.k42(p_:A8)(a2 a6:A2):Option (A8×A2):=(iter (λ(s:A4×A4×Nat)=>M4.s40 p_ a2 a6 s.1 s.2.1 s.2.2) fuel ([],[],0)).bind (λs=>M4.k41 p_ a2 s.1 s.2)
def M4(p_:A8):Option (A8×A2):=(Z9 (p_.N.length:Int)).bind λa2=>idx a2 p_.S λa6=>(iter (λ(s:A2×A2×Nat)=>M4.s20 p_ s.1 s.2.1 s.2.2) fuel ((List.set a2 p_.S.toNat 0),[p_.S],0)).bind (λs=>M4.k42 p_ s.1 s.2)
def P6.k53(a6:Int)(a7:Nat)(a8:Int)(a2 b2:A4):Option ((A4×A4×Int×Nat)⊕((A4×A4)⊕((A4×A4×Nat)⊕((A4×A4)⊕(A8×Int))))):=idx a2 a6 λb3=>idx b3 a8 λb4=>some (.inl (a2,b2,b4,(a7+1)))
def P6.s54(o_:I4)(b3:I0)(a2 a8:A4)(a6:Int)(b2:Nat):Option ((A4×A4×Int×Nat)⊕((A4×A4)⊕((A4×A4×Nat)⊕((A4×A4)⊕(A8×Int))))):=cond (decide ((b2:Int)<(b3.In.length:Int))) (idxn b3.In b2 λa7=>(idx a2 a6 λb9=>idx b9 a7 λc0=>cond (decide (c0=(-1:Int))) (cond (decide ((a2.length:Int)=4096)) (some (.inr (.inr (.inr (.inr (.inr ((⟨0,0,[],[]⟩:A8),11))))))) (idx a2 a6 λb4=>idx a8 a6 λb5=>idxn b3.O b2 λb6=>idx b4 a7 λc6=>idx b5 a7 λc7=>(Z9 o_.I).bind λb7=>chk (B5 (List.length (List.set a2 (Int.toNat a6) (List.set b4 (Int.toNat a7) (a2.length:Int)))+List.length [b7]) 24) ((Z9 o_.I).bind λb8=>chk (B5 (List.length (List.set a8 (Int.toNat a6) (List.set b5 (Int.toNat a7) b6))+List.length [b8]) 24) (some (.inl (((List.set a2 (Int.toNat a6) (List.set b4 (Int.toNat a7) (a2.length:Int)))++[b7]),((List.set a8 (Int.toNat a6) (List.set b5 (Int.toNat a7) b6))++[b8]))))))) (some (.inl (a2,a8))):Option ((A4×A4)⊕((A4×A4×Int×Nat)⊕((A4×A4)⊕((A4×A4×Nat)⊕((A4×A4)⊕(A8×Int))))))).bind (Sum.elim (λs=>P6.k53 a6 b2 a7 s.1 s.2) some)) (some (.inr (.inl (a2,a8))))
def P6.k55(a2:Nat)(a6 a7:A4):Option ((A4×A4×Nat)⊕((A4×A4)⊕(A8×Int))):=some (.inl (a6,a7,(a2+1)))
def P6.s56(o_:I4)(a6 a7:A4)(a2:Nat):Option ((A4×A4×Nat)⊕((A4×A4)⊕(A8×Int))):=cond (decide ((a2:Int)<(o_.T.length:Int))) (idxn o_.T a2 λa8=>(iter (λ(s:A4×A4×Int×Nat)=>P6.s54 o_ a8 s.1 s.2.1 s.2.2.1 s.2.2.2) fuel (a6,a7,0,0)).bind (Sum.elim (λs=>P6.k55 a2 s.1 s.2) some)) (some (.inr (.inl (a6,a7))))
def P6.k57(o_:I4)(a6 a7:A4):Option (A8×Int):=(M4 (⟨o_.I,0,a6,a7⟩:A8)).bind λa2=>some (a2.1,0)
def P6(o_:I4):Option (A8×Int):=(bG o_).bind λa2=>cond (decide (a2≠0)) (some ((⟨0,0,[],[]⟩:A8),a2)) ((Z9 o_.I).bind λa6=>(Z9 o_.I).bind λa7=>(iter (λ(s:A4×A4×Nat)=>P6.s56 o_ s.1 s.2.1 s.2.2) fuel ([a6],[a7],0)).bind (Sum.elim (λs=>P6.k57 o_ s.1 s.2) some))
def cQ.s1(b_:bH)(a2:Int):Option (Int⊕(Int×(List (Int×Int)))):=cond ((!((mget a2 b_.up).isSome))) (some (.inr (a2,b_.up))) (some (.inl ((mget a2 b_.up).getD 0)))
def cQ(b_:bH)(x_:Int):Option (Int×(List (Int×Int))):=iter (λ(s:Int)=>cQ.s1 b_ s) fuel x_
def pQ(b_:bH)(x_ y_:Int):Option (List (Int×Int)):=some (mset y_ x_ b_.up)
def I2.s2(p_:A8)(a6 a7:A4)(a2:Nat):Option ((A4×A4×Nat)⊕(A4×A4)):=cond (decide ((a2:Int)<(p_.N.length:Int))) (idxn p_.N a2 λa8=>chk (B5 (List.length ([]:List Unit)+List.length a8) 8) (chk (B5 (List.length a6+List.length [([]++a8)]) 24) (idxn p_.O a2 λb2=>chk (B5 (List.length ([]:List Unit)+List.length b2) 8) (chk (B5 (List.length a7+List.length [([]++b2)]) 24) (some (.inl ((a6++[([]++a8)]),(a7++[([]++b2)]),(a2+1)))))))) (some (.inr (a6,a7)))
def I2.s43(a6 a7:Int×(List (Int×Int)))(b7:A2)(a8 b2:A4)(b3:List T_A2)(a2:Nat):Option ((A4×A4×List T_A2×Nat)⊕((A4×A4×List T_A2)⊕((A4×A4×(List (Int×Int))×List T_A2)⊕((A4×A4×(List (Int×Int))×List T_A2)⊕((A4×A4×(List (Int×Int)))⊕(A8×A2×Bool)))))):=cond (decide ((a2:Int)<(b7.length:Int))) (idxn a8 (Int.toNat (max a6.1 a7.1)) λb8=>idxn b8 a2 λb4=>cond (decide (b4=(-1:Int))) (chk (inR ((a2:Int)+1)) (some (.inl (a8,b2,b3,(a2+1))))) (idx a8 (min a6.1 a7.1) λb9=>idxn b9 a2 λc0=>cond (decide (c0=(-1:Int))) (idx a8 (min a6.1 a7.1) λb5=>idx b2 (min a6.1 a7.1) λb6=>idx b2 (max a6.1 a7.1) λc6=>idxn c6 a2 λc7=>idxn b5 a2 λd4=>idxn b6 a2 λd5=>chk (inR ((a2:Int)+1)) (some (.inl ((List.set a8 (Int.toNat (min a6.1 a7.1)) (List.set b5 a2 b4)),(List.set b2 (Int.toNat (min a6.1 a7.1)) (List.set b6 a2 c7)),b3,(a2+1))))) (idx b2 (min a6.1 a7.1) λc8=>idxn c8 a2 λc9=>idx b2 (max a6.1 a7.1) λd0=>idxn d0 a2 λd1=>cond (decide (c9≠d1)) (some (.inr (.inr (.inr (.inr (.inr ((⟨0,0,[],[]⟩:A8),[],false))))))) (idx a8 (min a6.1 a7.1) λd2=>idxn d2 a2 λd3=>chk (B5 (List.length b3+1) 16) (chk (inR ((a2:Int)+1)) (some (.inl (a8,b2,(b3++[(⟨d3,b4⟩:T_A2)]),(a2+1))))))))) (some (.inr (.inl (a8,b2,b3))))
def I2.k44(a2:List (Int×Int))(a6 a7:A4)(a8:List T_A2):Option ((A4×A4×(List (Int×Int))×List T_A2)⊕((A4×A4×(List (Int×Int))×List T_A2)⊕((A4×A4×(List (Int×Int)))⊕(A8×A2×Bool)))):=some (.inl (a6,a7,a2,a8))
def I2.k45(a2 a6:A4)(a7:List (Int×Int))(a8:List T_A2):Option ((A4×A4×(List (Int×Int))×List T_A2)⊕((A4×A4×(List (Int×Int)))⊕(A8×A2×Bool))):=some (.inl (a2,a6,a7,a8))
def I2.s46(a8 b2:A4)(b3:List (Int×Int))(a6:List T_A2):Option ((A4×A4×(List (Int×Int))×List T_A2)⊕((A4×A4×(List (Int×Int)))⊕(A8×A2×Bool))):=cond (decide (0<(a6.length:Int))) ((idxn a6 0 λb4=>(cQ (⟨b3⟩:bH) b4.f0).bind λa7=>idxn a6 0 λb5=>(cQ (⟨a7.2⟩:bH) b5.f1).bind λa2=>chk (1<=List.length a6) (cond (decide (a7.1=a2.1)) (some (.inl (a8,b2,a2.2,(List.drop 1 a6)))) ((pQ (⟨a2.2⟩:bH) (min a7.1 a2.1) (max a7.1 a2.1)).bind λb6=>idx a8 (max a7.1 a2.1) λb7=>(iter (λ(s:A4×A4×List T_A2×Nat)=>I2.s43 a7 a2 b7 s.1 s.2.1 s.2.2.1 s.2.2.2) fuel (a8,b2,(List.drop 1 a6),0)).bind (Sum.elim (λs=>I2.k44 b6 s.1 s.2.1 s.2.2) some))):Option ((A4×A4×(List (Int×Int))×List T_A2)⊕((A4×A4×(List (Int×Int))×List T_A2)⊕((A4×A4×(List (Int×Int)))⊕(A8×A2×Bool))))).bind (Sum.elim (λs=>I2.k45 s.1 s.2.1 s.2.2.1 s.2.2.2) some)) (some (.inr (.inl (a8,b2,b3))))
def I2.s64(a7:Nat)(b5:A2)(a6:A4)(a8:List (Int×Int))(a2:Nat):Option ((A4×(List (Int×Int))×Nat)⊕(A4×(List (Int×Int)))):=cond (decide ((a2:Int)<(b5.length:Int))) (idxn a6 a7 λb6=>idxn b6 a2 λb2=>cond (decide (b2≠(-1:Int))) (idxn a6 a7 λb3=>(cQ (⟨a8⟩:bH) b2).bind λb4=>idxn b3 a2 λb7=>chk (inR ((a2:Int)+1)) (some (.inl ((List.set a6 a7 (List.set b3 a2 b4.1)),b4.2,(a2+1))))) (chk (inR ((a2:Int)+1)) (some (.inl (a6,a8,(a2+1)))))) (some (.inr (a6,a8)))
def I2.k65(a2:Nat)(a6:A4)(a7:List (Int×Int)):Option ((A4×(List (Int×Int))×Nat)⊕(A4×(List (Int×Int)))):=some (.inl (a6,a7,(a2+1)))
def I2.s66(a8 a6:A4)(a7:List (Int×Int))(a2:Nat):Option ((A4×(List (Int×Int))×Nat)⊕(A4×(List (Int×Int)))):=cond (decide ((a2:Int)<(a8.length:Int))) (idxn a6 a2 λb2=>(iter (λ(s:A4×(List (Int×Int))×Nat)=>I2.s64 a2 b2 s.1 s.2.1 s.2.2) fuel (a6,a7,0)).bind (λs=>I2.k65 a2 s.1 s.2)) (some (.inr (a6,a7)))
def I2.s68(a7:A8×A2)(b2:List (Int×Int))(a6:A2)(a2:Nat):Option (((List (Int×Int))×A2×Nat)⊕A2):=cond (decide ((a2:Int)<(↑(List.length (List.replicate a7.2.length (0:Int))):Int))) ((cQ (⟨b2⟩:bH) (a2:Int)).bind λa8=>idx a7.2 a8.1 λb3=>idxn a6 a2 λb4=>chk (inR ((a2:Int)+1)) (some (.inl (a8.2,(List.set a6 a2 b3),(a2+1))))) (some (.inr a6))
def I2.k69(p_:A8)(a7 a8:A4)(b2:List (Int×Int)):Option (A8×A2×Bool):=(cQ (⟨b2⟩:bH) p_.S).bind λa6=>(M4 (⟨p_.I,a6.1,a8,a7⟩:A8)).bind λa2=>chk ((0:Int)<=(a2.2.length:Int)/\(a2.2.length:Int)<=(a2.2.length:Int)/\B5 (Int.toNat (a2.2.length:Int)) 8) ((iter (λ(s:(List (Int×Int))×A2×Nat)=>I2.s68 a2 s.1 s.2.1 s.2.2) fuel (a6.2,(List.replicate a2.2.length (0:Int)),0)).bind (λb3=>some (a2.1,b3,true)))
def I2.k70(p_:A8)(a2 a6:A4)(a7:List (Int×Int)):Option (A8×A2×Bool):=(iter (λ(s:A4×(List (Int×Int))×Nat)=>I2.s66 a2 s.1 s.2.1 s.2.2) fuel (a2,a7,0)).bind (λs=>I2.k69 p_ a6 s.1 s.2)
def I2.k71(p_:A8)(s_ t_:Int)(a2 a6:A4):Option (A8×A2×Bool):=(iter (λ(s:A4×A4×(List (Int×Int))×List T_A2)=>I2.s46 s.1 s.2.1 s.2.2.1 s.2.2.2) fuel (a2,a6,([]:List (Int×Int)),[(⟨s_,t_⟩:T_A2)])).bind (Sum.elim (λs=>I2.k70 p_ s.1 s.2.1 s.2.2) some)
def I2(p_:A8)(s_ t_:Int):Option (A8×A2×Bool):=(iter (λ(s:A4×A4×Nat)=>I2.s2 p_ s.1 s.2.1 s.2.2) fuel ([],[],0)).bind (λs=>I2.k71 p_ s_ t_ s.1 s.2)
def mE(p_:A8)(s_ t_:Int):Option (A8×Bool×Int):=(bE p_).bind λa2=>cond (decide (a2≠0)) (some ((⟨0,0,[],[]⟩:A8),false,a2)) ((cond (decide ((min s_ t_)<0)) (some true) (some (decide ((p_.N.length:Int)<=(max s_ t_))))).bind (λa7=>cond (a7) (some ((⟨0,0,[],[]⟩:A8),false,2)) ((I2 p_ s_ t_).bind λa6=>some (a6.1,a6.2.2,0))))
def U6.k3(a2 a6:Int)(a7 a8:A4)(b2:List Bool):Option ((Int×Int×A4×A4×List Bool)⊕(A8×Int)):=some (.inl (a2,a6,a7,a8,b2))
def U6.s4(a7 a8:Int)(b2 b3:A4)(b4:List Bool):Option ((Int×Int×A4×A4×List Bool)⊕(A8×Int)):=((U5 (⟨a7,a8,b2,b3⟩:A8) b4).bind λb5=>cond (decide ((b5.length:Int)=0)) (some (.inr (.inr ((⟨a7,a8,b2,b3⟩:A8),0)))) ((aQ (⟨a7,a8,b2,b3⟩:A8) b4 b5).bind λa2=>cond (decide (a2.2≠(-1:Int))) (idx b4 a2.2 λb7=>some (.inl (a7,a8,b2,b3,(List.set b4 a2.2.toNat true)))) ((mE (⟨a7,a8,b2,b3⟩:A8) a2.1.red a2.1.blue).bind λa6=>(R7 (⟨a7,a8,b2,b3⟩:A8) a6.1 b4).bind λb6=>some (.inl (a6.1.I,a6.1.S,a6.1.N,a6.1.O,b6)))):Option ((Int×Int×A4×A4×List Bool)⊕((Int×Int×A4×A4×List Bool)⊕(A8×Int)))).bind (Sum.elim (λs=>U6.k3 s.1 s.2.1 s.2.2.1 s.2.2.2.1 s.2.2.2.2) some)
def U6(o_:I4):Option (A8×Int):=(P6 o_).bind λa2=>cond (decide (a2.2≠0)) (some ((⟨0,0,[],[]⟩:A8),a2.2)) (chk ((0:Int)<=(a2.1.N.length:Int)/\(a2.1.N.length:Int)<=(a2.1.N.length:Int)/\B5 (Int.toNat (a2.1.N.length:Int)) 1) (idx (List.replicate a2.1.N.length false) a2.1.S λa6=>iter (λ(s:Int×Int×A4×A4×List Bool)=>U6.s4 s.1 s.2.1 s.2.2.1 s.2.2.2.1 s.2.2.2.2) fuel (a2.1.I,a2.1.S,a2.1.N,a2.1.O,(List.set (List.replicate a2.1.N.length false) a2.1.S.toNat true))))
def cD.s2(slices_:List (A4))(size73 a2:Nat):Option ((Nat×Nat)⊕Nat):=cond (decide ((a2:Int)<(slices_.length:Int))) (idxn slices_ a2 λa6=>chk (inR ((size73:Int)+(a6.length:Int))) (cond (decide (((size73:Int)+(a6.length:Int))<0)) (none) (some (.inl ((size73+a6.length),(a2+1)))))) (some (.inr size73))
def cD.s4(slices_:List (A4))(a2:A4)(a6:Nat):Option ((A4×Nat)⊕A4):=cond (decide ((a6:Int)<(slices_.length:Int))) (idxn slices_ a6 λa7=>chk (B5 (List.length a2+List.length a7) 24) (some (.inl ((a2++a7),(a6+1))))) (some (.inr a2))
def cD(slices_:List (A4)):Option A4:=(iter (λ(s:Nat×Nat)=>cD.s2 slices_ s.1 s.2) fuel (0,0)).bind (λsize68=>(wC (size68:Int)).bind λa6=>(iter (λ(s:A4×Nat)=>cD.s4 slices_ s.1 s.2) fuel (a6,0)).bind (λa2=>some a2))
def pK(a_ b_:A2)(p2_:(A2)->(A2)->Option Int):Option Bool:=(p2_ a_ b_).bind λa2=>some (decide (a2=0))
def Y8.s18(eq_:(A2)->(A2)->Option Bool)(a8:Nat)(a2:A4)(a7 a6:Nat):Option ((A4×Nat×Nat)⊕(A4×Nat)):=cond (decide ((a6:Int)<(↑(List.length a2-a8):Int))) (idxn a2 (a8+a6) λb2=>chk ((0:Int)<=((a6:Int)-1)) (idxn a2 (a8+(Int.toNat ((a6:Int)-1))) λb3=>(eq_ b2 b3).bind λb4=>cond ((!b4)) (idxn a2 (a8+a6) λb5=>idxn a2 a7 λb6=>chk (inR ((a7:Int)+1)) (some (.inl ((List.set a2 a7 b5),(a7+1),(a6+1))))) (some (.inl (a2,a7,(a6+1)))))) (some (.inr (a2,a7)))
def Y8.k19(a6:A4)(a2:Nat):Option (Nat⊕(Unit⊕A4)):=chk ((0:Int)<=(a2:Int)/\(a2:Int)<=(a6.length:Int)/\0<List.length a6) (chk (a2<=List.length a6) (chk ((0:Int)<=(a2:Int)/\(a2:Int)<=(↑(List.length (List.take a2 a6++List.replicate (List.length a6-a2) [])):Int)/\0<List.length (List.take a2 a6++List.replicate (List.length a6-a2) [])) (some (.inr (.inr (List.take a2 (List.take a2 a6++List.replicate (List.length a6-a2) [])))))))
def Y8.s20(s_:A4)(eq_:(A2)->(A2)->Option Bool)(a2:Nat):Option (Nat⊕(Unit⊕A4)):=cond (decide ((a2:Int)<(s_.length:Int))) (idxn s_ a2 λa6=>idx s_ ((a2:Int)-1) λa7=>(eq_ a6 a7).bind λa8=>cond (a8) (chk ((0:Int)<=(a2:Int)/\(a2:Int)<=(s_.length:Int)/\0<List.length s_) ((iter (λ(s:A4×Nat×Nat)=>Y8.s18 eq_ a2 s.1 s.2.1 s.2.2) fuel (s_,a2,1)).bind (λs=>Y8.k19 s.1 s.2))) (some (.inl (a2+1)))) (some (.inr (.inl ())))
def Y8(s_:A4)(eq_:(A2)->(A2)->Option Bool):Option A4:=cond (decide ((s_.length:Int)<2)) (some s_) ((iter (λ(s:Nat)=>Y8.s20 s_ eq_ s) fuel 1).bind (Sum.elim (λ_=>some s_) some))
def gR.s2(a7 a6:A4)(a2:Nat):Option ((A4×Nat)⊕A4):=cond (decide ((a2:Int)<(a7.length:Int))) (idxn a6 a2 λa8=>(mQ a8).bind λb2=>idxn a6 a2 λb3=>chk (inR ((a2:Int)+1)) (some (.inl ((List.set a6 a2 b2),(a2+1))))) (some (.inr a6))
def gR(l_:A4)(order_:(A2)->(A2)->Option Int):Option A4:=(sQ l_).bind λa6=>(wT a6 order_).bind λa7=>(Y8 a7 (λu0 u1=>pK u0 u1 order_)).bind λa2=>(iter (λ(s:A4×Nat)=>gR.s2 a2 s.1 s.2) fuel (a2,0)).bind (λa8=>some a8)
def jF(l_:A4):Option A4:=(gR l_ (λu0 u1=>iI u0 u1)).bind λa2=>some a2
def pF(lists_:List (A4)):Option A4:=(cD lists_).bind λa2=>(jF a2).bind λa6=>some a6
def U7.s18(p_:A8)(out_:Int)(b3:Nat)(b4 a6 a7:A2)(a2:Nat):Option ((A2×A2×Nat)⊕(A2×A2)):=cond (decide ((a2:Int)<(b4.length:Int))) (idxn b4 a2 λa8=>idxn p_.O b3 λb5=>idxn b5 a2 λb2=>idxn a6 a2 λb6=>idxn a7 a2 λb7=>cond (decide (a8=(-1:Int))) (idxn (List.set a6 a2 a8) a2 λb8=>idxn (List.set a7 a2 b2) a2 λb9=>some (.inl ((List.set (List.set a6 a2 a8) a2 (b3:Int)),(List.set (List.set a7 a2 b2) a2 out_),(a2+1)))) (some (.inl ((List.set a6 a2 a8),(List.set a7 a2 b2),(a2+1))))) (some (.inr (a6,a7)))
def U7.k19(a2 a6:A4)(a7:Nat)(a8 b2:A2):Option ((A4×A4×Nat)⊕(A4×A4)):=chk (B5 (List.length a2+1) 24) (chk (B5 (List.length a6+1) 24) (some (.inl ((a2++[a8]),(a6++[b2]),(a7+1)))))
def U7.s20(p_:A8)(out_:Int)(a6 a7:A4)(a2:Nat):Option ((A4×A4×Nat)⊕(A4×A4)):=cond (decide ((a2:Int)<(p_.N.length:Int))) (chk ((0:Int)<=p_.I/\p_.I<=p_.I/\B5 (Int.toNat p_.I) 8) (chk ((0:Int)<=p_.I/\p_.I<=p_.I/\B5 (Int.toNat p_.I) 8) (idxn p_.N a2 λa8=>(iter (λ(s:A2×A2×Nat)=>U7.s18 p_ out_ a2 a8 s.1 s.2.1 s.2.2) fuel ((List.replicate (Int.toNat p_.I) (0:Int)),(List.replicate (Int.toNat p_.I) (0:Int)),0)).bind (λs=>U7.k19 a6 a7 a2 s.1 s.2)))) (some (.inr (a6,a7)))
def U7.k21(p_:A8)(a2 a6:A4):Option (B6×Int):=some ((⟨p_.I,p_.S,a2,a6⟩:B6),0)
def U7(p_:A8)(out_:Int):Option (B6×Int):=(bE p_).bind λa2=>cond (decide (a2≠0)) (some ((⟨0,0,[],[]⟩:B6),a2)) ((cond (decide (out_<0)) (some true) (some (decide (1048576<out_)))).bind (λa6=>cond (a6) (some ((⟨0,0,[],[]⟩:B6),2)) (cond (decide (128<(p_.N.length:Int))) (some ((⟨0,0,[],[]⟩:B6),11)) ((iter (λ(s:A4×A4×Nat)=>U7.s20 p_ out_ s.1 s.2.1 s.2.2) fuel ([],[],0)).bind (λs=>U7.k21 p_ s.1 s.2)))))
def T7.s13(m_:B6)(a6 a2:Nat):Option (Nat⊕(Unit⊕(Nat⊕(Unit⊕Int)))):=cond (decide ((a2:Int)<m_.I)) (idxn m_.N a6 λb2=>idxn b2 a2 λa7=>idxn m_.O a6 λb3=>idxn b3 a2 λa8=>(cond (decide (a7<0)) (some true) (cond (decide ((m_.N.length:Int)<=a7)) (some true) (cond (decide (a8<0)) (some true) (some (decide (1048576<a8)))))).bind (λb4=>cond (b4) (some (.inr (.inr (.inr (.inr 2))))) (chk (inR ((a2:Int)+1)) (some (.inl (a2+1)))))) (some (.inr (.inl ())))
def T7.s14(m_:B6)(a2:Nat):Option (Nat⊕(Unit⊕Int)):=cond (decide ((a2:Int)<(m_.N.length:Int))) ((idxn m_.N a2 λa6=>cond (decide ((a6.length:Int)≠m_.I)) (some true) (idxn m_.O a2 λa7=>some (decide ((a7.length:Int)≠m_.I)))).bind (λa8=>cond (a8) (some (.inr (.inr 1))) ((iter (λ(s:Nat)=>T7.s13 m_ a2 s) fuel 0).bind (Sum.elim (λ_=>some (.inl (a2+1))) some)))) (some (.inr (.inl ())))
def T7(m_:B6):Option Int:=(cond (decide (m_.I<1)) (some true) (some (decide (64<m_.I)))).bind (λa2=>cond (a2) (some 2) (cond (decide ((m_.N.length:Int)=0)) (some 19) (cond (decide (128<(m_.N.length:Int))) (some 11) ((cond (decide (m_.S<0)) (some true) (some (decide ((m_.N.length:Int)<=m_.S)))).bind (λa6=>cond (a6) (some 2) (cond (decide ((m_.O.length:Int)≠(m_.N.length:Int))) (some 1) ((iter (λ(s:Nat)=>T7.s14 m_ s) fuel 0).bind (Sum.elim (λ_=>some 0) some))))))))
def W9.s18(b2:A2)(a2:List Bool)(a6:A2)(a7:Nat):Option ((List Bool×A2×Nat)⊕(List Bool×A2)):=cond (decide ((a7:Int)<(b2.length:Int))) (idxn b2 a7 λa8=>idx a2 a8 λb3=>cond ((!b3)) (idx a2 a8 λb4=>chk (B5 (List.length a6+1) 8) (some (.inl ((List.set a2 a8.toNat true),(a6++[a8]),(a7+1))))) (some (.inl (a2,a6,(a7+1))))) (some (.inr (a2,a6)))
def W9.k19(a2:Nat)(a6:List Bool)(a7:A2):Option ((List Bool×A2×Nat)⊕A2):=some (.inl (a6,a7,(a2+1)))
def W9.s20(m_:B6)(a7:List Bool)(a2:A2)(a6:Nat):Option ((List Bool×A2×Nat)⊕A2):=cond (decide ((a6:Int)<(a2.length:Int))) (idxn a2 a6 λa8=>idx m_.N a8 λb2=>(iter (λ(s:List Bool×A2×Nat)=>W9.s18 b2 s.1 s.2.1 s.2.2) fuel (a7,a2,0)).bind (λs=>W9.k19 a6 s.1 s.2)) (some (.inr a2))
def W9(m_:B6):Option A2:=(T7 m_).bind λa6=>cond (decide (a6≠0)) (some []) (chk ((0:Int)<=(m_.N.length:Int)/\(m_.N.length:Int)<=(m_.N.length:Int)/\B5 (Int.toNat (m_.N.length:Int)) 1) (idx (List.replicate m_.N.length false) m_.S λa7=>(iter (λ(s:List Bool×A2×Nat)=>W9.s20 m_ s.1 s.2.1 s.2.2) fuel ((List.set (List.replicate m_.N.length false) m_.S.toNat true),[m_.S],0)).bind (λa2=>some a2)))
def S6.s2(a7 a6:A2)(a2:Nat):Option ((A2×Nat)⊕A2):=cond (decide ((a2:Int)<(a7.length:Int))) (idxn a7 a2 λa8=>idx a6 a8 λb2=>some (.inl ((List.set a6 a8.toNat (a2:Int)),(a2+1)))) (some (.inr a6))
def S6.s15(b3 a7 a6:A2)(a2:Nat):Option ((A2×Nat)⊕A2):=cond (decide ((a2:Int)<(a7.length:Int))) (idxn a7 a2 λa8=>idx b3 a8 λb2=>idxn a6 a2 λb4=>some (.inl ((List.set a6 a2 b2),(a2+1)))) (some (.inr a6))
def S6.s16(m_:B6)(b6 b7:A2)(a2 a6:A4)(a7:Nat):Option ((A4×A4×Nat)⊕(A4×A4)):=cond (decide ((a7:Int)<(b6.length:Int))) (idxn b6 a7 λa8=>chk ((0:Int)<=m_.I/\m_.I<=m_.I/\B5 (Int.toNat m_.I) 8) (idx m_.N a8 λb2=>(iter (λ(s:A2×Nat)=>S6.s15 b7 b2 s.1 s.2) fuel ((List.replicate (Int.toNat m_.I) (0:Int)),0)).bind (λb3=>chk (B5 (List.length a2+1) 24) (idx m_.O a8 λb4=>(mQ b4).bind λb5=>chk (B5 (List.length a6+1) 24) (some (.inl ((a2++[b3]),(a6++[b5]),(a7+1)))))))) (some (.inr (a2,a6)))
def S6.k17(m_:B6)(a2 a6:A4):Option (B6×Int):=some ((⟨m_.I,0,a2,a6⟩:B6),0)
def S6(m_:B6):Option (B6×Int):=(T7 m_).bind λa2=>cond (decide (a2≠0)) (some ((⟨0,0,[],[]⟩:B6),a2)) ((W9 m_).bind λa6=>chk ((0:Int)<=(m_.N.length:Int)/\(m_.N.length:Int)<=(m_.N.length:Int)/\B5 (Int.toNat (m_.N.length:Int)) 8) ((iter (λ(s:A2×Nat)=>S6.s2 a6 s.1 s.2) fuel ((List.replicate m_.N.length (0:Int)),0)).bind (λa7=>(iter (λ(s:A4×A4×Nat)=>S6.s16 m_ a6 a7 s.1 s.2.1 s.2.2) fuel ([],[],0)).bind (λs=>S6.k17 m_ s.1 s.2))))
def T6.s18(m_:B6)(class_:A2)(a7:Nat)(a6:A2)(a2:Nat):Option ((A2×Nat)⊕A2):=cond (decide ((a2:Int)<m_.I)) (idxn m_.O a7 λb2=>idxn b2 a2 λa8=>chk ((a2:Int)<128) (idxn a6 a2 λb6=>chk (inR (64+(a2:Int))) (idxn m_.N a7 λb3=>idxn b3 a2 λb4=>idx class_ b4 λb5=>chk ((64+(a2:Int))<128) (idxn (List.set a6 a2 a8) (64+a2) λb7=>chk (inR ((a2:Int)+1)) (some (.inl ((List.set (List.set a6 a2 a8) (64+a2) b5),(a2+1)))))))) (some (.inr a6))
def T6.k19(a6:A2)(a2:Nat)(a7:List (A2×Int))(a8:Int):Option (((List (A2×Int))×A2×Nat)⊕((List (A2×Int))×A2)):=idxn a6 a2 λb2=>some (.inl (a7,(List.set a6 a2 a8),(a2+1)))
def T6.s20(m_:B6)(class_:A2)(a2:List (A2×Int))(a8:A2)(a7:Nat):Option (((List (A2×Int))×A2×Nat)⊕((List (A2×Int))×A2)):=cond (decide ((a7:Int)<(class_.length:Int))) ((iter (λ(s:A2×Nat)=>T6.s18 m_ class_ a7 s.1 s.2) fuel ((List.replicate 128 0),0)).bind (λa6=>chk (List.length a6=128) (chk (List.length a6=128/\∀p∈a2,List.length p.1=128) ((cond ((!((mget a6 a2).isSome))) (chk (List.length a6=128) (chk (List.length a6=128/\∀p∈a2,List.length p.1=128) (some ((mset a6 (a2.length:Int) a2),(a2.length:Int))))) (some (a2,((mget a6 a2).getD 0))):Option ((List (A2×Int))×Int)).bind (λs=>T6.k19 a8 a7 s.1 s.2))))) (some (.inr (a2,a8)))
def T6.k21(a2:List (A2×Int))(a6:A2):Option (A2×Int):=some (a6,(a2.length:Int))
def T6(m_:B6)(class_:A2):Option (A2×Int):=chk ((0:Int)<=(class_.length:Int)/\(class_.length:Int)<=(class_.length:Int)/\B5 (Int.toNat (class_.length:Int)) 8) ((iter (λ(s:(List (A2×Int))×A2×Nat)=>T6.s20 m_ class_ s.1 s.2.1 s.2.2) fuel (([]:List (A2×Int)),(List.replicate class_.length (0:Int)),0)).bind (λs=>T6.k21 s.1 s.2))
def fL.s2(m_:B6)(k_:Int)(class71:A2)(a7:Int)(a2:Nat):Option ((A2×Int×Nat)⊕(A2⊕(A2×Int))):=cond (decide ((a2:Int)<(min (max k_ 0) (m_.N.length:Int)))) ((T6 m_ class71).bind λa6=>cond (decide (a6.2=a7)) (some (.inr (.inr (class71,(a2:Int))))) (some (.inl (a6.1,a6.2,(a2+1))))) (some (.inr (.inl class71)))
def fL(m_:B6)(k_:Int):Option (A2×Int):=chk ((0:Int)<=(m_.N.length:Int)/\(m_.N.length:Int)<=(m_.N.length:Int)/\B5 (Int.toNat (m_.N.length:Int)) 8) ((iter (λ(s:A2×Int×Nat)=>fL.s2 m_ k_ s.1 s.2.1 s.2.2) fuel ((List.replicate m_.N.length (0:Int)),1,0)).bind (Sum.elim (λclass67=>some (class67,(min (max k_ 0) (m_.N.length:Int)))) some))
def sT(m_:B6)(k_:Int):Option (A2×Int):=(T7 m_).bind λa2=>cond (decide (a2≠0)) (some ([],a2)) ((fL m_ k_).bind λa6=>some (a6.1,0))
def pN(m_:B6):Option (A2×Int):=(sT m_ 128).bind λa2=>some (a2.1,a2.2)
def S8.s30(b3:A2×Int)(a7 a2:A2)(a6:Nat):Option ((A2×Nat)⊕A2):=cond (decide ((a6:Int)<(a7.length:Int))) (idxn a7 a6 λa8=>idx b3.1 a8 λb2=>chk (B5 (List.length a2+1) 8) (some (.inl ((a2++[b2]),(a6+1))))) (some (.inr a2))
def S8.k31(a2:Nat)(a6 a7:A4):Option ((A4×A4×Nat)⊕(A4×A4)):=some (.inl (a6,a7,(a2+1)))
def S8.s32(b6:B6×Int)(b2:A2×Int)(a2 a7:A4)(a6:Nat):Option ((A4×A4×Nat)⊕(A4×A4)):=cond (decide ((a6:Int)<(b2.1.length:Int))) ((idxn b2.1 a6 λb3=>cond (decide (b3<(a2.length:Int))) (some (a2,a7)) (idxn b6.1.N a6 λb4=>(iter (λ(s:A2×Nat)=>S8.s30 b2 b4 s.1 s.2) fuel ([],0)).bind (λb5=>chk (B5 (List.length a2+1) 24) (idxn b6.1.O a6 λa8=>chk (B5 (List.length ([]:List Unit)+List.length a8) 8) (chk (B5 (List.length a7+1) 24) (some ((a2++[b5]),(a7++[([]++a8)]))))))):Option (A4×A4)).bind (λs=>S8.k31 a6 s.1 s.2)) (some (.inr (a2,a7)))
def S8.k33(a7:B6×Int)(a2 a6:A4):Option (B6×Int):=some ((⟨a7.1.I,0,a2,a6⟩:B6),0)
def S8(m_:B6):Option (B6×Int):=(S6 m_).bind λa2=>cond (decide (a2.2≠0)) (some ((⟨0,0,[],[]⟩:B6),a2.2)) ((pN a2.1).bind λa6=>cond (decide (a6.2≠0)) (some ((⟨0,0,[],[]⟩:B6),a6.2)) ((iter (λ(s:A4×A4×Nat)=>S8.s32 a2 a6 s.1 s.2.1 s.2.2) fuel ([],[],0)).bind (λs=>S8.k33 a2 s.1 s.2)))
def eM.s2(m_:B6)(w_:A2)(b5:Int)(a6:A2)(a7:Nat):Option ((Int×A2×Nat)⊕A2):=cond (decide ((a7:Int)<(w_.length:Int))) (idxn w_ a7 λa2=>idx m_.O b5 λa8=>idx a8 a2 λb2=>chk (B5 (List.length a6+1) 8) (idx m_.N b5 λb3=>idx b3 a2 λb4=>some (.inl (b4,(a6++[b2]),(a7+1))))) (some (.inr a6))
def eM(m_:B6)(s_:Int)(w_:A2):Option A2:=chk ((0:Int)<=0/\0<=(w_.length:Int)/\B5 (Int.toNat (w_.length:Int)) 8) ((iter (λ(s:Int×A2×Nat)=>eM.s2 m_ w_ s.1 s.2.1 s.2.2) fuel (s_,[],0)).bind (λa2=>some a2))
def gS.s2(s1_ s2_:A2)(a2:Nat):Option (Nat⊕(Unit⊕Bool)):=cond (decide ((a2:Int)<(s1_.length:Int))) (idxn s1_ a2 λa6=>idxn s2_ a2 λa7=>cond (decide (a6≠a7)) (some (.inr (.inr false))) (some (.inl (a2+1)))) (some (.inr (.inl ())))
def gS(s1_ s2_:A2):Option Bool:=cond (decide ((s1_.length:Int)≠(s2_.length:Int))) (some false) ((iter (λ(s:Nat)=>gS.s2 s1_ s2_ s) fuel 0).bind (Sum.elim (λ_=>some true) some))
def pS(w_:A2)(p1_:B6)(p2_ p3_:Int):Option Bool:=(eM p1_ p2_ w_).bind λa2=>(eM p1_ p3_ w_).bind λa6=>(gS a2 a6).bind λa7=>some (!a7)
def iM.s2(l_:A4)(has_:(A2)->Option Bool)(a2:Nat):Option (Nat⊕(Unit⊕Bool)):=cond (decide ((a2:Int)<(l_.length:Int))) (idxn l_ a2 λa6=>(has_ a6).bind λa7=>cond (a7) (some (.inr (.inr true))) (some (.inl (a2+1)))) (some (.inr (.inl ())))
def iM(l_:A4)(has_:(A2)->Option Bool):Option Bool:=(iter (λ(s:Nat)=>iM.s2 l_ has_ s) fuel 0).bind (Sum.elim (λ_=>some false) some)
def pM(m_:B6)(words_:A4)(s_ t_:Int):Option Bool:=(iM words_ (λu0=>pS u0 m_ s_ t_)).bind λa2=>some a2
def pO(m_:B6):Option Bool:=((T7 m_).bind λa6=>cond (decide (a6≠0)) (some true) ((W9 m_).bind λa7=>some (decide ((a7.length:Int)≠(m_.N.length:Int))))).bind (λa8=>cond (a8) (some false) ((S8 m_).bind λa2=>(cond (decide (a2.2=0)) (some (decide ((a2.1.N.length:Int)=(m_.N.length:Int)))) (some false)).bind (λb2=>some b2)))
def pJ(m_:B6):Option Int:=(T7 m_).bind λa2=>cond (decide (a2≠0)) (some a2) ((pO m_).bind λa6=>cond ((!a6)) (some 1) (some 0))
def cC.s2(slices_:A4)(size73 a2:Nat):Option ((Nat×Nat)⊕Nat):=cond (decide ((a2:Int)<(slices_.length:Int))) (idxn slices_ a2 λa6=>chk (inR ((size73:Int)+(a6.length:Int))) (cond (decide (((size73:Int)+(a6.length:Int))<0)) (none) (some (.inl ((size73+a6.length),(a2+1)))))) (some (.inr size73))
def cC.s4(slices_:A4)(a2:A2)(a6:Nat):Option ((A2×Nat)⊕A2):=cond (decide ((a6:Int)<(slices_.length:Int))) (idxn slices_ a6 λa7=>chk (B5 (List.length a2+List.length a7) 8) (some (.inl ((a2++a7),(a6+1))))) (some (.inr a2))
def cC(slices_:A4):Option A2:=(iter (λ(s:Nat×Nat)=>cC.s2 slices_ s.1 s.2) fuel (0,0)).bind (λsize68=>(vS (size68:Int)).bind λa6=>(iter (λ(s:A2×Nat)=>cC.s4 slices_ s.1 s.2) fuel (a6,0)).bind (λa2=>some a2))
def jD(parts_:A4):Option A2:=(cC parts_).bind λa2=>some a2
def S7.s2(a_ b_:B6)(a6:List (List Bool))(a2:Nat):Option ((List (List Bool)×Nat)⊕List (List Bool)):=cond (decide ((a2:Int)<(↑(List.length (List.replicate a_.N.length ([]:List Bool))):Int))) (chk ((0:Int)<=(b_.N.length:Int)/\(b_.N.length:Int)<=(b_.N.length:Int)/\B5 (Int.toNat (b_.N.length:Int)) 1) (idxn a6 a2 λa7=>chk (inR ((a2:Int)+1)) (some (.inl ((List.set a6 a2 (List.replicate b_.N.length false)),(a2+1)))))) (some (.inr a6))
def S7.s20(a_ b_:B6)(b5:Nat)(a6:X3)(a8:List (List Bool))(a7:List X3)(a2:Nat):Option ((List (List Bool)×List X3×Nat)⊕((List (List Bool)×List X3)⊕((List (List Bool)×List X3×Nat)⊕(Unit⊕(A2×Bool))))):=cond (decide ((a2:Int)<a_.I)) (idx a_.O a6.at_.s λb6=>idxn b6 a2 λb7=>idx b_.O a6.at_.t λb8=>idxn b8 a2 λb9=>cond (decide (b7≠b9)) (idxn a7 b5 λc0=>(jD [c0.word,[(a2:Int)]]).bind λc6=>some (.inr (.inr (.inr (.inr (c6,true)))))) (idx a_.N a6.at_.s λc7=>idxn c7 a2 λb2=>idx b_.N a6.at_.t λc8=>idxn c8 a2 λb3=>(cond ((!(decide (b2=a6.at_.s)&&(decide (b3=a6.at_.t)&&true)))) (idx a8 b2 λc9=>idx c9 b3 λd0=>some (!d0)) (some false)).bind (λd1=>cond (d1) (idx a8 b2 λb4=>idx b4 b3 λd4=>idxn a7 b5 λd2=>(jD [d2.word,[(a2:Int)]]).bind λd3=>chk (B5 (List.length a7+1) 40) (chk (inR ((a2:Int)+1)) (some (.inl ((List.set a8 (Int.toNat b2) (List.set b4 (Int.toNat b3) true)),(a7++[(⟨(⟨b2,b3⟩:eJ),d3⟩:X3)]),(a2+1)))))) (chk (inR ((a2:Int)+1)) (some (.inl (a8,a7,(a2+1)))))))) (some (.inr (.inl (a8,a7))))
def S7.k21(a7:Nat)(a2:List (List Bool))(a6:List X3):Option ((List (List Bool)×List X3×Nat)⊕(Unit⊕(A2×Bool))):=some (.inl (a2,a6,(a7+1)))
def S7.s22(a_ b_:B6)(a8:List (List Bool))(a6:List X3)(a2:Nat):Option ((List (List Bool)×List X3×Nat)⊕(Unit⊕(A2×Bool))):=cond (decide ((a2:Int)<(a6.length:Int))) (idxn a6 a2 λa7=>(iter (λ(s:List (List Bool)×List X3×Nat)=>S7.s20 a_ b_ a2 a7 s.1 s.2.1 s.2.2) fuel (a8,a6,0)).bind (Sum.elim (λs=>S7.k21 a2 s.1 s.2) some)) (some (.inr (.inl ())))
def S7(a_ b_:B6)(first_:eJ):Option (A2×Bool):=chk ((0:Int)<=(a_.N.length:Int)/\(a_.N.length:Int)<=(a_.N.length:Int)/\B5 (Int.toNat (a_.N.length:Int)) 24) ((iter (λ(s:List (List Bool)×Nat)=>S7.s2 a_ b_ s.1 s.2) fuel ((List.replicate a_.N.length ([]:List Bool)),0)).bind (λa2=>idx a2 first_.s λa6=>idx a6 first_.t λa7=>(iter (λ(s:List (List Bool)×List X3×Nat)=>S7.s22 a_ b_ s.1 s.2.1 s.2.2) fuel ((List.set a2 (Int.toNat first_.s) (List.set a6 (Int.toNat first_.t) true)),[(⟨first_,[]⟩:X3)],0)).bind (Sum.elim (λ_=>some ([],false)) some)))
def oY(m_:B6)(s_ t_:Int):Option (A2×Bool×Int):=(T7 m_).bind λa2=>cond (decide (a2≠0)) (some ([],false,a2)) ((cond (decide (s_<0)) (some true) (cond (decide ((m_.N.length:Int)<=s_)) (some true) (cond (decide (t_<0)) (some true) (some (decide ((m_.N.length:Int)<=t_)))))).bind (λa7=>cond (a7) (some ([],false,2)) ((S7 m_ m_ (⟨s_,t_⟩:eJ)).bind λa6=>some (a6.1,a6.2,0))))
def bI.s13(m_:B6)(a8:Nat)(a2:A4)(a6:Nat):Option ((A4×Nat)⊕(A4⊕((A4×Nat)⊕(A4⊕(A4×Int))))):=cond (decide ((a6:Int)<(m_.N.length:Int))) (((pM m_ a2 (a8:Int) (a6:Int)).bind λb2=>cond (b2) (some (.inl a2)) ((oY m_ (a8:Int) (a6:Int)).bind λa7=>cond (decide (a7.2.2≠0)) (some (.inr (.inr (.inr (.inr (.inr ([],a7.2.2))))))) (chk (B5 (List.length a2+1) 24) (some (.inl (a2++[a7.1]))))):Option (A4⊕((A4×Nat)⊕(A4⊕((A4×Nat)⊕(A4⊕(A4×Int))))))).bind (Sum.elim (λb3=>some (.inl (b3,(a6+1)))) some)) (some (.inr (.inl a2)))
def bI.s14(m_:B6)(a6:A4)(a2:Nat):Option ((A4×Nat)⊕(A4⊕(A4×Int))):=cond (decide ((a2:Int)<(m_.N.length:Int))) ((iter (λ(s:A4×Nat)=>bI.s13 m_ a2 s.1 s.2) fuel (a6,(a2+1))).bind (Sum.elim (λa7=>some (.inl (a7,(a2+1)))) some)) (some (.inr (.inl a6)))
def bI(m_:B6):Option (A4×Int):=(pJ m_).bind λa7=>cond (decide (a7≠0)) (some ([],a7)) ((iter (λ(s:A4×Nat)=>bI.s14 m_ s.1 s.2) fuel ([],0)).bind (Sum.elim (λa2=>(jF a2).bind λa6=>some (a6,0)) some))
def X0.s18(b5:A2)(a2:List (Option A2))(b2:A4)(a8:A2)(a7:Nat):Option ((List (Option A2)×A4×A2×Nat)⊕(List (Option A2)×A4×A2)):=cond (decide ((a7:Int)<(b5.length:Int))) (idxn b5 a7 λa6=>(cond (decide (a6≠(-1:Int))) (idx a2 a6 λb6=>some (Option.isNone b6)) (some false)).bind (λb7=>cond (b7) (idxn a8 0 λb8=>idx a2 b8 λb9=>Option.bind b9 λb3=>chk (B5 (List.length ([]:List Unit)+List.length b3) 8) (chk (B5 (List.length ([]++b3)+1) 8) (idx a2 a6 λc6=>idx (List.set a2 a6.toNat (some (([]++b3)++[(a7:Int)]))) a6 λc0=>Option.bind c0 λb4=>chk (B5 (List.length ([]:List Unit)+List.length b4) 8) (chk (B5 (List.length b2+1) 24) (chk (B5 (List.length a8+1) 8) (some (.inl ((List.set a2 a6.toNat (some (([]++b3)++[(a7:Int)]))),(b2++[([]++b4)]),(a8++[a6]),(a7+1))))))))) (some (.inl (a2,b2,a8,(a7+1)))))) (some (.inr (a2,b2,a8)))
def X0.k19(a6:List (Option A2))(a7:A4)(a2:A2):Option ((List (Option A2)×A4×A2)⊕A4):=chk (1<=List.length a2) (some (.inl (a6,a7,(List.drop 1 a2))))
def X0.s20(p_:A8)(a7:List (Option A2))(a6:A4)(a2:A2):Option ((List (Option A2)×A4×A2)⊕A4):=cond (decide (0<(a2.length:Int))) (idxn a2 0 λa8=>idx p_.N a8 λb2=>(iter (λ(s:List (Option A2)×A4×A2×Nat)=>X0.s18 b2 s.1 s.2.1 s.2.2.1 s.2.2.2) fuel (a7,a6,a2,0)).bind (λs=>X0.k19 s.1 s.2.1 s.2.2)) (some (.inr a6))
def X0(p_:A8):Option A4:=chk ((0:Int)<=(p_.N.length:Int)/\(p_.N.length:Int)<=(p_.N.length:Int)/\B5 (Int.toNat (p_.N.length:Int)) 24) (idx (List.replicate p_.N.length (none:Option A2)) p_.S λa7=>(iter (λ(s:List (Option A2)×A4×A2)=>X0.s20 p_ s.1 s.2.1 s.2.2) fuel ((List.set (List.replicate p_.N.length (none:Option A2)) p_.S.toNat (some ([]:A2))),[[]],[p_.S])).bind (λa6=>(jF a6).bind λa2=>some a2))
def cP.s2(o_:I4)(a6:A4)(a2:Nat):Option ((A4×Nat)⊕A4):=cond (decide ((a2:Int)<o_.I)) (chk (B5 (List.length a6+1) 24) (chk (inR ((a2:Int)+1)) (some (.inl ((a6++[[(a2:Int)]]),(a2+1)))))) (some (.inr a6))
def cP(o_:I4):Option (aJ×Int):=(U6 o_).bind λa2=>cond (decide (a2.2≠0)) (some ((⟨0,[],[]⟩:aJ),a2.2)) ((U7 a2.1 0).bind λa6=>cond (decide (a6.2≠0)) (some ((⟨0,[],[]⟩:aJ),a6.2)) ((S8 a6.1).bind λa7=>(bI a7.1).bind λa8=>(iter (λ(s:A4×Nat)=>cP.s2 o_ s.1 s.2) fuel ([],0)).bind (λb2=>(X0 a2.1).bind λb3=>(pF [b2,a8.1]).bind λb4=>some ((⟨o_.I,b3,b4⟩:aJ),0))))
def dL.s2(a_ b_:A4)(a2:Nat):Option (Nat⊕(Unit⊕Bool)):=cond (decide ((a2:Int)<(a_.length:Int))) (idxn a_ a2 λa6=>idxn b_ a2 λa7=>(jC a6 a7).bind λa8=>cond ((!a8)) (some (.inr (.inr false))) (some (.inl (a2+1)))) (some (.inr (.inl ())))
def dL(a_ b_:A4):Option Bool:=cond (decide ((a_.length:Int)≠(b_.length:Int))) (some false) ((iter (λ(s:Nat)=>dL.s2 a_ b_ s) fuel 0).bind (Sum.elim (λ_=>some true) some))
def lP(a_ b_:A8):Option Bool:=(cond (decide (a_.I=b_.I)) (cond (decide (a_.S=b_.S)) ((dL a_.N b_.N).bind λa2=>cond (a2) ((dL a_.O b_.O).bind λa6=>some a6) (some false)) (some false)) (some false)).bind (λa7=>some a7)
def mR(a_ b_:aJ):Option Bool:=(cond (decide (a_.I=b_.I)) ((dL a_.P b_.P).bind λa2=>cond (a2) ((dL a_.X b_.X).bind λa6=>some a6) (some false)) (some false)).bind (λa7=>some a7)
def lW:Option Bool:=(P5 (⟨1,[(⟨[0,0,0,0],[1,2,1,2]⟩:I0)]⟩:I4)).bind λa2=>(pD a2.1 0 2).bind λa6=>(pD a2.1 0 4).bind λa7=>(pD a2.1 0 1).bind λa8=>(U6 (⟨1,[(⟨[0,0,0,0],[1,2,1,2]⟩:I0)]⟩:I4)).bind λb2=>(cP (⟨1,[(⟨[0,0,0,0],[1,2,1,2]⟩:I0)]⟩:I4)).bind λb3=>(cP (⟨2,[]⟩:I4)).bind λb4=>(cond (decide (a6.1=2)) (cond (a6.2.1) (cond (decide (a6.2.2=0)) (cond (decide (a7.1=0)) (cond (a7.2.1) (cond (decide (a7.2.2=0)) (cond ((!a8.2.1)) (cond (decide (a8.2.2=0)) ((lP b2.1 (⟨1,0,[[1],[0]],[[1],[2]]⟩:A8)).bind λb5=>cond (b5) (cond (decide (b2.2=0)) ((mR b3.1 (⟨1,[[],[0]],[[0]]⟩:aJ)).bind λb6=>cond (b6) (cond (decide (b3.2=0)) ((mR b4.1 (⟨2,[[]],[[0],[1]]⟩:aJ)).bind λb7=>cond (b7) (some (decide (b4.2=0))) (some false)) (some false)) (some false)) (some false)) (some false)) (some false)) (some false)) (some false)) (some false)) (some false)) (some false)) (some false)) (some false)).bind (λb8=>some b8)
def aO.s2(l_:A2)(n_:Int)(a2:Nat):Option (Nat⊕Nat):=(cond (decide ((a2:Int)<(l_.length:Int))) (idxn l_ a2 λa6=>some (decide (a6≠n_))) (some false)).bind (λa7=>cond (a7) (chk (inR ((a2:Int)+1)) (some (.inl (a2+1)))) (some (.inr a2)))
def aO(l_:A2)(n_:Int):Option Int:=(iter (λ(s:Nat)=>aO.s2 l_ n_ s) fuel 0).bind (λa2=>some (a2:Int))
def U9.s13(p_:A8)(red_:List Bool)(a6:Nat)(is377:Bool)(a2:Nat):Option ((Bool×Nat)⊕Bool):=cond (decide ((a2:Int)<(red_.length:Int))) (cond (is377) (some (.inl (true,(a2+1)))) (idxn red_ a2 λa7=>cond (a7) (idxn p_.N a2 λa8=>(aO a8 (a6:Int)).bind λb2=>some (.inl (decide (b2<p_.I),(a2+1)))) (some (.inl (false,(a2+1)))))) (some (.inr is377))
def U9.s14(p_:A8)(red_:List Bool)(a6:A2)(a2:Nat):Option ((A2×Nat)⊕A2):=cond (decide ((a2:Int)<(red_.length:Int))) ((iter (λ(s:Bool×Nat)=>U9.s13 p_ red_ a2 s.1 s.2) fuel (false,0)).bind (λis371=>(cond (is371) (idxn red_ a2 λa7=>some (!a7)) (some false)).bind (λa8=>cond (a8) (chk (B5 (List.length a6+1) 8) (some (.inl ((a6++[(a2:Int)]),(a2+1))))) (some (.inl (a6,(a2+1))))))) (some (.inr a6))
def U9(p_:A8)(red_:List Bool):Option A2:=(iter (λ(s:A2×Nat)=>U9.s14 p_ red_ s.1 s.2) fuel ([],0)).bind (λa2=>some a2)
def T5.s84(p_:A8)(class_:A2)(a7 a8 a6 a2:Nat):Option ((Nat×Nat)⊕Nat):=cond (decide ((a2:Int)<(class_.length:Int))) ((idxn class_ a2 λb2=>cond (decide (b2=(a7:Int))) (idxn p_.N a2 λb3=>idxn b3 a8 λb4=>some (decide (b4≠(-1:Int)))) (some false)).bind (λb5=>cond (b5) (chk (inR ((a6:Int)+1)) (some (.inl ((a6+1),(a2+1))))) (some (.inl (a6,(a2+1)))))) (some (.inr a6))
def T5.s85(p_:A8)(class_:A2)(a8:Nat)(a6:Int)(a2:Nat):Option ((Int×Nat)⊕Int):=cond (decide ((a2:Int)<p_.I)) ((iter (λ(s:Nat×Nat)=>T5.s84 p_ class_ a8 a2 s.1 s.2) fuel (0,0)).bind (λa7=>chk (inR ((a7:Int)-1)) (chk (inR (a6+(max 0 ((a7:Int)-1)))) (chk (inR ((a2:Int)+1)) (some (.inl ((a6+(max 0 ((a7:Int)-1))),(a2+1)))))))) (some (.inr a6))
def T5.s86(p_:A8)(class_:A2)(a6:Int)(a2:Nat):Option ((Int×Nat)⊕Int):=cond (decide ((a2:Int)<(class_.length:Int))) ((iter (λ(s:Int×Nat)=>T5.s85 p_ class_ a2 s.1 s.2) fuel (a6,0)).bind (λa7=>some (.inl (a7,(a2+1))))) (some (.inr a6))
def T5(p_:A8)(class_:A2):Option Int:=(iter (λ(s:Int×Nat)=>T5.s86 p_ class_ s.1 s.2) fuel (0,0)).bind (λa2=>some a2)
def eD.s2(a7 a8 b2 b3:Int)(a2:A2)(a6:Nat):Option ((A2×Nat)⊕A2):=cond (decide ((a6:Int)<(a2.length:Int))) (idxn a2 a6 λb4=>cond (decide (b4=(max b2 b3))) (idxn a2 a6 λb5=>some (.inl ((List.set a2 a6 (min a7 a8)),(a6+1)))) (some (.inl (a2,(a6+1))))) (some (.inr a2))
def eD(class_:A2)(s_ t_:Int):Option A2:=idx class_ s_ λa2=>idx class_ t_ λa6=>idx class_ s_ λa7=>idx class_ t_ λa8=>(iter (λ(s:A2×Nat)=>eD.s2 a2 a6 a7 a8 s.1 s.2) fuel (class_,0)).bind (λb2=>some b2)
def L2.s2(p_:A8)(a6:A2)(a2:Nat):Option ((A2×Nat)⊕A2):=cond (decide ((a2:Int)<(p_.N.length:Int))) (idxn a6 a2 λa7=>some (.inl ((List.set a6 a2 (a2:Int)),(a2+1)))) (some (.inr a6))
def L2.s196(p_:A8)(a6:A2)(a2:Nat):Option ((A2×Nat)⊕A2):=cond (decide ((a2:Int)<(p_.N.length:Int))) (idxn a6 a2 λa7=>some (.inl ((List.set a6 a2 (-1:Int)),(a2+1)))) (some (.inr a6))
def L2.s198(p_:A8)(a7:A2)(more12838:Bool)(a6:Nat)(a8:A2)(a2:Nat):Option ((A2×Nat)⊕((A2×Bool)⊕((A2×Bool×Nat)⊕((A2×Bool)⊕((A2×Bool)⊕(A2⊕(A2×Bool))))))):=cond (decide ((a2:Int)<(p_.N.length:Int))) ((idxn p_.N a2 λb4=>idxn b4 a6 λb5=>cond (decide (b5=(-1:Int))) (some (.inl a8)) (idxn a7 a2 λb6=>idx a8 b6 λb2=>cond (decide (b2=(-1:Int))) (idxn a7 a2 λb3=>idx a8 b3 λd8=>some (.inl (List.set a8 b3.toNat (a2:Int)))) (idx p_.O b2 λb7=>idxn b7 a6 λb8=>idxn p_.O a2 λb9=>idxn b9 a6 λc0=>cond (decide (b8≠c0)) (some (.inr (.inr (.inr (.inr (.inr (.inr (.inr ([],false))))))))) (idx p_.N b2 λc6=>idxn c6 a6 λc7=>idx a7 c7 λc8=>idxn p_.N a2 λc9=>idxn c9 a6 λd0=>idx a7 d0 λd1=>cond (decide (c8≠d1)) (idx p_.N b2 λd2=>idxn d2 a6 λd3=>idxn p_.N a2 λd4=>idxn d4 a6 λd5=>(eD a7 d3 d5).bind λd6=>some (.inr (.inr (.inl (d6,true))))) (some (.inl a8))))):Option (A2⊕((A2×Nat)⊕((A2×Bool)⊕((A2×Bool×Nat)⊕((A2×Bool)⊕((A2×Bool)⊕(A2⊕(A2×Bool))))))))).bind (Sum.elim (λd7=>some (.inl (d7,(a2+1)))) some)) (some (.inr (.inl (a7,more12838))))
def L2.k199(a2:Nat)(a6:A2)(more13414:Bool):Option ((A2×Bool×Nat)⊕((A2×Bool)⊕((A2×Bool)⊕(A2⊕(A2×Bool))))):=chk (inR ((a2:Int)+1)) (some (.inl (a6,more13414,(a2+1))))
def L2.s200(p_:A8)(a6:A2)(more12838:Bool)(a2:Nat):Option ((A2×Bool×Nat)⊕((A2×Bool)⊕((A2×Bool)⊕(A2⊕(A2×Bool))))):=cond (decide ((a2:Int)<p_.I)) (chk ((0:Int)<=(p_.N.length:Int)/\(p_.N.length:Int)<=(p_.N.length:Int)/\B5 (Int.toNat (p_.N.length:Int)) 8) ((iter (λ(s:A2×Nat)=>L2.s196 p_ s.1 s.2) fuel ((List.replicate p_.N.length (0:Int)),0)).bind (λa7=>(iter (λ(s:A2×Nat)=>L2.s198 p_ a6 more12838 a2 s.1 s.2) fuel (a7,0)).bind (Sum.elim (λs=>L2.k199 a2 s.1 s.2) some)))) (some (.inr (.inl (a6,more12838))))
def L2.k201(a2:A2)(more12464:Bool):Option ((A2×Bool)⊕(A2⊕(A2×Bool))):=some (.inl (a2,more12464))
def L2.s202(p_:A8)(a2:A2)(more9085:Bool):Option ((A2×Bool)⊕(A2⊕(A2×Bool))):=cond (more9085) ((iter (λ(s:A2×Bool×Nat)=>L2.s200 p_ s.1 s.2.1 s.2.2) fuel (a2,false,0)).bind (Sum.elim (λs=>L2.k201 s.1 s.2) some)) (some (.inr (.inl a2)))
def L2(p_:A8)(s_ t_:Int):Option (A2×Bool):=chk ((0:Int)<=(p_.N.length:Int)/\(p_.N.length:Int)<=(p_.N.length:Int)/\B5 (Int.toNat (p_.N.length:Int)) 8) ((iter (λ(s:A2×Nat)=>L2.s2 p_ s.1 s.2) fuel ((List.replicate p_.N.length (0:Int)),0)).bind (λa6=>(eD a6 s_ t_).bind λa7=>(iter (λ(s:A2×Bool)=>L2.s202 p_ s.1 s.2) fuel (a7,true)).bind (Sum.elim (λa2=>some (a2,true)) some)))
def aA.k7(a2:Nat)(a6:A2)(most258:Int):Option ((A2×Int×Nat)⊕(A2×Int)):=some (.inl (a6,most258,(a2+1)))
def aA.s8(p_:A8)(red_:List Bool)(b_:Int)(a7:A2)(most201:Int)(a2:Nat):Option ((A2×Int×Nat)⊕(A2×Int)):=cond (decide ((a2:Int)<(red_.length:Int))) ((idxn red_ a2 λa8=>cond ((!a8)) (some (a7,most201)) ((L2 p_ (a2:Int) b_).bind λa6=>(cond (a6.2) ((T5 p_ a6.1).bind λb2=>some (decide (most201<b2))) (some false)).bind (λb3=>cond (b3) ((T5 p_ a6.1).bind λb4=>some (a6.1,b4)) (some (a7,most201)))):Option (A2×Int)).bind (λs=>aA.k7 a2 s.1 s.2)) (some (.inr (a7,most201)))
def aA.k9(a2:A2)(most165:Int):Option (A2×Int):=some (a2,most165)
def aA(p_:A8)(red_:List Bool)(b_:Int):Option (A2×Int):=(iter (λ(s:A2×Int×Nat)=>aA.s8 p_ red_ b_ s.1 s.2.1 s.2.2) fuel ([],(-1:Int),0)).bind (λs=>aA.k9 s.1 s.2)
def gH.s2(p_:A8)(class_:A2)(c_ a_:Int)(a2:Nat):Option (Nat⊕(Unit⊕Int)):=cond (decide ((a2:Int)<(class_.length:Int))) ((idxn class_ a2 λa6=>cond (decide (a6=c_)) (idxn p_.N a2 λa7=>idx a7 a_ λa8=>some (decide (a8≠(-1:Int)))) (some false)).bind (λb2=>cond (b2) (some (.inr (.inr (a2:Int)))) (some (.inl (a2+1))))) (some (.inr (.inl ())))
def gH(p_:A8)(class_:A2)(c_ a_:Int):Option Int:=(iter (λ(s:Nat)=>gH.s2 p_ class_ c_ a_ s) fuel 0).bind (Sum.elim (λ_=>some (-1:Int)) some)
def Q2.k53(a2:Nat)(a6 a7 a8:A2):Option ((A2×A2×A2×Nat)⊕(A2×A2×A2)):=chk (inR ((a2:Int)+1)) (some (.inl (a6,a7,a8,(a2+1))))
def Q2.s54(p_:A8)(class_:A2)(b5:Nat)(a2 a6 a7:A2)(a8:Nat):Option ((A2×A2×A2×Nat)⊕(A2×A2×A2)):=cond (decide ((a8:Int)<p_.I)) ((idxn a2 b5 λb6=>(gH p_ class_ b6 (a8:Int)).bind λb2=>cond (decide (b2=(-1:Int))) (chk (B5 (List.length a6+1) 8) (chk (B5 (List.length a7+1) 8) (some (a2,(a6++[(-1:Int)]),(a7++[(-1:Int)]))))) (idx p_.N b2 λb7=>idxn b7 a8 λb8=>idx class_ b8 λb3=>((aO a2 b3).bind λb9=>cond (decide (b9=(a2.length:Int))) (chk (B5 (List.length a2+1) 8) (some (a2++[b3]))) (some a2):Option A2).bind (λb4=>(aO b4 b3).bind λc0=>chk (B5 (List.length a6+1) 8) (idx p_.O b2 λc6=>idxn c6 a8 λc7=>chk (B5 (List.length a7+1) 8) (some (b4,(a6++[c0]),(a7++[c7])))))):Option (A2×A2×A2)).bind (λs=>Q2.k53 a8 s.1 s.2.1 s.2.2)) (some (.inr (a2,a6,a7)))
def Q2.k55(a2 a6:A4)(a7:Nat)(a8 b2 b3:A2):Option ((A2×A4×A4×Nat)⊕(A2×A4×A4)):=chk (B5 (List.length a2+1) 24) (chk (B5 (List.length a6+1) 24) (some (.inl (a8,(a2++[b2]),(a6++[b3]),(a7+1)))))
def Q2.s56(p_:A8)(class_ a2:A2)(a7 a8:A4)(a6:Nat):Option ((A2×A4×A4×Nat)⊕(A2×A4×A4)):=cond (decide ((a6:Int)<(a2.length:Int))) ((iter (λ(s:A2×A2×A2×Nat)=>Q2.s54 p_ class_ a6 s.1 s.2.1 s.2.2.1 s.2.2.2) fuel (a2,[],[],0)).bind (λs=>Q2.k55 a7 a8 a6 s.1 s.2.1 s.2.2)) (some (.inr (a2,a7,a8)))
def Q2.k57(p_:A8)(a2:A2)(a6 a7:A4):Option (A8×A2):=some ((⟨p_.I,0,a6,a7⟩:A8),a2)
def Q2(p_:A8)(class_:A2):Option (A8×A2):=idx class_ p_.S λa2=>(iter (λ(s:A2×A4×A4×Nat)=>Q2.s56 p_ class_ s.1 s.2.1 s.2.2.1 s.2.2.2) fuel ([a2],[],[],0)).bind (λs=>Q2.k57 p_ s.1 s.2.1 s.2.2)
def eC.s2(red_:List Bool)(class_ l_:A2)(a6:List Bool)(a2:Nat):Option ((List Bool×Nat)⊕List Bool):=cond (decide ((a2:Int)<(red_.length:Int))) (idxn red_ a2 λa8=>cond (a8) (idxn class_ a2 λb2=>(aO l_ b2).bind λa7=>idx a6 a7 λb3=>some (.inl ((List.set a6 a7.toNat true),(a2+1)))) (some (.inl (a6,(a2+1))))) (some (.inr a6))
def eC(red_:List Bool)(class_ l_:A2):Option (List Bool):=chk ((0:Int)<=(l_.length:Int)/\(l_.length:Int)<=(l_.length:Int)/\B5 (Int.toNat (l_.length:Int)) 1) ((iter (λ(s:List Bool×Nat)=>eC.s2 red_ class_ l_ s.1 s.2) fuel ((List.replicate l_.length false),0)).bind (λa2=>some a2))
def N4.s41(a8 b2:Int)(b3 b4:A4)(b5:List Bool)(a7 top2357:A2)(most2358 alone2359:Int)(a2:Nat):Option ((A2×Int×Int×Nat)⊕(A2×Int)):=(cond (decide ((a2:Int)<(a7.length:Int))) (some (decide (alone2359=(-1:Int)))) (some false)).bind (λb6=>cond (b6) (idxn a7 a2 λb7=>(aA (⟨a8,b2,b3,b4⟩:A8) b5 b7).bind λa6=>(cond (decide (a6.2=(-1:Int))) (idxn a7 a2 λb8=>some b8) (some alone2359):Option Int).bind (λalone2408=>cond (decide (most2358<a6.2)) (chk (inR ((a2:Int)+1)) (some (.inl (a6.1,a6.2,alone2408,(a2+1))))) (chk (inR ((a2:Int)+1)) (some (.inl (top2357,most2358,alone2408,(a2+1))))))) (some (.inr (top2357,alone2359))))
def N4.k42(a7 a8:Int)(b2 b3:A4)(a6:List Bool)(top2333:A2)(alone2334:Int):Option (Int×Int×A4×A4×List Bool):=cond (decide (alone2334≠(-1:Int))) (idx a6 alone2334 λb5=>some (a7,a8,b2,b3,(List.set a6 alone2334.toNat true))) ((Q2 (⟨a7,a8,b2,b3⟩:A8) top2333).bind λa2=>(eC a6 top2333 a2.2).bind λb4=>some (a2.1.I,a2.1.S,a2.1.N,a2.1.O,b4))
def N4.k43(a2 a6:Int)(a7 a8:A4)(b2:List Bool):Option ((Int×Int×A4×A4×List Bool×A2)⊕(Int×Int×A4×A4)):=(U9 (⟨a2,a6,a7,a8⟩:A8) b2).bind λb3=>some (.inl (a2,a6,a7,a8,b2,b3))
def N4.s44(a2 a6:Int)(a7 a8:A4)(b2:List Bool)(b3:A2):Option ((Int×Int×A4×A4×List Bool×A2)⊕(Int×Int×A4×A4)):=cond (decide (0<(b3.length:Int))) (((iter (λ(s:A2×Int×Int×Nat)=>N4.s41 a2 a6 a7 a8 b2 b3 s.1 s.2.1 s.2.2.1 s.2.2.2) fuel ([],(-1:Int),(-1:Int),0)).bind (λs=>N4.k42 a2 a6 a7 a8 b2 s.1 s.2):Option (Int×Int×A4×A4×List Bool)).bind (λs=>N4.k43 s.1 s.2.1 s.2.2.1 s.2.2.2.1 s.2.2.2.2)) (some (.inr (a2,a6,a7,a8)))
def N4.k45(a2 a6:Int)(a7 a8:A4):Option (A8×Int):=some ((⟨a2,a6,a7,a8⟩:A8),0)
def N4(o_:I4):Option (A8×Int):=(P5 o_).bind λa2=>cond (decide (a2.2≠0)) (some ((⟨0,0,[],[]⟩:A8),a2.2)) (chk ((0:Int)<=(a2.1.N.length:Int)/\(a2.1.N.length:Int)<=(a2.1.N.length:Int)/\B5 (Int.toNat (a2.1.N.length:Int)) 1) (idxn (List.replicate a2.1.N.length false) 0 λa7=>(U9 a2.1 (List.set (List.replicate a2.1.N.length false) 0 true)).bind λa6=>(iter (λ(s:Int×Int×A4×A4×List Bool×A2)=>N4.s44 s.1 s.2.1 s.2.2.1 s.2.2.2.1 s.2.2.2.2.1 s.2.2.2.2.2) fuel (a2.1.I,a2.1.S,a2.1.N,a2.1.O,(List.set (List.replicate a2.1.N.length false) 0 true),a6)).bind (λs=>N4.k45 s.1 s.2.1 s.2.2.1 s.2.2.2)))
def fJ.s2(l_ a6:A4)(a2:Nat):Option ((A4×Nat)⊕A4):=cond (decide ((a2:Int)<(l_.length:Int))) (idxn l_ a2 λa7=>(eB a6 a7).bind λa8=>some (.inl (a8,(a2+1)))) (some (.inr a6))
def fJ(l_:A4):Option A4:=(iter (λ(s:A4×Nat)=>fJ.s2 l_ s.1 s.2) fuel ([],0)).bind (λa2=>some a2)
def gJ.s2(lists_:List (A4))(a2:A4)(a6:Nat):Option ((A4×Nat)⊕A4):=cond (decide ((a6:Int)<(lists_.length:Int))) (idxn lists_ a6 λa7=>chk (B5 (List.length a2+List.length a7) 24) (some (.inl ((a2++a7),(a6+1))))) (some (.inr a2))
def gJ(lists_:List (A4)):Option A4:=(iter (λ(s:A4×Nat)=>gJ.s2 lists_ s.1 s.2) fuel ([],0)).bind (λa2=>(fJ a2).bind λa6=>some a6)
def bM.s13(p_:A8)(a8 a2:Nat):Option (Nat⊕(Unit⊕(Nat⊕(Unit⊕Int)))):=cond (decide ((a2:Int)<p_.I)) (idxn p_.N a8 λb2=>idxn b2 a2 λa6=>idxn p_.O a8 λb3=>idxn b3 a2 λa7=>(cond (decide (a6<(-1:Int))) (some true) (cond (decide ((p_.N.length:Int)<=a6)) (some true) (cond (decide (a7<(-1:Int))) (some true) (some (decide (1048576<a7)))))).bind (λb4=>cond (b4) (some (.inr (.inr (.inr (.inr 2))))) (cond ((!((decide (a6=(-1:Int)))==(decide (a7=(-1:Int)))))) (some (.inr (.inr (.inr (.inr 1))))) (chk (inR ((a2:Int)+1)) (some (.inl (a2+1))))))) (some (.inr (.inl ())))
def bM.s14(p_:A8)(a2:Nat):Option (Nat⊕(Unit⊕Int)):=cond (decide ((a2:Int)<(p_.N.length:Int))) ((idxn p_.N a2 λa6=>cond (decide ((a6.length:Int)≠p_.I)) (some true) (idxn p_.O a2 λa7=>some (decide ((a7.length:Int)≠p_.I)))).bind (λa8=>cond (a8) (some (.inr (.inr 1))) ((iter (λ(s:Nat)=>bM.s13 p_ a2 s) fuel 0).bind (Sum.elim (λ_=>some (.inl (a2+1))) some)))) (some (.inr (.inl ())))
def bM(p_:A8):Option Int:=(cond (decide (p_.I<1)) (some true) (some (decide (64<p_.I)))).bind (λa2=>cond (a2) (some 2) (cond (decide ((p_.N.length:Int)=0)) (some 19) (cond (decide (4096<(p_.N.length:Int))) (some 11) ((cond (decide (p_.S<0)) (some true) (some (decide ((p_.N.length:Int)<=p_.S)))).bind (λa6=>cond (a6) (some 2) (cond (decide ((p_.O.length:Int)≠(p_.N.length:Int))) (some 1) ((iter (λ(s:Nat)=>bM.s14 p_ s) fuel 0).bind (Sum.elim (λ_=>some 0) some))))))))
def U4.s18(p_:A8)(out_:Int)(a8:Nat)(a6 a7:A2)(a2:Nat):Option ((A2×A2×Nat)⊕(A2×A2)):=cond (decide ((a2:Int)<p_.I)) (idxn a6 a2 λb2=>cond (decide (b2=(-1:Int))) (idxn a6 a2 λb3=>idxn a7 a2 λb4=>chk (inR ((a2:Int)+1)) (some (.inl ((List.set a6 a2 (a8:Int)),(List.set a7 a2 out_),(a2+1))))) (chk (inR ((a2:Int)+1)) (some (.inl (a6,a7,(a2+1)))))) (some (.inr (a6,a7)))
def U4.k19(a2 a6:A4)(a7:Nat)(a8 b2:A2):Option ((A4×A4×Nat)⊕(A4×A4)):=chk (B5 (List.length a2+1) 24) (chk (B5 (List.length a6+1) 24) (some (.inl ((a2++[a8]),(a6++[b2]),(a7+1)))))
def U4.s20(p_:A8)(out_:Int)(a6 a7:A4)(a2:Nat):Option ((A4×A4×Nat)⊕(A4×A4)):=cond (decide ((a2:Int)<(p_.N.length:Int))) (idxn p_.N a2 λa8=>chk (B5 (List.length ([]:List Unit)+List.length a8) 8) (idxn p_.O a2 λb2=>chk (B5 (List.length ([]:List Unit)+List.length b2) 8) ((iter (λ(s:A2×A2×Nat)=>U4.s18 p_ out_ a2 s.1 s.2.1 s.2.2) fuel (([]++a8),([]++b2),0)).bind (λs=>U4.k19 a6 a7 a2 s.1 s.2)))) (some (.inr (a6,a7)))
def U4.k21(p_:A8)(a2 a6:A4):Option (B6×Int):=some ((⟨p_.I,p_.S,a2,a6⟩:B6),0)
def U4(p_:A8)(out_:Int):Option (B6×Int):=(bM p_).bind λa2=>cond (decide (a2≠0)) ((bM p_).bind λa6=>some ((⟨0,0,[],[]⟩:B6),a6)) ((cond (decide (out_<0)) (some true) (some (decide (1048576<out_)))).bind (λa7=>cond (a7) (some ((⟨0,0,[],[]⟩:B6),2)) (cond (decide (128<(p_.N.length:Int))) (some ((⟨0,0,[],[]⟩:B6),11)) ((iter (λ(s:A4×A4×Nat)=>U4.s20 p_ out_ s.1 s.2.1 s.2.2) fuel ([],[],0)).bind (λs=>U4.k21 p_ s.1 s.2)))))
def R3.s89(m_:B6)(class_:A2)(a6:Nat)(a7:Int)(same5139:Bool)(a2:Nat):Option ((Bool×Nat)⊕Bool):=(cond (decide ((a2:Int)<m_.I)) (some same5139) (some false)).bind (λa8=>cond (a8) (idxn m_.O a6 λb2=>idxn b2 a2 λb3=>idx m_.O a7 λb4=>idxn b4 a2 λb5=>cond (decide (b3=b5)) (idxn m_.N a6 λb6=>idxn b6 a2 λb7=>idx class_ b7 λb8=>idx m_.N a7 λb9=>idxn b9 a2 λc0=>idx class_ c0 λc6=>chk (inR ((a2:Int)+1)) (some (.inl (decide (b8=c6),(a2+1))))) (chk (inR ((a2:Int)+1)) (some (.inl (false,(a2+1)))))) (some (.inr same5139)))
def R3.s90(m_:B6)(class_ a7:A2)(a6:Nat)(found4903 a2:Int):Option ((Int×Int)⊕Int):=cond (decide (0<=a2)) (idxn class_ a6 λa8=>idx class_ a2 λb2=>(iter (λ(s:Bool×Nat)=>R3.s89 m_ class_ a6 a2 s.1 s.2) fuel (decide (a8=b2),0)).bind (λsame5119=>cond (same5119) (idx a7 a2 λb3=>chk (inR (a2-1)) (some (.inl (b3,(a2-1))))) (chk (inR (a2-1)) (some (.inl (found4903,(a2-1))))))) (some (.inr found4903))
def R3.k91(a2:A2)(a6 count5200:Nat)(found5201:Int):Option ((A2×Nat×Nat)⊕A2):=chk (B5 (List.length a2+1) 8) (some (.inl ((a2++[found5201]),count5200,(a6+1))))
def R3.s92(m_:B6)(class_ a6:A2)(count3444 a2:Nat):Option ((A2×Nat×Nat)⊕A2):=cond (decide ((a2:Int)<(class_.length:Int))) ((iter (λ(s:Int×Int)=>R3.s90 m_ class_ a6 a2 s.1 s.2) fuel ((-1:Int),((a2:Int)-1))).bind (λfound4761=>(cond (decide (found4761<0)) (chk (inR ((count3444:Int)+1)) (some ((count3444+1),(count3444:Int)))) (some (count3444,found4761)):Option (Nat×Int)).bind (λs=>R3.k91 a6 a2 s.1 s.2))) (some (.inr a6))
def R3(m_:B6)(class_:A2):Option A2:=(iter (λ(s:A2×Nat×Nat)=>R3.s92 m_ class_ s.1 s.2.1 s.2.2) fuel ([],0,0)).bind (λa2=>some a2)
def cM.s2(m_:B6)(s_:Int)(a2:Nat):Option (Nat⊕(Unit⊕Int)):=cond (decide ((a2:Int)<m_.I)) ((idx m_.N s_ λa6=>idxn a6 a2 λa7=>cond (decide (a7<0)) (some true) (idx m_.N s_ λa8=>idxn a8 a2 λb2=>cond (decide ((m_.N.length:Int)<=b2)) (some true) (idx m_.O s_ λb3=>idxn b3 a2 λb4=>cond (decide (b4<0)) (some true) (idx m_.O s_ λb5=>idxn b5 a2 λb6=>some (decide (1048576<b6)))))).bind (λb7=>cond (b7) (some (.inr (.inr 2))) (chk (inR ((a2:Int)+1)) (some (.inl (a2+1)))))) (some (.inr (.inl ())))
def cM(m_:B6)(s_:Int):Option Int:=(idx m_.N s_ λa2=>cond (decide ((a2.length:Int)≠m_.I)) (some true) (idx m_.O s_ λa6=>some (decide ((a6.length:Int)≠m_.I)))).bind (λa7=>cond (a7) (some 1) ((iter (λ(s:Nat)=>cM.s2 m_ s_ s) fuel 0).bind (Sum.elim (λ_=>some 0) some)))
def Y7.s2(m_:B6)(a2:Nat):Option (Nat⊕(Unit⊕Int)):=cond (decide ((a2:Int)<(m_.N.length:Int))) ((cM m_ (a2:Int)).bind λa6=>cond (decide (a6≠0)) (some (.inr (.inr a6))) (some (.inl (a2+1)))) (some (.inr (.inl ())))
def Y7(m_:B6):Option Int:=(cond (decide (m_.I<1)) (some true) (some (decide (64<m_.I)))).bind (λa2=>cond (a2) (some 2) (cond (decide ((m_.N.length:Int)=0)) (some 19) (cond (decide (128<(m_.N.length:Int))) (some 11) ((cond (decide (m_.S<0)) (some true) (some (decide ((m_.N.length:Int)<=m_.S)))).bind (λa6=>cond (a6) (some 2) (cond (decide ((m_.O.length:Int)≠(m_.N.length:Int))) (some 1) ((iter (λ(s:Nat)=>Y7.s2 m_ s) fuel 0).bind (Sum.elim (λ_=>some 0) some))))))))
def fK.s2(m_:B6)(k_:Int)(class94:A2)(a2:Nat):Option ((A2×Nat)⊕A2):=(cond (decide ((a2:Int)<k_)) (some (decide ((a2:Int)<(m_.N.length:Int)))) (some false)).bind (λa6=>cond (a6) ((R3 m_ class94).bind λa7=>chk (inR ((a2:Int)+1)) (some (.inl (a7,(a2+1))))) (some (.inr class94)))
def fK(m_:B6)(k_:Int):Option (A2×Int):=(Y7 m_).bind λa2=>cond (decide (a2≠0)) (some ([],a2)) (chk ((0:Int)<=(m_.N.length:Int)/\(m_.N.length:Int)<=(m_.N.length:Int)/\B5 (Int.toNat (m_.N.length:Int)) 8) ((iter (λ(s:A2×Nat)=>fK.s2 m_ k_ s.1 s.2) fuel ((List.replicate m_.N.length (0:Int)),0)).bind (λclass85=>some (class85,0))))
def oU(m_:B6):Option (A2×Int):=(fK m_ (m_.N.length:Int)).bind λa2=>some (a2.1,a2.2)
def O4.s2(a2:A2)(a6:Nat):Option ((A2×Nat)⊕A2):=cond (decide ((a6:Int)<(a2.length:Int))) (idxn a2 a6 λa7=>some (.inl ((List.set a2 a6 (-1:Int)),(a6+1)))) (some (.inr a2))
def O4.k55(m_:B6)(c0:A2×Int)(b3:Nat)(a6 a7:A2)(a2:Nat)(b4:Int)(a8 b2:A2):Option ((A2×A2×A2×A2×Nat)⊕(A2×A2×A2×A2)):=idx c0.1 b4 λb5=>idx b2 b5 λb6=>chk (B5 (List.length a6+1) 8) (idxn a8 b3 λb7=>idx m_.O b7 λb8=>idxn b8 a2 λb9=>chk (B5 (List.length a7+1) 8) (chk (inR ((a2:Int)+1)) (some (.inl (a8,b2,(a6++[b6]),(a7++[b9]),(a2+1))))))
def O4.s56(m_:B6)(c0:A2×Int)(b2:Nat)(a2 a6 b3 b4:A2)(a8:Nat):Option ((A2×A2×A2×A2×Nat)⊕(A2×A2×A2×A2)):=cond (decide ((a8:Int)<m_.I)) (idxn a2 b2 λb6=>idx m_.N b6 λb7=>idxn b7 a8 λa7=>(idx c0.1 a7 λb8=>idx a6 b8 λb9=>cond (decide (b9<0)) (idx c0.1 a7 λb5=>idx a6 b5 λc6=>chk (B5 (List.length a2+1) 8) (some ((a2++[a7]),(List.set a6 b5.toNat (a2.length:Int))))) (some (a2,a6)):Option (A2×A2)).bind (λs=>O4.k55 m_ c0 b2 b3 b4 a8 a7 s.1 s.2)) (some (.inr (a2,a6,b3,b4)))
def O4.k57(a2 a6:A4)(a7:Nat)(a8 b2 b3 b4:A2):Option ((A2×A2×A4×A4×Nat)⊕(A4×A4)):=chk (B5 (List.length a2+1) 24) (chk (B5 (List.length a6+1) 24) (some (.inl (a8,b2,(a2++[b3]),(a6++[b4]),(a7+1)))))
def O4.s58(m_:B6)(b3:A2×Int)(a6 b2:A2)(a7 a8:A4)(a2:Nat):Option ((A2×A2×A4×A4×Nat)⊕(A4×A4)):=cond (decide ((a2:Int)<(a6.length:Int))) ((iter (λ(s:A2×A2×A2×A2×Nat)=>O4.s56 m_ b3 a2 s.1 s.2.1 s.2.2.1 s.2.2.2.1 s.2.2.2.2) fuel (a6,b2,[],[],0)).bind (λs=>O4.k57 a7 a8 a2 s.1 s.2.1 s.2.2.1 s.2.2.2)) (some (.inr (a7,a8)))
def O4.k59(m_:B6)(a2 a6:A4):Option (B6×Int):=some ((⟨m_.I,0,a2,a6⟩:B6),0)
def O4(m_:B6):Option (B6×Int):=(oU m_).bind λa2=>cond (decide (a2.2≠0)) (some ((⟨0,0,[],[]⟩:B6),a2.2)) (chk ((0:Int)<=(m_.N.length:Int)/\(m_.N.length:Int)<=(m_.N.length:Int)/\B5 (Int.toNat (m_.N.length:Int)) 8) ((iter (λ(s:A2×Nat)=>O4.s2 s.1 s.2) fuel ((List.replicate m_.N.length (0:Int)),0)).bind (λa6=>idx a2.1 m_.S λa7=>idx a6 a7 λa8=>(iter (λ(s:A2×A2×A4×A4×Nat)=>O4.s58 m_ a2 s.1 s.2.1 s.2.2.1 s.2.2.2.1 s.2.2.2.2) fuel ([m_.S],(List.set a6 a7.toNat 0),[],[],0)).bind (λs=>O4.k59 m_ s.1 s.2))))
def bZ.s2(m_:B6)(w_:A2)(s90:Int)(a6:A2)(a2:Nat):Option ((Int×A2×Nat)⊕(Int×A2)):=cond (decide ((a2:Int)<(w_.length:Int))) (idx m_.O s90 λa7=>idxn w_ a2 λa8=>idx a7 a8 λb2=>chk (B5 (List.length a6+1) 8) (idx m_.N s90 λb3=>idxn w_ a2 λb4=>idx b3 b4 λb5=>some (.inl (b5,(a6++[b2]),(a2+1))))) (some (.inr (s90,a6)))
def bZ.k3(a2:Int)(a6:A2):Option (A2×Int):=some (a6,a2)
def bZ(m_:B6)(s_:Int)(w_:A2):Option (A2×Int):=(iter (λ(s:Int×A2×Nat)=>bZ.s2 m_ w_ s.1 s.2.1 s.2.2) fuel (s_,[],0)).bind (λs=>bZ.k3 s.1 s.2)
def nZ(m_:B6)(s_:Int)(w_:A2):Option (A2×Int×Int):=(Y7 m_).bind λa2=>cond (decide (a2≠0)) (some ([],0,a2)) ((cond (decide (s_<0)) (some true) (some (decide ((m_.N.length:Int)<=s_)))).bind (λa8=>cond (a8) (some ([],0,2)) ((dK w_ m_.I).bind λa6=>cond (decide (a6≠0)) (some ([],0,a6)) ((bZ m_ s_ w_).bind λa7=>some (a7.1,a7.2,0)))))
def nY(m_:B6)(s_:Int)(w_:A2):Option A2:=(nZ m_ s_ w_).bind λa2=>some a2.1
def gL.s2(a_ b_:A2)(a2:Nat):Option (Nat⊕(Unit⊕Bool)):=cond (decide ((a2:Int)<(a_.length:Int))) (idxn a_ a2 λa6=>idxn b_ a2 λa7=>cond (decide (a6≠a7)) (some (.inr (.inr false))) (some (.inl (a2+1)))) (some (.inr (.inl ())))
def gL(a_ b_:A2):Option Bool:=cond (decide ((a_.length:Int)≠(b_.length:Int))) (some false) ((iter (λ(s:Nat)=>gL.s2 a_ b_ s) fuel 0).bind (Sum.elim (λ_=>some true) some))
def sN(m_:B6)(s_ t_:Int)(w_:A2):Option Bool:=(nY m_ s_ w_).bind λa2=>(nY m_ t_ w_).bind λa6=>(gL a2 a6).bind λa7=>some (!a7)
def gD.s2(m_:B6)(s_ t_:Int)(words_:A4)(a2:Nat):Option (Nat⊕(Unit⊕Bool)):=cond (decide ((a2:Int)<(words_.length:Int))) (idxn words_ a2 λa6=>(sN m_ s_ t_ a6).bind λa7=>cond (a7) (some (.inr (.inr true))) (some (.inl (a2+1)))) (some (.inr (.inl ())))
def gD(m_:B6)(s_ t_:Int)(words_:A4):Option Bool:=(iter (λ(s:Nat)=>gD.s2 m_ s_ t_ words_ s) fuel 0).bind (Sum.elim (λ_=>some false) some)
def oS(m_:B6):Option Bool:=(O4 m_).bind λa2=>(cond (decide (a2.2=0)) (some (decide ((a2.1.N.length:Int)=(m_.N.length:Int)))) (some false)).bind (λa6=>some a6)
def oF(m_:B6):Option Int:=(Y7 m_).bind λa2=>cond (decide (a2≠0)) (some a2) ((oS m_).bind λa6=>cond ((!a6)) (some 1) (some 0))
def oZ(w_:A2)(a_:Int):Option A2:=chk (B5 w_.length 8) (chk (B5 (List.length w_+1) 8) (some (w_++[a_])))
def W2.s84(a6:List Y9)(a7 a8:Int)(known2308:Bool)(a2:Nat):Option ((Bool×Nat)⊕Bool):=cond (decide ((a2:Int)<(a6.length:Int))) (cond (known2308) (some (.inl (true,(a2+1)))) (idxn a6 a2 λb2=>cond (decide (b2.S=a7)) (idxn a6 a2 λb3=>some (.inl (decide (b3.T=a8),(a2+1)))) (some (.inl (false,(a2+1)))))) (some (.inr known2308))
def W2.s85(a_ b_:B6)(a7:Nat)(a2:List Y9)(a6:Nat):Option ((List Y9×Nat)⊕(List Y9⊕((List Y9×Nat)⊕(Unit⊕(A2×Bool))))):=cond (decide ((a6:Int)<a_.I)) (idxn a2 a7 λb4=>(oZ b4.Word (a6:Int)).bind λa8=>idxn a2 a7 λb5=>idx a_.O b5.S λb6=>idxn b6 a6 λb7=>idxn a2 a7 λb8=>idx b_.O b8.T λb9=>idxn b9 a6 λc0=>cond (decide (b7≠c0)) (some (.inr (.inr (.inr (.inr (a8,true)))))) (idxn a2 a7 λc6=>idx a_.N c6.S λc7=>idxn c7 a6 λb2=>idxn a2 a7 λc8=>idx b_.N c8.T λc9=>idxn c9 a6 λb3=>(iter (λ(s:Bool×Nat)=>W2.s84 a2 b2 b3 s.1 s.2) fuel (false,0)).bind (λknown2303=>cond ((!known2303)) (chk (B5 (List.length a2+1) 40) (chk (inR ((a6:Int)+1)) (some (.inl ((a2++[(⟨b2,b3,a8⟩:Y9)]),(a6+1)))))) (chk (inR ((a6:Int)+1)) (some (.inl (a2,(a6+1)))))))) (some (.inr (.inl a2)))
def W2.s86(a_ b_:B6)(a6:List Y9)(a2:Nat):Option ((List Y9×Nat)⊕(Unit⊕(A2×Bool))):=cond (decide ((a2:Int)<(a6.length:Int))) ((iter (λ(s:List Y9×Nat)=>W2.s85 a_ b_ a2 s.1 s.2) fuel (a6,0)).bind (Sum.elim (λa7=>some (.inl (a7,(a2+1)))) some)) (some (.inr (.inl ())))
def W2(a_ b_:B6)(s_ t_:Int):Option (A2×Bool):=(iter (λ(s:List Y9×Nat)=>W2.s86 a_ b_ s.1 s.2) fuel ([(⟨s_,t_,[]⟩:Y9)],0)).bind (Sum.elim (λ_=>some ([],false)) some)
def oJ(m_:B6)(s_ t_:Int):Option (A2×Bool×Int):=(Y7 m_).bind λa2=>cond (decide (a2≠0)) (some ([],false,a2)) ((cond (decide (s_<0)) (some true) (cond (decide ((m_.N.length:Int)<=s_)) (some true) (cond (decide (t_<0)) (some true) (some (decide ((m_.N.length:Int)<=t_)))))).bind (λa7=>cond (a7) (some ([],false,2)) ((W2 m_ m_ s_ t_).bind λa6=>some (a6.1,a6.2,0))))
def bF.s13(m_:B6)(a7:Nat)(a2:A4)(a6:Nat):Option ((A4×Nat)⊕A4):=cond (decide ((a6:Int)<(m_.N.length:Int))) ((gD m_ (a7:Int) (a6:Int) a2).bind λa8=>cond ((!a8)) ((oJ m_ (a7:Int) (a6:Int)).bind λb2=>chk (B5 (List.length a2+1) 24) (some (.inl ((a2++[b2.1]),(a6+1))))) (some (.inl (a2,(a6+1))))) (some (.inr a2))
def bF.s14(m_:B6)(a6:A4)(a2:Nat):Option ((A4×Nat)⊕A4):=cond (decide ((a2:Int)<(m_.N.length:Int))) ((iter (λ(s:A4×Nat)=>bF.s13 m_ a2 s.1 s.2) fuel (a6,(a2+1))).bind (λa7=>some (.inl (a7,(a2+1))))) (some (.inr a6))
def bF(m_:B6):Option (A4×Int):=(oF m_).bind λa7=>cond (decide (a7≠0)) (some ([],a7)) ((iter (λ(s:A4×Nat)=>bF.s14 m_ s.1 s.2) fuel ([],0)).bind (λa2=>(fJ a2).bind λa6=>some (a6,0)))
def gC.s2(parts_:A4)(a2:A2)(a6:Nat):Option ((A2×Nat)⊕A2):=cond (decide ((a6:Int)<(parts_.length:Int))) (idxn parts_ a6 λa7=>chk (B5 (List.length a2+List.length a7) 8) (some (.inl ((a2++a7),(a6+1))))) (some (.inr a2))
def gC(parts_:A4):Option A2:=(iter (λ(s:A2×Nat)=>gC.s2 parts_ s.1 s.2) fuel ([],0)).bind (λa2=>some a2)
def S9.s89(a6:A2)(a7:Int)(seen1663:Bool)(a2:Nat):Option ((Bool×Nat)⊕Bool):=cond (decide ((a2:Int)<(a6.length:Int))) (cond (seen1663) (some (.inl (true,(a2+1)))) (idxn a6 a2 λa8=>some (.inl (decide (a8=a7),(a2+1))))) (some (.inr seen1663))
def S9.s90(p_:A8)(b2:Nat)(a7:A4)(a6:A2)(a2:Nat):Option ((A4×A2×Nat)⊕(A4×A2)):=cond (decide ((a2:Int)<p_.I)) (idxn a6 b2 λb3=>idx p_.N b3 λb4=>idxn b4 a2 λa8=>(iter (λ(s:Bool×Nat)=>S9.s89 a6 a8 s.1 s.2) fuel (decide (a8=(-1:Int)),0)).bind (λseen1659=>cond ((!seen1659)) (chk (B5 (List.length a6+1) 8) (idxn a7 b2 λb5=>(gC [b5,[(a2:Int)]]).bind λb6=>chk (B5 (List.length a7+1) 24) (chk (inR ((a2:Int)+1)) (some (.inl ((a7++[b6]),(a6++[a8]),(a2+1))))))) (chk (inR ((a2:Int)+1)) (some (.inl (a7,a6,(a2+1))))))) (some (.inr (a7,a6)))
def S9.k91(a2:Nat)(a6:A4)(a7:A2):Option ((A4×A2×Nat)⊕A4):=some (.inl (a6,a7,(a2+1)))
def S9.s92(p_:A8)(a6:A4)(a7:A2)(a2:Nat):Option ((A4×A2×Nat)⊕A4):=cond (decide ((a2:Int)<(a7.length:Int))) ((iter (λ(s:A4×A2×Nat)=>S9.s90 p_ a2 s.1 s.2.1 s.2.2) fuel (a6,a7,0)).bind (λs=>S9.k91 a2 s.1 s.2)) (some (.inr a6))
def S9(p_:A8):Option A4:=(iter (λ(s:A4×A2×Nat)=>S9.s92 p_ s.1 s.2.1 s.2.2) fuel ([[]],[p_.S],0)).bind (λa2=>some a2)
def fE.s2(o_:I4)(a6:A4)(a2:Nat):Option ((A4×Nat)⊕A4):=cond (decide ((a2:Int)<o_.I)) (chk (B5 (List.length a6+1) 24) (chk (inR ((a2:Int)+1)) (some (.inl ((a6++[[(a2:Int)]]),(a2+1)))))) (some (.inr a6))
def fE(o_:I4):Option (aJ×Int):=(N4 o_).bind λa2=>cond (decide (a2.2≠0)) (some ((⟨0,[],[]⟩:aJ),a2.2)) ((U4 a2.1 0).bind λa6=>cond (decide (a6.2≠0)) (some ((⟨0,[],[]⟩:aJ),a6.2)) ((O4 a6.1).bind λa7=>(bF a7.1).bind λa8=>(iter (λ(s:A4×Nat)=>fE.s2 o_ s.1 s.2) fuel ([],0)).bind (λb2=>(S9 a2.1).bind λb3=>(gJ [b2,a8.1]).bind λb4=>some ((⟨o_.I,b3,b4⟩:aJ),0))))
def pL(o_:I4):Option Bool:=((fH o_).bind λb2=>cond (b2) (some true) ((gG o_).bind λb3=>some (decide (b3≠0)))).bind (λb4=>cond (b4) ((lW).bind λb5=>some b5) ((U6 o_).bind λa2=>(N4 o_).bind λa6=>(cP o_).bind λa7=>(fE o_).bind λa8=>((lP a2.1 a6.1).bind λb6=>cond (b6) (cond (decide (a2.2=a6.2)) ((mR a7.1 a8.1).bind λb7=>cond (b7) (cond (decide (a7.2=a8.2)) ((lW).bind λb8=>some b8) (some false)) (some false)) (some false)) (some false)).bind (λb9=>some b9)))
section
section
variable {S R A B V G:Type}
def H4{step:S->Option (S⊕R)}(I:S->Prop)(m:S->Nat)(Q:R->Prop)(h:∀s,I s->(∃s',step s=some (.inl s')/\I s'/\m s'<m s)\/∃r,step s=some (.inr r)/\Q r) :
  ∀(n:Nat) (s:S),I s->m s<n->∃r,iter step n s=some r/\Q r
 |0,_,_,hm=>absurd hm (N9 _)
 |n+1,s,hi,hm=>by
  unfold iter;rcases h s hi with⟨s',e,hi',hm'⟩|⟨r,e,hq⟩
  ·rw[e];exact H4 I m Q h n s' hi' (by omega)
  ·rw[e];exact⟨r,rfl,hq⟩
def S1{step:S->Option (S⊕R)}{r:R}(I:S->Prop)(m:S->Nat)(h:∀s,I s->(∃s',step s=some (.inl s')/\I s'/\m s'<m s)\/step s=some (.inr r)){n:Nat}{s:S}(hi:I s)(hm:m s<n):iter step n s=some r:=by
 obtain⟨r',e,rfl⟩:=H4 I m (λr'=>r'=r) (λs hs=>(h s hs).imp id λe=>⟨r,e,rfl⟩) n s hi hm;exact e
def walk(g:A->Nat->V->Option (A⊕R))(fin:A->Option R):A->Nat->List V->Option R
 |a,_,[]=>fin a
 |a,i,x::l=>(g a i x).bind (Sum.elim (λa'=>walk g fin a' (i+1) l) some)
def B4{l:List V}{i:Nat}{x:V}{k:V->Option G}(h:l[i]?=some x):idxn l i k=k x:=by unfold idxn;rw[h]
def D6{l:List V}{n:Int}{i:Nat}{x:V}{k:V->Option G}(hn:n=(i:Int))(h:l[i]?=some x):idx l n k=k x:=by
 subst hn;unfold idx;rw[if_pos (by omega),I7,h]
def H1{c:Prop}[Decidable c]{k:Option V}(h:c):chk c k=k:=by unfold chk;rw[if_pos h]
def K3{V:Type _}{c:Prop}[Decidable c]{k:Option V}(h:c:=by unfold inR;omega):chk c k=k:=H1 h
def Q1{V:Type _}{c:Prop}[Decidable c]{k:Option V}(h:c:=by unfold B5;omega):chk c k=k:=H1 h
def A5{a:V}{f:V->Option G}:(some a).bind f=f a:=(V3 a f).trans (Eq.trans rfl rfl)
def E6:100000000000000<fuel:=by unfold fuel;omega
def O3{l:List V}{i:Nat}{x:V}(h:l[i]?=some x):decide ((i:Int)<(l.length:Int))=true:=by
 have:=(F6.1 h).1;simpa using this
def bY(l:List V):decide ((l.length:Int)<(l.length:Int))=false:=by simp
def scan(g:Nat->V->Option R):Nat->List V->Option R
 |_,[]=>none
 |i,x::l=>match g i x with|some r=>some r|none=>scan g (i+1) l
def eG{g:Nat->V->Option R}:∀{l:List V} {j:Nat},scan g j l=none↔∀i x,l[i]?=some x->g (j+i) x=none
 |[],j=>by simp[scan]
 |y::l,j=>by
  constructor
  ·intro h i x hx;unfold scan at h;cases e:g j y with
   |some r=>rw[e]at h;cases h
   |none =>
    rw[e]at h
    match i,hx with
    |0,hx =>
     simp at hx;subst hx;exact e
    |i+1,hx =>
     have:=(eG (g:=g) (l:=l) (j:=j+1)).1 h i x (by simpa using hx)
     rwa [show j+1+i=j+(i+1) by omega]at this
  ·intro h;unfold scan;have h0:=h 0 y rfl;rw[Y0]at h0;rw[h0]
   exact(eG (g:=g) (l:=l) (j:=j+1)).2 λi x hx=>by
    have:=h (i+1) x (by simpa using hx)
    rwa [show j+(i+1)=j+1+i by omega]at this
def Z8{step:Nat->Option (Nat⊕(Unit⊕R))}{l:List V}(g:Nat->V->Option R)(h1:∀i x,l[i]?=some x->step i=some (match g i x with|some r=>.inr (.inr r)|none=>.inl (i+1)))(h2:step l.length=some (.inr (.inl ())))(hl:l.length<=100000000000000) :
  iter step fuel 0=some (match scan g 0 l with|some r=>.inr r|none=>.inl ()):=by
 have key:∀(n i:Nat),i<=l.length->l.length-i<n->iter step n i=some (match scan g i (l.drop i) with|some r=>.inr r|none=>.inl ()):=by
  intro n
  induction n with
  |zero=>intro i _ h;omega
  |succ n ih =>
   intro i hi hn;rcases K4 i l.length with h|h
   ·rw[eW h];unfold iter scan;rw[h1 i _ (L1 h)];cases g i l[i]with
    |some r=>rfl
    |none=>exact ih (i+1) h (by omega)
   ·have e:i=l.length:=by omega
    subst e;rw[tE];unfold iter scan;rw[h2]
 exact key fuel 0 (D9 _) (by have:=E6;omega)
end
end
def CF(x y:Int):cmp_Compare_int x y=some (cmpI x y):=by
 unfold cmp_Compare_int cmp_isNaN_int cmpI;by_cases h1:x<y
 ·simp[h1]
 ·by_cases h2:y<x<;>simp[h1,h2]
def BW(s t:A2)(hs:s.length<=100000000000000):fN s t=some (lexI s t):=by
 have key:=H4 (step:=λk=>fN.s2 s t k) (λk=>k<=s.length/\k<=t.length/\lexI s t=lexI (s.drop k) (t.drop k)) (λk=>s.length-k)
  (λr=>Sum.elim (λ(_:Unit)=>cond (decide ((s.length:Int)<(t.length:Int))) (some (-1:Int)) (some 0)) some r=some (lexI s t)) (λk ⟨h1,h2,h3⟩=>by
   unfold fN.s2
   rcases K4 k s.length with h|h
   ·have hx:=L1 h
    rw[O3 hx,F8,B4 hx]
    by_cases h4:t.length<=k
    ·right
     refine⟨.inr 1,by simp[h4],?_⟩
     rw[h3,lexI_long h h4]
     rfl
    ·have hy:=L1 (show k<t.length by omega)
     have a0:=lexI_step hx hy
     have d4:decide ((t.length:Int)<=(k:Int))=false:=by simp;omega
     rw[d4,G0,B4 hy,CF]
     by_cases h5:cmpI s[k] t[k]=0
     ·left
      rw[if_pos h5]at a0
      exact⟨k+1,by simp[h5],⟨by omega,by omega,by rw[h3,a0]⟩,by omega⟩
     ·right
      rw[if_neg h5]at a0
      exact⟨.inr (cmpI s[k] t[k]),by simp[h5],by rw[h3,a0];rfl⟩
   ·right
    have e:k=s.length:=by omega
    subst e
    rw[bY,G0]
    refine⟨.inl (),rfl,?_⟩
    rw[h3,lexI_end (H0 _)]
    by_cases h4:s.length<t.length<;>simp[h4]) fuel 0 ⟨D9 _,D9 _,rfl⟩ (by have:=E6;simp only[pU];omega)
 obtain⟨r,e,hq⟩:=key;unfold fN;rw[e];exact hq
def cmp_Or_two(x y:Int):eF [x,y]=some (if x≠0 then x else y):=by
 unfold eF;have e:fuel=(fuel-3)+1+1+1:=by unfold fuel;omega
 rw[e];by_cases h1:x=0
 ·by_cases h2:y=0
  ·simp[iter,eF.s2,idxn,h1,h2]
  ·simp[iter,eF.s2,idxn,h1,h2]
 ·simp[iter,eF.s2,idxn,h1]
def yY(s t:A2)(hs:s.length<=100000000000000):word_Lex s t=some (lexI s t):=by
 unfold word_Lex;rw[BW s t hs];rfl
def wK(s t:A2)(hs:s.length<=100000000000000):iI s t=some (cmpW s t):=by
 unfold iI;rw[BW s t hs,CF];show(eF [cmpI s.length t.length,lexI s t]).bind some=_;rw[cmp_Or_two];show some _=some _;congr 1;unfold cmpI cmpW;by_cases h1:s.length<t.length
 ·simp[h1]
 ·by_cases h2:t.length<s.length
  ·simp[h1,h2]
  ·simp[h1,h2]
def zo9:CmpE Tryz.prog 130 (λx=>nL cI x) (λx y=>iI x y) :=
 ⟨λargs w=>eH rfl rfl rfl args w,cmpG_compare λx y r hx h=>by rw[wK x y (by omega)]at h;injection h with h;exact h.symm⟩
def zm9:CmpE Tryz.prog 142 (λx=>.agg (M8 x)) (λx y=>gQ x y) :=
 ⟨λargs w=>eH rfl rfl rfl args w,cmpG_fits1 (T:=I0) (i:=λx=>x.In) (o:=λx=>x.O) (f:=λx y=>gQ x y) (λ_=>rfl) λx y r hx h=>by
  simp only[gQ]at h
  rw[yY _ _ (by omega)]at h
  injection h with h
  exact h.symm⟩
section
section
variable {V G R:Type}
def get_at{l:List V}{i:Nat}(h:i<l.length):l[i]?=some l[i]:=L1 h
def iter_all2[DecidableEq V]{a b:List V}{step:Nat->Option (Nat⊕(Unit⊕Bool))}(hlen:a.length=b.length)(h1:∀i x y,a[i]?=some x->b[i]?=some y->step i=some (if x=y then .inl (i+1) else .inr (.inr false)))
  (h2:step a.length=some (.inr (.inl ()))) (hl:a.length<=100000000000000):(iter step fuel 0).bind (Sum.elim (λ_=>some true) some)=some (decide (a=b)):=by
 rw[Z8 (l:=a) (λi x=>if b[i]?=some x then none else some false) (λi x hx=>?_) h2 hl]
 ·cases e:scan (λi x=>if b[i]?=some x then none else some false) 0 a with
  |none =>
   have:=eG.1 e
   have a0:a=b:=by
    apply aC;intro i;rcases K4 i a.length with h|h
    ·have h3:=this i _ (get_at h);rw[F7]at h3;split at h3
     ·rename_i h4;rw[get_at h,h4]
     ·cases h3
    ·rw[M2 h,M2 (by omega)]
   simp[a0]
  |some r =>
   have a2:a≠b:=λa0=>by
    subst a0;have:scan (λi x=>if a[i]?=some x then none else some false) 0 a=none:=eG.2 λi x hx=>by rw[F7,if_pos hx]
    rw[this]at e;cases e
   have hr:r=false:=by
    have key:∀(l:List V) (j:Nat),scan (λi x=>if b[i]?=some x then none else some false) j l=some r->r=false:=by
     intro l
     induction l with
     |nil=>intro j h;cases h
     |cons x l ih =>
      intro j h;unfold scan at h;split at h
      ·rename_i r' h3;injection h with h
       subst h;split at h3
       ·cases h3
       ·injection h3 with h3
        exact h3.symm
      ·exact ih _ h
    exact key a 0 e
   subst hr;simp[a2]
 ·have hi:=(F6.1 hx).1;have hy:=get_at (l:=b) (i:=i) (by omega);rw[h1 i x _ hx hy];by_cases h:x=b[i]'(by omega)
  ·rw[if_pos h,hy,if_pos (by rw[h])]
  ·rw[if_neg h,hy,if_neg (λh3=>h (by injection h3 with h3;exact h3.symm))]
end
def SmW(x:A2):Prop:=x.length<=2000000
def SmL(l:A4):Prop:=l.length<=2000000/\∀x∈l,SmW x
def R01_Size_eq(n:Int):nU n=some (decide (1<=n/\n<=1024)):=by
 unfold nU;by_cases h1:1<=n<;>by_cases h2:n<=1024<;>simp[h1,h2]
def zpd(n:Int):pC n=some (decide (1<=n/\n<=1024)):=by
 unfold pC;by_cases h1:1<=n<;>by_cases h2:n<=1024<;>simp[h1,h2]
def scan_all{V R:Type}{p:V->Bool}{r:R}:∀(l:List V) (j:Nat),scan (λ_ x=>if p x=true then none else some r) j l=if l.all p=true then none else some r
 |[],_=>rfl
 |x::l,j=>by
  unfold scan;by_cases h:p x=true
  ·simp only[h,if_true,wX,Bool.true_and];exact scan_all l (j+1)
  ·simp[h]
def vR(w:A2)(n:Int)(hl:SmW w):dK w n=some (W7 w n):=by
 unfold dK W7;rw[R01_Size_eq];by_cases h1:1<=n/\n<=1024
 ·rw[if_pos h1];simp only[V3,h1,and_self,decide_true,aS,G0];by_cases h2:1024<w.length
  ·rw[if_pos h2,show decide ((1024:Int)<(w.length:Int))=true from G7 (by omega),F8]
  ·rw[if_neg h2,show decide ((1024:Int)<(w.length:Int))=false from J0 (by omega),G0]
   have key:=Z8 (step:=λs=>dK.s2 w n s) (l:=w) (λ_ x=>if decide (0<=x/\x<n)=true then none else some (1:Int)) (λi x hx=>by
    simp only[dK.s2]
    rw[O3 hx,F8,B4 hx,B4 hx]
    by_cases a1:x<0
    ·simp[a1,show ¬(0<=x) by omega]
    ·by_cases a2:n<=x
     ·simp[a1,a2,show ¬(x<n) by omega]
     ·simp[a1,a2,show 0<=x by omega,show x<n by omega]) (by
    simp only[dK.s2]
    rw[bY]
    rfl) (by unfold SmW at hl;omega)
   rw[key,scan_all (p:=λx=>decide (0<=x/\x<n))];by_cases h:(w.all λx=>decide (0<=x/\x<n))=true
   ·rw[if_pos h,if_pos h];rfl
   ·rw[if_neg h,if_neg h];rfl
 ·rw[if_neg h1];simp[h1]
def AW(w:A2)(n:Int)(hl:SmW w):mG w n=some (W7 w n):=by
 unfold mG W7 sU gU;rw[zpd];by_cases h1:1<=n/\n<=1024
 ·rw[if_pos h1];simp only[V3,h1,and_self,decide_true,aS,G0];by_cases h2:1024<w.length
  ·rw[if_pos h2,show decide ((1024:Int)<(w.length:Int))=true from G7 (by omega),F8]
  ·rw[if_neg h2,show decide ((1024:Int)<(w.length:Int))=false from J0 (by omega),G0]
   have key:=Z8 (step:=λs=>gU.s2 w (λu0=>mL u0 n) s) (l:=w) (λi x=>if decide (0<=x/\x<n)=true then none else some (i:Int)) (λi x hx=>by
    simp only[gU.s2,mL]
    rw[O3 hx,F8,B4 hx]
    by_cases a1:x<0
    ·simp[a1,show ¬(0<=x) by omega]
    ·by_cases a2:n<=x
     ·simp[a1,a2,show ¬(x<n) by omega]
     ·simp[a1,a2,show 0<=x by omega,show x<n by omega]) (by
    simp only[gU.s2]
    rw[bY]
    rfl) (by unfold SmW at hl;omega)
   rw[key];cases e:scan (λi x=>if decide (0<=x/\x<n)=true then none else some (i:Int)) 0 w with
   |none =>
    have h3:=eG.1 e
    have h:(w.all λx=>decide (0<=x/\x<n))=true:=R4.2 λx hx=>by
     obtain⟨i,hi,rfl⟩:=dP.1 hx;have:=h3 i _ (get_at hi);split at this
     ·assumption
     ·cases this
    rw[if_pos h];simp
   |some r =>
    have h:¬(w.all λx=>decide (0<=x/\x<n))=true:=λh=>by
     have:scan (λi x=>if decide (0<=x/\x<n)=true then none else some (i:Int)) 0 w=none:=eG.2 λi x hx=>if_pos (R4.1 h x (I8 hx));rw[this]at e;cases e
    have hr:0<=r:=by
     have key:∀(l:A2) (j:Nat),scan (λi x=>if decide (0<=x/\x<n)=true then none else some (i:Int)) j l=some r->0<=r:=by
      intro l
      induction l with
      |nil=>intro j h;cases h
      |cons x l ih =>
       intro j h;unfold scan at h;split at h
       ·rename_i r' h3;injection h with h
        subst h;split at h3
        ·cases h3
        ·injection h3 with h3
         omega
       ·exact ih _ h
     exact key w 0 e
    rw[if_neg h];simp[hr]
 ·rw[if_neg h1];simp[h1]
def sE(a b:A2)(ha:SmW a):eE a b=some (G3 a b:Int):=by
 unfold eE;rw[S1 (r:=G3 a b) (λk=>k<=a.length/\G3 a b=G3 (a.drop k) (b.drop k)+k) (λk=>a.length-k) (λk ⟨h1,h2⟩=>?_) ⟨D9 _,by simp⟩ (by have:=E6;unfold SmW at ha;omega)]
 ·rfl
 ·simp only[eE.s2];rcases K4 k a.length with h|h
  ·have hx:=get_at h;rcases K4 k b.length with h'|h'
   ·have hy:=get_at h';rw[O3 hx,O3 hy,F8,F8,B4 hx,B4 hy];rw[eW h,eW h']at h2;by_cases e:a[k]=b[k]
    ·left;unfold SmW at ha;refine⟨k+1,?_,⟨h,?_⟩,by omega⟩
     ·rw[K3];simp[e]
     ·rw[h2,e];simp[G3];omega
    ·right;simp only[G3,e,if_false,F7]at h2;simp[e,h2]
   ·right;rw[O3 hx,F8,show decide ((k:Int)<(b.length:Int))=false by simp;omega];rw[vA (Or.inr h'),F7]at h2;simp[h2]
  ·right;rw[show decide ((k:Int)<(a.length:Int))=false by simp;omega];rw[vA (Or.inl h),F7]at h2;simp[h2]
def sB(a b:A2)(ha:SmW a):jC a b=some (decide (a=b)):=by
 unfold jC;rw[sE a b ha];have h:=same_iff a b;by_cases h1:a.length=b.length
 ·rw[show decide ((a.length:Int)=(b.length:Int))=true from G7 (by omega),F8];by_cases h2:G3 a b=a.length
  ·have:a=b:=h.1 ⟨h1,h2⟩;subst this;simp[rZ]
  ·have:a≠b:=λe=>h2 (h.2 e).2;simp only[V3,this,decide_false];rw[J0 (by omega)]
 ·have:a≠b:=λe=>h1 (by rw[e]);rw[show decide ((a.length:Int)=(b.length:Int))=false from J0 (by omega),G0];simp[this]
def R01_Lex_eq(a b:A2)(ha:SmW a):nK a b=some (lexI a b):=by
 unfold nK;rw[sE a b ha];have a2:=mA a b;have a0:=zW a b;rw[a0];simp only[V3];by_cases h1:G3 a b=a.length
 ·rw[show decide ((↑(G3 a b):Int)=↑a.length)=true from G7 (by omega),F8,F8];by_cases h2:G3 a b=b.length
  ·rw[show decide ((↑(G3 a b):Int)=↑b.length)=true from G7 (by omega),if_pos ⟨h1,h2⟩];rfl
  ·rw[show decide ((↑(G3 a b):Int)=↑b.length)=false from J0 (by omega),if_neg (λh=>h2 h.2),if_pos (Or.inl h1)];rfl
 ·rw[show decide ((↑(G3 a b):Int)=↑a.length)=false from J0 (by omega),G0,G0,if_neg (λh=>h1 h.1)];by_cases h2:G3 a b=b.length
  ·rw[show decide ((↑(G3 a b):Int)<(b.length:Int))=false from J0 (by omega),if_neg (λh=>by omega)];rfl
  ·have hx:=get_at (l:=a) (i:=G3 a b) (by omega);have hy:=get_at (l:=b) (i:=G3 a b) (by omega);rw[show decide ((↑(G3 a b):Int)<(b.length:Int))=true from G7 (by omega),F8,D6 rfl hx,D6 rfl hy];rw[dO,dO,hx,hy];by_cases h3:a[G3 a b]'(by omega)<b[G3 a b]'(by omega)
   ·rw[if_pos (Or.inr ⟨by omega,h3⟩)];simp[h3]
   ·rw[if_neg (λh=>by
     rcases h with h|⟨_,h⟩
     ·omega
     ·exact h3 h)]
    simp[h3]
def BF(a b:A2)(ha:SmW a):mH a b=some (cmpW a b):=by
 unfold mH cmpW;rw[R01_Lex_eq a b ha];by_cases h1:a.length<b.length
 ·rw[show decide ((a.length:Int)<(b.length:Int))=true from G7 (by omega),if_pos h1];rfl
 ·rw[show decide ((a.length:Int)<(b.length:Int))=false from J0 (by omega),if_neg h1,G0];by_cases h2:b.length<a.length
  ·rw[show decide ((b.length:Int)<(a.length:Int))=true from G7 (by omega),if_pos h2];rfl
  ·rw[show decide ((b.length:Int)<(a.length:Int))=false from J0 (by omega),if_neg h2];rfl
end
section
section
variable {O Z:Type}[BEq O]
def sL{k:O}{v:Z}(hb:∀a b:O,(a==b)=true↔a=b):∀m:List (O×Z),mget k (mset k v m)=some v
 |[]=>by
  unfold mset mget;rw[(hb k k).2 rfl]
 |p::m=>by
  unfold mset;cases h:k==p.1 with
  |true =>
   show mget k ((k,v)::m)=_;unfold mget;rw[(hb k k).2 rfl]
  |false =>
   show mget k (p::mset k v m)=_;unfold mget;rw[h];exact sL hb m
def mK{k k':O}{v:Z}(hb:∀a b:O,(a==b)=true↔a=b)(hne:¬k'=k):∀m:List (O×Z),mget k' (mset k v m)=mget k' m
 |[]=>by
  have e:(k'==k)=false:=by
   cases e:k'==k with
   |true=>exact absurd ((hb _ _).1 e) hne
   |false=>rfl
  unfold mset mget;simp only[e];rfl
 |p::m=>by
  unfold mset;cases h:k==p.1 with
  |true =>
   have e1:k=p.1:=(hb _ _).1 h;show mget k' ((k,v)::m)=mget k' (p::m)
   have e:(k'==k)=false:=by
    cases e:k'==k with
    |true=>exact absurd ((hb _ _).1 e) hne
    |false=>rfl
   unfold mget;rw[<- e1];simp only[e]
  |false =>
   show mget k' (p::mset k v m)=mget k' (p::m);unfold mget;rw[mK hb hne m]
end
def SmT(t:aJ):Prop:=inR t.I/\SmL t.P/\SmL t.X/\∀x∈t.P,∀a∈x,inR a
end

def check_mem{w:A2}{n:Int}(h:W7 w n=0):∀a∈w,0<=a/\a<n:=by
 unfold W7 at h;split at h
 ·split at h
  ·cases h
  ·split at h
   ·rename_i h3;intro a ha;exact of_decide_eq_true (R4.1 h3 a ha)
   ·cases h
 ·cases h
end Go.Proofs.YtkeplokjplkcmaaGreat.Sym
namespace Go.Proofs.YtkeplokjplkcmaaGreat
structure nT(cf:List Int->List Int->Int):Prop where
 range:∀a b,cf a b=-1\/cf a b=0\/cf a b=1
 zero:∀a b,cf a b=0↔a=b
 swap:∀a b,cf b a=- cf a b
 trans:∀a b c,cf a b=-1->cf b c=-1->cf a c=-1
def cmpW_total:nT cmpW:=⟨rQ,uR,tX,oO⟩
def N7(l:List (List Int)):List (List Int):=l.foldl (λacc x=>if acc.getLast?=some x then acc else acc++[x]) []
def zO(l:List (List Int))(x:List Int):N7 (l++[x])=if(N7 l).getLast?=some x then N7 l else N7 l++[x]:=by
 unfold N7;rw[List.foldl_append];rfl
def yX:∀(l acc:List (List Int)),(l.foldl (λacc x=>if acc.getLast?=some x then acc else acc++[x]) acc).getLast?=if l=[] then acc.getLast? else l.getLast?
 |[],acc=>by rw[if_pos rfl];rfl
 |x::l,acc=>by
  have hx:(if acc.getLast?=some x then acc else acc++[x]).getLast?=some x:=by
   split
   ·assumption
   ·simp
  rw[List.foldl_cons,yX l,if_neg (show ¬x::l=[] by simp)];cases l with
  |nil=>rw[if_pos rfl,hx];rfl
  |cons y l =>
   rw[if_neg (show ¬y::l=[] by simp),List.getLast?_cons_cons]
def dedupA_last(l:List (List Int)):(N7 l).getLast?=l.getLast?:=by
 unfold N7;rw[yX];split
 ·rename_i h;rw[h]
 ·rfl
def zV{l:List (List Int)}{k:Nat}{x y:List Int}(hy:l[k]?=some y)(hx:l[k+1]?=some x) :
  N7 (l.take (k+1+1))=if x=y then N7 (l.take (k+1)) else N7 (l.take (k+1))++[x]:=by
 rw[bC hx,zO,dedupA_last,bC hy];simp only[List.getLast?_append,List.getLast?_singleton,Option.some_or];by_cases h:y=x
 ·subst h;simp
 ·have h':¬x=y:=λe=>h e.symm;simp[h,h']
def AE{l:List (List Int)}(h:l.length<=1):N7 l=l:=by
 match l,h with
 |[],_=>rfl
 |[x],_=>rfl
def dedup_asc{cf:List Int->List Int->Int}(T:nT cf):∀{l:List (List Int)},l.Pairwise (λa b=>0<=cf b a)->(N7 l).Pairwise (λa b=>cf a b=-1)/\∀x,x∈N7 l↔x∈l:=by
 intro l
 -- from the end of the list
 suffices H:∀n (l:List (List Int)),l.length=n->l.Pairwise (λa b=>0<=cf b a)->(N7 l).Pairwise (λa b=>cf a b=-1)/\∀x,x∈N7 l↔x∈l from H _ l rfl
 intro n
 induction n with
 |zero =>
  intro l hl _;have:l=[]:=List.eq_nil_of_length_eq_zero hl;subst this;exact⟨List.Pairwise.nil,λx=>Iff.rfl⟩
 |succ n ih =>
  intro l hl hp
  obtain⟨m,x,rfl⟩:∃m x,l=m++[x]:=by
   have a0:l≠[]:=by intro e;rw[e]at hl;simp at hl
   exact⟨l.dropLast,l.getLast a0,(List.dropLast_concat_getLast a0).symm⟩
  have a5:m.length=n:=by simpa using hl
  rw[List.pairwise_append]at hp;obtain⟨a7,_,a4⟩:=hp;obtain⟨h1,h2⟩:=ih m a5 a7;rw[zO];by_cases h:(N7 m).getLast?=some x
  ·rw[if_pos h];refine⟨h1,λy=>?_⟩;have hx:x∈m:=(h2 x).1 (List.mem_of_getLast? h);rw[h2,List.mem_append,List.mem_singleton];constructor
   ·exact Or.inl
   ·rintro (h'|rfl)
    ·exact h'
    ·exact hx
  ·rw[if_neg h];refine⟨?_,λy=>by rw[List.mem_append,List.mem_append,h2]⟩;rw[List.pairwise_append];refine⟨h1,by simp,λa ha b hb=>?_⟩;rw[List.mem_singleton]at hb;subst hb;have a9:a∈m:=(h2 a).1 ha;have b2:0<=cf b a:=a4 a a9 b (by simp);have hr:=T.range b a;have b3:=T.swap b a;by_cases e:cf b a=0
   ·-- a would be the last one
    exfalso;have a6:b=a:=(T.zero _ _).1 e;subst a6
    -- the last of m is the greatest, and b is in m and not less than it
    have a0:N7 m≠[]:=λe=>by rw[e]at ha;cases ha
    have a8:=List.getLast?_eq_some_getLast a0;have a3:(N7 m).getLast a0∈m:=(h2 _).1 (List.getLast_mem a0);have h3:0<=cf b ((N7 m).getLast a0):=a4 _ a3 b (by simp);have a2:N7 m=(N7 m).dropLast++[(N7 m).getLast a0]:=(List.dropLast_concat_getLast a0).symm
    have h4:b=(N7 m).getLast a0\/cf b ((N7 m).getLast a0)=-1:=by
     rw[a2]at ha h1;rw[List.pairwise_append]at h1;rcases List.mem_append.1 ha with h5|h5
     ·exact Or.inr (h1.2.2 b h5 _ (by simp))
     ·exact Or.inl (List.mem_singleton.1 h5)
    rcases h4 with h4|h4
    ·exact h (by rw[a8,<- h4])
    ·omega
   ·omega
def dedupA_length(l:List (List Int)):(N7 l).length<=l.length:=by
 suffices H:∀(l acc:List (List Int)),(l.foldl (λacc x=>if acc.getLast?=some x then acc else acc++[x]) acc).length<=acc.length+l.length by
  simpa[N7]using H l []
 intro l
 induction l with
 |nil=>intro acc;simp
 |cons x l ih =>
  intro acc;rw[List.foldl_cons];refine Nat.le_trans (ih _) ?_;split
  ·simp
  ·simp;omega
def Y6(x:List Int):List (List Int):=(List.range (x.length+1)).map x.take
def suffixes(x:List Int):List (List Int):=(List.range (x.length+1)).map x.drop
def preL(l:List (List Int)):List (List Int):=l.flatMap Y6
def prefixes_take(x:List Int){j:Nat}(hj:j<=x.length):(Y6 x).take (j+1)=(Y6 x).take j++[x.take j]:=by
 have:(Y6 x)[j]?=some (x.take j):=by simp[Y6,List.getElem?_range (show j<x.length+1 by omega)]
 exact bC this
def pH(x:List Int):(Y6 x).length=x.length+1:=by simp[Y6]
def preL_step{l:List (List Int)}{k:Nat}{x:List Int}(h:l[k]?=some x):preL (l.take (k+1))=preL (l.take k)++Y6 x:=by rw[bC h];simp[preL]
def topB(all:List (List Int))(x:List Int):Bool:=all.all λy=>decide (y=x\/¬x <+: y)
def tailB(x:List Int)(l:List (List Int)):Bool:=l.all λy=>decide (y.length=x.length\/¬x <+: y)
def top_eq{all:List (List Int)}(hs:Asc all){k:Nat}{x:List Int}(hx:all[k]?=some x):tailB x (all.drop (k+1))=topB all x:=by
 rw[Bool.eq_iff_iff,tailB,topB,List.all_eq_true,List.all_eq_true];simp only[decide_eq_true_eq];constructor
 ·intro h y hy;obtain⟨i,hi⟩:=List.getElem?_of_mem hy;rcases Nat.lt_trichotomy i k with a0|a0|a0
  ·right;intro hp;have hc:=hs.get a0 hi hx;have hl:=hp.length_le
   have:x=y:=hp.eq_of_length_le (by
    unfold cmpW at hc
    split at hc
    ·omega
    ·split at hc
     ·omega
     ·omega)
   rw[this,kE]at hc;omega
  ·left;rw[a0,hx]at hi;injection hi with hi
   exact hi.symm
  ·have a2:y∈all.drop (k+1):=by
    have:(all.drop (k+1))[i-(k+1)]?=some y:=by rw[List.getElem?_drop,show k+1+(i-(k+1))=i by omega];exact hi
    exact List.mem_of_getElem? this
   rcases h y a2 with h1|h1
   ·by_cases hp:x <+: y
    ·left;exact(hp.eq_of_length h1.symm).symm
    ·exact Or.inr hp
   ·exact Or.inr h1
 ·intro h y hy;obtain⟨i,hi⟩:=List.getElem?_of_mem hy;rw[List.getElem?_drop]at hi;rcases h y (List.mem_of_getElem? hi) with h1|h1
  ·have hc:=hs.get (show k<k+1+i by omega) hx hi;rw[h1,kE]at hc;omega
  ·exact Or.inr h1
end Go.Proofs.YtkeplokjplkcmaaGreat
namespace Go.Proofs.YtkeplokjplkcmaaGreat.Sym
def mP{V:Type}{l:List (List V)}{i:Nat}{x:List V}(h:l[i]?=some x):(l.take (i+1)).flatten=(l.take i).flatten++x:=by
 rw[bC h];simp
def kO{V:Type}{l:List (List V)}(i:Nat):(l.take i).flatten.length<=l.flatten.length:=by
 have h:l.flatten=(l.take i).flatten++(l.drop i).flatten:=by rw[<- jL,tR]
 rw[h,J4];omega
def concat_ints(l:A4)(hl:l.length<=100000000)(hf:l.flatten.length<=1000000000):cC l=some l.flatten:=by
 unfold cC
 rw[S1 (r:=l.flatten.length) (λs=>s.2<=l.length/\s.1=(l.take s.2).flatten.length) (λs=>l.length-s.2) (λs ⟨h1,h2⟩=>by
  simp only[cC.s2]
  by_cases h3:s.2<l.length
  ·left
   have hx:=get_at h3
   have h4:=mP hx
   have h5:=kO (l:=l) (s.2+1)
   rw[h4,J4]at h5
   refine⟨((l.take (s.2+1)).flatten.length,s.2+1),?_,⟨by omega,rfl⟩,by simp only;omega⟩
   rw[O3 hx,F8,B4 hx,K3,B1,h4,J4,h2]
  ·right
   have e:s.2=l.length:=by omega
   rw[B1,h2,e,V2]) (s:=(0,0)) ⟨D9 _,by simp⟩ (by have:=E6;simp only;omega)]
 simp only[V3];unfold vS;rw[H1 (by omega)];simp only[V3]
 rw[S1 (r:=l.flatten) (λs=>s.2<=l.length/\s.1=(l.take s.2).flatten) (λs=>l.length-s.2) (λs ⟨h1,h2⟩=>by
  simp only[cC.s4]
  by_cases h3:s.2<l.length
  ·left
   have hx:=get_at h3
   have h4:=mP hx
   have h5:=kO (l:=l) (s.2+1)
   rw[h4,J4]at h5
   refine⟨((l.take (s.2+1)).flatten,s.2+1),?_,⟨by omega,rfl⟩,by simp only;omega⟩
   rw[O3 hx,F8,B4 hx,H1 (by rw[h2];unfold B5;omega),h4,h2]
  ·right
   have e:s.2=l.length:=by omega
   rw[B1,h2,e,V2]) (s:=([],0)) ⟨D9 _,by simp⟩ (by have:=E6;simp only;omega)]
 rfl
def concat_words(l:List (A4))(hl:l.length<=100000000)(hf:l.flatten.length<=1000000000):cD l=some l.flatten:=by
 unfold cD
 rw[S1 (r:=l.flatten.length) (λs=>s.2<=l.length/\s.1=(l.take s.2).flatten.length) (λs=>l.length-s.2) (λs ⟨h1,h2⟩=>by
  simp only[cD.s2]
  by_cases h3:s.2<l.length
  ·left
   have hx:=get_at h3
   have h4:=mP hx
   have h5:=kO (l:=l) (s.2+1)
   rw[h4,J4]at h5
   refine⟨((l.take (s.2+1)).flatten.length,s.2+1),?_,⟨by omega,rfl⟩,by simp only;omega⟩
   rw[O3 hx,F8,B4 hx,K3,B1,h4,J4,h2]
  ·right
   have e:s.2=l.length:=by omega
   rw[B1,h2,e,V2]) (s:=(0,0)) ⟨D9 _,by simp⟩ (by have:=E6;simp only;omega)]
 simp only[V3];unfold wC;rw[H1 (by omega)];simp only[V3]
 rw[S1 (r:=l.flatten) (λs=>s.2<=l.length/\s.1=(l.take s.2).flatten) (λs=>l.length-s.2) (λs ⟨h1,h2⟩=>by
  simp only[cD.s4]
  by_cases h3:s.2<l.length
  ·left
   have hx:=get_at h3
   have h4:=mP hx
   have h5:=kO (l:=l) (s.2+1)
   rw[h4,J4]at h5
   refine⟨((l.take (s.2+1)).flatten,s.2+1),?_,⟨by omega,rfl⟩,by simp only;omega⟩
   rw[O3 hx,F8,B4 hx,H1 (by rw[h2];unfold B5;omega),h4,h2]
  ·right
   have e:s.2=l.length:=by omega
   rw[B1,h2,e,V2]) (s:=([],0)) ⟨D9 _,by simp⟩ (by have:=E6;simp only;omega)]
 rfl
def AR(l:A4)(hl:l.length<=100000000)(hf:l.flatten.length<=1000000000):jD l=some l.flatten:=by
 unfold jD;rw[concat_ints l hl hf];rfl
def totB_of{cf:A2->A2->Int}(T:nT cf){f:A2->A2->Option Int}{l:A4}(hf:∀a∈l,∀b∈l,f a b=some (cf a b)):totB f l=true:=by
 refine R4.2 λa ha=>R4.2 λb hb=>?_;rw[hf a ha b hb,hf b hb a ha];simp only[O8];refine⟨⟨⟨?_,?_⟩,?_⟩,R4.2 λc hc=>?_⟩
 ·rw[beq_iff_eq];have:=T.zero a b;by_cases h:a=b
  ·simp[h,this.2 h];rw[<- h];exact(T.zero a a).2 rfl
  ·have h2:¬cf a b=0:=λe=>h (this.1 e);simp[h,h2]
 ·rw[beq_iff_eq];have:=T.swap a b;by_cases h:cf a b<0
  ·simp[h];omega
  ·simp[h];omega
 ·have:=T.range a b;exact G7 (by omega)
 ·rw[hf b hb c hc,hf a ha c hc];have r1:=T.range a b;have r2:=T.range b c;by_cases h1:cf a b<0
  ·by_cases h2:cf b c<0
   ·have:=T.trans a b c (by omega) (by omega);simp[h1,h2,this]
   ·simp[h1,h2]
  ·simp[h1]
def libSort_eq{cf:A2->A2->Int}(T:nT cf){f:A2->A2->Option Int}{l:A4}(hl:l.length<=1000000000)(hf:∀a∈l,∀b∈l,f a b=some (cf a b)) :
  ∃S,lG l f=some S/\S.Perm l/\S.Pairwise (λa b=>0<=cf b a):=by
 refine⟨dY f l,?_,gM f l,?_⟩
 ·unfold lG;rw[H1 hl,totB_of T hf];rfl
 ·have h:=vY (totB_iff (totB_of T hf));rw[iQ]at h ⊢;intro i j hi hj a0;have:=h i j hi hj a0;have m1:=(gM f l).mem_iff.1 (P7 hi);have m2:=(gM f l).mem_iff.1 (P7 hj);unfold NGt cfv at this;rw[hf _ m2 _ m1]at this;simp only[H5]at this;omega
def compact_eq{q:A2->A2->Option Bool}{l:A4}(hl:l.length<=1000000000)(hq:∀a∈l,∀b∈l,q a b=some (decide (a=b))):Y8 l q=some (N7 l):=by
 unfold Y8;by_cases h2:l.length<2
 ·rw[C0,AE (by omega)]
 rw[B1]
 have key:=H4 (step:=λk=>Y8.s20 l q k) (λk=>1<=k/\k<=l.length/\N7 (l.take k)=l.take k) (λk=>l.length-k) (λr=>Sum.elim (λ(_:Unit)=>some l) some r=some (N7 l)) (λk ⟨h1,h3,h4⟩=>by
  simp only[Y8.s20]
  by_cases h5:k<l.length
  ·have hx:=get_at h5
   have hp:=get_at (l:=l) (i:=k-1) (by omega)
   have a2:=zV (l:=l) (k:=k-1) (x:=l[k]) hp (by rw[show k-1+1=k by omega];exact hx)
   rw[show k-1+1=k by omega]at a2
   rw[O3 hx,F8,B4 hx,D6 (i:=k-1) (by omega) hp,hq _ (P7 _) _ (P7 _)]
   simp only[V3]
   by_cases h6:l[k]=l[k-1]'(by omega)
   ·right
    rw[if_pos h6]at a2
    rw[C0 h6,H1 (by omega)]
    have a3:=H4 (step:=λ(s:A4×Nat×Nat)=>Y8.s18 q k s.1 s.2.1 s.2.2) (λs=>1<=s.2.2/\k+s.2.2<=l.length/\s.1.length=l.length/\s.2.1=(N7 (l.take (k+s.2.2))).length/\s.2.1<k+s.2.2/\s.1.take s.2.1=N7 (l.take (k+s.2.2))/\∀j,s.2.1<=j->s.1[j]?=l[j]?) (λs=>l.length-(k+s.2.2))
     (λr=>r.2<=l.length/\r.1.length=l.length/\r.1.take r.2=N7 l) (λs ⟨g1,g2,g3,g4,g5,g6,g7⟩=>by
      obtain⟨y,kk,t⟩:=s
      simp only at g1 g2 g3 g4 g5 g6 g7
      simp only[Y8.s18]
      by_cases g8:k+t<l.length
      ·left
       have gx:=get_at (l:=l) (i:=k+t) g8
       have gp:=get_at (l:=l) (i:=k+(t-1)) (by omega)
       have yx:y[k+t]?=some l[k+t]:=by rw[g7 _ (by omega)];exact gx
       have yp:y[k+(t-1)]?=some (l[k+(t-1)]'(by omega)):=by rw[g7 _ (by omega)];exact gp
       have a0:=zV (l:=l) (k:=k+(t-1)) (x:=l[k+t]) gp (by rw[show k+(t-1)+1=k+t by omega];exact gx)
       rw[show k+(t-1)+1=k+t by omega]at a0
       rw[C0 (show(t:Int)<(↑(List.length y-k):Int) by omega),B4 yx,H1 (by omega),show Int.toNat ((t:Int)-1)=t-1 by omega,B4 yp,hq _ (P7 _) _ (P7 _)]
       simp only[V3]
       by_cases g9:l[k+t]=l[k+(t-1)]'(by omega)
       ·rw[if_pos g9]at a0
        refine⟨(y,kk,t+1),by rw[G7 g9];rfl,⟨by simp only;omega,by simp only;omega,g3,?_,by simp only;omega,?_,g7⟩,by simp only;omega⟩
        ·simp only
         rw[show k+(t+1)=k+t+1 by omega,a0]
         exact g4
        ·simp only
         rw[show k+(t+1)=k+t+1 by omega,a0]
         exact g6
       ·rw[if_neg g9]at a0
        have yk:=get_at (l:=y) (i:=kk) (by omega)
        refine⟨(y.set kk l[k+t],kk+1,t+1),?_,⟨by simp only;omega,by simp only;omega,by simp only[P0];exact g3,?_,by simp only;omega,?_,λj hj=>?_⟩,by simp only;omega⟩
        ·rw[J0 g9]
         simp only[cR,F8]
         rw[B4 yx,B4 yk,K3]
        ·simp only
         rw[show k+(t+1)=k+t+1 by omega,a0,J4,<- g4]
         rfl
        ·simp only
         have e1:(y.set kk l[k+t])[kk]?=some l[k+t]:=by rw[nC];simp;omega
         rw[show k+(t+1)=k+t+1 by omega,a0,bC e1,List.take_set_of_le (H0 _),g6]
        ·simp only at hj
         rw[O6 (by omega)]
         exact g7 j (by omega)
      ·right
       have e:k+t=l.length:=by omega
       refine⟨(y,kk),?_,by simp only;omega,g3,?_⟩
       ·rw[B1]
       ·simp only
        rw[e,V2]at g6
        exact g6) fuel (l,k,1) ⟨H0 _,by simp only;omega,rfl,by simp only;rw[a2,h4,M7];omega,by simp only;omega,by simp only;rw[a2,h4],λj _=>rfl⟩ (by have:=E6;simp only;omega)
    obtain⟨⟨y,kk⟩,e,g1,g2,g3⟩:=a3
    simp only at g1 g2 g3
    refine⟨.inr (N7 l),?_,rfl⟩
    rw[e]
    simp only[V3,Y8.k19]
    have e2:(List.take kk y++List.replicate (List.length y-kk) ([]:A2)).length=l.length:=by
     rw[J4,M7,J6]
     omega
    rw[H1 (by omega),H1 (by omega),H1 (by rw[e2];omega),tQ (by rw[M7];omega),xA,Nat.min_self,g3]
   ·left
    rw[if_neg h6]at a2
    refine⟨k+1,by rw[J0 h6];rfl,⟨by omega,by omega,?_⟩,by omega⟩
    rw[a2,h4,bC hx]
  ·right
   have e:k=l.length:=by omega
   subst e
   refine⟨.inl (),?_,?_⟩
   ·rw[bY];rfl
   ·rw[V2]at h4
    rw[h4]
    rfl) fuel 1 ⟨H0 _,by omega,AE (by rw[M7];omega)⟩ (by have:=E6;omega)
 obtain⟨r,e,hr⟩:=key;rw[e];exact hr
def BC{w:A2}(h:SmW w):mQ w=some w:=by
 unfold mQ lS;exact H1 (by unfold SmW at h;unfold B5;omega)
def zt4{l:A4}(h:l.length<=2000000):sQ l=some l:=by
 unfold sQ lS;exact Q1
def ordered_eq{cf:A2->A2->Int}(T:nT cf){f:A2->A2->Option Int}{l:A4}(hl:SmL l)(hf:∀a∈l,∀b∈l,f a b=some (cf a b)) :
  ∃S,gR l f=some S/\S.Pairwise (λa b=>cf a b=-1)/\(∀x,x∈S↔x∈l)/\S.length<=l.length:=by
 have a3:l.length<=2000000:=hl.1;obtain⟨S,e1,hp,hs⟩:=libSort_eq T (by omega:l.length<=1000000000) hf;obtain⟨d1,d2⟩:=dedup_asc T hs;have hm:∀x,x∈N7 S↔x∈l:=λx=>by rw[d2,hp.mem_iff]
 have a0:(N7 S).length<=l.length:=by
  have:=dedupA_length S;rw[hp.length_eq]at this;exact this
 refine⟨N7 S,?_,d1,hm,a0⟩;unfold gR wT;rw[zt4 a3];simp only[V3];rw[e1];simp only[V3]
 rw[compact_eq (by rw[hp.length_eq];omega) (λa ha b hb=>by
  unfold pK
  rw[hf a (hp.mem_iff.1 ha) b (hp.mem_iff.1 hb)]
  simp only[V3]
  congr 1
  exact decide_eq_decide.2 (T.zero a b))]
 simp only[V3]
 rw[S1 (r:=N7 S) (λs=>s.1=N7 S) (λs=>(N7 S).length-s.2) (λs h1=>by
  simp only[gR.s2]
  by_cases h3:s.2<(N7 S).length
  ·left
   have hx:=get_at h3
   have a2:SmW ((N7 S)[s.2]):=hl.2 _ ((hm _).1 (P7 _))
   refine⟨(N7 S,s.2+1),?_,rfl,by simp only;omega⟩
   rw[O3 hx,F8,h1,B4 hx,BC a2]
   simp only[V3]
   rw[B4 hx,K3,List.set_getElem_self]
  ·right
   rw[B1,h1]) (s:=(N7 S,0)) rfl (by have:=E6;simp only;omega)]
 rfl
def wM{l:A4}(hl:SmL l):jF l=some (sortW l):=by
 obtain⟨S,e,h1,h2,_⟩:=ordered_eq cmpW_total (f:=λu0 u1=>iI u0 u1) hl λa ha b hb=>wK a b (by have:SmW a:=hl.2 a ha;unfold SmW at this;omega);unfold jF;rw[e];show some S=_;congr 1;exact nQ h1 (fG l) λx=>by rw[h2,bD]
def sml_sort{l:A4}(h:SmL l):SmL (sortW l):=⟨aR (AN l) h.1,λx hx=>h.2 x ((bD l x).1 hx)⟩
def zqk{ls:List (A4)}(h0:ls.length<=100000000)(hl:SmL ls.flatten):pF ls=some (sortW ls.flatten):=by
 unfold pF;rw[concat_words ls h0 (by have:=hl.1;omega)];simp only[V3];rw[wM hl];rfl
def R02_place_eq{l:A4}{w:A2}(hA:Asc l)(hl:SmL l):gI l w=some (↑(M6 l w):Int):=by
 have a4:l.length<=2000000:=hl.1;have a0:=rV l w;have a3:=placeL_le l w;unfold gI
 rw[S1 (r:=M6 l w) (λs=>s.1<=M6 l w/\M6 l w<=s.2/\s.2<=l.length) (λs=>s.2-s.1) (λs ⟨h1,h2,h3⟩=>by
  obtain⟨lo,hi⟩:=s
  simp only at h1 h2 h3
  simp only[gI.s2]
  by_cases h4:lo<hi
  ·left
   have hx:=get_at (l:=l) (i:=(lo+hi) / 2) (by omega)
   rw[C0,K3,K3,B4 hx,BF _ _ (hl.2 _ (P7 _))]
   simp only[V3]
   by_cases h5:cmpW (l[(lo+hi) / 2]'(by omega)) w<0
   ·refine⟨((lo+hi) / 2+1,hi),by rw[C0 h5,K3],⟨?_,h2,h3⟩,by simp only;omega⟩
    simp only
    rcases K4 ((lo+hi) / 2) (M6 l w) with h|h
    ·exact h
    ·exfalso
     have hp:=get_at (l:=l) (i:=M6 l w) (by omega)
     have a2:=a0.2 _ hp
     have r1:=rQ (l[(lo+hi) / 2]'(by omega)) w
     rcases K4 (M6 l w) ((lo+hi) / 2) with h'|h'
     ·have:=hA.get h' hp hx
      exact a2 (oO _ _ _ this (by omega))
     ·have e:M6 l w=(lo+hi) / 2:=by omega
      simp only[e]at a2
      omega
   ·refine⟨(lo,(lo+hi) / 2),by rw[B1 h5],⟨h1,?_,by simp only;omega⟩,by simp only;omega⟩
    simp only
    rcases K4 ((lo+hi) / 2) (M6 l w) with h|h
    ·exfalso
     have:=a0.1 _ _ h hx
     omega
    ·exact h
  ·right
   rw[B1,show lo=M6 l w by omega]) (s:=(0,l.length)) ⟨D9 _,a3,H0 _⟩ (by have:=E6;simp only;omega)]
 rfl
def yT{l:A4}{w:A2}(hA:Asc l)(hl:SmL l)(hw:SmW w):eB l w=some (insW l w):=by
 have a8:l.length<=2000000:=hl.1;have a7:w.length<=2000000:=hw;have a3:=placeL_le l w;have a5:=hA.mem_place w;unfold eB;rw[R02_place_eq hA hl];simp only[V3];by_cases hm:w∈l
 ·have hx:=a5.1 hm;have a4:=(F6.1 hx).1;rw[C0 (show(↑(M6 l w):Int)<(l.length:Int) by omega),D6 rfl hx,sB _ _ hw];unfold insW;rw[if_pos hm];simp
 ·have hc:(cond (decide ((↑(M6 l w):Int)<(l.length:Int))) (idx l (↑(M6 l w):Int) λa2=>(jC a2 w).bind λa6=>some a6) (some false):Option Bool)=some false:=by
   by_cases a4:M6 l w<l.length
   ·have hx:=get_at a4;rw[C0,D6 rfl hx,sB _ _ (hl.2 _ (P7 _))];have:¬l[M6 l w]=w:=λe=>hm (a5.2 (by rw[hx,e]));simp[this]
   ·rw[B1]
  rw[hc];simp only[V3,G0];have a0:(l++[([]:A2)]).length=l.length+1:=by simp
  rw[Q1,H1 (by rw[a0];unfold inR;omega)]
  have key:=H4 (step:=λ(s:A4×Int)=>eB.s2 (↑(M6 l w):Int) s.1 s.2) (λs=>∃i:Nat,s.2=(i:Int)/\M6 l w<=i/\i<=l.length/\∃z,s.1=stage l z i) (λs=>s.2.toNat-M6 l w) (λr=>∃z,r=stage l z (M6 l w)) (λs ⟨i,h1,h2,h3,z,h4⟩=>by
   obtain⟨y,i'⟩:=s
   simp only at h1 h4
   subst h1 h4
   simp only[eB.s2]
   by_cases h5:M6 l w<i
   ·left
    have hx:=get_at (l:=l) (i:=i-1) (by omega)
    have e1:(stage l z i)[i-1]?=some (l[i-1]'(by omega)):=by rw[stage_before (by omega) h3];exact hx
    have e2:(stage l z i)[i]?=some z:=stage_at h3
    refine⟨(stage l (l[i-1]'(by omega)) (i-1),↑(i-1:Nat)),?_,⟨i-1,rfl,by omega,by omega,_,rfl⟩,by simp only;omega⟩
    rw[C0,K3,D6 (i:=i-1) (by omega) e1,D6 rfl e2,K3,I7,stage_set h3]
    have h6:=stage_down (us:=l) (j:=i-1) hx
    rw[show i-1+1=i by omega]at h6
    rw[h6,show(i:Int)-1=((i-1:Nat):Int) by omega]
   ·right
    have e:i=M6 l w:=by omega
    subst e
    refine⟨_,by rw[B1],z,rfl⟩) fuel (l++[[]],(↑(l++[([]:A2)]).length:Int)-1) ⟨l.length,by simp only[a0];omega,a3,H0 _,[],(stage_end l []).symm⟩ (by have:=E6;simp only[a0];omega)
  obtain⟨r,e,z,hz⟩:=key;subst hz;rw[e];simp only[V3];have e2:(stage l z (M6 l w))[M6 l w]?=some z:=stage_at a3;rw[H1 (by unfold B5;simp;omega),D6 rfl e2,I7,stage_set a3,cS];unfold insW;rw[if_neg hm];rfl
def AU{l:A4}(hl:SmL l):fJ l=some (sortW l):=by
 have a2:l.length<=2000000:=hl.1;unfold fJ
 rw[S1 (r:=sortW l) (λs=>s.2<=l.length/\s.1=sortW (l.take s.2)) (λs=>l.length-s.2) (λs ⟨h1,h2⟩=>by
  obtain⟨y,i⟩:=s
  simp only at h1 h2
  subst h2
  simp only[fJ.s2]
  by_cases h3:i<l.length
  ·left
   have hx:=get_at h3
   have a0:SmL (sortW (l.take i)):=sml_sort ⟨by rw[M7];omega,λx hx=>hl.2 x (aE hx)⟩
   refine⟨(sortW (l.take (i+1)),i+1),?_,⟨h3,rfl⟩,by simp only;omega⟩
   rw[O3 hx,F8,B4 hx,yT (fG _) a0 (hl.2 _ (P7 _)),bC hx,yN]
   rfl
  ·right
   have e:i=l.length:=by omega
   subst e
   rw[B1,V2]) (s:=([],0)) ⟨D9 _,by simp[sortW]⟩ (by have:=E6;simp only;omega)]
 rfl
def R02_Union_eq{ls:List (A4)}(h0:ls.length<=100000000)(hl:SmL ls.flatten):gJ ls=some (sortW ls.flatten):=by
 have a0:ls.flatten.length<=2000000:=hl.1;unfold gJ
 rw[S1 (r:=ls.flatten) (λs=>s.2<=ls.length/\s.1=(ls.take s.2).flatten) (λs=>ls.length-s.2) (λs ⟨h1,h2⟩=>by
  simp only[gJ.s2]
  by_cases h3:s.2<ls.length
  ·left
   have hx:=get_at h3
   have h4:=mP hx
   have h5:=kO (l:=ls) (s.2+1)
   rw[h4,J4]at h5
   refine⟨((ls.take (s.2+1)).flatten,s.2+1),?_,⟨by omega,rfl⟩,by simp only;omega⟩
   rw[O3 hx,F8,B4 hx,H1 (by rw[h2];unfold B5;omega),h4,h2]
  ·right
   have e:s.2=ls.length:=by omega
   rw[B1,h2,e,V2]) (s:=([],0)) ⟨D9 _,by simp⟩ (by have:=E6;simp only;omega)]
 simp only[V3];rw[AU hl];rfl
def preL_take_len{l:A4}(i:Nat):(preL (l.take i)).length<=(preL l).length:=by
 unfold preL;rw[List.flatMap_def,List.flatMap_def,tL];exact kO i
def zrh{l:A4}{i:Nat}{x:A2}{y:A4}(hx:l[i]?=some x)(hx1:x.length<=1000000)(hy:SmL y)(hlen:y.length+x.length+1<=2000000) :
  iter (λ(s:A4×Nat)=>aP.s13 l i s.1 s.2) fuel (sortW y,0)=some (sortW (y++Y6 x)):=by
 refine S1 (λs=>s.2<=x.length+1/\s.1=sortW (y++(Y6 x).take s.2)) (λs=>x.length+1-s.2) (λs ⟨g1,g2⟩=>?_) ⟨D9 _,by simp⟩ (by have:=E6;simp only;omega);obtain⟨z,k⟩:=s;simp only at g1 g2;subst g2;simp only[aP.s13];rw[B4 hx];by_cases g3:k<x.length+1
 ·left
  have e1:SmL (y++(Y6 x).take k):=by
   refine⟨by rw[J4,M7,pH];omega,λu hu=>?_⟩;rcases J2.1 hu with h|h
   ·exact hy.2 u h
   ·have h2:=aE h;unfold Y6 at h2;obtain⟨j,_,rfl⟩:=I3.1 h2;unfold SmW;rw[M7];omega
  have e2:SmW (x.take k):=by
   unfold SmW;rw[M7];omega
  have e3:=yT (fG (y++(Y6 x).take k)) (sml_sort e1) e2;refine⟨(sortW (y++(Y6 x).take (k+1)),k+1),?_,⟨g3,rfl⟩,by simp only;omega⟩;rw[C0,B4 hx,H1 (by omega),e3];simp only[A5];rw[K3,prefixes_take _ (by omega),<- cU,yN]
 ·right;have e:k=x.length+1:=by omega
  subst e;rw[B1,<- pH,V2]
def zs5{l:A4}(hl:SmL l)(hw:∀x∈l,x.length<=1000000)(hp:SmL (preL l)):aP l=some (sortW (preL l)):=by
 have a6:l.length<=2000000:=hl.1;have a5:(preL l).length<=2000000:=hp.1;unfold aP
 have key:=S1 (step:=λ(s:A4×Nat)=>aP.s14 l s.1 s.2) (r:=sortW (preL l)) (λs=>s.2<=l.length/\s.1=sortW (preL (l.take s.2))) (λs=>l.length-s.2) (λs ⟨h1,h2⟩=>by
  obtain⟨y,i⟩:=s
  simp only at h1 h2
  subst h2
  simp only[aP.s14]
  by_cases h3:i<l.length
  ·left
   have hx:=get_at h3
   have a0:=preL_step hx
   have a4:=preL_take_len (l:=l) (i+1)
   rw[a0,J4,pH]at a4
   have a3:=zrh (y:=preL (l.take i)) hx (hw _ (P7 _)) ⟨by omega,λu hu=>hp.2 u (by
    unfold preL at hu ⊢
    obtain⟨z,hz,a2⟩:=eR.1 hu
    exact eR.2 ⟨z,aE hz,a2⟩)⟩ (by omega)
   refine⟨(sortW (preL (l.take i)++Y6 l[i]),i+1),?_,⟨h3,by simp only;rw[a0]⟩,by simp only;omega⟩
   rw[O3 hx,F8,a3]
   simp only[A5]
  ·right
   have e:i=l.length:=by omega
   subst e
   rw[B1,V2]) (n:=fuel) (s:=([],0)) ⟨D9 _,by simp[preL,sortW]⟩ (by have:=E6;simp only;omega)
 rw[key];simp only[A5]
def R01_Join_eq(l:A4)(hl:l.length<=100000000)(hf:l.flatten.length<=1000000000):gC l=some l.flatten:=by
 unfold gC
 rw[S1 (r:=l.flatten) (λs=>s.2<=l.length/\s.1=(l.take s.2).flatten) (λs=>l.length-s.2) (λs ⟨h1,h2⟩=>by
  simp only[gC.s2]
  by_cases h3:s.2<l.length
  ·left
   have hx:=get_at h3
   have h4:=mP hx
   have h5:=kO (l:=l) (s.2+1)
   rw[h4,J4]at h5
   refine⟨((l.take (s.2+1)).flatten,s.2+1),?_,⟨by omega,rfl⟩,by simp only;omega⟩
   rw[O3 hx,F8,B4 hx,H1 (by rw[h2];unfold B5;omega),h4,h2]
  ·right
   have e:s.2=l.length:=by omega
   rw[B1,h2,e,V2]) (s:=([],0)) ⟨D9 _,by simp⟩ (by have:=E6;simp only;omega)]
 rfl
def SmO(o:I4):Prop:=o.T.length<=1100000/\∀t∈o.T,t.In.length<=1100000/\t.O.length<=2000000
def zqh(w p:A2)(hw:SmW w):mM w p=some (decide (p <+: w)):=by
 unfold mM;rw[sE w p hw,A5];congr 1;exact decide_eq_decide.2 (by rw[<- rP w p];omega)
def wF(a b:A2)(ha:SmW a):eN a b=some (G3 a b:Int):=by
 have a2:a.length<=2000000:=ha;have a0:=mA a b;unfold eN
 have key:=H4 (step:=λk=>eN.s2 a b k) (λk=>k<=a.length/\k<=b.length/\G3 a b=G3 (a.drop k) (b.drop k)+k) (λk=>a.length-k) (λr=>Sum.elim (λ(_:Unit)=>some (min (a.length:Int) (b.length:Int))) some r=some (G3 a b:Int)) (λk ⟨h1,h2,h3⟩=>by
  simp only[eN.s2]
  by_cases h4:k<a.length/\k<b.length
  ·have hx:=get_at h4.1
   have hy:=get_at h4.2
   rw[C0 (show(k:Int)<min (a.length:Int) (b.length:Int) by omega),B4 hx,B4 hy]
   rw[eW h4.1,eW h4.2]at h3
   by_cases e:a[k]=b[k]
   ·left
    refine⟨k+1,by simp[e],⟨h4.1,h4.2,?_⟩,by omega⟩
    rw[h3,e]
    simp[G3]
    omega
   ·right
    simp only[G3,e,if_false,F7]at h3
    exact⟨.inr (k:Int),by simp[e],by rw[h3];rfl⟩
  ·right
   rw[B1]
   refine⟨.inl (),rfl,?_⟩
   rw[vA (by omega),F7]at h3
   simp only[W5]
   congr 1
   omega) fuel 0 ⟨D9 _,D9 _,by simp⟩ (by have:=E6;omega)
 obtain⟨r,e,hq⟩:=key;rw[e];exact hq
def BX(w p:A2)(hw:SmW w):mN w p=some (decide (p <+: w)):=by
 unfold mN;rw[wF w p hw,A5];congr 1;exact decide_eq_decide.2 (by rw[<- rP w p];omega)
def cF(n:Int)(t:I0):Prop:=W7 t.In n=0/\t.O.length=t.In.length/\∀y∈t.O,0<=y/\y<=1048576
def ztz(t:I0)(n:Int)(h1:SmW t.In)(h2:SmW t.O):∃e,fI t n=some e/\(e=0->cF n t):=by
 unfold fI;rw[vR _ _ h1,A5];by_cases g1:W7 t.In n=0
 ·rw[B1 (by simpa using g1)];by_cases g2:t.O.length=t.In.length
  ·rw[B1]
   have key:=Z8 (step:=λs=>fI.s2 t s) (l:=t.O) (λ_ y=>if decide (0<=y/\y<=1048576)=true then none else some (2:Int)) (λi y hy=>by
    simp only[fI.s2]
    rw[O3 hy,F8,B4 hy,B4 hy]
    by_cases a1:y<0
    ·rw[C0 a1,A5,F8,J0 (show ¬(0<=y/\y<=1048576) by omega)];rfl
    ·by_cases a2:1048576<y
     ·rw[B1 a1,G7 a2,A5,F8,J0 (show ¬(0<=y/\y<=1048576) by omega)];rfl
     ·rw[B1 a1,J0 a2,A5,G0,G7 (show(0<=y/\y<=1048576) by omega)];rfl) (by
    simp only[fI.s2]
    rw[bY]
    rfl) (by unfold SmW at h2;omega)
   rw[key,scan_all (p:=λy=>decide (0<=y/\y<=1048576))];by_cases h:(t.O.all λy=>decide (0<=y/\y<=1048576))=true
   ·rw[if_pos h];exact⟨0,rfl,λ_=>⟨g1,g2,λy hy=>of_decide_eq_true (R4.1 h y hy)⟩⟩
   ·rw[if_neg h];exact⟨2,rfl,λe=>by cases e⟩
  ·rw[C0];exact⟨1,rfl,λe=>by cases e⟩
 ·rw[C0 g1];exact⟨_,rfl,λe=>absurd e g1⟩
def Agree(a b:I0):Prop:=a.O.take (G3 a.In b.In)=b.O.take (G3 a.In b.In)
def zt1(a b:I0){n:Int}(ha:cF n a)(hb:cF n b)(h1:SmW a.In):∃d,gK a b=some d/\(¬0<=d->Agree a b):=by
 have a0:a.In.length<=2000000:=h1;have hc:=mA a.In b.In;have la:=ha.2.1;have lb:=hb.2.1;unfold gK;rw[sE _ _ h1,A5]
 have key:=H4 (step:=λk=>gK.s2 a b (↑(G3 a.In b.In):Int) k) (λk=>k<=G3 a.In b.In/\a.O.take k=b.O.take k) (λk=>G3 a.In b.In-k) (λr=>match r with|.inl ()=>Agree a b|.inr d=>0<=d) (λk ⟨g1,g2⟩=>by
  simp only[gK.s2]
  by_cases g3:k<G3 a.In b.In
  ·have hx:=get_at (l:=a.O) (i:=k) (by omega)
   have hy:=get_at (l:=b.O) (i:=k) (by omega)
   rw[C0,B4 hx,B4 hy]
   by_cases e:a.O[k]'(by omega)=b.O[k]'(by omega)
   ·left
    refine⟨k+1,by rw[B1 (by simpa using e),K3],⟨g3,?_⟩,by omega⟩
    rw[bC hx,bC hy,g2,e]
   ·right
    exact⟨.inr (k:Int),by rw[C0 e],by simp⟩
  ·right
   have e:k=G3 a.In b.In:=by omega
   subst e
   exact⟨.inl (),by rw[B1],g2⟩) fuel 0 ⟨D9 _,by simp⟩ (by have:=E6;omega)
 obtain⟨r,e,hq⟩:=key;rw[e];cases r with
 |inl u=>exact⟨-1,rfl,λ_=>hq⟩
 |inr d=>exact⟨d,rfl,λh=>absurd hq h⟩
structure bS(o:I4):Prop where
 inp:1<=o.I/\o.I<=64
 num:o.T.length<=10000
 prop:∀t∈o.T,cF o.I t/\t.In≠[]
 asc:∀(i j:Nat) a b,i<j->o.T[i]?=some a->o.T[j]?=some b->cmpW a.In b.In=-1
 apart:∀(i j:Nat) a b,i<j->o.T[i]?=some a->o.T[j]?=some b->¬a.In <+: b.In/\Agree a b
def R16_apart_tot(o:I4)(ho:SmO o)(hp:∀t∈o.T,cF o.I t):∃e,X7 o=some e/\(e=0->∀(i j:Nat) a b,i<j->o.T[i]?=some a->o.T[j]?=some b->¬a.In <+: b.In/\Agree a b):=by
 obtain⟨hl,hs⟩:=ho;unfold X7
 have a0:∀(i:Nat) (a:I0),o.T[i]?=some a->∃p c,iter (λ(s:Bool×Bool×Nat)=>X7.s30 o i s.1 s.2.1 s.2.2) fuel (false,false,i+1)=some (p,c)/\(p=false->c=false->∀j b,i<j->o.T[j]?=some b->¬a.In <+: b.In/\Agree a b):=by
  intro i a ha;have hi:=(F6.1 ha).1;have a3:=I8 ha
  have key:=H4 (step:=λ(s:Bool×Bool×Nat)=>X7.s30 o i s.1 s.2.1 s.2.2) (λs=>i<s.2.2/\s.2.2<=o.T.length/\(s.1=false->s.2.1=false->∀j b,i<j->j<s.2.2->o.T[j]?=some b->¬a.In <+: b.In/\Agree a b)) (λs=>o.T.length-s.2.2) (λr=>r.1=false->r.2=false->∀j b,i<j->o.T[j]?=some b->¬a.In <+: b.In/\Agree a b) (λs ⟨g1,g2,g3⟩=>by
   obtain⟨p,c,k⟩:=s
   simp only at g1 g2 g3
   simp only[X7.s30]
   by_cases g4:k<o.T.length
   ·left
    have hx:=get_at g4
    have a4:=P7 g4
    have sx:SmW o.T[k].In:=by have:=(hs _ a4).1;unfold SmW;omega
    have sa:SmW a.In:=by have:=(hs _ a3).1;unfold SmW;omega
    obtain⟨d,hd,a8⟩:=zt1 a o.T[k] (hp a a3) (hp _ a4) sa
    have a9:(cond p (some true) (idxn o.T k λa2=>idxn o.T i λa6=>(mM a2.In a6.In).bind λa7=>some a7):Option Bool)=some (p||decide (a.In <+: o.T[k].In)):=by
     cases p with
     |true=>rfl
     |false =>
      rw[G0,B4 hx,B4 ha,zqh _ _ sx,A5]
      rfl
    rw[O3 hx,F8,a9,A5]
    cases c with
    |true =>
     refine⟨(p||decide (a.In <+: o.T[k].In),true,k+1),rfl,⟨by simp only;omega,by simp only;omega,λ_ h=>by cases h⟩,by simp only;omega⟩
    |false =>
     rw[G0,B4 ha,B4 hx,hd,A5]
     refine⟨(p||decide (a.In <+: o.T[k].In),decide (0<=d),k+1),rfl,⟨by simp only;omega,by simp only;omega,λh1 h2 j b a5 b2 hb=>?_⟩,by simp only;omega⟩
     simp only[Bool.or_eq_false_iff]at h1
     rcases K4 j k with h|h
     ·exact g3 h1.1 rfl j b a5 h hb
     ·simp only at b2
      have e:j=k:=by omega
      subst e
      rw[hx]at hb
      injection hb with hb
      subst hb
      exact⟨of_decide_eq_false h1.2,a8 (of_decide_eq_false h2)⟩
   ·right
    have e:k=o.T.length:=by omega
    refine⟨(p,c),by rw[B1],λh1 h2 j b hj hb=>g3 h1 h2 j b hj ?_ hb⟩
    have:=(F6.1 hb).1
    omega) fuel (false,false,i+1) ⟨by simp only;omega,by simp only;omega,λ_ _ j b h1 h2=>by simp only at h2;omega⟩ (by have:=E6;simp only;omega)
  obtain⟨⟨p,c⟩,e,hq⟩:=key;exact⟨p,c,e,hq⟩
 have key:=H4 (step:=λi=>X7.s32 o i) (λi=>i<=o.T.length/\∀i' j a b,i'<i->i'<j->o.T[i']?=some a->o.T[j]?=some b->¬a.In <+: b.In/\Agree a b) (λi=>o.T.length-i) (λr=>match r with|.inl ()=>∀(i j:Nat) a b,i<j->o.T[i]?=some a->o.T[j]?=some b->¬a.In <+: b.In/\Agree a b|.inr e=>e≠0) (λi ⟨g1,g2⟩=>by
  simp only[X7.s32]
  by_cases g3:i<o.T.length
  ·have hx:=get_at g3
   obtain⟨p,c,e,hq⟩:=a0 i _ hx
   rw[O3 hx,F8,e,A5]
   simp only[X7.k31]
   cases p with
   |true=>exact .inr ⟨.inr 7,rfl,(show(7:Int)≠0 by decide)⟩
   |false =>
    cases c with
    |true=>exact .inr ⟨.inr 13,rfl,(show(13:Int)≠0 by decide)⟩
    |false =>
     left
     refine⟨i+1,rfl,⟨g3,λi' j a b h1 h2 ha hb=>?_⟩,by omega⟩
     rcases K4 i' i with h|h
     ·exact g2 i' j a b h h2 ha hb
     ·have e:i'=i:=by omega
      subst e
      rw[hx]at ha
      injection ha with ha
      subst ha
      exact hq rfl rfl j b h2 hb
  ·right
   refine⟨.inl (),by rw[B1],λi' j a b h ha hb=>g2 i' j a b ?_ h ha hb⟩
   have:=(F6.1 ha).1
   omega) fuel 0 ⟨D9 _,λi' j a b h=>by omega⟩ (by have:=E6;omega)
 obtain⟨r,e,hq⟩:=key;rw[e];cases r with
 |inl u=>exact⟨0,rfl,λ_=>hq⟩
 |inr e'=>exact⟨e',rfl,λh=>absurd h hq⟩
def R16_Valid_tot(o:I4)(ho:SmO o):∃e,gG o=some e/\(e=0->bS o):=by
 obtain⟨hl,hs⟩:=ho;unfold gG;by_cases h1:o.I<1
 ·rw[C0 h1,A5,F8];exact⟨2,rfl,λe=>by cases e⟩
 by_cases h2:64<o.I
 ·rw[B1 h1,G7 h2,A5,F8];exact⟨2,rfl,λe=>by cases e⟩
 rw[B1 h1,J0 h2,A5,G0];by_cases h3:10000<o.T.length
 ·rw[C0];exact⟨11,rfl,λe=>by cases e⟩
 rw[B1]
 have key:=H4 (step:=λi=>gG.s2 o i) (λi=>i<=o.T.length/\(∀j t,j<i->o.T[j]?=some t->cF o.I t/\t.In≠[])/\∀j a b,j+1<i->o.T[j]?=some a->o.T[j+1]?=some b->cmpW a.In b.In=-1) (λi=>o.T.length-i)
  (λr=>match r with|.inl ()=>(∀t∈o.T,cF o.I t/\t.In≠[])/\∀(j:Nat) a b,o.T[j]?=some a->o.T[j+1]?=some b->cmpW a.In b.In=-1|.inr e=>e≠0) (λi ⟨g1,g2,g3⟩=>by
  simp only[gG.s2]
  by_cases g4:i<o.T.length
  ·have hx:=get_at g4
   have a7:=P7 g4
   have sx:SmW o.T[i].In:=by have:=(hs _ a7).1;unfold SmW;omega
   obtain⟨e,he,a4⟩:=ztz o.T[i] o.I sx (hs _ a7).2
   rw[O3 hx,F8,B4 hx,vR _ _ sx,A5]
   by_cases g5:W7 o.T[i].In o.I=0
   ·rw[B1 (by simpa using g5)]
    by_cases g6:o.T[i].In.length=0
    ·rw[C0]
     exact .inr ⟨.inr 19,rfl,(show(19:Int)≠0 by decide)⟩
    ·rw[B1,he,A5]
     by_cases g7:e=0
     ·rw[B1 (by simpa using g7)]
      have hP:=a4 g7
      have a5:∀b:Bool,(b=false->0<i->∀a,o.T[i-1]?=some a->cmpW a.In o.T[i].In=-1)->(∃s',(some b).bind (λ(a2:Bool)=>cond a2 (some (.inr (.inr 10))) (some (.inl (i+1))))=some (.inl s':Nat⊕(Unit⊕Int))/\(s'<=o.T.length/\(∀j t,j<s'->o.T[j]?=some t->cF o.I t/\t.In≠[])/\∀j a b,j+1<s'->o.T[j]?=some a->o.T[j+1]?=some b->cmpW a.In b.In=-1)/\o.T.length-s'<o.T.length-i)\/∃r,(some b).bind (λ(a2:Bool)=>cond a2 (some (.inr (.inr 10))) (some (.inl (i+1))))=some (.inr r:Nat⊕(Unit⊕Int))/\(match r with|.inl ()=>(∀t∈o.T,cF o.I t/\t.In≠[])/\∀(j:Nat) a b,o.T[j]?=some a->o.T[j+1]?=some b->cmpW a.In b.In=-1|.inr e=>e≠0):=by
       intro b hb
       cases b with
       |true=>exact .inr ⟨.inr 10,rfl,(show(10:Int)≠0 by decide)⟩
       |false =>
        left
        refine⟨i+1,rfl,⟨g4,λj t hj ht=>?_,λj a b hj ha a0=>?_⟩,by omega⟩
        ·rcases K4 j i with h|h
         ·exact g2 j t h ht
         ·have ej:j=i:=by omega
          subst ej
          rw[hx]at ht
          injection ht with ht
          subst ht
          exact⟨hP,λe=>g6 (by rw[e];rfl)⟩
        ·rcases K4 (j+1) i with h|h
         ·exact g3 j a b h ha a0
         ·have ej:j+1=i:=by omega
          subst ej
          rw[hx]at a0
          injection a0 with a0
          subst a0
          exact hb rfl (by omega) a (by simpa using ha)
      by_cases g8:0<i
      ·have a6:=get_at (l:=o.T) (i:=i-1) (by omega)
       have sp:SmW (o.T[i-1]'(by omega)).In:=by have:=(hs _ (P7 (show i-1<o.T.length by omega))).1;unfold SmW;omega
       rw[C0,D6 (i:=i-1) (by omega) a6,BF _ _ sp,A5]
       refine a5 _ λhb _ a ha=>?_
       rw[a6]at ha
       injection ha with ha
       subst ha
       have h5:=of_decide_eq_false hb
       have:=rQ (o.T[i-1]'(by omega)).In o.T[i].In
       omega
      ·rw[B1]
       exact a5 false λ_ h=>absurd h g8
     ·rw[C0 g7]
      exact .inr ⟨.inr e,rfl,g7⟩
   ·rw[C0 g5]
    exact .inr ⟨.inr _,rfl,g5⟩
  ·right
   refine⟨.inl (),by rw[B1],λt ht=>?_,λj a b ha hb=>g3 j a b ?_ ha hb⟩
   ·obtain⟨j,hj,rfl⟩:=dP.1 ht
    exact g2 j _ (by omega) (get_at hj)
   ·have:=(F6.1 hb).1
    omega) fuel 0 ⟨D9 _,λj t h=>by omega,λj a b h=>by omega⟩ (by have:=E6;omega)
 obtain⟨r,e,hq⟩:=key;rw[e,A5];cases r with
 |inr e'=>exact⟨e',rfl,λh=>absurd h hq⟩
 |inl u =>
  obtain⟨hp,a3⟩:=hq;obtain⟨e',he,a4⟩:=R16_apart_tot o ⟨hl,hs⟩ λt ht=>(hp t ht).1;simp only[W5];rw[he,A5];refine⟨e',rfl,λh=>⟨by omega,by omega,hp,?_,a4 h⟩⟩
  have key:∀(d i:Nat) a b,o.T[i]?=some a->o.T[i+d+1]?=some b->cmpW a.In b.In=-1:=by
   intro d
   induction d with
   |zero=>exact λi a b=>a3 i a b
   |succ d ih =>
    intro i a b ha hb;have hj:=(F6.1 hb).1;have hm:=get_at (l:=o.T) (i:=i+d+1) (by omega);exact oO _ _ _ (ih i a _ ha hm) (a3 _ _ _ hm (by rw[show i+d+1+1=i+(d+1)+1 by omega];exact hb))
  intro i j a b a8 ha hb;exact key (j-i-1) i a b ha (by rw[show i+(j-i-1)+1=j by omega];exact hb)
def sum_mem{V:Type}{f:V->Nat}:∀{l:List V} {x:V},x∈l->f x<=(l.map f).sum
 |y::l,x,h=>by
  rw[L3,wV];rcases L8.1 h with rfl|h
  ·omega
  ·have:=sum_mem (f:=f) h;omega
def sum_len{V:Type}{f:V->Nat}(hf:∀x,1<=f x):∀l:List V,l.length<=(l.map f).sum
 |[]=>by simp
 |y::l=>by
  have:=sum_len hf l;have:=hf y;rw[L3,wV,G9];omega
def sz_word{x:A2}:x.length+1=szL sz1 x:=by
 unfold szL sz1
 induction x with
 |nil=>rfl
 |cons y l ih=>simp at ih ⊢;omega
def trace_pos(t:I0):1<=gN t:=by unfold gN;omega
def smo_of{o:I4}(s:rM o<=1048576):SmO o:=by
 unfold rM at s;have s1:szL gN o.T<=1048576:=by omega
 refine⟨?_,λt ht=>?_⟩
 ·have:=sum_len (f:=gN) trace_pos o.T;unfold szL at s1;omega
 ·have h1:=sum_mem (f:=gN) ht;have h2:=sz_word (x:=t.In);have h3:=sz_word (x:=t.O);have h4:(o.T.map gN).sum+1<=1048576:=s1;have h5:gN t=(szL sz1 t.In+(szL sz1 t.O+0))+1:=rfl;omega
def bT(n:Nat)(t o:Int):Int:=if t < -1\/(n:Int)<=t\/o < -1\/1048576<o then 2 else if(t=-1)≠(o=-1) then 1 else 0
def dR(n:Nat)(y:A2)(a:Nat)(t:Int):Option Int:=if bT n t ((y[a]?).getD 0)≠0 then some (bT n t ((y[a]?).getD 0)) else none
def rowG(p:A8)(s:Nat)(x:A2):Option Int:=if(x.length:Int)≠p.I\/(↑((p.O[s]?).getD []).length:Int)≠p.I then some 1 else scan (dR p.N.length ((p.O[s]?).getD [])) 0 x
def dX(p:A8):Int:=if p.I<1\/64<p.I then 2 else if p.N.length=0 then 19 else if 4096<p.N.length then 11 else if p.S<0\/(p.N.length:Int)<=p.S then 2 else if p.O.length≠p.N.length then 1 else match scan (rowG p) 0 p.N with|some e=>e|none=>0
def cell_cond(n:Nat)(t o:Int){G:Type}(k2 k1 k0:Option G):((cond (decide (t<(-1:Int))) (some true) (cond (decide ((n:Int)<=t)) (some true) (cond (decide (o<(-1:Int))) (some true) (some (decide (1048576<o))))):Option Bool).bind λ(y:Bool)=>cond y k2 (cond ((!((decide (t=(-1:Int)))==(decide (o=(-1:Int)))))) k1 k0))=if bT n t o=2 then k2 else if bT n t o=1 then k1 else k0:=by
 have two:(t < -1\/(n:Int)<=t\/o < -1\/1048576<o)->(if bT n t o=2 then k2 else if bT n t o=1 then k1 else k0)=k2:=λh=>by
  have e:bT n t o=2:=if_pos h;rw[e];rfl
 by_cases h1:t < -1
 ·rw[C0 h1,A5,F8,two (.inl h1)]
 rw[B1 h1];by_cases h2:(n:Int)<=t
 ·rw[C0 h2,A5,F8,two (.inr (.inl h2))]
 rw[B1 h2];by_cases h3:o < -1
 ·rw[C0 h3,A5,F8,two (.inr (.inr (.inl h3)))]
 rw[B1 h3,A5];by_cases h4:1048576<o
 ·rw[C0 h4,two (.inr (.inr (.inr h4)))]
 rw[B1 h4];have e0:bT n t o=if(t=-1)≠(o=-1) then 1 else 0:=if_neg (by omega)
 rw[e0];by_cases h5:t=-1<;>by_cases h6:o=-1<;>simp[h5,h6]
def zM(n:Nat)(t o:Int):bT n t o=0\/bT n t o=1\/bT n t o=2:=by
 unfold bT;split
 ·exact .inr (.inr rfl)
 ·split
  ·exact .inr (.inl rfl)
  ·exact .inl rfl
def uH{V R S:Type}{g:Nat->V->Option R}(f:R->S):∀(l:List V) (j:Nat),scan (λi x=>(g i x).map f) j l=(scan g j l).map f
 |[],_=>rfl
 |x::l,j=>by
  unfold scan;cases h:g j x with
  |some r=>rfl
  |none=>exact uH f l (j+1)
def BG{p:A8}(hl:p.N.length<=10000000):bE p=some (dX p):=by
 unfold bE dX
 have a0:(cond (decide (p.S<0)) (some true) (some (decide ((p.N.length:Int)<=p.S))):Option Bool)=some (decide (p.S<0\/(p.N.length:Int)<=p.S)):=by
  by_cases h:p.S<0
  ·rw[C0 h,G7 (.inl h)]
  ·rw[B1 h];simp[h]
 by_cases h0:p.I<1
 ·rw[C0 h0,A5,F8,if_pos (.inl h0)]
 rw[B1 h0,A5];by_cases h1:64<p.I
 ·rw[C0 h1,if_pos (.inr h1)]
 rw[B1 h1,if_neg (by omega)];by_cases h2:p.N.length=0
 ·rw[C0,if_pos h2]
 rw[B1,if_neg h2];by_cases h3:4096<p.N.length
 ·rw[C0,if_pos h3]
 rw[B1,if_neg h3,a0,A5];by_cases h4:p.S<0\/(p.N.length:Int)<=p.S
 ·rw[C0 h4,if_pos h4]
 rw[B1 h4,if_neg h4];by_cases h5:p.O.length≠p.N.length
 ·rw[C0,if_pos h5]
 rw[B1,if_neg h5,Z8 (l:=p.N) (rowG p) (λs x hx=>by
  have hs:=(F6.1 hx).1
  have hy:=get_at (l:=p.O) (i:=s) (by omega)
  simp only[bE.s14,rowG]
  rw[O3 hx,F8,B4 hx,hy,H5]
  by_cases k1:(x.length:Int)≠p.I
  ·rw[C0 k1,A5,F8,if_pos (.inl k1)]
  rw[B1 k1,B4 hy,A5]
  by_cases k2:(↑p.O[s].length:Int)≠p.I
  ·rw[C0 k2,if_pos (.inr k2)]
  rw[B1 k2,if_neg (λh=>h.elim k1 k2),B4 hx,Z8 (l:=x) (λa t=>(dR p.N.length p.O[s] a t).map λe=>(Sum.inr (Sum.inr e):Nat⊕(Unit⊕Int))) (λa t ht=>by
   have ha:=(F6.1 ht).1
   have hz:=get_at (l:=p.O[s]) (i:=a) (by omega)
   simp only[bE.s13,dR]
   rw[O3 ht,F8,B4 ht,B4 hy,B4 hz,hz,H5,cell_cond]
   rcases zM p.N.length t p.O[s][a]with e|e|e<;>rw[e]<;>rfl) (by simp only[bE.s13];rw[bY,G0]) (by omega),A5,uH]
  cases scan (dR p.N.length p.O[s]) 0 x<;>rfl) (by simp only[bE.s14];rw[bY,G0]) (by omega),A5]
 cases scan (rowG p) 0 p.N<;>rfl
def R35_Valid_eq{p:A8}(hl:p.N.length<=10000000):bM p=some (dX p):=by
 unfold bM dX
 have a0:(cond (decide (p.S<0)) (some true) (some (decide ((p.N.length:Int)<=p.S))):Option Bool)=some (decide (p.S<0\/(p.N.length:Int)<=p.S)):=by
  by_cases h:p.S<0
  ·rw[C0 h,G7 (.inl h)]
  ·rw[B1 h];simp[h]
 by_cases h0:p.I<1
 ·rw[C0 h0,A5,F8,if_pos (.inl h0)]
 rw[B1 h0,A5];by_cases h1:64<p.I
 ·rw[C0 h1,if_pos (.inr h1)]
 rw[B1 h1,if_neg (by omega)];by_cases h2:p.N.length=0
 ·rw[C0,if_pos h2]
 rw[B1,if_neg h2];by_cases h3:4096<p.N.length
 ·rw[C0,if_pos h3]
 rw[B1,if_neg h3,a0,A5];by_cases h4:p.S<0\/(p.N.length:Int)<=p.S
 ·rw[C0 h4,if_pos h4]
 rw[B1 h4,if_neg h4];by_cases h5:p.O.length≠p.N.length
 ·rw[C0,if_pos h5]
 rw[B1,if_neg h5,Z8 (l:=p.N) (rowG p) (λs x hx=>by
  have hs:=(F6.1 hx).1
  have hy:=get_at (l:=p.O) (i:=s) (by omega)
  simp only[bM.s14,rowG]
  rw[O3 hx,F8,B4 hx,hy,H5]
  by_cases k1:(x.length:Int)≠p.I
  ·rw[C0 k1,A5,F8,if_pos (.inl k1)]
  rw[B1 k1,B4 hy,A5]
  by_cases k2:(↑p.O[s].length:Int)≠p.I
  ·rw[C0 k2,if_pos (.inr k2)]
  rw[B1 k2,if_neg (λh=>h.elim k1 k2),Z8 (l:=x) (λa t=>(dR p.N.length p.O[s] a t).map λe=>(Sum.inr (Sum.inr e):Nat⊕(Unit⊕Int))) (λa t ht=>by
   have ha:=(F6.1 ht).1
   have hz:=get_at (l:=p.O[s]) (i:=a) (by omega)
   simp only[bM.s13,dR]
   rw[C0,B4 hx,B4 ht,B4 hy,B4 hz,hz,H5,K3,cell_cond]
   rcases zM p.N.length t p.O[s][a]with e|e|e<;>rw[e]<;>rfl) (by simp only[bM.s13];rw[B1]) (by omega),A5,uH]
  cases scan (dR p.N.length p.O[s]) 0 x<;>rfl) (by simp only[bM.s14];rw[bY,G0]) (by omega),A5]
 cases scan (rowG p) 0 p.N<;>rfl
structure H9(p:A8):Prop where
 i1:1<=p.I
 i2:p.I<=64
 n1:0<p.N.length
 n2:p.N.length<=4096
 st:0<=p.S/\p.S<(p.N.length:Int)
 ol:p.O.length=p.N.length
 row:∀s,s<p.N.length->∃x y,p.N[s]?=some x/\p.O[s]?=some y/\(x.length:Int)=p.I/\(y.length:Int)=p.I/\∀(a:Nat) (t o:Int),x[a]?=some t->y[a]?=some o->-1<=t/\t<(p.N.length:Int)/\-1<=o/\o<=1048576/\(t=-1↔o=-1)
def validP_ok{p:A8}(h:dX p=0):H9 p:=by
 unfold dX at h;split at h
 ·cases h
 rename_i c1;split at h
 ·cases h
 rename_i c2;split at h
 ·cases h
 rename_i c3;split at h
 ·cases h
 rename_i c4;split at h
 ·cases h
 rename_i c5;have a2:p.O.length=p.N.length:=jK.1 c5
 have hs:scan (rowG p) 0 p.N=none:=by
  cases e:scan (rowG p) 0 p.N with
  |none=>rfl
  |some r =>
   rw[e]at h;have h:r=0:=h
   obtain⟨i,x,hx,hr⟩:∃i x,p.N[i]?=some x/\rowG p (0+i) x=some r:=by
    have:∀(l:A4) (j:Nat),scan (rowG p) j l=some r->∃i x,l[i]?=some x/\rowG p (j+i) x=some r:=by
     intro l
     induction l with
     |nil=>intro j h;cases h
     |cons x l ih =>
      intro j h;unfold scan at h;cases e2:rowG p j x with
      |some q =>
       rw[e2]at h;injection h with h
       subst h;exact⟨0,x,rfl,e2⟩
      |none =>
       rw[e2]at h;obtain⟨i,y,q1,q2⟩:=ih (j+1) h;exact⟨i+1,y,q1,by rw[show j+(i+1)=j+1+i by omega];exact q2⟩
    exact this _ 0 e
   rw[h]at hr;unfold rowG at hr;split at hr
   ·cases hr
   ·have:∀(y l:A2) (j:Nat),scan (dR p.N.length y) j l≠some 0:=by
     intro y l
     induction l with
     |nil=>intro j h;cases h
     |cons x l ih =>
      intro j h;unfold scan at h;cases e:dR p.N.length y j x with
      |some q =>
       rw[e]at h;injection h with h
       unfold dR at e;split at e
       ·rename_i g;injection e with e
        exact g (e.trans h)
       ·cases e
      |none =>
       rw[e]at h;exact ih _ h
    exact absurd hr (this _ _ _)
 refine⟨by omega,by omega,by omega,by omega,by omega,a2,λs a0=>?_⟩;have hx:=get_at a0;have hy:=get_at (l:=p.O) (i:=s) (by omega);have hr:=eG.1 hs s _ hx;unfold rowG at hr;rw[F7,hy,H5]at hr;split at hr
 ·cases hr
 ·rename_i k;refine⟨_,_,hx,hy,X9 λe=>k (.inl e),X9 λe=>k (.inr e),λa t o ha ho=>?_⟩;have hc:=eG.1 hr a t ha;unfold dR at hc;rw[F7,ho,H5]at hc;split at hc
  ·cases hc
  ·rename_i g;have g:=jK.1 g;unfold bT at g;split at g
   ·cases g
   ·rename_i g1;split at g
    ·cases g
    ·rename_i g2;have g2:=jK.1 g2;exact⟨by omega,by omega,by omega,by omega,by rw[g2]⟩
structure Wrt(f:Nat->Int)(init:A2)(a:Nat)(y:A2):Prop where
 len:y.length=init.length
 at_:∀b,b<init.length->y[b]?=if b<a then some (f b) else init[b]?
def Wrt.zero(f:Nat->Int)(init:A2):Wrt f init 0 init:=⟨rfl,λb _=>by rw[if_neg (by omega)]⟩
def Wrt.step{f:Nat->Int}{init:A2}{a:Nat}{y:A2}(h:Wrt f init a y)(ha:a<init.length){v:Int}(hv:v=f a):Wrt f init (a+1) (y.set a v):=by
 refine⟨by rw[P0];exact h.len,λb hb=>?_⟩;have hl:=h.len;by_cases e:b=a
 ·subst e;rw[if_pos (by omega),P9 (by omega),hv]
 ·rw[O6 (by omega),h.at_ b hb];by_cases g:b<a
  ·rw[if_pos g,if_pos (by omega)]
  ·rw[if_neg g,if_neg (by omega)]
def Wrt.skip{f:Nat->Int}{init:A2}{a:Nat}{y:A2}(h:Wrt f init a y)(ha:a<init.length)(hv:init[a]?=some (f a)):Wrt f init (a+1) y:=by
 refine⟨h.len,λb hb=>?_⟩;rw[h.at_ b hb];by_cases e:b=a
 ·subst e;rw[if_neg (by omega),if_pos (by omega),hv]
 ·by_cases g:b<a
  ·rw[if_pos g,if_pos (by omega)]
  ·rw[if_neg g,if_neg (by omega)]
def Wrt.done{f:Nat->Int}{init y:A2}{a:Nat}(h:Wrt f init a y)(ha:init.length<=a):y=(List.range init.length).map f:=by
 refine aC λb=>?_;by_cases g:b<init.length
 ·rw[h.at_ b g,if_pos (by omega),H7,Q6 g];rfl
 ·rw[M2 (by have:=h.len;omega),M2 (by simp;omega)]
def Wrt.cur{f:Nat->Int}{init:A2}{a:Nat}{y:A2}(h:Wrt f init a y)(ha:a<init.length):y[a]?=init[a]?:=by rw[h.at_ a ha,if_neg (by omega)]
def compN(s:Nat)(x:A2)(a:Nat):Int:=if(x[a]?).getD 0=-1 then(s:Int) else(x[a]?).getD 0
def compO(out:Int)(x y:A2)(a:Nat):Int:=if(x[a]?).getD 0=-1 then out else(y[a]?).getD 0
def bV(p:A8)(s:Nat):A2:=(List.range p.I.toNat).map (compN s ((p.N[s]?).getD []))
def bR(p:A8)(out:Int)(s:Nat):A2:=(List.range p.I.toNat).map (compO out ((p.N[s]?).getD []) ((p.O[s]?).getD []))
def qR{V:Type}(f:Nat->V)(k:Nat):(List.range (k+1)).map f=(List.range k).map f++[f k]:=by rw[fP,L5];rfl
def jW(p:A8)(out:Int):B6×Int:=if dX p≠0 then(⟨0,0,[],[]⟩,dX p) else if out<0\/1048576<out then(⟨0,0,[],[]⟩,2) else if 128<p.N.length then(⟨0,0,[],[]⟩,11) else(⟨p.I,p.S,(List.range p.N.length).map (bV p),(List.range p.N.length).map (bR p out)⟩,0)
def zpa{p:A8}(hl:p.N.length<=10000000)(out:Int):U7 p out=some (jW p out):=by
 unfold U7 jW;rw[BG hl,A5];by_cases hv:dX p≠0
 ·rw[C0 hv,if_pos hv]
 rw[B1 hv,if_neg hv];have H:=validP_ok (jK.1 hv);by_cases h1:out<0
 ·rw[C0 h1,A5,F8,if_pos (.inl h1)]
 rw[B1 h1,A5];by_cases h2:1048576<out
 ·rw[C0 h2,if_pos (.inr h2)]
 rw[B1 h2,if_neg (by omega)];by_cases h3:128<p.N.length
 ·rw[C0,if_pos h3]
 rw[B1,if_neg h3];have b5:=H.i1;have a8:=H.i2
 have key:=H4 (step:=λ(s:A4×A4×Nat)=>U7.s20 p out s.1 s.2.1 s.2.2) (λs=>s.2.2<=p.N.length/\s.1=(List.range s.2.2).map (bV p)/\s.2.1=(List.range s.2.2).map (bR p out)) (λs=>p.N.length-s.2.2) (λr=>r=((List.range p.N.length).map (bV p),(List.range p.N.length).map (bR p out))) (λ⟨A,B,s⟩ ⟨g1,g2,g3⟩=>by
  simp only at g1 g2 g3
  subst g2 g3
  simp only[U7.s20]
  by_cases hs:s<p.N.length
  ·left
   obtain⟨x,y,hx,hy,b3,a9,b4⟩:=H.row s hs
   refine⟨((List.range (s+1)).map (bV p),(List.range (s+1)).map (bR p out),s+1),?_,⟨hs,rfl,rfl⟩,by simp only;omega⟩
   have a2:=H4 (step:=λ(q:A2×A2×Nat)=>U7.s18 p out s x q.1 q.2.1 q.2.2) (λq=>q.2.2<=x.length/\Wrt (compN s x) (List.replicate p.I.toNat 0) q.2.2 q.1/\Wrt (compO out x y) (List.replicate p.I.toNat 0) q.2.2 q.2.1) (λq=>x.length-q.2.2) (λr=>r=(bV p s,bR p out s)) (λ⟨A,B,a⟩ ⟨q1,q2,q3⟩=>by
    simp only at q1 q2 q3
    simp only[U7.s18]
    by_cases ha:a<x.length
    ·left
     have a0:=get_at ha
     have a3:=get_at (l:=y) (i:=a) (by omega)
     have a7:=q2.len
     have a4:=q3.len
     rw[J6]at a7 a4
     have a6:=get_at (l:=A) (i:=a) (by omega)
     have a5:=get_at (l:=B) (i:=a) (by omega)
     have b2:(List.replicate p.I.toNat (0:Int)).length=p.I.toNat:=J6
     have hn:compN s x a=if x[a]=-1 then(s:Int) else x[a]:=by unfold compN;rw[a0,H5]
     have ho:compO out x y a=if x[a]=-1 then out else y[a]:=by unfold compO;rw[a0,a3,H5,H5]
     rw[O3 a0,F8,B4 a0,B4 hy,B4 a3,B4 a6,B4 a5]
     by_cases e:x[a]=-1
     ·rw[if_pos e]at hn ho
      refine⟨((A.set a x[a]).set a (s:Int),(B.set a y[a]).set a out,a+1),?_,⟨ha,?_,?_⟩,by simp only;omega⟩
      ·rw[C0 e,B4 (get_at (by rw[P0];omega)),B4 (get_at (by rw[P0];omega))]
      ·simp only[List.set_set];exact q2.step (by omega) hn.symm
      ·simp only[List.set_set];exact q3.step (by omega) ho.symm
     ·rw[if_neg e]at hn ho
      exact⟨(A.set a x[a],B.set a y[a],a+1),by rw[B1 e],⟨ha,q2.step (by omega) hn.symm,q3.step (by omega) ho.symm⟩,by simp only;omega⟩
    ·right
     have e:a=x.length:=by omega
     subst e
     refine⟨_,by rw[bY,G0],?_⟩
     rw[q2.done (by rw[J6];omega),q3.done (by rw[J6];omega),J6]
     unfold bV bR
     rw[hx,hy]
     rfl) fuel (List.replicate p.I.toNat 0,List.replicate p.I.toNat 0,0) ⟨D9 _,Wrt.zero _ _,Wrt.zero _ _⟩ (by have:=E6;simp only;omega)
   obtain⟨r,e,rfl⟩:=a2
   rw[C0,H1 ⟨by omega,bN _,by unfold B5;omega⟩,H1 ⟨by omega,bN _,by unfold B5;omega⟩,B4 hx,e,A5]
   simp only[U7.k19]
   rw[H1 (by unfold B5;simp;omega),H1 (by unfold B5;simp;omega),qR,qR]
  ·right
   have e:s=p.N.length:=by omega
   subst e
   exact⟨_,by rw[B1],rfl⟩) fuel ([],[],0) ⟨D9 _,rfl,rfl⟩ (by have:=E6;simp only;omega)
 obtain⟨r,e,rfl⟩:=key;rw[e,A5];rfl
def zra{p:A8}(hl:p.N.length<=10000000)(out:Int):U4 p out=some (jW p out):=by
 unfold U4 jW;rw[R35_Valid_eq hl,A5,A5];by_cases hv:dX p≠0
 ·rw[C0 hv,if_pos hv]
 rw[B1 hv,if_neg hv];have H:=validP_ok (jK.1 hv);by_cases h1:out<0
 ·rw[C0 h1,A5,F8,if_pos (.inl h1)]
 rw[B1 h1,A5];by_cases h2:1048576<out
 ·rw[C0 h2,if_pos (.inr h2)]
 rw[B1 h2,if_neg (by omega)];by_cases h3:128<p.N.length
 ·rw[C0,if_pos h3]
 rw[B1,if_neg h3];have b2:=H.i1;have a6:=H.i2
 have key:=H4 (step:=λ(s:A4×A4×Nat)=>U4.s20 p out s.1 s.2.1 s.2.2) (λs=>s.2.2<=p.N.length/\s.1=(List.range s.2.2).map (bV p)/\s.2.1=(List.range s.2.2).map (bR p out)) (λs=>p.N.length-s.2.2) (λr=>r=((List.range p.N.length).map (bV p),(List.range p.N.length).map (bR p out))) (λ⟨A,B,s⟩ ⟨g1,g2,g3⟩=>by
  simp only at g1 g2 g3
  subst g2 g3
  simp only[U4.s20]
  by_cases hs:s<p.N.length
  ·left
   obtain⟨x,y,hx,hy,a8,a7,a9⟩:=H.row s hs
   refine⟨((List.range (s+1)).map (bV p),(List.range (s+1)).map (bR p out),s+1),?_,⟨hs,rfl,rfl⟩,by simp only;omega⟩
   have a3:=H4 (step:=λ(q:A2×A2×Nat)=>U4.s18 p out s q.1 q.2.1 q.2.2) (λq=>q.2.2<=x.length/\Wrt (compN s x) x q.2.2 q.1/\Wrt (compO out x y) y q.2.2 q.2.1) (λq=>x.length-q.2.2) (λr=>r=(bV p s,bR p out s)) (λ⟨A,B,a⟩ ⟨q1,q2,q3⟩=>by
    simp only at q1 q2 q3
    simp only[U4.s18]
    by_cases ha:a<x.length
    ·left
     have a0:=get_at ha
     have a2:=get_at (l:=y) (i:=a) (by omega)
     have a4:A[a]?=some x[a]:=(q2.cur ha).trans a0
     have a5:B[a]?=some y[a]:=(q3.cur (by omega)).trans a2
     have hn:compN s x a=if x[a]=-1 then(s:Int) else x[a]:=by unfold compN;rw[a0,H5]
     have ho:compO out x y a=if x[a]=-1 then out else y[a]:=by unfold compO;rw[a0,a2,H5,H5]
     rw[C0,B4 a4]
     by_cases e:x[a]=-1
     ·rw[if_pos e]at hn ho
      exact⟨(A.set a (s:Int),B.set a out,a+1),by rw[C0 e,B4 a4,B4 a5,K3],⟨ha,q2.step ha hn.symm,q3.step (by omega) ho.symm⟩,by simp only;omega⟩
     ·rw[if_neg e]at hn ho
      exact⟨(A,B,a+1),by rw[B1 e,K3],⟨ha,q2.skip ha (by rw[hn];exact a0),q3.skip (by omega) (by rw[ho];exact a2)⟩,by simp only;omega⟩
    ·right
     have e:a=x.length:=by omega
     subst e
     refine⟨_,by rw[B1],?_⟩
     rw[q2.done (by omega),q3.done (by omega)]
     unfold bV bR
     rw[hx,hy,show x.length=p.I.toNat by omega,show y.length=p.I.toNat by omega]
     rfl) fuel (x,y,0) ⟨D9 _,Wrt.zero _ _,Wrt.zero _ _⟩ (by have:=E6;simp only;omega)
   obtain⟨r,e,rfl⟩:=a3
   rw[C0,B4 hx,H1 (by unfold B5;simp;omega),B4 hy,H1 (by unfold B5;simp;omega),cS,cS,e,A5]
   simp only[U4.k19]
   rw[H1 (by unfold B5;simp;omega),H1 (by unfold B5;simp;omega),qR,qR]
  ·right
   have e:s=p.N.length:=by omega
   subst e
   exact⟨_,by rw[B1],rfl⟩) fuel ([],[],0) ⟨D9 _,rfl,rfl⟩ (by have:=E6;simp only;omega)
 obtain⟨r,e,rfl⟩:=key;rw[e,A5];rfl
section
def pnx(p:A8)(s a:Nat):Int:=(((p.N[s]?).getD [])[a]?).getD (-1)
def pot(p:A8)(s a:Nat):Int:=(((p.O[s]?).getD [])[a]?).getD (-1)
def H9.at{p:A8}(H:H9 p){s a:Nat}(hs:s<p.N.length)(ha:a<p.I.toNat):-1<=pnx p s a/\pnx p s a<(p.N.length:Int)/\-1<=pot p s a/\pot p s a<=1048576/\(pnx p s a=-1↔pot p s a=-1)/\∃x y,p.N[s]?=some x/\p.O[s]?=some y/\x[a]?=some (pnx p s a)/\y[a]?=some (pot p s a)/\(x.length:Int)=p.I/\(y.length:Int)=p.I:=by
 obtain⟨x,y,h1,h2,h3,h4,h5⟩:=H.row s hs;have hx:=get_at (l:=x) (i:=a) (by omega);have hy:=get_at (l:=y) (i:=a) (by omega);have e1:pnx p s a=x[a]:=by unfold pnx;rw[h1,H5,hx,H5]
 have e2:pot p s a=y[a]:=by unfold pot;rw[h2,H5,hy,H5]
 obtain⟨k1,k2,k3,k4,k5⟩:=h5 a _ _ hx hy;rw[e1,e2];exact⟨k1,k2,k3,k4,k5,x,y,h1,h2,hx,hy,h3,h4⟩
def bA{p:A8}(H:H9 p){q a u:Nat}(h:pnx p q a=(u:Int)):q<p.N.length/\a<p.I.toNat/\u<p.N.length:=by
 have hq:q<p.N.length:=X9 λg=>by
  unfold pnx at h;rw[show p.N[q]?=none from M2 (by omega)]at h;have h:(-1:Int)=↑u:=h;omega
 have ha:a<p.I.toNat:=X9 λg=>by
  obtain⟨x,y,h1,h2,h3,h4,h5⟩:=H.row q hq;unfold pnx at h;rw[h1,H5,show x[a]?=none from M2 (by omega)]at h;have h:(-1:Int)=↑u:=h;omega
 have:=(H.at hq ha).2.1;exact⟨hq,ha,by omega⟩
inductive Cong(p:A8)(s t:Nat):Nat->Nat->Prop
 |base:Cong p s t s t
 |refl (q:Nat):Cong p s t q q
 |symm {q r:Nat} (h:Cong p s t q r):Cong p s t r q
 |trans {q r u:Nat} (h:Cong p s t q r) (k:Cong p s t r u):Cong p s t q u
 |step {q r:Nat} (a u v:Nat) (h:Cong p s t q r) (hu:pnx p q a=(u:Int)) (hv:pnx p r a=(v:Int)):Cong p s t u v
def Q0(p:A8)(s t:Nat):Prop:=∃q r a,Cong p s t q r/\pnx p q a≠-1/\pnx p r a≠-1/\pot p q a≠pot p r a
noncomputable def clsOf(p:A8)(s t q:Nat):Nat:=by
 classical
 exact((List.range (q+1)).find? λr=>decide (Cong p s t q r)).getD q
section
variable {p:A8}{s t:Nat}
def rS(q:Nat):clsOf p s t q<=q/\Cong p s t q (clsOf p s t q)/\∀r,r<clsOf p s t q->¬Cong p s t q r:=by
 classical
 unfold clsOf;cases h:(List.range (q+1)).find? λr=>decide (Cong p s t q r) with
 |none=>exact absurd (G7 (Cong.refl q)) (List.find?_eq_none.1 h q (M5.2 (by omega)))
 |some r =>
  obtain⟨h1,h2,h3⟩:=List.find?_range_eq_some.1 h;rw[H5];have h2:=M5.1 h2;refine⟨by omega,of_decide_eq_true h1,λu hu hc=>?_⟩;have:=h3 u hu;simp[hc]at this
def clsOf_eq{q c:Nat}(h:Cong p s t q c)(h2:∀r,Cong p s t q r->c<=r):clsOf p s t q=c:=by
 obtain⟨g1,g2,g3⟩:=rS (p:=p) (s:=s) (t:=t) q;have h3:=h2 _ g2;rcases K4 c (clsOf p s t q) with k|k
 ·exact absurd h (g3 c k)
 ·omega
def xQ{q r:Nat}:Cong p s t q r↔clsOf p s t q=clsOf p s t r:=by
 obtain⟨a1,a2,a3⟩:=rS (p:=p) (s:=s) (t:=t) q;obtain⟨b1,b2,b3⟩:=rS (p:=p) (s:=s) (t:=t) r;constructor
 ·intro h;refine clsOf_eq (h.trans b2) λu hu=>pY λk=>b3 u k (h.symm.trans hu)
 ·intro h;rw[h]at a2;exact a2.trans b2.symm
def cong_into(H:H9 p)(hs:s<p.N.length)(ht:t<p.N.length){cl:Nat->Nat}(h0:cl s=cl t)(hc:∀q r a u v:Nat,q<p.N.length->r<p.N.length->cl q=cl r->pnx p q a=(u:Int)->pnx p r a=(v:Int)->cl u=cl v){q r:Nat}(h:Cong p s t q r):q=r\/(q<p.N.length/\r<p.N.length/\cl q=cl r):=by
 induction h with
 |base=>exact .inr ⟨hs,ht,h0⟩
 |refl q=>exact .inl rfl
 |symm _ ih =>
  rcases ih with e|⟨a,b,c⟩
  ·exact .inl e.symm
  ·exact .inr ⟨b,a,c.symm⟩
 |trans _ _ ih1 ih2 =>
  rcases ih1 with rfl|⟨a,b,c⟩
  ·exact ih2
  ·rcases ih2 with rfl|⟨a',b',c'⟩
   ·exact .inr ⟨a,b,c⟩
   ·exact .inr ⟨a,b',c.trans c'⟩
 |step a u v _ hu hv ih =>
  obtain⟨q1,_,q3⟩:=bA H hu;obtain⟨r1,_,r3⟩:=bA H hv;rcases ih with rfl|⟨_,_,c⟩
  ·rw[hu]at hv;exact .inl (by omega)
  ·exact .inr ⟨q3,r3,hc _ _ a u v q1 r1 c hu hv⟩
structure ClsL(p:A8)(s t:Nat)(C:A2)(cl:Nat->Nat):Prop where
 len:C.length=p.N.length
 at_:∀q,q<p.N.length->C[q]?=some (↑(cl q):Int)
 le:∀q,q<p.N.length->cl q<=q
 idem:∀q,q<p.N.length->cl (cl q)=cl q
 sound:∀q,q<p.N.length->Cong p s t q (cl q)
def Q4(n:Nat)(cl:Nat->Nat):Nat:=(List.range n).countP λq=>decide (cl q=q)
def O9(cl:Nat->Nat)(u v q:Nat):Nat:=if cl q=max (cl u) (cl v) then min (cl u) (cl v) else cl q
def yC(cl:Nat->Nat)(u v:Nat):O9 cl u v u=O9 cl u v v:=by
 unfold O9;rcases kV (cl u) (cl v) with h|h
 ·rw[mZ h,eQ h,if_pos rfl];split<;>omega
 ·rw[mW h,mY h,if_pos rfl];split<;>omega
def uX{cl:Nat->Nat}{u v q r:Nat}(h:cl q=cl r):O9 cl u v q=O9 cl u v r:=by unfold O9;rw[h]
def countP_lt{n:Nat}{f g:Nat->Bool}(h:∀q,q<n->g q=true->f q=true){x:Nat}(hx:x<n)(h1:f x=true)(h2:g x=false):(List.range n).countP g<(List.range n).countP f:=by
 induction n with
 |zero=>omega
 |succ n ih =>
  rw[fP,tF,tF,qD,qD];by_cases e:x=n
  ·subst e;have a0:(List.range x).countP g<=(List.range x).countP f:=List.countP_mono_left λq hq hg=>h q (by have:=M5.1 hq;omega) hg;rw[h1,h2];simp;omega
  ·have:=ih (λq hq=>h q (by omega)) (by omega)
   have h3:(if g n=true then 1 else 0)<=(if f n=true then 1 else 0:Nat):=by
    by_cases k:g n=true
    ·rw[if_pos k,if_pos (h n (by omega) k)];omega
    ·rw[if_neg k];omega
   omega
def ClsL.join{C:A2}{cl:Nat->Nat}(K:ClsL p s t C cl){u v:Nat}(hu:u<p.N.length)(hv:v<p.N.length)(hc:Cong p s t u v)(hn:p.N.length<=10000000):∃C',eD C (u:Int) (v:Int)=some C'/\ClsL p s t C' (O9 cl u v)/\(cl u≠cl v->Q4 p.N.length (O9 cl u v)<Q4 p.N.length cl):=by
 have a6:=K.len
 have key:=H4 (step:=λ(q:A2×Nat)=>eD.s2 (↑(cl u):Int) (↑(cl v):Int) (↑(cl u):Int) (↑(cl v):Int) q.1 q.2) (λq=>q.2<=C.length/\Wrt (λb=>(↑(O9 cl u v b):Int)) C q.2 q.1) (λq=>C.length-q.2) (λr=>r=(List.range C.length).map λb=>(↑(O9 cl u v b):Int)) (λ⟨y,i⟩ ⟨g1,g2⟩=>by
  simp only at g1 g2
  simp only[eD.s2]
  have b3:=g2.len
  by_cases h:i<C.length
  ·left
   have hy:y[i]?=some (↑(cl i):Int):=(g2.cur h).trans (K.at_ i (by omega))
   rw[C0,B4 hy]
   by_cases e:cl i=max (cl u) (cl v)
   ·refine⟨(y.set i (min (↑(cl u):Int) (↑(cl v):Int)),i+1),by rw[C0,B4 hy],⟨h,g2.step h ?_⟩,by simp only;omega⟩
    unfold O9
    rw[if_pos e]
    omega
   ·refine⟨(y,i+1),by rw[B1],⟨h,g2.skip h ?_⟩,by simp only;omega⟩
    unfold O9
    rw[if_neg e]
    exact K.at_ i (by omega)
  ·right
   exact⟨_,by rw[B1],g2.done (by omega)⟩) fuel (C,0) ⟨D9 _,Wrt.zero _ _⟩ (by have:=E6;simp only;omega)
 obtain⟨r,e,rfl⟩:=key;have a9:min (cl u) (cl v)<p.N.length:=by have:=K.le u hu;omega
 have a5:∀q,q<p.N.length->cl q<p.N.length:=λq hq=>by have:=K.le q hq;omega
 have a2:Cong p s t (cl u) (cl v):=(K.sound u hu).symm.trans (hc.trans (K.sound v hv))
 have a7:Cong p s t (max (cl u) (cl v)) (min (cl u) (cl v)):=by
  rcases kV (cl u) (cl v) with h|h
  ·rw[mZ h,eQ h];exact a2.symm
  ·rw[mW h,mY h];exact a2
 have a3:cl (min (cl u) (cl v))=min (cl u) (cl v):=by
  rcases kV (cl u) (cl v) with h|h
  ·rw[eQ h];exact K.idem u hu
  ·rw[mY h];exact K.idem v hv
 have a4:cl (max (cl u) (cl v))=max (cl u) (cl v):=by
  rcases kV (cl u) (cl v) with h|h
  ·rw[mZ h];exact K.idem v hv
  ·rw[mW h];exact K.idem u hu
 have a0:O9 cl u v (min (cl u) (cl v))=min (cl u) (cl v):=by
  unfold O9;rw[a3];split<;>omega
 refine⟨(List.range C.length).map λb=>(↑(O9 cl u v b):Int),?_,⟨by simp[a6],λq hq=>?_,λq hq=>?_,λq hq=>?_,λq hq=>?_⟩,λb4=>?_⟩
 ·unfold eD;rw[D6 (i:=u) rfl (K.at_ u hu),D6 (i:=v) rfl (K.at_ v hv),D6 (i:=u) rfl (K.at_ u hu),D6 (i:=v) rfl (K.at_ v hv),e,A5]
 ·rw[H7,Q6 (by omega)];rfl
 ·have:=K.le q hq;unfold O9;split<;>omega
 ·have h1:O9 cl u v q=min (cl u) (cl v)\/(O9 cl u v q=cl q/\cl q≠max (cl u) (cl v)):=by
   unfold O9;split
   ·exact .inl rfl
   ·rename_i g;exact .inr ⟨rfl,g⟩
  rcases h1 with h1|⟨h1,h2⟩
  ·rw[h1,a0]
  ·rw[h1];unfold O9;rw[K.idem q hq,if_neg h2]
 ·unfold O9;split
  ·rename_i g;have:=K.sound q hq;rw[g]at this;exact this.trans a7
  ·exact K.sound q hq
 ·have b2:min (cl u) (cl v)<max (cl u) (cl v):=by omega
  have a8:max (cl u) (cl v)<p.N.length:=by have:=a5 u hu;have:=a5 v hv;omega
  refine countP_lt (λq hq h=>?_) a8 (G7 a4) (J0 ?_)
  ·have h:=of_decide_eq_true h;refine G7 ?_;unfold O9 at h;split at h
   ·rename_i g;rw[<- h,a3]
   ·exact h
  ·unfold O9;rw[a4,if_pos rfl];omega
structure FstOk(p:A8)(cl:Nat->Nat)(a q:Nat)(F:A2):Prop where
 len:F.length=p.N.length
 none_:∀c,c<p.N.length->F[c]?=some (-1)->∀r,r<q->cl r=c->pnx p r a=-1
 some_:∀c,c<p.N.length->F[c]?≠some (-1)->∃f:Nat,F[c]?=some (f:Int)/\f<q/\cl f=c/\pnx p f a≠-1/\∀r,r<q->cl r=c->pnx p r a≠-1->pot p f a=pot p r a/\cl (pnx p f a).toNat=cl (pnx p r a).toNat
def SymOk(p:A8)(cl:Nat->Nat)(a:Nat):Prop:=∀q r,q<p.N.length->r<p.N.length->cl q=cl r->pnx p q a≠-1->pnx p r a≠-1->pot p q a=pot p r a/\cl (pnx p q a).toNat=cl (pnx p r a).toNat
def FstOk.end_(H:H9 p){cl:Nat->Nat}{a:Nat}{F:A2}(K:FstOk p cl a p.N.length F)(hcl:∀q,q<p.N.length->cl q<p.N.length):SymOk p cl a:=λq r hq hr e h1 h2=>by
 have hc:=hcl q hq;by_cases g:F[cl q]?=some (-1)
 ·exact absurd (K.none_ _ hc g q hq rfl) h1
 ·obtain⟨f,_,_,_,_,h⟩:=K.some_ _ hc g;obtain⟨a1,a2⟩:=h q hq rfl h1;obtain⟨b1,b2⟩:=h r hr e.symm h2;exact⟨a1.symm.trans b1,a2.symm.trans b2⟩
def loop_first(H:H9 p){C:A2}{cl:Nat->Nat}(K:ClsL p s t C cl){a:Nat}(ha:a<p.I.toNat)(more:Bool){F0:A2}(hF:F0=(List.range p.N.length).map λ_=>(-1:Int)) :
  ∃r,iter (λ(q:A2×Nat)=>L2.s198 p C more a q.1 q.2) fuel (F0,0)=some r /\
   ((r=.inr (.inr (.inr (.inr (.inr ([],false)))))/\Q0 p s t)\/(∃C' cl',r=.inl (C',true)/\ClsL p s t C' cl'/\Q4 p.N.length cl'<Q4 p.N.length cl/\∀q r,cl q=cl r->cl' q=cl' r)\/(r=.inl (C,more)/\SymOk p cl a)):=by
 have hn:=H.n2;have b7:∀q,q<p.N.length->cl q<p.N.length:=λq hq=>by have:=K.le q hq;omega
 refine H4 (step:=λ(q:A2×Nat)=>L2.s198 p C more a q.1 q.2) (λq=>q.2<=p.N.length/\FstOk p cl a q.2 q.1) (λq=>p.N.length-q.2) (λr=>_) (λ⟨F,q⟩ ⟨g1,g2⟩=>?_) fuel (F0,0) ⟨D9 _,?_⟩ (by have:=E6;simp only;omega)
 ·simp only at g1 g2;simp only[L2.s198];by_cases hq:q<p.N.length
  ·obtain⟨n1,n2,n3,n4,n5,x,y,hx,hy,a8,c7,d2,d1⟩:=H.at hq ha;rw[C0,B4 hx,B4 a8];by_cases e:pnx p q a=-1
   ·left;refine⟨(F,q+1),by rw[C0 e,A5];rfl,⟨hq,g2.len,λc hc hF r hr a0=>?_,λc hc hF=>?_⟩,by simp only;omega⟩
    ·by_cases e2:r=q
     ·rw[e2];exact e
     ·exact g2.none_ c hc hF r (by simp only at hr;omega) a0
    ·obtain⟨f,f1,f2,f3,f4,f5⟩:=g2.some_ c hc hF;refine⟨f,f1,by simp only;omega,f3,f4,λr hr a0 a2=>?_⟩;by_cases e2:r=q
     ·rw[e2]at a2;exact absurd e a2
     ·exact f5 r (by simp only at hr;omega) a0 a2
   ·have b4:=K.at_ q hq;have a9:=g2.len;have hc:=b7 q hq;have a4:=get_at (l:=F) (i:=cl q) (by omega);rw[B1 e,B4 b4,D6 (i:=cl q) rfl a4];by_cases e1:F[cl q]=-1
    ·left;refine⟨(F.set (cl q) (q:Int),q+1),by rw[C0 e1,B4 b4,D6 (i:=cl q) rfl a4,A5];rfl,⟨hq,by rw[P0];exact a9,λc a3 hF r hr a0=>?_,λc a3 hF=>?_⟩,by simp only;omega⟩
     ·simp only at hF hr;by_cases e2:c=cl q
      ·subst e2;rw[P9 (by omega)]at hF;injection hF with hF
       omega
      ·rw[O6 (by omega)]at hF;exact g2.none_ c a3 hF r (cW (by omega) λe3=>e2 (by rw[<- a0,e3])) a0
     ·simp only at hF ⊢;by_cases e2:c=cl q
      ·subst e2;refine⟨q,by rw[P9 (by omega)],by omega,rfl,e,λr hr a0 a2=>?_⟩;by_cases e3:r=q
       ·rw[e3];exact⟨rfl,rfl⟩
       ·exact absurd (g2.none_ _ hc (by rw[a4,e1]) r (by omega) a0) a2
      ·rw[O6 (by omega)]at hF ⊢;obtain⟨f,f1,f2,f3,f4,f5⟩:=g2.some_ c a3 hF;exact⟨f,f1,by omega,f3,f4,λr hr a0 a2=>f5 r (cW (by omega) λe3=>e2 (by rw[<- a0,e3])) a0 a2⟩
    ·obtain⟨f,f1,f2,f3,f4,f5⟩:=g2.some_ (cl q) hc (by rw[a4];intro h;injection h with h;exact e1 h);rw[a4]at f1;injection f1 with f1
     have hf:f<p.N.length:=by omega
     obtain⟨m1,m2,m3,m4,m5,x',y',b2,b8,a7,b3,c8,c9⟩:=H.at hf ha;have a5:Cong p s t f q:=(K.sound f hf).trans (by rw[f3];exact(K.sound q hq).symm);rw[B1 e1,f1,D6 (i:=f) rfl b8,B4 b3,B4 hy,B4 c7];by_cases e4:pot p f a≠pot p q a
     ·right;exact⟨_,by rw[C0 e4,A5];rfl,.inl ⟨rfl,f,q,a,a5,f4,e,e4⟩⟩
     ·obtain⟨u,hu⟩:∃u:Nat,pnx p f a=(u:Int):=⟨(pnx p f a).toNat,by omega⟩;obtain⟨v,hv⟩:∃v:Nat,pnx p q a=(v:Int):=⟨(pnx p q a).toNat,by omega⟩;have b6:u<p.N.length:=by omega
      have b5:v<p.N.length:=by omega
      rw[B1 e4,D6 (i:=f) rfl b2,B4 a7,hu,D6 (i:=u) rfl (K.at_ u b6),B4 hx,B4 a8,hv,D6 (i:=v) rfl (K.at_ v b5)];by_cases e5:cl u=cl v
      ·left;refine⟨(F,q+1),by rw[B1,A5];rfl,⟨hq,a9,λc a3 hF r hr a0=>?_,λc a3 hF=>?_⟩,by simp only;omega⟩
       ·simp only at hF hr;by_cases e2:c=cl q
        ·rw[e2,a4]at hF;injection hF with hF
         exact absurd hF e1
        ·exact g2.none_ c a3 hF r (cW (by omega) λe3=>e2 (by rw[<- a0,e3])) a0
       ·simp only at hF ⊢;obtain⟨f',a6,d0,c6,c0,b9⟩:=g2.some_ c a3 hF;refine⟨f',a6,by omega,c6,c0,λr hr a0 a2=>?_⟩;by_cases e3:r=q
        ·rw[e3]at a0 ⊢;rw[<- a0,a4]at a6;injection a6 with a6
         have:f'=f:=by omega
         rw[this,hu,hv];exact⟨jK.1 e4,by simpa using e5⟩
        ·exact b9 r (by omega) a0 a2
      ·right;obtain⟨C',j1,j2,j3⟩:=K.join b6 b5 (.step a u v a5 hu hv) (by omega);rw[C0,D6 (i:=f) rfl b2,B4 a7,hu,B4 hx,B4 a8,hv,j1,A5,A5];exact⟨_,rfl,.inr (.inl ⟨C',O9 cl u v,rfl,j2,j3 e5,λq r h=>uX h⟩)⟩
  ·right;have e:q=p.N.length:=by omega
   subst e;exact⟨_,by rw[B1],.inr (.inr ⟨rfl,g2.end_ H b7⟩)⟩
 ·subst hF;refine⟨by simp,λc _ _ r hr=>by simp only at hr;omega,λc hc hF=>absurd ?_ hF⟩;simp only;rw[H7,Q6 hc];rfl
end
end
section
section
variable {p:A8}{s t:Nat}
def all_minus(H:H9 p):iter (λ(q:A2×Nat)=>L2.s196 p q.1 q.2) fuel (List.replicate p.N.length 0,0)=some ((List.range p.N.length).map λ_=>(-1:Int)):=by
 have hn:=H.n2
 have key:=H4 (step:=λ(q:A2×Nat)=>L2.s196 p q.1 q.2) (λq=>q.2<=p.N.length/\Wrt (λ_=>(-1:Int)) (List.replicate p.N.length 0) q.2 q.1) (λq=>p.N.length-q.2) (λr=>r=(List.range p.N.length).map λ_=>(-1:Int)) (λ⟨y,i⟩ ⟨g1,g2⟩=>by
  simp only at g1 g2
  simp only[L2.s196]
  have a0:=g2.len
  rw[J6]at a0
  by_cases h:i<p.N.length
  ·left
   exact⟨(y.set i (-1),i+1),by rw[C0,B4 (get_at (l:=y) (i:=i) (by omega))],⟨h,g2.step (by rw[J6];exact h) rfl⟩,by simp only;omega⟩
  ·right
   refine⟨_,by rw[B1],?_⟩
   rw[g2.done (by rw[J6];omega),J6]) fuel (List.replicate p.N.length 0,0) ⟨D9 _,Wrt.zero _ _⟩ (by have:=E6;simp only;omega)
 obtain⟨r,e,rfl⟩:=key;exact e
def pass_at(H:H9 p){C:A2}{cl:Nat->Nat}(K:ClsL p s t C cl){a:Nat}(ha:a<p.I.toNat)(m:Bool) :
  (L2.s200 p C m a=some (.inr (.inr (.inr (.inr ([],false)))))/\Q0 p s t)\/(∃C' cl',L2.s200 p C m a=some (.inl (C',true,a+1))/\ClsL p s t C' cl'/\Q4 p.N.length cl'<Q4 p.N.length cl/\∀q r,cl q=cl r->cl' q=cl' r)\/(L2.s200 p C m a=some (.inl (C,m,a+1))/\SymOk p cl a):=by
 have hn:=H.n2;have hi:=H.i2
 have k:∀(y:A2) (b:Bool),L2.k199 a y b=some (.inl (y,b,a+1)):=λy b=>by
  unfold L2.k199;rw[K3]
 obtain⟨r,e,hr⟩:=loop_first H K ha m rfl
 have e2:L2.s200 p C m a=Sum.elim (λ(s:A2×Bool)=>L2.k199 a s.1 s.2) some r:=by
  unfold L2.s200;rw[C0,H1 ⟨by omega,bN _,by unfold B5;omega⟩,all_minus H,A5,e,A5]
 rw[e2];rcases hr with⟨hr,hc⟩|⟨C2,a0,hr,h⟩|⟨hr,hs⟩
 ·exact .inl ⟨by rw[hr,eP],hc⟩
 ·exact .inr (.inl ⟨C2,a0,by rw[hr,W5,k],h⟩)
 ·exact .inr (.inr ⟨by rw[hr,W5,k],hs⟩)
def PassQ(p:A8)(s t:Nat)(cl:Nat->Nat)(r:(A2×Bool)⊕((A2×Bool)⊕(A2⊕(A2×Bool)))):Prop:=(r=.inr (.inr (.inr ([],false)))/\Q0 p s t)\/∃C' cl' m,r=.inl (C',m)/\ClsL p s t C' cl'/\(m=true->Q4 p.N.length cl'<Q4 p.N.length cl)/\(m=false->cl'=cl/\∀a,a<p.I.toNat->SymOk p cl' a)/\∀q r,cl q=cl r->cl' q=cl' r
def loop_pass(H:H9 p){C:A2}{cl:Nat->Nat}(K:ClsL p s t C cl) :
  ∃r,iter (λ(q:A2×Bool×Nat)=>L2.s200 p q.1 q.2.1 q.2.2) fuel (C,false,0)=some r/\PassQ p s t cl r:=by
 have hn:=H.n2;have hi:=H.i2;refine H4 (step:=λ(q:A2×Bool×Nat)=>L2.s200 p q.1 q.2.1 q.2.2) (λq=>q.2.2<=p.I.toNat/\∃a0,ClsL p s t q.1 a0/\(q.2.1=true->Q4 p.N.length a0<Q4 p.N.length cl)/\(q.2.1=false->a0=cl/\∀a,a<q.2.2->SymOk p a0 a)/\∀q r,cl q=cl r->a0 q=a0 r) (λq=>p.I.toNat-q.2.2) (PassQ p s t cl) (λ⟨C1,m,a⟩ ⟨g1,a2,K1,g2,g3,g4⟩=>?_) fuel (C,false,0) ⟨D9 _,cl,K,(λh=>by cases h),(λ_=>⟨rfl,λa ha=>by simp only at ha;omega⟩),λq r h=>h⟩ (by have:=E6;simp only;omega);unfold PassQ;simp only at g1 K1 g2 g3;simp only;by_cases ha:a<p.I.toNat
 ·have a4:Q4 p.N.length a2<=Q4 p.N.length cl:=by
   cases m with
   |true=>exact kU (g2 rfl)
   |false=>rw[(g3 rfl).1];exact H0 _
  rcases pass_at H K1 ha m with⟨e,hc⟩|⟨C2,a3,e,K2,h2,h3⟩|⟨e,hs⟩
  ·exact .inr ⟨_,e,.inl ⟨rfl,hc⟩⟩
  ·exact .inl ⟨(C2,true,a+1),e,⟨ha,a3,K2,(λ_=>by omega),(λh=>by cases h),λq r h=>h3 q r (g4 q r h)⟩,by simp only;omega⟩
  ·refine .inl ⟨(C1,m,a+1),e,⟨ha,a2,K1,g2,λhm=>⟨(g3 hm).1,λb hb=>?_⟩,g4⟩,by simp only;omega⟩;simp only at hb;by_cases e2:b=a
   ·rw[e2];exact hs
   ·exact(g3 hm).2 b (by omega)
 ·have e:a=p.I.toNat:=by have:=g1;omega
  subst e;exact .inr ⟨_,by unfold L2.s200;rw[B1 (by have:=H.i1;omega)],.inr ⟨C1,a2,m,rfl,K1,g2,g3,g4⟩⟩
def clF(C:A2)(q:Nat):Nat:=((C[q]?).getD 0).toNat
def ClsL.reps{C:A2}{cl:Nat->Nat}(K:ClsL p s t C cl):Q4 p.N.length (clF C)=Q4 p.N.length cl:=by
 unfold Q4;refine xL λq hq=>?_
 have e:clF C q=cl q:=by
  unfold clF;rw[K.at_ q (M5.1 hq),H5];rfl
 rw[e]
def lJ(n:Nat)(cl:Nat->Nat):Q4 n cl<=n:=by
 have:=xF (p:=λq=>decide (cl q=q)) (l:=List.range n);rw[P3]at this;exact this
def cls_done(H:H9 p)(hs:s<p.N.length)(ht:t<p.N.length){C:A2}{cl:Nat->Nat}(K:ClsL p s t C cl)(h0:cl s=cl t)(hS:∀a,a<p.I.toNat->SymOk p cl a):(∀q,q<p.N.length->cl q=clsOf p s t q)/\¬Q0 p s t:=by
 have a0:∀{q r:Nat},Cong p s t q r->q=r\/(q<p.N.length/\r<p.N.length/\cl q=cl r):=λh=>cong_into H hs ht h0 (λq r a u v hq hr e hu hv=>by
  obtain⟨_,ha,_⟩:=bA H hu
  have:=(hS a ha q r hq hr e (by rw[hu];omega) (by rw[hv];omega)).2
  rw[hu,hv]at this
  simpa using this) h
 refine⟨λq hq=>(clsOf_eq (K.sound q hq) λr hr=>?_).symm,λ⟨q,r,a,hc,h1,h2,h3⟩=>?_⟩
 ·rcases a0 hr with rfl|⟨_,hr2,e⟩
  ·exact K.le q hq
  ·rw[e];exact K.le r hr2
 ·have rng:∀q,pnx p q a≠-1->q<p.N.length/\a<p.I.toNat:=λq h=>by
   have hq:q<p.N.length:=X9 λg=>h (by unfold pnx;rw[show p.N[q]?=none from M2 (by omega)];rfl);refine⟨hq,X9 λg=>h ?_⟩;obtain⟨x,y,e1,e2,e3,e4,e5⟩:=H.row q hq;unfold pnx;rw[e1,H5,show x[a]?=none from M2 (by omega)];rfl
  obtain⟨hq,ha⟩:=rng q h1;obtain⟨hr,_⟩:=rng r h2;rcases a0 hc with rfl|⟨_,_,e⟩
  ·exact h3 rfl
  ·exact h3 (hS a ha q r hq hr e h1 h2).1
def ztv(H:H9 p)(hs:s<p.N.length)(ht:t<p.N.length):(Q0 p s t/\L2 p (s:Int) (t:Int)=some ([],false))\/(¬Q0 p s t/\L2 p (s:Int) (t:Int)=some ((List.range p.N.length).map λq=>(↑(clsOf p s t q):Int),true)):=by
 have hn:=H.n2
 have init:=H4 (step:=λ(q:A2×Nat)=>L2.s2 p q.1 q.2) (λq=>q.2<=p.N.length/\Wrt (λb=>(b:Int)) (List.replicate p.N.length 0) q.2 q.1) (λq=>p.N.length-q.2) (λr=>r=(List.range p.N.length).map λ(b:Nat)=>(b:Int)) (λ⟨y,i⟩ ⟨g1,g2⟩=>by
  simp only at g1 g2
  simp only[L2.s2]
  have a2:=g2.len
  rw[J6]at a2
  by_cases h:i<p.N.length
  ·left
   exact⟨(y.set i (i:Int),i+1),by rw[C0,B4 (get_at (l:=y) (i:=i) (by omega))],⟨h,g2.step (by rw[J6];exact h) rfl⟩,by simp only;omega⟩
  ·right
   refine⟨_,by rw[B1],?_⟩
   rw[g2.done (by rw[J6];omega),J6]) fuel (List.replicate p.N.length 0,0) ⟨D9 _,Wrt.zero _ _⟩ (by have:=E6;simp only;omega)
 obtain⟨r,e,rfl⟩:=init;have K0:ClsL p s t ((List.range p.N.length).map λ(b:Nat)=>(b:Int)) (λb=>b):=⟨by simp,λq hq=>by rw[H7,Q6 hq];rfl,λq _=>H0 q,λ_ _=>rfl,λq _=>.refl q⟩;obtain⟨C1,j1,K1,_⟩:=K0.join hs ht .base (by omega);unfold L2;rw[H1 ⟨by omega,bN _,by unfold B5;omega⟩,e,A5,j1,A5]
 have key:=H4 (step:=λ(q:A2×Bool)=>L2.s202 p q.1 q.2) (λq=>∃cl,ClsL p s t q.1 cl/\cl s=cl t/\(q.2=false->∀a,a<p.I.toNat->SymOk p cl a)) (λq=>2*Q4 p.N.length (clF q.1)+(if q.2=true then 1 else 0)) (λr=>(r=.inr ([],false)/\Q0 p s t)\/∃C cl,r=.inl C/\ClsL p s t C cl/\cl s=cl t/\∀a,a<p.I.toNat->SymOk p cl a) (λ⟨C,m⟩ ⟨cl,K,g1,g2⟩=>by
  simp only at K g2
  simp only[L2.s202]
  cases m with
  |false =>
   right
   exact⟨_,by rw[G0],.inr ⟨C,cl,rfl,K,g1,g2 rfl⟩⟩
  |true =>
   rw[F8]
   obtain⟨r,e,hr⟩:=loop_pass H K
   rw[e,A5]
   rcases hr with⟨rfl,hc⟩|⟨C',a0,m',rfl,K',h1,h2,h3⟩
   ·right
    exact⟨_,rfl,.inl ⟨rfl,hc⟩⟩
   ·left
    refine⟨(C',m'),rfl,⟨a0,K',h3 _ _ g1,λhm=>(h2 hm).2⟩,?_⟩
    simp only
    rw[K.reps,K'.reps]
    cases m' with
    |true =>
     have:=h1 rfl
     simp only[if_true]
     omega
    |false =>
     rw[(h2 rfl).1]
     simp) fuel (C1,true) ⟨_,K1,yC _ s t,(λh=>by cases h)⟩ (by
  have:=E6
  have:=lJ p.N.length (clF C1)
  simp only[if_true]
  omega)
 obtain⟨r,e2,hr⟩:=key;rw[e2,A5];rcases hr with⟨rfl,hc⟩|⟨C,cl,rfl,K,h0,hS⟩
 ·exact .inl ⟨hc,rfl⟩
 ·obtain⟨d1,d2⟩:=cls_done H hs ht K h0 hS;refine .inr ⟨d2,?_⟩
  have hC:C=(List.range p.N.length).map λq=>(↑(clsOf p s t q):Int):=aC λq=>by
   by_cases hq:q<p.N.length
   ·rw[K.at_ q hq,d1 q hq,H7,Q6 hq];rfl
   ·rw[M2 (by have:=K.len;omega),M2 (by simp;omega)]
  rw[hC];rfl
end
end
section
def gx(N:A4)(q a:Nat):Int:=(((N[q]?).getD [])[a]?).getD (-1)
structure Grid(n I:Nat)(N:A4):Prop where
 len:N.length=n
 row:∀q,q<n->∃x,N[q]?=some x/\x.length=I
def Grid.at{n I:Nat}{N:A4}(G:Grid n I N){q a:Nat}(hq:q<n)(ha:a<I):∃x,N[q]?=some x/\x[a]?=some (gx N q a)/\x.length=I:=by
 obtain⟨x,h1,h2⟩:=G.row q hq;refine⟨x,h1,?_,h2⟩;have hx:=get_at (l:=x) (i:=a) (by omega);unfold gx;rw[h1,H5,hx,H5]
def Grid.put{n I:Nat}{N:A4}(G:Grid n I N){c a:Nat}{x:A2}(hc:c<n)(ha:a<I)(hx:N[c]?=some x)(v:Int):Grid n I (N.set c (x.set a v))/\∀q b,q<n->b<I->gx (N.set c (x.set a v)) q b=if q=c/\b=a then v else gx N q b:=by
 obtain⟨x',h1,h2⟩:=G.row c hc;rw[hx]at h1;injection h1 with h1
 subst h1;have a0:=G.len;constructor
 ·refine⟨by rw[P0];exact G.len,λq hq=>?_⟩;by_cases e:q=c
  ·subst e;exact⟨_,P9 (by omega),by rw[P0];exact h2⟩
  ·rw[O6 (by omega)];exact G.row q hq
 ·intro q b hq hb;by_cases e:q=c
  ·subst e;unfold gx;rw[P9 (by omega),H5];by_cases e2:b=a
   ·subst e2;rw[P9 (by omega),H5,if_pos ⟨rfl,rfl⟩]
   ·rw[O6 (by omega),if_neg (λh=>e2 h.2),hx,H5]
  ·unfold gx;rw[O6 (by omega),if_neg (λh=>e h.1)]
def H9.gn{p:A8}(H:H9 p):Grid p.N.length p.I.toNat p.N:=⟨rfl,λq hq=>by
 obtain⟨x,y,h1,h2,h3,h4,h5⟩:=H.row q hq
 exact⟨x,h1,by omega⟩⟩
def H9.go{p:A8}(H:H9 p):Grid p.N.length p.I.toNat p.O:=⟨H.ol,λq hq=>by
 obtain⟨x,y,h1,h2,h3,h4,h5⟩:=H.row q hq
 exact⟨y,h2,by omega⟩⟩
structure UpOk(n:Nat)(cl:Nat->Nat)(M:List (Int×Int)):Prop where
 u0:∀q,q<n->cl q=q->mget (q:Int) M=none
 u1:∀q,q<n->cl q≠q->∃u:Nat,u<q/\mget (q:Int) M=some (u:Int)/\cl u=cl q
def of_eq{n:Nat}{cl:Nat->Nat}{M:List (Int×Int)}(U:UpOk n cl M)(hn:n<=10000000){u:Nat}(hu:u<n):cQ ⟨M⟩ (u:Int)=some ((↑(cl u):Int),M):=by
 unfold cQ
 have key:=H4 (step:=λ(s:Int)=>cQ.s1 ⟨M⟩ s) (λs=>∃v:Nat,s=(v:Int)/\v<=u/\cl v=cl u) (λs=>s.toNat) (λr=>r=((↑(cl u):Int),M)) (λs ⟨v,e,h1,h2⟩=>by
  subst e
  simp only[cQ.s1]
  by_cases g:cl v=v
  ·right
   rw[U.u0 v (by omega) g]
   exact⟨_,rfl,by rw[<- h2,g]⟩
  ·left
   obtain⟨w,w1,w2,w3⟩:=U.u1 v (by omega) g
   rw[w2]
   exact⟨_,rfl,⟨w,rfl,by omega,w3.trans h2⟩,by rw[H5];omega⟩) fuel (↑u) ⟨u,rfl,H0 _,rfl⟩ (by have:=E6;omega)
 obtain⟨r,e,rfl⟩:=key;exact e
section
variable {p:A8}{s t:Nat}
def ClsL.mm{C:A2}{cl:Nat->Nat}(K:ClsL p s t C cl){u v:Nat}(hu:u<p.N.length)(hv:v<p.N.length):cl (min (cl u) (cl v))=min (cl u) (cl v)/\cl (max (cl u) (cl v))=max (cl u) (cl v):=by
 rcases kV (cl u) (cl v) with h|h
 ·rw[eQ h,mZ h];exact⟨K.idem u hu,K.idem v hv⟩
 ·rw[mY h,mW h];exact⟨K.idem v hv,K.idem u hu⟩
def joinF_min{C:A2}{cl:Nat->Nat}(K:ClsL p s t C cl){u v:Nat}(hu:u<p.N.length)(hv:v<p.N.length):O9 cl u v (min (cl u) (cl v))=min (cl u) (cl v):=by
 unfold O9;rw[(K.mm hu hv).1];split<;>omega
def UpOk.join{C:A2}{cl:Nat->Nat}{M:List (Int×Int)}(K:ClsL p s t C cl)(U:UpOk p.N.length cl M){u v:Nat}(hu:u<p.N.length)(hv:v<p.N.length)(hne:cl u≠cl v):UpOk p.N.length (O9 cl u v) (mset (↑(max (cl u) (cl v)):Int) (↑(min (cl u) (cl v)):Int) M):=by
 obtain⟨m1,m2⟩:=K.mm hu hv;have hb:∀a b:Int,(a==b)=true↔a=b:=λa b=>beq_iff_eq;have a0:O9 cl u v (max (cl u) (cl v))=min (cl u) (cl v):=by unfold O9;rw[m2,if_pos rfl]
 refine⟨λq hq h=>?_,λq hq h=>?_⟩
 ·by_cases e:q=max (cl u) (cl v)
  ·rw[e,a0]at h;omega
  ·rw[mK hb (by omega)];refine U.u0 q hq ?_;unfold O9 at h;split at h
   ·rw[<- h,m1]
   ·exact h
 ·by_cases e:q=max (cl u) (cl v)
  ·subst e;exact⟨min (cl u) (cl v),by omega,sL hb _,by rw[a0,joinF_min K hu hv]⟩
  ·rw[mK hb (by omega)]
   have h0:cl q≠q:=λg=>h (by
    unfold O9
    rw[g,if_neg e])
   obtain⟨w,w1,w2,w3⟩:=U.u1 q hq h0;exact⟨w,w1,w2,uX w3⟩
end
structure InI(n I:Nat)(N O:A4)(W0:List T_A2)(c1 c2:Nat)(N1 O1:A4)(W1:List T_A2)(a:Nat):Prop where
 gn:Grid n I N1
 go:Grid n I O1
 nx:∀q b,q<n->b<I->gx N1 q b=if q=c1/\b<a/\gx N c1 b=-1 then gx N c2 b else gx N q b
 ot:∀q b,q<n->b<I->gx O1 q b=if q=c1/\b<a/\gx N c1 b=-1 then gx O c2 b else gx O q b
 wk:∀w,w∈W1->w∈W0\/∃b,b<a/\gx N c1 b≠-1/\gx N c2 b≠-1/\w=⟨gx N c1 b,gx N c2 b⟩
 w0:∀w,w∈W0->w∈W1
 w1:∀b,b<a->gx N c1 b≠-1->gx N c2 b≠-1->gx O c1 b=gx O c2 b/\(⟨gx N c1 b,gx N c2 b⟩:T_A2)∈W1
 few:W1.length<=W0.length+a
def InQ(n I:Nat)(N O:A4)(W0:List T_A2)(c1 c2:Nat)(r:(A4×A4×List T_A2)⊕((A4×A4×(List (Int×Int))×List T_A2)⊕((A4×A4×(List (Int×Int))×List T_A2)⊕((A4×A4×(List (Int×Int)))⊕(A8×A2×Bool))))):Prop :=
 (r=.inr (.inr (.inr (.inr (⟨0,0,[],[]⟩,[],false))))/\∃b,b<I/\gx N c1 b≠-1/\gx N c2 b≠-1/\gx O c1 b≠gx O c2 b)\/∃N1 O1 W1,r=.inl (N1,O1,W1)/\InI n I N O W0 c1 c2 N1 O1 W1 I
def loop_in{n I:Nat}{N O:A4}{W0:List T_A2}{c1 c2:Nat}{x y:Int×List (Int×Int)}(hmin:min x.1 y.1=(c1:Int))(hmax:max x.1 y.1=(c2:Int))(hc1:c1<n)(hc2:c2<n)(hne:c2≠c1){e:A2}(he:e.length=I)(hI:I<=64)(GN:Grid n I N)(GO:Grid n I O)
  (h1:∀b,b<I->gx N c1 b=-1->gx O c1 b=-1) (h2:∀b,b<I->gx N c2 b=-1->gx O c2 b=-1) (hW:W0.length<=1000000) :
  ∃r,iter (λ(s:A4×A4×List T_A2×Nat)=>I2.s43 x y e s.1 s.2.1 s.2.2.1 s.2.2.2) fuel (N,O,W0,0)=some r/\InQ n I N O W0 c1 c2 r:=by
 refine H4 (step:=λ(s:A4×A4×List T_A2×Nat)=>I2.s43 x y e s.1 s.2.1 s.2.2.1 s.2.2.2) (λs=>s.2.2.2<=I/\InI n I N O W0 c1 c2 s.1 s.2.1 s.2.2.1 s.2.2.2) (λs=>I-s.2.2.2) (InQ n I N O W0 c1 c2) (λ⟨N1,O1,W1,a⟩ ⟨g1,g2⟩=>?_) fuel (N,O,W0,0) ⟨D9 _,⟨GN,GO,λq b _ _=>?_,λq b _ _=>?_,λw hw=>.inl hw,λw hw=>hw,λb hb=>?_,H0 _⟩⟩ (by have:=E6;simp only;omega)
 ·simp only at g1 g2;unfold InQ;simp only[I2.s43,hmin,hmax,I7];by_cases ha:a<I
  ·obtain⟨x2,b4,a8,b8⟩:=g2.gn.at hc2 ha;obtain⟨x1,a7,a2,b6⟩:=g2.gn.at hc1 ha;obtain⟨y2,b3,a5,b7⟩:=g2.go.at hc2 ha;obtain⟨y1,a9,a6,b5⟩:=g2.go.at hc1 ha;have e2:gx N1 c2 a=gx N c2 a:=by rw[g2.nx c2 a hc2 ha,if_neg (λh=>hne h.1)]
   have e1:gx N1 c1 a=gx N c1 a:=by rw[g2.nx c1 a hc1 ha,if_neg (λh=>pV _ h.2.1)]
   have o2:gx O1 c2 a=gx O c2 a:=by rw[g2.ot c2 a hc2 ha,if_neg (λh=>hne h.1)]
   have o1:gx O1 c1 a=gx O c1 a:=by rw[g2.ot c1 a hc1 ha,if_neg (λh=>pV _ h.2.1)]
   rw[e1]at a2;rw[e2]at a8;rw[o1]at a6;rw[o2]at a5;have hf:=g2.few
   have a0:∀{q b:Nat} {A B D:Int},(q=c1->b=a->gx N c1 a=-1->A=B)->(if q=c1/\b<a/\gx N c1 b=-1 then A else B)=if q=c1/\b<a+1/\gx N c1 b=-1 then A else B:=λ{q b A B D} h=>by
    by_cases k:q=c1/\b<a/\gx N c1 b=-1
    ·rw[if_pos k,if_pos ⟨k.1,by omega,k.2.2⟩]
    ·rw[if_neg k];by_cases k2:q=c1/\b<a+1/\gx N c1 b=-1
     ·have:b=a:=Nat.le_antisymm (by omega) (pY λk3=>k ⟨k2.1,k3,k2.2.2⟩);subst this;rw[if_pos k2,h k2.1 rfl k2.2.2]
     ·rw[if_neg k2]
   rw[C0,B4 b4,B4 a8];by_cases k2:gx N c2 a=-1
   ·left;refine⟨(N1,O1,W1,a+1),by rw[C0 k2,K3],⟨ha,g2.gn,g2.go,λq b hq hb=>?_,λq b hq hb=>?_,λw hw=>?_,g2.w0,λb hb a4 a3=>?_,by simp only;omega⟩,by simp only;omega⟩
    ·simp only;rw[g2.nx q b hq hb];exact a0 (D:=0) λe3 e4 e5=>by rw[e3,e4,k2,e5]
    ·simp only;rw[g2.ot q b hq hb];exact a0 (D:=0) λe3 e4 e5=>by rw[e3,e4,h1 a ha e5,h2 a ha k2]
    ·rcases g2.wk w hw with h|⟨b,b1,b2⟩
     ·exact .inl h
     ·exact .inr ⟨b,by simp only;omega,b2⟩
    ·exact g2.w1 b (cW (by simp only at hb;omega) λe3=>a3 (by rw[e3];exact k2)) a4 a3
   ·rw[B1 k2,D6 (i:=c1) rfl a7,B4 a2];by_cases k1:gx N c1 a=-1
    ·left;obtain⟨p1,p2⟩:=g2.gn.put hc1 ha a7 (gx N c2 a);obtain⟨r1,r2⟩:=g2.go.put hc1 ha a9 (gx O c2 a);refine⟨(N1.set c1 (x1.set a (gx N c2 a)),O1.set c1 (y1.set a (gx O c2 a)),W1,a+1),by rw[C0 k1,D6 (i:=c1) rfl a7,D6 (i:=c1) rfl a9,D6 (i:=c2) rfl b3,B4 a5,B4 a2,B4 a6,K3],⟨ha,p1,r1,λq b hq hb=>?_,λq b hq hb=>?_,λw hw=>?_,g2.w0,λb hb a4 a3=>?_,by simp only;omega⟩,by simp only;omega⟩
     ·simp only;rw[p2 q b hq hb];by_cases k:q=c1/\b=a
      ·rw[if_pos k,if_pos ⟨k.1,by omega,by rw[k.2];exact k1⟩,k.2]
      ·rw[if_neg k,g2.nx q b hq hb];exact a0 (D:=0) λe3 e4=>absurd ⟨e3,e4⟩ k
     ·simp only;rw[r2 q b hq hb];by_cases k:q=c1/\b=a
      ·rw[if_pos k,if_pos ⟨k.1,by omega,by rw[k.2];exact k1⟩,k.2]
      ·rw[if_neg k,g2.ot q b hq hb];exact a0 (D:=0) λe3 e4=>absurd ⟨e3,e4⟩ k
     ·rcases g2.wk w hw with h|⟨b,b1,b2⟩
      ·exact .inl h
      ·exact .inr ⟨b,by simp only;omega,b2⟩
     ·exact g2.w1 b (cW (by simp only at hb;omega) λe3=>a4 (by rw[e3];exact k1)) a4 a3
    ·rw[B1 k1,D6 (i:=c1) rfl a9,B4 a6,D6 (i:=c2) rfl b3,B4 a5];by_cases k3:gx O c1 a≠gx O c2 a
     ·right;exact⟨_,by rw[C0 k3],.inl ⟨rfl,a,ha,k1,k2,k3⟩⟩
     ·left;have k3:=jK.1 k3;refine⟨(N1,O1,W1++[⟨gx N c1 a,gx N c2 a⟩],a+1),by rw[B1 (λh=>h k3),D6 (i:=c1) rfl a7,B4 a2,Q1,K3],⟨ha,g2.gn,g2.go,λq b hq hb=>?_,λq b hq hb=>?_,λw hw=>?_,λw hw=>L6 _ (g2.w0 w hw),λb hb a4 a3=>?_,by simp only[J4,Q3];omega⟩,by simp only;omega⟩
      ·simp only;rw[g2.nx q b hq hb];exact a0 (D:=0) λ_ _ e5=>absurd e5 k1
      ·simp only;rw[g2.ot q b hq hb];exact a0 (D:=0) λ_ _ e5=>absurd e5 k1
      ·rcases J2.1 hw with hw|hw
       ·rcases g2.wk w hw with h|⟨b,b1,b2⟩
        ·exact .inl h
        ·exact .inr ⟨b,by simp only;omega,b2⟩
       ·exact .inr ⟨a,by simp only;omega,k1,k2,J3.1 hw⟩
      ·by_cases e3:b=a
       ·rw[e3];exact⟨k3,M0 _ (J3.2 rfl)⟩
       ·obtain⟨q1,q2⟩:=g2.w1 b (by simp only at hb;omega) a4 a3;exact⟨q1,L6 _ q2⟩
  ·right;have e3:a=I:=by omega
   rw[e3]at g2;exact⟨_,by rw[B1],.inr ⟨N1,O1,W1,rfl,g2⟩⟩
 ·rw[if_neg (λh=>N9 _ h.2.1)]
 ·rw[if_neg (λh=>N9 _ h.2.1)]
 ·exact absurd hb (N9 _)
end
section
def Lab(n:Nat)(cl:Nat->Nat)(W:List T_A2)(f:Nat->Nat):Prop:=(∀q r,q<n->r<n->cl q=cl r->f q=f r)/\∀u v:Nat,(⟨(u:Int),(v:Int)⟩:T_A2)∈W->f u=f v
structure dA(p:A8)(s t:Nat)(cl:Nat->Nat)(N O:A4)(M:List (Int×Int))(W:List T_A2):Prop where
 gn:Grid p.N.length p.I.toNat N
 go:Grid p.N.length p.I.toNat O
 cls:∃C,ClsL p s t C cl
 up:UpOk p.N.length cl M
 wk:∀w,w∈W->∃u v:Nat,w=⟨(u:Int),(v:Int)⟩/\u<p.N.length/\v<p.N.length/\Cong p s t u v
 st:∀f,Lab p.N.length cl W f->f s=f t
 row:∀c a,c<p.N.length->a<p.I.toNat->cl c=c->(gx N c a=-1->gx O c a=-1/\∀r,r<p.N.length->cl r=c->pnx p r a=-1)/\(gx N c a≠-1->∃u:Nat,gx N c a=(u:Int)/\u<p.N.length/\(∃r,r<p.N.length/\cl r=c/\pnx p r a=(u:Int)/\pot p r a=gx O c a)/\∀r,r<p.N.length->cl r=c->pnx p r a≠-1->pot p r a=gx O c a/\∀f,Lab p.N.length cl W f->f u=f (pnx p r a).toNat)
 few:65*Q4 p.N.length cl+W.length<=65*p.N.length+1
 rng:∀q a,q<p.N.length->a<p.I.toNat->gx N q a=-1\/∃u:Nat,gx N q a=(u:Int)/\u<p.N.length
section
variable {p:A8}{s t:Nat}
def dA.join{cl:Nat->Nat}{N O:A4}{M:List (Int×Int)}{W:List T_A2}{u v:Nat}(H:H9 p)(F:dA p s t cl N O M (⟨(u:Int),(v:Int)⟩::W))(hu:u<p.N.length)(hv:v<p.N.length)(huv:Cong p s t u v)(hne:cl u≠cl v){N1 O1:A4}{W1:List T_A2}(J:InI p.N.length p.I.toNat N O W (min (cl u) (cl v)) (max (cl u) (cl v)) N1 O1 W1 p.I.toNat) :
  dA p s t (O9 cl u v) N1 O1 (mset (↑(max (cl u) (cl v)):Int) (↑(min (cl u) (cl v)):Int) M) W1/\65*Q4 p.N.length (O9 cl u v)+W1.length<65*Q4 p.N.length cl+(W.length+1):=by
 obtain⟨C,K⟩:=F.cls;have hn:=H.n2;have hi:=H.i2;obtain⟨C',_,K',a8⟩:=K.join hu hv huv (by omega);have a8:=a8 hne;obtain⟨m1,m2⟩:=K.mm hu hv;have c8:=F.up.join K hu hv hne;have d8:=K.le u hu;have d7:=K.le v hv
 have c9:Cong p s t (min (cl u) (cl v)) (max (cl u) (cl v)):=by
  have h0:Cong p s t (cl u) (cl v):=(K.sound u hu).symm.trans (huv.trans (K.sound v hv));rcases kV (cl u) (cl v) with h|h
  ·rw[mZ h,eQ h];exact h0
  ·rw[mW h,mY h];exact h0.symm
 have hj:∀r,O9 cl u v r=if cl r=max (cl u) (cl v) then min (cl u) (cl v) else cl r:=λr=>rfl
 have b7:=yC cl u v;have d5:min (cl u) (cl v)<max (cl u) (cl v):=by omega
 have c0:min (cl u) (cl v)<p.N.length:=by omega
 have b8:max (cl u) (cl v)<p.N.length:=by omega
 generalize d6:min (cl u) (cl v)=c1 at *;generalize d9:max (cl u) (cl v)=c2 at *;have c7:∀r,cl r=c1->O9 cl u v r=c1:=λr h=>by rw[hj,h,if_neg (by omega)]
 have d0:∀r,cl r=c2->O9 cl u v r=c1:=λr h=>by rw[hj,h,if_pos rfl]
 have d4:∀r c,cl r=c->c≠c2->O9 cl u v r=c:=λr c h h2=>by rw[hj,h,if_neg h2]
 have a6:∀f,Lab p.N.length (O9 cl u v) W1 f->Lab p.N.length cl (⟨(u:Int),(v:Int)⟩::W) f:=λf ⟨f1,f2⟩=>⟨λq r hq hr e=>f1 q r hq hr (uX e),λu' v' h=>by
  rcases L8.1 h with h|h
  ·injection h with h3 h4
   have e1:u'=u:=by omega
   have e2:v'=v:=by omega
   rw[e1,e2]
   exact f1 _ _ hu hv b7
  ·exact f2 u' v' (J.w0 _ h)⟩
 have b9:=F.few;have hJ:=J.few;rw[G9]at b9
 have c6:∀q a,q<p.N.length->a<p.I.toNat->gx N1 q a=-1\/∃u:Nat,gx N1 q a=(u:Int)/\u<p.N.length:=λq a hq ha=>by
  rw[J.nx q a hq ha];split
  ·exact F.rng _ _ b8 ha
  ·exact F.rng _ _ hq ha
 refine⟨⟨J.gn,J.go,⟨C',K'⟩,c8,λw hw=>?_,λf hf=>F.st f (a6 f hf),λc a hc ha a9=>?_,by omega,c6⟩,by omega⟩
 ·rcases J.wk w hw with h|⟨b,b1,b2,b3,b4⟩
  ·exact F.wk w (O7 _ h)
  ·obtain⟨u1,a1,a2,⟨r1,d1,d2,d3,_⟩,_⟩:=(F.row c1 b c0 b1 m1).2 b2;obtain⟨u2,e1,e2,⟨r2,g1,g2,g3,_⟩,_⟩:=(F.row c2 b b8 b1 m2).2 b3;refine⟨u1,u2,by rw[b4,a1,e1],a2,e2,.step b u1 u2 ?_ d3 g3⟩;have k1:=K.sound r1 d1;have k2:=K.sound r2 g1;rw[d2]at k1;rw[g2]at k2;exact k1.trans (c9.trans k2.symm)
 ·have b6:cl c=c/\c≠c2:=by
   rw[hj]at a9;split at a9
   ·rename_i g;rw[<- a9,m1]at g;omega
   ·rename_i g;exact⟨a9,λe=>g (by rw[e];exact m2)⟩
  have a0:∀r,O9 cl u v r=c->cl r=c\/(c=c1/\cl r=c2):=λr h=>by
   rw[hj]at h;split at h
   ·rename_i g;exact .inr ⟨h.symm,g⟩
   ·exact .inl h
  by_cases e:c=c1
  ·have hN:=J.nx c a hc ha;have hO:=J.ot c a hc ha;rw[e]at hN hO a0;rw[e];have a3:=F.row c1 a c0 ha m1;have a7:=F.row c2 a b8 ha m2;by_cases k1:gx N c1 a=-1
   ·rw[if_pos ⟨rfl,ha,k1⟩]at hN hO;rw[hN,hO];refine⟨λk2=>⟨(a7.1 k2).1,λr hr a5=>?_⟩,λk2=>?_⟩
    ·rcases a0 r a5 with h|⟨_,h⟩
     ·exact(a3.1 k1).2 r hr h
     ·exact(a7.1 k2).2 r hr h
    ·obtain⟨u2,a1,a2,⟨r2,b1,b2,b3,b4⟩,a4⟩:=a7.2 k2;refine⟨u2,a1,a2,⟨r2,b1,d0 _ b2,b3,b4⟩,λr hr a5 hp=>?_⟩;rcases a0 r a5 with h|⟨_,h⟩
     ·exact absurd ((a3.1 k1).2 r hr h) hp
     ·obtain⟨d1,d2⟩:=a4 r hr h hp;exact⟨d1,λf hf=>d2 f (a6 f hf)⟩
   ·rw[if_neg (λh=>k1 h.2.2)]at hN hO;rw[hN,hO];refine⟨λk=>absurd k k1,λ_=>?_⟩;obtain⟨u1,a1,a2,⟨r1,b1,b2,b3,b4⟩,a4⟩:=a3.2 k1;refine⟨u1,a1,a2,⟨r1,b1,c7 _ b2,b3,b4⟩,λr hr a5 hp=>?_⟩;rcases a0 r a5 with h|⟨_,h⟩
    ·obtain⟨d1,d2⟩:=a4 r hr h hp;exact⟨d1,λf hf=>d2 f (a6 f hf)⟩
    ·have k2:gx N c2 a≠-1:=λk=>hp ((a7.1 k).2 r hr h);obtain⟨u2,e1,e2,_,e4⟩:=a7.2 k2;obtain⟨d1,d2⟩:=e4 r hr h hp;obtain⟨j1,j2⟩:=J.w1 a ha k1 k2;rw[a1,e1]at j2;exact⟨by rw[j1];exact d1,λf hf=>(hf.2 u1 u2 j2).trans (d2 f (a6 f hf))⟩
  ·have hN:=J.nx c a hc ha;have hO:=J.ot c a hc ha;rw[if_neg (λh=>e h.1)]at hN hO;rw[hN,hO];have a3:=F.row c a hc ha b6.1;have b5:∀r,O9 cl u v r=c->cl r=c:=λr h=>(a0 r h).elim id λh=>absurd h.1 e;refine⟨λk=>⟨(a3.1 k).1,λr hr a5=>(a3.1 k).2 r hr (b5 r a5)⟩,λk=>?_⟩;obtain⟨u1,a1,a2,⟨r1,b1,b2,b3,b4⟩,a4⟩:=a3.2 k;refine⟨u1,a1,a2,⟨r1,b1,d4 _ _ b2 b6.2,b3,b4⟩,λr hr a5 hp=>?_⟩;obtain⟨d1,d2⟩:=a4 r hr (b5 r a5) hp;exact⟨d1,λf hf=>d2 f (a6 f hf)⟩
def fold_step(H:H9 p){cl:Nat->Nat}{N O:A4}{M:List (Int×Int)}{W:List T_A2}(F:dA p s t cl N O M W) :
  (W=[]/\I2.s46 N O M W=some (.inr (.inl (N,O,M))))\/(I2.s46 N O M W=some (.inr (.inr (⟨0,0,[],[]⟩,[],false)))/\Q0 p s t)\/∃N' O' M' W' cl',I2.s46 N O M W=some (.inl (N',O',M',W'))/\dA p s t cl' N' O' M' W'/\65*Q4 p.N.length cl'+W'.length<65*Q4 p.N.length cl+W.length:=by
 have hn:=H.n2;have hi:=H.i2;cases W with
 |nil=>exact .inl ⟨rfl,by unfold I2.s46;rw[B1 (by simp)]⟩
 |cons w W =>
  right;obtain⟨u,v,rfl,hu,hv,a8⟩:=F.wk w U8;obtain⟨C,K⟩:=F.cls;have a6:=F.few;rw[G9]at a6;have c0:=K.le u hu;have b9:=K.le v hv;have e0:=of_eq F.up (by omega) hu;have e1:=of_eq F.up (by omega) hv;by_cases g:cl u=cl v
  ·right;refine⟨N,O,M,W,cl,?_,⟨F.gn,F.go,F.cls,F.up,λw hw=>F.wk w (O7 _ hw),λf hf=>F.st f ?_,λc a hc ha b8=>?_,by omega,F.rng⟩,by rw[G9];omega⟩
   ·unfold I2.s46;rw[C0 (by rw[G9];omega),B4 (x:=⟨(u:Int),(v:Int)⟩) rfl,e0,A5,B4 (x:=⟨(u:Int),(v:Int)⟩) rfl,e1,A5,H1 (by simp),C0 (by simp[g]),A5,W5];rfl
   ·refine⟨hf.1,λu' v' h=>?_⟩;rcases L8.1 h with h|h
    ·injection h with h3 h4
     have q1:u'=u:=by omega
     have q2:v'=v:=by omega
     rw[q1,q2];exact hf.1 u v hu hv g
    ·exact hf.2 u' v' h
   ·have a7:∀f,Lab p.N.length cl W f->Lab p.N.length cl (⟨(u:Int),(v:Int)⟩::W) f:=λf hf=>⟨hf.1,λu' v' h=>by
     rcases L8.1 h with h|h
     ·injection h with h3 h4
      have q1:u'=u:=by omega
      have q2:v'=v:=by omega
      rw[q1,q2]
      exact hf.1 u v hu hv g
     ·exact hf.2 u' v' h⟩
    obtain⟨r1,r2⟩:=F.row c a hc ha b8;refine⟨r1,λk=>?_⟩;obtain⟨x,a1,a2,a3,a4⟩:=r2 k;exact⟨x,a1,a2,a3,λr hr a9 hp=>⟨(a4 r hr a9 hp).1,λf hf=>(a4 r hr a9 hp).2 f (a7 f hf)⟩⟩
  ·have a5:min (cl u) (cl v)<p.N.length:=by omega
   have a0:max (cl u) (cl v)<p.N.length:=by omega
   obtain⟨m1,m2⟩:=K.mm hu hv;obtain⟨x2,b6,b7⟩:=F.gn.row _ a0;obtain⟨r,e,hr⟩:=loop_in (W0:=W) (c1:=min (cl u) (cl v)) (c2:=max (cl u) (cl v)) (x:=((↑(cl u):Int),M)) (y:=((↑(cl v):Int),M)) (show min (↑(cl u):Int) (↑(cl v):Int)=_ by omega) (show max (↑(cl u):Int) (↑(cl v):Int)=_ by omega) a5 a0 (by omega) b7 (by omega) F.gn F.go (λb hb h=>((F.row _ b a5 hb m1).1 h).1) (λb hb h=>((F.row _ b a0 hb m2).1 h).1) (by omega)
   have es:I2.s46 N O M (⟨(u:Int),(v:Int)⟩::W)=((Sum.elim (λ(s:A4×A4×List T_A2)=>I2.k44 (mset (↑(max (cl u) (cl v)):Int) (↑(min (cl u) (cl v)):Int) M) s.1 s.2.1 s.2.2) some r)).bind (Sum.elim (λ(s:A4×A4×(List (Int×Int))×List T_A2)=>I2.k45 s.1 s.2.1 s.2.2.1 s.2.2.2) some):=by
    unfold I2.s46
    have ej:pQ ⟨M⟩ (min (↑(cl u):Int) (↑(cl v):Int)) (max (↑(cl u):Int) (↑(cl v):Int))=some (mset (↑(max (cl u) (cl v)):Int) (↑(min (cl u) (cl v)):Int) M):=by
     unfold pQ;rw[show max (↑(cl u):Int) (↑(cl v):Int)=(↑(max (cl u) (cl v)):Int) by omega,show min (↑(cl u):Int) (↑(cl v):Int)=(↑(min (cl u) (cl v)):Int) by omega]
    rw[C0 (by rw[G9];omega),B4 (x:=⟨(u:Int),(v:Int)⟩) rfl,e0,A5,B4 (x:=⟨(u:Int),(v:Int)⟩) rfl,e1,A5,H1 (by simp),B1 (by simp only;omega),ej,A5,D6 (i:=max (cl u) (cl v)) (by simp only;omega) b6,List.drop_succ_cons,pW,e,A5]
   rw[es];rcases hr with⟨hr,b,b1,b2,b3,b4⟩|⟨N1,O1,W1,hr,J⟩
   ·left;refine⟨by rw[hr,eP,A5,eP],?_⟩;obtain⟨u1,_,_,⟨r1,d1,d2,d3,d4⟩,_⟩:=(F.row _ b a5 b1 m1).2 b2;obtain⟨u2,_,_,⟨r2,g1,g2,g3,g4⟩,_⟩:=(F.row _ b a0 b1 m2).2 b3;have k1:=K.sound r1 d1;have k2:=K.sound r2 g1;rw[d2]at k1;rw[g2]at k2;have h0:Cong p s t (cl u) (cl v):=(K.sound u hu).symm.trans (a8.trans (K.sound v hv))
    have b5:Cong p s t (min (cl u) (cl v)) (max (cl u) (cl v)):=by
     rcases kV (cl u) (cl v) with h|h
     ·rw[mZ h,eQ h];exact h0
     ·rw[mW h,mY h];exact h0.symm
    exact⟨r1,r2,b,k1.trans (b5.trans k2.symm),by rw[d3];omega,by rw[g3];omega,by rw[d4,g4];exact b4⟩
   ·right;obtain⟨F',hd⟩:=F.join H hu hv a8 g J;exact⟨N1,O1,_,W1,_,by rw[hr,W5];unfold I2.k44;rw[A5,W5];rfl,F',by rw[G9];exact hd⟩
def repsM(n:Nat)(M:List (Int×Int)):Nat:=(List.range n).countP λ(q:Nat)=>(mget (q:Int) M).isNone
def loop_fold(H:H9 p)(hs:s<p.N.length)(ht:t<p.N.length) :
  ∃r,iter (λ(q:A4×A4×(List (Int×Int))×List T_A2)=>I2.s46 q.1 q.2.1 q.2.2.1 q.2.2.2) fuel (p.N,p.O,[],[⟨(s:Int),(t:Int)⟩])=some r /\
   ((r=.inr (⟨0,0,[],[]⟩,[],false)/\Q0 p s t)\/∃N O M cl,r=.inl (N,O,M)/\dA p s t cl N O M []):=by
 have hn:=H.n2;have hi:=H.i2;have K0:ClsL p s t ((List.range p.N.length).map λ(b:Nat)=>(b:Int)) (λb=>b):=⟨by simp,λq hq=>by rw[H7,Q6 hq];rfl,λq _=>H0 q,λ_ _=>rfl,λq _=>.refl q⟩
 have F0:dA p s t (λb=>b) p.N p.O [] [⟨(s:Int),(t:Int)⟩]:=by
  refine⟨H.gn,H.go,⟨_,K0⟩,⟨λq _ _=>rfl,λq _ h=>absurd rfl h⟩,λw hw=>⟨s,t,J3.1 hw,hs,ht,.base⟩,λf hf=>hf.2 s t (J3.2 rfl),λc a hc ha _=>?_,?_,λq a hq ha=>?_⟩
  ·obtain⟨n1,n2,n3,n4,n5,_⟩:=H.at hc ha;have h1:gx p.N c a=pnx p c a:=rfl;have h2:gx p.O c a=pot p c a:=rfl;rw[h1,h2];refine⟨λh=>⟨n5.1 h,λr _ e=>by rw[e];exact h⟩,λh=>⟨(pnx p c a).toNat,by omega,by omega,⟨c,hc,rfl,by omega,rfl⟩,λr _ e _=>?_⟩⟩;rw[e];exact⟨rfl,λf _=>rfl⟩
  ·have:=lJ p.N.length λb=>b;simp only[Q3];omega
  ·obtain⟨n1,n2,_⟩:=H.at hq ha;have h1:gx p.N q a=pnx p q a:=rfl;rw[h1];by_cases k:pnx p q a=-1
   ·exact .inl k
   ·exact .inr ⟨(pnx p q a).toNat,by omega,by omega⟩
 have hm:∀(cl:Nat->Nat) (M:List (Int×Int)),UpOk p.N.length cl M->repsM p.N.length M=Q4 p.N.length cl:=λcl M U=>by
  unfold repsM Q4;refine xL λq hq=>?_;have hq:=M5.1 hq;by_cases h:cl q=q
  ·rw[U.u0 q hq h,G7 h];simp
  ·obtain⟨w,_,w2,_⟩:=U.u1 q hq h;rw[w2,J0 h];simp
 refine H4 (step:=λ(q:A4×A4×(List (Int×Int))×List T_A2)=>I2.s46 q.1 q.2.1 q.2.2.1 q.2.2.2) (λq=>∃cl,dA p s t cl q.1 q.2.1 q.2.2.1 q.2.2.2) (λq=>65*repsM p.N.length q.2.2.1+q.2.2.2.length) (λr=>(r=.inr (⟨0,0,[],[]⟩,[],false)/\Q0 p s t)\/∃N O M cl,r=.inl (N,O,M)/\dA p s t cl N O M []) (λ⟨N,O,M,W⟩ ⟨cl,F⟩=>?_) fuel _ ⟨_,F0⟩ ?_
 ·simp only at F;simp only;rcases fold_step H F with⟨e1,e2⟩|⟨e1,e2⟩|⟨N',O',M',W',a0,e1,F',e2⟩
  ·rw[e1]at F;exact .inr ⟨_,e2,.inr ⟨N,O,M,cl,rfl,F⟩⟩
  ·exact .inr ⟨_,e1,.inl ⟨rfl,e2⟩⟩
  ·exact .inl ⟨(N',O',M',W'),e1,⟨a0,F'⟩,by simp only;rw[hm _ _ F.up,hm _ _ F'.up];exact e2⟩
 ·have h1:=hm _ _ F0.up;have h2:=lJ p.N.length λb=>b;have:=E6;simp only[Q3];omega
def dA.done(H:H9 p)(hs:s<p.N.length)(ht:t<p.N.length){cl:Nat->Nat}{N O:A4}{M:List (Int×Int)}(F:dA p s t cl N O M []):(∀q,q<p.N.length->cl q=clsOf p s t q)/\¬Q0 p s t:=by
 obtain⟨C,K⟩:=F.cls;have a0:Lab p.N.length cl [] cl:=⟨λ_ _ _ _ h=>h,λ_ _ h=>by cases h⟩;refine cls_done H hs ht K (F.st cl a0) λa ha q r hq hr e h1 h2=>?_;have hc:cl q<p.N.length:=by have:=K.le q hq;omega
 obtain⟨r1,r2⟩:=F.row (cl q) a hc ha (K.idem q hq);by_cases k:gx N (cl q) a=-1
 ·exact absurd ((r1 k).2 q hq rfl) h1
 ·obtain⟨u,a1,a2,a3,a4⟩:=r2 k;obtain⟨b1,b2⟩:=a4 q hq rfl h1;obtain⟨c1,c2⟩:=a4 r hr e.symm h2;exact⟨b1.trans c1.symm,(b2 cl a0).symm.trans (c2 cl a0)⟩
end
end
def iH{V:Type}[DecidableEq V]:∀{a b:List V},a.Nodup->(∀x∈a,x∈b)->a.length<=b.length
 |[],_,_,_=>D9 _
 |x::a,b,hn,h=>by
  obtain⟨h1,h2⟩:=aU.1 hn;have:=iH (a:=a) (b:=b.erase x) h2 λy hy=>(List.mem_erase_of_ne (λe=>h1 (by rw[<- e];exact hy))).2 (h y (O7 _ hy));rw[CJ (h x U8)]at this;have hp:0<b.length:=List.length_pos_of_mem (h x U8);rw[G9];omega
def addT(L:List Nat)(t:Int):List Nat:=if t=-1\/t.toNat∈L then L else L++[t.toNat]
def bfsL(R:Nat->A2):Nat->Nat->List Nat->List Nat
 |0,_,L=>L
 |f+1,i,L=>match L[i]? with
  |none=>L
  |some c=>bfsL R f (i+1) ((R c).foldl addT L)
structure NumL(n:Nat)(L:List Nat)(nums:A2):Prop where
 len:nums.length=n
 at_:∀c,c<n->nums[c]?=some (if c∈L then(↑(L.idxOf c):Int) else -1)
 nd:L.Nodup
 lt:∀c,c∈L->c<n
def NumL.le{n:Nat}{L:List Nat}{nums:A2}(A:NumL n L nums):L.length<=n:=by
 have:=iH (b:=List.range n) A.nd λx hx=>M5.2 (A.lt x hx)
 rwa [P3]at this
def NumL.push{n:Nat}{L:List Nat}{nums:A2}(A:NumL n L nums){c:Nat}(hc:c<n)(h:c∉L):NumL n (L++[c]) (nums.set c (L.length:Int)):=by
 have hl:=A.len;refine⟨by rw[P0];exact A.len,λd hd=>?_,?_,λd hd=>?_⟩
 ·by_cases e:d=c
  ·subst e;rw[P9 (by omega),if_pos (M0 _ (J3.2 rfl)),kS,if_neg h];simp
  ·rw[O6 (by omega),A.at_ d hd];by_cases k:d∈L
   ·rw[if_pos k,if_pos (L6 _ k),kS,if_pos k]
   ·rw[if_neg k,if_neg (λg=>(J2.1 g).elim k λg=>e (J3.1 g))]
 ·refine V5.2 ⟨A.nd,by simp,λa ha b hb=>?_⟩;rw[J3.1 hb];exact λg=>h (by rw[<- g];exact ha)
 ·rcases J2.1 hd with k|k
  ·exact A.lt d k
  ·rw[J3.1 k];exact hc
def E2(L:List Nat):A2:=L.map λ(c:Nat)=>(c:Int)
def loop_s18{n:Nat}{e:A2}(he:∀(k:Nat) (t:Int),e[k]?=some t->t=-1\/∃u:Nat,t=(u:Int)/\u<n)(hl:e.length<=1000000){L:List Nat}{nums:A2}(A:NumL n L nums)(hn:n<=1000000) :
  ∃nums',iter (λ(s:A2×A2×Nat)=>M4.s18 e s.1 s.2.1 s.2.2) fuel (nums,E2 L,0)=some (nums',E2 (e.foldl addT L))/\NumL n (e.foldl addT L) nums':=by
 have key:=H4 (step:=λ(s:A2×A2×Nat)=>M4.s18 e s.1 s.2.1 s.2.2) (λs=>s.2.2<=e.length/\∃L',s.2.1=E2 L'/\NumL n L' s.1/\(e.drop s.2.2).foldl addT L'=e.foldl addT L) (λs=>e.length-s.2.2) (λr=>∃nums',r=(nums',E2 (e.foldl addT L))/\NumL n (e.foldl addT L) nums') (λ⟨y,z,k⟩ ⟨g1,L',g2,g3,g4⟩=>by
  simp only at g1 g2 g3 g4
  subst g2
  simp only[M4.s18]
  by_cases h:k<e.length
  ·left
   have hx:=get_at h
   have hd:(e.drop k).foldl addT L'=(e.drop (k+1)).foldl addT (addT L' e[k]):=by rw[eW h,jN]
   rw[hd]at g4
   rw[O3 hx,F8,B4 hx]
   by_cases t0:e[k]=-1
   ·exact⟨(y,E2 L',k+1),by rw[B1 (λg=>g t0),A5,G0],⟨h,L',rfl,g3,by rw[<- g4];unfold addT;rw[if_pos (.inl t0)]⟩,by simp only;omega⟩
   ·obtain⟨u,hu,a0⟩:=(he k _ hx).resolve_left t0
    have hy:=g3.at_ u a0
    rw[C0 t0,D6 (i:=u) hu hy,A5]
    by_cases k1:u∈L'
    ·rw[if_pos k1,B1]
     exact⟨(y,E2 L',k+1),rfl,⟨h,L',rfl,g3,by rw[<- g4];unfold addT;rw[if_pos (.inr (by rw[hu];exact k1))]⟩,by simp only;omega⟩
    ·have a3:=g3.le
     have a2:(E2 L').length=L'.length:=by unfold E2;rw[C3]
     rw[if_neg k1,C0 rfl,D6 (i:=u) hu hy,Q1]
     refine⟨(y.set u (L'.length:Int),E2 (L'++[u]),k+1),?_,⟨h,L'++[u],rfl,g3.push a0 k1,?_⟩,by simp only;omega⟩
     ·rw[hu,a2]
      unfold E2
      rw[L5,I7]
      rfl
     ·rw[<- g4]
      unfold addT
      rw[if_neg (λg=>g.elim t0 λg=>k1 (by rw[hu]at g;exact g)),hu,I7]
  ·right
   have e1:k=e.length:=by omega
   subst e1
   rw[tE]at g4
   refine⟨_,by rw[bY,G0],y,?_,?_⟩
   ·rw[<- g4];rfl
   ·rw[<- g4];exact g3) fuel (nums,E2 L,0) ⟨D9 _,L,rfl,A,rfl⟩ (by have:=E6;simp only;omega)
 obtain⟨r,e1,nums',rfl,h⟩:=key;exact⟨nums',e1,h⟩
structure RenOk(p:A8):Prop where
 i1:0<=p.I
 i2:p.I<=64
 n2:p.N.length<=1000000
 st:∃c:Nat,p.S=(c:Int)/\c<p.N.length
 gn:Grid p.N.length p.I.toNat p.N
 go:Grid p.N.length p.I.toNat p.O
 rng:∀q a,q<p.N.length->a<p.I.toNat->gx p.N q a=-1\/∃u:Nat,gx p.N q a=(u:Int)/\u<p.N.length
def ordP(p:A8):List Nat:=bfsL (λc=>(p.N[c]?).getD []) (p.N.length+1) 0 [p.S.toNat]
def sF{x:Nat}(hx:x<=1000000):Z9 (x:Int)=some (List.replicate x (-1)):=by
 unfold Z9;rw[H1 ⟨by omega,bN _,by unfold B5;omega⟩,I7]
 have key:=H4 (step:=λ(q:A2×Nat)=>Z9.s2 (x:Int) q.1 q.2) (λq=>q.2<=x/\Wrt (λ_=>(-1:Int)) (List.replicate x 0) q.2 q.1) (λq=>x-q.2) (λr=>r=List.replicate x (-1)) (λ⟨y,i⟩ ⟨g1,g2⟩=>by
  simp only at g1 g2
  simp only[Z9.s2,I7,J6]
  have a0:=g2.len
  rw[J6]at a0
  by_cases h:i<x
  ·left
   exact⟨(y.set i (-1),i+1),by rw[C0,B4 (get_at (l:=y) (i:=i) (by omega)),K3],⟨h,g2.step (by rw[J6];exact h) rfl⟩,by simp only;omega⟩
  ·right
   refine⟨_,by rw[B1],?_⟩
   rw[g2.done (by rw[J6];omega),J6]
   exact aC λb=>by
    by_cases g:b<x
    ·rw[H7,Q6 g,W4,if_pos g];rfl
    ·rw[M2 (by simp;omega),M2 (by simp;omega)]) fuel (List.replicate x 0,0) ⟨D9 _,Wrt.zero _ _⟩ (by have:=E6;simp only;omega)
 obtain⟨r,e,rfl⟩:=key;rw[e,A5]
def loop_s20{p:A8}(R:RenOk p):∃nums,iter (λ(s:A2×A2×Nat)=>M4.s20 p s.1 s.2.1 s.2.2) fuel ((List.replicate p.N.length (-1)).set p.S.toNat 0,[p.S],0)=some (nums,E2 (ordP p))/\NumL p.N.length (ordP p) nums:=by
 obtain⟨c,hc,a4⟩:=R.st;have hn:=R.n2
 have A0:NumL p.N.length [c] ((List.replicate p.N.length (-1)).set c 0):=by
  have B:NumL p.N.length [] (List.replicate p.N.length (-1)):=⟨J6,λd hd=>by rw[W4,if_pos hd,if_neg xD],iR,λd hd=>by cases hd⟩;exact B.push a4 xD
 have key:=H4 (step:=λ(s:A2×A2×Nat)=>M4.s20 p s.1 s.2.1 s.2.2) (λs=>∃L,s.2.1=E2 L/\s.2.2<=L.length/\NumL p.N.length L s.1/\bfsL (λc=>(p.N[c]?).getD []) (p.N.length+1-s.2.2) s.2.2 L=ordP p) (λs=>p.N.length+1-s.2.2) (λr=>∃nums,r=(nums,E2 (ordP p))/\NumL p.N.length (ordP p) nums) (λ⟨y,z,i⟩ ⟨L,g1,g2,g3,g4⟩=>by
  simp only at g1 g2 g3 g4
  subst g1
  simp only[M4.s20]
  have a5:=g3.le
  have a3:(E2 L).length=L.length:=by unfold E2;rw[C3]
  by_cases h:i<L.length
  ·left
   have hx:=get_at h
   have hq:L[i]<p.N.length:=g3.lt _ (P7 h)
   obtain⟨x,x1,x2⟩:=R.gn.row _ hq
   obtain⟨a2,e1,e2⟩:=loop_s18 (e:=x) (λk t hk=>by
    have a6:=(F6.1 hk).1
    have:=R.rng L[i] k hq (by omega)
    unfold gx at this
    rw[x1,H5,hk,H5]at this
    exact this) (by have:=R.i2;omega) g3 hn
   have a7:=e2.le
   have a0:i+1<=(x.foldl addT L).length:=by
    have:∀(x:A2) (L:List Nat),L.length<=(x.foldl addT L).length:=by
     intro x
     induction x with
     |nil=>exact λL=>H0 _
     |cons t x ih =>
      intro L
      rw[jN]
      refine aR ?_ (ih _)
      unfold addT
      split
      ·exact H0 _
      ·rw[J4];omega
    have:=this x L
    omega
   refine⟨(a2,E2 (x.foldl addT L),i+1),?_,⟨_,rfl,a0,e2,?_⟩,by simp only;omega⟩
   ·rw[C0,B4 (x:=(↑L[i]:Int)) (by unfold E2;rw[H7,hx];rfl),D6 (i:=L[i]) rfl x1,e1,A5]
    rfl
   ·rw[<- g4,show p.N.length+1-i=(p.N.length+1-(i+1))+1 by omega]
    simp only[bfsL,hx,x1,H5]
  ·right
   have e1:ordP p=L:=by
    rw[<- g4]
    cases hk:p.N.length+1-i with
    |zero=>rfl
    |succ k =>
     simp only[bfsL]
     rw[show L[i]?=none from M2 (by omega)]
   exact⟨_,by rw[B1],y,by rw[e1],by rw[e1];exact g3⟩) fuel ((List.replicate p.N.length (-1)).set p.S.toNat 0,[p.S],0) ⟨[c],by rw[hc];rfl,D9 _,by rw[hc];exact A0,by unfold ordP;rw[hc,I7];rfl⟩ (by have:=E6;simp only;omega)
 obtain⟨r,e1,nums,rfl,h⟩:=key;exact⟨nums,e1,h⟩
def numT(F:List Nat)(t:Int):Int:=if t≠-1/\t.toNat∈F then(↑(F.idxOf t.toNat):Int) else -1
def V8(p:A8)(F:List Nat)(c:Nat):A2:=(List.range p.I.toNat).map λa=>numT F (gx p.N c a)
def Z6(p:A8)(c:Nat):A2:=(List.range p.I.toNat).map λa=>if gx p.N c a=-1 then(-1:Int) else gx p.O c a
def loop_s38{p:A8}(R:RenOk p){F:List Nat}{nums:A2}(A:NumL p.N.length F nums){c:Nat}(hc:c<p.N.length){x:A2}(hx:p.N[c]?=some x) :
  iter (λ(s:A2×A2×Nat)=>M4.s38 p nums (c:Int) x s.1 s.2.1 s.2.2) fuel (List.replicate p.I.toNat (-1),List.replicate p.I.toNat (-1),0)=some (V8 p F c,Z6 p c):=by
 have hi:=R.i2;obtain⟨x',a0,a5⟩:=R.gn.row c hc;rw[hx]at a0;injection a0 with a0
 subst a0
 have key:=H4 (step:=λ(s:A2×A2×Nat)=>M4.s38 p nums (c:Int) x s.1 s.2.1 s.2.2) (λs=>s.2.2<=p.I.toNat/\Wrt (λa=>numT F (gx p.N c a)) (List.replicate p.I.toNat (-1)) s.2.2 s.1/\Wrt (λa=>if gx p.N c a=-1 then(-1:Int) else gx p.O c a) (List.replicate p.I.toNat (-1)) s.2.2 s.2.1) (λs=>p.I.toNat-s.2.2) (λr=>r=(V8 p F c,Z6 p c)) (λ⟨y,z,k⟩ ⟨g1,g2,g3⟩=>by
  simp only at g1 g2 g3
  simp only[M4.s38]
  have a4:=g2.len
  have a2:=g3.len
  rw[J6]at a4 a2
  by_cases h:k<p.I.toNat
  ·left
   obtain⟨x1,q1,q2,q3⟩:=R.gn.at hc h
   obtain⟨o1,r1,r2,r3⟩:=R.go.at hc h
   rw[hx]at q1
   injection q1 with q1
   subst q1
   rw[C0,B4 q2]
   by_cases t0:gx p.N c k=-1
   ·refine⟨(y,z,k+1),by rw[B1 (λg=>g t0)],⟨h,g2.skip (by rw[J6];exact h) ?_,g3.skip (by rw[J6];exact h) ?_⟩,by simp only;omega⟩
    ·rw[W4,if_pos h]
     unfold numT
     rw[if_neg (λg=>g.1 t0)]
    ·rw[W4,if_pos h,if_pos t0]
   ·obtain⟨u,hu,a3⟩:=(R.rng c k hc h).resolve_left t0
    have hy:=A.at_ u a3
    refine⟨(y.set k (numT F (gx p.N c k)),z.set k (gx p.O c k),k+1),?_,⟨h,g2.step (by rw[J6];exact h) rfl,g3.step (by rw[J6];exact h) (by rw[if_neg t0])⟩,by simp only;omega⟩
    rw[C0 t0,D6 (i:=u) hu hy,D6 (i:=c) rfl r1,B4 r2,B4 (get_at (l:=y) (i:=k) (by omega)),B4 (get_at (l:=z) (i:=k) (by omega))]
    have:numT F (gx p.N c k)=if u∈F then(↑(F.idxOf u):Int) else -1:=by
     unfold numT
     rw[hu,I7]
     by_cases k1:u∈F
     ·rw[if_pos ⟨by omega,k1⟩,if_pos k1]
     ·rw[if_neg (λg=>k1 g.2),if_neg k1]
    rw[this]
  ·right
   have e1:k=p.I.toNat:=by omega
   subst e1
   refine⟨_,by rw[B1],?_⟩
   rw[g2.done (by rw[J6];exact H0 _),g3.done (by rw[J6];exact H0 _),J6]
   rfl) fuel (List.replicate p.I.toNat (-1),List.replicate p.I.toNat (-1),0) ⟨D9 _,Wrt.zero _ _,Wrt.zero _ _⟩ (by have:=E6;simp only;omega)
 obtain⟨r,e1,rfl⟩:=key;exact e1
def renP(p:A8):A8:=⟨p.I,0,(ordP p).map (V8 p (ordP p)),(ordP p).map (Z6 p)⟩
def jG{p:A8}(R:RenOk p):∃nums,M4 p=some (renP p,nums)/\NumL p.N.length (ordP p) nums:=by
 obtain⟨nums,e1,A⟩:=loop_s20 R;obtain⟨c,hc,a3⟩:=R.st;have hn:=R.n2;have hi:=R.i2;have a0:=R.i1;have a5:=A.le;refine⟨nums,?_,A⟩
 have a4:Z9 p.I=some (List.replicate p.I.toNat (-1)):=by
  have:=sF (x:=p.I.toNat) (by omega)
  rwa [qA a0]at this
 have a2:(E2 (ordP p)).length=(ordP p).length:=by unfold E2;rw[C3]
 have key:=H4 (step:=λ(s:A4×A4×Nat)=>M4.s40 p nums (E2 (ordP p)) s.1 s.2.1 s.2.2) (λs=>s.2.2<=(ordP p).length/\s.1=((ordP p).take s.2.2).map (V8 p (ordP p))/\s.2.1=((ordP p).take s.2.2).map (Z6 p)) (λs=>(ordP p).length-s.2.2) (λr=>r=((ordP p).map (V8 p (ordP p)),(ordP p).map (Z6 p))) (λ⟨y,z,k⟩ ⟨g1,g2,g3⟩=>by
  simp only at g1 g2 g3
  subst g2
  subst g3
  simp only[M4.s40]
  by_cases h:k<(ordP p).length
  ·left
   have hx:=get_at h
   have hq:(ordP p)[k]<p.N.length:=A.lt _ (P7 h)
   obtain⟨x,x1,x2⟩:=R.gn.row _ hq
   have a6:(((ordP p).take k).map (V8 p (ordP p))).length=k:=by rw[C3,M7];omega
   have a7:(((ordP p).take k).map (Z6 p)).length=k:=by rw[C3,M7];omega
   refine⟨(((ordP p).take (k+1)).map (V8 p (ordP p)),((ordP p).take (k+1)).map (Z6 p),k+1),?_,⟨h,rfl,rfl⟩,by simp only;omega⟩
   rw[C0,B4 (x:=(↑(ordP p)[k]:Int)) (by unfold E2;rw[H7,hx];rfl),a4,A5,A5,D6 (i:=(ordP p)[k]) rfl x1,loop_s38 R A hq x1,A5]
   unfold M4.k39
   simp only
   rw[Q1,Q1,jR h,L5,L5]
   rfl
  ·right
   have e1:k=(ordP p).length:=by omega
   subst e1
   exact⟨_,by rw[B1],by rw[V2]⟩) fuel ([],[],0) ⟨D9 _,rfl,rfl⟩ (by have:=E6;simp only;omega)
 obtain⟨r,e2,rfl⟩:=key;unfold M4;rw[sF hn,A5,D6 (i:=c) hc (x:=(-1:Int)) (by rw[W4,if_pos a3]),e1,A5];unfold M4.k42;simp only;rw[e2,A5];rfl
section
def place_eq{L:List Nat}{d:Nat}(hl:L.length<=10000000):aO (E2 L) (d:Int)=some (↑(L.idxOf d):Int):=by
 have a0:(E2 L).length=L.length:=by unfold E2;rw[C3]
 have key:=H4 (step:=λ(i:Nat)=>aO.s2 (E2 L) (d:Int) i) (λi=>i<=L.length/\d∉L.take i) (λi=>L.length-i) (λr=>r=L.idxOf d) (λi ⟨g1,g2⟩=>by
  simp only[aO.s2]
  by_cases h:i<L.length
  ·have hx:=get_at h
   rw[C0,B4 (x:=(↑L[i]:Int)) (by unfold E2;rw[H7,hx];rfl),A5]
   by_cases e:L[i]=d
   ·right
    refine⟨i,by rw[B1],?_⟩
    have hL:L=L.take i++L[i]::L.drop (i+1):=by rw[<- eW h,tR]
    rw[hL,kS,if_neg g2,e,List.idxOf_cons_self,F7,M7]
    omega
   ·left
    refine⟨i+1,by rw[C0,K3],⟨h,λhm=>?_⟩,by omega⟩
    rw[jR h]at hm
    rcases J2.1 hm with k|k
    ·exact g2 k
    ·exact e (J3.1 k).symm
  ·right
   have e1:i=L.length:=by omega
   subst e1
   rw[V2]at g2
   exact⟨L.length,by rw[B1,A5,G0],(xE g2).symm⟩) fuel 0 ⟨D9 _,by simp⟩ (by have:=E6;omega)
 obtain⟨r,e1,rfl⟩:=key;unfold aO;rw[e1,A5]
section
variable {p:A8}
def knownQ_eq(H:H9 p){cl:Nat->Nat}{c a:Nat}(ha:a<p.I.toNat):∃k,gH p ((List.range p.N.length).map λq=>(↑(cl q):Int)) (c:Int) (a:Int)=some k/\((k=-1/\∀r,r<p.N.length->cl r=c->pnx p r a=-1)\/∃q:Nat,k=(q:Int)/\q<p.N.length/\cl q=c/\pnx p q a≠-1):=by
 have hn:=H.n2
 have key:=H4 (step:=λ(q:Nat)=>gH.s2 p ((List.range p.N.length).map λq=>(↑(cl q):Int)) (c:Int) (a:Int) q) (λq=>q<=p.N.length/\∀r,r<q->cl r=c->pnx p r a=-1) (λq=>p.N.length-q) (λr=>(r=.inl ()/\∀r,r<p.N.length->cl r=c->pnx p r a=-1)\/∃q:Nat,r=.inr (q:Int)/\q<p.N.length/\cl q=c/\pnx p q a≠-1) (λq ⟨g1,g2⟩=>by
  simp only[gH.s2,C3,P3]
  by_cases h:q<p.N.length
  ·obtain⟨_,_,_,_,_,x,y,hx,hy,a2,a3,_,_⟩:=H.at h ha
   rw[C0,B4 (x:=(↑(cl q):Int)) (by rw[H7,Q6 h];rfl)]
   by_cases e:cl q=c
   ·rw[C0,B4 hx,D6 (i:=a) rfl a2,A5]
    by_cases k:pnx p q a=-1
    ·left
     refine⟨q+1,by rw[B1 (λg=>g k)],⟨h,λr hr a0=>?_⟩,by omega⟩
     by_cases e2:r=q
     ·rw[e2];exact k
     ·exact g2 r (by omega) a0
    ·right
     exact⟨_,by rw[C0 k],.inr ⟨q,rfl,h,e,k⟩⟩
   ·left
    refine⟨q+1,by rw[B1,A5,G0],⟨h,λr hr a0=>?_⟩,by omega⟩
    by_cases e2:r=q
    ·rw[e2]at a0;exact absurd a0 e
    ·exact g2 r (by omega) a0
  ·right
   have e1:q=p.N.length:=by omega
   subst e1
   exact⟨_,by rw[B1],.inl ⟨rfl,g2⟩⟩) fuel 0 ⟨D9 _,λr hr=>absurd hr (N9 _)⟩ (by have:=E6;omega)
 obtain⟨r,e1,hr⟩:=key;unfold gH;rw[e1,A5];rcases hr with⟨rfl,h⟩|⟨q,rfl,h⟩
 ·exact⟨-1,by rw[W5],.inl ⟨rfl,h⟩⟩
 ·exact⟨_,by rw[eP],.inr ⟨q,rfl,h⟩⟩
structure dT(p Q:A8)(cl:Nat->Nat):Prop where
 ren:RenOk Q
 len:Q.N.length=p.N.length
 inp:Q.I=p.I
 st:Q.S=(↑(cl p.S.toNat):Int)
 idem:∀q,q<p.N.length->cl (cl q)=cl q
 lt:∀q,q<p.N.length->cl q<p.N.length
 row:∀c a,c<p.N.length->a<p.I.toNat->cl c=c->(gx Q.N c a=-1->∀r,r<p.N.length->cl r=c->pnx p r a=-1)/\(gx Q.N c a≠-1->(∃r,r<p.N.length/\cl r=c/\pnx p r a≠-1)/\∀r,r<p.N.length->cl r=c->pnx p r a≠-1->gx Q.N c a=(↑(cl (pnx p r a).toNat):Int)/\pot p r a=gx Q.O c a)
structure OrdI(n:Nat)(cl:Nat->Nat)(L:List Nat):Prop where
 nd:L.Nodup
 lt:∀c,c∈L->c<n/\cl c=c
def OrdI.le{n:Nat}{cl:Nat->Nat}{L:List Nat}(A:OrdI n cl L):L.length<=n:=by
 have:=iH (b:=List.range n) A.nd λx hx=>M5.2 (A.lt x hx).1
 rwa [P3]at this
def OrdI.push{n:Nat}{cl:Nat->Nat}{L:List Nat}(A:OrdI n cl L){c:Nat}(hc:c<n)(h2:cl c=c)(h:c∉L):OrdI n cl (L++[c]):=by
 refine⟨V5.2 ⟨A.nd,by simp,λa ha b hb=>?_⟩,λd hd=>?_⟩
 ·rw[J3.1 hb];exact λg=>h (by rw[<- g];exact ha)
 ·rcases J2.1 hd with k|k
  ·exact A.lt d k
  ·rw[J3.1 k];exact⟨hc,h2⟩
def numT_grow{L L':List Nat}(h:L <+: L'){t:Int}(ht:t=-1\/t.toNat∈L):numT L' t=numT L t:=by
 obtain⟨K,rfl⟩:=h;unfold numT;by_cases t0:t=-1
 ·rw[if_neg (λg=>g.1 t0),if_neg (λg=>g.1 t0)]
 ·have h:=ht.resolve_left t0;rw[if_pos ⟨t0,L6 _ h⟩,if_pos ⟨t0,h⟩,kS,if_pos h]
def loop_s54(H:H9 p){Q:A8}{cl:Nat->Nat}(K:dT p Q cl){L:List Nat}(A:OrdI p.N.length cl L){i c:Nat}(hi:L[i]?=some c){x:A2}(hx:Q.N[c]?=some x) :
  ∃L',iter (λ(s:A2×A2×A2×Nat)=>Q2.s54 p ((List.range p.N.length).map λq=>(↑(cl q):Int)) i s.1 s.2.1 s.2.2.1 s.2.2.2) fuel (E2 L,[],[],0)=some (E2 L',V8 Q L' c,Z6 Q c)/\L'=x.foldl addT L/\L <+: L'/\OrdI p.N.length cl L'/\∀b,b<p.I.toNat->gx Q.N c b=-1\/(gx Q.N c b).toNat∈L':=by
 have hn:=H.n2;have d7:=H.i2;obtain⟨hc,c0⟩:=A.lt c (I8 hi)
 have c9:x.length=p.I.toNat:=by
  obtain⟨x',q1,q2⟩:=K.ren.gn.row c (by rw[K.len];exact hc);rw[hx]at q1;injection q1 with q1
  rw[q1,q2,K.inp]
 have d4:∀b,b<p.I.toNat->x[b]?=some (gx Q.N c b):=λb hb=>by
  obtain⟨x',q1,q2,_⟩:=K.ren.gn.at (q:=c) (a:=b) (by rw[K.len];exact hc) (by rw[K.inp];exact hb);rw[hx]at q1;injection q1 with q1
  rw[q1,q2]
 have key:=H4 (step:=λ(s:A2×A2×A2×Nat)=>Q2.s54 p ((List.range p.N.length).map λq=>(↑(cl q):Int)) i s.1 s.2.1 s.2.2.1 s.2.2.2) (λs=>s.2.2.2<=p.I.toNat/\∃La,s.1=E2 La/\La=(x.take s.2.2.2).foldl addT L/\L <+: La/\OrdI p.N.length cl La/\(∀b,b<s.2.2.2->gx Q.N c b=-1\/(gx Q.N c b).toNat∈La)/\s.2.1=(List.range s.2.2.2).map (λb=>numT La (gx Q.N c b))/\s.2.2.1=(List.range s.2.2.2).map (λa=>if gx Q.N c a=-1 then(-1:Int) else gx Q.O c a)) (λs=>p.I.toNat-s.2.2.2) (λr=>∃L',r=(E2 L',V8 Q L' c,Z6 Q c)/\L'=x.foldl addT L/\L <+: L'/\OrdI p.N.length cl L'/\∀b,b<p.I.toNat->gx Q.N c b=-1\/(gx Q.N c b).toNat∈L') (λ⟨l,y,z,a⟩ ⟨g1,La,g2,g3,g4,g5,g6,g7,g8⟩=>by
  simp only at g1 g2 g3 g6 g7 g8
  subst g2
  subst g7
  subst g8
  simp only[Q2.s54]
  have d6:=g5.le
  have a8:∀L:List Nat,(E2 L).length=L.length:=λL=>by unfold E2;rw[C3]
  by_cases ha:a<p.I.toNat
  ·left
   have c6:=d4 a ha
   have d3:(E2 La)[i]?=some (c:Int):=by
    obtain⟨T,rfl⟩:=g4
    unfold E2
    rw[H7,P2 (F6.1 hi).1,hi]
    rfl
   have hf:(x.take (a+1)).foldl addT L=addT La (gx Q.N c a):=by
    have h1:a<x.length:=by omega
    have h2:=get_at h1
    rw[c6]at h2
    injection h2 with h2
    rw[jR h1,qI,<- g3,<- h2]
    rfl
   have a7:∀(l x y:A2),Q2.k53 a l x y=some (.inl (l,x,y,a+1)):=λl x y=>by
    unfold Q2.k53
    rw[K3]
   obtain⟨k,e1,hk⟩:=knownQ_eq H (cl:=cl) (c:=c) ha
   obtain⟨b8,a0⟩:=K.row c a hc ha c0
   rw[C0 (by clear hk a0;omega),B4 d3,e1,A5]
   by_cases t0:gx Q.N c a=-1
   ·have d0:k=-1:=by
     rcases hk with h|⟨q,_,q2,q3,q4⟩
     ·exact h.1
     ·exact absurd (b8 t0 q q2 q3) q4
    clear hk a0
    have d2:addT La (gx Q.N c a)=La:=by unfold addT;rw[if_pos (.inl t0)]
    refine⟨(E2 La,(List.range (a+1)).map (λb=>numT La (gx Q.N c b)),(List.range (a+1)).map (λa=>if gx Q.N c a=-1 then(-1:Int) else gx Q.O c a),a+1),?_,⟨ha,La,rfl,by rw[hf,d2],g4,g5,λb hb=>?_,rfl,rfl⟩,by simp only;omega⟩
    ·rw[C0 d0,H1 (by unfold B5;rw[C3,P3];omega),H1 (by unfold B5;rw[C3,P3];omega),A5,a7,fP,L5,L5,pZ,pZ,if_pos t0,show numT La (gx Q.N c a)=-1 by unfold numT;rw[if_neg (λg=>g.1 t0)]]
    ·by_cases e:b=a
     ·rw[e];exact .inl t0
     ·exact g6 b (by simp only at hb;omega)
   ·obtain⟨⟨r0,r1,r2,r3⟩,b9⟩:=a0 t0
    obtain⟨q,q1,q2,q3,q4⟩:∃q:Nat,k=(q:Int)/\q<p.N.length/\cl q=c/\pnx p q a≠-1:=by
     rcases hk with h|h
     ·exact absurd (h.2 r0 r1 r2) r3
     ·exact h
    clear hk a0
    obtain⟨m1,m2⟩:=b9 q q2 q3 q4
    obtain⟨w1,w2,w3,w4,w5,xr,yr,d1,c8,b7,b5,_,_⟩:=H.at q2 ha
    obtain⟨u,hu⟩:∃u:Nat,pnx p q a=(u:Int):=⟨(pnx p q a).toNat,by omega⟩
    have b2:u<p.N.length:=by omega
    rw[hu,I7]at m1
    have c7:=K.lt u b2
    have a9:=K.idem u b2
    -- the order behind this symbol
    have a3:addT La (gx Q.N c a)=if cl u∈La then La else La++[cl u]:=by
     unfold addT
     rw[m1,I7]
     by_cases h:cl u∈La
     ·rw[if_pos (.inr h),if_pos h]
     ·rw[if_neg (λg=>g.elim (by omega) h),if_neg h]
    have hb:((aO (E2 La) (↑(cl u):Int)).bind λa2=>cond (decide (a2=(↑(List.length (E2 La)):Int))) (chk (B5 (List.length (E2 La)+1) 8) (some (E2 La++[(↑(cl u):Int)]))) (some (E2 La)):Option (A2))=some (E2 (addT La (gx Q.N c a))):=by
     rw[place_eq (by omega),A5,a8,a3]
     by_cases h:cl u∈La
     ·have:=cV h
      rw[if_pos h,B1]
     ·have:=xE h
      rw[if_neg h,C0,Q1]
      unfold E2
      rw[L5]
      rfl
    have a4:La <+: addT La (gx Q.N c a):=by
     rw[a3]
     split
     ·exact cT _
     ·exact xN _ _
    have a5:cl u∈addT La (gx Q.N c a):=by
     rw[a3]
     split
     ·assumption
     ·exact M0 _ (J3.2 rfl)
    have a6:OrdI p.N.length cl (addT La (gx Q.N c a)):=by
     rw[a3]
     split
     ·exact g5
     ·rename_i h;exact g5.push c7 a9 h
    have d5:=a6.le
    refine⟨(E2 (addT La (gx Q.N c a)),(List.range (a+1)).map (λb=>numT (addT La (gx Q.N c a)) (gx Q.N c b)),(List.range (a+1)).map (λa=>if gx Q.N c a=-1 then(-1:Int) else gx Q.O c a),a+1),?_,⟨ha,_,rfl,hf.symm,g4.trans a4,a6,λb b3=>?_,rfl,rfl⟩,by simp only;omega⟩
    ·rw[B1,D6 (i:=q) q1 d1,B4 b7,hu,D6 (i:=u) rfl (x:=(↑(cl u):Int)) (by rw[H7,Q6 b2];rfl),hb,A5,place_eq (by omega),A5,H1 (by unfold B5;rw[C3,P3];omega),D6 (i:=q) q1 c8,B4 b5,H1 (by unfold B5;rw[C3,P3];omega),A5,a7,fP,L5,L5,pZ,pZ,if_neg t0,m2]
     have b4:(List.range a).map (λb=>numT La (gx Q.N c b))=(List.range a).map (λb=>numT (addT La (gx Q.N c a)) (gx Q.N c b)):=nD λb b3=>(numT_grow a4 (g6 b (M5.1 b3))).symm
     have b6:numT (addT La (gx Q.N c a)) (gx Q.N c a)=(↑((addT La (gx Q.N c a)).idxOf (cl u)):Int):=by
      generalize hG:addT La (gx Q.N c a)=G at a5 ⊢
      unfold numT
      rw[m1,I7,if_pos ⟨by omega,a5⟩]
     rw[b4,b6]
    ·by_cases e:b=a
     ·rw[e];right;rw[m1,I7,<- m1];exact a5
     ·rcases g6 b (by simp only at b3;omega) with h|h
      ·exact .inl h
      ·exact .inr (a4.subset h)
  ·right
   have e1:a=p.I.toNat:=by omega
   subst e1
   rw[<- c9,V2]at g3
   refine⟨_,by rw[B1 (by have:=H.i1;omega)],La,?_,g3,g4,g5,g6⟩
   unfold V8 Z6
   rw[K.inp]) fuel (E2 L,[],[],0) ⟨D9 _,L,rfl,rfl,cT _,A,λb hb=>absurd hb (N9 _),rfl,rfl⟩ (by have:=E6;simp only;omega)
 obtain⟨r,e1,L',rfl,h⟩:=key;exact⟨L',e1,h⟩
end
end
section
section
variable {p:A8}
def foldl_len(x:A2):∀L:List Nat,L.length<=(x.foldl addT L).length:=by
 induction x with
 |nil=>exact λL=>H0 _
 |cons t x ih =>
  intro L;rw[jN];refine aR ?_ (ih _);unfold addT;split
  ·exact H0 _
  ·rw[J4];omega
def R35_Folded_eq(H:H9 p){Q:A8}{cl:Nat->Nat}(K:dT p Q cl):Q2 p ((List.range p.N.length).map λq=>(↑(cl q):Int))=some (renP Q,E2 (ordP Q))/\OrdI p.N.length cl (ordP Q):=by
 have hn:=H.n2;have a8:=H.st;have hs:p.S.toNat<p.N.length:=by omega
 have a0:∀L:List Nat,(E2 L).length=L.length:=λL=>by unfold E2;rw[C3]
 have A0:OrdI p.N.length cl [cl p.S.toNat]:=⟨by simp,λc hc=>by
  rw[J3.1 hc]
  exact⟨K.lt _ hs,K.idem _ hs⟩⟩
 have key:=H4 (step:=λ(s:A2×A4×A4×Nat)=>Q2.s56 p ((List.range p.N.length).map λq=>(↑(cl q):Int)) s.1 s.2.1 s.2.2.1 s.2.2.2) (λs=>∃L,s.1=E2 L/\s.2.2.2<=L.length/\OrdI p.N.length cl L/\bfsL (λc=>(Q.N[c]?).getD []) (Q.N.length+1-s.2.2.2) s.2.2.2 L=ordP Q/\s.2.1=(L.take s.2.2.2).map (V8 Q L)/\s.2.2.1=(L.take s.2.2.2).map (Z6 Q)/\∀c,c∈L.take s.2.2.2->∀b,b<p.I.toNat->gx Q.N c b=-1\/(gx Q.N c b).toNat∈L) (λs=>p.N.length+1-s.2.2.2) (λr=>r=(E2 (ordP Q),(ordP Q).map (V8 Q (ordP Q)),(ordP Q).map (Z6 Q))/\OrdI p.N.length cl (ordP Q)) (λ⟨l,y,z,i⟩ ⟨L,g1,g2,g3,g4,g5,g6,g7⟩=>by
  simp only at g1 g2 g4 g5 g6 g7
  subst g1
  subst g5
  subst g6
  simp only[Q2.s56]
  have a6:=g3.le
  by_cases h:i<L.length
  ·left
   have hx:=get_at h
   obtain⟨hc,a7⟩:=g3.lt L[i] (P7 h)
   obtain⟨x,x1,x2⟩:=K.ren.gn.row L[i] (by rw[K.len];exact hc)
   obtain⟨L',e1,e2,e3,e4,e5⟩:=loop_s54 H K g3 hx x1
   have a5:i+1<=L'.length:=by
    have:=foldl_len x L
    rw[<- e2]at this
    omega
   have a4:L'.take (i+1)=L.take i++[L[i]]:=by
    obtain⟨T,rfl⟩:=e3
    rw[tQ (by omega),jR h]
   refine⟨(E2 L',(L'.take (i+1)).map (V8 Q L'),(L'.take (i+1)).map (Z6 Q),i+1),?_,⟨L',rfl,a5,e4,?_,rfl,rfl,λc a2 b hb=>?_⟩,by simp only;omega⟩
   ·rw[C0 (by rw[a0];omega),e1,A5]
    unfold Q2.k55
    simp only
    have a3:(L.take i).map (V8 Q L)=(L.take i).map (V8 Q L'):=nD λc a2=>by
     unfold V8
     refine nD λb hb=>(numT_grow e3 (g7 c a2 b ?_)).symm
     have:=M5.1 hb
     rwa [K.inp]at this
    rw[H1 (by unfold B5;rw[C3,M7];omega),H1 (by unfold B5;rw[C3,M7];omega),a4,L5,L5,a3]
    rfl
   ·rw[<- g4,show Q.N.length+1-i=(Q.N.length+1-(i+1))+1 by rw[K.len];omega]
    simp only[bfsL,hx,x1,H5]
    rw[e2]
   ·rw[a4]at a2
    rcases J2.1 a2 with k|k
    ·exact(g7 c k b hb).elim .inl λk=>.inr (e3.subset k)
    ·rw[J3.1 k];exact e5 b hb
  ·right
   have e1:i=L.length:=by omega
   have e2:ordP Q=L:=by
    rw[<- g4]
    cases hk:Q.N.length+1-i with
    |zero=>rfl
    |succ k =>
     simp only[bfsL]
     rw[show L[i]?=none from M2 (by omega)]
   subst e1
   refine⟨_,by rw[B1 (by rw[a0];omega)],?_⟩
   rw[e2,V2]
   exact⟨rfl,g3⟩) fuel (E2 [cl p.S.toNat],[],[],0) ⟨_,rfl,D9 _,A0,by unfold ordP;rw[K.st,I7];rfl,rfl,rfl,λc hc=>by simp at hc⟩ (by have:=E6;simp only;omega)
 obtain⟨r,e1,rfl,hO⟩:=key;refine⟨?_,hO⟩;unfold Q2;rw[D6 (i:=p.S.toNat) (by omega) (x:=(↑(cl p.S.toNat):Int)) (by rw[H7,Q6 hs];rfl)];have:[(↑(cl p.S.toNat):Int)]=E2 [cl p.S.toNat]:=rfl;rw[this,e1,A5];unfold Q2.k57 renP;rw[K.inp]
end
end
end Go.Proofs.YtkeplokjplkcmaaGreat.Sym

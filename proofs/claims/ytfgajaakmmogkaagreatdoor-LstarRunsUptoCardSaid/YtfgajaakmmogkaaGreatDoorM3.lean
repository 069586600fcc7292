/- Parts of the proof. -/
import Derived.Test.YtfgajaakmmogkaaGreatDoorM2
import Derived.Lib.AppendZeros
import Derived.Shelf.SlSortCmp.NoneTotal
import Derived.Lib.OwnBridge
import Derived.Lib.BufferRead
import Derived.WalkSmall
import Derived.Shelf.SlSortCmp.Whole1
import Derived.Shelf.SlSortCmp.WholeK
import Derived.Shelf.SlGeneric
import Derived.Ground.SlsfProg
import Derived.Lib.AppendZerosOnto
import Derived.Lib.Overlaps
import Derived.Lib.Walk
import Derived.Shelf.RegionOpenPlain
import Derived.Laws.NewBlocks
import Derived.Deep.WholeRow
set_option linter.all false
set_option maxRecDepth 100000
set_option maxHeartbeats 4000000
open Go.RowKit
namespace Go.Proofs.YtfgajaakmmogkaaGreatDoor
def GrowPost(t:TypeId)(w:World)(e:Ending)(w':World):Prop:=∃v',e=.returned v'∧w'.ownsRow w.heap.size t 1 v' 0 []∧Below w.heap.size w w'
theorem zsn(w:World)(Z:Array Value)(t:TypeId)(c:Nat)(hc:c<=maxLen)(hZ:Z.size=c) :
  (w.drew.alloc (.cells Z t)).ownsRow w.heap.size t 1 (.slice (some ⟨w.heap.size,0,none⟩) 0 c) 0 []:=by
 refine⟨rfl,.inr ⟨w.heap.size,c,Z,rfl,Nat.le_refl _,?_,Nat.zero_le _,hc,by omega,by simp⟩⟩;exact heap_alloc_new w.drew _
theorem zvs(w:World)(o:Obj):Below w.heap.size w (w.drew.alloc o):=(Below.refl w.heap.size w).drew.alloc (Nat.le_refl _) o
set_option maxRecDepth 100000 in
set_option maxHeartbeats 800000 in
theorem growI_any(n:Nat)(hn:n<=1000000000)(w:World) :
  Calls Tryz.prog 152 #[.slice none 0 0,.int .i64 n] w (GrowPost 3 w):=by
 obtain⟨i0,hi,b0,b2,a9⟩:=info_parts Tryz.infoInt;have h1:¬((n:Int)<0):=by omega
 by_cases h0:n=0
 ·subst h0
  go_enter Tryz.func152,Tryz.ntmps152
  go_wp2
  go_ret
  exact⟨_,rfl,World.ownsRow_nil _ _ _ _,Below.refl _ _⟩
 ·have h4:(n:Int) > 0:=by omega
  have a4:=Lib.run_append_nil_zeros (P:=Tryz.prog) w 48 3 48 3 i0 (.int .i64 0) .i64 .i64 Tryz.underlying48 Tryz.underlying3 hi b0 n (by omega) (by omega) (by omega) (by rw[a9];omega);generalize a3:grownCap w n 0 3=cap2 at a4;have a7:n<=cap2:=by rw[<- a3];exact grownCap_ge w _ 0 _
  have a2:cap2<=maxLen:=by rw[<- a3];exact grownCap_le_maxLen w _ 0 _ (by unfold maxLen;omega)
  generalize hZ:(Builtin.zeroCells (Value.cells (.int .i64 0)) n++Builtin.zeroCells (Value.cells (.int .i64 0)) (cap2-n))=Z at a4;have a6:Z.size=cap2:=by rw[<- hZ];simp[size_zeroCells,Value.cells];omega
  have a5:=zsn w Z 3 cap2 a2 a6;have a8:cap2<=9223372036854775807:=by unfold maxLen at a2;omega
  have HO:=Lib.hid (And.intro a5 (zvs w (.cells Z 3)));clear a3 hZ a5 a6
  go_enter Tryz.func152,Tryz.ntmps152
  go_wp2_with (at_builtin;refine Lib.wpList_append_run _ rfl _ _ _ _ rfl _ _ rfl rfl _ _ a4 ?_)
  go_ret
  exact⟨_,rfl,HO.out.1,HO.out.2⟩
set_option maxRecDepth 100000 in
set_option maxHeartbeats 800000 in
theorem growW_any(n:Nat)(hn:n<=1000000000)(w:World) :
  Calls Tryz.prog 156 #[.slice none 0 0,.int .i64 n] w (GrowPost 48 w):=by
 obtain⟨i0,hi,b0,b2,a9⟩:=info_parts Tryz.infoWord;have h1:¬((n:Int)<0):=by omega
 by_cases h0:n=0
 ·subst h0
  go_enter Tryz.func156,Tryz.ntmps156
  go_wp2
  go_ret
  exact⟨_,rfl,World.ownsRow_nil _ _ _ _,Below.refl _ _⟩
 ·have h4:(n:Int) > 0:=by omega
  have a4:=Lib.run_append_nil_zeros (P:=Tryz.prog) w 22 3 22 48 i0 (.slice none 0 0) .i64 .i64 Tryz.underlying22 Tryz.underlying3 hi b0 n (by omega) (by omega) (by omega) (by rw[a9];omega);generalize a3:grownCap w n 0 48=cap2 at a4;have a7:n<=cap2:=by rw[<- a3];exact grownCap_ge w _ 0 _
  have a2:cap2<=maxLen:=by rw[<- a3];exact grownCap_le_maxLen w _ 0 _ (by unfold maxLen;omega)
  generalize hZ:(Builtin.zeroCells (Value.cells (.slice none 0 0)) n++Builtin.zeroCells (Value.cells (.slice none 0 0)) (cap2-n))=Z at a4;have a6:Z.size=cap2:=by rw[<- hZ];simp[size_zeroCells,Value.cells];omega
  have a5:=zsn w Z 48 cap2 a2 a6;have a8:cap2<=9223372036854775807:=by unfold maxLen at a2;omega
  have HO:=Lib.hid (And.intro a5 (zvs w (.cells Z 48)));clear a3 hZ a5 a6
  go_enter Tryz.func156,Tryz.ntmps156
  go_wp2_with (at_builtin;refine Lib.wpList_append_run _ rfl _ _ _ _ rfl _ _ rfl rfl _ _ a4 ?_)
  go_ret
  exact⟨_,rfl,HO.out.1,HO.out.2⟩
end Go.Proofs.YtfgajaakmmogkaaGreatDoor
namespace Go.Proofs.YtfgajaakmmogkaaGreatDoor.Sym
theorem zy3{g:FuncId}{t:TypeId}{n:Int}(he:∀args w,(callFunc g args).run Tryz.prog w=.ok (.enter g args) w)(h0:0<=n)(h1:n<=1000000000)
  (h:∀(n:Nat),n<=1000000000->∀w,Calls Tryz.prog g #[.slice none 0 0,.int .i64 n] w (GrowPost t w)):Sp Tryz.prog g [.im (.val (.slice none 0 0)),.im (nI n)] (.row t 1 []):=by
 refine⟨he,fun w S vs F hS hv hn hF=>?_⟩
 match vs,hv with
 |[v,u],⟨F1,F2,⟨h3,e1⟩,⟨F3,F4,⟨h4,e2⟩,h5,e3⟩,e4⟩ =>
  have h5:F4=[]:=h5;subst e1 e2 h5 e3 e4;cases h3;cases h4;have hc:=h n.toNat (by omega) w;rw[Int.toNat_of_nonneg h0]at hc;refine hc.mono ?_;rintro e w' ⟨v',rfl,ho,hb⟩
  have a2:w'.ownsRow 0 t 1 v' 0 []:=by
   refine⟨ho.1,?_⟩;rcases ho.2 with h6|⟨g1,cap,cur,k1,_,k3⟩
   ·exact .inl h6
   ·exact .inr ⟨g1,cap,cur,k1,yag _,k3⟩
  have a4:=ho.lt
  have a3:∀b∈(zbg v').toList,w.heap.size<=b∧b<w'.heap.size:=fun b hb=>by
   refine a4 b ?_;rw[ziy a2];simpa using hb
  refine⟨v',(zbg v').toList,rfl,.of hb,⟨[v'],(zbg v').toList,[],rfl,⟨(zbg v').toList,[],⟨row_one a2,[],⟨[],Nat.one_pos,fun x hx=>by simp at hx,by decide,a2,rfl,fun u hu=>by simp at hu,fun i u x hu=>by simp at hu⟩,rfl⟩,rfl,by simp⟩,rfl,by simp⟩,?_,fun b hb=>⟨.inl (a3 b hb).1,(a3 b hb).2⟩⟩;cases zbg v'<;>simp
def zon(n:Int):Option (yab):=chk (0<=n∧n<=1000000000) (some [])
theorem zxu(n:Int)(r:yab)(h:zon n=some r):Sp Tryz.prog 152 [.im (.val (.slice none 0 0)),.im (nI n)] (.row 3 1 (List.map cI r)):=by
 obtain⟨h1,h⟩:=zaj h;injection h with h
 subst h;exact zy3 (fun args w=>zfl rfl rfl rfl args w) h1.1 h1.2 growI_any
def zl1(n:Int):Option (yaa):=chk (0<=n∧n<=1000000000) (some [])
theorem zs8(n:Int)(r:yaa)(h:zl1 n=some r):Sp Tryz.prog 156 [.im (.val (.slice none 0 0)),.im (nI n)] (.row 48 1 (List.map (cL cI) r)):=by
 obtain⟨h1,h⟩:=zaj h;injection h with h
 subst h;exact zy3 (fun args w=>zfl rfl rfl rfl args w) h1.1 h1.2 growW_any
section
open Go.RowKit Go.Sort
section plain
variable {α:Type}
def totB[DecidableEq α](f:α->α->Option Int)(l:List α):Bool :=
 l.all fun a=>l.all fun b=>match f a b,f b a with
  |some m,some n=>(decide (m=0)==decide (a=b))&&(decide (m<0)==decide (0<n))&&(decide (-1<=m∧m<=1))&&l.all fun c=>!(decide (m<0)&&(match f b c with|some x=>decide (x<0)|none=>false))||(match f a c with|some x=>decide (x<0)|none=>false)
  |_,_=>false
def insF(f:α->α->Option Int)(x:α):List α->List α
 |[]=>[x]
 |y::l=>match f x y with
  |some m=>cond (decide (m<=0)) (x::y::l) (y::insF f x l)
  |none=>x::y::l
def zhs(f:α->α->Option Int):List α->List α
 |[]=>[]
 |x::l=>insF f x (zhs f l)
def ztu[DecidableEq α](l:List α)(f:α->α->Option Int):Option (List α):=chk (l.length<=1000000000) (cond (totB f l) (some (zhs f l)) none)
def cfv(f:α->α->Option Int)(a b:α):Int:=(f a b).getD 0
structure TotF(f:α->α->Option Int)(l:List α):Prop where
 get:∀a∈l,∀b∈l,f a b=some (cfv f a b)
 zero:∀a∈l,∀b∈l,cfv f a b=0->a=b
 self:∀a∈l,cfv f a a=0
 swap:∀a∈l,∀b∈l,(cfv f a b<0↔0<cfv f b a)
 trans:∀a∈l,∀b∈l,∀c∈l,cfv f a b<0->cfv f b c<0->cfv f a c<0
theorem totB_iff[DecidableEq α]{f:α->α->Option Int}{l:List α}(h:totB f l=true):TotF f l:=by
 have key:∀a∈l,∀b∈l,∃m n,f a b=some m∧f b a=some n∧(m=0↔a=b)∧(m<0↔0<n)∧∀c∈l,m<0->(∃x,f b c=some x∧x<0)->∃x,f a c=some x∧x<0:=by
  intro a ha b hb;have h1:=ybb.1 (ybb.1 h a ha) b hb;cases e1:f a b with
  |none=>rw[e1]at h1;cases h1
  |some m =>
   cases e2:f b a with
   |none=>rw[e1,e2]at h1;cases h1
   |some n =>
    rw[e1,e2]at h1;simp only[ya0]at h1;obtain⟨⟨⟨h2,h3⟩,_⟩,h5⟩:=h1;refine⟨m,n,rfl,rfl,?_,?_,fun c hc hm ⟨x,hx,a2⟩=>?_⟩
    ·have h2:=eq_of_beq h2;simpa using h2
    ·have h3:=eq_of_beq h3;simpa using h3
    ·have h6:=ybb.1 h5 c hc;rw[hx]at h6;simp only[hm,a2,decide_true,Bool.and_self,ybh,yeh]at h6;cases e3:f a c with
     |none=>rw[e3]at h6;cases h6
     |some y=>rw[e3]at h6;exact⟨y,rfl,by simpa using h6⟩
 have get:∀a∈l,∀b∈l,f a b=some (cfv f a b):=fun a ha b hb=>by
  obtain⟨m,n,e1,_⟩:=key a ha b hb;unfold cfv;rw[e1];rfl
 refine⟨get,fun a ha b hb=>?_,fun a ha=>?_,fun a ha b hb=>?_,fun a ha b hb c hc h1 h2=>?_⟩
 ·obtain⟨m,n,e1,e2,h3,_⟩:=key a ha b hb;rw[get a ha b hb]at e1;injection e1 with e1
  rw[e1];exact h3.1
 ·obtain⟨m,n,e1,e2,h3,_⟩:=key a ha a ha;rw[get a ha a ha]at e1;injection e1 with e1
  rw[e1];exact h3.2 rfl
 ·obtain⟨m,n,e1,e2,h3,h4,_⟩:=key a ha b hb;rw[get a ha b hb]at e1;rw[get b hb a ha]at e2;injection e1 with e1
  injection e2 with e2
  rw[e1,e2];exact h4
 ·obtain⟨m,n,e1,e2,h3,h4,h5⟩:=key a ha b hb;rw[get a ha b hb]at e1;injection e1 with e1
  obtain⟨x,hx,a2⟩:=h5 c hc (by omega) ⟨_,get b hb c hc,h2⟩;rw[get a ha c hc]at hx;injection hx with hx
  omega
theorem TotF.sub{f:α->α->Option Int}{l l':List α}(T:TotF f l)(h:∀x∈l',x∈l):TotF f l' :=
 ⟨fun a ha b hb=>T.get a (h a ha) b (h b hb),fun a ha b hb=>T.zero a (h a ha) b (h b hb),fun a ha=>T.self a (h a ha),fun a ha b hb=>T.swap a (h a ha) b (h b hb),fun a ha b hb c hc=>T.trans a (h a ha) b (h b hb) c (h c hc)⟩
def NGt(f:α->α->Option Int)(a b:α):Prop:=¬cfv f b a<0
theorem TotF.ngt_trans{f:α->α->Option Int}{l:List α}(T:TotF f l){a b c:α}(ha:a∈l)(hb:b∈l)(hc:c∈l)(h1:NGt f a b)(h2:NGt f b c):NGt f a c:=by
 intro h3;have s1:=T.swap a ha b hb;have s2:=T.swap b hb c hc;have s3:=T.swap c hc a ha;have t1:=T.swap b hb a ha;have t2:=T.swap c hc b hb;unfold NGt at h1 h2;by_cases e1:cfv f b a=0
 ·have:=T.zero b hb a ha e1;subst this;exact h2 h3
 ·by_cases e2:cfv f c b=0
  ·have:=T.zero c hc b hb e2;subst this;exact h1 h3
  ·have h4:cfv f a b<0:=s1.2 (by omega);have h5:=T.trans c hc a ha b hb h3 h4;exact h2 h5
theorem insF_le{f:α->α->Option Int}{x y:α}{l:List α}{m:Int}(h:f x y=some m)(hm:m<=0):insF f x (y::l)=x::y::l:=by
 simp[insF,h,hm]
theorem insF_gt{f:α->α->Option Int}{x y:α}{l:List α}{m:Int}(h:f x y=some m)(hm:¬m<=0):insF f x (y::l)=y::insF f x l:=by
 simp[insF,h,hm]
theorem zvy(f:α->α->Option Int)(x:α):∀l:List α,(insF f x l).Perm (x::l)
 |[]=>List.Perm.refl _
 |y::l=>by
  cases h:f x y with
  |none=>simp[insF,h]
  |some m =>
   by_cases hm:m<=0
   ·rw[insF_le h hm]
   ·rw[insF_gt h hm];exact((zvy f x l).cons y).trans (List.Perm.swap x y l)
theorem zex(f:α->α->Option Int):∀l:List α,(zhs f l).Perm l
 |[]=>List.Perm.refl _
 |x::l=>(zvy f x _).trans ((zex f l).cons x)
theorem zwk{f:α->α->Option Int}{x:α}:∀{l:List α},TotF f (x::l)->l.Pairwise (NGt f)->(insF f x l).Pairwise (NGt f)
 |[],_,_=>ye8 _ _
 |y::l,T,h=>by
  have hx:x∈x::y::l:=by simp
  have hy:y∈x::y::l:=by simp
  have hc:=yb0.1 h;by_cases hd:cfv f x y<=0
  ·rw[insF_le (T.get x hx y hy) hd]
   have a3:NGt f x y:=fun h0=>by
    have:=(T.swap y hy x hx).1 h0;omega
   exact yb0.2 ⟨fun z hz=>by
    rcases yap.1 hz with rfl|a2
    ·exact a3
    ·exact T.ngt_trans hx hy (by simp[a2]) a3 (hc.1 z a2),h⟩
  ·rw[insF_gt (T.get x hx y hy) hd];have a4:NGt f y x:=by unfold NGt;omega
   refine yb0.2 ⟨fun z hz=>?_,zwk (T.sub fun z hz=>?_) hc.2⟩
   ·rcases yap.1 ((zvy f x l).mem_iff.1 hz) with rfl|a2
    ·exact a4
    ·exact hc.1 z a2
   ·rcases yap.1 hz with rfl|a2
    ·simp
    ·simp[a2]
theorem zkj{f:α->α->Option Int}:∀{l:List α},TotF f l->(zhs f l).Pairwise (NGt f)
 |[],_=>List.Pairwise.nil
 |x::l,T=>zwk (T.sub fun z hz=>by
   rcases yap.1 hz with rfl|hz'
   ·simp
   ·exact yaj _ ((zex f l).mem_iff.1 hz')) (zkj (T.sub fun z hz=>yaj _ hz))
theorem zwe{f:α->α->Option Int}:∀{l1 l2:List α},TotF f l1->l1.Perm l2->l1.Pairwise (NGt f)->l2.Pairwise (NGt f)->l1=l2
 |[],l2,_,hp,_,_=>(List.nil_perm.1 hp).symm
 |x::l1,[],_,hp,_,_=>absurd hp.length_eq (by simp)
 |x::l1,y::l2,T,hp,h1,h2=>by
  have p1:=yb0.1 h1;have p2:=yb0.1 h2;have hx:x∈x::l1:=by simp
  have hy:y∈x::l1:=hp.mem_iff.2 (by simp)
  have e:x=y:=by
   rcases yap.1 hy with e|a5
   ·exact e.symm
   ·have a4:=p1.1 y a5;rcases yap.1 (hp.mem_iff.1 hx) with e|a2
    ·exact e
    ·have a3:=p2.1 x a2;have s1:=T.swap y hy x hx;have s2:=T.swap x hx y hy;unfold NGt at a4 a3;exact T.zero x hx y hy (by omega)
  subst e;rw[zwe (T.sub fun z hz=>yaj _ hz) (List.Perm.cons_inv hp) p1.2 p2.2]
end plain
section model
variable {α:Type}
def CmpG(P:Program)(g:FuncId)(X:α->IV)(f:α->α->Option Int):Prop :=
 ∀(W:World) (S:Nat->Prop) (u u':Value) (x y:α) (r:Int),f x y=some r->RepI W S u (X x)->RepI W S u' (X y) ->
  Calls P g #[u,u'] W fun e w'=>e=.returned (.int .i64 r)∧∃q os,w'=Sort.grow (W.drewN q) os
def El(w:World)(S:Nat->Prop)(k:Nat)(c:α->List IV)(l:List α):Type:={ p:List Value×α // p.1.length=k∧(∀v∈p.1,v.oneCell'=true)∧zlc w S p.1 (c p.2)∧p.2∈l }
variable {w:World}{S:Nat->Prop}{k:Nat}{c:α->List IV}{l:List α}
def El.enc(x:El w S k c l):List Value:=x.val.1
def El.wd(x:El w S k c l):α:=x.val.2
def El.of(us:List Value)(x:α)(h1:us.length=k)(h2:∀v∈us,v.oneCell'=true)(h3:zlc w S us (c x))(h4:x∈l):El w S k c l:=⟨(us,x),h1,h2,h3,h4⟩
theorem el_list(hk:∀x,(c x).length=k):∀(l0:List α) (us:List Value),(∀x∈l0,x∈l)->us.length=(l0.map c).flatten.length->(∀u∈us,u.oneCell'=true) ->
  (∀(i:Nat) u x,us[i]?=some u->(l0.map c).flatten[i]?=some x->RepI w S u x)->∃zs:List (El w S k c l),(zs.map El.enc).flatten=us∧zs.map El.wd=l0
 |[],us,_,hl,_,_=>⟨[],(yaq hl).symm,rfl⟩
 |x::l0,us,hm,hl,h1,hr=>by
  rw[yat,ybm]at hl hr;rw[zkJ,hk]at hl
  obtain⟨zs,e1,e2⟩:=el_list hk l0 (us.drop k) (fun y hy=>hm y (yaj _ hy)) (by rw[ya8];omega) (fun u hu=>h1 u (ybg hu)) fun i u y hu hy=>by
   rw[ybj]at hu;refine hr (k+i) u y hu ?_;rw[yay,if_neg (by rw[hk];omega),hk]
   rwa [yc7]
  have hx1:(us.take k).length=k:=by rw[yaf];omega
  have a3:∀v∈us.take k,v.oneCell'=true:=fun u hu=>h1 u (ya3 hu)
  have a2:zlc w S (us.take k) (c x):=⟨by rw[hx1,hk],fun i u y hu hy=>by
   have hi:i<k:=by
    rw[<- hk x]
    exact(zkI.1 hy).1
   rw[ya7,if_pos hi]at hu
   exact hr i u y hu (by rw[yay,if_pos (by rw[hk];exact hi)];exact hy)⟩
  refine⟨El.of (us.take k) x hx1 a3 a2 (hm x (by simp))::zs,?_,?_⟩
  ·rw[yat,ybm,e1];exact ydd k us
  ·rw[yat,e2];rfl
theorem el_swo{f:α->α->Option Int}(T:TotF f l):SWO (ltOf fun x y:El w S k c l=>cfv f x.wd y.wd) where
 irrefl x:=by
  have:=T.self x.wd x.property.2.2.2;simp[ltOf,this]
 trans x y z h1 h2:=by
  simp only[ltOf,decide_eq_true_eq]at *;exact T.trans _ x.property.2.2.2 _ y.property.2.2.2 _ z.property.2.2.2 h1 h2
 ntrans x y z h1 h2:=by
  simp only[ltOf,decide_eq_false_iff_not]at *;exact T.ngt_trans z.property.2.2.2 y.property.2.2.2 x.property.2.2.2 h2 h1
def SortC(P:Program)(sg:FuncId)(k:Nat)(mk:List Value->Value):Prop :=
 (∀(p:Option Addr) (cap:Nat) (fv:Value) (w:World),Calls P sg #[.slice p 0 cap,fv] w fun e w'=>e=.returned (.tuple #[])∧w'=w) ∧
 ∀(E:Type) [Inhabited E] (enc:E->List Value) (cf:E->E->Int) (g blk cap:Nat) (d:Array E) (w:World),(∀x,(enc x).length=k)->(∀x,∀v∈enc x,v.oneCell'=true)->SWO (ltOf cf) ->
  (∀args w,(callFunc g args).run P w=.ok (.enter g args) w) ->
  (∀(m:Nat) (os:Array Obj) (dk:Array E),dk.size=d.size->∀x y:E,Calls P g #[mk (enc x),mk (enc y)] (Sort.grow (putRow id (Sort.ahead w m) blk 0 (Go.Sort.flatK enc k dk)) os) fun e w' =>
   e=.returned (.int .i64 (cf x y))∧∃q os',w'=Sort.grow ((Sort.grow (putRow id (Sort.ahead w m) blk 0 (Go.Sort.flatK enc k dk)) os).drewN q) os') ->
  Go.Sort.Holds id w blk 0 (Go.Sort.flatK enc k d)->blk<w.heap.size->d.size<4611686018427387904 ->
  Calls P sg #[.slice (some ⟨blk,0,none⟩) d.size cap,.func (.func g) #[] #[]] w fun e w' =>
   e=.returned (.tuple #[])∧∃d' n os,PermIn 0 d.size d d'∧SortedIn (ltOf cf) 0 d.size d'∧w'=Sort.grow (putRow id (Sort.ahead w n) blk 0 (Go.Sort.flatK enc k d')) os
theorem perm_of_in'{β:Type}[Inhabited β]{d d':Array β}(h:PermIn 0 d.size d d'):d'.toList.Perm d.toList:=by
 obtain⟨hs,_,hp⟩:=h;have e1:d'.extract 0 d.size=d':=by rw[<- hs];simp
 have e2:d.extract 0 d.size=d:=by simp
 rwa [e1,e2]at hp
theorem zwz{β:Type}[Inhabited β]{lt:β->β->Bool}{d:Array β}{n:Nat}(hn:d.size=n)(h:SortedIn lt 0 n d):d.toList.Pairwise fun a b=>lt b a=false:=by
 rw[ya4];intro i j hi hj a2;have:=h i j (yag _) a2 (by rw[<- hn];simpa using hj);simp at hi hj;simpa[getElem!_pos,hi,hj]using this
theorem zyz{β:Type}[Inhabited β]{enc:β->List Value}{k:Nat}(hk:∀x,(enc x).length=k)(d:Array β):Go.Sort.flatK enc k d=(d.toList.map enc).flatten.toArray:=by
 have hl:((d.toList.map enc).flatten).length=d.size*k:=by
  rw[zbi (k:=k) fun x hx=>by obtain⟨y,_,rfl⟩:=yae.1 hx;exact hk y];simp
 refine ext_get! (by simp[hl]) fun t ht=>?_;rw[size_flatK]at ht;rw[get_flatK _ _ _ t ht]
 have k0:0<k:=by
  rcases ycf k with h|h
  ·subst h;simp at ht
  ·exact h
 have hq:t / k<d.size:=Nat.div_lt_of_lt_mul (by rwa [yea]at ht);have hm:t%k<k:=yez _ k0;have hg:=flat_get (es:=d.toList.map enc) (i:=t / k) (j:=t%k) (e:=enc (d[t / k]'hq)) (fun x hx=>by obtain⟨y,_,rfl⟩:=yae.1 hx;exact hk y) (by simp[hq]) hm;rw[show t / k*k+t%k=t by rw[yea];exact yep t k]at hg;have a2:t%k<(enc (d[t / k]'hq)).length:=by rw[hk];exact hm
 rw[zkM a2,zkM (by rw[hl];exact ht)]at hg;injection hg with hg
 rw[getElem!_pos d _ hq,getElem!_pos (enc (d[t / k]'hq)) (t%k) a2,getElem!_pos ((d.toList.map enc).flatten.toArray) t (by simpa[hl]using ht)];simpa using hg.symm
theorem own_put{w:World}{base:Nat}{e:TypeId}{g n cap k q:Nat}{us us':List Value}{os:Array Obj}(h:w.ownsRow base e k (.slice (some ⟨g,0,none⟩) n cap) n us)(hl:us'.length=n*k) :
  (Sort.grow (putRow id (Sort.ahead w q) g 0 us'.toArray) os).ownsRow base e k (.slice (some ⟨g,0,none⟩) n cap) n us':=by
 rcases h.2 with⟨e0,_⟩|⟨g',a4,cur,e0,hb,hg,hn,hm,hs,ht⟩
 ·cases e0
 ·injection e0 with e1 _ e3
  injection e1 with e1
  injection e1 with e1
  subst e1;subst e3
  have a3:g<w.heap.size:=by
   rcases ya6 g w.heap.size with h'|h'
   ·exact h'
   ·rw[yed h']at hg;cases hg
  refine⟨hl,.inr ⟨g,cap,putCells id 0 us'.toArray cur,rfl,hb,?_,hn,hm,by simpa[putCells]using hs,?_⟩⟩
  ·have:g<(putRow id (Sort.ahead w q) g 0 us'.toArray).heap.size:=by simpa[putRow,mapBlock,Sort.ahead]using a3
   simp only[Sort.grow,Array.getElem?_append,if_pos this];simp[putRow,mapBlock,Sort.ahead,ydy,hg,onCells]
  ·have a5:n*k<=cap*k:=ybz k hn;apply yc5;intro j;rw[ya7,yaz];by_cases hj:j<n*k
   ·have a2:j<cur.size:=by omega
    rw[if_pos hj];simp only[putCells,Array.getElem?_mapIdx,yc2 a2,yav];rw[if_pos (by simp;omega),zkM (by omega)];simp[getElem!_pos,show j<us'.length by omega]
   ·rw[if_neg hj,yb6 (by omega)]
theorem holds_own{w:World}{base:Nat}{e:TypeId}{g n cap k:Nat}{us:List Value}(h:w.ownsRow base e k (.slice (some ⟨g,0,none⟩) n cap) n us):Go.Sort.Holds id w g 0 us.toArray:=by
 rcases h.2 with⟨e0,_⟩|⟨g',a4,cur,e0,hb,hg,hn,hm,hs,ht⟩
 ·cases e0
 ·injection e0 with e1 _ e3
  injection e1 with e1
  injection e1 with e1
  subst e1;subst e3;intro j hj;have a2:j<us.length:=by simpa using hj
  have a3:j<n*k:=by rw[<- h.1];exact a2
  have a5:n*k<=cap*k:=ybz k hn;have a6:j<cur.size:=by omega
  have e1:(cur.toList.take (n*k))[j]?=us[j]?:=by rw[ht]
  rw[ya7,if_pos a3,yaz,zkM a2]at e1;refine⟨?_,by simp[World.frozen?,hg]⟩;simp only[World.cell?,hg,yah,ydr,Bool.false_eq_true,if_false];rw[e1];simp[getElem!_pos,a2]
theorem put_block{w:World}{g q:Nat}{F:Array Value}{os:Array Obj}{b:Nat}(hb:b<w.heap.size)(hne:b≠g):(Sort.grow (putRow id (Sort.ahead w q) g 0 F) os).heap[b]?=w.heap[b]?:=by
 have:b<(putRow id (Sort.ahead w q) g 0 F).heap.size:=by simpa[putRow,mapBlock,Sort.ahead]using hb
 simp only[Sort.grow,Array.getElem?_append,if_pos this];simp[putRow,mapBlock,Sort.ahead,ydy,Ne.symm hne]
theorem put_cell{w:World}{g q:Nat}{F:Array Value}{os:Array Obj}{p:Addr}{u:Value}(hne:p.block≠g)(h:w.cell? p=some u):(Sort.grow (putRow id (Sort.ahead w q) g 0 F) os).cell? p=some u:=by
 have a2:=World.block_lt_of_cell? w _ h;unfold World.cell? at h ⊢;rw[put_block a2 hne];exact h
theorem zy7[DecidableEq α]{P:Program}{sg:FuncId}{mk:List Value->Value}{t:TypeId}{X:α->IV}(he:∀args w,(callFunc sg args).run P w=.ok (.enter sg args) w)(C:SortC P sg k mk)(hk0:0<k)(hk:∀x,(c x).length=k)
  (hX:∀(W:World) (S:Nat->Prop) us x,us.length=k->(∀v∈us,v.oneCell'=true)->zlc W S us (c x)->RepI W S (mk us) (X x))
  {f:α->α->Option Int} {g:FuncId} (eg:∀args w,(callFunc g args).run P w=.ok (.enter g args) w) (hg:CmpG P g X f) {l r:List α} (h:ztu l f=some r) :
  Sp P sg [.lent (.row t k (l.map c)),.im (.fn g [])] (.mk true [] [.lent (.row t k (r.map c))]):=by
 obtain⟨e7,h⟩:=zaj h;cases hT:totB f l with
 |false=>rw[hT]at h;cases h
 |true =>
 rw[hT]at h;injection h with h
 subst h;have T:=totB_iff hT;refine⟨he,fun w S vs F hS hv hn hF=>?_⟩
 match vs,hv with
 |[v,u],⟨F1,F2,⟨hv1,inn,hrow,e1⟩,⟨F3,F4,⟨h4,e2⟩,h5,e3⟩,e4⟩ =>
  have h5:F4=[]:=h5;have e1:F1=(zbg v).toList:=e1;subst e1 e2 h5 e3;have e4:F=(zbg v).toList:=by rw[e4];simp
  subst e4;obtain⟨us,_,_,b4,a2,b7,h1,hr⟩:=hrow;rw[zkK]at a2 b4
  have hu:u=.func (.func g) #[] #[]:=by
   generalize hx:IV.fn g []=x at h4;cases h4 with
   |fn f us cs hl hr =>
    injection hx with e6 d7
    subst e6 d7;have:=yaq hl;subst this;rfl
   |_=>cases hx
  subst hu
  have c0:∀(w':World) (a6:List Value),w'.ownsRow 0 t k v l.length a6->a6.length=((zhs f l).map c).flatten.length->(∀u∈a6,u.oneCell'=true) ->
    Belo (fun b=>b∈(zbg v).toList) w.heap.size w w'->(∀(i:Nat) u x,a6[i]?=some u->((zhs f l).map c).flatten[i]?=some x->RepI w' (fun b=>(S b∨w.heap.size<=b∨b∈(zbg v).toList)∧b<w'.heap.size∧b∉(zbg v).toList) u x) ->
    ∃(v1:Value) (F':List Nat),Ending.returned (.tuple #[])=.returned v1∧Belo (fun b=>b∈(zbg v).toList) w.heap.size w w' ∧
     zyp w' (fun b=>(S b∨w.heap.size<=b∨b∈(zbg v).toList)∧b<w'.heap.size∧b∉F') v1 (bxVs [v,.func (.func g) #[] #[]] [.lent (.row t k (l.map c)),.im (.fn g [])]) (.mk true [] [.lent (.row t k ((zhs f l).map c))]) F'∧F'.Nodup∧∀b∈F',(w.heap.size<=b∨b∈(zbg v).toList)∧b<w'.heap.size:=by
   intro w' a6 ho e5 d8 hb d9;refine⟨_,(zbg v).toList,rfl,hb,⟨[],[],(zbg v).toList,rfl,rfl,⟨(zbg v).toList,[],⟨hv1,inn,⟨a6,hk0,fun x hx=>?_,?_,?_,e5,d8,d9⟩,rfl⟩,rfl,by simp⟩,by simp⟩,hn,fun b b2=>⟨.inr b2,ycm (hF b b2).2 hb.size⟩⟩
   ·obtain⟨y,_,rfl⟩:=yae.1 hx;exact hk y
   ·rw[zkK,(zex f l).length_eq];exact b4
   ·rw[zkK,(zex f l).length_eq];exact ho
  by_cases b3:v=.slice none 0 0
  ·subst b3
   have a5:l.length=0:=by
    rcases a2.2 with⟨_,h0⟩|⟨_,_,_,e,_⟩
    ·exact h0
    ·cases e
   have a5:l=[]:=yaq a5;subst a5;refine(C.1 none 0 _ w).mono ?_;rintro e w' ⟨rfl,rfl⟩;have b5:us=[]:=yaq (by rw[b7];rfl);subst b5;exact c0 w' [] a2 rfl (fun u hu=>by cases hu) (Belo.refl _ _ _) fun i u x hu=>by simp at hu
  ·obtain⟨blk,cap,rfl⟩:∃blk cap,v=.slice (some ⟨blk,0,none⟩) l.length cap:=by
    rcases a2.2 with⟨e0,_⟩|⟨g,cap,cur,e,_⟩
    ·exact absurd e0 b3
    ·exact⟨g,cap,e⟩
   have d1:blk<w.heap.size:=(hF blk (by simp[zbg])).2;have b0:¬S blk:=(hF blk (by simp[zbg])).1;obtain⟨zs,d3,b8⟩:=el_list (w:=w) (S:=S) (l:=l) hk l us (fun x hx=>hx) b7 h1 hr;by_cases a5:l=[]
   ·subst a5;refine(C.1 (some ⟨blk,0,none⟩) cap _ w).mono ?_;rintro e w' ⟨rfl,rfl⟩;have b5:us=[]:=yaq (by rw[b7];rfl);subst b5;exact c0 w' [] a2 rfl (fun u hu=>by cases hu) (Belo.refl _ _ _) fun i u x hu=>by simp at hu
   ·have d6:zs.length=l.length:=by have:=congrArg List.length b8;simpa using this
    obtain⟨z0,e9⟩:∃z,z∈zs:=by
     cases zs with
     |nil=>exact absurd (by simpa using b8.symm) a5
     |cons z zs=>exact⟨z,by simp⟩
    haveI:Inhabited (El w S k c l):=⟨z0⟩
    have a4:∀x:El w S k c l,(El.enc x).length=k:=fun x=>x.property.1;have a7:∀d:Array (El w S k c l),Go.Sort.flatK El.enc k d=(d.toList.map El.enc).flatten.toArray:=zyz a4
    have a9:=C.2 (El w S k c l) El.enc (fun x y=>cfv f x.wd y.wd) g blk cap zs.toArray w a4 (fun x=>x.property.2.1) (el_swo T) eg (fun m os dk _ x y=>by
      refine hg _ S _ _ x.wd y.wd _ (T.get _ x.property.2.2.2 _ y.property.2.2.2) (hX _ _ _ _ x.property.1 x.property.2.1 ⟨x.property.2.2.1.1,fun i u z hu hz=>?_⟩) (hX _ _ _ _ y.property.1 y.property.2.1 ⟨y.property.2.2.1.1,fun i u z hu hz=>?_⟩)
      ·exact(x.property.2.2.1.2 i u z hu hz).mono (fun _ h=>h) fun p u hp hu=>put_cell (fun e=>b0 (by rw[<- e];exact hp)) hu
      ·exact(y.property.2.2.1.2 i u z hu hz).mono (fun _ h=>h) fun p u hp hu=>put_cell (fun e=>b0 (by rw[<- e];exact hp)) hu)
     (by rw[a7];show Go.Sort.Holds id w blk 0 ((zs.map El.enc).flatten).toArray;rw[d3];exact holds_own a2) d1 (by simp;omega)
    have c6:zs.toArray.size=l.length:=by simpa using d6
    rw[c6]at a9;refine a9.mono ?_;rintro e w' ⟨rfl,d',n,os,hp,hs,rfl⟩;have b9:d'.size=l.length:=by rw[hp.1];exact c6
    have b6:=perm_of_in' (d:=zs.toArray) (by rw[c6];exact hp);have d5:=zwz b9 hs
    have d4:d'.toList.map El.wd=zhs f l:=by
     have c9:(d'.toList.map El.wd).Perm l:=(b6.map El.wd).trans (List.Perm.of_eq b8);refine zwe (T.sub fun x hx=>c9.mem_iff.1 hx) (c9.trans (zex f l).symm) ?_ (zkj T);rw[ydf];refine d5.imp fun {a b} hab=>?_;have d0:¬cfv f b.wd a.wd<0:=by simpa only[ltOf,decide_eq_false_iff_not]using hab
     exact d0
    rw[a7]
    have a3:((d'.toList.map El.enc).flatten).length=l.length*k:=by
     rw[zbi (k:=k) fun x hx=>by obtain⟨y,_,rfl⟩:=yae.1 hx;exact a4 y];simp[b9]
    have c7:((zhs f l).map c).flatten.length=l.length*k:=by
     rw[zbi (k:=k) fun x hx=>by obtain⟨y,_,rfl⟩:=yae.1 hx;exact hk y,zkK,(zex f l).length_eq]
    refine c0 _ _ (own_put a2 a3) (by rw[a3,c7]) (fun u hu=>?_) ⟨rfl,rfl,rfl,?_,fun b hb d2=>put_block hb fun e=>d2 (by simp[zbg,e])⟩ fun i u x hu hx=>?_
    ·obtain⟨e8,h2,h3⟩:=ycz.1 hu;obtain⟨y,_,rfl⟩:=yae.1 h2;exact y.property.2.1 u h3
    ·simp[Sort.grow,putRow,mapBlock,Sort.ahead]
    ·have hi:i<l.length*k:=by rw[<- a3];exact(zkI.1 hu).1
     have hq:i / k<l.length:=Nat.div_lt_of_lt_mul (by rwa [yea]at hi);have hm:i%k<k:=yez _ hk0;have c8:i / k*k+i%k=i:=by rw[yea];exact yep i k
     have a8:i / k<d'.size:=by rw[b9];exact hq
     have g1:=flat_get (es:=d'.toList.map El.enc) (i:=i / k) (j:=i%k) (e:=El.enc (d'[i / k]'a8)) (fun x hx=>by obtain⟨y,_,rfl⟩:=yae.1 hx;exact a4 y) (by simp[a8]) hm;have g2:=flat_get (es:=(zhs f l).map c) (i:=i / k) (j:=i%k) (e:=c (El.wd (d'[i / k]'a8))) (fun x hx=>by obtain⟨y,_,rfl⟩:=yae.1 hx;exact hk y) (by rw[<- d4];simp[a8]) hm;rw[c8,hu]at g1;rw[c8,hx]at g2;refine((d'[i / k]'a8).property.2.2.1.2 _ _ _ g1.symm g2.symm).mono (fun b hb=>⟨.inl hb,?_,?_⟩) fun p u hp hu=>put_cell (fun e=>b0 (by rw[<- e];exact hp)) hu
     ·have:w.heap.size<=(Sort.grow (putRow id (Sort.ahead w n) blk 0 ((d'.toList.map El.enc).flatten).toArray) os).heap.size:=by simp[Sort.grow,putRow,mapBlock,Sort.ahead]
      exact ycm (hS b hb) this
     ·intro b2;have:b=blk:=by simpa[zbg]using b2
      subst this;exact b0 hb
end model
end
end Go.Proofs.YtfgajaakmmogkaaGreatDoor.Sym
namespace Go.Proofs.YtfgajaakmmogkaaGreatDoor
def zj9(d:Nat):UInt8:=if d<10 then UInt8.ofNat (48+d) else UInt8.ofNat (87+d)
def digsF:Nat->Nat->List UInt8
 |0,u=>[zj9 u]
 |f+1,u=>if u<36 then [zj9 u] else digsF f (u / 36)++[zj9 (u%36)]
theorem zzf:∀(f g u:Nat),u<=f->u<=g->digsF f u=digsF g u
 |0,0,_,_,_=>rfl
 |0,g+1,u,h,_=>by
  have h0:u=0:=by omega
  subst h0;rfl
 |f+1,0,u,_,h=>by
  have h0:u=0:=by omega
  subst h0;rfl
 |f+1,g+1,u,h1,h2=>by
  unfold digsF;by_cases h:u<36
  ·rw[if_pos h,if_pos h]
  ·rw[if_neg h,if_neg h,zzf f g (u / 36) (by omega) (by omega)]
def digs(u:Nat):List UInt8:=digsF u u
theorem zi6{u:Nat}(h:u<36):digs u=[zj9 u]:=by
 unfold digs;cases u with
 |zero=>rfl
 |succ u=>unfold digsF;rw[if_pos h]
theorem zsx{u:Nat}(h:36<=u):digs u=digs (u / 36)++[zj9 (u%36)]:=by
 obtain⟨v,rfl⟩:∃v,u=v+1:=⟨u-1,by omega⟩;show digsF (v+1) (v+1)=digsF ((v+1) / 36) ((v+1) / 36)++[zj9 ((v+1)%36)];rw[digsF,if_neg (by omega),zzf v ((v+1) / 36) ((v+1) / 36) (by omega) (Nat.le_refl _)]
theorem digs_len:∀(k u:Nat),u<36^(k+1)->(digs u).length<=k+1
 |0,u,h=>by rw[zi6 (by simpa using h)];simp
 |k+1,u,h=>by
  by_cases h1:u<36
  ·rw[zi6 h1];simp
  ·rw[zsx (by omega),List.length_append];have:=digs_len k (u / 36) (by rw[Nat.div_lt_iff_lt_mul (by omega),<- Nat.pow_succ];exact h);simp;omega
theorem zzc{u:Nat}(h:u<18446744073709551616):(digs u).length<=13 :=
 digs_len 12 u (Nat.lt_of_lt_of_le h (by decide))
theorem digs_pos(u:Nat):0<(digs u).length:=by
 by_cases h1:u<36
 ·rw[zi6 h1];simp
 ·rw[zsx (by omega)];simp
def undig(c:UInt8):Nat:=if c.toNat<58 then c.toNat-48 else c.toNat-87
theorem undig_dig{d:Nat}(h:d<36):undig (zj9 d)=d:=by
 have:∀d:Fin 36,undig (zj9 d.1)=d.1:=by decide
 exact this ⟨d,h⟩
theorem dig_char{d:Nat}(h:d<36):48<=(zj9 d).toNat:=by
 have:∀d:Fin 36,48<=(zj9 d.1).toNat:=by decide
 exact this ⟨d,h⟩
def undigs(l:List UInt8):Nat:=l.foldl (fun n c=>n*36+undig c) 0
theorem zvu(u:Nat):undigs (digs u)=u:=by
 induction u using Nat.strongRecOn with
 |_ u ih =>
  by_cases h1:u<36
  ·rw[zi6 h1];simp[undigs,undig_dig h1]
  ·rw[zsx (by omega),undigs,List.foldl_append];have:=ih (u / 36) (by omega);rw[undigs]at this;simp only[List.foldl_cons,List.foldl_nil,this,undig_dig (Nat.mod_lt u (by omega))];omega
theorem digs_inj{u v:Nat}(h:digs u=digs v):u=v:=by rw[<- zvu u,h,zvu]
theorem zoe(u:Nat):∀c∈digs u,48<=c.toNat:=by
 induction u using Nat.strongRecOn with
 |_ u ih =>
  by_cases h1:u<36
  ·rw[zi6 h1];intro c hc;simp at hc;rw[hc];exact dig_char h1
  ·rw[zsx (by omega)];intro c hc;rw[List.mem_append]at hc;rcases hc with hc|hc
   ·exact ih (u / 36) (by omega) c hc
   ·simp at hc;rw[hc];exact dig_char (Nat.mod_lt u (by omega))
def zn1(a:Int):List UInt8:=if a<0 then 45::digs a.natAbs else digs a.natAbs
theorem zzn(a:Int):∀c∈zn1 a,c≠32:=by
 intro c hc e;subst e;unfold zn1 at hc;split at hc
 ·simp only[List.mem_cons]at hc;rcases hc with hc|hc
  ·exact absurd hc (by decide)
  ·have:=zoe _ _ hc;exact absurd this (by decide)
 ·have:=zoe _ _ hc;exact absurd this (by decide)
theorem enc36_inj{a b:Int}(h:zn1 a=zn1 b):a=b:=by
 have a2:∀u v:Nat,45::digs u≠digs v:=fun u v e=>by
  have:=zoe v 45 (by rw[<- e];simp);exact absurd this (by decide)
 unfold zn1 at h;split at h<;>split at h
 ·injection h with _ h
  have:=digs_inj h;omega
 ·exact absurd h (a2 _ _)
 ·exact absurd h.symm (a2 _ _)
 ·have:=digs_inj h;omega
theorem enc36_len{a:Int}(h1:-9223372036854775808<=a)(h2:a<=9223372036854775807):(zn1 a).length<=14:=by
 have:=zzc (u:=a.natAbs) (by omega);unfold zn1;split<;>simp<;>omega
def keyL:List Int->List UInt8
 |[]=>[]
 |a::xs=>zn1 a++32::keyL xs
theorem zx6:∀xs ys:List Int,keyL (xs++ys)=keyL xs++keyL ys
 |[],_=>rfl
 |a::xs,ys=>by simp[keyL,zx6 xs ys]
theorem split_at{c:UInt8}:∀{xs ys rs ss:List UInt8},(∀d∈xs,d≠c)->(∀d∈ys,d≠c)->xs++c::rs=ys++c::ss->xs=ys∧rs=ss
 |[],[],rs,ss,_,_,h=>by simpa using h
 |[],y::ys,rs,ss,_,h2,h=>by
  simp at h;exact absurd h.1.symm (h2 y (by simp))
 |x::xs,[],rs,ss,h1,_,h=>by
  simp at h;exact absurd h.1 (h1 x (by simp))
 |x::xs,y::ys,rs,ss,h1,h2,h=>by
  simp only[List.cons_append,List.cons.injEq]at h;obtain⟨e1,e2⟩:=split_at (fun d hd=>h1 d (by simp[hd])) (fun d hd=>h2 d (by simp[hd])) h.2;exact⟨by rw[h.1,e1],e2⟩
theorem keyL_inj:∀{xs ys:List Int},keyL xs=keyL ys->xs=ys
 |[],[],_=>rfl
 |[],a::ys,h=>by simp[keyL]at h
 |a::xs,[],h=>by simp[keyL]at h
 |a::xs,b::ys,h=>by
  simp only[keyL]at h;obtain⟨e1,e2⟩:=split_at (zzn a) (zzn b) h;rw[enc36_inj e1,keyL_inj e2]
theorem zve:∀{xs:List Int},(∀x∈xs,-9223372036854775808<=x∧x<=9223372036854775807)->(keyL xs).length<=15*xs.length
 |[],_=>by simp[keyL]
 |a::xs,h=>by
  have h1:=zve (xs:=xs) fun x hx=>h x (by simp[hx]);have h2:=h a (by simp);have h3:=enc36_len h2.1 h2.2;simp only[keyL,List.length_append,List.length_cons];omega
theorem Tryz.infoByte:(Tryz.prog.info? 5).map (fun i=>(i.zero,i.size,i.bytes))=some (some (.int .u8 0),1,1):=by kernel_rfl
def zjw(l:List UInt8):List Value:=l.map fun b=>.int .u8 (b.toNat:Int)
theorem zr6(l:List UInt8):(zjw l).length=l.length:=by simp[zjw]
theorem znp(l m:List UInt8):zjw (l++m)=zjw l++zjw m:=by simp[zjw]
theorem bcells_one(l:List UInt8):∀u∈zjw l,u.oneCell'=true:=by
 intro u hu;simp only[zjw,List.mem_map]at hu;obtain⟨b,_,rfl⟩:=hu;rfl
def OwnB(w:World)(base:Nat)(v:Value)(l:List UInt8):Prop:=w.ownsRow base 5 1 v l.length (zjw l)
theorem OwnB.lt{w:World}{base:Nat}{v:Value}{l:List UInt8}(h:OwnB w base v l):∀k,v.ownBlock=some k->base<=k∧k<w.heap.size:=World.ownsRow.lt h
theorem OwnB.nil_(w:World)(base:Nat):OwnB w base (.slice none 0 0) []:=World.ownsRow_nil _ _ _ _
def MoreB(w:World)(base:Nat)(l:List UInt8)(e:Ending)(w':World):Prop:=∃v',e=.returned v'∧OwnB w' base v' l∧Below base w w'
theorem idx36(k:IntKind)(z:Int)(d:Nat)(hz:z=(d:Int))(hd:d<36)(w:World) :
  (Instr.index 9 (.string { data:=#[48,49,50,51,52,53,54,55,56,57,97,98,99,100,101,102,103,104,105,106,107,108,109,110,111,112,113,114,115,116,117,118,119,120,121,122] }) (.int k z)).run Tryz.prog w=.ok (.int .u8 ((zj9 d).toNat:Int)) w:=by
 subst hz;rw[run_index_string w 9 _ k _ Tryz.underlying9,dif_pos ⟨by omega,by show(d:Int)<((36:Nat):Int);omega⟩];have:∀d:Fin 36,(({ data:=#[48,49,50,51,52,53,54,55,56,57,97,98,99,100,101,102,103,104,105,106,107,108,109,110,111,112,113,114,115,116,117,118,119,120,121,122] }:ByteArray)[d.1]'(by show d.1<36;exact d.2))=zj9 d.1:=by decide
 have h:=this ⟨d,hd⟩;simp only[Int.toNat_natCast];rw[h]
def Dig(zs:List Value)(i:Nat)(l:List UInt8):Prop:=zs.length=65∧zs.drop i=zjw l
theorem Dig.push{zs:List Value}{j:Nat}{m:List UInt8}(h:Dig zs (j+1) m)(hj:j<65)(c:UInt8):Dig (zs.set j (.int .u8 (c.toNat:Int))) j (c::m):=by
 obtain⟨h1,h2⟩:=h;refine⟨by simpa using h1,?_⟩;rw[List.drop_eq_getElem_cons (by simp;omega),List.getElem_set_self,List.drop_set_of_lt (by omega),h2];rfl
set_option maxRecDepth 100000 in
set_option maxHeartbeats 1600000 in
theorem zys{B u:Nat}{sv:Value}{l:List UInt8}{w:World}(hu:u<18446744073709551616)(hown:OwnB w B sv l)(hB:B<=w.heap.size)(hl:l.length<=1000000000) :
  Calls Tryz.prog 200 #[sv,.int .u64 u,.int .i64 36,.bool false,.bool true] w (fun e w'=>∃v',e=.returned (.tuple #[v',.string ByteArray.empty])∧OwnB w' B v' (l++digs u)∧Below B w w'):=by
 obtain⟨i0,hi,c8,b7,c6⟩:=info_parts Tryz.infoByte;have a9:=Lib.hid hown;clear hown;have c9:(bits BinOp.and IntKind.i64 36 35==0)=false:=by decide
 go_enter Tryz.func200,Tryz.ntmps200
 go_wp2
 go_loopw [1,13,18] (fun v i _ wr=>∃k j:Nat,∃m:List UInt8,∃zs,v=.int .u64 k∧i=.int .i64 j∧k<18446744073709551616∧j+m.length=65∧Hid (digs k++m=digs u)∧Hid (Dig zs j m)∧wr.ownsRow w.heap.size 239 1 (.slice (some ⟨w.heap.size,0,none⟩) 65 65) 65 zs∧Below w.heap.size w wr) (fun v _ _ _=>(intOf v).toNat)
 case atStart=>exact⟨u,65,[],_,rfl,rfl,hu,rfl,Lib.hid (by simp),Lib.hid ⟨rfl,rfl⟩,World.ownsRow_lit w _ 65 (Nat.le_refl _) (by unfold maxLen;omega) rfl,(Below.refl _ _).alloc (Nat.le_refl _) _⟩
 case round =>
  obtain⟨k,j,m,zs,rfl,rfl,hk,hj,HD,HZ,a3,a6⟩:=hrel
  have d1:m.length<=12:=by
   have h1:=congrArg List.length HD.out;rw[List.length_append]at h1;have h2:=digs_pos k;have h3:=zzc hu;omega
  obtain⟨j,rfl⟩:∃j':Nat,j=j'+1:=⟨j-1,by omega⟩;have b4:j<zs.length:=by rw[HZ.out.1];omega
  have q1:wr.cell? ⟨w.heap.size,j,none⟩=some (zs[j]):=by rw[a3.cellAt j (by omega)];exact List.getElem?_eq_getElem b4
  have q2:wr.frozen? ⟨w.heap.size,j,none⟩=false:=a3.frozenAt j;generalize zs[j]=z0 at q1;have HR:=Lib.hid a3;have HB:=Lib.hid a6;clear a3 a6 b4;by_cases h1:36<=k
  ·have e0:((j+1:Nat):Int)-1=(j:Int):=by omega
   have b8:=fun W=>idx36 .u64 ((k:Int)-(k:Int) / 36*36) (k%36) (by omega) (by omega) W
   go_wp2
   go_roundw
   case rel =>
    obtain⟨s1,s2⟩:=HR.out.stored j (.int .u8 ((zj9 (k%36)).toNat:Int));exact⟨k / 36,j,zj9 (k%36)::m,_,by go_num,rfl,by omega,by simp;omega,Lib.hid (by rw[<- HD.out,zsx h1];simp),Lib.hid (HZ.out.push (by omega) _),s1,HB.out.grown s2 HB.out.size (fun g e=>by injection e with e;omega)⟩
   case measure=>simp[intOf]<;>omega
  ·have e0:((j+1:Nat):Int)-1=(j:Int):=by omega
   have b8:=fun W=>idx36 .u64 (k:Int) k rfl (by omega) W;have a8:Tryz.prog.arrayLen 239=65:=by simp[Program.arrayLen,Tryz.underlying239]
   have d4:∀W,(Instr.sliceAt 239 (.pointer (some ⟨w.heap.size,0,none⟩)) (some (.int .i64 (j:Int))) none none).run Tryz.prog W=.ok (.slice (some ⟨w.heap.size,j,none⟩) (65-j) (65-j)) W:=fun W=>by
    rw[run_sliceAt_array_l W 239 ⟨w.heap.size,0,none⟩ (by simp[Program.arrayLen,Program.elem,Tryz.underlying239]) .i64 (j:Int) (by omega) (by rw[a8];omega)]
    go_simp
    omega
   obtain⟨s1,s2⟩:=HR.out.stored j (.int .u8 ((zj9 k).toNat:Int));have a5:Below w.heap.size w (wr.setCell ⟨w.heap.size,j,none⟩ (.int .u8 ((zj9 k).toNat:Int))):=HB.out.grown s2 HB.out.size (fun g e=>by injection e with e;omega);have a2:OwnB (wr.setCell ⟨w.heap.size,j,none⟩ (.int .u8 ((zj9 k).toNat:Int))) B sv l:=World.ownsRow.kept a9.out (zy6 a5) (by cases sv.ownBlock<;>simp);have b0:=HZ.out.push (by omega) (zj9 k)
   have b2:Src (wr.setCell ⟨w.heap.size,j,none⟩ (.int .u8 ((zj9 k).toNat:Int))) (some ⟨w.heap.size,j,none⟩) (65-j) (zjw (zj9 k::m)):=by
    refine⟨by rw[zr6];simp;omega,fun _=>⟨_,_,rfl,fun i v hv=>?_⟩⟩;have hi:i<(zjw (zj9 k::m)).length:=(List.getElem?_eq_some_iff.1 hv).1;rw[zr6,List.length_cons]at hi;rw[s1.cellAt (j+i) (by omega),<- hv,<- b0.2,List.getElem?_drop]
   have b5:=bcells_one (zj9 k::m);have b9:l.length+(65-j)<=maxLen:=by unfold maxLen;omega
   have c7:(l.length+(65-j))*1<=140737488355328:=by omega
   have b3:B<=(wr.setCell ⟨w.heap.size,j,none⟩ (.int .u8 ((zj9 k).toNat:Int))).heap.size:=Nat.le_trans hB a5.size
   have a4:zjw l++zjw (zj9 k::m)=zjw (l++digs u):=by
    rw[<- znp,<- HD.out,zi6 (by omega)];rfl
   have b6:l.length+(65-j)=(l++digs u).length:=by
    rw[<- HD.out,zi6 (by omega)];simp;omega
   have HF:=Lib.hid (And.intro a4 b6);have c0:=Lib.hid a5;clear s1 s2 b0 a5 a4 b6 a8;unfold OwnB at a2
   go_wp2_with (at_builtin;refine zi5 rfl (.tmp 95) (.tmp 97) 168 rfl B 5 i0 (.int .u8 0) 1 Tryz.underlying168 hi c8 b7 c6 rfl sv _ _ rfl a2 _ (65-j) (65-j) _ rfl b2 b5 b9 c7 b3 ?_;intro v1 w1 a7 d0 d3)
   go_ret2
   have d2:=a2;refine⟨_,rfl,?_,?_⟩
   ·unfold OwnB;rw[<- HF.out.1,<- HF.out.2];exact a7
   ·exact(c0.out.mono hB).grown d0 b3 fun g e=>(OwnB.lt a2 g e).1
set_option maxRecDepth 100000 in
set_option maxHeartbeats 800000 in
theorem zqe{B u:Nat}{sv:Value}{l:List UInt8}{w:World}(hu:u<18446744073709551616)(hown:OwnB w B sv l)(hB:B<=w.heap.size)(hl:l.length<=1000000000) :
  Calls Tryz.prog 180 #[sv,.int .u64 u,.int .i64 36] w (MoreB w B (l++digs u)):=by
 have a2:=zys hu hown hB hl;clear hown
 go_enter Tryz.func180,Tryz.ntmps180
 go_wp2_with (go_at_call 200;refine a2.mono ?_;rintro e w' ⟨v',rfl,a3,a4⟩)
 go_ret
 exact⟨_,rfl,a3,a4⟩
set_option maxRecDepth 100000 in
set_option maxHeartbeats 800000 in
theorem appendInt_any{B:Nat}{a:Int}{sv:Value}{l:List UInt8}{w:World}(ha1:-9223372036854775808<=a)(ha2:a<=9223372036854775807)(hown:OwnB w B sv l)(hB:B<=w.heap.size)(hl:l.length<=100000000) :
  Calls Tryz.prog 157 #[sv,.int .i64 a,.int .i64 36] w (MoreB w B (l++zn1 a)):=by
 obtain⟨i0,hi,c0,b4,b9⟩:=info_parts Tryz.infoByte;by_cases h1:a<0
 ·have b0:∀t,Src (w.alloc (.cells #[.int .u8 45] t)) (some ⟨w.heap.size,0,none⟩) 1 [.int .u8 45]:=fun t=>src_one w _ t;have b2:∀u∈[Value.int .u8 45],u.oneCell'=true:=by intro u hu;simp at hu;subst hu;rfl
  have a6:∀o,(w.alloc o).ownsRow B 5 1 sv l.length (zjw l):=fun o=>World.ownsRow.alloc hown o;have b6:l.length+1<=maxLen:=by unfold maxLen;omega
  have b7:(l.length+1)*1<=140737488355328:=by omega
  have a8:∀o,B<=(w.alloc o).heap.size:=fun o=>by simp;omega
  have b5:=OwnB.lt hown;have c6:∀o,Below B w (w.alloc o):=fun o=>(Below.refl B w).alloc hB o;have b3:=Lib.hid hown;clear hown;have e1:(zn1 a)=45::digs a.natAbs:=by unfold zn1;rw[if_pos h1]
  have HE:=Lib.hid e1;clear e1
  go_enter Tryz.func157,Tryz.ntmps157
  go_wp2_with (at_builtin;refine zi5 rfl (.tmp 12) (.tmp 13) 168 rfl B 5 i0 (.int .u8 0) 1 Tryz.underlying168 hi c0 b4 b9 rfl sv _ _ rfl (a6 _) _ 1 1 [.int .u8 45] rfl (b0 _) b2 b6 b7 (a8 _) ?_;intro v1 w1 a5 a9 c7)
  have hw:IntKind.u64.wrap (-IntKind.u64.wrap a)=((a.natAbs:Nat):Int):=by
   rw[IntKind.wrap_u64,IntKind.wrap_u64];omega
  rw[hw]
  have a4:OwnB w1 B v1 (l++[45]):=by
   unfold OwnB;rw[znp,List.length_append];exact a5
  have b8:Below B w w1:=(c6 _).grown a9 (a8 _) fun g e=>(b5 g e).1;have a3:=zqe (u:=a.natAbs) (by omega) a4 (Nat.le_trans hB (by have:=a9.size;simp at this;omega)) (by simp;omega);clear a5 a9 c7 a4 a6 b0 a8;refine a3.mono ?_;rintro e w' ⟨v',rfl,a2,a7⟩
  go_wp2
  go_ret
  refine⟨_,rfl,?_,b8.trans a7⟩;rw[HE.out];simpa using a2
 ·have b3:=Lib.hid hown;have e1:(zn1 a)=digs a.natAbs:=by unfold zn1;rw[if_neg h1]
  have hw:IntKind.u64.wrap a=((a.natAbs:Nat):Int):=by
   rw[IntKind.wrap_u64];omega
  have a3:=zqe (u:=a.natAbs) (by omega) hown hB (by omega);clear hown
  go_enter Tryz.func157,Tryz.ntmps157
  go_wp2_with (go_at_call 180;refine a3.mono ?_;rintro e w' ⟨v',rfl,a2,a7⟩)
  go_ret
  exact⟨_,rfl,by rw[e1];exact a2,a7⟩
set_option maxRecDepth 100000 in
theorem zp2{B:Nat}{a:Int}{sv:Value}{l:List UInt8}{w:World}(ha1:-9223372036854775808<=a)(ha2:a<=9223372036854775807)(hown:OwnB w B sv l)(hB:B<=w.heap.size)(hl:l.length<=100000000) :
  Calls Tryz.prog 128 #[sv,.int .i64 a,.int .i64 36] w (MoreB w B (l++zn1 a)):=by
 have a2:=appendInt_any ha1 ha2 hown hB hl;clear hown
 go_enter Tryz.func128,Tryz.ntmps128
 go_wp2_with (go_at_call 157;refine a2.mono ?_;rintro e w' ⟨v',rfl,a3,a4⟩)
 go_ret
 exact⟨_,rfl,a3,a4⟩
theorem keyL_take{xs:List Int}{k:Nat}{x:Int}(h:xs[k]?=some x):keyL (xs.take (k+1))=(keyL (xs.take k)++zn1 x)++[32]:=by
 rw[zbc h,zx6];simp[keyL]
def Rng(x:Int):Prop:=-9223372036854775808<=x∧x<=9223372036854775807
def KeyPost(w:World)(l:List UInt8)(e:Ending)(w':World):Prop:=e=.returned (.string ⟨l.toArray⟩)∧Below w.heap.size w w'
set_option maxRecDepth 100000 in
set_option maxHeartbeats 1600000 in
theorem key_any{A:Option Addr}{n c:Nat}{xs:List Int}{w:World}(hx:zi0 w zqx A n c xs)(hr:∀x∈xs,Rng x)(hn:n<=2000000) :
  Calls Tryz.prog 79 #[.slice A n c] w (KeyPost w (keyL xs)):=by
 have HL:=Lib.hid hx.len;have HR:=Lib.hid hr;obtain⟨i0,hi,d1,b9,c7⟩:=info_parts Tryz.infoByte;clear hr
 go_enter Tryz.func79,Tryz.ntmps79
 go_wp2
 go_loopw [3,5,8] (fun v _ i wr=>∃k:Nat,k<=n∧i=.int .i64 k∧OwnB wr w.heap.size v (keyL (xs.take k))∧Below w.heap.size w wr) (fun _ _ i _=>n-(intOf i).toNat)
 case atStart=>exact⟨0,by omega,rfl,OwnB.nil_ _ _,Below.refl _ _⟩
 case round =>
  obtain⟨k,hk,rfl,a3,a4⟩:=hrel
  have d3:(keyL (xs.take k)).length<=15*k:=by
   have:=zve (xs:=xs.take k) fun x hx=>HR.out x (List.mem_of_mem_take hx);rw[List.length_take]at this;omega
  by_cases h1:k<n
  ·obtain⟨b,o,x,rfl,b2,b8⟩:=hx.int_at h1;have hc:=Keeps.of_below a4 _ _ b8;have a8:=HR.out x (List.mem_of_getElem? b2);have HX:=Lib.hid b2;have HC:=Lib.hid (zp2 a8.1 a8.2 a3 a4.size (by omega));have d2:=enc36_len a8.1 a8.2;have HB:=Lib.hid a4;clear b2 b8 a8 a3 a4;have b6:∀u∈[Value.int .u8 32],u.oneCell'=true:=by intro u hu;simp at hu;subst hu;rfl
   have c0:(keyL (xs.take k)++zn1 x).length+1<=maxLen:=by unfold maxLen;simp;omega
   have d0:((keyL (xs.take k)++zn1 x).length+1)*1<=140737488355328:=by simp;omega
   go_wp2_with (first|(go_at_call 128;refine HC.out.mono ?_;rintro e w1 ⟨v1,rfl,a5,b3⟩;have HH:=Lib.hid (And.intro a5 b3);have b4:=fun t=>src_one w1 (.int .u8 32) t;have a6:=fun o=>World.ownsRow.alloc a5 o;have b0:∀o,w.heap.size<=(w1.alloc o).heap.size:=(fun o=>by have:=HB.out.size;have:=b3.size;simp;omega);clear a5 b3)|(at_builtin;refine zi5 rfl (.tmp 14) (.tmp 15) 168 rfl w.heap.size 5 i0 (.int .u8 0) 1 Tryz.underlying168 hi d1 b9 c7 rfl v1 _ _ rfl (a6 _) _ 1 1 [.int .u8 32] rfl (b4 _) b6 c0 d0 (b0 _) ?_;intro v2 w2 a7 b7 c6))
   have b5:OwnB w2 w.heap.size v2 (keyL (xs.take (k+1))):=by
    unfold OwnB;rw[keyL_take HX.out,znp,List.length_append];exact a7
   have a9:Below w.heap.size w w2:=((HB.out.trans (HH.out.2.mono (Nat.le_refl _))).alloc (by have:=HB.out.size;have:=HH.out.2.size;omega) _).grown b7 (b0 _) fun g e=>(OwnB.lt HH.out.1 g e).1;clear a7 b7 c6 b4 a6 b0
   go_roundw
   case rel=>exact⟨k+1,by omega,by go_num,b5,a9⟩
   case measure=>simp[intOf]<;>omega
  ·rw[List.take_of_length_le (by rw[HL.out];omega)]at a3
   have c8:(convert 168 9 u3).run Tryz.prog wr=.ok (.string ⟨(keyL xs).toArray⟩) wr:=by
    rcases a3.2 with⟨rfl,h0⟩|⟨g,c9,cur,rfl,_,_,_⟩
    ·have a2:keyL xs=[]:=List.eq_nil_of_length_eq_zero h0;rw[a2];exact Lib.run_convert_nil_bytes wr _ _ _ 0 Tryz.underlying168 Tryz.underlying5 Tryz.underlying9
    ·refine run_convert_bytes_back wr _ _ _ ⟨g,0,none⟩ c9 (keyL xs) Tryz.underlying168 Tryz.underlying5 Tryz.underlying9 fun j hj=>?_;rw[a3.cells (g:=g) rfl j (.int .u8 ((keyL xs)[j].toNat:Int)) (by simp[zjw,hj])]
   clear a3
   go_wp2
   go_ret
   exact⟨rfl,a4⟩
end Go.Proofs.YtfgajaakmmogkaaGreatDoor
namespace Go.Proofs.YtfgajaakmmogkaaGreatDoor.Sym
theorem zhd{w:World}{S:Nat->Prop}{v:Value}{l:yab}(h:RepI w S v (nL cI l)):∃A n c,v=.slice A n c∧zi0 w zqx A n c l:=by
 have h:RepI w S v (.sl (l.map cI)):=h;generalize he:l.map cI=es at h;cases h with
 |emp A c =>
  have:l=[]:=by simpa using he
  subst this;exact⟨A,0,c,rfl,rfl,yag _,by omega,fun h=>by omega⟩
 |sl b o c k n _ us hn hk hc hs hS hl h1 hu hr =>
  subst he
  have hf:(l.map cI).flatten=l.map fun x=>nI x:=by
   clear hn hk hl hr h
   induction l with
   |nil=>rfl
   |cons x l ih=>rw[yat,ybm,ih];rfl
  rw[hf]at hl hr;refine⟨_,_,_,rfl,by simpa using hn,hc,hs,fun _=>⟨b,o,rfl,fun i x hx=>?_⟩⟩;have hi:i<us.length:=by rw[hl,zkK];exact(zkI.1 hx).1
  have hg:=zkM hi;refine⟨_,hu i _ hg,?_⟩;have:=hr i _ (nI x) hg (by rw[yan,hx];rfl);generalize us[i]=u at this;cases this with
  |val _=>rfl
def zml(l:yab):Option ByteArray:=chk (∀x∈l,inR x) (chk (l.length<=2000000) (some ⟨(keyL l).toArray⟩))
set_option maxRecDepth 100000 in
theorem zot(l:yab)(r:ByteArray)(h:zml l=some r):Sp Tryz.prog 79 [.im (nL cI l)] (.im (nS r)):=by
 obtain⟨h1,h⟩:=zaj h;obtain⟨h2,h⟩:=zaj h;injection h with h
 subst h;refine⟨fun args w=>zfl rfl rfl rfl args w,fun w S vs F hS hv hn hF=>?_⟩
 match vs,hv with
 |[v],⟨F1,F2,⟨h3,e1⟩,h4,e2⟩ =>
  have h4:F2=[]:=h4;subst e1 h4 e2;obtain⟨A,n,c,rfl,a2⟩:=zhd h3;refine(key_any a2 h1 (by rw[<- a2.1];exact h2)).mono ?_;rintro e w' ⟨rfl,hb⟩;exact⟨_,[],rfl,.of hb,⟨[_],[],[],rfl,⟨[],[],⟨.val _,rfl⟩,rfl,rfl⟩,rfl,rfl⟩,ycq,fun b hb=>by simp at hb⟩
end Go.Proofs.YtfgajaakmmogkaaGreatDoor.Sym
namespace Go.Proofs.YtfgajaakmmogkaaGreatDoor
def cmpI(x y:Int):Int:=if x<y then -1 else if y<x then 1 else 0
theorem zlx(x y:Int)(w:World) :
  Calls Tryz.prog 135 #[.int .i64 x,.int .i64 y] w fun e w'=>e=.returned (.int .i64 (cmpI x y))∧w=w':=by
 by_cases h1:x<y
 ·go_enter Tryz.func135,Tryz.ntmps135
  go_wp2
  go_ret
  exact⟨zl2 (by unfold cmpI;rw[if_pos h1]),rfl⟩
 ·by_cases h2:y<x
  ·go_enter Tryz.func135,Tryz.ntmps135
   go_wp2
   go_ret
   exact⟨zl2 (by unfold cmpI;rw[if_neg (by omega),if_pos h2]),rfl⟩
  ·go_enter Tryz.func135,Tryz.ntmps135
   go_wp2
   go_ret
   exact⟨zl2 (by unfold cmpI;rw[if_neg (by omega),if_neg (by omega)]),rfl⟩
theorem lexI_step{xs ys:List Int}{k:Nat}{x y:Int}(hx:xs[k]?=some x)(hy:ys[k]?=some y) :
  lexI (xs.drop k) (ys.drop k)=if cmpI x y=0 then lexI (xs.drop (k+1)) (ys.drop (k+1)) else cmpI x y:=by
 obtain⟨h1,a3⟩:=List.getElem?_eq_some_iff.1 hx;obtain⟨h2,a2⟩:=List.getElem?_eq_some_iff.1 hy;rw[List.drop_eq_getElem_cons h1,List.drop_eq_getElem_cons h2,a3,a2];simp only[lexI,cmpI];by_cases a:x<y
 ·simp[a]
 ·by_cases b:y<x
  ·simp[a,b]
  ·simp[a,b]
theorem lexI_long{xs ys:List Int}{k:Nat}(h1:k<xs.length)(h2:ys.length<=k):lexI (xs.drop k) (ys.drop k)=1:=by
 rw[List.drop_eq_getElem_cons h1,List.drop_eq_nil_of_le h2];rfl
theorem lexI_end{xs ys:List Int}{k:Nat}(h1:xs.length<=k):lexI (xs.drop k) (ys.drop k)=if k<ys.length then -1 else 0:=by
 rw[List.drop_eq_nil_of_le h1];by_cases h2:k<ys.length
 ·rw[if_pos h2,List.drop_eq_getElem_cons h2];rfl
 ·rw[if_neg h2,List.drop_eq_nil_of_le (by omega)];rfl
set_option maxHeartbeats 800000 in
theorem zmf{A B:Option Addr}{n c m c':Nat}{xs ys:List Int}{w:World}(hx:zi0 w zqx A n c xs)(hy:zi0 w zqx B m c' ys) :
  Calls Tryz.prog 136 #[.slice A n c,.slice B m c'] w fun e w'=>e=.returned (.int .i64 (lexI xs ys))∧w=w':=by
 have hn:=hx.small;have hm:=hy.small;have HL:=Lib.hid (And.intro hx.len hy.len)
 go_enter Tryz.func136,Tryz.ntmps136
 go_wp2
 go_loop [5,6,7,8,11] (fun _ _ _ _ i=>∃k:Nat,k<=n∧k<=m∧i=.int .i64 k∧Hid (lexI xs ys=lexI (xs.drop k) (ys.drop k))) (fun _ _ _ _ i=>n-(intOf i).toNat)
 case atStart=>exact⟨0,by omega,by omega,rfl,Lib.hid (by simp)⟩
 case round =>
  obtain⟨k,hk,a7,rfl,HT⟩:=hrel;by_cases h1:k<n
  ·obtain⟨b,o,x,rfl,a5,a6⟩:=hx.int_at h1;have HX:=Lib.hid a5;clear a5;by_cases h2:k<m
   ·obtain⟨b',o',y,rfl,a4,a8⟩:=hy.int_at h2;have HY:=Lib.hid a4;clear a4;have a2:=lexI_step HX.out HY.out;by_cases h3:cmpI x y=0
    ·rw[if_pos h3]at a2;have a3:=Lib.hid a2;have d3:(cmpI x y != 0)=false:=by simp[h3]
     have H3:=Lib.hid h3;clear h3 a2
     go_wp2_with (go_at_call 135;refine(zlx _ _ _).mono ?_;rintro e w' ⟨rfl,rfl⟩)
     go_round
     case rel=>exact⟨k+1,by omega,by omega,by go_num,Lib.hid (by rw[HT.out,a3.out])⟩
     case measure=>simp[intOf];omega
    ·rw[if_neg h3]at a2;have a3:=Lib.hid a2;have d3:(cmpI x y != 0)=true:=by simp[h3]
     clear h3 a2
     go_wp2_with (go_at_call 135;refine(zlx _ _ _).mono ?_;rintro e w' ⟨rfl,rfl⟩)
     go_ret
     exact⟨zl2 (by rw[HT.out,a3.out]),rfl⟩
   ·go_wp2
    go_ret
    obtain⟨h3,h4⟩:=HL.out;exact⟨zl2 (by rw[HT.out,lexI_long (by omega) (by omega)]),rfl⟩
  ·obtain⟨h3,h4⟩:=HL.out;have HE:=Lib.hid (lexI_end (xs:=xs) (ys:=ys) (k:=k) (by omega));clear h3 h4;by_cases h2:n<m
   ·go_wp2
    go_ret
    obtain⟨h3,h4⟩:=HL.out;exact⟨zl2 (by rw[HT.out,HE.out,if_pos (by omega)]),rfl⟩
   ·go_wp2
    go_ret
    obtain⟨h3,h4⟩:=HL.out;exact⟨zl2 (by rw[HT.out,HE.out,if_neg (by omega)]),rfl⟩
theorem zxr{A B:Option Addr}{n c m c':Nat}{xs ys:List Int}{w:World}(hx:zi0 w zqx A n c xs)(hy:zi0 w zqx B m c' ys) :
  Calls Tryz.prog 122 #[.slice A n c,.slice B m c'] w fun e w'=>e=.returned (.int .i64 (lexI xs ys))∧w=w':=by
 go_enter Tryz.func122,Tryz.ntmps122
 go_wp2_with (go_at_call 136;refine(zmf hx hy).mono ?_;rintro e w' ⟨rfl,rfl⟩)
 go_ret
 exact⟨rfl,rfl⟩
def orI(xs:List Int):Int:=(xs.find? fun a=>a != 0).getD 0
set_option maxHeartbeats 400000 in
theorem cmpOr_any{A:Option Addr}{n c:Nat}{xs:List Int}{w:World}(hx:zi0 w zqx A n c xs) :
  Calls Tryz.prog 134 #[.slice A n c] w fun e w'=>e=.returned (.int .i64 (orI xs))∧w=w':=by
 have a5:=hx.small;have HL:=Lib.hid hx.len
 go_enter Tryz.func134,Tryz.ntmps134
 go_wp2
 go_loop [5,8] (fun _ i=>∃k:Nat,k<=n∧i=.int .i64 k∧Hid (((xs.take k).find? fun a=>a != 0)=none)) (fun _ i=>n-(intOf i).toNat)
 case atStart=>exact⟨0,by omega,rfl,Lib.hid (by simp)⟩
 case round =>
  obtain⟨k,hk,rfl,HT⟩:=hrel;by_cases h1:k<n
  ·obtain⟨b,o,x,rfl,a2,a4⟩:=hx.int_at h1;have HX:=Lib.hid a2;clear a2;by_cases h2:x=0
   ·have d2:(x != 0)=false:=by simp[h2]
    have H2:=Lib.hid h2;clear h2
    go_wp2
    go_round
    case rel=>exact⟨k+1,by omega,by go_num,Lib.hid (by rw[zbc HX.out,List.find?_append,HT.out,H2.out];rfl)⟩
    case measure=>simp[intOf]<;>omega
   ·have d2:(x != 0)=true:=by simp[h2]
    go_wp2
    go_ret
    refine⟨zl2 ?_,rfl⟩;have a3:=List.take_append_drop (k+1) xs;unfold orI;rw[<- a3,List.find?_append,zbc HX.out,List.find?_append,HT.out];simp[h2]
  ·go_wp2
   go_ret
   have ht:=HT.out;rw[List.take_of_length_le (by rw[HL.out];omega)]at ht;exact⟨zl2 (by unfold orI;rw[ht];rfl),rfl⟩
theorem orI_cmp(xs ys:List Int):orI [cmpI xs.length ys.length,lexI xs ys]=cmpW xs ys:=by
 unfold orI cmpI cmpW;by_cases h1:xs.length<ys.length
 ·rw[if_pos (by omega),if_pos h1];rfl
 ·by_cases h2:ys.length<xs.length
  ·rw[if_neg (by omega),if_pos (by omega),if_neg h1,if_pos h2];rfl
  ·rw[if_neg (by omega),if_neg (by omega),if_neg h1,if_neg h2];by_cases h3:lexI xs ys=0
   ·simp[h3]
   ·simp[h3]
theorem src_two{w:World}(x y:Value)(t:TypeId):Src (w.alloc (.cells #[x,y] t)) (some ⟨w.heap.size,0,none⟩) 2 [x,y] :=
 ⟨rfl,fun _=>⟨_,_,rfl,fun j u hu=>by
  have:=cell_two_new w x y t j u hu
  rwa [addr_add]at this⟩⟩
theorem ints_row{w:World}(x y:Int)(t:TypeId):zi0 (w.alloc (.cells #[.int .i64 x,.int .i64 y] t)) zqx (some ⟨w.heap.size,0,none⟩) 2 2 [x,y]:=by
 refine⟨rfl,Nat.le_refl _,by omega,fun _=>⟨_,_,rfl,fun i z hz=>?_⟩⟩;obtain⟨_,hc⟩:=src_two (w:=w) (.int .i64 x) (.int .i64 y) t;obtain⟨b,o,e,a2⟩:=hc (by omega);injection e with e
 injection e with e1 e2
 subst e1 e2
 match i,hz with
 |0,hz =>
  simp at hz;subst hz;exact⟨_,a2 0 _ rfl,rfl⟩
 |1,hz =>
  simp at hz;subst hz;exact⟨_,a2 1 _ rfl,rfl⟩
set_option maxHeartbeats 400000 in
theorem zxv{A B:Option Addr}{n c m c':Nat}{xs ys:List Int}{w:World}(hx:zi0 w zqx A n c xs)(hy:zi0 w zqx B m c' ys) :
  Calls Tryz.prog 86 #[.slice A n c,.slice B m c'] w fun e w'=>e=.returned (.int .i64 (cmpW xs ys))∧w.alloc (.cells #[.int .i64 (cmpI xs.length ys.length),.int .i64 (lexI xs ys)] 3)=w':=by
 have hn:=hx.small;have hm:=hy.small;have a2:=Lib.hid (zmf hx hy);have HE:=Lib.hid (orI_cmp xs ys);have h1:=hx.len;have h2:=hy.len;have HO:=Lib.hid (fun t=>cmpOr_any (ints_row (w:=w) (cmpI xs.length ys.length) (lexI xs ys) t));rw[h1,h2]at HE HO;rw[h1,h2];clear h1 h2 hx hy
 go_enter Tryz.func86,Tryz.ntmps86
 go_wp2_with (first|(go_at_call 135;refine(zlx _ _ _).mono ?_;rintro e w' ⟨rfl,rfl⟩)|(go_at_call 136;refine a2.out.mono ?_;rintro e w' ⟨rfl,rfl⟩)|(go_at_call 134;refine(HO.out _).mono ?_;rintro e w' ⟨rfl,rfl⟩))
 go_ret
 exact⟨zl2 HE.out,rfl⟩
end Go.Proofs.YtfgajaakmmogkaaGreatDoor
namespace Go.Proofs
section
open Go.Shelf
def Tryz.sortW_ren:Go.Shelf.Ren:=⟨fun|6=>131|15=>151|14=>158|28=>178|29=>179|20=>181|21=>182|22=>183|23=>184|24=>185|25=>186|26=>187|27=>188|46=>201|47=>193|48=>194|49=>202|50=>203|57=>210|n=>n,fun|22=>22|24=>48|25=>133|3=>3|39=>191|0=>0|53=>210|55=>212|4=>4|46=>204|45=>203|50=>183|5=>5|9=>9|66=>221|70=>225|76=>234|77=>196|n=>n,fun|n=>n⟩
theorem Tryz.sortW:Go.Proofs.SlLaysF.n6 Tryz.prog Tryz.sortW_ren:={
 mixed:=by kernel_rfl
 f6:=⟨Tryz.f131.name,by decide,Tryz.func131.trans (congrArg some (by kernel_rfl))⟩
 f14:=⟨Tryz.f158.name,by decide,Tryz.func158.trans (congrArg some (by kernel_rfl))⟩
 f15:=Tryz.func151.trans (congrArg some (by kernel_rfl))
 f20:=⟨Tryz.f181.name,by decide,Tryz.func181.trans (congrArg some (by kernel_rfl))⟩
 f21:=⟨Tryz.f182.name,by decide,Tryz.func182.trans (congrArg some (by kernel_rfl))⟩
 f22:=⟨Tryz.f183.name,by decide,Tryz.func183.trans (congrArg some (by kernel_rfl))⟩
 f23:=⟨Tryz.f184.name,by decide,Tryz.func184.trans (congrArg some (by kernel_rfl))⟩
 f24:=⟨Tryz.f185.name,by decide,Tryz.func185.trans (congrArg some (by kernel_rfl))⟩
 f25:=⟨Tryz.f186.name,by decide,Tryz.func186.trans (congrArg some (by kernel_rfl))⟩
 f26:=⟨Tryz.f187.name,by decide,Tryz.func187.trans (congrArg some (by kernel_rfl))⟩
 f27:=⟨Tryz.f188.name,by decide,Tryz.func188.trans (congrArg some (by kernel_rfl))⟩
 f28:=Tryz.func178.trans (congrArg some (by kernel_rfl))
 f29:=Tryz.func179.trans (congrArg some (by kernel_rfl))
 f46:=⟨Tryz.f201.name,by decide,Tryz.func201.trans (congrArg some (by kernel_rfl))⟩
 f47:=Tryz.func193.trans (congrArg some (by kernel_rfl))
 f48:=Tryz.func194.trans (congrArg some (by kernel_rfl))
 f49:=⟨Tryz.f202.name,by decide,Tryz.func202.trans (congrArg some (by kernel_rfl))⟩
 f50:=⟨Tryz.f203.name,by decide,Tryz.func203.trans (congrArg some (by kernel_rfl))⟩
 f57:=⟨Tryz.f210.name,by decide,Tryz.func210.trans (congrArg some (by kernel_rfl))⟩
 t0:=Tryz.underlying0
 a0:=Tryz.isAgg0
 z0:=Tryz.sizeOf0
 v0:=Tryz.zeroValue0
 t3:=Tryz.underlying3
 a3:=Tryz.isAgg3
 z3:=Tryz.sizeOf3
 v3:=Tryz.zeroValue3
 t4:=Tryz.underlying4
 a4:=Tryz.isAgg4
 z4:=Tryz.sizeOf4
 v4:=Tryz.zeroValue4
 t5:=Tryz.underlying5
 a5:=Tryz.isAgg5
 z5:=Tryz.sizeOf5
 v5:=Tryz.zeroValue5
 t9:=Tryz.underlying9
 a9:=Tryz.isAgg9
 z9:=Tryz.sizeOf9
 v9:=Tryz.zeroValue9
 t22:=Tryz.underlying22
 a22:=Tryz.isAgg22
 z22:=Tryz.sizeOf22
 v22:=Tryz.zeroValue22
 a24:=Tryz.isAgg48
 z24:=Tryz.sizeOf48
 t25:=Tryz.underlying133
 a25:=Tryz.isAgg133
 z25:=Tryz.sizeOf133
 v25:=Tryz.zeroValue133
 t39:=Tryz.underlying191
 a39:=Tryz.isAgg191
 z39:=Tryz.sizeOf191
 v39:=Tryz.zeroValue191
 t45:=Tryz.underlying203
 a45:=Tryz.isAgg203
 z45:=Tryz.sizeOf203
 v45:=Tryz.zeroValue203
 t46:=Tryz.underlying204
 a46:=Tryz.isAgg204
 z46:=Tryz.sizeOf204
 v46:=Tryz.zeroValue204
 t50:=Tryz.underlying183
 a50:=Tryz.isAgg183
 z50:=Tryz.sizeOf183
 v50:=Tryz.zeroValue183
 t53:=Tryz.underlying210
 a53:=Tryz.isAgg210
 z53:=Tryz.sizeOf210
 v53:=Tryz.zeroValue210
 t55:=Tryz.underlying212
 a55:=Tryz.isAgg212
 z55:=Tryz.sizeOf212
 v55:=Tryz.zeroValue212
 t66:=Tryz.underlying221
 a66:=Tryz.isAgg221
 z66:=Tryz.sizeOf221
 v66:=Tryz.zeroValue221
 t70:=Tryz.underlying225
 a70:=Tryz.isAgg225
 z70:=Tryz.sizeOf225
 v70:=Tryz.zeroValue225
 t76:=Tryz.underlying234
 a76:=Tryz.isAgg234
 z76:=Tryz.sizeOf234
 v76:=Tryz.zeroValue234
 t77:=Tryz.underlying196
 a77:=Tryz.isAgg196
 z77:=Tryz.sizeOf196
 v77:=Tryz.zeroValue196 }
def Tryz.sortF_ren:Go.Shelf.Ren:=⟨fun|14=>150|20=>170|21=>171|22=>172|23=>173|24=>174|25=>175|26=>176|27=>177|46=>192|47=>193|48=>194|49=>195|50=>196|15=>151|57=>205|28=>178|29=>179|n=>n,fun|24=>79|22=>29|3=>3|25=>162|4=>4|0=>0|46=>204|45=>203|50=>183|66=>221|39=>191|55=>212|70=>225|76=>234|77=>196|53=>210|5=>5|9=>9|n=>n,fun|n=>n⟩
theorem Tryz.sortF:Go.Proofs.SlLaysF0.n14 Tryz.prog Tryz.sortF_ren:={
 mixed:=by kernel_rfl
 f14:=⟨Tryz.f150.name,by decide,Tryz.func150.trans (congrArg some (by kernel_rfl))⟩
 f15:=Tryz.func151.trans (congrArg some (by kernel_rfl))
 f20:=⟨Tryz.f170.name,by decide,Tryz.func170.trans (congrArg some (by kernel_rfl))⟩
 f21:=⟨Tryz.f171.name,by decide,Tryz.func171.trans (congrArg some (by kernel_rfl))⟩
 f22:=⟨Tryz.f172.name,by decide,Tryz.func172.trans (congrArg some (by kernel_rfl))⟩
 f23:=⟨Tryz.f173.name,by decide,Tryz.func173.trans (congrArg some (by kernel_rfl))⟩
 f24:=⟨Tryz.f174.name,by decide,Tryz.func174.trans (congrArg some (by kernel_rfl))⟩
 f25:=⟨Tryz.f175.name,by decide,Tryz.func175.trans (congrArg some (by kernel_rfl))⟩
 f26:=⟨Tryz.f176.name,by decide,Tryz.func176.trans (congrArg some (by kernel_rfl))⟩
 f27:=⟨Tryz.f177.name,by decide,Tryz.func177.trans (congrArg some (by kernel_rfl))⟩
 f28:=Tryz.func178.trans (congrArg some (by kernel_rfl))
 f29:=Tryz.func179.trans (congrArg some (by kernel_rfl))
 f46:=⟨Tryz.f192.name,by decide,Tryz.func192.trans (congrArg some (by kernel_rfl))⟩
 f47:=Tryz.func193.trans (congrArg some (by kernel_rfl))
 f48:=Tryz.func194.trans (congrArg some (by kernel_rfl))
 f49:=⟨Tryz.f195.name,by decide,Tryz.func195.trans (congrArg some (by kernel_rfl))⟩
 f50:=⟨Tryz.f196.name,by decide,Tryz.func196.trans (congrArg some (by kernel_rfl))⟩
 f57:=⟨Tryz.f205.name,by decide,Tryz.func205.trans (congrArg some (by kernel_rfl))⟩
 t0:=Tryz.underlying0
 a0:=Tryz.isAgg0
 z0:=Tryz.sizeOf0
 v0:=Tryz.zeroValue0
 t3:=Tryz.underlying3
 a3:=Tryz.isAgg3
 z3:=Tryz.sizeOf3
 v3:=Tryz.zeroValue3
 t4:=Tryz.underlying4
 a4:=Tryz.isAgg4
 z4:=Tryz.sizeOf4
 v4:=Tryz.zeroValue4
 t5:=Tryz.underlying5
 a5:=Tryz.isAgg5
 z5:=Tryz.sizeOf5
 v5:=Tryz.zeroValue5
 t9:=Tryz.underlying9
 a9:=Tryz.isAgg9
 z9:=Tryz.sizeOf9
 v9:=Tryz.zeroValue9
 t22:=Tryz.underlying29
 a22:=Tryz.isAgg29
 z22:=Tryz.sizeOf29
 v22:=Tryz.zeroValue29
 t25:=Tryz.underlying162
 a25:=Tryz.isAgg162
 z25:=Tryz.sizeOf162
 v25:=Tryz.zeroValue162
 t39:=Tryz.underlying191
 a39:=Tryz.isAgg191
 z39:=Tryz.sizeOf191
 v39:=Tryz.zeroValue191
 t45:=Tryz.underlying203
 a45:=Tryz.isAgg203
 z45:=Tryz.sizeOf203
 v45:=Tryz.zeroValue203
 t46:=Tryz.underlying204
 a46:=Tryz.isAgg204
 z46:=Tryz.sizeOf204
 v46:=Tryz.zeroValue204
 t50:=Tryz.underlying183
 a50:=Tryz.isAgg183
 z50:=Tryz.sizeOf183
 v50:=Tryz.zeroValue183
 t53:=Tryz.underlying210
 a53:=Tryz.isAgg210
 z53:=Tryz.sizeOf210
 v53:=Tryz.zeroValue210
 t55:=Tryz.underlying212
 a55:=Tryz.isAgg212
 z55:=Tryz.sizeOf212
 v55:=Tryz.zeroValue212
 t66:=Tryz.underlying221
 a66:=Tryz.isAgg221
 z66:=Tryz.sizeOf221
 v66:=Tryz.zeroValue221
 t70:=Tryz.underlying225
 a70:=Tryz.isAgg225
 z70:=Tryz.sizeOf225
 v70:=Tryz.zeroValue225
 t76:=Tryz.underlying234
 a76:=Tryz.isAgg234
 z76:=Tryz.sizeOf234
 v76:=Tryz.zeroValue234
 t77:=Tryz.underlying196
 a77:=Tryz.isAgg196
 z77:=Tryz.sizeOf196
 v77:=Tryz.zeroValue196 }
end
end Go.Proofs
namespace Go.Proofs.YtfgajaakmmogkaaGreatDoor.Sym
section
open Go.RowKit Go.Sort
theorem putRow_map{E:Type}[Inhabited E](enc:E->Value)(w:World)(blk off:Nat)(d:Array E):putRow enc w blk off d=putRow id w blk off (d.map enc):=by
 unfold putRow;congr 1;funext c;unfold putCells;congr 1;funext k x;rw[Array.size_map];by_cases h:off<=k∧k<off+d.size
 ·have h1:k-off<d.size:=by omega
  rw[if_pos h,if_pos h,getElem!_pos d _ h1,getElem!_pos (d.map enc) _ (by simpa using h1)];simp
 ·rw[if_neg h,if_neg h]
theorem holds_map{E:Type}[Inhabited E]{enc:E->Value}{w:World}{blk off:Nat}{d:Array E}(h:Go.Sort.Holds id w blk off (d.map enc)):Go.Sort.Holds enc w blk off d:=fun j hj=>by
 have:=h j (by simpa using hj);rw[getElem!_pos (d.map enc) _ (by simpa using hj)]at this;rw[getElem!_pos d _ hj];simpa using this
def one1(us:List Value):Value:=us.headD undef
theorem flat_one1{E:Type}[Inhabited E]{enc:E->List Value}(hk:∀x,(enc x).length=1)(d:Array E):Go.Sort.flatK enc 1 d=d.map fun x=>one1 (enc x):=by
 rw[zyz hk]
 have:(d.toList.map enc).flatten=d.toList.map fun x=>one1 (enc x):=by
  generalize d.toList=l
  induction l with
  |nil=>rfl
  |cons x l ih =>
   rw[yat,ybm,ih,yat];have:=hk x
   match h:enc x,this with
   |[v],_=>rfl
 rw[this];apply Array.ext';simp
theorem sortC_words:SortC Tryz.prog 131 1 one1:=by
 refine⟨fun p a2 fv w=>AnyF.slices_SortFunc_none { Tryz.sortW with } p a2 fv w,?_⟩;intro E _ enc cf g a3 a2 d w hk h1 hO eg a4 hH a5 a7;have e1:∀m (dk:Array E),putRow (fun x=>one1 (enc x)) (Sort.ahead w m) a3 0 dk=putRow id (Sort.ahead w m) a3 0 (Go.Sort.flatK enc 1 dk):=fun m dk=>by rw[flat_one1 hk,putRow_map]
 have a6:OneCell fun x=>one1 (enc x):=fun x=>by
  have h2:=hk x;have h3:=h1 x
  match h:enc x,h2 with
  |[v],_ =>
   show(one1 (enc x)).oneCell'=true;rw[h]at h3 ⊢;exact h3 v (by simp)
 refine(Any.slices_SortFunc Tryz.sortW (fun x=>one1 (enc x)) a6 cf hO g #[] a3 0 a2 d w eg (fun m os dk hs x y=>?_) (holds_map (by rw[<- flat_one1 hk];exact hH)) a5 a7).mono ?_
 ·have:=a4 m os dk hs x y;unfold sortWorld;rw[e1];simpa using this
 ·rintro e w' ⟨he,d',n,os,hp,hs,hw⟩;exact⟨he,d',n,os,hp,hs,by rw[hw];unfold sortWorld;rw[e1]⟩
theorem aggF:∀w,(isAgg (Tryz.sortF_ren.t 24)).run Tryz.prog w=.ok true w:=Tryz.isAgg79
theorem sizF:∀w,(Go.sizeOf (Tryz.sortF_ren.t 24)).run Tryz.prog w=.ok 2 w:=Tryz.sizeOf79
set_option maxHeartbeats 2000000 in
theorem sortC_finder:SortC Tryz.prog 120 2 (fun us=>.agg us.toArray):=by
 refine⟨fun p a4 fv w=>?_,?_⟩
 ·have hp:=fun a9 W=>AnyF.pdqsortCmpFunc_none (P:=Tryz.prog) (ρ:=Tryz.sortF_ren) Tryz.sortF p a4 a9 fv W
  have hl:∀W,Calls Tryz.prog 151 #[.int .u64 0] W fun e w'=>e=.returned (.int .i64 (Lib.bitLen 0:Nat))∧w'=W:=fun W=>by
   have h:=Any.bits_Len (SlLaysF0.n15.bits (P:=Tryz.prog) (ρ:=Tryz.sortF_ren) { Tryz.sortF with }) 0 W (by omega) (by omega);exact h
  go_enter Tryz.func120,Tryz.ntmps120
  go_wp2_with (first|(go_at_call 151;refine(hl _).mono ?_;rintro e w' ⟨rfl,rfl⟩)|(go_at_call 150;refine(hp _ _).mono ?_;rintro e w' ⟨rfl,rfl⟩))
  go_end0
  exact⟨rfl,rfl⟩
 ·intro E _ enc cf g a5 a4 d w hk h1 hO eg a3 hH a6 b0;have a8:Lib.bitLen d.size<4611686018427387904:=Nat.lt_of_le_of_lt (Lib.bitLen_le d.size 62 (by omega) (by omega)) (by omega)
  have a2:CmpLays Tryz.prog g #[] enc 2 cf a5 0 d.size w:=fun m os dk hs x y=>by
   unfold sortWorldK putRowK;simpa using a3 m os dk hs x y
  have hp:=AnyQ.pdqsortCmpFunc_all (P:=Tryz.prog) (ρ:=Tryz.sortF_ren) Tryz.sortF 2 aggF sizF enc cf g #[] hO a5 0 a4 d w eg a2 ⟨hk,h1,hH,a6⟩ (d.size+1) 0 d.size (Lib.bitLen d.size) d w (by omega) rfl (SWK.start hH) (yag _) (yam _) b0 a8 (Or.inl rfl)
  have hl:Calls Tryz.prog 151 #[.int .u64 (d.size:Int)] w fun e w'=>e=.returned (.int .i64 (Lib.bitLen d.size:Nat))∧w'=w:=by
   have h:=Any.bits_Len (SlLaysF0.n15.bits (P:=Tryz.prog) (ρ:=Tryz.sortF_ren) { Tryz.sortF with }) (d.size:Int) w (by omega) (by omega)
   rwa [ybf]at h
  have wr:IntKind.u64.wrap (d.size:Int)=d.size:=by simp[IntKind.wrap,IntKind.bits,IntKind.signed];omega
  have a7:=pdq_sorts (ltOf cf) hO d 0 d.size (Lib.bitLen d.size) true true (yag _) (yam _) (Or.inl rfl);clear hH a3 a2 hk h1
  go_enter Tryz.func120,Tryz.ntmps120
  go_wp2_with (first|(go_at_call 151;refine hl.mono ?_;rintro e w' ⟨rfl,rfl⟩)|(go_at_call 150;refine hp.mono ?_;rintro e w' ⟨rfl,n,os,rfl⟩))
  go_end0
  exact⟨rfl,_,n,os,a7.1,a7.2,rfl⟩
theorem cmpG_lex{f:yab->yab->Option Int}(hf:∀x y r,x.length<=17592186044416->f x y=some r->r=lexI x y):CmpG Tryz.prog 122 (nL cI) f:=by
 intro W S u u' x y r h hu a2;obtain⟨A,n,c,rfl,h1⟩:=zhd hu;have:=hf x y r (by rw[h1.len];exact h1.small) h;subst this;obtain⟨B,m,c',rfl,h2⟩:=zhd a2;refine(zxr h1 h2).mono fun e w' ⟨he,hw⟩=>⟨he,0,#[],?_⟩;rw[<- hw,Sort.grow_empty];rfl
theorem cmpG_compare{f:yab->yab->Option Int}(hf:∀x y r,x.length<=17592186044416->f x y=some r->r=cmpW x y):CmpG Tryz.prog 86 (nL cI) f:=by
 intro W S u u' x y r h hu a2;obtain⟨A,n,c,rfl,h1⟩:=zhd hu;have:=hf x y r (by rw[h1.len];exact h1.small) h;subst this;obtain⟨B,m,c',rfl,h2⟩:=zhd a2;refine(zxv h1 h2).mono fun e w' ⟨he,hw⟩=>⟨he,0,#[.cells #[.int .i64 (cmpI x.length y.length),.int .i64 (lexI x y)] 3],?_⟩;rw[<- hw,Sort.alloc_eq_grow];rfl
theorem rep_two{w:World}{S:Nat->Prop}{u:Value}{x y:IV}(h:RepI w S u (.agg [x,y])):∃a b,u=.agg #[a,b]∧RepI w S a x∧RepI w S b y:=by
 generalize hz:IV.agg [x,y]=z at h;cases h with
 |agg us cs hl h1 hr =>
  injection hz with hz
  subst hz
  match us,hl with
  |[a,b],_=>exact⟨a,b,rfl,hr 0 a x rfl rfl,hr 1 b y rfl rfl⟩
 |_=>cases hz
set_option maxHeartbeats 400000 in
theorem find1_any{A A' B B':Option Addr}{n c m c' p q p' q':Nat}{xs ys:yab}{w:World}(hx:zi0 w zqx A n c xs)(hy:zi0 w zqx B m c' ys) :
  Calls Tryz.prog 121 #[.agg #[.slice A n c,.slice A' p q],.agg #[.slice B m c',.slice B' p' q']] w fun e w'=>e=.returned (.int .i64 (lexI xs ys))∧∃q os,w'=Sort.grow (w.drewN q) os:=by
 have key:∀o o',∃q os,(w.alloc o).alloc o'=Sort.grow (w.drewN q) os:=fun o o'=>⟨0,#[o]++#[o'],by
  rw[Sort.alloc_eq_grow,Sort.alloc_eq_grow,Sort.grow_grow]
  rfl⟩
 have a2:∀o o',zi0 ((w.alloc o).alloc o') zqx A n c xs:=fun o o'=>(hx.kept (zia (World.grownBy_alloc w o none))).kept (zia (World.grownBy_alloc _ o' none));have a3:∀o o',zi0 ((w.alloc o).alloc o') zqx B m c' ys:=fun o o'=>(hy.kept (zia (World.grownBy_alloc w o none))).kept (zia (World.grownBy_alloc _ o' none))
 go_enter Tryz.func121,Tryz.ntmps121
 go_wp2_with (go_at_call 122;refine(zxr (a2 _ _) (a3 _ _)).mono ?_;rintro e w' ⟨rfl,rfl⟩)
 go_ret
 exact⟨rfl,key _ _⟩
theorem cmpG_find1{T:Type}{X:T->IV}{i o:T->yab}(hX:∀x,X x=.agg [nL cI (i x),nL cI (o x)]){f:T->T->Option Int}(hf:∀x y r,(i x).length<=17592186044416->f x y=some r->r=lexI (i x) (i y)):CmpG Tryz.prog 121 X f:=by
 intro W S u u' x y r h hu a2;rw[hX]at hu a2;obtain⟨a,b,rfl,ha,hb⟩:=rep_two hu;obtain⟨a',b',rfl,a4,a3⟩:=rep_two a2;obtain⟨A,n,c,rfl,h1⟩:=zhd ha;have:=hf x y r (by rw[h1.len];exact h1.small) h;subst this;obtain⟨B,m,c',rfl,h2⟩:=zhd a4;obtain⟨_,_,_,rfl,_⟩:=zhd hb;obtain⟨_,_,_,rfl,_⟩:=zhd a3;exact find1_any h1 h2
theorem rep_of_one{W:World}{S:Nat->Prop}{us:List Value}{x:IV}(hl:us.length=1)(hr:zlc W S us [x]):RepI W S (one1 us) x:=by
 match us,hl with
 |[u],_=>exact hr.2 0 u x rfl rfl
def CmpE{T:Type}(P:Program)(g:FuncId)(X:T->IV)(f:T->T->Option Int):Prop:=(∀args w,(callFunc g args).run P w=.ok (.enter g args) w)∧CmpG P g X f
end
section
theorem Tryz.infoI_traces:(Tryz.prog.info? 79).map (fun i=>(i.zero,i.size,i.bytes))=some (some (.agg #[.slice none 0 0,.slice none 0 0]),2,48):=by kernel_rfl
section
variable {P:Program}
theorem zzu(w:World){o:Oper}{a:Act}{K:Act->World->Prop}{Q:Exit->Act->World->Prop}(d s:Operand)(t t':TypeId)
  (ho:o.op=.call { callee:=.builtin .copy,args:=#[d,s],argTypes:=#[t,t'] }) (v u:Value) (hd:a.eval d=v) (hs:a.eval s=u) {v':Value} {w':World}
  (hr:(Builtin.copy_ #[t,t'] o.type #[v,u]).run P w=.ok v' w') (h:K (a.put o.dst v') w'):o.wp P a w K Q:=by
 unfold Oper.wp execOp;simp only[ho,resolve,invoke,builtin,Sem.run_bind,Sem.run_pure,Result.andThen_ok,List.map_toArray,yat,ydb,hd,hs,hr];exact h
theorem zqa(w:World){ops:Array Oper}{rest:List Oper}{o:Oper}{a:Act}{Q:Exit->Act->World->Prop}(hgd:o.guard=none)(d s:Operand)(t t':TypeId)
  (ho:o.op=.call { callee:=.builtin .copy,args:=#[d,s],argTypes:=#[t,t'] }) (v u:Value) (hd:a.eval d=v) (hs:a.eval s=u) {v':Value} {w':World}
  (hr:(Builtin.copy_ #[t,t'] o.type #[v,u]).run P w=.ok v' w') (h:wpList P ops Q rest (a.put o.dst v') w'):wpList P ops Q (o::rest) a w :=
 wpList_plain hgd fun _ hK=>zzu w d s t t' ho v u hd hs hr (hK _ _ h)
theorem zuh{ops:Array Oper}{o:Oper}{a:Act}{w:World}{K:Act->World->Prop}{Q:Exit->Act->World->Prop}{E:Prop}
  (hg:o.guard=none) (d x:Operand) (dT sT:TypeId) (hop:o.op=Op.call { callee:=Callee.builtin Builtin.copy,args:=#[d,x],argTypes:=#[dT,sT] })
  (v u:Value) (hd:a.eval d=v) (hx:a.eval x=u) {v':Value} {w':World} (hr:(Builtin.copy_ #[dT,sT] o.type #[v,u]).run P w=.ok v' w') (hK:K (a.put o.dst v') w') :
  if Region.wanted o (yielded ops a.tmps)=true then Oper.wp P o a w K Q else E:=by
 have hw:Region.wanted o (yielded ops a.tmps)=true:=by simp[Region.wanted,hg]
 rw[if_pos hw];exact zzu w d x dT sT hop v u hd hx hr hK
end
def InsPost(t:TypeId)(k n:Nat)(us:List Value)(v:Value)(w:World)(e:Ending)(w':World):Prop :=
 ∃v',e=.returned v'∧w'.ownsRow 0 t k v' (n+1) us∧w.grownBy w' v.ownBlock∧(v'.ownBlock=v.ownBlock∨v'.ownBlock=some w.heap.size)
set_option maxRecDepth 100000 in
set_option maxHeartbeats 400000 in
theorem insert_end(w:World)(v:Value)(n vb vc:Nat)(us news:List Value)(ho:w.ownsRow 0 79 2 v n us)(hl:news.length=1*2)(hb:∀(j:Nat) u,news[j]?=some u->w.cell? ⟨vb,0+j,none⟩=some u)
  (h1:∀u∈news,u.oneCell'=true) (hn:n<=1000000):Calls Tryz.prog 168 #[v,.int .i64 n,.slice (some ⟨vb,0,none⟩) 1 vc] w (InsPost 79 2 n (us++news) v w):=by
 obtain⟨j0,ji,a9,a7,a6⟩:=info_parts Tryz.infoI_traces;have a8:n+1<=maxLen:=by unfold maxLen;omega
 have a5:(n+1)*48<=140737488355328:=by omega
 rcases ho.2 with⟨hv,h0⟩|⟨g,b3,cur,hv,_,hg,b0,b2,b4,b5⟩
 ·subst hv h0
  go_enter Tryz.func168,Tryz.ntmps168
  go_wp2_with (at_builtin;refine zg4 rfl (.tmp 23) (.tmp 24) 29 rfl 0 79 j0 (.agg #[.slice none 0 0,.slice none 0 0]) 2 48 Tryz.underlying29 ji a9 a7 a6 rfl (by decide) _ _ _ rfl ho _ _ _ _ rfl hl (fun _=>⟨vb,0,rfl,hb⟩) h1 a8 a5 (yag _) ?_;intro v1 w1 a2 a3 a4)
  all_goals (go_ret;exact⟨v1,rfl,a2,a3,a4⟩)
 ·subst hv
  go_enter Tryz.func168,Tryz.ntmps168
  go_wp2_with (at_builtin;refine zg4 rfl (.tmp 23) (.tmp 24) 29 rfl 0 79 j0 (.agg #[.slice none 0 0,.slice none 0 0]) 2 48 Tryz.underlying29 ji a9 a7 a6 rfl (by decide) _ _ _ rfl ho _ _ _ _ rfl hl (fun _=>⟨vb,0,rfl,hb⟩) h1 a8 a5 (yag _) ?_;intro v1 w1 a2 a3 a4)
  all_goals (go_ret;exact⟨v1,rfl,a2,a3,a4⟩)
set_option maxRecDepth 100000 in
set_option maxHeartbeats 800000 in
theorem insert_shift(w:World)(g cap n i vb vc:Nat)(cur cur2:Array Value)(us news:List Value)(hg:w.heap[g]?=some (.cells cur 79 (0,0)))(hcz:cur.size=cap*2)(hct:cur.toList.take (n*2)=us)
  (hcm:cap<=maxLen) (hne:vb≠g) (hvb:w.heap[vb]?=some (.cells cur2 79 (0,0))) (hvz:cur2.toList.take 2=news) (hl:news.length=2) (h1:∀u∈us,u.oneCell'=true) (h2:∀u∈news,u.oneCell'=true) (hi:i<n) (hr:n<cap) (hn:n<=1000000) :
  Calls Tryz.prog 168 #[.slice (some ⟨g,0,none⟩) n cap,.int .i64 i,.slice (some ⟨vb,0,none⟩) 1 vc] w (InsPost 79 2 n (us.take (i*2)++news++us.drop (i*2)) (.slice (some ⟨g,0,none⟩) n cap) w):=by
 obtain⟨j0,ji,d7,b5,e5⟩:=info_parts Tryz.infoI_traces;have e3:¬((i:Int)=(n:Int)):=by omega
 have c7:∀lb cb,(callFunc 190 #[.slice (some ⟨vb,0,none⟩) 1 vc,.slice (some ⟨g,(i+1)*2,none⟩) lb cb]).run Tryz.prog w=.ok (.value (.bool false)) w:=fun lb cb=>by
  rw[run_callFunc_extern Tryz.func190 (by kernel_rfl) (by kernel_rfl) (by kernel_rfl) (e:=Extern.SlicesOverlaps.overlaps #[29,29] #[4]) (by kernel_rfl),
   Lib.run_overlaps_apart w 29 4 79 Tryz.underlying29 2 Tryz.sizeOf79 ⟨vb,0,none⟩ ⟨g,(i+1)*2,none⟩ 1 vc lb cb hne 79 79 cur2.size cur.size (by simp[World.shape?,hvb]) (by simp[World.shape?,hg]) (by omega) (by simp[World.frozen?,hvb]) (by simp[World.frozen?,hvb])]
  rfl
 have a8:∀(j:Nat),j<n*2->cur[j]?=us[j]?:=fun j hj=>by
  rw[<- hct,ya7,if_pos hj,yaz]
 have a3:us.length=n*2:=by
  rw[<- hct,yaf,yck];omega
 have a2:(us.drop (i*2)).length=(n-i)*2:=by rw[ya8,a3];omega
 obtain⟨R1,a4⟩:∃R1,R1=(cur.toList.take ((i+1)*2)++us.drop (i*2)++cur.toList.drop ((i+1)*2+(us.drop (i*2)).length)).toArray:=⟨_,rfl⟩
 have b9:∀ty dl dc sl sc,dl=n-i->sl=n+1-i->(Builtin.copy_ #[29,29] ty #[.slice (some ⟨g,(i+1)*2,none⟩) dl dc,.slice (some ⟨g,i*2,none⟩) sl sc]).run Tryz.prog w.drew=.ok (goInt ((n-i:Nat):Int)) (w.drew.setRow g R1):=fun ty dl dc sl sc hd hs=>by
  have hm:Nat.min sl dl=n-i:=by rw[hd,hs];simp only[yfd];split<;>omega
  have:=zpg (P:=Tryz.prog) w.drew 29 29 ty 79 g ((i+1)*2) dl dc ⟨g,i*2,none⟩ sl sc cur 79 (us.drop (i*2)) 2 Tryz.underlying29 (by rw[ji];simp[b5]) hg (by rw[hm,a2]) (fun j v hj=>by
   rw[Addr.add_lit]
   rw[ybj]at hj
   have d3:=(zkI.1 hj).1
   show w.cell? _=_
   simp only[World.cell?,hg]
   rw[a8 _ (by omega)]
   simpa using hj) (by rw[a2];omega) (fun v hv=>h1 v (ybg hv))
  rw[hm,<- a4]at this;exact this
 have d6:R1.size=cap*2:=by
  rw[a4];simp only[ycl,zkJ,yaf,ya8,yck];omega
 have b6:(w.drew.setRow g R1).heap[g]?=some (.cells R1 79 (0,0)):=setRow_heap w.drew g cur R1 _ _ hg
 have a9:(w.drew.setRow g R1).heap[vb]?=some (.cells cur2 79 (0,0)):=by
  rw[setRow_other _ _ _ _ hne];exact hvb
 obtain⟨R2,b2⟩:∃R2,R2=(R1.toList.take (i*2)++news++R1.toList.drop (i*2+news.length)).toArray:=⟨_,rfl⟩
 have a5:∀(W:World) ty dl dc,W.heap[g]?=some (.cells R1 79 (0,0))->W.heap[vb]?=some (.cells cur2 79 (0,0))->1<=dl->(Builtin.copy_ #[29,29] ty #[.slice (some ⟨g,i*2,none⟩) dl dc,.slice (some ⟨vb,0,none⟩) 1 vc]).run Tryz.prog W=.ok (goInt ((1:Nat):Int)) (W.setRow g R2):=fun W ty dl dc hW hV hd=>by
  have hm:Nat.min 1 dl=1:=by simp only[yfd];split<;>omega
  have:=zpg (P:=Tryz.prog) W 29 29 ty 79 g (i*2) dl dc ⟨vb,0,none⟩ 1 vc R1 79 news 2 Tryz.underlying29 (by rw[ji];simp[b5]) hW (by rw[hm,hl]) (fun j v hj=>by
   rw[Addr.add_lit]
   have d3:=(zkI.1 hj).1
   simp only[World.cell?,hV]
   rw[<- hvz,ya7,if_pos (by omega),yaz]at hj
   simpa using hj) (by rw[hl];omega) h2
  rw[hm,<- b2]at this;exact this
 obtain⟨US,b3⟩:∃US,US=us.take (i*2)++news++us.drop (i*2):=⟨_,rfl⟩;rw[<- b3];have b4:=Lib.hid b3;have d1:=Lib.hid a4;have c8:=Lib.hid b2;have d0:=Lib.hid a2;have c6:=Lib.hid a3;have c9:=Lib.hid hct;have HL:=Lib.hid hl;have e7:=Lib.hid hvz;clear b3 a4 b2 a2 a3 hct a8 hl hvz h1 h2;have c0:=fun ty dl dc=>a5 (w.drew.setRow g R1) ty dl dc b6 a9;have d5:1<=n+1-i:=by omega
 clear a5 b6 a9;have d4:Tryz.prog.follows Departure.mixedOrders=true:=by kernel_rfl
 have d9:IntKind.i64.wrap ((i:Int)+1)=(i:Int)+1:=by rw[IntKind.wrap_i64];omega
 have e6:(0:Int)<=(i:Int)+1:=by omega
 have e1:i<=n:=by omega
 have e4:((i:Int)+1).toNat=i+1:=by omega
 have e2:¬(cap=i+1):=by omega
 have d8:(i:Int)<=(n:Int)+1:=by omega
 have e0:¬(cap=i):=by omega
 go_enter Tryz.func168,Tryz.ntmps168
 go_wp2_with (simp only[c7])
 go_region_law_o (refine zuh rfl _ _ 29 29 rfl _ _ (by simp[Act.eval,Act.put]) (by simp[Act.eval,Act.put]) (b9 _ _ _ _ _ (by omega) (by omega)) ?_)
 go_wp2_with (at_builtin;refine zqa _ rfl _ _ 29 29 rfl _ _ rfl rfl (c0 3 (n+1-i) (cap-i) d5) ?_)
 go_ret
 have hl:=HL.out;have a3:=c6.out;have hct:=c9.out;have a2:=d0.out;have a7:R1.toList=cur.toList.take ((i+1)*2)++us.drop (i*2)++cur.toList.drop ((i+1)*2+(us.drop (i*2)).length):=by rw[d1.out]
 have b0:(cur.toList.take ((i+1)*2)).length=(i+1)*2:=by rw[yaf,yck];omega
 have hT:R1.toList.take (i*2)=us.take (i*2):=by
  rw[a7,ybk,ybw (by rw[b0];omega),yc0,<- hct,yc0];congr 1;omega
 have hD:R1.toList.drop (i*2+2)=us.drop (i*2)++cur.toList.drop ((i+1)*2+(us.drop (i*2)).length):=by
  rw[a7,ybk,yc6 (by rw[b0];omega),ycp (by rw[b0];omega),ycg]
 have a6:R2.toList=US++cur.toList.drop ((i+1)*2+(us.drop (i*2)).length):=by
  rw[c8.out,b4.out,hl,hT,hD];simp
 have b8:US.length=(n+1)*2:=by
  rw[b4.out,zkJ,zkJ,a2,hl,yaf,a3];omega
 refine⟨_,rfl,⟨b8,.inr ⟨g,cap,R2,rfl,yag _,?_,by omega,hcm,?_,?_⟩⟩,⟨rfl,rfl,rfl,?_,fun k hk d2=>?_⟩,.inl rfl⟩
 ·exact setRow_heap _ g R1 R2 _ _ (setRow_heap w.drew g cur R1 _ _ hg)
 ·rw[<- yck,a6,zkJ,b8,ya8,yck,a2];omega
 ·rw[a6,ybw (by omega),ybe (by omega)]
 ·simp
 ·have b7:k≠g:=fun e=>d2 (by rw[e];rfl);rw[setRow_other _ _ _ _ b7,setRow_other _ _ _ _ b7];rfl
set_option maxRecDepth 100000 in
set_option maxHeartbeats 800000 in
theorem insert_grow(w:World)(g n i vb vc:Nat)(cur cur2:Array Value)(us news:List Value)(hg:w.heap[g]?=some (.cells cur 79 (0,0)))(hcz:cur.size=n*2)(hct:cur.toList.take (n*2)=us)
  (hvb:w.heap[vb]?=some (.cells cur2 79 (0,0))) (hvz:cur2.toList.take 2=news) (hl:news.length=2) (h1:∀u∈us,u.oneCell'=true) (h2:∀u∈news,u.oneCell'=true) (hi:i<n) (hn:n<=1000000) :
  Calls Tryz.prog 168 #[.slice (some ⟨g,0,none⟩) n n,.int .i64 i,.slice (some ⟨vb,0,none⟩) 1 vc] w (InsPost 79 2 n (us.take (i*2)++news++us.drop (i*2)) (.slice (some ⟨g,0,none⟩) n n) w):=by
 obtain⟨j0,ji,d7,c0,d0⟩:=info_parts Tryz.infoI_traces;have f7:¬((i:Int)=(n:Int)):=by omega
 have g5:(n:Int)<(n:Int)+1:=by omega
 have a9:∀(j:Nat),j<n*2->cur[j]?=us[j]?:=fun j hj=>by
  rw[<- hct,ya7,if_pos hj,yaz]
 have c6:us.length=n*2:=by
  rw[<- hct,yaf,yck];omega
 have b2:(us.drop (i*2)).length=(n-i)*2:=by rw[ya8,c6];omega
 have a4:(us.take (i*2)).length=i*2:=by rw[yaf,c6];omega
 have d9:g<w.heap.size:=by
  rcases ya6 g w.heap.size with h|h
  ·exact h
  ·rw[yed h]at hg;cases hg
 have e6:vb<w.heap.size:=by
  rcases ya6 vb w.heap.size with h|h
  ·exact h
  ·rw[yed h]at hvb;cases hvb
 obtain⟨N,hN⟩:∃N,N=w.heap.size:=⟨_,rfl⟩
 have b5:(Builtin.firstCells j0.size i (.slice (some ⟨g,0,none⟩) i n)).run Tryz.prog w.drew=.ok (us.take (i*2)).toArray w.drew:=by
  rw[c0]
  exact run_firstCells_some w.drew 2 i ⟨g,0,none⟩ i n (us.take (i*2)) a4 (fun j v hj=>by
   rw[Addr.add_lit]
   rw[ya7]at hj
   split at hj
   ·show w.cell? _=_
    simp only[World.cell?,hg]
    rw[yah,a9 _ (by omega)]
    exact hj
   ·cases hj)
 obtain⟨G,hG⟩:∃G,G=grownCap w (n+1) n 79:=⟨_,rfl⟩;obtain⟨a2,a5⟩:∃a2:Array Value,a2=(us.take (i*2)).toArray++Builtin.zeroCells (Value.agg #[.slice none 0 0,.slice none 0 0]).cells (n+1-i)++Builtin.zeroCells (Value.agg #[.slice none 0 0,.slice none 0 0]).cells (G-(n+1)):=⟨_,rfl⟩;have e1:n+1<=G:=by rw[hG];exact grownCap_ge w _ _ _
 have c8:G<=maxLen:=by rw[hG];exact grownCap_le_maxLen w (n+1) n 79 (by unfold maxLen;omega)
 have e9:G<=9223372036854775807:=by unfold maxLen at c8;omega
 obtain⟨W1,a6⟩:∃W1,W1=w.drew.alloc (.cells a2 79):=⟨_,rfl⟩
 have d6:∀ty,(Builtin.append_ #[29,3] ty #[.slice (some ⟨g,0,none⟩) i n,.int .i64 ((n:Int)+1-(i:Int))]).run Tryz.prog w=.ok (.slice (some ⟨N,0,none⟩) (n+1) G) W1:=fun ty=>by
  have h:=Lib.run_append_grow_zeros w 29 3 ty 79 j0 _ .i64 .i64 Tryz.underlying29 Tryz.underlying3 ji d7 (some ⟨g,0,none⟩) i n (us.take (i*2)) b5 (n+1-i) (by omega) (by omega) (by omega) (by omega) (by rw[d0];omega) (by rw[d0,show i+(n+1-i)=n+1 by omega];exact growslice_fits (by omega) (by omega));rw[show i+(n+1-i)=n+1 by omega,<- hG,<- a5,<- hN,<- a6]at h;rw[show(n:Int)+1-(i:Int)=((n+1-i:Nat):Int) by omega];exact h
 have e7:a2.size=G*2:=by
  rw[a5];simp only[yey,ycl,a4,Builtin.zeroCells,Value.cells,Array.size_map,Array.size_range];simp;omega
 have a8:a2.toList.take (i*2)=us.take (i*2):=by
  rw[a5,yd6,yd6,ybk,ybw (by simp[a4]),ybe (by simp[a4])]
 have d3:W1.heap[N]?=some (.cells a2 79 (0,0)):=by
  rw[a6,hN];exact heap_alloc_new w.drew _
 have a3:∀k,k<w.heap.size->W1.heap[k]?=w.heap[k]?:=fun k hk=>by
  rw[a6];exact heap_alloc_old w.drew _ hk
 obtain⟨R1,a7⟩:∃R1,R1=(a2.toList.take (i*2)++news++a2.toList.drop (i*2+news.length)).toArray:=⟨_,rfl⟩
 have b6:∀(W:World) ty dl dc,W.heap[N]?=some (.cells a2 79 (0,0))->W.heap[vb]?=some (.cells cur2 79 (0,0))->1<=dl->(Builtin.copy_ #[29,29] ty #[.slice (some ⟨N,i*2,none⟩) dl dc,.slice (some ⟨vb,0,none⟩) 1 vc]).run Tryz.prog W=.ok (goInt ((1:Nat):Int)) (W.setRow N R1):=fun W ty dl dc hW hV hd=>by
  have hm:Nat.min 1 dl=1:=by simp only[yfd];split<;>omega
  have:=zpg (P:=Tryz.prog) W 29 29 ty 79 N (i*2) dl dc ⟨vb,0,none⟩ 1 vc a2 79 news 2 Tryz.underlying29 (by rw[ji];simp[c0]) hW (by rw[hm,hl]) (fun j v hj=>by
   rw[Addr.add_lit]
   have d8:=(zkI.1 hj).1
   simp only[World.cell?,hV]
   rw[<- hvz,ya7,if_pos (by omega),yaz]at hj
   simpa using hj) (by rw[hl];omega) h2
  rw[hm,<- a7]at this;exact this
 have b8:R1.size=G*2:=by
  rw[a7];simp only[ycl,zkJ,yaf,ya8,yck,hl];omega
 obtain⟨R2,b0⟩:∃R2,R2=(R1.toList.take ((i+1)*2)++us.drop (i*2)++R1.toList.drop ((i+1)*2+(us.drop (i*2)).length)).toArray:=⟨_,rfl⟩
 have b7:∀(W:World) ty dl dc sl sc,W.heap[N]?=some (.cells R1 79 (0,0))->W.heap[g]?=some (.cells cur 79 (0,0))->dl=n-i->sl=n-i->(Builtin.copy_ #[29,29] ty #[.slice (some ⟨N,(i+1)*2,none⟩) dl dc,.slice (some ⟨g,i*2,none⟩) sl sc]).run Tryz.prog W=.ok (goInt ((n-i:Nat):Int)) (W.setRow N R2):=fun W ty dl dc sl sc hW hV hd hs=>by
  have hm:Nat.min sl dl=n-i:=by rw[hd,hs];simp only[yfd];split<;>omega
  have:=zpg (P:=Tryz.prog) W 29 29 ty 79 N ((i+1)*2) dl dc ⟨g,i*2,none⟩ sl sc R1 79 (us.drop (i*2)) 2 Tryz.underlying29 (by rw[ji];simp[c0]) hW (by rw[hm,b2]) (fun j v hj=>by
   rw[Addr.add_lit]
   rw[ybj]at hj
   have d8:=(zkI.1 hj).1
   simp only[World.cell?,hV]
   rw[a9 _ (by omega)]
   simpa using hj) (by rw[b2,b8];omega) (fun v hv=>h1 v (ybg hv))
  rw[hm,<- b0]at this;exact this
 have d4:1<=n+1-i:=by omega
 have f9:vb≠N:=by omega
 have e4:g≠N:=by omega
 have e3:=fun ty dc=>b6 W1 ty (n+1-i) dc d3 (by rw[a3 vb e6];exact hvb) d4;have d5:(W1.setRow N R1).heap[N]?=some (.cells R1 79 (0,0)):=setRow_heap W1 N a2 R1 _ _ d3
 have e2:(W1.setRow N R1).drew.heap[g]?=some (.cells cur 79 (0,0)):=by
  show(W1.setRow N R1).heap[g]?=_;rw[setRow_other _ _ _ _ e4,a3 g d9];exact hg
 have e0:=fun ty dl dc sl sc h3 h4=>b7 (W1.setRow N R1).drew ty dl dc sl sc d5 e2 h3 h4;obtain⟨US,b4⟩:∃US,US=us.take (i*2)++news++us.drop (i*2):=⟨_,rfl⟩;rw[<- b4]
 have c9:∃REST,R2.toList=US++REST:=by
  refine⟨R1.toList.drop ((i+1)*2+(us.drop (i*2)).length),?_⟩
  have hT:R1.toList.take ((i+1)*2)=us.take (i*2)++news:=by
   have hz:(us.take (i*2)++news).length=(i+1)*2:=by rw[zkJ,a4,hl];omega
   rw[a7,a8,<- hz,ybw (yam _),yax]
  rw[b0,hT,b4]
 have e8:US.length=(n+1)*2:=by
  rw[b4,zkJ,zkJ,b2,hl,a4];omega
 have c7:R2.size=G*2:=by
  rw[b0];simp only[ycl,zkJ,yaf,ya8,yck];omega
 have g1:=Lib.hid a7;have HN:=Lib.hid hN;have HG:=Lib.hid hG;have b3:=Lib.hid a6;have d2:=Lib.hid a3;clear b4 a7 b0 b2 c6 hct a9 hl hvz h1 h2 b5 a5 a8 a4 b6 b7 e7 b8 hG hN a6 a3;have e5:Tryz.prog.follows Departure.mixedOrders=true:=by kernel_rfl
 have g2:IntKind.i64.wrap ((i:Int)+1)=(i:Int)+1:=by rw[IntKind.wrap_i64];omega
 have g6:(0:Int)<=(i:Int)+1:=by omega
 have g3:i<=n:=by omega
 have f8:((i:Int)+1).toNat=i+1:=by omega
 have f4:(i:Int)<=(n:Int):=by omega
 have g4:¬(G=i):=by omega
 have f3:¬(G=i+1):=by omega
 have f6:¬(n=i):=by omega
 go_enter Tryz.func168,Tryz.ntmps168
 go_wp2_with (first
  |(at_builtin;refine Lib.wpList_append_run _ rfl _ _ _ _ rfl _ _ rfl rfl _ _ (d6 _) ?_)
  |(at_builtin;refine zqa _ rfl _ _ 29 29 rfl _ _ rfl rfl (e3 _ _) ?_))
 go_region_law_o (refine zuh rfl _ _ 29 29 rfl _ _ (by simp[Act.eval,Act.put]) (by simp[Act.eval,Act.put]) (e0 _ _ _ _ _ (by omega) (by omega)) ?_)
 go_wp2
 go_ret
 obtain⟨REST,b9⟩:=c9;have hN:=HN.out;refine⟨_,rfl,⟨e8,.inr ⟨N,G,R2,rfl,yag _,?_,e1,c8,c7,?_⟩⟩,⟨?_,?_,?_,?_,fun k hk f5=>?_⟩,.inr (by rw[<- hN];rfl)⟩
 ·exact setRow_heap _ N R1 R2 _ _ d5
 ·rw[b9,ybw (by omega),ybe (by omega)]
 ·rw[b3.out];rfl
 ·rw[b3.out];rfl
 ·rw[b3.out];rfl
 ·simp[b3.out]
 ·have d1:k≠N:=by omega
  rw[setRow_other _ _ _ _ d1];show(W1.setRow N R1).heap[k]?=_;rw[setRow_other _ _ _ _ d1,d2.out k hk]
theorem zxh{α:Type}{k:Nat}:∀{es:List (List α)} (i:Nat),(∀e∈es,e.length=k)->(es.take i).flatten=es.flatten.take (i*k)∧(es.drop i).flatten=es.flatten.drop (i*k)
 |[],i,_=>by simp
 |e::es,0,_=>by simp
 |e::es,i+1,h=>by
  have he:=h e (by simp);obtain⟨h1,h2⟩:=zxh (es:=es) i fun x hx=>h x (by simp[hx]);have hz:(i+1)*k=e.length+i*k:=by rw[he,yd2,ycn]
  constructor
  ·rw[ydi,ybm,ybm,h1,hz,yej (l₁:=e),ybe (l:=e) (by omega),yc7]
  ·rw[List.drop_succ_cons,ybm,h2,hz,ye0 (l₁:=e),ycp (l:=e) (by omega),ycg,yc7]
def RelW(R:Value->IV->Prop)(us:List Value)(xs:List IV):Prop:=∀(i:Nat) u x,us[i]?=some u->xs[i]?=some x->R u x
theorem RelW.append{R:Value->IV->Prop}{us vs:List Value}{xs ys:List IV}(hl:us.length=xs.length)(h1:RelW R us xs)(h2:RelW R vs ys):RelW R (us++vs) (xs++ys):=fun i u x hu hx=>by
 rcases ya6 i us.length with h|h
 ·rw[ybn h]at hu;rw[ybn (by omega)]at hx;exact h1 i u x hu hx
 ·rw[ybp h]at hu;rw[ybp (by omega),<- hl]at hx;exact h2 _ u x hu hx
theorem RelW.take{R:Value->IV->Prop}{us:List Value}{xs:List IV}(k:Nat)(h:RelW R us xs):RelW R (us.take k) (xs.take k):=fun i u x hu hx=>by
 rw[ya7]at hu hx;split at hu
 ·rename_i g;rw[if_pos g]at hx;exact h i u x hu hx
 ·cases hu
theorem RelW.drop{R:Value->IV->Prop}{us:List Value}{xs:List IV}(k:Nat)(h:RelW R us xs):RelW R (us.drop k) (xs.drop k):=fun i u x hu hx=>by
 rw[ybj]at hu hx;exact h _ u x hu hx
set_option maxRecDepth 100000 in
theorem sp_of_insert{es:List (List IV)}{e:List IV}{i:Int}(hk:∀x∈es,x.length=2)(hke:e.length=2)(h0:0<=i)(h1:i<=(↑es.length:Int))(hn:es.length<=1000000) :
  Sp Tryz.prog 168 [.row 79 2 es,.im (nI i),.row 79 2 [e]] (.row 79 2 (es.take i.toNat++[e]++es.drop i.toNat)):=by
 refine⟨fun args w=>zfl rfl rfl rfl args w,fun w S vs F hS hv c7 hF=>?_⟩
 match vs,hv with
 |[v,vi,va],⟨F1,F2,⟨hv1,inn,hrow,e1⟩,⟨F3,F4,⟨h4,e2⟩,⟨F5,F6,⟨hva1,inn2,hrow2,e5⟩,h6,e6⟩,e3⟩,e4⟩ =>
  have h6:F6=[]:=h6;have e1:F1=(zbg v).toList:=e1;have e5:F5=(zbg va).toList:=e5;subst e1 e2 e5 h6;have e6:F4=(zbg va).toList:=by rw[e6];simp
  subst e6;have e3:F2=(zbg va).toList:=by rw[e3];simp
  subst e3;subst e4;cases h4;obtain⟨us,_,_,f5,a3,b6,b2,hr⟩:=hrow;obtain⟨news,_,_,_,a8,a9,b0,e8⟩:=hrow2;have d1:([e]:List (List IV)).length=1:=rfl;rw[d1]at a8
  have d6:news.length=2:=by
   rw[a9];simp[hke]
  obtain⟨vb,vc,a2,rfl,_,b9,f9,f6,f7,c0⟩:∃vb vc a2,va=.slice (some ⟨vb,0,none⟩) 1 vc∧0<=vb∧w.heap[vb]?=some (.cells a2 79 (0,0))∧1<=vc∧vc<=maxLen∧a2.size=vc*2∧a2.toList.take (1*2)=news:=by
   rcases a8.2 with⟨_,h⟩|h
   ·cases h
   ·exact h
  have d3:zbg (.slice (some ⟨vb,0,none⟩) 1 vc)=some vb:=rfl;rw[d3]at c7 hF ⊢;have d4:¬S vb∧vb<w.heap.size:=hF vb (by simp);have f4:us.length=es.length*2:=a3.1;have ei:i=(↑i.toNat:Int):=by omega
  have c6:Calls Tryz.prog 168 #[v,.int .i64 i,.slice (some ⟨vb,0,none⟩) 1 vc] w (InsPost 79 2 es.length (us.take (i.toNat*2)++news++us.drop (i.toNat*2)) v w):=by
   rw[ei];simp only[ybf];by_cases d5:i.toNat=es.length
   ·have:=insert_end w v es.length vb vc us news a3 (by omega) (fun j u hj=>by
     have c8:=(zkI.1 hj).1
     simp only[World.cell?,b9]
     rw[<- c0,ya7,if_pos (by omega),yaz]at hj
     simpa using hj) b0 hn
    rw[d5,ybe (by omega),ycp (by omega),ybd];exact this
   ·rcases a3.2 with⟨_,h⟩|⟨g,a5,cur,hv,_,hg,f8,e9,c9,d0⟩
    ·omega
    ·subst hv
     have e7:vb≠g:=fun e=>by
      have:zbg (.slice (some ⟨g,0,none⟩) es.length a5)=some g:=rfl;rw[this,e]at c7;simp at c7
     by_cases b5:es.length<a5
     ·exact insert_shift w g a5 es.length i.toNat vb vc cur a2 us news hg c9 d0 e9 e7 b9 c0 d6 b2 b0 (by omega) b5 hn
     ·have hc:a5=es.length:=by omega
      subst hc;exact insert_grow w g es.length i.toNat vb vc cur a2 us news hg c9 d0 b9 c0 d6 b2 b0 (by omega) hn
  refine c6.mono ?_;rintro ex w' ⟨v',rfl,ho,a4,d9⟩;have d8:=a3
  have b4:v.ownBlock=zbg v:=by
   rcases a3.2 with⟨rfl,_⟩|⟨g,a5,cur,rfl,_⟩<;>rfl
  have b3:v'.ownBlock=zbg v':=by
   rcases ho.2 with⟨rfl,_⟩|⟨g,a5,cur,rfl,_⟩<;>rfl
  have c8:=ho.lt
  have b7:∀b∈(zbg v').toList,(w.heap.size<=b∨b∈(zbg v).toList)∧b<w'.heap.size:=fun b hb=>by
   have h2:zbg v'=some b:=by simpa using hb
   refine⟨?_,?_⟩
   ·rcases d9 with h|h
    ·rw[b4,b3,h2]at h;exact .inr (by rw[<- h];simp)
    ·rw[b3,h2]at h;injection h with h
     exact .inl (by omega)
   ·refine(c8 b ?_).2;rw[ziy ho];simpa using hb
  have f3:Belo (fun b=>b∈(zbg v).toList++[vb]) w.heap.size w w':=⟨a4.os,a4.tape,a4.output,a4.size,fun b hb e0=>a4.block b hb fun h=>e0 (by
   rw[b4]at h
   rw[<- h]
   simp)⟩
  have d2:∀b,S b->b<w.heap.size∧b∉(zbg v).toList∧b≠vb:=fun b hb=>⟨hS b hb,fun hm=>(hF b (by simp[hm])).1 hb,fun e=>d4.1 (e ▸ hb)⟩
  have b8:∀u x,RepI w S u x->RepI w' (fun b=>(S b∨w.heap.size<=b∨b∈(zbg v).toList++[vb])∧b<w'.heap.size∧b∉(zbg v').toList) u x:=fun u x h=>h.mono (fun b hb=>⟨.inl hb,ycm (hS b hb) a4.size,fun hm=>by
    rcases (b7 b hm).1 with h2|h2
    ·have:=hS b hb
     omega
    ·exact(d2 b hb).2.1 h2⟩) fun p y hp hy=>by
   have h6:=a4.block p.block (hS _ hp) fun h=>(d2 _ hp).2.1 (by
    rw[b4]at h
    rw[<- h]
    simp)
   have h7:w'.cell? p=w.cell? p:=by
    unfold World.cell?;rw[h6]
   rw[h7];exact hy
  have d7:=zxh (es:=es) (k:=2) i.toNat hk
  have a6:(es.take i.toNat++[e]++es.drop i.toNat).flatten=es.flatten.take (i.toNat*2)++[e].flatten++es.flatten.drop (i.toNat*2):=by
   rw[ycj,ycj,d7.1,d7.2]
  have a7:(es.take i.toNat++[e]++es.drop i.toNat).length=es.length+1:=by
   rw[zkJ,zkJ,yaf,ya8,ybi];omega
  refine⟨v',(zbg v').toList,rfl,f3,⟨[v'],(zbg v').toList,[],rfl,⟨(zbg v').toList,[],⟨row_one ho,[],⟨_,by decide,fun x hx=>?_,by rw[a7];omega,by rw[a7];exact ho,?_,fun u hu=>?_,?_⟩,rfl⟩,rfl,by simp⟩,rfl,by simp⟩,?_,fun b hb=>⟨?_,(b7 b hb).2⟩⟩
  ·rcases yak.1 hx with hx|hx
   ·rcases yak.1 hx with hx|hx
    ·exact hk x (ya3 hx)
    ·rw[yba.1 hx];exact hke
   ·exact hk x (ybg hx)
  ·rw[a6];simp only[zkJ,yaf,ya8,<- b6,<- a9]
  ·rcases yak.1 hu with hu|hu
   ·rcases yak.1 hu with hu|hu
    ·exact b2 u (ya3 hu)
    ·exact b0 u hu
   ·exact b2 u (ybg hu)
  ·rw[a6];have q1:RelW (RepI w S) us es.flatten:=hr;have q2:RelW (RepI w S) news [e].flatten:=e8;have:=RelW.append (by simp only[zkJ,yaf,<- b6,<- a9]) (RelW.append (by simp only[yaf,<- b6]) (q1.take (i.toNat*2)) q2) (q1.drop (i.toNat*2));exact fun j u x hu hx=>b8 u x (this j u x hu hx)
  ·cases zbg v'<;>simp
  ·rcases (b7 b hb).1 with h|h
   ·exact .inl h
   ·exact .inr (by simp[h])
end
def zpi{α:Type}(by_:Nat)(l:List α):Option (List α):=chk (za3 l.length by_) (some l)
def zd3(l:yab):Option (yab):=zpi 8 l
theorem zee(l r:yab)(h:zd3 l=some r):Sp Tryz.prog 47 [.im (nL cI l)] (.row 3 1 (List.map cI r)):=by
 obtain⟨h1,h⟩:=zaj h;injection h with h
 subst h;exact zqs (by_:=8) (fun args w=>zfl rfl rfl rfl args w) (by decide) clone_int (fun e he=>by obtain⟨y,_,rfl⟩:=yae.1 he;rfl) (by rw[zkK];exact h1)
def zir(l:yaa):Option (yaa):=zpi 24 l
theorem zsv(l r:yaa)(h:zir l=some r):Sp Tryz.prog 130 [.im (nL (cL cI) l)] (.row 48 1 (List.map (cL cI) r)):=by
 obtain⟨h1,h⟩:=zaj h;injection h with h
 subst h;exact zqs (by_:=24) (fun args w=>zfl rfl rfl rfl args w) (by decide) clone_words (fun e he=>by obtain⟨y,_,rfl⟩:=yae.1 he;rfl) (by rw[zkK];exact h1)
def zio(l:yaa)(f:(yab)->(yab)->Option Int):Option (yaa):=ztu l f
theorem zoo(l:yaa)(f:(yab)->(yab)->Option Int)(g:FuncId)(hd:CmpE Tryz.prog g (fun x=>nL cI x) f)(r:yaa)(h:zio l f=some r):Sp Tryz.prog 131 [.lent (.row 48 1 (List.map (cL cI) l)),.im (.fn g [])] (.mk true [] [.lent (.row 48 1 (List.map (cL cI) r))]) :=
 zy7 (fun args w=>zfl rfl rfl rfl args w) sortC_words (by decide) (fun _=>rfl) (fun W S us x hl h1 hr=>rep_of_one hl hr) hd.1 hd.2 h
def zj2(l:List zaa):Option (List zaa):=zpi 48 l
theorem zre(l r:List zaa)(h:zj2 l=some r):Sp Tryz.prog 119 [.im (nL zae l)] (.row 79 2 (List.map zae r)):=by
 obtain⟨h1,h⟩:=zaj h;injection h with h
 subst h;exact zqs (by_:=48) (fun args w=>zfl rfl rfl rfl args w) (by decide) clone_traces (fun e he=>by obtain⟨y,_,rfl⟩:=yae.1 he;rfl) (by rw[zkK];exact h1)
def zi4(l:List zaa)(i:Int)(v:List zaa):Option (List zaa):=chk (0<=i∧i<=(↑l.length:Int)∧v.length=1∧l.length<=1000000) (some (l.take i.toNat++v++l.drop i.toNat))
theorem zp3(l:List zaa)(i:Int)(v:List zaa)(r:List zaa)(h:zi4 l i v=some r):Sp Tryz.prog 168 [.row 79 2 (List.map zae l),.im (nI i),.row 79 2 (List.map zae v)] (.row 79 2 (List.map zae r)):=by
 obtain⟨h1,h⟩:=zaj h;injection h with h
 subst h
 match v,h1 with
 |[x],h1 =>
  have:=sp_of_insert (es:=l.map zae) (e:=zae x) (i:=i) (fun e he=>by obtain⟨y,_,rfl⟩:=yae.1 he;rfl) rfl h1.1 (by rw[zkK];exact h1.2.1) (by rw[zkK];exact h1.2.2.2);simpa[ya1,yei,List.map_drop]using this
def zh8(l:List zaa)(f:zaa->zaa->Option Int):Option (List zaa):=ztu l f
theorem zn5(l:List zaa)(f:zaa->zaa->Option Int)(g:FuncId)(hd:CmpE Tryz.prog g (fun x=>.agg (zae x)) f)(r:List zaa)(h:zh8 l f=some r):Sp Tryz.prog 120 [.lent (.row 79 2 (List.map zae l)),.im (.fn g [])] (.mk true [] [.lent (.row 79 2 (List.map zae r))]) :=
 zy7 (fun args w=>zfl rfl rfl rfl args w) sortC_finder (by decide) (fun _=>rfl) (fun W S us x hl h1 hr=>.agg _ _ hr.1 h1 hr.2) hd.1 hd.2 h
def zok(m_:zad):Option Bool:=(cond (decide ((↑m_.Next.length:Int)<=12)) (cond (decide ((↑m_.Out.length:Int)<=12)) (some (decide (m_.Inputs<=4))) (some false)) (some false)).bind (fun a2=>some a2)
def zbm.s2(s_:yab)(f_:Int->Option Bool)(a2:Nat):Option (Nat⊕(Unit⊕Int)):=cond (decide ((↑a2:Int)<(↑s_.length:Int))) (idxn s_ a2 fun a6=>(f_ a6).bind fun a7=>cond (a7) (some (.inr (.inr (↑a2:Int)))) (some (.inl (a2+1)))) (some (.inr (.inl ())))
def zbm(s_:yab)(f_:Int->Option Bool):Option Int:=(iter (fun(s:Nat)=>zbm.s2 s_ f_ s) fuel 0).bind (Sum.elim (fun _=>some (-1:Int)) some)
def zco(s_:yab)(f_:Int->Option Bool):Option Bool:=(zbm s_ f_).bind fun a2=>some (decide (0<=a2))
def zh1(inputs_:Int):Option Bool:=(cond (decide (1<=inputs_)) (some (decide (inputs_<=1024))) (some false)).bind (fun a2=>some a2)
def zih(a_:Int)(p1_:Int):Option Bool:=(cond (decide (a_<0)) (some true) (some (decide (p1_<=a_)))).bind (fun a2=>some a2)
def zba.s2(s_:yab)(f_:Int->Option Bool)(a2:Nat):Option (Nat⊕(Unit⊕Int)):=cond (decide ((↑a2:Int)<(↑s_.length:Int))) (idxn s_ a2 fun a6=>(f_ a6).bind fun a7=>cond (a7) (some (.inr (.inr (↑a2:Int)))) (some (.inl (a2+1)))) (some (.inr (.inl ())))
def zba(s_:yab)(f_:Int->Option Bool):Option Int:=(iter (fun(s:Nat)=>zba.s2 s_ f_ s) fuel 0).bind (Sum.elim (fun _=>some (-1:Int)) some)
def zcz(s_:yab)(f_:Int->Option Bool):Option Bool:=(zba s_ f_).bind fun a2=>some (decide (0<=a2))
def zfq(w_:yab)(inputs_:Int):Option Int:=(zh1 inputs_).bind fun a2=>cond ((!a2)) (some 2) (cond (decide (1024<(↑w_.length:Int))) (some 3) ((zcz w_ (fun u0=>zih u0 inputs_)).bind fun a6=>cond (a6) (some 1) (some 0)))
def zfm(a_:yab)(b_:yab)(p2_:(yab)->(yab)->Option Int):Option Bool:=(p2_ a_ b_).bind fun a2=>some (decide (a2=0))
def zan.s18(eq_:(yab)->(yab)->Option Bool)(a8:Nat)(a2:yaa)(a7:Nat)(a6:Nat):Option ((yaa×Nat×Nat)⊕(yaa×Nat)):=cond (decide ((↑a6:Int)<(↑(List.length a2-a8):Int))) (idxn a2 (a8+a6) fun b0=>chk ((0:Int)<=((↑a6:Int)-1)) (idxn a2 (a8+(Int.toNat ((↑a6:Int)-1))) fun b2=>(eq_ b0 b2).bind fun b3=>cond ((!b3)) (idxn a2 (a8+a6) fun b4=>idxn a2 a7 fun b5=>chk (inR ((↑a7:Int)+1)) (some (.inl ((List.set a2 a7 b4),(a7+1),(a6+1))))) (some (.inl (a2,a7,(a6+1)))))) (some (.inr (a2,a7)))
def zan.k19(a6:yaa)(a2:Nat):Option (Nat⊕(Unit⊕yaa)):=chk ((0:Int)<=(↑a2:Int)∧(↑a2:Int)<=(↑a6.length:Int)∧0<List.length a6) (chk (a2<=List.length a6) (chk ((0:Int)<=(↑a2:Int)∧(↑a2:Int)<=(↑(List.length (List.take a2 a6++List.replicate (List.length a6-a2) [])):Int)∧0<List.length (List.take a2 a6++List.replicate (List.length a6-a2) [])) (some (.inr (.inr (List.take a2 (List.take a2 a6++List.replicate (List.length a6-a2) [])))))))
def zan.s20(s_:yaa)(eq_:(yab)->(yab)->Option Bool)(a2:Nat):Option (Nat⊕(Unit⊕yaa)):=cond (decide ((↑a2:Int)<(↑s_.length:Int))) (idxn s_ a2 fun a6=>idx s_ ((↑a2:Int)-1) fun a7=>(eq_ a6 a7).bind fun a8=>cond (a8) (chk ((0:Int)<=(↑a2:Int)∧(↑a2:Int)<=(↑s_.length:Int)∧0<List.length s_) ((iter (fun(s:yaa×Nat×Nat)=>zan.s18 eq_ a2 s.1 s.2.1 s.2.2) fuel (s_,a2,1)).bind (fun s=>zan.k19 s.1 s.2))) (some (.inl (a2+1)))) (some (.inr (.inl ())))
def zan(s_:yaa)(eq_:(yab)->(yab)->Option Bool):Option yaa:=cond (decide ((↑s_.length:Int)<2)) (some s_) ((iter (fun(s:Nat)=>zan.s20 s_ eq_ s) fuel 1).bind (Sum.elim (fun _=>some s_) some))
def zcv.s2(a7:yaa)(a6:yaa)(a2:Nat):Option ((yaa×Nat)⊕yaa):=cond (decide ((↑a2:Int)<(↑a7.length:Int))) (idxn a6 a2 fun a8=>(zd3 a8).bind fun b0=>idxn a6 a2 fun b2=>chk (inR ((↑a2:Int)+1)) (some (.inl ((List.set a6 a2 b0),(a2+1))))) (some (.inr a6))
def zcv(l_:yaa)(order_:(yab)->(yab)->Option Int):Option yaa:=(zir l_).bind fun a6=>(zio a6 order_).bind fun a7=>(zan a7 (fun u0 u1=>zfm u0 u1 order_)).bind fun a2=>(iter (fun(s:yaa×Nat)=>zcv.s2 a2 s.1 s.2) fuel (a2,0)).bind (fun a8=>some a8)
def cmp_isNaN_int(x_:Int):Option Bool:=some (decide (x_≠x_))
def cmp_Compare_int(x_:Int)(y_:Int):Option Int:=(cmp_isNaN_int x_).bind fun a6=>(cmp_isNaN_int y_).bind fun a2=>cond (a6) (cond (a2) (some 0) (some (-1:Int))) (cond (a2) (some 1) (cond (decide (x_<y_)) (some (-1:Int)) (cond (decide (y_<x_)) (some 1) (some 0))))
def zbo.s2(s1_:yab)(s2_:yab)(a2:Nat):Option (Nat⊕(Unit⊕Int)):=cond (decide ((↑a2:Int)<(↑s1_.length:Int))) (idxn s1_ a2 fun a7=>cond (decide ((↑s2_.length:Int)<=(↑a2:Int))) (some (.inr (.inr 1))) (idxn s2_ a2 fun a8=>(cmp_Compare_int a7 a8).bind fun a6=>cond (decide (a6≠0)) (some (.inr (.inr a6))) (some (.inl (a2+1))))) (some (.inr (.inl ())))
def zbo(s1_:yab)(s2_:yab):Option Int:=(iter (fun(s:Nat)=>zbo.s2 s1_ s2_ s) fuel 0).bind (Sum.elim (fun _=>cond (decide ((↑s1_.length:Int)<(↑s2_.length:Int))) (some (-1:Int)) (some 0)) some)
def ze4.s2(vals_:yab)(a2:Nat):Option (Nat⊕(Unit⊕Int)):=cond (decide ((↑a2:Int)<(↑vals_.length:Int))) (idxn vals_ a2 fun a6=>cond (decide (a6≠0)) (some (.inr (.inr a6))) (some (.inl (a2+1)))) (some (.inr (.inl ())))
def ze4(vals_:yab):Option Int:=(iter (fun(s:Nat)=>ze4.s2 vals_ s) fuel 0).bind (Sum.elim (fun _=>some 0) some)
def zer(a_:yab)(b_:yab):Option Int:=(cmp_Compare_int (↑a_.length:Int) (↑b_.length:Int)).bind fun a2=>(zbo a_ b_).bind fun a6=>(ze4 [a2,a6]).bind fun a7=>some a7
def zcx(l_:yaa):Option yaa:=(zcv l_ (fun u0 u1=>zer u0 u1)).bind fun a2=>some a2
def zbz.s13(part_:(yab)->Int->Option yab)(a7:yab)(a6:yaa)(a2:Nat):Option ((yaa×Nat)⊕yaa):=cond (decide ((↑a2:Int)<((↑a7.length:Int)+1))) ((part_ a7 (↑a2:Int)).bind fun a8=>chk (za3 (List.length a6+1) 24) (chk (inR ((↑a2:Int)+1)) (some (.inl ((a6++[a8]),(a2+1)))))) (some (.inr a6))
def zbz.s14(l_:yaa)(part_:(yab)->Int->Option yab)(a6:yaa)(a2:Nat):Option ((yaa×Nat)⊕yaa):=cond (decide ((↑a2:Int)<(↑l_.length:Int))) (idxn l_ a2 fun a7=>chk (inR ((↑a7.length:Int)+1)) ((iter (fun(s:yaa×Nat)=>zbz.s13 part_ a7 s.1 s.2) fuel (a6,0)).bind (fun a8=>some (.inl (a8,(a2+1)))))) (some (.inr a6))
def zbz(l_:yaa)(part_:(yab)->Int->Option yab):Option yaa:=(iter (fun(s:yaa×Nat)=>zbz.s14 l_ part_ s.1 s.2) fuel ([],0)).bind (fun a2=>(zcx a2).bind fun a6=>some a6)
def zfa(w_:yab)(i_:Int):Option yab:=chk ((0:Int)<=i_∧i_<=(↑w_.length:Int)) (some (List.take (Int.toNat i_) w_))
def zf9(l_:yaa):Option yaa:=(zbz l_ (fun u0 u1=>zfa u0 u1)).bind fun a2=>some a2
def za1.s2(slices_:List (yaa))(size73:Nat)(a2:Nat):Option ((Nat×Nat)⊕Nat):=cond (decide ((↑a2:Int)<(↑slices_.length:Int))) (idxn slices_ a2 fun a6=>chk (inR ((↑size73:Int)+(↑a6.length:Int))) (cond (decide (((↑size73:Int)+(↑a6.length:Int))<0)) (none) (some (.inl ((size73+a6.length),(a2+1)))))) (some (.inr size73))
def za1.s4(slices_:List (yaa))(a2:yaa)(a6:Nat):Option ((yaa×Nat)⊕yaa):=cond (decide ((↑a6:Int)<(↑slices_.length:Int))) (idxn slices_ a6 fun a7=>chk (za3 (List.length a2+List.length a7) 24) (some (.inl ((a2++a7),(a6+1))))) (some (.inr a2))
def za1(slices_:List (yaa)):Option yaa:=(iter (fun(s:Nat×Nat)=>za1.s2 slices_ s.1 s.2) fuel (0,0)).bind (fun size68=>(zl1 (↑size68:Int)).bind fun a6=>(iter (fun(s:yaa×Nat)=>za1.s4 slices_ s.1 s.2) fuel (a6,0)).bind (fun a2=>some a2))
def zg7(lists_:List (yaa)):Option yaa:=(za1 lists_).bind fun a2=>(zcx a2).bind fun a6=>some a6
def zf4(l_:yaa)(i_:Int):Option Bool:=(cond (decide (i_=0)) (some true) (chk (inR (i_-1)) (idx l_ (i_-1) fun a2=>idx l_ i_ fun a6=>(zer a2 a6).bind fun a7=>some (decide (a7<0))))).bind (fun a8=>some a8)
def zcy.s2(l_:yaa)(a6:Int)(a2:Nat):Option ((Int×Nat)⊕Int):=cond (decide ((↑a2:Int)<(↑l_.length:Int))) (idxn l_ a2 fun a7=>some (.inl ((max a6 (↑a7.length:Int)),(a2+1)))) (some (.inr a6))
def zcy(l_:yaa):Option Int:=(iter (fun(s:Int×Nat)=>zcy.s2 l_ s.1 s.2) fuel (0,0)).bind (fun a2=>some a2)
def zbj.s2(t_:zab)(a6:List (ByteArray×Bool))(a2:Nat):Option (((List (ByteArray×Bool))×Nat)⊕((List (ByteArray×Bool)))):=cond (decide ((↑a2:Int)<(↑t_.Prefixes.length:Int))) (idxn t_.Prefixes a2 fun a7=>(zml a7).bind fun a8=>some (.inl ((mset a8 true a6),(a2+1)))) (some (.inr a6))
def zbj.s4(t_:zab)(b5:List (ByteArray×Bool))(a6:Nat):Option (Nat⊕(Unit⊕Int)):=cond (decide ((↑a6:Int)<(↑t_.Prefixes.length:Int))) (idxn t_.Prefixes a6 fun a2=>(zfq a2 t_.Inputs).bind fun a7=>cond (decide (a7≠0)) (some (.inr (.inr a7))) ((cond (decide ((↑a6:Int)=0)) (cond (decide (0<(↑a2.length:Int))) (some true) ((zf4 t_.Prefixes (↑a6:Int)).bind fun a8=>some (!a8))) ((zf4 t_.Prefixes (↑a6:Int)).bind fun b0=>some (!b0))).bind (fun b2=>cond (b2) (some (.inr (.inr 10))) ((cond (decide (0<(↑a2.length:Int))) (chk ((0:Int)<=((↑a2.length:Int)-1)∧((↑a2.length:Int)-1)<=(↑a2.length:Int)) ((zml (List.take (Int.toNat ((↑a2.length:Int)-1)) a2)).bind fun b3=>some (!((mget b3 b5).getD false)))) (some false)).bind (fun b4=>cond (b4) (some (.inr (.inr 1))) (some (.inl (a6+1)))))))) (some (.inr (.inl ())))
def zbj.s6(t_:zab)(a2:Nat):Option (Nat⊕(Unit⊕Int)):=cond (decide ((↑a2:Int)<(↑t_.Suffixes.length:Int))) (idxn t_.Suffixes a2 fun a6=>(zfq a6 t_.Inputs).bind fun a7=>cond (decide (a7≠0)) (some (.inr (.inr a7))) (cond (decide ((↑a6.length:Int)=0)) (some (.inr (.inr 19))) ((zf4 t_.Suffixes (↑a2:Int)).bind fun a8=>cond ((!a8)) (some (.inr (.inr 10))) (some (.inl (a2+1)))))) (some (.inr (.inl ())))
def zbj(t_:zab):Option Int:=(cond (decide (t_.Inputs<1)) (some true) (some (decide (64<t_.Inputs)))).bind (fun b0=>cond (b0) (some 2) (cond (decide ((↑t_.Prefixes.length:Int)=0)) (some 19) ((cond (decide (10000<(↑t_.Prefixes.length:Int))) (some true) (cond (decide (10000<(↑t_.Suffixes.length:Int))) (some true) (chk (inR (t_.Inputs+1)) (chk (inR ((↑t_.Prefixes.length:Int)*(t_.Inputs+1))) (chk (inR (((↑t_.Prefixes.length:Int)*(t_.Inputs+1))*(↑t_.Suffixes.length:Int))) (some (decide (160000<(((↑t_.Prefixes.length:Int)*(t_.Inputs+1))*(↑t_.Suffixes.length:Int)))))))))).bind (fun b2=>cond (b2) (some 11) ((iter (fun(s:(List (ByteArray×Bool))×Nat)=>zbj.s2 t_ s.1 s.2) fuel (([]:List (ByteArray×Bool)),0)).bind (fun b3=>(iter (fun(s:Nat)=>zbj.s4 t_ b3 s) fuel 0).bind (Sum.elim (fun _=>(iter (fun(s:Nat)=>zbj.s6 t_ s) fuel 0).bind (Sum.elim (fun _=>(cond (decide ((↑t_.Suffixes.length:Int)<t_.Inputs)) (some true) (chk (inR (t_.Inputs-1)) (idx t_.Suffixes (t_.Inputs-1) fun a7=>some (decide (1<(↑a7.length:Int)))))).bind (fun a8=>cond (a8) (some 1) ((zcy t_.Prefixes).bind fun a2=>(zcy t_.Suffixes).bind fun a6=>chk (inR (a2+a6)) (cond (decide (1023<(a2+a6))) (some 3) (some 0))))) some)) some)))))))
def zg6(t_:zab)(next_:zab):Option (zab×Int):=(zbj next_).bind fun a2=>cond (decide (a2≠0)) (some (t_,a2)) (some (next_,0))
def zig(t_:zab)(w_:yab):Option (zab×Int):=(zbj t_).bind fun a2=>cond (decide (a2≠0)) (some (t_,a2)) ((zfq w_ t_.Inputs).bind fun a6=>cond (decide (a6≠0)) (some (t_,a6)) ((zf9 [w_]).bind fun a8=>(zg7 [t_.Prefixes,a8]).bind fun b0=>(zcx t_.Suffixes).bind fun b2=>(zg6 t_ (⟨t_.Inputs,b0,b2⟩:zab)).bind fun a7=>some (a7.1,a7.2)))
def ze8(w_:yab)(i_:Int):Option yab:=chk ((0:Int)<=i_∧i_<=(↑w_.length:Int)) (some (List.drop (Int.toNat i_) w_))
def zgb(l_:yaa):Option yaa:=(zbz l_ (fun u0 u1=>ze8 u0 u1)).bind fun a2=>some a2
def zcl.s2(a7:yaa)(a2:yaa)(a6:Nat):Option ((yaa×Nat)⊕yaa):=cond (decide ((↑a6:Int)<(↑a7.length:Int))) (idxn a7 a6 fun a8=>cond (decide (0<(↑a8.length:Int))) (chk (za3 (List.length a2+1) 24) (some (.inl ((a2++[a8]),(a6+1))))) (some (.inl (a2,(a6+1))))) (some (.inr a2))
def zcl(t_:zab)(w_:yab)(mode_:Int):Option (zab×Int):=(zbj t_).bind fun a7=>cond (decide (a7≠0)) (some (t_,a7)) ((zfq w_ t_.Inputs).bind fun a8=>cond (decide (a8≠0)) (some (t_,a8)) (cond (decide (mode_=0)) ((zig t_ w_).bind fun b0=>some (b0.1,b0.2)) (cond (decide (mode_=1)) ((zcx t_.Prefixes).bind fun b2=>(zcx t_.Suffixes).bind fun b3=>(zgb [w_]).bind fun b4=>(iter (fun(s:yaa×Nat)=>zcl.s2 b4 s.1 s.2) fuel (b3,0)).bind (fun b5=>(zcx b5).bind fun a2=>(zbj (⟨t_.Inputs,b2,a2⟩:zab)).bind fun a6=>cond (decide (a6≠0)) (some (t_,a6)) (some ((⟨t_.Inputs,b2,a2⟩:zab),0)))) (some (t_,2)))))
def ze1.s2(a_:yab)(b_:yab)(a2:Nat):Option (Nat⊕Nat):=(cond (decide ((↑a2:Int)<(↑a_.length:Int))) (cond (decide ((↑a2:Int)<(↑b_.length:Int))) (idxn a_ a2 fun a6=>idxn b_ a2 fun a7=>some (decide (a6=a7))) (some false)) (some false)).bind (fun a8=>cond (a8) (chk (inR ((↑a2:Int)+1)) (some (.inl (a2+1)))) (some (.inr a2)))
def ze1(a_:yab)(b_:yab):Option Int:=(iter (fun(s:Nat)=>ze1.s2 a_ b_ s) fuel 0).bind (fun a2=>some (↑a2:Int))
def zlm(a_:yab)(b_:yab):Option Bool:=(cond (decide ((↑a_.length:Int)=(↑b_.length:Int))) ((ze1 a_ b_).bind fun a2=>some (decide (a2=(↑a_.length:Int)))) (some false)).bind (fun a6=>some a6)
def ze9.s2(a_:yaa)(b_:yaa)(a2:Nat):Option (Nat⊕(Unit⊕Bool)):=cond (decide ((↑a2:Int)<(↑a_.length:Int))) (idxn a_ a2 fun a6=>idxn b_ a2 fun a7=>(zlm a6 a7).bind fun a8=>cond ((!a8)) (some (.inr (.inr false))) (some (.inl (a2+1)))) (some (.inr (.inl ())))
def ze9(a_:yaa)(b_:yaa):Option Bool:=cond (decide ((↑a_.length:Int)≠(↑b_.length:Int))) (some false) ((iter (fun(s:Nat)=>ze9.s2 a_ b_ s) fuel 0).bind (Sum.elim (fun _=>some true) some))
def zmn:Option zab:=some (⟨2,[[]],[[0],[1]]⟩:zab)
def L23_Gate:Option zac:=some (⟨2,[(⟨[0,0],[1,1]⟩:zaa),(⟨[0,1],[1,2]⟩:zaa),(⟨[1,0],[0,1]⟩:zaa),(⟨[1,1],[0,0]⟩:zaa)]⟩:zac)
def zjo(t_:zab)(w_:yab):Option (zab×Int):=(zbj t_).bind fun a2=>cond (decide (a2≠0)) (some (t_,a2)) (cond (decide ((↑w_.length:Int)=0)) (some (t_,19)) ((zfq w_ t_.Inputs).bind fun a6=>cond (decide (a6≠0)) (some (t_,a6)) ((zcx t_.Prefixes).bind fun a8=>(zg7 [t_.Suffixes,[w_]]).bind fun b0=>(zg6 t_ (⟨t_.Inputs,a8,b0⟩:zab)).bind fun a7=>some (a7.1,a7.2))))
def za7.s2(slices_:yaa)(size73:Nat)(a2:Nat):Option ((Nat×Nat)⊕Nat):=cond (decide ((↑a2:Int)<(↑slices_.length:Int))) (idxn slices_ a2 fun a6=>chk (inR ((↑size73:Int)+(↑a6.length:Int))) (cond (decide (((↑size73:Int)+(↑a6.length:Int))<0)) (none) (some (.inl ((size73+a6.length),(a2+1)))))) (some (.inr size73))
def za7.s4(slices_:yaa)(a2:yab)(a6:Nat):Option ((yab×Nat)⊕yab):=cond (decide ((↑a6:Int)<(↑slices_.length:Int))) (idxn slices_ a6 fun a7=>chk (za3 (List.length a2+List.length a7) 8) (some (.inl ((a2++a7),(a6+1))))) (some (.inr a2))
def za7(slices_:yaa):Option yab:=(iter (fun(s:Nat×Nat)=>za7.s2 slices_ s.1 s.2) fuel (0,0)).bind (fun size68=>(zon (↑size68:Int)).bind fun a6=>(iter (fun(s:yab×Nat)=>za7.s4 slices_ s.1 s.2) fuel (a6,0)).bind (fun a2=>some a2))
def zge(parts_:yaa):Option yab:=(za7 parts_).bind fun a2=>some a2
def zfe(w_:yab)(a_:Int):Option yab:=(zge [w_,[a_]]).bind fun a2=>some a2
def zef.s2(a_:yab)(b_:yab)(a2:Nat):Option (Nat⊕(Unit⊕Int)):=cond (decide ((↑a2:Int)<(min (↑a_.length:Int) (↑b_.length:Int)))) (idxn a_ a2 fun a6=>idxn b_ a2 fun a7=>cond (decide (a6≠a7)) (some (.inr (.inr (↑a2:Int)))) (some (.inl (a2+1)))) (some (.inr (.inl ())))
def zef(a_:yab)(b_:yab):Option Int:=(iter (fun(s:Nat)=>zef.s2 a_ b_ s) fuel 0).bind (Sum.elim (fun _=>some (min (↑a_.length:Int) (↑b_.length:Int))) some)
def zd6(w_:yab)(p_:yab):Option Bool:=(zef w_ p_).bind fun a2=>some (decide (a2=(↑p_.length:Int)))
def zjl(a_:yab)(b_:yab):Option Int:=(zbo a_ b_).bind fun a2=>some a2
def zcp.s2(a8:yaa)(a6:yaa)(a2:Nat):Option ((yaa×Nat)⊕yaa):=cond (decide ((↑a2:Int)<(↑a8.length:Int))) (idxn a8 a2 fun a7=>(cond (decide (((↑a2:Int)+1)=(↑a8.length:Int))) (some true) (idxn a8 (a2+1) fun b0=>(zd6 b0 a7).bind fun b2=>some (!b2))).bind (fun b3=>cond (b3) (chk (za3 (List.length a6+1) 24) (some (.inl ((a6++[a7]),(a2+1))))) (some (.inl (a6,(a2+1)))))) (some (.inr a6))
def zcp(l_:yaa):Option yaa:=(zcv l_ (fun u0 u1=>zjl u0 u1)).bind fun a7=>(iter (fun(s:yaa×Nat)=>zcp.s2 a7 s.1 s.2) fuel ([],0)).bind (fun a2=>(zcx a2).bind fun a6=>some a6)
def zi3(t_:zab)(o_:zac):Option Int:=(zbj t_).bind fun a2=>cond (decide (a2≠0)) (some a2) (cond (decide (t_.Inputs≠o_.Inputs)) (some 15) (some 0))
def zb3(a_:zaa)(b_:zaa):Option Int:=(zjl a_.In b_.In).bind fun a2=>some a2
def zkl(o_:zac):Option (List zaa):=(zj2 o_.Traces).bind fun a2=>(zh8 a2 (fun u0 u1=>zb3 u0 u1)).bind fun a6=>some a6
def zar.s2(x_:List zaa)(target_:yab)(cmp_:zaa->(yab)->Option Int)(a2:Int)(a6:Int):Option ((Int×Int)⊕Int):=cond (decide (a2<a6)) (chk (inR (a2+a6)) (chk ((0:Int)<=(a2+a6)∧(a2+a6)<=18446744073709551615) (chk ((0:Int)<=(a2+a6)∧(a2+a6)<=18446744073709551615) (chk (inR ((a2+a6) / 2^1)) (idx x_ ((a2+a6) / 2^1) fun a7=>(cmp_ a7 target_).bind fun a8=>cond (decide (a8<0)) (chk (inR (((a2+a6) / 2^1)+1)) (some (.inl ((((a2+a6) / 2^1)+1),a6)))) (some (.inl (a2,((a2+a6) / 2^1))))))))) (some (.inr a2))
def zar(x_:List zaa)(target_:yab)(cmp_:zaa->(yab)->Option Int):Option (Int×Bool):=(iter (fun(s:Int×Int)=>zar.s2 x_ target_ cmp_ s.1 s.2) fuel (0,(↑x_.length:Int))).bind (fun a2=>(cond (decide (a2<(↑x_.length:Int))) (idx x_ a2 fun a6=>(cmp_ a6 target_).bind fun a7=>some (decide (a7=0))) (some false)).bind (fun a8=>some (a2,a8)))
def zb4(t_:zaa)(w_:yab):Option Int:=(zjl t_.In w_).bind fun a2=>some a2
def zdv(f_:List zaa)(w_:yab):Option (yab×Bool):=cond (decide ((↑w_.length:Int)=0)) (some ([],true)) ((zar f_ w_ (fun u0 u1=>zb4 u0 u1)).bind fun a2=>(cond (decide (a2.1=(↑f_.length:Int))) (some true) (idx f_ a2.1 fun a7=>(zd6 a7.In w_).bind fun a8=>cond ((!a8)) (some true) (idx f_ a2.1 fun b0=>some (decide ((↑b0.Out.length:Int)<(↑w_.length:Int)))))).bind (fun b2=>cond (b2) (some ([],false)) (idx f_ a2.1 fun a6=>chk ((0:Int)<=(↑w_.length:Int)∧(↑w_.length:Int)<=(↑a6.Out.length:Int)) (some ((List.take w_.length a6.Out),true)))))
def zfc(f_:List zaa)(w_:yab):Option Bool:=(zdv f_ w_).bind fun a2=>some a2.2
def zcw.s2(w_:yab)(p1_:zab)(p2_:List zaa)(a2:yaa)(a6:Nat):Option ((yaa×Nat)⊕yaa):=cond (decide ((↑a6:Int)<(↑p1_.Suffixes.length:Int))) (idxn p1_.Suffixes a6 fun a8=>(zge [w_,a8]).bind fun a7=>(zfc p2_ a7).bind fun b0=>cond ((!b0)) (chk (za3 (List.length a2+1) 24) (some (.inl ((a2++[a7]),(a6+1))))) (some (.inl (a2,(a6+1))))) (some (.inr a2))
def zcw(w_:yab)(p1_:zab)(p2_:List zaa)(p3_:yaa):Option yaa:=(iter (fun(s:yaa×Nat)=>zcw.s2 w_ p1_ p2_ s.1 s.2) fuel (p3_,0)).bind (fun a2=>some a2)
def zcc.s13(t_:zab)(b2:List zaa)(a7:yab)(a6:yaa)(a2:Nat):Option ((yaa×Nat)⊕yaa):=cond (decide ((↑a2:Int)<t_.Inputs)) ((zfe a7 (↑a2:Int)).bind fun a8=>(zcw a8 t_ b2 a6).bind fun b0=>chk (inR ((↑a2:Int)+1)) (some (.inl (b0,(a2+1))))) (some (.inr a6))
def zcc.s14(t_:zab)(b2:List zaa)(a6:yaa)(a2:Nat):Option ((yaa×Nat)⊕yaa):=cond (decide ((↑a2:Int)<(↑t_.Prefixes.length:Int))) (idxn t_.Prefixes a2 fun a7=>(zcw a7 t_ b2 a6).bind fun a8=>(iter (fun(s:yaa×Nat)=>zcc.s13 t_ b2 a7 s.1 s.2) fuel (a8,0)).bind (fun b0=>some (.inl (b0,(a2+1))))) (some (.inr a6))
def zcc(t_:zab)(o_:zac):Option (yaa×Int):=(zi3 t_ o_).bind fun a7=>cond (decide (a7≠0)) (some ([],a7)) ((zkl o_).bind fun a8=>(iter (fun(s:yaa×Nat)=>zcc.s14 t_ a8 s.1 s.2) fuel ([],0)).bind (fun a2=>(zcp a2).bind fun a6=>some (a6,0)))
def zb8.s2(f_:List zaa)(t_:zab)(w_:yab)(a6:yaa)(a7:Nat):Option ((yaa×Nat)⊕(yaa⊕(yaa×Bool))):=cond (decide ((↑a7:Int)<(↑t_.Suffixes.length:Int))) (idxn t_.Suffixes a7 fun a8=>(zge [w_,a8]).bind fun b0=>(zdv f_ b0).bind fun a2=>cond ((!a2.2)) (some (.inr (.inr ([],false)))) (chk ((0:Int)<=(↑w_.length:Int)∧(↑w_.length:Int)<=(↑a2.1.length:Int)) ((zd3 (List.drop w_.length a2.1)).bind fun b2=>chk (za3 (List.length a6+1) 24) (some (.inl ((a6++[b2]),(a7+1))))))) (some (.inr (.inl a6)))
def zb8(f_:List zaa)(t_:zab)(w_:yab):Option (yaa×Bool):=chk ((0:Int)<=0∧0<=(↑t_.Suffixes.length:Int)∧za3 (Int.toNat (↑t_.Suffixes.length:Int)) 24) ((iter (fun(s:yaa×Nat)=>zb8.s2 f_ t_ w_ s.1 s.2) fuel ([],0)).bind (Sum.elim (fun a2=>some (a2,true)) some))
def zb0.s2(row_:yaa)(a2:ByteArray)(a6:Nat):Option ((ByteArray×Nat)⊕ByteArray):=cond (decide ((↑a6:Int)<(↑row_.length:Int))) (idxn row_ a6 fun a8=>(zml a8).bind fun a7=>chk (ByteArray.size a7+ByteArray.size (⟨#[47]⟩:ByteArray)<=9223372036854775807) (chk (ByteArray.size a2+ByteArray.size (a7++(⟨#[47]⟩:ByteArray))<=9223372036854775807) (some (.inl ((a2++(a7++(⟨#[47]⟩:ByteArray))),(a6+1)))))) (some (.inr a2))
def zb0.k3(v_:zaw)(a7:List (yaa))(a2:List (ByteArray×Int))(a6:Int):Option (Int×zaw):=some (a6,(⟨a7,v_.prefixes,v_.next,a2⟩:zaw))
def zb0(v_:zaw)(row_:yaa):Option (Int×zaw):=(iter (fun(s:ByteArray×Nat)=>zb0.s2 row_ s.1 s.2) fuel ((⟨#[]⟩:ByteArray),0)).bind (fun a2=>(cond ((!((mget a2 v_.number).isSome))) (chk (za3 (List.length v_.rows+1) 24) (some ((v_.rows++[row_]),(mset a2 (↑v_.rows.length:Int) v_.number),(↑v_.rows.length:Int)))) (some (v_.rows,v_.number,((mget a2 v_.number).getD 0))):Option (List (yaa)×(List (ByteArray×Int))×Int)).bind (fun s=>zb0.k3 v_ s.1 s.2.1 s.2.2))
def za8.s2(t_:zab)(b4:List zaa)(b2:List (yaa))(a7:yab)(b3:List (ByteArray×Int))(a8:Nat):Option ((List (yaa)×yab×(List (ByteArray×Int))×Nat)⊕((List (yaa)×yab×(List (ByteArray×Int)))⊕(zaw×Int))):=cond (decide ((↑a8:Int)<(↑t_.Prefixes.length:Int))) (idxn t_.Prefixes a8 fun b0=>(zb8 b4 t_ b0).bind fun a6=>cond ((!a6.2)) (some (.inr (.inr ((⟨[],[],[],[]⟩:zaw),12)))) ((zb0 (⟨b2,a7,[],b3⟩:zaw) a6.1).bind fun a2=>chk (za3 (List.length a7+1) 8) (some (.inl (a2.2.rows,(a7++[a2.1]),a2.2.number,(a8+1)))))) (some (.inr (.inl (b2,a7,b3))))
def za8.s20(t_:zab)(b6:List zaa)(b7:yab)(b3:yaa)(b4:yab)(a8:List (yaa))(b0:List (ByteArray×Int))(a6:yab)(a2:Nat):Option ((List (yaa)×(List (ByteArray×Int))×yab×Nat)⊕((List (yaa)×(List (ByteArray×Int))×yab)⊕((List (yaa)×yaa×(List (ByteArray×Int))×Nat)⊕((List (yaa)×yaa×(List (ByteArray×Int)))⊕(zaw×Int))))):=cond (decide ((↑a2:Int)<t_.Inputs)) ((zfe b4 (↑a2:Int)).bind fun b5=>(zb8 b6 t_ b5).bind fun b2=>cond ((!b2.2)) (some (.inr (.inr (.inr (.inr ((⟨[],[],[],[]⟩:zaw),12)))))) ((zb0 (⟨a8,b7,b3,b0⟩:zaw) b2.1).bind fun a7=>chk (za3 (List.length a6+1) 8) (chk (inR ((↑a2:Int)+1)) (some (.inl (a7.2.rows,a7.2.number,(a6++[a7.1]),(a2+1))))))) (some (.inr (.inl (a8,b0,a6))))
def za8.k21(a2:yaa)(a6:Nat)(a7:List (yaa))(a8:List (ByteArray×Int))(b0:yab):Option ((List (yaa)×yaa×(List (ByteArray×Int))×Nat)⊕((List (yaa)×yaa×(List (ByteArray×Int)))⊕(zaw×Int))):=chk (za3 (List.length a2+1) 24) (some (.inl (a7,(a2++[b0]),a8,(a6+1))))
def za8.s22(t_:zab)(b2:List zaa)(b3:yab)(a7:List (yaa))(a2:yaa)(a8:List (ByteArray×Int))(a6:Nat):Option ((List (yaa)×yaa×(List (ByteArray×Int))×Nat)⊕((List (yaa)×yaa×(List (ByteArray×Int)))⊕(zaw×Int))):=cond (decide ((↑a6:Int)<(↑t_.Prefixes.length:Int))) (idxn t_.Prefixes a6 fun b0=>(iter (fun(s:List (yaa)×(List (ByteArray×Int))×yab×Nat)=>za8.s20 t_ b2 b3 a2 b0 s.1 s.2.1 s.2.2.1 s.2.2.2) fuel (a7,a8,[],0)).bind (Sum.elim (fun s=>za8.k21 a2 a6 s.1 s.2.1 s.2.2) some)) (some (.inr (.inl (a7,a2,a8))))
def za8.k23(a8:yab)(a2:List (yaa))(a6:yaa)(a7:List (ByteArray×Int)):Option (zaw×Int):=some ((⟨a2,a8,a6,a7⟩:zaw),0)
def za8.k24(t_:zab)(a6:List zaa)(a7:List (yaa))(a2:yab)(a8:List (ByteArray×Int)):Option (zaw×Int):=(iter (fun(s:List (yaa)×yaa×(List (ByteArray×Int))×Nat)=>za8.s22 t_ a6 a2 s.1 s.2.1 s.2.2.1 s.2.2.2) fuel (a7,[],a8,0)).bind (Sum.elim (fun s=>za8.k23 a2 s.1 s.2.1 s.2.2) some)
def za8(t_:zab)(o_:zac):Option (zaw×Int):=(zi3 t_ o_).bind fun a2=>cond (decide (a2≠0)) (some ((⟨[],[],[],[]⟩:zaw),a2)) ((zkl o_).bind fun a6=>(iter (fun(s:List (yaa)×yab×(List (ByteArray×Int))×Nat)=>za8.s2 t_ a6 s.1 s.2.1 s.2.2.1 s.2.2.2) fuel ([],[],([]:List (ByteArray×Int)),0)).bind (Sum.elim (fun s=>za8.k24 t_ a6 s.1 s.2.1 s.2.2) some))
def zb2.s2(s_:yab)(v_:Int)(a2:Nat):Option (Nat⊕(Unit⊕Int)):=cond (decide ((↑a2:Int)<(↑s_.length:Int))) (idxn s_ a2 fun a6=>cond (decide (v_=a6)) (some (.inr (.inr (↑a2:Int)))) (some (.inl (a2+1)))) (some (.inr (.inl ())))
def zb2(s_:yab)(v_:Int):Option Int:=(iter (fun(s:Nat)=>zb2.s2 s_ v_ s) fuel 0).bind (Sum.elim (fun _=>some (-1:Int)) some)
def zdb(s_:yab)(v_:Int):Option Bool:=(zb2 s_ v_).bind fun a2=>some (decide (0<=a2))
def zbb.s13(v_:zaw)(a7:Nat)(a6:yab)(a2:Nat):Option (Nat⊕(Unit⊕(Nat⊕(Unit⊕(Int×Int×Bool))))):=cond (decide ((↑a2:Int)<(↑a6.length:Int))) (idxn a6 a2 fun a8=>(zdb v_.prefixes a8).bind fun b0=>cond ((!b0)) (some (.inr (.inr (.inr (.inr ((↑a7:Int),(↑a2:Int),true)))))) (some (.inl (a2+1)))) (some (.inr (.inl ())))
def zbb.s14(v_:zaw)(a2:Nat):Option (Nat⊕(Unit⊕(Int×Int×Bool))):=cond (decide ((↑a2:Int)<(↑v_.next.length:Int))) (idxn v_.next a2 fun a6=>(iter (fun(s:Nat)=>zbb.s13 v_ a2 a6 s) fuel 0).bind (Sum.elim (fun _=>some (.inl (a2+1))) some)) (some (.inr (.inl ())))
def zbb(v_:zaw):Option (Int×Int×Bool):=(iter (fun(s:Nat)=>zbb.s14 v_ s) fuel 0).bind (Sum.elim (fun _=>some (0,0,false)) some)
def zhv(t_:zab)(o_:zac):Option (yab×Bool×Int):=(za8 t_ o_).bind fun a2=>cond (decide (a2.2≠0)) (some ([],false,a2.2)) ((zbb a2.1).bind fun a6=>cond ((!a6.2.2)) (some ([],false,0)) (idx t_.Prefixes a6.1 fun a7=>(zfe a7 a6.2.1).bind fun a8=>some (a8,true,0)))
def zbx.s2(s1_:yab)(s2_:yab)(a2:Nat):Option (Nat⊕(Unit⊕Bool)):=cond (decide ((↑a2:Int)<(↑s1_.length:Int))) (idxn s1_ a2 fun a6=>idxn s2_ a2 fun a7=>cond (decide (a6≠a7)) (some (.inr (.inr false))) (some (.inl (a2+1)))) (some (.inr (.inl ())))
def zbx(s1_:yab)(s2_:yab):Option Bool:=cond (decide ((↑s1_.length:Int)≠(↑s2_.length:Int))) (some false) ((iter (fun(s:Nat)=>zbx.s2 s1_ s2_ s) fuel 0).bind (Sum.elim (fun _=>some true) some))
def zak.s1019(a7:Nat)(a6:yaa)(a8:yaa)(a2:Nat):Option (Nat⊕(Unit⊕(Nat⊕(Unit⊕(Unit⊕(Nat⊕(Unit⊕(Nat⊕(Unit⊕(Int×Int×Bool)))))))))):=cond (decide ((↑a2:Int)<(↑a6.length:Int))) (idxn a6 a2 fun b0=>idxn a8 a2 fun b2=>(zbx b0 b2).bind fun b3=>cond ((!b3)) (some (.inr (.inr (.inr (.inr (.inr (.inr (.inr (.inr (.inr ((↑a7:Int),(↑a2:Int),true))))))))))) (some (.inl (a2+1)))) (some (.inr (.inl ())))
def zak.s1020(v_:zaw)(a6:Nat)(a7:Nat)(a8:yab)(a2:Nat):Option (Nat⊕(Unit⊕(Unit⊕(Nat⊕(Unit⊕(Nat⊕(Unit⊕(Int×Int×Bool)))))))):=cond (decide ((↑a2:Int)<(↑a8.length:Int))) (idxn v_.next a6 fun b0=>idxn b0 a2 fun b2=>idx v_.rows b2 fun b3=>idxn v_.next a7 fun b4=>idxn b4 a2 fun b5=>idx v_.rows b5 fun b6=>(iter (fun(s:Nat)=>zak.s1019 a2 b3 b6 s) fuel 0).bind (Sum.elim (fun _=>chk (inR ((↑a2:Int)+1)) (some (.inl (a2+1)))) some)) (some (.inr (.inl ())))
def zak.s1021(v_:zaw)(a6:Nat)(a7:Int)(a2:Nat):Option (Nat⊕(Unit⊕(Nat⊕(Unit⊕(Int×Int×Bool))))):=cond (decide ((↑a2:Int)<(↑v_.prefixes.length:Int))) ((idxn v_.prefixes a2 fun a8=>cond (decide (a8≠a7)) (some (.inl ())) (idxn v_.next a6 fun b0=>(iter (fun(s:Nat)=>zak.s1020 v_ a6 a2 b0 s) fuel 0).bind (Sum.elim (fun _=>some (.inl ())) some)):Option (Unit⊕(Nat⊕(Unit⊕(Nat⊕(Unit⊕(Int×Int×Bool))))))).bind (Sum.elim (fun _=>some (.inl (a2+1))) some)) (some (.inr (.inl ())))
def zak.s1022(v_:zaw)(a2:Nat):Option (Nat⊕(Unit⊕(Int×Int×Bool))):=cond (decide ((↑a2:Int)<(↑v_.prefixes.length:Int))) (idxn v_.prefixes a2 fun a6=>(iter (fun(s:Nat)=>zak.s1021 v_ a2 a6 s) fuel (a2+1)).bind (Sum.elim (fun _=>some (.inl (a2+1))) some)) (some (.inr (.inl ())))
def zak(v_:zaw):Option (Int×Int×Bool):=(iter (fun(s:Nat)=>zak.s1022 v_ s) fuel 0).bind (Sum.elim (fun _=>some (0,0,false)) some)
def zfb(t_:zab)(o_:zac):Option (yab×Bool×Int):=(za8 t_ o_).bind fun a2=>cond (decide (a2.2≠0)) (some ([],false,a2.2)) ((zak a2.1).bind fun a6=>cond ((!a6.2.2)) (some ([],false,0)) (idx t_.Suffixes a6.2.1 fun a7=>(zge [[a6.1],a7]).bind fun a8=>some (a8,true,0)))
def zcj(t_:zab)(o_:zac):Option (zab×yaa×Bool×Int):=((((cond (decide (0=0)) (some (.inl ())) (cond (decide (0=1)) (some (.inr (.inl ()))) (cond (decide (0=2)) (some (.inr (.inr (.inl ())))) (some (.inr (.inr (.inr (.inl ()))))))):Option (Unit⊕(Unit⊕(Unit⊕(Unit⊕(zab×yaa×Bool×Int)))))).bind (Sum.elim (fun _=>(zcc t_ o_).bind fun a2=>(cond (decide (a2.2≠0)) (some true) (some (decide (0<(↑a2.1.length:Int))))).bind (fun b2=>cond (b2) (some (.inr (.inr (.inr (t_,a2.1,false,a2.2))))) (some (.inl ())))) some):Option (Unit⊕(Unit⊕(Unit⊕(zab×yaa×Bool×Int))))).bind (Sum.elim (fun _=>(zhv t_ o_).bind fun a6=>cond (decide (a6.2.2≠0)) (some (.inr (.inr (t_,[],false,a6.2.2)))) (cond (a6.2.1) ((zig t_ a6.1).bind fun a8=>some (.inr (.inr (a8.1,[],false,a8.2)))) (some (.inl ())))) some):Option (Unit⊕(Unit⊕(zab×yaa×Bool×Int)))).bind (Sum.elim (fun _=>(zfb t_ o_).bind fun a7=>cond (decide (a7.2.2≠0)) (some (.inr (t_,[],false,a7.2.2))) (cond (a7.2.1) ((zjo t_ a7.1).bind fun b0=>some (.inr (b0.1,[],false,b0.2))) (some (.inl ())))) some):Option (Unit⊕(zab×yaa×Bool×Int))).bind (Sum.elim (fun _=>some (t_,[],true,0)) some)
def zla:Option Bool:=(zmn).bind fun b0=>(L23_Gate).bind fun b2=>(zcj b0 b2).bind fun a2=>(zmn).bind fun b3=>(zcj b3 (⟨2,[]⟩:zac)).bind fun a6=>(zmn).bind fun b4=>(zcl b4 [0,1] 0).bind fun a7=>(zmn).bind fun b5=>(zcl b5 [0,1] 1).bind fun a8=>(cond (decide (a2.2.2.2≠0)) (some true) (cond (a2.2.2.1) (some true) (cond (decide ((↑a2.2.1.length:Int)≠0)) (some true) (cond (decide (a6.2.2.2≠0)) (some true) (cond (a6.2.2.1) (some true) (cond (decide ((↑a6.2.1.length:Int)≠4)) (some true) (cond (decide (a7.2≠0)) (some true) (cond (decide (a8.2≠0)) (some true) (some (decide ((↑a6.1.Prefixes.length:Int)≠1))))))))))).bind (fun b6=>cond (b6) (some false) (((ze9 a2.1.Prefixes [[],[0]]).bind fun b7=>cond (b7) ((ze9 a7.1.Prefixes [[],[0],[0,1]]).bind fun b8=>cond (b8) ((ze9 a8.1.Suffixes [[0],[1],[0,1]]).bind fun b9=>some b9) (some false)) (some false)).bind (fun c0=>some c0)))
def zgo(m_:zdk)(s_:Int)(a_:Int):Option (Int×Int):=idx m_.Mealy.Next s_ fun a2=>idx a2 a_ fun a6=>idx m_.Mealy.Out s_ fun a7=>idx a7 a_ fun a8=>some (a6,a8)
def zbv.s2(r_:zci)(w_:yab)(a7:Int)(a2:yab)(a6:Nat):Option ((Int×yab×Nat)⊕(Int×yab)):=cond (decide ((↑a6:Int)<(↑w_.length:Int))) (idxn w_ a6 fun b0=>(zgo r_.machine a7 b0).bind fun a8=>chk (za3 (List.length a2+1) 8) (some (.inl (a8.1,(a2++[a8.2]),(a6+1))))) (some (.inr (a7,a2)))
def zbv.k3(r_:zci)(a2:Int)(a6:yab):Option (yab×zci):=some (a6,(⟨r_.machine,a2⟩:zci))
def zbv(r_:zci)(w_:yab):Option (yab×zci):=(iter (fun(s:Int×yab×Nat)=>zbv.s2 r_ w_ s.1 s.2.1 s.2.2) fuel (r_.at_,[],0)).bind (fun s=>zbv.k3 r_ s.1 s.2)
def zcf.s13(m_:zad)(a6:Nat)(a2:Nat):Option (Nat⊕(Unit⊕(Nat⊕(Unit⊕Int)))):=cond (decide ((↑a2:Int)<m_.Inputs)) (idxn m_.Next a6 fun b0=>idxn b0 a2 fun a7=>idxn m_.Out a6 fun b2=>idxn b2 a2 fun a8=>(cond (decide (a7<0)) (some true) (cond (decide ((↑m_.Next.length:Int)<=a7)) (some true) (cond (decide (a8<0)) (some true) (some (decide (1048576<a8)))))).bind (fun b3=>cond (b3) (some (.inr (.inr (.inr (.inr 2))))) (chk (inR ((↑a2:Int)+1)) (some (.inl (a2+1)))))) (some (.inr (.inl ())))
def zcf.s14(m_:zad)(a2:Nat):Option (Nat⊕(Unit⊕Int)):=cond (decide ((↑a2:Int)<(↑m_.Next.length:Int))) ((idxn m_.Next a2 fun a6=>cond (decide ((↑a6.length:Int)≠m_.Inputs)) (some true) (idxn m_.Out a2 fun a7=>some (decide ((↑a7.length:Int)≠m_.Inputs)))).bind (fun a8=>cond (a8) (some (.inr (.inr 1))) ((iter (fun(s:Nat)=>zcf.s13 m_ a2 s) fuel 0).bind (Sum.elim (fun _=>some (.inl (a2+1))) some)))) (some (.inr (.inl ())))
def zcf(m_:zad):Option Int:=(cond (decide (m_.Inputs<1)) (some true) (some (decide (64<m_.Inputs)))).bind (fun a2=>cond (a2) (some 2) (cond (decide ((↑m_.Next.length:Int)=0)) (some 19) (cond (decide (128<(↑m_.Next.length:Int))) (some 11) ((cond (decide (m_.Start<0)) (some true) (some (decide ((↑m_.Next.length:Int)<=m_.Start)))).bind (fun a6=>cond (a6) (some 2) (cond (decide ((↑m_.Out.length:Int)≠(↑m_.Next.length:Int))) (some 1) ((iter (fun(s:Nat)=>zcf.s14 m_ s) fuel 0).bind (Sum.elim (fun _=>some 0) some))))))))
def zec.s2(m_:zad)(words_:yaa)(a2:List zaa)(a6:Nat):Option ((List zaa×Nat)⊕(List zaa⊕(List zaa×Int))):=cond (decide ((↑a6:Int)<(↑words_.length:Int))) (idxn words_ a6 fun a7=>(zfq a7 m_.Inputs).bind fun b2=>cond (decide (b2≠0)) (some (.inr (.inr ([],b2)))) ((zd3 a7).bind fun a8=>(zbv (⟨(⟨m_⟩:zdk),m_.Start⟩:zci) a7).bind fun b0=>chk (za3 (List.length a2+1) 48) (some (.inl ((a2++[(⟨a8,b0.1⟩:zaa)]),(a6+1)))))) (some (.inr (.inl a2)))
def zec(m_:zad)(words_:yaa):Option (List zaa×Int):=(zcf m_).bind fun a2=>cond (decide (a2≠0)) (some ([],a2)) (cond (decide (10000<(↑words_.length:Int))) (some ([],11)) ((iter (fun(s:List zaa×Nat)=>zec.s2 m_ words_ s.1 s.2) fuel ([],0)).bind (Sum.elim (fun a6=>some (a6,0)) some)))
def zgl(t_:zaa):Option zaa:=(zd3 t_.In).bind fun a2=>(zd3 t_.Out).bind fun a6=>some (⟨a2,a6⟩:zaa)
def zdm.s2(l_:List zaa)(a2:List zaa)(a6:Nat):Option ((List zaa×Nat)⊕List zaa):=cond (decide ((↑a6:Int)<(↑l_.length:Int))) (idxn l_ a6 fun a7=>(zgl a7).bind fun a8=>chk (za3 (List.length a2+1) 48) (some (.inl ((a2++[a8]),(a6+1))))) (some (.inr a2))
def zdm(l_:List zaa):Option (List zaa):=chk ((0:Int)<=0∧0<=((↑l_.length:Int)+1)∧za3 (Int.toNat ((↑l_.length:Int)+1)) 48) ((iter (fun(s:List zaa×Nat)=>zdm.s2 l_ s.1 s.2) fuel ([],0)).bind (fun a2=>some a2))
def zap.s2(x_:List zaa)(target_:zaa)(cmp_:zaa->zaa->Option Int)(a2:Int)(a6:Int):Option ((Int×Int)⊕Int):=cond (decide (a2<a6)) (chk (inR (a2+a6)) (chk ((0:Int)<=(a2+a6)∧(a2+a6)<=18446744073709551615) (chk ((0:Int)<=(a2+a6)∧(a2+a6)<=18446744073709551615) (chk (inR ((a2+a6) / 2^1)) (idx x_ ((a2+a6) / 2^1) fun a7=>(cmp_ a7 target_).bind fun a8=>cond (decide (a8<0)) (chk (inR (((a2+a6) / 2^1)+1)) (some (.inl ((((a2+a6) / 2^1)+1),a6)))) (some (.inl (a2,((a2+a6) / 2^1))))))))) (some (.inr a2))
def zap(x_:List zaa)(target_:zaa)(cmp_:zaa->zaa->Option Int):Option (Int×Bool):=(iter (fun(s:Int×Int)=>zap.s2 x_ target_ cmp_ s.1 s.2) fuel (0,(↑x_.length:Int))).bind (fun a2=>(cond (decide (a2<(↑x_.length:Int))) (idx x_ a2 fun a6=>(cmp_ a6 target_).bind fun a7=>some (decide (a7=0))) (some false)).bind (fun a8=>some (a2,a8)))
def zht(a_:zaa)(b_:zaa):Option Int:=(zef a_.In b_.In).bind fun a2=>chk ((0:Int)<=(min (min a2 (↑a_.Out.length:Int)) (↑b_.Out.length:Int))∧(min (min a2 (↑a_.Out.length:Int)) (↑b_.Out.length:Int))<=(↑a_.Out.length:Int)) (chk ((0:Int)<=(min (min a2 (↑a_.Out.length:Int)) (↑b_.Out.length:Int))∧(min (min a2 (↑a_.Out.length:Int)) (↑b_.Out.length:Int))<=(↑b_.Out.length:Int)) ((zef (List.take (Int.toNat (min (min a2 (↑a_.Out.length:Int)) (↑b_.Out.length:Int))) a_.Out) (List.take (Int.toNat (min (min a2 (↑a_.Out.length:Int)) (↑b_.Out.length:Int))) b_.Out)).bind fun a6=>cond (decide (a6<(min (min a2 (↑a_.Out.length:Int)) (↑b_.Out.length:Int)))) (some a6) (some (-1:Int))))
def ziu(u_:zaa)(p1_:zaa):Option Bool:=(zd6 p1_.In u_.In).bind fun a2=>some a2
def zau.s2(s_:List zaa)(f_:zaa->Option Bool)(a2:Nat):Option (Nat⊕(Unit⊕Int)):=cond (decide ((↑a2:Int)<(↑s_.length:Int))) (idxn s_ a2 fun a6=>(f_ a6).bind fun a7=>cond (a7) (some (.inr (.inr (↑a2:Int)))) (some (.inl (a2+1)))) (some (.inr (.inl ())))
def zau(s_:List zaa)(f_:zaa->Option Bool):Option Int:=(iter (fun(s:Nat)=>zau.s2 s_ f_ s) fuel 0).bind (Sum.elim (fun _=>some (-1:Int)) some)
def zam.s2(del_:zaa->Option Bool)(a2:List zaa)(a6:Int)(a7:Int):Option ((List zaa×Int×Int)⊕(List zaa×Int)):=cond (decide (a7<(↑a2.length:Int))) (idx a2 a7 fun a8=>(del_ a8).bind fun b0=>cond ((!b0)) (idx a2 a6 fun b2=>chk (inR (a6+1)) (chk (inR (a7+1)) (some (.inl ((List.set a2 a6.toNat a8),(a6+1),(a7+1)))))) (chk (inR (a7+1)) (some (.inl (a2,a6,(a7+1)))))) (some (.inr (a2,a6)))
def zam.k3(a6:List zaa)(a2:Int):Option (List zaa):=chk ((0:Int)<=a2∧a2<=(↑a6.length:Int)∧0<List.length a6) (chk ((Int.toNat a2)<=List.length a6) (chk ((0:Int)<=a2∧a2<=(↑(List.length (List.take (Int.toNat a2) a6++List.replicate (List.length a6-(Int.toNat a2)) (⟨[],[]⟩:zaa))):Int)∧0<List.length (List.take (Int.toNat a2) a6++List.replicate (List.length a6-(Int.toNat a2)) (⟨[],[]⟩:zaa))) (some (List.take (Int.toNat a2) (List.take (Int.toNat a2) a6++List.replicate (List.length a6-(Int.toNat a2)) (⟨[],[]⟩:zaa))))))
def zam(s_:List zaa)(del_:zaa->Option Bool):Option (List zaa):=(zau s_ del_).bind fun a2=>cond (decide (a2=(-1:Int))) (some s_) (chk (inR (a2+1)) ((iter (fun(s:List zaa×Int×Int)=>zam.s2 del_ s.1 s.2.1 s.2.2) fuel (s_,a2,(a2+1))).bind (fun s=>zam.k3 s.1 s.2)))
def zel(a_:zaa)(b_:zaa):Option Int:=(zer a_.In b_.In).bind fun a2=>some a2
def zey.s2(l_:List zaa)(t_:zaa)(inside79:Bool)(a2:Nat):Option ((Bool×Nat)⊕(Bool⊕(List zaa×Int))):=cond (decide ((↑a2:Int)<(↑l_.length:Int))) (idxn l_ a2 fun a6=>(zht a6 t_).bind fun a7=>cond (decide (0<=a7)) (some (.inr (.inr ([],13)))) (cond (inside79) (some (.inl (true,(a2+1)))) ((zd6 a6.In t_.In).bind fun a8=>some (.inl (a8,(a2+1)))))) (some (.inr (.inl inside79)))
def zey(l_:List zaa)(t_:zaa):Option (List zaa×Int):=(iter (fun(s:Bool×Nat)=>zey.s2 l_ t_ s.1 s.2) fuel (false,0)).bind (Sum.elim (fun inside73=>(cond (inside73) (some true) (some (decide ((↑t_.In.length:Int)=0)))).bind (fun b0=>cond (b0) (some (l_,0)) ((zam l_ (fun u0=>ziu u0 t_)).bind fun a2=>cond (decide ((↑a2.length:Int)=10000)) (some ([],11)) ((zap a2 t_ (fun u0 u1=>zel u0 u1)).bind fun a6=>(zgl t_).bind fun a7=>(zi4 a2 a6.1 [a7]).bind fun a8=>some (a8,0))))) some)
def zga(o_:Int):Option Bool:=(cond (decide (o_<0)) (some true) (some (decide (1048576<o_)))).bind (fun a2=>some a2)
def zh2(t_:zaa)(inputs_:Int):Option Int:=(zfq t_.In inputs_).bind fun a2=>cond (decide (a2≠0)) (some a2) (cond (decide ((↑t_.Out.length:Int)≠(↑t_.In.length:Int))) (some 1) ((zco t_.Out (fun u0=>zga u0)).bind fun a6=>cond (a6) (some 2) (some 0)))
def zdx.s2(o_:zac)(l_:List zaa)(a7:List zaa)(a2:Nat):Option ((List zaa×Nat)⊕(List zaa⊕(zac×Int))):=cond (decide ((↑a2:Int)<(↑l_.length:Int))) (idxn l_ a2 fun a8=>(zh2 a8 o_.Inputs).bind fun b0=>cond (decide (b0≠0)) (some (.inr (.inr (o_,b0)))) ((zey a7 a8).bind fun a6=>cond (decide (a6.2≠0)) (some (.inr (.inr (o_,a6.2)))) (some (.inl (a6.1,(a2+1)))))) (some (.inr (.inl a7)))
def zdx(o_:zac)(l_:List zaa):Option (zac×Int):=(zdm o_.Traces).bind fun a2=>(iter (fun(s:List zaa×Nat)=>zdx.s2 o_ l_ s.1 s.2) fuel (a2,0)).bind (Sum.elim (fun a6=>some ((⟨o_.Inputs,a6⟩:zac),0)) some)
def zpz(m_:zad)(words_:yaa):Option (zac×Int):=(zec m_ words_).bind fun a2=>cond (decide (a2.2≠0)) (some ((⟨0,[]⟩:zac),a2.2)) ((zdx (⟨m_.Inputs,[]⟩:zac) a2.1).bind fun a6=>cond (decide (a6.2≠0)) (some ((⟨0,[]⟩:zac),a6.2)) (some (a6.1,0)))
def zkd(a_:zac)(b_:zac):Option (zac×Int):=cond (decide (a_.Inputs≠b_.Inputs)) (some (a_,15)) ((zdx a_ b_.Traces).bind fun a2=>some (a2.1,a2.2))
def zbt(m_:zad)(o_:zac)(words_:yaa):Option (zac×Int):=(zpz m_ words_).bind fun a2=>cond (decide (a2.2≠0)) (some (o_,a2.2)) ((zkd o_ a2.1).bind fun a6=>some (a6.1,a6.2))
def zhz.s2(inputs_:Int)(a6:yaa)(a2:Nat):Option ((yaa×Nat)⊕yaa):=cond (decide ((↑a2:Int)<inputs_)) (chk (za3 (List.length a6+1) 24) (chk (inR ((↑a2:Int)+1)) (some (.inl ((a6++[[(↑a2:Int)]]),(a2+1)))))) (some (.inr a6))
def zhz(inputs_:Int):Option (zab×Int):=(cond (decide (inputs_<1)) (some true) (some (decide (64<inputs_)))).bind (fun a2=>cond (a2) (some ((⟨0,[],[]⟩:zab),2)) ((iter (fun(s:yaa×Nat)=>zhz.s2 inputs_ s.1 s.2) fuel ([],0)).bind (fun a6=>some ((⟨inputs_,[[]],a6⟩:zab),0))))
def zlb(inputs_:Int):Option (zac×Int):=(cond (decide (inputs_<1)) (some true) (some (decide (64<inputs_)))).bind (fun a2=>cond (a2) (some ((⟨0,[]⟩:zac),2)) (some ((⟨inputs_,[]⟩:zac),0)))
def zav.s30(t_:zab)(b3:zaw×Int)(a7:Int)(a6:yab)(a2:Nat):Option ((yab×Nat)⊕yab):=cond (decide ((↑a2:Int)<t_.Inputs)) (idx b3.1.rows a7 fun a8=>idxn a8 a2 fun b0=>idxn b0 0 fun b2=>chk (za3 (List.length a6+1) 8) (chk (inR ((↑a2:Int)+1)) (some (.inl ((a6++[b2]),(a2+1)))))) (some (.inr a6))
def zav.k31(a2:Nat)(a6:yaa)(a7:yaa)(a8:yaa):Option ((yaa×yaa×yaa×Nat)⊕(yaa×yaa×yaa)):=some (.inl (a6,a7,a8,(a2+1)))
def zav.s32(t_:zab)(b2:zaw×Int)(a7:yaa)(a8:yaa)(a2:yaa)(a6:Nat):Option ((yaa×yaa×yaa×Nat)⊕(yaa×yaa×yaa)):=cond (decide ((↑a6:Int)<(↑b2.1.prefixes.length:Int))) ((idxn b2.1.prefixes a6 fun b0=>cond (decide (b0<(↑a2.length:Int))) (some (a7,a8,a2)) ((iter (fun(s:yab×Nat)=>zav.s30 t_ b2 b0 s.1 s.2) fuel ([],0)).bind (fun b3=>idxn b2.1.next a6 fun b4=>(zd3 b4).bind fun b5=>chk (za3 (List.length a7+1) 24) (chk (za3 (List.length a8+1) 24) (idxn t_.Prefixes a6 fun b6=>(zd3 b6).bind fun b7=>chk (za3 (List.length a2+1) 24) (some ((a7++[b5]),(a8++[b3]),(a2++[b7]))))))):Option (yaa×yaa×yaa)).bind (fun s=>zav.k31 a6 s.1 s.2.1 s.2.2)) (some (.inr (a7,a8,a2)))
def zav.k33(t_:zab)(a2:yaa)(a6:yaa)(a7:yaa):Option (za5×Int):=some ((⟨(⟨t_.Inputs,0,a2,a6⟩:zad),a7⟩:za5),0)
def zav(t_:zab)(o_:zac):Option (za5×Int):=(za8 t_ o_).bind fun a2=>cond (decide (a2.2≠0)) (some ((⟨(⟨0,0,[],[]⟩:zad),[]⟩:za5),a2.2)) ((zbb a2.1).bind fun a6=>(zak a2.1).bind fun a7=>(cond (a6.2.2) (some true) (some a7.2.2)).bind (fun a8=>cond (a8) (some ((⟨(⟨0,0,[],[]⟩:zad),[]⟩:za5),10)) (cond (decide (128<(↑a2.1.rows.length:Int))) (some ((⟨(⟨0,0,[],[]⟩:zad),[]⟩:za5),11)) ((iter (fun(s:yaa×yaa×yaa×Nat)=>zav.s32 t_ a2 s.1 s.2.1 s.2.2.1 s.2.2.2) fuel ([],[],[],0)).bind (fun s=>zav.k33 t_ s.1 s.2.1 s.2.2)))))
def zfh.s2(a_:zad)(b_:zad)(a2:Nat):Option (Nat⊕(Unit⊕Int)):=cond (decide ((↑a2:Int)<2)) (cond (decide ((↑a2:Int)=0)) ((zcf a_).bind fun a6=>cond (decide (a6≠0)) (some (.inr (.inr a6))) (some (.inl (a2+1)))) (chk ((↑a2:Int)=1) ((zcf b_).bind fun a7=>cond (decide (a7≠0)) (some (.inr (.inr a7))) (some (.inl (a2+1)))))) (some (.inr (.inl ())))
def zfh(a_:zad)(b_:zad):Option Int:=(iter (fun(s:Nat)=>zfh.s2 a_ b_ s) fuel 0).bind (Sum.elim (fun _=>cond (decide (a_.Inputs≠b_.Inputs)) (some 15) (some 0)) some)
def zbd.s2(a_:zad)(b_:zad)(a6:List (List Bool))(a2:Nat):Option ((List (List Bool)×Nat)⊕List (List Bool)):=cond (decide ((↑a2:Int)<(↑(List.length (List.replicate a_.Next.length ([]:List Bool))):Int))) (chk ((0:Int)<=(↑b_.Next.length:Int)∧(↑b_.Next.length:Int)<=(↑b_.Next.length:Int)∧za3 (Int.toNat (↑b_.Next.length:Int)) 1) (idxn a6 a2 fun a7=>chk (inR ((↑a2:Int)+1)) (some (.inl ((List.set a6 a2 (List.replicate b_.Next.length false)),(a2+1)))))) (some (.inr a6))
def zbd.s20(a_:zad)(b_:zad)(b4:Nat)(a6:zbn)(a8:List (List Bool))(a7:List zbn)(a2:Nat):Option ((List (List Bool)×List zbn×Nat)⊕((List (List Bool)×List zbn)⊕((List (List Bool)×List zbn×Nat)⊕(Unit⊕(yab×Bool))))):=cond (decide ((↑a2:Int)<a_.Inputs)) (idx a_.Out a6.at_.s fun b5=>idxn b5 a2 fun b6=>idx b_.Out a6.at_.t fun b7=>idxn b7 a2 fun b8=>cond (decide (b6≠b8)) (idxn a7 b4 fun b9=>(zge [b9.word,[(↑a2:Int)]]).bind fun c0=>some (.inr (.inr (.inr (.inr (c0,true)))))) (idx a_.Next a6.at_.s fun c6=>idxn c6 a2 fun b0=>idx b_.Next a6.at_.t fun c7=>idxn c7 a2 fun b2=>(cond ((!(decide (b0=a6.at_.s)&&(decide (b2=a6.at_.t)&&true)))) (idx a8 b0 fun c8=>idx c8 b2 fun c9=>some (!c9)) (some false)).bind (fun d0=>cond (d0) (idx a8 b0 fun b3=>idx b3 b2 fun d3=>idxn a7 b4 fun d1=>(zge [d1.word,[(↑a2:Int)]]).bind fun d2=>chk (za3 (List.length a7+1) 40) (chk (inR ((↑a2:Int)+1)) (some (.inl ((List.set a8 (Int.toNat b0) (List.set b3 (Int.toNat b2) true)),(a7++[(⟨(⟨b0,b2⟩:zdq),d2⟩:zbn)]),(a2+1)))))) (chk (inR ((↑a2:Int)+1)) (some (.inl (a8,a7,(a2+1)))))))) (some (.inr (.inl (a8,a7))))
def zbd.k21(a7:Nat)(a2:List (List Bool))(a6:List zbn):Option ((List (List Bool)×List zbn×Nat)⊕(Unit⊕(yab×Bool))):=some (.inl (a2,a6,(a7+1)))
def zbd.s22(a_:zad)(b_:zad)(a8:List (List Bool))(a6:List zbn)(a2:Nat):Option ((List (List Bool)×List zbn×Nat)⊕(Unit⊕(yab×Bool))):=cond (decide ((↑a2:Int)<(↑a6.length:Int))) (idxn a6 a2 fun a7=>(iter (fun(s:List (List Bool)×List zbn×Nat)=>zbd.s20 a_ b_ a2 a7 s.1 s.2.1 s.2.2) fuel (a8,a6,0)).bind (Sum.elim (fun s=>zbd.k21 a2 s.1 s.2) some)) (some (.inr (.inl ())))
def zbd(a_:zad)(b_:zad)(first_:zdq):Option (yab×Bool):=chk ((0:Int)<=(↑a_.Next.length:Int)∧(↑a_.Next.length:Int)<=(↑a_.Next.length:Int)∧za3 (Int.toNat (↑a_.Next.length:Int)) 24) ((iter (fun(s:List (List Bool)×Nat)=>zbd.s2 a_ b_ s.1 s.2) fuel ((List.replicate a_.Next.length ([]:List Bool)),0)).bind (fun a2=>idx a2 first_.s fun a6=>idx a6 first_.t fun a7=>(iter (fun(s:List (List Bool)×List zbn×Nat)=>zbd.s22 a_ b_ s.1 s.2.1 s.2.2) fuel ((List.set a2 (Int.toNat first_.s) (List.set a6 (Int.toNat first_.t) true)),[(⟨first_,[]⟩:zbn)],0)).bind (Sum.elim (fun _=>some ([],false)) some)))
def zb9(a_:zad)(b_:zad):Option (yab×Bool×Int):=(zfh a_ b_).bind fun a2=>cond (decide (a2≠0)) (some ([],false,a2)) ((zbd a_ b_ (⟨a_.Start,b_.Start⟩:zdq)).bind fun a6=>some (a6.1,a6.2,0))
def zd4(e_:Int):Option (za5×zac×Int×Int):=some ((⟨(⟨0,0,[],[]⟩:zad),[]⟩:za5),(⟨0,[]⟩:zac),0,e_)
def zbe.k3(a2:Int)(a6:yaa)(a7:yaa)(a8:Int)(b0:List zaa)(count199:Nat):Option ((Int×yaa×yaa×Int×List zaa×Nat)⊕(za5×zac×Int×Int)):=some (.inl (a2,a6,a7,a8,b0,count199))
def zbe.s4(m_:zad)(mode_:Int)(c6:Int)(c7:yaa)(c8:yaa)(a6:Int)(a7:List zaa)(count118:Nat):Option ((Int×yaa×yaa×Int×List zaa×Nat)⊕(za5×zac×Int×Int)):=((zcj (⟨c6,c7,c8⟩:zab) (⟨a6,a7⟩:zac)).bind fun a2=>cond (decide (a2.2.2.2≠0)) ((zd4 a2.2.2.2).bind fun b2=>some (.inr (.inr (b2.1,b2.2.1,b2.2.2.1,b2.2.2.2)))) (cond ((!a2.2.2.1)) ((zbt m_ (⟨a6,a7⟩:zac) a2.2.1).bind fun b3=>cond (decide (b3.2≠0)) ((zd4 b3.2).bind fun b4=>some (.inr (.inr (b4.1,b4.2.1,b4.2.2.1,b4.2.2.2)))) (some (.inl (a2.1.Inputs,a2.1.Prefixes,a2.1.Suffixes,b3.1.Inputs,b3.1.Traces,count118)))) ((zav a2.1 (⟨a6,a7⟩:zac)).bind fun b5=>cond (decide (b5.2≠0)) ((zd4 b5.2).bind fun b6=>some (.inr (.inr (b6.1,b6.2.1,b6.2.2.1,b6.2.2.2)))) ((zb9 b5.1.M m_).bind fun a8=>cond (decide (a8.2.2≠0)) ((zd4 a8.2.2).bind fun b7=>some (.inr (.inr (b7.1,b7.2.1,b7.2.2.1,b7.2.2.2)))) (cond ((!a8.2.1)) (some (.inr (.inr (b5.1,(⟨a6,a7⟩:zac),(↑count118:Int),0)))) ((zbt m_ (⟨a6,a7⟩:zac) [a8.1]).bind fun b8=>cond (decide (b8.2≠0)) ((zd4 b8.2).bind fun b9=>some (.inr (.inr (b9.1,b9.2.1,b9.2.2.1,b9.2.2.2)))) ((zcl a2.1 a8.1 mode_).bind fun b0=>cond (decide (b0.2≠0)) ((zd4 b0.2).bind fun c0=>some (.inr (.inr (c0.1,c0.2.1,c0.2.2.1,c0.2.2.2)))) (chk (inR ((↑count118:Int)+1)) (some (.inl (b0.1.Inputs,b0.1.Prefixes,b0.1.Suffixes,b8.1.Inputs,b8.1.Traces,(count118+1))))))))))):Option ((Int×yaa×yaa×Int×List zaa×Nat)⊕((Int×yaa×yaa×Int×List zaa×Nat)⊕(za5×zac×Int×Int)))).bind (Sum.elim (fun s=>zbe.k3 s.1 s.2.1 s.2.2.1 s.2.2.2.1 s.2.2.2.2.1 s.2.2.2.2.2) some)
def zbe(m_:zad)(mode_:Int):Option (za5×zac×Int×Int):=(zcf m_).bind fun a8=>cond (decide (a8≠0)) ((zd4 a8).bind fun a2=>some (a2.1,a2.2.1,a2.2.2.1,a2.2.2.2)) ((cond (decide (mode_≠0)) (some (decide (mode_≠1))) (some false)).bind (fun b2=>cond (b2) ((zd4 2).bind fun a6=>some (a6.1,a6.2.1,a6.2.2.1,a6.2.2.2)) ((zhz m_.Inputs).bind fun a7=>(zlb m_.Inputs).bind fun b0=>iter (fun(s:Int×yaa×yaa×Int×List zaa×Nat)=>zbe.s4 m_ mode_ s.1 s.2.1 s.2.2.1 s.2.2.2.1 s.2.2.2.2.1 s.2.2.2.2.2) fuel (a7.1.Inputs,a7.1.Prefixes,a7.1.Suffixes,b0.1.Inputs,b0.1.Traces,1))))
def zrv(inputs_:Int):Option Bool:=(cond (decide (1<=inputs_)) (some (decide (inputs_<=1024))) (some false)).bind (fun a2=>some a2)
def zd9.s2(w_:yab)(inputs_:Int)(a2:Nat):Option (Nat⊕(Unit⊕Int)):=cond (decide ((↑a2:Int)<(↑w_.length:Int))) ((idxn w_ a2 fun a6=>cond (decide (a6<0)) (some true) (idxn w_ a2 fun a7=>some (decide (inputs_<=a7)))).bind (fun a8=>cond (a8) (some (.inr (.inr 1))) (some (.inl (a2+1))))) (some (.inr (.inl ())))
def zd9(w_:yab)(inputs_:Int):Option Int:=(zrv inputs_).bind fun a2=>cond ((!a2)) (some 2) (cond (decide (1024<(↑w_.length:Int))) (some 3) ((iter (fun(s:Nat)=>zd9.s2 w_ inputs_ s) fuel 0).bind (Sum.elim (fun _=>some 0) some)))
def zf5.s2(m_:zad)(w_:yab)(a6:Int)(a7:yab)(a2:Nat):Option ((Int×yab×Nat)⊕(Int×yab)):=cond (decide ((↑a2:Int)<(↑w_.length:Int))) (idx m_.Out a6 fun a8=>idxn w_ a2 fun b0=>idx a8 b0 fun b2=>chk (za3 (List.length a7+1) 8) (idx m_.Next a6 fun b3=>idxn w_ a2 fun b4=>idx b3 b4 fun b5=>some (.inl (b5,(a7++[b2]),(a2+1))))) (some (.inr (a6,a7)))
def zf5.k3(a2:Int)(a6:yab):Option (yab×Int):=some (a6,a2)
def zf5(m_:zad)(s_:Int)(w_:yab):Option (yab×Int):=(iter (fun(s:Int×yab×Nat)=>zf5.s2 m_ w_ s.1 s.2.1 s.2.2) fuel (s_,[],0)).bind (fun s=>zf5.k3 s.1 s.2)
def zgm.s2(m_:zad)(s_:Int)(a2:Nat):Option (Nat⊕(Unit⊕Int)):=cond (decide ((↑a2:Int)<m_.Inputs)) ((idx m_.Next s_ fun a6=>idxn a6 a2 fun a7=>cond (decide (a7<0)) (some true) (idx m_.Next s_ fun a8=>idxn a8 a2 fun b0=>cond (decide ((↑m_.Next.length:Int)<=b0)) (some true) (idx m_.Out s_ fun b2=>idxn b2 a2 fun b3=>cond (decide (b3<0)) (some true) (idx m_.Out s_ fun b4=>idxn b4 a2 fun b5=>some (decide (1048576<b5)))))).bind (fun b6=>cond (b6) (some (.inr (.inr 2))) (chk (inR ((↑a2:Int)+1)) (some (.inl (a2+1)))))) (some (.inr (.inl ())))
def zgm(m_:zad)(s_:Int):Option Int:=(idx m_.Next s_ fun a2=>cond (decide ((↑a2.length:Int)≠m_.Inputs)) (some true) (idx m_.Out s_ fun a6=>some (decide ((↑a6.length:Int)≠m_.Inputs)))).bind (fun a7=>cond (a7) (some 1) ((iter (fun(s:Nat)=>zgm.s2 m_ s_ s) fuel 0).bind (Sum.elim (fun _=>some 0) some)))
def zca.s2(m_:zad)(a2:Nat):Option (Nat⊕(Unit⊕Int)):=cond (decide ((↑a2:Int)<(↑m_.Next.length:Int))) ((zgm m_ (↑a2:Int)).bind fun a6=>cond (decide (a6≠0)) (some (.inr (.inr a6))) (some (.inl (a2+1)))) (some (.inr (.inl ())))
def zca(m_:zad):Option Int:=(cond (decide (m_.Inputs<1)) (some true) (some (decide (64<m_.Inputs)))).bind (fun a2=>cond (a2) (some 2) (cond (decide ((↑m_.Next.length:Int)=0)) (some 19) (cond (decide (128<(↑m_.Next.length:Int))) (some 11) ((cond (decide (m_.Start<0)) (some true) (some (decide ((↑m_.Next.length:Int)<=m_.Start)))).bind (fun a6=>cond (a6) (some 2) (cond (decide ((↑m_.Out.length:Int)≠(↑m_.Next.length:Int))) (some 1) ((iter (fun(s:Nat)=>zca.s2 m_ s) fuel 0).bind (Sum.elim (fun _=>some 0) some))))))))
def zvf(m_:zad)(s_:Int)(w_:yab):Option (yab×Int×Int):=(zca m_).bind fun a2=>cond (decide (a2≠0)) (some ([],0,a2)) ((cond (decide (s_<0)) (some true) (some (decide ((↑m_.Next.length:Int)<=s_)))).bind (fun a8=>cond (a8) (some ([],0,2)) ((zd9 w_ m_.Inputs).bind fun a6=>cond (decide (a6≠0)) (some ([],0,a6)) ((zf5 m_ s_ w_).bind fun a7=>some (a7.1,a7.2,0)))))
def zvz(m_:zad)(w_:yab):Option (yab×Int):=(zvf m_ m_.Start w_).bind fun a2=>some (a2.1,a2.2.2)
def zfp.s2(t_:zaa)(a2:Nat):Option (Nat⊕(Unit⊕Int)):=cond (decide ((↑a2:Int)<(↑t_.Out.length:Int))) ((idxn t_.Out a2 fun a6=>cond (decide (a6<0)) (some true) (idxn t_.Out a2 fun a7=>some (decide (1048576<a7)))).bind (fun a8=>cond (a8) (some (.inr (.inr 2))) (some (.inl (a2+1))))) (some (.inr (.inl ())))
def zfp(t_:zaa)(inputs_:Int):Option Int:=(zd9 t_.In inputs_).bind fun a2=>cond (decide (a2≠0)) (some a2) (cond (decide ((↑t_.Out.length:Int)≠(↑t_.In.length:Int))) (some 1) ((iter (fun(s:Nat)=>zfp.s2 t_ s) fuel 0).bind (Sum.elim (fun _=>some 0) some)))
def zgi.s2(a_:zaa)(b_:zaa)(a6:Int)(a2:Nat):Option (Nat⊕(Unit⊕Int)):=cond (decide ((↑a2:Int)<a6)) (idxn a_.Out a2 fun a7=>idxn b_.Out a2 fun a8=>cond (decide (a7≠a8)) (some (.inr (.inr (↑a2:Int)))) (chk (inR ((↑a2:Int)+1)) (some (.inl (a2+1))))) (some (.inr (.inl ())))
def zgi(a_:zaa)(b_:zaa):Option Int:=(ze1 a_.In b_.In).bind fun a2=>(iter (fun(s:Nat)=>zgi.s2 a_ b_ a2 s) fuel 0).bind (Sum.elim (fun _=>some (-1:Int)) some)
def zej(w_:yab)(p_:yab):Option Bool:=(ze1 w_ p_).bind fun a2=>some (decide (a2=(↑p_.length:Int)))
def zv9(a_:yab)(b_:yab):Option Int:=(ze1 a_ b_).bind fun a2=>(cond (decide (a2=(↑a_.length:Int))) (some (decide (a2=(↑b_.length:Int)))) (some false)).bind (fun a6=>cond (a6) (some 0) ((cond (decide (a2=(↑a_.length:Int))) (some (decide (a2=(↑a_.length:Int)))) (cond (decide (a2<(↑b_.length:Int))) (idx a_ a2 fun a7=>idx b_ a2 fun a8=>some (decide (a7<a8))) (some false))).bind (fun b0=>cond (b0) (some (-1:Int)) (some 1))))
def zeg(a_:yab)(b_:yab):Option Int:=cond (decide ((↑a_.length:Int)<(↑b_.length:Int))) (some (-1:Int)) (cond (decide ((↑b_.length:Int)<(↑a_.length:Int))) (some 1) ((zv9 a_ b_).bind fun a2=>some a2))
def zhh.s2(parts_:yaa)(a2:yab)(a6:Nat):Option ((yab×Nat)⊕yab):=cond (decide ((↑a6:Int)<(↑parts_.length:Int))) (idxn parts_ a6 fun a7=>chk (za3 (List.length a2+List.length a7) 8) (some (.inl ((a2++a7),(a6+1))))) (some (.inr a2))
def zhh(parts_:yaa):Option yab:=(iter (fun(s:yab×Nat)=>zhh.s2 parts_ s.1 s.2) fuel ([],0)).bind (fun a2=>some a2)
def zjc(t_:zaa):Option zaa:=(zhh [t_.In]).bind fun a2=>(zhh [t_.Out]).bind fun a6=>some (⟨a2,a6⟩:zaa)
def zdr.s2(o_:zac)(t_:zaa)(done72:Bool)(a2:Nat):Option ((Bool×Nat)⊕Bool):=cond (decide ((↑a2:Int)<(↑o_.Traces.length:Int))) (cond (done72) (some (.inl (true,(a2+1)))) (idxn o_.Traces a2 fun a6=>(zej a6.In t_.In).bind fun a7=>some (.inl (a7,(a2+1))))) (some (.inr done72))
def zdr.k9(t_:zaa)(a7:Nat)(a2:zaa)(a6:List zaa)(done345:Bool):Option ((List zaa×Bool×Nat)⊕(List zaa×Bool)):=((zej t_.In a2.In).bind fun a8=>cond ((!a8)) (some true) (some (decide ((↑t_.In.length:Int)=(↑a2.In.length:Int))))).bind (fun b0=>cond (b0) ((zjc a2).bind fun b2=>chk (za3 (List.length a6+1) 48) (some (.inl ((a6++[b2]),done345,(a7+1))))) (some (.inl (a6,done345,(a7+1)))))
def zdr.s10(o_:zac)(t_:zaa)(a2:List zaa)(done276:Bool)(a6:Nat):Option ((List zaa×Bool×Nat)⊕(List zaa×Bool)):=cond (decide ((↑a6:Int)<(↑o_.Traces.length:Int))) (idxn o_.Traces a6 fun a7=>((cond ((!done276)) ((zeg t_.In a7.In).bind fun a8=>some (decide (a8<0))) (some false)).bind (fun b0=>cond (b0) ((zjc t_).bind fun b2=>chk (za3 (List.length a2+1) 48) (some ((a2++[b2]),true))) (some (a2,done276))):Option (List zaa×Bool)).bind (fun s=>zdr.k9 t_ a6 a7 s.1 s.2)) (some (.inr (a2,done276)))
def zdr.k11(o_:zac)(t_:zaa)(a2:List zaa)(done230:Bool):Option zac:=(cond ((!done230)) ((zjc t_).bind fun a6=>chk (za3 (List.length a2+1) 48) (some (a2++[a6]))) (some a2):Option (List zaa)).bind (fun a7=>some (⟨o_.Inputs,a7⟩:zac))
def zdr(o_:zac)(t_:zaa):Option zac:=(iter (fun(s:Bool×Nat)=>zdr.s2 o_ t_ s.1 s.2) fuel (decide ((↑t_.In.length:Int)=0),0)).bind (fun done67=>(iter (fun(s:List zaa×Bool×Nat)=>zdr.s10 o_ t_ s.1 s.2.1 s.2.2) fuel ([],done67,0)).bind (fun s=>zdr.k11 o_ t_ s.1 s.2))
def zlv.s2(o_:zac)(t_:zaa)(a2:Nat):Option (Nat⊕(Unit⊕(zac×Int))):=cond (decide ((↑a2:Int)<(↑o_.Traces.length:Int))) (idxn o_.Traces a2 fun a6=>(zgi a6 t_).bind fun a7=>cond (decide (0<=a7)) (some (.inr (.inr (o_,13)))) (some (.inl (a2+1)))) (some (.inr (.inl ())))
def zlv(o_:zac)(t_:zaa):Option (zac×Int):=(zfp t_ o_.Inputs).bind fun a2=>cond (decide (a2≠0)) (some (o_,a2)) ((iter (fun(s:Nat)=>zlv.s2 o_ t_ s) fuel 0).bind (Sum.elim (fun _=>(zdr o_ t_).bind fun a6=>cond (decide (10000<(↑a6.Traces.length:Int))) (some (o_,11)) (some (a6,0))) some))
def zc7.s2(m_:zad)(words_:yaa)(a7:Int)(a8:List zaa)(b0:Nat):Option ((Int×List zaa×Nat)⊕((Int×List zaa)⊕(zac×Int))):=cond (decide ((↑b0:Int)<(↑words_.length:Int))) (idxn words_ b0 fun b2=>(zvz m_ b2).bind fun a6=>cond (decide (a6.2≠0)) (some (.inr (.inr ((⟨a7,a8⟩:zac),a6.2)))) (idxn words_ b0 fun b3=>(zlv (⟨a7,a8⟩:zac) (⟨b3,a6.1⟩:zaa)).bind fun a2=>cond (decide (a2.2≠0)) (some (.inr (.inr ((⟨a7,a8⟩:zac),a2.2)))) (some (.inl (a2.1.Inputs,a2.1.Traces,(b0+1)))))) (some (.inr (.inl (a7,a8))))
def zc7.k3(a2:Int)(a6:List zaa):Option (zac×Int):=some ((⟨a2,a6⟩:zac),0)
def zc7(o_:zac)(m_:zad)(words_:yaa):Option (zac×Int):=(iter (fun(s:Int×List zaa×Nat)=>zc7.s2 m_ words_ s.1 s.2.1 s.2.2) fuel (o_.Inputs,o_.Traces,0)).bind (Sum.elim (fun s=>zc7.k3 s.1 s.2) some)
def zhy.s2(l_:yaa)(w_:yab)(low84:Nat)(high85:Nat):Option ((Nat×Nat)⊕Nat):=cond (decide ((↑low84:Int)<(↑high85:Int))) (chk (inR ((↑low84:Int)+(↑high85:Int))) (chk (inR (((↑low84:Int)+(↑high85:Int)) / 2)∧(0:Int)<=((↑low84:Int)+(↑high85:Int))∧(1:Int)<=2) (idxn l_ ((low84+high85) / 2) fun a2=>(zeg a2 w_).bind fun a6=>cond (decide (a6<0)) (chk (inR ((((↑low84:Int)+(↑high85:Int)) / 2)+1)) (some (.inl ((((low84+high85) / 2)+1),high85)))) (some (.inl (low84,((low84+high85) / 2))))))) (some (.inr low84))
def zhy(l_:yaa)(w_:yab):Option Int:=(iter (fun(s:Nat×Nat)=>zhy.s2 l_ w_ s.1 s.2) fuel (0,l_.length)).bind (fun low77=>some (↑low77:Int))
def zh7.s2(a8:Int)(a6:yaa)(a2:Int):Option ((yaa×Int)⊕yaa):=cond (decide (a8<a2)) (chk (inR (a2-1)) (idx a6 (a2-1) fun a7=>idx a6 a2 fun b0=>chk (inR (a2-1)) (some (.inl ((List.set a6 a2.toNat a7),(a2-1)))))) (some (.inr a6))
def zh7(l_:yaa)(w_:yab):Option yaa:=(zhy l_ w_).bind fun a2=>(cond (decide (a2<(↑l_.length:Int))) (idx l_ a2 fun a7=>(zlm a7 w_).bind fun a8=>some a8) (some false)).bind (fun b0=>cond (b0) (some l_) (chk (za3 (List.length l_+1) 24) (chk (inR ((↑(List.length (l_++[[]])):Int)-1)) ((iter (fun(s:yaa×Int)=>zh7.s2 a2 s.1 s.2) fuel ((l_++[[]]),((↑(List.length (l_++[[]])):Int)-1))).bind (fun a6=>chk (za3 (List.length ([]:List Unit)+List.length w_) 8) (idx a6 a2 fun b2=>some (List.set a6 a2.toNat ([]++w_))))))))
def zb6.s13(l_:yaa)(a6:Nat)(a7:yaa)(a2:Nat):Option ((yaa×Nat)⊕yaa):=idxn l_ a6 fun b0=>cond (decide ((↑a2:Int)<=(↑b0.length:Int))) (idxn l_ a6 fun a8=>chk ((0:Int)<=(↑a2:Int)∧(↑a2:Int)<=(↑a8.length:Int)) ((zh7 a7 (List.take a2 a8)).bind fun b2=>chk (inR ((↑a2:Int)+1)) (some (.inl (b2,(a2+1)))))) (some (.inr a7))
def zb6.s14(l_:yaa)(a6:yaa)(a2:Nat):Option ((yaa×Nat)⊕yaa):=cond (decide ((↑a2:Int)<(↑l_.length:Int))) ((iter (fun(s:yaa×Nat)=>zb6.s13 l_ a2 s.1 s.2) fuel (a6,0)).bind (fun a7=>some (.inl (a7,(a2+1))))) (some (.inr a6))
def zb6(l_:yaa):Option yaa:=(iter (fun(s:yaa×Nat)=>zb6.s14 l_ s.1 s.2) fuel ([],0)).bind (fun a2=>some a2)
def zev(u_:yab)(v_:yab):Option yab:=(zhh [u_,v_]).bind fun a2=>some a2
def zew.s2(l_:yaa)(a2:yaa)(a6:Nat):Option ((yaa×Nat)⊕yaa):=cond (decide ((↑a6:Int)<(↑l_.length:Int))) (idxn l_ a6 fun a7=>(zev a7 []).bind fun a8=>chk (za3 (List.length a2+1) 24) (some (.inl ((a2++[a8]),(a6+1))))) (some (.inr a2))
def zew(l_:yaa):Option yaa:=(iter (fun(s:yaa×Nat)=>zew.s2 l_ s.1 s.2) fuel ([],0)).bind (fun a2=>some a2)
def ze3.s2(l_:yaa)(a6:yaa)(a2:Nat):Option ((yaa×Nat)⊕yaa):=cond (decide ((↑a2:Int)<(↑l_.length:Int))) (idxn l_ a2 fun a7=>(zh7 a6 a7).bind fun a8=>some (.inl (a8,(a2+1)))) (some (.inr a6))
def ze3(l_:yaa):Option yaa:=(iter (fun(s:yaa×Nat)=>ze3.s2 l_ s.1 s.2) fuel ([],0)).bind (fun a2=>some a2)
def zgc.s2(lists_:List (yaa))(a2:yaa)(a6:Nat):Option ((yaa×Nat)⊕yaa):=cond (decide ((↑a6:Int)<(↑lists_.length:Int))) (idxn lists_ a6 fun a7=>chk (za3 (List.length a2+List.length a7) 24) (some (.inl ((a2++a7),(a6+1))))) (some (.inr a2))
def zgc(lists_:List (yaa)):Option yaa:=(iter (fun(s:yaa×Nat)=>zgc.s2 lists_ s.1 s.2) fuel ([],0)).bind (fun a2=>(ze3 a2).bind fun a6=>some a6)
def zls(t_:zab)(prefixes_:yaa)(suffixes_:yaa):Option zab:=(zew t_.Prefixes).bind fun a2=>(zew prefixes_).bind fun a6=>(zgc [a2,a6]).bind fun a7=>(zew t_.Suffixes).bind fun a8=>(zew suffixes_).bind fun b0=>(zgc [a8,b0]).bind fun b2=>some (⟨t_.Inputs,a7,b2⟩:zab)
def zgv.s2(w_:yab)(a6:yaa)(a2:Nat):Option ((yaa×Nat)⊕yaa):=cond (decide ((↑a2:Int)<(↑w_.length:Int))) (chk ((0:Int)<=(↑a2:Int)∧(↑a2:Int)<=(↑w_.length:Int)) (chk (za3 (List.length a6+1) 24) (some (.inl ((a6++[(List.drop a2 w_)]),(a2+1)))))) (some (.inr a6))
def zgv(w_:yab):Option yaa:=(iter (fun(s:yaa×Nat)=>zgv.s2 w_ s.1 s.2) fuel ([],0)).bind (fun a2=>some a2)
def zdy.s2(l_:yaa)(a6:Int)(a2:Nat):Option ((Int×Nat)⊕Int):=cond (decide ((↑a2:Int)<(↑l_.length:Int))) (idxn l_ a2 fun a7=>some (.inl ((max a6 (↑a7.length:Int)),(a2+1)))) (some (.inr a6))
def zdy(l_:yaa):Option Int:=(iter (fun(s:Int×Nat)=>zdy.s2 l_ s.1 s.2) fuel (0,0)).bind (fun a2=>some a2)
def zj1.s2(l_:yaa)(w_:yab)(a2:Nat):Option (Nat⊕(Unit⊕Bool)):=cond (decide ((↑a2:Int)<(↑l_.length:Int))) (idxn l_ a2 fun a6=>(zlm a6 w_).bind fun a7=>cond (a7) (some (.inr (.inr true))) (some (.inl (a2+1)))) (some (.inr (.inl ())))
def zj1(l_:yaa)(w_:yab):Option Bool:=(iter (fun(s:Nat)=>zj1.s2 l_ w_ s) fuel 0).bind (Sum.elim (fun _=>some false) some)
def zeb.s2(t_:zab)(a6:Nat):Option (Nat⊕(Unit⊕Int)):=cond (decide ((↑a6:Int)<(↑t_.Prefixes.length:Int))) (idxn t_.Prefixes a6 fun a2=>(zd9 a2 t_.Inputs).bind fun a7=>cond (decide (a7≠0)) (some (.inr (.inr a7))) ((cond (decide ((↑a6:Int)=0)) (cond (decide (0<(↑a2.length:Int))) (some true) (cond (decide (0<(↑a6:Int))) (idx t_.Prefixes ((↑a6:Int)-1) fun a8=>(zeg a8 a2).bind fun b0=>some (decide (0<=b0))) (some false))) (cond (decide (0<(↑a6:Int))) (idx t_.Prefixes ((↑a6:Int)-1) fun b2=>(zeg b2 a2).bind fun b3=>some (decide (0<=b3))) (some false))).bind (fun b4=>cond (b4) (some (.inr (.inr 10))) ((cond (decide (0<(↑a2.length:Int))) (chk ((0:Int)<=((↑a2.length:Int)-1)∧((↑a2.length:Int)-1)<=(↑a2.length:Int)) ((zj1 t_.Prefixes (List.take (Int.toNat ((↑a2.length:Int)-1)) a2)).bind fun b5=>some (!b5))) (some false)).bind (fun b6=>cond (b6) (some (.inr (.inr 1))) (some (.inl (a6+1)))))))) (some (.inr (.inl ())))
def zeb(t_:zab):Option Int:=(iter (fun(s:Nat)=>zeb.s2 t_ s) fuel 0).bind (Sum.elim (fun _=>some 0) some)
def zb7.s2(t_:zab)(a2:Nat):Option (Nat⊕(Unit⊕Int)):=cond (decide ((↑a2:Int)<(↑t_.Suffixes.length:Int))) (idxn t_.Suffixes a2 fun a6=>(zd9 a6 t_.Inputs).bind fun a7=>cond (decide (a7≠0)) (some (.inr (.inr a7))) (cond (decide ((↑a6.length:Int)=0)) (some (.inr (.inr 19))) ((cond (decide (0<(↑a2:Int))) (idx t_.Suffixes ((↑a2:Int)-1) fun a8=>(zeg a8 a6).bind fun b0=>some (decide (0<=b0))) (some false)).bind (fun b2=>cond (b2) (some (.inr (.inr 10))) (some (.inl (a2+1))))))) (some (.inr (.inl ())))
def zb7.s4(t_:zab)(a2:Nat):Option (Nat⊕(Unit⊕Int)):=cond (decide ((↑a2:Int)<t_.Inputs)) ((zj1 t_.Suffixes [(↑a2:Int)]).bind fun a6=>cond ((!a6)) (some (.inr (.inr 1))) (chk (inR ((↑a2:Int)+1)) (some (.inl (a2+1))))) (some (.inr (.inl ())))
def zb7(t_:zab):Option Int:=(iter (fun(s:Nat)=>zb7.s2 t_ s) fuel 0).bind (Sum.elim (fun _=>(iter (fun(s:Nat)=>zb7.s4 t_ s) fuel 0).bind (Sum.elim (fun _=>some 0) some)) some)
def zgx(t_:zab):Option Int:=(cond (decide (t_.Inputs<1)) (some true) (some (decide (64<t_.Inputs)))).bind (fun b0=>cond (b0) (some 2) (cond (decide ((↑t_.Prefixes.length:Int)=0)) (some 19) ((cond (decide (10000<(↑t_.Prefixes.length:Int))) (some true) (some (decide (10000<(↑t_.Suffixes.length:Int))))).bind (fun b2=>cond (b2) (some 11) (chk (inR (t_.Inputs+1)) (chk (inR ((↑t_.Prefixes.length:Int)*(t_.Inputs+1))) (chk (inR (((↑t_.Prefixes.length:Int)*(t_.Inputs+1))*(↑t_.Suffixes.length:Int))) (cond (decide (160000<(((↑t_.Prefixes.length:Int)*(t_.Inputs+1))*(↑t_.Suffixes.length:Int)))) (some 11) ((zeb t_).bind fun a2=>cond (decide (a2≠0)) (some a2) ((zb7 t_).bind fun a6=>cond (decide (a6≠0)) (some a6) ((zdy t_.Prefixes).bind fun a7=>(zdy t_.Suffixes).bind fun a8=>chk (inR (a7+a8)) (cond (decide (1023<(a7+a8))) (some 3) (some 0)))))))))))))
def ze6.k1(t_:zab)(a2:Int)(a6:yaa)(a7:yaa):Option (zab×Int):=(zgx (⟨a2,a6,a7⟩:zab)).bind fun a8=>cond (decide (a8≠0)) (some (t_,a8)) (some ((⟨a2,a6,a7⟩:zab),0))
def ze6(t_:zab)(w_:yab)(mode_:Int):Option (zab×Int):=(zgx t_).bind fun a7=>cond (decide (a7≠0)) (some (t_,a7)) ((zd9 w_ t_.Inputs).bind fun a8=>cond (decide (a8≠0)) (some (t_,a8)) ((cond (decide (mode_≠0)) (some (decide (mode_≠1))) (some false)).bind (fun b0=>cond (b0) (some (t_,2)) ((zb6 [w_]).bind fun b2=>(zls t_ b2 []).bind fun a2=>(cond (decide (mode_=1)) ((zgv w_).bind fun b3=>(zls t_ [] b3).bind fun a6=>some (a6.Inputs,a6.Prefixes,a6.Suffixes)) (some (a2.Inputs,a2.Prefixes,a2.Suffixes)):Option (Int×yaa×yaa)).bind (fun s=>ze6.k1 t_ s.1 s.2.1 s.2.2)))))
def zff.s2(inputs_:Int)(a2:yaa)(a66:Nat):Option ((yaa×Nat)⊕yaa):=cond (decide ((↑a66:Int)<inputs_)) (chk (za3 (List.length a2+1) 24) (chk (inR ((↑a66:Int)+1)) (some (.inl ((a2++[[(↑a66:Int)]]),(a66+1)))))) (some (.inr a2))
def zff(inputs_:Int):Option yaa:=(iter (fun(s:yaa×Nat)=>zff.s2 inputs_ s.1 s.2) fuel ([],0)).bind (fun a2=>some a2)
def zwy(inputs_:Int):Option (zab×Int):=(cond (decide (inputs_<1)) (some true) (some (decide (64<inputs_)))).bind (fun a2=>cond (a2) (some ((⟨0,[],[]⟩:zab),2)) ((zff inputs_).bind fun a6=>some ((⟨inputs_,[[]],a6⟩:zab),0)))
def zl9(t_:zab)(w_:yab):Option (zab×Int):=(zgx t_).bind fun a2=>cond (decide (a2≠0)) (some (t_,a2)) ((zd9 w_ t_.Inputs).bind fun a6=>cond (decide (a6≠0)) (some (t_,a6)) ((zb6 [w_]).bind fun b0=>(zls t_ b0 []).bind fun a7=>(zgx a7).bind fun a8=>cond (decide (a8≠0)) (some (t_,a8)) (some (a7,0))))
def zmk(t_:zab)(w_:yab):Option (zab×Int):=(zgx t_).bind fun a2=>cond (decide (a2≠0)) (some (t_,a2)) (cond (decide ((↑w_.length:Int)=0)) (some (t_,19)) ((zd9 w_ t_.Inputs).bind fun a6=>cond (decide (a6≠0)) (some (t_,a6)) ((zls t_ [] [w_]).bind fun a7=>(zgx a7).bind fun a8=>cond (decide (a8≠0)) (some (t_,a8)) (some (a7,0)))))
def ze5.s2(o_:zac)(w_:yab)(a2:Nat):Option (Nat⊕(Unit⊕(yab×Bool))):=cond (decide ((↑a2:Int)<(↑o_.Traces.length:Int))) (idxn o_.Traces a2 fun a7=>(zej a7.In w_).bind fun a8=>cond (a8) (idxn o_.Traces a2 fun a6=>chk ((0:Int)<=(↑w_.length:Int)∧(↑w_.length:Int)<=(↑a6.Out.length:Int)) ((zhh [(List.take w_.length a6.Out)]).bind fun b0=>some (.inr (.inr (b0,true))))) (some (.inl (a2+1)))) (some (.inr (.inl ())))
def ze5(o_:zac)(w_:yab):Option (yab×Bool):=cond (decide ((↑w_.length:Int)=0)) (some ([],true)) ((iter (fun(s:Nat)=>ze5.s2 o_ w_ s) fuel 0).bind (Sum.elim (fun _=>some ([],false)) some))
def zcr.s13(a6:yaa)(a7:Nat)(top412:Bool)(a2:Nat):Option ((Bool×Nat)⊕Bool):=cond (decide ((↑a2:Int)<(↑a6.length:Int))) (cond (top412) (idxn a6 a2 fun a8=>idxn a6 a7 fun b0=>cond (decide ((↑a8.length:Int)=(↑b0.length:Int))) (some (.inl (true,(a2+1)))) (idxn a6 a2 fun b2=>idxn a6 a7 fun b3=>(zej b2 b3).bind fun b4=>some (.inl ((!b4),(a2+1))))) (some (.inl (false,(a2+1))))) (some (.inr top412))
def zcr.s14(a7:yaa)(a6:yaa)(a2:Nat):Option ((yaa×Nat)⊕yaa):=cond (decide ((↑a2:Int)<(↑a7.length:Int))) ((iter (fun(s:Bool×Nat)=>zcr.s13 a7 a2 s.1 s.2) fuel (true,(a2+1))).bind (fun top404=>cond (top404) (idxn a7 a2 fun a8=>chk (za3 (List.length a6+1) 24) (some (.inl ((a6++[a8]),(a2+1))))) (some (.inl (a6,(a2+1)))))) (some (.inr a6))
def zcr(l_:yaa):Option yaa:=(ze3 l_).bind fun a6=>(iter (fun(s:yaa×Nat)=>zcr.s14 a6 s.1 s.2) fuel ([],0)).bind (fun a2=>some a2)
def zo7(t_:zab)(o_:zac):Option Int:=(zgx t_).bind fun a2=>cond (decide (a2≠0)) (some a2) (cond (decide (t_.Inputs≠o_.Inputs)) (some 15) (some 0))
def zbu.s13(t_:zab)(a7:Nat)(a6:yaa)(a2:Nat):Option ((yaa×Nat)⊕yaa):=cond (decide ((↑a2:Int)<t_.Inputs)) (idxn t_.Prefixes a7 fun a8=>(zev a8 [(↑a2:Int)]).bind fun b0=>chk (za3 (List.length a6+1) 24) (chk (inR ((↑a2:Int)+1)) (some (.inl ((a6++[b0]),(a2+1)))))) (some (.inr a6))
def zbu.s14(t_:zab)(a6:yaa)(a2:Nat):Option ((yaa×Nat)⊕yaa):=cond (decide ((↑a2:Int)<(↑t_.Prefixes.length:Int))) ((iter (fun(s:yaa×Nat)=>zbu.s13 t_ a2 s.1 s.2) fuel (a6,0)).bind (fun a7=>some (.inl (a7,(a2+1))))) (some (.inr a6))
def zbu(t_:zab):Option yaa:=(iter (fun(s:yaa×Nat)=>zbu.s14 t_ s.1 s.2) fuel ([],0)).bind (fun a2=>(ze3 a2).bind fun a6=>some a6)
def zc3.s13(t_:zab)(o_:zac)(b4:yaa)(a8:Nat)(a2:yaa)(a6:Nat):Option ((yaa×Nat)⊕yaa):=cond (decide ((↑a6:Int)<(↑t_.Suffixes.length:Int))) (idxn b4 a8 fun b0=>idxn t_.Suffixes a6 fun b2=>(zev b0 b2).bind fun a7=>(ze5 o_ a7).bind fun b3=>cond ((!b3.2)) (chk (za3 (List.length a2+1) 24) (some (.inl ((a2++[a7]),(a6+1))))) (some (.inl (a2,(a6+1))))) (some (.inr a2))
def zc3.s14(t_:zab)(o_:zac)(a8:yaa)(a6:yaa)(a2:Nat):Option ((yaa×Nat)⊕yaa):=cond (decide ((↑a2:Int)<(↑a8.length:Int))) ((iter (fun(s:yaa×Nat)=>zc3.s13 t_ o_ a8 a2 s.1 s.2) fuel (a6,0)).bind (fun a7=>some (.inl (a7,(a2+1))))) (some (.inr a6))
def zc3(t_:zab)(o_:zac):Option (yaa×Int):=(zo7 t_ o_).bind fun a7=>cond (decide (a7≠0)) (some ([],a7)) ((zbu t_).bind fun a8=>(zgc [t_.Prefixes,a8]).bind fun b0=>(iter (fun(s:yaa×Nat)=>zc3.s14 t_ o_ b0 s.1 s.2) fuel ([],0)).bind (fun a2=>(zcr a2).bind fun a6=>some (a6,0)))
def zmm(o_:zac)(w_:yab)(e_:yab):Option (yab×Bool):=(zev w_ e_).bind fun a6=>(ze5 o_ a6).bind fun a2=>cond ((!a2.2)) (some ([],false)) (chk ((0:Int)<=(↑w_.length:Int)∧(↑w_.length:Int)<=(↑a2.1.length:Int)) (some ((List.drop w_.length a2.1),true)))
def zhq.s2(o_:zac)(suffixes_:yaa)(w_:yab)(a2:yaa)(a6:Nat):Option ((yaa×Nat)⊕(yaa⊕(yaa×Bool))):=cond (decide ((↑a6:Int)<(↑suffixes_.length:Int))) (idxn suffixes_ a6 fun a8=>(zmm o_ w_ a8).bind fun a7=>cond ((!a7.2)) (some (.inr (.inr ([],false)))) (chk (za3 (List.length a2+1) 24) (some (.inl ((a2++[a7.1]),(a6+1)))))) (some (.inr (.inl a2)))
def zhq(o_:zac)(suffixes_:yaa)(w_:yab):Option (yaa×Bool):=(iter (fun(s:yaa×Nat)=>zhq.s2 o_ suffixes_ w_ s.1 s.2) fuel ([],0)).bind (Sum.elim (fun a2=>some (a2,true)) some)
def zha.s2(a_:yab)(b_:yab)(a2:Nat):Option (Nat⊕(Unit⊕Bool)):=cond (decide ((↑a2:Int)<(↑a_.length:Int))) (idxn a_ a2 fun a6=>idxn b_ a2 fun a7=>cond (decide (a6≠a7)) (some (.inr (.inr false))) (some (.inl (a2+1)))) (some (.inr (.inl ())))
def zha(a_:yab)(b_:yab):Option Bool:=cond (decide ((↑a_.length:Int)≠(↑b_.length:Int))) (some false) ((iter (fun(s:Nat)=>zha.s2 a_ b_ s) fuel 0).bind (Sum.elim (fun _=>some true) some))
def ze7.s2(a_:yaa)(b_:yaa)(a2:Nat):Option (Nat⊕(Unit⊕Bool)):=cond (decide ((↑a2:Int)<(↑a_.length:Int))) (idxn a_ a2 fun a6=>idxn b_ a2 fun a7=>(zha a6 a7).bind fun a8=>cond ((!a8)) (some (.inr (.inr false))) (some (.inl (a2+1)))) (some (.inr (.inl ())))
def ze7(a_:yaa)(b_:yaa):Option Bool:=cond (decide ((↑a_.length:Int)≠(↑b_.length:Int))) (some false) ((iter (fun(s:Nat)=>ze7.s2 a_ b_ s) fuel 0).bind (Sum.elim (fun _=>some true) some))
def zhe.s2(t_:zab)(o_:zac)(a6:yaa×Bool)(a2:Nat):Option (Nat⊕(Unit⊕Int)):=cond (decide ((↑a2:Int)<(↑t_.Prefixes.length:Int))) (idxn t_.Prefixes a2 fun a7=>(zhq o_ t_.Suffixes a7).bind fun a8=>(ze7 a8.1 a6.1).bind fun b0=>cond (b0) (some (.inr (.inr (↑a2:Int)))) (some (.inl (a2+1)))) (some (.inr (.inl ())))
def zhe(t_:zab)(o_:zac)(w_:yab):Option Int:=(zhq o_ t_.Suffixes w_).bind fun a2=>(iter (fun(s:Nat)=>zhe.s2 t_ o_ a2 s) fuel 0).bind (Sum.elim (fun _=>some (-1:Int)) some)
def zij(t_:zab)(o_:zac):Option Int:=(zc3 t_ o_).bind fun a2=>cond (decide (a2.2≠0)) (some a2.2) (cond (decide (0<(↑a2.1.length:Int))) (some 12) (some 0))
def zdp.s2(t_:zab)(o_:zac)(a6:yaa)(a2:Nat):Option (Nat⊕(Unit⊕(yab×Bool×Int))):=cond (decide ((↑a2:Int)<(↑a6.length:Int))) (idxn a6 a2 fun a7=>(zhe t_ o_ a7).bind fun a8=>cond (decide (a8<0)) (idxn a6 a2 fun b0=>some (.inr (.inr (b0,true,0)))) (some (.inl (a2+1)))) (some (.inr (.inl ())))
def zdp(t_:zab)(o_:zac):Option (yab×Bool×Int):=(zij t_ o_).bind fun a2=>cond (decide (a2≠0)) (some ([],false,a2)) ((zbu t_).bind fun a6=>(iter (fun(s:Nat)=>zdp.s2 t_ o_ a6 s) fuel 0).bind (Sum.elim (fun _=>some ([],false,0)) some))
def zcm.s13(t_:zab)(a7:Nat)(a6:yaa×Bool)(a8:yaa×Bool)(a2:Nat):Option (Nat⊕(Unit⊕(Nat⊕(Unit⊕(yab×Bool))))):=cond (decide ((↑a2:Int)<(↑a6.1.length:Int))) (idxn a6.1 a2 fun b0=>idxn a8.1 a2 fun b2=>(zha b0 b2).bind fun b3=>cond ((!b3)) (idxn t_.Suffixes a2 fun b4=>(zev [(↑a7:Int)] b4).bind fun b5=>some (.inr (.inr (.inr (.inr (b5,true)))))) (some (.inl (a2+1)))) (some (.inr (.inl ())))
def zcm.s14(t_:zab)(o_:zac)(p_:yab)(q_:yab)(a2:Nat):Option (Nat⊕(Unit⊕(yab×Bool))):=cond (decide ((↑a2:Int)<t_.Inputs)) ((zev p_ [(↑a2:Int)]).bind fun a6=>(zhq o_ t_.Suffixes a6).bind fun a7=>(zev q_ [(↑a2:Int)]).bind fun a8=>(zhq o_ t_.Suffixes a8).bind fun b0=>(iter (fun(s:Nat)=>zcm.s13 t_ a2 a7 b0 s) fuel 0).bind (Sum.elim (fun _=>chk (inR ((↑a2:Int)+1)) (some (.inl (a2+1)))) some)) (some (.inr (.inl ())))
def zcm(t_:zab)(o_:zac)(p_:yab)(q_:yab):Option (yab×Bool):=(iter (fun(s:Nat)=>zcm.s14 t_ o_ p_ q_ s) fuel 0).bind (Sum.elim (fun _=>some ([],false)) some)
def zbk.s13(t_:zab)(o_:zac)(a6:Nat)(a2:Nat):Option (Nat⊕(Unit⊕(Nat⊕(Unit⊕(yab×Bool×Int))))):=cond (decide ((↑a2:Int)<(↑t_.Prefixes.length:Int))) ((idxn t_.Prefixes a6 fun a8=>(zhq o_ t_.Suffixes a8).bind fun b0=>idxn t_.Prefixes a2 fun b2=>(zhq o_ t_.Suffixes b2).bind fun b3=>(ze7 b0.1 b3.1).bind fun b4=>cond ((!b4)) (some (.inl ())) (idxn t_.Prefixes a6 fun b5=>idxn t_.Prefixes a2 fun b6=>(zcm t_ o_ b5 b6).bind fun a7=>cond (a7.2) (some (.inr (.inr (.inr (.inr (.inr (a7.1,true,0))))))) (some (.inl ()))):Option (Unit⊕(Nat⊕(Unit⊕(Nat⊕(Unit⊕(yab×Bool×Int))))))).bind (Sum.elim (fun _=>some (.inl (a2+1))) some)) (some (.inr (.inl ())))
def zbk.s14(t_:zab)(o_:zac)(a2:Nat):Option (Nat⊕(Unit⊕(yab×Bool×Int))):=cond (decide ((↑a2:Int)<(↑t_.Prefixes.length:Int))) ((iter (fun(s:Nat)=>zbk.s13 t_ o_ a2 s) fuel (a2+1)).bind (Sum.elim (fun _=>some (.inl (a2+1))) some)) (some (.inr (.inl ())))
def zbk(t_:zab)(o_:zac):Option (yab×Bool×Int):=(zij t_ o_).bind fun a2=>cond (decide (a2≠0)) (some ([],false,a2)) ((iter (fun(s:Nat)=>zbk.s14 t_ o_ s) fuel 0).bind (Sum.elim (fun _=>some ([],false,0)) some))
def zf6(t_:zab)(o_:zac):Option (zab×yaa×Bool×Int):=(zc3 t_ o_).bind fun a2=>(cond (decide (a2.2≠0)) (some true) (some (decide (0<(↑a2.1.length:Int))))).bind (fun b2=>cond (b2) (some (t_,a2.1,false,a2.2)) ((zdp t_ o_).bind fun a6=>cond (a6.2.1) ((zl9 t_ a6.1).bind fun a7=>some (a7.1,[],false,a7.2)) ((zbk t_ o_).bind fun a8=>cond (a8.2.1) ((zmk t_ a8.1).bind fun b0=>some (b0.1,[],false,b0.2)) (some (t_,[],true,0)))))
def zg2.s2(l_:yab)(n_:Int)(a2:Nat):Option (Nat⊕(Unit⊕Int)):=cond (decide ((↑a2:Int)<(↑l_.length:Int))) (idxn l_ a2 fun a6=>cond (decide (a6=n_)) (some (.inr (.inr (↑a2:Int)))) (some (.inl (a2+1)))) (some (.inr (.inl ())))
def zg2(l_:yab)(n_:Int):Option Int:=(iter (fun(s:Nat)=>zg2.s2 l_ n_ s) fuel 0).bind (Sum.elim (fun _=>some 0) some)
def zcd.s18(t_:zab)(o_:zac)(l_:yab)(a8:yab)(a6:yab)(a7:yab)(a2:Nat):Option ((yab×yab×Nat)⊕(yab×yab)):=cond (decide ((↑a2:Int)<t_.Inputs)) ((zmm o_ a8 [(↑a2:Int)]).bind fun b0=>(zev a8 [(↑a2:Int)]).bind fun b2=>(zhe t_ o_ b2).bind fun b3=>(zg2 l_ b3).bind fun b4=>chk (za3 (List.length a6+1) 8) (idxn b0.1 0 fun b5=>chk (za3 (List.length a7+1) 8) (chk (inR ((↑a2:Int)+1)) (some (.inl ((a6++[b4]),(a7++[b5]),(a2+1))))))) (some (.inr (a6,a7)))
def zcd.k19(a2:yaa)(a6:yaa)(a7:yaa)(a8:Nat)(b0:yab)(b2:yab)(b3:yab):Option ((yaa×yaa×yaa×Nat)⊕(yaa×yaa×yaa)):=chk (za3 (List.length a2+1) 24) (chk (za3 (List.length a6+1) 24) ((zev b0 []).bind fun b4=>chk (za3 (List.length a7+1) 24) (some (.inl ((a2++[b2]),(a6++[b3]),(a7++[b4]),(a8+1))))))
def zcd.s20(t_:zab)(o_:zac)(l_:yab)(a6:yaa)(a7:yaa)(a8:yaa)(a2:Nat):Option ((yaa×yaa×yaa×Nat)⊕(yaa×yaa×yaa)):=cond (decide ((↑a2:Int)<(↑l_.length:Int))) (idxn l_ a2 fun b2=>idx t_.Prefixes b2 fun b0=>(iter (fun(s:yab×yab×Nat)=>zcd.s18 t_ o_ l_ b0 s.1 s.2.1 s.2.2) fuel ([],[],0)).bind (fun s=>zcd.k19 a6 a7 a8 a2 b0 s.1 s.2)) (some (.inr (a6,a7,a8)))
def zcd.k21(t_:zab)(a2:yaa)(a6:yaa)(a7:yaa):Option za5:=some (⟨(⟨t_.Inputs,0,a2,a6⟩:zad),a7⟩:za5)
def zcd(t_:zab)(o_:zac)(l_:yab):Option za5:=(iter (fun(s:yaa×yaa×yaa×Nat)=>zcd.s20 t_ o_ l_ s.1 s.2.1 s.2.2.1 s.2.2.2) fuel ([],[],[],0)).bind (fun s=>zcd.k21 t_ s.1 s.2.1 s.2.2)
def zfk.s2(t_:zab)(o_:zac)(a6:yab)(a2:Nat):Option ((yab×Nat)⊕yab):=cond (decide ((↑a2:Int)<(↑t_.Prefixes.length:Int))) (idxn t_.Prefixes a2 fun a7=>(zhe t_ o_ a7).bind fun a8=>cond (decide (a8=(↑a2:Int))) (chk (za3 (List.length a6+1) 8) (some (.inl ((a6++[(↑a2:Int)]),(a2+1))))) (some (.inl (a6,(a2+1))))) (some (.inr a6))
def zfk(t_:zab)(o_:zac):Option yab:=(iter (fun(s:yab×Nat)=>zfk.s2 t_ o_ s.1 s.2) fuel ([],0)).bind (fun a2=>some a2)
def zd2(t_:zab)(o_:zac):Option (za5×Int):=(zdp t_ o_).bind fun a2=>cond (decide (a2.2.2≠0)) (some ((⟨(⟨0,0,[],[]⟩:zad),[]⟩:za5),a2.2.2)) ((zbk t_ o_).bind fun a7=>(cond (a2.2.1) (some true) (some a7.2.1)).bind (fun a8=>cond (a8) (some ((⟨(⟨0,0,[],[]⟩:zad),[]⟩:za5),10)) ((zfk t_ o_).bind fun a6=>cond (decide (128<(↑a6.length:Int))) (some ((⟨(⟨0,0,[],[]⟩:zad),[]⟩:za5),11)) ((zcd t_ o_ a6).bind fun b0=>some (b0,0)))))
def zo5(a_:zad)(b_:zad):Option Int:=(zca a_).bind fun a2=>cond (decide (a2≠0)) (some a2) ((zca b_).bind fun a6=>cond (decide (a6≠0)) (some a6) (cond (decide (a_.Inputs≠b_.Inputs)) (some 15) (some 0)))
def zjs(w_:yab)(a_:Int):Option yab:=chk (za3 w_.length 8) (chk (za3 (List.length w_+1) 8) (some (w_++[a_])))
def zcn.s84(a6:List zax)(a7:Int)(a8:Int)(known2308:Bool)(a2:Nat):Option ((Bool×Nat)⊕Bool):=cond (decide ((↑a2:Int)<(↑a6.length:Int))) (cond (known2308) (some (.inl (true,(a2+1)))) (idxn a6 a2 fun b0=>cond (decide (b0.S=a7)) (idxn a6 a2 fun b2=>some (.inl (decide (b2.T=a8),(a2+1)))) (some (.inl (false,(a2+1)))))) (some (.inr known2308))
def zcn.s85(a_:zad)(b_:zad)(a7:Nat)(a2:List zax)(a6:Nat):Option ((List zax×Nat)⊕(List zax⊕((List zax×Nat)⊕(Unit⊕(yab×Bool))))):=cond (decide ((↑a6:Int)<a_.Inputs)) (idxn a2 a7 fun b3=>(zjs b3.Word (↑a6:Int)).bind fun a8=>idxn a2 a7 fun b4=>idx a_.Out b4.S fun b5=>idxn b5 a6 fun b6=>idxn a2 a7 fun b7=>idx b_.Out b7.T fun b8=>idxn b8 a6 fun b9=>cond (decide (b6≠b9)) (some (.inr (.inr (.inr (.inr (a8,true)))))) (idxn a2 a7 fun c0=>idx a_.Next c0.S fun c6=>idxn c6 a6 fun b0=>idxn a2 a7 fun c7=>idx b_.Next c7.T fun c8=>idxn c8 a6 fun b2=>(iter (fun(s:Bool×Nat)=>zcn.s84 a2 b0 b2 s.1 s.2) fuel (false,0)).bind (fun known2303=>cond ((!known2303)) (chk (za3 (List.length a2+1) 40) (chk (inR ((↑a6:Int)+1)) (some (.inl ((a2++[(⟨b0,b2,a8⟩:zax)]),(a6+1)))))) (chk (inR ((↑a6:Int)+1)) (some (.inl (a2,(a6+1)))))))) (some (.inr (.inl a2)))
def zcn.s86(a_:zad)(b_:zad)(a6:List zax)(a2:Nat):Option ((List zax×Nat)⊕(Unit⊕(yab×Bool))):=cond (decide ((↑a2:Int)<(↑a6.length:Int))) ((iter (fun(s:List zax×Nat)=>zcn.s85 a_ b_ a2 s.1 s.2) fuel (a6,0)).bind (Sum.elim (fun a7=>some (.inl (a7,(a2+1)))) some)) (some (.inr (.inl ())))
def zcn(a_:zad)(b_:zad)(s_:Int)(t_:Int):Option (yab×Bool):=(iter (fun(s:List zax×Nat)=>zcn.s86 a_ b_ s.1 s.2) fuel ([(⟨s_,t_,[]⟩:zax)],0)).bind (Sum.elim (fun _=>some ([],false)) some)
def zdn(a_:zad)(b_:zad):Option (yab×Bool×Int):=(zo5 a_ b_).bind fun a2=>cond (decide (a2≠0)) (some ([],false,a2)) ((zcn a_ b_ a_.Start b_.Start).bind fun a6=>some (a6.1,a6.2,0))
def zbh.k5(a7:Nat)(a2:zac×Int)(a8:Int)(b0:yaa)(b2:yaa)(a6:Int):Option ((Int×yaa×yaa×Int×List zaa×Nat)⊕(za5×zac×Int×Int)):=cond (decide (a6≠0)) (some (.inr ((⟨(⟨0,0,[],[]⟩:zad),[]⟩:za5),(⟨0,[]⟩:zac),0,a6))) (some (.inl (a8,b0,b2,a2.1.Inputs,a2.1.Traces,a7)))
def zbh.k6(m_:zad)(mode_:Int)(a8:Int)(b0:List zaa)(a2:zab×yaa×Bool×Int)(b2:Nat)(words194:yaa):Option ((Int×yaa×yaa×Int×List zaa×Nat)⊕(za5×zac×Int×Int)):=(zc7 (⟨a8,b0⟩:zac) m_ words194).bind fun a7=>((cond (decide (a7.2=0)) (some a2.2.2.1) (some false)).bind (fun b3=>cond (b3) (idxn words194 0 fun b4=>(ze6 a2.1 b4 mode_).bind fun a6=>some (a6.1.Inputs,a6.1.Prefixes,a6.1.Suffixes,a6.2)) (some (a2.1.Inputs,a2.1.Prefixes,a2.1.Suffixes,a7.2))):Option (Int×yaa×yaa×Int)).bind (fun s=>zbh.k5 b2 a7 s.1 s.2.1 s.2.2.1 s.2.2.2)
def zbh.s7(m_:zad)(mode_:Int)(b3:Int)(b4:yaa)(b5:yaa)(a6:Int)(a7:List zaa)(a8:Nat):Option ((Int×yaa×yaa×Int×List zaa×Nat)⊕(za5×zac×Int×Int)):=(zf6 (⟨b3,b4,b5⟩:zab) (⟨a6,a7⟩:zac)).bind fun a2=>cond (decide (a2.2.2.2≠0)) (some (.inr ((⟨(⟨0,0,[],[]⟩:zad),[]⟩:za5),(⟨0,[]⟩:zac),0,a2.2.2.2))) ((cond (a2.2.2.1) (chk (inR ((↑a8:Int)+1)) ((zd2 a2.1 (⟨a6,a7⟩:zac)).bind fun b0=>cond (decide (b0.2≠0)) (some (.inr (.inr ((⟨(⟨0,0,[],[]⟩:zad),[]⟩:za5),(⟨0,[]⟩:zac),0,b0.2)))) ((zdn b0.1.M m_).bind fun b2=>cond (decide (b2.2.2≠0)) (some (.inr (.inr ((⟨(⟨0,0,[],[]⟩:zad),[]⟩:za5),(⟨0,[]⟩:zac),0,b2.2.2)))) (cond ((!b2.2.1)) (some (.inr (.inr (b0.1,(⟨a6,a7⟩:zac),((↑a8:Int)+1),0)))) (some (.inl ((a8+1),[b2.1]))))))) (some (.inl (a8,a2.2.1))):Option ((Nat×yaa)⊕((Int×yaa×yaa×Int×List zaa×Nat)⊕(za5×zac×Int×Int)))).bind (Sum.elim (fun s=>zbh.k6 m_ mode_ a6 a7 a2 s.1 s.2) some))
def zbh(m_:zad)(mode_:Int):Option (za5×zac×Int×Int):=(zca m_).bind fun a6=>cond (decide (a6≠0)) (some ((⟨(⟨0,0,[],[]⟩:zad),[]⟩:za5),(⟨0,[]⟩:zac),0,a6)) ((cond (decide (mode_≠0)) (some (decide (mode_≠1))) (some false)).bind (fun a7=>cond (a7) (some ((⟨(⟨0,0,[],[]⟩:zad),[]⟩:za5),(⟨0,[]⟩:zac),0,2)) ((zwy m_.Inputs).bind fun a2=>iter (fun(s:Int×yaa×yaa×Int×List zaa×Nat)=>zbh.s7 m_ mode_ s.1 s.2.1 s.2.2.1 s.2.2.2.1 s.2.2.2.2.1 s.2.2.2.2.2) fuel (a2.1.Inputs,a2.1.Prefixes,a2.1.Suffixes,m_.Inputs,[],0))))
def zsh(a_:zad)(b_:zad):Option Bool:=(cond (decide (a_.Inputs=b_.Inputs)) (cond (decide (a_.Start=b_.Start)) ((ze7 a_.Next b_.Next).bind fun a2=>cond (a2) ((ze7 a_.Out b_.Out).bind fun a6=>some a6) (some false)) (some false)) (some false)).bind (fun a7=>some a7)
def zm3(a_:za5)(b_:za5):Option Bool:=((zsh a_.M b_.M).bind fun a2=>cond (a2) ((ze7 a_.Access b_.Access).bind fun a6=>some a6) (some false)).bind (fun a7=>some a7)
def zc4.s2(a_:List zaa)(b_:List zaa)(a2:Nat):Option (Nat⊕(Unit⊕Bool)):=cond (decide ((↑a2:Int)<(↑a_.length:Int))) ((idxn a_ a2 fun a6=>idxn b_ a2 fun a7=>(zha a6.In a7.In).bind fun a8=>cond ((!a8)) (some true) (idxn a_ a2 fun b0=>idxn b_ a2 fun b2=>(zha b0.Out b2.Out).bind fun b3=>some (!b3))).bind (fun b4=>cond (b4) (some (.inr (.inr false))) (some (.inl (a2+1))))) (some (.inr (.inl ())))
def zc4(a_:List zaa)(b_:List zaa):Option Bool:=cond (decide ((↑a_.length:Int)≠(↑b_.length:Int))) (some false) ((iter (fun(s:Nat)=>zc4.s2 a_ b_ s) fuel 0).bind (Sum.elim (fun _=>some true) some))
def znk(a_:zac)(b_:zac):Option Bool:=(cond (decide (a_.Inputs=b_.Inputs)) ((zc4 a_.Traces b_.Traces).bind fun a2=>some a2) (some false)).bind (fun a6=>some a6)
def zip(m_:zad)(mode_:Int):Option Bool:=(zok m_).bind fun a7=>cond ((!a7)) ((zla).bind fun a8=>some a8) ((zbe m_ mode_).bind fun a2=>(zbh m_ mode_).bind fun a6=>((zm3 a2.1 a6.1).bind fun b0=>cond (b0) ((znk a2.2.1 a6.2.1).bind fun b2=>cond (b2) (cond (decide (a2.2.2.1=a6.2.2.1)) (cond (decide (a2.2.2.2=a6.2.2.2)) ((zla).bind fun b3=>some b3) (some false)) (some false)) (some false)) (some false)).bind (fun b4=>some b4))
section
section
variable {S R A B α β:Type}
theorem zdt{step:S->Option (S⊕R)}(I:S->Prop)(m:S->Nat)(Q:R->Prop)(h:∀s,I s->(∃s',step s=some (.inl s')∧I s'∧m s'<m s)∨∃r,step s=some (.inr r)∧Q r) :
  ∀(n:Nat) (s:S),I s->m s<n->∃r,iter step n s=some r∧Q r
 |0,_,_,hm=>absurd hm (yet _)
 |n+1,s,hi,hm=>by
  unfold iter;rcases h s hi with⟨s',e,hi',hm'⟩|⟨r,e,hq⟩
  ·rw[e];exact zdt I m Q h n s' hi' (by omega)
  ·rw[e];exact⟨r,rfl,hq⟩
theorem zb1{step:S->Option (S⊕R)}{r:R}(I:S->Prop)(m:S->Nat)(h:∀s,I s->(∃s',step s=some (.inl s')∧I s'∧m s'<m s)∨step s=some (.inr r)){n:Nat}{s:S}(hi:I s)(hm:m s<n:=by have:=zc2;(try simp only);omega):iter step n s=some r:=by
 obtain⟨r',e,rfl⟩:=zdt I m (fun r'=>r'=r) (fun s hs=>(h s hs).imp id fun e=>⟨r,e,rfl⟩) n s hi hm;exact e
def walk(g:A->Nat->α->Option (A⊕R))(fin:A->Option R):A->Nat->List α->Option R
 |a,_,[]=>fin a
 |a,i,x::l=>(g a i x).bind (Sum.elim (fun a'=>walk g fin a' (i+1) l) some)
theorem zao{l:List α}{i:Nat}{x:α}{k:α->Option β}(h:l[i]?=some x):idxn l i k=k x:=by unfold idxn;rw[h]
theorem zbw{l:List α}{n:Int}{i:Nat}{x:α}{k:α->Option β}(hn:n=(i:Int))(h:l[i]?=some x):idx l n k=k x:=by
 subst hn;unfold idx;rw[if_pos (by omega),ybf,h]
theorem zaq{c:Prop}[Decidable c]{k:Option α}(h:c):chk c k=k:=by unfold chk;rw[if_pos h]
theorem zah{a:α}{f:α->Option β}:(some a).bind f=f a:=(yaw a f).trans (Eq.trans rfl rfl)
theorem zc2:100000000000000<fuel:=by unfold fuel;omega
theorem zix{S R:Type}{step:S->Option (S⊕R)}(I:S->Prop)(m:S->Nat)(Q:R->Prop)(h:∀s,I s->(∃s',step s=some (.inl s')∧I s'∧m s'<m s)∨∃r,step s=some (.inr r)∧Q r)(s:S)(hi:I s)(hm:m s<fuel:=by have:=zc2;(try simp only);omega):∃r,iter step fuel s=some r∧Q r:=zdt I m Q h fuel s hi hm
theorem zbr{l:List α}{i:Nat}{x:α}(h:l[i]?=some x):decide ((↑i:Int)<(↑l.length:Int))=true:=by
 have:=(zkI.1 h).1;simpa using this
theorem zc6(l:List α):decide ((↑l.length:Int)<(↑l.length:Int))=false:=by simp
def scan(g:Nat->α->Option R):Nat->List α->Option R
 |_,[]=>none
 |i,x::l=>match g i x with|some r=>some r|none=>scan g (i+1) l
theorem zeh{g:Nat->α->Option R}:∀{l:List α} {j:Nat},scan g j l=none↔∀i x,l[i]?=some x->g (j+i) x=none
 |[],j=>by simp[scan]
 |y::l,j=>by
  constructor
  ·intro h i x hx;unfold scan at h;cases e:g j y with
   |some r=>rw[e]at h;cases h
   |none =>
    rw[e]at h
    match i,hx with
    |0,hx =>
     simp at hx;subst hx;exact e
    |i+1,hx =>
     have:=(zeh (g:=g) (l:=l) (j:=j+1)).1 h i x (by simpa using hx)
     rwa [show j+1+i=j+(i+1) by omega]at this
  ·intro h;unfold scan;have h0:=h 0 y rfl;rw[yb4]at h0;rw[h0]
   exact(zeh (g:=g) (l:=l) (j:=j+1)).2 fun i x hx=>by
    have:=h (i+1) x (by simpa using hx)
    rwa [show j+(i+1)=j+1+i by omega]at this
theorem zce{step:Nat->Option (Nat⊕(Unit⊕R))}{l:List α}(g:Nat->α->Option R)(h1:∀i x,l[i]?=some x->step i=some (match g i x with|some r=>.inr (.inr r)|none=>.inl (i+1)))(h2:step l.length=some (.inr (.inl ())))(hl:l.length<=100000000000000) :
  iter step fuel 0=some (match scan g 0 l with|some r=>.inr r|none=>.inl ()):=by
 have key:∀(n i:Nat),i<=l.length->l.length-i<n->iter step n i=some (match scan g i (l.drop i) with|some r=>.inr r|none=>.inl ()):=by
  intro n
  induction n with
  |zero=>intro i _ h;omega
  |succ n ih =>
   intro i hi hn;rcases ya6 i l.length with h|h
   ·rw[ybr h];unfold iter scan;rw[h1 i _ (zkM h)];cases g i l[i]with
    |some r=>rfl
    |none=>exact ih (i+1) h (by omega)
   ·have e:i=l.length:=by omega
    subst e;rw[ycw];unfold iter scan;rw[h2]
 exact key fuel 0 (yag _) (by have:=zc2;omega)
def foldi(f:A->Nat->α->A):A->Nat->List α->A
 |a,_,[]=>a
 |a,i,x::l=>foldi f (f a i x) (i+1) l
theorem zw7{step:A×Nat->Option ((A×Nat)⊕R)}{l:List α}(f:A->Nat->α->A)(fin:A->R)(Inv:A->Nat->Prop)(h1:∀a i x,Inv a i->l[i]?=some x->step (a,i)=some (.inl (f a i x,i+1))∧Inv (f a i x) (i+1))
  (h2:∀a,Inv a l.length->step (a,l.length)=some (.inr (fin a))) (hl:l.length<=100000000000000) {a0:A} (h0:Inv a0 0):iter step fuel (a0,0)=some (fin (foldi f a0 0 l))∧Inv (foldi f a0 0 l) l.length:=by
 have key:∀(n i:Nat) (a:A),Inv a i->i<=l.length->l.length-i<n->iter step n (a,i)=some (fin (foldi f a i (l.drop i)))∧Inv (foldi f a i (l.drop i)) l.length:=by
  intro n
  induction n with
  |zero=>intro i _ _ _ h;omega
  |succ n ih =>
   intro i a hv hi hn;rcases ya6 i l.length with h|h
   ·rw[ybr h];unfold iter foldi;obtain⟨e,a2⟩:=h1 a i _ hv (zkM h);rw[e];exact ih (i+1) _ a2 h (by omega)
   ·have e:i=l.length:=by omega
    subst e;rw[ycw];unfold iter foldi;rw[h2 a hv];exact⟨rfl,hv⟩
 exact key fuel 0 a0 h0 (yag _) (by have:=zc2;omega)
theorem zvd{f:A->α->A}:∀(l:List α) (a:A) (i:Nat),foldi (fun a _ x=>f a x) a i l=l.foldl f a
 |[],_,_=>rfl
 |x::l,a,i=>by unfold foldi;exact zvd l (f a x) (i+1)
end
end
theorem zlf(x y:Int):cmp_Compare_int x y=some (cmpI x y):=by
 unfold cmp_Compare_int cmp_isNaN_int cmpI;by_cases h1:x<y
 ·simp[h1]
 ·by_cases h2:y<x<;>simp[h1,h2]
theorem zl6(s t:yab)(hs:s.length<=100000000000000):zbo s t=some (lexI s t):=by
 have key:=zdt (step:=fun k=>zbo.s2 s t k) (fun k=>k<=s.length∧k<=t.length∧lexI s t=lexI (s.drop k) (t.drop k)) (fun k=>s.length-k)
  (fun r=>Sum.elim (fun(_:Unit)=>cond (decide ((↑s.length:Int)<(↑t.length:Int))) (some (-1:Int)) (some 0)) some r=some (lexI s t)) (fun k ⟨h1,h2,h3⟩=>by
   unfold zbo.s2
   rcases ya6 k s.length with h|h
   ·have hx:=zkM h
    rw[zbr hx,zkD,zao hx]
    by_cases h4:t.length<=k
    ·right
     refine⟨.inr 1,by simp[h4],?_⟩
     rw[h3,lexI_long h h4]
     rfl
    ·have hy:=zkM (show k<t.length by omega)
     have a2:=lexI_step hx hy
     have d4:decide ((↑t.length:Int)<=(↑k:Int))=false:=by simp;omega
     rw[d4,zkC,zao hy,zlf]
     by_cases h5:cmpI s[k] t[k]=0
     ·left
      rw[if_pos h5]at a2
      exact⟨k+1,by simp[h5],⟨by omega,by omega,by rw[h3,a2]⟩,by omega⟩
     ·right
      rw[if_neg h5]at a2
      exact⟨.inr (cmpI s[k] t[k]),by simp[h5],by rw[h3,a2];rfl⟩
   ·right
    have e:k=s.length:=by omega
    subst e
    rw[zc6,zkC]
    refine⟨.inl (),rfl,?_⟩
    rw[h3,lexI_end (yam _)]
    by_cases h4:s.length<t.length<;>simp[h4]) fuel 0 ⟨yag _,yag _,rfl⟩ (by have:=zc2;simp only[ye1];omega)
 obtain⟨r,e,hq⟩:=key;unfold zbo;rw[e];exact hq
theorem cmp_Or_two(x y:Int):ze4 [x,y]=some (if x≠0 then x else y):=by
 unfold ze4;have e:fuel=(fuel-3)+1+1+1:=by unfold fuel;omega
 rw[e];by_cases h1:x=0
 ·by_cases h2:y=0
  ·simp[iter,ze4.s2,idxn,h1,h2]
  ·simp[iter,ze4.s2,idxn,h1,h2]
 ·simp[iter,ze4.s2,idxn,h1]
theorem zk0(s t:yab)(hs:s.length<=100000000000000):zjl s t=some (lexI s t):=by
 unfold zjl;rw[zl6 s t hs];rfl
theorem ziv(s t:yab)(hs:s.length<=100000000000000):zer s t=some (cmpW s t):=by
 unfold zer;rw[zl6 s t hs,zlf];show(ze4 [cmpI s.length t.length,lexI s t]).bind some=_;rw[cmp_Or_two];show some _=some _;congr 1;unfold cmpI cmpW;by_cases h1:s.length<t.length
 ·simp[h1]
 ·by_cases h2:t.length<s.length
  ·simp[h1,h2]
  ·simp[h1,h2]
theorem cmpE_word_Lex:CmpE Tryz.prog 122 (fun x=>nL cI x) (fun x y=>zjl x y) :=
 ⟨fun args w=>zfl rfl rfl rfl args w,cmpG_lex fun x y r hx h=>by rw[zk0 x y (by omega)]at h;injection h with h;exact h.symm⟩
theorem zs7:CmpE Tryz.prog 86 (fun x=>nL cI x) (fun x y=>zer x y) :=
 ⟨fun args w=>zfl rfl rfl rfl args w,cmpG_compare fun x y r hx h=>by rw[ziv x y (by omega)]at h;injection h with h;exact h.symm⟩
theorem zs6:CmpE Tryz.prog 121 (fun x=>.agg (zae x)) (fun x y=>zb3 x y) :=
 ⟨fun args w=>zfl rfl rfl rfl args w,cmpG_find1 (T:=zaa) (i:=fun x=>x.In) (o:=fun x=>x.Out) (f:=fun x y=>zb3 x y) (fun _=>rfl) fun x y r hx h=>by
  simp only[zb3]at h
  rw[zk0 _ _ (by omega)]at h
  injection h with h
  exact h.symm⟩
section
section
variable {α β R:Type}
theorem get_at{l:List α}{i:Nat}(h:i<l.length):l[i]?=some l[i]:=zkM h
theorem zxt[DecidableEq α]{a b:List α}{step:Nat->Option (Nat⊕(Unit⊕Bool))}(hlen:a.length=b.length)(h1:∀i x y,a[i]?=some x->b[i]?=some y->step i=some (if x=y then .inl (i+1) else .inr (.inr false)))
  (h2:step a.length=some (.inr (.inl ()))) (hl:a.length<=100000000000000):(iter step fuel 0).bind (Sum.elim (fun _=>some true) some)=some (decide (a=b)):=by
 rw[zce (l:=a) (fun i x=>if b[i]?=some x then none else some false) (fun i x hx=>?_) h2 hl]
 ·cases e:scan (fun i x=>if b[i]?=some x then none else some false) 0 a with
  |none =>
   have:=zeh.1 e
   have a2:a=b:=by
    apply yc5;intro i;rcases ya6 i a.length with h|h
    ·have h3:=this i _ (get_at h);rw[yah]at h3;split at h3
     ·rename_i h4;rw[get_at h,h4]
     ·cases h3
    ·rw[yb6 h,yb6 (by omega)]
   simp[a2]
  |some r =>
   have a3:a≠b:=fun a2=>by
    subst a2;have:scan (fun i x=>if a[i]?=some x then none else some false) 0 a=none:=zeh.2 fun i x hx=>by rw[yah,if_pos hx]
    rw[this]at e;cases e
   have hr:r=false:=by
    have key:∀(l:List α) (j:Nat),scan (fun i x=>if b[i]?=some x then none else some false) j l=some r->r=false:=by
     intro l
     induction l with
     |nil=>intro j h;cases h
     |cons x l ih =>
      intro j h;unfold scan at h;split at h
      ·rename_i r' h3;injection h with h
       subst h;split at h3
       ·cases h3
       ·injection h3 with h3
        exact h3.symm
      ·exact ih _ h
    exact key a 0 e
   subst hr;simp[a3]
 ·have hi:=(zkI.1 hx).1;have hy:=get_at (l:=b) (i:=i) (by omega);rw[h1 i x _ hx hy];by_cases h:x=b[i]'(by omega)
  ·rw[if_pos h,hy,if_pos (by rw[h])]
  ·rw[if_neg h,hy,if_neg (fun h3=>h (by injection h3 with h3;exact h3.symm))]
end
theorem znl(a b:yab)(hl:a.length<=100000000000000):zha a b=some (decide (a=b)):=by
 unfold zha;by_cases a2:a.length=b.length
 ·rw[show decide ((↑a.length:Int)≠(↑b.length:Int))=false by simp[a2],zkC];refine zxt a2 (fun i x y hx hy=>?_) ?_ hl
  ·simp only[zha.s2];rw[zbr hx,zkD,zao hx,zao hy];by_cases h:x=y<;>simp[h]
  ·simp only[zha.s2];rw[zc6];rfl
 ·rw[show decide ((↑a.length:Int)≠(↑b.length:Int))=true by simp;omega,zkD];have:a≠b:=fun h=>a2 (by rw[h]);simp[this]
theorem zjz(a b:yaa)(hl:a.length<=100000000000000)(hw:∀x∈a,x.length<=100000000000000):ze7 a b=some (decide (a=b)):=by
 unfold ze7;by_cases a2:a.length=b.length
 ·rw[show decide ((↑a.length:Int)≠(↑b.length:Int))=false by simp[a2],zkC];refine zxt a2 (fun i x y hx hy=>?_) ?_ hl
  ·simp only[ze7.s2];rw[zbr hx,zkD,zao hx,zao hy,znl x y (hw x (zkH hx))];by_cases h:x=y<;>simp[h]
  ·simp only[ze7.s2];rw[zc6];rfl
 ·rw[show decide ((↑a.length:Int)≠(↑b.length:Int))=true by simp;omega,zkD];have:a≠b:=fun h=>a2 (by rw[h]);simp[this]
def SmW(x:yab):Prop:=x.length<=2000000
def SmL(l:yaa):Prop:=l.length<=2000000∧∀x∈l,SmW x
theorem R01_Size_eq(n:Int):zrv n=some (decide (1<=n∧n<=1024)):=by
 unfold zrv;by_cases h1:1<=n<;>by_cases h2:n<=1024<;>simp[h1,h2]
theorem ztn(n:Int):zh1 n=some (decide (1<=n∧n<=1024)):=by
 unfold zh1;by_cases h1:1<=n<;>by_cases h2:n<=1024<;>simp[h1,h2]
theorem zsu{α R:Type}{p:α->Bool}{r:R}:∀(l:List α) (j:Nat),scan (fun _ x=>if p x=true then none else some r) j l=if l.all p=true then none else some r
 |[],_=>rfl
 |x::l,j=>by
  unfold scan;by_cases h:p x=true
  ·simp only[h,if_true,List.all_cons,Bool.true_and];exact zsu l (j+1)
  ·simp[h]
theorem zgu(w:yab)(n:Int)(hl:SmW w):zd9 w n=some (zbq w n):=by
 unfold zd9 zbq;rw[R01_Size_eq];by_cases h1:1<=n∧n<=1024
 ·rw[if_pos h1];simp only[yaw,h1,and_self,decide_true,ybh,zkC];by_cases h2:1024<w.length
  ·rw[if_pos h2,show decide ((1024:Int)<(↑w.length:Int))=true from zkB (by omega),zkD]
  ·rw[if_neg h2,show decide ((1024:Int)<(↑w.length:Int))=false from zkA (by omega),zkC]
   have key:=zce (step:=fun s=>zd9.s2 w n s) (l:=w) (fun _ x=>if decide (0<=x∧x<n)=true then none else some (1:Int)) (fun i x hx=>by
    simp only[zd9.s2]
    rw[zbr hx,zkD,zao hx,zao hx]
    by_cases a1:x<0
    ·simp[a1,show ¬(0<=x) by omega]
    ·by_cases a2:n<=x
     ·simp[a1,a2,show ¬(x<n) by omega]
     ·simp[a1,a2,show 0<=x by omega,show x<n by omega]) (by
    simp only[zd9.s2]
    rw[zc6]
    rfl) (by unfold SmW at hl;omega)
   rw[key,zsu (p:=fun x=>decide (0<=x∧x<n))];by_cases h:(w.all fun x=>decide (0<=x∧x<n))=true
   ·rw[if_pos h,if_pos h];rfl
   ·rw[if_neg h,if_neg h];rfl
 ·rw[if_neg h1];simp[h1]
theorem zfy(w:yab)(n:Int)(hl:SmW w):zfq w n=some (zbq w n):=by
 unfold zfq zbq zcz zba;rw[ztn];by_cases h1:1<=n∧n<=1024
 ·rw[if_pos h1];simp only[yaw,h1,and_self,decide_true,ybh,zkC];by_cases h2:1024<w.length
  ·rw[if_pos h2,show decide ((1024:Int)<(↑w.length:Int))=true from zkB (by omega),zkD]
  ·rw[if_neg h2,show decide ((1024:Int)<(↑w.length:Int))=false from zkA (by omega),zkC]
   have key:=zce (step:=fun s=>zba.s2 w (fun u0=>zih u0 n) s) (l:=w) (fun i x=>if decide (0<=x∧x<n)=true then none else some (i:Int)) (fun i x hx=>by
    simp only[zba.s2,zih]
    rw[zbr hx,zkD,zao hx]
    by_cases a1:x<0
    ·simp[a1,show ¬(0<=x) by omega]
    ·by_cases a2:n<=x
     ·simp[a1,a2,show ¬(x<n) by omega]
     ·simp[a1,a2,show 0<=x by omega,show x<n by omega]) (by
    simp only[zba.s2]
    rw[zc6]
    rfl) (by unfold SmW at hl;omega)
   rw[key];cases e:scan (fun i x=>if decide (0<=x∧x<n)=true then none else some (i:Int)) 0 w with
   |none =>
    have h3:=zeh.1 e
    have h:(w.all fun x=>decide (0<=x∧x<n))=true:=ybb.2 fun x hx=>by
     obtain⟨i,hi,rfl⟩:=ya5.1 hx;have:=h3 i _ (get_at hi);split at this
     ·assumption
     ·cases this
    rw[if_pos h];simp
   |some r =>
    have h:¬(w.all fun x=>decide (0<=x∧x<n))=true:=fun h=>by
     have:scan (fun i x=>if decide (0<=x∧x<n)=true then none else some (i:Int)) 0 w=none:=zeh.2 fun i x hx=>if_pos (ybb.1 h x (zkH hx));rw[this]at e;cases e
    have hr:0<=r:=by
     have key:∀(l:yab) (j:Nat),scan (fun i x=>if decide (0<=x∧x<n)=true then none else some (i:Int)) j l=some r->0<=r:=by
      intro l
      induction l with
      |nil=>intro j h;cases h
      |cons x l ih =>
       intro j h;unfold scan at h;split at h
       ·rename_i r' h3;injection h with h
        subst h;split at h3
        ·cases h3
        ·injection h3 with h3
         omega
       ·exact ih _ h
     exact key w 0 e
    rw[if_neg h];simp[hr]
 ·rw[if_neg h1];simp[h1]
theorem zj8(a b:yab)(ha:SmW a):ze1 a b=some (za4 a b:Int):=by
 unfold ze1;rw[zb1 (r:=za4 a b) (fun k=>k<=a.length∧za4 a b=za4 (a.drop k) (b.drop k)+k) (fun k=>a.length-k) (fun k ⟨h1,h2⟩=>?_) ⟨yag _,by simp⟩ (by have:=zc2;unfold SmW at ha;omega)]
 ·rfl
 ·simp only[ze1.s2];rcases ya6 k a.length with h|h
  ·have hx:=get_at h;rcases ya6 k b.length with h'|h'
   ·have hy:=get_at h';rw[zbr hx,zbr hy,zkD,zkD,zao hx,zao hy];rw[ybr h,ybr h']at h2;by_cases e:a[k]=b[k]
    ·left;unfold SmW at ha;refine⟨k+1,?_,⟨h,?_⟩,by omega⟩
     ·rw[zaq (by unfold inR;omega)];simp[e]
     ·rw[h2,e];simp[za4];omega
    ·right;simp only[za4,e,if_false,yah]at h2;simp[e,h2]
   ·right;rw[zbr hx,zkD,show decide ((↑k:Int)<(↑b.length:Int))=false by simp;omega];rw[ztq (Or.inr h'),yah]at h2;simp[h2]
  ·right;rw[show decide ((↑k:Int)<(↑a.length:Int))=false by simp;omega];rw[ztq (Or.inl h),yah]at h2;simp[h2]
theorem zq5(a b:yab)(ha:SmW a):zlm a b=some (decide (a=b)):=by
 unfold zlm;rw[zj8 a b ha];have h:=same_iff a b;by_cases h1:a.length=b.length
 ·rw[show decide ((↑a.length:Int)=(↑b.length:Int))=true from zkB (by omega),zkD];by_cases h2:za4 a b=a.length
  ·have:a=b:=h.1 ⟨h1,h2⟩;subst this;simp[zmw]
  ·have:a≠b:=fun e=>h2 (h.2 e).2;simp only[yaw,this,decide_false];rw[zkA (by omega)]
 ·have:a≠b:=fun e=>h1 (by rw[e]);rw[show decide ((↑a.length:Int)=(↑b.length:Int))=false from zkA (by omega),zkC];simp[this]
theorem R01_Lex_eq(a b:yab)(ha:SmW a):zv9 a b=some (lexI a b):=by
 unfold zv9;rw[zj8 a b ha];have a3:=zmu a b;have a2:=zwb a b;rw[a2];simp only[yaw];by_cases h1:za4 a b=a.length
 ·rw[show decide ((↑(za4 a b):Int)=↑a.length)=true from zkB (by omega),zkD,zkD];by_cases h2:za4 a b=b.length
  ·rw[show decide ((↑(za4 a b):Int)=↑b.length)=true from zkB (by omega),if_pos ⟨h1,h2⟩];rfl
  ·rw[show decide ((↑(za4 a b):Int)=↑b.length)=false from zkA (by omega),if_neg (fun h=>h2 h.2),if_pos (Or.inl h1)];rfl
 ·rw[show decide ((↑(za4 a b):Int)=↑a.length)=false from zkA (by omega),zkC,zkC,if_neg (fun h=>h1 h.1)];by_cases h2:za4 a b=b.length
  ·rw[show decide ((↑(za4 a b):Int)<(↑b.length:Int))=false from zkA (by omega),if_neg (fun h=>by omega)];rfl
  ·have hx:=get_at (l:=a) (i:=za4 a b) (by omega);have hy:=get_at (l:=b) (i:=za4 a b) (by omega);rw[show decide ((↑(za4 a b):Int)<(↑b.length:Int))=true from zkB (by omega),zkD,zbw rfl hx,zbw rfl hy];rw[ybo,ybo,hx,hy];by_cases h3:a[za4 a b]'(by omega)<b[za4 a b]'(by omega)
   ·rw[if_pos (Or.inr ⟨by omega,h3⟩)];simp[h3]
   ·rw[if_neg (fun h=>by
     rcases h with h|⟨_,h⟩
     ·omega
     ·exact h3 h)]
    simp[h3]
theorem zjh(a b:yab)(ha:SmW a):zeg a b=some (cmpW a b):=by
 unfold zeg cmpW;rw[R01_Lex_eq a b ha];by_cases h1:a.length<b.length
 ·rw[show decide ((↑a.length:Int)<(↑b.length:Int))=true from zkB (by omega),if_pos h1];rfl
 ·rw[show decide ((↑a.length:Int)<(↑b.length:Int))=false from zkA (by omega),if_neg h1,zkC];by_cases h2:b.length<a.length
  ·rw[show decide ((↑b.length:Int)<(↑a.length:Int))=true from zkB (by omega),if_pos h2];rfl
  ·rw[show decide ((↑b.length:Int)<(↑a.length:Int))=false from zkA (by omega),if_neg h2];rfl
theorem zzg(l:yaa)(w:yab)(hl:SmL l):zj1 l w=some (decide (w∈l)):=by
 unfold zj1
 have key:=zce (step:=fun s=>zj1.s2 l w s) (l:=l) (fun _ x=>if decide (x≠w)=true then none else some true) (fun i x hx=>by
  simp only[zj1.s2]
  rw[zbr hx,zkD,zao hx,zq5 x w (hl.2 x (zkH hx))]
  by_cases h:x=w<;>simp[h]) (by
  simp only[zj1.s2]
  rw[zc6]
  rfl) (by have:=hl.1;omega)
 rw[key,zsu (p:=fun x=>decide (x≠w))];by_cases h:w∈l
 ·have:¬(l.all fun x=>decide (x≠w))=true:=fun h2=>by
   have:=ybb.1 h2 w h;simp at this
  rw[if_neg this];simp[h]
 ·have:(l.all fun x=>decide (x≠w))=true:=ybb.2 fun x hx=>by
   have:x≠w:=fun e=>h (e ▸ hx);simpa using this
  rw[if_pos this];simp[h]
end
end Go.Proofs.YtfgajaakmmogkaaGreatDoor.Sym
namespace Go.Proofs.YtfgajaakmmogkaaGreatDoor
def M64:Nat:=18446744073709551616
def gold:Nat:=11400714819323198485
def mulA:Nat:=13787848793156543929
def mulB:Nat:=10723151780598845931
def mix(y:Nat):Nat :=
 let z:=(y ^^^ (y >>> 30))*mulA%M64
 let u:=(z ^^^ (z >>> 27))*mulB%M64
 u ^^^ (u >>> 31)
theorem few:∀(k a:Nat) (l:List Nat),l.Nodup->(∀x∈l,a<=x∧x<a+k)->l.length<=k
 |0,a,l,_,h=>by
  cases l with
  |nil=>simp
  |cons x l=>have:=h x (by simp);omega
 |k+1,a,l,hn,h=>by
  have h1:=few k a (l.erase (a+k)) (hn.erase _) fun x hx=>by
   have h2:=(hn.mem_erase_iff).1 hx;have h3:=h x h2.2;have h4:=h2.1;omega
  by_cases hm:a+k∈l
  ·have:=List.length_erase_of_mem hm;omega
  ·rw[List.erase_of_not_mem hm]at h1;omega
def drawF:Nat->Nat->Nat×Nat
 |0,s=>(0,s)
 |f+1,s=>if mix ((s+gold)%M64)<M64-1616 then(mix ((s+gold)%M64)%10000,(s+gold)%M64) else drawF f ((s+gold)%M64)
def draw(s:Nat):Nat×Nat:=drawF 1617 s
end Go.Proofs.YtfgajaakmmogkaaGreatDoor
namespace Go.Proofs.YtfgajaakmmogkaaGreatDoor.Sym
def steps(nx:Nat->Nat):Nat->Nat->Nat
 |0,s=>s
 |j+1,s=>steps nx j (nx s)
def nxt(s:Nat):Nat:=(s+gold)%M64
section
section
variable {κ ν:Type}[BEq κ]
theorem zly{k:κ}{v:ν}(hb:∀a b:κ,(a==b)=true↔a=b):∀m:List (κ×ν),mget k (mset k v m)=some v
 |[]=>by
  unfold mset mget;rw[(hb k k).2 rfl]
 |p::m=>by
  unfold mset;cases h:k==p.1 with
  |true =>
   show mget k ((k,v)::m)=_;unfold mget;rw[(hb k k).2 rfl]
  |false =>
   show mget k (p::mset k v m)=_;unfold mget;rw[h];exact zly hb m
theorem zoa{k k':κ}{v:ν}(hb:∀a b:κ,(a==b)=true↔a=b)(hne:¬k'=k):∀m:List (κ×ν),mget k' (mset k v m)=mget k' m
 |[]=>by
  have e:(k'==k)=false:=by
   cases e:k'==k with
   |true=>exact absurd ((hb _ _).1 e) hne
   |false=>rfl
  unfold mset mget;simp only[e];rfl
 |p::m=>by
  unfold mset;cases h:k==p.1 with
  |true =>
   have e1:k=p.1:=(hb _ _).1 h;show mget k' ((k,v)::m)=mget k' (p::m)
   have e:(k'==k)=false:=by
    cases e:k'==k with
    |true=>exact absurd ((hb _ _).1 e) hne
    |false=>rfl
   unfold mget;rw[<- e1];simp only[e]
  |false =>
   show mget k' (p::mset k v m)=mget k' (p::m);unfold mget;rw[zoa hb hne m]
end
theorem ba_beq(a b:ByteArray):(a==b)=true↔a=b:=by
 cases a;cases b;show ByteArray.beq _ _=true↔_;unfold ByteArray.beq;simp
def zgf(l:yaa)(i:Nat)(w:yab):Bool:=match i with
 |0=>true
 |i+1=>match l[i]? with|some p=>decide (cmpW p w<0)|none=>true
theorem zv4{l:yaa}(h:∀i w,l[i]?=some w->zgf l i w=true):Asc l:=by
 have one:∀i p w,l[i]?=some p->l[i+1]?=some w->cmpW p w=-1:=fun i p w hp hw=>by
  have h1:=h (i+1) w hw;unfold zgf at h1;simp only[hp]at h1;have h1:=of_decide_eq_true h1;have:=zil p w;omega
 have key:∀(d i:Nat) p w,l[i]?=some p->l[i+d+1]?=some w->cmpW p w=-1:=by
  intro d
  induction d with
  |zero=>exact one
  |succ d ih =>
   intro i p w hp hw;have hj:=(zkI.1 hw).1;have hm:=get_at (l:=l) (i:=i+d+1) (by omega);exact zik _ _ _ (ih i p _ hp hm) (one _ _ _ hm (by rw[show i+d+1+1=i+(d+1)+1 by omega];exact hw))
 rw[Asc,ya4];intro i j hi hj a2;exact key (j-i-1) i _ _ (get_at hi) (by rw[show i+(j-i-1)+1=j by omega];exact get_at hj)
theorem znx(l:yaa)(hl:SmL l){i:Nat}{w:yab}(h:l[i]?=some w):zf4 l (↑i:Int)=some (zgf l i w):=by
 have hi:=(zkI.1 h).1;have a2:l.length<=2000000:=hl.1;unfold zf4 zgf;cases i with
 |zero=>rfl
 |succ i =>
  have hp:=get_at (show i<l.length by omega)
  rw[show decide ((↑(i+1):Int)=0)=false from zkA (by omega),zkC,zaq (by unfold inR;omega),zbw (i:=i) (by omega) hp,zbw rfl h,
   ziv _ _ (by have:SmW (l[i]'(by omega)):=hl.2 _ (zkH hp);unfold SmW at this;omega)]
  simp only[hp];rfl
def preG(t:zab)(known:yab->Bool)(i:Nat)(w:yab):Option Int :=
 if zbq w t.Inputs≠0 then some (zbq w t.Inputs) else if(i=0∧0<w.length)∨zgf t.Prefixes i w=false then some 10 else if 0<w.length∧known (w.take (w.length-1))=false then some 1 else none
def sufG(t:zab)(i:Nat)(w:yab):Option Int :=
 if zbq w t.Inputs≠0 then some (zbq w t.Inputs) else if w.length=0 then some 19 else if zgf t.Suffixes i w=false then some 10 else none
def zda(t:zab):Int :=
 if t.Inputs<1∨64<t.Inputs then 2 else if t.Prefixes.length=0 then 19 else if 10000<t.Prefixes.length∨10000<t.Suffixes.length∨160000<(↑t.Prefixes.length:Int)*(t.Inputs+1)*↑t.Suffixes.length then 11 else
 match scan (preG t fun w=>decide (w∈t.Prefixes)) 0 t.Prefixes with
 |some e=>e
 |none=>match scan (sufG t) 0 t.Suffixes with
  |some e=>e
  |none=>if ∀a∈List.range t.Inputs.toNat,[(↑a:Int)]∈t.Suffixes then(if 1023<zhf t.Prefixes+zhf t.Suffixes then 3 else 0) else 1
theorem keys_mget(l:yaa)(w:yab):∀(m:List (ByteArray×Bool)),((mget (⟨(keyL w).toArray⟩:ByteArray) (l.foldl (fun m x=>mset ⟨(keyL x).toArray⟩ true m) m)).getD false)=(decide (w∈l)||(mget (⟨(keyL w).toArray⟩:ByteArray) m).getD false):=by
 induction l with
 |nil=>intro m;simp
 |cons x l ih =>
  intro m;rw[yd9,ih];by_cases h:w=x
  ·subst h;rw[zly ba_beq];simp
  ·have:¬((⟨(keyL w).toArray⟩:ByteArray)=⟨(keyL x).toArray⟩):=fun e=>h (keyL_inj (by
    injection e with e
    injection e))
   rw[zoa ba_beq this];simp[h]
theorem zud(l:yaa):∀n:Nat,l.foldl (fun(n:Int) w=>max n (↑w.length:Int)) (↑n:Int)=↑(l.foldl (fun n w=>max n w.length) n):=by
 induction l with
 |nil=>intro n;rfl
 |cons x l ih =>
  intro n;rw[yd9,yd9,show max (↑n:Int) (↑x.length:Int)=((max n x.length:Nat):Int) by omega,ih]
theorem znv(l:yaa)(hl:SmL l):zcy l=some (↑(zhf l):Int):=by
 unfold zcy
 have h:=zw7 (step:=fun(s:Int×Nat)=>zcy.s2 l s.1 s.2) (l:=l) (fun a _ x=>max a (↑x.length:Int)) (fun a=>a) (fun _ _=>True) (fun a i x _ hx=>by
  refine⟨?_,trivial⟩
  simp only[zcy.s2]
  rw[zbr hx,zkD,zao hx]) (fun a _=>by
  simp only[zcy.s2]
  rw[zc6]
  rfl) (by have:=hl.1;omega) (a0:=0) trivial
 rw[h.1,zvd];have:=zud l 0;simp only[yek]at this;show some _=some _;rw[this];rfl
theorem zqb(l:yaa)(hl:SmL l):zdy l=some (↑(zhf l):Int):=by
 unfold zdy
 have h:=zw7 (step:=fun(s:Int×Nat)=>zdy.s2 l s.1 s.2) (l:=l) (fun a _ x=>max a (↑x.length:Int)) (fun a=>a) (fun _ _=>True) (fun a i x _ hx=>by
  refine⟨?_,trivial⟩
  simp only[zdy.s2]
  rw[zbr hx,zkD,zao hx]) (fun a _=>by
  simp only[zdy.s2]
  rw[zc6]
  rfl) (by have:=hl.1;omega) (a0:=0) trivial
 rw[h.1,zvd];have:=zud l 0;simp only[yek]at this;show some _=some _;rw[this];rfl
theorem znb{l:yaa}(hl:SmL l):zhf l<=2000000:=(zq0 l _).2 fun x hx=>hl.2 x hx
def SmT(t:zab):Prop:=inR t.Inputs∧SmL t.Prefixes∧SmL t.Suffixes∧∀x∈t.Prefixes,∀a∈x,inR a
theorem zn8{w:yab}(h:SmW w)(h2:∀a∈w,inR a):zml w=some ⟨(keyL w).toArray⟩:=by
 unfold zml;rw[zaq h2,zaq (show w.length<=2000000 from h)]
theorem prod_fit{p s:Nat}{n:Int}(hp:¬10000<p)(hs:¬10000<s)(hn1:¬n<1)(hn2:¬64<n):inR (n+1)∧inR ((↑p:Int)*(n+1))∧inR ((↑p:Int)*(n+1)*↑s):=by
 have h1:0<=(↑p:Int)*(n+1):=Int.mul_nonneg (by omega) (by omega);have h2:(↑p:Int)*(n+1)<=10000*65:=Int.mul_le_mul (by omega) (by omega) (by omega) (by omega);have h3:0<=(↑p:Int)*(n+1)*↑s:=Int.mul_nonneg h1 (by omega);have h4:(↑p:Int)*(n+1)*↑s<=10000*65*10000:=Int.mul_le_mul h2 (by omega) (by omega) (by omega);unfold inR;omega
theorem zxb(t:zab)(ht:SmT t):zeb t=some (match scan (preG t fun w=>decide (w∈t.Prefixes)) 0 t.Prefixes with|some e=>e|none=>0):=by
 obtain⟨_,hp,_,_⟩:=ht;have b0:t.Prefixes.length<=2000000:=hp.1;unfold zeb
 have key:=zce (step:=fun s=>zeb.s2 t s) (l:=t.Prefixes) (preG t fun w=>decide (w∈t.Prefixes)) (fun i w hw=>by
  have a5:=zkH hw
  have a4:SmW w:=hp.2 w a5
  have a9:w.length<=2000000:=a4
  simp only[zeb.s2]
  rw[zbr hw,zkD,zao hw,zgu w _ a4]
  simp only[yaw,preG]
  by_cases h1:zbq w t.Inputs=0
  ·rw[show decide (zbq w t.Inputs≠0)=false from zkA (by simpa using h1),zkC,if_neg (by simpa using h1)]
   have hc:(cond (decide ((↑i:Int)=0)) (cond (decide (0<(↑w.length:Int))) (some true) (cond (decide (0<(↑i:Int))) (idx t.Prefixes ((↑i:Int)-1) fun a2=>(zeg a2 w).bind fun a6=>some (decide (0<=a6))) (some false))) (cond (decide (0<(↑i:Int))) (idx t.Prefixes ((↑i:Int)-1) fun a7=>(zeg a7 w).bind fun a8=>some (decide (0<=a8))) (some false)):Option Bool)=some (decide ((i=0∧0<w.length)∨zgf t.Prefixes i w=false)):=by
    cases i with
    |zero =>
     by_cases h2:0<w.length
     ·simp[h2]
     ·simp[h2,zgf]
    |succ i =>
     have hi:=(zkI.1 hw).1
     have a3:=get_at (show i<t.Prefixes.length by omega)
     rw[show decide ((↑(i+1):Int)=0)=false from zkA (by omega),zkC,show decide (0<(↑(i+1):Int))=true from zkB (by omega),zkD,zbw (i:=i) (by omega) a3,
      zjh _ _ (hp.2 _ (zkH a3))]
     simp only[zgf,a3,yaw]
     congr 1
     by_cases h2:cmpW (t.Prefixes[i]'(by omega)) w<0
     ·rw[zkB h2,zkA (by omega)]
      simp
     ·rw[zkA h2,zkB (by omega)]
      simp
   rw[hc]
   simp only[yaw]
   by_cases h2:(i=0∧0<w.length)∨zgf t.Prefixes i w=false
   ·rw[zkB h2,zkD,if_pos h2]
   ·rw[zkA h2,zkC,if_neg h2]
    by_cases h3:0<w.length
    ·rw[show decide (0<(↑w.length:Int))=true from zkB (by omega),zkD,zaq (by omega),zzg _ _ hp,show Int.toNat ((↑w.length:Int)-1)=w.length-1 by omega]
     by_cases h4:w.take (w.length-1)∈t.Prefixes<;>simp[h3,h4]
    ·rw[show decide (0<(↑w.length:Int))=false from zkA (by omega),zkC]
     simp[h3]
  ·rw[show decide (zbq w t.Inputs≠0)=true from zkB h1,zkD,if_pos h1]) (by
  simp only[zeb.s2]
  rw[zc6]
  rfl) (by omega)
 rw[key];cases scan (preG t fun w=>decide (w∈t.Prefixes)) 0 t.Prefixes<;>rfl
theorem zxk(t:zab)(ht:SmT t)(hn:1<=t.Inputs∧t.Inputs<=64):zb7 t=some (match scan (sufG t) 0 t.Suffixes with|some e=>e|none=>if ∀a∈List.range t.Inputs.toNat,[(↑a:Int)]∈t.Suffixes then 0 else 1):=by
 obtain⟨_,_,hp,_⟩:=ht;have a6:t.Suffixes.length<=2000000:=hp.1;unfold zb7
 have key:=zce (step:=fun s=>zb7.s2 t s) (l:=t.Suffixes) (sufG t) (fun i w hw=>by
  have a4:=zkH hw
  have a5:SmW w:=hp.2 w a4
  simp only[zb7.s2]
  rw[zbr hw,zkD,zao hw,zgu w _ a5]
  simp only[yaw,sufG]
  by_cases h1:zbq w t.Inputs=0
  ·rw[show decide (zbq w t.Inputs≠0)=false from zkA (by simpa using h1),zkC,if_neg (by simpa using h1)]
   by_cases h2:w.length=0
   ·rw[show decide ((↑w.length:Int)=0)=true from zkB (by omega),zkD,if_pos h2]
   ·rw[show decide ((↑w.length:Int)=0)=false from zkA (by omega),zkC,if_neg h2]
    cases i with
    |zero=>simp[zgf]
    |succ i =>
     have hi:=(zkI.1 hw).1
     have a2:=get_at (show i<t.Suffixes.length by omega)
     rw[show decide (0<(↑(i+1):Int))=true from zkB (by omega),zkD,zbw (i:=i) (by omega) a2,zjh _ _ (hp.2 _ (zkH a2))]
     simp only[zgf,a2,yaw]
     by_cases h3:cmpW (t.Suffixes[i]'(by omega)) w<0
     ·rw[zkA (show ¬0<=cmpW (t.Suffixes[i]'(by omega)) w by omega),zkB h3]
      rfl
     ·rw[zkB (show 0<=cmpW (t.Suffixes[i]'(by omega)) w by omega),zkA h3]
      rfl
  ·rw[show decide (zbq w t.Inputs≠0)=true from zkB h1,zkD,if_pos h1]) (by
  simp only[zb7.s2]
  rw[zc6]
  rfl) (by omega)
 rw[key];cases scan (sufG t) 0 t.Suffixes with
 |some e=>rfl
 |none =>
  show(iter (fun(s:Nat)=>zb7.s4 t s) fuel 0:Option (Unit⊕Int)).bind (Sum.elim (fun(_:Unit)=>some 0) some)=_
  have a3:=zce (step:=fun s=>zb7.s4 t s) (l:=List.range t.Inputs.toNat) (fun _ (a:Nat)=>if decide ([(↑a:Int)]∈t.Suffixes)=true then none else some (1:Int)) (fun i a ha=>by
   have hi:i<t.Inputs.toNat:=by
    have:=(zkI.1 ha).1
    simpa using this
   rw[ybu hi]at ha
   injection ha with ha
   subst ha
   simp only[zb7.s4]
   rw[show decide ((↑i:Int)<t.Inputs)=true from zkB (by omega),zkD,zzg _ _ hp,zaq (by unfold inR;omega)]
   by_cases h:[(↑i:Int)]∈t.Suffixes<;>simp[h]) (by
   simp only[zb7.s4]
   rw[yb9,show decide ((↑t.Inputs.toNat:Int)<t.Inputs)=false from zkA (by omega)]
   rfl) (by simp;omega)
  rw[a3,zsu (p:=fun(a:Nat)=>decide ([(↑a:Int)]∈t.Suffixes))];by_cases h:∀a∈List.range t.Inputs.toNat,[(↑a:Int)]∈t.Suffixes
  ·rw[if_pos h,if_pos (ybb.2 fun a ha=>zkB (h a ha))];rfl
  ·rw[if_neg h,if_neg (fun h2=>h fun a ha=>of_decide_eq_true (ybb.1 h2 a ha))];rfl
theorem zgs(t:zab)(ht:SmT t):zgx t=some (zda t):=by
 unfold zgx zda;by_cases h1:t.Inputs<1
 ·simp[h1]
 by_cases h2:64<t.Inputs
 ·simp[h1,h2]
 rw[if_neg (by omega),zkA h1,zkC,zkA h2];simp only[yaw,zkC];by_cases h3:t.Prefixes.length=0
 ·rw[show decide ((↑t.Prefixes.length:Int)=0)=true from zkB (by omega),zkD,if_pos h3]
 rw[show decide ((↑t.Prefixes.length:Int)=0)=false from zkA (by omega),zkC,if_neg h3];by_cases h4:10000<t.Prefixes.length
 ·rw[show decide (10000<(↑t.Prefixes.length:Int))=true from zkB (by omega),if_pos (Or.inl h4)];rfl
 rw[show decide (10000<(↑t.Prefixes.length:Int))=false from zkA (by omega),zkC];by_cases h5:10000<t.Suffixes.length
 ·rw[show decide (10000<(↑t.Suffixes.length:Int))=true from zkB (by omega),if_pos (Or.inr (Or.inl h5))];rfl
 rw[show decide (10000<(↑t.Suffixes.length:Int))=false from zkA (by omega)];obtain⟨f1,f2,f3⟩:=prod_fit h4 h5 h1 h2;simp only[yaw,zkC];rw[zaq f1,zaq f2,zaq f3];by_cases h6:160000<(↑t.Prefixes.length:Int)*(t.Inputs+1)*↑t.Suffixes.length
 ·rw[zkB h6,zkD,if_pos (Or.inr (Or.inr h6))]
 rw[zkA h6,zkC,if_neg (fun h=>by rcases h with h|h|h<;>contradiction),zxb t ht,zxk t ht (by omega)]
 have a3:∀{w:yab},zbq w t.Inputs≠0->zbq w t.Inputs≠0:=fun h=>h;cases e1:scan (preG t fun w=>decide (w∈t.Prefixes)) 0 t.Prefixes with
 |some e =>
  have a2:e≠0:=by
   have key:∀(l:yaa) (j:Nat),scan (preG t fun w=>decide (w∈t.Prefixes)) j l=some e->e≠0:=by
    intro l
    induction l with
    |nil=>intro j h;cases h
    |cons x l ih =>
     intro j h;unfold scan at h;split at h
     ·rename_i r' h3;injection h with h
      subst h;unfold preG at h3
      repeat' split at h3
      all_goals first|(injection h3 with h3;subst h3;first|assumption|decide)|cases h3
     ·exact ih _ h
   exact key _ 0 e1
  simp[a2]
 |none =>
  simp only[yaw];rw[show decide ((0:Int)≠0)=false from rfl,zkC];cases e2:scan (sufG t) 0 t.Suffixes with
  |some e =>
   have a2:e≠0:=by
    have key:∀(l:yaa) (j:Nat),scan (sufG t) j l=some e->e≠0:=by
     intro l
     induction l with
     |nil=>intro j h;cases h
     |cons x l ih =>
      intro j h;unfold scan at h;split at h
      ·rename_i r' h3;injection h with h
       subst h;unfold sufG at h3
       repeat' split at h3
       all_goals first|(injection h3 with h3;subst h3;first|assumption|decide)|cases h3
      ·exact ih _ h
    exact key _ 0 e2
   simp[a2]
  |none =>
   have l1:=znb ht.2.1;have l2:=znb ht.2.2.1;by_cases h7:∀a∈List.range t.Inputs.toNat,[(↑a:Int)]∈t.Suffixes
   ·rw[if_pos h7,if_pos h7];simp only[yaw];rw[show decide ((0:Int)≠0)=false from rfl,zkC,zqb _ ht.2.1,zqb _ ht.2.2.1];simp only[yaw];rw[zaq (by unfold inR;omega)];by_cases h8:1023<zhf t.Prefixes+zhf t.Suffixes
    ·rw[if_pos h8,zkB (by omega)];rfl
    ·rw[if_neg h8,zkA (by omega)];rfl
   ·rw[if_neg h7,if_neg h7];rfl
end

theorem zpo{x y:Int}:cmpW [x] [y]=-1↔x<y:=by
 simp only[cmpW,lexI,zkL,yar];by_cases h:x<y
 ·simp[h]
 ·by_cases h2:y<x<;>simp[h,h2]
theorem zxl{x y:yab}(h:cmpW x y=-1):x.length<=y.length:=by
 unfold cmpW at h;split at h
 ·omega
 ·split at h
  ·cases h
  ·omega
theorem zjn{w:yab}{n:Int}(h:zbq w n=0):∀a∈w,0<=a∧a<n:=by
 unfold zbq at h;split at h
 ·split at h
  ·cases h
  ·split at h
   ·rename_i h3;intro a ha;exact of_decide_eq_true (ybb.1 h3 a ha)
   ·cases h
 ·cases h
theorem one_of{w:yab}(h0:w.length≠0)(h1:w.length<=1):∃a,w=[a]:=by
 match w,h0,h1 with
 |[a],_,_=>exact⟨a,rfl⟩
theorem singles_iff{l:yaa}{n:Int}(hA:Asc l)(hc:∀w∈l,zbq w n=0∧w.length≠0)(hn:1<=n):(∀a∈List.range n.toNat,[(↑a:Int)]∈l)↔∃w,l[n.toNat-1]?=some w∧w.length<=1:=by
 constructor
 ·intro h
  have key:∀a,a<n.toNat->l[a]?=some [(↑a:Int)]:=by
   intro a
   induction a using Nat.strongRecOn with
   |_ a ih =>
    intro ha;obtain⟨j,hj,e⟩:=ya5.1 (h a (ybc.2 ha));have ej:l[j]?=some [(↑a:Int)]:=by rw[get_at hj,e]
    rcases ycd j a with a6|a5|a9
    ·have:=ih j a6 (by omega);rw[ej]at this;injection this with this
     injection this with this
     omega
    ·rw[<- a5,ej];rw[a5]
    ·have hx:=get_at (l:=l) (i:=a) (by omega);have a2:=hA.get a9 hx ej;have a3:=zkH hx;obtain⟨b,hb⟩:=one_of (hc _ a3).2 (zxl a2);rw[hb]at a2 hx;have a6:=zpo.1 a2;have hr:=zjn (hc _ a3).1 b (by rw[hb];simp);have a4:=ih b.toNat (by omega) (by omega);rw[show((b.toNat:Nat):Int)=b by omega]at a4;have:=hA.get (show b.toNat<a by omega) a4 hx;rw[zfs]at this;cases this
  exact⟨_,key (n.toNat-1) (by omega),by simp⟩
 ·rintro⟨w,hw,b0⟩
  have one:∀i,i<n.toNat->∃b:Int,l[i]?=some [b]∧0<=b∧b<n:=fun i hi=>by
   have b2:=(zkI.1 hw).1;have hx:=get_at (l:=l) (i:=i) (by omega)
   have a7:(l[i]'(by omega)).length<=1:=by
    rcases ya6 i (n.toNat-1) with h|h
    ·have:=zxl (hA.get h hx hw);omega
    ·have e:i=n.toNat-1:=by omega
     subst e;rw[hx]at hw;injection hw with hw
     rw[hw];exact b0
   have a3:=zkH hx;obtain⟨b,hb⟩:=one_of (hc _ a3).2 a7;rw[hb]at hx;exact⟨b,hx,zjn (hc _ a3).1 b (by rw[hb];simp)⟩
  have lo:∀i (b:Int),i<n.toNat->l[i]?=some [b]->(↑i:Int)<=b:=by
   intro i
   induction i with
   |zero =>
    intro b hi hb;obtain⟨b',e,h1,_⟩:=one 0 hi;rw[hb]at e;injection e with e
    injection e with e
    omega
   |succ i ih =>
    intro b hi hb;obtain⟨b',e,h1,_⟩:=one i (by omega);have:=ih b' (by omega) e;have:=zpo.1 (hA.get (yd4 i) e hb);omega
  have a8:∀d i (b:Int),i+d+1=n.toNat->l[i]?=some [b]->b+↑d<n:=by
   intro d
   induction d with
   |zero =>
    intro i b hi hb;obtain⟨b',e,_,h2⟩:=one i (by omega);rw[hb]at e;injection e with e
    injection e with e
    omega
   |succ d ih =>
    intro i b hi hb;obtain⟨b',e,_,_⟩:=one (i+1) (by omega);have:=ih (i+1) b' (by omega) e;have:=zpo.1 (hA.get (yd4 i) hb e);omega
  intro a ha;have ha:=ybc.1 ha;obtain⟨b,e,_,_⟩:=one a ha;have h1:=lo a b ha e;have h2:=a8 (n.toNat-1-a) a b (by omega) e;have:b=(↑a:Int):=by omega
  subst this;exact zkH e
theorem zwl{t:zab}(h:scan (sufG t) 0 t.Suffixes=none):Asc t.Suffixes∧∀w∈t.Suffixes,zbq w t.Inputs=0∧w.length≠0:=by
 have h0:=zeh.1 h
 have key:∀i w,t.Suffixes[i]?=some w->zbq w t.Inputs=0∧w.length≠0∧zgf t.Suffixes i w=true:=fun i w hw=>by
  have:=h0 i w hw;rw[yah]at this;unfold sufG at this;split at this
  ·cases this
  ·rename_i h1;split at this
   ·cases this
   ·rename_i h2;split at this
    ·cases this
    ·rename_i h3;refine⟨by simpa using h1,h2,?_⟩;cases hp:zgf t.Suffixes i w with
     |true=>rfl
     |false=>exact absurd hp h3
 refine⟨zv4 fun i w hw=>(key i w hw).2.2,fun w hw=>?_⟩;obtain⟨i,hi,rfl⟩:=ya5.1 hw;exact⟨(key i _ (get_at hi)).1,(key i _ (get_at hi)).2.1⟩
theorem zgk(t:zab)(ht:SmT t):zbj t=some (zda t):=by
 unfold zbj zda;by_cases h1:t.Inputs<1
 ·simp[h1]
 by_cases h2:64<t.Inputs
 ·simp[h1,h2]
 rw[if_neg (by omega),zkA h1,zkC,zkA h2];simp only[yaw,zkC];by_cases h3:t.Prefixes.length=0
 ·rw[show decide ((↑t.Prefixes.length:Int)=0)=true from zkB (by omega),zkD,if_pos h3]
 rw[show decide ((↑t.Prefixes.length:Int)=0)=false from zkA (by omega),zkC,if_neg h3];by_cases h4:10000<t.Prefixes.length
 ·rw[show decide (10000<(↑t.Prefixes.length:Int))=true from zkB (by omega),if_pos (Or.inl h4)];rfl
 rw[show decide (10000<(↑t.Prefixes.length:Int))=false from zkA (by omega),zkC];by_cases h5:10000<t.Suffixes.length
 ·rw[show decide (10000<(↑t.Suffixes.length:Int))=true from zkB (by omega),if_pos (Or.inr (Or.inl h5))];rfl
 rw[show decide (10000<(↑t.Suffixes.length:Int))=false from zkA (by omega),zkC];obtain⟨f1,f2,f3⟩:=prod_fit h4 h5 h1 h2;rw[zaq f1,zaq f2,zaq f3];simp only[yaw];by_cases h6:160000<(↑t.Prefixes.length:Int)*(t.Inputs+1)*↑t.Suffixes.length
 ·rw[zkB h6,zkD,if_pos (Or.inr (Or.inr h6))]
 rw[zkA h6,zkC,if_neg (fun h=>by rcases h with h|h|h<;>contradiction)]
 obtain⟨_,hp,hs,hr⟩:=ht
 have hk:=zw7 (step:=fun(s:(List (ByteArray×Bool))×Nat)=>zbj.s2 t s.1 s.2) (l:=t.Prefixes) (fun m _ x=>mset ⟨(keyL x).toArray⟩ true m) (fun m=>m) (fun _ _=>True) (fun m i x _ hx=>by
  have a8:=zkH hx
  refine⟨?_,trivial⟩
  simp only[zbj.s2]
  rw[zbr hx,zkD,zao hx,zn8 (hp.2 x a8) (hr x a8)]
  rfl) (fun m _=>by
  simp only[zbj.s2]
  rw[zc6]
  rfl) (by omega) (a0:=[]) trivial
 rw[hk.1,zvd];simp only[yaw]
 have key:=zce (step:=fun s=>zbj.s4 t (t.Prefixes.foldl (fun m x=>mset ⟨(keyL x).toArray⟩ true m) []) s) (l:=t.Prefixes) (preG t fun w=>decide (w∈t.Prefixes)) (fun i w hw=>by
  have a3:=zkH hw
  have a4:SmW w:=hp.2 w a3
  have b3:w.length<=2000000:=a4
  simp only[zbj.s4]
  rw[zbr hw,zkD,zao hw,zfy w _ a4,znx _ hp hw]
  simp only[yaw,preG]
  by_cases g1:zbq w t.Inputs=0
  ·rw[show decide (zbq w t.Inputs≠0)=false from zkA (by simpa using g1),zkC,if_neg (by simpa using g1)]
   have hc:(cond (decide ((↑i:Int)=0)) (cond (decide (0<(↑w.length:Int))) (some true) (some (!zgf t.Prefixes i w))) (some (!zgf t.Prefixes i w)):Option Bool)=some (decide ((i=0∧0<w.length)∨zgf t.Prefixes i w=false)):=by
    by_cases g2:i=0
    ·rw[show decide ((↑i:Int)=0)=true from zkB (by omega),zkD]
     by_cases g3:0<w.length
     ·rw[show decide (0<(↑w.length:Int))=true from zkB (by omega),zkD,zkB (Or.inl ⟨g2,g3⟩)]
     ·rw[show decide (0<(↑w.length:Int))=false from zkA (by omega),zkC]
      cases zgf t.Prefixes i w<;>simp[g3]
    ·rw[show decide ((↑i:Int)=0)=false from zkA (by omega),zkC]
     cases zgf t.Prefixes i w<;>simp[g2]
   rw[hc]
   simp only[yaw]
   by_cases g2:(i=0∧0<w.length)∨zgf t.Prefixes i w=false
   ·rw[zkB g2,zkD,if_pos g2]
   ·rw[zkA g2,zkC,if_neg g2]
    by_cases g3:0<w.length
    ·have a9:SmW (w.take (w.length-1)):=by
      show(w.take (w.length-1)).length<=2000000
      rw[yaf]
      omega
     rw[show decide (0<(↑w.length:Int))=true from zkB (by omega),zkD,zaq (by omega),show Int.toNat ((↑w.length:Int)-1)=w.length-1 by omega,zn8 a9 (fun a ha=>hr w a3 a (ya3 ha))]
     simp only[yaw]
     rw[keys_mget]
     by_cases g4:w.take (w.length-1)∈t.Prefixes<;>simp[g3,g4,mget]
    ·rw[show decide (0<(↑w.length:Int))=false from zkA (by omega),zkC]
     simp[g3]
  ·rw[show decide (zbq w t.Inputs≠0)=true from zkB g1,zkD,if_pos g1]) (by
  simp only[zbj.s4]
  rw[zc6]
  rfl) (by omega)
 rw[key];cases e1:scan (preG t fun w=>decide (w∈t.Prefixes)) 0 t.Prefixes with
 |some e=>rfl
 |none =>
  show(iter (fun(s:Nat)=>zbj.s6 t s) fuel 0:Option (Unit⊕Int)).bind _=_
  have a6:=zce (step:=fun s=>zbj.s6 t s) (l:=t.Suffixes) (sufG t) (fun i w hw=>by
   have a3:=zkH hw
   have a4:SmW w:=hs.2 w a3
   simp only[zbj.s6]
   rw[zbr hw,zkD,zao hw,zfy w _ a4,znx _ hs hw]
   simp only[yaw,sufG]
   by_cases g1:zbq w t.Inputs=0
   ·rw[show decide (zbq w t.Inputs≠0)=false from zkA (by simpa using g1),zkC,if_neg (by simpa using g1)]
    by_cases g2:w.length=0
    ·rw[show decide ((↑w.length:Int)=0)=true from zkB (by omega),zkD,if_pos g2]
    ·rw[show decide ((↑w.length:Int)=0)=false from zkA (by omega),zkC,if_neg g2]
     cases zgf t.Suffixes i w<;>rfl
   ·rw[show decide (zbq w t.Inputs≠0)=true from zkB g1,zkD,if_pos g1]) (by
   simp only[zbj.s6]
   rw[zc6]
   rfl) (by omega)
  rw[a6];cases e2:scan (sufG t) 0 t.Suffixes with
  |some e=>rfl
  |none =>
   obtain⟨hA,b0⟩:=zwl e2;have a2:=singles_iff hA b0 (show 1<=t.Inputs by omega);have l1:=znb hp;have l2:=znb hs;simp only[yaw,ycy];rw[znv _ hp,znv _ hs];simp only[yaw];rw[zaq (show inR ((↑(zhf t.Prefixes):Int)+↑(zhf t.Suffixes)) by unfold inR;omega)];by_cases g1:(↑t.Suffixes.length:Int)<t.Inputs
   ·have a5:¬ ∀a∈List.range t.Inputs.toNat,[(↑a:Int)]∈t.Suffixes:=fun h=>by
     obtain⟨w,hw,_⟩:=a2.1 h;have:=(zkI.1 hw).1;omega
    rw[zkB g1,zkD,if_neg a5];rfl
   ·have hx:=get_at (l:=t.Suffixes) (i:=t.Inputs.toNat-1) (by omega);rw[zkA g1,zkC,zaq (by unfold inR;omega),zbw (i:=t.Inputs.toNat-1) (by omega) hx];by_cases g2:1<(t.Suffixes[t.Inputs.toNat-1]'(by omega)).length
    ·have a5:¬ ∀a∈List.range t.Inputs.toNat,[(↑a:Int)]∈t.Suffixes:=fun h=>by
      obtain⟨w,hw,b2⟩:=a2.1 h;rw[hx]at hw;injection hw with hw
      rw[hw]at g2;omega
     rw[if_neg a5,zkB (by omega)];rfl
    ·have a7:∀a∈List.range t.Inputs.toNat,[(↑a:Int)]∈t.Suffixes:=a2.2 ⟨_,hx,by omega⟩;rw[if_pos a7,zkA (by omega)];simp only[yaw,zkC];by_cases h8:1023<zhf t.Prefixes+zhf t.Suffixes
     ·rw[if_pos h8,zkB (by omega)];rfl
     ·rw[if_neg h8,zkA (by omega)];rfl
def zek(n:Nat):yaa:=(List.range n).map fun(a:Nat)=>[(↑a:Int)]
def newT(n:Int):zab×Int:=if n<1∨64<n then(⟨0,[],[]⟩,2) else(⟨n,[[]],zek n.toNat⟩,0)
theorem zum(n:Nat):zek (n+1)=zek n++[[(↑n:Int)]]:=by simp[zek,ycr]
theorem zjj(n:Nat):(zek n).length=n:=by simp[zek]
theorem zyv(n:Int)(h:1<=n∧n<=64):zff n=some (zek n.toNat):=by
 unfold zff
 rw[zb1 (r:=zek n.toNat) (fun s=>s.2<=n.toNat∧s.1=zek s.2) (fun s=>n.toNat-s.2) (fun s ⟨h1,h2⟩=>by
  simp only[zff.s2]
  by_cases h3:s.2<n.toNat
  ·left
   refine⟨(zek (s.2+1),s.2+1),?_,⟨by omega,rfl⟩,by simp only;omega⟩
   rw[zkB (by omega),zkD,h2,zum,zaq (by rw[zjj];unfold za3;omega),zaq (by unfold inR;omega)]
  ·right
   rw[zkA (by omega),zkC,h2,show s.2=n.toNat by omega]) (s:=([],0)) ⟨yag _,rfl⟩]
 rfl
theorem R23_New_eq(n:Int):zwy n=some (newT n):=by
 unfold zwy newT;by_cases h1:n<1
 ·simp[h1]
 ·by_cases h2:64<n
  ·simp[h1,h2]
  ·rw[zyv n (by omega)];simp[h1,h2]
theorem table_New_eq(n:Int):zhz n=some (newT n):=by
 unfold zhz newT;by_cases h1:n<1
 ·simp[h1]
 ·by_cases h2:64<n
  ·simp[h1,h2]
  ·rw[zb1 (r:=zek n.toNat) (fun s=>s.2<=n.toNat∧s.1=zek s.2) (fun s=>n.toNat-s.2) (fun s ⟨h1,h2⟩=>by
    simp only[zhz.s2]
    by_cases h3:s.2<n.toNat
    ·left
     refine⟨(zek (s.2+1),s.2+1),?_,⟨by omega,rfl⟩,by simp only;omega⟩
     rw[zkB (by omega),zkD,h2,zum,zaq (by rw[zjj];unfold za3;omega),zaq (by unfold inR;omega)]
    ·right
     rw[zkA (by omega),zkC,h2,show s.2=n.toNat by omega]) (s:=([],0)) ⟨yag _,rfl⟩]
   simp[h1,h2]
end Go.Proofs.YtfgajaakmmogkaaGreatDoor.Sym
namespace Go.Proofs.YtfgajaakmmogkaaGreatDoor
structure zp1(cf:List Int->List Int->Int):Prop where
 range:∀a b,cf a b=-1∨cf a b=0∨cf a b=1
 zero:∀a b,cf a b=0↔a=b
 swap:∀a b,cf b a=- cf a b
 trans:∀a b c,cf a b=-1->cf b c=-1->cf a c=-1
theorem cmpW_total:zp1 cmpW:=⟨zil,zos,zmd,zik⟩
theorem lexI_total:zp1 lexI:=⟨zhc,zk7,zjq,zkn⟩
def zc5(l:List (List Int)):List (List Int):=l.foldl (fun acc x=>if acc.getLast?=some x then acc else acc++[x]) []
theorem zwg(l:List (List Int))(x:List Int):zc5 (l++[x])=if(zc5 l).getLast?=some x then zc5 l else zc5 l++[x]:=by
 unfold zc5;rw[List.foldl_append];rfl
theorem zv2:∀(l acc:List (List Int)),(l.foldl (fun acc x=>if acc.getLast?=some x then acc else acc++[x]) acc).getLast?=if l=[] then acc.getLast? else l.getLast?
 |[],acc=>by rw[if_pos rfl];rfl
 |x::l,acc=>by
  have hx:(if acc.getLast?=some x then acc else acc++[x]).getLast?=some x:=by
   split
   ·assumption
   ·simp
  rw[List.foldl_cons,zv2 l,if_neg (show ¬x::l=[] by simp)];cases l with
  |nil=>rw[if_pos rfl,hx];rfl
  |cons y l =>
   rw[if_neg (show ¬y::l=[] by simp),List.getLast?_cons_cons]
theorem dedupA_last(l:List (List Int)):(zc5 l).getLast?=l.getLast?:=by
 unfold zc5;rw[zv2];split
 ·rename_i h;rw[h]
 ·rfl
theorem zxx{l:List (List Int)}{k:Nat}{x y:List Int}(hy:l[k]?=some y)(hx:l[k+1]?=some x) :
  zc5 (l.take (k+1+1))=if x=y then zc5 (l.take (k+1)) else zc5 (l.take (k+1))++[x]:=by
 rw[zbc hx,zwg,dedupA_last,zbc hy];simp only[List.getLast?_append,List.getLast?_singleton,Option.some_or];by_cases h:y=x
 ·subst h;simp
 ·have h':¬x=y:=fun e=>h e.symm;simp[h,h']
theorem zt5{l:List (List Int)}(h:l.length<=1):zc5 l=l:=by
 match l,h with
 |[],_=>rfl
 |[x],_=>rfl
theorem dedup_asc{cf:List Int->List Int->Int}(T:zp1 cf):∀{l:List (List Int)},l.Pairwise (fun a b=>0<=cf b a)->(zc5 l).Pairwise (fun a b=>cf a b=-1)∧∀x,x∈zc5 l↔x∈l:=by
 intro l
 -- from the end of the list
 suffices H:∀n (l:List (List Int)),l.length=n->l.Pairwise (fun a b=>0<=cf b a)->(zc5 l).Pairwise (fun a b=>cf a b=-1)∧∀x,x∈zc5 l↔x∈l from H _ l rfl
 intro n
 induction n with
 |zero =>
  intro l hl _;have:l=[]:=List.eq_nil_of_length_eq_zero hl;subst this;exact⟨List.Pairwise.nil,fun x=>Iff.rfl⟩
 |succ n ih =>
  intro l hl hp
  obtain⟨m,x,rfl⟩:∃m x,l=m++[x]:=by
   have a2:l≠[]:=by intro e;rw[e]at hl;simp at hl
   exact⟨l.dropLast,l.getLast a2,(List.dropLast_concat_getLast a2).symm⟩
  have b0:m.length=n:=by simpa using hl
  rw[List.pairwise_append]at hp;obtain⟨a7,_,a5⟩:=hp;obtain⟨h1,h2⟩:=ih m b0 a7;rw[zwg];by_cases h:(zc5 m).getLast?=some x
  ·rw[if_pos h];refine⟨h1,fun y=>?_⟩;have hx:x∈m:=(h2 x).1 (List.mem_of_getLast? h);rw[h2,List.mem_append,List.mem_singleton];constructor
   ·exact Or.inl
   ·rintro (h'|rfl)
    ·exact h'
    ·exact hx
  ·rw[if_neg h];refine⟨?_,fun y=>by rw[List.mem_append,List.mem_append,h2]⟩;rw[List.pairwise_append];refine⟨h1,by simp,fun a ha b hb=>?_⟩;rw[List.mem_singleton]at hb;subst hb;have a8:a∈m:=(h2 a).1 ha;have b2:0<=cf b a:=a5 a a8 b (by simp);have hr:=T.range b a;have b3:=T.swap b a;by_cases e:cf b a=0
   ·-- a would be the last one
    exfalso;have a6:b=a:=(T.zero _ _).1 e;subst a6
    -- the last of m is the greatest, and b is in m and not less than it
    have a2:zc5 m≠[]:=fun e=>by rw[e]at ha;cases ha
    have a9:=List.getLast?_eq_some_getLast a2;have a4:(zc5 m).getLast a2∈m:=(h2 _).1 (List.getLast_mem a2);have h3:0<=cf b ((zc5 m).getLast a2):=a5 _ a4 b (by simp);have a3:zc5 m=(zc5 m).dropLast++[(zc5 m).getLast a2]:=(List.dropLast_concat_getLast a2).symm
    have h4:b=(zc5 m).getLast a2∨cf b ((zc5 m).getLast a2)=-1:=by
     rw[a3]at ha h1;rw[List.pairwise_append]at h1;rcases List.mem_append.1 ha with h5|h5
     ·exact Or.inr (h1.2.2 b h5 _ (by simp))
     ·exact Or.inl (List.mem_singleton.1 h5)
    rcases h4 with h4|h4
    ·exact h (by rw[a9,<- h4])
    ·omega
   ·omega
theorem dedupA_length(l:List (List Int)):(zc5 l).length<=l.length:=by
 suffices H:∀(l a2:List (List Int)),(l.foldl (fun a2 x=>if a2.getLast?=some x then a2 else a2++[x]) a2).length<=a2.length+l.length by
  simpa[zc5]using H l []
 intro l
 induction l with
 |nil=>intro a2;simp
 |cons x l ih =>
  intro a2;rw[List.foldl_cons];refine Nat.le_trans (ih _) ?_;split
  ·simp
  ·simp;omega
def prefixes(x:List Int):List (List Int):=(List.range (x.length+1)).map x.take
def zg8(x:List Int):List (List Int):=(List.range (x.length+1)).map x.drop
def preL(l:List (List Int)):List (List Int):=l.flatMap prefixes
def sufL(l:List (List Int)):List (List Int):=l.flatMap zg8
theorem zro(x:List Int){j:Nat}(hj:j<=x.length):(prefixes x).take (j+1)=(prefixes x).take j++[x.take j]:=by
 have:(prefixes x)[j]?=some (x.take j):=by simp[prefixes,List.getElem?_range (show j<x.length+1 by omega)]
 exact zbc this
theorem suffixes_take(x:List Int){j:Nat}(hj:j<=x.length):(zg8 x).take (j+1)=(zg8 x).take j++[x.drop j]:=by
 have:(zg8 x)[j]?=some (x.drop j):=by simp[zg8,List.getElem?_range (show j<x.length+1 by omega)]
 exact zbc this
theorem zcs(x:List Int):(prefixes x).length=x.length+1:=by simp[prefixes]
theorem zgw(x:List Int):(zg8 x).length=x.length+1:=by simp[zg8]
theorem preL_step{l:List (List Int)}{k:Nat}{x:List Int}(h:l[k]?=some x):preL (l.take (k+1))=preL (l.take k)++prefixes x:=by rw[zbc h];simp[preL]
theorem sufL_step{l:List (List Int)}{k:Nat}{x:List Int}(h:l[k]?=some x):sufL (l.take (k+1))=sufL (l.take k)++zg8 x:=by rw[zbc h];simp[sufL]
def topB(all:List (List Int))(x:List Int):Bool:=all.all fun y=>decide (y=x∨¬x <+: y)
def maxR(l:List (List Int)):List (List Int):=(sortW l).filter (topB (sortW l))
def tailB(x:List Int)(l:List (List Int)):Bool:=l.all fun y=>decide (y.length=x.length∨¬x <+: y)
theorem top_eq{all:List (List Int)}(hs:Asc all){k:Nat}{x:List Int}(hx:all[k]?=some x):tailB x (all.drop (k+1))=topB all x:=by
 rw[Bool.eq_iff_iff,tailB,topB,List.all_eq_true,List.all_eq_true];simp only[decide_eq_true_eq];constructor
 ·intro h y hy;obtain⟨i,hi⟩:=List.getElem?_of_mem hy;rcases Nat.lt_trichotomy i k with a2|a2|a2
  ·right;intro hp;have hc:=hs.get a2 hi hx;have hl:=hp.length_le
   have:x=y:=hp.eq_of_length_le (by
    unfold cmpW at hc
    split at hc
    ·omega
    ·split at hc
     ·omega
     ·omega)
   rw[this,zfs]at hc;omega
  ·left;rw[a2,hx]at hi;injection hi with hi
   exact hi.symm
  ·have a3:y∈all.drop (k+1):=by
    have:(all.drop (k+1))[i-(k+1)]?=some y:=by rw[List.getElem?_drop,show k+1+(i-(k+1))=i by omega];exact hi
    exact List.mem_of_getElem? this
   rcases h y a3 with h1|h1
   ·by_cases hp:x <+: y
    ·left;exact(hp.eq_of_length h1.symm).symm
    ·exact Or.inr hp
   ·exact Or.inr h1
 ·intro h y hy;obtain⟨i,hi⟩:=List.getElem?_of_mem hy;rw[List.getElem?_drop]at hi;rcases h y (List.mem_of_getElem? hi) with h1|h1
  ·have hc:=hs.get (show k<k+1+i by omega) hx hi;rw[h1,zfs]at hc;omega
  ·exact Or.inr h1
theorem tailB_step{x y:List Int}{all:List (List Int)}{k j:Nat}(hk:k+1<=j)(hy:all[j]?=some y) :
  tailB x ((all.take (j+1)).drop (k+1))=(tailB x ((all.take j).drop (k+1))&&decide (y.length=x.length∨¬x <+: y)):=by
 have hj:j<all.length:=(List.getElem?_eq_some_iff.1 hy).1;rw[zbc hy,List.drop_append_of_le_length (by rw[List.length_take];omega)];simp[tailB,List.all_append]
theorem filter_step{p:List Int->Bool}{all:List (List Int)}{k:Nat}{x:List Int}(h:all[k]?=some x):(all.take (k+1)).filter p=(all.take k).filter p++(if p x=true then [x] else []):=by
 rw[zbc h,List.filter_append];by_cases hp:p x=true<;>simp[hp]
theorem zsf{l:List (List Int)}{x:List Int}(h:x∈maxR l):x∈l:=by
 unfold maxR at h;exact(zcq l x).1 (List.mem_filter.1 h).1
theorem maxR_length(l:List (List Int)):(maxR l).length<=l.length:=Nat.le_trans (List.length_filter_le _ _) (zdd l)
def znd:List (List Int)->List (List Int)
 |[]=>[]
 |[x]=>[x]
 |x::y::l=>if x <+: y then znd (y::l) else x::znd (y::l)
theorem keepM_end{L:List (List Int)}{k:Nat}{x:List Int}(hx:L[k]?=some x)(hl:k+1=L.length):znd (L.drop k)=x::znd (L.drop (k+1)):=by
 obtain⟨h1,h2⟩:=List.getElem?_eq_some_iff.1 hx;rw[List.drop_eq_getElem_cons h1,h2,List.drop_eq_nil_of_le (by omega)];rfl
theorem keepM_step{L:List (List Int)}{k:Nat}{x y:List Int}(hx:L[k]?=some x)(hy:L[k+1]?=some y):znd (L.drop k)=if x <+: y then znd (L.drop (k+1)) else x::znd (L.drop (k+1)):=by
 obtain⟨h1,h2⟩:=List.getElem?_eq_some_iff.1 hx;obtain⟨h3,h4⟩:=List.getElem?_eq_some_iff.1 hy;rw[List.drop_eq_getElem_cons h1,h2,List.drop_eq_getElem_cons h3,h4];rfl
theorem zx1:∀L:List (List Int),(znd L).Sublist L
 |[]=>List.Sublist.refl _
 |[x]=>List.Sublist.refl _
 |x::y::l=>by
  rw[znd];split
  ·exact(zx1 (y::l)).cons x
  ·exact(zx1 (y::l)).cons_cons x
theorem zq9:∀(x z y:List Int),lexI x z=-1->(z=y∨lexI z y=-1)->x <+: y->x <+: z
 |[],z,_,_,_,_=>List.nil_prefix
 |a::x,[],_,h,_,_=>by simp[lexI]at h
 |a::x,b::z,[],_,_,h=>by simp at h
 |a::x,b::z,c::y,h1,h2,h3=>by
  rw[List.cons_prefix_cons]at h3;obtain⟨rfl,h3⟩:=h3;simp only[lexI]at h1
  have hle:b<=a:=by
   rcases h2 with h2|h2
   ·injection h2 with e1 e2;omega
   ·simp only[lexI]at h2;split at h2
    ·omega
    ·split at h2
     ·omega
     ·omega
  have a2:a=b:=by
   split at h1
   ·omega
   ·split at h1
    ·omega
    ·omega
  subst a2;rw[if_neg (by omega),if_neg (by omega)]at h1;rw[List.cons_prefix_cons];refine⟨rfl,zq9 x z y h1 ?_ h3⟩;rcases h2 with h2|h2
  ·injection h2 with e1 e2;exact Or.inl e2
  ·simp only[lexI]at h2;rw[if_neg (by omega),if_neg (by omega)]at h2;exact Or.inr h2
theorem zsy:∀(x y:List Int),x <+: y->x≠y->lexI x y=-1
 |[],[],_,h=>absurd rfl h
 |[],_::_,_,_=>rfl
 |a::x,[],h,_=>by simp at h
 |a::x,b::y,h,hne=>by
  rw[List.cons_prefix_cons]at h;obtain⟨rfl,h⟩:=h;simp only[lexI];rw[if_neg (by omega),if_neg (by omega)];exact zsy x y h (fun e=>hne (by rw[e]))
theorem mem_keepM:∀{L:List (List Int)},L.Pairwise (fun a b=>lexI a b=-1)->∀x,x∈znd L↔x∈L∧∀y∈L,y=x∨¬x <+: y
 |[],_,x=>by simp[znd]
 |[z],_,x=>by
  simp only[znd,List.mem_singleton];constructor
  ·rintro rfl;exact⟨rfl,fun y hy=>Or.inl hy⟩
  ·exact fun h=>h.1
 |z::y::l,h,x=>by
  obtain⟨h1,h2⟩:=List.pairwise_cons.1 h;have ih:=mem_keepM (L:=y::l) h2
  have hzl:∀t∈y::l,z≠t:=fun t ht e=>by
   have:=h1 t ht;rw[e,lexI_refl]at this;omega
  have hlow:∀t∈y::l,¬t <+: z:=fun t ht hp=>by
   have h3:=h1 t ht;have h4:=zsy t z hp (fun e=>hzl t ht e.symm);rw[zjq]at h4;omega
  have hyl:∀t∈y::l,y=t∨lexI y t=-1:=fun t ht=>by
   rcases List.mem_cons.1 ht with e|e
   ·exact Or.inl e.symm
   ·exact Or.inr ((List.pairwise_cons.1 h2).1 t e)
  rw[znd];by_cases hp:z <+: y
  ·rw[if_pos hp,ih];constructor
   ·rintro⟨ha,hb⟩;refine⟨List.mem_cons_of_mem _ ha,fun t ht=>?_⟩;rcases List.mem_cons.1 ht with rfl|ht
    ·exact Or.inr (hlow x ha)
    ·exact hb t ht
   ·rintro⟨ha,hb⟩;rcases List.mem_cons.1 ha with rfl|ha
    ·rcases hb y (by simp) with e|e
     ·exact absurd e.symm (hzl y (by simp))
     ·exact absurd hp e
    ·exact⟨ha,fun t ht=>hb t (List.mem_cons_of_mem _ ht)⟩
  ·rw[if_neg hp,List.mem_cons,ih];constructor
   ·rintro (rfl|⟨ha,hb⟩)
    ·refine⟨by simp,fun t ht=>?_⟩;rcases List.mem_cons.1 ht with rfl|ht
     ·exact Or.inl rfl
     ·exact Or.inr fun hpt=>hp (zq9 x y t (h1 y (by simp)) (hyl t ht) hpt)
    ·refine⟨List.mem_cons_of_mem _ ha,fun t ht=>?_⟩;rcases List.mem_cons.1 ht with rfl|ht
     ·exact Or.inr (hlow x ha)
     ·exact hb t ht
   ·rintro⟨ha,hb⟩;rcases List.mem_cons.1 ha with rfl|ha
    ·exact Or.inl rfl
    ·exact Or.inr ⟨ha,fun t ht=>hb t (List.mem_cons_of_mem _ ht)⟩
theorem zlg(l:List (List Int))(x:List Int):x∈maxR l↔x∈l∧∀y∈l,y=x∨¬x <+: y:=by
 unfold maxR;rw[List.mem_filter,zcq,topB,List.all_eq_true];simp only[zcq,decide_eq_true_eq]
theorem maxR_asc(l:List (List Int)):Asc (maxR l):=List.Pairwise.sublist List.filter_sublist (zhx l)
theorem sortW_keepM{L l:List (List Int)}(h:L.Pairwise fun a b=>lexI a b=-1)(hm:∀x,x∈L↔x∈l):sortW (znd L)=maxR l :=
 zqq (zhx _) (maxR_asc l) fun x=>by
  rw[zcq,mem_keepM h,zlg];simp only[hm]
end Go.Proofs.YtfgajaakmmogkaaGreatDoor
namespace Go.Proofs.YtfgajaakmmogkaaGreatDoor.Sym
theorem zgh{α:Type}{l:List (List α)}{i:Nat}{x:List α}(h:l[i]?=some x):(l.take (i+1)).flatten=(l.take i).flatten++x:=by
 rw[zbc h];simp
theorem zf0{α:Type}{l:List (List α)}(i:Nat):(l.take i).flatten.length<=l.flatten.length:=by
 have h:l.flatten=(l.take i).flatten++(l.drop i).flatten:=by rw[<- ycj,ydd]
 rw[h,zkJ];omega
theorem concat_ints(l:yaa)(hl:l.length<=100000000)(hf:l.flatten.length<=1000000000):za7 l=some l.flatten:=by
 unfold za7
 rw[zb1 (r:=l.flatten.length) (fun s=>s.2<=l.length∧s.1=(l.take s.2).flatten.length) (fun s=>l.length-s.2) (fun s ⟨h1,h2⟩=>by
  simp only[za7.s2]
  by_cases h3:s.2<l.length
  ·left
   have hx:=get_at h3
   have h4:=zgh hx
   have h5:=zf0 (l:=l) (s.2+1)
   rw[h4,zkJ]at h5
   refine⟨((l.take (s.2+1)).flatten.length,s.2+1),?_,⟨by omega,rfl⟩,by simp only;omega⟩
   rw[zbr hx,zkD,zao hx,zaq (by unfold inR;omega),zkA (by omega),zkC,h4,zkJ,h2]
  ·right
   have e:s.2=l.length:=by omega
   rw[zkA (by omega),zkC,h2,e,yax]) (s:=(0,0)) ⟨yag _,by simp⟩]
 simp only[yaw];unfold zon;rw[zaq (by omega)];simp only[yaw]
 rw[zb1 (r:=l.flatten) (fun s=>s.2<=l.length∧s.1=(l.take s.2).flatten) (fun s=>l.length-s.2) (fun s ⟨h1,h2⟩=>by
  simp only[za7.s4]
  by_cases h3:s.2<l.length
  ·left
   have hx:=get_at h3
   have h4:=zgh hx
   have h5:=zf0 (l:=l) (s.2+1)
   rw[h4,zkJ]at h5
   refine⟨((l.take (s.2+1)).flatten,s.2+1),?_,⟨by omega,rfl⟩,by simp only;omega⟩
   rw[zbr hx,zkD,zao hx,zaq (by rw[h2];unfold za3;omega),h4,h2]
  ·right
   have e:s.2=l.length:=by omega
   rw[zkA (by omega),zkC,h2,e,yax]) (s:=([],0)) ⟨yag _,by simp⟩]
 rfl
theorem concat_words(l:List (yaa))(hl:l.length<=100000000)(hf:l.flatten.length<=1000000000):za1 l=some l.flatten:=by
 unfold za1
 rw[zb1 (r:=l.flatten.length) (fun s=>s.2<=l.length∧s.1=(l.take s.2).flatten.length) (fun s=>l.length-s.2) (fun s ⟨h1,h2⟩=>by
  simp only[za1.s2]
  by_cases h3:s.2<l.length
  ·left
   have hx:=get_at h3
   have h4:=zgh hx
   have h5:=zf0 (l:=l) (s.2+1)
   rw[h4,zkJ]at h5
   refine⟨((l.take (s.2+1)).flatten.length,s.2+1),?_,⟨by omega,rfl⟩,by simp only;omega⟩
   rw[zbr hx,zkD,zao hx,zaq (by unfold inR;omega),zkA (by omega),zkC,h4,zkJ,h2]
  ·right
   have e:s.2=l.length:=by omega
   rw[zkA (by omega),zkC,h2,e,yax]) (s:=(0,0)) ⟨yag _,by simp⟩]
 simp only[yaw];unfold zl1;rw[zaq (by omega)];simp only[yaw]
 rw[zb1 (r:=l.flatten) (fun s=>s.2<=l.length∧s.1=(l.take s.2).flatten) (fun s=>l.length-s.2) (fun s ⟨h1,h2⟩=>by
  simp only[za1.s4]
  by_cases h3:s.2<l.length
  ·left
   have hx:=get_at h3
   have h4:=zgh hx
   have h5:=zf0 (l:=l) (s.2+1)
   rw[h4,zkJ]at h5
   refine⟨((l.take (s.2+1)).flatten,s.2+1),?_,⟨by omega,rfl⟩,by simp only;omega⟩
   rw[zbr hx,zkD,zao hx,zaq (by rw[h2];unfold za3;omega),h4,h2]
  ·right
   have e:s.2=l.length:=by omega
   rw[zkA (by omega),zkC,h2,e,yax]) (s:=([],0)) ⟨yag _,by simp⟩]
 rfl
theorem zif(l:yaa)(hl:l.length<=100000000)(hf:l.flatten.length<=1000000000):zge l=some l.flatten:=by
 unfold zge;rw[concat_ints l hl hf];rfl
theorem totB_of{cf:yab->yab->Int}(T:zp1 cf){f:yab->yab->Option Int}{l:yaa}(hf:∀a∈l,∀b∈l,f a b=some (cf a b)):totB f l=true:=by
 refine ybb.2 fun a ha=>ybb.2 fun b hb=>?_;rw[hf a ha b hb,hf b hb a ha];simp only[ya0];refine⟨⟨⟨?_,?_⟩,?_⟩,ybb.2 fun c hc=>?_⟩
 ·rw[beq_iff_eq];have:=T.zero a b;by_cases h:a=b
  ·simp[h,this.2 h];rw[<- h];exact(T.zero a a).2 rfl
  ·have h2:¬cf a b=0:=fun e=>h (this.1 e);simp[h,h2]
 ·rw[beq_iff_eq];have:=T.swap a b;by_cases h:cf a b<0
  ·simp[h];omega
  ·simp[h];omega
 ·have:=T.range a b;exact zkB (by omega)
 ·rw[hf b hb c hc,hf a ha c hc];have r1:=T.range a b;have r2:=T.range b c;by_cases h1:cf a b<0
  ·by_cases h2:cf b c<0
   ·have:=T.trans a b c (by omega) (by omega);simp[h1,h2,this]
   ·simp[h1,h2]
  ·simp[h1]
theorem libSort_eq{cf:yab->yab->Int}(T:zp1 cf){f:yab->yab->Option Int}{l:yaa}(hl:l.length<=1000000000)(hf:∀a∈l,∀b∈l,f a b=some (cf a b)) :
  ∃S,ztu l f=some S∧S.Perm l∧S.Pairwise (fun a b=>0<=cf b a):=by
 refine⟨zhs f l,?_,zex f l,?_⟩
 ·unfold ztu;rw[zaq hl,totB_of T hf];rfl
 ·have h:=zkj (totB_iff (totB_of T hf));rw[ya4]at h ⊢;intro i j hi hj a2;have:=h i j hi hj a2;have m1:=(zex f l).mem_iff.1 (yai hi);have m2:=(zex f l).mem_iff.1 (yai hj);unfold NGt cfv at this;rw[hf _ m2 _ m1]at this;simp only[ybq]at this;omega
theorem compact_eq{q:yab->yab->Option Bool}{l:yaa}(hl:l.length<=1000000000)(hq:∀a∈l,∀b∈l,q a b=some (decide (a=b))):zan l q=some (zc5 l):=by
 unfold zan;by_cases h2:l.length<2
 ·rw[zkB (by omega),zkD,zt5 (by omega)]
 rw[zkA (by omega),zkC]
 have key:=zix (step:=fun k=>zan.s20 l q k) (fun k=>1<=k∧k<=l.length∧zc5 (l.take k)=l.take k) (fun k=>l.length-k) (fun r=>Sum.elim (fun(_:Unit)=>some l) some r=some (zc5 l)) (fun k ⟨h1,h3,h4⟩=>by
  simp only[zan.s20]
  by_cases h5:k<l.length
  ·have hx:=get_at h5
   have hp:=get_at (l:=l) (i:=k-1) (by omega)
   have a3:=zxx (l:=l) (k:=k-1) (x:=l[k]) hp (by rw[show k-1+1=k by omega];exact hx)
   rw[show k-1+1=k by omega]at a3
   rw[zbr hx,zkD,zao hx,zbw (i:=k-1) (by omega) hp,hq _ (yai _) _ (yai _)]
   simp only[yaw]
   by_cases h6:l[k]=l[k-1]'(by omega)
   ·right
    rw[if_pos h6]at a3
    rw[zkB h6,zkD,zaq (by omega)]
    have a4:=zdt (step:=fun(s:yaa×Nat×Nat)=>zan.s18 q k s.1 s.2.1 s.2.2) (fun s=>1<=s.2.2∧k+s.2.2<=l.length∧s.1.length=l.length∧s.2.1=(zc5 (l.take (k+s.2.2))).length∧s.2.1<k+s.2.2∧s.1.take s.2.1=zc5 (l.take (k+s.2.2))∧∀j,s.2.1<=j->s.1[j]?=l[j]?) (fun s=>l.length-(k+s.2.2))
     (fun r=>r.2<=l.length∧r.1.length=l.length∧r.1.take r.2=zc5 l) (fun s ⟨g1,g2,g3,g4,g5,g6,g7⟩=>by
      obtain⟨y,kk,t⟩:=s
      simp only at g1 g2 g3 g4 g5 g6 g7
      simp only[zan.s18]
      by_cases g8:k+t<l.length
      ·left
       have gx:=get_at (l:=l) (i:=k+t) g8
       have gp:=get_at (l:=l) (i:=k+(t-1)) (by omega)
       have yx:y[k+t]?=some l[k+t]:=by rw[g7 _ (by omega)];exact gx
       have yp:y[k+(t-1)]?=some (l[k+(t-1)]'(by omega)):=by rw[g7 _ (by omega)];exact gp
       have a2:=zxx (l:=l) (k:=k+(t-1)) (x:=l[k+t]) gp (by rw[show k+(t-1)+1=k+t by omega];exact gx)
       rw[show k+(t-1)+1=k+t by omega]at a2
       rw[zkB (show(↑t:Int)<(↑(List.length y-k):Int) by omega),zkD,zao yx,zaq (by omega),show Int.toNat ((↑t:Int)-1)=t-1 by omega,zao yp,hq _ (yai _) _ (yai _)]
       simp only[yaw]
       by_cases g9:l[k+t]=l[k+(t-1)]'(by omega)
       ·rw[if_pos g9]at a2
        refine⟨(y,kk,t+1),by rw[zkB g9];rfl,⟨by simp only;omega,by simp only;omega,g3,?_,by simp only;omega,?_,g7⟩,by simp only;omega⟩
        ·simp only
         rw[show k+(t+1)=k+t+1 by omega,a2]
         exact g4
        ·simp only
         rw[show k+(t+1)=k+t+1 by omega,a2]
         exact g6
       ·rw[if_neg g9]at a2
        have yk:=get_at (l:=y) (i:=kk) (by omega)
        refine⟨(y.set kk l[k+t],kk+1,t+1),?_,⟨by simp only;omega,by simp only;omega,by simp only[ycb];exact g3,?_,by simp only;omega,?_,fun j hj=>?_⟩,by simp only;omega⟩
        ·rw[zkA g9]
         simp only[yb7,zkD]
         rw[zao yx,zao yk,zaq (by unfold inR;omega)]
        ·simp only
         rw[show k+(t+1)=k+t+1 by omega,a2,zkJ,<- g4]
         rfl
        ·simp only
         have e1:(y.set kk l[k+t])[kk]?=some l[k+t]:=by rw[ydv];simp;omega
         rw[show k+(t+1)=k+t+1 by omega,a2,zbc e1,List.take_set_of_le (yam _),g6]
        ·simp only at hj
         rw[ycx (by omega)]
         exact g7 j (by omega)
      ·right
       have e:k+t=l.length:=by omega
       refine⟨(y,kk),?_,by simp only;omega,g3,?_⟩
       ·rw[zkA (by omega),zkC]
       ·simp only
        rw[e,yax]at g6
        exact g6) fuel (l,k,1) ⟨yam _,by simp only;omega,rfl,by simp only;rw[a3,h4,yaf];omega,by simp only;omega,by simp only;rw[a3,h4],fun j _=>rfl⟩ (by have:=zc2;simp only;omega)
    obtain⟨⟨y,kk⟩,e,g1,g2,g3⟩:=a4
    simp only at g1 g2 g3
    refine⟨.inr (zc5 l),?_,rfl⟩
    rw[e]
    simp only[yaw,zan.k19]
    have e2:(List.take kk y++List.replicate (List.length y-kk) ([]:yab)).length=l.length:=by
     rw[zkJ,yaf,ybs]
     omega
    rw[zaq (by omega),zaq (by omega),zaq (by rw[e2];omega),ybw (by rw[yaf];omega),yc0,Nat.min_self,g3]
   ·left
    rw[if_neg h6]at a3
    refine⟨k+1,by rw[zkA h6];rfl,⟨by omega,by omega,?_⟩,by omega⟩
    rw[a3,h4,zbc hx]
  ·right
   have e:k=l.length:=by omega
   subst e
   refine⟨.inl (),?_,?_⟩
   ·rw[zc6];rfl
   ·rw[yax]at h4
    rw[h4]
    rfl) 1 ⟨yam _,by omega,zt5 (by rw[yaf];omega)⟩
 obtain⟨r,e,hr⟩:=key;rw[e];exact hr
theorem zfx{w:yab}(h:SmW w):zd3 w=some w:=by
 unfold zd3 zpi;exact zaq (by unfold SmW at h;unfold za3;omega)
theorem zyt{l:yaa}(h:l.length<=2000000):zir l=some l:=by
 unfold zir zpi;exact zaq (by unfold za3;omega)
theorem zzd{cf:yab->yab->Int}(T:zp1 cf){f:yab->yab->Option Int}{l:yaa}(hl:SmL l)(hf:∀a∈l,∀b∈l,f a b=some (cf a b)) :
  ∃S,zcv l f=some S∧S.Pairwise (fun a b=>cf a b=-1)∧(∀x,x∈S↔x∈l)∧S.length<=l.length:=by
 have a3:l.length<=2000000:=hl.1;obtain⟨S,e1,hp,hs⟩:=libSort_eq T (by omega:l.length<=1000000000) hf;obtain⟨d1,d2⟩:=dedup_asc T hs;have hm:∀x,x∈zc5 S↔x∈l:=fun x=>by rw[d2,hp.mem_iff]
 have a2:(zc5 S).length<=l.length:=by
  have:=dedupA_length S;rw[hp.length_eq]at this;exact this
 refine⟨zc5 S,?_,d1,hm,a2⟩;unfold zcv zio;rw[zyt a3];simp only[yaw];rw[e1];simp only[yaw]
 rw[compact_eq (by rw[hp.length_eq];omega) (fun a ha b hb=>by
  unfold zfm
  rw[hf a (hp.mem_iff.1 ha) b (hp.mem_iff.1 hb)]
  simp only[yaw]
  congr 1
  exact decide_eq_decide.2 (T.zero a b))]
 simp only[yaw]
 rw[zb1 (r:=zc5 S) (fun s=>s.1=zc5 S) (fun s=>(zc5 S).length-s.2) (fun s h1=>by
  simp only[zcv.s2]
  by_cases h3:s.2<(zc5 S).length
  ·left
   have hx:=get_at h3
   have a4:SmW ((zc5 S)[s.2]):=hl.2 _ ((hm _).1 (yai _))
   refine⟨(zc5 S,s.2+1),?_,rfl,by simp only;omega⟩
   rw[zbr hx,zkD,h1,zao hx,zfx a4]
   simp only[yaw]
   rw[zao hx,zaq (by unfold inR;omega),List.set_getElem_self]
  ·right
   rw[zkA (by omega),zkC,h1]) (s:=(zc5 S,0)) rfl]
 rfl
theorem zc0{l:yaa}(hl:SmL l):zcx l=some (sortW l):=by
 obtain⟨S,e,h1,h2,_⟩:=zzd cmpW_total (f:=fun u0 u1=>zer u0 u1) hl fun a ha b hb=>ziv a b (by have:SmW a:=hl.2 a ha;unfold SmW at this;omega);unfold zcx;rw[e];show some S=_;congr 1;exact zqq h1 (zhx l) fun x=>by rw[h2,zcq]
theorem zh6{l:yaa}(h:SmL l):SmL (sortW l):=⟨yce (zdd l) h.1,fun x hx=>h.2 x ((zcq l x).1 hx)⟩
theorem znu{ls:List (yaa)}(h0:ls.length<=100000000)(hl:SmL ls.flatten):zg7 ls=some (sortW ls.flatten):=by
 unfold zg7;rw[concat_words ls h0 (by have:=hl.1;omega)];simp only[yaw];rw[zc0 hl];rfl
theorem R02_place_eq{l:yaa}{w:yab}(hA:Asc l)(hl:SmL l):zhy l w=some (↑(zck l w):Int):=by
 have a5:l.length<=2000000:=hl.1;have a2:=znm l w;have a4:=zxc l w;unfold zhy
 rw[zb1 (r:=zck l w) (fun s=>s.1<=zck l w∧zck l w<=s.2∧s.2<=l.length) (fun s=>s.2-s.1) (fun s ⟨h1,h2,h3⟩=>by
  obtain⟨lo,hi⟩:=s
  simp only at h1 h2 h3
  simp only[zhy.s2]
  by_cases h4:lo<hi
  ·left
   have hx:=get_at (l:=l) (i:=(lo+hi) / 2) (by omega)
   rw[zkB (by omega),zkD,zaq (by unfold inR;omega),zaq (by unfold inR;omega),zao hx,zjh _ _ (hl.2 _ (yai _))]
   simp only[yaw]
   by_cases h5:cmpW (l[(lo+hi) / 2]'(by omega)) w<0
   ·refine⟨((lo+hi) / 2+1,hi),by rw[zkB h5,zkD,zaq (by unfold inR;omega)],⟨?_,h2,h3⟩,by simp only;omega⟩
    simp only
    rcases ya6 ((lo+hi) / 2) (zck l w) with h|h
    ·exact h
    ·exfalso
     have hp:=get_at (l:=l) (i:=zck l w) (by omega)
     have a3:=a2.2 _ hp
     have r1:=zil (l[(lo+hi) / 2]'(by omega)) w
     rcases ya6 (zck l w) ((lo+hi) / 2) with h'|h'
     ·have:=hA.get h' hp hx
      exact a3 (zik _ _ _ this (by omega))
     ·have e:zck l w=(lo+hi) / 2:=by omega
      simp only[e]at a3
      omega
   ·refine⟨(lo,(lo+hi) / 2),by rw[zkA h5,zkC],⟨h1,?_,by simp only;omega⟩,by simp only;omega⟩
    simp only
    rcases ya6 ((lo+hi) / 2) (zck l w) with h|h
    ·exfalso
     have:=a2.1 _ _ h hx
     omega
    ·exact h
  ·right
   rw[zkA (by omega),zkC,show lo=zck l w by omega]) (s:=(0,l.length)) ⟨yag _,a4,yam _⟩]
 rfl
theorem zww{l:yaa}{w:yab}(hA:Asc l)(hl:SmL l)(hw:SmW w):zh7 l w=some (insW l w):=by
 have a8:l.length<=2000000:=hl.1;have a9:w.length<=2000000:=hw;have a4:=zxc l w;have a5:=hA.mem_place w;unfold zh7;rw[R02_place_eq hA hl];simp only[yaw];by_cases hm:w∈l
 ·have hx:=a5.1 hm;have a7:=(zkI.1 hx).1;rw[zkB (show(↑(zck l w):Int)<(↑l.length:Int) by omega),zkD,zbw rfl hx,zq5 _ _ hw];unfold insW;rw[if_pos hm];simp
 ·have hc:(cond (decide ((↑(zck l w):Int)<(↑l.length:Int))) (idx l (↑(zck l w):Int) fun a2=>(zlm a2 w).bind fun a6=>some a6) (some false):Option Bool)=some false:=by
   by_cases a7:zck l w<l.length
   ·have hx:=get_at a7;rw[zkB (by omega),zkD,zbw rfl hx,zq5 _ _ (hl.2 _ (yai _))];have:¬l[zck l w]=w:=fun e=>hm (a5.2 (by rw[hx,e]));simp[this]
   ·rw[zkA (by omega),zkC]
  rw[hc];simp only[yaw,zkC];have a3:(l++[([]:yab)]).length=l.length+1:=by simp
  rw[zaq (by unfold za3;omega),zaq (by rw[a3];unfold inR;omega)]
  have key:=zdt (step:=fun(s:yaa×Int)=>zh7.s2 (↑(zck l w):Int) s.1 s.2) (fun s=>∃i:Nat,s.2=(i:Int)∧zck l w<=i∧i<=l.length∧∃z,s.1=stage l z i) (fun s=>s.2.toNat-zck l w) (fun r=>∃z,r=stage l z (zck l w)) (fun s ⟨i,h1,h2,h3,z,h4⟩=>by
   obtain⟨y,i'⟩:=s
   simp only at h1 h4
   subst h1 h4
   simp only[zh7.s2]
   by_cases h5:zck l w<i
   ·left
    have hx:=get_at (l:=l) (i:=i-1) (by omega)
    have e1:(stage l z i)[i-1]?=some (l[i-1]'(by omega)):=by rw[stage_before (by omega) h3];exact hx
    have e2:(stage l z i)[i]?=some z:=stage_at h3
    refine⟨(stage l (l[i-1]'(by omega)) (i-1),↑(i-1:Nat)),?_,⟨i-1,rfl,by omega,by omega,_,rfl⟩,by simp only;omega⟩
    rw[zkB (by omega),zkD,zaq (by unfold inR;omega),zbw (i:=i-1) (by omega) e1,zbw rfl e2,zaq (by unfold inR;omega),ybf,stage_set h3]
    have h6:=stage_down (us:=l) (j:=i-1) hx
    rw[show i-1+1=i by omega]at h6
    rw[h6,show(↑i:Int)-1=((i-1:Nat):Int) by omega]
   ·right
    have e:i=zck l w:=by omega
    subst e
    refine⟨_,by rw[zkA (by omega),zkC],z,rfl⟩) fuel (l++[[]],(↑(l++[([]:yab)]).length:Int)-1) ⟨l.length,by simp only[a3];omega,a4,yam _,[],(stage_end l []).symm⟩ (by have:=zc2;simp only[a3];omega)
  obtain⟨r,e,z,hz⟩:=key;subst hz;rw[e];simp only[yaw];have e2:(stage l z (zck l w))[zck l w]?=some z:=stage_at a4;rw[zaq (by unfold za3;simp;omega),zbw rfl e2,ybf,stage_set a4,ycg];unfold insW;rw[if_neg hm];rfl
theorem zni{l:yaa}(hl:SmL l):ze3 l=some (sortW l):=by
 have a3:l.length<=2000000:=hl.1;unfold ze3
 rw[zb1 (r:=sortW l) (fun s=>s.2<=l.length∧s.1=sortW (l.take s.2)) (fun s=>l.length-s.2) (fun s ⟨h1,h2⟩=>by
  obtain⟨y,i⟩:=s
  simp only at h1 h2
  subst h2
  simp only[ze3.s2]
  by_cases h3:i<l.length
  ·left
   have hx:=get_at h3
   have a2:SmL (sortW (l.take i)):=zh6 ⟨by rw[yaf];omega,fun x hx=>hl.2 x (ya3 hx)⟩
   refine⟨(sortW (l.take (i+1)),i+1),?_,⟨h3,rfl⟩,by simp only;omega⟩
   rw[zbr hx,zkD,zao hx,zww (zhx _) a2 (hl.2 _ (yai _)),zbc hx,zzs]
   rfl
  ·right
   have e:i=l.length:=by omega
   subst e
   rw[zkA (by omega),zkC,yax]) (s:=([],0)) ⟨yag _,by simp[sortW]⟩]
 rfl
theorem zom{ls:List (yaa)}(h0:ls.length<=100000000)(hl:SmL ls.flatten):zgc ls=some (sortW ls.flatten):=by
 have a2:ls.flatten.length<=2000000:=hl.1;unfold zgc
 rw[zb1 (r:=ls.flatten) (fun s=>s.2<=ls.length∧s.1=(ls.take s.2).flatten) (fun s=>ls.length-s.2) (fun s ⟨h1,h2⟩=>by
  simp only[zgc.s2]
  by_cases h3:s.2<ls.length
  ·left
   have hx:=get_at h3
   have h4:=zgh hx
   have h5:=zf0 (l:=ls) (s.2+1)
   rw[h4,zkJ]at h5
   refine⟨((ls.take (s.2+1)).flatten,s.2+1),?_,⟨by omega,rfl⟩,by simp only;omega⟩
   rw[zbr hx,zkD,zao hx,zaq (by rw[h2];unfold za3;omega),h4,h2]
  ·right
   have e:s.2=ls.length:=by omega
   rw[zkA (by omega),zkC,h2,e,yax]) (s:=([],0)) ⟨yag _,by simp⟩]
 simp only[yaw];rw[zni hl];rfl
theorem zrk{l:yaa}(i:Nat):(preL (l.take i)).length<=(preL l).length:=by
 unfold preL;rw[List.flatMap_def,List.flatMap_def,yei];exact zf0 i
theorem zq2{l:yaa}(hl:SmL l)(hp:SmL (preL l)):zf9 l=some (sortW (preL l)):=by
 have a5:l.length<=2000000:=hl.1;have a7:(preL l).length<=2000000:=hp.1;unfold zf9 zbz
 rw[zb1 (r:=preL l) (fun s=>s.2<=l.length∧s.1=preL (l.take s.2)) (fun s=>l.length-s.2) (fun s ⟨h1,h2⟩=>by
  obtain⟨y,i⟩:=s
  simp only at h1 h2
  subst h2
  simp only[zbz.s14]
  by_cases h3:i<l.length
  ·left
   have hx:=get_at h3
   have a4:SmW l[i]:=hl.2 _ (yai _)
   have a6:l[i].length<=2000000:=a4
   have a2:=preL_step hx
   have a3:=zrk (l:=l) (i+1)
   rw[a2,zkJ,zcs]at a3
   refine⟨(preL (l.take (i+1)),i+1),?_,⟨h3,rfl⟩,by simp only;omega⟩
   rw[zbr hx,zkD,zao hx,zaq (by unfold inR;omega)]
   rw[zb1 (r:=preL (l.take i)++prefixes l[i]) (fun s=>s.2<=l[i].length+1∧s.1=preL (l.take i)++(prefixes l[i]).take s.2) (fun s=>l[i].length+1-s.2) (fun s ⟨g1,g2⟩=>by
    obtain⟨y,k⟩:=s
    simp only at g1 g2
    subst g2
    simp only[zbz.s13,zfa]
    by_cases g3:k<l[i].length+1
    ·left
     refine⟨(preL (l.take i)++(prefixes l[i]).take (k+1),k+1),?_,⟨g3,rfl⟩,by simp only;omega⟩
     rw[zkB (by omega),zkD,zaq (by omega),ybf]
     simp only[zah]
     rw[zaq (by
      rw[zkJ,yaf,zcs]
      unfold za3
      omega),zaq (by unfold inR;omega),zro _ (by omega),ybk]
    ·right
     have e:k=l[i].length+1:=by omega
     subst e
     rw[zkA (by omega),zkC,<- zcs,yax]) (s:=(preL (l.take i),0)) ⟨yag _,by simp⟩]
   rw[a2]
   rfl
  ·right
   have e:i=l.length:=by omega
   subst e
   rw[zkA (by omega),zkC,yax]) (s:=([],0)) ⟨yag _,by simp[preL]⟩]
 simp only[zah];rw[zc0 hp];rfl
theorem zwr{l:yaa}{i:Nat}{x:yab}{y:yaa}(hx:l[i]?=some x)(hx1:x.length<=1000000)(hy:SmL y)(hlen:y.length+x.length+1<=2000000) :
  iter (fun(s:yaa×Nat)=>zb6.s13 l i s.1 s.2) fuel (sortW y,0)=some (sortW (y++prefixes x)):=by
 refine zb1 (fun s=>s.2<=x.length+1∧s.1=sortW (y++(prefixes x).take s.2)) (fun s=>x.length+1-s.2) (fun s ⟨g1,g2⟩=>?_) ⟨yag _,by simp⟩;obtain⟨z,k⟩:=s;simp only at g1 g2;subst g2;simp only[zb6.s13];rw[zao hx];by_cases g3:k<x.length+1
 ·left
  have e1:SmL (y++(prefixes x).take k):=by
   refine⟨by rw[zkJ,yaf,zcs];omega,fun u hu=>?_⟩;rcases yak.1 hu with h|h
   ·exact hy.2 u h
   ·have h2:=ya3 h;unfold prefixes at h2;obtain⟨j,_,rfl⟩:=yae.1 h2;unfold SmW;rw[yaf];omega
  have e2:SmW (x.take k):=by
   unfold SmW;rw[yaf];omega
  have e3:=zww (zhx (y++(prefixes x).take k)) (zh6 e1) e2;refine⟨(sortW (y++(prefixes x).take (k+1)),k+1),?_,⟨g3,rfl⟩,by simp only;omega⟩;rw[zkB (by omega),zkD,zao hx,zaq (by omega),e3];simp only[zah];rw[zaq (by unfold inR;omega),zro _ (by omega),<- ybk,zzs]
 ·right;have e:k=x.length+1:=by omega
  subst e;rw[zkA (by omega),zkC,<- zcs,yax]
theorem zkr{l:yaa}(hl:SmL l)(hw:∀x∈l,x.length<=1000000)(hp:SmL (preL l)):zb6 l=some (sortW (preL l)):=by
 have a6:l.length<=2000000:=hl.1;have a7:(preL l).length<=2000000:=hp.1;unfold zb6
 have key:=zb1 (step:=fun(s:yaa×Nat)=>zb6.s14 l s.1 s.2) (r:=sortW (preL l)) (fun s=>s.2<=l.length∧s.1=sortW (preL (l.take s.2))) (fun s=>l.length-s.2) (fun s ⟨h1,h2⟩=>by
  obtain⟨y,i⟩:=s
  simp only at h1 h2
  subst h2
  simp only[zb6.s14]
  by_cases h3:i<l.length
  ·left
   have hx:=get_at h3
   have a2:=preL_step hx
   have a5:=zrk (l:=l) (i+1)
   rw[a2,zkJ,zcs]at a5
   have a3:=zwr (y:=preL (l.take i)) hx (hw _ (yai _)) ⟨by omega,fun u hu=>hp.2 u (by
    unfold preL at hu ⊢
    obtain⟨z,hz,a4⟩:=ya2.1 hu
    exact ya2.2 ⟨z,ya3 hz,a4⟩)⟩ (by omega)
   refine⟨(sortW (preL (l.take i)++prefixes l[i]),i+1),?_,⟨h3,by simp only;rw[a2]⟩,by simp only;omega⟩
   rw[zbr hx,zkD,a3]
   simp only[zah]
  ·right
   have e:i=l.length:=by omega
   subst e
   rw[zkA (by omega),zkC,yax]) (n:=fuel) (s:=([],0)) ⟨yag _,by simp[preL,sortW]⟩
 rw[key];simp only[zah]
theorem zna(l:yaa)(hl:l.length<=100000000)(hf:l.flatten.length<=1000000000):zhh l=some l.flatten:=by
 unfold zhh
 rw[zb1 (r:=l.flatten) (fun s=>s.2<=l.length∧s.1=(l.take s.2).flatten) (fun s=>l.length-s.2) (fun s ⟨h1,h2⟩=>by
  simp only[zhh.s2]
  by_cases h3:s.2<l.length
  ·left
   have hx:=get_at h3
   have h4:=zgh hx
   have h5:=zf0 (l:=l) (s.2+1)
   rw[h4,zkJ]at h5
   refine⟨((l.take (s.2+1)).flatten,s.2+1),?_,⟨by omega,rfl⟩,by simp only;omega⟩
   rw[zbr hx,zkD,zao hx,zaq (by rw[h2];unfold za3;omega),h4,h2]
  ·right
   have e:s.2=l.length:=by omega
   rw[zkA (by omega),zkC,h2,e,yax]) (s:=([],0)) ⟨yag _,by simp⟩]
 rfl
theorem zeo{u v:yab}(hu:SmW u)(hv:SmW v):zev u v=some (u++v):=by
 unfold zev;unfold SmW at hu hv;rw[zna [u,v] (by simp) (by simp;omega)];simp
theorem zka{l:yaa}(hl:SmL l):zew l=some l:=by
 have a2:l.length<=2000000:=hl.1;unfold zew
 rw[zb1 (r:=l) (fun s=>s.2<=l.length∧s.1=l.take s.2) (fun s=>l.length-s.2) (fun s ⟨h1,h2⟩=>by
  simp only[zew.s2]
  by_cases h3:s.2<l.length
  ·left
   have hx:=get_at h3
   refine⟨(l.take (s.2+1),s.2+1),?_,⟨by omega,rfl⟩,by simp only;omega⟩
   rw[zbr hx,zkD,zao hx,zeo (hl.2 _ (yai _)) (by simp[SmW])]
   simp only[zah]
   rw[zaq (by rw[h2,yaf];unfold za3;omega),zbc hx,h2,ybd]
  ·right
   have e:s.2=l.length:=by omega
   rw[zkA (by omega),zkC,h2,e,yax]) (s:=([],0)) ⟨yag _,by simp⟩]
 rfl
theorem zjk(a b:yaa):[a,b].flatten=a++b:=by simp
theorem zie{a b:yaa}(h:a.length+b.length<=2000000)(ha:SmL a)(hb:SmL b):SmL (a++b) :=
 ⟨by rw[zkJ];exact h,fun x hx=>(yak.1 hx).elim (ha.2 x) (hb.2 x)⟩
theorem zfg:SmL []:=⟨by simp,fun x hx=>by cases hx⟩
theorem zk3{t:zab}{p s:yaa}(h1:SmL t.Prefixes)(h2:SmL t.Suffixes)(hp:SmL p)(hs:SmL s)(h3:t.Prefixes.length+p.length<=2000000)(h4:t.Suffixes.length+s.length<=2000000) :
  zls t p s=some ⟨t.Inputs,sortW (t.Prefixes++p),sortW (t.Suffixes++s)⟩:=by
 unfold zls;rw[zka h1,zka h2,zka hp,zka hs];simp only[zah];rw[zom (by simp) (by rw[zjk];exact zie h3 h1 hp),zom (by simp) (by rw[zjk];exact zie h4 h2 hs),zjk,zjk];rfl
def zn3(t:zab)(p s:yaa):zab×Int :=
 if zda ⟨t.Inputs,sortW (t.Prefixes++p),sortW (t.Suffixes++s)⟩≠0 then(t,zda ⟨t.Inputs,sortW (t.Prefixes++p),sortW (t.Suffixes++s)⟩) else(⟨t.Inputs,sortW (t.Prefixes++p),sortW (t.Suffixes++s)⟩,0)
def zib(t:zab)(w:yab):zab×Int :=
 if zda t≠0 then(t,zda t) else if zbq w t.Inputs≠0 then(t,zbq w t.Inputs) else zn3 t (sortW (preL [w])) []
def zis(t:zab)(w:yab):zab×Int :=
 if zda t≠0 then(t,zda t) else if w.length=0 then(t,19) else if zbq w t.Inputs≠0 then(t,zbq w t.Inputs) else zn3 t [] [w]
theorem zmz{t:zab}{p s:yaa}(ht:SmT t)(hp:SmL p)(hs:SmL s)(h3:t.Prefixes.length+p.length<=2000000)(h4:t.Suffixes.length+s.length<=2000000)(hr:∀x∈p,∀a∈x,inR a) :
  SmT ⟨t.Inputs,sortW (t.Prefixes++p),sortW (t.Suffixes++s)⟩ :=
 ⟨ht.1,zh6 (zie h3 ht.2.1 hp),zh6 (zie h4 ht.2.2.1 hs),fun x hx=>by
  rcases yak.1 ((zcq _ _).1 hx) with h|h
  ·exact ht.2.2.2 x h
  ·exact hr x h⟩
theorem zn0{t u:zab}(hu:SmT u):zg6 t u=some (if zda u≠0 then(t,zda u) else(u,0)):=by
 unfold zg6;rw[zgk u hu];by_cases h:zda u=0<;>simp[h]
theorem zhb(w:yab):preL [w]=prefixes w:=by simp[preL]
theorem zqw{w:yab}(hw:w.length<=100000):SmL (preL [w]):=by
 rw[zhb];refine⟨by rw[zcs];omega,fun x hx=>?_⟩;unfold prefixes at hx;obtain⟨k,_,rfl⟩:=yae.1 hx;show(w.take k).length<=2000000;rw[yaf];omega
theorem zm9{w:yab}(hw:w.length<=100000):SmL [w]:=⟨by simp,fun x hx=>by rcases yba.1 hx with rfl;show x.length<=2000000;omega⟩
theorem zo0{t:zab}{w:yab}(ht:SmT t)(hw:w.length<=100000)(hr:∀a∈w,inR a)(h3:t.Prefixes.length+200000<=2000000):zig t w=some (zib t w):=by
 unfold zig zib
 have a3:(sortW (preL [w])).length<=100001:=by
  have:=zdd (preL [w]);rw[zhb,zcs]at this;rw[zhb];omega
 have a2:=zh6 (zqw hw);rw[zgk t ht,zfy w _ (by unfold SmW;omega),zq2 (zm9 hw) (zqw hw)];simp only[zah];by_cases h1:zda t=0
 ·by_cases h2:zbq w t.Inputs=0
  ·rw[zkA (by simpa using h1),zkA (by simpa using h2),if_neg (by simpa using h1),if_neg (by simpa using h2),zkC,zkC];rw[znu (by simp) (by rw[zjk];exact zie (by omega) ht.2.1 a2),zc0 ht.2.2.1,zjk];simp only[zah]
   have hg:=zmz (s:=[]) ht a2 zfg (by omega) (by have:=ht.2.2.1.1;simp;omega) (fun x hx a ha=>by
    have hx:=(zcq _ _).1 hx
    rw[zhb]at hx
    unfold prefixes at hx
    obtain⟨k,_,rfl⟩:=yae.1 hx
    exact hr a (ya3 ha))
   rw[ybd]at hg;rw[zn0 hg];unfold zn3;rw[ybd];rfl
  ·rw[zkA (by simpa using h1),zkB h2,if_neg (by simpa using h1),if_pos h2,zkC,zkD]
 ·rw[zkB h1,if_pos h1,zkD]
theorem R23_Prefix_eq{t:zab}{w:yab}(ht:SmT t)(hw:w.length<=100000)(hr:∀a∈w,inR a)(h3:t.Prefixes.length+200000<=2000000):zl9 t w=some (zib t w):=by
 unfold zl9 zib
 have a3:(sortW (preL [w])).length<=100001:=by
  have:=zdd (preL [w]);rw[zhb,zcs]at this;rw[zhb];omega
 have a2:=zh6 (zqw hw);rw[zgs t ht,zgu w _ (by unfold SmW;omega),zkr (zm9 hw) (fun x hx=>by rcases yba.1 hx with rfl;omega) (zqw hw)];simp only[zah];by_cases h1:zda t=0
 ·by_cases h2:zbq w t.Inputs=0
  ·rw[zkA (by simpa using h1),zkA (by simpa using h2),if_neg (by simpa using h1),if_neg (by simpa using h2),zkC,zkC];rw[zk3 ht.2.1 ht.2.2.1 a2 zfg (by omega) (by have:=ht.2.2.1.1;simp;omega)];simp only[zah]
   have hg:=zmz (s:=[]) ht a2 zfg (by omega) (by have:=ht.2.2.1.1;simp;omega) (fun x hx a ha=>by
    have hx:=(zcq _ _).1 hx
    rw[zhb]at hx
    unfold prefixes at hx
    obtain⟨k,_,rfl⟩:=yae.1 hx
    exact hr a (ya3 ha))
   rw[zgs _ hg];unfold zn3;simp only[zah];by_cases h5:zda ⟨t.Inputs,sortW (t.Prefixes++sortW (preL [w])),sortW (t.Suffixes++[])⟩=0
   ·rw[zkA (by simpa using h5),zkC,if_neg (by simpa using h5)]
   ·rw[zkB h5,zkD,if_pos h5]
  ·rw[zkA (by simpa using h1),zkB h2,if_neg (by simpa using h1),if_pos h2,zkC,zkD]
 ·rw[zkB h1,if_pos h1,zkD]
theorem zxj{t:zab}{w:yab}(ht:SmT t)(hw:w.length<=100000)(h3:t.Suffixes.length+200000<=2000000):zjo t w=some (zis t w):=by
 unfold zjo zis;rw[zgk t ht,zfy w _ (by unfold SmW;omega)];simp only[zah];by_cases h1:zda t=0
 ·rw[zkA (by simpa using h1),if_neg (by simpa using h1),zkC];by_cases h0:w.length=0
  ·rw[zkB (by omega),zkD,if_pos h0]
  ·rw[zkA (by omega),zkC,if_neg h0];by_cases h2:zbq w t.Inputs=0
   ·rw[zkA (by simpa using h2),if_neg (by simpa using h2),zkC];rw[znu (by simp) (by rw[zjk];exact zie (by simp;omega) ht.2.2.1 (zm9 hw)),zc0 ht.2.1,zjk];simp only[zah];have hg:=zmz (p:=[]) (s:=[w]) ht zfg (zm9 hw) (by have:=ht.2.1.1;simp;omega) (by simp;omega) (fun x hx=>by cases hx);rw[ybd]at hg;rw[zn0 hg];unfold zn3;rw[ybd];rfl
   ·rw[zkB h2,if_pos h2,zkD]
 ·rw[zkB h1,if_pos h1,zkD]
theorem R23_Suffix_eq{t:zab}{w:yab}(ht:SmT t)(hw:w.length<=100000)(h3:t.Suffixes.length+200000<=2000000):zmk t w=some (zis t w):=by
 unfold zmk zis;rw[zgs t ht,zgu w _ (by unfold SmW;omega)];simp only[zah];by_cases h1:zda t=0
 ·rw[zkA (by simpa using h1),if_neg (by simpa using h1),zkC];by_cases h0:w.length=0
  ·rw[zkB (by omega),zkD,if_pos h0]
  ·rw[zkA (by omega),zkC,if_neg h0];by_cases h2:zbq w t.Inputs=0
   ·rw[zkA (by simpa using h2),if_neg (by simpa using h2),zkC];rw[zk3 ht.2.1 ht.2.2.1 zfg (zm9 hw) (by have:=ht.2.1.1;simp;omega) (by simp;omega)];simp only[zah];have hg:=zmz (p:=[]) (s:=[w]) ht zfg (zm9 hw) (by have:=ht.2.1.1;simp;omega) (by simp;omega) (fun x hx=>by cases hx);rw[zgs _ hg];unfold zn3;simp only[zah];by_cases h5:zda ⟨t.Inputs,sortW (t.Prefixes++[]),sortW (t.Suffixes++[w])⟩=0
    ·rw[zkA (by simpa using h5),zkC,if_neg (by simpa using h5)]
    ·rw[zkB h5,zkD,if_pos h5]
   ·rw[zkB h2,if_pos h2,zkD]
 ·rw[zkB h1,if_pos h1,zkD]
def SmO(o:zac):Prop:=o.Traces.length<=1100000∧∀t∈o.Traces,t.In.length<=1100000∧t.Out.length<=2000000
theorem zh5(w p:yab)(hw:SmW w):zej w p=some (decide (p <+: w)):=by
 unfold zej;rw[zj8 w p hw,zah];congr 1;exact decide_eq_decide.2 (by rw[<- zpp w p];omega)
theorem zlz(a b:yab)(ha:SmW a):zef a b=some (za4 a b:Int):=by
 have a3:a.length<=2000000:=ha;have a2:=zmu a b;unfold zef
 have key:=zix (step:=fun k=>zef.s2 a b k) (fun k=>k<=a.length∧k<=b.length∧za4 a b=za4 (a.drop k) (b.drop k)+k) (fun k=>a.length-k) (fun r=>Sum.elim (fun(_:Unit)=>some (min (↑a.length:Int) (↑b.length:Int))) some r=some (za4 a b:Int)) (fun k ⟨h1,h2,h3⟩=>by
  simp only[zef.s2]
  by_cases h4:k<a.length∧k<b.length
  ·have hx:=get_at h4.1
   have hy:=get_at h4.2
   rw[zkB (show(↑k:Int)<min (↑a.length:Int) (↑b.length:Int) by omega),zkD,zao hx,zao hy]
   rw[ybr h4.1,ybr h4.2]at h3
   by_cases e:a[k]=b[k]
   ·left
    refine⟨k+1,by simp[e],⟨h4.1,h4.2,?_⟩,by omega⟩
    rw[h3,e]
    simp[za4]
    omega
   ·right
    simp only[za4,e,if_false,yah]at h3
    exact⟨.inr (k:Int),by simp[e],by rw[h3];rfl⟩
  ·right
   rw[zkA (by omega),zkC]
   refine⟨.inl (),rfl,?_⟩
   rw[ztq (by omega),yah]at h3
   simp only[ycy]
   congr 1
   omega) 0 ⟨yag _,yag _,by simp⟩
 obtain⟨r,e,hq⟩:=key;rw[e];exact hq
theorem zfo(w p:yab)(hw:SmW w):zd6 w p=some (decide (p <+: w)):=by
 unfold zd6;rw[zlz w p hw,zah];congr 1;exact decide_eq_decide.2 (by rw[<- zpp w p];omega)
def zxf(n:Int)(t:zaa):Prop:=zbq t.In n=0∧t.Out.length=t.In.length∧∀y∈t.Out,0<=y∧y<=1048576
def Agree(a b:zaa):Prop:=a.Out.take (za4 a.In b.In)=b.Out.take (za4 a.In b.In)
structure zed(o:zac):Prop where
 inp:1<=o.Inputs∧o.Inputs<=64
 num:o.Traces.length<=10000
 prop:∀t∈o.Traces,zxf o.Inputs t∧t.In≠[]
 asc:∀(i j:Nat) a b,i<j->o.Traces[i]?=some a->o.Traces[j]?=some b->cmpW a.In b.In=-1
 apart:∀(i j:Nat) a b,i<j->o.Traces[i]?=some a->o.Traces[j]?=some b->¬a.In <+: b.In∧Agree a b
def ansO(o:zac)(w:yab):Option (yab) :=
 if w=[] then some [] else(o.Traces.find? fun t=>decide (w <+: t.In)).map fun t=>t.Out.take w.length
abbrev tw{α:Type}(x:Option (List α)):List α×Bool:=match x with|some r=>(r,true)|none=>([],false)
theorem smo_in{o:zac}(ho:SmO o){t:zaa}(h:t∈o.Traces):SmW t.In:=by
 have:=(ho.2 t h).1;unfold SmW;omega
theorem pre_len{p w:yab}(h:p <+: w):p.length<=w.length:=h.length_le
theorem zrt{o:zac}{w:yab}(ho:SmO o)(hv:zed o):ze5 o w=some (tw (ansO o w)):=by
 have hl:=ho.1;unfold ze5 ansO;by_cases h0:w=[]
 ·subst h0;rfl
 ·rw[if_neg h0,zkA (by
   intro h
   exact h0 (yaq (by omega))),zkC]
  have key:=zce (step:=fun i=>ze5.s2 o w i) (l:=o.Traces) (fun _ t=>if w <+: t.In then some (t.Out.take w.length,true) else none) (fun i t ht=>by
   have a2:=zkH ht
   have hP:=(hv.prop t a2).1
   simp only[ze5.s2]
   rw[zbr ht,zkD,zao ht,zh5 _ _ (smo_in ho a2),zah]
   by_cases h:w <+: t.In
   ·have a4:=pre_len h
    have:=hP.2.1
    have h2:=(ho.2 t a2).1
    rw[zkB h,zkD,zao ht,zaq (by omega),zna _ (by simp) (by simp;omega),zah,if_pos h]
    simp
   ·rw[zkA h,zkC,if_neg h]) (by
   simp only[ze5.s2]
   rw[zc6]
   rfl) (by omega)
  rw[key,zah]
  have a3:∀(l:List zaa) (j:Nat),scan (fun _ t=>if w <+: t.In then some (t.Out.take w.length,true) else none) j l=((l.find? fun t=>decide (w <+: t.In)).map fun t=>t.Out.take w.length).map fun r=>(r,true):=by
   intro l
   induction l with
   |nil=>intro j;rfl
   |cons t l ih =>
    intro j;unfold scan;by_cases h:w <+: t.In
    ·rw[if_pos h,yee (by simpa using h)];rfl
    ·rw[if_neg h,yef (by simpa using h)];exact ih _
  rw[a3];cases (o.Traces.find? fun t=>decide (w <+: t.In)).map fun t=>t.Out.take w.length<;>rfl
def zuc(o:zac)(F:List zaa):Prop:=F.Perm o.Traces∧F.Pairwise fun a b=>lexI a.In b.In=-1
theorem in_inj{o:zac}(hv:zed o){a b:zaa}(ha:a∈o.Traces)(hb:b∈o.Traces)(h:a.In=b.In):a=b:=by
 obtain⟨i,hi,rfl⟩:=ya5.1 ha;obtain⟨j,hj,rfl⟩:=ya5.1 hb;rcases ycd i j with a3|a4|a2
 ·have:=hv.asc i j _ _ a3 (get_at hi) (get_at hj);rw[h,zfs]at this;cases this
 ·subst a4;rfl
 ·have:=hv.asc j i _ _ a2 (get_at hj) (get_at hi);rw[h,zfs]at this;cases this
theorem zsq{o:zac}(ho:SmO o)(hv:zed o):∃F,zkl o=some F∧zuc o F:=by
 have hl:=ho.1
 have hf:∀a∈o.Traces,∀b∈o.Traces,zb3 a b=some (lexI a.In b.In):=fun a ha b hb=>by
  unfold zb3;rw[zk0 _ _ (by have:=smo_in ho ha;unfold SmW at this;omega),zah]
 have a4:totB (fun u0 u1=>zb3 u0 u1) o.Traces=true:=by
  refine ybb.2 fun a ha=>ybb.2 fun b hb=>?_;simp only[hf a ha b hb,hf b hb a ha,ya0];refine⟨⟨⟨?_,?_⟩,?_⟩,ybb.2 fun c hc=>?_⟩
  ·rw[beq_iff_eq];have:=zk7 a.In b.In;exact decide_eq_decide.2 ⟨fun h=>in_inj hv ha hb (this.1 h),fun h=>this.2 (by rw[h])⟩
  ·rw[beq_iff_eq];have:=zjq a.In b.In;exact decide_eq_decide.2 (by omega)
  ·have:=zhc a.In b.In;exact zkB (by omega)
  ·rw[hf b hb c hc,hf a ha c hc];have r1:=zhc a.In b.In;have r2:=zhc b.In c.In;by_cases h1:lexI a.In b.In<0
   ·by_cases h2:lexI b.In c.In<0
    ·have:=zkn a.In b.In c.In (by omega) (by omega);simp[h1,h2,this]
    ·simp[h1,h2]
   ·simp[h1]
 refine⟨zhs (fun u0 u1=>zb3 u0 u1) o.Traces,?_,zex _ _,?_⟩
 ·unfold zkl zj2 zpi zh8 ztu;rw[zaq (by unfold za3;omega),zah,zaq (by omega),a4];rfl
 ·have T:=totB_iff a4;have h:=zkj T;have a2:=zex (fun u0 u1=>zb3 u0 u1) o.Traces
  have a5:(zhs (fun u0 u1=>zb3 u0 u1) o.Traces).Nodup:=by
   refine a2.nodup_iff.2 ?_;rw[List.Nodup,ya4];intro i j hi hj a3 e;have:=hv.asc i j _ _ a3 (get_at hi) (get_at hj);rw[e,zfs]at this;cases this
  rw[ya4]at h ⊢;rw[List.Nodup,ya4]at a5;intro i j hi hj a3;have h1:=h i j hi hj a3;have a6:=a5 i j hi hj a3;have m1:=a2.mem_iff.1 (yai hi);have m2:=a2.mem_iff.1 (yai hj);unfold NGt cfv at h1;simp only[hf _ m2 _ m1,ybq]at h1;have r:=zhc (zhs (fun u0 u1=>zb3 u0 u1) o.Traces)[j].In (zhs (fun u0 u1=>zb3 u0 u1) o.Traces)[i].In;have s:=zjq (zhs (fun u0 u1=>zb3 u0 u1) o.Traces)[j].In (zhs (fun u0 u1=>zb3 u0 u1) o.Traces)[i].In;have z:=zk7 (zhs (fun u0 u1=>zb3 u0 u1) o.Traces)[j].In (zhs (fun u0 u1=>zb3 u0 u1) o.Traces)[i].In;have hz:¬lexI (zhs (fun u0 u1=>zb3 u0 u1) o.Traces)[j].In (zhs (fun u0 u1=>zb3 u0 u1) o.Traces)[i].In=0:=fun e=>a6 (in_inj hv m1 m2 (z.1 e).symm);omega
theorem search_eq{F:List zaa}{w:yab}(hs:F.Pairwise fun a b=>lexI a.In b.In=-1)(hl:F.length<=2000000)(hw:∀t∈F,SmW t.In) :
  ∃k:Nat,∃b,zar F w (fun u0 u1=>zb4 u0 u1)=some ((↑k:Int),b)∧k<=F.length∧(∀j t,j<k->F[j]?=some t->lexI t.In w=-1)∧∀t,F[k]?=some t->lexI t.In w≠-1:=by
 have hc:∀t∈F,zb4 t w=some (lexI t.In w):=fun t ht=>by
  unfold zb4;rw[zk0 _ _ (by have:=hw t ht;unfold SmW at this;omega),zah]
 have a3:∀{i j:Nat} {a b:zaa},i<j->F[i]?=some a->F[j]?=some b->lexI a.In b.In=-1:=fun {i j a b} hij ha hb=>by
  obtain⟨hi,rfl⟩:=zkI.1 ha;obtain⟨hj,rfl⟩:=zkI.1 hb;exact ya4.1 hs i j hi hj hij
 have key:=zdt (step:=fun(s:Int×Int)=>zar.s2 F w (fun u0 u1=>zb4 u0 u1) s.1 s.2)
  (fun s=>∃i j:Nat,s.1=(i:Int)∧s.2=(j:Int)∧i<=j∧j<=F.length∧(∀k t,k<i->F[k]?=some t->lexI t.In w=-1)∧∀k t,j<=k->F[k]?=some t->lexI t.In w≠-1) (fun s=>(s.2-s.1).toNat)
  (fun r=>∃k:Nat,r=(k:Int)∧k<=F.length∧(∀j t,j<k->F[j]?=some t->lexI t.In w=-1)∧∀t,F[k]?=some t->lexI t.In w≠-1) (fun s ⟨i,j,g1,g2,g3,g4,g5,g6⟩=>by
   obtain⟨si,sj⟩:=s
   simp only at g1 g2
   subst g1 g2
   simp only[zar.s2]
   by_cases g7:i<j
   ·left
    have a2:((↑i:Int)+↑j) / 2^1=((i+j) / 2:Nat):=by omega
    have hx:=get_at (l:=F) (i:=(i+j) / 2) (by omega)
    rw[zkB (by omega),zkD,zaq (by unfold inR;omega),zaq (by omega),zaq (by omega),zaq (by unfold inR;omega),zbw a2 hx,hc _ (yai _),zah]
    have r:=zhc (F[(i+j) / 2]'(by omega)).In w
    by_cases g8:lexI (F[(i+j) / 2]'(by omega)).In w<0
    ·refine⟨(((i+j) / 2+1:Nat),(j:Int)),?_,⟨(i+j) / 2+1,j,rfl,rfl,by omega,g4,fun k t hk ht=>?_,g6⟩,by simp only;omega⟩
     ·rw[zkB g8,zkD,zaq (by unfold inR;omega),a2]
      simp
     ·rcases ya6 k ((i+j) / 2) with h|h
      ·exact zkn _ _ _ (a3 h ht hx) (by omega)
      ·have e:k=(i+j) / 2:=by omega
       subst e
       rw[hx]at ht
       injection ht with ht
       subst ht
       omega
    ·refine⟨((i:Int),(((i+j) / 2:Nat):Int)),?_,⟨i,(i+j) / 2,rfl,rfl,by omega,by omega,g5,fun k t hk ht=>?_⟩,by simp only;omega⟩
     ·rw[zkA g8,zkC,a2]
     ·intro h9
      rcases ya6 ((i+j) / 2) k with h|h
      ·have:=zkn _ _ _ (a3 h hx ht) h9
       omega
      ·have e:k=(i+j) / 2:=by omega
       subst e
       rw[hx]at ht
       injection ht with ht
       subst ht
       omega
   ·right
    have e:i=j:=by omega
    subst e
    refine⟨(i:Int),by rw[zkA (by omega),zkC],i,rfl,g4,g5,fun t ht=>g6 i t (yam _) ht⟩) fuel (0,(↑F.length:Int)) ⟨0,F.length,rfl,rfl,yag _,yam _,fun k t h=>by omega,fun k t h ht=>by
    have:=(zkI.1 ht).1
    omega⟩ (by have:=zc2;simp only;omega)
 obtain⟨r,e,k,hk,h1,h2,h3⟩:=key;subst hk;unfold zar;rw[e,zah];by_cases h4:k<F.length
 ·have hx:=get_at h4;rw[zkB (by omega),zkD,zbw rfl hx,show(fun(u0:zaa) (u1:yab)=>zb4 u0 u1) F[k] w=some (lexI F[k].In w) from hc _ (yai _),zah,zah];exact⟨k,_,rfl,h1,h2,h3⟩
 ·rw[zkA (by omega),zkC,zah];exact⟨k,_,rfl,h1,h2,h3⟩
theorem znz{o:zac}{F:List zaa}{w:yab}(ho:SmO o)(hv:zed o)(hF:zuc o F):zdv F w=some (tw (ansO o w)):=by
 obtain⟨hp,hs⟩:=hF;have e1:F.length<=1100000:=by rw[hp.length_eq];exact ho.1
 have b2:∀t∈F,t∈o.Traces:=fun t ht=>hp.mem_iff.1 ht;obtain⟨k,b,e,h1,h2,h3⟩:=search_eq (w:=w) hs (by omega) fun t ht=>smo_in ho (b2 t ht);unfold zdv ansO;by_cases h0:w=[]
 ·subst h0;rfl
 ·have d9:w.length≠0:=fun h=>h0 (yaq h);rw[if_neg h0,zkA (by omega),zkC,e,zah];simp only
  -- whatever trace begins with d2 word, d2 first one d5 is not before it d6
  have a4:∀t∈o.Traces,w <+: t.In->∃u,F[k]?=some u∧w <+: u.In:=fun t ht a3=>by
   have c6:t∈F:=hp.mem_iff.2 ht;obtain⟨j,hj,rfl⟩:=ya5.1 c6
   have c7:lexI F[j].In w≠-1:=by
    by_cases b5:w=F[j].In
    ·rw[<- b5,lexI_refl];decide
    ·have:=zsy w F[j].In a3 b5;have:=zjq w F[j].In;omega
   have d7:k<=j:=by
    rcases ya6 j k with h|h
    ·exact absurd (h2 j _ h (get_at hj)) c7
    ·exact h
   have hx:=get_at (l:=F) (i:=k) (by omega);refine⟨_,hx,?_⟩;have e2:=h3 _ hx;rcases ya6 k j with h|h
   ·have a9:lexI (F[k]'(by omega)).In F[j].In=-1:=ya4.1 hs k j (by omega) hj h;have r:=zhc (F[k]'(by omega)).In w;have s:=zjq (F[k]'(by omega)).In w;by_cases hz:lexI (F[k]'(by omega)).In w=0
    ·rw[(zk7 _ _).1 hz];exact yb8 _
    ·exact zq9 w _ _ (by omega) (Or.inr a9) a3
   ·have ej:j=k:=by omega
    subst ej;exact a3
  cases hfd:o.Traces.find? fun t=>decide (w <+: t.In) with
  |none =>
   have d1:∀t∈o.Traces,¬w <+: t.In:=fun t ht=>by simpa using yds.1 hfd t ht
   by_cases h4:k=F.length
   ·rw[zkB (by omega),zkD,zah,zkD];rfl
   ·have hx:=get_at (l:=F) (i:=k) (by omega);have b6:=b2 _ (yai (show k<F.length by omega));rw[zkA (by omega),zkC,zbw rfl hx,zfo _ _ (smo_in ho b6),zah,zkA (d1 _ b6)];rfl
  |some t =>
   have b4:=ych hfd;have a3:w <+: t.In:=by simpa using yeu hfd
   obtain⟨u,hu,b0⟩:=a4 t b4 a3;have b3:=b2 u (zkH hu);have e0:=(zkI.1 hu).1;have lt:=(hv.prop t b4).1.2.1;have lu:=(hv.prop u b3).1.2.1;have p1:=pre_len a3;have p2:=pre_len b0
   -- both answer alike
   have a8:u.Out.take w.length=t.Out.take w.length:=by
    by_cases b8:u=t
    ·rw[b8]
    ·have d4:∀a∈o.Traces,∀b∈o.Traces,a≠b->w <+: a.In->w <+: b.In->a.Out.take w.length=b.Out.take w.length:=by
      intro a ha b hb d8 d0 d3
      have b7:w.length<=za4 a.In b.In:=by
       obtain⟨x,hx⟩:=d0;obtain⟨y,hy⟩:=d3;rw[<- hx,<- hy]
       have:∀(w x y:yab),w.length<=za4 (w++x) (w++y):=by
        intro w
        induction w with
        |nil=>intro x y;exact yag _
        |cons z w ih =>
         intro x y;have:=ih x y;simp only[ycc,za4,if_true,zkL];omega
       exact this w x y
      have a5:∀(a b:zaa),Agree a b->w.length<=za4 a.In b.In->a.Out.take w.length=b.Out.take w.length:=fun a b hA c0=>by
       have h5:=congrArg (List.take w.length) hA;rw[yc0,yc0,yc3 c0]at h5;exact h5
      obtain⟨i,hi,rfl⟩:=ya5.1 ha;obtain⟨j,hj,rfl⟩:=ya5.1 hb;rcases ycd i j with a9|c8|b9
      ·exact a5 _ _ (hv.apart i j _ _ a9 (get_at hi) (get_at hj)).2 b7
      ·subst c8;rfl
      ·have c9:w.length<=za4 o.Traces[j].In o.Traces[i].In:=by
        have:∀a b:yab,za4 a b=za4 b a:=by
         intro a
         induction a with
         |nil=>intro b;cases b<;>rfl
         |cons x a ih =>
          intro b;cases b with
          |nil=>rfl
          |cons y b =>
           simp only[za4];by_cases h:x=y
           ·subst h;simp[ih b]
           ·have h':¬y=x:=fun e=>h e.symm;simp[h,h']
        rw[this];exact b7
       exact(a5 _ _ (hv.apart j i _ _ b9 (get_at hj) (get_at hi)).2 c9).symm
     exact d4 u b3 t b4 b8 b0 a3
   have hc:(cond (decide ((↑k:Int)=(↑F.length:Int))) (some true) (idx F (↑k:Int) fun a2=>(zd6 a2.In w).bind fun a6=>cond ((!a6)) (some true) (idx F (↑k:Int) fun a7=>some (decide ((↑a7.Out.length:Int)<(↑w.length:Int))))):Option Bool)=some false:=by
    rw[zkA (by omega),zkC,zbw rfl hu,zfo _ _ (smo_in ho b3),zah,zkB b0,ybh,zkC,zbw rfl hu,zkA (by omega)]
   rw[hc,zah,zkC,zbw rfl hu,zaq (by omega),a8];rfl
end Go.Proofs.YtfgajaakmmogkaaGreatDoor.Sym

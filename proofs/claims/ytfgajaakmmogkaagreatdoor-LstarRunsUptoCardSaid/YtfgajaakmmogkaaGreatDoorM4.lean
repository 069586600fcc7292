/- Parts of the proof. -/
import Derived.Test.YtfgajaakmmogkaaGreatDoorM3
set_option linter.all false
set_option maxRecDepth 100000
set_option maxHeartbeats 4000000
open Go.RowKit
namespace Go.Proofs.YtfgajaakmmogkaaGreatDoor.Sym
theorem scan_idx{α:Type}{p:α->Bool}:∀(l:List α) (j:Nat),scan (fun i x=>if p x=true then some (↑i:Int) else none) j l=if l.any p=true then some (↑(j+l.findIdx p):Int) else none
 |[],_=>rfl
 |x::l,j=>by
  unfold scan;by_cases h:p x=true
  ·simp[h,List.findIdx_cons]
  ·have hf:p x=false:=by simpa using h
   rw[if_neg h];simp only;rw[scan_idx l (j+1)];simp only[List.any_cons,hf,yeh,List.findIdx_cons,zkC];split
   ·congr 2;omega
   ·rfl
theorem tindex_eq{l:List zaa}{f:zaa->Option Bool}{p:zaa->Bool}(hl:l.length<=100000000000000)(hf:∀x∈l,f x=some (p x)) :
  zau l f=some (if l.any p=true then(↑(l.findIdx p):Int) else -1):=by
 unfold zau
 have key:=zce (step:=fun s=>zau.s2 l f s) (l:=l) (fun i x=>if p x=true then some (↑i:Int) else none) (fun i x hx=>by
  simp only[zau.s2]
  rw[zbr hx,zkD,zao hx,hf x (zkH hx),zah]
  cases p x<;>rfl) (by
  simp only[zau.s2]
  rw[zc6]
  rfl) hl
 rw[key,scan_idx,zah];by_cases h:l.any p=true
 ·rw[if_pos h,if_pos h,yah];rfl
 ·rw[if_neg h,if_neg h];rfl
theorem cindex_eq{l:yab}{f:Int->Option Bool}{p:Int->Bool}(hl:l.length<=100000000000000)(hf:∀x∈l,f x=some (p x)) :
  zco l f=some (l.any p):=by
 unfold zco zbm
 have key:=zce (step:=fun s=>zbm.s2 l f s) (l:=l) (fun i x=>if p x=true then some (↑i:Int) else none) (fun i x hx=>by
  simp only[zbm.s2]
  rw[zbr hx,zkD,zao hx,hf x (zkH hx),zah]
  cases p x<;>rfl) (by
  simp only[zbm.s2]
  rw[zc6]
  rfl) hl
 rw[key,scan_idx];by_cases h:l.any p=true
 ·rw[if_pos h,h];simp
 ·have h':l.any p=false:=by simpa using h
  rw[if_neg h,h'];rfl
def zw0(t:zaa)(n:Int):Int :=
 if zbq t.In n≠0 then zbq t.In n else if t.Out.length≠t.In.length then 1 else if(t.Out.all fun y=>decide (0<=y∧y<=1048576))=true then 0 else 2
theorem zmb{t:zaa}{n:Int}:zw0 t n=0↔zxf n t:=by
 unfold zw0 zxf;by_cases h1:zbq t.In n=0
 ·rw[if_neg (by simpa using h1)];by_cases h2:t.Out.length=t.In.length
  ·rw[if_neg (by simpa using h2)];by_cases h3:(t.Out.all fun y=>decide (0<=y∧y<=1048576))=true
   ·rw[if_pos h3];exact⟨fun _=>⟨h1,h2,fun y hy=>of_decide_eq_true (ybb.1 h3 y hy)⟩,fun _=>rfl⟩
   ·rw[if_neg h3];exact⟨fun h=>(by cases h),fun h=>absurd (ybb.2 fun y hy=>zkB (h.2.2 y hy)) h3⟩
  ·rw[if_pos h2];exact⟨fun h=>(by cases h),fun h=>absurd h.2.1 h2⟩
 ·rw[if_pos h1];exact⟨fun h=>absurd h h1,fun h=>absurd h.1 h1⟩
theorem R16_Proper_eq(t:zaa)(n:Int)(h1:SmW t.In)(h2:SmW t.Out):zfp t n=some (zw0 t n):=by
 unfold zfp zw0;rw[zgu _ _ h1,zah];by_cases g1:zbq t.In n=0
 ·rw[zkA (by simpa using g1),zkC,if_neg (by simpa using g1)];by_cases g2:t.Out.length=t.In.length
  ·rw[zkA (by omega),zkC,if_neg (by simpa using g2)]
   have key:=zce (step:=fun s=>zfp.s2 t s) (l:=t.Out) (fun _ y=>if decide (0<=y∧y<=1048576)=true then none else some (2:Int)) (fun i y hy=>by
    simp only[zfp.s2]
    rw[zbr hy,zkD,zao hy,zao hy]
    by_cases a1:y<0
    ·rw[zkB a1,zkD,zah,zkD,zkA (show ¬(0<=y∧y<=1048576) by omega)];rfl
    ·by_cases a2:1048576<y
     ·rw[zkA a1,zkC,zkB a2,zah,zkD,zkA (show ¬(0<=y∧y<=1048576) by omega)];rfl
     ·rw[zkA a1,zkC,zkA a2,zah,zkC,zkB (show(0<=y∧y<=1048576) by omega)];rfl) (by
    simp only[zfp.s2]
    rw[zc6]
    rfl) (by unfold SmW at h2;omega)
   rw[key,zsu (p:=fun y=>decide (0<=y∧y<=1048576)),zah];by_cases h:(t.Out.all fun y=>decide (0<=y∧y<=1048576))=true
   ·rw[if_pos h,if_pos h];rfl
   ·rw[if_neg h,if_neg h];rfl
  ·rw[zkB (by omega),zkD,if_pos g2]
 ·rw[zkB g1,zkD,if_pos g1]
theorem ztw(t:zaa)(n:Int)(h1:SmW t.In)(h2:SmW t.Out):zh2 t n=some (zw0 t n):=by
 unfold zh2 zw0;rw[zfy _ _ h1,zah];by_cases g1:zbq t.In n=0
 ·rw[zkA (by simpa using g1),zkC,if_neg (by simpa using g1)];by_cases g2:t.Out.length=t.In.length
  ·rw[zkA (by omega),zkC,if_neg (by simpa using g2)]
   rw[cindex_eq (p:=fun y=>!decide (0<=y∧y<=1048576)) (by unfold SmW at h2;omega) fun y _=>by
    unfold zga
    by_cases a1:y<0
    ·rw[zkB a1,zkD,zah,zkA (show ¬(0<=y∧y<=1048576) by omega)];rfl
    ·by_cases a2:1048576<y
     ·rw[zkA a1,zkC,zkB a2,zah,zkA (show ¬(0<=y∧y<=1048576) by omega)];rfl
     ·rw[zkA a1,zkC,zkA a2,zah,zkB (show(0<=y∧y<=1048576) by omega)];rfl,zah]
   by_cases h:(t.Out.all fun y=>decide (0<=y∧y<=1048576))=true
   ·have h':(t.Out.any fun y=>!decide (0<=y∧y<=1048576))=false:=by
     rw[List.any_eq_false];intro y hy;have:=ybb.1 h y hy;simp only[this,ybh];exact ybx
    rw[h',zkC,if_pos h]
   ·have h':(t.Out.any fun y=>!decide (0<=y∧y<=1048576))=true:=by
     refine yau fun hn=>h (ybb.2 fun y hy=>?_);refine yau fun hm=>hn (ydh.2 ⟨y,hy,?_⟩);have:decide (0<=y∧y<=1048576)=false:=by simpa only[Bool.not_eq_true]using hm
     rw[this];rfl
    rw[h',zkD,if_neg h]
  ·rw[zkB (by omega),zkD,if_pos g2]
 ·rw[zkB g1,zkD,if_pos g1]
theorem zwp:∀a b:yab,za4 a b=za4 b a
 |[],[]=>rfl
 |[],_::_=>rfl
 |_::_,[]=>rfl
 |x::a,y::b=>by
  unfold za4;by_cases h:x=y
  ·rw[if_pos h,if_pos h.symm,zwp a b]
  ·rw[if_neg h,if_neg fun e=>h e.symm]
theorem Agree.symm{a b:zaa}(h:Agree a b):Agree b a:=by
 unfold Agree at h ⊢;rw[zwp];exact h.symm
theorem zyc(a b:zaa){n:Int}(ha:zxf n a)(hb:zxf n b)(h1:SmW a.In):∃d,zgi a b=some d∧(0<=d↔¬Agree a b):=by
 have a2:a.In.length<=2000000:=h1;have hc:=zmu a.In b.In;have la:=ha.2.1;have lb:=hb.2.1;unfold zgi;rw[zj8 _ _ h1,zah]
 have key:=zix (step:=fun k=>zgi.s2 a b (↑(za4 a.In b.In):Int) k) (fun k=>k<=za4 a.In b.In∧a.Out.take k=b.Out.take k) (fun k=>za4 a.In b.In-k) (fun r=>match r with|.inl ()=>Agree a b|.inr d=>0<=d∧¬Agree a b) (fun k ⟨g1,g2⟩=>by
  simp only[zgi.s2]
  by_cases g3:k<za4 a.In b.In
  ·have hx:=get_at (l:=a.Out) (i:=k) (by omega)
   have hy:=get_at (l:=b.Out) (i:=k) (by omega)
   rw[zkB (by omega),zkD,zao hx,zao hy]
   by_cases e:a.Out[k]'(by omega)=b.Out[k]'(by omega)
   ·left
    refine⟨k+1,by rw[zkA (by simpa using e),zkC,zaq (by unfold inR;omega)],⟨g3,?_⟩,by omega⟩
    rw[zbc hx,zbc hy,g2,e]
   ·right
    refine⟨.inr (k:Int),by rw[zkB e,zkD],by simp,fun hA=>e ?_⟩
    have h3:(a.Out.take (za4 a.In b.In))[k]?=(b.Out.take (za4 a.In b.In))[k]?:=by rw[hA]
    rw[ya7,ya7,if_pos g3,if_pos g3,hx,hy]at h3
    injection h3
  ·right
   have e:k=za4 a.In b.In:=by omega
   subst e
   exact⟨.inl (),by rw[zkA (by omega),zkC],g2⟩) 0 ⟨yag _,by simp⟩
 obtain⟨r,e,hq⟩:=key;rw[e];cases r with
 |inl u=>exact⟨-1,rfl,fun h=>absurd h (by decide),fun h=>absurd hq h⟩
 |inr d=>exact⟨d,rfl,fun _=>hq.2,fun _=>hq.1⟩
theorem common_eq_iff{x y:yab}(h:x.length=y.length):za4 x y=y.length↔x=y:=by
 rw[zpp];exact⟨fun hp=>(hp.eq_of_length h.symm).symm,fun e=>e ▸ yb8 _⟩
theorem zrm(a b:zaa){n:Int}(ha:zxf n a)(hb:zxf n b)(h1:SmW a.In):∃d,zht a b=some d∧(0<=d↔¬Agree a b):=by
 have a4:a.In.length<=2000000:=h1;have hc:=zmu a.In b.In;have la:=ha.2.1;have lb:=hb.2.1;unfold zht;rw[zlz _ _ h1,zah];have hm:min (min (↑(za4 a.In b.In):Int) (↑a.Out.length:Int)) (↑b.Out.length:Int)=↑(za4 a.In b.In):=by omega
 rw[hm,zaq (by omega),zaq (by omega),ybf,zlz _ _ (by unfold SmW;rw[yaf];omega),zah];have l1:(a.Out.take (za4 a.In b.In)).length=za4 a.In b.In:=by rw[yaf];omega
 have l2:(b.Out.take (za4 a.In b.In)).length=za4 a.In b.In:=by rw[yaf];omega
 have a3:=zmu (a.Out.take (za4 a.In b.In)) (b.Out.take (za4 a.In b.In));have a2:=common_eq_iff (x:=a.Out.take (za4 a.In b.In)) (y:=b.Out.take (za4 a.In b.In)) (by omega);by_cases h:za4 (a.Out.take (za4 a.In b.In)) (b.Out.take (za4 a.In b.In))<za4 a.In b.In
 ·rw[zkB (by omega),zkD];exact⟨_,rfl,fun _ hA=>by have:=a2.2 hA;omega,fun _=>by omega⟩
 ·rw[zkA (by omega),zkC];exact⟨-1,rfl,fun h=>absurd h (by decide),fun hA=>absurd (a2.1 (by omega)) hA⟩
def zqf(l:List zaa)(t:zaa):Prop:=∃u∈l,¬Agree u t
def zd8(l:List zaa)(w:yab):Bool:=l.any fun u=>decide (w <+: u.In)
def insT:List zaa->zaa->List zaa
 |[],t=>[t]
 |x::r,t=>if cmpW t.In x.In=-1 then t::x::r else x::insT r t
def zp4(l:List zaa)(t:zaa):List zaa:=l.filter fun u=>!decide (u.In <+: t.In)
def addL(l:List zaa)(t:zaa):List zaa:=if zd8 l t.In=true∨t.In=[] then l else insT (zp4 l t) t
instance (a b:zaa):Decidable (Agree a b):=by unfold Agree;infer_instance
instance (l:List zaa) (t:zaa):Decidable (zqf l t):=by unfold zqf;infer_instance
def addO(o:zac)(t:zaa):zac×Int :=
 if zw0 t o.Inputs≠0 then(o,zw0 t o.Inputs) else if zqf o.Traces t then(o,13) else if 10000<(addL o.Traces t).length then(o,11) else(⟨o.Inputs,addL o.Traces t⟩,0)
theorem zq8(l:List zaa)(t:zaa):(insT l t).length=l.length+1:=by
 induction l with
 |nil=>rfl
 |cons x r ih =>
  unfold insT;split
  ·rfl
  ·simp[ih]
theorem zuo(l:List zaa)(t:zaa):(zp4 l t).length<=l.length:=yc1 _ _
theorem addL_length(l:List zaa)(t:zaa):(addL l t).length<=l.length+1:=by
 unfold addL;split
 ·omega
 ·rw[zq8];have:=zuo l t;omega
theorem zkf{l:List zaa}{t x:zaa}:x∈insT l t↔x=t∨x∈l:=by
 induction l with
 |nil=>simp[insT]
 |cons y r ih =>
  unfold insT;split
  ·simp
  ·simp only[yap,ih];constructor
   ·rintro (h|h|h)
    ·exact .inr (.inl h)
    ·exact .inl h
    ·exact .inr (.inr h)
   ·rintro (h|h|h)
    ·exact .inr (.inl h)
    ·exact .inl h
    ·exact .inr (.inr h)
theorem insT_at:∀{l:List zaa} {t:zaa} {k:Nat},k<=l.length->(∀j x,j<k->l[j]?=some x->cmpW x.In t.In=-1)->(∀x,l[k]?=some x->cmpW x.In t.In≠-1)->(∀x∈l,x.In≠t.In)->insT l t=l.take k++[t]++l.drop k
 |[],t,k,hk,_,_,_=>by
  have:k=0:=by simpa using hk
  subst this;rfl
 |x::r,t,0,_,_,h2,h3=>by
  have h4:=h2 x rfl;have h5:=h3 x (by simp);have r1:=zil x.In t.In;have z1:=zos x.In t.In;have s1:=zmd x.In t.In;have h6:¬cmpW x.In t.In=0:=fun e=>h5 (z1.1 e);unfold insT;rw[if_pos (by omega)];rfl
 |x::r,t,k+1,hk,h1,h2,h3=>by
  have h4:=h1 0 x (Nat.succ_pos _) rfl;have s1:=zmd x.In t.In;unfold insT;rw[if_neg (by omega),insT_at (k:=k) (by simpa using hk) (fun j y hj hy=>h1 (j+1) y (by omega) (by simpa using hy)) (fun y hy=>h2 y (by simpa using hy)) fun y hy=>h3 y (by simp[hy])];rfl
theorem zxn{S:zaa->zaa->Prop}{t:zaa}:∀{l:List zaa},l.Pairwise S->(∀x∈l,S x t∧S t x)->(insT l t).Pairwise S
 |[],_,_=>by simp[insT]
 |x::r,h,ht=>by
  unfold insT;have hx:=yb0.1 h;split
  ·exact yb0.2 ⟨fun y hy=>(ht y hy).2,h⟩
  ·refine yb0.2 ⟨fun y hy=>?_,zxn hx.2 fun y hy=>ht y (by simp[hy])⟩;rcases zkf.1 hy with e|e
   ·subst e;exact(ht x (by simp)).1
   ·exact hx.1 y e
theorem insT_asc{t:zaa}:∀{l:List zaa},l.Pairwise (fun a b=>cmpW a.In b.In=-1)->(∀x∈l,x.In≠t.In)->(insT l t).Pairwise (fun a b=>cmpW a.In b.In=-1)
 |[],_,_=>by simp[insT]
 |x::r,h,hn=>by
  unfold insT;have hx:=yb0.1 h;split
  ·rename_i h1;refine yb0.2 ⟨fun y hy=>?_,h⟩;rcases yap.1 hy with e|e
   ·rw[e];exact h1
   ·exact zik _ _ _ h1 (hx.1 y e)
  ·rename_i h1;refine yb0.2 ⟨fun y hy=>?_,insT_asc hx.2 fun y hy=>hn y (by simp[hy])⟩;rcases zkf.1 hy with e|e
   ·subst e;have r1:=zil x.In y.In;have z1:=zos x.In y.In;have s1:=zmd x.In y.In;have h6:¬cmpW x.In y.In=0:=fun e=>hn x (by simp) (z1.1 e);omega
   ·exact hx.1 y e
theorem zed.pw{o:zac}(hv:zed o):o.Traces.Pairwise (fun a b=>cmpW a.In b.In=-1)∧o.Traces.Pairwise (fun a b=>¬a.In <+: b.In∧Agree a b) :=
 ⟨ya4.2 fun i j hi hj hij=>hv.asc i j _ _ hij (get_at hi) (get_at hj),ya4.2 fun i j hi hj hij=>hv.apart i j _ _ hij (get_at hi) (get_at hj)⟩
theorem obsOk_of{o:zac}(h1:1<=o.Inputs∧o.Inputs<=64)(h2:o.Traces.length<=10000)(h3:∀t∈o.Traces,zxf o.Inputs t∧t.In≠[])(h4:o.Traces.Pairwise (fun a b=>cmpW a.In b.In=-1))(h5:o.Traces.Pairwise (fun a b=>¬a.In <+: b.In∧Agree a b)):zed o:=by
 refine⟨h1,h2,h3,fun i j a b a2 ha hb=>?_,fun i j a b a2 ha hb=>?_⟩
 all_goals
  obtain⟨hi,rfl⟩:=zkI.1 ha;obtain⟨hj,rfl⟩:=zkI.1 hb
 ·exact ya4.1 h4 i j hi hj a2
 ·exact ya4.1 h5 i j hi hj a2
theorem zrp{l:List zaa}{w:yab}(h:¬zd8 l w=true):∀u∈l,¬w <+: u.In:=fun u hu hp=>h (ydh.2 ⟨u,hu,zkB hp⟩)
theorem addO_ok{o:zac}{t:zaa}(hv:zed o):zed (addO o t).1:=by
 unfold addO;split
 ·exact hv
 rename_i hp;have hp:zxf o.Inputs t:=zmb.1 (by simpa using hp);split
 ·exact hv
 rename_i hc;split
 ·exact hv
 rename_i hn;have hn:(addL o.Traces t).length<=10000:=by omega
 unfold addL at hn ⊢;by_cases h:zd8 o.Traces t.In=true∨t.In=[]
 ·rw[if_pos h];exact hv
 ·rw[if_neg h]at hn ⊢;have h1:=zrp fun e=>h (.inl e);have h2:t.In≠[]:=fun e=>h (.inr e);have a3:(zp4 o.Traces t).Sublist o.Traces:=ydk
  have a2:∀x∈zp4 o.Traces t,x∈o.Traces∧¬x.In <+: t.In:=fun x hx=>by
   have:=yc4.1 hx;refine⟨this.1,fun e=>?_⟩;rw[zkB e]at this;exact ybx this.2
  have a4:∀x∈o.Traces,Agree x t:=fun x hx=>yau fun e=>hc ⟨x,hx,e⟩;refine obsOk_of hv.inp hn (fun x hx=>?_) (insT_asc (hv.pw.1.sublist a3) fun x hx e=>(a2 x hx).2 (e ▸ yb8 _)) (zxn (hv.pw.2.sublist a3) fun x hx=>⟨⟨(a2 x hx).2,a4 x (a2 x hx).1⟩,h1 x (a2 x hx).1,(a4 x (a2 x hx).1).symm⟩);rcases zkf.1 hx with e|e
  ·rw[e];exact⟨hp,h2⟩
  ·exact hv.prop x (a2 x e).1
def SmX(t:zaa):Prop:=SmW t.In∧SmW t.Out
def SmTr(l:List zaa):Prop:=l.length<=1200000∧∀t∈l,SmX t
theorem capT{n:Nat}(h:n<=3000000):za3 n 48:=by unfold za3;omega
theorem zmq{t:zaa}(h:SmX t):zgl t=some t:=by
 unfold zgl;rw[zfx h.1,zah,zfx h.2,zah]
theorem zuu{l:List zaa}(h:SmTr l):zdm l=some l:=by
 have hl:=h.1;unfold zdm;rw[zaq ⟨by decide,by omega,by rw[show((↑l.length:Int)+1).toNat=l.length+1 by omega];exact capT (by omega)⟩]
 have key:=zix (step:=fun(s:List zaa×Nat)=>zdm.s2 l s.1 s.2) (fun s=>s.2<=l.length∧s.1=l.take s.2) (fun s=>l.length-s.2) (fun r=>r=l) (fun⟨y,i⟩ ⟨g1,g2⟩=>by
  simp only at g1 g2
  subst g2
  simp only[zdm.s2]
  by_cases g3:i<l.length
  ·left
   have hx:=get_at g3
   refine⟨(l.take (i+1),i+1),?_,⟨g3,rfl⟩,by simp only;omega⟩
   rw[zbr hx,zkD,zao hx,zmq (h.2 _ (yai _)),zah,zaq (capT (by rw[yaf];omega)),zbc hx]
  ·right
   have e:i=l.length:=by omega
   subst e
   exact⟨l,by rw[zc6,zkC,yax],rfl⟩) ([],0) ⟨yag _,rfl⟩
 obtain⟨r,e,rfl⟩:=key;rw[e,zah]
theorem tdelete_eq{l:List zaa}{f:zaa->Option Bool}{p:zaa->Bool}(hl:l.length<=100000000)(hf:∀x∈l,f x=some (p x)) :
  zam l f=some (l.filter fun x=>!p x):=by
 unfold zam;rw[tindex_eq (by omega) hf,zah];by_cases h:l.any p=true
 ·rw[if_pos h,zkA (by omega),zkC];have hi:l.findIdx p<l.length:=List.findIdx_lt_length_of_exists (by simpa using ydh.1 h);have hx:=get_at hi;have a5:p l[l.findIdx p]=true:=List.findIdx_getElem
  have a2:∀(k:Nat),k<=l.findIdx p->(l.take k).filter (fun x=>!p x)=l.take k:=fun k hk=>by
   refine yd8.2 fun x hx=>?_;obtain⟨j,hj,rfl⟩:=ya5.1 hx;rw[yaf]at hj;rw[List.getElem_take];have:=List.not_of_lt_findIdx (p:=p) (xs:=l) (i:=j) (by omega);have h9:p l[j]=false:=by simpa using this
   rw[h9];rfl
  rw[zaq (by unfold inR;omega)]
  have key:=zdt (step:=fun(s:List zaa×Int×Int)=>zam.s2 f s.1 s.2.1 s.2.2)
   (fun s=>∃i j:Nat,s.2.1=(i:Int)∧s.2.2=(j:Int)∧i<j∧j<=l.length∧s.1.length=l.length∧s.1.drop j=l.drop j∧s.1.take i=(l.take j).filter fun x=>!p x) (fun s=>(↑l.length-s.2.2).toNat)
   (fun r=>∃i:Nat,r.2=(i:Int)∧i<=l.length∧0<l.length∧r.1.length=l.length∧r.1.take i=l.filter fun x=>!p x) (fun⟨y,si,sj⟩ ⟨i,j,g1,g2,g3,g4,g5,g6,g7⟩=>by
    simp only at g1 g2 g5 g6 g7
    subst g1 g2
    simp only[zam.s2]
    by_cases g8:j<l.length
    ·left
     have hz:=get_at g8
     have hy:y[j]?=some l[j]:=by
      have h1:(y.drop j)[0]?=(l.drop j)[0]?:=by rw[g6]
      rw[ybj,ybj,yb4,hz]at h1
      exact h1
     rw[zkB (by omega),zkD,zbw rfl hy,hf _ (yai _),zah]
     have hd:∀u:List zaa,u.drop j=l.drop j->u.drop (j+1)=l.drop (j+1):=fun u hu=>by
      rw[<- yew,hu,yew]
     cases hp:p l[j]with
     |false =>
      have a6:=get_at (l:=y) (i:=i) (by omega)
      refine⟨(y.set i l[j],((i+1:Nat):Int),((j+1:Nat):Int)),?_,⟨i+1,j+1,rfl,rfl,by omega,by omega,by simpa using g5,?_,?_⟩,by simp only;omega⟩
      ·rw[yb7,zkD,zbw rfl a6,zaq (by unfold inR;omega),zaq (by unfold inR;omega)]
       simp
      ·rw[List.drop_set_of_lt (by omega)]
       exact hd y g6
      ·rw[zbc hz,ydc,<- g7]
       have a3:(y.set i l[j])[i]?=some l[j]:=by rw[ycu (by omega)]
       rw[zbc a3,List.take_set_of_le (by omega)]
       simp[hp]
     |true =>
      refine⟨(y,(i:Int),((j+1:Nat):Int)),?_,⟨i,j+1,rfl,rfl,by omega,by omega,g5,hd y g6,?_⟩,by simp only;omega⟩
      ·rw[ybh,zkC,zaq (by unfold inR;omega)]
       simp
      ·rw[zbc hz,ydc,<- g7]
       simp[hp]
    ·right
     have e:j=l.length:=by omega
     subst e
     refine⟨(y,(i:Int)),by rw[zkA (by omega),zkC],i,rfl,by omega,by omega,g5,?_⟩
     rw[g7,yax]) fuel (l,(↑(l.findIdx p):Int),(↑(l.findIdx p):Int)+1) ⟨l.findIdx p,l.findIdx p+1,rfl,by simp,by omega,hi,rfl,rfl,by
    rw[zbc hx,ydc,a2 _ (yam _)]
    simp[a5]⟩ (by have:=zc2;simp only;omega)
  obtain⟨⟨y,si⟩,e,i,g1,g2,g3,g4,g5⟩:=key;simp only at g1 g4 g5;subst g1;rw[e,zah];simp only[zam.k3]
  have a4:(List.take i y++List.replicate (y.length-i) (⟨[],[]⟩:zaa)).length=y.length:=by
   rw[zkJ,yaf,ybs];omega
  rw[ybf,a4,zaq (by omega),zaq (by omega),zaq (by omega),ybw (by rw[yaf];omega),yc0,Nat.min_self,g5]
 ·have h':l.any p=false:=by simpa using h
  rw[if_neg h,zkB rfl,zkD];congr 1;refine(yd8.2 fun x hx=>?_).symm;have:=List.any_eq_false.1 h' x hx;simpa using this
theorem tsearch_eq{F:List zaa}{t:zaa}(hs:F.Pairwise fun a b=>cmpW a.In b.In=-1)(hl:F.length<=2000000)(hw:∀x∈F,SmW x.In) :
  ∃k:Nat,∃b,zap F t (fun u0 u1=>zel u0 u1)=some ((↑k:Int),b)∧k<=F.length∧(∀j x,j<k->F[j]?=some x->cmpW x.In t.In=-1)∧∀x,F[k]?=some x->cmpW x.In t.In≠-1:=by
 have hc:∀x∈F,zel x t=some (cmpW x.In t.In):=fun x hx=>by
  unfold zel;rw[ziv _ _ (by have:=hw x hx;unfold SmW at this;omega),zah]
 have a4:∀{i j:Nat} {a b:zaa},i<j->F[i]?=some a->F[j]?=some b->cmpW a.In b.In=-1:=fun {i j a b} hij ha hb=>by
  obtain⟨hi,rfl⟩:=zkI.1 ha;obtain⟨hj,rfl⟩:=zkI.1 hb;exact ya4.1 hs i j hi hj hij
 have key:=zdt (step:=fun(s:Int×Int)=>zap.s2 F t (fun u0 u1=>zel u0 u1) s.1 s.2)
  (fun s=>∃i j:Nat,s.1=(i:Int)∧s.2=(j:Int)∧i<=j∧j<=F.length∧(∀k x,k<i->F[k]?=some x->cmpW x.In t.In=-1)∧∀k x,j<=k->F[k]?=some x->cmpW x.In t.In≠-1) (fun s=>(s.2-s.1).toNat)
  (fun r=>∃k:Nat,r=(k:Int)∧k<=F.length∧(∀j x,j<k->F[j]?=some x->cmpW x.In t.In=-1)∧∀x,F[k]?=some x->cmpW x.In t.In≠-1) (fun s ⟨i,j,g1,g2,g3,g4,g5,g6⟩=>by
   obtain⟨si,sj⟩:=s
   simp only at g1 g2
   subst g1 g2
   simp only[zap.s2]
   by_cases g7:i<j
   ·left
    have a3:((↑i:Int)+↑j) / 2^1=((i+j) / 2:Nat):=by omega
    have hx:=get_at (l:=F) (i:=(i+j) / 2) (by omega)
    rw[zkB (by omega),zkD,zaq (by unfold inR;omega),zaq (by omega),zaq (by omega),zaq (by unfold inR;omega),zbw a3 hx,hc _ (yai _),zah]
    have r:=zil (F[(i+j) / 2]'(by omega)).In t.In
    by_cases g8:cmpW (F[(i+j) / 2]'(by omega)).In t.In<0
    ·refine⟨(((i+j) / 2+1:Nat),(j:Int)),?_,⟨(i+j) / 2+1,j,rfl,rfl,by omega,g4,fun k x hk a2=>?_,g6⟩,by simp only;omega⟩
     ·rw[zkB g8,zkD,zaq (by unfold inR;omega),a3]
      simp
     ·rcases ya6 k ((i+j) / 2) with h|h
      ·exact zik _ _ _ (a4 h a2 hx) (by omega)
      ·have e:k=(i+j) / 2:=by omega
       subst e
       rw[hx]at a2
       injection a2 with a2
       subst a2
       omega
    ·refine⟨((i:Int),(((i+j) / 2:Nat):Int)),?_,⟨i,(i+j) / 2,rfl,rfl,by omega,by omega,g5,fun k x hk a2=>?_⟩,by simp only;omega⟩
     ·rw[zkA g8,zkC,a3]
     ·intro h9
      rcases ya6 ((i+j) / 2) k with h|h
      ·have:=zik _ _ _ (a4 h hx a2) h9
       omega
      ·have e:k=(i+j) / 2:=by omega
       subst e
       rw[hx]at a2
       injection a2 with a2
       subst a2
       omega
   ·right
    have e:i=j:=by omega
    subst e
    refine⟨(i:Int),by rw[zkA (by omega),zkC],i,rfl,g4,g5,fun x a2=>g6 i x (yam _) a2⟩) fuel (0,(↑F.length:Int)) ⟨0,F.length,rfl,rfl,yag _,yam _,fun k x h=>by omega,fun k x h a2=>by
    have:=(zkI.1 a2).1
    omega⟩ (by have:=zc2;simp only;omega)
 obtain⟨r,e,k,hk,h1,h2,h3⟩:=key;subst hk;unfold zap;rw[e,zah];by_cases h4:k<F.length
 ·have hx:=get_at h4;rw[zkB (by omega),zkD,zbw rfl hx,show(fun(u0:zaa) (u1:zaa)=>zel u0 u1) F[k] t=some (cmpW F[k].In t.In) from hc _ (yai _),zah,zah];exact⟨k,_,rfl,h1,h2,h3⟩
 ·rw[zkA (by omega),zkC,zah];exact⟨k,_,rfl,h1,h2,h3⟩
theorem zyx{o:zac}{t:zaa}(ho:SmTr o.Traces)(hv:zed o)(ht:SmX t)(hp:zxf o.Inputs t) :
  zey o.Traces t=some (if zqf o.Traces t then([],13) else if 10000<(addL o.Traces t).length then([],11) else(addL o.Traces t,0)):=by
 have hl:=ho.1;unfold zey
 have key:=zdt (step:=fun(s:Bool×Nat)=>zey.s2 o.Traces t s.1 s.2) (fun s=>s.2<=o.Traces.length∧(∀u∈o.Traces.take s.2,Agree u t)∧s.1=zd8 (o.Traces.take s.2) t.In) (fun s=>o.Traces.length-s.2)
  (fun r=>match r with|.inl b=>¬zqf o.Traces t∧b=zd8 o.Traces t.In|.inr x=>zqf o.Traces t∧x=([],13)) (fun⟨b,i⟩ ⟨g1,g2,g3⟩=>by
   simp only at g1 g2 g3
   simp only[zey.s2]
   by_cases g4:i<o.Traces.length
   ·have hx:=get_at g4
    have a2:=yai g4
    obtain⟨d,hd,a4⟩:=zrm o.Traces[i] t (hv.prop _ a2).1 hp (ho.2 _ a2).1
    rw[zbr hx,zkD,zao hx,hd,zah]
    by_cases g5:0<=d
    ·right
     exact⟨.inr ([],13),by rw[zkB g5,zkD],⟨_,a2,a4.1 g5⟩,rfl⟩
    ·left
     have hA:Agree o.Traces[i] t:=yau fun e=>g5 (a4.2 e)
     have a5:zd8 (o.Traces.take (i+1)) t.In=(b||decide (t.In <+: o.Traces[i].In)):=by
      rw[zbc hx,g3]
      unfold zd8
      rw[List.any_append]
      simp
     refine⟨(zd8 (o.Traces.take (i+1)) t.In,i+1),?_,⟨g4,fun u hu=>?_,rfl⟩,by simp only;omega⟩
     ·rw[zkA g5,zkC,a5]
      cases b with
      |true=>rfl
      |false =>
       rw[zkC,zfo _ _ (ho.2 _ a2).1,zah]
       rfl
     ·rw[zbc hx]at hu
      rcases yak.1 hu with h|h
      ·exact g2 u h
      ·rw[yba.1 h]
       exact hA
   ·right
    have e:i=o.Traces.length:=by omega
    subst e
    rw[yax]at g2 g3
    exact⟨.inl b,by rw[zc6,zkC],fun⟨u,hu,h⟩=>h (g2 u hu),g3⟩) fuel (false,0) ⟨yag _,fun u hu=>by simp at hu,rfl⟩ (by have:=zc2;simp only;omega)
 obtain⟨r,e,hq⟩:=key;rw[e,zah];cases r with
 |inr x =>
  rw[if_pos hq.1,hq.2];rfl
 |inl b =>
  obtain⟨h1,rfl⟩:=hq;rw[if_neg h1];simp only[ycy]
  have hb:(cond (zd8 o.Traces t.In) (some true) (some (decide ((↑t.In.length:Int)=0))):Option Bool)=some (decide (zd8 o.Traces t.In=true∨t.In=[])):=by
   cases hi:zd8 o.Traces t.In with
   |true=>rfl
   |false =>
    rw[zkC];congr 1;refine decide_eq_decide.2 ⟨fun h=>.inr (yaq (by omega)),fun h=>?_⟩;rcases h with h|h
    ·cases h
    ·rw[h];rfl
  rw[hb,zah];by_cases h2:zd8 o.Traces t.In=true∨t.In=[]
  ·have ha:addL o.Traces t=o.Traces:=if_pos h2;have hn:=hv.num;rw[zkB h2,zkD,ha,if_neg (by omega)]
  ·have ha:addL o.Traces t=insT (zp4 o.Traces t) t:=if_neg h2
   rw[zkA h2,zkC,tdelete_eq (p:=fun u=>decide (u.In <+: t.In)) (by omega) fun x hx=>by
    unfold ziu
    rw[zfo _ _ ht.1,zah],zah]
   have a7:=zuo o.Traces t;have hn:=hv.num;have a8:=zq8 (zp4 o.Traces t) t;rw[show(o.Traces.filter fun x=>!decide (x.In <+: t.In))=zp4 o.Traces t from rfl,ha];by_cases h3:(zp4 o.Traces t).length=10000
   ·rw[zkB (by omega),zkD,if_pos (by omega)]
   ·rw[zkA (by omega),zkC,if_neg (by omega)];have a3:(zp4 o.Traces t).Sublist o.Traces:=ydk
    have a6:∀x∈zp4 o.Traces t,x.In≠t.In:=fun x hx e=>by
     have:=(yc4.1 hx).2;rw[e,zkB (yb8 _)]at this;exact ybx this
    obtain⟨k,b,e,k1,k2,k3⟩:=tsearch_eq (t:=t) (hv.pw.1.sublist a3) (by omega) fun x hx=>(ho.2 x (a3.subset hx)).1;rw[e,zah,zmq ht,zah];simp only;unfold zi4;rw[zaq ⟨by omega,by omega,rfl,by omega⟩,zah,ybf,<- insT_at k1 k2 k3 a6]
theorem zmv{t:zaa}(h:SmX t):zjc t=some t:=by
 have h1:=h.1;have h2:=h.2;unfold SmW at h1 h2;unfold zjc;rw[zna _ (by simp) (by simp;omega),zah,zna _ (by simp) (by simp;omega),zah];simp
def zsk(t x:zaa):Bool:=decide (¬x.In <+: t.In∨t.In.length=x.In.length)
def zsm(t:zaa):Bool->List zaa->List zaa
 |done,[]=>if done=true then [] else [t]
 |done,x::r=>(if done=false∧cmpW t.In x.In=-1 then [t] else [])++((if zsk t x=true then [x] else [])++zsm t (done||decide (cmpW t.In x.In=-1)) r)
theorem zs2{t:zaa}:∀(l:List zaa),zsm t true l=l.filter (zsk t)
 |[]=>rfl
 |x::r=>by
  unfold zsm;rw[if_neg (by simp),yel,Bool.true_or,zs2 r];split<;>rfl
theorem zxz{t:zaa}:∀(l:List zaa),(∀x∈l,x.In≠t.In)->zsm t false l=insT (zp4 l t) t
 |[],_=>rfl
 |x::r,hn=>by
  have hne:=hn x (by simp)
  have hk:zsk t x=!decide (x.In <+: t.In):=by
   unfold zsk;by_cases h:x.In <+: t.In
   ·rw[zkB h,ybh];refine zkA fun e=>?_;rcases e with e|e
    ·exact e h
    ·exact hne (h.eq_of_length (by omega))
   ·rw[zkA h,zkB (.inl h)];rfl
  have a2:∀l:List zaa,(∀x∈l,x.In≠t.In)->l.filter (zsk t)=zp4 l t:=fun l hl=>by
   unfold zp4;refine List.filter_congr fun y hy=>?_;unfold zsk;by_cases h:y.In <+: t.In
   ·rw[zkB h,ybh];refine zkA fun e=>?_;rcases e with e|e
    ·exact e h
    ·exact hl y hy (h.eq_of_length (by omega))
   ·rw[zkA h,zkB (.inl h)];rfl
  have hr:∀y∈r,y.In≠t.In:=fun y hy=>hn y (by simp[hy]);unfold zsm zp4;rw[yel,hk];by_cases h:x.In <+: t.In
  ·have h1:¬cmpW t.In x.In=-1:=fun e=>by
    have:=h.length_le;unfold cmpW at e;split at e
    ·omega
    ·split at e
     ·cases e
     ·have h2:=h.eq_of_length (by omega);exact hne h2
   rw[if_neg fun e=>h1 e.2,zkB h,zkA h1,ybh,if_neg ybx,if_neg ybx,yff];exact zxz r hr
  ·rw[zkA h,yb7,if_pos rfl,if_pos rfl];unfold insT;by_cases h1:cmpW t.In x.In=-1
   ·rw[if_pos ⟨rfl,h1⟩,if_pos h1,zkB h1,Bool.or_true,zs2,a2 r hr];rfl
   ·rw[if_neg fun e=>h1 e.2,if_neg h1,zkA h1,yff,zxz r hr];rfl
theorem keep_all{o:zac}{t:zaa}(hv:zed o)(h:zd8 o.Traces t.In=true∨t.In=[]):o.Traces.filter (zsk t)=o.Traces:=by
 refine yd8.2 fun x hx=>zkB ?_;refine yau fun hn=>?_;have h1:x.In <+: t.In:=yau fun e=>hn (.inl e);have h2:¬t.In.length=x.In.length:=fun e=>hn (.inr e);have hl:=h1.length_le;rcases h with h|h
 ·obtain⟨u,hu,hp⟩:=ydh.1 h;have hp:t.In <+: u.In:=of_decide_eq_true hp;have a2:=hp.length_le;obtain⟨i,hi,rfl⟩:=ya5.1 hx;obtain⟨j,hj,rfl⟩:=ya5.1 hu;rcases ycd i j with e|e|e
  ·exact(hv.apart i j _ _ e (get_at hi) (get_at hj)).1 (h1.trans hp)
  ·subst e;omega
  ·have:=hv.asc j i _ _ e (get_at hj) (get_at hi);unfold cmpW at this;split at this
   ·omega
   ·split at this
    ·cases this
    ·omega
 ·rw[h]at h2 hl;simp at h2 hl;exact h2 (by rw[hl];rfl)
theorem R16_add_eq{o:zac}{t:zaa}(ho:SmTr o.Traces)(hv:zed o)(ht:SmX t):zdr o t=some ⟨o.Inputs,addL o.Traces t⟩:=by
 have hl:=ho.1;unfold zdr
 have key:=zix (step:=fun(s:Bool×Nat)=>zdr.s2 o t s.1 s.2) (fun s=>s.2<=o.Traces.length∧s.1=(decide (t.In=[])||zd8 (o.Traces.take s.2) t.In)) (fun s=>o.Traces.length-s.2) (fun r=>r=(decide (t.In=[])||zd8 o.Traces t.In)) (fun⟨b,i⟩ ⟨g1,g2⟩=>by
  simp only at g1 g2
  simp only[zdr.s2]
  by_cases g4:i<o.Traces.length
  ·left
   have hx:=get_at g4
   have a3:=yai g4
   have b0:zd8 (o.Traces.take (i+1)) t.In=(zd8 (o.Traces.take i) t.In||decide (t.In <+: o.Traces[i].In)):=by
    rw[zbc hx]
    unfold zd8
    rw[List.any_append]
    simp
   refine⟨(decide (t.In=[])||zd8 (o.Traces.take (i+1)) t.In,i+1),?_,⟨g4,rfl⟩,by simp only;omega⟩
   rw[zbr hx,zkD,b0,<- Bool.or_assoc,<- g2]
   cases b with
   |true=>rfl
   |false =>
    rw[zkC,zao hx,zh5 _ _ (ho.2 _ a3).1,zah]
    rfl
  ·right
   have e:i=o.Traces.length:=by omega
   subst e
   rw[yax]at g2
   exact⟨b,by rw[zc6,zkC],g2⟩) (decide ((↑t.In.length:Int)=0),0) ⟨yag _,by
    simp only[List.take_zero,zd8,List.any_nil,yff]
    exact decide_eq_decide.2 ⟨fun h=>yaq (by omega),fun h=>by rw[h];rfl⟩⟩
 obtain⟨d0,e,rfl⟩:=key;rw[e,zah];generalize hd:(decide (t.In=[])||zd8 o.Traces t.In)=d0
 have a7:=zix (step:=fun(s:List zaa×Bool×Nat)=>zdr.s10 o t s.1 s.2.1 s.2.2) (fun s=>s.2.2<=o.Traces.length∧s.1.length<=2*s.2.2∧s.1++zsm t s.2.1 (o.Traces.drop s.2.2)=zsm t d0 o.Traces) (fun s=>o.Traces.length-s.2.2) (fun r=>r.1.length<=2400000∧r.1++zsm t r.2 []=zsm t d0 o.Traces) (fun⟨y,b,i⟩ ⟨g1,g2,g3⟩=>by
  simp only at g1 g2 g3
  simp only[zdr.s10]
  by_cases g4:i<o.Traces.length
  ·left
   have hx:=get_at g4
   have a3:=yai g4
   rw[ybr g4]at g3
   rw[zbr hx,zkD,zao hx]
   have a4:((zej t.In o.Traces[i].In).bind fun a2=>cond (!a2) (some true) (some (decide ((↑t.In.length:Int)=(↑(List.length o.Traces[i].In):Int)))):Option Bool)=some (zsk t o.Traces[i]):=by
    unfold zsk
    rw[zh5 _ _ ht.1,zah]
    by_cases h:o.Traces[i].In <+: t.In
    ·rw[zkB h,ybh,zkC]
     congr 1
     exact decide_eq_decide.2 ⟨fun e=>.inr (by omega),fun e=>by rcases e with e|e;exact absurd h e;omega⟩
    ·rw[zkA h,yb7,zkD,zkB (.inl h)]
   have a5:∀(z:List zaa) (c:Bool),z.length<=2*i+1->zdr.k9 t i o.Traces[i] z c=some (.inl (z++(if zsk t o.Traces[i]=true then [o.Traces[i]] else []),c,i+1)):=fun z c hz=>by
    unfold zdr.k9
    rw[a4,zah]
    cases zsk t o.Traces[i]with
    |true=>rw[zkD,zmv (ho.2 _ a3),zah,zaq (capT (by omega)),if_pos rfl]
    |false=>rw[zkC,if_neg ybx,ybd]
   have a8:((cond (!b) ((zeg t.In o.Traces[i].In).bind fun a6=>some (decide (a6<0))) (some false)):Option Bool)=some (decide (b=false∧cmpW t.In o.Traces[i].In=-1)):=by
    cases b with
    |true=>rfl
    |false =>
     have r1:=zil t.In o.Traces[i].In
     rw[yb7,zkD,zjh _ _ ht.1,zah]
     congr 1
     exact decide_eq_decide.2 ⟨fun e=>⟨rfl,by omega⟩,fun e=>by have:=e.2;omega⟩
   rw[a8,zah]
   have b2:zsm t b (o.Traces[i]::o.Traces.drop (i+1))=(if b=false∧cmpW t.In o.Traces[i].In=-1 then [t] else [])++((if zsk t o.Traces[i]=true then [o.Traces[i]] else [])++zsm t (b||decide (cmpW t.In o.Traces[i].In=-1)) (o.Traces.drop (i+1))):=rfl
   rw[b2]at g3
   by_cases hc:b=false∧cmpW t.In o.Traces[i].In=-1
   ·rw[if_pos hc,hc.1,yeh,zkB hc.2]at g3
    refine⟨(y++[t]++(if zsk t o.Traces[i]=true then [o.Traces[i]] else []),true,i+1),?_,⟨g4,?_,?_⟩,by simp only;omega⟩
    ·rw[zkB hc,zkD,zmv ht,zah,zaq (capT (by omega)),zah]
     exact a5 _ _ (by rw[zkJ,ybi];omega)
    ·simp only[zkJ,ybi]
     split<;>simp<;>omega
    ·simp only
     rw[<- g3]
     simp only[ybk]
   ·rw[if_neg hc,ycg]at g3
    have hb:(b||decide (cmpW t.In o.Traces[i].In=-1))=b:=by
     cases b with
     |true=>rfl
     |false =>
      rw[yeh]
      exact zkA fun e=>hc ⟨rfl,e⟩
    rw[hb]at g3
    refine⟨(y++(if zsk t o.Traces[i]=true then [o.Traces[i]] else []),b,i+1),?_,⟨g4,?_,?_⟩,by simp only;omega⟩
    ·rw[zkA hc,zkC,zah]
     exact a5 y b (by omega)
    ·simp only[zkJ]
     split<;>simp<;>omega
    ·simp only
     rw[<- g3]
     simp only[ybk]
  ·right
   have e:i=o.Traces.length:=by omega
   subst e
   rw[ycw]at g3
   exact⟨(y,b),by rw[zc6,zkC],by simp only;omega,g3⟩) ([],d0,0) ⟨yag _,by simp,by simp⟩
 obtain⟨⟨y,b⟩,e2,k1,k2⟩:=a7;simp only at k1 k2;rw[e2,zah]
 have a9:zsm t d0 o.Traces=addL o.Traces t:=by
  unfold addL;by_cases h:zd8 o.Traces t.In=true∨t.In=[]
  ·have h0:d0=true:=by
    rw[<- hd];rcases h with h|h
    ·rw[h,Bool.or_true]
    ·rw[zkB h,Bool.true_or]
   rw[h0,zs2,if_pos h,keep_all hv h]
  ·have h1:zd8 o.Traces t.In=false:=by
    cases hi:zd8 o.Traces t.In with
    |true=>exact absurd (.inl hi) h
    |false=>rfl
   have h0:d0=false:=by
    rw[<- hd,h1,zkA fun e=>h (.inr e)];rfl
   rw[h0,zxz _ fun x hx e=>h (.inl (ydh.2 ⟨x,hx,zkB (e ▸ yb8 _)⟩)),if_neg h]
 rw[a9]at k2;simp only[zdr.k11];cases b with
 |true =>
  rw[ybh,zkC,zah,<- k2];simp[zsm]
 |false =>
  rw[yb7,zkD,zmv ht,zah,zaq (capT (by omega)),zah,<- k2];simp[zsm]
theorem R16_Add_eq{o:zac}{t:zaa}(ho:SmTr o.Traces)(hv:zed o)(ht:SmX t):zlv o t=some (addO o t):=by
 have hl:=ho.1;unfold zlv addO;rw[R16_Proper_eq _ _ ht.1 ht.2,zah];by_cases g1:zw0 t o.Inputs=0
 ·rw[zkA (by simpa using g1),zkC,if_neg (by simpa using g1)];have hp:=zmb.1 g1
  have key:=zix (step:=fun i=>zlv.s2 o t i) (fun i=>i<=o.Traces.length∧∀u∈o.Traces.take i,Agree u t) (fun i=>o.Traces.length-i) (fun r=>match r with|.inl ()=>¬zqf o.Traces t|.inr x=>zqf o.Traces t∧x=(o,13)) (fun i ⟨g2,g3⟩=>by
   simp only[zlv.s2]
   by_cases g4:i<o.Traces.length
   ·have hx:=get_at g4
    have a2:=yai g4
    obtain⟨d,hd,a3⟩:=zyc o.Traces[i] t (hv.prop _ a2).1 hp (ho.2 _ a2).1
    rw[zbr hx,zkD,zao hx,hd,zah]
    by_cases g5:0<=d
    ·exact .inr ⟨.inr (o,13),by rw[zkB g5,zkD],⟨_,a2,a3.1 g5⟩,rfl⟩
    ·left
     have hA:Agree o.Traces[i] t:=yau fun e=>g5 (a3.2 e)
     refine⟨i+1,by rw[zkA g5,zkC],⟨g4,fun u hu=>?_⟩,by omega⟩
     rw[zbc hx]at hu
     rcases yak.1 hu with h|h
     ·exact g3 u h
     ·rw[yba.1 h]
      exact hA
   ·right
    have e:i=o.Traces.length:=by omega
    subst e
    rw[yax]at g3
    exact⟨.inl (),by rw[zc6,zkC],fun⟨u,hu,h⟩=>h (g3 u hu)⟩) 0 ⟨yag _,fun u hu=>by simp at hu⟩
  obtain⟨r,e,hq⟩:=key;rw[e,zah];cases r with
  |inr x =>
   rw[if_pos hq.1,hq.2];rfl
  |inl u =>
   rw[if_neg hq];simp only[ycy];rw[R16_add_eq ho hv ht,zah];simp only;by_cases g2:10000<(addL o.Traces t).length
   ·rw[zkB (by omega),zkD,if_pos g2]
   ·rw[zkA (by omega),zkC,if_neg g2]
 ·rw[zkB g1,zkD,if_pos g1]
theorem zva{o:zac}(hv:zed o){w r:yab}(h:ansO o w=some r):r.length=w.length:=by
 unfold ansO at h;split at h
 ·rename_i h0;injection h with h
  rw[<- h,h0]
 ·obtain⟨t,ht,rfl⟩:=yby.1 h;have hm:=ych ht;have hp:w <+: t.In:=by simpa using yeu ht
  have:=(hv.prop t hm).1.2.1;have:=pre_len hp;rw[yaf];omega
def rowO(o:zac)(w:yab):yaa->Option (yaa)
 |[]=>some []
 |e::S=>match ansO o (w++e) with
  |none=>none
  |some r=>(rowO o w S).map fun l=>r.drop w.length::l
theorem rowO_drop{o:zac}{w:yab}{S:yaa}{k:Nat}{e:yab}(h:S[k]?=some e):rowO o w (S.drop k)=match ansO o (w++e) with|none=>none|some r=>(rowO o w (S.drop (k+1))).map fun l=>r.drop w.length::l:=by
 obtain⟨hk,rfl⟩:=zkI.1 h;rw[ybr hk];rfl
theorem zrh{o:zac}{F:List zaa}{t:zab}{w:yab}(ho:SmO o)(hv:zed o)(hF:zuc o F)(hS:SmL t.Suffixes)(hw:SmW w):zb8 F t w=some (tw (rowO o w t.Suffixes)):=by
 have a5:t.Suffixes.length<=2000000:=hS.1;have a7:w.length<=2000000:=hw;unfold zb8
 have key:=zdt (step:=fun(s:yaa×Nat)=>zb8.s2 F t w s.1 s.2) (fun s=>s.2<=t.Suffixes.length∧s.1.length=s.2∧rowO o w t.Suffixes=(rowO o w (t.Suffixes.drop s.2)).map (s.1++·)) (fun s=>t.Suffixes.length-s.2)
  (fun r=>Sum.elim (fun(a2:yaa)=>some (a2,true)) some r=some (tw (rowO o w t.Suffixes))) (fun s ⟨g1,g2,g3⟩=>by
   obtain⟨y,k⟩:=s
   simp only at g1 g2 g3
   simp only[zb8.s2]
   by_cases g4:k<t.Suffixes.length
   ·have hx:=get_at g4
    have a3:SmW t.Suffixes[k]:=hS.2 _ (yai _)
    have a6:t.Suffixes[k].length<=2000000:=a3
    rw[zbr hx,zkD,zao hx,zif _ (by simp) (by simp;omega),zah]
    simp only[ybm,ye4,ybd]
    rw[znz ho hv hF,zah]
    rw[rowO_drop hx]at g3
    cases ha:ansO o (w++t.Suffixes[k]) with
    |none =>
     right
     rw[ha]at g3
     refine⟨.inr ([],false),rfl,?_⟩
     rw[g3]
     rfl
    |some r =>
     left
     rw[ha]at g3
     have a4:=zva hv ha
     rw[zkJ]at a4
     have hd:SmW (r.drop w.length):=by unfold SmW;rw[ya8];omega
     refine⟨(y++[r.drop w.length],k+1),?_,⟨g4,by simp[g2],?_⟩,by simp only;omega⟩
     ·simp only[tw,ybh,zkC]
      rw[zaq (by omega),zfx hd,zah,zaq (by unfold za3;omega)]
     ·rw[g3,yfe]
      simp only
      congr 1
      funext l
      simp
   ·right
    have e:k=t.Suffixes.length:=by omega
    subst e
    refine⟨.inl y,by rw[zkA (by omega),zkC],?_⟩
    rw[g3,ycw]
    simp[rowO,tw]) fuel ([],0) ⟨yag _,rfl,by simp⟩ (by have:=zc2;simp only;omega)
 obtain⟨r,e,hq⟩:=key;rw[zaq (by unfold za3;omega),e];exact hq
theorem zup{o:zac}{w e:yab}(ho:SmO o)(hv:zed o)(hw:SmW w)(he:SmW e):zmm o w e=some (match ansO o (w++e) with|none=>([],false)|some r=>(r.drop w.length,true)):=by
 unfold zmm;rw[zeo hw he,zah,zrt ho hv,zah];cases ha:ansO o (w++e) with
 |none=>rfl
 |some r =>
  have a2:=zva hv ha;rw[zkJ]at a2;simp only[tw,ybh,zkC];rw[zaq (by omega)]
theorem zko{o:zac}{S:yaa}{w:yab}(ho:SmO o)(hv:zed o)(hS:SmL S)(hw:SmW w):zhq o S w=some (tw (rowO o w S)):=by
 have a4:S.length<=2000000:=hS.1;unfold zhq
 have key:=zdt (step:=fun(s:yaa×Nat)=>zhq.s2 o S w s.1 s.2) (fun s=>s.2<=S.length∧s.1.length=s.2∧rowO o w S=(rowO o w (S.drop s.2)).map (s.1++·)) (fun s=>S.length-s.2)
  (fun r=>Sum.elim (fun(a2:yaa)=>some (a2,true)) some r=some (tw (rowO o w S))) (fun s ⟨g1,g2,g3⟩=>by
   obtain⟨y,k⟩:=s
   simp only at g1 g2 g3
   simp only[zhq.s2]
   by_cases g4:k<S.length
   ·have hx:=get_at g4
    have a3:SmW S[k]:=hS.2 _ (yai _)
    rw[zbr hx,zkD,zao hx,zup ho hv hw a3,zah]
    rw[rowO_drop hx]at g3
    cases ha:ansO o (w++S[k]) with
    |none =>
     right
     rw[ha]at g3
     refine⟨.inr ([],false),rfl,?_⟩
     rw[g3]
     rfl
    |some r =>
     left
     rw[ha]at g3
     refine⟨(y++[r.drop w.length],k+1),?_,⟨g4,by simp[g2],?_⟩,by simp only;omega⟩
     ·simp only[ybh,zkC]
      rw[zaq (by unfold za3;omega)]
     ·rw[g3,yfe]
      simp only
      congr 1
      funext l
      simp
   ·right
    have e:k=S.length:=by omega
    subst e
    refine⟨.inl y,by rw[zkA (by omega),zkC],?_⟩
    rw[g3,ycw]
    simp[rowO,tw]) fuel ([],0) ⟨yag _,rfl,by simp⟩ (by have:=zc2;simp only;omega)
 obtain⟨r,e,hq⟩:=key;rw[e];exact hq
def chkT(t:zab)(o:zac):Int:=if zda t≠0 then zda t else if t.Inputs≠o.Inputs then 15 else 0
theorem zp9{t:zab}{o:zac}(ht:SmT t):zi3 t o=some (chkT t o):=by
 unfold zi3 chkT;rw[zgk t ht,zah];by_cases h:zda t=0
 ·rw[zkA (by simpa using h),zkC,if_neg (by simpa using h)];by_cases h2:t.Inputs=o.Inputs<;>simp[h2]
 ·rw[zkB h,zkD,if_pos h]
theorem R23_Check_eq{t:zab}{o:zac}(ht:SmT t):zo7 t o=some (chkT t o):=by
 unfold zo7 chkT;rw[zgs t ht,zah];by_cases h:zda t=0
 ·rw[zkA (by simpa using h),zkC,if_neg (by simpa using h)];by_cases h2:t.Inputs=o.Inputs<;>simp[h2]
 ·rw[zkB h,zkD,if_pos h]
theorem sortW_ext{l m:yaa}(h:∀x,x∈l↔x∈m):sortW l=sortW m:=zqq (zhx l) (zhx m) fun x=>by rw[zcq,zcq,h]
theorem maxR_ext{l m:yaa}(h:∀x,x∈l↔x∈m):maxR l=maxR m:=by unfold maxR;rw[sortW_ext h]
theorem zyq{l:yaa}(hl:SmL l):zcr l=some (maxR l):=by
 have hA:=zhx l;have hs:=zh6 hl;have a5:(sortW l).length<=2000000:=hs.1;unfold zcr maxR;rw[zni hl,zah]
 have a3:∀(i:Nat) (x:yab),(sortW l)[i]?=some x->iter (fun(s:Bool×Nat)=>zcr.s13 (sortW l) i s.1 s.2) fuel (true,i+1)=some (topB (sortW l) x):=by
  intro i x hx;have hi:=(zkI.1 hx).1;refine zb1 (fun s=>i+1<=s.2∧s.2<=(sortW l).length∧s.1=tailB x (((sortW l).take s.2).drop (i+1))) (fun s=>(sortW l).length-s.2) (fun s ⟨g1,g2,g3⟩=>?_) ⟨yam _,by simp only;omega,by simp[tailB]⟩;obtain⟨b,k⟩:=s;simp only at g1 g2 g3;simp only[zcr.s13];by_cases g4:k<(sortW l).length
  ·left;have hy:=get_at g4;have a2:=tailB_step (x:=x) g1 hy;rw[<- g3]at a2;refine⟨(tailB x (((sortW l).take (k+1)).drop (i+1)),k+1),?_,⟨by simp only;omega,by simp only;omega,rfl⟩,by simp only;omega⟩;rw[zbr hy,zkD,a2];cases b with
   |false=>rfl
   |true =>
    rw[zkD,zao hy,zao hx,Bool.true_and];by_cases g5:(sortW l)[k].length=x.length
    ·rw[zkB (by omega),zkD,zkB (Or.inl g5)]
    ·rw[zkA (by omega),zkC,zao hy,zao hx,zh5 _ _ (hs.2 _ (yai _)),zah];by_cases g6:x <+: (sortW l)[k]
     ·rw[zkB g6,zkA (fun h=>h.elim g5 fun h=>h g6)];rfl
     ·rw[zkA g6,zkB (Or.inr g6)];rfl
  ·right;have e:k=(sortW l).length:=by omega
   subst e;rw[zkA (by omega),zkC,g3,yax,top_eq hA hx]
 have key:=zb1 (step:=fun(s:yaa×Nat)=>zcr.s14 (sortW l) s.1 s.2) (r:=(sortW l).filter (topB (sortW l))) (fun s=>s.2<=(sortW l).length∧s.1=((sortW l).take s.2).filter (topB (sortW l))) (fun s=>(sortW l).length-s.2) (fun s ⟨g1,g2⟩=>by
  obtain⟨y,i⟩:=s
  simp only at g1 g2
  subst g2
  simp only[zcr.s14]
  by_cases g4:i<(sortW l).length
  ·left
   have hx:=get_at g4
   have a2:=filter_step (p:=topB (sortW l)) hx
   have a4:=yc1 (topB (sortW l)) ((sortW l).take i)
   rw[yaf]at a4
   refine⟨(((sortW l).take (i+1)).filter (topB (sortW l)),i+1),?_,⟨by simp only;omega,rfl⟩,by simp only;omega⟩
   rw[zbr hx,zkD,a3 i _ hx,zah,a2]
   cases topB (sortW l) (sortW l)[i]with
   |true =>
    rw[zkD,zao hx,zaq (by unfold za3;omega)]
    rfl
   |false=>simp
  ·right
   have e:i=(sortW l).length:=by omega
   subst e
   rw[zkA (by omega),zkC,yax]) (n:=fuel) (s:=([],0)) ⟨yag _,by simp⟩
 rw[key,zah]
theorem zrq{l:yaa}(hl:SmL l):zcp l=some (maxR l):=by
 have a4:l.length<=2000000:=hl.1;obtain⟨L,e1,h1,h2,h3⟩:=zzd lexI_total (f:=fun u0 u1=>zjl u0 u1) hl fun a ha b hb=>zk0 a b (by have:SmW a:=hl.2 a ha;unfold SmW at this;omega);have a2:∀x∈L,SmW x:=fun x hx=>hl.2 x ((h2 x).1 hx);unfold zcp;rw[e1,zah]
 have key:=zb1 (step:=fun(s:yaa×Nat)=>zcp.s2 L s.1 s.2) (r:=znd L) (fun s=>s.2<=L.length∧s.1.length<=s.2∧znd L=s.1++znd (L.drop s.2)) (fun s=>L.length-s.2) (fun s ⟨g1,g2,g3⟩=>by
  obtain⟨y,i⟩:=s
  simp only at g1 g2 g3
  simp only[zcp.s2]
  by_cases g4:i<L.length
  ·left
   have hx:=get_at g4
   rw[zbr hx,zkD,zao hx]
   by_cases g5:i+1=L.length
   ·rw[keepM_end hx g5]at g3
    refine⟨(y++[L[i]],i+1),?_,⟨by simp only;omega,by simp;omega,by simp only;rw[g3];simp⟩,by simp only;omega⟩
    rw[zkB (by omega),zkD,zah,zkD,zaq (by unfold za3;omega)]
   ·have hy:=get_at (l:=L) (i:=i+1) (by omega)
    rw[keepM_step hx hy]at g3
    rw[zkA (by omega),zkC,zao hy,zfo _ _ (a2 _ (yai _)),zah,zah]
    by_cases g6:L[i] <+: (L[i+1]'(by omega))
    ·rw[if_pos g6]at g3
     refine⟨(y,i+1),?_,⟨by simp only;omega,by simp only;omega,g3⟩,by simp only;omega⟩
     rw[zkB g6]
     rfl
    ·rw[if_neg g6]at g3
     refine⟨(y++[L[i]],i+1),?_,⟨by simp only;omega,by simp;omega,by simp only;rw[g3];simp⟩,by simp only;omega⟩
     rw[zkA g6,yb7,zkD,zaq (by unfold za3;omega)]
  ·right
   have e:i=L.length:=by omega
   subst e
   rw[ycw]at g3
   rw[zkA (by omega),zkC,g3]
   simp[znd]) (n:=fuel) (s:=([],0)) ⟨yag _,by simp,by simp⟩
 have hk:=zx1 L;have a3:SmL (znd L):=⟨by have:=hk.length_le;omega,fun x hx=>a2 x (hk.mem hx)⟩;rw[key,zah,zc0 a3,zah,sortW_keepM h1 h2]
section
structure zgr(m:zad):Prop where
 i1:1<=m.Inputs
 i2:m.Inputs<=64
 n1:0<m.Next.length
 n2:m.Next.length<=128
 st:0<=m.Start∧m.Start<(↑m.Next.length:Int)
 ol:m.Out.length=m.Next.length
 row:∀s,s<m.Next.length->∃x y,m.Next[s]?=some x∧m.Out[s]?=some y∧(↑x.length:Int)=m.Inputs∧(↑y.length:Int)=m.Inputs∧(∀u∈x,0<=u∧u<(↑m.Next.length:Int))∧∀v∈y,0<=v∧v<=1048576
def nx(m:zad)(s a:Nat):Nat:=((((m.Next[s]?).getD [])[a]?).getD 0).toNat
def ot(m:zad)(s a:Nat):Int:=(((m.Out[s]?).getD [])[a]?).getD 0
section
variable {m:zad}
theorem zgr.at(H:zgr m){s a:Nat}(hs:s<m.Next.length)(ha:a<m.Inputs.toNat):nx m s a<m.Next.length∧0<=ot m s a∧ot m s a<=1048576∧∃x y,m.Next[s]?=some x∧m.Out[s]?=some y∧x[a]?=some (↑(nx m s a):Int)∧y[a]?=some (ot m s a):=by
 obtain⟨x,y,h1,h2,h3,h4,h5,h6⟩:=H.row s hs;have hx:=get_at (l:=x) (i:=a) (by omega);have hy:=get_at (l:=y) (i:=a) (by omega)
 have e1:nx m s a=(x[a]'(by omega)).toNat:=by
  unfold nx;rw[h1,ybq,hx,ybq]
 have e2:ot m s a=y[a]'(by omega):=by
  unfold ot;rw[h2,ybq,hy,ybq]
 have g1:=h5 _ (yai (by omega:a<x.length));have g2:=h6 _ (yai (by omega:a<y.length));refine⟨by rw[e1];omega,by rw[e2];exact g2.1,by rw[e2];exact g2.2,x,y,h1,h2,?_,by rw[e2];exact hy⟩;rw[hx,e1];congr 1;omega
def outs(m:zad):Nat->yab->yab
 |_,[]=>[]
 |s,a::w=>ot m s a.toNat::outs m (nx m s a.toNat) w
def dest(m:zad):Nat->yab->Nat
 |s,[]=>s
 |s,a::w=>dest m (nx m s a.toNat) w
def WOk(n:Int)(w:yab):Prop:=∀a∈w,0<=a∧a<n
theorem zg1:∀(w v:yab) (s:Nat),outs m s (w++v)=outs m s w++outs m (dest m s w) v
 |[],_,_=>rfl
 |a::w,v,s=>by
  show ot m s a.toNat::outs m (nx m s a.toNat) (w++v)=_;rw[zg1 w v];rfl
theorem zgy:∀(w v:yab) (s:Nat),dest m s (w++v)=dest m (dest m s w) v
 |[],_,_=>rfl
 |_::w,v,_=>zgy w v _
theorem zki:∀(w:yab) (s:Nat),(outs m s w).length=w.length
 |[],_=>rfl
 |a::w,s=>by
  show(outs m (nx m s a.toNat) w).length+1=w.length+1;rw[zki w]
theorem WOk.tail{n:Int}{a:Int}{w:yab}(h:WOk n (a::w)):WOk n w:=fun x hx=>h x (yaj _ hx)
theorem WOk.head{n:Int}{a:Int}{w:yab}(h:WOk n (a::w)):0<=a∧a<n:=h a (by simp)
theorem WOk.take{n:Int}{w:yab}(h:WOk n w)(k:Nat):WOk n (w.take k):=fun x hx=>h x (ya3 hx)
theorem WOk.append{n:Int}{w v:yab}(h:WOk n w)(g:WOk n v):WOk n (w++v):=fun x hx=>(yak.1 hx).elim (h x) (g x)
theorem zgr.dest(H:zgr m):∀{w:yab} {s:Nat},WOk m.Inputs w->s<m.Next.length->dest m s w<m.Next.length
 |[],_,_,hs=>hs
 |a::w,s,hw,hs=>by
  have:=hw.head;exact H.dest (w:=w) hw.tail (H.at hs (a:=a.toNat) (by omega)).1
theorem R06_Outs_eq(H:zgr m){s:Nat}(hs:s<m.Next.length){w:yab}(hw:WOk m.Inputs w)(hl:w.length<=100000000):zf5 m (↑s:Int) w=some (outs m s w,(↑(dest m s w):Int)):=by
 unfold zf5
 have key:=zb1 (step:=fun(q:Int×yab×Nat)=>zf5.s2 m w q.1 q.2.1 q.2.2) (r:=((↑(dest m s w):Int),outs m s w)) (fun q=>q.2.2<=w.length∧q.1=(↑(dest m s (w.take q.2.2)):Int)∧q.2.1=outs m s (w.take q.2.2)) (fun q=>w.length-q.2.2) (fun q ⟨g1,g2,g3⟩=>by
  obtain⟨st,y,k⟩:=q
  simp only at g1 g2 g3
  subst g2
  subst g3
  simp only[zf5.s2]
  by_cases g4:k<w.length
  ·left
   have hx:=get_at g4
   obtain⟨x0,x1⟩:=hw _ (yai g4)
   have ha:w[k].toNat<m.Inputs.toNat:=by omega
   have hd:Sym.dest m s (w.take k)<m.Next.length:=H.dest (hw.take k) hs
   obtain⟨_,_,_,x,y,e1,e2,e3,e4⟩:=H.at hd ha
   refine⟨((↑(Sym.dest m s (w.take (k+1))):Int),outs m s (w.take (k+1)),k+1),?_,⟨g4,rfl,rfl⟩,by simp only;omega⟩
   rw[zbr hx,zkD,zbw rfl e2,zao hx,zbw (i:=w[k].toNat) (by omega) e4,zaq (by unfold za3;rw[zki,yaf];omega),zbw rfl e1,zao hx,zbw (i:=w[k].toNat) (by omega) e3,zbc hx,zgy,zg1]
   rfl
  ·right
   have e:k=w.length:=by omega
   subst e
   rw[zkA (by omega),zkC,yax]) (n:=fuel) (s:=((↑s:Int),[],0)) ⟨yag _,rfl,rfl⟩
 rw[key,zah];rfl
def RowRng(n:Nat)(u v:Int):Prop:=(0<=u∧u<(↑n:Int))∧0<=v∧v<=1048576
theorem R06_row_tot(h1:m.Inputs<=64){s:Nat}(hs:s<m.Next.length)(ho:m.Out.length=m.Next.length):∃e,zgm m (↑s:Int)=some e∧(e=0->∃x y,m.Next[s]?=some x∧m.Out[s]?=some y∧(↑x.length:Int)=m.Inputs∧(↑y.length:Int)=m.Inputs∧(∀u∈x,0<=u∧u<(↑m.Next.length:Int))∧∀v∈y,0<=v∧v<=1048576):=by
 obtain⟨x,hx⟩:∃x,m.Next[s]?=some x:=⟨_,get_at hs⟩;obtain⟨y,hy⟩:∃y,m.Out[s]?=some y:=⟨_,get_at (l:=m.Out) (i:=s) (by omega)⟩;unfold zgm;rw[zbw rfl hx];by_cases g1:(↑x.length:Int)=m.Inputs
 ·by_cases g2:(↑y.length:Int)=m.Inputs
  ·rw[zkA (fun h=>h g1),zkC,zbw rfl hy,zkA (fun h=>h g2),zah,zkC]
   obtain⟨r,hr,hq⟩:=zix (step:=fun a=>zgm.s2 m (↑s:Int) a) (fun a=>a<=x.length∧∀b u v,b<a->x[b]?=some u->y[b]?=some v->RowRng m.Next.length u v) (fun a=>x.length-a) (fun r=>r=.inr 2∨(r=.inl ()∧∀b u v,b<x.length->x[b]?=some u->y[b]?=some v->RowRng m.Next.length u v)) (fun a ⟨q1,q2⟩=>by
    simp only[zgm.s2]
    by_cases q3:a<x.length
    ·obtain⟨u,ha⟩:∃u,x[a]?=some u:=⟨_,get_at q3⟩
     obtain⟨v,hb⟩:∃v,y[a]?=some v:=⟨_,get_at (l:=y) (i:=a) (by omega)⟩
     rw[zkB (by omega),zkD,zbw rfl hx,zao ha]
     by_cases z1:u<0
     ·right
      exact⟨.inr 2,by rw[zkB z1];rfl,Or.inl rfl⟩
     rw[zkA z1,zkC,zbw rfl hx,zao ha]
     by_cases z2:(↑m.Next.length:Int)<=u
     ·right
      exact⟨.inr 2,by rw[zkB z2];rfl,Or.inl rfl⟩
     rw[zkA z2,zkC,zbw rfl hy,zao hb]
     by_cases z3:v<0
     ·right
      exact⟨.inr 2,by rw[zkB z3];rfl,Or.inl rfl⟩
     rw[zkA z3,zkC,zbw rfl hy,zao hb]
     by_cases z4:1048576<v
     ·right
      exact⟨.inr 2,by rw[zkB z4];rfl,Or.inl rfl⟩
     left
     refine⟨a+1,by rw[zkA z4,zah,zkC,zaq (by unfold inR;omega)],⟨q3,fun b u' v' a2 hu hv=>?_⟩,by omega⟩
     rcases ya6 b a with h|h
     ·exact q2 b u' v' h hu hv
     ·have e:b=a:=by omega
      subst e
      rw[ha]at hu
      rw[hb]at hv
      injection hu with hu
      injection hv with hv
      subst hu
      subst hv
      exact⟨⟨by omega,by omega⟩,by omega,by omega⟩
    ·right
     have e:a=x.length:=by omega
     subst e
     exact⟨.inl (),by rw[zkA (by omega),zkC],Or.inr ⟨rfl,q2⟩⟩) 0 ⟨yag _,fun b _ _ h=>absurd h (yet _)⟩
   rw[hr,zah];rcases hq with rfl|⟨rfl,hq⟩
   ·exact⟨2,rfl,fun h=>by cases h⟩
   ·refine⟨0,rfl,fun _=>⟨x,y,hx,hy,g1,g2,fun u hu=>?_,fun v hv=>?_⟩⟩
    ·obtain⟨b,hb,rfl⟩:=ya5.1 hu;exact(hq b _ _ hb (get_at hb) (get_at (l:=y) (by omega))).1
    ·obtain⟨b,hb,rfl⟩:=ya5.1 hv;exact(hq b _ _ (by omega) (get_at (l:=x) (by omega)) (get_at hb)).2
  ·exact⟨1,by rw[zkA (fun h=>h g1),zkC,zbw rfl hy,zkB g2];rfl,fun h=>by cases h⟩
 ·exact⟨1,by rw[zkB g1];rfl,fun h=>by cases h⟩
theorem R06_Valid_tot(m:zad):∃e,zca m=some e∧(e=0->zgr m):=by
 unfold zca;by_cases c1:m.Inputs<1
 ·exact⟨2,by rw[zkB c1];rfl,fun h=>by cases h⟩
 rw[zkA c1,zkC];by_cases c2:64<m.Inputs
 ·exact⟨2,by rw[zkB c2];rfl,fun h=>by cases h⟩
 rw[zkA c2,zah,zkC];by_cases c3:(↑m.Next.length:Int)=0
 ·exact⟨19,by rw[zkB c3];rfl,fun h=>by cases h⟩
 rw[zkA c3,zkC];by_cases c4:128<(↑m.Next.length:Int)
 ·exact⟨11,by rw[zkB c4];rfl,fun h=>by cases h⟩
 rw[zkA c4,zkC];by_cases c5:m.Start<0
 ·exact⟨2,by rw[zkB c5];rfl,fun h=>by cases h⟩
 rw[zkA c5,zkC];by_cases c6:(↑m.Next.length:Int)<=m.Start
 ·exact⟨2,by rw[zkB c6];rfl,fun h=>by cases h⟩
 rw[zkA c6,zah,zkC];by_cases c7:(↑m.Out.length:Int)=(↑m.Next.length:Int)
 ·rw[zkA (fun h=>h c7),zkC];have ho:m.Out.length=m.Next.length:=by omega
  obtain⟨r,hr,hq⟩:=zix (step:=fun s=>zca.s2 m s) (fun a=>a<=m.Next.length∧∀s,s<a->∃x y,m.Next[s]?=some x∧m.Out[s]?=some y∧(↑x.length:Int)=m.Inputs∧(↑y.length:Int)=m.Inputs∧(∀u∈x,0<=u∧u<(↑m.Next.length:Int))∧∀v∈y,0<=v∧v<=1048576) (fun a=>m.Next.length-a) (fun r=>(∃e,r=.inr e∧e≠0)∨(r=.inl ()∧∀s,s<m.Next.length->∃x y,m.Next[s]?=some x∧m.Out[s]?=some y∧(↑x.length:Int)=m.Inputs∧(↑y.length:Int)=m.Inputs∧(∀u∈x,0<=u∧u<(↑m.Next.length:Int))∧∀v∈y,0<=v∧v<=1048576)) (fun a ⟨q1,q2⟩=>by
   simp only[zca.s2]
   by_cases q3:a<m.Next.length
   ·obtain⟨e,he,hz⟩:=R06_row_tot (m:=m) (by omega) q3 ho
    rw[zkB (by omega),zkD,he,zah]
    by_cases z:e=0
    ·left
     refine⟨a+1,by rw[zkA (fun h=>h z),zkC],⟨q3,fun s hs=>?_⟩,by omega⟩
     rcases ya6 s a with h|h
     ·exact q2 s h
     ·have e2:s=a:=by omega
      subst e2
      exact hz z
    ·right
     exact⟨.inr e,by rw[zkB z,zkD],Or.inl ⟨e,rfl,z⟩⟩
   ·right
    have e:a=m.Next.length:=by omega
    subst e
    exact⟨.inl (),by rw[zkA (by omega),zkC],Or.inr ⟨rfl,q2⟩⟩) 0 ⟨yag _,fun s h=>absurd h (yet _)⟩
  rw[hr,zah];rcases hq with⟨e,rfl,hz⟩|⟨rfl,hq⟩
  ·exact⟨e,rfl,fun h=>absurd h hz⟩
  ·exact⟨0,rfl,fun _=>⟨by omega,by omega,by omega,by omega,⟨by omega,by omega⟩,ho,hq⟩⟩
 ·exact⟨1,by rw[zkB c7];rfl,fun h=>by cases h⟩
theorem macOk_of(h:zca m=some 0):zgr m:=by
 obtain⟨e,he,hz⟩:=R06_Valid_tot m;rw[h]at he;injection he with he
 exact hz he.symm
end
end
section
abbrev costOk(l:zr7):Prop:=(∀c∈l.Step,0<=c∧c<=1048576)∧0<=l.Reset∧l.Reset<=1048576
abbrev cntOk(n:Int):Prop:=0<=n∧n<=1125899906842624
abbrev faultOk(f:zt3):Prop:=(0<=f.Lost∧f.Lost<=10000)∧(0<=f.Wrong∧f.Wrong<=10000)∧(0<=f.Crash∧f.Crash<=10000)∧f.Lost+f.Wrong+f.Crash<=10000
structure DevOk(d:zfw):Prop where
 v6:zca d.M=some 0
 st:0<=d.State∧d.State<(↑d.M.Next.length:Int)
 ll:(↑d.Latency.Step.length:Int)=d.M.Inputs
 lc:costOk d.Latency
 fl:faultOk d.Faults
 c1:cntOk d.Steps
 c2:cntOk d.Resets
 c3:cntOk d.Time
section
variable {d:zfw}
end
end
def WrdOk(w:yab):Prop:=w.length<=100000∧∀x∈w,inR x
def Few(need:Int)(l:yaa):Prop:=∀w,(↑(l.count w):Int)<need
section
abbrev SeedOk(d:zfw):Prop:=0<=d.Seed∧d.Seed<18446744073709551616
section
variable {d:zfw}{w ys:yab}
end
end
section
structure OrOk(q:zjx):Prop where
 dev:DevOk q.Device
 seed:SeedOk q.Device
 obs:zed q.Obs
 tr:SmTr q.Obs.Traces
 inp:q.Obs.Inputs=q.Device.M.Inputs
 v1:1<=q.Votes
 v2:q.Votes<=9
 t1:q.Votes<=q.Tries
 t2:q.Tries<=64
structure TryOk(q:zjx)(w:yab)(d:zfw)(ys:yaa)(i:Int):Prop where
 dev:DevOk d
 seed:SeedOk d
 mac:d.M=q.Device.M
 i0:0<=i
 i1:i<=q.Tries
 len:(↑ys.length:Int)<=i
 wrd:∀y∈ys,WrdOk y
 few:Few q.Votes ys
section
variable {q:zjx}{w:yab}{d:zfw}{ys:yaa}{i n:Int}
end
end
theorem zrf{l:List zaa}(h:SmTr l):zc4 l l=some true:=by
 have hl:=h.1;unfold zc4
 have key:=zce (step:=fun s=>zc4.s2 l l s) (l:=l) (fun _ _=>(none:Option Bool)) (fun i x hx=>by
  have hs:=h.2 x (zkH hx)
  have h1:=hs.1
  have h2:=hs.2
  unfold SmW at h1 h2
  simp only[zc4.s2]
  rw[zbr hx,zkD,zao hx,zao hx,znl _ _ (by omega),zah,zkB rfl,ybh,zkC,zao hx,zao hx,znl _ _ (by omega),zah,zkB rfl]
  rfl) (by
  simp only[zc4.s2]
  rw[zc6]
  rfl) (by omega)
 have hn:∀(m:List zaa) (j:Nat),scan (fun _ _=>(none:Option Bool)) j m=none:=by
  intro m
  induction m with
  |nil=>intro j;rfl
  |cons x m ih =>
   intro j;unfold scan;exact ih _
 rw[key,hn,zkA (by simp),zkC];rfl
theorem R16_Same_self{o:zac}(h:SmTr o.Traces):znk o o=some true:=by
 unfold znk;rw[zkB rfl,zkD,zrf h];rfl

section
structure SmQ(q:zjx):Prop where
 n:q.Device.M.Next.length<=2000000
 s:q.Device.Latency.Step.length<=2000000
 o:SmO q.Obs
 seed:SeedOk q.Device
theorem addO_len{o:zac}{t:zaa}:(addO o t).1.Traces.length<=o.Traces.length+1:=by
 unfold addO;split
 ·simp only;omega
 ·split
  ·simp only;omega
  ·split
   ·simp only;omega
   ·exact addL_length _ _
theorem addO_tr{o:zac}{t:zaa}(h:SmTr o.Traces)(hn:o.Traces.length<=1000000)(ht:SmX t):SmTr (addO o t).1.Traces:=by
 refine⟨by have:=addO_len (o:=o) (t:=t);omega,?_⟩;unfold addO;split
 ·exact h.2
 ·split
  ·exact h.2
  ·split
   ·exact h.2
   ·intro x hx;have hx:x∈addL o.Traces t:=hx;unfold addL at hx;split at hx
    ·exact h.2 x hx
    ·rcases zkf.1 hx with e|e
     ·rw[e];exact ht
     ·exact h.2 x (ydk.subset e)
section
variable {q:zjx}{w:yab}
end
end
section
theorem zrl{m:zad}:∀(w:yab) (s k:Nat),(outs m s w).take k=outs m s (w.take k)
 |[],s,k=>by simp[outs]
 |a::w,s,0=>by simp[outs]
 |a::w,s,k+1=>by
  show(ot m s a.toNat::outs m (nx m s a.toNat) w).take (k+1)=ot m s a.toNat::outs m (nx m s a.toNat) (w.take k);rw[ydi,zrl w]
theorem zw6:∀(a b:yab),a.take (za4 a b)=b.take (za4 a b)
 |[],b=>by simp[za4]
 |x::a,[]=>by simp[za4]
 |x::a,y::b=>by
  unfold za4;by_cases h:x=y
  ·rw[if_pos h,h,ydi,ydi,zw6 a b]
  ·rw[if_neg h];rfl
def Expl(m:zad)(o:zac):Prop:=∀t∈o.Traces,t.Out=outs m m.Start.toNat t.In
def Kn(o:zac)(w:yab):Prop:=w=[]∨∃t∈o.Traces,w <+: t.In
section
variable {m:zad}{o:zac}{w:yab}
theorem zy4{a b:zaa}(ha:a.Out=outs m m.Start.toNat a.In)(hb:b.Out=outs m m.Start.toNat b.In):Agree a b:=by
 unfold Agree;rw[ha,hb,zrl,zrl,zw6]
theorem zpt(hE:Expl m o):(Kn o w->ansO o w=some (outs m m.Start.toNat w))∧(¬Kn o w->ansO o w=none):=by
 unfold ansO Kn;by_cases h0:w=[]
 ·rw[if_pos h0,h0];exact⟨fun _=>rfl,fun h=>absurd (.inl rfl) h⟩
 ·rw[if_neg h0];cases hf:o.Traces.find? fun t=>decide (w <+: t.In) with
  |none =>
   refine⟨fun h=>?_,fun _=>rfl⟩;rcases h with h|⟨t,ht,hp⟩
   ·exact absurd h h0
   ·exact absurd (zkB hp) (yds.1 hf t ht)
  |some t =>
   have ht:=ych hf;have hp:decide (w <+: t.In)=true:=yeu (p:=fun(t:zaa)=>decide (w <+: t.In)) hf;have hp:=of_decide_eq_true hp;refine⟨fun _=>?_,fun h=>absurd (.inr ⟨t,ht,hp⟩) h⟩;show some (t.Out.take w.length)=_;rw[hE t ht,zrl,<- List.prefix_iff_eq_take.1 hp]
def tr(m:zad)(w:yab):zaa:=⟨w,outs m m.Start.toNat w⟩
theorem prop_tr(H:zgr m){n:Int}(hn:n=m.Inputs)(hw:zbq w n=0):zxf n (tr m w):=by
 refine⟨hw,by simp only[tr];rw[zki],fun y hy=>?_⟩;have a2:WOk m.Inputs w:=by rw[<- hn];exact zjn hw
 have a3:=H.st
 have key:∀(w:yab) (s:Nat),s<m.Next.length->WOk m.Inputs w->∀y∈outs m s w,0<=y∧y<=1048576:=by
  intro w
  induction w with
  |nil=>intro s _ _ y hy;simp[outs]at hy
  |cons a w ih =>
   intro s hs a2 y hy;have ha:=a2.head;obtain⟨h1,h2,h3,_⟩:=H.at hs (a:=a.toNat) (by omega);have hy:y∈ot m s a.toNat::outs m (nx m s a.toNat) w:=hy;rcases yap.1 hy with e|e
   ·rw[e];exact⟨h2,h3⟩
   ·exact ih _ h1 a2.tail y e
 exact key w _ (by omega) a2 y hy
theorem mem_addL{l:List zaa}{t x:zaa}(h:x∈addL l t):x=t∨x∈l:=by
 unfold addL at h;split at h
 ·exact .inr h
 ·rcases zkf.1 h with e|e
  ·exact .inl e
  ·exact .inr (ydk.subset e)
theorem expl_add(hE:Expl m o){n:Int}:Expl m ⟨n,addL o.Traces (tr m w)⟩:=fun x hx=>by
 rcases mem_addL hx with e|e
 ·rw[e];rfl
 ·exact hE x e
theorem kn_add{n:Int}{v:yab}:Kn ⟨n,addL o.Traces (tr m w)⟩ v↔Kn o v∨v <+: w:=by
 unfold Kn;simp only;constructor
 ·rintro (h|⟨x,hx,hp⟩)
  ·exact .inl (.inl h)
  ·rcases mem_addL hx with e|e
   ·exact .inr (by rw[e]at hp;exact hp)
   ·exact .inl (.inr ⟨x,e,hp⟩)
 ·unfold addL;by_cases g:zd8 o.Traces (tr m w).In=true∨(tr m w).In=[]
  ·rw[if_pos g];rintro (h|h)
   ·exact h
   ·rcases g with g|g
    ·obtain⟨u,hu,hp⟩:=ydh.1 g;exact .inr ⟨u,hu,h.trans (of_decide_eq_true hp)⟩
    ·have g:w=[]:=g;rw[g]at h;exact .inl (List.prefix_nil.1 h)
  ·rw[if_neg g];rintro ((h|⟨x,hx,hp⟩)|h)
   ·exact .inl h
   ·by_cases hk:x.In <+: w
    ·exact .inr ⟨tr m w,zkf.2 (.inl rfl),hp.trans hk⟩
    ·refine .inr ⟨x,zkf.2 (.inr (yc4.2 ⟨hx,?_⟩)),hp⟩;rw[zkA (show ¬x.In <+: (tr m w).In from hk)];rfl
   ·exact .inr ⟨tr m w,zkf.2 (.inl rfl),h⟩
def zdj(m:zad):zac->yaa->zac
 |o,[]=>o
 |o,w::r=>zdj m ⟨o.Inputs,addL o.Traces (tr m w)⟩ r
theorem zk1:∀(ws:yaa) (o:zac),(zdj m o ws).Inputs=o.Inputs
 |[],_=>rfl
 |_::ws,_=>zk1 ws _
theorem zm0{v:yab}:∀(ws:yaa) (o:zac),Kn (zdj m o ws) v↔Kn o v∨∃w∈ws,v <+: w
 |[],o=>by simp[zdj]
 |w::ws,o=>by
  unfold zdj;rw[zm0 ws,kn_add];constructor
  ·rintro ((h|h)|⟨x,hx,h⟩)
   ·exact .inl h
   ·exact .inr ⟨w,by simp,h⟩
   ·exact .inr ⟨x,by simp[hx],h⟩
  ·rintro (h|⟨x,hx,h⟩)
   ·exact .inl (.inl h)
   ·rcases yap.1 hx with e|e
    ·exact .inl (.inr (by rw[<- e];exact h))
    ·exact .inr ⟨x,e,h⟩
theorem zwf{x:zaa}:∀(ws:yaa) (o:zac),x∈(zdj m o ws).Traces->x∈o.Traces∨x.In∈ws
 |[],_,h=>.inl h
 |w::ws,o,h=>by
  unfold zdj at h;rcases zwf ws _ h with e|e
  ·rcases mem_addL e with e|e
   ·exact .inr (by rw[e];simp[tr])
   ·exact .inl e
  ·exact .inr (by simp[e])
structure zfi(m:zad)(o:zac):Prop where
 ok:zed o
 tr:SmTr o.Traces
 ex:Expl m o
 inp:o.Inputs=m.Inputs
theorem R06_Run_eq(H:zgr m)(hv:zca m=some 0)(hw:zbq w m.Inputs=0):zvz m w=some (outs m m.Start.toNat w,0):=by
 have a3:=H.st;have a4:=H.i1;have a5:=H.i2
 have a2:w.length<=1024:=by
  unfold zbq at hw;rw[if_pos (by omega)]at hw;split at hw
  ·cases hw
  ·omega
 have hS:m.Start=(↑m.Start.toNat:Int):=by omega
 have hO:=R06_Outs_eq H (s:=m.Start.toNat) (by omega) (w:=w) (zjn hw) (by omega);rw[<- hS]at hO;unfold zvz zvf;rw[hv,zah,zkA (by decide),zkC,zkA (by omega),zkC,zkA (by omega),zah,zkC,zgu _ _ (by unfold SmW;omega),zah,hw,zkA (by decide),zkC,hO,zah,zah]
end
end
section
theorem scan_map{α R R':Type}{g:Nat->α->Option R}{f:R->R'}:∀(l:List α) (j:Nat),scan (fun i x=>(g i x).map f) j l=(scan g j l).map f
 |[],_=>rfl
 |x::l,j=>by
  unfold scan;cases g j x with
  |some r=>rfl
  |none=>exact scan_map l (j+1)
theorem scan_mem{α R:Type}{g:Nat->α->Option R}{r:R}:∀{l:List α} {j:Nat},scan g j l=some r->∃i x,l[i]?=some x∧g (j+i) x=some r
 |[],_,h=>by cases h
 |x::l,j,h=>by
  unfold scan at h;cases e:g j x with
  |some q =>
   rw[e]at h;exact⟨0,x,rfl,by rw[yb4,e];exact h⟩
  |none =>
   rw[e]at h;obtain⟨i,y,h1,h2⟩:=scan_mem (j:=j+1) h;exact⟨i+1,y,by simpa using h1,by rw[show j+(i+1)=j+1+i by omega,h2]⟩
def celE(n:Nat)(u v:Int):Option Int:=if u<0∨(↑n:Int)<=u∨v<0∨1048576<v then some 2 else none
def rowE(m:zad)(s:Nat)(x:yab):Option Int :=
 if(↑x.length:Int)≠m.Inputs∨(↑((m.Out[s]?).getD []).length:Int)≠m.Inputs then some 1 else scan (fun a u=>celE m.Next.length u ((((m.Out[s]?).getD [])[a]?).getD 0)) 0 x
def zhi(m:zad):Int :=
 if m.Inputs<1∨64<m.Inputs then 2 else if m.Next.length=0 then 19 else if 128<m.Next.length then 11 else if m.Start<0∨(↑m.Next.length:Int)<=m.Start then 2 else if m.Out.length≠m.Next.length then 1
 else match scan (rowE m) 0 m.Next with|some e=>e|none=>0
section
variable {m:zad}
theorem rowE_ne{s:Nat}{x:yab}{e:Int}(h:rowE m s x=some e):e≠0:=by
 unfold rowE at h;split at h
 ·injection h with h
  omega
 ·obtain⟨i,u,_,h2⟩:=scan_mem h;unfold celE at h2;split at h2
  ·injection h2 with h2
   omega
  ·cases h2
theorem cel_cond{n:Nat}{u v:Int}:(cond (decide (u<0)) (some true) (cond (decide ((↑n:Int)<=u)) (some true) (cond (decide (v<0)) (some true) (some (decide (1048576<v))))):Option Bool)=some (celE n u v).isSome:=by
 unfold celE;by_cases h1:u<0<;>by_cases h2:(↑n:Int)<=u<;>by_cases h3:v<0<;>by_cases h4:1048576<v<;>simp[h1,h2,h3,h4]
theorem celE_two{n:Nat}{u v:Int}:celE n u v=if(celE n u v).isSome=true then some 2 else none:=by
 unfold celE;split<;>rfl
theorem row_len{s:Nat}{x y:yab}(hx:m.Next[s]?=some x)(hy:m.Out[s]?=some y) :
  (idxn m.Next s fun a2=>cond (decide ((↑a2.length:Int)≠m.Inputs)) (some true) (idxn m.Out s fun a6=>some (decide ((↑a6.length:Int)≠m.Inputs))):Option Bool)=some (decide ((↑x.length:Int)≠m.Inputs∨(↑y.length:Int)≠m.Inputs)):=by
 rw[zao hx];by_cases h:(↑x.length:Int)=m.Inputs
 ·rw[zkA (fun k=>k h),zkC,zao hy];simp[h]
 ·rw[zkB h,zkD];simp[h]
theorem idx_nat{α β:Type}{l:List α}{i:Nat}{k:α->Option β}:idx l (↑i:Int) k=idxn l i k:=by
 cases h:l[i]? with
 |some x=>rw[zbw rfl h,zao h]
 |none =>
  unfold idx idxn;rw[h,if_pos (by omega),ybf,h]
theorem R06_row_eq(hi:m.Inputs<=64){s:Nat}{x y:yab}(hx:m.Next[s]?=some x)(hy:m.Out[s]?=some y):zgm m (↑s:Int)=some (match rowE m s x with|some e=>e|none=>0):=by
 unfold zgm;rw[idx_nat];simp only[idx_nat];rw[row_len hx hy,zah];unfold rowE;rw[hy,ybq];by_cases h:(↑x.length:Int)≠m.Inputs∨(↑y.length:Int)≠m.Inputs
 ·rw[zkB h,zkD,if_pos h]
 ·rw[zkA h,zkC,if_neg h];have h1:(↑x.length:Int)=m.Inputs:=yau fun q=>h (Or.inl q);have h2:(↑y.length:Int)=m.Inputs:=yau fun q=>h (Or.inr q);rw[zce (l:=x) (fun a u=>celE m.Next.length u ((y[a]?).getD 0)) (fun a u hu=>?_) ?_ (by omega),zah]
  ·cases scan (fun a u=>celE m.Next.length u ((y[a]?).getD 0)) 0 x<;>rfl
  ·simp only[zgm.s2];rw[zkA (by omega),zkC]
  ·have ha:=(zkI.1 hu).1;have hv:y[a]?=some y[a]:=get_at (by omega);rw[hv,ybq];simp only[zgm.s2,idx_nat];rw[zkB (by omega),zkD];simp only[zao hx,zao hy,zao hu,zao hv];rw[cel_cond,zah];cases e:celE m.Next.length u y[a]with
   |none =>
    rw[ydr,zkC,zaq (by unfold inR;omega)]
   |some r =>
    have:=celE_two (n:=m.Next.length) (u:=u) (v:=y[a]);rw[e]at this;injection this with this
    rw[this,yex,zkD]
theorem mealy_row_eq(hi:m.Inputs<=64){s:Nat}{x y:yab}(hx:m.Next[s]?=some x)(hy:m.Out[s]?=some y):zcf.s14 m s=some (match rowE m s x with|some e=>.inr (.inr e)|none=>.inl (s+1)):=by
 have hs:=(zkI.1 hx).1;simp only[zcf.s14];rw[zkB (by omega),zkD,row_len hx hy,zah];unfold rowE;rw[hy,ybq];by_cases h:(↑x.length:Int)≠m.Inputs∨(↑y.length:Int)≠m.Inputs
 ·rw[zkB h,zkD,if_pos h]
 ·rw[zkA h,zkC,if_neg h];have h1:(↑x.length:Int)=m.Inputs:=yau fun q=>h (Or.inl q);have h2:(↑y.length:Int)=m.Inputs:=yau fun q=>h (Or.inr q);rw[zce (l:=x) (fun a u=>(celE m.Next.length u ((y[a]?).getD 0)).map fun r=>(.inr (.inr r):Nat⊕(Unit⊕Int))) (fun a u hu=>?_) ?_ (by omega),zah,scan_map]
  ·cases scan (fun a u=>celE m.Next.length u ((y[a]?).getD 0)) 0 x<;>rfl
  ·simp only[zcf.s13];rw[zkA (by omega),zkC]
  ·have ha:=(zkI.1 hu).1;have hv:y[a]?=some y[a]:=get_at (by omega);rw[hv,ybq];simp only[zcf.s13];rw[zkB (by omega),zkD];simp only[zao hx,zao hy,zao hu,zao hv];rw[cel_cond,zah];cases e:celE m.Next.length u y[a]with
   |none =>
    rw[ydr,zkC,zaq (by unfold inR;omega)];rfl
   |some r =>
    have:=celE_two (n:=m.Next.length) (u:=u) (v:=y[a]);rw[e]at this;injection this with this
    rw[this,yex,zkD];rfl
theorem zfv(m:zad):zca m=some (zhi m):=by
 unfold zca zhi;by_cases c1:m.Inputs<1
 ·rw[zkB c1,if_pos (Or.inl c1)];rfl
 rw[zkA c1,zkC];by_cases c2:64<m.Inputs
 ·rw[zkB c2,if_pos (Or.inr c2)];rfl
 rw[zkA c2,zah,zkC,if_neg (by omega)];by_cases c3:m.Next.length=0
 ·rw[zkB (by omega),if_pos c3];rfl
 rw[zkA (by omega),zkC,if_neg c3];by_cases c4:128<m.Next.length
 ·rw[zkB (by omega),if_pos c4];rfl
 rw[zkA (by omega),zkC,if_neg c4];by_cases c5:m.Start<0
 ·rw[zkB c5,if_pos (Or.inl c5)];rfl
 rw[zkA c5,zkC];by_cases c6:(↑m.Next.length:Int)<=m.Start
 ·rw[zkB c6,if_pos (Or.inr c6)];rfl
 rw[zkA c6,zah,zkC,if_neg (by omega)];by_cases c7:m.Out.length=m.Next.length
 ·rw[zkA (by omega),zkC,if_neg (by omega),zce (l:=m.Next) (rowE m) (fun s x hx=>?_) ?_ (by omega),zah]
  ·cases scan (rowE m) 0 m.Next<;>rfl
  ·simp only[zca.s2];rw[zkA (by omega),zkC]
  ·have hs:=(zkI.1 hx).1;simp only[zca.s2];rw[zkB (by omega),zkD,R06_row_eq (by omega) hx (get_at (l:=m.Out) (by omega)),zah];cases e:rowE m s x with
   |none=>rfl
   |some r=>rw[zkB (rowE_ne e),zkD]
 ·rw[zkB (by omega),if_pos c7];rfl
theorem zgj(m:zad):zcf m=some (zhi m):=by
 unfold zcf zhi;by_cases c1:m.Inputs<1
 ·rw[zkB c1,if_pos (Or.inl c1)];rfl
 rw[zkA c1,zkC];by_cases c2:64<m.Inputs
 ·rw[zkB c2,if_pos (Or.inr c2)];rfl
 rw[zkA c2,zah,zkC,if_neg (by omega)];by_cases c3:m.Next.length=0
 ·rw[zkB (by omega),if_pos c3];rfl
 rw[zkA (by omega),zkC,if_neg c3];by_cases c4:128<m.Next.length
 ·rw[zkB (by omega),if_pos c4];rfl
 rw[zkA (by omega),zkC,if_neg c4];by_cases c5:m.Start<0
 ·rw[zkB c5,if_pos (Or.inl c5)];rfl
 rw[zkA c5,zkC];by_cases c6:(↑m.Next.length:Int)<=m.Start
 ·rw[zkB c6,if_pos (Or.inr c6)];rfl
 rw[zkA c6,zah,zkC,if_neg (by omega)];by_cases c7:m.Out.length=m.Next.length
 ·rw[zkA (by omega),zkC,if_neg (by omega),zce (l:=m.Next) (rowE m) (fun s x hx=>?_) ?_ (by omega),zah]
  ·cases scan (rowE m) 0 m.Next<;>rfl
  ·simp only[zcf.s14];rw[zkA (by omega),zkC]
  ·have hs:=(zkI.1 hx).1;rw[mealy_row_eq (by omega) hx (get_at (l:=m.Out) (by omega))];cases rowE m s x<;>rfl
 ·rw[zkB (by omega),if_pos c7];rfl
theorem zpw(h:zhi m=0):zgr m:=macOk_of (by rw[zfv,h])
theorem zts{w:yab}{n:Int}(h:zbq w n=0):w.length<=1024:=by
 unfold zbq at h;split at h
 ·split at h
  ·cases h
  ·omega
 ·cases h
theorem runner_eq(H:zgr m){s:Nat}(hs:s<m.Next.length){w:yab}(hw:WOk m.Inputs w)(hl:w.length<=100000000):zbv (⟨(⟨m⟩:zdk),(↑s:Int)⟩:zci) w=some (outs m s w,(⟨(⟨m⟩:zdk),(↑(dest m s w):Int)⟩:zci)):=by
 unfold zbv
 have key:=zb1 (step:=fun(q:Int×yab×Nat)=>zbv.s2 (⟨(⟨m⟩:zdk),(↑s:Int)⟩:zci) w q.1 q.2.1 q.2.2) (r:=((↑(dest m s w):Int),outs m s w)) (fun q=>q.2.2<=w.length∧q.1=(↑(dest m s (w.take q.2.2)):Int)∧q.2.1=outs m s (w.take q.2.2)) (fun q=>w.length-q.2.2) (fun q ⟨g1,g2,g3⟩=>by
  obtain⟨st,y,k⟩:=q
  simp only at g1 g2 g3
  subst g2
  subst g3
  simp only[zbv.s2,zgo]
  by_cases g4:k<w.length
  ·left
   have hx:=get_at g4
   obtain⟨x0,x1⟩:=hw _ (yai g4)
   have ha:w[k].toNat<m.Inputs.toNat:=by omega
   have hd:Sym.dest m s (w.take k)<m.Next.length:=H.dest (hw.take k) hs
   obtain⟨_,_,_,x,y,e1,e2,e3,e4⟩:=H.at hd ha
   refine⟨((↑(Sym.dest m s (w.take (k+1))):Int),outs m s (w.take (k+1)),k+1),?_,⟨g4,rfl,rfl⟩,by simp only;omega⟩
   rw[zbr hx,zkD,zao hx,zbw rfl e1,zbw (i:=w[k].toNat) (by omega) e3,zbw rfl e2,zbw (i:=w[k].toNat) (by omega) e4,zah,zaq (by unfold za3;rw[zki,yaf];omega),zbc hx,zgy,zg1]
   rfl
  ·right
   have e:k=w.length:=by omega
   subst e
   rw[zkA (by omega),zkC,yax]) (n:=fuel) (s:=((↑s:Int),[],0)) ⟨yag _,rfl,rfl⟩
 rw[key,zah];rfl
end
end
section
section
variable {m:zad}{ids:List (yaa)}{w:yab}
end
end
section
section
variable {A:Type}[DecidableEq A]
def bfsB(e:A->Nat->A)(K:Nat)(s0:A):Nat->List (A×yab)
 |0=>[(s0,[])]
 |r+1=>match (bfsB e K s0 r)[r / K]? with
  |none=>bfsB e K s0 r
  |some x=>if e x.1 (r%K)∈(bfsB e K s0 r).map Prod.fst then bfsB e K s0 r else bfsB e K s0 r++[(e x.1 (r%K),x.2++[(↑(r%K):Int)])]
theorem zqh{K i a:Nat}(h:a<K):(i*K+a) / K=i:=by
 rw[ycn,Nat.add_mul_div_right _ _ (by omega),Nat.div_eq_of_lt h,yah]
theorem zy2{K i a:Nat}(h:a<K):(i*K+a)%K=a:=by
 rw[ycn,Nat.add_mul_mod_self_right,Nat.mod_eq_of_lt h]
theorem zuk{i n a K:Nat}(hi:i<n)(ha:a<K):i*K+a<n*K:=by
 have:(i+1)*K<=n*K:=ybz K hi;rw[yd2]at this;omega
variable {e:A->Nat->A}{K:Nat}{s0:A}
theorem bfs_step{i a:Nat}{x:A×yab}(ha:a<K)(hx:(bfsB e K s0 (i*K+a))[i]?=some x) :
  bfsB e K s0 (i*K+(a+1))=if e x.1 a∈(bfsB e K s0 (i*K+a)).map Prod.fst then bfsB e K s0 (i*K+a) else bfsB e K s0 (i*K+a)++[(e x.1 a,x.2++[(↑a:Int)])]:=by
 show bfsB e K s0 ((i*K+a)+1)=_;rw[bfsB,zqh ha,hx,zy2 ha]
theorem zvi(r:Nat):bfsB e K s0 r <+: bfsB e K s0 (r+1):=by
 rw[bfsB];split
 ·exact yb8 _
 ·split
  ·exact yb8 _
  ·exact List.prefix_append _ _
theorem zm7{r:Nat}:∀{r':Nat},r<=r'->bfsB e K s0 r <+: bfsB e K s0 r'
 |0,h=>by
  have:r=0:=by omega
  subst this;exact yb8 _
 |r'+1,h=>by
  rcases ya6 r (r'+1) with g|g
  ·exact(zm7 (r':=r') (by omega)).trans (zvi r')
  ·have:r=r'+1:=by omega
   subst this;exact yb8 _
theorem zj0{α:Type}{l l':List α}(h:l <+: l'){i:Nat}{x:α}(hx:l[i]?=some x):l'[i]?=some x:=by
 obtain⟨t,rfl⟩:=h;rw[ybn (zkI.1 hx).1,hx]
theorem zw1(r:Nat):(bfsB e K s0 r)[0]?=some (s0,[]):=zj0 (zm7 (yag r)) rfl
theorem bfs_nodup:∀r:Nat,((bfsB e K s0 r).map Prod.fst).Nodup
 |0=>by simp[bfsB]
 |r+1=>by
  have ih:=bfs_nodup r;rw[bfsB];split
  ·exact ih
  ·split
   ·exact ih
   ·rename_i x _ hn;rw[ya1,ybl];refine⟨ih,by simp,fun a ha b hb hab=>hn ?_⟩;have:b=e x.1 (r%K):=by simpa using hb
    rw[<- this,<- hab];exact ha
theorem zu6:∀{r u:Nat} {x:A×yab},(bfsB e K s0 r)[u]?=some x->u=0∨∃r' y,r'<r∧r' / K<u∧(bfsB e K s0 r)[r' / K]?=some y∧x=(e y.1 (r'%K),y.2++[(↑(r'%K):Int)])
 |0,u,x,h=>by
  left;have:=(zkI.1 h).1;simp[bfsB]at this;exact this
 |r+1,u,x,h=>by
  have old:(bfsB e K s0 r)[u]?=some x->u=0∨∃r' y,r'<r+1∧r' / K<u∧(bfsB e K s0 (r+1))[r' / K]?=some y∧x=(e y.1 (r'%K),y.2++[(↑(r'%K):Int)]):=fun h=>by
   rcases zu6 h with h|⟨r',y,h1,h2,h3,h4⟩
   ·exact Or.inl h
   ·exact Or.inr ⟨r',y,by omega,h2,zj0 (zvi r) h3,h4⟩
  have hh:=h;rw[bfsB]at h;split at h
  ·exact old h
  ·rename_i y hy;split at h
   ·exact old h
   ·rename_i hn;rcases ya6 u (bfsB e K s0 r).length with g|g
    ·rw[ybn g]at h;exact old h
    ·right;rw[ybp g]at h
     have hu:u-(bfsB e K s0 r).length=0:=by
      have:=(zkI.1 h).1;simpa using this
     rw[hu]at h
     have hx:x=(e y.1 (r%K),y.2++[(↑(r%K):Int)]):=by
      simp at h;exact h.symm
     have hk:=(zkI.1 hy).1;exact⟨r,y,by omega,by omega,zj0 (zvi r) hy,hx⟩
theorem bfs_to{r:Nat}{x:A×yab}(hx:(bfsB e K s0 r)[r / K]?=some x):e x.1 (r%K)∈(bfsB e K s0 (r+1)).map Prod.fst:=by
 rw[bfsB,hx];simp only;split
 ·assumption
 ·simp
structure zob(e:A->Nat->A)(K:Nat)(s0:A)(L:List (A×yab)):Prop where
 eq:L=bfsB e K s0 (L.length*K)
variable {L:List (A×yab)}
theorem zob.at(h:zob e K s0 L){r:Nat}(hr:r<=L.length*K):bfsB e K s0 r <+: L:=by
 have:=zm7 (e:=e) (K:=K) (s0:=s0) hr;rw[<- h.eq]at this;exact this
theorem zob.first(h:zob e K s0 L):L[0]?=some (s0,[]):=by
 rw[h.eq];exact zw1 _
theorem zob.long(h:zob e K s0 L){i a:Nat}(hi:i<L.length)(ha:a<K):∃x,L[i]?=some x∧(bfsB e K s0 (i*K+a))[i]?=some x:=by
 refine⟨_,zkM hi,?_⟩;have a3:=h.at (r:=i*K+a) (by have:=zuk hi ha;omega);rcases ya6 i (bfsB e K s0 (i*K+a)).length with g|g
 ·have:=zj0 a3 (zkM g);rw[zkM hi]at this;rw[zkM g,this]
 ·exfalso
  have a2:∀d,bfsB e K s0 (i*K+a+d)=bfsB e K s0 (i*K+a):=by
   intro d
   induction d with
   |zero=>rfl
   |succ d ih =>
    show bfsB e K s0 (i*K+a+d+1)=_;rw[bfsB,ih,yb6 ?_];have h1:(i*K+a) / K<=(i*K+a+d) / K:=yd5 (by omega);rw[zqh ha]at h1;omega
  have h2:=a2 (L.length*K-(i*K+a));rw[show i*K+a+(L.length*K-(i*K+a))=L.length*K by have:=zuk hi ha;omega,<- h.eq]at h2;rw[<- h2]at g;omega
theorem zob.closed(h:zob e K s0 L){i a:Nat}{x:A×yab}(hx:L[i]?=some x)(ha:a<K):∃j y,L[j]?=some y∧y.1=e x.1 a∧∀u,0<u->u<=j->∃i' a' z w,a'<K∧i'*K+a'<=i*K+a∧i'<u∧L[i']?=some z∧L[u]?=some w∧w.1=e z.1 a':=by
 have hi:=(zkI.1 hx).1;obtain⟨x',h1,h2⟩:=h.long hi ha;rw[hx]at h1;injection h1 with h1
 subst h1;have a8:=zuk hi ha;have a2:=h.at (r:=i*K+a+1) (by omega);have h3:=bfs_to (e:=e) (K:=K) (s0:=s0) (r:=i*K+a) (x:=x) (by rw[zqh ha];exact h2);rw[zy2 ha]at h3;obtain⟨y,hy,a6⟩:=yae.1 h3;obtain⟨j,hj,a5⟩:=ya5.1 hy;have a3:(bfsB e K s0 (i*K+a+1))[j]?=some y:=by rw[zkM hj,a5]
 refine⟨j,y,zj0 a2 a3,a6,fun u hu a7=>?_⟩;have a4:u<(bfsB e K s0 (i*K+a+1)).length:=by omega
 have hw:=zkM a4;rcases zu6 hw with q|⟨r',z,q1,q2,q3,q4⟩
 ·omega
 ·have hK:0<K:=by omega
  refine⟨r' / K,r'%K,z,_,yez _ hK,?_,q2,zj0 a2 q3,zj0 a2 hw,by rw[q4]⟩;have:=yep r' K;rw[yea]at this;omega
end
end
section
def E(m:zad):Nat->Nat->Nat->Prop
 |0,_,_=>True
 |k+1,s,t=>E m k s t∧∀a,a<m.Inputs.toNat->ot m s a=ot m t a∧E m k (nx m s a) (nx m t a)
section
variable {m:zad}
theorem E_refl:∀(k s:Nat),E m k s s
 |0,_=>trivial
 |k+1,s=>⟨E_refl k s,fun _ _=>⟨rfl,E_refl k _⟩⟩
theorem E_symm:∀{k s t:Nat},E m k s t->E m k t s
 |0,_,_,_=>trivial
 |_+1,_,_,h=>⟨E_symm h.1,fun a ha=>⟨(h.2 a ha).1.symm,E_symm (h.2 a ha).2⟩⟩
theorem ztf:∀{k s t u:Nat},E m k s t->E m k t u->E m k s u
 |0,_,_,_,_,_=>trivial
 |_+1,_,_,_,h,g=>⟨ztf h.1 g.1,fun a ha=>⟨(h.2 a ha).1.trans (g.2 a ha).1,ztf (h.2 a ha).2 (g.2 a ha).2⟩⟩
theorem E_mono{k j s t:Nat}(hk:k<=j)(h:E m j s t):E m k s t:=by
 induction j with
 |zero =>
  have e:k=0:=by omega
  subst e;exact h
 |succ j ih =>
  rcases ya6 k (j+1) with h1|h1
  ·exact ih (by omega) h.1
  ·have e:k=j+1:=by omega
   subst e;exact h
theorem E_outs:∀{w:yab} {s t:Nat},E m w.length s t->WOk m.Inputs w->outs m s w=outs m t w
 |[],_,_,_,_=>rfl
 |a::w,s,t,h,hw=>by
  have ha:=hw.head;obtain⟨h1,h2⟩:=h.2 a.toNat (by omega);show ot m s a.toNat::outs m _ w=ot m t a.toNat::outs m _ w;rw[h1,E_outs (w:=w) h2 hw.tail]
theorem zv5:∀{k s t:Nat},(∀w,w.length<=k->WOk m.Inputs w->outs m s w=outs m t w)->E m k s t
 |0,_,_,_=>trivial
 |k+1,s,t,h=>⟨zv5 fun w hl hw=>h w (by omega) hw,fun a ha=>by
  have hx:∀w,w.length<=k->WOk m.Inputs w->ot m s a=ot m t a∧outs m (nx m s a) w=outs m (nx m t a) w:=fun w hl hw=>by
   have h1:=h ((↑a:Int)::w) (by simp;omega) (fun x hx=>by
    rcases yap.1 hx with rfl|hx
    ·exact⟨by omega,by omega⟩
    ·exact hw x hx)
   have h2:ot m s a::outs m (nx m s a) w=ot m t a::outs m (nx m t a) w:=h1
   injection h2 with h3 h4
   exact⟨h3,h4⟩
  exact⟨(hx [] (yag _) (fun x hx=>by cases hx)).1,zv5 fun w hl hw=>(hx w hl hw).2⟩⟩
structure ClsOk(m:zad)(k:Nat)(c:yab):Prop where
 len:c.length=m.Next.length
 rng:∀s,s<m.Next.length->∃x:Nat,c[s]?=some (↑x:Int)∧x<m.Next.length
 cls:∀s t,s<m.Next.length->t<m.Next.length->(c[s]?=c[t]?↔E m k s t)
structure FinOk(m:zad)(k:Nat)(y:yab)(n s:Nat):Prop where
 ls:s<=m.Next.length
 len:y.length=s
 cnt:n<=s
 rng:∀i,i<s->∃x:Nat,y[i]?=some (↑x:Int)∧x<n
 cls:∀i j,i<s->j<s->(y[i]?=y[j]?↔E m k i j)
theorem zuj{α:Type}{p q:α->Bool}:∀{l:List α},(∀x∈l,p x=true->q x=true)->l.countP q<=l.countP p->∀x∈l,q x=true->p x=true
 |[],_,_,x,hx,_=>by cases hx
 |y::l,h,hc,x,hx,hq=>by
  have h1:l.countP p<=l.countP q:=List.countP_mono_left fun x hx=>h x (yaj _ hx);rw[List.countP_cons,List.countP_cons]at hc;have h2:=h y (yb5 ..)
  have h3:l.countP q<=l.countP p∧(q y=true->p y=true):=by
   cases e1:q y<;>cases e2:p y<;>simp[e1,e2]at hc h2 ⊢<;>omega
  rcases yap.1 hx with rfl|hx
  ·exact h3.2 hq
  ·exact zuj (fun x hx=>h x (yaj _ hx)) h3.1 x hx hq
def Rep(m:zad)(k s:Nat):Prop:=∀t,t<s->¬E m k s t
open Classical in
noncomputable def nreps(m:zad)(k:Nat):Nat:=(List.range m.Next.length).countP fun s=>decide (Rep m k s)
theorem zzh(k:Nat):∀(s:Nat),∃r,r<=s∧Rep m k r∧E m k s r:=by
 intro s
 induction s using Nat.strongRecOn with
 |ind s ih =>
  by_cases h:Rep m k s
  ·exact⟨s,yam _,h,E_refl _ _⟩
  ·have⟨t,h1⟩:=Classical.not_forall.1 h;obtain⟨h2,h3⟩:=Classical.not_imp.1 h1;have h3:=ydw.1 h3;obtain⟨r,r1,r2,r3⟩:=ih t h2;exact⟨r,by omega,r2,ztf h3 r3⟩
def Stab(m:zad)(k:Nat):Prop:=∀s t,s<m.Next.length->t<m.Next.length->E m k s t->E m (k+1) s t
theorem rep_succ{k s:Nat}(h:Rep m k s):Rep m (k+1) s:=fun t ht hE=>h t ht hE.1
open Classical in
open Classical in
theorem stab_of{k:Nat}(h:nreps m (k+1)<=nreps m k):Stab m k:=by
 intro s t hs ht hE;unfold nreps at h;have key:=zuj (l:=List.range m.Next.length) (fun s _ h=>zkB (rep_succ (of_decide_eq_true h))) h;obtain⟨r,r1,r2,r3⟩:=zzh (m:=m) (k+1) s;obtain⟨u,u1,u2,u3⟩:=zzh (m:=m) (k+1) t;have r4:Rep m k r:=of_decide_eq_true (key r (ybc.2 (by omega)) (zkB r2));have u4:Rep m k u:=of_decide_eq_true (key u (ybc.2 (by omega)) (zkB u2));have a2:E m k r u:=ztf (E_symm r3.1) (ztf hE u3.1)
 have e:r=u:=by
  rcases ycd r u with h1|h1|h1
  ·exact absurd (E_symm a2) (u4 r h1)
  ·exact h1
  ·exact absurd a2 (r4 u h1)
 subst e;exact ztf r3 (E_symm u3)
theorem stab_succ(H:zgr m){k:Nat}(h:Stab m k):Stab m (k+1):=fun s t hs ht hE =>
 ⟨hE,fun a ha=>⟨(hE.2 a ha).1,h _ _ (H.at hs ha).1 (H.at ht ha).1 (hE.2 a ha).2⟩⟩
theorem stab_add(H:zgr m){k:Nat}(h:Stab m k):∀j,Stab m (k+j)
 |0=>h
 |j+1=>stab_succ H (stab_add H h j)
open Classical in
theorem stab_exists(H:zgr m):∃k,k<m.Next.length∧Stab m k:=by
 refine yau fun a3=>?_
 have a2:∀k,k<=m.Next.length->k+1<=nreps m k:=by
  intro k
  induction k with
  |zero =>
   intro _;unfold nreps;have:0<(List.range m.Next.length).countP fun s=>@decide (Rep m 0 s) (Classical.propDecidable _):=List.countP_pos_iff.2 ⟨0,ybc.2 H.n1,zkB fun t ht=>absurd ht (yet _)⟩;exact this
  |succ k ih =>
   intro hk;have h1:=ih (by omega);rcases ya6 (nreps m k) (nreps m (k+1)) with h2|h2
   ·omega
   ·exact absurd ⟨k,by omega,stab_of h2⟩ a3
 have h1:=a2 _ (yam _);have h2:nreps m m.Next.length<=(List.range m.Next.length).length:=List.countP_le_length;rw[yb9]at h2;omega
theorem E_all(H:zgr m){s t:Nat}(hs:s<m.Next.length)(ht:t<m.Next.length)(h:E m m.Next.length s t)(j:Nat):E m j s t:=by
 obtain⟨k,hk,hS⟩:=stab_exists H
 have key:∀i,E m (k+i) s t:=by
  intro i
  induction i with
  |zero=>exact E_mono (by omega) h
  |succ i ih=>exact stab_add H hS i s t hs ht ih
 exact E_mono (by omega) (key j)
end
end
section
theorem nodup_le{α:Type}[DecidableEq α]:∀{l l':List α},l.Nodup->(∀x∈l,x∈l')->l.length<=l'.length
 |[],_,_,_=>yag _
 |x::l,l',h,hs=>by
  have h1:=yb2.1 h;have hx:=hs x (by simp);have ih:=nodup_le (l:=l) (l':=l'.erase x) h1.2 (fun y hy=>(List.mem_erase_of_ne (fun e=>h1.1 (by rw[<- e];exact hy))).2 (hs y (yaj _ hy)));rw[ye5 hx]at ih;have:=yeg hx;simp only[zkL];omega
structure Num(m:zad)(c:yab)(ord:List Nat)(num:yab):Prop where
 rng:∀u∈ord,u<m.Next.length
 start:ord[0]?=some m.Start.toNat
 len:num.length=m.Next.length
 n1:∀j u x:Nat,ord[j]?=some u->c[u]?=some (↑x:Int)->num[x]?=some (↑j:Int)
 n2:∀x:Nat,x<m.Next.length->num[x]?=some (-1:Int)∨∃j u:Nat,num[x]?=some (↑j:Int)∧ord[j]?=some u∧c[u]?=some (↑x:Int)
 reach:∀j u:Nat,ord[j]?=some u->j=0∨∃i v a:Nat,i<j∧ord[i]?=some v∧a<m.Inputs.toNat∧u=nx m v a
section
variable {m:zad}{c num:yab}{ord:List Nat}{k:Nat}
structure RowAt(m:zad)(c:yab)(ord:List Nat)(v:Nat)(row out:yab)(a:Nat):Prop where
 l1:row.length=a
 l2:out.length=a
 cell:∀b,b<a->∃j u:Nat,row[b]?=some (↑j:Int)∧ord[j]?=some u∧c[u]?=c[nx m v b]?∧out[b]?=some (ot m v b)
structure MinOk(m M:zad)(c:yab)(ord:List Nat)(num:yab):Prop where
 cls:ClsOk m m.Next.length c
 num:Num m c ord num
 inp:M.Inputs=m.Inputs
 start:M.Start=0
 l1:M.Next.length=ord.length
 l2:M.Out.length=ord.length
 row:∀i v:Nat,ord[i]?=some v->∃row out,M.Next[i]?=some row∧M.Out[i]?=some out∧RowAt m c ord v row out m.Inputs.toNat
end
end
section
section
variable {m:zad}
abbrev MEnd(m:zad)(s0:Nat)(L:List (Nat×yab)):Prop:=zob (nx m) m.Inputs.toNat s0 L
structure SeenOk(n:Nat)(y:List Bool)(l:List Nat):Prop where
 len:y.length=n
 at_:∀t,t<n->y[t]?=some (decide (t∈l))
end
end
section
section
variable {m:zad}
end
end
section
theorem bfs_stay{A:Type}[DecidableEq A]{e:A->Nat->A}{K:Nat}{s0:A}{L:List (A×yab)}(h:zob e K s0 L)(hK:0<K):∀d,bfsB e K s0 (L.length*K+d)=L
 |0=>h.eq.symm
 |d+1=>by
  have ih:=bfs_stay h hK d;show bfsB e K s0 (L.length*K+d+1)=L;rw[bfsB,ih,yb6 ?_];have h1:(L.length*K) / K<=(L.length*K+d) / K:=yd5 (by omega);rw[Nat.mul_div_cancel _ hK]at h1;exact h1
section
variable {a b:zad}
def pE(a b:zad)(p:Nat×Nat)(x:Nat):Nat×Nat:=(nx a p.1 x,nx b p.2 x)
def pB(a b:zad)(p0:Nat×Nat)(r:Nat):List ((Nat×Nat)×yab):=bfsB (pE a b) a.Inputs.toNat p0 r
abbrev PEnd(a b:zad)(p0:Nat×Nat)(L:List ((Nat×Nat)×yab)):Prop:=zob (pE a b) a.Inputs.toNat p0 L
def difB(a b:zad)(p0:Nat×Nat)(r:Nat):Bool:=match (pB a b p0 r)[r / a.Inputs.toNat]? with
 |some x=>decide (ot a x.1.1 (r%a.Inputs.toNat)≠ot b x.1.2 (r%a.Inputs.toNat))
 |none=>false
theorem zqu{p0:Nat×Nat}{i c:Nat}{x:(Nat×Nat)×yab}(hc:c<a.Inputs.toNat)(hx:(pB a b p0 (i*a.Inputs.toNat+c))[i]?=some x):difB a b p0 (i*a.Inputs.toNat+c)=decide (ot a x.1.1 c≠ot b x.1.2 c):=by
 unfold difB;rw[zqh hc,hx,zy2 hc]
structure Two(a b:zad):Prop where
 a1:zgr a
 b1:zgr b
 inp:a.Inputs=b.Inputs
theorem zt8(T:Two a b){p0:Nat×Nat}(h1:p0.1<a.Next.length)(h2:p0.2<b.Next.length):∀(r:Nat),∀x∈pB a b p0 r,x.1.1<a.Next.length∧x.1.2<b.Next.length∧x.2.length<=r∧dest a p0.1 x.2=x.1.1∧dest b p0.2 x.2=x.1.2∧WOk a.Inputs x.2
 |0,x,hx=>by
  have:x=(p0,[]):=by simpa[pB,bfsB]using hx
  subst this;exact⟨h1,h2,yam _,rfl,rfl,fun a ha=>by cases ha⟩
 |r+1,x,hx=>by
  have ih:=zt8 T h1 h2 r
  have a3:x∈pB a b p0 r->x.1.1<a.Next.length∧x.1.2<b.Next.length∧x.2.length<=r+1∧dest a p0.1 x.2=x.1.1∧dest b p0.2 x.2=x.1.2∧WOk a.Inputs x.2:=fun h=>by
   have:=ih x h;exact⟨this.1,this.2.1,by omega,this.2.2.2⟩
  unfold pB at hx;rw[bfsB]at hx;split at hx
  ·exact a3 hx
  ·rename_i y hy;split at hx
   ·exact a3 hx
   ·rcases yak.1 hx with h|h
    ·exact a3 h
    ·have hK:0<a.Inputs.toNat:=by have:=T.a1.i1;omega
     have a2:=ih y (zkH hy);have ha:=yez r hK;have a4:x=(pE a b y.1 (r%a.Inputs.toNat),y.2++[(↑(r%a.Inputs.toNat):Int)]):=by simpa using h
     subst a4;refine⟨(T.a1.at a2.1 ha).1,(T.b1.at a2.2.1 (by rw[<- T.inp];exact ha)).1,by simp;omega,?_,?_,?_⟩
     ·simp only;rw[zgy,a2.2.2.2.1];show nx a y.1.1 (Int.toNat _)=_;rw[ybf];rfl
     ·simp only;rw[zgy,a2.2.2.2.2.1];show nx b y.1.2 (Int.toNat _)=_;rw[ybf];rfl
     ·refine WOk.append a2.2.2.2.2.2 fun z a5=>?_;have:z=(↑(r%a.Inputs.toNat):Int):=by simpa using a5
      subst this;omega
theorem pB_len(T:Two a b){p0:Nat×Nat}(h1:p0.1<a.Next.length)(h2:p0.2<b.Next.length)(r:Nat):(pB a b p0 r).length<=a.Next.length*b.Next.length:=by
 have hn:=bfs_nodup (e:=pE a b) (K:=a.Inputs.toNat) (s0:=p0) r;have:=nodup_le (l:=(((pB a b p0 r).map Prod.fst).map fun p=>p.1*b.Next.length+p.2)) (l':=List.range (a.Next.length*b.Next.length)) ?_ fun x hx=>?_
 ·rwa [zkK,zkK,yb9]at this
 ·refine List.Pairwise.map _ (R:=fun p q=>p∈(pB a b p0 r).map Prod.fst∧q∈(pB a b p0 r).map Prod.fst∧p≠q) (fun p q ⟨hp,hq,a2⟩ he=>?_) (List.Pairwise.imp_of_mem (fun {p q} hp hq a2=>⟨hp,hq,a2⟩) hn);obtain⟨x,hx,rfl⟩:=yae.1 hp;obtain⟨y,hy,rfl⟩:=yae.1 hq;have a3:=(zt8 T h1 h2 r x hx).2.1;have a4:=(zt8 T h1 h2 r y hy).2.1;have he:x.1.1*b.Next.length+x.1.2=y.1.1*b.Next.length+y.1.2:=he;have e1:=zqh (i:=x.1.1) a3;have e2:=zqh (i:=y.1.1) a4;have e3:=zy2 (i:=x.1.1) a3;have e4:=zy2 (i:=y.1.1) a4;rw[he]at e1 e3;exact a2 (Prod.ext (by rw[<- e1,e2]) (by rw[<- e3,e4]))
 ·obtain⟨p,hp,rfl⟩:=yae.1 hx;obtain⟨y,hy,rfl⟩:=yae.1 hp;exact ybc.2 (zuk (zt8 T h1 h2 r y hy).1 (zt8 T h1 h2 r y hy).2.1)
theorem pB_step{p0:Nat×Nat}{i c:Nat}{x:(Nat×Nat)×yab}(hc:c<a.Inputs.toNat)(hx:(pB a b p0 (i*a.Inputs.toNat+c))[i]?=some x) :
  pB a b p0 (i*a.Inputs.toNat+(c+1))=if pE a b x.1 c∈(pB a b p0 (i*a.Inputs.toNat+c)).map Prod.fst then pB a b p0 (i*a.Inputs.toNat+c) else pB a b p0 (i*a.Inputs.toNat+c)++[(pE a b x.1 c,x.2++[(↑c:Int)])]:=by
 have h:=bfs_step (e:=pE a b) (s0:=p0) hc hx;by_cases g:pE a b x.1 c∈(pB a b p0 (i*a.Inputs.toNat+c)).map Prod.fst
 ·rw[if_pos g];exact h.trans (if_pos g)
 ·rw[if_neg g];exact h.trans (if_neg g)
theorem pB_next{p0:Nat×Nat}{i:Nat}:pB a b p0 (i*a.Inputs.toNat+a.Inputs.toNat)=pB a b p0 ((i+1)*a.Inputs.toNat):=by rw[yd2]
theorem pB_get{p0:Nat×Nat}{i r:Nat}{x:(Nat×Nat)×yab}(hx:(pB a b p0 (i*a.Inputs.toNat))[i]?=some x)(hr:i*a.Inputs.toNat<=r):(pB a b p0 r)[i]?=some x:=zj0 (zm7 hr) hx
def Fst(a b:zad)(p0:Nat×Nat)(res:yab×Bool):Prop :=
 (∃i c x,c<a.Inputs.toNat∧(pB a b p0 (i*a.Inputs.toNat+c))[i]?=some x∧ot a x.1.1 c≠ot b x.1.2 c∧(∀r,r<i*a.Inputs.toNat+c->difB a b p0 r=false)∧res=(x.2++[(↑c:Int)],true)) ∨
 (∃L,PEnd a b p0 L∧(∀r,r<L.length*a.Inputs.toNat->difB a b p0 r=false)∧res=([],false))
theorem fst_uniq(hK:0<a.Inputs.toNat){p0:Nat×Nat}{u v:yab×Bool}(hu:Fst a b p0 u)(hv:Fst a b p0 v):u=v:=by
 have a2:∀{u v:yab×Bool},(∃i c x,c<a.Inputs.toNat∧(pB a b p0 (i*a.Inputs.toNat+c))[i]?=some x∧ot a x.1.1 c≠ot b x.1.2 c∧(∀r,r<i*a.Inputs.toNat+c->difB a b p0 r=false)∧u=(x.2++[(↑c:Int)],true))->(∃L,PEnd a b p0 L∧(∀r,r<L.length*a.Inputs.toNat->difB a b p0 r=false)∧v=([],false))->False:=by
  rintro u v ⟨i,c,x,h1,h2,h3,h4,_⟩ ⟨L,h6,h7,_⟩;rcases ya6 (i*a.Inputs.toNat+c) (L.length*a.Inputs.toNat) with g|g
  ·have:=h7 _ g;rw[zqu h1 h2,zkB h3]at this;cases this
  ·have hs:=bfs_stay h6 hK (i*a.Inputs.toNat+c-L.length*a.Inputs.toNat);rw[show L.length*a.Inputs.toNat+(i*a.Inputs.toNat+c-L.length*a.Inputs.toNat)=i*a.Inputs.toNat+c by omega]at hs;have a3:(bfsB (pE a b) a.Inputs.toNat p0 (i*a.Inputs.toNat+c))[i]?=some x:=h2;rw[hs]at a3;have hi:=(zkI.1 a3).1;have:=zuk hi h1;omega
 rcases hu with hu|hu<;>rcases hv with hv|hv
 ·obtain⟨i,c,x,h1,h2,h3,h4,rfl⟩:=hu;obtain⟨i',c',x',g1,g2,g3,g4,rfl⟩:=hv
  have hr:i*a.Inputs.toNat+c=i'*a.Inputs.toNat+c':=by
   rcases ycd (i*a.Inputs.toNat+c) (i'*a.Inputs.toNat+c') with q|q|q
   ·have:=g4 _ q;rw[zqu h1 h2,zkB h3]at this;cases this
   ·exact q
   ·have:=h4 _ q;rw[zqu g1 g2,zkB g3]at this;cases this
  have e1:i=i':=by rw[<- zqh (i:=i) h1,hr,zqh g1]
  subst e1;have e2:c=c':=by omega
  subst e2;rw[h2]at g2;injection g2 with g2
  rw[g2]
 ·exact(a2 hu hv).elim
 ·exact(a2 hv hu).elim
 ·obtain⟨_,_,_,rfl⟩:=hu;obtain⟨_,_,_,rfl⟩:=hv;rfl
end
end
section
section
variable {a b:zad}
def plC(x:(Nat×Nat)×yab):zbn:=⟨⟨(↑x.1.1:Int),(↑x.1.2:Int)⟩,x.2⟩
def prC(x:(Nat×Nat)×yab):zax:=⟨(↑x.1.1:Int),(↑x.1.2:Int),x.2⟩
theorem zl0{α β:Type}{f:α->β}{l:List α}{i:Nat}{x:α}(h:l[i]?=some x):(l.map f)[i]?=some (f x):=by rw[yan,h];rfl
structure SeenG(n k:Nat)(y:List (List Bool))(l:yad):Prop where
 len:y.length=n
 at_:∀s t,s<n->t<k->∃row,y[s]?=some row∧row.length=k∧row[t]?=some (decide ((s,t)∈l))
theorem pair_mem{l:yad}{p q:Nat×Nat}(h:p≠q):p∈l↔p∈l++[q]:=by
 rw[yak,yba];exact⟨Or.inl,fun z=>z.elim id fun e=>absurd e h⟩
theorem SeenG.push{n k s t:Nat}{y:List (List Bool)}{l:yad}{row:List Bool}(S:SeenG n k y l)(hs:s<n)(ht:t<k)(hr:y[s]?=some row):SeenG n k (y.set s (row.set t true)) (l++[(s,t)]):=by
 refine⟨by simp[S.len],fun u v hu hv=>?_⟩;obtain⟨a2,h1,h2,h3⟩:=S.at_ u v hu hv;by_cases h:s=u
 ·subst h;rw[hr]at h1;injection h1 with h1
  subst h1;refine⟨row.set t true,by rw[ycu (by rw[S.len];exact hs)],by simp[h2],?_⟩;by_cases g:t=v
  ·subst g;rw[ycu (by omega)];simp
  ·rw[ycx g,h3];congr 1;apply decide_eq_decide.2;exact pair_mem fun e=>g (congrArg Prod.snd e).symm
 ·refine⟨a2,by rw[ycx h,h1],h2,?_⟩;rw[h3];congr 1;apply decide_eq_decide.2;exact pair_mem fun e=>h (congrArg Prod.fst e).symm
theorem seenG_nil(n k:Nat):SeenG n k (List.replicate n (List.replicate k false)) []:=⟨by simp,fun s t hs ht=>⟨List.replicate k false,by simp[hs],by simp,by simp[ht]⟩⟩
theorem big_sum{i c n k K:Nat}(hi:i<=n*k)(hn:n<=128)(hk:k<=128)(hK:K<=64)(hc:c<=64):i*K+c<=1048640:=by
 have h1:n*k<=128*128:=yd3 hn hk;have h2:i*K<=(128*128)*64:=yd3 (by omega) hK;omega
theorem search_row(T:Two a b){p0:Nat×Nat}(h1:p0.1<a.Next.length)(h2:p0.2<b.Next.length){i:Nat}{x:(Nat×Nat)×yab}{y:List (List Bool)}(hi:i<=a.Next.length*b.Next.length)
  (hx:(pB a b p0 (i*a.Inputs.toNat))[i]?=some x) (S:SeenG a.Next.length b.Next.length y ((pB a b p0 (i*a.Inputs.toNat)).map Prod.fst)) (hd:∀r,r<i*a.Inputs.toNat->difB a b p0 r=false) :
  ∃r,iter (fun(s:List (List Bool)×List zbn×Nat)=>zbd.s20 a b i (plC x) s.1 s.2.1 s.2.2) fuel (y,(pB a b p0 (i*a.Inputs.toNat)).map plC,0)=some r ∧
   ((∃y',r=.inl (y',(pB a b p0 ((i+1)*a.Inputs.toNat)).map plC)∧SeenG a.Next.length b.Next.length y' ((pB a b p0 ((i+1)*a.Inputs.toNat)).map Prod.fst)∧∀r,r<(i+1)*a.Inputs.toNat->difB a b p0 r=false) ∨
   (∃res,r=.inr (.inr (.inr res))∧Fst a b p0 res)):=by
 have a8:=T.a1.n2;have a9:=T.b1.n2;have hI:=T.a1.i2;have b2:=zt8 T h1 h2 _ x (zkH hx)
 obtain⟨r,hr,hq⟩:=zix (step:=fun(s:List (List Bool)×List zbn×Nat)=>zbd.s20 a b i (plC x) s.1 s.2.1 s.2.2) (fun s=>s.2.2<=a.Inputs.toNat∧s.2.1=(pB a b p0 (i*a.Inputs.toNat+s.2.2)).map plC∧SeenG a.Next.length b.Next.length s.1 ((pB a b p0 (i*a.Inputs.toNat+s.2.2)).map Prod.fst)∧∀r,r<i*a.Inputs.toNat+s.2.2->difB a b p0 r=false) (fun s=>a.Inputs.toNat-s.2.2) (fun r=>(∃y',r=.inl (y',(pB a b p0 ((i+1)*a.Inputs.toNat)).map plC)∧SeenG a.Next.length b.Next.length y' ((pB a b p0 ((i+1)*a.Inputs.toNat)).map Prod.fst)∧∀r,r<(i+1)*a.Inputs.toNat->difB a b p0 r=false)∨(∃res,r=.inr (.inr (.inr res))∧Fst a b p0 res)) (fun s ⟨q1,q2,q3,q4⟩=>by
  obtain⟨y,l,c⟩:=s
  simp only at q1 q2 q3 q4
  subst q2
  simp only[zbd.s20]
  by_cases g:c<a.Inputs.toNat
  ·have a4:=pB_get hx (r:=i*a.Inputs.toNat+c) (by omega)
   obtain⟨g1,_,_,ra,oa,e1,e2,e3,e4⟩:=T.a1.at b2.1 g
   obtain⟨f1,_,_,rb,ob,d1,d2,d3,d4⟩:=T.b1.at b2.2.1 (a:=c) (by rw[<- T.inp];exact g)
   have b4:=big_sum (c:=c) hi a8 a9 (K:=a.Inputs.toNat) (by omega) (by omega)
   have b5:=pB_len T h1 h2 (i*a.Inputs.toNat+c)
   have b6:a.Next.length*b.Next.length<=128*128:=yd3 a8 a9
   rw[zkB (by omega),zkD,zbw (n:=(plC x).at_.s) (i:=x.1.1) rfl e2,zao e4,zbw (n:=(plC x).at_.t) (i:=x.1.2) rfl d2,zao d4]
   by_cases a5:ot a x.1.1 c≠ot b x.1.2 c
   ·right
    rw[zkB a5,zkD,zao (zl0 a4)]
    show ∃r,((zge [x.2,[(↑c:Int)]]).bind _:Option _)=_∧_
    rw[zif _ (by simp) (by simp;omega),zah]
    refine⟨_,rfl,Or.inr ⟨_,rfl,Or.inl ⟨i,c,x,g,a4,a5,q4,?_⟩⟩⟩
    simp
   ·left
    have b7:ot a x.1.1 c=ot b x.1.2 c:=yau a5
    have b0:∀r,r<i*a.Inputs.toNat+(c+1)->difB a b p0 r=false:=fun r hr=>by
     rcases ya6 r (i*a.Inputs.toNat+c) with q|q
     ·exact q4 r q
     ·have:r=i*a.Inputs.toNat+c:=by omega
      rw[this,zqu g a4,zkA a5]
    have a3:=pB_step g a4
    obtain⟨row,r1,r2,r3⟩:=q3.at_ _ _ g1 f1
    have b3:x.1∈(pB a b p0 (i*a.Inputs.toNat+c)).map Prod.fst:=yae.2 ⟨x,zkH a4,rfl⟩
    have a7:((cond (!(decide ((↑(nx a x.1.1 c):Int)=(plC x).at_.s)&&(decide ((↑(nx b x.1.2 c):Int)=(plC x).at_.t)&&true))) (idx y (↑(nx a x.1.1 c):Int) fun a2=>idx a2 (↑(nx b x.1.2 c):Int) fun a6=>some (!a6)) (some false):Option Bool))=some (!decide (pE a b x.1 c∈(pB a b p0 (i*a.Inputs.toNat+c)).map Prod.fst)):=by
     by_cases z:pE a b x.1 c=x.1
     ·have z1:nx a x.1.1 c=x.1.1:=congrArg Prod.fst z
      have z2:nx b x.1.2 c=x.1.2:=congrArg Prod.snd z
      rw[zkB (show(↑(nx a x.1.1 c):Int)=(plC x).at_.s by rw[z1];rfl),zkB (show(↑(nx b x.1.2 c):Int)=(plC x).at_.t by rw[z2];rfl),z,zkB b3]
      rfl
     ·have:(!(decide ((↑(nx a x.1.1 c):Int)=(plC x).at_.s)&&(decide ((↑(nx b x.1.2 c):Int)=(plC x).at_.t)&&true)))=true:=by
       by_cases z1:nx a x.1.1 c=x.1.1
       ·have z2:nx b x.1.2 c≠x.1.2:=fun q=>z (Prod.ext z1 q)
        rw[zkA (show ¬(↑(nx b x.1.2 c):Int)=(plC x).at_.t from fun q=>z2 (Int.ofNat_inj.1 q))]
        simp
       ·rw[zkA (show ¬(↑(nx a x.1.1 c):Int)=(plC x).at_.s from fun q=>z1 (Int.ofNat_inj.1 q))]
        rfl
      rw[this,zkD,zbw rfl r1,zbw rfl r3]
      rfl
    rw[zkA a5,zkC,zbw (n:=(plC x).at_.s) (i:=x.1.1) rfl e1,zao e3,zbw (n:=(plC x).at_.t) (i:=x.1.2) rfl d1,zao d3,a7,zah]
    by_cases hm:pE a b x.1 c∈(pB a b p0 (i*a.Inputs.toNat+c)).map Prod.fst
    ·rw[if_pos hm]at a3
     refine⟨(y,(pB a b p0 (i*a.Inputs.toNat+c)).map plC,c+1),by rw[zkB hm,ybh,zkC,zaq (by unfold inR;omega)],⟨g,by simp only;rw[a3],by simp only;rw[a3];exact q3,b0⟩,by simp only;omega⟩
    ·rw[if_neg hm]at a3
     refine⟨(y.set (nx a x.1.1 c) (row.set (nx b x.1.2 c) true),(pB a b p0 (i*a.Inputs.toNat+c)).map plC++[plC (pE a b x.1 c,x.2++[(↑c:Int)])],c+1),?_,⟨g,by simp only;rw[a3,ya1];rfl,by simp only;rw[a3,ya1];exact q3.push g1 f1 r1,b0⟩,by simp only;omega⟩
     rw[zkA hm,yb7,zkD,zbw rfl r1,zbw rfl r3,zao (zl0 a4)]
     show(zge [x.2,[(↑c:Int)]]).bind _=_
     rw[zif _ (by simp) (by simp;omega),zah,zaq (by unfold za3;rw[zkK];omega),zaq (by unfold inR;omega),ybf,ybf]
     simp[plC,pE]
  ·right
   have e':c=a.Inputs.toNat:=by omega
   subst e'
   rw[pB_next]at q3 ⊢
   exact⟨_,by rw[zkA (by omega),zkC],Or.inl ⟨_,rfl,q3,by rw[yd2];exact q4⟩⟩) (y,(pB a b p0 (i*a.Inputs.toNat)).map plC,0) ⟨yag _,rfl,S,hd⟩
 exact⟨r,hr,hq⟩
theorem zwv(T:Two a b){p0:Nat×Nat}(h1:p0.1<a.Next.length)(h2:p0.2<b.Next.length):∃res,zbd a b (⟨(↑p0.1:Int),(↑p0.2:Int)⟩:zdq)=some res∧Fst a b p0 res:=by
 have a3:=T.a1.n2;have a4:=T.b1.n2;have hI:=T.a1.i2;have a6:a.Next.length*b.Next.length<=128*128:=yd3 a3 a4;unfold zbd
 have grid:=zb1 (step:=fun(s:List (List Bool)×Nat)=>zbd.s2 a b s.1 s.2) (r:=List.replicate a.Next.length (List.replicate b.Next.length false)) (fun s=>s.2<=a.Next.length∧s.1=List.replicate s.2 (List.replicate b.Next.length false)++List.replicate (a.Next.length-s.2) []) (fun s=>a.Next.length-s.2) (fun s ⟨q1,q2⟩=>by
  obtain⟨y,k⟩:=s
  simp only at q1 q2
  subst q2
  simp only[zbd.s2]
  by_cases g:k<a.Next.length
  ·left
   refine⟨(List.replicate (k+1) (List.replicate b.Next.length false)++List.replicate (a.Next.length-(k+1)) [],k+1),?_,⟨g,rfl⟩,by simp only;omega⟩
   have hk:(List.replicate k (List.replicate b.Next.length false)++List.replicate (a.Next.length-k) [])[k]?=some []:=by
    rw[ybp (by simp),ybs,yd0,ydn,if_pos (by omega)]
   rw[ybs,zkB (by omega),zkD,zaq ⟨by omega,by omega,by unfold za3;omega⟩,zao hk,zaq (by unfold inR;omega)]
   congr 4
   rw[List.set_append_right _ _ (by simp),ybs,yd0,show a.Next.length-k=(a.Next.length-(k+1))+1 by omega,List.replicate_succ,List.set_cons_zero,List.replicate_succ' (n:=k)]
   simp
  ·right
   have:k=a.Next.length:=by omega
   subst this
   rw[ybs,zkA (by omega),zkC]
   simp) (n:=fuel) (s:=(List.replicate a.Next.length [],0)) ⟨yag _,by simp⟩
 obtain⟨row,r1,r2,r3⟩:=(seenG_nil a.Next.length b.Next.length).at_ _ _ h1 h2;have hS:=(seenG_nil a.Next.length b.Next.length).push h1 h2 r1;rw[zaq ⟨by omega,by omega,by unfold za3;omega⟩,grid,zah];simp only;rw[zbw rfl r1,zbw rfl r3,ybf,ybf]
 obtain⟨r,hr,hq⟩:=zix (step:=fun(s:List (List Bool)×List zbn×Nat)=>zbd.s22 a b s.1 s.2.1 s.2.2) (fun s=>s.2.2<=(pB a b p0 (s.2.2*a.Inputs.toNat)).length∧s.2.1=(pB a b p0 (s.2.2*a.Inputs.toNat)).map plC∧SeenG a.Next.length b.Next.length s.1 ((pB a b p0 (s.2.2*a.Inputs.toNat)).map Prod.fst)∧∀r,r<s.2.2*a.Inputs.toNat->difB a b p0 r=false) (fun s=>a.Next.length*b.Next.length+1-s.2.2) (fun r=>(r=.inl ()∧Fst a b p0 ([],false))∨∃res,r=.inr res∧Fst a b p0 res) (fun s ⟨q1,q2,q3,q4⟩=>by
  obtain⟨y,l,i⟩:=s
  simp only at q1 q2 q3 q4
  subst q2
  simp only[zbd.s22]
  have a5:=pB_len T h1 h2 (i*a.Inputs.toNat)
  by_cases g:i<(pB a b p0 (i*a.Inputs.toNat)).length
  ·have hx:=get_at g
   generalize (pB a b p0 (i*a.Inputs.toNat))[i]=x at hx
   obtain⟨r,z1,z2⟩:=search_row T h1 h2 (by omega) hx q3 q4
   rw[zkB (by rw[zkK];omega),zkD,zao (zl0 hx),z1,zah]
   rcases z2 with⟨y',rfl,z3,z4⟩|⟨res,rfl,z3⟩
   ·left
    have a2:=(zm7 (e:=pE a b) (K:=a.Inputs.toNat) (s0:=p0) (show i*a.Inputs.toNat<=(i+1)*a.Inputs.toNat by rw[yd2];omega)).length_le
    exact⟨(y',(pB a b p0 ((i+1)*a.Inputs.toNat)).map plC,i+1),rfl,⟨by simp only;unfold pB at g ⊢;omega,rfl,z3,z4⟩,by simp only;omega⟩
   ·right
    exact⟨.inr res,rfl,Or.inr ⟨res,rfl,z3⟩⟩
  ·right
   refine⟨.inl (),by rw[zkA (by rw[zkK];omega),zkC],Or.inl ⟨rfl,Or.inr ⟨pB a b p0 (i*a.Inputs.toNat),⟨?_⟩,?_,rfl⟩⟩⟩
   ·rw[show(pB a b p0 (i*a.Inputs.toNat)).length=i by omega]
    rfl
   ·rw[show(pB a b p0 (i*a.Inputs.toNat)).length=i by omega]
    exact q4) ((List.replicate a.Next.length (List.replicate b.Next.length false)).set p0.1 (row.set p0.2 true),[(⟨(⟨(↑p0.1:Int),(↑p0.2:Int)⟩:zdq),[]⟩:zbn)],0) ⟨yag _,by simp only;rw[ydz];simp[pB,bfsB,plC],by
    simp only
    rw[ydz]
    exact hS,fun r hr=>by simp only at hr;omega⟩
 rw[hr,zah];rcases hq with⟨rfl,hq⟩|⟨res,rfl,hq⟩
 ·exact⟨_,rfl,hq⟩
 ·exact⟨_,rfl,hq⟩
end
end
section
section
variable {a b:zad}
theorem known_eq{l:List ((Nat×Nat)×yab)}{p q:Nat}(hl:l.length<=1000000):iter (fun(s:Bool×Nat)=>zcn.s84 (l.map prC) (↑p:Int) (↑q:Int) s.1 s.2) fuel (false,0)=some (decide ((p,q)∈l.map Prod.fst)):=by
 refine zb1 (fun s=>s.2<=l.length∧(s.1=true↔(p,q)∈(l.take s.2).map Prod.fst)) (fun s=>l.length-s.2) (fun s hs=>?_) ⟨yag _,by simp⟩;obtain⟨kn,k⟩:=s;obtain⟨q1,q2⟩:=hs;simp only at q1 q2;simp only[zcn.s84];by_cases g:k<l.length
 ·left;have hx:=get_at g;generalize l[k]=x at hx
  have ht:(l.take (k+1)).map Prod.fst=(l.take k).map Prod.fst++[x.1]:=by
   rw[zbc hx,ya1];rfl
  rw[zkB (by rw[zkK];omega),zkD];cases kn with
  |true =>
   exact⟨(true,k+1),by rw[zkD],⟨g,by simp only;rw[ht];exact⟨fun _=>yas _ (q2.1 rfl),fun _=>trivial⟩⟩,by simp only;omega⟩
  |false =>
   have hn:¬(p,q)∈(l.take k).map Prod.fst:=fun z=>by have:=q2.2 z;cases this
   have e1:((p,q)∈(l.take (k+1)).map Prod.fst)↔x.1.1=p∧x.1.2=q:=by
    rw[ht,yak];constructor
    ·rintro (z|z)
     ·exact absurd z hn
     ·have z:(p,q)=x.1:=by simpa using z
      rw[<- z];exact⟨rfl,rfl⟩
    ·rintro⟨z1,z2⟩;right;simp[<- z1,<- z2]
   rw[zkC,zao (zl0 hx),zao (zl0 hx)];have hS:(prC x).S=(↑x.1.1:Int):=rfl;have hT:(prC x).T=(↑x.1.2:Int):=rfl;by_cases z1:x.1.1=p
   ·refine⟨(decide ((prC x).T=(↑q:Int)),k+1),by rw[zkB (show(prC x).S=(↑p:Int) by omega),zkD],⟨g,?_⟩,by simp only;omega⟩;show decide ((prC x).T=(↑q:Int))=true↔_;rw[e1,decide_eq_true_iff];constructor
    ·exact fun z=>⟨z1,by omega⟩
    ·exact fun z=>by have:=z.2;omega
   ·refine⟨(false,k+1),by rw[zkA (show ¬(prC x).S=(↑p:Int) by omega),zkC],⟨g,?_⟩,by simp only;omega⟩;show false=true↔_;rw[e1];exact⟨fun z=>(by cases z),fun z=>absurd z.1 z1⟩
 ·right;have:k=l.length:=by omega
  subst this;rw[yax]at q2;rw[zkA (by rw[zkK];omega),zkC];cases kn with
  |true=>rw[zkB (q2.1 rfl)]
  |false=>rw[zkA (fun z=>by have:=q2.2 z;cases this)]
theorem first_row(T:Two a b){p0:Nat×Nat}(h1:p0.1<a.Next.length)(h2:p0.2<b.Next.length){i:Nat}{x:(Nat×Nat)×yab}(hi:i<=a.Next.length*b.Next.length)
  (hx:(pB a b p0 (i*a.Inputs.toNat))[i]?=some x) (hd:∀r,r<i*a.Inputs.toNat->difB a b p0 r=false) :
  ∃r,iter (fun(s:List zax×Nat)=>zcn.s85 a b i s.1 s.2) fuel ((pB a b p0 (i*a.Inputs.toNat)).map prC,0)=some r ∧
   ((r=.inl ((pB a b p0 ((i+1)*a.Inputs.toNat)).map prC)∧∀r,r<(i+1)*a.Inputs.toNat->difB a b p0 r=false) ∨
   (∃res,r=.inr (.inr (.inr res))∧Fst a b p0 res)):=by
 have a6:=T.a1.n2;have a7:=T.b1.n2;have hI:=T.a1.i2;have a9:=zt8 T h1 h2 _ x (zkH hx)
 obtain⟨r,hr,hq⟩:=zix (step:=fun(s:List zax×Nat)=>zcn.s85 a b i s.1 s.2) (fun s=>s.2<=a.Inputs.toNat∧s.1=(pB a b p0 (i*a.Inputs.toNat+s.2)).map prC∧∀r,r<i*a.Inputs.toNat+s.2->difB a b p0 r=false) (fun s=>a.Inputs.toNat-s.2) (fun r=>(r=.inl ((pB a b p0 ((i+1)*a.Inputs.toNat)).map prC)∧∀r,r<(i+1)*a.Inputs.toNat->difB a b p0 r=false)∨(∃res,r=.inr (.inr (.inr res))∧Fst a b p0 res)) (fun s ⟨q1,q2,q4⟩=>by
  obtain⟨l,c⟩:=s
  simp only at q1 q2 q4
  subst q2
  simp only[zcn.s85]
  by_cases g:c<a.Inputs.toNat
  ·have a3:=pB_get hx (r:=i*a.Inputs.toNat+c) (by omega)
   obtain⟨g1,_,_,ra,oa,e1,e2,e3,e4⟩:=T.a1.at a9.1 g
   obtain⟨f1,_,_,rb,ob,d1,d2,d3,d4⟩:=T.b1.at a9.2.1 (a:=c) (by rw[<- T.inp];exact g)
   have b0:=big_sum (c:=c) hi a6 a7 (K:=a.Inputs.toNat) (by omega) (by omega)
   have b2:=pB_len T h1 h2 (i*a.Inputs.toNat+c)
   have b3:a.Next.length*b.Next.length<=128*128:=yd3 a6 a7
   have a5:zjs (prC x).Word (↑c:Int)=some (x.2++[(↑c:Int)]):=by
    unfold zjs
    show chk (za3 x.2.length 8) (chk (za3 (x.2.length+1) 8) _)=_
    rw[zaq (by unfold za3;omega),zaq (by unfold za3;omega)]
    rfl
   rw[zkB (by omega),zkD,zao (zl0 a3),a5,zah,zao (zl0 a3),zbw (n:=(prC x).S) (i:=x.1.1) rfl e2,zao e4,zao (zl0 a3),zbw (n:=(prC x).T) (i:=x.1.2) rfl d2,zao d4]
   by_cases a4:ot a x.1.1 c≠ot b x.1.2 c
   ·right
    rw[zkB a4,zkD]
    exact⟨_,rfl,Or.inr ⟨_,rfl,Or.inl ⟨i,c,x,g,a3,a4,q4,rfl⟩⟩⟩
   ·left
    have a8:∀r,r<i*a.Inputs.toNat+(c+1)->difB a b p0 r=false:=fun r hr=>by
     rcases ya6 r (i*a.Inputs.toNat+c) with q|q
     ·exact q4 r q
     ·have:r=i*a.Inputs.toNat+c:=by omega
      rw[this,zqu g a3,zkA a4]
    have a2:=pB_step g a3
    rw[zkA a4,zkC,zao (zl0 a3),zbw (n:=(prC x).S) (i:=x.1.1) rfl e1,zao e3,zao (zl0 a3),zbw (n:=(prC x).T) (i:=x.1.2) rfl d1,zao d3,known_eq (by omega),zah]
    by_cases hm:pE a b x.1 c∈(pB a b p0 (i*a.Inputs.toNat+c)).map Prod.fst
    ·rw[if_pos hm]at a2
     refine⟨((pB a b p0 (i*a.Inputs.toNat+c)).map prC,c+1),by rw[zkB (show(nx a x.1.1 c,nx b x.1.2 c)∈_ from hm),ybh,zkC,zaq (by unfold inR;omega)],⟨g,by simp only;rw[a2],a8⟩,by simp only;omega⟩
    ·rw[if_neg hm]at a2
     refine⟨((pB a b p0 (i*a.Inputs.toNat+c)).map prC++[prC (pE a b x.1 c,x.2++[(↑c:Int)])],c+1),?_,⟨g,by simp only;rw[a2,ya1];rfl,a8⟩,by simp only;omega⟩
     rw[zkA (show ¬(nx a x.1.1 c,nx b x.1.2 c)∈_ from hm),yb7,zkD,zaq (by unfold za3;rw[zkK];omega),zaq (by unfold inR;omega)]
     rfl
  ·right
   have e':c=a.Inputs.toNat:=by omega
   subst e'
   rw[pB_next]
   exact⟨_,by rw[zkA (by omega),zkC],Or.inl ⟨rfl,by rw[yd2];exact q4⟩⟩) ((pB a b p0 (i*a.Inputs.toNat)).map prC,0) ⟨yag _,rfl,hd⟩
 exact⟨r,hr,hq⟩
theorem R09_first_eq(T:Two a b){p0:Nat×Nat}(h1:p0.1<a.Next.length)(h2:p0.2<b.Next.length):∃res,zcn a b (↑p0.1:Int) (↑p0.2:Int)=some res∧Fst a b p0 res:=by
 have a3:=T.a1.n2;have a4:=T.b1.n2;have a6:a.Next.length*b.Next.length<=128*128:=yd3 a3 a4;unfold zcn
 obtain⟨r,hr,hq⟩:=zix (step:=fun(s:List zax×Nat)=>zcn.s86 a b s.1 s.2) (fun s=>s.2<=(pB a b p0 (s.2*a.Inputs.toNat)).length∧s.1=(pB a b p0 (s.2*a.Inputs.toNat)).map prC∧∀r,r<s.2*a.Inputs.toNat->difB a b p0 r=false) (fun s=>a.Next.length*b.Next.length+1-s.2) (fun r=>(r=.inl ()∧Fst a b p0 ([],false))∨∃res,r=.inr res∧Fst a b p0 res) (fun s ⟨q1,q2,q4⟩=>by
  obtain⟨l,i⟩:=s
  simp only at q1 q2 q4
  subst q2
  simp only[zcn.s86]
  have a5:=pB_len T h1 h2 (i*a.Inputs.toNat)
  by_cases g:i<(pB a b p0 (i*a.Inputs.toNat)).length
  ·have hx:=get_at g
   generalize (pB a b p0 (i*a.Inputs.toNat))[i]=x at hx
   obtain⟨r,z1,z2⟩:=first_row T h1 h2 (by omega) hx q4
   rw[zkB (by rw[zkK];omega),zkD,z1,zah]
   rcases z2 with⟨rfl,z4⟩|⟨res,rfl,z3⟩
   ·left
    have a2:=(zm7 (e:=pE a b) (K:=a.Inputs.toNat) (s0:=p0) (show i*a.Inputs.toNat<=(i+1)*a.Inputs.toNat by rw[yd2];omega)).length_le
    exact⟨((pB a b p0 ((i+1)*a.Inputs.toNat)).map prC,i+1),rfl,⟨by simp only;unfold pB at g ⊢;omega,rfl,z4⟩,by simp only;omega⟩
   ·right
    exact⟨.inr res,rfl,Or.inr ⟨res,rfl,z3⟩⟩
  ·right
   refine⟨.inl (),by rw[zkA (by rw[zkK];omega),zkC],Or.inl ⟨rfl,Or.inr ⟨pB a b p0 (i*a.Inputs.toNat),⟨?_⟩,?_,rfl⟩⟩⟩
   ·rw[show(pB a b p0 (i*a.Inputs.toNat)).length=i by omega]
    rfl
   ·rw[show(pB a b p0 (i*a.Inputs.toNat)).length=i by omega]
    exact q4) ([(⟨(↑p0.1:Int),(↑p0.2:Int),[]⟩:zax)],0) ⟨yag _,by simp only;rw[ydz];simp[pB,bfsB,prC],fun r hr=>by simp only at hr;omega⟩
 rw[hr,zah];rcases hq with⟨rfl,hq⟩|⟨res,rfl,hq⟩
 ·exact⟨_,rfl,hq⟩
 ·exact⟨_,rfl,hq⟩
theorem fst_word(T:Two a b){p0:Nat×Nat}(h1:p0.1<a.Next.length)(h2:p0.2<b.Next.length){w:yab}(h:Fst a b p0 (w,true)):WOk a.Inputs w∧w.length<=1048640∧∃(v:yab) (c:Nat),w=v++[(↑c:Int)]∧c<a.Inputs.toNat∧ot a (dest a p0.1 v) c≠ot b (dest b p0.2 v) c:=by
 rcases h with⟨i,c,x,g1,g2,g3,g4,g5⟩|⟨L,_,_,g⟩
 ·injection g5 with g5 _
  have hr:=zt8 T h1 h2 _ x (zkH g2);have a2:=pB_len T h1 h2 (i*a.Inputs.toNat+c);have hi:=(zkI.1 g2).1;have:=big_sum (c:=c+1) (i:=i) (by omega) T.a1.n2 T.b1.n2 (K:=a.Inputs.toNat) (by have:=T.a1.i2;omega) (by have:=T.a1.i2;omega);refine⟨?_,?_,x.2,c,g5,g1,by rw[hr.2.2.2.1,hr.2.2.2.2.1];exact g3⟩
  ·rw[g5];refine WOk.append hr.2.2.2.2.2 fun z hz=>?_;have:z=(↑c:Int):=by simpa using hz
   omega
  ·rw[g5];simp;omega
 ·injection g with _ g
  cases g
theorem outs_snoc{m:zad}{v:yab}{c:Nat}{s:Nat}:outs m s (v++[(↑c:Int)])=outs m s v++[ot m (dest m s v) c]:=by
 rw[zg1];show _++[ot m (dest m s v) (Int.toNat ↑c)]=_;rw[ybf]
theorem fst_ne(T:Two a b){p0:Nat×Nat}(h1:p0.1<a.Next.length)(h2:p0.2<b.Next.length){w:yab}(h:Fst a b p0 (w,true)):outs a p0.1 w≠outs b p0.2 w:=by
 obtain⟨_,_,v,c,rfl,_,h3⟩:=fst_word T h1 h2 h;intro he;rw[outs_snoc,outs_snoc]at he;have:=List.append_inj_right' he rfl;injection this with this _
 exact h3 this
theorem fst_none{p0:Nat×Nat}{w0:yab}(h:Fst a b p0 (w0,false)):∀w,WOk a.Inputs w->outs a p0.1 w=outs b p0.2 w:=by
 rcases h with⟨i,c,x,_,_,_,_,g⟩|⟨L,g1,g2,_⟩
 ·injection g with _ g
  cases g
 ·have key:∀(w:yab) (i:Nat) (x:(Nat×Nat)×yab),L[i]?=some x->WOk a.Inputs w->outs a x.1.1 w=outs b x.1.2 w:=by
   intro w
   induction w with
   |nil=>intro _ _ _ _;rfl
   |cons z w ih =>
    intro i x hx hw;have hz:=hw.head;have hc:z.toNat<a.Inputs.toNat:=by omega
    have hi:=(zkI.1 hx).1;obtain⟨x',e1,e2⟩:=g1.long hi hc;rw[hx]at e1;injection e1 with e1
    subst e1;have hd:=g2 (i*a.Inputs.toNat+z.toNat) (zuk hi hc);rw[zqu hc e2]at hd
    have a2:ot a x.1.1 z.toNat=ot b x.1.2 z.toNat:=yau fun q=>by
     rw[zkB q]at hd;cases hd
    obtain⟨j,y,f1,f2,_⟩:=g1.closed hx hc;have:=ih j y f1 hw.tail;rw[f2]at this;show ot a x.1.1 z.toNat::outs a (nx a x.1.1 z.toNat) w=ot b x.1.2 z.toNat::outs b (nx b x.1.2 z.toNat) w;rw[a2];congr 1
  exact fun w hw=>key w 0 _ g1.first hw
end
end
section
structure Can(M:zad):Prop where
 c4:∀i a u,i<M.Next.length->a<M.Inputs.toNat->0<u->u<=nx M i a->∃i' a',a'<M.Inputs.toNat∧i'*M.Inputs.toNat+a'<=i*M.Inputs.toNat+a∧i'<u∧nx M i' a'=u
 c5:∀u,0<u->u<M.Next.length->∃i a,i<u∧a<M.Inputs.toNat∧nx M i a=u
def Eqv(a:zad)(s:Nat)(b:zad)(t:Nat):Prop:=∀w,WOk a.Inputs w->outs a s w=outs b t w
structure MinSem(m M:zad):Prop where
 ok:zgr M
 inp:M.Inputs=m.Inputs
 start:M.Start=0
 eqv:Eqv M 0 m m.Start.toNat
 min:∀i j,i<M.Next.length->j<M.Next.length->Eqv M i M j->i=j
 can:Can M
section
variable {M M':zad}
end
structure Shape{A:Type}[DecidableEq A](e:A->Nat->A)(o:A->Nat->Int)(L:List (A×yab))(M:zad):Prop where
 len:M.Next.length=L.length
 row:∀i x a,L[i]?=some x->a<M.Inputs.toNat->∃y,L[nx M i a]?=some y∧y.1=e x.1 a∧ot M i a=o x.1 a
end
section
section
variable {m:zad}
structure TrimOk(m t:zad)(L:List (Nat×yab)):Prop where
 end_:MEnd m m.Start.toNat L
 inp:t.Inputs=m.Inputs
 start:t.Start=0
 ok:zgr t
 shape:Shape (nx m) (ot m) L t
end
end
section
section
variable {κ ν:Type}[BEq κ]
end
section
variable {m:zad}{c:yab}
def sigV(m:zad)(c:yab)(s a p:Nat):Int:=if p<a then ot m s p else if 64<=p∧p-64<a then(c[nx m s (p-64)]?).getD 0 else 0
def sigA(m:zad)(c:yab)(s:Nat):yab:=(List.range 128).map (sigV m c s m.Inputs.toNat)
def FirstOcc(o:yab):Prop:=∀(s x:Nat),o[s]?=some (↑x:Int)->∀u:Nat,u<x->∃s',s'<s∧o[s']?=some (↑u:Int)
structure ClsF(m:zad)(k:Nat)(c:yab):Prop where
 cls:ClsOk m k c
 first:FirstOcc c
structure Giv(m:zad)(c:yab)(mp:List (yab×Int))(o:yab)(s:Nat):Prop where
 len:o.length=m.Next.length
 keys:∀p∈mp,p.1.length=128
 le:mp.length<=s
 get:∀s',s'<s->∃x:Nat,x<mp.length∧o[s']?=some (↑x:Int)∧mget (sigA m c s') mp=some (↑x:Int)
 org:∀k v,mget k mp=some v->∃s',s'<s∧sigA m c s'=k
 inj:∀s' s'',s'<s->s''<s->o[s']?=o[s'']?->sigA m c s'=sigA m c s''
 first:∀(s' x:Nat),s'<s->o[s']?=some (↑x:Int)->∀u:Nat,u<x->∃s'',s''<s'∧o[s'']?=some (↑u:Int)
 all:∀u:Nat,u<mp.length->∃s',s'<s∧o[s']?=some (↑u:Int)
open Classical in
open Classical in
end
end
section
section
variable {m t:zad}{c:yab}
def IsFirst(c:yab)(s u:Nat):Prop:=c[s]?=some (↑u:Int)∧∀s',s'<s->c[s']?≠some (↑u:Int)
structure Quo(t M:zad)(c:yab):Prop where
 inp:M.Inputs=t.Inputs
 start:M.Start=0
 len:M.Out.length=M.Next.length
 ub:∀s,s<t.Next.length->∃x:Nat,c[s]?=some (↑x:Int)∧x<M.Next.length
 row:∀u,u<M.Next.length->∃s r o,s<t.Next.length∧IsFirst c s u∧M.Next[u]?=some r∧M.Out[u]?=some o∧r.length=t.Inputs.toNat∧(∀a,a<t.Inputs.toNat->r[a]?=c[nx t s a]?)∧t.Out[s]?=some o
 le:M.Next.length<=t.Next.length
variable {M:zad}
end
end
section
section
variable {m:zad}{c:yab}
def clN(c:yab)(s:Nat):Nat:=((c[s]?).getD 0).toNat
open Classical in
structure Nums(m:zad)(c:yab)(ord:List Nat)(num:yab)(B:List (Nat×yab)):Prop where
 ol:ord.length=B.length
 oc:∀(j u:Nat) (x:Nat×yab),ord[j]?=some u->B[j]?=some x->u<m.Next.length∧clN c u=x.1
 nl:num.length=m.Next.length
 n1:∀(j:Nat) (x:Nat×yab),B[j]?=some x->num[x.1]?=some (↑j:Int)
 n2:∀x:Nat,x<m.Next.length->x∉B.map Prod.fst->num[x]?=some (-1:Int)
end
end
section
section
variable {m M:zad}
open Classical in
structure MinimalP(m:zad):Prop where
 reach:∀s,s<m.Next.length->∃w,WOk m.Inputs w∧dest m m.Start.toNat w=s
 apart:∀i j,i<m.Next.length->j<m.Next.length->Eqv m i m j->i=j
open Classical in
open Classical in
open Classical in
end
end

section
section
variable {m M:zad}{ids:List (yaa)}{front middle:yaa}
structure Parts(M:zad)(front middle:yaa)(ids:List (yaa)):Prop where
 ok:zhi M=0
 il:ids.length=M.Next.length
 is_:∀l∈ids,l.length<=200∧∀x∈l,x.length<=600
 f1:front.length<=200
 f2:∀u∈front,WOk M.Inputs u∧u.length<=200
 m1:middle.length<=200
 m2:∀v∈middle,WOk M.Inputs v∧v.length<=200
end
end
section
section
variable {M I:zad}{sM sI k:Nat}{U:yaa}{T:Nat->yaa}
structure Pass(M I:zad)(sM sI k:Nat)(U:yaa)(T:Nat->yaa):Prop where
 two:Two M I
 hM:sM<M.Next.length
 hI:sI<I.Next.length
 nil:[]∈U
 ok:∀u∈U,WOk M.Inputs u
 cov:∀s,s<M.Next.length->∃u∈U,dest M sM u=s
 tne:∀s,s<M.Next.length->∃x,x∈T s
 tok:∀s,∀x∈T s,WOk M.Inputs x
 sep:∀s s',s<M.Next.length->s'<M.Next.length->s≠s'->∃x,x∈T s∧x∈T s'∧outs M s x≠outs M s' x
 pass:∀u∈U,∀v,WOk M.Inputs v->v.length<=k+1->∀x∈T (dest M sM (u++v)),outs M sM (u++v++x)=outs I sI (u++v++x)
 few:∀l:List Nat,l.Nodup->(∀q∈l,∃w,WOk M.Inputs w∧dest I sI w=q)->l.length<=M.Next.length+k
variable (P:Pass M I sM sI k U T)
include P
end
end
section
section
variable {m b M:zad}
theorem zmw(x:yab):za4 x x=x.length:=by
 induction x with
 |nil=>rfl
 |cons u x ih=>simp[za4,ih]
theorem zyw(c1:zhi m=0)(c2:zhi b=0)(c3:m.Inputs=b.Inputs):zfh m b=some 0:=by
 unfold zfh
 have key:=zb1 (step:=fun(s:Nat)=>zfh.s2 m b s) (r:=(.inl ():Unit⊕Int)) (fun s=>s<=2) (fun s=>2-s) (fun s hs=>by
  simp only[zfh.s2]
  rcases ya6 s 2 with h|h
  ·left
   rcases ya6 s 1 with g|g
   ·have:s=0:=by omega
    subst this
    exact⟨1,by rw[zkB (by omega),zkD,zkB (by omega),zkD,zgj,zah,c1];rfl,by omega,by omega⟩
   ·have:s=1:=by omega
    subst this
    exact⟨2,by rw[zkB (by omega),zkD,zkA (by omega),zkC,zaq (by omega),zgj,zah,c2];rfl,by omega,by omega⟩
  ·right
   rw[zkA (by omega),zkC]) (n:=fuel) (s:=0) (by omega)
 rw[key,zah];show(cond (decide (m.Inputs≠b.Inputs)) (some 15) (some 0):Option Int)=_;rw[zkA (fun h=>h c3),zkC]
end
end
section
structure zr0(l:List zaa):Prop where
 ne:∀t∈l,t.In≠[]
 asc:l.Pairwise (fun a b=>cmpW a.In b.In=-1)
 ap:l.Pairwise (fun a b=>¬a.In <+: b.In)
theorem zed.trs{o:zac}(h:zed o):zr0 o.Traces:=⟨fun t ht=>(h.prop t ht).2,h.pw.1,h.pw.2.imp fun h=>h.1⟩
theorem zr0.one{l:List zaa}(h:zr0 l){a b:zaa}(ha:a∈l)(hb:b∈l)(hp:a.In <+: b.In):a=b:=by
 obtain⟨i,hi,rfl⟩:=ydl ha;obtain⟨j,hj,rfl⟩:=ydl hb;rcases ycd i j with g|g|g
 ·exact absurd hp (ya4.1 h.ap i j hi hj g)
 ·subst g;rfl
 ·exfalso;have hc:=ya4.1 h.asc j i hj hi g;have hl:=hp.length_le;unfold cmpW at hc;rcases Nat.lt_or_eq_of_le hl with q|q
  ·rw[if_neg (by omega),if_pos (by omega)]at hc;cases hc
  ·have e:=hp.eq_of_length q;rw[e]at hc;have:=zfs l[j].In;unfold cmpW at this;rw[this]at hc;cases hc
theorem zr0.add{l:List zaa}(h:zr0 l)(t:zaa):zr0 (addL l t):=by
 unfold addL;by_cases g:zd8 l t.In=true∨t.In=[]
 ·rw[if_pos g];exact h
 ·rw[if_neg g];have h1:=zrp fun e=>g (.inl e);have h2:t.In≠[]:=fun e=>g (.inr e);have a3:(zp4 l t).Sublist l:=ydk
  have a2:∀x∈zp4 l t,x∈l∧¬x.In <+: t.In:=fun x hx=>by
   have:=yc4.1 hx;refine⟨this.1,fun e=>?_⟩;rw[zkB e]at this;exact ybx this.2
  refine⟨fun x hx=>?_,insT_asc (h.asc.sublist a3) fun x hx e=>(a2 x hx).2 (e ▸ yb8 _),zxn (h.ap.sublist a3) fun x hx=>⟨(a2 x hx).2,h1 x (a2 x hx).1⟩⟩;rcases zkf.1 hx with e|e
  ·rw[e];exact h2
  ·exact h.ne x (a2 x e).1
theorem zzl{α:Type}{p:α->Bool}:∀{l:List α},(∀(i j:Nat) (hi:i<l.length) (hj:j<l.length),p l[i]=false->p l[j]=false->i=j)->l.length<=(l.filter p).length+1
 |[],_=>by simp
 |x::l,h=>by
  have ih:l.length<=(l.filter p).length+1:=zzl fun i j hi hj h1 h2=>by
   have:=h (i+1) (j+1) (by simp;omega) (by simp;omega) h1 h2;omega
  cases hx:p x with
  |true=>rw[ye9 hx,zkL,zkL];omega
  |false =>
   have:l.filter p=l:=yd8.2 fun y hy=>by
    obtain⟨j,hj,rfl⟩:=ydl hy;cases e:p l[j]with
    |true=>rfl
    |false =>
     have:=h 0 (j+1) (by simp) (by simp;omega) hx e;omega
   rw[yfa (by rw[hx];exact ybx),this,zkL];omega
theorem addL_up{l:List zaa}(h:zr0 l)(t:zaa):l.length<=(addL l t).length:=by
 unfold addL;split
 ·exact yam _
 ·rw[zq8];refine zzl fun i j hi hj h1 h2=>?_;have p1:l[i].In <+: t.In:=yau fun e=>by rw[zkA e]at h1;cases h1
  have p2:l[j].In <+: t.In:=yau fun e=>by rw[zkA e]at h2;cases h2
  rcases ycd i j with g|g|g
  ·exfalso;rcases yeo p1 p2 with q|q
   ·exact ya4.1 h.ap i j hi hj g q
   ·have e:=h.one (yai hj) (yai hi) q;have:=ya4.1 h.asc i j hi hj g;rw[e,zfs]at this;cases this
  ·exact g
  ·exfalso;rcases yeo p2 p1 with q|q
   ·exact ya4.1 h.ap j i hj hi g q
   ·have e:=h.one (yai hi) (yai hj) q;have:=ya4.1 h.asc j i hj hi g;rw[e,zfs]at this;cases this
section
variable {m:zad}
theorem zso:∀(ws:yaa) (o:zac),zr0 o.Traces->zr0 (zdj m o ws).Traces
 |[],_,h=>h
 |w::ws,o,h=>zso ws ⟨o.Inputs,addL o.Traces (tr m w)⟩ (h.add _)
theorem zw4:∀(ws:yaa) (o:zac),zr0 o.Traces->o.Traces.length<=(zdj m o ws).Traces.length
 |[],_,_=>yam _
 |w::ws,o,h=>yce (addL_up h (tr m w)) (zw4 ws ⟨o.Inputs,addL o.Traces (tr m w)⟩ (h.add _))
theorem zof:∀(ws:yaa) (o:zac),Expl m o->Expl m (zdj m o ws)
 |[],_,h=>h
 |w::ws,o,h=>zof ws ⟨o.Inputs,addL o.Traces (tr m w)⟩ (expl_add h)
theorem zxm:∀(a b:yaa) (o:zac),zdj m o (a++b)=zdj m (zdj m o a) b
 |[],_,_=>rfl
 |_::a,b,_=>zxm a b _
theorem trs_uniq{o p:zac}(ho:zr0 o.Traces)(hp:zr0 p.Traces)(eo:Expl m o)(ep:Expl m p)(hi:o.Inputs=p.Inputs)(h:∀v,Kn o v↔Kn p v):o=p:=by
 have sub:∀{o p:zac},zr0 o.Traces->zr0 p.Traces->(∀v,Kn o v↔Kn p v)->∀x,x∈o.Traces.map (fun t=>t.In)->x∈p.Traces.map (fun t=>t.In):=fun {o p} ho hp h x hx=>by
  obtain⟨t,ht,rfl⟩:=yae.1 hx;rcases (h t.In).1 (.inr ⟨t,ht,yb8 _⟩) with e|⟨u,hu,hq⟩
  ·exact absurd e (ho.ne t ht)
  ·rcases (h u.In).2 (.inr ⟨u,hu,yb8 _⟩) with e|⟨s,hs,hr⟩
   ·exact absurd e (hp.ne u hu)
   ·have:=ho.one ht hs (hq.trans hr);subst this;have e2:t.In=u.In:=hq.eq_of_length (Nat.le_antisymm hq.length_le hr.length_le);exact yae.2 ⟨u,hu,e2.symm⟩
 have a3:o.Traces.map (fun t=>t.In)=p.Traces.map (fun t=>t.In):=zqq (ydf.2 ho.asc) (ydf.2 hp.asc) fun x=>⟨sub ho hp h x,sub hp ho (fun v=>(h v).symm) x⟩
 have a2:∀{o:zac},Expl m o->o.Traces=(o.Traces.map (fun t=>t.In)).map (tr m):=fun {o} eo=>by
  rw[List.map_map]
  have key:∀l:List zaa,(∀t∈l,t.Out=outs m m.Start.toNat t.In)->l=l.map (tr m ∘ fun t=>t.In):=fun l=>by
   induction l with
   |nil=>intro _;rfl
   |cons t l ih =>
    intro h;rw[yat,<- ih fun x hx=>h x (yaj _ hx)];congr 1;show t=⟨t.In,outs m m.Start.toNat t.In⟩;rw[<- h t yb5]
  exact key _ eo
 have:o.Traces=p.Traces:=by rw[a2 eo,a2 ep,a3]
 obtain⟨i,l⟩:=o;obtain⟨j,k⟩:=p;simp only at hi this;rw[hi,this]
end
end
section
section
variable {m:zad}{o:zac}{w:yab}
theorem add_any(H:zgr m)(T:zfi m o)(hw:zbq w m.Inputs=0):addO o (tr m w)=if 10000<(addL o.Traces (tr m w)).length then(o,11) else(⟨o.Inputs,addL o.Traces (tr m w)⟩,0):=by
 have hp:zw0 (tr m w) o.Inputs=0:=zmb.2 (prop_tr H T.inp (by rw[T.inp];exact hw));have hc:¬zqf o.Traces (tr m w):=fun⟨u,hu,h⟩=>h (zy4 (m:=m) (T.ex u hu) rfl);unfold addO;rw[if_neg (by simpa using hp),if_neg hc]
theorem tr_sm(hw:zbq w m.Inputs=0):SmX (tr m w):=by
 have:=zts hw;exact⟨show SmW w by unfold SmW;omega,show SmW (outs m m.Start.toNat w) by unfold SmW;rw[zki];omega⟩
theorem zq6(H:zgr m)(T:zfi m o)(hw:zbq w m.Inputs=0)(hl:(addL o.Traces (tr m w)).length<=10000):zfi m ⟨o.Inputs,addL o.Traces (tr m w)⟩:=by
 have a2:=add_any H T hw;rw[if_neg (by omega)]at a2;have h1:=addO_ok (t:=Sym.tr m w) T.ok;have a3:=T.ok.num;have h2:=addO_tr (t:=Sym.tr m w) T.tr (by omega) (tr_sm hw);rw[a2]at h1 h2;exact⟨h1,h2,expl_add T.ex,T.inp⟩
theorem zru(H:zgr m):∀(ws:yaa) (o:zac),zfi m o->(∀w∈ws,zbq w m.Inputs=0)->(zdj m o ws).Traces.length<=10000->zfi m (zdj m o ws)
 |[],_,T,_,_=>T
 |w::ws,o,T,hw,hl=>by
  have h1:=zw4 (m:=m) ws ⟨o.Inputs,addL o.Traces (tr m w)⟩ (T.ok.trs.add _);have hl:(zdj m ⟨o.Inputs,addL o.Traces (tr m w)⟩ ws).Traces.length<=10000:=hl;exact zru H ws _ (zq6 H T (hw w (by simp)) (by simp only at h1;omega)) (fun x hx=>hw x (by simp[hx])) hl
theorem zoj(H:zgr m)(hv:zca m=some 0){ws:yaa}(T:zfi m o)(hw:∀w∈ws,zbq w m.Inputs=0)(hl:ws.length<=2000000) :
  ((zdj m o ws).Traces.length<=10000->zc7 o m ws=some (zdj m o ws,0))∧(10000<(zdj m o ws).Traces.length->∃q,zc7 o m ws=some (q,11)):=by
 have key:∀(n i:Nat) (o:zac),zfi m o->i<=ws.length->ws.length-i<n->∃r,iter (fun(s:Int×List zaa×Nat)=>zc7.s2 m ws s.1 s.2.1 s.2.2) n (o.Inputs,o.Traces,i)=some r∧((zdj m o (ws.drop i)).Traces.length<=10000->r=.inl ((zdj m o (ws.drop i)).Inputs,(zdj m o (ws.drop i)).Traces))∧(10000<(zdj m o (ws.drop i)).Traces.length->∃q,r=.inr (q,11)):=by
  intro n
  induction n with
  |zero=>intro i o _ _ h;omega
  |succ n ih =>
   intro i o T hi hn;unfold iter;simp only[zc7.s2];rcases ya6 i ws.length with h|h
   ·have hx:=get_at h;have hc:=hw _ (yai h);have ho:(⟨o.Inputs,o.Traces⟩:zac)=o:=rfl;rw[zbr hx,zkD,zao hx,R06_Run_eq H hv hc,zah];simp only;rw[zkA (by decide),zkC,zao hx,ho,show(⟨ws[i],outs m m.Start.toNat ws[i]⟩:zaa)=Sym.tr m ws[i] from rfl,R16_Add_eq T.tr T.ok (tr_sm hc),zah,add_any H T hc,ybr h];unfold zdj;by_cases g:10000<(addL o.Traces (Sym.tr m ws[i])).length
    ·rw[if_pos g];simp only;rw[zkB (by decide),zkD];have h1:=zw4 (m:=m) (ws.drop (i+1)) ⟨o.Inputs,addL o.Traces (Sym.tr m ws[i])⟩ (T.ok.trs.add _);simp only at h1;exact⟨_,rfl,fun h2=>by omega,fun _=>⟨_,rfl⟩⟩
    ·rw[if_neg g];simp only;rw[zkA (by decide),zkC];exact ih (i+1) ⟨o.Inputs,addL o.Traces (Sym.tr m ws[i])⟩ (zq6 H T hc (by omega)) h (by omega)
   ·have e:i=ws.length:=by omega
    subst e;have a2:=T.ok.num;rw[zc6,zkC,ycw];exact⟨_,rfl,fun _=>rfl,fun h2=>by unfold zdj at h2;omega⟩
 obtain⟨r,e,h1,h2⟩:=key fuel 0 o T (yag _) (by have:=zc2;omega);unfold zc7;rw[e,zah];refine⟨fun h=>?_,fun h=>?_⟩
 ·rw[h1 h];rfl
 ·obtain⟨q,rfl⟩:=h2 h;exact⟨q,rfl⟩
theorem zuw(hv:zhi m=0){ws:yaa}(hw:∀w∈ws,zbq w m.Inputs=0):zec m ws=some (if 10000<ws.length then([],11) else(ws.map (tr m),0)):=by
 have H:=zpw hv;have a2:=H.st;unfold zec;rw[zgj,zah,hv,zkA (by decide),zkC];by_cases g:10000<ws.length
 ·rw[zkB (by omega),zkD,if_pos g]
 ·rw[zkA (by omega),zkC,if_neg g]
  have key:=zb1 (step:=fun(s:List zaa×Nat)=>zec.s2 m ws s.1 s.2) (r:=.inl (ws.map (tr m))) (fun s=>s.2<=ws.length∧s.1=(ws.take s.2).map (tr m)) (fun s=>ws.length-s.2) (fun⟨y,i⟩ ⟨g1,g2⟩=>by
   simp only at g1 g2
   subst g2
   simp only[zec.s2]
   by_cases h:i<ws.length
   ·left
    have hx:=get_at h
    have hc:=hw _ (yai h)
    have hl:=zts hc
    have hs:m.Start=(↑m.Start.toNat:Int):=by omega
    refine⟨((ws.take (i+1)).map (tr m),i+1),?_,⟨h,rfl⟩,by simp only;omega⟩
    have hr:=runner_eq H (s:=m.Start.toNat) (by omega) (w:=ws[i]) (zjn hc) (by omega)
    rw[<- hs]at hr
    rw[zbr hx,zkD,zao hx,zfy _ _ (by unfold SmW;omega),zah,hc,zkA (by decide),zkC,zfx (by unfold SmW;omega),zah,hr,zah,zaq (by rw[zkK,yaf];unfold za3;omega),zbc hx,ya1]
    rfl
   ·right
    rw[zkA (by omega),zkC,ybe (by omega)]) (n:=fuel) (s:=([],0)) ⟨yag _,rfl⟩
  rw[key,zah];rfl
theorem zpd(H:zgr m){ws:yaa}(T:zfi m o)(hw:∀w∈ws,zbq w m.Inputs=0)(hl:ws.length<=2000000) :
  ((zdj m o ws).Traces.length<=10000->zdx o (ws.map (tr m))=some (zdj m o ws,0))∧(10000<(zdj m o ws).Traces.length->∃q,zdx o (ws.map (tr m))=some (q,11)):=by
 have key:∀(n i:Nat) (p:zac),zfi m p->p.Inputs=o.Inputs->i<=ws.length->ws.length-i<n->∃r,iter (fun(s:List zaa×Nat)=>zdx.s2 o (ws.map (tr m)) s.1 s.2) n (p.Traces,i)=some r∧((zdj m p (ws.drop i)).Traces.length<=10000->r=.inl (zdj m p (ws.drop i)).Traces)∧(10000<(zdj m p (ws.drop i)).Traces.length->∃q,r=.inr (q,11)):=by
  intro n
  induction n with
  |zero=>intro i p _ _ _ h;omega
  |succ n ih =>
   intro i p P hp hi hn;unfold iter;simp only[zdx.s2];rcases ya6 i ws.length with h|h
   ·have hx:(ws.map (tr m))[i]?=some (tr m ws[i]):=by rw[yan,get_at h];rfl
    have hc:=hw _ (yai h);have a4:=tr_sm hc;have a2:zw0 (tr m ws[i]) o.Inputs=0:=zmb.2 (prop_tr H T.inp (by rw[T.inp];exact hc));have a3:¬zqf p.Traces (tr m ws[i]):=fun⟨u,hu,h⟩=>h (zy4 (m:=m) (P.ex u hu) rfl);rw[zbr hx,zkD,zao hx,ztw _ _ a4.1 a4.2,zah,a2,zkA (by decide),zkC,zyx P.tr P.ok a4 (by rw[hp];exact zmb.1 a2),zah,if_neg a3,ybr h];unfold zdj;by_cases g:10000<(addL p.Traces (Sym.tr m ws[i])).length
    ·rw[if_pos g];simp only;rw[zkB (by decide),zkD];have h1:=zw4 (m:=m) (ws.drop (i+1)) ⟨p.Inputs,addL p.Traces (Sym.tr m ws[i])⟩ (P.ok.trs.add _);simp only at h1;exact⟨_,rfl,fun h2=>by omega,fun _=>⟨_,rfl⟩⟩
    ·rw[if_neg g];simp only;rw[zkA (by decide),zkC];exact ih (i+1) ⟨p.Inputs,addL p.Traces (Sym.tr m ws[i])⟩ (zq6 H P hc (by omega)) hp h (by omega)
   ·have e:i=ws.length:=by omega
    have a5:=P.ok.num;rw[zkA (by rw[zkK];omega),zkC,e,ycw];exact⟨_,rfl,fun _=>rfl,fun h2=>by unfold zdj at h2;omega⟩
 obtain⟨r,e,h1,h2⟩:=key fuel 0 o T rfl (yag _) (by have:=zc2;omega);unfold zdx;rw[zuu T.tr,zah,e,zah];refine⟨fun h=>?_,fun h=>?_⟩
 ·rw[h1 h];show some ((⟨o.Inputs,(zdj m o ws).Traces⟩:zac),(0:Int))=_;rw[<- zk1 (m:=m) ws o]
 ·obtain⟨q,rfl⟩:=h2 h;exact⟨q,rfl⟩
theorem none_told(hi:1<=m.Inputs∧m.Inputs<=64):zfi m ⟨m.Inputs,[]⟩:=⟨obsOk_of hi (by simp) (fun t ht=>by simp at ht) List.Pairwise.nil List.Pairwise.nil,⟨by simp,fun t ht=>by cases ht⟩,fun t ht=>by simp at ht,rfl⟩
theorem zo1(hv:zhi m=0){ws:yaa}(T:zfi m o)(hw:∀w∈ws,zbq w m.Inputs=0)(hl:ws.length<=2000000)(hm:10000<ws.length->10000<(zdj m o ws).Traces.length) :
  ((zdj m o ws).Traces.length<=10000->zbt m o ws=some (zdj m o ws,0))∧(10000<(zdj m o ws).Traces.length->∃q,zbt m o ws=some (q,11)):=by
 have H:=zpw hv;have T0:=none_told (m:=m) ⟨H.i1,H.i2⟩;unfold zbt zpz;rw[zuw hv hw];by_cases g:10000<ws.length
 ·have h:=hm g;rw[if_pos g];exact⟨fun h2=>by omega,fun _=>⟨_,rfl⟩⟩
 rw[if_neg g,zah];simp only;rw[zkA (by decide),zkC];obtain⟨a1,a2⟩:=zpd H T0 hw hl;have a4:=zso (m:=m) ws o T.ok.trs;have a7:=zso (m:=m) ws ⟨m.Inputs,[]⟩ T0.ok.trs;have a6:=zof (m:=m) ws o T.ex;have a8:=zof (m:=m) ws ⟨m.Inputs,[]⟩ T0.ex
 -- what is told to both in either order
 have key:∀W:yaa,(∀v,(∃w∈W,v <+: w)->∃w∈ws,v <+: w)->(∀w∈ws,w=[]∨∃x∈W,w <+: x)->zdj m o W=zdj m o ws:=fun W h1 h2=>by
  refine trs_uniq (zso W o T.ok.trs) a4 (zof W o T.ex) a6 (by rw[zk1,zk1]) fun v=>?_;rw[zm0,zm0];constructor
  ·rintro (h|h)
   ·exact .inl h
   ·exact .inr (h1 v h)
  ·rintro (h|⟨w,hw,h⟩)
   ·exact .inl h
   ·rcases h2 w hw with e|⟨x,hx,hp⟩
    ·rw[e]at h;exact .inl (.inl (List.prefix_nil.1 h))
    ·exact .inr ⟨x,hx,h.trans hp⟩
 by_cases g0:10000<(zdj m ⟨m.Inputs,[]⟩ ws).Traces.length
 ·obtain⟨q,e⟩:=a2 g0
  have a9:10000<(zdj m o ws).Traces.length:=by
   have e1:zdj m ⟨m.Inputs,[]⟩ (ws++o.Traces.map fun t=>t.In)=zdj m o ws:=by
    refine trs_uniq (zso _ _ T0.ok.trs) a4 (zof _ _ T0.ex) a6 (by rw[zk1,zk1,T.inp]) fun v=>?_;rw[zm0,zm0];unfold Kn;simp only[List.not_mem_nil,false_and,exists_false,or_false,yak,yae];constructor
    ·rintro (h|⟨w,hw|⟨t,ht,rfl⟩,hp⟩)
     ·exact .inl (.inl h)
     ·exact .inr ⟨w,hw,hp⟩
     ·exact .inl (.inr ⟨t,ht,hp⟩)
    ·rintro ((h|⟨t,ht,hp⟩)|⟨w,hw,hp⟩)
     ·exact .inl h
     ·exact .inr ⟨t.In,.inr ⟨t,ht,rfl⟩,hp⟩
     ·exact .inr ⟨w,.inl hw,hp⟩
   rw[zxm]at e1;have:=zw4 (m:=m) (o.Traces.map fun t=>t.In) _ a7;rw[e1]at this;omega
  rw[e,zah];simp only;rw[zkB (by decide),zkD,zah];simp only;rw[zkB (by decide),zkD];exact⟨fun h=>by omega,fun _=>⟨_,rfl⟩⟩
 ·rw[a1 (by omega),zah];simp only;rw[zkA (by decide),zkC,zah];simp only;rw[zkA (by decide),zkC];unfold zkd;rw[zkA (by rw[zk1,T.inp];exact fun h=>h rfl),zkC]
  -- its traces are words
  have eT:(zdj m ⟨m.Inputs,[]⟩ ws).Traces=((zdj m ⟨m.Inputs,[]⟩ ws).Traces.map fun t=>t.In).map (tr m):=by
   rw[List.map_map]
   have kk:∀l:List zaa,(∀t∈l,t.Out=outs m m.Start.toNat t.In)->l=l.map (tr m ∘ fun t=>t.In):=fun l=>by
    induction l with
    |nil=>intro _;rfl
    |cons t l ih =>
     intro h;rw[yat,<- ih fun x hx=>h x (yaj _ hx)];congr 1;show t=⟨t.In,outs m m.Start.toNat t.In⟩;rw[<- h t yb5]
   exact kk _ a8
  have a5:∀x∈(zdj m ⟨m.Inputs,[]⟩ ws).Traces.map (fun t=>t.In),x∈ws:=fun x hx=>by
   obtain⟨t,ht,rfl⟩:=yae.1 hx;rcases zwf ws _ ht with h|h
   ·cases h
   ·exact h
  have eW:=key ((zdj m ⟨m.Inputs,[]⟩ ws).Traces.map fun t=>t.In) (fun v ⟨w,a3,hp⟩=>⟨w,a5 w a3,hp⟩) (fun w a3=>by
   rcases (zm0 (m:=m) (v:=w) ws ⟨m.Inputs,[]⟩).2 (.inr ⟨w,a3,yb8 _⟩) with h|⟨t,ht,hp⟩
   ·exact .inl h
   ·exact .inr ⟨t.In,yae.2 ⟨t,ht,rfl⟩,hp⟩)
  obtain⟨b1,b2⟩:=zpd H T (ws:=(zdj m ⟨m.Inputs,[]⟩ ws).Traces.map fun t=>t.In) (fun w a3=>hw w (a5 w a3)) (by rw[zkK];omega);rw[eW]at b1 b2;rw[eT];refine⟨fun h=>?_,fun h=>?_⟩
  ·rw[b1 h];rfl
  ·obtain⟨q,e⟩:=b2 h;exact⟨q,by rw[e];rfl⟩
end
end
section
section
variable {m b M:zad}
theorem R09_Check_eq(m b:zad):zo5 m b=some (if zhi m≠0 then zhi m else if zhi b≠0 then zhi b else if m.Inputs≠b.Inputs then 15 else 0):=by
 unfold zo5;rw[zfv,zah];by_cases c1:zhi m=0
 ·rw[zkA (fun h=>h c1),zkC,if_neg (fun h=>h c1),zfv,zah];by_cases c2:zhi b=0
  ·rw[zkA (fun h=>h c2),zkC,if_neg (fun h=>h c2)];by_cases c3:m.Inputs=b.Inputs
   ·rw[zkA (fun h=>h c3),zkC,if_neg (fun h=>h c3)]
   ·rw[zkB c3,zkD,if_pos c3]
  ·rw[zkB c2,zkD,if_pos c2]
 ·rw[zkB c1,zkD,if_pos c1]
end
end

section
section
variable {m b:zad}
end
end
section
section
variable {m:zad}
open Classical in
end
end
section
section
variable {m:zad}
end
end
section
structure Known(mp:List (ByteArray×Bool))(out:yaa):Prop where
 nd:out.Nodup
 le:out.length<=10000
 get:∀w:yab,(mget (⟨(keyL w).toArray⟩:ByteArray) mp).getD false=decide (w∈out)
section
variable {p q:yaa}
end
end
section
section
variable {p q:yaa}
end
end
def zhr(o:zac)(w:yab)(S:yaa):yaa:=(S.map fun e=>w++e).filter fun v=>(ansO o v).isNone
theorem zzm{o:zac}{w e:yab}{S:yaa}{k:Nat}(h:S[k]?=some e):zhr o w (S.take (k+1))=zhr o w (S.take k)++(if(ansO o (w++e)).isNone=true then [w++e] else []):=by
 unfold zhr;rw[zbc h,ya1,ydc];simp only[yat,ydb,yel,List.filter_nil]
theorem zkx(o:zac)(w:yab)(S:yaa):(zhr o w S).length<=S.length:=by
 unfold zhr;have:=yc1 (fun v=>(ansO o v).isNone) (S.map fun e=>w++e);rw[zkK]at this;exact this
theorem zkv{o:zac}{w v:yab}{S:yaa}:v∈zhr o w S↔(∃e∈S,v=w++e)∧ansO o v=none:=by
 unfold zhr;rw[yc4,yae,Option.isNone_iff_eq_none];constructor
 ·rintro⟨⟨e,he,rfl⟩,h⟩;exact⟨⟨e,he,rfl⟩,h⟩
 ·rintro⟨⟨e,he,rfl⟩,h⟩;exact⟨⟨e,he,rfl⟩,h⟩
theorem zxw{o:zac}{F:List zaa}{w:yab}(ho:SmO o)(hv:zed o)(hF:zuc o F):zfc F w=some (ansO o w).isSome:=by
 unfold zfc;rw[znz ho hv hF,zah];cases ansO o w<;>rfl
theorem zvp{o:zac}{F:List zaa}{t:zab}{w:yab}{y:yaa}(ho:SmO o)(hv:zed o)(hF:zuc o F)(hS:SmL t.Suffixes)(hw:SmW w)(hy:y.length+t.Suffixes.length<=3000000):zcw w t F y=some (y++zhr o w t.Suffixes):=by
 have a6:t.Suffixes.length<=2000000:=hS.1;have a5:w.length<=2000000:=hw;unfold zcw
 have key:=zb1 (step:=fun(s:yaa×Nat)=>zcw.s2 w t F s.1 s.2) (r:=y++zhr o w t.Suffixes) (fun s=>s.2<=t.Suffixes.length∧s.1=y++zhr o w (t.Suffixes.take s.2)) (fun s=>t.Suffixes.length-s.2) (fun s ⟨g1,g2⟩=>by
  obtain⟨z,k⟩:=s
  simp only at g1 g2
  subst g2
  simp only[zcw.s2]
  by_cases g4:k<t.Suffixes.length
  ·left
   have hx:=get_at g4
   have a4:t.Suffixes[k].length<=2000000:=hS.2 _ (yai _)
   have a2:=zzm (o:=o) (w:=w) hx
   have a3:=zkx o w (t.Suffixes.take k)
   rw[yaf]at a3
   refine⟨(y++zhr o w (t.Suffixes.take (k+1)),k+1),?_,⟨by simp only;omega,rfl⟩,by simp only;omega⟩
   rw[zbr hx,zkD,zao hx,zif _ (by simp) (by simp;omega),zah,a2]
   simp only[ybm,ye4,ybd]
   rw[zxw ho hv hF,zah]
   cases ha:ansO o (w++t.Suffixes[k]) with
   |none =>
    simp only[ydr,yb7,zkD,Option.isNone_none,if_true]
    rw[zaq (by rw[zkJ];unfold za3;omega),ybk]
   |some r=>simp
  ·right
   have e:k=t.Suffixes.length:=by omega
   subst e
   rw[zkA (by omega),zkC,yax]) (n:=fuel) (s:=(y,0)) ⟨yag _,by simp[zhr]⟩
 rw[key,zah]
theorem zje{w:yab}{a:Int}(hw:SmW w):zfe w a=some (w++[a]):=by
 have a2:w.length<=2000000:=hw;unfold zfe;rw[zif _ (by simp) (by simp;omega),zah];simp
structure zh3(t:zab):Prop where
 sm:SmT t
 n:t.Inputs<=4
 p:t.Prefixes.length<=600
 s:t.Suffixes.length<=600
 pw:∀x∈t.Prefixes,x.length<=80
 sw:∀x∈t.Suffixes,x.length<=80
def zfz(n:Nat)(p:yab):yaa:=p::(List.range n).map fun(a:Nat)=>p++[(↑a:Int)]
def zd7(o:zac)(t:zab)(P:yaa):yaa:=P.flatMap fun p=>(zfz t.Inputs.toNat p).flatMap fun w=>zhr o w t.Suffixes
theorem zwo{t:zab}{o:zac}(ht:zh3 t)(ho:SmO o)(hv:zed o):zcc t o=some (if chkT t o≠0 then([],chkT t o) else(maxR (zd7 o t t.Prefixes),0)):=by
 obtain⟨F,a9,hF⟩:=zsq ho hv;have hn:=ht.n;have hp:=ht.p;have hs:=ht.s;have hS:=ht.sm.2.2.1;unfold zcc;rw[zp9 ht.sm,zah];by_cases h:chkT t o=0
 ·rw[zkA (by simpa using h),zkC,if_neg (by simpa using h),a9,zah]
  have a3:∀(p:yab) (y:yaa),SmW p->p.length<=1000000->y.length<=2500000->iter (fun(s:yaa×Nat)=>zcc.s13 t F p s.1 s.2) fuel (y,0)=some (y++((List.range t.Inputs.toNat).map fun(a:Nat)=>p++[(↑a:Int)]).flatMap fun w=>zhr o w t.Suffixes) ∧
    (((List.range t.Inputs.toNat).map fun(a:Nat)=>p++[(↑a:Int)]).flatMap fun w=>zhr o w t.Suffixes).length<=2400:=by
   intro p y a8 b2 hy
   have a2:∀k,k<=t.Inputs.toNat->(((List.range k).map fun(a:Nat)=>p++[(↑a:Int)]).flatMap fun w=>zhr o w t.Suffixes).length<=600*k:=by
    intro k
    induction k with
    |zero=>intro _;simp
    |succ k ih =>
     intro hk;rw[ycr,ya1,yb1,zkJ];have:=ih (by omega);have:=zkx o (p++[(↑k:Int)]) t.Suffixes;simp only[yat,ydb,ya9,yc8,ybd];omega
   refine⟨zb1 (fun s=>s.2<=t.Inputs.toNat∧s.1=y++((List.range s.2).map fun(a:Nat)=>p++[(↑a:Int)]).flatMap fun w=>zhr o w t.Suffixes) (fun s=>t.Inputs.toNat-s.2) (fun s ⟨g1,g2⟩=>?_) ⟨yag _,by simp⟩,by have:=a2 t.Inputs.toNat (yam _);omega⟩;obtain⟨z,k⟩:=s;simp only at g1 g2;subst g2;simp only[zcc.s13];by_cases g4:k<t.Inputs.toNat
   ·left;have hl:=a2 k (by omega);refine⟨(y++((List.range (k+1)).map fun(a:Nat)=>p++[(↑a:Int)]).flatMap fun w=>zhr o w t.Suffixes,k+1),?_,⟨g4,rfl⟩,by simp only;omega⟩;rw[zkB (by omega),zkD,zje a8,zah,zvp ho hv hF hS (by show(p++[(↑k:Int)]).length<=2000000;simp;omega) (by rw[zkJ];omega),zah,zaq (by unfold inR;omega)];rw[ycr,ya1,yb1];simp
   ·right;have e:k=t.Inputs.toNat:=by omega
    subst e;rw[zkA (by omega),zkC]
  have key:=zb1 (step:=fun(s:yaa×Nat)=>zcc.s14 t F s.1 s.2) (r:=zd7 o t t.Prefixes) (fun s=>s.2<=t.Prefixes.length∧s.1.length<=3000*s.2∧s.1=zd7 o t (t.Prefixes.take s.2)) (fun s=>t.Prefixes.length-s.2) (fun s ⟨g1,g0,g2⟩=>by
   obtain⟨z,k⟩:=s
   simp only at g1 g0 g2
   subst g2
   simp only[zcc.s14]
   by_cases g4:k<t.Prefixes.length
   ·left
    have hx:=get_at g4
    have a5:SmW t.Prefixes[k]:=ht.sm.2.1.2 _ (yai _)
    have b3:=ht.pw _ (yai g4)
    have b4:=zkx o t.Prefixes[k] t.Suffixes
    obtain⟨i1,i2⟩:=a3 t.Prefixes[k] (zd7 o t (t.Prefixes.take k)++zhr o t.Prefixes[k] t.Suffixes) a5 (by omega) (by rw[zkJ];omega)
    have a4:zd7 o t (t.Prefixes.take (k+1))=zd7 o t (t.Prefixes.take k)++zhr o t.Prefixes[k] t.Suffixes++((List.range t.Inputs.toNat).map fun(a:Nat)=>t.Prefixes[k]++[(↑a:Int)]).flatMap fun w=>zhr o w t.Suffixes:=by
     unfold zd7 zfz
     rw[zbc hx,yb1]
     simp[ybk]
    refine⟨(zd7 o t (t.Prefixes.take (k+1)),k+1),?_,⟨g4,?_,rfl⟩,by simp only;omega⟩
    ·rw[zbr hx,zkD,zao hx,zvp ho hv hF hS a5 (by omega),zah,i1,zah,a4]
    ·simp only
     rw[a4,zkJ,zkJ]
     omega
   ·right
    have e:k=t.Prefixes.length:=by omega
    subst e
    rw[zkA (by omega),zkC,yax]) (n:=fuel) (s:=([],0)) ⟨yag _,by simp,by simp[zd7]⟩
  have hN:SmL (zd7 o t t.Prefixes):=by
   refine⟨?_,fun v a6=>?_⟩
   ·have hb:∀P:yaa,(zd7 o t P).length<=3000*P.length:=by
     intro P
     induction P with
     |nil=>simp[zd7]
     |cons p P ih =>
      unfold zd7 at ih ⊢;rw[ya9,zkJ,zkL]
      have hw:((zfz t.Inputs.toNat p).flatMap fun w=>zhr o w t.Suffixes).length<=600*(zfz t.Inputs.toNat p).length:=by
       generalize zfz t.Inputs.toNat p=X
       induction X with
       |nil=>simp
       |cons w X ih2 =>
        have:=zkx o w t.Suffixes;rw[ya9,zkJ,zkL];omega
      have b0:(zfz t.Inputs.toNat p).length=t.Inputs.toNat+1:=by simp[zfz]
      rw[b0]at hw;omega
    have:=hb t.Prefixes;omega
   ·unfold zd7 at a6;obtain⟨p,a7,h2⟩:=ya2.1 a6;obtain⟨w,hw,h3⟩:=ya2.1 h2;obtain⟨⟨e,he,rfl⟩,_⟩:=zkv.1 h3;have h4:=ht.pw p a7;have h5:=ht.sw e he
    have h6:w.length<=81:=by
     unfold zfz at hw;rcases yap.1 hw with rfl|hw
     ·omega
     ·obtain⟨a,_,rfl⟩:=yae.1 hw;simp;omega
    unfold SmW;rw[zkJ];omega
  rw[key,zah,zrq hN,zah]
 ·rw[zkB h,zkD,if_pos h]
def extL(t:zab):yaa:=t.Prefixes.flatMap fun p=>(List.range t.Inputs.toNat).map fun(a:Nat)=>p++[(↑a:Int)]
theorem zmj{t:zab}(ht:zh3 t):zbu t=some (sortW (extL t))∧SmL (extL t):=by
 have hn:=ht.n;have hp:=ht.p
 have a2:∀P:yaa,(P.flatMap fun p=>(List.range t.Inputs.toNat).map fun(a:Nat)=>p++[(↑a:Int)]).length<=4*P.length:=by
  intro P
  induction P with
  |nil=>simp
  |cons p P ih =>
   rw[ya9,zkJ,zkL,zkK,yb9];omega
 have hE:SmL (extL t):=by
  refine⟨by have:=a2 t.Prefixes;unfold extL;omega,fun v hv=>?_⟩;obtain⟨p,a4,h2⟩:=ya2.1 hv;obtain⟨a,_,rfl⟩:=yae.1 h2;have:=ht.pw p a4;unfold SmW;simp;omega
 refine⟨?_,hE⟩;unfold zbu
 have key:=zb1 (step:=fun(s:yaa×Nat)=>zbu.s14 t s.1 s.2) (r:=extL t) (fun s=>s.2<=t.Prefixes.length∧s.1=(t.Prefixes.take s.2).flatMap fun p=>(List.range t.Inputs.toNat).map fun(a:Nat)=>p++[(↑a:Int)]) (fun s=>t.Prefixes.length-s.2) (fun s ⟨g1,g2⟩=>by
  obtain⟨z,k⟩:=s
  simp only at g1 g2
  subst g2
  simp only[zbu.s14]
  by_cases g4:k<t.Prefixes.length
  ·left
   have hx:=get_at g4
   have a5:SmW t.Prefixes[k]:=ht.sm.2.1.2 _ (yai _)
   have hl:=a2 (t.Prefixes.take k)
   rw[yaf]at hl
   generalize hz:((t.Prefixes.take k).flatMap fun p=>(List.range t.Inputs.toNat).map fun(a:Nat)=>p++[(↑a:Int)])=z at hl
   have a3:=zb1 (step:=fun(s:yaa×Nat)=>zbu.s13 t k s.1 s.2) (r:=z++(List.range t.Inputs.toNat).map fun(a:Nat)=>t.Prefixes[k]++[(↑a:Int)]) (fun s=>s.2<=t.Inputs.toNat∧s.1=z++(List.range s.2).map fun(a:Nat)=>t.Prefixes[k]++[(↑a:Int)]) (fun s=>t.Inputs.toNat-s.2) (fun s ⟨q1,q2⟩=>by
    obtain⟨u,j⟩:=s
    simp only at q1 q2
    subst q2
    simp only[zbu.s13]
    by_cases q4:j<t.Inputs.toNat
    ·left
     refine⟨(z++(List.range (j+1)).map fun(a:Nat)=>t.Prefixes[k]++[(↑a:Int)],j+1),?_,⟨q4,rfl⟩,by simp only;omega⟩
     rw[zkB (by omega),zkD,zao hx,zeo a5 (by simp[SmW]),zah,zaq (by rw[zkJ,zkK,yb9];unfold za3;omega),zaq (by unfold inR;omega),ycr,ya1]
     simp
    ·right
     have e:j=t.Inputs.toNat:=by omega
     subst e
     rw[zkA (by omega),zkC]) (n:=fuel) (s:=(z,0)) ⟨yag _,by simp⟩
   refine⟨(z++(List.range t.Inputs.toNat).map fun(a:Nat)=>t.Prefixes[k]++[(↑a:Int)],k+1),?_,⟨g4,?_⟩,by simp only;omega⟩
   ·rw[zbr hx,zkD,a3,zah]
   ·simp only
    rw[zbc hx,yb1,hz]
    simp
  ·right
   have e:k=t.Prefixes.length:=by omega
   subst e
   rw[zkA (by omega),zkC,yax]
   rfl) (n:=fuel) (s:=([],0)) ⟨yag _,by simp⟩
 rw[key,zah,zni hE,zah]
theorem zrg{t:zab}{o:zac}(ht:zh3 t)(ho:SmO o)(hv:zed o):zc3 t o=some (if chkT t o≠0 then([],chkT t o) else(maxR (zd7 o t t.Prefixes),0)):=by
 have hn:=ht.n;have hp:=ht.p;have hs:=ht.s;have hS:=ht.sm.2.2.1;obtain⟨b4,a6⟩:=zmj ht;unfold zc3;rw[R23_Check_eq ht.sm,zah];by_cases h:chkT t o=0
 ·rw[zkA (by simpa using h),zkC,if_neg (by simpa using h),b4,zah];have b2:=zh6 a6
  have b6:(sortW (extL t)).length<=2400:=by
   have h1:=zdd (extL t)
   have:(extL t).length<=4*t.Prefixes.length:=by
    unfold extL;generalize t.Prefixes=P
    induction P with
    |nil=>simp
    |cons p P ih =>
     rw[ya9,zkJ,zkL,zkK,yb9];omega
   omega
  rw[zom (by simp) (by rw[zjk];exact zie (by omega) ht.sm.2.1 b2),zjk,zah]
  have a2:∀x,x∈sortW (t.Prefixes++sortW (extL t))↔∃p∈t.Prefixes,x∈zfz t.Inputs.toNat p:=fun x=>by
   rw[zcq,yak,zcq];unfold extL zfz;constructor
   ·rintro (h|h)
    ·exact⟨x,h,by simp⟩
    ·obtain⟨p,hp,h2⟩:=ya2.1 h;exact⟨p,hp,yaj _ h2⟩
   ·rintro⟨p,hp,h⟩;rcases yap.1 h with rfl|h
    ·exact Or.inl hp
    ·exact Or.inr (ya2.2 ⟨p,hp,h⟩)
  have b0:(sortW (t.Prefixes++sortW (extL t))).length<=3000:=by
   have:=zdd (t.Prefixes++sortW (extL t));rw[zkJ]at this;omega
  have a4:∀x∈sortW (t.Prefixes++sortW (extL t)),x.length<=81:=fun x hx=>by
   obtain⟨p,a8,h2⟩:=(a2 x).1 hx;have:=ht.pw p a8;unfold zfz at h2;rcases yap.1 h2 with rfl|h2
   ·omega
   ·obtain⟨a,_,rfl⟩:=yae.1 h2;simp;omega
  generalize sortW (t.Prefixes++sortW (extL t))=U at a2 b0 a4
  have hb:∀k,((U.take k).flatMap fun w=>zhr o w t.Suffixes).length<=600*k:=by
   intro k
   induction k with
   |zero=>simp
   |succ k ih =>
    by_cases hk:k<U.length
    ·have hx:=get_at hk;have:=zkx o U[k] t.Suffixes;rw[zbc hx,yb1,zkJ];simp only[ya9,yc8,ybd];omega
    ·rw[ybe (by omega)];rw[ybe (by omega)]at ih;omega
  have key:=zb1 (step:=fun(s:yaa×Nat)=>zc3.s14 t o U s.1 s.2) (r:=U.flatMap fun w=>zhr o w t.Suffixes) (fun s=>s.2<=U.length∧s.1=(U.take s.2).flatMap fun w=>zhr o w t.Suffixes) (fun s=>U.length-s.2) (fun s ⟨g1,g2⟩=>by
   obtain⟨z,i⟩:=s
   simp only at g1 g2
   subst g2
   simp only[zc3.s14]
   by_cases g4:i<U.length
   ·left
    have hx:=get_at g4
    have b7:=a4 _ (yai g4)
    have hl:=hb i
    generalize hz:((U.take i).flatMap fun w=>zhr o w t.Suffixes)=z at hl
    have a3:=zb1 (step:=fun(s:yaa×Nat)=>zc3.s13 t o U i s.1 s.2) (r:=z++zhr o U[i] t.Suffixes) (fun s=>s.2<=t.Suffixes.length∧s.1=z++zhr o U[i] (t.Suffixes.take s.2)) (fun s=>t.Suffixes.length-s.2) (fun s ⟨q1,q2⟩=>by
     obtain⟨u,k⟩:=s
     simp only at q1 q2
     subst q2
     simp only[zc3.s13]
     by_cases q4:k<t.Suffixes.length
     ·left
      have hy:=get_at q4
      have a5:SmW t.Suffixes[k]:=hS.2 _ (yai _)
      have a7:=zzm (o:=o) (w:=U[i]) hy
      have b5:=zkx o U[i] (t.Suffixes.take k)
      rw[yaf]at b5
      refine⟨(z++zhr o U[i] (t.Suffixes.take (k+1)),k+1),?_,⟨q4,rfl⟩,by simp only;omega⟩
      rw[zbr hy,zkD,zao hx,zao hy,zeo (by unfold SmW;omega) a5,zah,zrt ho hv,zah,a7]
      cases ha:ansO o (U[i]++t.Suffixes[k]) with
      |none =>
       simp only[tw,yb7,zkD,Option.isNone_none,if_true]
       rw[zaq (by rw[zkJ];unfold za3;omega),ybk]
      |some r=>simp[tw]
     ·right
      have e:k=t.Suffixes.length:=by omega
      subst e
      rw[zkA (by omega),zkC,yax]) (n:=fuel) (s:=(z,0)) ⟨yag _,by simp[zhr]⟩
    refine⟨(z++zhr o U[i] t.Suffixes,i+1),?_,⟨g4,?_⟩,by simp only;omega⟩
    ·rw[zbr hx,zkD,a3,zah]
    ·simp only
     rw[zbc hx,yb1,hz]
     simp
   ·right
    have e:i=U.length:=by omega
    subst e
    rw[zkA (by omega),zkC,yax]) (n:=fuel) (s:=([],0)) ⟨yag _,by simp⟩
  have b3:=hb U.length;rw[yax]at b3
  rw[key,zah,zyq ⟨by omega,fun v a9=>by
   obtain⟨w,hw,h3⟩:=ya2.1 a9
   obtain⟨⟨e,he,rfl⟩,_⟩:=zkv.1 h3
   have h5:=ht.sw e he
   have h6:=a4 w hw
   unfold SmW
   rw[zkJ]
   omega⟩,zah]
  congr 2;refine maxR_ext fun v=>?_;unfold zd7;rw[ya2,ya2];constructor
  ·rintro⟨w,hw,hm⟩;obtain⟨p,hp,h2⟩:=(a2 w).1 hw;exact⟨p,hp,ya2.2 ⟨w,h2,hm⟩⟩
  ·rintro⟨p,hp,h2⟩;obtain⟨w,hw,hm⟩:=ya2.1 h2;exact⟨w,(a2 w).2 ⟨p,hp,hw⟩,hm⟩
 ·rw[zkB h,zkD,if_pos h]
theorem zlh{o:zac}(hv:zed o){w:yab}:∀{S:yaa} {l:yaa},rowO o w S=some l->l.length=S.length∧∀x∈l,∃e∈S,x.length=e.length
 |[],l,h=>by
  injection h with h
  subst h;exact⟨rfl,fun x hx=>by cases hx⟩
 |e::S,l,h=>by
  unfold rowO at h;cases ha:ansO o (w++e) with
  |none=>rw[ha]at h;cases h
  |some r =>
   rw[ha]at h;obtain⟨l',h1,rfl⟩:=yby.1 h;obtain⟨h2,h3⟩:=zlh hv h1;have hrl:=zva hv ha;rw[zkJ]at hrl;refine⟨by simp[h2],fun x hx=>?_⟩;rcases yap.1 hx with rfl|hx
   ·exact⟨e,by simp,by rw[ya8];omega⟩
   ·obtain⟨e',he',hl'⟩:=h3 x hx;exact⟨e',yaj _ he',hl'⟩

section
section
variable {M:zad}{P:yaa}
end
end
section
section
variable {front middle last:yaa}
end
end
section
section
variable {m M:zad}
end
end
section
section
variable {m b M:zad}
end
end
section
section
variable {A:Type}[DecidableEq A]{e:A->Nat->A}{K:Nat}{s0:A}
theorem bfs_mono:∀(r:Nat) {u v:Nat} {x y:A×yab},u<=v->(bfsB e K s0 r)[u]?=some x->(bfsB e K s0 r)[v]?=some y->x.2.length<=y.2.length
 |0,u,v,x,y,huv,hx,hy=>by
  have h1:=(zkI.1 hx).1;have h2:=(zkI.1 hy).1;have hl:(bfsB e K s0 0).length=1:=rfl;have e1:u=0:=by omega
  have e2:v=0:=by omega
  subst e1;subst e2;rw[hx]at hy;injection hy with hy
  rw[hy];exact yam _
 |r+1,u,v,x,y,huv,hx,hy=>by
  have ih:=fun {u v x y}=>bfs_mono r (u:=u) (v:=v) (x:=x) (y:=y);rw[bfsB]at hx hy;cases hp:(bfsB e K s0 r)[r / K]? with
  |none =>
   rw[hp]at hx hy;exact ih huv hx hy
  |some p =>
   rw[hp]at hx hy;simp only at hx hy;split at hx
   ·rename_i g;rw[if_pos g]at hy;exact ih huv hx hy
   ·rename_i g;rw[if_neg g]at hy;have hv:=(zkI.1 hy).1;rw[zkJ,ybi]at hv;rcases ya6 v (bfsB e K s0 r).length with h|h
    ·rw[ybn h]at hy;rw[ybn (by omega)]at hx;exact ih huv hx hy
    ·have ev:v=(bfsB e K s0 r).length:=by omega
     subst ev;rw[ybp (yam _),yd0]at hy;injection hy with hy
     subst hy;simp only[zkJ,ybi];rcases ya6 u (bfsB e K s0 r).length with h2|h2
     ·rw[ybn h2]at hx;rcases zu6 hx with q|⟨r',z,q1,q2,q3,q4⟩
      ·subst q;rw[zw1]at hx;injection hx with hx
       subst hx;simp
      ·have:=ih (yd5 (c:=K) (Nat.le_of_lt q1)) q3 hp;rw[q4];simp only[zkJ,ybi];omega
     ·have eu:u=(bfsB e K s0 r).length:=by omega
      subst eu;rw[ybp (yam _),yd0]at hx;injection hx with hx
      subst hx;simp
theorem bfs_early{N j r:Nat}{y:A×yab}(hK:0<K)(hy:(bfsB e K s0 N)[j]?=some y)(hr:j*K<=r)(hN:r<=N):(bfsB e K s0 r)[j]?=some y:=by
 have a3:=zm7 (e:=e) (K:=K) (s0:=s0) hN;rcases ya6 j (bfsB e K s0 r).length with g|g
 ·have:=zj0 a3 (zkM g);rw[hy]at this;rw[zkM g,this]
 ·exfalso
  have a2:∀d,bfsB e K s0 (r+d)=bfsB e K s0 r:=by
   intro d
   induction d with
   |zero=>rfl
   |succ d ih =>
    show bfsB e K s0 (r+d+1)=_;rw[bfsB,ih,yb6 ?_];have h1:j<=(r+d) / K:=(Nat.le_div_iff_mul_le hK).2 (by omega);omega
  have h2:=a2 (N-r);rw[show r+(N-r)=N by omega]at h2;rw[h2]at hy;have:=(zkI.1 hy).1;omega
theorem bfs_reach{f:A->yab->A}(f0:∀a,f a []=a)(f1:∀a w (c:Nat),f a (w++[(↑c:Int)])=e (f a w) c){i:Nat}{x:A×yab}{N:Nat}(hx:(bfsB e K s0 N)[i]?=some x)(hN:i*K<=N) :
  ∀(n:Nat) (w:yab),w.length=n->(∀z∈w,0<=z∧z<(↑K:Int))->n<x.2.length->∃j y,j<i∧(bfsB e K s0 (i*K))[j]?=some y∧y.1=f s0 w∧y.2.length<=n:=by
 intro n
 induction n with
 |zero =>
  intro w hw _ a6;have:w=[]:=yaq hw;subst this;refine⟨0,(s0,[]),Nat.pos_of_ne_zero fun h=>?_,zw1 _,(f0 s0).symm,yam _⟩;subst h;rw[zw1]at hx;injection hx with hx
  subst hx;exact absurd a6 (by simp)
 |succ n ih =>
  intro w hw hz a6;rcases List.eq_nil_or_concat w with rfl|⟨v,c,rfl⟩
  ·simp at hw
  rw[List.concat_eq_append]at hw hz ⊢;obtain⟨c0,c1⟩:=hz c (yao _ (yba.2 rfl));obtain⟨a,rfl⟩:=ydo c0;have hK:0<K:=by omega
  have ha:a<K:=by omega
  obtain⟨j,y,j1,j2,j3,j4⟩:=ih v (by simpa using hw) (fun z h=>hz z (yas _ h)) (by omega);have a5:j*K+a+1<=i*K:=by have:=zuk j1 ha;omega
  have hy:=bfs_early hK j2 (r:=j*K+a) (by omega) (by omega);have a4:=bfs_to (e:=e) (K:=K) (s0:=s0) (r:=j*K+a) (x:=y) (by rw[zqh ha];exact hy);rw[zy2 ha]at a4;obtain⟨z,a9,a7⟩:=yae.1 a4;obtain⟨l,hl,ez⟩:=ya5.1 a9;have a2:(bfsB e K s0 (j*K+a+1))[l]?=some z:=by rw[zkM hl,ez]
  have b0:z.2.length<=n+1:=by
   rcases zu6 a2 with q|⟨r',u,q1,q2,q3,q4⟩
   ·subst q;rw[zw1]at a2;injection a2 with a2
    subst a2;simp
   ·have hd:r' / K<=j:=by
     have:=yd5 (c:=K) (show r'<=j*K+a by omega)
     rwa [zqh ha]at this
    have b2:=zj0 (zvi (e:=e) (K:=K) (s0:=s0) (j*K+a)) hy;have:=bfs_mono _ hd q3 b2;rw[q4];simp only[zkJ,ybi];omega
  have a3:=zj0 (zm7 (e:=e) (K:=K) (s0:=s0) a5) a2;refine⟨l,z,Nat.lt_of_not_le fun a8=>?_,a3,by rw[a7,f1,j3],b0⟩;have h3:=zj0 (zm7 (e:=e) (K:=K) (s0:=s0) hN) a3;have:=bfs_mono _ a8 hx h3;omega
end
section
variable {m:zad}
end
end
section
def uniM(a b:zad):zad:=⟨a.Inputs,a.Start,a.Next++b.Next.map (fun x=>x.map (fun u=>u+(↑a.Next.length:Int))),a.Out++b.Out⟩
section
variable {a b:zad}
theorem zo9:(uniM a b).Next.length=a.Next.length+b.Next.length:=by unfold uniM;simp
theorem uni_ok(T:Two a b)(h:a.Next.length+b.Next.length<=128):zgr (uniM a b):=by
 have h1:=T.a1.ol;have h2:=T.b1.ol;have a2:=T.a1.st;have hn:=T.a1.n1;refine⟨T.a1.i1,T.a1.i2,by rw[zo9];omega,by rw[zo9];exact h,by rw[zo9];show 0<=a.Start∧a.Start<_;omega,by rw[zo9];unfold uniM;simp only[zkJ];omega,fun s hs=>?_⟩;rw[zo9]at hs ⊢;rcases ya6 s a.Next.length with g|g
 ·obtain⟨x,y,k1,k2,k3,k4,k5,k6⟩:=T.a1.row s g;exact⟨x,y,by show(a.Next++_)[s]?=_;rw[ybn g,k1],by show(a.Out++_)[s]?=_;rw[ybn (by omega),k2],k3,k4,fun u hu=>by have:=k5 u hu;omega,k6⟩
 ·obtain⟨x,y,k1,k2,k3,k4,k5,k6⟩:=T.b1.row (s-a.Next.length) (by omega);refine⟨x.map (fun u=>u+(↑a.Next.length:Int)),y,?_,?_,?_,?_,fun u hu=>?_,k6⟩
  ·show(a.Next++_)[s]?=_;rw[ybp g,yan,k1];rfl
  ·show(a.Out++_)[s]?=_;rw[ybp (by omega),h1,k2]
  ·rw[zkK,k3];exact T.inp.symm
  ·rw[k4];exact T.inp.symm
  ·obtain⟨v,hv,rfl⟩:=yae.1 hu;have:=k5 v hv;omega
theorem uni_l{s c:Nat}(T:Two a b)(hs:s<a.Next.length):nx (uniM a b) s c=nx a s c∧ot (uniM a b) s c=ot a s c:=by
 have h1:=T.a1.ol;unfold nx ot uniM;simp only;rw[ybn hs,ybn (by omega)];exact⟨rfl,rfl⟩
theorem uni_r{t c:Nat}(T:Two a b)(ht:t<b.Next.length)(hc:c<b.Inputs.toNat):nx (uniM a b) (a.Next.length+t) c=a.Next.length+nx b t c∧ot (uniM a b) (a.Next.length+t) c=ot b t c:=by
 have h1:=T.a1.ol;obtain⟨_,_,_,x,y,k1,k2,k3,k4⟩:=T.b1.at ht hc
 have e1:(uniM a b).Next[a.Next.length+t]?=some (x.map fun u=>u+(↑a.Next.length:Int)):=by
  show(a.Next++_)[_]?=_;rw[ybp (yem _ _),yc7,yan,k1];rfl
 have e2:(uniM a b).Out[a.Next.length+t]?=some y:=by
  show(a.Out++_)[_]?=_;rw[ybp (by omega),h1,yc7,k2]
 constructor
 ·have e3:nx (uniM a b) (a.Next.length+t) c=((↑(nx b t c):Int)+(↑a.Next.length:Int)).toNat:=by
   show((((uniM a b).Next[a.Next.length+t]?).getD [])[c]?.getD 0).toNat=_;rw[e1,ybq,yan,k3];rfl
  omega
 ·show((((uniM a b).Out[a.Next.length+t]?).getD [])[c]?).getD 0=_;rw[e2,ybq,k4];rfl
theorem zsz(T:Two a b):∀(w:yab) (s:Nat),s<a.Next.length->WOk a.Inputs w->outs (uniM a b) s w=outs a s w
 |[],_,_,_=>rfl
 |x::w,s,hs,hw=>by
  obtain⟨e1,e2⟩:=uni_l (c:=x.toNat) T hs;have hx:=hw.head;have:=(T.a1.at hs (a:=x.toNat) (by omega)).1;show ot (uniM a b) s x.toNat::outs (uniM a b) (nx (uniM a b) s x.toNat) w=ot a s x.toNat::outs a (nx a s x.toNat) w;rw[e1,e2,zsz T w _ this hw.tail]
theorem zs1(T:Two a b):∀(w:yab) (t:Nat),t<b.Next.length->WOk a.Inputs w->outs (uniM a b) (a.Next.length+t) w=outs b t w
 |[],_,_,_=>rfl
 |x::w,t,ht,hw=>by
  have hx:=hw.head;have hi:=T.inp;obtain⟨e1,e2⟩:=uni_r (c:=x.toNat) T ht (by omega);have:=(T.b1.at ht (a:=x.toNat) (by omega)).1;show ot (uniM a b) _ x.toNat::outs (uniM a b) (nx (uniM a b) _ x.toNat) w=ot b t x.toNat::outs b (nx b t x.toNat) w;rw[e1,e2,zs1 T w _ this hw.tail]
theorem two_short(T:Two a b)(h:a.Next.length+b.Next.length<=128){s t:Nat}(hs:s<a.Next.length)(ht:t<b.Next.length){w:yab}(hw:WOk a.Inputs w)(hne:outs a s w≠outs b t w):∃v,v.length<=a.Next.length+b.Next.length∧WOk a.Inputs v∧outs a s v≠outs b t v:=by
 refine yau fun g=>hne ?_;have U:=uni_ok T h
 have hE:E (uniM a b) (uniM a b).Next.length s (a.Next.length+t):=zv5 fun v hl hv=>by
  rw[zo9]at hl;have hv:WOk a.Inputs v:=hv;rw[zsz T v s hs hv,zs1 T v t ht hv];exact yau fun h=>g ⟨v,hl,hv,h⟩
 have:=E_outs (w:=w) (E_all U (by rw[zo9];omega) (by rw[zo9];omega) hE w.length) hw
 rwa [zsz T w s hs hw,zs1 T w t ht hw]at this
theorem zyb:∀{v:yab} {s t:Nat},WOk a.Inputs v->outs a s v≠outs b t v->∃(u:yab) (c:Nat) (z:yab),v=u++(↑c:Int)::z∧c<a.Inputs.toNat∧ot a (dest a s u) c≠ot b (dest b t u) c
 |[],s,t,_,h=>absurd rfl h
 |x::v,s,t,hw,h=>by
  have hx:=hw.head;obtain⟨c,rfl⟩:=ydo hx.1;by_cases g:ot a s c=ot b t c
  ·obtain⟨u,d,z,h1,h2,h3⟩:=zyb (v:=v) (s:=nx a s c) (t:=nx b t c) hw.tail fun hv=>h (by
    show ot a s (Int.toNat (↑c:Int))::outs a (nx a s (Int.toNat (↑c:Int))) v=ot b t (Int.toNat (↑c:Int))::outs b (nx b t (Int.toNat (↑c:Int))) v
    rw[ybf,g,hv])
   exact⟨(↑c:Int)::u,d,z,by rw[h1];rfl,h2,h3⟩
  ·exact⟨[],c,v,rfl,by omega,g⟩
theorem fst_short{s t:Nat}{w:yab}(hF:Fst a b (s,t) (w,true)){v:yab}(v2:WOk a.Inputs v)(v3:outs a s v≠outs b t v):w.length<=v.length:=by
 rcases hF with⟨i,c,x,h1,h2,h3,h4,h5⟩|⟨L,_,_,h5⟩
 ·injection h5 with h5 _
  rw[h5,zkJ,ybi];obtain⟨u,d,z,rfl,u2,u3⟩:=zyb v2 v3;simp only[zkJ,zkL];refine Nat.le_of_not_lt fun a3=>?_
  have hu:∀q∈u,0<=q∧q<(↑a.Inputs.toNat:Int):=fun q hq=>by
   have:=v2 q (yas _ hq);omega
  have fd:∀(m:zad) (st:Nat) (w:yab) (c:Nat),dest m st (w++[(↑c:Int)])=nx m (dest m st w) c:=fun m st w c=>by
   rw[zgy];show nx m (dest m st w) (Int.toNat (↑c:Int))=_;rw[ybf]
  obtain⟨j,y,j1,j2,j3,j4⟩:=bfs_reach (e:=pE a b) (K:=a.Inputs.toNat) (s0:=(s,t)) (f:=fun p w=>(dest a p.1 w,dest b p.2 w)) (fun a=>rfl) (fun p w c=>by
   simp only[fd]
   rfl) (N:=i*a.Inputs.toNat+c) h2 (by omega) u.length u rfl hu (by omega)
  have hK:0<a.Inputs.toNat:=by omega
  have a2:=zuk j1 u2;have hy:=bfs_early hK j2 (r:=j*a.Inputs.toNat+d) (by omega) (by omega);have:=h4 (j*a.Inputs.toNat+d) (by omega);rw[zqu u2 hy,j3,zkB u3]at this;cases this
 ·injection h5 with _ h5
  cases h5
theorem dist_both(c1:zhi a=0)(c2:zhi b=0)(c3:a.Inputs=b.Inputs)(h:a.Next.length+b.Next.length<=128) :
  (zb9 a b=some ([],false,0)∧zdn a b=some ([],false,0)∧∀w,WOk a.Inputs w->outs a a.Start.toNat w=outs b b.Start.toNat w) ∨
  ∃w,zb9 a b=some (w,true,0)∧zdn a b=some (w,true,0)∧WOk a.Inputs w∧w.length<=a.Next.length+b.Next.length∧outs a a.Start.toNat w≠outs b b.Start.toNat w:=by
 have T:Two a b:=⟨zpw c1,zpw c2,c3⟩;have h1:=T.a1.st;have h2:=T.b1.st;have hi:=T.a1.i1;obtain⟨⟨w,f⟩,h3,h4⟩:=zwv T (p0:=(a.Start.toNat,b.Start.toNat)) (by simp only;omega) (by simp only;omega);obtain⟨r,h5,h6⟩:=R09_first_eq T (p0:=(a.Start.toNat,b.Start.toNat)) (by simp only;omega) (by simp only;omega);have:=fst_uniq (by omega) h4 h6;subst this;simp only at h3 h5;rw[show(↑a.Start.toNat:Int)=a.Start by omega,show(↑b.Start.toNat:Int)=b.Start by omega]at h3 h5
 have e1:zb9 a b=some (w,f,0):=by
  unfold zb9;rw[zyw c1 c2 c3,zah,zkA (by decide),zkC,h3,zah]
 have e2:zdn a b=some (w,f,0):=by
  unfold zdn;rw[R09_Check_eq,zah,if_neg (fun h=>h c1),if_neg (fun h=>h c2),if_neg (fun h=>h c3),zkA (by decide),zkC,h5,zah]
 cases f with
 |false =>
  left
  have hw:w=[]:=by
   rcases h4 with⟨_,_,_,_,_,_,_,h⟩|⟨_,_,_,h⟩
   ·injection h with _ h;cases h
   ·injection h
  subst hw;exact⟨e1,e2,fst_none h4⟩
 |true =>
  right;have hw:=(fst_word T (p0:=(a.Start.toNat,b.Start.toNat)) (by simp only;omega) (by simp only;omega) h4).1;have a2:=fst_ne T (p0:=(a.Start.toNat,b.Start.toNat)) (by simp only;omega) (by simp only;omega) h4;obtain⟨v,v1,v2,v3⟩:=two_short T h (s:=a.Start.toNat) (t:=b.Start.toNat) (by omega) (by omega) hw a2;have:=fst_short h4 v2 v3;exact⟨w,e1,e2,hw,by omega,a2⟩
end
end
section
section
variable {α:Type}[DecidableEq α]
def pos(r:α):List α->Nat
 |[]=>0
 |x::l=>if x=r then 0 else pos r l+1
theorem zlw{r:α}:∀{l:List α},r∈l->l[pos r l]?=some r
 |x::l,h=>by
  unfold pos;by_cases e:x=r
  ·simp[e]
  ·rw[if_neg e];rcases yap.1 h with h|h
   ·exact absurd h.symm e
   ·simpa using zlw h
theorem pos_lt{r:α}{l:List α}(h:r∈l):pos r l<l.length:=(zkI.1 (zlw h)).1
theorem ztp{r:α}:∀{l m:List α},r∈l->pos r (l++m)=pos r l
 |x::l,m,h=>by
  rw[ycc];unfold pos;by_cases e:x=r
  ·simp[e]
  ·rw[if_neg e,if_neg e];rcases yap.1 h with h|h
   ·exact absurd h.symm e
   ·rw[ztp h]
theorem pos_new{r:α}:∀{l:List α},r∉l->pos r (l++[r])=l.length
 |[],_=>by simp[pos]
 |x::l,h=>by
  rw[ycc];unfold pos;have h1:¬x=r:=fun e=>h (by simp[e]);have h2:r∉l:=fun e=>h (by simp[e]);rw[if_neg h1,pos_new h2];rfl
theorem pos_inj{r s:α}{l:List α}(hr:r∈l)(hs:s∈l)(h:pos r l=pos s l):r=s:=by
 have h1:=zlw hr;rw[h,zlw hs]at h1;injection h1 with h1
 exact h1.symm
def addR(R:List α)(r:α):List α:=if r∈R then R else R++[r]
theorem zvc{R:List α}{r x:α}:x∈addR R r↔x∈R∨x=r:=by
 unfold addR;split
 ·constructor
  ·exact Or.inl
  ·rintro (h|rfl)
   ·exact h
   ·assumption
 ·simp
theorem pos_addR{R:List α}{r x:α}(h:x∈R):pos x (addR R r)=pos x R:=by
 unfold addR;split
 ·rfl
 ·exact ztp h
theorem addR_len(R:List α)(r:α):(addR R r).length<=R.length+1:=by
 unfold addR;split
 ·omega
 ·simp
end
def zqn:yaa->List UInt8
 |[]=>[]
 |o::r=>keyL o++47::zqn r
theorem rkeyL_append(a b:yaa):zqn (a++b)=zqn a++zqn b:=by
 induction a with
 |nil=>rfl
 |cons o a ih=>simp[zqn,ih]
theorem zxp:∀(w:yab),∀c∈keyL w,c≠47
 |[],c,h=>by cases h
 |a::w,c,h=>by
  simp only[keyL]at h;rcases yak.1 h with h|h
  ·intro e;subst e;unfold zn1 at h;split at h
   ·rcases yap.1 h with h|h
    ·cases h
    ·have:=zoe _ _ h
     revert this
     decide
   ·have:=zoe _ _ h
    revert this
    decide
  ·rcases yap.1 h with h|h
   ·subst h;decide
   ·exact zxp w c h
theorem rkeyL_inj:∀{a b:yaa},zqn a=zqn b->a=b
 |[],[],_=>rfl
 |[],o::b,h=>by
  simp only[zqn]at h;have:=congrArg List.length h;simp at this
 |o::a,[],h=>by
  simp only[zqn]at h;have:=congrArg List.length h;simp at this
 |o::a,u::b,h=>by
  simp only[zqn]at h;obtain⟨h1,h2⟩:=split_at (zxp o) (zxp u) h;rw[keyL_inj h1,rkeyL_inj h2]
def rkey(r:yaa):ByteArray:=⟨(zqn r).toArray⟩
theorem rkey_inj{a b:yaa}(h:rkey a=rkey b):a=b:=rkeyL_inj (by
 unfold rkey at h
 injection h with h
 injection h)
def RowSm(r:yaa):Prop:=r.length<=1000∧∀x∈r,x.length<=1000∧∀a∈x,inR a
theorem rkeyL_len{r:yaa}(h:∀x∈r,x.length<=1000∧∀a∈x,inR a):(zqn r).length<=15001*r.length:=by
 induction r with
 |nil=>simp[zqn]
 |cons o r ih =>
  have h1:=h o (by simp);have h2:=zve (xs:=o) h1.2;have h3:=ih fun x hx=>h x (by simp[hx]);simp only[zqn,zkJ,zkL];omega
theorem bytes_append(a b:List UInt8):((⟨a.toArray⟩:ByteArray)++⟨b.toArray⟩)=⟨(a++b).toArray⟩:=by
 apply ByteArray.ext;simp
theorem ztz(a:List UInt8):(⟨a.toArray⟩:ByteArray).size=a.length:=by simp[ByteArray.size]
theorem row_key_eq{r:yaa}(h:RowSm r):iter (fun(s:ByteArray×Nat)=>zb0.s2 r s.1 s.2) fuel ((⟨#[]⟩:ByteArray),0)=some (rkey r):=by
 obtain⟨hl,hr⟩:=h;refine zb1 (fun s=>s.2<=r.length∧s.1=rkey (r.take s.2)) (fun s=>r.length-s.2) (fun s ⟨g1,g2⟩=>?_) ⟨yag _,rfl⟩;obtain⟨z,k⟩:=s;simp only at g1 g2;subst g2;simp only[zb0.s2];by_cases g4:k<r.length
 ·left;have hx:=get_at g4;have a2:=hr _ (yai g4);have a4:=zve (xs:=r[k]) a2.2;have a3:=rkeyL_len (r:=r.take k) fun x hx=>hr x (ya3 hx);rw[yaf]at a3;have e1:((⟨(keyL r[k]).toArray⟩:ByteArray)++⟨#[47]⟩)=⟨(keyL r[k]++[47]).toArray⟩:=bytes_append (keyL r[k]) [47];refine⟨(rkey (r.take (k+1)),k+1),?_,⟨by simp only;omega,rfl⟩,by simp only;omega⟩;rw[zbr hx,zkD,zao hx,zn8 (by unfold SmW;omega) a2.2,zah,e1];have e2:(⟨#[47]⟩:ByteArray).size=1:=rfl
  rw[zaq (by rw[ztz,e2];omega),zaq (by
   unfold rkey
   rw[ztz,ztz,zkJ,ybi]
   omega)]
  unfold rkey;rw[bytes_append,zbc hx,rkeyL_append];simp[zqn]
 ·right;have e:k=r.length:=by omega
  subst e;rw[zkA (by omega),zkC,yax]
def NumOk(R:List (yaa))(m:List (ByteArray×Int)):Prop:=∀r,mget (rkey r) m=if r∈R then some (↑(pos r R):Int) else none
theorem zvx{v:zaw}{r:yaa}(h:RowSm r)(hn:NumOk v.rows v.number)(hl:v.rows.length<=100000) :
  ∃m,zb0 v r=some ((↑(pos r (addR v.rows r)):Int),⟨addR v.rows r,v.prefixes,v.next,m⟩)∧NumOk (addR v.rows r) m:=by
 unfold zb0;rw[row_key_eq h,zah];have hr:=hn r;by_cases hm:r∈v.rows
 ·rw[if_pos hm]at hr;refine⟨v.number,?_,?_⟩
  ·rw[hr];simp only[yex,ybh,zkC,ybq];unfold addR;rw[if_pos hm];rfl
  ·unfold addR;rw[if_pos hm];exact hn
 ·rw[if_neg hm]at hr;refine⟨mset (rkey r) (↑v.rows.length:Int) v.number,?_,fun x=>?_⟩
  ·rw[hr];simp only[ydr,yb7,zkD];rw[zaq (by unfold za3;omega),zah];unfold addR;rw[if_neg hm,pos_new hm];rfl
  ·unfold addR;rw[if_neg hm];by_cases hx:x=r
   ·subst hx;rw[zly ba_beq,if_pos (by simp),pos_new hm]
   ·rw[zoa ba_beq (fun e=>hx (rkey_inj e)),hn x];by_cases a2:x∈v.rows
    ·rw[if_pos a2,if_pos (by simp[a2]),ztp a2]
    ·rw[if_neg a2,if_neg (by simp[a2,hx])]
end
def zho(o:zac)(S:yaa):yaa->Option (List (yaa))
 |[]=>some []
 |w::ws=>match rowO o w S with
  |none=>none
  |some r=>(zho o S ws).map fun l=>r::l
theorem zh0{o:zac}{S:yaa}:∀{ws:yaa} {rs:List (yaa)},zho o S ws=some rs->rs.length=ws.length∧∀(i:Nat) w,ws[i]?=some w->∃r,rs[i]?=some r∧rowO o w S=some r
 |[],rs,h=>by
  injection h with h
  subst h;exact⟨rfl,fun i w hw=>by simp at hw⟩
 |w::ws,rs,h=>by
  unfold zho at h;cases hr:rowO o w S with
  |none=>rw[hr]at h;cases h
  |some r =>
   rw[hr]at h;obtain⟨rs',h1,rfl⟩:=yby.1 h;obtain⟨h2,h3⟩:=zh0 h1;refine⟨by simp[h2],fun i u hu=>?_⟩;cases i with
   |zero =>
    simp at hu;subst hu;exact⟨r,rfl,hr⟩
   |succ i=>simpa using h3 i u (by simpa using hu)
theorem zy1{o:zac}{S:yaa}{ws:yaa}{w:yab}(hw:w∈ws)(h:rowO o w S=none):zho o S ws=none:=by
 cases hr:zho o S ws with
 |none=>rfl
 |some rs =>
  obtain⟨i,hi,rfl⟩:=ya5.1 hw;obtain⟨r,_,h2⟩:=(zh0 hr).2 i _ (get_at hi);rw[h]at h2;cases h2
theorem zt1{o:zac}{S:yaa}{w:yab}{r:yaa}(h:rowO o w S=some r):∀{ws:yaa} {rs:List (yaa)},zho o S ws=some rs->zho o S (ws++[w])=some (rs++[r])
 |[],rs,h1=>by
  injection h1 with h1
  subst h1;simp[zho,h]
 |u::ws,rs,h1=>by
  rw[ycc];unfold zho at h1 ⊢;cases hr:rowO o u S with
  |none=>rw[hr]at h1;cases h1
  |some r' =>
   rw[hr]at h1;obtain⟨rs',h2,rfl⟩:=yby.1 h1;simp only[zt1 h h2];rfl
theorem ansO_rng{o:zac}(hv:zed o){w r:yab}(h:ansO o w=some r):∀a∈r,inR a:=by
 unfold ansO at h;split at h
 ·injection h with h
  subst h;intro a ha;cases ha
 ·obtain⟨t,ht,rfl⟩:=yby.1 h;intro a ha;have hm:=ych ht;have:=(hv.prop t hm).1.2.2 a (ya3 ha);unfold inR;omega
theorem rowO_rng{o:zac}(hv:zed o){w:yab}:∀{S:yaa} {l:yaa},rowO o w S=some l->∀x∈l,∀a∈x,inR a
 |[],l,h=>by
  injection h with h
  subst h;intro x hx;cases hx
 |e::S,l,h=>by
  unfold rowO at h;cases ha:ansO o (w++e) with
  |none=>rw[ha]at h;cases h
  |some r =>
   rw[ha]at h;obtain⟨l',h1,rfl⟩:=yby.1 h;intro x hx a hax;rcases yap.1 hx with rfl|hx
   ·exact ansO_rng hv ha a (ybg hax)
   ·exact rowO_rng hv h1 x hx a hax
theorem zpj{o:zac}{t:zab}(hv:zed o)(ht:zh3 t){w:yab}{r:yaa}(h:rowO o w t.Suffixes=some r):RowSm r:=by
 obtain⟨h1,h2⟩:=zlh hv h;refine⟨by have:=ht.s;omega,fun x hx=>⟨?_,rowO_rng hv h x hx⟩⟩;obtain⟨e,he,hl⟩:=h2 x hx;have:=ht.sw e he;omega
abbrev v0:zaw:=⟨[],[],[],[]⟩
abbrev Row:Type:=yaa
def za9(R:List Row)(rs:List Row):List Row:=rs.foldl addR R
theorem zk4(R:List Row)(rs:List Row)(r:Row):za9 R (rs++[r])=addR (za9 R rs) r:=by simp[za9]
theorem znf(R:List Row)(a b:List Row):za9 R (a++b)=za9 (za9 R a) b:=by simp[za9]
theorem zdw{R:List Row}{x:Row}:∀{rs:List Row},x∈za9 R rs↔x∈R∨x∈rs:=by
 intro rs
 induction rs generalizing R with
 |nil=>simp[za9]
 |cons r rs ih =>
  show x∈za9 (addR R r) rs↔_;rw[ih,zvc,yap];constructor
  ·rintro ((h|h)|h)
   ·exact Or.inl h
   ·exact Or.inr (Or.inl h)
   ·exact Or.inr (Or.inr h)
  ·rintro (h|h|h)
   ·exact Or.inl (Or.inl h)
   ·exact Or.inl (Or.inr h)
   ·exact Or.inr h
theorem zpm{R:List Row}{x:Row}(h:x∈R):∀rs:List Row,pos x (za9 R rs)=pos x R:=by
 intro rs
 induction rs generalizing R with
 |nil=>rfl
 |cons r rs ih =>
  show pos x (za9 (addR R r) rs)=_;rw[ih (zvc.2 (Or.inl h)),pos_addR h]
theorem zkp(R:List Row)(rs:List Row):(za9 R rs).length<=R.length+rs.length:=by
 induction rs generalizing R with
 |nil=>simp[za9]
 |cons r rs ih =>
  have h1:=ih (R:=addR R r);have h2:=addR_len R r;show(za9 (addR R r) rs).length<=_;rw[zkL];omega
def nums(R:List Row)(rs:List Row):yab:=rs.map fun r=>(↑(pos r R):Int)
theorem zu3{R:List Row}{rs:List Row}(h:∀x∈rs,x∈R)(X:List Row):nums (za9 R X) rs=nums R rs:=by
 unfold nums;refine ydj fun x hx=>?_;rw[zpm (h x hx)]
theorem look_first{o:zac}{t:zab}{F:List zaa}(ht:zh3 t)(ho:SmO o)(hv:zed o)(hF:zuc o F) :
  ∃res,iter (fun(s:List (yaa)×yab×(List (ByteArray×Int))×Nat)=>za8.s2 t F s.1 s.2.1 s.2.2.1 s.2.2.2) fuel ([],[],([]:List (ByteArray×Int)),0)=some res ∧
   match zho o t.Suffixes t.Prefixes with
   |none=>res=.inr (v0,12)
   |some rs=>∃m,res=.inl (za9 [] rs,nums (za9 [] rs) rs,m)∧NumOk (za9 [] rs) m:=by
 have hp:=ht.p;have hS:=ht.sm.2.2.1
 refine zdt (step:=fun(s:List (yaa)×yab×(List (ByteArray×Int))×Nat)=>za8.s2 t F s.1 s.2.1 s.2.2.1 s.2.2.2)
  (fun s=>s.2.2.2<=t.Prefixes.length∧∃rs,zho o t.Suffixes (t.Prefixes.take s.2.2.2)=some rs∧s.1=za9 [] rs∧s.2.1=nums (za9 [] rs) rs∧NumOk (za9 [] rs) s.2.2.1) (fun s=>t.Prefixes.length-s.2.2.2) _ (fun s ⟨g1,rs,g2,g3,g4,g5⟩=>?_) fuel _ ⟨yag _,[],rfl,rfl,rfl,fun r=>by simp[za9,mget]⟩ (by have:=zc2;simp only;omega)
 obtain⟨R,N,m,k⟩:=s;simp only at g1 g2 g3 g4 g5;subst g3 g4
 have a6:rs.length=k:=by
  have:=(zh0 g2).1;rw[yaf]at this;omega
 have a5:=zkp [] rs;simp only[yar]at a5;simp only[za8.s2];by_cases h:k<t.Prefixes.length
 ·have hx:=get_at h;have a3:SmW t.Prefixes[k]:=ht.sm.2.1.2 _ (yai _);rw[zbr hx,zkD,zao hx,zrh ho hv hF hS a3,zah];cases hr:rowO o t.Prefixes[k] t.Suffixes with
  |none =>
   right;refine⟨.inr (v0,12),rfl,?_⟩;rw[zy1 (yai h) hr]
  |some r =>
   left;have a4:=zpj hv ht hr;obtain⟨m',e,a2⟩:=zvx (v:=⟨za9 [] rs,nums (za9 [] rs) rs,[],m⟩) a4 g5 (by simp only;omega);simp only at e a2;refine⟨(za9 [] (rs++[r]),nums (za9 [] (rs++[r])) (rs++[r]),m',k+1),?_,⟨h,rs++[r],?_,rfl,rfl,?_⟩,by simp only;omega⟩
   ·simp only[tw,ybh,zkC];rw[e,zah,zaq (by unfold nums za3;rw[zkK];omega),zk4]
    have h1:nums (addR (za9 [] rs) r) (rs++[r])=nums (za9 [] rs) rs++[(↑(pos r (addR (za9 [] rs) r)):Int)]:=by
     have h2:=zu3 (R:=za9 [] rs) (rs:=rs) (fun x hx=>zdw.2 (Or.inr hx)) [r];have h3:za9 (za9 [] rs) [r]=addR (za9 [] rs) r:=rfl;rw[h3]at h2;rw[<- h2];simp[nums]
    rw[h1]
   ·simp only;rw[zbc hx];exact zt1 hr g2
   ·simp only;rw[zk4];exact a2
 ·right;have e:k=t.Prefixes.length:=by omega
  subst e;rw[yax]at g2;refine⟨.inl (za9 [] rs,nums (za9 [] rs) rs,m),by rw[zkA (by omega),zkC],?_⟩;rw[g2];exact⟨m,rfl,g5⟩
def exts(n:Nat)(p:yab):yaa:=(List.range n).map fun(a:Nat)=>p++[(↑a:Int)]
theorem look_inner{o:zac}{t:zab}{F:List zaa}(ht:zh3 t)(ho:SmO o)(hv:zed o)(hF:zuc o F)(P:yab)(Q:yaa){p:yab}(hp:SmW p)(hp1:p.length<=1000000){R:List Row}{m:List (ByteArray×Int)}(hm:NumOk R m)(hR:R.length<=10000) :
  ∃res,iter (fun(s:List (yaa)×(List (ByteArray×Int))×yab×Nat)=>za8.s20 t F P Q p s.1 s.2.1 s.2.2.1 s.2.2.2) fuel (R,m,[],0)=some res ∧
   match zho o t.Suffixes (exts t.Inputs.toNat p) with
   |none=>res=.inr (.inr (.inr (v0,12)))
   |some rs=>∃m',res=.inl (za9 R rs,m',nums (za9 R rs) rs)∧NumOk (za9 R rs) m':=by
 have hn:=ht.n;have hS:=ht.sm.2.2.1
 refine zdt (step:=fun(s:List (yaa)×(List (ByteArray×Int))×yab×Nat)=>za8.s20 t F P Q p s.1 s.2.1 s.2.2.1 s.2.2.2)
  (fun s=>s.2.2.2<=t.Inputs.toNat∧∃rs,zho o t.Suffixes (exts s.2.2.2 p)=some rs∧s.1=za9 R rs∧s.2.2.1=nums (za9 R rs) rs∧NumOk (za9 R rs) s.2.1) (fun s=>t.Inputs.toNat-s.2.2.2) _ (fun s ⟨g1,rs,g2,g3,g4,g5⟩=>?_) fuel _ ⟨yag _,[],rfl,rfl,rfl,hm⟩ (by have:=zc2;simp only;omega)
 obtain⟨R',m1,N,k⟩:=s;simp only at g1 g2 g3 g4 g5;subst g3 g4
 have a6:rs.length=k:=by
  have:=(zh0 g2).1;unfold exts at this;simpa using this
 have a7:=zkp R rs;simp only[za8.s20];by_cases h:k<t.Inputs.toNat
 ·have a3:SmW (p++[(↑k:Int)]):=by
   show(p++[(↑k:Int)]).length<=2000000;simp;omega
  have a5:exts (k+1) p=exts k p++[p++[(↑k:Int)]]:=by simp[exts,ycr]
  rw[zkB (by omega),zkD,zje hp,zah,zrh ho hv hF hS a3,zah];cases hr:rowO o (p++[(↑k:Int)]) t.Suffixes with
  |none =>
   right;refine⟨.inr (.inr (.inr (v0,12))),rfl,?_⟩;rw[zy1 (ws:=exts t.Inputs.toNat p) (w:=p++[(↑k:Int)]) (yae.2 ⟨k,ybc.2 h,rfl⟩) hr]
  |some r =>
   left;have a4:=zpj hv ht hr;obtain⟨m',e,a2⟩:=zvx (v:=⟨za9 R rs,P,Q,m1⟩) a4 g5 (by simp only;omega);simp only at e a2;refine⟨(za9 R (rs++[r]),m',nums (za9 R (rs++[r])) (rs++[r]),k+1),?_,⟨h,rs++[r],?_,rfl,rfl,?_⟩,by simp only;omega⟩
   ·simp only[tw,ybh,zkC];rw[e,zah,zaq (by unfold nums za3;rw[zkK];omega),zaq (by unfold inR;omega),zk4]
    have h1:nums (addR (za9 R rs) r) (rs++[r])=nums (za9 R rs) rs++[(↑(pos r (addR (za9 R rs) r)):Int)]:=by
     have h2:=zu3 (R:=za9 R rs) (rs:=rs) (fun x hx=>zdw.2 (Or.inr hx)) [r];have h3:za9 (za9 R rs) [r]=addR (za9 R rs) r:=rfl;rw[h3]at h2;rw[<- h2];simp[nums]
    rw[h1]
   ·simp only;rw[a5];exact zt1 hr g2
   ·simp only;rw[zk4];exact a2
 ·right;have e:k=t.Inputs.toNat:=by omega
  subst e;refine⟨.inl (za9 R rs,m1,nums (za9 R rs) rs),by rw[zkA (by omega),zkC],?_⟩;rw[g2];exact⟨m1,rfl,g5⟩
def zgz(o:zac)(S:yaa)(n:Nat):yaa->Option (List (List Row))
 |[]=>some []
 |p::ps=>match zho o S (exts n p) with
  |none=>none
  |some rs=>(zgz o S n ps).map fun l=>rs::l
theorem zk8{o:zac}{S:yaa}{n:Nat}:∀{ps:yaa} {rss:List (List Row)},zgz o S n ps=some rss->rss.length=ps.length∧∀(i:Nat) p,ps[i]?=some p->∃rs,rss[i]?=some rs∧zho o S (exts n p)=some rs
 |[],rss,h=>by
  injection h with h
  subst h;exact⟨rfl,fun i w hw=>by simp at hw⟩
 |p::ps,rss,h=>by
  unfold zgz at h;cases hr:zho o S (exts n p) with
  |none=>rw[hr]at h;cases h
  |some r =>
   rw[hr]at h;obtain⟨rs',h1,rfl⟩:=yby.1 h;obtain⟨h2,h3⟩:=zk8 h1;refine⟨by simp[h2],fun i u hu=>?_⟩;cases i with
   |zero =>
    simp at hu;subst hu;exact⟨r,rfl,hr⟩
   |succ i=>simpa using h3 i u (by simpa using hu)
theorem extRows_none{o:zac}{S:yaa}{n:Nat}{ps:yaa}{p:yab}(hw:p∈ps)(h:zho o S (exts n p)=none):zgz o S n ps=none:=by
 cases hr:zgz o S n ps with
 |none=>rfl
 |some rs =>
  obtain⟨i,hi,rfl⟩:=ya5.1 hw;obtain⟨r,_,h2⟩:=(zk8 hr).2 i _ (get_at hi);rw[h]at h2;cases h2
theorem zub{o:zac}{S:yaa}{n:Nat}{p:yab}{r:List Row}(h:zho o S (exts n p)=some r):∀{ps:yaa} {rs:List (List Row)},zgz o S n ps=some rs->zgz o S n (ps++[p])=some (rs++[r])
 |[],rs,h1=>by
  injection h1 with h1
  subst h1;simp[zgz,h]
 |u::ps,rs,h1=>by
  rw[ycc];unfold zgz at h1 ⊢;cases hr:zho o S (exts n u) with
  |none=>rw[hr]at h1;cases h1
  |some r' =>
   rw[hr]at h1;obtain⟨rs',h2,rfl⟩:=yby.1 h1;simp only[zub h h2];rfl
theorem look_second{o:zac}{t:zab}{F:List zaa}(ht:zh3 t)(ho:SmO o)(hv:zed o)(hF:zuc o F)(P:yab){R:List Row}{m:List (ByteArray×Int)}(hm:NumOk R m)(hR:R.length<=1000) :
  ∃res,iter (fun(s:List (yaa)×yaa×(List (ByteArray×Int))×Nat)=>za8.s22 t F P s.1 s.2.1 s.2.2.1 s.2.2.2) fuel (R,[],m,0)=some res ∧
   match zgz o t.Suffixes t.Inputs.toNat t.Prefixes with
   |none=>res=.inr (v0,12)
   |some rss=>∃m',res=.inl (za9 R rss.flatten,rss.map (nums (za9 R rss.flatten)),m'):=by
 have hn:=ht.n;have hp:=ht.p
 refine zdt (step:=fun(s:List (yaa)×yaa×(List (ByteArray×Int))×Nat)=>za8.s22 t F P s.1 s.2.1 s.2.2.1 s.2.2.2)
  (fun s=>s.2.2.2<=t.Prefixes.length∧∃rss,zgz o t.Suffixes t.Inputs.toNat (t.Prefixes.take s.2.2.2)=some rss∧rss.flatten.length<=4*s.2.2.2∧s.1=za9 R rss.flatten∧s.2.1=rss.map (nums (za9 R rss.flatten))∧NumOk (za9 R rss.flatten) s.2.2.1) (fun s=>t.Prefixes.length-s.2.2.2) _ (fun s ⟨g1,rss,g2,g6,g3,g4,g5⟩=>?_) fuel _ ⟨yag _,[],rfl,by simp,rfl,rfl,hm⟩ (by have:=zc2;simp only;omega)
 obtain⟨R',N,m1,k⟩:=s;simp only at g1 g2 g3 g4 g5 g6;subst g3 g4
 have a5:rss.length=k:=by
  have:=(zk8 g2).1;rw[yaf]at this;omega
 have a7:=zkp R rss.flatten;simp only[za8.s22];by_cases h:k<t.Prefixes.length
 ·have hx:=get_at h;have a4:SmW t.Prefixes[k]:=ht.sm.2.1.2 _ (yai _);have a6:=ht.pw _ (yai h);obtain⟨res,e,a2⟩:=look_inner ht ho hv hF P (rss.map (nums (za9 R rss.flatten))) a4 (by omega) g5 (by omega);rw[zbr hx,zkD,zao hx,e,zah];cases hr:zho o t.Suffixes (exts t.Inputs.toNat t.Prefixes[k]) with
  |none =>
   rw[hr]at a2;right;refine⟨.inr (v0,12),by rw[a2];rfl,?_⟩;rw[extRows_none (yai h) hr]
  |some rs =>
   rw[hr]at a2;obtain⟨m',h1,h2⟩:=a2;left
   have a8:rs.length=t.Inputs.toNat:=by
    have:=(zh0 hr).1;unfold exts at this;simpa using this
   have a3:(rss++[rs]).flatten=rss.flatten++rs:=by simp
   refine⟨(za9 R (rss++[rs]).flatten,(rss++[rs]).map (nums (za9 R (rss++[rs]).flatten)),m',k+1),?_,⟨h,rss++[rs],?_,?_,rfl,rfl,?_⟩,by simp only;omega⟩
   ·rw[h1];simp only[ycy,za8.k21];rw[zaq (by rw[zkK];unfold za3;omega),a3,znf]
    have h3:rss.map (nums (za9 (za9 R rss.flatten) rs))=rss.map (nums (za9 R rss.flatten)):=by
     refine ydj fun x hx=>?_;exact zu3 (fun y hy=>zdw.2 (Or.inr (ycz.2 ⟨x,hx,hy⟩))) rs
    rw[ya1,h3];rfl
   ·simp only;rw[zbc hx];exact zub hr g2
   ·simp only;rw[a3,zkJ];omega
   ·simp only;rw[a3,znf];exact h2
 ·right;have e:k=t.Prefixes.length:=by omega
  subst e;rw[yax]at g2;refine⟨.inl (za9 R rss.flatten,rss.map (nums (za9 R rss.flatten)),m1),by rw[zkA (by omega),zkC],?_⟩;rw[g2];exact⟨m1,rfl⟩
def LookSpec(t:zab)(o:zac)(v:zaw)(e:Int):Prop :=
 (chkT t o≠0∧e=chkT t o) ∨
 (chkT t o=0∧e=12∧(zho o t.Suffixes t.Prefixes=none∨zgz o t.Suffixes t.Inputs.toNat t.Prefixes=none)) ∨
 (chkT t o=0∧e=0∧∃rs rss,zho o t.Suffixes t.Prefixes=some rs∧zgz o t.Suffixes t.Inputs.toNat t.Prefixes=some rss ∧
  v.rows=za9 (za9 [] rs) rss.flatten∧v.prefixes=nums v.rows rs∧v.next=rss.map (nums v.rows))
theorem znh{t:zab}{o:zac}(ht:zh3 t)(ho:SmO o)(hv:zed o):∃v e,za8 t o=some (v,e)∧LookSpec t o v e:=by
 obtain⟨F,a4,hF⟩:=zsq ho hv;have hp:=ht.p;unfold za8;rw[zp9 ht.sm,zah];by_cases h:chkT t o=0
 ·rw[zkA (by simpa using h),zkC,a4,zah];obtain⟨res,e,a3⟩:=look_first ht ho hv hF;rw[e,zah];cases hr:zho o t.Suffixes t.Prefixes with
  |none =>
   rw[hr]at a3;subst a3;exact⟨v0,12,rfl,.inr (.inl ⟨h,rfl,.inl hr⟩)⟩
  |some rs =>
   rw[hr]at a3;obtain⟨m,h1,h2⟩:=a3;subst h1;have a7:=(zh0 hr).1;have a5:=zkp [] rs;simp only[yar]at a5;simp only[ycy,za8.k24];obtain⟨a6,e2,a2⟩:=look_second ht ho hv hF (nums (za9 [] rs) rs) h2 (by omega);rw[e2,zah];cases hr2:zgz o t.Suffixes t.Inputs.toNat t.Prefixes with
   |none =>
    rw[hr2]at a2;subst a2;exact⟨v0,12,rfl,.inr (.inl ⟨h,rfl,.inr hr2⟩)⟩
   |some rss =>
    rw[hr2]at a2;obtain⟨m',h3⟩:=a2;subst h3;refine⟨_,0,rfl,.inr (.inr ⟨h,rfl,rs,rss,hr,hr2,rfl,?_,rfl⟩)⟩;exact(zu3 (fun x hx=>zdw.2 (Or.inr hx)) rss.flatten).symm
 ·rw[zkB h,zkD];exact⟨_,_,rfl,.inl ⟨h,rfl⟩⟩
theorem rowO_some{o:zac}{w:yab}:∀{S:yaa},(∀e∈S,ansO o (w++e)≠none)->∃r,rowO o w S=some r
 |[],_=>⟨[],rfl⟩
 |e::S,h=>by
  obtain⟨l,hl⟩:=rowO_some (S:=S) fun e he=>h e (yaj _ he);unfold rowO;cases ha:ansO o (w++e) with
  |none=>exact absurd ha (h e (by simp))
  |some r =>
   rw[hl];exact⟨_,rfl⟩
theorem rowO_ans{o:zac}{w:yab}:∀{S:yaa} {r:Row},rowO o w S=some r->∀e∈S,ansO o (w++e)≠none
 |[],_,_,e,he=>by cases he
 |u::S,r,h,e,he=>by
  unfold rowO at h;cases ha:ansO o (w++u) with
  |none=>rw[ha]at h;cases h
  |some x =>
   rw[ha]at h;obtain⟨l,h1,_⟩:=yby.1 h;rcases yap.1 he with rfl|he
   ·rw[ha];simp
   ·exact rowO_ans h1 e he
def zit(t:zab)(o:zac):Prop:=∀p∈t.Prefixes,∀w∈zfz t.Inputs.toNat p,∃r,rowO o w t.Suffixes=some r
theorem zr8{t:zab}{o:zac}:zd7 o t t.Prefixes=[]↔zit t o:=by
 constructor
 ·intro h p hp w hw;refine rowO_some fun e he hn=>?_;have:w++e∈zd7 o t t.Prefixes:=ya2.2 ⟨p,hp,ya2.2 ⟨w,hw,zkv.2 ⟨⟨e,he,rfl⟩,hn⟩⟩⟩;rw[h]at this;cases this
 ·intro h;refine ydq.2 fun v hv=>?_;obtain⟨p,hp,h2⟩:=ya2.1 hv;obtain⟨w,hw,h3⟩:=ya2.1 h2;obtain⟨⟨e,he,rfl⟩,hn⟩:=zkv.1 h3;obtain⟨r,hr⟩:=h p hp w hw;exact rowO_ans hr e he hn
theorem zt4:∀{l:yaa},l≠[]->∃y∈l,∀z∈l,z.length<=y.length
 |[x],_=>⟨x,by simp,fun z hz=>by rw[yba.1 hz];exact yam _⟩
 |x::u::l,_=>by
  obtain⟨y,hy,h⟩:=zt4 (l:=u::l) (by simp);by_cases h1:y.length<=x.length
  ·refine⟨x,by simp,fun z hz=>?_⟩;rcases yap.1 hz with rfl|hz
   ·exact yam _
   ·exact yce (h z hz) h1
  ·refine⟨y,yaj _ hy,fun z hz=>?_⟩;rcases yap.1 hz with rfl|hz
   ·omega
   ·exact h z hz
theorem zsc{l:yaa}:maxR l=[]↔l=[]:=by
 constructor
 ·intro h;refine yau fun a3=>?_;obtain⟨y,hy,a2⟩:=zt4 a3
  have:y∈maxR l:=(zlg l y).2 ⟨hy,fun z hz=>by
   by_cases hp:y <+: z
   ·left
    have h1:=a2 z hz
    have h2:=hp.length_le
    exact(hp.eq_of_length (by omega)).symm
   ·exact Or.inr hp⟩
  rw[h]at this;cases this
 ·rintro rfl;rfl
def ziz(t:zab)(o:zac):Int:=if chkT t o≠0 then chkT t o else if zd7 o t t.Prefixes=[] then 0 else 12
theorem zo3{t:zab}{o:zac}(ht:zh3 t)(ho:SmO o)(hv:zed o):zij t o=some (ziz t o):=by
 unfold zij ziz;rw[zrg ht ho hv,zah];by_cases h:chkT t o=0
 ·rw[if_neg (by simpa using h),if_neg (by simpa using h)];by_cases hn:zd7 o t t.Prefixes=[]
  ·rw[if_pos hn,hn];rfl
  ·rw[if_neg hn];have:maxR (zd7 o t t.Prefixes)≠[]:=fun e=>hn (zsc.1 e);have hl:0<(maxR (zd7 o t t.Prefixes)).length:=ydm.2 this;rw[zkA (by simp),zkC,zkB (by simp only;omega),zkD]
 ·rw[if_pos h,if_pos h,zkB h,zkD]
structure zy0(t:zab)(o:zac)(v:zaw):Prop where
 pl:v.prefixes.length=t.Prefixes.length
 nl:v.next.length=t.Prefixes.length
 pre:∀(i:Nat) p,t.Prefixes[i]?=some p->∃r,rowO o p t.Suffixes=some r∧r∈v.rows∧v.prefixes[i]?=some (↑(pos r v.rows):Int)
 nxt:∀(i:Nat) p,t.Prefixes[i]?=some p->∃l,v.next[i]?=some l∧l.length=t.Inputs.toNat∧∀a,a<t.Inputs.toNat->∃r,rowO o (p++[(↑a:Int)]) t.Suffixes=some r∧r∈v.rows∧l[a]?=some (↑(pos r v.rows):Int)
theorem zwj{t:zab}{o:zac}{v:zaw}{e:Int}(h:LookSpec t o v e):e=ziz t o∧(e=0->zy0 t o v∧zit t o∧chkT t o=0):=by
 unfold ziz;rcases h with⟨h1,rfl⟩|⟨h1,rfl,h2⟩|⟨h1,rfl,rs,a8,h2,h3,h4,h5,h6⟩
 ·exact⟨by rw[if_pos h1],fun h=>absurd h h1⟩
 ·have hn:zd7 o t t.Prefixes≠[]:=fun hn=>by
   have hA:=zr8.1 hn;rcases h2 with h2|h2
   ·have:∀(ps:yaa),(∀p∈ps,∃r,rowO o p t.Suffixes=some r)->zho o t.Suffixes ps≠none:=by
     intro ps
     induction ps with
     |nil=>intro _ h;cases h
     |cons p ps ih =>
      intro hp h;obtain⟨r,hr⟩:=hp p (by simp);unfold zho at h;rw[hr]at h;exact ih (fun q hq=>hp q (yaj _ hq)) (by simpa using h)
    exact this _ (fun p hp=>hA p hp p (by simp[zfz])) h2
   ·have a6:∀p∈t.Prefixes,zho o t.Suffixes (exts t.Inputs.toNat p)≠none:=fun p hp=>by
     have:∀(ps:yaa),(∀p∈ps,∃r,rowO o p t.Suffixes=some r)->zho o t.Suffixes ps≠none:=by
      intro ps
      induction ps with
      |nil=>intro _ h;cases h
      |cons p ps ih =>
       intro hp h;obtain⟨r,hr⟩:=hp p (by simp);unfold zho at h;rw[hr]at h;exact ih (fun q hq=>hp q (yaj _ hq)) (by simpa using h)
     exact this _ fun w hw=>hA p hp w (yaj _ hw)
    have:∀(ps:yaa),(∀p∈ps,zho o t.Suffixes (exts t.Inputs.toNat p)≠none)->zgz o t.Suffixes t.Inputs.toNat ps≠none:=by
     intro ps
     induction ps with
     |nil=>intro _ h;cases h
     |cons p ps ih =>
      intro hp h;unfold zgz at h;cases hr:zho o t.Suffixes (exts t.Inputs.toNat p) with
      |none=>exact hp p (by simp) hr
      |some r =>
       rw[hr]at h;exact ih (fun q hq=>hp q (yaj _ hq)) (by simpa using h)
    exact this _ a6 h2
  exact⟨by rw[if_neg (by simpa using h1),if_neg hn],fun h=>by cases h⟩
 ·have hP:=zh0 h2;have hE:=zk8 h3;have a4:∀r∈rs,r∈v.rows:=fun r hr=>by rw[h4];exact zdw.2 (Or.inl (zdw.2 (Or.inr hr)))
  have a5:∀l∈a8,∀r∈l,r∈v.rows:=fun l hl r hr=>by rw[h4];exact zdw.2 (Or.inr (ycz.2 ⟨l,hl,hr⟩))
  have hV:zy0 t o v:=by
   refine⟨by rw[h5];unfold nums;rw[zkK,hP.1],by rw[h6,zkK,hE.1],fun i p hp=>?_,fun i p hp=>?_⟩
   ·obtain⟨r,a2,a3⟩:=hP.2 i p hp;refine⟨r,a3,a4 r (zkH a2),?_⟩;rw[h5];unfold nums;rw[yan,a2];rfl
   ·obtain⟨l,a7,a9⟩:=hE.2 i p hp;have hL:=zh0 a9;refine⟨nums v.rows l,by rw[h6,yan,a7];rfl,by unfold nums;rw[zkK,hL.1];simp[exts],fun a ha=>?_⟩
    have hx:(exts t.Inputs.toNat p)[a]?=some (p++[(↑a:Int)]):=by
     unfold exts;rw[yan,ybu ha];rfl
    obtain⟨r,a2,a3⟩:=hL.2 a _ hx;refine⟨r,a3,a5 l (zkH a7) r (zkH a2),?_⟩;unfold nums;rw[yan,a2];rfl
  have hA:zit t o:=fun p hp w hw=>by
   obtain⟨i,hi,rfl⟩:=ya5.1 hp;unfold zfz at hw;rcases yap.1 hw with rfl|hw
   ·obtain⟨r,hr,_⟩:=hV.pre i _ (get_at hi);exact⟨r,hr⟩
   ·obtain⟨a,ha,rfl⟩:=yae.1 hw;obtain⟨l,_,_,h7⟩:=hV.nxt i _ (get_at hi);obtain⟨r,hr,_⟩:=h7 a (ybc.1 ha);exact⟨r,hr⟩
  exact⟨by rw[if_neg (by simpa using h1),if_pos (zr8.2 hA)],fun _=>⟨hV,hA,h1⟩⟩
theorem zf7{t:zab}(h:zda t=0):1<=t.Inputs∧t.Inputs<=64∧Asc t.Prefixes∧Asc t.Suffixes∧(∀a∈List.range t.Inputs.toNat,[(↑a:Int)]∈t.Suffixes)∧scan (preG t fun w=>decide (w∈t.Prefixes)) 0 t.Prefixes=none∧scan (sufG t) 0 t.Suffixes=none∧t.Prefixes≠[]:=by
 unfold zda at h;split at h
 ·cases h
 ·rename_i h1;split at h
  ·cases h
  ·rename_i h2;split at h
   ·cases h
   ·cases e1:scan (preG t fun w=>decide (w∈t.Prefixes)) 0 t.Prefixes with
    |some e =>
     exfalso;rw[e1]at h;simp only at h;subst h
     have key:∀(l:yaa) (j:Nat),scan (preG t fun w=>decide (w∈t.Prefixes)) j l≠some 0:=by
      intro l
      induction l with
      |nil=>intro j h;cases h
      |cons x l ih =>
       intro j h;unfold scan at h;split at h
       ·rename_i r' h3;injection h with h
        subst h;unfold preG at h3;split at h3
        ·rename_i h4;injection h3 with h3
         exact h4 h3
        ·split at h3
         ·cases h3
         ·split at h3
          ·cases h3
          ·cases h3
       ·exact ih _ h
     exact key _ _ e1
    |none =>
     rw[e1]at h;cases e2:scan (sufG t) 0 t.Suffixes with
     |some e =>
      exfalso;rw[e2]at h;simp only at h;subst h
      have key:∀(l:yaa) (j:Nat),scan (sufG t) j l≠some 0:=by
       intro l
       induction l with
       |nil=>intro j h;cases h
       |cons x l ih =>
        intro j h;unfold scan at h;split at h
        ·rename_i r' h3;injection h with h
         subst h;unfold sufG at h3;split at h3
         ·rename_i h4;injection h3 with h3
          exact h4 h3
         ·split at h3
          ·cases h3
          ·split at h3
           ·cases h3
           ·cases h3
        ·exact ih _ h
      exact key _ _ e2
     |none =>
      rw[e2]at h;simp only at h;split at h
      ·rename_i h5;refine⟨by omega,by omega,zv4 fun i w hw=>?_,(zwl e2).1,h5,rfl,rfl,fun e=>h2 (by rw[e];rfl)⟩;have:=zeh.1 e1 i w hw;rw[yah]at this;unfold preG at this;split at this
       ·cases this
       ·split at this
        ·cases this
        ·rename_i h6;cases hpv:zgf t.Prefixes i w with
         |true=>rfl
         |false=>exact absurd (Or.inr hpv) h6
      ·cases h
theorem lex_snoc{a b:Int}:∀{p q:yab},p.length=q.length->lexI p q=-1->lexI (p++[a]) (q++[b])=-1
 |[],[],_,h=>by simp[lexI]at h
 |[],_::_,h,_=>by simp at h
 |_::_,[],h,_=>by simp at h
 |x::p,y::q,hl,h=>by
  simp only[lexI,ycc]at h ⊢;by_cases h1:x<y
  ·rw[if_pos h1]
  ·rw[if_neg h1]at h ⊢;by_cases h2:y<x
   ·rw[if_pos h2]at h;cases h
   ·rw[if_neg h2]at h ⊢;exact lex_snoc (by simpa using hl) h
theorem cmp_snoc{p q:yab}{a b:Int}(h:cmpW p q=-1):cmpW (p++[a]) (q++[b])=-1:=by
 unfold cmpW at h ⊢;rw[zkJ,zkJ];simp only[ybi];by_cases h1:p.length<q.length
 ·rw[if_pos (by omega)]
 ·rw[if_neg h1]at h;by_cases h2:q.length<p.length
  ·rw[if_pos h2]at h;cases h
  ·rw[if_neg h2]at h;rw[if_neg (by omega),if_neg (by omega)];exact lex_snoc (by omega) h
theorem cmp_same{p:yab}{a b:Int}(h:a<b):cmpW (p++[a]) (p++[b])=-1:=by
 unfold cmpW;rw[zkJ,zkJ];simp only[ybi,Nat.lt_irrefl,if_false]
 induction p with
 |nil=>simp[lexI,h]
 |cons x p ih =>
  simp only[ycc,lexI,yfg,if_false];exact ih
theorem extL_asc{t:zab}(h:Asc t.Prefixes):Asc (extL t):=by
 unfold extL Asc at *;rw[List.pairwise_flatMap];refine⟨fun p _=>?_,h.imp fun {p q} hpq x hx y hy=>?_⟩
 ·rw[ydf];exact(yec (n:=t.Inputs.toNat)).imp fun {a b} hab=>cmp_same (by omega)
 ·obtain⟨a,_,rfl⟩:=yae.1 hx;obtain⟨b,_,rfl⟩:=yae.1 hy;exact cmp_snoc hpq
theorem zjm{l:yaa}(h:Asc l):sortW l=l:=zqq (zhx l) h fun x=>zcq l x
def newRow(t:zab)(o:zac)(w:yab):Bool:=decide (rowO o w t.Suffixes∉t.Prefixes.map fun p=>rowO o p t.Suffixes)
def unclT(t:zab)(o:zac):yab×Bool×Int:=if ziz t o≠0 then([],false,ziz t o) else match (extL t).find? (newRow t o) with|none=>([],false,0)|some w=>(w,true,0)
theorem contains_eq{l:yab}{x:Int}(hl:l.length<=2000000):zdb l x=some (decide (x∈l)):=by
 unfold zdb zb2
 have key:=zix (step:=fun s=>zb2.s2 l x s) (fun k=>k<=l.length∧x∉l.take k) (fun k=>l.length-k) (fun r=>match r with|.inl ()=>x∉l|.inr n=>0<=n∧x∈l) (fun k ⟨g1,g2⟩=>by
  simp only[zb2.s2]
  by_cases g3:k<l.length
  ·have hx:=get_at g3
   rw[zbr hx,zkD,zao hx]
   by_cases e:x=l[k]
   ·right
    exact⟨.inr (k:Int),by rw[zkB e,zkD],by omega,by rw[e];exact yai _⟩
   ·left
    refine⟨k+1,by rw[zkA e,zkC],⟨g3,?_⟩,by omega⟩
    rw[zbc hx]
    exact fun h=>(yak.1 h).elim g2 fun h=>e (yba.1 h)
  ·right
   rw[ybe (by omega)]at g2
   exact⟨.inl (),by rw[zkA (by omega),zkC],g2⟩) 0 ⟨yag _,by simp⟩
 obtain⟨r,e,hq⟩:=key;rw[e,zah];cases r with
 |inl u =>
  have hq:x∉l:=hq;simp only[ycy];rw[zah,zkA hq];rfl
 |inr n =>
  have hq:0<=n∧x∈l:=hq;simp only[Sum.elim_inr];rw[zah,zkB hq.1,zkB hq.2]
theorem view_has{t:zab}{o:zac}{v:zaw}(hV:zy0 t o v){r:Row}{w:yab}(hr:rowO o w t.Suffixes=some r)(hm:r∈v.rows):((↑(pos r v.rows):Int)∈v.prefixes)↔newRow t o w=false:=by
 unfold newRow;rw[decide_eq_false_iff_not,ydw,hr,yae];constructor
 ·intro h;obtain⟨i,hi,e⟩:=ya5.1 h;have hp:=get_at (l:=t.Prefixes) (i:=i) (by rw[<- hV.pl];exact hi);obtain⟨r',h1,h2,h3⟩:=hV.pre i _ hp;rw[get_at hi,e]at h3;injection h3 with h3
  have h4:=pos_inj hm h2 (by omega);exact⟨_,yai _,by rw[h1,h4]⟩
 ·rintro⟨p,hp,h⟩;obtain⟨i,hi,rfl⟩:=ya5.1 hp;obtain⟨r',h1,h2,h3⟩:=hV.pre i _ (get_at hi);rw[h1]at h;injection h with h
  subst h;exact zkH h3
theorem zny{t:zab}{o:zac}{v:zaw}(ht:zh3 t)(hV:zy0 t o v):∃i a b,zbb v=some (i,a,b) ∧
  match (extL t).find? (newRow t o) with
  |none=>b=false
  |some w=>b=true∧∃(k:Nat) (p:yab),i=(k:Int)∧t.Prefixes[k]?=some p∧w=p++[a]:=by
 have hn:=ht.n;have hp:=ht.p;unfold zbb
 have key:=zdt (step:=fun s=>zbb.s14 v s) (fun k=>k<=t.Prefixes.length∧((t.Prefixes.take k).flatMap (exts t.Inputs.toNat)).find? (newRow t o)=none) (fun k=>t.Prefixes.length-k)
  (fun r=>match r with|.inl ()=>(extL t).find? (newRow t o)=none|.inr x=>x.2.2=true∧∃w,(extL t).find? (newRow t o)=some w∧∃(k:Nat) (p:yab),x.1=(k:Int)∧t.Prefixes[k]?=some p∧w=p++[x.2.1]) (fun k ⟨g1,g2⟩=>by
   simp only[zbb.s14]
   rw[hV.nl]
   by_cases g3:k<t.Prefixes.length
   ·have hx:=get_at g3
    obtain⟨l,b2,b3,a6⟩:=hV.nxt k _ hx
    rw[zkB (by omega),zkD,zao b2]
    have a2:extL t=(t.Prefixes.take k).flatMap (exts t.Inputs.toNat)++(exts t.Inputs.toNat t.Prefixes[k]++(t.Prefixes.drop (k+1)).flatMap (exts t.Inputs.toNat)):=by
     have h1:t.Prefixes=t.Prefixes.take k++t.Prefixes[k]::t.Prefixes.drop (k+1):=by
      rw[<- ybr g3,ydd]
     have h2:extL t=t.Prefixes.flatMap (exts t.Inputs.toNat):=rfl
     rw[h2]
     conv=>lhs;rw[h1]
     rw[yb1,ya9]
    have a4:=zdt (step:=fun s=>zbb.s13 v k l s) (fun a=>a<=t.Inputs.toNat∧(exts a t.Prefixes[k]).find? (newRow t o)=none) (fun a=>t.Inputs.toNat-a)
     (fun r=>match r with|.inl ()=>(exts t.Inputs.toNat t.Prefixes[k]).find? (newRow t o)=none|.inr x=>∃a:Nat,x=.inr (.inr ((k:Int),(a:Int),true))∧(exts t.Inputs.toNat t.Prefixes[k]).find? (newRow t o)=some (t.Prefixes[k]++[(↑a:Int)])) (fun a ⟨q1,q2⟩=>by
      simp only[zbb.s13]
      rw[b3]
      by_cases q3:a<t.Inputs.toNat
      ·obtain⟨r,a8,a7,b4⟩:=a6 a q3
       have b0:exts (a+1) t.Prefixes[k]=exts a t.Prefixes[k]++[t.Prefixes[k]++[(↑a:Int)]]:=by simp[exts,ycr]
       have a3:=view_has hV a8 a7
       rw[zkB (by omega),zkD,zao b4,contains_eq (by rw[hV.pl];omega),zah]
       cases hnw:newRow t o (t.Prefixes[k]++[(↑a:Int)]) with
       |true =>
        right
        have a9:¬(↑(pos r v.rows):Int)∈v.prefixes:=fun h=>by
         have:=a3.1 h
         rw[hnw]at this
         cases this
        refine⟨.inr (.inr (.inr ((k:Int),(a:Int),true))),by rw[zkA a9];rfl,a,rfl,?_⟩
        have a5:exts t.Inputs.toNat t.Prefixes[k]=exts a t.Prefixes[k]++((t.Prefixes[k]++[(↑a:Int)])::((List.range' (a+1) (t.Inputs.toNat-(a+1))).map fun(b:Nat)=>t.Prefixes[k]++[(↑b:Int)])):=by
         have h1:List.range t.Inputs.toNat=List.range a++a::List.range' (a+1) (t.Inputs.toNat-(a+1)):=by
          rw[yer,yer,<- List.range'_succ,show t.Inputs.toNat-(a+1)+1=t.Inputs.toNat-a by omega]
          have:=List.range'_append_1 (s:=0) (m:=a) (n:=t.Inputs.toNat-a)
          rw[yah,show a+(t.Inputs.toNat-a)=t.Inputs.toNat by omega]at this
          exact this.symm
         unfold exts
         rw[h1,ya1,yat]
        rw[a5,ydx,q2,yee (by rw[hnw])]
        rfl
       |false =>
        left
        refine⟨a+1,by rw[zkB (a3.2 hnw)];rfl,⟨q3,?_⟩,by omega⟩
        rw[b0,ydx,q2,yef (by rw[hnw];simp)]
        rfl
      ·right
       have e:a=t.Inputs.toNat:=by omega
       subst e
       exact⟨.inl (),by rw[zkA (by omega),zkC],q2⟩) fuel 0 ⟨yag _,rfl⟩ (by have:=zc2;omega)
    obtain⟨r,e,hq⟩:=a4
    rw[e,zah]
    cases r with
    |inl u =>
     have hq:(exts t.Inputs.toNat t.Prefixes[k]).find? (newRow t o)=none:=hq
     left
     refine⟨k+1,rfl,⟨g3,?_⟩,by omega⟩
     rw[zbc hx,yb1,ydx,g2]
     simp[hq]
    |inr x =>
     right
     obtain⟨a,rfl,h2⟩:=hq
     refine⟨.inr ((k:Int),(a:Int),true),rfl,rfl,t.Prefixes[k]++[(↑a:Int)],?_,k,_,rfl,hx,rfl⟩
     rw[a2,ydx,g2,ydx,h2]
     rfl
   ·right
    have e:k=t.Prefixes.length:=by omega
    subst e
    rw[yax]at g2
    exact⟨.inl (),by rw[zkA (by omega),zkC],g2⟩) fuel 0 ⟨yag _,rfl⟩ (by have:=zc2;omega)
 obtain⟨r,e,hq⟩:=key;rw[e,zah];cases r with
 |inl u =>
  have hq:(extL t).find? (newRow t o)=none:=hq;refine⟨0,0,false,rfl,?_⟩;rw[hq]
 |inr x =>
  obtain⟨h1,w,h2,h3⟩:=hq;obtain⟨i,a,b⟩:=x;refine⟨i,a,b,rfl,?_⟩;rw[h2];exact⟨h1,h3⟩
theorem zs0{t:zab}{o:zac}(ht:zh3 t)(ho:SmO o)(hv:zed o):zhv t o=some (unclT t o):=by
 obtain⟨v,e,h1,h2⟩:=znh ht ho hv;obtain⟨h3,h4⟩:=zwj h2;unfold zhv unclT;rw[h1,zah];simp only;rw[h3]at h4 ⊢;by_cases h:ziz t o=0
 ·obtain⟨hV,_,_⟩:=h4 h;obtain⟨i,a,b,h5,h6⟩:=zny ht hV;rw[zkA (by simpa using h),zkC,if_neg (by simpa using h),h5,zah];cases hf:(extL t).find? (newRow t o) with
  |none =>
   rw[hf]at h6;subst h6;rfl
  |some w =>
   rw[hf]at h6;obtain⟨rfl,k,p,rfl,hp,rfl⟩:=h6;simp only[ybh,zkC];rw[zbw rfl hp,zje (ht.sm.2.1.2 p (zkH hp)),zah]
 ·rw[zkB h,zkD,if_pos h]
theorem zrd{t:zab}{o:zac}{w:yab}(ht:zh3 t)(ho:SmO o)(hv:zed o)(hA:zit t o){r:Row}(hw:SmW w)(hr:rowO o w t.Suffixes=some r) :
  ∃n,zhe t o w=some n∧((n<0↔newRow t o w=true)∧∀k:Nat,n=(k:Int)->(∃p,t.Prefixes[k]?=some p∧rowO o p t.Suffixes=some r)∧∀j p,j<k->t.Prefixes[j]?=some p->rowO o p t.Suffixes≠some r):=by
 have hS:=ht.sm.2.2.1;have hp:=ht.p;unfold zhe;rw[zko ho hv hS hw,zah,hr]
 have key:=zdt (step:=fun s=>zhe.s2 t o (tw (some r)) s) (fun k=>k<=t.Prefixes.length∧∀j p,j<k->t.Prefixes[j]?=some p->rowO o p t.Suffixes≠some r) (fun k=>t.Prefixes.length-k)
  (fun x=>match x with|.inl ()=>∀p∈t.Prefixes,rowO o p t.Suffixes≠some r|.inr n=>∃k:Nat,n=(k:Int)∧(∃p,t.Prefixes[k]?=some p∧rowO o p t.Suffixes=some r)∧∀j p,j<k->t.Prefixes[j]?=some p->rowO o p t.Suffixes≠some r) (fun k ⟨g1,g2⟩=>by
   simp only[zhe.s2]
   by_cases g3:k<t.Prefixes.length
   ·have hx:=get_at g3
    have a7:SmW t.Prefixes[k]:=ht.sm.2.1.2 _ (yai _)
    obtain⟨q,hq⟩:=hA _ (yai g3) _ (by simp[zfz]:t.Prefixes[k]∈zfz t.Inputs.toNat t.Prefixes[k])
    have a3:=zpj hv ht hq
    rw[zbr hx,zkD,zao hx,zko ho hv hS a7,zah,hq]
    simp only[tw]
    rw[zjz q r (by have:=a3.1;omega) (fun x hx=>by have:=(a3.2 x hx).1;omega),zah]
    by_cases e:q=r
    ·right
     subst e
     refine⟨.inr (k:Int),by rw[zkB rfl,zkD],k,rfl,⟨_,hx,hq⟩,g2⟩
    ·left
     refine⟨k+1,by rw[zkA e,zkC],⟨g3,fun j p hj a2=>?_⟩,by omega⟩
     rcases ya6 j k with h|h
     ·exact g2 j p h a2
     ·have ej:j=k:=by omega
      subst ej
      rw[hx]at a2
      injection a2 with a2
      subst a2
      rw[hq]
      simpa using e
   ·right
    refine⟨.inl (),by rw[zkA (by omega),zkC],fun p a6=>?_⟩
    obtain⟨j,hj,rfl⟩:=ya5.1 a6
    exact g2 j _ (by omega) (get_at hj)) fuel 0 ⟨yag _,fun j p h=>by omega⟩ (by have:=zc2;omega)
 obtain⟨x,e,hq⟩:=key;rw[e,zah];cases x with
 |inl u =>
  have hq:∀p∈t.Prefixes,rowO o p t.Suffixes≠some r:=hq;refine⟨-1,rfl,⟨fun _=>?_,fun _=>by decide⟩,fun k hk=>by omega⟩;unfold newRow;rw[hr]
  exact zkB fun h=>by
   obtain⟨p,hp,h2⟩:=yae.1 h;exact hq p hp h2
 |inr n =>
  obtain⟨k,rfl,⟨p,a4,a5⟩,h3⟩:=hq;refine⟨k,rfl,⟨fun h=>by omega,fun h=>?_⟩,fun k' hk=>?_⟩
  ·unfold newRow at h;rw[hr]at h;exact absurd (yae.2 ⟨p,zkH a4,a5⟩) (of_decide_eq_true h)
  ·have:k'=k:=by omega
   subst this;exact⟨⟨p,a4,a5⟩,h3⟩
theorem zov{t:zab}{o:zac}(ht:zh3 t)(ho:SmO o)(hv:zed o):zdp t o=some (unclT t o):=by
 unfold zdp unclT;rw[zo3 ht ho hv,zah];by_cases h:ziz t o=0
 ·rw[zkA (by simpa using h),zkC,if_neg (by simpa using h)]
  have hc:chkT t o=0∧zit t o:=by
   unfold ziz at h;split at h
   ·rename_i h1;exact absurd h h1
   ·rename_i h1;split at h
    ·rename_i h2;exact⟨by simpa using h1,zr8.1 h2⟩
    ·cases h
  have a2:zda t=0:=by
   have:=hc.1;unfold chkT at this;split at this
   ·rename_i h1;exact absurd this h1
   ·rename_i h1;simpa using h1
  obtain⟨_,_,a8,_⟩:=zf7 a2;obtain⟨a7,a5⟩:=zmj ht;have a9:(extL t).length<=2000000:=a5.1;rw[a7,zah,zjm (extL_asc a8)]
  have key:=zce (step:=fun s=>zdp.s2 t o (extL t) s) (l:=extL t) (fun _ w=>if newRow t o w=true then some (w,true,(0:Int)) else none) (fun i w hw=>by
   have a4:=zkH hw
   obtain⟨p,a6,h2⟩:=ya2.1 a4
   obtain⟨r,hr⟩:=hc.2 p a6 w (yaj _ h2)
   obtain⟨n,h3,h4,_⟩:=zrd ht ho hv hc.2 (a5.2 w a4) hr
   simp only[zdp.s2]
   rw[zbr hw,zkD,zao hw,h3,zah]
   by_cases hn:n<0
   ·rw[zkB hn,zkD,zao hw,if_pos (h4.1 hn)]
   ·rw[zkA hn,zkC,if_neg (fun h=>hn (h4.2 h))]) (by
   simp only[zdp.s2]
   rw[zc6]
   rfl) (by omega)
  rw[key,zah]
  have a3:∀(l:yaa) (j:Nat),scan (fun _ w=>if newRow t o w=true then some (w,true,(0:Int)) else none) j l=(l.find? (newRow t o)).map fun w=>(w,true,(0:Int)):=by
   intro l
   induction l with
   |nil=>intro j;rfl
   |cons w l ih =>
    intro j;unfold scan;by_cases h:newRow t o w=true
    ·rw[if_pos h,yee h];rfl
    ·rw[if_neg h,yef h];exact ih _
  rw[a3];cases (extL t).find? (newRow t o)<;>rfl
 ·rw[zkB h,zkD,if_pos h]
section
section
variable {α R T:Type}
theorem zjr{g:Nat->α->Option R}{f:R->T}:∀(l:List α) (j:Nat),scan (fun i x=>(g i x).map f) j l=(scan g j l).map f
 |[],_=>rfl
 |x::l,j=>by
  unfold scan;cases g j x with
  |some r=>rfl
  |none=>exact zjr l (j+1)
theorem elim_l{α β γ:Type}{f:α->γ}{g:β->γ}{a:α}:Sum.elim f g (Sum.inl a)=f a:=(ycy f g a).trans (Eq.trans rfl rfl)
theorem zui{step:Nat->Option (Nat⊕(Unit⊕R))}{l:List α}(g:Nat->α->Option R)(j:Nat)(hj:j<=l.length)(h1:∀i x,j<=i->l[i]?=some x->step i=some (match g i x with|some r=>.inr (.inr r)|none=>.inl (i+1)))(h2:step l.length=some (.inr (.inl ())))(hl:l.length<=100000000000000) :
  iter step fuel j=some (match scan g j (l.drop j) with|some r=>.inr r|none=>.inl ()):=by
 have key:∀(n i:Nat),j<=i->i<=l.length->l.length-i<n->iter step n i=some (match scan g i (l.drop i) with|some r=>.inr r|none=>.inl ()):=by
  intro n
  induction n with
  |zero=>intro i _ _ h;omega
  |succ n ih =>
   intro i a2 hi hn;rcases ya6 i l.length with h|h
   ·rw[ybr h];unfold iter scan;rw[h1 i _ a2 (zkM h)];cases g i l[i]with
    |some r=>rfl
    |none=>exact ih (i+1) (by omega) h (by omega)
   ·have e:i=l.length:=by omega
    subst e;rw[ycw];unfold iter scan;rw[h2]
 exact key fuel j (yam _) hj (by have:=zc2;omega)
end
def rowG(t:zab)(o:zac)(w:yab):Row:=(rowO o w t.Suffixes).getD []
def dP(a:Nat)(x y:Row):Option (Int×Int×Bool):=scan (fun e u=>if y[e]?=some u then none else some ((↑a:Int),(↑e:Int),true)) 0 x
def pP(t:zab)(o:zac)(p q:yab):Option (Int×Int×Bool):=scan (fun _ (a:Nat)=>dP a (rowG t o (p++[(↑a:Int)])) (rowG t o (q++[(↑a:Int)]))) 0 (List.range t.Inputs.toNat)
def iP(t:zab)(o:zac):Option (Int×Int×Bool):=scan (fun i p=>scan (fun _ q=>if rowO o p t.Suffixes=rowO o q t.Suffixes then pP t o p q else none) (i+1) (t.Prefixes.drop (i+1))) 0 t.Prefixes
def toW(t:zab)(x:Int×Int×Bool):yab:=x.1::(t.Suffixes[x.2.1.toNat]?).getD []
def incT(t:zab)(o:zac):yab×Bool×Int:=if ziz t o≠0 then([],false,ziz t o) else match iP t o with|none=>([],false,0)|some x=>(toW t x,true,0)
theorem zv6(a b:yab)(hl:a.length<=100000000000000):zbx a b=some (decide (a=b)):=by
 unfold zbx;by_cases a2:a.length=b.length
 ·rw[zkA (by omega),zkC];refine zxt a2 (fun i x y hx hy=>?_) ?_ hl
  ·simp only[zbx.s2];rw[zbr hx,zkD,zao hx,zao hy];by_cases h:x=y<;>simp[h]
  ·simp only[zbx.s2];rw[zc6];rfl
 ·rw[zkB (by omega),zkD];have:a≠b:=fun h=>a2 (by rw[h]);simp[this]
theorem ziw{α R:Type}{g:Nat->α->Option R}{Q:R->Prop}:∀{l:List α} {j:Nat} {r:R},scan g j l=some r->(∀i x r,l[i]?=some x->g (j+i) x=some r->Q r)->Q r
 |[],_,_,h,_=>by cases h
 |x::l,j,r,h,hQ=>by
  unfold scan at h;cases e:g j x with
  |some r' =>
   rw[e]at h;injection h with h
   subst h;exact hQ 0 x _ rfl (by simpa using e)
  |none =>
   rw[e]at h;exact ziw h fun i y r hy hg=>hQ (i+1) y r (by simpa using hy) (by rw[show j+(i+1)=j+1+i by omega];exact hg)
def zw8(x y:Row):Prop:=x.length=y.length∧RowSm x∧RowSm y
theorem dP_prog{a:Nat}{x y:Row}(h:zw8 x y):iter (fun s=>zak.s1019 a x y s) fuel 0=some (match (dP a x y).map fun r=>(.inr (.inr (.inr (.inr (.inr (.inr (.inr r)))))):Nat⊕(Unit⊕(Unit⊕(Nat⊕(Unit⊕(Nat⊕(Unit⊕(Int×Int×Bool)))))))) with|some r=>.inr r|none=>.inl ()):=by
 obtain⟨h1,h2,h3⟩:=h;have a3:=h2.1
 have key:=zce (step:=fun s=>zak.s1019 a x y s) (l:=x) (fun e u=>(if y[e]?=some u then none else some ((↑a:Int),(↑e:Int),true)).map fun r=>(.inr (.inr (.inr (.inr (.inr (.inr (.inr r)))))):Nat⊕(Unit⊕(Unit⊕(Nat⊕(Unit⊕(Nat⊕(Unit⊕(Int×Int×Bool))))))))) (fun e u hu=>by
  have he:=(zkI.1 hu).1
  have hw:=get_at (l:=y) (i:=e) (by omega)
  have a2:=(h2.2 u (zkH hu)).1
  simp only[zak.s1019]
  rw[zbr hu,zkD,zao hu,zao hw,zv6 _ _ (by omega),zah]
  by_cases h4:u=y[e]'(by omega)
  ·rw[zkB h4,if_pos (by rw[hw,h4])]
   rfl
  ·rw[zkA h4,if_neg (fun h=>h4 (by rw[hw]at h;injection h with h;exact h.symm))]
   rfl) (by
  simp only[zak.s1019]
  rw[zc6]
  rfl) (by omega)
 rw[key,zjr];unfold dP;cases scan (fun e u=>if y[e]?=some u then none else some ((↑a:Int),(↑e:Int),true)) 0 x<;>rfl
theorem zdu{t:zab}{o:zac}{w:yab}{r:Row}(h:rowO o w t.Suffixes=some r):rowG t o w=r:=by unfold rowG;rw[h];rfl
theorem zy5{t:zab}{o:zac}(ht:zh3 t)(hv:zed o){u w:yab}{x y:Row}(hx:rowO o u t.Suffixes=some x)(hy:rowO o w t.Suffixes=some y):zw8 x y :=
 ⟨by rw[(zlh hv hx).1,(zlh hv hy).1],zpj hv ht hx,zpj hv ht hy⟩
theorem pP_prog{t:zab}{o:zac}{v:zaw}(ht:zh3 t)(hv:zed o)(hV:zy0 t o v){i k:Nat}{p q:yab}(hp:t.Prefixes[i]?=some p)(hq:t.Prefixes[k]?=some q){l:yab}(hl:v.next[i]?=some l) :
  iter (fun s=>zak.s1020 v i k l s) fuel 0=some (match (pP t o p q).map fun r=>(.inr (.inr (.inr (.inr (.inr r)))):Unit⊕(Nat⊕(Unit⊕(Nat⊕(Unit⊕(Int×Int×Bool)))))) with|some r=>.inr r|none=>.inl ()):=by
 have hn:=ht.n;obtain⟨l1,g1,g2,g3⟩:=hV.nxt i p hp;rw[hl]at g1;injection g1 with g1
 subst g1;obtain⟨l2,f1,f2,f3⟩:=hV.nxt k q hq
 have key:=zce (step:=fun s=>zak.s1020 v i k l s) (l:=List.range t.Inputs.toNat) (fun _ (a:Nat)=>(dP a (rowG t o (p++[(↑a:Int)])) (rowG t o (q++[(↑a:Int)]))).map fun r=>(.inr (.inr (.inr (.inr (.inr r)))):Unit⊕(Nat⊕(Unit⊕(Nat⊕(Unit⊕(Int×Int×Bool))))))) (fun a a' ha=>by
  have a2:a<t.Inputs.toNat:=by
   have:=(zkI.1 ha).1
   simpa using this
  rw[ybu a2]at ha
  injection ha with ha
  subst ha
  obtain⟨x,x1,x2,x3⟩:=g3 a a2
  obtain⟨y,y1,y2,y3⟩:=f3 a a2
  simp only[zak.s1020]
  rw[g2,zkB (by omega),zkD,zao hl,zao x3,zbw rfl (zlw x2),zao f1,zao y3,zbw rfl (zlw y2),dP_prog (zy5 ht hv x1 y1),zah,zdu x1,zdu y1]
  cases dP a x y with
  |some r=>rfl
  |none =>
   show Sum.elim _ _ (Sum.inl ())=_
   rw[elim_l,zaq (by unfold inR;omega)]
   rfl) (by
  simp only[zak.s1020]
  rw[g2,yb9,zkA (by omega)]
  rfl) (by simp;omega)
 rw[key,zjr];unfold pP;cases scan (fun _ (a:Nat)=>dP a (rowG t o (p++[(↑a:Int)])) (rowG t o (q++[(↑a:Int)]))) 0 (List.range t.Inputs.toNat)<;>rfl
theorem iP_prog{t:zab}{o:zac}{v:zaw}(ht:zh3 t)(hv:zed o)(hV:zy0 t o v):zak v=some (match iP t o with|some r=>r|none=>(0,0,false)):=by
 have a4:=ht.p;unfold zak
 have a2:=zce (step:=fun s=>zak.s1022 v s) (l:=t.Prefixes) (fun i p=>scan (fun _ q=>if rowO o p t.Suffixes=rowO o q t.Suffixes then pP t o p q else none) (i+1) (t.Prefixes.drop (i+1))) (fun i p hp=>by
  have hi:=(zkI.1 hp).1
  obtain⟨r,r1,r2,r3⟩:=hV.pre i p hp
  obtain⟨l,l1,l2,l3⟩:=hV.nxt i p hp
  have a3:=zui (step:=fun s=>zak.s1021 v i (↑(pos r v.rows):Int) s) (l:=t.Prefixes) (fun _ q=>(if rowO o p t.Suffixes=rowO o q t.Suffixes then pP t o p q else none).map fun r=>(.inr (.inr r):Nat⊕(Unit⊕(Int×Int×Bool)))) (i+1) (by omega) (fun k q _ hq=>by
   have hk:=(zkI.1 hq).1
   obtain⟨s,s1,s2,s3⟩:=hV.pre k q hq
   simp only[zak.s1021]
   rw[hV.pl,zkB (by omega),zkD,zao s3]
   by_cases h:r=s
   ·subst h
    rw[zkA (by simp),zkC,zao l1,pP_prog ht hv hV hp hq l1,zah,if_pos (by rw[r1,s1])]
    cases pP t o p q<;>rfl
   ·have h2:¬(↑(pos s v.rows):Int)=↑(pos r v.rows):=fun e=>h (pos_inj r2 s2 (by omega))
    rw[zkB h2,zkD,if_neg (by rw[r1,s1];simpa using h)]
    rfl) (by
   simp only[zak.s1021]
   rw[hV.pl,zkA (by omega),zkC]) (by omega)
  simp only[zak.s1022]
  rw[hV.pl,zkB (by omega),zkD,zao r3,a3,zah,zjr]
  cases scan (fun _ q=>if rowO o p t.Suffixes=rowO o q t.Suffixes then pP t o p q else none) (i+1) (t.Prefixes.drop (i+1))<;>rfl) (by
  simp only[zak.s1022]
  rw[hV.pl,zkA (by omega),zkC]) (by omega)
 rw[a2,zah];unfold iP;cases scan (fun i p=>scan (fun _ q=>if rowO o p t.Suffixes=rowO o q t.Suffixes then pP t o p q else none) (i+1) (t.Prefixes.drop (i+1))) 0 t.Prefixes<;>rfl
theorem iP_range{t:zab}{o:zac}(hv:zed o)(hA:zit t o){x:Int×Int×Bool}(h:iP t o=some x):x.2.2=true∧∃a e:Nat,x.1=(a:Int)∧x.2.1=(e:Int)∧a<t.Inputs.toNat∧e<t.Suffixes.length:=by
 refine ziw (Q:=fun x=>x.2.2=true∧∃a e:Nat,x.1=(a:Int)∧x.2.1=(e:Int)∧a<t.Inputs.toNat∧e<t.Suffixes.length) h fun i p r hp hr=>?_;refine ziw (Q:=fun x=>x.2.2=true∧∃a e:Nat,x.1=(a:Int)∧x.2.1=(e:Int)∧a<t.Inputs.toNat∧e<t.Suffixes.length) hr fun k q r hq hr=>?_;split at hr
 ·refine ziw (Q:=fun x=>x.2.2=true∧∃a e:Nat,x.1=(a:Int)∧x.2.1=(e:Int)∧a<t.Inputs.toNat∧e<t.Suffixes.length) hr fun a a' r ha hr=>?_
  have a2:a<t.Inputs.toNat:=by
   have:=(zkI.1 ha).1;simpa using this
  rw[ybu a2]at ha;injection ha with ha
  subst ha;refine ziw (Q:=fun x=>x.2.2=true∧∃a e:Nat,x.1=(a:Int)∧x.2.1=(e:Int)∧a<t.Inputs.toNat∧e<t.Suffixes.length) hr fun e u r hu hr=>?_;split at hr
  ·cases hr
  ·injection hr with hr
   subst hr;refine⟨rfl,a,0+e,rfl,rfl,a2,?_⟩;obtain⟨z,hz⟩:=hA p (zkH hp) (p++[(↑a:Int)]) (yaj _ (yae.2 ⟨a,ybc.2 a2,rfl⟩));rw[zdu hz]at hu;have h1:=(zkI.1 hu).1;have h2:=(zlh hv hz).1;omega
 ·cases hr
theorem zoq{t:zab}{o:zac}(ht:zh3 t)(ho:SmO o)(hv:zed o):zfb t o=some (incT t o):=by
 obtain⟨v,e,h1,h2⟩:=znh ht ho hv;obtain⟨h3,h4⟩:=zwj h2;unfold zfb incT;rw[h1,zah];simp only;rw[h3]at h4 ⊢;by_cases h:ziz t o=0
 ·obtain⟨hV,hA,_⟩:=h4 h;rw[zkA (by simpa using h),zkC,if_neg (by simpa using h),iP_prog ht hv hV,zah];cases hi:iP t o with
  |none=>rfl
  |some x =>
   obtain⟨hb,a,e,ha,he,_,a2⟩:=iP_range hv hA hi;obtain⟨x1,x2,x3⟩:=x;simp only at hb ha he;subst hb ha he;have hx:=get_at a2;have a3:=ht.sw _ (yai a2);simp only[ybh,zkC];rw[zbw rfl hx,zif _ (by simp) (by simp;omega),zah];unfold toW;simp[hx]
 ·rw[zkB h,zkD,if_pos h]
theorem dP_ref{t:zab}{a:Nat}{x y:Row}(ht:zh3 t)(h:zw8 x y)(hx:x.length=t.Suffixes.length):iter (fun s=>zcm.s13 t a (x,true) (y,true) s) fuel 0=some (match (dP a x y).map fun r=>(.inr (.inr (toW t r,true)):Nat⊕(Unit⊕(yab×Bool))) with|some r=>.inr r|none=>.inl ()):=by
 obtain⟨h1,h2,h3⟩:=h;have a4:=h2.1
 have key:=zce (step:=fun s=>zcm.s13 t a (x,true) (y,true) s) (l:=x) (fun e u=>(if y[e]?=some u then none else some ((↑a:Int),(↑e:Int),true)).map fun r=>(.inr (.inr (toW t r,true)):Nat⊕(Unit⊕(yab×Bool)))) (fun e u hu=>by
  have he:=(zkI.1 hu).1
  have hw:=get_at (l:=y) (i:=e) (by omega)
  have a2:=get_at (l:=t.Suffixes) (i:=e) (by omega)
  have a3:=(h2.2 u (zkH hu)).1
  simp only[zcm.s13]
  rw[zbr hu,zkD,zao hu,zao hw,znl _ _ (by omega),zah]
  by_cases h4:u=y[e]'(by omega)
  ·rw[zkB h4,if_pos (by rw[hw,h4])]
   rfl
  ·rw[zkA h4,if_neg (fun h=>h4 (by rw[hw]at h;injection h with h;exact h.symm))]
   simp only[yb7,zkD]
   rw[zao a2,zeo (by simp[SmW]) (ht.sm.2.2.1.2 _ (yai _)),zah]
   simp[toW,a2]) (by
  simp only[zcm.s13]
  rw[zc6]
  rfl) (by omega)
 rw[key,zjr];unfold dP;cases scan (fun e u=>if y[e]?=some u then none else some ((↑a:Int),(↑e:Int),true)) 0 x<;>rfl
theorem pP_ref{t:zab}{o:zac}(ht:zh3 t)(ho:SmO o)(hv:zed o)(hA:zit t o){p q:yab}(hp:p∈t.Prefixes)(hq:q∈t.Prefixes):zcm t o p q=some (match pP t o p q with|some r=>(toW t r,true)|none=>([],false)):=by
 have hn:=ht.n;have hS:=ht.sm.2.2.1;have a5:=ht.pw p hp;have a6:=ht.pw q hq;unfold zcm
 have key:=zce (step:=fun s=>zcm.s14 t o p q s) (l:=List.range t.Inputs.toNat) (fun _ (a:Nat)=>(dP a (rowG t o (p++[(↑a:Int)])) (rowG t o (q++[(↑a:Int)]))).map fun r=>(toW t r,true)) (fun a a' ha=>by
  have a2:a<t.Inputs.toNat:=by
   have:=(zkI.1 ha).1
   simpa using this
  rw[ybu a2]at ha
  injection ha with ha
  subst ha
  obtain⟨x,hx⟩:=hA p hp (p++[(↑a:Int)]) (yaj _ (yae.2 ⟨a,ybc.2 a2,rfl⟩))
  obtain⟨y,hy⟩:=hA q hq (q++[(↑a:Int)]) (yaj _ (yae.2 ⟨a,ybc.2 a2,rfl⟩))
  have a3:SmW (p++[(↑a:Int)]):=by unfold SmW;simp;omega
  have a4:SmW (q++[(↑a:Int)]):=by unfold SmW;simp;omega
  simp only[zcm.s14]
  rw[zkB (by omega),zkD,zeo (by unfold SmW;omega) (by simp[SmW]),zah,zko ho hv hS a3,zah,zeo (by unfold SmW;omega) (by simp[SmW]),zah,zko ho hv hS a4,zah,hx,hy,dP_ref ht (zy5 ht hv hx hy) (zlh hv hx).1,zah,zdu hx,zdu hy]
  cases dP a x y with
  |some r=>rfl
  |none =>
   show Sum.elim _ _ (Sum.inl ())=_
   rw[elim_l,zaq (by unfold inR;omega)]
   rfl) (by
  simp only[zcm.s14]
  rw[yb9,zkA (by omega)]
  rfl) (by simp;omega)
 rw[key,zah,zjr];unfold pP;cases scan (fun _ (a:Nat)=>dP a (rowG t o (p++[(↑a:Int)])) (rowG t o (q++[(↑a:Int)]))) 0 (List.range t.Inputs.toNat)<;>rfl
theorem zkt{t:zab}{o:zac}(ht:zh3 t)(ho:SmO o)(hv:zed o):zbk t o=some (incT t o):=by
 have a8:=ht.p;have hS:=ht.sm.2.2.1;unfold zbk incT;rw[zo3 ht ho hv,zah];by_cases h:ziz t o=0
 ·rw[zkA (by simpa using h),zkC,if_neg (by simpa using h)]
  have hA:zit t o:=by
   unfold ziz at h;split at h
   ·rename_i h1;exact absurd h h1
   ·split at h
    ·rename_i h2;exact zr8.1 h2
    ·cases h
  have a2:∀p∈t.Prefixes,∃r,rowO o p t.Suffixes=some r:=fun p hp=>hA p hp p (by simp[zfz])
  have a3:=zce (step:=fun s=>zbk.s14 t o s) (l:=t.Prefixes) (fun i p=>(scan (fun _ q=>if rowO o p t.Suffixes=rowO o q t.Suffixes then pP t o p q else none) (i+1) (t.Prefixes.drop (i+1))).map fun r=>(toW t r,true,(0:Int))) (fun i p hp=>by
   have hi:=(zkI.1 hp).1
   have a5:=zkH hp
   obtain⟨r,hr⟩:=a2 p a5
   have a6:=zui (step:=fun s=>zbk.s13 t o i s) (l:=t.Prefixes) (fun _ q=>(if rowO o p t.Suffixes=rowO o q t.Suffixes then pP t o p q else none).map fun r=>(.inr (.inr (toW t r,true,(0:Int))):Nat⊕(Unit⊕(yab×Bool×Int)))) (i+1) (by omega) (fun k q _ hq=>by
    have a4:=zkH hq
    obtain⟨s,hs⟩:=a2 q a4
    have a7:=zpj hv ht hr
    simp only[zbk.s13]
    rw[zbr hq,zkD,zao hp,zko ho hv hS (ht.sm.2.1.2 p a5),zah,zao hq,zko ho hv hS (ht.sm.2.1.2 q a4),zah,hr,hs]
    simp only[tw]
    rw[zjz r s (by have:=a7.1;omega) (fun x hx=>by have:=(a7.2 x hx).1;omega),zah]
    by_cases h:r=s
    ·subst h
     rw[zkB rfl,if_pos rfl]
     simp only[ybh,zkC]
     rw[zao hp,zao hq,pP_ref ht ho hv hA a5 a4,zah]
     cases pP t o p q<;>rfl
    ·rw[zkA h,if_neg (by simpa using h)]
     rfl) (by
    simp only[zbk.s13]
    rw[zc6]
    rfl) (by omega)
   simp only[zbk.s14]
   rw[zbr hp,zkD,a6,zah,zjr]
   cases scan (fun _ q=>if rowO o p t.Suffixes=rowO o q t.Suffixes then pP t o p q else none) (i+1) (t.Prefixes.drop (i+1))<;>rfl) (by
   simp only[zbk.s14]
   rw[zc6]
   rfl) (by omega)
  rw[a3,zah,zjr];unfold iP;cases scan (fun i p=>scan (fun _ q=>if rowO o p t.Suffixes=rowO o q t.Suffixes then pP t o p q else none) (i+1) (t.Prefixes.drop (i+1))) 0 t.Prefixes<;>rfl
 ·rw[zkB h,zkD,if_pos h]
end
theorem ze2{t:zab}{o:zac}(h:ziz t o=0):zda t=0∧t.Inputs=o.Inputs∧zit t o:=by
 unfold ziz at h;split at h
 ·rename_i h1;exact absurd h h1
 ·rename_i h1;split at h
  ·rename_i h2;have h1:chkT t o=0:=by simpa using h1
   unfold chkT at h1;split at h1
   ·rename_i h3;exact absurd h1 h3
   ·rename_i h3;split at h1
    ·cases h1
    ·rename_i h4;exact⟨by simpa using h3,by simpa using h4,zr8.1 h2⟩
  ·cases h
theorem zsw{l:yaa}(h:Asc l){i:Nat}{w:yab}(hw:l[i]?=some w):zgf l i w=true:=by
 unfold zgf;cases i with
 |zero=>rfl
 |succ i =>
  have hi:=(zkI.1 hw).1;have hp:=get_at (l:=l) (i:=i) (by omega);simp only[hp];have:=h.get (yd4 i) hp hw;exact zkB (by omega)
theorem validT_zero{t:zab}(h1:1<=t.Inputs)(h2:t.Inputs<=4)(hp0:t.Prefixes≠[])(hp:t.Prefixes.length<=601)(hs:t.Suffixes.length<=601)(hb:t.Prefixes.length*5*t.Suffixes.length<=160000)(hA:Asc t.Prefixes)(hB:Asc t.Suffixes)
  (hc:∀w∈t.Prefixes,zbq w t.Inputs=0∧w.length<=81) (hd:∀w∈t.Suffixes,zbq w t.Inputs=0∧w.length≠0∧w.length<=81) (he:∀w∈t.Prefixes,0<w.length->w.take (w.length-1)∈t.Prefixes) (h0:[]∈t.Prefixes)
  (hf:∀a∈List.range t.Inputs.toNat,[(↑a:Int)]∈t.Suffixes):zda t=0:=by
 unfold zda;have a7:0<t.Prefixes.length:=ydm.2 hp0
 have a5:¬160000<(↑t.Prefixes.length:Int)*(t.Inputs+1)*↑t.Suffixes.length:=by
  have a1:(↑t.Prefixes.length:Int)*(t.Inputs+1)<=(↑t.Prefixes.length:Int)*5:=Int.mul_le_mul_of_nonneg_left (by omega) (by omega);have a2:(↑t.Prefixes.length:Int)*(t.Inputs+1)*↑t.Suffixes.length<=(↑t.Prefixes.length:Int)*5*↑t.Suffixes.length:=Int.mul_le_mul_of_nonneg_right a1 (by omega);have a3:(↑(t.Prefixes.length*5*t.Suffixes.length):Int)=(↑t.Prefixes.length:Int)*5*↑t.Suffixes.length:=by rw[yfb,yfb];rfl
  omega
 rw[if_neg (by omega),if_neg (by omega),if_neg (by rintro (h|h|h);omega;omega;exact a5 h)]
 have e1:scan (preG t fun w=>decide (w∈t.Prefixes)) 0 t.Prefixes=none:=zeh.2 fun i w hw=>by
  have a4:=zkH hw;rw[yah];unfold preG;rw[if_neg (by simpa using (hc w a4).1)]
  have hz:¬((i=0∧0<w.length)∨zgf t.Prefixes i w=false):=by
   rintro (⟨rfl,h⟩|h)
   ·obtain⟨j,hj,e⟩:=ya5.1 h0;have ej:=get_at hj;rw[e]at ej;rcases ycf j with rfl|a6
    ·rw[hw]at ej;injection ej with ej
     subst ej;simp at h
    ·have:=hA.get a6 hw ej;have:=zxl this;simp at this;rw[this]at h;simp at h
   ·rw[zsw hA hw]at h;cases h
  rw[if_neg hz,if_neg];rintro⟨h,h'⟩;exact of_decide_eq_false h' (he w a4 h)
 have e2:scan (sufG t) 0 t.Suffixes=none:=zeh.2 fun i w hw=>by
  have a4:=zkH hw;rw[yah];unfold sufG;rw[if_neg (by simpa using (hd w a4).1),if_neg (hd w a4).2.1,if_neg (by rw[zsw hB hw];simp)]
 rw[e1,e2];simp only;rw[if_pos hf];have l1:=(zq0 t.Prefixes 81).2 fun x hx=>(hc x hx).2;have l2:=(zq0 t.Suffixes 81).2 fun x hx=>(hd x hx).2.2;rw[if_neg (by omega)]
theorem zjv{t:zab}(h:zda t=0):(∀w∈t.Prefixes,zbq w t.Inputs=0)∧(∀w∈t.Prefixes,0<w.length->w.take (w.length-1)∈t.Prefixes)∧[]∈t.Prefixes∧∀w∈t.Suffixes,zbq w t.Inputs=0∧w.length≠0:=by
 obtain⟨_,_,_,_,_,e1,e2,a2⟩:=zf7 h
 have key:∀(i:Nat) w,t.Prefixes[i]?=some w->zbq w t.Inputs=0∧¬(i=0∧0<w.length)∧(0<w.length->w.take (w.length-1)∈t.Prefixes):=fun i w hw=>by
  have:=zeh.1 e1 i w hw;rw[yah]at this;unfold preG at this;split at this
  ·cases this
  ·rename_i h1;split at this
   ·cases this
   ·rename_i h2;split at this
    ·cases this
    ·rename_i h3;refine⟨by simpa using h1,fun h4=>h2 (Or.inl h4),fun h4=>?_⟩;refine yau fun h5=>h3 ⟨h4,zkA h5⟩
 refine⟨fun w hw=>?_,fun w hw=>?_,?_,(zwl e2).2⟩
 ·obtain⟨i,hi,rfl⟩:=ya5.1 hw;exact(key i _ (get_at hi)).1
 ·obtain⟨i,hi,rfl⟩:=ya5.1 hw;exact(key i _ (get_at hi)).2.2
 ·have hl:0<t.Prefixes.length:=ydm.2 a2;have:=(key 0 _ (get_at hl)).2.1
  have he:t.Prefixes[0].length=0:=by
   rcases ycf t.Prefixes[0].length with h|h
   ·exact h
   ·exact absurd ⟨rfl,h⟩ this
  have:=yaq he;rw[<- this];exact yai _
theorem pre_closed{t:zab}(h:zda t=0):∀(n:Nat) (p:yab),p∈t.Prefixes->∀k,p.length-k=n->k<=p.length->p.take k∈t.Prefixes:=by
 obtain⟨_,hc,_,_⟩:=zjv h;intro n
 induction n with
 |zero=>intro p hp k hk a2;rw[ybe (by omega)];exact hp
 |succ n ih =>
  intro p hp k hk a2;have h1:=hc p hp (by omega);have h2:=ih _ h1 k (by rw[yaf];omega) (by rw[yaf];omega);rw[yc0,yc3 (by omega)]at h2;exact h2
theorem sort_more{l m:yaa}{w:yab}(h:Asc l)(hw:w∉l)(hm:∀x,x∈m↔x∈l∨x=w):(sortW m).length=l.length+1∧∀x,x∈sortW m↔x∈l∨x=w:=by
 have a2:∀x,x∈sortW m↔x∈l∨x=w:=fun x=>by rw[zcq,hm]
 have e:sortW m=insW l w:=zqq (zhx m) (h.insW w) fun x=>by rw[a2,mem_insW]
 refine⟨?_,a2⟩;rw[e];unfold insW;rw[if_neg hw];have:=zxc l w;simp[zkJ,yaf,ya8];omega
theorem rowO_get{o:zac}{w:yab}:∀{S:yaa} {r:Row},rowO o w S=some r->∀(i:Nat) e,S[i]?=some e->∃x,ansO o (w++e)=some x∧r[i]?=some (x.drop w.length)
 |[],_,_,i,e,he=>by simp at he
 |u::S,r,h,i,e,he=>by
  unfold rowO at h;cases ha:ansO o (w++u) with
  |none=>rw[ha]at h;cases h
  |some x =>
   rw[ha]at h;obtain⟨l,h1,rfl⟩:=yby.1 h;cases i with
   |zero =>
    simp at he;subst he;exact⟨x,ha,rfl⟩
   |succ i =>
    obtain⟨y,h2,h3⟩:=rowO_get h1 i e (by simpa using he);exact⟨y,h2,by simpa using h3⟩
theorem iP_parts{t:zab}{o:zac}(hA:zit t o){x:Int×Int×Bool}(h:iP t o=some x) :
  ∃p q,p∈t.Prefixes∧q∈t.Prefixes∧rowO o p t.Suffixes=rowO o q t.Suffixes∧∃a e:Nat,x=((a:Int),(e:Int),true)∧a<t.Inputs.toNat∧∃X Y u,rowO o (p++[(↑a:Int)]) t.Suffixes=some X∧rowO o (q++[(↑a:Int)]) t.Suffixes=some Y∧X[e]?=some u∧Y[e]?≠some u:=by
 refine ziw (Q:=fun x=>∃p q,p∈t.Prefixes∧q∈t.Prefixes∧rowO o p t.Suffixes=rowO o q t.Suffixes∧∃a e:Nat,x=((a:Int),(e:Int),true)∧a<t.Inputs.toNat∧∃X Y u,rowO o (p++[(↑a:Int)]) t.Suffixes=some X∧rowO o (q++[(↑a:Int)]) t.Suffixes=some Y∧X[e]?=some u∧Y[e]?≠some u) h fun i p r hp hr=>?_;refine ziw (Q:=fun x=>∃p q,p∈t.Prefixes∧q∈t.Prefixes∧rowO o p t.Suffixes=rowO o q t.Suffixes∧∃a e:Nat,x=((a:Int),(e:Int),true)∧a<t.Inputs.toNat∧∃X Y u,rowO o (p++[(↑a:Int)]) t.Suffixes=some X∧rowO o (q++[(↑a:Int)]) t.Suffixes=some Y∧X[e]?=some u∧Y[e]?≠some u) hr fun k q r hq hr=>?_;have a4:=zkH hp;have a3:q∈t.Prefixes:=ybg (zkH hq);split at hr
 ·rename_i a6;refine ziw (Q:=fun x=>∃p q,p∈t.Prefixes∧q∈t.Prefixes∧rowO o p t.Suffixes=rowO o q t.Suffixes∧∃a e:Nat,x=((a:Int),(e:Int),true)∧a<t.Inputs.toNat∧∃X Y u,rowO o (p++[(↑a:Int)]) t.Suffixes=some X∧rowO o (q++[(↑a:Int)]) t.Suffixes=some Y∧X[e]?=some u∧Y[e]?≠some u) hr fun a a' r ha hr=>?_
  have a2:a<t.Inputs.toNat:=by
   have:=(zkI.1 ha).1;simpa using this
  rw[ybu a2]at ha;injection ha with ha
  subst ha;obtain⟨X,hX⟩:=hA p a4 (p++[(↑a:Int)]) (yaj _ (yae.2 ⟨a,ybc.2 a2,rfl⟩));obtain⟨Y,hY⟩:=hA q a3 (q++[(↑a:Int)]) (yaj _ (yae.2 ⟨a,ybc.2 a2,rfl⟩));rw[zdu hX,zdu hY]at hr;refine ziw (Q:=fun x=>∃p q,p∈t.Prefixes∧q∈t.Prefixes∧rowO o p t.Suffixes=rowO o q t.Suffixes∧∃a e:Nat,x=((a:Int),(e:Int),true)∧a<t.Inputs.toNat∧∃X Y u,rowO o (p++[(↑a:Int)]) t.Suffixes=some X∧rowO o (q++[(↑a:Int)]) t.Suffixes=some Y∧X[e]?=some u∧Y[e]?≠some u) hr fun e u r hu hr=>?_;split at hr
  ·cases hr
  ·rename_i a5;injection hr with hr
   subst hr;rw[yah]at a5 ⊢;exact⟨p,q,a4,a3,a6,a,e,rfl,a2,X,Y,u,hX,hY,hu,a5⟩
 ·cases hr
theorem zxg{t:zab}(ht:zh3 t){w:yab}(h:w∈extL t):w.length<=81∧∀a∈w,inR a:=by
 obtain⟨p,hp,h2⟩:=ya2.1 h;obtain⟨a,ha,rfl⟩:=yae.1 h2;have ha:=ybc.1 ha;have:=ht.pw p hp;have hn:=ht.n;refine⟨by simp;omega,fun b hb=>?_⟩;rcases yak.1 hb with hb|hb
 ·exact ht.sm.2.2.2 p hp b hb
 ·rw[yba.1 hb];unfold inR;omega
theorem zpk{l:yaa}{n:Int}(hA:Asc l)(hc:∀w∈l,zbq w n=0∧w.length≠0)(h:∀a∈List.range n.toNat,[(↑a:Int)]∈l):∀a,a<n.toNat->l[a]?=some [(↑a:Int)]:=by
 intro a
 induction a using Nat.strongRecOn with
 |_ a ih =>
  intro ha;obtain⟨j,hj,e⟩:=ya5.1 (h a (ybc.2 ha));have ej:l[j]?=some [(↑a:Int)]:=by rw[get_at hj,e]
  rcases ycd j a with a5|a3|a7
  ·have:=ih j a5 (by omega);rw[ej]at this;injection this with this
   injection this with this
   omega
  ·rw[<- a3,ej,a3]
  ·have hx:=get_at (l:=l) (i:=a) (by omega);have a2:=hA.get a7 hx ej;have a4:=zkH hx;obtain⟨b,hb⟩:=one_of (hc _ a4).2 (zxl a2);rw[hb]at a2 hx;have a5:=zpo.1 a2;have hr:=zjn (hc _ a4).1 b (by rw[hb];simp);have a6:=ih b.toNat (by omega) (by omega);rw[show((b.toNat:Nat):Int)=b by omega]at a6;have:=hA.get (show b.toNat<a by omega) a6 hx;rw[zfs]at this;cases this
def newAt(rs:List Row)(i:Nat):Bool:=match rs[i]? with|some r=>decide (r∉rs.take i)|none=>false
def fstI(rs:List Row)(k:Nat):List Nat:=(List.range k).filter (newAt rs)
theorem zrs(rs:List Row)(k:Nat):fstI rs (k+1)=fstI rs k++if newAt rs k=true then [k] else []:=by
 unfold fstI;rw[ycr,ydc];simp only[yel,List.filter_nil]
theorem zpx(rs:List Row):∀k,k<=rs.length->za9 [] (rs.take k)=(fstI rs k).map fun i=>(rs[i]?).getD []:=by
 intro k
 induction k with
 |zero=>intro _;rfl
 |succ k ih =>
  intro hk;have hx:=get_at (l:=rs) (i:=k) (by omega);rw[zbc hx,zk4,ih (by omega),zrs,ya1]
  have a2:newAt rs k=true↔rs[k]∉za9 [] (rs.take k):=by
   unfold newAt;rw[hx];simp only;rw[decide_eq_true_iff,zdw];simp
  rw[ih (by omega)]at a2;unfold addR;by_cases h:newAt rs k=true
  ·rw[if_neg (a2.1 h),if_pos h];simp[hx]
  ·rw[if_pos (yau fun h2=>h (a2.2 h2)),if_neg h];simp
theorem zsi(rs:List Row)(k:Nat):(fstI rs k).length<=k:=by
 unfold fstI;have:=yc1 (newAt rs) (List.range k);rw[yb9]at this;exact this
theorem zr4{rs:List Row}{k i:Nat}:i∈fstI rs k↔i<k∧newAt rs i=true:=by
 unfold fstI;rw[yc4,ybc]
theorem pos_map{α β:Type}[DecidableEq α][DecidableEq β]{f:α->β}{x:α}:∀{l:List α},x∈l->(∀y∈l,f y=f x->y=x)->pos (f x) (l.map f)=pos x l
 |y::l,h,hi=>by
  rw[yat];unfold pos;by_cases e:y=x
  ·subst e;simp
  ·have h2:¬f y=f x:=fun e2=>e (hi y (by simp) e2);rw[if_neg e,if_neg h2];rcases yap.1 h with h|h
   ·exact absurd h.symm e
   ·rw[pos_map h fun z hz=>hi z (yaj _ hz)]
def zdg(t:zab)(o:zac):List Row:=t.Prefixes.map (rowG t o)
def zeu(t:zab)(o:zac):List Row:=za9 [] (zdg t o)
def zmh(t:zab)(o:zac)(p:yab):yab:=(List.range t.Inputs.toNat).map fun(a:Nat)=>(↑(pos (rowG t o (p++[(↑a:Int)])) (zeu t o)):Int)
def outT(t:zab)(o:zac)(p:yab):yab:=(List.range t.Inputs.toNat).map fun(a:Nat)=>(((rowG t o p)[a]?).getD []).headD 0
def zgd(t:zab)(i:Nat):yab:=(t.Prefixes[i]?).getD []
def hypT(t:zab)(o:zac):za5 :=
 ⟨⟨t.Inputs,0,(fstI (zdg t o) t.Prefixes.length).map fun i=>zmh t o (zgd t i),(fstI (zdg t o) t.Prefixes.length).map fun i=>outT t o (zgd t i)⟩,(fstI (zdg t o) t.Prefixes.length).map (zgd t)⟩
abbrev h0:za5:=⟨⟨0,0,[],[]⟩,[]⟩
def hypR(t:zab)(o:zac):za5×Int :=
 if ziz t o≠0 then(h0,ziz t o) else if(extL t).find? (newRow t o)≠none∨iP t o≠none then(h0,10) else(hypT t o,0)
theorem rowsO_eq{t:zab}{o:zac}:∀{ps:yaa} {rs:List Row},zho o t.Suffixes ps=some rs->rs=ps.map (rowG t o)
 |[],rs,h=>by
  injection h with h
  exact h.symm
 |w::ws,rs,h=>by
  unfold zho at h;cases hr:rowO o w t.Suffixes with
  |none=>rw[hr]at h;cases h
  |some r =>
   rw[hr]at h;obtain⟨rs',h1,rfl⟩:=yby.1 h;rw[rowsO_eq h1,yat,zdu hr]
theorem row_out{t:zab}{o:zac}(hv:zed o){p:yab}{r:Row}(hr:rowO o p t.Suffixes=some r){a:Nat}(hs:t.Suffixes[a]?=some [(↑a:Int)]):∃y z,r[a]?=some [y]∧ansO o (p++[(↑a:Int)])=some z∧z.drop p.length=[y]:=by
 obtain⟨z,h1,h2⟩:=rowO_get hr a _ hs;have hl:=zva hv h1;rw[zkJ,ybi]at hl;have hd:(z.drop p.length).length=1:=by rw[ya8];omega
 match hq:z.drop p.length,hd with
 |[y],_=>exact⟨y,z,by rw[h2,hq],h1,hq⟩
theorem fst_few{t:zab}{o:zac}(h:(zeu t o).length<=128):(fstI (zdg t o) t.Prefixes.length).length<=128:=by
 have h2:(zdg t o).length=t.Prefixes.length:=by unfold zdg;rw[zkK]
 have h1:=zpx (zdg t o) t.Prefixes.length (by omega);rw[ybe (by omega)]at h1;have h3:=congrArg List.length h1;rw[zkK]at h3;unfold zeu at h;omega
theorem zq4{t:zab}{o:zac}(ht:zh3 t)(ho:SmO o)(hv:zed o)(hr:(zeu t o).length<=128):zav t o=some (hypR t o):=by
 have hn:=ht.n;have e5:=ht.p;obtain⟨v,e,h1,h2⟩:=znh ht ho hv;obtain⟨h3,h4⟩:=zwj h2;unfold zav hypR;rw[h1,zah];simp only;rw[h3]at h4 ⊢;by_cases hz:ziz t o=0
 ·obtain⟨hV,hA,d2⟩:=h4 hz;obtain⟨b2,_,_⟩:=ze2 hz;obtain⟨e7,_,e2,d0,b6,_,_,e6⟩:=zf7 b2;obtain⟨_,_,_,d6⟩:=zjv b2;have b7:=zpk d0 d6 b6;obtain⟨i,a,b,h5,h6⟩:=zny ht hV;rw[zkA (by simpa using hz),zkC,if_neg (by simpa using hz),h5,zah,iP_prog ht hv hV,zah];simp only;cases hf:(extL t).find? (newRow t o) with
  |some w =>
   rw[hf]at h6;obtain⟨rfl,_⟩:=h6;rw[if_pos (Or.inl (by simp))];rfl
  |none =>
   rw[hf]at h6;subst h6;cases hi:iP t o with
   |some x =>
    obtain⟨hb,_⟩:=iP_range hv hA hi;rw[if_pos (Or.inr (by simp))];simp only[zkC,hb];rfl
   |none =>
    rw[if_neg (by simp)]
    -- closed: there are no other rows than the prefixes'
    have b5:∃rs a5,zho o t.Suffixes t.Prefixes=some rs∧zgz o t.Suffixes t.Inputs.toNat t.Prefixes=some a5∧v.rows=za9 (za9 [] rs) a5.flatten∧v.prefixes=nums v.rows rs∧v.next=a5.map (nums v.rows):=by
     rcases h2 with⟨q1,q2⟩|⟨_,q2,_⟩|⟨_,_,q⟩
     ·exact absurd d2 q1
     ·rw[h3,hz]at q2;cases q2
     ·exact q
    obtain⟨rs,a5,q1,q2,q3,q4,q5⟩:=b5;have a2:rs=zdg t o:=rowsO_eq q1;have e4:rs.length=t.Prefixes.length:=(zh0 q1).1;have hE:=zk8 q2
    have a3:∀x∈a5.flatten,x∈rs:=fun x hx=>by
     obtain⟨l,hl,hx⟩:=ycz.1 hx;obtain⟨k,hk,rfl⟩:=ya5.1 hl;have d8:=get_at (l:=t.Prefixes) (i:=k) (by rw[<- hE.1];exact hk);obtain⟨l',a9,d4⟩:=hE.2 k _ d8;rw[get_at hk]at a9;injection a9 with a9
     subst a9;obtain⟨j,hj,rfl⟩:=ya5.1 hx;have hL:=zh0 d4
     have c7:j<t.Inputs.toNat:=by
      have:=hL.1;simp[exts]at this;omega
     have hw:(exts t.Inputs.toNat t.Prefixes[k])[j]?=some (t.Prefixes[k]++[(↑j:Int)]):=by
      unfold exts;rw[yan,ybu c7];rfl
     obtain⟨r,a8,d3⟩:=hL.2 j _ hw;rw[get_at hj]at a8;injection a8 with a8
     subst a8
     have a7:newRow t o (t.Prefixes[k]++[(↑j:Int)])=false:=by
      have:=yds.1 hf (t.Prefixes[k]++[(↑j:Int)]) (ya2.2 ⟨_,yai _,yae.2 ⟨j,ybc.2 c7,rfl⟩⟩);simpa using this
     unfold newRow at a7;have a7:=ydw.1 (of_decide_eq_false a7);obtain⟨p,hp,b9⟩:=yae.1 a7;rw[a2];refine yae.2 ⟨p,hp,?_⟩;rw[d3]at b9;exact zdu b9
    have hR:v.rows=zeu t o:=by
     rw[q3];unfold zeu;rw[<- a2]
     have:∀(xs R:List Row),(∀x∈xs,x∈R)->za9 R xs=R:=by
      intro xs
      induction xs with
      |nil=>intro R _;rfl
      |cons x xs ih =>
       intro R h;show za9 (addR R x) xs=R
       have e1:addR R x=R:=by
        unfold addR;rw[if_pos (h x (by simp))]
       rw[e1];exact ih R fun y hy=>h y (yaj _ hy)
     exact this _ _ fun x hx=>zdw.2 (Or.inr (a3 x hx))
    have d7:=zkp [] rs;simp only[yar]at d7
    have d5:v.rows.length<=128:=by
     rw[hR];exact hr
    simp only[zkC,zah];rw[zkA (by omega),zkC]
    have key:=zb1 (step:=fun(s:yaa×yaa×yaa×Nat)=>zav.s32 t (v,ziz t o) s.1 s.2.1 s.2.2.1 s.2.2.2) (r:=((fstI rs t.Prefixes.length).map fun i=>zmh t o (zgd t i),(fstI rs t.Prefixes.length).map fun i=>outT t o (zgd t i),(fstI rs t.Prefixes.length).map (zgd t)))
     (fun s=>s.2.2.2<=t.Prefixes.length∧s.1=(fstI rs s.2.2.2).map (fun i=>zmh t o (zgd t i))∧s.2.1=(fstI rs s.2.2.2).map (fun i=>outT t o (zgd t i))∧s.2.2.1=(fstI rs s.2.2.2).map (zgd t)) (fun s=>t.Prefixes.length-s.2.2.2) (fun s ⟨g1,g2,g3,g4⟩=>by
      obtain⟨N,O,A,k⟩:=s
      simp only at g1 g2 g3 g4
      subst g2 g3 g4
      have e3:=zsi rs k
      simp only[zav.s32]
      rw[hV.pl]
      by_cases g5:k<t.Prefixes.length
      ·left
       have hp:=get_at g5
       have d1:=yai g5
       have e0:=ht.pw _ d1
       obtain⟨r,r1,r2,r3⟩:=hV.pre k _ hp
       obtain⟨l,l1,l2,l3⟩:=hV.nxt k _ hp
       have c0:rs[k]?=some r:=by
        rw[a2]
        unfold zdg
        rw[yan,hp]
        show some (rowG t o t.Prefixes[k])=_
        rw[zdu r1]
       have c9:zgd t k=t.Prefixes[k]:=by unfold zgd;rw[hp];rfl
       have b3:newAt rs k=true↔r∉rs.take k:=by
        unfold newAt
        rw[c0]
        simp
       have b4:((fstI rs k).map (zgd t)).length=(za9 [] (rs.take k)).length:=by
        rw[zpx rs k (by omega),zkK,zkK]
       have c8:v.rows=za9 (za9 [] (rs.take k)) (rs.drop k):=by
        rw[hR]
        unfold zeu
        rw[<- a2,<- znf,ydd]
       rw[zkB (by omega),zkD,zao r3,b4]
       by_cases g6:newAt rs k=true
       ·have b0:=b3.1 g6
        have a6:r∉za9 [] (rs.take k):=fun h=>by
         rcases zdw.1 h with h|h
         ·cases h
         ·exact b0 h
        have a4:pos r v.rows=(za9 [] (rs.take k)).length:=by
         rw[c8,ybr (by omega)]
         have e1:rs[k]'(by omega)=r:=by
          have:=get_at (l:=rs) (i:=k) (by omega)
          rw[c0]at this
          injection this with this
          exact this.symm
         rw[e1]
         show pos r (za9 (addR (za9 [] (rs.take k)) r) _)=_
         rw[zpm (zvc.2 (Or.inr rfl))]
         unfold addR
         rw[if_neg a6,pos_new a6]
        rw[a4,zkA (by omega),zkC]
        have outs:=zb1 (step:=fun(s:yab×Nat)=>zav.s30 t (v,ziz t o) (↑(za9 [] (rs.take k)).length:Int) s.1 s.2) (r:=outT t o t.Prefixes[k]) (fun s=>s.2<=t.Inputs.toNat∧s.1=(List.range s.2).map fun(a:Nat)=>(((rowG t o t.Prefixes[k])[a]?).getD []).headD 0) (fun s=>t.Inputs.toNat-s.2) (fun s ⟨m1,m2⟩=>by
         obtain⟨y,a⟩:=s
         simp only at m1 m2
         subst m2
         simp only[zav.s30]
         by_cases m3:a<t.Inputs.toNat
         ·left
          obtain⟨y,z,y1,_,_⟩:=row_out hv r1 (b7 a m3)
          have b8:v.rows[(za9 [] (rs.take k)).length]?=some r:=by rw[<- a4];exact zlw r2
          refine⟨((List.range (a+1)).map fun(a:Nat)=>(((rowG t o t.Prefixes[k])[a]?).getD []).headD 0,a+1),?_,⟨m3,rfl⟩,by simp only;omega⟩
          rw[zkB (by omega),zkD,zbw rfl b8,zao y1,zao (x:=y) rfl,zaq (by rw[zkK,yb9];unfold za3;omega),zaq (by unfold inR;omega),ycr,ya1]
          simp[zdu r1,y1]
         ·right
          have e:a=t.Inputs.toNat:=by omega
          subst e
          rw[zkA (by omega),zkC]
          rfl) (n:=fuel) (s:=([],0)) ⟨yag _,rfl⟩
        have d9:l=zmh t o t.Prefixes[k]:=by
         unfold zmh
         apply yc5
         intro a
         by_cases ha:a<t.Inputs.toNat
         ·obtain⟨x,x1,x2,x3⟩:=l3 a ha
          rw[x3,yan,ybu ha,<- hR]
          show some (↑(pos x v.rows):Int)=some (↑(pos (rowG t o (t.Prefixes[k]++[(↑a:Int)])) v.rows):Int)
          rw[zdu x1]
         ·rw[yb6 (by omega),yb6 (by simp;omega)]
        refine⟨((fstI rs (k+1)).map (fun i=>zmh t o (zgd t i)),(fstI rs (k+1)).map (fun i=>outT t o (zgd t i)),(fstI rs (k+1)).map (zgd t),k+1),?_,⟨g5,rfl,rfl,rfl⟩,by simp only;omega⟩
        rw[outs,zah,zao l1,zfx (by unfold SmW;omega),zah,zaq (by rw[zkK];unfold za3;omega),zaq (by rw[zkK];unfold za3;omega),zao hp,zfx (by unfold SmW;omega),zah,zaq (by
         have h9:=zkp [] (rs.take k)
         rw[yaf]at h9
         simp only[yar]at h9
         unfold za3
         omega),zah]
        rw[zrs,if_pos g6]
        simp only[ya1,yat,ydb,c9,<- d9]
        rfl
       ·have c6:r∈rs.take k:=yau fun h=>g6 (b3.2 h)
        have a4:pos r v.rows<(za9 [] (rs.take k)).length:=by
         rw[c8,zpm (zdw.2 (Or.inr c6))]
         exact pos_lt (zdw.2 (Or.inr c6))
        refine⟨((fstI rs (k+1)).map (fun i=>zmh t o (zgd t i)),(fstI rs (k+1)).map (fun i=>outT t o (zgd t i)),(fstI rs (k+1)).map (zgd t),k+1),?_,⟨g5,rfl,rfl,rfl⟩,by simp only;omega⟩
        rw[zkB (by omega),zkD,zah,zrs,if_neg g6,ybd]
        rfl
      ·right
       have e:k=t.Prefixes.length:=by omega
       subst e
       rw[zkA (by omega),zkC]) (n:=fuel) (s:=([],[],[],0)) ⟨yag _,rfl,rfl,rfl⟩ (by have:=zc2;simp only;omega)
    rw[key,zah];unfold hypT;rw[<- a2];rfl
 ·rw[zkB hz,zkD,if_pos hz]
theorem zqj{t:zab}{o:zac}{p:yab}(h:∃r,rowO o p t.Suffixes=some r):rowO o p t.Suffixes=some (rowG t o p):=by
 obtain⟨r,hr⟩:=h;rw[hr,zdu hr]
theorem R23_firsts_eq{t:zab}{o:zac}(ht:zh3 t)(ho:SmO o)(hv:zed o)(hA:zit t o):zfk t o=some ((fstI (zdg t o) t.Prefixes.length).map fun(i:Nat)=>(↑i:Int)):=by
 have b6:=ht.p;unfold zfk
 have key:=zb1 (step:=fun(s:yab×Nat)=>zfk.s2 t o s.1 s.2) (r:=(fstI (zdg t o) t.Prefixes.length).map fun(i:Nat)=>(↑i:Int)) (fun s=>s.2<=t.Prefixes.length∧s.1=(fstI (zdg t o) s.2).map fun(i:Nat)=>(↑i:Int)) (fun s=>t.Prefixes.length-s.2) (fun s ⟨g1,g2⟩=>by
  obtain⟨y,k⟩:=s
  simp only at g1 g2
  subst g2
  have b8:=zsi (zdg t o) k
  simp only[zfk.s2]
  by_cases g3:k<t.Prefixes.length
  ·left
   have hp:=get_at g3
   have a3:=yai g3
   have hr:=zqj (hA _ a3 _ (by simp[zfz]:t.Prefixes[k]∈zfz t.Inputs.toNat t.Prefixes[k]))
   obtain⟨n,h1,h2,h3⟩:=zrd ht ho hv hA (ht.sm.2.1.2 _ a3) hr
   have b5:¬n<0:=fun h=>by
    have:=h2.1 h
    unfold newRow at this
    exact of_decide_eq_true this (yae.2 ⟨_,a3,rfl⟩)
   obtain⟨⟨p,a8,b2⟩,h4⟩:=h3 n.toNat (by omega)
   have a6:(zdg t o)[k]?=some (rowG t o t.Prefixes[k]):=by
    unfold zdg
    rw[yan,hp]
    rfl
   have a2:newAt (zdg t o) k=true↔n=(↑k:Int):=by
    unfold newAt
    rw[a6]
    simp only
    rw[decide_eq_true_iff]
    constructor
    ·intro a9
     rcases ycd n.toNat k with b3|b7|b0
     ·exfalso
      apply a9
      rw[yde]
      refine⟨n.toNat,?_⟩
      rw[ya7,if_pos b3]
      unfold zdg
      rw[yan,a8]
      show some (rowG t o p)=_
      rw[zdu b2]
     ·omega
     ·exact absurd hr (h4 k _ b0 hp)
    ·intro hn a7
     obtain⟨j,hj⟩:=yde.1 a7
     rw[ya7]at hj
     split at hj
     ·rename_i b4
      unfold zdg at hj
      have a4:=get_at (l:=t.Prefixes) (i:=j) (by omega)
      rw[yan,a4]at hj
      have hj:some (rowG t o t.Prefixes[j])=some (rowG t o t.Prefixes[k]):=hj
      have a5:=zqj (hA _ (yai (show j<t.Prefixes.length by omega)) _ (by simp[zfz]:t.Prefixes[j]∈zfz t.Inputs.toNat t.Prefixes[j]))
      rw[hj]at a5
      exact h4 j _ (by omega) a4 a5
     ·cases hj
   refine⟨((fstI (zdg t o) (k+1)).map fun(i:Nat)=>(↑i:Int),k+1),?_,⟨g3,rfl⟩,by simp only;omega⟩
   rw[zbr hp,zkD,zao hp,h1,zah,zrs]
   by_cases hn:n=(↑k:Int)
   ·rw[zkB hn,zkD,zaq (by rw[zkK];unfold za3;omega),if_pos (a2.2 hn),ya1]
    rfl
   ·rw[zkA hn,zkC,if_neg (fun h=>hn (a2.1 h)),ybd]
  ·right
   have e:k=t.Prefixes.length:=by omega
   subst e
   rw[zkA (by omega),zkC]) (n:=fuel) (s:=([],0)) ⟨yag _,rfl⟩
 rw[key,zah]
theorem R23_place_eq{l:yab}{n:Int}(hl:l.length<=1000)(hm:n∈l):zg2 l n=some (↑(pos n l):Int):=by
 unfold zg2
 have key:=zb1 (step:=fun s=>zg2.s2 l n s) (r:=.inr (↑(pos n l):Int)) (fun k=>k<=pos n l) (fun k=>l.length-k) (fun k g1=>by
  have a4:=pos_lt hm
  have hg:=zlw hm
  simp only[zg2.s2]
  have hx:=get_at (l:=l) (i:=k) (by omega)
  rw[zbr hx,zkD,zao hx]
  have a2:∀(l:yab) (k:Nat),k<pos n l->∀x,l[k]?=some x->x≠n:=by
   intro l
   induction l with
   |nil=>intro k h;simp[pos]at h
   |cons y l ih =>
    intro k h x hx
    unfold pos at h
    split at h
    ·omega
    ·rename_i hy
     cases k with
     |zero =>
      simp at hx
      rw[<- hx]
      exact hy
     |succ k=>exact ih k (by omega) x (by simpa using hx)
  by_cases e:k=pos n l
  ·right
   have h2:l[k]?=some n:=by
    rw[e]
    exact hg
   rw[hx]at h2
   injection h2 with this
   rw[zkB this,zkD,e]
  ·left
   have a3:=a2 l k (by omega) _ hx
   exact⟨k+1,by rw[zkA a3,zkC],by omega,by omega⟩) (n:=fuel) (s:=0) (yag _)
 rw[key,zah];rfl
theorem R23_built_eq{t:zab}{o:zac}(ht:zh3 t)(ho:SmO o)(hv:zed o)(hz:ziz t o=0)(hf:(extL t).find? (newRow t o)=none) :
  zcd t o ((fstI (zdg t o) t.Prefixes.length).map fun(i:Nat)=>(↑i:Int))=some (hypT t o):=by
 have hn:=ht.n;have e9:=ht.p;obtain⟨a5,_,hA⟩:=ze2 hz;obtain⟨f4,_,e8,d4,b7,_,_,f3⟩:=zf7 a5;obtain⟨_,_,_,d9⟩:=zjv a5;have b9:=zpk d4 d9 b7;have d7:=zsi (zdg t o) t.Prefixes.length
 have a6:zeu t o=(fstI (zdg t o) t.Prefixes.length).map fun i=>((zdg t o)[i]?).getD []:=by
  have:=zpx (zdg t o) t.Prefixes.length (by simp[zdg]);rw[ybe (by simp[zdg])]at this;exact this
 have a4:∀(k:Nat) (hk:k<t.Prefixes.length),(zdg t o)[k]?=some (rowG t o t.Prefixes[k]):=fun k hk=>by
  unfold zdg;rw[yan,get_at hk];rfl
 -- the place of a row's first prefix is the row's number
 have a2:∀p∈t.Prefixes,∀a:Nat,a<t.Inputs.toNat->∃n,zhe t o (p++[(↑a:Int)])=some n∧zg2 ((fstI (zdg t o) t.Prefixes.length).map fun(i:Nat)=>(↑i:Int)) n=some (↑(pos (rowG t o (p++[(↑a:Int)])) (zeu t o)):Int):=by
  intro p hp a ha;have d5:=ht.pw p hp;have hr:=zqj (hA p hp (p++[(↑a:Int)]) (yaj _ (yae.2 ⟨a,ybc.2 ha,rfl⟩)));obtain⟨n,h1,h2,h3⟩:=zrd ht ho hv hA (by unfold SmW;simp;omega) hr
  have c7:newRow t o (p++[(↑a:Int)])=false:=by
   have:=yds.1 hf (p++[(↑a:Int)]) (ya2.2 ⟨p,hp,yae.2 ⟨a,ybc.2 ha,rfl⟩⟩);simpa using this
  have e7:¬n<0:=fun h=>by
   have:=h2.1 h;rw[c7]at this;cases this
  obtain⟨⟨q,a7,e4⟩,h4⟩:=h3 n.toNat (by omega);have b4:=(zkI.1 a7).1
  have c0:(zdg t o)[n.toNat]?=some (rowG t o (p++[(↑a:Int)])):=by
   rw[a4 _ b4]
   have e1:t.Prefixes[n.toNat]=q:=by
    rw[get_at b4]at a7;injection a7
   rw[e1,zdu e4]
  have a3:n.toNat∈fstI (zdg t o) t.Prefixes.length:=by
   refine zr4.2 ⟨b4,?_⟩;unfold newAt;rw[c0];simp only;refine zkB fun d6=>?_;obtain⟨j,hj⟩:=yde.1 d6;rw[ya7]at hj;split at hj
   ·rename_i e6;have d1:=get_at (l:=t.Prefixes) (i:=j) (by omega);rw[a4 j (by omega)]at hj;have c8:=zqj (hA _ (yai (show j<t.Prefixes.length by omega)) _ (by simp[zfz]:t.Prefixes[j]∈zfz t.Inputs.toNat t.Prefixes[j]));rw[hj]at c8;exact h4 j _ e6 d1 c8
   ·cases hj
  have c6:n=((n.toNat:Nat):Int):=by omega
  refine⟨n,h1,?_⟩;rw[R23_place_eq (by rw[zkK];omega) (yae.2 ⟨n.toNat,a3,c6.symm⟩)];congr 2
  have e1:pos n ((fstI (zdg t o) t.Prefixes.length).map fun(i:Nat)=>(↑i:Int))=pos n.toNat (fstI (zdg t o) t.Prefixes.length):=by
   have this:pos ((n.toNat:Nat):Int) ((fstI (zdg t o) t.Prefixes.length).map fun(i:Nat)=>(↑i:Int))=pos n.toNat (fstI (zdg t o) t.Prefixes.length):=pos_map (f:=fun(i:Nat)=>(↑i:Int)) (x:=n.toNat) a3 fun y _ h=>by
    have h:(↑y:Int)=↑n.toNat:=h;omega
   rw[<- c6]at this;exact this
  rw[e1,a6]
  have e3:rowG t o (p++[(↑a:Int)])=(fun i=>((zdg t o)[i]?).getD []) n.toNat:=by
   show _=((zdg t o)[n.toNat]?).getD [];rw[c0];rfl
  rw[e3];refine(pos_map (f:=fun i=>((zdg t o)[i]?).getD []) a3 fun y hy h=>?_).symm
  -- two places of first rows with one row f5 one
  have c9:=zr4.1 hy;have d0:=zr4.1 a3;have b5:=a4 y c9.1;have b0:=a4 n.toNat d0.1;have h:((zdg t o)[y]?).getD []=((zdg t o)[n.toNat]?).getD []:=h;rw[b5,b0]at h;have h:rowG t o t.Prefixes[y]=rowG t o t.Prefixes[n.toNat]:=h;rcases ycd y n.toNat with d2|e5|e0
  ·exfalso;have:=d0.2;unfold newAt at this;rw[b0]at this;simp only at this;refine of_decide_eq_true this (yde.2 ⟨y,?_⟩);rw[ya7,if_pos d2,b5,h]
  ·exact e5
  ·exfalso;have:=c9.2;unfold newAt at this;rw[b5]at this;simp only at this;refine of_decide_eq_true this (yde.2 ⟨n.toNat,?_⟩);rw[ya7,if_pos e0,b0,h]
 unfold zcd;generalize hL:(fstI (zdg t o) t.Prefixes.length)=L at d7 a2
 have d8:∀i∈L,i<t.Prefixes.length:=fun i hi=>by
  rw[<- hL]at hi;exact(zr4.1 hi).1
 have key:=zb1 (step:=fun(s:yaa×yaa×yaa×Nat)=>zcd.s20 t o (L.map fun(i:Nat)=>(↑i:Int)) s.1 s.2.1 s.2.2.1 s.2.2.2) (r:=(L.map fun i=>zmh t o (zgd t i),L.map fun i=>outT t o (zgd t i),L.map (zgd t)))
  (fun s=>s.2.2.2<=L.length∧s.1=(L.take s.2.2.2).map (fun i=>zmh t o (zgd t i))∧s.2.1=(L.take s.2.2.2).map (fun i=>outT t o (zgd t i))∧s.2.2.1=(L.take s.2.2.2).map (zgd t)) (fun s=>L.length-s.2.2.2) (fun s ⟨g1,g2,g3,g4⟩=>by
   obtain⟨N,O,A,k⟩:=s
   simp only at g1 g2 g3 g4
   subst g2 g3 g4
   simp only[zcd.s20]
   by_cases g5:k<L.length
   ·left
    have hx:=get_at g5
    have b8:=d8 _ (yai g5)
    have e2:(L.map fun(i:Nat)=>(↑i:Int))[k]?=some (↑L[k]:Int):=by rw[yan,hx];rfl
    have hp:=get_at b8
    have a8:=yai b8
    have d5:=ht.pw _ a8
    have a9:SmW t.Prefixes[L[k]]:=by unfold SmW;omega
    have d3:zgd t L[k]=t.Prefixes[L[k]]:=by unfold zgd;rw[hp];rfl
    have hr:=zqj (hA _ a8 _ (by simp[zfz]:t.Prefixes[L[k]]∈zfz t.Inputs.toNat t.Prefixes[L[k]]))
    have b6:=zb1 (step:=fun(s:yab×yab×Nat)=>zcd.s18 t o (L.map fun(i:Nat)=>(↑i:Int)) t.Prefixes[L[k]] s.1 s.2.1 s.2.2) (r:=(zmh t o t.Prefixes[L[k]],outT t o t.Prefixes[L[k]])) (fun s=>s.2.2<=t.Inputs.toNat∧s.1=((List.range s.2.2).map fun(a:Nat)=>(↑(pos (rowG t o (t.Prefixes[L[k]]++[(↑a:Int)])) (zeu t o)):Int))∧s.2.1=(List.range s.2.2).map fun(a:Nat)=>(((rowG t o t.Prefixes[L[k]])[a]?).getD []).headD 0) (fun s=>t.Inputs.toNat-s.2.2) (fun s ⟨m1,m2,m3⟩=>by
     obtain⟨y,z,a⟩:=s
     simp only at m1 m2 m3
     subst m2 m3
     simp only[zcd.s18]
     by_cases m4:a<t.Inputs.toNat
     ·left
      obtain⟨n,n1,n2⟩:=a2 _ a8 a m4
      obtain⟨b,w,b1,b2,b3⟩:=row_out hv hr (b9 a m4)
      refine⟨((List.range (a+1)).map fun(a:Nat)=>(↑(pos (rowG t o (t.Prefixes[L[k]]++[(↑a:Int)])) (zeu t o)):Int),(List.range (a+1)).map fun(a:Nat)=>(((rowG t o t.Prefixes[L[k]])[a]?).getD []).headD 0,a+1),?_,⟨m4,rfl,rfl⟩,by simp only;omega⟩
      rw[zkB (by omega),zkD,zup ho hv a9 (by simp[SmW]),zah,b2,zeo a9 (by simp[SmW]),zah,n1,zah,n2,zah,zaq (by rw[zkK,yb9];unfold za3;omega)]
      simp only
      rw[b3,zao (x:=b) rfl,zaq (by rw[zkK,yb9];unfold za3;omega),zaq (by unfold inR;omega),ycr,ya1,ya1]
      simp[b1]
     ·right
      have e:a=t.Inputs.toNat:=by omega
      subst e
      rw[zkA (by omega),zkC]
      rfl) (n:=fuel) (s:=([],[],0)) ⟨yag _,rfl,rfl⟩
    refine⟨((L.take (k+1)).map (fun i=>zmh t o (zgd t i)),(L.take (k+1)).map (fun i=>outT t o (zgd t i)),(L.take (k+1)).map (zgd t),k+1),?_,⟨g5,rfl,rfl,rfl⟩,by simp only;omega⟩
    rw[zkK,zkB (by omega),zkD,zao e2,zbw rfl hp,b6,zah]
    simp only[zcd.k19]
    rw[zaq (by rw[zkK,yaf];unfold za3;omega),zaq (by rw[zkK,yaf];unfold za3;omega),zeo a9 (by simp[SmW]),zah,zaq (by rw[zkK,yaf];unfold za3;omega),zbc hx]
    simp only[ya1,yat,ydb,d3,ybd]
   ·right
    have e:k=L.length:=by omega
    subst e
    rw[zkK,zkA (by omega),zkC,yax]) (n:=fuel) (s:=([],[],[],0)) ⟨yag _,rfl,rfl,rfl⟩ (by have:=zc2;simp only;omega)
 rw[key,zah];unfold hypT;rw[hL];rfl
theorem zto{t:zab}{o:zac}(ht:zh3 t)(ho:SmO o)(hv:zed o)(hr:(zeu t o).length<=128):zd2 t o=some (hypR t o):=by
 have a3:=ht.p;unfold zd2 hypR;rw[zov ht ho hv,zah];unfold unclT;by_cases hz:ziz t o=0
 ·obtain⟨_,_,hA⟩:=ze2 hz;rw[if_neg (by simpa using hz),if_neg (by simpa using hz),zkt ht ho hv];unfold incT;rw[if_neg (by simpa using hz)];cases hf:(extL t).find? (newRow t o) with
  |some w =>
   rw[if_pos (Or.inl (by simp))];rfl
  |none =>
   cases hi:iP t o with
   |some x =>
    rw[if_pos (Or.inr (by simp))];rfl
   |none =>
    rw[if_neg (by simp)];have a2:=fst_few hr;simp only[ne_eq,not_true_eq_false,decide_false,zkC,zah];rw[R23_firsts_eq ht ho hv hA,zah,zkK,zkA (by omega),zkC,R23_built_eq ht ho hv hz hf,zah]
 ·rw[if_pos hz,if_pos hz,zkB hz,zkD]
theorem R06_Same_eq(a b:zad)(h1:SmL a.Next)(h2:SmL a.Out):zsh a b=some (decide (a=b)):=by
 unfold zsh;rw[zjz _ _ (by have:=h1.1;omega) (fun x hx=>by have:x.length<=2000000:=h1.2 x hx;omega),zjz _ _ (by have:=h2.1;omega) (fun x hx=>by have:x.length<=2000000:=h2.2 x hx;omega)];obtain⟨a1,a2,a3,a4⟩:=a;obtain⟨b1,b2,b3,b4⟩:=b;simp only[zad.mk.injEq];by_cases e1:a1=b1<;>by_cases e2:a2=b2<;>by_cases e3:a3=b3<;>by_cases e4:a4=b4<;>simp[e1,e2,e3,e4]
theorem R22_Same_self(a:za5)(h1:SmL a.M.Next)(h2:SmL a.M.Out)(h3:SmL a.Access):zm3 a a=some true:=by
 unfold zm3;rw[R06_Same_eq _ _ h1 h2,zjz _ _ (by have:=h3.1;omega) (fun x hx=>by have:x.length<=2000000:=h3.2 x hx;omega)];simp
theorem hypR_sml{t:zab}{o:zac}(ht:zh3 t):SmL (hypR t o).1.M.Next∧SmL (hypR t o).1.M.Out∧SmL (hypR t o).1.Access:=by
 have hn:=ht.n;have a3:=ht.p;unfold hypR;split
 ·exact⟨zfg,zfg,zfg⟩
 ·split
  ·exact⟨zfg,zfg,zfg⟩
  ·have a2:=zsi (zdg t o) t.Prefixes.length;unfold hypT;refine⟨⟨by show(List.map _ _).length<=_;rw[zkK];omega,fun x hx=>?_⟩,⟨by show(List.map _ _).length<=_;rw[zkK];omega,fun x hx=>?_⟩,⟨by show(List.map _ _).length<=_;rw[zkK];omega,fun x hx=>?_⟩⟩
   ·obtain⟨i,_,rfl⟩:=yae.1 hx;unfold SmW zmh;simp;omega
   ·obtain⟨i,_,rfl⟩:=yae.1 hx;unfold SmW outT;simp;omega
   ·obtain⟨i,_,rfl⟩:=yae.1 hx;unfold SmW zgd;cases h:t.Prefixes[i]? with
    |none=>simp
    |some p =>
     have:=ht.pw p (zkH h);simp;omega
section
structure zd5(t:zab)(o:zac):Prop where
 ht:zh3 t
 h128:(zeu t o).length<=128
 ho:SmO o
 hv:zed o
 hz:ziz t o=0
 hf:(extL t).find? (newRow t o)=none
 hi:iP t o=none
section
variable {t:zab}{o:zac}
theorem zd5.all(H:zd5 t o):zit t o:=(ze2 H.hz).2.2
theorem zd5.row(H:zd5 t o){p:yab}(hp:p∈t.Prefixes):rowO o p t.Suffixes=some (rowG t o p):=zqj (H.all p hp p (by simp[zfz]))
theorem zd5.ext(H:zd5 t o){p:yab}(hp:p∈t.Prefixes){a:Nat}(ha:a<t.Inputs.toNat):rowO o (p++[(↑a:Int)]) t.Suffixes=some (rowG t o (p++[(↑a:Int)])) :=
 zqj (H.all p hp _ (yaj _ (yae.2 ⟨a,ybc.2 ha,rfl⟩)))
theorem zd5.closed(H:zd5 t o){p:yab}(hp:p∈t.Prefixes){a:Nat}(ha:a<t.Inputs.toNat):rowG t o (p++[(↑a:Int)])∈zeu t o:=by
 have h1:=yds.1 H.hf (p++[(↑a:Int)]) (ya2.2 ⟨p,hp,yae.2 ⟨a,ybc.2 ha,rfl⟩⟩);have h2:newRow t o (p++[(↑a:Int)])=false:=by simpa using h1
 unfold newRow at h2;obtain⟨q,hq,h3⟩:=yae.1 (ydw.1 (of_decide_eq_false h2));rw[H.ext hp ha]at h3;unfold zeu;exact zdw.2 (Or.inr (yae.2 ⟨q,hq,zdu h3⟩))
theorem zd5.mem(H:zd5 t o){p:yab}(hp:p∈t.Prefixes):rowG t o p∈zeu t o:=by
 unfold zeu;exact zdw.2 (Or.inr (yae.2 ⟨p,hp,rfl⟩))
theorem dP_none{a:Nat}{x y:Row}(hl:x.length=y.length)(h:dP a x y=none):x=y:=by
 have h1:=zeh.1 h;apply yc5;intro e;rcases ya6 e x.length with he|he
 ·have hx:=get_at he;have:=h1 e _ hx;rw[yah]at this;split at this
  ·rename_i h2;rw[hx,h2]
  ·cases this
 ·rw[yb6 he,yb6 (by omega)]
theorem zd5.cons(H:zd5 t o){p q:yab}(hp:p∈t.Prefixes)(hq:q∈t.Prefixes)(h:rowG t o p=rowG t o q){a:Nat}(ha:a<t.Inputs.toNat):rowG t o (p++[(↑a:Int)])=rowG t o (q++[(↑a:Int)]):=by
 have key:∀(i k:Nat) p q,i<k->t.Prefixes[i]?=some p->t.Prefixes[k]?=some q->rowG t o p=rowG t o q->rowG t o (p++[(↑a:Int)])=rowG t o (q++[(↑a:Int)]):=by
  intro i k p q a8 hp hq h;have a3:=zkH hp;have a2:=zkH hq;have h1:=zeh.1 H.hi i p hp;rw[yah]at h1
  have a5:(t.Prefixes.drop (i+1))[k-(i+1)]?=some q:=by
   rw[ybj,show i+1+(k-(i+1))=k by omega];exact hq
  have h2:=zeh.1 h1 _ q a5;rw[if_pos (by rw[H.row a3,H.row a2,h])]at h2;have h3:=zeh.1 h2 a a (ybu ha);refine dP_none ?_ h3;rw[(zlh H.hv (H.ext a3 ha)).1,(zlh H.hv (H.ext a2 ha)).1]
 obtain⟨i,hi,rfl⟩:=ya5.1 hp;obtain⟨k,hk,rfl⟩:=ya5.1 hq;rcases ycd i k with a7|a6|a4
 ·exact key i k _ _ a7 (get_at hi) (get_at hk) h
 ·subst a6;rfl
 ·exact(key k i _ _ a4 (get_at hk) (get_at hi) h.symm).symm
def stt(t:zab)(o:zac)(w:yab):Nat:=pos (rowG t o w) (zeu t o)
theorem rowsA_map:zeu t o=(fstI (zdg t o) t.Prefixes.length).map fun i=>((zdg t o)[i]?).getD []:=by
 have:=zpx (zdg t o) t.Prefixes.length (by simp[zdg]);rw[ybe (by simp[zdg])]at this;exact this
theorem rep_of{r:Row}(h:r∈zeu t o):∃i,(fstI (zdg t o) t.Prefixes.length)[pos r (zeu t o)]?=some i∧i<t.Prefixes.length∧zgd t i∈t.Prefixes∧rowG t o (zgd t i)=r:=by
 have h1:=zlw h;have h2:=@rowsA_map t o;rw[h2,yan]at h1;rw[<- h2]at h1;obtain⟨i,hi,h3⟩:=yby.1 h1;have hm:=zr4.1 (zkH hi);have hp:=get_at hm.1;have a2:zgd t i=t.Prefixes[i]:=by unfold zgd;rw[hp];rfl
 refine⟨i,hi,hm.1,by rw[a2];exact yai _,?_⟩;rw[a2,<- h3];unfold zdg;rw[yan,hp];rfl
theorem zd5.at(H:zd5 t o){r:Row}(h:r∈zeu t o):∃q∈t.Prefixes,rowG t o q=r∧(hypT t o).M.Next[pos r (zeu t o)]?=some (zmh t o q)∧(hypT t o).M.Out[pos r (zeu t o)]?=some (outT t o q)∧(hypT t o).Access[pos r (zeu t o)]?=some q:=by
 obtain⟨i,hi,_,h2,h3⟩:=rep_of h;refine⟨zgd t i,h2,h3,?_,?_,?_⟩
 ·show((fstI (zdg t o) t.Prefixes.length).map fun i=>zmh t o (zgd t i))[_]?=_;rw[yan,hi];rfl
 ·show((fstI (zdg t o) t.Prefixes.length).map fun i=>outT t o (zgd t i))[_]?=_;rw[yan,hi];rfl
 ·show((fstI (zdg t o) t.Prefixes.length).map (zgd t))[_]?=_;rw[yan,hi];rfl
theorem nextT_at{q:yab}{a:Nat}(ha:a<t.Inputs.toNat):(zmh t o q)[a]?=some (↑(stt t o (q++[(↑a:Int)])):Int):=by
 unfold zmh stt;rw[yan,ybu ha];rfl
theorem outT_at{q:yab}{a:Nat}(ha:a<t.Inputs.toNat):(outT t o q)[a]?=some ((((rowG t o q)[a]?).getD []).headD 0):=by
 unfold outT;rw[yan,ybu ha];rfl
theorem zd5.nil(H:zd5 t o):t.Prefixes[0]?=some []:=by
 obtain⟨a2,_,_⟩:=ze2 H.hz;obtain⟨_,_,hA,_,_,_,_,a3⟩:=zf7 a2;obtain⟨_,_,h0,_⟩:=zjv a2;have hl:0<t.Prefixes.length:=ydm.2 a3;obtain⟨j,hj,e⟩:=ya5.1 h0;rcases ycf j with rfl|a4
 ·rw[get_at hj,e]
 ·have:=zxl (hA.get a4 (get_at hl) (get_at hj));rw[e]at this;have h2:=yaq (Nat.le_zero.1 this);rw[get_at hl,h2]
theorem zd5.start(H:zd5 t o):stt t o []=0:=by
 have h0:=H.nil;unfold stt zeu
 have hp:zdg t o=rowG t o []::(zdg t o).drop 1:=by
  unfold zdg;cases hP:t.Prefixes with
  |nil=>rw[hP]at h0;cases h0
  |cons p ps =>
   rw[hP]at h0;injection h0 with h0
   subst h0;rfl
 rw[hp];show pos (rowG t o []) (za9 (addR [] (rowG t o [])) _)=0;rw[zpm (zvc.2 (Or.inr rfl))];simp[addR,pos]
theorem zd5.num(H:zd5 t o):(zeu t o).length=(fstI (zdg t o) t.Prefixes.length).length∧0<(zeu t o).length∧(zeu t o).length<=128:=by
 have h1:=@rowsA_map t o;have h2:=zsi (zdg t o) t.Prefixes.length;have h3:=H.h128;have h4:(zeu t o).length=(fstI (zdg t o) t.Prefixes.length).length:=by rw[h1,zkK]
 have h5:rowG t o []∈zeu t o:=H.mem (zkH H.nil);have h6:=yeg h5;omega
theorem zd5.nlen(H:zd5 t o):(hypT t o).M.Next.length=(zeu t o).length∧(hypT t o).M.Out.length=(zeu t o).length∧(hypT t o).Access.length=(zeu t o).length:=by
 have:=H.num.1;unfold hypT;simp only[zkK];omega
theorem zd5.state(H:zd5 t o){s:Nat}(hs:s<(zeu t o).length):∃q∈t.Prefixes,stt t o q=s∧(hypT t o).M.Next[s]?=some (zmh t o q)∧(hypT t o).M.Out[s]?=some (outT t o q)∧(hypT t o).Access[s]?=some q:=by
 have hm:=yai hs
 have a2:pos (zeu t o)[s] (zeu t o)=s:=by
  -- the rows are all different
  have a6:∀(rs R:List Row),R.Nodup->(za9 R rs).Nodup:=by
   intro rs
   induction rs with
   |nil=>intro R h;exact h
   |cons r rs ih =>
    intro R h;show(za9 (addR R r) rs).Nodup;refine ih _ ?_;unfold addR;split
    ·exact h
    ·rename_i hn;rw[ybl]
     exact⟨h,by simp,fun x hx y hy=>by
      rw[yba.1 hy]
      exact fun e=>hn (e ▸ hx)⟩
  have hN:(zeu t o).Nodup:=a6 _ _ ycq;have h1:=zlw hm;have h2:=pos_lt hm;have h3:=get_at h2;rw[h1]at h3;injection h3 with h3
  rcases ycd (pos (zeu t o)[s] (zeu t o)) s with a4|a5|a3
  ·exact absurd h3.symm (ya4.1 hN _ _ h2 hs a4)
  ·exact a5
  ·exact absurd h3 (ya4.1 hN _ _ hs h2 a3)
 obtain⟨q,hq,q1,q2,q3,q4⟩:=H.at hm;rw[a2]at q2 q3 q4;exact⟨q,hq,by unfold stt;rw[q1,a2],q2,q3,q4⟩
theorem zd5.out_rng(H:zd5 t o){q:yab}(hq:q∈t.Prefixes){a:Nat}(ha:a<t.Inputs.toNat):0<=((((rowG t o q)[a]?).getD []).headD 0)∧((((rowG t o q)[a]?).getD []).headD 0)<=1048576:=by
 obtain⟨a2,_,_⟩:=ze2 H.hz;obtain⟨_,_,_,a5,a3,_⟩:=zf7 a2;obtain⟨_,_,_,a4⟩:=zjv a2;obtain⟨y,z,y1,y2,y3⟩:=row_out H.hv (H.row hq) (zpk a5 a4 a3 a ha);rw[y1];show 0<=y∧y<=1048576;have hy:y∈z:=ybg (by rw[y3];simp);unfold ansO at y2;split at y2
 ·injection y2 with y2
  subst y2;cases hy
 ·obtain⟨tr,a6,rfl⟩:=yby.1 y2;exact(H.hv.prop tr (ych a6)).1.2.2 y (ya3 hy)
theorem zd5.row_valid(H:zd5 t o){s:Nat}(hs:s<(zeu t o).length):zgm (hypT t o).M (↑s:Int)=some 0:=by
 have hn:=H.ht.n;have a5:1<=t.Inputs:=(zf7 (ze2 H.hz).1).1;obtain⟨q,hq,_,q2,q3,_⟩:=H.state hs;have a3:(zmh t o q).length=t.Inputs.toNat:=by simp[zmh]
 have a4:(outT t o q).length=t.Inputs.toNat:=by simp[outT]
 have hI:(hypT t o).M.Inputs=t.Inputs:=rfl;have a2:=H.num;unfold zgm;rw[hI,zbw rfl q2,zkA (by omega),zkC,zbw rfl q3,zkA (by omega),zah,zkC]
 have key:=zb1 (step:=fun a=>zgm.s2 (hypT t o).M (↑s:Int) a) (r:=.inl ()) (fun a=>a<=t.Inputs.toNat) (fun a=>t.Inputs.toNat-a) (fun a g1=>by
  simp only[zgm.s2]
  rw[hI]
  by_cases g2:a<t.Inputs.toNat
  ·left
   have a6:stt t o (q++[(↑a:Int)])<(zeu t o).length:=pos_lt (H.closed hq g2)
   obtain⟨o1,o2⟩:=H.out_rng hq g2
   refine⟨a+1,?_,by omega,by omega⟩
   rw[zkB (by omega),zkD,zbw rfl q2,zao (nextT_at g2),zkA (by omega),zkC,zbw rfl q2,zao (nextT_at g2),H.nlen.1,zkA (by omega),zkC,zbw rfl q3,zao (outT_at g2),zkA (by omega),zkC,zbw rfl q3,zao (outT_at g2),zkA (by omega),zah,zkC,zaq (by unfold inR;omega)]
  ·right
   have e:a=t.Inputs.toNat:=by omega
   subst e
   rw[zkA (by omega),zkC]) (n:=fuel) (s:=0) (yag _)
 rw[key,zah];rfl
theorem zd5.valid6(H:zd5 t o):zca (hypT t o).M=some 0:=by
 have hn:=H.ht.n;have a2:1<=t.Inputs:=(zf7 (ze2 H.hz).1).1;have hI:(hypT t o).M.Inputs=t.Inputs:=rfl;have hS:(hypT t o).M.Start=0:=rfl;obtain⟨l1,l2,l3⟩:=H.nlen;obtain⟨_,n1,n2⟩:=H.num;unfold zca;rw[hI,hS,l1,l2,zkA (by omega),zkC,zkA (by omega),zah,zkC,zkA (by omega),zkC,zkA (by omega),zkC,zkA (by omega),zkC,zkA (by omega),zah,zkC,zkA (by omega),zkC]
 have key:=zce (step:=fun s=>zca.s2 (hypT t o).M s) (l:=(hypT t o).M.Next) (fun _ _=>(none:Option Int)) (fun i x hx=>by
  have hi:=(zkI.1 hx).1
  simp only[zca.s2]
  rw[zbr hx,zkD,H.row_valid (by omega),zah]
  rfl) (by
  simp only[zca.s2]
  rw[zc6]
  rfl) (by omega)
 rw[key,zah,zeh.2 fun i x _=>rfl];rfl
end
end
section
theorem sufL_take_len{l:yaa}(i:Nat):(sufL (l.take i)).length<=(sufL l).length:=by
 have h:sufL l=sufL (l.take i)++sufL (l.drop i):=by
  unfold sufL;rw[<- yb1,ydd]
 rw[h,zkJ];omega
def tailA(o:zac)(w e:yab):yab:=((ansO o (w++e)).getD []).drop w.length
section
variable {t:zab}{o:zac}
theorem zd5.sing(H:zd5 t o){a:Nat}(ha:a<t.Inputs.toNat):t.Suffixes[a]?=some [(↑a:Int)]:=by
 have a2:=(ze2 H.hz).1;obtain⟨_,_,_,a5,a3,_⟩:=zf7 a2;obtain⟨_,_,_,a4⟩:=zjv a2;exact zpk a5 a4 a3 a ha
theorem zd5.nx_ot(H:zd5 t o){p:yab}(hp:p∈t.Prefixes){a:Nat}(ha:a<t.Inputs.toNat):nx (hypT t o).M (stt t o p) a=stt t o (p++[(↑a:Int)])∧tailA o p [(↑a:Int)]=[ot (hypT t o).M (stt t o p) a]:=by
 obtain⟨q,hq,q1,q2,q3,_⟩:=H.at (H.mem hp);have q2:(hypT t o).M.Next[stt t o p]?=some (zmh t o q):=q2;have q3:(hypT t o).M.Out[stt t o p]?=some (outT t o q):=q3;constructor
 ·unfold nx;rw[q2,ybq,nextT_at ha,ybq,ybf];unfold stt;rw[H.cons hq hp q1 ha]
 ·obtain⟨y,z,y1,y2,y3⟩:=row_out H.hv (H.row hp) (H.sing ha);unfold ot;rw[q3,ybq,outT_at ha,ybq,q1,y1];unfold tailA;rw[y2,ybq,y3];rfl
theorem zd5.rep(H:zd5 t o){p:yab}(hp:p∈t.Prefixes){a:Nat}(ha:a<t.Inputs.toNat):∃q∈t.Prefixes,rowG t o q=rowG t o (p++[(↑a:Int)])∧stt t o q=stt t o (p++[(↑a:Int)]):=by
 obtain⟨q,hq,q1,_⟩:=H.at (H.closed hp ha);exact⟨q,hq,q1,by unfold stt;rw[q1]⟩
end
end
theorem zuq:zla=some true:=by decide +kernel
section
def stepT(t:zab)(o:zac):zab×yaa×Bool×Int :=
 if chkT t o≠0 then(t,[],false,chkT t o)
 else if zd7 o t t.Prefixes≠[] then(t,maxR (zd7 o t t.Prefixes),false,0)
 else match (extL t).find? (newRow t o) with
  |some w=>((zib t w).1,[],false,(zib t w).2)
  |none=>match iP t o with
   |some x=>((zis t (toW t x)).1,[],false,(zis t (toW t x)).2)
   |none=>(t,[],true,0)
section
variable {t:zab}{o:zac}
theorem compT_of(h1:chkT t o=0)(h2:zd7 o t t.Prefixes=[]):ziz t o=0:=by
 unfold ziz;rw[if_neg (by simpa using h1),if_pos h2]
theorem toW_len(ht:zh3 t)(x:Int×Int×Bool):(toW t x).length<=81:=by
 unfold toW;cases h2:t.Suffixes[x.2.1.toNat]? with
 |none=>simp
 |some e =>
  have:=ht.sw e (zkH h2);simp;omega
theorem pos_len{l:yaa}(h:l≠[]):(0:Int)<(↑l.length:Int):=by
 have:=ydm.2 h;omega
theorem lstar_Step_eq(ht:zh3 t)(ho:SmO o)(hv:zed o):zcj t o=some (stepT t o):=by
 have hp:=ht.p;have hs:=ht.s;unfold zcj;rw[zkB (rfl:(0:Nat)=0),zkD,zah,elim_l,zwo ht ho hv,zah];unfold stepT;by_cases h1:chkT t o=0
 ·rw[if_neg (by simpa using h1),if_neg (by simpa using h1)];by_cases h2:zd7 o t t.Prefixes=[]
  ·rw[if_neg (by simpa using h2),zsc.2 h2];have hz:=compT_of h1 h2;simp only[ne_eq,not_true_eq_false,decide_false,zkC,yar,Int.ofNat_zero,yek,yfg];rw[zah,zkC,zah,elim_l,zs0 ht ho hv];unfold unclT;rw[if_neg (by simpa using hz)];cases hf:(extL t).find? (newRow t o) with
   |some w =>
    obtain⟨w1,w2⟩:=zxg ht (ych hf);simp only[zah,ne_eq,not_true_eq_false,decide_false,zkC,zkD];rw[zo0 ht.sm (by omega) w2 (by omega)];rfl
   |none =>
    simp only[zah,ne_eq,not_true_eq_false,decide_false,zkC];rw[elim_l,zoq ht ho hv];unfold incT;rw[if_neg (by simpa using hz)];cases hi:iP t o with
    |some x =>
     have:=toW_len ht x;simp only[zah,ne_eq,not_true_eq_false,decide_false,zkC,zkD];rw[zxj ht.sm (by omega) (by omega)];rfl
    |none=>rfl
  ·rw[if_pos h2,zkA (by simp),zkC,zkB (pos_len fun h=>h2 (zsc.1 h))];rfl
 ·rw[if_pos h1,if_pos h1,zkB h1];rfl
theorem R24_Step_eq(ht:zh3 t)(ho:SmO o)(hv:zed o):zf6 t o=some (stepT t o):=by
 have hp:=ht.p;have hs:=ht.s;unfold zf6;rw[zrg ht ho hv,zah];unfold stepT;by_cases h1:chkT t o=0
 ·rw[if_neg (by simpa using h1),if_neg (by simpa using h1)];by_cases h2:zd7 o t t.Prefixes=[]
  ·rw[if_neg (by simpa using h2),zsc.2 h2];have hz:=compT_of h1 h2;simp only[ne_eq,not_true_eq_false,decide_false,zkC,yar,Int.ofNat_zero,yek,yfg];rw[zah,zkC,zov ht ho hv];unfold unclT;rw[if_neg (by simpa using hz)];cases hf:(extL t).find? (newRow t o) with
   |some w =>
    obtain⟨w1,w2⟩:=zxg ht (ych hf);simp only[zah,zkD];rw[R23_Prefix_eq ht.sm (by omega) w2 (by omega)];rfl
   |none =>
    simp only[zah,zkC];rw[zkt ht ho hv];unfold incT;rw[if_neg (by simpa using hz)];cases hi:iP t o with
    |some x =>
     have:=toW_len ht x;simp only[zah,zkD];rw[R23_Suffix_eq ht.sm (by omega) (by omega)];rfl
    |none=>rfl
  ·rw[if_pos h2,zkA (by simp),zkC,zkB (pos_len fun h=>h2 (zsc.1 h))];rfl
 ·rw[if_pos h1,if_pos h1,zkB h1];rfl
structure Kept(t u:zab):Prop where
 p:∀x∈t.Prefixes,x∈u.Prefixes
 s:∀x∈t.Suffixes,x∈u.Suffixes
 i:t.Inputs=u.Inputs
theorem maxR_need_sml(hT:zh3 t):SmL (maxR (zd7 o t t.Prefixes)):=by
 refine⟨?_,fun x hx=>?_⟩
 ·have h4:=maxR_length (zd7 o t t.Prefixes)
  have hb:∀P:yaa,(zd7 o t P).length<=3000*P.length:=by
   intro P
   induction P with
   |nil=>simp[zd7]
   |cons p P ih =>
    unfold zd7 at ih ⊢;rw[ya9,zkJ,zkL]
    have hw:((zfz t.Inputs.toNat p).flatMap fun w=>zhr o w t.Suffixes).length<=600*(zfz t.Inputs.toNat p).length:=by
     generalize zfz t.Inputs.toNat p=X
     induction X with
     |nil=>simp
     |cons w X ih2 =>
      have:=zkx o w t.Suffixes;have:=hT.s;rw[ya9,zkJ,zkL];omega
    have a2:(zfz t.Inputs.toNat p).length=t.Inputs.toNat+1:=by simp[zfz]
    have:=hT.n;rw[a2]at hw;omega
  have:=hb t.Prefixes;have:=hT.p;omega
 ·have hx:=zsf hx;unfold zd7 at hx;obtain⟨p,a3,h2⟩:=ya2.1 hx;obtain⟨u,hu,h3⟩:=ya2.1 h2;obtain⟨⟨e,he,rfl⟩,_⟩:=zkv.1 h3;have h4:=hT.pw p a3;have h5:=hT.sw e he
  have h6:u.length<=81:=by
   unfold zfz at hu;rcases yap.1 hu with rfl|hu
   ·omega
   ·obtain⟨a,_,rfl⟩:=yae.1 hu;simp;omega
  unfold SmW;rw[zkJ];omega
structure StepSm(r:zab×yaa×Bool×Int):Prop where
 p:SmL r.1.Prefixes
 s:SmL r.1.Suffixes
 w:SmL r.2.1
structure StepOk(t:zab)(o:zac)(r:zab×yaa×Bool×Int):Prop where
 p:SmL r.1.Prefixes
 s:SmL r.1.Suffixes
 w:SmL r.2.1
 k:Kept t r.1
 n:t.Prefixes.length+t.Suffixes.length<=r.1.Prefixes.length+r.1.Suffixes.length
 d:r.2.2.1=true->r.2.2.2=0∧(hypR t o).2=0
def zkk(w:yab):yaa:=(List.range w.length).map w.drop
def zg5(t:zab)(w:yab)(mode:Int):zab×Int :=
 if zda t≠0 then(t,zda t) else if zbq w t.Inputs≠0 then(t,zbq w t.Inputs)
 else if mode=0 then zn3 t (sortW (preL [w])) [] else if mode=1 then zn3 t [] (zkk w) else(t,2)
theorem zq7{l:yaa}(hl:SmL l)(hp:SmL (sufL l)):zgb l=some (sortW (sufL l)):=by
 have a5:l.length<=2000000:=hl.1;have a7:(sufL l).length<=2000000:=hp.1;unfold zgb zbz
 rw[zb1 (r:=sufL l) (fun s=>s.2<=l.length∧s.1=sufL (l.take s.2)) (fun s=>l.length-s.2) (fun s ⟨h1,h2⟩=>by
  obtain⟨y,i⟩:=s
  simp only at h1 h2
  subst h2
  simp only[zbz.s14]
  by_cases h3:i<l.length
  ·left
   have hx:=get_at h3
   have a4:SmW l[i]:=hl.2 _ (yai _)
   have a6:l[i].length<=2000000:=a4
   have a2:=sufL_step hx
   have a3:=sufL_take_len (l:=l) (i+1)
   rw[a2,zkJ,zgw]at a3
   refine⟨(sufL (l.take (i+1)),i+1),?_,⟨h3,rfl⟩,by simp only;omega⟩
   rw[zbr hx,zkD,zao hx,zaq (by unfold inR;omega)]
   rw[zb1 (r:=sufL (l.take i)++zg8 l[i]) (fun s=>s.2<=l[i].length+1∧s.1=sufL (l.take i)++(zg8 l[i]).take s.2) (fun s=>l[i].length+1-s.2) (fun s ⟨g1,g2⟩=>by
    obtain⟨y,k⟩:=s
    simp only at g1 g2
    subst g2
    simp only[zbz.s13,ze8]
    by_cases g3:k<l[i].length+1
    ·left
     refine⟨(sufL (l.take i)++(zg8 l[i]).take (k+1),k+1),?_,⟨g3,rfl⟩,by simp only;omega⟩
     rw[zkB (by omega),zkD,zaq (by omega),ybf]
     simp only[zah]
     rw[zaq (by
      rw[zkJ,yaf,zgw]
      unfold za3
      omega),zaq (by unfold inR;omega),suffixes_take _ (by omega),ybk]
    ·right
     have e:k=l[i].length+1:=by omega
     subst e
     rw[zkA (by omega),zkC,<- zgw,yax]) (s:=(sufL (l.take i),0)) ⟨yag _,by simp⟩]
   rw[a2]
   rfl
  ·right
   have e:i=l.length:=by omega
   subst e
   rw[zkA (by omega),zkC,yax]) (s:=([],0)) ⟨yag _,by simp[sufL]⟩]
 simp only[zah];rw[zc0 hp];rfl
theorem zxo{w:yab}(hw:w.length<=100000):SmL (zkk w):=by
 refine⟨by simp[zkk];omega,fun x hx=>?_⟩;obtain⟨k,_,rfl⟩:=yae.1 hx;unfold SmW;rw[ya8];omega
theorem zu8(w:yab):sufL [w]=zg8 w:=by simp[sufL]
theorem zqz{w:yab}(hw:w.length<=100000):SmL (sufL [w]):=by
 rw[zu8];refine⟨by rw[zgw];omega,fun x hx=>?_⟩;obtain⟨k,_,rfl⟩:=yae.1 hx;unfold SmW;rw[ya8];omega
theorem mem_restL{w x:yab}:x∈zkk w↔x∈sortW (sufL [w])∧0<x.length:=by
 rw[zcq,zu8];constructor
 ·intro h;obtain⟨k,hk,rfl⟩:=yae.1 h;have hk:=ybc.1 hk;exact⟨yae.2 ⟨k,ybc.2 (by omega),rfl⟩,by rw[ya8];omega⟩
 ·rintro⟨h,h2⟩;obtain⟨k,hk,rfl⟩:=yae.1 h;rw[ya8]at h2;exact yae.2 ⟨k,ybc.2 (by omega),rfl⟩
theorem zv3(ht:SmT t){w:yab}{mode:Int}(h1:t.Prefixes.length<=1100000)(h2:t.Suffixes.length<=1100000)(hw:w.length<=100000)(hr:∀a∈w,inR a):zcl t w mode=some (zg5 t w mode):=by
 unfold zcl zg5;rw[zgk t ht,zah];by_cases c1:zda t=0
 ·rw[zkA (by simpa using c1),zkC,if_neg (by simpa using c1),zfy w _ (by unfold SmW;omega),zah];by_cases c2:zbq w t.Inputs=0
  ·rw[zkA (by simpa using c2),zkC,if_neg (by simpa using c2)];by_cases c3:mode=0
   ·rw[zkB c3,zkD,if_pos c3,zo0 ht hw hr (by omega),zah];unfold zib;rw[if_neg (by simpa using c1),if_neg (by simpa using c2)]
   ·rw[zkA c3,zkC,if_neg c3];by_cases c4:mode=1
    ·rw[zkB c4,zkD,if_pos c4,zc0 ht.2.1,zah,zc0 ht.2.2.1,zah,zq7 (zm9 hw) (zqz hw),zah];have a4:=zdd (sufL [w]);rw[zu8,zgw,<- zu8]at a4;have a5:=zdd t.Suffixes
     have key:=zb1 (step:=fun(s:yaa×Nat)=>zcl.s2 (sortW (sufL [w])) s.1 s.2) (r:=sortW t.Suffixes++(sortW (sufL [w])).filter fun x=>decide (0<x.length)) (fun s=>s.2<=(sortW (sufL [w])).length∧s.1=sortW t.Suffixes++((sortW (sufL [w])).take s.2).filter fun x=>decide (0<x.length)) (fun s=>(sortW (sufL [w])).length-s.2) (fun s ⟨g1,g2⟩=>by
      obtain⟨y,i⟩:=s
      simp only at g1 g2
      subst g2
      simp only[zcl.s2]
      by_cases g3:i<(sortW (sufL [w])).length
      ·left
       have hx:=get_at g3
       have a3:=yc1 (fun x=>decide (0<x.length)) ((sortW (sufL [w])).take i)
       rw[yaf]at a3
       refine⟨(sortW t.Suffixes++((sortW (sufL [w])).take (i+1)).filter fun x=>decide (0<x.length),i+1),?_,⟨g3,rfl⟩,by simp only;omega⟩
       rw[zbr hx,zkD,zao hx,zbc hx,ydc]
       by_cases g4:0<((sortW (sufL [w]))[i]).length
       ·rw[zkB (by omega),zkD,zaq (by rw[zkJ];unfold za3;omega),ye9 (by simpa using g4),ybk]
        rfl
       ·rw[zkA (by omega),zkC,yfa (by simpa using g4)]
        simp
      ·right
       have e:i=(sortW (sufL [w])).length:=by omega
       subst e
       rw[zkA (by omega),zkC,yax]) (n:=fuel) (s:=(sortW t.Suffixes,0)) ⟨yag _,by simp⟩
     have a2:∀x,x∈sortW t.Suffixes++(sortW (sufL [w])).filter (fun x=>decide (0<x.length))↔x∈t.Suffixes++zkk w:=fun x=>by
      rw[yak,yak,zcq,yc4,decide_eq_true_eq,mem_restL]
     have a3:=yc1 (fun x=>decide (0<x.length)) (sortW (sufL [w]));have hS:SmL (sortW t.Suffixes++(sortW (sufL [w])).filter fun x=>decide (0<x.length)):=zie (by omega) (zh6 ht.2.2.1) ⟨by have:=(zh6 (zqz hw)).1;omega,fun x hx=>(zh6 (zqz hw)).2 x (yc4.1 hx).1⟩;have hg:=zmz (p:=[]) (s:=zkk w) ht zfg (zxo hw) (by have:=ht.2.1.1;simp;omega) (by simp[zkk];omega) (fun x hx=>by cases hx);rw[key,zah,zc0 hS,zah,sortW_ext a2];rw[ybd]at hg;rw[zgk _ hg,zah];unfold zn3;rw[ybd];by_cases c5:zda ⟨t.Inputs,sortW t.Prefixes,sortW (t.Suffixes++zkk w)⟩=0
     ·rw[zkA (by simpa using c5),zkC,if_neg (by simpa using c5)]
     ·rw[zkB c5,zkD,if_pos c5]
    ·rw[zkA c4,zkC,if_neg c4]
  ·rw[zkB c2,zkD,if_pos c2]
 ·rw[zkB c1,zkD,if_pos c1]
theorem R24_rests_eq{w:yab}(hw:w.length<=100000):zgv w=some (zkk w):=by
 unfold zgv
 have key:=zb1 (step:=fun(s:yaa×Nat)=>zgv.s2 w s.1 s.2) (r:=zkk w) (fun s=>s.2<=w.length∧s.1=(List.range s.2).map w.drop) (fun s=>w.length-s.2) (fun s ⟨g1,g2⟩=>by
  obtain⟨y,i⟩:=s
  simp only at g1 g2
  subst g2
  simp only[zgv.s2]
  by_cases g3:i<w.length
  ·left
   refine⟨((List.range (i+1)).map w.drop,i+1),?_,⟨g3,rfl⟩,by simp only;omega⟩
   rw[zkB (by omega),zkD,zaq (by omega),zaq (by simp;unfold za3;omega),ycr,ya1]
   rfl
  ·right
   have e:i=w.length:=by omega
   subst e
   rw[zkA (by omega),zkC]
   rfl) (n:=fuel) (s:=([],0)) ⟨yag _,rfl⟩
 rw[key,zah]
theorem R24_Refine_eq(ht:SmT t){w:yab}{mode:Int}(h1:t.Prefixes.length<=1100000)(h2:t.Suffixes.length<=1100000)(hw:w.length<=100000)(hr:∀a∈w,inR a):ze6 t w mode=some (zg5 t w mode):=by
 have a6:(sortW (preL [w])).length<=100001:=by
  have:=zdd (preL [w]);rw[zhb,zcs]at this;rw[zhb];omega
 have a2:=zh6 (zqw hw);unfold ze6 zg5;rw[zgs t ht,zah];by_cases c1:zda t=0
 ·rw[zkA (by simpa using c1),zkC,if_neg (by simpa using c1),zgu w _ (by unfold SmW;omega),zah];by_cases c2:zbq w t.Inputs=0
  ·rw[zkA (by simpa using c2),zkC,if_neg (by simpa using c2)]
   have a3:∀(p s:yaa),SmT ⟨t.Inputs,sortW (t.Prefixes++p),sortW (t.Suffixes++s)⟩->ze6.k1 t t.Inputs (sortW (t.Prefixes++p)) (sortW (t.Suffixes++s))=some (zn3 t p s):=fun p s hg=>by
    simp only[ze6.k1];rw[zgs _ hg,zah];unfold zn3;by_cases c5:zda ⟨t.Inputs,sortW (t.Prefixes++p),sortW (t.Suffixes++s)⟩=0
    ·rw[zkA (by simpa using c5),zkC,if_neg (by simpa using c5)]
    ·rw[zkB c5,zkD,if_pos c5]
   have a5:=zmz (s:=[]) ht a2 zfg (by omega) (by have:=ht.2.2.1.1;simp;omega) (fun x hx a ha=>by
    have hx:=(zcq _ _).1 hx
    rw[zhb]at hx
    unfold prefixes at hx
    obtain⟨k,_,rfl⟩:=yae.1 hx
    exact hr a (ya3 ha))
   have a4:=zmz (p:=[]) (s:=zkk w) ht zfg (zxo hw) (by have:=ht.2.1.1;simp;omega) (by simp[zkk];omega) (fun x hx=>by cases hx);by_cases c3:mode=0
   ·rw[zkA (fun h=>h c3),zkC,zah,zkC,zkr (zm9 hw) (fun x hx=>by rcases yba.1 hx with rfl;omega) (zqw hw),zah];rw[zk3 ht.2.1 ht.2.2.1 a2 zfg (by omega) (by have:=ht.2.2.1.1;simp;omega),zah,zkA (by omega),zkC,zah,if_pos c3,a3 _ _ a5]
   ·rw[zkB c3,zkD,zah,if_neg c3];by_cases c4:mode=1
    ·rw[zkA (fun h=>h c4),zkC,if_pos c4,zkr (zm9 hw) (fun x hx=>by rcases yba.1 hx with rfl;omega) (zqw hw),zah];rw[zk3 ht.2.1 ht.2.2.1 a2 zfg (by omega) (by have:=ht.2.2.1.1;simp;omega),zah,zkB c4,zkD,R24_rests_eq hw,zah,zk3 ht.2.1 ht.2.2.1 zfg (zxo hw) (by have:=ht.2.1.1;simp;omega) (by simp[zkk];omega),zah,zah,a3 _ _ a4]
    ·rw[zkB c4,zkD,if_neg c4]
  ·rw[zkB c2,zkD,if_pos c2]
 ·rw[zkB c1,zkD,if_pos c1]
end
end
section
def trow(m:zad)(S:yaa)(w:yab):Row:=S.map fun e=>outs m (dest m m.Start.toNat w) e
def KnS(o:zac)(S:yaa)(w:yab):Prop:=∀e∈S,Kn o (w++e)
section
variable {m:zad}{o:zac}{S:yaa}{w:yab}
theorem ans_tail_true(hE:Expl m o){e:yab}(h:Kn o (w++e)):tailA o w e=outs m (dest m m.Start.toNat w) e:=by
 unfold tailA;rw[(zpt hE).1 h,ybq,zg1,yc6 (by rw[zki];exact yam _),ycp (by rw[zki];exact yam _),ycg]
theorem zr2(hE:Expl m o):∀(S:yaa),(KnS o S w->rowO o w S=some (trow m S w))∧(∀R,rowO o w S=some R->KnS o S w)
 |[]=>⟨fun _=>rfl,fun R _ e he=>by cases he⟩
 |e::S=>by
  obtain⟨h1,h2⟩:=zr2 hE S;constructor
  ·intro h;have hk:=h e (by simp);unfold rowO;rw[(zpt hE).1 hk,h1 fun x hx=>h x (by simp[hx])];simp only[yav,trow,yat];congr 2;rw[zg1,yc6 (by rw[zki];exact yam _),ycp (by rw[zki];exact yam _),ycg]
  ·intro R hR x hx;unfold rowO at hR;by_cases hk:Kn o (w++e)
   ·rw[(zpt hE).1 hk]at hR;simp only at hR;cases hr:rowO o w S with
    |none=>rw[hr]at hR;cases hR
    |some R' =>
     rcases yap.1 hx with g|g
     ·rw[g];exact hk
     ·exact h2 R' hr x g
   ·rw[(zpt hE).2 hk]at hR;cases hR
theorem rowO_is(hE:Expl m o){R:Row}(h:rowO o w S=some R):R=trow m S w:=by
 have:=(zr2 hE S).1 ((zr2 hE S).2 R h);rw[this]at h;injection h with h
 exact h.symm
theorem trow_at{p q:yab}(h:trow m S p=trow m S q){e:yab}(he:e∈S):outs m (dest m m.Start.toNat p) e=outs m (dest m m.Start.toNat q) e:=by
 unfold trow at h;exact List.map_inj_left.1 h e he
theorem zs3(w:yab)(a:Int):dest m m.Start.toNat (w++[a])=nx m (dest m m.Start.toNat w) a.toNat:=by
 rw[zgy];rfl
theorem outs_cons(s:Nat)(a:Int)(w:yab):outs m s (a::w)=ot m s a.toNat::outs m (nx m s a.toNat) w:=rfl
end
theorem zrr{α:Type}[DecidableEq α]:∀{l k:List α},l.Nodup->(∀x∈l,x∈k)->l.length<=k.length
 |[],_,_,_=>yag _
 |x::l,k,h,hs=>by
  have hx:=hs x (by simp);have hn:=yb2.1 h;have:=zrr (l:=l) (k:=k.erase x) hn.2 fun y hy=>(List.mem_erase_of_ne (fun e=>hn.1 (by rw[<- e];exact hy))).2 (hs y (by simp[hy]));rw[ye5 hx]at this;have hp:0<k.length:=yeg hx;simp only[zkL];omega
def cellsW(n:Nat)(S P:yaa):yaa:=P.flatMap fun p=>(zfz n p).flatMap fun w=>S.map fun e=>w++e
theorem zza{n:Nat}{S P:yaa}{v:yab}:v∈cellsW n S P↔∃p∈P,∃w∈zfz n p,∃e∈S,w++e=v:=by
 unfold cellsW;simp only[ya2,yae]
theorem zou{o:zac}{t:zab}{P:yaa}{v:yab}:v∈zd7 o t P↔v∈cellsW t.Inputs.toNat t.Suffixes P∧ansO o v=none:=by
 unfold zd7;rw[zza];constructor
 ·intro h;obtain⟨p,hp,h⟩:=ya2.1 h;obtain⟨w,hw,h⟩:=ya2.1 h;obtain⟨⟨e,he,h1⟩,h2⟩:=zkv.1 h;exact⟨⟨p,hp,w,hw,e,he,h1.symm⟩,h2⟩
 ·rintro⟨⟨p,hp,w,hw,e,he,h1⟩,h2⟩;exact ya2.2 ⟨p,hp,ya2.2 ⟨w,hw,zkv.2 ⟨⟨e,he,h1.symm⟩,h2⟩⟩⟩
theorem maxR_up{l:yaa}(L:Nat)(hL:∀x∈l,x.length<=L):∀(k:Nat) (v:yab),v∈l->L-v.length<=k->∃y∈maxR l,v <+: y
 |k,v,hv,hk=>by
  by_cases h:∀y∈l,y=v∨¬v <+: y
  ·exact⟨v,(zlg l v).2 ⟨hv,h⟩,yb8 _⟩
  ·have:∃y∈l,y≠v∧v <+: y:=yau fun hn=>h fun y hy=>yau fun hn2=>hn ⟨y,hy,fun e=>hn2 (.inl e),yau fun e=>hn2 (.inr e)⟩;obtain⟨y,hy,hne,hp⟩:=this
   have hlt:v.length<y.length:=by
    rcases ya6 v.length y.length with g|g
    ·exact g
    ·have:=hp.length_le;exact absurd (hp.eq_of_length (by omega)).symm hne
   have:=hL y hy;cases k with
   |zero=>omega
   |succ k =>
    obtain⟨z,hz,a2⟩:=maxR_up L hL k y hy (by omega);exact⟨z,hz,hp.trans a2⟩
theorem zrj{w:yab}{n:Int}(hn:1<=n∧n<=1024)(hw:WOk n w)(hl:w.length<=1024):zbq w n=0:=by
 unfold zbq;rw[if_pos hn,if_neg (by omega),if_pos (ybb.2 fun x hx=>zkB (hw x hx))]
end
section
theorem addR_nodup{R:List Row}(h:R.Nodup)(r:Row):(addR R r).Nodup:=by
 unfold addR;split
 ·exact h
 ·rename_i g;rw[ybl];exact⟨h,by simp,fun a ha b hb e=>g (by rw[yba.1 hb]at e;rw[<- e];exact ha)⟩
theorem zog:∀(rs R:List Row),R.Nodup->(za9 R rs).Nodup
 |[],_,h=>h
 |r::rs,R,h=>zog rs (addR R r) (addR_nodup h r)
theorem mem_all{rs:List Row}{x:Row}:x∈za9 [] rs↔x∈rs:=by rw[zdw];simp
def kN(m:zad)(S P:yaa):Nat:=(za9 [] (P.map (trow m S))).length
theorem map_reps{α β:Type}{f:α->β}{P:List α}:∀(L:List β),(∀r∈L,r∈P.map f)->∃Q:List α,(∀q∈Q,q∈P)∧Q.map f=L
 |[],_=>⟨[],fun _ h=>(by cases h),rfl⟩
 |r::L,h=>by
  obtain⟨Q,h1,h2⟩:=map_reps L fun x hx=>h x (yaj _ hx);obtain⟨p,hp,e⟩:=yae.1 (h r yb5);refine⟨p::Q,fun q hq=>?_,by rw[yat,e,h2]⟩;rcases yap.1 hq with rfl|hq
  ·exact hp
  ·exact h1 q hq
section
variable {m:zad}{S S' P P':yaa}
theorem kN_reps(m:zad)(S P:yaa):∃Q:yaa,(∀q∈Q,q∈P)∧(Q.map (trow m S)).Nodup∧Q.length=kN m S P∧∀p∈P,∃q∈Q,trow m S q=trow m S p:=by
 obtain⟨Q,h1,h2⟩:=map_reps (f:=trow m S) (P:=P) (za9 [] (P.map (trow m S))) fun r hr=>mem_all.1 hr;refine⟨Q,h1,by rw[h2];exact zog _ _ ycq,by unfold kN;rw[<- h2,zkK],fun p hp=>?_⟩;have:trow m S p∈Q.map (trow m S):=by rw[h2];exact mem_all.2 (yae.2 ⟨p,hp,rfl⟩)
 obtain⟨q,hq,e⟩:=yae.1 this;exact⟨q,hq,e⟩
theorem kN_ge{Q:yaa}(h1:(Q.map (trow m S)).Nodup)(h2:∀q∈Q,q∈P):Q.length<=kN m S P:=by
 have:=zrr (k:=za9 [] (P.map (trow m S))) h1 fun x hx=>by
  obtain⟨q,hq,rfl⟩:=yae.1 hx;exact mem_all.2 (yae.2 ⟨q,h2 q hq,rfl⟩)
 rw[zkK]at this;exact this
theorem kN_le(H:zgr m)(hP:∀p∈P,WOk m.Inputs p):kN m S P<=m.Next.length:=by
 have a2:=H.st
 have:=zrr (l:=za9 [] (P.map (trow m S))) (k:=(List.range m.Next.length).map fun s=>S.map fun e=>outs m s e) (zog _ _ ycq) fun x hx=>by
  obtain⟨p,hp,rfl⟩:=yae.1 (mem_all.1 hx);exact yae.2 ⟨dest m m.Start.toNat p,ybc.2 (H.dest (hP p hp) (by omega)),rfl⟩
 rw[zkK,yb9]at this;exact this
theorem trow_sub{p q:yab}(hs:∀e∈S,e∈S')(h:trow m S' p=trow m S' q):trow m S p=trow m S q:=ydj fun e he=>trow_at h (hs e he)
theorem zwq{Q:yaa}(hs:∀e∈S,e∈S')(h:(Q.map (trow m S)).Nodup):(Q.map (trow m S')).Nodup:=by
 rw[List.nodup_iff_pairwise_ne,ydf]at h ⊢;exact h.imp fun {a b} hne e=>hne (trow_sub hs e)
theorem kN_mono(hP:∀p∈P,p∈P')(hs:∀e∈S,e∈S'):kN m S P<=kN m S' P':=by
 obtain⟨Q,h1,h2,h3,_⟩:=kN_reps m S P;rw[<- h3];exact kN_ge (zwq hs h2) fun q hq=>hP q (h1 q hq)
theorem kN_new{w:yab}(hP:∀p∈P,p∈P')(hw:w∈P')(hn:∀p∈P,trow m S p≠trow m S w):kN m S P+1<=kN m S P':=by
 obtain⟨Q,h1,h2,h3,_⟩:=kN_reps m S P
 have:=kN_ge (m:=m) (S:=S) (P:=P') (Q:=w::Q) (by
  rw[yat,yb2]
  exact⟨fun h=>by
   obtain⟨q,hq,e⟩:=yae.1 h
   exact hn q (h1 q hq) e,h2⟩) fun q hq=>by
  rcases yap.1 hq with rfl|hq
  ·exact hw
  ·exact hP q (h1 q hq)
 rw[zkL,h3]at this;exact this
theorem kN_split{p q:yab}(hp:p∈P)(hq:q∈P)(hs:∀e∈S,e∈S')(he:trow m S p=trow m S q)(hn:trow m S' p≠trow m S' q):kN m S P+1<=kN m S' P:=by
 obtain⟨Q,h1,h2,h3,h4⟩:=kN_reps m S P;obtain⟨r,hr,er⟩:=h4 p hp
 have key:∀x∈P,trow m S x=trow m S r->trow m S' x≠trow m S' r->kN m S P+1<=kN m S' P:=fun x hx ex nx=>by
  have:=kN_ge (m:=m) (S:=S') (P:=P) (Q:=x::Q) (by
   rw[yat,yb2]
   refine⟨fun h=>?_,zwq hs h2⟩
   obtain⟨y,hy,e⟩:=yae.1 h
   have e2:=trow_sub hs e
   obtain⟨i,hi,rfl⟩:=ydl hy
   obtain⟨j,hj,rfl⟩:=ydl hr
   have a2:i=j:=by
    have:=(List.getElem_inj (h₀:=by rw[zkK];exact hi) (h₁:=by rw[zkK];exact hj) h2).1 (by rw[List.getElem_map,List.getElem_map,e2,ex])
    exact this
   subst a2
   exact nx e.symm) fun y hy=>by
   rcases yap.1 hy with rfl|hy
   ·exact hx
   ·exact h1 y hy
  rw[zkL,h3]at this;exact this
 by_cases g:trow m S' p=trow m S' r
 ·exact key q hq (he.symm.trans er.symm) fun h=>hn (g.trans h.symm)
 ·exact key p hp er.symm g
theorem rows_old(hP:∀p∈P,p∈P')(hk:kN m S P'<=kN m S P){w:yab}(hw:w∈P'):∃p∈P,trow m S p=trow m S w:=yau fun g=>by
 have:=kN_new (m:=m) (S:=S) hP hw fun p hp e=>g ⟨p,hp,e⟩;omega
end
section
variable {m:zad}{t:zab}{o:zac}
theorem zd5.true_(H:zd5 t o)(T:zfi m o){w:yab}(h:∃r,rowO o w t.Suffixes=some r):rowG t o w=trow m t.Suffixes w:=by
 obtain⟨r,hr⟩:=h;have:=rowO_is T.ex hr;rw[<- this];exact zdu hr
theorem zd5.row_t(H:zd5 t o)(T:zfi m o){p:yab}(hp:p∈t.Prefixes):rowG t o p=trow m t.Suffixes p:=H.true_ T ⟨_,H.row hp⟩
theorem zd5.ext_t(H:zd5 t o)(T:zfi m o){p:yab}(hp:p∈t.Prefixes){a:Nat}(ha:a<t.Inputs.toNat):rowG t o (p++[(↑a:Int)])=trow m t.Suffixes (p++[(↑a:Int)]):=H.true_ T ⟨_,H.ext hp ha⟩
theorem zd5.stt_row(H:zd5 t o)(T:zfi m o){p:yab}(hp:p∈t.Prefixes):stt t o p=pos (trow m t.Suffixes p) (zeu t o):=by unfold stt;rw[H.row_t T hp]
theorem zd5.ot_t(H:zd5 t o)(T:zfi m o){p:yab}(hp:p∈t.Prefixes){a:Nat}(ha:a<t.Inputs.toNat):ot (hypT t o).M (stt t o p) a=ot m (dest m m.Start.toNat p) a:=by
 have h1:=(H.nx_ot hp ha).2;have hs:[(↑a:Int)]∈t.Suffixes:=zkH (H.sing ha);have hk:Kn o (p++[(↑a:Int)]):=(zr2 T.ex t.Suffixes).2 _ (H.row hp) _ hs;rw[ans_tail_true T.ex hk]at h1
 have h2:Sym.outs m (dest m m.Start.toNat p) [(↑a:Int)]=[ot m (dest m m.Start.toNat p) a]:=by
  show [ot m (dest m m.Start.toNat p) (Int.toNat (↑a:Int))]=_;rw[ybf]
 rw[h2]at h1;injection h1 with h1
 exact h1.symm
theorem zd5.nx_t(H:zd5 t o)(T:zfi m o){p:yab}(hp:p∈t.Prefixes){a:Nat}(ha:a<t.Inputs.toNat):nx (hypT t o).M (stt t o p) a=pos (trow m t.Suffixes (p++[(↑a:Int)])) (zeu t o):=by
 rw[(H.nx_ot hp ha).1];unfold stt;rw[H.ext_t T hp ha]
theorem ctx_pre(H:zd5 t o)(T:zfi m o)(hi:t.Inputs=m.Inputs){P':yaa}(hP:∀p∈t.Prefixes,p∈P')(hk:kN m t.Suffixes P'<=kN m t.Suffixes t.Prefixes)
  (hc:∀p∈P',∀q∈P',trow m t.Suffixes p=trow m t.Suffixes q->∀a:Nat,a<m.Inputs.toNat->trow m t.Suffixes (p++[(↑a:Int)])=trow m t.Suffixes (q++[(↑a:Int)])) :
  ∀(n:Nat) {w:yab},w.length=n->WOk m.Inputs w->(∀k,w.take k∈P')->outs (hypT t o).M 0 w=outs m m.Start.toNat w∧dest (hypT t o).M 0 w=pos (trow m t.Suffixes w) (zeu t o)
 |0,w,hn,_,_=>by
  have e:w=[]:=List.length_eq_zero_iff.1 hn;subst e;have h0:[]∈t.Prefixes:=zkH H.nil;refine⟨rfl,?_⟩;show 0=_;rw[<- H.stt_row T h0];exact H.start.symm
 |n+1,w,hn,hw,hp=>by
  obtain⟨v,x,rfl⟩:∃v x,w=v++[x]:=by
   rcases List.eq_nil_or_concat w with h|⟨v,x,h⟩
   ·rw[h]at hn;cases hn
   ·exact⟨v,x,by rw[h,List.concat_eq_append]⟩
  have a5:v.length=n:=by rw[zkJ,ybi]at hn;omega
  have hx:=hw x (by simp);obtain⟨a,rfl⟩:=ydo hx.1;have ha:a<m.Inputs.toNat:=by omega
  have a4:WOk m.Inputs v:=fun y hy=>hw y (yas _ hy)
  have a3:∀k,v.take k∈P':=fun k=>by
   rcases ya6 v.length k with g|g
   ·have:=hp v.length;rw[List.take_left' rfl]at this;rw[ybe (by omega)];exact this
   ·have:=hp k;rw[ybw g]at this;exact this
  obtain⟨i1,i2⟩:=ctx_pre H T hi hP hk hc n a5 a4 a3;have a2:v∈P':=by have:=a3 v.length;rwa [yax]at this
  obtain⟨q,hq,eq⟩:=rows_old hP hk a2;have hd:dest (hypT t o).M 0 v=stt t o q:=by rw[i2,H.stt_row T hq,eq]
  have hs:[(↑a:Int)]∈t.Suffixes:=zkH (H.sing (by rw[hi];exact ha));have ho:=trow_at eq hs
  have a6:ot m (dest m m.Start.toNat q) a=ot m (dest m m.Start.toNat v) a:=by
   have:[ot m (dest m m.Start.toNat q) (Int.toNat (↑a:Int))]=[ot m (dest m m.Start.toNat v) (Int.toNat (↑a:Int))]:=ho;injection this
  have h1:=H.ot_t T hq (a:=a) (by rw[hi];exact ha);have h2:=H.nx_t T hq (a:=a) (by rw[hi];exact ha);have h3:=hc q (hP q hq) v a2 eq a ha;constructor
  ·rw[zg1,zg1,i1,hd];show _++[ot (hypT t o).M (stt t o q) (Int.toNat (↑a:Int))]=_++[ot m _ (Int.toNat (↑a:Int))];rw[ybf,h1,a6]
  ·rw[zgy,hd];show nx (hypT t o).M (stt t o q) (Int.toNat (↑a:Int))=_;rw[ybf,h2,h3]
theorem ctx_suf(H:zd5 t o)(T:zfi m o)(hi:t.Inputs=m.Inputs){S':yaa}(hS:∀e∈t.Suffixes,e∈S')
  (hc:∀p∈t.Prefixes,∀a:Nat,a<m.Inputs.toNat->∃q∈t.Prefixes,trow m S' q=trow m S' (p++[(↑a:Int)])) :
  ∀(w:yab),WOk m.Inputs w->(∀k,w.drop k∈S'∨w.drop k=[])->∀p∈t.Prefixes,outs (hypT t o).M (stt t o p) w=outs m (dest m m.Start.toNat p) w
 |[],_,_,_,_=>rfl
 |x::w,hw,hs,p,hp=>by
  have hx:=hw.head;obtain⟨a,rfl⟩:=ydo hx.1;have ha:a<m.Inputs.toNat:=by omega
  obtain⟨q,hq,eq⟩:=hc p hp a ha;have ih:=ctx_suf H T hi hS hc w hw.tail (fun k=>hs (k+1)) q hq;have h1:=H.ot_t T hp (a:=a) (by rw[hi];exact ha);have h2:=H.nx_t T hp (a:=a) (by rw[hi];exact ha);rw[<- trow_sub hS eq,<- H.stt_row T hq]at h2
  have h3:outs m (dest m m.Start.toNat q) w=outs m (dest m m.Start.toNat (p++[(↑a:Int)])) w:=by
   rcases hs 1 with g|g
   ·exact trow_at eq g
   ·have g:w=[]:=g;rw[g];rfl
  show ot (hypT t o).M (stt t o p) (Int.toNat (↑a:Int))::outs (hypT t o).M (nx (hypT t o).M (stt t o p) (Int.toNat (↑a:Int))) w=ot m _ (Int.toNat (↑a:Int))::outs m (nx m _ (Int.toNat (↑a:Int))) w;rw[ybf,h1,h2,ih,h3,zs3,ybf]
end
end
end Go.Proofs.YtfgajaakmmogkaaGreatDoor.Sym

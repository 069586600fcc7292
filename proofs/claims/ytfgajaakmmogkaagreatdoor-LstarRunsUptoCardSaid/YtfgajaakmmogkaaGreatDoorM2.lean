/- Parts of the proof. -/
import Derived.Test.YtfgajaakmmogkaaGreatDoorM1
import Derived.Maps.Own
import Derived.Laws.StructEq
import Derived.ChangeKeysEq
import Derived.Great.BuildSlice
import Derived.Orders
import Derived.Scope
import Derived.Test.YtfgajaakmmogkaaGreatDoorCards
import Derived.Test.YtfgajaakmmogkaaGreatDoorTie
import Derived.ProofKit
import Derived.OpenShut
import Derived.Deep.DeepHandedRow
import Derived.Lib.LaidTab
import Derived.Deep.Slices
import Derived.Lib.Hide
set_option linter.all false
set_option maxRecDepth 100000
set_option maxHeartbeats 4000000
open Go.RowKit
namespace Go.Proofs.YtfgajaakmmogkaaGreatDoor.Sym
section
def cellV(w:World)(v:Value)(j:Nat):Value:=match v with
 | .pointer (some a)=>match w.heap[a.block]? with
  |some (.cells us _ _)=>us.toList.getD j undef
  |_=>undef
 |_=>undef
theorem fillCs_ok{w:World}{S:Nat->Prop}{h:Nat->Bool}{V:Nat->Value}:∀{us:List Value} {cs:List Oc} {j:Nat} {F:List Nat},(∀k u,us[k]?=some u->V (j+k)=u∧u.oneCell'=true)->zmo w S us cs F->zmo w S us (fillCs h V j cs) F
 |[],[],_,_,_,hk=>hk
 |[],_::_,_,_,_,hk=>hk.elim
 |_::_,[],_,_,_,hk=>hk.elim
 |u::us,c::cs,j,F,hv,⟨F1,F2,h1,h2,h3⟩=>by
  refine⟨F1,F2,?_,fillCs_ok (fun k x hx=>by rw[ybv,ycn 1 k];exact hv (k+1) x (by simpa using hx)) h2,h3⟩;unfold fillC;split
  ·split
   ·rename_i hc;cases c with
    |ow k=>cases hc
    |im x =>
     obtain⟨_,h1⟩:=h1;obtain⟨this,a2⟩:=hv 0 u rfl;rw[yb4]at this;rw[this];exact⟨.ex _ a2,h1⟩
   ·exact h1
  ·exact h1
theorem fillX_ok{w:World}{S:Nat->Prop}{own:List Nat}{d:Nat}{V:Nat->Nat->Value}:∀{vs:List Value} {xs:List Arg} {i:Nat} {F:List Nat},(∀k v j,vs[k]?=some v->V (i+k) j=cellV w v j)->zet w S vs xs F->zet w S vs (fillX own d V i xs) F
 |[],[],_,_,_,hk=>hk
 |[],_::_,_,_,_,hk=>hk.elim
 |_::_,[],_,_,_,hk=>hk.elim
 |v::vs,x::xs,i,F,hv,⟨F1,F2,h1,h2,h3⟩=>by
  refine⟨F1,F2,?_,fillX_ok (fun k x j hx=>by rw[ybv,ycn 1 k];exact hv (k+1) x j (by simpa using hx)) h2,h3⟩;cases x with
  |im x=>exact h1
  |ow k=>exact h1
  |lent k=>exact h1
  |box t cs =>
   obtain⟨q,us,F',e1,e2,e3,e4,e5⟩:=h1;refine⟨q,us,F',e1,e2,e3,fillCs_ok (fun k u hu=>?_) e4,e5⟩;have:=hv 0 v (0+k) rfl;rw[yb4]at this;refine⟨?_,e3 u (zkH hu)⟩;rw[this,e1];unfold cellV;simp only[e2];rw[yah,ybo,hu];rfl
theorem fillX_vs{own:List Nat}{d:Nat}{V:Nat->Nat->Value}:∀{vs:List Value} {xs:List Arg} {i:Nat},bxVs vs (fillX own d V i xs)=bxVs vs xs
 |[],[],_=>rfl
 |[],_::_,_=>rfl
 |_::_,[],_=>rfl
 |v::vs,x::xs,i=>by
  have ih:=fillX_vs (own:=own) (d:=d) (V:=V) (vs:=vs) (xs:=xs) (i:=i+1);cases x with
  |im x=>exact ih
  |ow k=>exact ih
  |lent k=>show v::_=v::_;rw[ih]
  |box t cs=>show v::_=v::_;rw[ih]
theorem zvr{w:World}{S:Nat->Prop}{h:Nat->Bool}{V:Nat->Value}:∀{us:List Value} {cs:List Oc} {j:Nat} {F:List Nat},zmo w S us (fillCs h V j cs) F->zmo w S us cs F∧∀k c,cs[k]?=some c->h (j+k)=true->isAny c=true->us[k]?=some (V (j+k))
 |[],[],_,_,hk=>⟨hk,fun k c hc=>by simp at hc⟩
 |[],_::_,_,_,hk=>hk.elim
 |_::_,[],_,_,hk=>hk.elim
 |u::us,c::cs,j,F,⟨F1,F2,h1,h2,h3⟩=>by
  obtain⟨r1,r2⟩:=zvr h2
  have key:OcOk w S u c F1∧(h j=true->isAny c=true->u=V j):=by
   unfold fillC at h1;split at h1
   ·rename_i hh;split at h1
    ·rename_i hc;obtain⟨h4,h5⟩:=h1;cases c with
     |ow k=>cases hc
     |im x =>
      cases x with
      |any=>cases h4;exact⟨⟨.any _,h5⟩,fun _ _=>rfl⟩
      |_=>cases hc
    ·rename_i hc;exact⟨h1,fun _ h6=>by rw[hc]at h6;cases h6⟩
   ·rename_i hh;exact⟨h1,fun h6 _=>by rw[hh]at h6;cases h6⟩
  refine⟨⟨F1,F2,key.1,r1,h3⟩,fun k c' hc hh ha=>?_⟩;cases k with
  |zero =>
   simp at hc;subst hc;rw[key.2 hh ha];rfl
  |succ k =>
   have:=r2 k c' (by simpa using hc) (by rw[ybv,ycn 1 k];exact hh) ha;rw[ybv,ycn 1 k]at this;simpa using this
theorem zzb{w:World}{S:Nat->Prop}{own:List Nat}{d:Nat}{V:Nat->Nat->Value}:∀{bx:yad} {ps:List Value} {ys:List Arg} {F:List Nat},zet w S ps (fillY own d V bx ys) F->zet w S ps ys F ∧
  ∀p∈hlY own d bx ys,∃(k i:Nat) (t:TypeId) (cs:List Oc) (q:Nat) (us:List Value),bx[k]?=some (p.1,i)∧ys[k]?=some (.box t cs)∧p.2<cs.length∧ps[k]?=some (.pointer (some ⟨q,0,none⟩))∧w.heap[q]?=some (.cells us.toArray t (0,0))∧us[p.2]?=some (V i p.2)
 |[],ps,ys,F,hk=>⟨hk,fun p hp=>by cases ys<;>simp[hlY]at hp⟩
 |_::_,ps,[],F,hk=>⟨hk,fun p hp=>by simp[hlY]at hp⟩
 |(b,i)::bx,[],y::ys,F,hk=>hk.elim
 |(b,i)::bx,v::ps,y::ys,F,⟨F1,F2,h1,h2,h3⟩=>by
  obtain⟨r1,r2⟩:=zzb h2
  have up:∀p∈hlY own d bx ys,∃(k i':Nat) (t:TypeId) (cs:List Oc) (q:Nat) (us:List Value),((b,i)::bx)[k]?=some (p.1,i')∧(y::ys)[k]?=some (.box t cs)∧p.2<cs.length∧(v::ps)[k]?=some (.pointer (some ⟨q,0,none⟩))∧w.heap[q]?=some (.cells us.toArray t (0,0))∧us[p.2]?=some (V i' p.2):=fun p hp=>by
   obtain⟨k,i',t,cs,q,us,a1,a2,a3⟩:=r2 p hp;exact⟨k+1,i',t,cs,q,us,by simpa using a1,by simpa using a2,by simpa using a3⟩
  cases y with
  |im x=>exact⟨⟨F1,F2,h1,r1,h3⟩,up⟩
  |ow k=>exact⟨⟨F1,F2,h1,r1,h3⟩,up⟩
  |lent k=>exact⟨⟨F1,F2,h1,r1,h3⟩,up⟩
  |box t cs =>
   obtain⟨q,us,F',e1,e2,e3,e4,e5⟩:=h1;obtain⟨e6,e7⟩:=zvr e4;refine⟨⟨F1,F2,⟨q,us,F',e1,e2,e3,e6,e5⟩,r1,h3⟩,fun p hp=>?_⟩;unfold hlY at hp;rcases yak.1 hp with hp|hp
   ·have hcell:∀(cs:List Oc) (j:Nat),p∈hlC own d i b j cs->∃m c,p=(b,j+m)∧cs[m]?=some c∧holeH own d i (j+m)=true∧isAny c=true:=by
     intro cs
     induction cs with
     |nil=>intro j hp;simp[hlC]at hp
     |cons c cs ih =>
      intro j hp
      have a6:p∈hlC own d i b (j+1) cs->∃m c',p=(b,j+m)∧(c::cs)[m]?=some c'∧holeH own d i (j+m)=true∧isAny c'=true:=fun hp=>by
       obtain⟨m,c',a1,a2,a3,a4⟩:=ih (j+1) hp;exact⟨m+1,c',by rw[a1,ybv,ycn 1 m],by simpa using a2,by rw[<- ycn 1 m,<- ybv];exact a3,a4⟩
      unfold hlC at hp;split at hp
      ·rename_i hh ha;rcases yap.1 hp with rfl|hp
       ·exact⟨0,c,rfl,rfl,hh,ha⟩
       ·exact a6 hp
      ·exact a6 hp
    obtain⟨m,c,rfl,a2,a3,a4⟩:=hcell cs 0 hp;rw[yah]at a3 ⊢;have a5:=e7 m c a2 (by rw[yah];exact a3) a4;rw[yah]at a5;exact⟨0,i,t,cs,q,us,rfl,rfl,(zkI.1 a2).1,by rw[e1];rfl,e2,a5⟩
   ·exact up p hp
theorem memB_iff{b:Nat}:∀{l:List Nat},memB b l=true↔b∈l
 |[]=>by simp[memB]
 |x::l=>by
  unfold memB;split
  ·rename_i h;simp[yal h]
  ·rename_i h;have hne:b≠x:=fun e=>by rw[e,Nat.beq_refl]at h;cases h
   rw[memB_iff];simp[hne]
theorem memC_iff{b j:Nat}:∀{l:yad},memC b j l=true↔(b,j)∈l
 |[]=>by simp[memC]
 |x::l=>by
  unfold memC;split
  ·rename_i h;rw[ya0]at h;have h1:=yal h.1;have h2:=yal h.2;have:(b,j)=x:=by rw[<- h1,<- h2]
   simp[this]
  ·rename_i h
   have a2:(b,j)≠x:=fun e=>by
    rw[<- e]at h;simp at h
   rw[memC_iff];simp[a2]
section
variable {P:Program}{B:Base}{o:Oper}{σ:St}{K:Fx->Prop}
theorem keepW_at(bs:List Nat)(hs:yad)(l:Loc):∀(wr:List (Loc×Ct)) (σ:St),app σ (keepW bs hs wr) l=if keepL bs hs l=true then app σ wr l else σ l
 |[],σ=>by show σ l=_;split<;>rfl
 |p::wr,σ=>by
  unfold keepW;split
  ·rename_i hp;show app (upd σ p.1 p.2) (keepW bs hs wr) l=_;rw[keepW_at bs hs l wr];by_cases hl:keepL bs hs l=true
   ·rw[if_pos hl,if_pos hl];rfl
   ·rw[if_neg hl,if_neg hl,zes,if_neg (fun e=>hl (by rw[e];exact hp))]
  ·rename_i hp;rw[keepW_at bs hs l wr];by_cases hl:keepL bs hs l=true
   ·rw[if_pos hl,if_pos hl];have hne:l≠p.1:=fun e=>by rw[e,hp]at hl;cases hl
    -- a write elsewhere
    have:∀(wr:List (Loc×Ct)) (σ1 σ2:St),(∀x,x≠p.1->σ1 x=σ2 x)->∀x,x≠p.1->app σ1 wr x=app σ2 wr x:=by
     intro wr
     induction wr with
     |nil=>intro σ1 σ2 h x hx;exact h x hx
     |cons q wr ih =>
      intro σ1 σ2 h x hx;refine ih (upd σ1 q.1 q.2) (upd σ2 q.1 q.2) (fun y hy=>?_) x hx;rw[zes,zes];split
      ·rfl
      ·exact h y hy
    exact this wr σ (upd σ p.1 p.2) (fun x hx=>by rw[zes,if_neg hx]) l hne
   ·rw[if_neg hl,if_neg hl]
theorem argsG_box{own:List Nat}{d:Nat}{b i:Nat}:∀{cs:List AV} {i0:Nat} {xs:List Arg} {bs gs:yad},zm1 σ own d i0 cs=some (xs,bs,gs)->(b,i)∈bxG own d i0 cs->objG σ b=none->∃k g,i=i0+k∧cs[k]?=some (.own b g 0)∧(b,g)∈gs
 |[],i0,xs,bs,gs,e,hm,_=>by simp[bxG]at hm
 |c::cs,i0,xs,bs,gs,e,hm,hn=>by
  simp only[zm1]at e;split at e
  ·rename_i x b1 g1 xs1 bs1 gs1 h1 h2;simp only[zkF,zkG]at e;obtain⟨rfl,rfl,rfl⟩:=e
   have up:(b,i)∈bxG own d (i0+1) cs->∃k g,i=i0+k∧(c::cs)[k]?=some (.own b g 0)∧(b,g)∈g1++gs1:=fun hm=>by
    obtain⟨k,g,a1,a2,a3⟩:=argsG_box h2 hm hn;exact⟨k+1,g,by omega,by simpa using a2,yao _ a3⟩
   unfold argG at h1;unfold bxG at hm;split at h1
   ·rename_i ho;rw[ho]at hm;split at h1
    ·rename_i b' g';split at h1
     ·rename_i k hk;simp only at hm;split at hm
      ·rcases yap.1 hm with e|hm
       ·simp only[zkG]at e;rw[<- e.1,hn]at hk;cases hk
       ·exact up hm
      ·exact up hm
     ·cases h1
    ·rename_i b' g';split at h1
     ·split at h1
      ·simp only[zkF,zkG]at h1;obtain⟨rfl,rfl,rfl⟩:=h1;simp only at hm;rcases yap.1 hm with e|hm
       ·simp only[zkG]at e;obtain⟨rfl,rfl⟩:=e;exact⟨0,g',rfl,rfl,by simp⟩
       ·exact up hm
      ·cases h1
     ·cases h1
    ·exact up hm
    ·cases h1
   ·rename_i ho;rw[ho]at hm;exact up hm
  ·cases e
theorem zu7{τ:St}:∀{bx:yad} {ys:List Arg} {bl:List (Nat×LK)} {ss:List (Nat×Kd)},bxPl τ bx ys=some (bl,ss)->∀{k b i:Nat} {t:TypeId} {cs:List Oc},bx[k]?=some (b,i)->ys[k]?=some (.box t cs)->∃al,bl[k]?=some (b,.box t al)∧al.length=cs.length
 |[],_,_,_,_,k,b,i,t,cs,h1,_=>by simp at h1
 |_::_,[],_,_,e,k,b,i,t,cs,h1,h2=>by simp at h2
 |(b0,i0)::bx,y::ys,bl,ss,e,k,b,i,t,cs,h1,h2=>by
  cases y with
  |im x=>simp[bxPl]at e
  |ow x=>simp[bxPl]at e
  |lent x =>
   unfold bxPl at e;split at e
   ·rename_i l s2 hfk e2;simp only[zkF,zkG]at e;obtain⟨rfl,rfl⟩:=e;cases k with
    |zero=>simp at h2
    |succ k =>
     obtain⟨al,a1,a2⟩:=zu7 e2 (k:=k) (by simpa using h1) (by simpa using h2);exact⟨al,by simpa using a1,a2⟩
   ·cases e
  |box t0 cs0 =>
   unfold bxPl at e;split at e
   ·rename_i al s1 l s2 e1 e2;simp only[zkF,zkG]at e;obtain⟨rfl,rfl⟩:=e;cases k with
    |zero =>
     simp at h1 h2;obtain⟨rfl,rfl⟩:=h1;obtain⟨rfl,rfl⟩:=h2;refine⟨al,rfl,?_⟩;have:al=(zcb τ (cellNm τ b0 i0) 0 cs0).1:=by rw[e1]
     rw[this]
     have a3:∀(f:Nat->Nat) (cs:List Oc) (j:Nat),(zcb τ f j cs).1.length=cs.length:=by
      intro f cs
      induction cs with
      |nil=>intro j;rfl
      |cons c cs ih=>intro j;show(_::(zcb τ f (j+1) cs).1).length=_;rw[zkL,ih];rfl
     exact a3 _ _ _
    |succ k =>
     obtain⟨a4,a1,a2⟩:=zu7 e2 (k:=k) (by simpa using h1) (by simpa using h2);exact⟨a4,by simpa using a1,a2⟩
   ·cases e
theorem zoc:∀{bl:List (Nat×LK)},sameBx σ bl=true->∀{b:Nat} {t:TypeId} {al:List AV},(b,LK.box t al)∈bl->σ.kd b=.box t al.length
 |[],_,b,t,al,h=>by simp at h
 |(b0,.obj k)::bl,e,b,t,al,h=>by
  rcases yap.1 h with h|h
  ·simp at h
  ·exact zoc (bl:=bl) e h
 |(b0,.box t0 al0)::bl,e,b,t,al,h=>by
  unfold sameBx at e;rw[ya0]at e;rcases yap.1 h with h|h
  ·simp only[zkG,LK.box.injEq]at h;obtain⟨rfl,rfl,rfl⟩:=h;have e1:=e.1;split at e1
   ·rename_i t' m hk;rw[ya0]at e1;rw[hk,yal e1.1,yal e1.2]
   ·cases e1
  ·exact zoc e.2 h
theorem bxN_mem:∀{bl:List (Nat×LK)} {b:Nat},b∈bxN bl->∃t al,(b,LK.box t al)∈bl
 |[],b,h=>by simp[bxN]at h
 |(b0,.obj k)::bl,b,h=>by
  obtain⟨t,al,h⟩:=bxN_mem (bl:=bl) h;exact⟨t,al,by simp[h]⟩
 |(b0,.box t al)::bl,b,h=>by
  have h:b∈b0::bxN bl:=h;rcases yap.1 h with rfl|h
  ·exact⟨t,al,by simp⟩
  ·obtain⟨t,al,h⟩:=bxN_mem h;exact⟨t,al,by simp[h]⟩
theorem bxN_of:∀{bl:List (Nat×LK)} {b:Nat} {t:TypeId} {al:List AV},(b,LK.box t al)∈bl->b∈bxN bl
 |[],b,t,al,h=>by simp at h
 |(b0,.obj k)::bl,b,t,al,h=>by
  rcases yap.1 h with h|h
  ·simp at h
  ·exact bxN_of (bl:=bl) h
 |(b0,.box t0 al0)::bl,b,t,al,h=>by
  show b∈b0::bxN bl;rcases yap.1 h with h|h
  ·simp only[zkG]at h;simp[h.1]
  ·simp[bxN_of h]
theorem bxWr_kd:∀{bl:List (Nat×LK)} {σ:St} {b:Nat} {t:TypeId} {al:List AV},(bl.map (·.1)).Nodup->(b,LK.box t al)∈bl->(app σ (bxWr bl)).kd b=.box t al.length
 |[],σ,b,t,al,_,h=>by simp at h
 |(b0,x)::bl,σ,b,t,al,hn,h=>by
  rw[yat,yb2]at hn
  have happ:app σ (bxWr ((b0,x)::bl))=app (app σ (lkWr b0 x)) (bxWr bl):=by
   show app σ (lkWr b0 x++bxWr bl)=_;rw[za2]
  rw[happ]
  have a2:∀(bl:List (Nat×LK)) (σ:St),b0∉bl.map (·.1)->(app σ (bxWr bl)).kd b0=σ.kd b0:=by
   intro bl
   induction bl with
   |nil=>intro σ _;rfl
   |cons p bl ih =>
    intro σ hm;rw[yat,yap,not_or]at hm;show(app σ (lkWr p.1 p.2++bxWr bl)).kd b0=_;rw[za2,ih _ hm.2];cases p.2 with
    |box t al =>
     show(app (upd σ (.knd p.1) (.kd (.box t al.length))) (zg9 p.1 0 al)).kd b0=_;rw[zr5,zfn,if_neg hm.1]
    |obj k =>
     show(upd σ (.knd p.1) (.kd k)).kd b0=_;rw[zfn,if_neg hm.1]
  rcases yap.1 h with h|h
  ·simp only[zkG]at h;obtain⟨rfl,rfl⟩:=h;rw[a2 bl _ hn.1];show(app (upd σ (.knd b) (.kd (.box t al.length))) (zg9 b 0 al)).kd b=_;rw[zr5,zfn,if_pos rfl]
  ·exact bxWr_kd hn.2 h
theorem fillX_nm{own:List Nat}{d i:Nat}{V:Nat->Nat->Value}{xs:List Arg}(h:nmX xs=true):nmX (fillX own d V i xs)=true:=by
 cases xs with
 |nil=>rfl
 |cons x l =>
  cases x with
  |im _=>rfl
  |ow _=>rfl
  |box _ _=>rfl
  |lent k=>cases k<;>first|rfl|cases h
theorem aCallH_ok{C:FuncId->List Arg->Rs->Prop}(hC:∀g xs r,C g xs r->SpX P g xs r){own:List Nat}{c:Call}{f:Operand}(hop:o.op=.call c)(hcal:c.callee=.value f)(hd:zct B.n o=true)(h:aCallH own o σ K C f c.args.toList):∃fx,K fx∧Eff P B o fx.rd σ fx.wr:=by
 unfold aCallH at h;split at h
 ·rename_i d g caps e0 hf;split at h
  ·rename_i xs bs gs c8;obtain⟨k8,h⟩:=h.ok;obtain⟨c7,c0⟩:=zld k8;obtain⟨g8,tp,l,ys,hr,h⟩:=h.out;have j9:=fun V=>(hC g _ _ (hr V)).sp (fillX_nm (argsG_nm c8));split at h
   ·rename_i al ss bl ss' i4 c9;split at h
    ·rename_i va l8;obtain⟨d0,h⟩:=h.ok;rw[ya0]at d0;obtain⟨d0,b6⟩:=d0;obtain⟨g7,i5⟩:=zld d0;have l9:al=(zcb σ (zhp tp d) 0 l).1:=by rw[i4]
     have l4:ss=(zcb σ (zhp tp d) 0 l).2:=by rw[i4]
     subst l9 l4;have e9:=((bxG_sub c8).nodup c7);have j4:∀t,some d=some t->t<B.n:=fun t e=>by injection e with e;subst e;exact zdl hd e0
     refine⟨_,h,fun σ' hag a w ⟨ρ,hs⟩ K' Q hK=>?_⟩;have i3:=zay (zay (zay hag));have i7:=za6 (zay (zay hag));have b0:zdc σ σ' (bs++gs):=za6 (zay hag);have d8:=za6 hag
     have d4:∀p∈bs++gs,σ'.gn p.1=p.2:=fun p hp=>by
      rw[<- g8 p hp];exact(b0.mem hp).1
     obtain⟨us,k0,j8⟩:∃us:List Value,a.eval f=.func (.func g) #[] us.toArray∧Reps w (Imm B σ' ρ w) ρ σ'.gn us caps:=by
      have h1:=za0 hs f;rw[zas i3]at h1;split at hf
      ·rename_i g' c6 f7;simp only[zkF,zkG]at hf;obtain⟨rfl,rfl⟩:=hf;rw[f7]at h1;have h1:=h1.im_inv;generalize a.eval f=v at h1;cases h1 with
       |fn _ us _ hl hr =>
        refine⟨us,rfl,by simpa using hl,fun i u y hu hy=>?_⟩;simp only[yan]at hy;cases hc:c6[i]? with
        |none=>rw[hc]at hy;cases hy
        |some c =>
         rw[hc]at hy;simp only[yav,zkF]at hy;rw[<- hy];exact .im _ _ (hr i u c hu hc)
      ·rename_i g' c6 f7;simp only[zkF,zkG]at hf;obtain⟨rfl,rfl⟩:=hf;rw[f7]at h1;generalize a.eval f=v at h1;cases h1 with
       |fn _ us _ hl hr=>exact⟨us,rfl,hl,hr⟩
      ·cases hf
     have a9:=(evL_ok hs i7).app j8;have f8:=ztr c8 b0.left b0.right;have i9:=argsG_ok hs (bs0:=bs) (fun p hp=>d4 p (yas _ hp)) a9 f8 (fun _ h=>h) fun p hp=>d4 p (yao _ hp);obtain⟨k4,_⟩:=bxG_ok hs a9 f8 fun p hp=>d4 p (yao _ hp);generalize j3:c.args.toList.map a.eval++us=vs at *
     let V:Nat->Nat->Value:=fun i j=>cellV w (vs.getD i undef) j
     have g6:=fillX_ok (own:=own) (d:=d) (V:=V) (i:=0) (fun k v j hv=>by
      show cellV w (vs.getD (0+k) undef) j=_
      rw[yah,ybo,hv];rfl) i9
     obtain⟨d5,m0⟩:=j9 V
     have d7:=m0 w (Imm B (app σ' (fwr bs)) ρ w) _ _ (fun b hb=>hb.2.1) g6 (zk6 hs c7) fun b hb=>by
      obtain⟨p,hp,ho⟩:=zf8.1 hb;refine⟨fun hi=>hi.2.2.1 p.1 ?_,(hs.own p.1 b ho).2⟩;unfold Owns at ho ⊢;rw[zqg,if_neg (c0 p.1 (yae.2 ⟨p,hp,rfl⟩))];exact ho
     have run:(execOp a.eval o).run P w=.ok (.enter g vs.toArray) w:=by
      have e:(c.args.map a.eval)++us.toArray=vs.toArray:=by
       rw[<- j3];apply Array.ext';simp
      simp[execOp,hop,resolve,hcal,k0,Deferred.ofValue,invoke,d5,<- e]
     unfold Oper.wp;rw[run,Oper.upon_enter];refine d7.mono ?_;rintro e w' ⟨v,F',rfl,f6,d9,m4,g9⟩;show K' (a.put o.dst v) w';rw[e0];rw[fillX_vs,k4]at d9;obtain⟨j5,F1,F2,r1,r2,r3,r4⟩:=d9;obtain⟨r5,r6⟩:=zzb r3;have l7:=zze (σ:=σ') (ρ:=ρ) (bs:=bs) (gs:=gs) fun p hp=>c0 p.1 (yae.2 ⟨p,hp,rfl⟩);rw[<- l7]at f6 g9 r2 r5
     have h5:∀p∈(zcb σ (zhp tp d) 0 l).2++ss',(app σ' (fwr bs)).gn p.1=σ.gn p.1∧(app σ' (fwr bs)).ig p.1=σ.ig p.1:=fun p hp=>by
      obtain⟨h5,h6⟩:=zr9 hp;rw[zt6,fwr_ig];exact⟨zem (d8 _ h5),zne (d8 _ h6)⟩
     obtain⟨ρ',g1,g2,g3,g4⟩:=zr3 (hs.kills bs).1 gs c7 f6 (fun b hb=>hb) ⟨j5,F1,F2,r1,r2,r5,r4⟩ m4 g9 c9 rfl e9 l8 g7 i5 h5;have b8:=zth c9;have h7:(bl.map (·.1)).Nodup:=by rw[b8];exact e9
     -- the state with j6 j2
     generalize i6:fwr bs++(fwr gs++(zdi σ ((zcb σ (zhp tp d) 0 l).2++ss')++bxWr bl))=wr;generalize l3:hlY own d (bxG own d 0 (c.args.toList.map (evA σ)++caps)) ys=hl at r6
     have hσ1:app (app (app (app σ' (fwr bs)) (fwr gs)) (zdi σ ((zcb σ (zhp tp d) 0 l).2++ss'))) (bxWr bl)=app σ' wr:=by
      rw[<- i6,za2,za2,za2]
     have e8:∀b∈bxN bl,∃t m,σ'.kd b=.box t m∧(app σ' wr).kd b=.box t m∧∀al,(b,LK.box t al)∈bl->al.length=m:=fun b hb=>by
      obtain⟨t,al,hm⟩:=bxN_mem hb;have e1:=zoc b6 hm;have m3:b∈gs.map (·.1):=(bxG_sub c8).subset (by rw[<- b8];exact yae.2 ⟨_,hm,rfl⟩);obtain⟨p,hp,rfl⟩:=yae.1 m3;refine⟨t,al.length,?_,?_,fun m6 l5=>?_⟩
      ·rw[(b0.mem (yao _ hp)).2.1,e1]
      ·rw[<- hσ1];exact bxWr_kd h7 hm
      ·have:=zoc b6 l5;rw[e1]at this;injection this with _ this
       exact this.symm
     rw[hσ1]at g1 g2 g3;have b7:=keepW_at (bxN bl) hl;have m5:∀t,(app σ' (keepW (bxN bl) hl wr)).av t=(app σ' wr).av t:=fun t=>by unfold St.av;rw[b7,if_pos (show keepL (bxN bl) hl (.tmp t)=true from rfl)]
     have j0:(app σ' (keepW (bxN bl) hl wr)).gn=(app σ' wr).gn:=funext fun t=>by unfold St.gn;rw[b7,if_pos (show keepL (bxN bl) hl (.gen t)=true from rfl)]
     have k7:∀t,(app σ' (keepW (bxN bl) hl wr)).ig t=(app σ' wr).ig t:=fun t=>by unfold St.ig;rw[b7,if_pos (show keepL (bxN bl) hl (.ign t)=true from rfl)]
     have g5:(app σ' (keepW (bxN bl) hl wr)).kd=(app σ' wr).kd:=funext fun t=>by
      by_cases ht:t∈bxN bl
      ·obtain⟨t1,m,e1,e2,_⟩:=e8 t ht;rw[e2,<- e1];unfold St.kd;rw[b7,if_neg (by show ¬(!memB t (bxN bl))=true;rw[memB_iff.2 ht];simp)]
      ·unfold St.kd
       rw[b7,if_pos (by
        show(!memB t (bxN bl))=true
        cases hb:memB t (bxN bl) with
        |false=>rfl
        |true=>exact absurd (memB_iff.1 hb) ht)]
     have h9:∀b j,(b,j)∉hl->(app σ' (keepW (bxN bl) hl wr)).ce b j=(app σ' wr).ce b j:=fun b j hn=>by
      unfold St.ce
      rw[b7,if_pos (by
       show(!memC b j hl)=true
       cases hb:memC b j hl with
       |false=>rfl
       |true=>exact absurd (memC_iff.1 hb) hn)]
     have i8:∀b j,(b,j)∈hl->(app σ' (keepW (bxN bl) hl wr)).ce b j=σ'.ce b j:=fun b j hm=>by
      unfold St.ce;rw[b7,if_neg (by show ¬(!memC b j hl)=true;rw[memC_iff.2 hm];simp)]
     have b9:∀o b,Owns (app σ' (keepW (bxN bl) hl wr)) ρ' o b↔Owns (app σ' wr) ρ' o b:=fun o b=>by unfold Owns;rw[g5]
     have l0:∀p∈hl,p.1∈bxN bl:=fun p hp=>by
      obtain⟨k,i,t,cs,q,d6,a1,a2,_⟩:=r6 p hp;obtain⟨al,a3,_⟩:=zu7 c9 a1 a2;exact bxN_of (zkH a3)
     obtain⟨s1,s2,s3,_⟩:=g1.stepZ (σ':=app σ' (keepW (bxN bl) hl wr)) (ρ':=ρ') (w':=w') (fun o=>o∈bxN bl) B.Z m5
      (fun o hd=>⟨by rw[g5],by rw[j0],fun i=>h9 o i fun hm=>hd (l0 _ hm),rfl,rfl,rfl⟩) (fun o _=>⟨⟨by rw[j0];exact yam _,fun _=>rfl⟩,yam _,fun _=>rfl⟩)
      (fun o=>by rw[k7];exact g1.igs o) (Belo.refl _ _ _) (fun o b hd ho=>.inr (.inr ⟨o,hd,(b9 o b).1 ho⟩)) (fun o p b _ _ h1 h2=>g1.dis o p b ((b9 o b).1 h1) ((b9 p b).1 h2))
      (fun b hb=>⟨(g1.res b hb).1.2,.inr (.inl hb),fun o _ ho=>(g1.res b hb).2 o ((b9 o b).1 ho)⟩) fun hI hA o hd=>by
       obtain⟨t,m,k1,k2,k3⟩:=e8 o hd;rw[g5,k2];have ho:=g1.obs o;rw[k2]at ho;obtain⟨q,d6,b1,b2,b3,b4,b5⟩:=ho;refine⟨q,d6,b1,b2,b3,b4,fun j u hu=>?_⟩;by_cases hm:(o,j)∈hl
       ·rw[i8 o j hm];obtain⟨k,i,t',cs,q',us'',a1,a2,a3,a4,a5,a6⟩:=r6 (o,j) hm;obtain⟨al,c1,c2⟩:=zu7 c9 a1 a2
        -- the box's place
        have e1:=g4 k o _ (by rw[yan,c1];rfl) a4;rw[b1]at e1;injection e1 with e1
        injection e1 with e1
        injection e1 with e1
        subst e1;rw[b2]at a5;injection a5 with a5
        injection a5 with a5 a7 a8
        have:d6=us'':=by simpa using a5
        subst this;have a6:d6[j]?=some (V i j):=a6;rw[hu]at a6;injection a6 with a6
        -- what it held before
        have j7:(o,i)∈bxG own d 0 (c.args.toList.map (evA σ)++caps):=zkH a1;have l6:objG σ' o=none:=by unfold objG;rw[k1]
        obtain⟨k',g',d1,d2,d3⟩:=argsG_box f8 j7 l6;rw[yah]at d1;subst d1
        obtain⟨v0,h8⟩:∃v0,vs[i]?=some v0:=by
         have m7:=(zkI.1 d2).1;have:=a9.1;exact⟨_,zkM (by omega)⟩
        have hg':=d4 (o,g') (yao _ d3);obtain⟨q0,f9,e1,e2,e3,e4,e5,e6,e7⟩:=zkb hs (a9.2 i v0 _ h8 d2) hg' k1
        have hj:j<m:=by
         have h1:=k3 al (by
          have:=zkH c1
          have h2:=zoc b6 this
          have h3:=(b0.mem (p:=(o,g')) (yao _ d3)).2.1
          rw[k1]at h3
          rw[h2]at h3
          injection h3 with h3 _
          subst h3
          exact this)
         have a3:j<cs.length:=a3;omega
        have hV:f9[j]?=some (V i j):=by
         show _=some (cellV w (vs.getD i undef) j);rw[ybo,h8];show _=some (cellV w v0 j);rw[e1];unfold cellV;simp only[e3];rw[ybo];have:j<f9.length:=by omega
         rw[zkM this];rfl
        have hk:=(hs.kills bs).1.obs o;rw[zqg,if_neg (c0 o (yae.2 ⟨_,d3,rfl⟩)),k1]at hk;obtain⟨q1,us1,f1,f2,f3,f4,f5⟩:=hk;rw[e2]at f1;injection f1 with f1
        injection f1 with f1
        injection f1 with f1
        subst f1;rw[e3]at f2;injection f2 with f2
        injection f2 with f2 _ _
        have:f9=us1:=by simpa using f2
        subst this;have j1:=f5 j _ hV;rw[fwr_ce]at j1;rw[a6];exact hA _ _ (g3 _ _ j1)
       ·rw[h9 o j hm];exact hA _ _ (b5 j u hu)
     refine hK _ _ ⟨ρ',?_⟩;show SatR B (app σ' (keepW (bxN bl) (hlY own d (bxG own d 0 (c.args.toList.map (evA σ)++caps)) ys) (fwr bs++(fwr gs++(zdi σ ((zcb σ (zhp tp d) 0 l).2++ss')++bxWr bl)))++[(.tmp d,.av va)])) _ _ _;rw[i6,l3,za2];exact s1.put (d:=some d) j4 (s3 _ _ g2)
    ·exact h.elim
   ·exact h.elim
  ·exact h.elim
 ·exact h.elim
end
end
section
open Go.RowKit Go.ChangeMaps
theorem ba_eq{a b:ByteArray}(h:(a==b)=true):a=b:=by
 have h:ByteArray.beq a b=true:=h;unfold ByteArray.beq at h;cases a;cases b;simp at h;rw[h]
theorem ba_rfl(a:ByteArray):(a==a)=true:=by
 show ByteArray.beq a a=true;unfold ByteArray.beq;simp
section
variable {P:Program}{B:Base}{o:Oper}{σ:St}{K:Fx->Prop}
theorem aNilCheck_ok{x:Operand}(hop:o.op=.nilCheck x)(hd:zct B.n o=true)(h:zv1 o σ K x):∃fx,K fx∧Eff P B o fx.rd σ fx.wr:=by
 unfold zv1 at h;split at h
 ·rename_i b g i hx;obtain⟨hg,h⟩:=h.out;refine⟨_,h,Eff.pure hd fun σ' hag a w ρ hs=>?_⟩;have h1:=za0 hs x;rw[zas (zay hag),hx]at h1;have hg':=(zem (za6 hag (.gen b) (by simp))).trans hg;generalize hv:a.eval x=v at h1;have h2:=h1;cases h1 with
  |own _ _ _ _ a2 hgg hh =>
   obtain⟨q,e1,e2⟩:=hh hg';refine⟨v,?_,h2⟩;subst e2;simp[execOp,hop,hv]
 ·rename_i cs hx;refine⟨_,h,Eff.pure hd fun σ' hag a w ρ hs=>?_⟩;have h1:=za0 hs x;rw[zas hag,hx]at h1;have h2:=h1;have h1:=h1.im_inv;generalize hv:a.eval x=v at h1 h2;refine⟨v,?_,h2⟩;cases h1 with
  |ref b q us _ _ _ _ _ _=>simp[execOp,hop,hv]
 ·rename_i f cs hx;refine⟨_,h,Eff.pure hd fun σ' hag a w ρ hs=>?_⟩;have h1:=za0 hs x;rw[zas hag,hx]at h1;have h2:=h1;have h1:=h1.im_inv;generalize hv:a.eval x=v at h1 h2;refine⟨v,?_,h2⟩;cases h1 with
  |fn _ us _ _ _=>simp[execOp,hop,hv]
 ·rename_i f cs hx;refine⟨_,h,Eff.pure hd fun σ' hag a w ρ hs=>?_⟩;have h1:=za0 hs x;rw[zas hag,hx]at h1;have h2:=h1;generalize hv:a.eval x=v at h1 h2;refine⟨v,?_,h2⟩;cases h1 with
  |fn _ us _ _ _=>simp[execOp,hop,hv]
 ·exact h.elim
theorem zgt{α:Type}(z:List α):∀(l j:Nat),(List.replicate l z).flatten[j]?=if j<l*z.length then z[j%z.length]? else none
 |0,j=>by simp
 |l+1,j=>by
  rw[List.replicate_succ,ybm,yay,zgt z l];by_cases h:j<z.length
  ·rw[if_pos h,if_pos (by rw[Nat.add_mul];omega),Nat.mod_eq_of_lt h]
  ·have e:j%z.length=(j-z.length)%z.length:=Nat.mod_eq_sub_mod (by omega);rw[if_neg h,e];by_cases h2:j-z.length<l*z.length
   ·rw[if_pos h2,if_pos (by rw[Nat.add_mul];omega)]
   ·rw[if_neg h2,if_neg (by rw[Nat.add_mul];omega)]
theorem made_take(z:Array Value)(l c:Nat)(h:l<=c)(hz:0<z.size):(madeCells z (c*z.size)).toList.take (l*z.size)=(List.replicate l z.toList).flatten:=by
 apply yc5;intro j;rw[zgt,ya7];have hm:l*z.size<=c*z.size:=ybz _ h;simp only[yck];by_cases hj:j<l*z.size
 ·rw[if_pos hj,if_pos hj];have a2:j%z.size<z.size:=yez _ hz;unfold madeCells;rw[yco,yan,Array.toList_range,ybu (by omega)];simp only[yav];rw[getElem!_pos z (j%z.size) a2,yaz,yc2 a2]
 ·rw[if_neg hj,if_neg hj]
theorem cap_bytes{c by_:Nat}(h:za3 c by_):(by_:Int)*(c:Int)<=281474976710656:=by
 have h1:=h.1;have:((by_*c:Nat):Int)<=281474976710656:=by rw[yea];omega
 rwa [yfb]at this
theorem mkZ_rep{w:World}{S:Nat->Prop}(own:List Nat)(d:Nat)(v:Value):RepI w S v (mkZ own d v):=by
 unfold mkZ;split
 ·exact .val v
 ·exact zo2 (.val v)
theorem aMakeSlice_ok{own:List Nat}{t:TypeId}{len cap:Operand}(hop:o.op=.makeSlice t len cap)(hd:zct B.n o=true)(h:ztc P own o σ K t len cap):∃fx,K fx∧Eff P B o fx.rd σ fx.wr:=by
 unfold ztc at h;split at h
 ·rename_i d et a3 d9;have b8:=zeq d9;split at h
  ·rename_i l c k z by_ hl hc hk hz e0;obtain⟨a5,h⟩:=h.ok;simp only[ya0]at a5;have d5:=zez a5.1.1;obtain⟨i,zv,hi,c0,b5,a9,c7⟩:=zkc a5.1.2 hk e0
   have c9:zv.cells.toList=z:=by
    unfold zeroOf at hz;simp only[hi,c0,yav,zkF]at hz;exact hz
   have d4:∀u∈z,u.oneCell'=true:=fun u hu=>ybb.1 a5.2 u hu;have a2:z.length=k:=by rw[<- c9];simpa using c7
   obtain⟨⟨h0,d7,b0⟩,h⟩:=h.out;have e7:(c.toNat:Int)=c:=Int.toNat_of_nonneg (by omega);have b6:l.toNat<=c.toNat:=by omega
   have d6:c.toNat<=17592186044416:=b0.2
   have za4:∀σ' a w ρ,SatR B σ' a w ρ->(∀y∈opd len++opd cap,σ' y=σ y)->(execOp a.eval o).run P w=.ok (.value (.slice (some ⟨w.heap.size,0,none⟩) l.toNat c.toNat)) (w.alloc (.cells (madeCells zv.cells (c.toNat*k)) et)):=fun σ' a w ρ hs hag=>by
    have h1:=za0 hs len;rw[zas (zay hag)]at h1;have h2:=za0 hs cap;rw[zas (za6 hag)]at h2;have hb:=cap_bytes b0;rw[<- a9,e7]at hb;have hr:=run_make (P:=P) w t et i zv b8 hi c0 .i64 .i64 l c h0 d7 hb (by omega);rw[b5]at hr;simp[execOp,hop,zcg hl h1,zcg hc h2,hr]
   have a7:∀w:World,(w.alloc (.cells (madeCells zv.cells (c.toNat*k)) et)).ownsRow 0 et k (.slice (some ⟨w.heap.size,0,none⟩) l.toNat c.toNat) l.toNat (List.replicate l.toNat z).flatten:=fun w=>by
    refine⟨?_,.inr ⟨w.heap.size,c.toNat,_,rfl,yag _,heap_alloc_new w _,b6,by unfold maxLen;omega,size_madeCells _ _,?_⟩⟩
    ·rw[zbi (k:=k) (fun x hx=>by rw[ybt hx];exact a2),ybs]
    ·rw[<- c9,<- c7];exact made_take zv.cells _ _ b6 (by omega)
   have a8:∀u∈(List.replicate l.toNat z).flatten,u.oneCell'=true:=fun u hu=>by
    obtain⟨x,hx,b9⟩:=ycz.1 hu;rw[ybt hx]at b9;exact d4 u b9
   have m:∀(σ':St) (w:World) (ρ:Ly),zw5 σ' w (w.alloc (.cells (madeCells zv.cells (c.toNat*k)) et)) ρ none (.slice (some ⟨w.heap.size,0,none⟩) l.toNat c.toNat) none:=fun σ' w ρ =>
    ⟨World.grownBy_alloc w _ none,(fun b e=>by cases e),fun b e=>.inr (by simp only[zbg,zkF]at e;omega)⟩
   split at h
   ·split at h
    ·rename_i e' e8;split at h
     ·rename_i k' e9;obtain⟨a4,h⟩:=h.ok;simp only[ya0]at a4;have d2:k=1:=by simpa using a4.1.1
      have c8:=zez a4.2
      have b7:z=[.slice none 0 0]:=by
       have:=a4.1.2;split at this
       ·rfl
       ·cases this
      have h:=h.out;refine⟨_,h,fun σ' hag a w ⟨ρ,hs⟩ K' Q hK=>?_⟩;unfold Oper.wp;rw[za4 σ' a w ρ hs (zay hag),Oper.upon_value,a3];have hg:σ'.gn d=σ.gn d:=zem (za6 hag (.gen d) (by simp));have d1:σ'.ig d=σ.ig d:=zne (za6 hag (.ign d) (by simp));obtain⟨e1,e2,e3,e4,e5⟩:=mkK_eqs σ' σ d (.grid et e' k' (List.replicate l.toNat [IV.sl []]) none)
      let v:Value:=.slice (some ⟨w.heap.size,0,none⟩) l.toNat c.toNat
      let σ2:=app σ' (zhj σ d (.grid et e' k' (List.replicate l.toNat [IV.sl []]) none))
      let ρ2:Ly:=setK ρ σ2 d v (List.replicate l.toNat (.slice none 0 0)) (.grid et e' k' (List.replicate l.toNat [IV.sl []]) none)
      have d0:fpv v (List.replicate l.toNat (.slice none 0 0))=[w.heap.size]:=by
       unfold fpv;simp only[yci,v,zbg];congr 1;exact List.filterMap_eq_nil_iff.2 fun x hx=>by rw[ybt hx];rfl
      have c6:∀b,Owns σ2 ρ2 d b->b=w.heap.size:=fun b hb=>by
       unfold Owns at hb;rw[e1,if_pos rfl]at hb;simp only[ρ2,setK,if_pos]at hb;have hb:b∈fpv v (List.replicate l.toNat (.slice none 0 0)):=hb;rw[d0]at hb;simpa using hb
      have a6:=World.grownBy_alloc w (.cells (madeCells zv.cells (c.toNat*k)) et) none
      obtain⟨b2,_,_⟩:=hs.step (σ':=σ2) (ρ':=ρ2) (w':=w.alloc (.cells (madeCells zv.cells (c.toNat*k)) et)) (fun o=>o=d) e4
       (fun o hd=>⟨by show σ2.kd o=_;rw[e1,if_neg hd],by show σ2.gn o=_;rw[e2,if_neg hd],fun i=>e5 o i,by simp[ρ2,setK,hd],by simp[ρ2,setK,hd],by show σ2.ig o=_;rw[e3,if_neg (fun e=>hd e.1)];exact(hs.igs o).symm⟩)
       (fun o hd=>by
        subst hd
        refine⟨⟨by rw[e2,if_pos rfl,hg];omega,fun e=>by rw[e2,if_pos rfl,hg]at e;omega⟩,?_,fun e=>?_⟩
        ·show _<=σ2.ig o
         rw[e3,hs.igs,d1,if_pos ⟨rfl,rfl⟩];omega
        ·have e:σ2.ig o=ρ.ig o:=e
         rw[e3,hs.igs,d1,if_pos ⟨rfl,rfl⟩]at e;omega)
       (fun o=>rfl) ⟨a6.os,a6.tape,a6.output,a6.size,fun b hb _=>a6.block b hb (by simp)⟩ (fun o b hd ho=>by subst hd;rw[c6 b ho];exact .inl (yam _)) (fun o p b hd hp _ _=>hd.trans hp.symm) fun hI hA o hd=>by
        subst hd;rw[e1,if_pos rfl];show zlr _ _ (ρ2 o) (ρ2.inn o) _ _ _ _ _;simp only[ρ2,setK,if_pos];refine⟨by show(fpv v (List.replicate l.toNat (.slice none 0 0))).Nodup;rw[d0];simp,by simp[innK],(List.replicate l.toNat z).flatten,by simp;omega,?_,a8,fun i u hu=>.inr ⟨?_,[],?_,?_⟩⟩
        ·have:=a7 w;rw[d2]at this;rw[ybs];rw[d2];exact this
        ·have hu:(List.replicate l.toNat (.slice none 0 0))[i]?=some u:=hu;rw[zgt,b7];rw[ydn]at hu;split at hu
         ·rename_i b3;injection hu with hu
          subst hu;simp[b3,Nat.mod_one]
         ·cases hu
        ·have hu:(List.replicate l.toNat (Value.slice none 0 0))[i]?=some u:=hu;rw[ydn]at hu ⊢;split at hu
         ·rename_i b3;rw[if_pos b3]
         ·cases hu
        ·have hu:(List.replicate l.toNat (Value.slice none 0 0))[i]?=some u:=hu;rw[ydn]at hu;split at hu
         ·injection hu with hu
          subst hu;exact⟨[],c8,by simp,by simp,World.ownsRow_nil _ _ _ _,rfl,by simp,by simp⟩
         ·cases hu
      refine hK _ _ ⟨ρ2,?_⟩;rw[za2];refine b2.put (d:=some d) (fun t e=>by injection e with e;subst e;exact zdl hd a3) (.osl _ _ _ rfl ?_ fun _=>?_)
      ·show _<=σ2.gn d;rw[e2,if_pos rfl];exact yam _
      ·simp[ρ2,setK,v]
     ·exact h.elim
    ·exact h.elim
   ·split at h
    ·have h:=h.out;refine⟨_,h,fun σ' hag a w ⟨ρ,hs⟩ K' Q hK=>?_⟩;unfold Oper.wp;rw[za4 σ' a w ρ hs hag,Oper.upon_value,a3];have d3:Below w.heap.size w (w.alloc (.cells (madeCells zv.cells (c.toNat*k)) et)):=(Below.refl _ _).alloc (yam _) _;obtain⟨e6,hI⟩:=hs.world d3;refine hK _ _ ⟨ρ,?_⟩;show SatR B (app σ' [(.tmp d,.av (.im (.sl (List.replicate l.toNat (z.map fun v=>nz1 (.val v))))))]) _ _ _;refine e6.put (d:=some d) (fun t e=>by injection e with e;subst e;exact zdl hd a3) (.im _ _ ?_);refine .sl w.heap.size 0 c.toNat k l.toNat _ (List.replicate l.toNat z).flatten (by rw[ybs]) (fun x hx=>by rw[ybt hx,zkK,a2]) b6 (by omega) ⟨.inr (.inl hs.bel.size),by simp,fun p d8=>?_,fun hz=>?_⟩ ?_ a8 (fun i u hu=>?_) fun i u x hu hx=>?_
     ·have:=(hs.own p _ d8).2;omega
     ·have:=(hs.res _ hz).1.2;omega
     ·rw[zbi (k:=k) (fun x hx=>by rw[ybt hx];exact a2),zbi (k:=k) (fun x hx=>by rw[ybt hx,zkK,a2])];simp
     ·have:=(a7 w).cells (g:=w.heap.size) rfl i u hu;rw[addr_add,yah]at this;rw[yah];exact this
     ·rw[zgt]at hu hx;rw[zkK]at hx;split at hu
      ·rename_i b4;rw[if_pos b4,yan,hu]at hx;injection hx with hx
       subst hx;exact zo2 (.val u)
      ·cases hu
    ·have h:=h.out;refine⟨_,h,fun σ' hag a w ⟨ρ,hs⟩ K' Q hK=>?_⟩;unfold Oper.wp;rw[za4 σ' a w ρ hs (zay hag),Oper.upon_value,a3];refine hK _ _ ⟨setρ ρ d (.slice (some ⟨w.heap.size,0,none⟩) l.toNat c.toNat),?_⟩;have hg:σ'.gn d=σ.gn d:=zem (za6 hag (.gen d) (by simp))
     have b2:=hs.new (d:=d) (k:=.row et k (List.replicate l.toNat (z.map fun v=>mkZ own d v))) (cs:=[]) (m σ' w ρ) rfl fun hI _=>by
      refine⟨(List.replicate l.toNat z).flatten,d5,fun x hx=>by rw[ybt hx,zkK,a2],by rw[ybs];omega,?_,?_,a8,fun i u x hu hx=>?_⟩
      ·simp only[setρ,if_pos,ybs];exact a7 w
      ·rw[zbi (k:=k) (fun x hx=>by rw[ybt hx];exact a2),zbi (k:=k) (fun x hx=>by rw[ybt hx,zkK,a2])];simp
      ·rw[zgt]at hu hx;rw[zkK]at hx;split at hu
       ·rename_i b4;rw[if_pos b4,yan,hu]at hx;injection hx with hx
        subst hx;exact mkZ_rep own d u
       ·cases hu
     have:=zrc (σ:=σ) (σ':=σ') (k:=.row et k (List.replicate l.toNat (z.map fun v=>mkZ own d v))) (cs:=[]) (v:=.osl d (σ.gn d+1)) hg;simp only[zg9,ybd]at this;show SatR B (app σ' (zep σ d (.row et k (List.replicate l.toNat (z.map fun v=>mkZ own d v)))++[(.tmp d,.av (.osl d (σ.gn d+1)))])) _ _ _;rw[this,<- hg];exact zmg b2 rfl (zdl hd a3)
  ·exact h.elim
 ·exact h.elim
theorem aMakeMap_ok{t:TypeId}{r:Option Operand}(hop:o.op=.makeMap t r)(hd:zct B.n o=true)(h:aMakeMap o σ K t r):∃fx,K fx∧Eff P B o fx.rd σ fx.wr:=by
 unfold aMakeMap at h;split at h
 ·rename_i d a2;refine⟨_,h,fun σ' hag a w ⟨ρ,hs⟩ K' Q hK=>?_⟩;have hg:σ'.gn d=σ.gn d:=zem (hag (.gen d) (by simp))
  have run:(execOp a.eval o).run P w=.ok (.value (.map (some w.heap.size))) (w.alloc (.map #[] 0)):=by
   simp[execOp,hop,Instr.makeMap]
  unfold Oper.wp;rw[run,Oper.upon_value,a2]
  have m:zw5 σ' w (w.alloc (.map #[] 0)) ρ none (.map (some w.heap.size)) none :=
   ⟨World.grownBy_alloc w _ none,(fun b e=>by cases e),fun b e=>.inr (by simp only[zbg,zkF]at e;omega)⟩
  refine hK _ _ ⟨setρ ρ d (.map (some w.heap.size)),?_⟩;have a3:=hs.new (d:=d) (k:=.map []) (cs:=[]) m rfl fun hI _=>⟨w.heap.size,0,#[],by simp[setρ],heap_alloc_new w _,rfl,zwx.nil 0⟩;have:=zrc (σ:=σ) (σ':=σ') (k:=.map []) (cs:=[]) (v:=.osl d (σ.gn d+1)) hg;simp only[zg9,ybd]at this;rw[this,<- hg];exact zmg a3 rfl (zdl hd a2)
 ·exact h.elim
theorem zw9{w:World}{S:Nat->Prop}{ρ:Ly}{γ:Nat->Nat}{v:Value}{x:AV}{u:Value}(e:asVal x=some u)(h:RepA w S ρ γ v x):v=u:=by
 unfold asVal at e;split at e
 ·injection e with e
  subst e;have h:=h.im_inv;cases h;rfl
 ·cases e
theorem ztk{t k e:TypeId}(h:mapTy P t=some (k,e)):P.underlying t=some (.map k e):=by
 unfold mapTy at h;split at h
 ·rename_i k' e' hu;simp only[zkF,zkG]at h;rw[hu,h.1,h.2]
 ·cases h
theorem zwm{kt:TypeId}{D:TypeDesc}(h:keyD P kt=some D):P.underlying kt=some D∧((∃k,D=.int k)∨D=.string∨D=.bool):=by
 unfold keyD at h;split at h
 ·rename_i k hu;injection h with h;subst h;exact⟨hu,.inl ⟨k,rfl⟩⟩
 ·rename_i hu;injection h with h;subst h;exact⟨hu,.inr (.inl rfl)⟩
 ·rename_i hu;injection h with h;subst h;exact⟨hu,.inr (.inr rfl)⟩
 ·cases h
theorem zya{kt:TypeId}{D:TypeDesc}(h:keyD P kt=some D)(em:Bool)(v:Value)(w:World):(Instr.checkKey em 10000 kt v).run P w=.ok () w:=by
 obtain⟨hu,hD⟩:=zwm h;unfold Instr.checkKey;rw[Sem.run_bind,run_underlying hu];simp only[Result.andThen_ok];rcases hD with⟨k,rfl⟩|rfl|rfl<;>rfl
theorem zzj(D:TypeDesc)(k:Value):∀(es:List MapEntry) (i:Nat),(Instr.findNow D k es i).map (·.map (·.2))=findV D k (es.map fun e=>(e.key,e.val))
 |[],i=>rfl
 |e::es,i=>by
  unfold Instr.findNow;rw[yat];unfold findV;simp only;cases Instr.sameNow D k e.key with
  |none=>rfl
  |some b=>cases b with
   |true=>rfl
   |false=>exact zzj D k es (i+1)
theorem find_run{kt:TypeId}{D:TypeDesc}(h:keyD P kt=some D){k:Value}{es:List MapEntry}{r:Option (Nat×Value)}(hf:Instr.findNow D k es 0=some r)(w:World):(Instr.findKey kt k es).run P w=.ok r w:=by
 unfold Instr.findKey;rw[Sem.run_bind,run_underlying (zwm h).1];simp only[Result.andThen_ok,hf,Sem.run_pure]
theorem aLookup_ok{t:TypeId}{x i:Operand}{ok:Bool}(hop:o.op=.lookup t x i ok)(hd:zct B.n o=true)(h:aLookup P o σ K t x i ok):∃fx,K fx∧Eff P B o fx.rd σ fx.wr:=by
 unfold aLookup at h;split at h
 ·rename_i kt et b g kv b5 hx hi;have a5:=ztk b5;split at h
  ·rename_i l D z b0 a6 hz;obtain⟨hg,r,hr,h⟩:=h.out;have h:=h.out
   have a4:∀σ',(∀y∈opd x++opd i++[.gen b,.knd b],σ' y=σ y)->∀a w,Sat B σ' a w->(execOp a.eval o).run P w=.ok (.value (if ok=true then .tuple #[r.getD z,.bool r.isSome] else r.getD z)) w:=fun σ' hag a w ⟨ρ,hs⟩=>by
    obtain⟨ha,hg',b7,_⟩:=zds hag;have h1:=za0 hs x;have h2:=za0 hs i;rw[zas (zay ha),hx]at h1;rw[zas (za6 ha)]at h2;have b4:=zw9 hi h2;have ho:=hs.obs b;rw[b7.trans b0]at ho;obtain⟨q,a7,es,e1,e2,e3,b8⟩:=ho
    have a9:a.eval x=.map (some q):=by
     generalize a.eval x=v at h1;cases h1 with
     |osl _ _ _ _ _ hh=>rw[hh (hg'.trans hg),e1]
    have a2:=zzj D kv es.toList 0;rw[e3,hr]at a2
    obtain⟨r0,b6,a3⟩:∃r0,Instr.findNow D kv es.toList 0=some r0∧r0.map (·.2)=r:=by
     cases hc:Instr.findNow D kv es.toList 0 with
     |none=>rw[hc]at a2;cases a2
     |some r0=>rw[hc]at a2;simp only[yav,zkF]at a2;exact⟨r0,rfl,a2⟩
    have b2:∀w,(zeroValue et).run P w=.ok z w:=fun w=>by
     unfold zeroV at hz;split at hz
     ·rename_i it a8;simp[zeroValue,typeInfo,a8,hz]
     ·cases hz
    have b3:=MapKept.run_getObj_map (P:=P) e2;simp only[execOp,hop,a9,b4,Instr.lookup,Sem.run_bind,run_underlying a5,Result.andThen_ok,b3,Sem.run_pure,zya a6,find_run a6 b6];cases r0 with
    |none =>
     simp only[ydp]at a3;subst a3;cases ok<;>simp[b2]
    |some p =>
     simp only[yav]at a3;subst a3;cases ok<;>simp
   split at h
   ·have h:=h.out;refine⟨_,h,Eff.pure hd fun σ' hag a w ρ hs=>⟨_,a4 σ' hag a w ⟨ρ,hs⟩,?_⟩⟩;simp only[if_true]
    exact .tup [r.getD z,.bool r.isSome] _ rfl fun j u y hu hy=>by
     match j with
     |0=>simp at hu hy;rw[<- hu,<- hy];exact zc9 _
     |1=>simp at hu hy;rw[<- hu,<- hy];exact vB_rep _
     |j+2=>simp at hu
   ·refine⟨_,h,Eff.pure hd fun σ' hag a w ρ hs=>⟨_,a4 σ' hag a w ⟨ρ,hs⟩,?_⟩⟩;simp only[Bool.false_eq_true,if_false];exact zc9 _
  ·exact h.elim
 ·exact h.elim
theorem setV_eq(D:TypeDesc)(hD:(∃k,D=.int k)∨D=.string∨D=.bool)(k v:Value):∀(es:List MapEntry) (i:Nat) (l:List (Value×Value)),setV D k v (es.map fun e=>(e.key,e.val))=some l ->
  (Instr.findNow D k es i=some none∧l=(es.map fun e=>(e.key,e.val))++[(k,v)])∨∃j e,Instr.findNow D k es i=some (some (i+j,e.val))∧es[j]?=some e∧Instr.sameBits 10000 e.key k=true∧l=(es.set j { e with key:=k,val:=v }).map fun e=>(e.key,e.val)
 |[],i,l,h=>by
  simp only[ydb,setV,zkF]at h;exact .inl ⟨rfl,by rw[<- h];rfl⟩
 |e::es,i,l,h=>by
  rw[yat]at h;unfold setV at h;unfold Instr.findNow;simp only at h;cases hs:Instr.sameNow D k e.key with
  |none=>rw[hs]at h;cases h
  |some b =>
   rw[hs]at h;cases b with
   |true =>
    simp only[zkF]at h;refine .inr ⟨0,e,rfl,rfl,?_,by rw[<- h];rfl⟩;unfold Instr.sameNow at hs;split at hs
    ·rename_i k1 a k2 b hk;split at hs
     ·rename_i he;simp only[zkF]at hs;rw[hk];have hab:a=b:=by simpa using hs
      subst he hab;simp[Instr.sameBits]
     ·cases hs
    ·rename_i a b hk;simp only[zkF]at hs;rw[hk,ba_eq hs];exact ba_rfl _
    ·rename_i a b hk;simp only[zkF]at hs;have hab:a=b:=by simpa using hs
     rw[hk,hab];simp[Instr.sameBits]
    ·cases hs
   |false =>
    cases hr:setV D k v (es.map fun e=>(e.key,e.val)) with
    |none=>simp only[hr]at h;cases h
    |some l' =>
     simp only[hr,yav,zkF]at h;rcases setV_eq D hD k v es (i+1) l' hr with⟨h1,h2⟩|⟨j,e',h1,h2,h3,h4⟩
     ·exact .inl ⟨h1,by rw[<- h,h2];rfl⟩
     ·exact .inr ⟨j+1,e',by rw[h1,ybv,ycn 1 j],by simpa using h2,h3,by rw[<- h,h4];rfl⟩
theorem aMapUpdate_ok{t:TypeId}{x i y:Operand}(hop:o.op=.mapUpdate t x i y)(hd:zct B.n o=true)(h:zti P o σ K t x i y):∃fx,K fx∧Eff P B o fx.rd σ fx.wr:=by
 unfold zti at h;split at h
 ·rename_i kt et b g kv v c8 hx hi hy;have a6:=ztk c8;split at h
  ·rename_i l D a7 a5;obtain⟨hg,l',b9,h⟩:=h.out;refine⟨_,h,fun σ' hag a w ⟨ρ,hs⟩ K' Q hK=>?_⟩;obtain⟨ha,hg',a9,_⟩:=zds hag;have h1:=za0 hs x;have h2:=za0 hs i;have h3:=za0 hs y;rw[zas (zay (zay ha)),hx]at h1;rw[zas (za6 (zay ha))]at h2;rw[zas (za6 ha)]at h3;have b8:=zw9 hi h2;have hv:=zw9 hy h3;have ho:=hs.obs b;rw[a9.trans a7]at ho;obtain⟨q,a3,es,e1,e2,e3,b7⟩:=ho
   have b3:a.eval x=.map (some q):=by
    generalize a.eval x=u at h1;cases h1 with
    |osl _ _ _ _ _ hh=>rw[hh (hg'.trans hg),e1]
   rw[<- e3]at b9;have b4:=MapKept.run_getObj_map (P:=P) e2;have a8:live σ' b:=by unfold live;rw[a9.trans a7];exact fun z=>by cases z
   have c6:zbg (ρ b)=some q:=by rw[e1];rfl
   have b5:∀(a4:Array MapEntry) (a2:Nat),(a4.toList.map fun e=>(e.key,e.val))=l'->zwx a4 a2->(execOp a.eval o).run P w=.ok .skip (setBlock w q (.map a4 a2))->o.wp P a w K' Q:=fun a4 a2 c7 b2 b6=>by
    unfold Oper.wp;rw[b6,Oper.upon_skip];refine hK _ _ ⟨ρ,?_⟩
    have c0:=hs.turn (b:=b) (q:=q) (w':=setBlock w q (.map a4 a2)) (k':=.map l') a8 c6 ⟨rfl,rfl,rfl,by simp[setBlock],fun i _ hi=>heap_setBlock_other e2 _ (fun e=>hi (by rw[e]))⟩ (fun c hc=>by unfold Owns;rw[a9.trans a7];exact hc) fun hI =>
     ⟨q,a2,a4,e1,heap_setBlock_same e2 _,c7,b2⟩
    rw[zby];exact c0.put (zpb hd) (zc9 _)
   rcases setV_eq D (zwm a5).2 kv v es.toList 0 l' b9 with⟨f1,f2⟩|⟨j,e,f1,f2,f3,f4⟩
   ·refine b5 (es.push { key:=kv,val:=v,born:=a3 }) (a3+1) (by rw[f2];simp) (b7.push _ _) ?_;simp only[execOp,hop,b3,b8,hv,Instr.mapUpdate,Sem.run_bind,run_underlying a6,Result.andThen_ok,b4,Sem.run_pure,zya a5,find_run a5 f1,MapKept.run_setObj_map _ e2];rfl
   ·have hj:es[j]?=some e:=by rw[<- yaz];exact f2
    have b0:j<es.size:=(yca.1 hj).1;refine b5 (es.modify j fun e=>{ e with key:=kv,val:=v }) a3 ?_ (b7.modify _ _ fun _=>rfl) ?_
    ·rw[f4];congr 1;apply yc5;intro n;rw[yaz,ydy,ydv];by_cases hn:j=n
     ·subst hn;rw[if_pos rfl,if_pos rfl,if_pos (by simpa using b0),hj];rfl
     ·rw[if_neg hn,if_neg hn,yaz]
    ·rw[yah]at f1;simp only[execOp,hop,b3,b8,hv,Instr.mapUpdate,Sem.run_bind,run_underlying a6,Result.andThen_ok,b4,Sem.run_pure,zya a5,find_run a5 f1,MapKept.run_setObj_map _ e2,hj,Instr.keyThatStays,yav,ybq,f3,if_true];rfl
  ·exact h.elim
 ·exact h.elim
theorem aDelete_ok{c:Call}{t t':TypeId}{x i:Operand}(hop:o.op=.call c)(hc:c.callee=.builtin .delete)(ha:c.args.toList=[x,i])(ht:c.argTypes.toList=[t,t'])(hd:zct B.n o=true)(h:aDelete P o σ K t x i):∃fx,K fx∧Eff P B o fx.rd σ fx.wr:=False.elim h
end
end
section
section
variable {P:Program}{B:Base}{o:Oper}{σ:St}{K:Fx->Prop}
theorem zxi{a:Act}{w:World}{ρ:Ly}(hs:SatR B σ a w ρ){y:Operand}{n:Int}{k:IntKind}(hy:Sym.asInt (evA σ y)=some (k,n)){m:Nat}{c:BoundsCode}(h0:0<=n)(hm:n<=m):(Instr.sliceBound (a.eval y) m c).run P w=.ok n.toNat w:=by
 have h3:0<=n∧n<=m:=⟨h0,hm⟩;simp only[zcg hy (za0 hs y),Instr.sliceBound,asIntOf,Sem.run_bind,Sem.run_pure,Result.andThen_ok,if_pos h3]
theorem zvk{a:Act}{w:World}{ρ:Ly}(hs:SatR B σ a w ρ){b k:Nat}{t:TypeId}{es:List (List IV)}(hk:σ.kd b=.row t k es)(hn:0<es.length) :
  ∃(q cap:Nat) (cur:Array Value) (us:List Value),ρ b=.slice (some ⟨q,0,none⟩) es.length cap∧w.heap[q]?=some (.cells cur t (0,0))∧es.length<=cap∧cap<=maxLen∧cur.size=cap*k∧cur.toList.take (es.length*k)=us∧0<k∧(∀x∈es,x.length=k)∧es.length<=17592186044416∧us.length=es.flatten.length ∧
   (∀u∈us,u.oneCell'=true)∧∀(i:Nat) u x,us[i]?=some u->es.flatten[i]?=some x->RepI w (Imm B σ ρ w) u x:=by
 have ho:=hs.obs b;rw[hk]at ho;obtain⟨us,h1,h2,h3,h4,h5,h6,h7⟩:=ho;rcases h4.2 with⟨_,h0⟩|⟨q,cap,cur,e1,_,e3,e4,e5,e6,e7⟩
 ·omega
 ·exact⟨q,cap,cur,us,e1,e3,e4,e5,e6,e7,h1,h2,h3,h5,h6,h7⟩
theorem aSliceV_ok{t:TypeId}{x lo:Operand}{b g:Nat}(hop:o.op=.slice t x (some lo) none none)(hx:evA σ x=.osl b g)(hd:zct B.n o=true)(h:aSliceV P o σ K t x b g lo):∃fx,K fx∧Eff P B o fx.rd σ fx.wr:=by
 unfold aSliceV at h;split at h
 ·rename_i et kk l b3 k es b2 a8 a7;have hu:=zeq b2;split at h
  ·rename_i k' b0;obtain⟨a3,h'⟩:=h.ok;clear h;have a3:=yal a3;subst a3;obtain⟨⟨hg,h0,hl,hn⟩,h⟩:=h'.out;refine⟨_,h,Eff.pure hd fun σ' hag a w ρ hs=>?_⟩;obtain⟨a6,hg',a9,_⟩:=zds hag;have h1:=za0 hs x;rw[zas (zay a6),hx]at h1;have a5:Sym.asInt (evA σ' lo)=some (kk,l):=by rw[zas (za6 a6)];exact a8
   obtain⟨q,a4,cur,us,e1,e2,e3,_⟩:=zvk hs (a9.trans a7) hn;have hb:=fun c=>zxi (P:=P) (w:=w) hs a5 (m:=es.length) (c:=c) h0 (by omega);have hz:=zj6 b0 w;generalize hv:a.eval x=v at h1;cases h1 with
   |osl _ _ _ a2 hgg hh =>
    rw[hh (hg'.trans hg),e1]at hv;refine⟨.slice (if a4=l.toNat then some ⟨q,0,none⟩ else some ⟨q,l.toNat*k,none⟩) (es.length-l.toNat) (a4-l.toNat),?_,.osv _ b g l.toNat k (by rfl) hgg fun _=>⟨q,_,a4,e1,hl,rfl⟩⟩;simp only[execOp,hop,hv,Instr.sliceAt,Instr.slice,Sem.run_bind,Sem.run_pure,Result.andThen_ok,run_underlying hu,ydp,yav,hz];unfold Instr.sliceBounds;simp[hb,addr_add,hz]
  ·exact h.elim
 ·exact h.elim
theorem aSlice3_ok{t:TypeId}{x:Operand}{lo hi:Option Operand}{mx:Operand}(hop:o.op=.slice t x lo hi (some mx))(hd:zct B.n o=true)(h:aSlice3 P o σ K t x lo hi mx):∃fx,K fx∧Eff P B o fx.rd σ fx.wr:=False.elim h
theorem aLenV_ok{c:Call}{t:TypeId}{ts:List TypeId}{x:Operand}{b g k m:Nat}(hop:o.op=.call c)(hc:c.callee=.builtin .len)(ha:c.args.toList=[x])(ht:c.argTypes.toList=t::ts){e:TypeId}(he:zjy P t=some e)(hx:evA σ x=.osv b g k m)(hd:zct B.n o=true)(h:aLenV o σ K x b g k):∃fx,K fx∧Eff P B o fx.rd σ fx.wr:=by
 have a4:c.argTypes[0]?=some t:=by rw[<- yaz,ht];rfl
 have a5:∀a:Act,(c.args.map a.eval)[0]?=some (a.eval x):=fun a=>by rw[<- yaz,yco,ha];rfl
 have hu:=zeq he
 have run:∀(a:Act) w A n cp,a.eval x=.slice A n cp->(execOp a.eval o).run P w=.ok (.value (.int .i64 n)) w:=fun a w A n cp hv=>by
  simp only[execOp,hop,resolve,hc,invoke,builtin,Builtin.len_,a4,a5,Sem.run_bind,Sem.run_pure,Result.andThen_ok,run_underlying hu,hv,goInt]
 unfold aLenV at h;split at h
 ·rename_i t' kk es a6;obtain⟨hg,h⟩:=h.out;have h:=h.out;refine⟨_,h,Eff.pure hd fun σ' hag a w ρ hs=>?_⟩;obtain⟨a3,hg',a7,_⟩:=zds hag;have h1:=za0 hs x;rw[zas a3,hx]at h1;obtain⟨A,cp,hρ⟩:=zzp hs (a7.trans a6);generalize hv:a.eval x=v at h1;cases h1 with
  |osv _ _ _ _ _ a2 hgg hh =>
   obtain⟨q,n,c',e1,e2,e3⟩:=hh (hg'.trans hg);rw[hρ]at e1;injection e1 with _ e1 _
   subst e1;rw[e3]at hv;exact⟨_,run a w _ _ _ hv,zc9 _⟩
 ·exact h.elim
theorem aIndexV_ok{t:TypeId}{x i:Operand}{b g k m:Nat}(hop:o.op=.indexAddr t x i)(hx:evA σ x=.osv b g k m)(hd:zct B.n o=true)(h:aIndexV P o σ K t x i b g k m):∃fx,K fx∧Eff P B o fx.rd σ fx.wr:=by
 unfold aIndexV at h;split at h
 ·rename_i kk n et t' k' es hi a6 a5;have hu:=zeq a6;split at h
  ·rename_i m' hm;obtain⟨a3,h'⟩:=h.ok;clear h;have a3:=yal a3;subst a3;obtain⟨⟨h0,hg,a9⟩,h⟩:=h'.out;have h:=h.out;refine⟨_,h,Eff.pure hd fun σ' hag a w ρ hs=>?_⟩;obtain⟨a4,hg',a8,_⟩:=zds hag;have h1:=za0 hs x;have h2:=za0 hs i;rw[zas (zay a4),hx]at h1;rw[zas (za6 a4)]at h2;have hn:=zcg hi h2;obtain⟨q,a7,cur,us,e1,e2,e3,_⟩:=zvk hs (a8.trans a5) (by omega);generalize hv:a.eval x=v at h1;cases h1 with
   |osv _ _ _ _ _ a2 hgg hh =>
    obtain⟨q',n',c',f1,f2,f3⟩:=hh (hg'.trans hg);have b0:=f1;rw[e1]at f1;injection f1 with f1 f4 f5
    injection f1 with f1
    injection f1 with f1
    subst f1 f4 f5;rw[f3,if_neg (by omega)]at hv;have hz:=zj6 hm w;have h3:0<=n∧n<(es.length-k:Nat):=⟨h0,by omega⟩;refine⟨.pointer (some ⟨q,(k+n.toNat)*m,none⟩),?_,.elt _ b g m (k+n.toNat) 0 rfl hgg fun _=>⟨q,0,_,a7,e1,by rw[yb4,yah]⟩⟩;simp only[execOp,hop,hv,hn,Instr.indexAt,asIntOf,Sem.run_bind,Sem.run_pure,Result.andThen_ok,run_underlying hu,if_pos h3,hz,addr_add];rw[Nat.add_mul]
  ·exact h.elim
 ·exact h.elim
theorem aSliceT_ok{t:TypeId}{x hi:Operand}{b g:Nat}(hop:o.op=.slice t x none (some hi) none)(hx:evA σ x=.osl b g)(hd:zct B.n o=true)(h:aSliceT P o σ K t x b g hi):∃fx,K fx∧Eff P B o fx.rd σ fx.wr:=by
 unfold aSliceT at h;split at h
 ·rename_i et kk l a3 k es d b9 c7 b6 a5;have hu:=zeq b9;split at h
  ·rename_i k' c8;obtain⟨b0,h'⟩:=h.ok;clear h;have b0:=yal b0;subst b0;obtain⟨⟨hg,h0,hl,hn⟩,h⟩:=h'.out;have h:=h.out;refine⟨_,h,fun σ' hag a w ⟨ρ,hs⟩ K' Q hK=>?_⟩;obtain⟨b5,hg',b3,c9⟩:=zds hag;have h1:=za0 hs x;rw[zas (zay b5),hx]at h1;have b2:Sym.asInt (evA σ' hi)=some (kk,l):=by rw[zas (za6 b5)];exact c7
   obtain⟨q,cap,cur,us,e1,e2,e3,e4,e5,e6,e7,e8,e9,a2,a6,a7⟩:=zvk hs (b3.trans b6) hn;have hb:=fun c=>zxi (P:=P) (w:=w) hs b2 (m:=cap) (c:=c) h0 (by omega);have hz:=zj6 c8 w
   have hv:a.eval x=.slice (some ⟨q,0,none⟩) es.length cap:=by
    generalize a.eval x=v at h1;cases h1 with
    |osl _ _ _ a8 hgg hh=>rw[hh (hg'.trans hg),e1]
   have run:(execOp a.eval o).run P w=.ok (.value (.slice (some ⟨q,0,none⟩) l.toNat cap)) w:=by
    simp only[execOp,hop,hv,Instr.sliceAt,Instr.slice,Sem.run_bind,Sem.run_pure,Result.andThen_ok,run_underlying hu,ydp,yav,hz];unfold Instr.sliceBounds;have:¬cap=0:=by omega
    simp[hb,addr_add,hz,this]
   unfold Oper.wp;rw[run,Oper.upon_value,a5];refine hK _ _ ⟨setρ ρ b (.slice (some ⟨q,0,none⟩) l.toNat cap),?_⟩;have a4:Owns σ' ρ b q:=.root (zm5 (b3.trans b6)) (by rw[e1];rfl);have m:zw5 σ' w w ρ (some b) (.slice (some ⟨q,0,none⟩) l.toNat cap) (some q):=⟨World.grownBy.refl _ _,fun c hc=>by injection hc with hc;subst hc;exact⟨b,rfl,a4⟩,fun c hc=>.inl (by injection hc with hc;rw[<- hc])⟩;have a9:(es.take l.toNat).length=l.toNat:=by rw[yaf];omega
   have b7:(es.take l.toNat).flatten=es.flatten.take (l.toNat*k):=zrx e8;have d0:=zbi e8;have b4:l.toNat*k<=es.length*k:=ybz _ hl
   have c0:=hs.new (d:=b) (k:=.row a3 k (es.take l.toNat)) (cs:=[]) m rfl fun hI _=>by
    refine⟨us.take (l.toNat*k),e7,fun y hy=>e8 y (ya3 hy),by rw[a9];omega,?_,by rw[b7,yaf,yaf,a2],fun u hu=>a6 u (ya3 hu),fun i u y hu hy=>?_⟩
    ·rw[a9];refine⟨by rw[yaf];omega,.inr ⟨q,cap,cur,by simp[setρ],yag _,e2,by omega,e4,e5,?_⟩⟩;rw[<- e6,yc0,yc3 b4]
    ·rw[b7,ya7]at hy;rw[ya7]at hu;split at hu
     ·rename_i c6;rw[if_pos c6]at hy;exact hI _ _ (a7 i u y hu hy)
     ·cases hu
   have b8:app σ' ((.knd b,.kd .dead)::(zep σ b (.row a3 k (es.take l.toNat))++[(.tmp d,.av (.osl b (σ.gn b+1)))]))=app (zfj σ' (some b) b (.row a3 k (es.take l.toNat)) []) [(.tmp d,.av (.osl b (σ'.gn b+1)))]:=by
    rw[zby,za2];unfold zfj zep;rw[hg'];rfl
   show SatR B (app σ' ((.knd b,.kd .dead)::(zep σ b (.row a3 k (es.take l.toNat))++[(.tmp d,.av (.osl b (σ.gn b+1)))]))) _ _ _;rw[b8];exact zja c0 rfl (zdl hd a5)
  ·exact h.elim
 ·exact h.elim
theorem aSliceQ_ok{t:TypeId}{x lo:Operand}{b g:Nat}(hop:o.op=.slice t x (some lo) none none)(hx:evA σ x=.osl b g)(hd:zct B.n o=true)(h:aSliceQ P o σ K t x b g lo):∃fx,K fx∧Eff P B o fx.rd σ fx.wr:=by
 unfold aSliceQ at h;split at h
 ·rename_i et kk l a3 k es d c8 d1 a9 a4;have hu:=zeq c8;split at h
  ·rename_i k' d2;obtain⟨a5,h'⟩:=h.ok;clear h;have a5:=yal a5;subst a5;obtain⟨⟨hg,h0,hl⟩,h⟩:=h'.out;have h:=h.out;refine⟨_,h,fun σ' hag a w ⟨ρ,hs⟩ K' Q hK=>?_⟩;obtain⟨b2,hg',b0,d7⟩:=zds hag;have h1:=za0 hs x;rw[zas (zay b2),hx]at h1;have a6:Sym.asInt (evA σ' lo)=some (kk,l):=by rw[zas (za6 b2)];exact d1
   have ho:=hs.obs b;rw[b0.trans a9]at ho;have hQ:zn2 w (Imm B σ' ρ w) (ρ b) a3 k es:=ho;obtain⟨us,k0,hk,d4,a7,b8,d0,hv⟩:=hQ
   have a8:a.eval x=ρ b:=by
    generalize a.eval x=v at h1;cases h1 with
    |osl _ _ _ _ _ hh=>exact hh (hg'.trans hg)
   have hb:=fun c=>zxi (P:=P) (w:=w) hs a6 (m:=es.length) (c:=c) h0 (by omega);have hz:=zj6 d2 w
   have key:∃v',(execOp a.eval o).run P w=.ok (.value v') w∧(∀q,zbg v'=some q->zbg (ρ b)=some q)∧v'.oneCell'=true∧∀S',(∀u x,RepI w (Imm B σ' ρ w) u x->RepI w S' u x)->zn2 w S' v' a3 k (es.drop l.toNat):=by
    have b6:(es.drop l.toNat).flatten=es.flatten.drop (l.toNat*k):=zx4 hk;have d5:l.toNat*k<=es.length*k:=ybz _ hl;have d3:=zbi hk
    have mk:∀v',((v'=.slice none 0 0∧es.drop l.toNat=[])∨∃(q off a2:Nat) (cur:Array Value),v'=.slice (some ⟨q,off,none⟩) (es.drop l.toNat).length a2∧w.heap[q]?=some (.cells cur a3 (0,0))∧(es.drop l.toNat).length<=a2∧a2<=maxLen∧off+a2*k<=cur.size∧∀(j:Nat) u,(us.drop (l.toNat*k))[j]?=some u->cur[off+j]?=some u)->∀S',(∀u x,RepI w (Imm B σ' ρ w) u x->RepI w S' u x)->zn2 w S' v' a3 k (es.drop l.toNat):=fun v' c7 S' hI=>by
     refine⟨us.drop (l.toNat*k),k0,fun x hx=>hk x (ybg hx),by rw[ya8];omega,by rw[b6,ya8,ya8,a7],fun u hu=>b8 u (ybg hu),fun i u x hu hx=>?_,c7⟩;rw[b6,ybj]at hx;rw[ybj]at hu;exact hI _ _ (d0 _ u x hu hx)
    rcases hv with⟨e1,e2⟩|⟨q,off,a2,cur,e1,e2,e3,e4,e5,e6⟩
    ·have c0:l.toNat=0:=by rw[e2]at hl;simpa using hl
     refine⟨.slice none 0 0,?_,(fun q (hq:none=some q)=>nomatch hq),rfl,mk _ (.inl ⟨rfl,by rw[e2];simp⟩)⟩;have c9:es.length=0:=by rw[e2];rfl
     rw[c9]at hb;simp only[execOp,hop,a8,e1,Instr.sliceAt,Instr.slice,Sem.run_bind,Sem.run_pure,Result.andThen_ok,run_underlying hu,ydp,yav,hz];unfold Instr.sliceBounds;simp[hb,hz,c0]
    ·refine⟨.slice (if a2=l.toNat then some ⟨q,off,none⟩ else some ⟨q,off+l.toNat*k,none⟩) (es.length-l.toNat) (a2-l.toNat),?_,fun p hp=>?_,by rfl,mk _ (.inr ?_)⟩
     ·simp only[execOp,hop,a8,e1,Instr.sliceAt,Instr.slice,Sem.run_bind,Sem.run_pure,Result.andThen_ok,run_underlying hu,ydp,yav,hz];unfold Instr.sliceBounds;simp[hb,addr_add,hz]
     ·rw[e1];split at hp<;>exact hp
     ·by_cases hc:a2=l.toNat
      ·rw[if_pos hc];refine⟨q,off,a2-l.toNat,cur,by rw[ya8],e2,by rw[ya8];omega,by omega,by rw[hc,yd0,ydz];omega,fun j u hu=>?_⟩
       have:(us.drop (l.toNat*k)).length=0:=by
        have:es.length=l.toNat:=by omega
        rw[ya8,a7,d3,this];omega
       rw[yaq this]at hu;cases hu
      ·rw[if_neg hc];have d6:l.toNat*k+(a2-l.toNat)*k=a2*k:=by rw[<- Nat.add_mul];congr 1;omega
       refine⟨q,off+l.toNat*k,a2-l.toNat,cur,by rw[ya8],e2,by rw[ya8];omega,by omega,by omega,fun j u hu=>?_⟩;rw[ybj]at hu;rw[ybv];exact e6 _ u hu
   obtain⟨v',b3,b4,b5,c6⟩:=key;unfold Oper.wp;rw[b3,Oper.upon_value,a4];refine hK _ _ ⟨setρ ρ b v',?_⟩;have b9:=hs.qued (w':=w) (used:=some b) (row:=zbg (ρ b)) (d:=b) (v':=v') (e:=a3) (k:=k) (es:=es.drop l.toNat) (fun q hq=>⟨b,rfl,.root (live_que (b0.trans a9)) hq⟩) (World.grownBy.refl _ _) (fun q hq=>.inl (b4 q hq)) c6
   have b7:app σ' ((.knd b,.kd .dead)::(zep σ b (.que a3 k (es.drop l.toNat))++[(.tmp d,.av (.osl b (σ.gn b+1)))]))=app (zfj σ' (some b) b (.que a3 k (es.drop l.toNat)) []) [(.tmp d,.av (.osl b (σ'.gn b+1)))]:=by
    rw[zby,za2];unfold zfj zep;rw[hg'];rfl
   show SatR B (app σ' ((.knd b,.kd .dead)::(zep σ b (.que a3 k (es.drop l.toNat))++[(.tmp d,.av (.osl b (σ.gn b+1)))]))) _ _ _;rw[b7];exact zja b9 b5 (zdl hd a4)
  ·exact h.elim
 ·exact h.elim
theorem aClear_ok{c:Call}{t:TypeId}{ts:List TypeId}{x:Operand}(hop:o.op=.call c)(hc:c.callee=.builtin .clear)(ha:c.args.toList=[x])(ht:c.argTypes.toList=t::ts)(hd:zct B.n o=true)(h:aClear P o σ K t x):∃fx,K fx∧Eff P B o fx.rd σ fx.wr:=by
 have b6:c.argTypes[0]?=some t:=by rw[<- yaz,ht];rfl
 have b7:∀a:Act,(c.args.map a.eval)[0]?=some (a.eval x):=fun a=>by rw[<- yaz,yco,ha];rfl
 unfold aClear at h;split at h
 ·rename_i et b g k m d3 hx;have hu:=zeq d3;split at h
  ·rename_i b2 k' es m' z d6 d8 hz;obtain⟨b3,h'⟩:=h.ok;clear h;simp only[ya0]at b3;obtain⟨⟨⟨⟨c1,c2⟩,c3⟩,c4⟩,c5⟩:=b3;have c1:=yal c1;have c2:=yal c2;have c4:=yal c4;subst c1 c2;have c3:=zez c3;obtain⟨⟨hg,f6⟩,h⟩:=h'.out;have h:=h.out;refine⟨_,h,fun σ' hag a w ⟨ρ,hs⟩ K' Q hK=>?_⟩;obtain⟨d4,hg',d2,_⟩:=zds hag;have h1:=za0 hs x;rw[zas d4,hx]at h1;have a4:=d2.trans d6;by_cases hn:k=es.length
   ·-- nothing to clear
    have e0:es.take k++List.replicate (es.length-k) (z.map fun v=>nz1 (.val v))=es:=by rw[hn];simp
    obtain⟨A,cp,hρ⟩:=zzp hs a4
    have run:(execOp a.eval o).run P w=.ok (.value (.tuple #[])) w:=by
     generalize hv:a.eval x=v at h1;cases h1 with
     |osv _ _ _ _ _ a6 hgg hh =>
      obtain⟨q,n,c',f1,f2,f3⟩:=hh (hg'.trans hg);rw[hρ]at f1;injection f1 with _ f1 _
      subst f1;have:es.length-k=0:=by omega
      rw[f3,this]at hv;generalize (if c'=k then some (⟨q,0,none⟩:Addr) else some ⟨q,k*k',none⟩)=AA at hv;simp only[execOp,hop,resolve,hc,invoke,builtin,Builtin.clear_,b6,b7,Sem.run_bind,Sem.run_pure,Result.andThen_ok,run_underlying hu,hv];cases AA<;>simp
    unfold Oper.wp;rw[run,Oper.upon_value];refine hK _ _ ⟨ρ,?_⟩;rw[e0]
    have b5:SatR B (upd σ' (.knd b) (.kd (.row b2 k' es))) a w ρ:=(hs.step (fun _=>False) (fun t=>zj7 σ' b t _) (fun o _=>⟨by
      rw[zfn]
      by_cases e:o=b
      ·rw[if_pos e,e,a4]
      ·rw[if_neg e],zhl σ' b o _,fun i=>zlo σ' b o i _,rfl,rfl,rfl⟩) (fun _ h=>h.elim) (fun o=>by rw[zlq];exact hs.igs o) (Belo.refl _ _ _) (fun _ _ h=>h.elim) (fun _ _ _ h=>h.elim) (fun _ _ _ h=>h.elim)).1
    rw[zby];exact b5.put (fun t e=>zpb hd t e) (.im _ _ (.any _))
   ·obtain⟨q,c7,cur,us,e1,e2,e3,e4,e5,e6,e7,e8,e9,a2,a7,a8⟩:=zvk hs a4 (by omega)
    obtain⟨zv,d1,c6⟩:∃zv:Value,(∀w,(zeroValue et).run P w=.ok zv w)∧zv.cells.toList=z:=by
     unfold zeroOf at hz;split at hz
     ·rename_i i hi;cases hz0:i.zero with
      |none=>rw[hz0]at hz;cases hz
      |some zz =>
       rw[hz0]at hz;simp only[yav,zkF]at hz;exact⟨zz,fun w=>by simp[zeroValue,typeInfo,hi,hz0],hz⟩
     ·cases hz
    have d9:zv.cells.size=k':=by rw[<- c4,<- c6];simp
    have c9:(Builtin.zeroCells zv.cells (es.length-k)).toList=(List.replicate (es.length-k) z).flatten:=by
     have:=made_take zv.cells (es.length-k) (es.length-k) (yam _) (by omega);rw[ybe (by simp[madeCells])]at this;rw[<- c6];exact this
    have a3:((List.replicate (es.length-k) z).flatten).length=(es.length-k)*k':=by
     rw[zbi (k:=k') (fun x hx=>by rw[ybt hx];exact c4),ybs]
    have a5:∀u∈(List.replicate (es.length-k) z).flatten,u.oneCell'=true:=fun u hu=>by
     obtain⟨y,hy,hu⟩:=ycz.1 hu;rw[ybt hy]at hu;exact ybb.1 c5 u hu
    have c8:k*k'+(es.length-k)*k'=es.length*k':=by rw[<- Nat.add_mul];congr 1;omega
    have d5:es.length*k'<=c7*k':=ybz _ e3;have b0:=run_storeCells_at (P:=P) q (k*k') b2 ((List.replicate (es.length-k) z).flatten) 0 cur w e2 (by omega) a5;simp only[yb4]at b0
    have run:(execOp a.eval o).run P w=.ok (.value (.tuple #[])) (w.setRow q (splice cur.toList (k*k') ((List.replicate (es.length-k) z).flatten)).toArray):=by
     generalize hv:a.eval x=v at h1;cases h1 with
     |osv _ _ _ _ _ a6 hgg hh =>
      obtain⟨q',n',c',f1,f2,f3⟩:=hh (hg'.trans hg);rw[e1]at f1;injection f1 with f1 f4 f5
      injection f1 with f1
      injection f1 with f1
      subst f1 f4 f5;obtain⟨p,hp⟩:∃p,es.length-k=p+1:=⟨es.length-k-1,by omega⟩;rw[f3,if_neg (by omega)]at hv;rw[hp]at hv b0 c9 ⊢;simp only[execOp,hop,resolve,hc,invoke,builtin,Builtin.clear_,b6,b7,Sem.run_bind,Sem.run_pure,Result.andThen_ok,run_underlying hu,hv,d1,c9,b0];rfl
    unfold Oper.wp;rw[run,Oper.upon_value];refine hK _ _ ⟨ρ,?_⟩;have b9:us.length=es.length*k':=by rw[a2,zbi e8]
    have c0:(es.take k).length=k:=by rw[yaf];omega
    have b4:(es.take k++List.replicate (es.length-k) (z.map fun v=>nz1 (.val v))).flatten=es.flatten.take (k*k')++(List.replicate (es.length-k) (z.map fun v=>nz1 (.val v))).flatten:=by
     rw[ycj,zrx e8]
    have d0:((List.replicate (es.length-k) (z.map fun v=>nz1 (.val v))).flatten).length=(es.length-k)*k':=by
     rw[zbi (k:=k') (fun x hx=>by rw[ybt hx];simpa using c4),ybs]
    have b5:=hs.turn (w':=w.setRow q (splice cur.toList (k*k') ((List.replicate (es.length-k) z).flatten)).toArray) (k':=.row b2 k' (es.take k++List.replicate (es.length-k) (z.map fun v=>nz1 (.val v)))) (zm5 a4) (q:=q) (by rw[e1];rfl)
     ⟨rfl,rfl,rfl,by simp,fun k _ hk=>setRow_other w q k _ (fun e=>hk (by rw[e]))⟩ (fun c hc=>by unfold Owns;rw[a4];exact hc) fun hI=>by
      refine⟨us.take (k*k')++(List.replicate (es.length-k) z).flatten,e7,fun y hy=>?_,by rw[zkJ,c0,ybs];omega,?_,?_,fun u hu=>?_,fun n u y hu hy=>?_⟩
      ·rcases yak.1 hy with hy|hy
       ·exact e8 y (ya3 hy)
       ·rw[ybt hy];simpa using c4
      ·have d7:(es.take k++List.replicate (es.length-k) (z.map fun v=>nz1 (.val v))).length=es.length:=by rw[zkJ,c0,ybs];omega
       rw[d7];refine⟨by rw[zkJ,yaf,a3,b9];omega,.inr ⟨q,c7,_,e1,yag _,setRow_heap w q cur _ b2 _ e2,e3,e4,?_,?_⟩⟩
       ·rw[ycl,zc8 _ _ _ (by rw[a3];simp;omega)];simpa using e5
       ·rw[yd7,zmy _ _ _ _ (by rw[a3];omega) (by simp;omega),e6];unfold splice;rw[a3,c8,yeb (by omega),ybd]
      ·rw[b4,zkJ,zkJ,yaf,yaf,a3,d0,a2]
      ·rcases yak.1 hu with hu|hu
       ·exact a7 u (ya3 hu)
       ·exact a5 u hu
      ·rw[b4,yay,yaf,<- a2,yc3 (by omega)]at hy;rw[yay,yaf,yc3 (by omega)]at hu;split at hu
       ·rename_i a9;rw[if_pos a9,ya7,if_pos a9]at hy;rw[ya7,if_pos a9]at hu;exact hI _ _ (a8 n u y hu hy)
       ·rename_i a9;rw[if_neg a9,zgt]at hy;rw[zgt]at hu;split at hu
        ·rename_i b8;rw[zkK,if_pos b8,yan,hu]at hy;simp only[yav,zkF]at hy;rw[<- hy];exact zo2 (.val _)
        ·cases hu
    rw[zby];exact b5.put (fun t e=>zpb hd t e) (.im _ _ (.any _))
  ·exact h.elim
 ·exact h.elim
theorem zpg(w:World)(dT sT ty elem:TypeId)(g o dLen dCap:Nat)(a:Addr)(sLen sCap:Nat)(cur:Array Value)(t:TypeId)(cs:List Value)(k:Nat)
  (hu:P.underlying dT=some (.slice elem)) (hs:(P.info? elem).map (·.size)=some k)
  (hg:w.heap[g]?=some (.cells cur t (0,0))) (hn:cs.length=Nat.min sLen dLen*k)
  (hsrc:∀j v,cs[j]?=some v->w.cell? (a.add j)=some v) (hfit:o+cs.length<=cur.size) (h1:∀v∈cs,v.oneCell'=true) :
  (Builtin.copy_ #[dT,sT] ty #[.slice (some ⟨g,o,none⟩) dLen dCap,.slice (some a) sLen sCap]).run P w =
   .ok (goInt (Nat.min sLen dLen)) (w.setRow g (cur.toList.take o++cs++cur.toList.drop (o+cs.length)).toArray):=by
 have hl:=run_loadCells_list (P:=P) w a cs hsrc;have a2:=run_storeCells_at P g o t cs 0 cur w hg (by simpa using hfit) h1;cases hq:P.info? elem with
 |none=>simp[hq]at hs
 |some i =>
  have hi:i.size=k:=by simpa[hq]using hs
  rw[hn]at hl;simp[Builtin.copy_,run_underlying hu,Builtin.lenOf,Builtin.firstCells,sizeOf,typeInfo,hq,hi,hl,a2]
theorem aCopy_ok{c:Call}{t t':TypeId}{x y:Operand}(hop:o.op=.call c)(hc:c.callee=.builtin .copy)(ha:c.args.toList=[x,y])(ht:c.argTypes.toList=[t,t'])(hd:zct B.n o=true)(h:aCopy P o σ K t x y):∃fx,K fx∧Eff P B o fx.rd σ fx.wr:=False.elim h
end
end
section
section
variable {P:Program}{B:Base}{o:Oper}{σ:St}{K:Fx->Prop}
theorem zri{v:Value}{inn:List Value}(h:(fpv v inn).Nodup){i q:Nat}{u:Value}(hu:inn[i]?=some u)(hq:zbg u=some q):zbg v≠some q∧∀j u',j≠i->inn[j]?=some u'->zbg u'≠some q:=by
 unfold fpv List.Nodup at h;rw[ye7]at h;rw[yb0]at h;obtain⟨h1,h2⟩:=h;obtain⟨hi,rfl⟩:=zkI.1 hu;refine⟨fun e=>h1 _ (yai hi) q e q hq rfl,fun j u' hj a4 e=>?_⟩;obtain⟨a2,rfl⟩:=zkI.1 a4;have h3:=ya4.1 h2;rcases ya6 j i with a3|a5
 ·exact h3 j i a2 hi a3 q e q hq rfl
 ·exact h3 i j hi a2 (by omega) q hq q e rfl
theorem zhw{a:Act}{w:World}{ρ:Ly}(hs:SatR B σ a w ρ){b k:Nat}{e e':TypeId}{gs:List (List IV)}(hk:σ.kd b=.grid e e' k gs none) :
  ∃us:List Value,(fpv (ρ b) (ρ.inn b)).Nodup∧(ρ.inn b).length=gs.length∧gs.length<=17592186044416∧w.ownsRow 0 e 1 (ρ b) gs.length us∧(∀u∈us,u.oneCell'=true)∧us.length=gs.length ∧
   ∀(i:Nat) u,(ρ.inn b)[i]?=some u->us[i]?=some u∧∃es,gs[i]?=some [.sl es]∧zj4 w (Imm B σ ρ w) u e' k es:=by
 have ho:=hs.obs b;rw[hk]at ho;obtain⟨h0,h1,us,h2,h3,h4,h5⟩:=ho;refine⟨us,h0,h1,h2,h3,h4,by rw[h3.1,yc9],fun i u hu=>?_⟩;rcases h5 i u hu with⟨h6,_⟩|h6
 ·cases h6
 ·exact h6
theorem zyy{a:Act}{w:World}{ρ:Ly}(hs:SatR B σ a w ρ){b k:Nat}{e e':TypeId}{gs:List (List IV)}{hole:Option Nat}(hk:σ.kd b=.grid e e' k gs hole) :
  ∃us:List Value,(fpv (ρ b) (ρ.inn b)).Nodup∧(ρ.inn b).length=gs.length∧gs.length<=17592186044416∧w.ownsRow 0 e 1 (ρ b) gs.length us∧(∀u∈us,u.oneCell'=true)∧us.length=gs.length ∧
   ∀(i:Nat) u,(ρ.inn b)[i]?=some u->(hole=some i∧u=undef)∨(us[i]?=some u∧∃es,gs[i]?=some [.sl es]∧zj4 w (Imm B σ ρ w) u e' k es):=by
 have ho:=hs.obs b;rw[hk]at ho;obtain⟨h0,h1,us,h2,h3,h4,h5⟩:=ho;exact⟨us,h0,h1,h2,h3,h4,by rw[h3.1,yc9],h5⟩
theorem inn_at{ρ:Ly}{b n i:Nat}(h:(ρ.inn b).length=n)(hi:i<n):∃u,(ρ.inn b)[i]?=some u:=⟨_,zkM (by omega)⟩
theorem zj4.form{w:World}{S:Nat->Prop}{v:Value}{e:TypeId}{k:Nat}{es:List (List IV)}(h:zj4 w S v e k es)(hn:0<es.length) :
  ∃(q cap:Nat) (cur:Array Value) (us:List Value),v=.slice (some ⟨q,0,none⟩) es.length cap∧w.heap[q]?=some (.cells cur e (0,0))∧es.length<=cap∧cap<=maxLen∧cur.size=cap*k∧cur.toList.take (es.length*k)=us∧0<k∧(∀x∈es,x.length=k)∧es.length<=17592186044416∧us.length=es.flatten.length ∧
   (∀u∈us,u.oneCell'=true)∧(∀(i:Nat) u x,us[i]?=some u->es.flatten[i]?=some x->RepI w S u x)∧w.ownsRow 0 e k v es.length us:=by
 obtain⟨us,h1,h2,h3,h4,h5,h6,h7⟩:=h;rcases h4.2 with⟨_,h0⟩|⟨q,cap,cur,e1,_,e3,e4,e5,e6,e7⟩
 ·omega
 ·exact⟨q,cap,cur,us,e1,e3,e4,e5,e6,e7,h1,h2,h3,h5,h6,h7,h4⟩
theorem zu2{w:World}{e:TypeId}{k n q cap:Nat}{v:Value}{us:List Value}(h:w.ownsRow 0 e k v n us)(hv:v=.slice (some ⟨q,0,none⟩) n cap){p:Nat}{u:Value}(hu:us[p]?=some u):w.cell? ⟨q,p,none⟩=some u:=by
 have:=h.cells (g:=q) (by rw[hv];rfl) p u hu
 rwa [addr_add,yah]at this
theorem aIndexG_ok{t:TypeId}{x i:Operand}{b g:Nat}(hop:o.op=.indexAddr t x i)(hx:evA σ x=.osl b g)(hd:zct B.n o=true)(h:aIndexG P o σ K t x i b g):∃fx,K fx∧Eff P B o fx.rd σ fx.wr:=by
 unfold aIndexG at h;split at h
 ·rename_i kk n et e e' k' gs hole hi b0 a7;have hu:=zeq b0;split at h
  ·rename_i m hm;obtain⟨a4,h'⟩:=h.ok;clear h;have a4:=yal a4;subst a4;obtain⟨⟨h0,hg,b2⟩,h⟩:=h'.out;refine⟨_,h,Eff.pure hd fun σ' hag a w ρ hs=>?_⟩;obtain⟨a6,hg',a9,_⟩:=zds hag;have h1:=za0 hs x;have h2:=za0 hs i;rw[zas (zay a6),hx]at h1;rw[zas (za6 a6)]at h2;have hn:=zcg hi h2;obtain⟨us,_,_,_,a5,_⟩:=zyy hs (a9.trans a7);obtain⟨q,a8,a3⟩:=World.ownsRow.form a5 (by omega);generalize hv:a.eval x=v at h1;cases h1 with
   |osl _ _ _ a2 hgg hh =>
    rw[hh (hg'.trans hg),a3.1]at hv;have hz:=zj6 hm w;have h3:0<=n∧n<gs.length:=⟨h0,by omega⟩;refine⟨.pointer (some ⟨q,n.toNat*1,none⟩),?_,.elt _ b g 1 n.toNat 0 rfl hgg fun _=>⟨q,0,_,a8,a3.1,by rw[yb4,yah]⟩⟩;simp only[execOp,hop,hv,hn,Instr.indexAt,asIntOf,Sem.run_bind,Sem.run_pure,Result.andThen_ok,run_underlying hu,if_pos h3,hz,addr_add,yah]
  ·exact h.elim
 ·exact h.elim
theorem zu9{σ':St}{l:List Loc}{b:Nat}(h:∀x∈l++[.ign b,.knd b],σ' x=σ x):(∀x∈l,σ' x=σ x)∧σ'.ig b=σ.ig b∧σ'.kd b=σ.kd b :=
 ⟨zay h,zne (za6 h _ (by simp)),zql (za6 h _ (by simp))⟩
theorem aIndexS_ok{t:TypeId}{x i:Operand}{b g j:Nat}(hop:o.op=.indexAddr t x i)(hx:evA σ x=.sub b g j)(hd:zct B.n o=true)(h:aIndexS P o σ K t x i b g j):∃fx,K fx∧Eff P B o fx.rd σ fx.wr:=by
 unfold aIndexS at h;split at h
 ·rename_i kk n et e e' k gs hi a9 a8;have hu:=zeq a9;split at h
  ·rename_i m hm;obtain⟨a5,h'⟩:=h.ok;clear h;have a5:=yal a5;subst a5;obtain⟨es,⟨h0,hg,b5,b6⟩,h⟩:=h';refine⟨_,h,Eff.pure hd fun σ' hag a w ρ hs=>?_⟩;obtain⟨a6,hg',b4⟩:=zu9 hag;have h1:=za0 hs x;have h2:=za0 hs i;rw[zas (zay a6),hx]at h1;rw[zas (za6 a6)]at h2;have hn:=zcg hi h2;obtain⟨us,_,_,_,_,_,_,b3⟩:=zhw hs (b4.trans a8);generalize hv:a.eval x=v at h1;cases h1 with
   |sub _ _ _ _ a2 hgg hh =>
    have b2:ρ.ig b=g:=by rw[hs.igs,hg',hg]
    have a4:=hh b2;obtain⟨_,b8,a3,a7⟩:=b3 j v a4;rw[b5]at a3;injection a3 with a3
    injection a3 with a3
    injection a3 with a3
    subst a3;obtain⟨q,b0,cur,b7,e1,_⟩:=a7.form (by omega);have hz:=zj6 hm w;have h3:0<=n∧n<es.length:=⟨h0,by omega⟩;refine⟨.pointer (some ⟨q,n.toNat*m,none⟩),?_,.elt2 _ b g j m n.toNat 0 rfl hgg fun _=>⟨q,_,b0,by rw[a4,e1],by rw[yb4]⟩⟩;rw[e1]at hv;simp only[execOp,hop,hv,hn,Instr.indexAt,asIntOf,Sem.run_bind,Sem.run_pure,Result.andThen_ok,run_underlying hu,if_pos h3,hz,addr_add,yah]
  ·exact h.elim
 ·exact h.elim
theorem aLoadG_ok{t:TypeId}{p:Operand}{b g k i j:Nat}(hop:o.op=.load t p)(hp:evA σ p=.elt b g k i j)(hd:zct B.n o=true)(h:aLoadG P o σ K t p b g k i j):∃fx,K fx∧Eff P B o fx.rd σ fx.wr:=by
 have run:∀(a:Act) w v,(Instr.loadAt t (a.eval p)).run P w=.ok v w->(execOp a.eval o).run P w=.ok (.value v) w:=fun a w v hv=>by simp[execOp,hop,hv]
 unfold aLoadG at h;split at h
 ·rename_i e e' k' gs a6 b3;obtain⟨a3,h'⟩:=h.ok;clear h;rw[ya0]at a3;have c0:=yal a3.1;have b7:=yal a3.2;subst c0 b7;obtain⟨⟨hg,b2⟩,h⟩:=h'.out;refine⟨_,h,Eff.pure hd fun σ' hag a w ρ hs=>?_⟩;have a8:∀x∈opd p++(.gen b::.knd b::[.ign b]),σ' x=σ x:=fun x hx=>hag x (by simpa using hx);obtain⟨b4,hg',b8,b9⟩:=zds a8;have b5:σ'.ig b=σ.ig b:=zne (b9 (.ign b) (by simp));have h1:=za0 hs p;rw[zas b4,hp]at h1;obtain⟨us,_,b0,_,a5,a9,_,b6⟩:=zhw hs (b8.trans b3);obtain⟨u,hu⟩:=inn_at b0 b2;obtain⟨a7,_⟩:=b6 i u hu;generalize hv:a.eval p=v at h1;cases h1 with
  |elt _ _ _ _ _ _ a2 hgg hh =>
   obtain⟨q,z,n,c,e1,e2⟩:=hh (hg'.trans hg);obtain⟨q',c6,a4⟩:=World.ownsRow.form a5 (by omega);rw[a4.1]at e1;injection e1 with e1 _ _
   injection e1 with e1
   injection e1 with e1 e3
   subst e1 e3;rw[e2,yc9,yb4,yah]at hv;refine⟨u,run a w u (by rw[hv];exact zpr a6 (zu2 a5 a4.1 a7)),.sub _ b _ i (a9 u (zkH a7)) ?_ fun _=>hu⟩;rw[hs.igs,b5];exact yam _
 ·exact h.elim
theorem aLoadS_ok{t:TypeId}{p:Operand}{b g i k j c:Nat}(hop:o.op=.load t p)(hp:evA σ p=.elt2 b g i k j c)(hd:zct B.n o=true)(h:aLoadS P o σ K t p b g i k j c):∃fx,K fx∧Eff P B o fx.rd σ fx.wr:=by
 have run:∀(a:Act) w v,(Instr.loadAt t (a.eval p)).run P w=.ok v w->(execOp a.eval o).run P w=.ok (.value v) w:=fun a w v hv=>by simp[execOp,hop,hv]
 unfold aLoadS at h;split at h
 ·rename_i e e' k' gs a4 b6;obtain⟨a6,h'⟩:=h.ok;clear h;have c7:=yal a6;subst c7;obtain⟨es,el,x,⟨hg,c6,he,hx⟩,h⟩:=h';refine⟨_,h,Eff.pure hd fun σ' hag a w ρ hs=>?_⟩;obtain⟨b0,hg',b7⟩:=zu9 hag;have h1:=za0 hs p;rw[zas b0,hp]at h1;obtain⟨us,_,_,_,_,_,_,b5⟩:=zhw hs (b7.trans b6);generalize hv:a.eval p=v at h1;cases h1 with
  |elt2 _ _ _ _ _ _ _ a2 hgg hh =>
   have b2:ρ.ig b=g:=by rw[hs.igs,hg',hg]
   obtain⟨q,n,cp,a5,e2⟩:=hh b2;obtain⟨_,d2,a3,a9⟩:=b5 i _ a5;rw[c6]at a3;injection a3 with a3
   injection a3 with a3
   injection a3 with a3
   subst a3;have c8:=(zkI.1 he).1;obtain⟨q',d0,cur,b8,e1,_,_,_,_,_,d1,a7,_,b4,c9,b3,a8⟩:=a9.form (by omega);have c0:=e1;injection e1 with e1 _ _
   injection e1 with e1
   injection e1 with e1
   subst e1;have b9:c<k':=by rw[<- a7 el (zkH he)];exact(zkI.1 hx).1
   have hf:=flat_get a7 he b9;rw[hx]at hf;obtain⟨u,hu⟩:∃u,b8[j*k'+c]?=some u:=⟨_,zkM (by rw[b4];exact(zkI.1 hf).1)⟩;exact⟨u,run a w u (by rw[hv,e2];exact zpr a4 (zu2 a8 c0 hu)),.im _ _ (b3 _ u x hu hf)⟩
 ·exact h.elim
theorem aLenG_ok{c:Call}{t:TypeId}{ts:List TypeId}{x:Operand}{b g:Nat}(hop:o.op=.call c)(hc:c.callee=.builtin .len)(ha:c.args.toList=[x])(ht:c.argTypes.toList=t::ts){e:TypeId}(he:zjy P t=some e)(hx:evA σ x=.osl b g)(hd:zct B.n o=true)(h:aLenG o σ K x b g):∃fx,K fx∧Eff P B o fx.rd σ fx.wr:=by
 have a4:c.argTypes[0]?=some t:=by rw[<- yaz,ht];rfl
 have a5:∀a:Act,(c.args.map a.eval)[0]?=some (a.eval x):=fun a=>by rw[<- yaz,yco,ha];rfl
 have hu:=zeq he
 have run:∀(a:Act) w A n cp,a.eval x=.slice A n cp->(execOp a.eval o).run P w=.ok (.value (.int .i64 n)) w:=fun a w A n cp hv=>by
  simp only[execOp,hop,resolve,hc,invoke,builtin,Builtin.len_,a4,a5,Sem.run_bind,Sem.run_pure,Result.andThen_ok,run_underlying hu,hv,goInt]
 unfold aLenG at h;split at h
 ·rename_i e1 e2 k gs a6;obtain⟨hg,h⟩:=h.out;have h:=h.out;refine⟨_,h,Eff.pure hd fun σ' hag a w ρ hs=>?_⟩;obtain⟨a9,hg',a7,_⟩:=zds hag;have h1:=za0 hs x;rw[zas a9,hx]at h1;obtain⟨us,_,_,_,a3,_⟩:=zhw hs (a7.trans a6)
  obtain⟨A,cp,hρ⟩:∃A c,ρ b=.slice A gs.length c:=by
   rcases a3.2 with⟨e,h0⟩|⟨g,a8,cur,e,_⟩
   ·exact⟨none,0,by rw[e,h0]⟩
   ·exact⟨_,a8,e⟩
  generalize hv:a.eval x=v at h1;cases h1 with
  |osl _ _ _ a2 hgg hh =>
   rw[hh (hg'.trans hg),hρ]at hv;exact⟨_,run a w _ _ _ hv,zc9 _⟩
 ·exact h.elim
theorem aLenS_ok{c:Call}{t:TypeId}{ts:List TypeId}{x:Operand}{b g i:Nat}(hop:o.op=.call c)(hc:c.callee=.builtin .len)(ha:c.args.toList=[x])(ht:c.argTypes.toList=t::ts){e:TypeId}(he:zjy P t=some e)(hx:evA σ x=.sub b g i)(hd:zct B.n o=true)(h:aLenS o σ K x b g i):∃fx,K fx∧Eff P B o fx.rd σ fx.wr:=by
 have a9:c.argTypes[0]?=some t:=by rw[<- yaz,ht];rfl
 have b2:∀a:Act,(c.args.map a.eval)[0]?=some (a.eval x):=fun a=>by rw[<- yaz,yco,ha];rfl
 have hu:=zeq he
 have run:∀(a:Act) w A n cp,a.eval x=.slice A n cp->(execOp a.eval o).run P w=.ok (.value (.int .i64 n)) w:=fun a w A n cp hv=>by
  simp only[execOp,hop,resolve,hc,invoke,builtin,Builtin.len_,a9,b2,Sem.run_bind,Sem.run_pure,Result.andThen_ok,run_underlying hu,hv,goInt]
 unfold aLenS at h;split at h
 ·rename_i e1 e2 k gs b3;obtain⟨es,⟨hg,b5⟩,h⟩:=h;have h:=h.out;refine⟨_,h,Eff.pure hd fun σ' hag a w ρ hs=>?_⟩;obtain⟨a7,hg',b4⟩:=zu9 hag;have h1:=za0 hs x;rw[zas a7,hx]at h1;obtain⟨us,_,_,_,_,_,_,b0⟩:=zhw hs (b4.trans b3);generalize hv:a.eval x=v at h1;cases h1 with
  |sub _ _ _ _ a2 hgg hh =>
   have a8:ρ.ig b=g:=by rw[hs.igs,hg',hg]
   obtain⟨_,b7,a3,a5⟩:=b0 i v (hh a8);rw[b5]at a3;injection a3 with a3
   injection a3 with a3
   injection a3 with a3
   subst a3;obtain⟨b6,_,_,_,a4,_⟩:=a5
   obtain⟨A,cp,hρ⟩:∃A c,v=.slice A es.length c:=by
    rcases a4.2 with⟨e,h0⟩|⟨g,a6,cur,e,_⟩
    ·exact⟨none,0,by rw[e,h0]⟩
    ·exact⟨_,a6,e⟩
   rw[hρ]at hv;exact⟨_,run a w _ _ _ hv,zc9 _⟩
 ·exact h.elim
theorem SatR.turnA{a:Act}{w w':World}{ρ:Ly}(h:SatR B σ a w ρ){b q:Nat}{k':Kd}(hq:Owns σ ρ b q)(hg:w.grownBy w' (some q))(hk':∀c,c∈fpk (ρ b) (ρ.inn b) k'->Owns σ ρ b c)
  (hob:(∀v x,RepI w (Imm B σ ρ w) v x->RepI w' (Imm B (upd σ (.knd b) (.kd k')) ρ w') v x)->zn4 B (upd σ (.knd b) (.kd k')) ρ w' b k'):SatR B (upd σ (.knd b) (.kd k')) a w' ρ:=by
 refine(h.step (fun o=>o=b) (fun t=>zj7 σ b t _) (fun o hd=>⟨by rw[zfn,if_neg hd],zhl σ b o _,fun i=>zlo σ b o i _,rfl,rfl,rfl⟩) (fun o _=>⟨⟨by rw[zhl];exact yam _,fun _=>rfl⟩,yam _,fun _=>rfl⟩)
  (fun o=>by rw[zlq];exact h.igs o) ⟨hg.os,hg.tape,hg.output,hg.size,fun c hc hn=>hg.block c hc fun e=>?_⟩ (fun o c hd ho=>?_) (fun o p c hd hp _ _=>hd.trans hp.symm) fun hI hA o hd=>?_).1
 ·injection e with e
  subst e;exact hn ⟨b,rfl,hq⟩
 ·subst hd;unfold Owns at ho;rw[zfn,if_pos rfl]at ho;exact .inr ⟨o,rfl,hk' c ho⟩
 ·subst hd;rw[zfn,if_pos rfl];exact hob hI
theorem aStoreS_ok{t:TypeId}{p x:Operand}{b g i k j c:Nat}(hop:o.op=.store t p x)(hp:evA σ p=.elt2 b g i k j c)(hd:zct B.n o=true)(h:aStoreS P o σ K t p x b g i k j c):∃fx,K fx∧Eff P B o fx.rd σ fx.wr:=by
 unfold aStoreS at h;split at h
 ·rename_i m cs e e' k' gs hm e4 c0;split at h
  ·rename_i xs h6;obtain⟨a9,h'⟩:=h.ok;clear h;simp only[ya0]at a9;obtain⟨⟨⟨c1,c2⟩,c3⟩,c4⟩:=a9;have d1:cs.length=m:=by simpa using c1
   have i4:=zez c2;have i3:=zji c3;have f3:k'=k:=by simpa using c4
   subst f3;obtain⟨es,el,⟨hg,f8,a7⟩,h⟩:=h';have h:=h.out;refine⟨_,h,fun σ' hag a w ⟨ρ,hs⟩ K' Q hK=>?_⟩;obtain⟨d2,hg',b6⟩:=zu9 hag;have h1:=za0 hs p;have h2:=za0 hs x;rw[zas (zay d2),hp]at h1;rw[zas (za6 d2)]at h2;have hr:=zjb e4 h2;have b3:=zjd e4 h2;have c8:=zzr hs (bs':=[]) (by simp) hr (zpq h6 fun l hl=>by simp[frd]at hl) (by simp);obtain⟨us,e7,e0,c6,d0,b4,h9,d5⟩:=zhw hs (b6.trans c0);have h5:ρ.ig b=g:=by rw[hs.igs,hg',hg]
   obtain⟨q,cap,u0,a3,f4,a8⟩:∃q cap u0,(ρ.inn b)[i]?=some u0∧a.eval p=.pointer (some ⟨q,j*k'+c,none⟩)∧∃n,u0=.slice (some ⟨q,0,none⟩) n cap:=by
    generalize a.eval p=v at h1;cases h1 with
    |elt2 _ _ _ _ _ _ _ a2 hgg hh =>
     obtain⟨q,n,cp,a3,e2⟩:=hh h5;exact⟨q,cp,_,a3,e2,n,rfl⟩
   obtain⟨h8,i5,a4,d6⟩:=d5 i u0 a3;rw[f8]at a4;injection a4 with a4
   injection a4 with a4
   injection a4 with a4
   subst a4;have g7:=(zkI.1 a7).1;obtain⟨q',b0,cur,c9,e1,e3,d4,d8,d9,e8,g4,a6,d7,b8,c7,f6,g9⟩:=d6.form (by omega);obtain⟨n,a8⟩:=a8
   have h7:q'=q:=by
    rw[a8]at e1;injection e1 with e1 _ _
    injection e1 with e1
    injection e1 with e1
    exact e1.symm
   subst h7;have b5:(a.eval x).cells.toList.length=m:=by rw[hr.1,d1]
   have g8:xs.length=m:=by rw[<- c8.1,b5]
   have e5:(j+1)*k'<=es.length*k':=ybz _ g7;have g5:es.length*k'<=b0*k':=ybz _ d4;rw[Nat.add_mul,yfc]at e5;have a5:=run_storeCells_at (P:=P) q' (j*k'+c) e' (a.eval x).cells.toList 0 cur w e3 (by omega) b3;simp only[yb4]at a5;have hz:=zj6 hm w;have f5:(a.eval x).cells.size=m:=by rw[<- b5];simp
   have run:(execOp a.eval o).run P w=.ok .skip (w.setRow q' (splice cur.toList (j*k'+c) (a.eval x).cells.toList).toArray):=by
    simp only[execOp,hop,Instr.storeAt,f4,Instr.sureAddr,storeVar,Sem.run_bind,Sem.run_pure,Result.andThen_ok,hz,f5];rw[if_neg (by simp),a5];rfl
   unfold Oper.wp;rw[run,Oper.upon_skip];refine hK _ _ ⟨ρ,?_⟩;have b7:c9.length=es.length*k':=by rw[b8,zbi a6]
   have e6:el.length=k':=a6 el (zkH a7);have b2:zbg u0=some q':=by rw[a8];rfl
   obtain⟨e9,g6⟩:=zri e7 a3 b2;have d3:∀r,r≠q'->(w.setRow q' (splice cur.toList (j*k'+c) (a.eval x).cells.toList).toArray).heap[r]?=w.heap[r]?:=fun r hr=>setRow_other w q' r _ hr
   have f9:=hs.turnA (w':=w.setRow q' (splice cur.toList (j*k'+c) (a.eval x).cells.toList).toArray) (b:=b) (q:=q') (k':=.grid e e' k' (gs.set i [.sl (es.set j (splice el c xs))]) none)
    (by unfold Owns;rw[b6.trans c0];exact fpk_inn a3 b2)
    ⟨rfl,rfl,rfl,by simp,fun k _ hk=>setRow_other w q' k _ (fun e=>hk (by rw[e]))⟩ (fun r hr=>by unfold Owns;rw[b6.trans c0];exact hr) fun hI=>by
     refine⟨e7,by rw[ycb];exact e0,us,by rw[ycb];exact c6,?_,b4,fun i' u hu=>.inr ?_⟩
     ·rw[ycb];exact zjp d0 fun r hr=>d3 r fun e=>e9 (by rw[<- e];exact hr)
     ·obtain⟨g1,f7,g2,g3⟩:=d5 i' u hu;refine⟨g1,?_⟩;by_cases b9:i'=i
      ·subst b9;rw[a3]at hu;injection hu with hu
       subst hu;refine⟨es.set j (splice el c xs),by rw[ycu (by rw[<- e0];exact(zkI.1 a3).1)],splice c9 (j*k'+c) (a.eval x).cells.toList,g4,fun y hy=>?_,by rw[ycb];exact d7,?_,?_,fun u hu=>?_,fun n u y hu hy=>?_⟩
       ·rcases ycv hy with hy|hy
        ·exact a6 y hy
        ·rw[hy,zc8 _ _ _ (by omega),e6]
       ·rw[ycb];refine⟨by rw[zc8 _ _ _ (by omega),b7],.inr ⟨q',b0,_,e1,yag _,setRow_heap w q' cur _ e' _ e3,d4,d8,?_,?_⟩⟩
        ·rw[ycl,zc8 _ _ _ (by simp;omega)];simpa using d9
        ·rw[yd7,zmy _ _ _ _ (by omega) (by simp;omega),e8]
       ·rw[zse a6 a7 (by omega),zc8 _ _ _ (by omega),zc8 _ _ _ (by omega),b8]
       ·unfold splice at hu;rcases yak.1 hu with hu|hu
        ·rcases yak.1 hu with hu|hu
         ·exact c7 u (ya3 hu)
         ·exact b3 u hu
        ·exact c7 u (ybg hu)
       ·rw[zse a6 a7 (by omega)]at hy;rcases zxa b8 (by rw[b5,g8]) (by omega) hu hy with⟨n',h3,h4⟩|⟨n',h3,h4⟩
        ·exact hI _ _ (f6 n' u y h3 h4)
        ·exact hI _ _ (c8.2 n' u y h3 h4)
      ·exact⟨f7,by rw[ycx (fun e=>b9 e.symm)];exact g2,g3.mono (fun r hr=>d3 r fun e=>g6 i' u b9 hu (by rw[<- e];exact hr)) hI⟩
   rw[zby];exact f9.put (zpb hd) (zc9 _)
  ·exact h.elim
 ·exact h.elim
theorem fpv_set{v x:Value}{inn:List Value}{i:Nat}(h:(fpv v inn).Nodup)(hx:∀q,zbg x=some q->q∉fpv v inn):(fpv v (inn.set i x)).Nodup:=by
 have hm:∀u q,u=v∨u∈inn->zbg u=some q->q∈fpv v inn:=fun u q hu hq=>yb3.2 ⟨u,by rcases hu with rfl|hu<;>simp[*],hq⟩
 unfold fpv List.Nodup at h ⊢;rw[ye7,yb0]at h ⊢;obtain⟨h1,h2⟩:=h;refine⟨fun a' a4 c hc c' a2 e=>?_,?_⟩
 ·rcases ycv a4 with h3|h3
  ·exact h1 a' h3 c hc c' a2 e
  ·subst h3 e;exact hx c a2 (hm v c (.inl rfl) hc)
 ·rw[ya4]at h2 ⊢;intro j k hj hk a3 c hc c' a2 e;rw[ycb]at hj hk;rw[List.getElem_set]at hc a2;subst e;split at hc
  ·split at a2
   ·omega
   ·exact hx c hc (hm _ c (.inr (yai hk)) a2)
  ·split at a2
   ·exact hx c a2 (hm _ c (.inr (yai hj)) hc)
   ·exact h2 j k hj hk a3 c hc c a2 rfl
theorem splice_one{α:Type}{l:List α}{i:Nat}(h:i<l.length)(v:α):splice l i [v]=l.set i v:=by
 rw[List.set_eq_take_append_cons_drop,if_pos h];unfold splice;simp
theorem aStoreG_ok{t:TypeId}{p x:Operand}{b g k i j:Nat}(hop:o.op=.store t p x)(hp:evA σ p=.elt b g k i j)(hd:zct B.n o=true)(h:aStoreG P o σ K t p x b g k i j):∃fx,K fx∧Eff P B o fx.rd σ fx.wr:=by
 unfold aStoreG at h;split at h
 ·rename_i m r gr e e' k' gs hole hm hx a8;split at h
  ·rename_i e2 k2 es d6;obtain⟨a9,h'⟩:=h.ok;clear h;simp only[ya0]at a9;obtain⟨⟨⟨⟨⟨c1,c2⟩,c3⟩,c4⟩,c5⟩,c6⟩:=a9;have c1:=yal c1;have c2:=yal c2;have c3:=yal c3;have c4:=yal c4;have c5:=yal c5;have a4:r≠b:=fun e=>by rw[e]at c6;simp at c6
   subst c1 c2 c3 c4 c5;obtain⟨⟨hg,g4,g9,d8⟩,h⟩:=h'.out;have h:=h.out;refine⟨_,h,fun σ' hag a w ⟨ρ,hs⟩ K' Q hK=>?_⟩;have c9:∀x_1∈(opd p++opd x)++(.gen b::.knd b::[.ign b,.gen r,.knd r]),σ' x_1=σ x_1:=fun y hy=>hag y (by simpa using hy);obtain⟨d3,hg',a7,b6⟩:=zds c9;have g7:σ'.ig b=σ.ig b:=zne (b6 (.ign b) (by simp));have d9:σ'.gn r=σ.gn r:=zem (b6 (.gen r) (by simp));have b2:σ'.kd r=σ.kd r:=zql (b6 (.knd r) (by simp));have h1:=za0 hs p;have h2:=za0 hs x;rw[zas (zay d3),hp]at h1;rw[zas (za6 d3),hx]at h2;obtain⟨us,e0,f9,c0,d1,b4,d2,f5⟩:=zyy hs (a7.trans a8);have c7:=hs.obs r;rw[b2.trans d6]at c7;have d5:zj4 w (Imm B σ' ρ w) (ρ r) e2 k2 es:=c7;obtain⟨h5,_,_,_,r4,_⟩:=c7;have a2:(ρ r).oneCell'=true:=row_one r4;have g8:(ρ r).cells=#[ρ r]:=by revert a2;cases ρ r<;>simp[Value.oneCell',Value.cells]
   rcases d1.2 with⟨_,hn⟩|⟨q,g6,cur,e1,_,e3,f4,d7,b0,c8⟩
   ·omega
   have e7:a.eval p=.pointer (some ⟨q,i,none⟩):=by
    generalize a.eval p=v at h1;cases h1 with
    |elt _ _ _ _ _ _ _ _ hh =>
     obtain⟨b',z,n,c,f1,f2⟩:=hh (hg'.trans hg);rw[e1]at f1;injection f1 with f1
     injection f1 with f1
     injection f1 with f1 f3
     rw[f2,f1,<- f3,yc9,yb4,yah]
   have e6:a.eval x=ρ r:=by
    generalize a.eval x=v at h2;cases h2 with
    |osl _ _ _ _ _ hh=>exact hh (d9.trans g4)
   rw[yc9]at b0 c8;have a5:=run_storeCells_at (P:=P) q i e [ρ r] 0 cur w e3 (by simp;omega) (by simpa using a2);simp only[yb4]at a5;have hz:=zj6 hm w
   have run:(execOp a.eval o).run P w=.ok .skip (w.setRow q (splice cur.toList i [ρ r]).toArray):=by
    simp only[execOp,hop,Instr.storeAt,e7,e6,Instr.sureAddr,storeVar,Sem.run_bind,Sem.run_pure,Result.andThen_ok,hz,g8];rw[if_neg (by simp),a5];rfl
   unfold Oper.wp;rw[run,Oper.upon_skip]
   let ρ2:Ly:=⟨ρ.root,fun o=>if o=b then(ρ.inn b).set i (ρ r) else ρ.inn o,fun o=>if o=b then ρ.ig b+1 else ρ.ig o⟩
   let τ:St:=app σ' [(.knd r,.kd .dead),(.ign b,.n (σ.ig b+1)),(.knd b,.kd (.grid e e2 k2 (gs.set i [.sl es]) none))]
   have a3:∀o,τ.kd o=if o=b then .grid e e2 k2 (gs.set i [.sl es]) none else if o=r then .dead else σ'.kd o:=fun o=>by
    show(app σ' _).kd o=_;simp only[zby,zfr];rw[zfn,kd_ign,zfn]
   have d0:∀o,τ.gn o=σ'.gn o:=fun o=>by
    show(app σ' _).gn o=_;simp only[zby,zfr];rw[zhl,gn_ign,zhl]
   have f7:∀o,τ.ig o=if o=b then σ.ig b+1 else σ'.ig o:=fun o=>by
    show(app σ' _).ig o=_;simp only[zby,zfr];rw[zlq,ig_ign,zlq]
   have e8:∀t,τ.av t=σ'.av t:=fun t=>by
    show(app σ' _).av t=_;simp only[zby,zfr];rw[zj7,av_ign,zj7]
   have e9:∀o i,τ.ce o i=σ'.ce o i:=fun o i=>by
    show(app σ' _).ce o i=_;simp only[zby,zfr];rw[zlo,ce_ign,zlo]
   have b9:Owns σ' ρ b q:=.root (by unfold live;rw[a7.trans a8];exact fun z=>by cases z) (by rw[e1];rfl);have b7:live σ' r:=zm5 (b2.trans d6);have g5:∀c,zbg (ρ r)=some c->c≠q:=fun c hc e=>a4 (hs.dis r b c (.root b7 hc) (e ▸ b9));have b5:∀c,c≠q->(w.setRow q (splice cur.toList i [ρ r]).toArray).heap[c]?=w.heap[c]?:=fun c hc=>setRow_other w q c _ hc;have d4:∀(j:Nat) u,(ρ.inn b)[j]?=some u->∀c,zbg u=some c->c≠q:=fun j u hu c hc e=>(zri e0 hu hc).1 (by rw[e1,e];rfl)
   obtain⟨f8,_⟩:=hs.step (σ':=τ) (ρ':=ρ2) (w':=w.setRow q (splice cur.toList i [ρ r]).toArray) (fun o=>o=b∨o=r) e8
    (fun o ho=>⟨by rw[a3,if_neg (fun e=>ho (.inl e)),if_neg (fun e=>ho (.inr e))],d0 o,e9 o,rfl,by simp only[ρ2];rw[if_neg (fun e=>ho (.inl e))],by simp only[ρ2];rw[if_neg (fun e=>ho (.inl e))]⟩)
    (fun o ho=>by
     refine⟨⟨by rw[d0];exact yam _,fun _=>rfl⟩,?_,fun e=>?_⟩
     ·show ρ.ig o<=(if o=b then ρ.ig b+1 else ρ.ig o)
      split
      ·rename_i e;rw[e];omega
      ·exact yam _
     ·have e:(if o=b then ρ.ig b+1 else ρ.ig o)=ρ.ig o:=e
      show(if o=b then(ρ.inn b).set i (ρ r) else ρ.inn o)=_
      split at e
      ·rename_i e2;rw[e2]at e;omega
      ·rename_i e2;rw[if_neg e2])
    (fun o=>by
     show(if o=b then ρ.ig b+1 else ρ.ig o)=_
     rw[f7]
     split
     ·rw[hs.igs,g7]
     ·exact hs.igs o)
    ⟨rfl,rfl,rfl,by simp,fun c hc hn=>b5 c fun e=>hn ⟨b,.inl rfl,e ▸ b9⟩⟩
    (fun o c ho hc=>by
     rcases ho with rfl|rfl
     ·unfold Owns at hc
      rw[a3,if_pos rfl]at hc
      have hc:c∈fpv (ρ o) (if o=o then(ρ.inn o).set i (ρ r) else ρ.inn o):=hc
      rw[if_pos rfl]at hc
      obtain⟨u,hu,b8⟩:=yb3.1 hc
      rcases yap.1 hu with rfl|hu
      ·exact .inr ⟨o,.inl rfl,.root b9.lv b8⟩
      ·rcases ycv hu with hu|rfl
       ·obtain⟨n,hn⟩:=ycs hu
        exact .inr ⟨o,.inl rfl,by unfold Owns;rw[a7.trans a8];exact fpk_inn hn b8⟩
       ·exact .inr ⟨r,.inr rfl,.root b7 b8⟩
     ·exact absurd (by rw[a3,if_neg a4,if_pos rfl]) hc.lv)
    (fun o p c ho hp e4 e5=>by
     rcases ho with rfl|rfl
     ·rcases hp with rfl|rfl
      ·rfl
      ·exact absurd (by rw[a3,if_neg a4,if_pos rfl]) e5.lv
     ·exact absurd (by rw[a3,if_neg a4,if_pos rfl]) e4.lv)
    fun hI _ o ho=>by
     by_cases b3:o=b
     ·subst b3;rw[a3,if_pos rfl];show zlr _ _ (ρ o) (if o=o then(ρ.inn o).set i (ρ r) else ρ.inn o) _ _ _ _ _;rw[if_pos rfl];refine⟨fpv_set e0 fun c hc hm=>?_,by rw[ycb,ycb];exact f9,us.set i (ρ r),by rw[ycb];exact c0,?_,fun u hu=>?_,fun i' u hu=>.inr ?_⟩
      ·exact a4 (hs.dis r o c (.root b7 hc) (by unfold Owns;rw[a7.trans a8];exact hm))
      ·rw[ycb];refine⟨by rw[ycb,d2,yc9],.inr ⟨q,g6,_,e1,yag _,setRow_heap w q cur _ e _ e3,f4,d7,?_,?_⟩⟩
       ·rw[ycl,zc8 _ _ _ (by simp;omega),yc9];simpa using b0
       ·rw[yd7,yc9,zmy _ _ _ _ (by simp;omega) (by simp;omega),c8,splice_one (by omega)]
      ·rcases ycv hu with hu|rfl
       ·exact b4 u hu
       ·exact a2
      ·by_cases a6:i'=i
       ·subst a6;rw[ycu (by omega)]at hu;injection hu with hu
        subst hu;exact⟨ycu (by omega),es,ycu (by omega),d5.mono (fun c hc=>b5 c (g5 c hc)) hI⟩
       ·rw[ycx (fun e=>a6 e.symm)]at hu
        obtain⟨g1,f6,g2,g3⟩:=(f5 i' u hu).resolve_left fun hh=>by
         rw[hh.1]at d8;exact a6 d8
        exact⟨by rw[ycx (fun e=>a6 e.symm)];exact g1,f6,by rw[ycx (fun e=>a6 e.symm)];exact g2,g3.mono (fun c hc=>b5 c (d4 i' u hu c hc)) hI⟩
     ·rw[a3,if_neg b3,if_pos (ho.resolve_left b3)];trivial
   refine hK _ _ ⟨ρ2,?_⟩;show SatR B (app σ' ([(.knd r,.kd .dead),(.ign b,.n (σ.ig b+1)),(.knd b,.kd (.grid e e2 k2 (gs.set i [.sl es]) none))]++wrT o.dst (.im (.val undef)))) _ _ _;rw[za2];exact f8.put (zpb hd) (zc9 _)
  ·exact h.elim
 ·exact h.elim
theorem SatR.takeout{a:Act}{w:World}{ρ:Ly}(hs:SatR B σ a w ρ){b d i k:Nat}{e e':TypeId}{gs es:List (List IV)}{u:Value}(hkd:σ.kd b=.grid e e' k gs none)(hdb:d≠b)(hu:(ρ.inn b)[i]?=some u)(hes:gs[i]?=some [.sl es]) :
  let ρ2:Ly:=⟨fun o=>if o=d then u else ρ o,fun o=>if o=b then(ρ.inn b).set i undef else ρ.inn o,fun o=>if o=b then ρ.ig b+1 else ρ.ig o⟩
  SatR B (app σ (zin σ b d i e e' k gs es)) a w ρ2∧∀v x,RepI w (Imm B σ ρ w) v x->RepI w (Imm B (app σ (zin σ b d i e e' k gs es)) ρ2 w) v x:=by
 intro ρ2;obtain⟨us,b4,c8,b2,b8,b3,d7,c0⟩:=zhw hs hkd;obtain⟨d8,b5,a8,c6⟩:=c0 i u hu;have d6:b5=es:=by rw[hes]at a8;simpa using a8.symm
 subst d6
 let τ:St:=app σ (zin σ b d i e e' k gs b5)
 have a6:∀o,τ.kd o=if o=d then .row e' k b5 else if o=b then .grid e e' k gs (some i) else σ.kd o:=fun o=>by
  show(app σ _).kd o=_;unfold zin;simp only[zby,zfr];rw[zfn,kd_gen,zfn,kd_ign]
 have a9:∀o,τ.gn o=if o=d then σ.gn d+1 else σ.gn o:=fun o=>by
  show(app σ _).gn o=_;unfold zin;simp only[zby,zfr];rw[zhl,gn_gen,zhl,gn_ign]
 have d5:∀o,τ.ig o=if o=b then σ.ig b+1 else σ.ig o:=fun o=>by
  show(app σ _).ig o=_;unfold zin;simp only[zby,zfr];rw[zlq,ig_gen,zlq,ig_ign]
 have d0:∀t,τ.av t=σ.av t:=fun t=>by
  show(app σ _).av t=_;unfold zin;simp only[zby,zfr];rw[zj7,av_gen,zj7,av_ign]
 have d1:∀o j,τ.ce o j=σ.ce o j:=fun o j=>by
  show(app σ _).ce o j=_;unfold zin;simp only[zby,zfr];rw[zlo,ce_gen,zlo,ce_ign]
 have a7:zbg undef=none:=rfl
 have b0:∀c,c∈fpv (ρ b) ((ρ.inn b).set i undef)->c∈fpv (ρ b) (ρ.inn b)∧zbg u≠some c:=fun c hc=>by
  obtain⟨x,hx,a3⟩:=yb3.1 hc;rcases yap.1 hx with rfl|hx
  ·exact⟨yb3.2 ⟨_,yb5 ..,a3⟩,fun e=>(zri b4 hu e).1 a3⟩
  ·obtain⟨j,hj⟩:=ycs hx;rw[ydv]at hj;split at hj
   ·split at hj
    ·injection hj with hj
     rw[<- hj,a7]at a3;cases a3
    ·cases hj
   ·rename_i c9;exact⟨yb3.2 ⟨x,yaj _ (zkH hj),a3⟩,fun e=>(zri b4 hu e).2 j x (fun e=>c9 e.symm) hj a3⟩
 have d3:∀c,c∈fpv (ρ b) (ρ.inn b)->Owns σ ρ b c:=fun c hc=>by unfold Owns;rw[hkd];exact hc
 have a5:∀c,Owns τ ρ2 b c->c∈fpv (ρ b) ((ρ.inn b).set i undef):=fun c hc=>by
  unfold Owns at hc;rw[a6,if_neg hdb.symm,if_pos rfl]at hc;have hc:c∈fpv (if b=d then u else ρ b) (if b=b then(ρ.inn b).set i undef else ρ.inn b):=hc
  rwa [if_neg hdb.symm,if_pos rfl]at hc
 have a4:∀c,Owns τ ρ2 d c->zbg u=some c:=fun c hc=>by
  unfold Owns at hc;rw[a6,if_pos rfl]at hc;have hc:c∈(zbg (if d=d then u else ρ d)).toList:=hc;rw[if_pos rfl]at hc;simpa using hc
 obtain⟨c7,hI,_⟩:=hs.step (σ':=τ) (ρ':=ρ2) (w':=w) (fun o=>o=b∨o=d) d0
  (fun o ho=>⟨by rw[a6,if_neg (fun e=>ho (.inr e)),if_neg (fun e=>ho (.inl e))],by rw[a9,if_neg (fun e=>ho (.inr e))],d1 o,by simp only[ρ2];rw[if_neg (fun e=>ho (.inr e))],by simp only[ρ2];rw[if_neg (fun e=>ho (.inl e))],by simp only[ρ2];rw[if_neg (fun e=>ho (.inl e))]⟩)
  (fun o ho=>by
   refine⟨⟨?_,fun e=>?_⟩,?_,fun e=>?_⟩
   ·rw[a9];split
    ·rename_i e;subst e;omega
    ·exact yam _
   ·rw[a9]at e
    by_cases a2:o=d
    ·subst a2;rw[if_pos rfl]at e;omega
    ·simp only[ρ2];rw[if_neg a2]
   ·show ρ.ig o<=(if o=b then ρ.ig b+1 else ρ.ig o)
    split
    ·rename_i e;rw[e];omega
    ·exact yam _
   ·have e:(if o=b then ρ.ig b+1 else ρ.ig o)=ρ.ig o:=e
    show(if o=b then(ρ.inn b).set i undef else ρ.inn o)=_
    split at e
    ·rename_i e2;rw[e2]at e;omega
    ·rename_i e2;rw[if_neg e2])
  (fun o=>by
   show(if o=b then ρ.ig b+1 else ρ.ig o)=_
   rw[d5]
   split
   ·rw[hs.igs]
   ·exact hs.igs o)
  (Belo.refl _ _ _)
  (fun o c ho hc=>by
   rcases ho with rfl|rfl
   ·exact .inr ⟨o,.inl rfl,d3 c (b0 c (a5 c hc)).1⟩
   ·exact .inr ⟨b,.inl rfl,by unfold Owns;rw[hkd];exact fpk_inn hu (a4 c hc)⟩)
  (fun o p c ho hp b6 b7=>by
   rcases ho with rfl|rfl
   ·rcases hp with rfl|rfl
    ·rfl
    ·exact absurd (a4 c b7) (b0 c (a5 c b6)).2
   ·rcases hp with rfl|rfl
    ·exact absurd (a4 c b6) (b0 c (a5 c b7)).2
    ·rfl)
  fun hI _ o ho=>by
   by_cases a2:o=d
   ·subst a2;rw[a6,if_pos rfl];show zj4 _ _ (if o=o then u else ρ o) _ _ _;rw[if_pos rfl];exact c6.mono (fun _ _=>rfl) hI
   ·have b9:=ho.resolve_right a2;subst b9;rw[a6,if_neg a2,if_pos rfl];show zlr _ _ (if o=d then u else ρ o) (if o=o then(ρ.inn o).set i undef else ρ.inn o) _ _ _ _ _;rw[if_neg a2,if_pos rfl];refine⟨fpv_set b4 (fun c hc=>by rw[a7]at hc;cases hc),by rw[ycb];exact c8,us,b2,b8,b3,fun j x hx=>?_⟩;rw[ydv]at hx;split at hx
    ·rename_i d2;split at hx
     ·injection hx with hx
      exact .inl ⟨by rw[d2],hx.symm⟩
     ·cases hx
    ·obtain⟨g1,d4,g2,g3⟩:=c0 j x hx;exact .inr ⟨g1,d4,g2,g3.mono (fun _ _=>rfl) hI⟩
 exact⟨c7,hI⟩
theorem aAppendS_ok{c:Call}{t:TypeId}{x y:Operand}{b g i:Nat}(hop:o.op=.call c)(hc:c.callee=.builtin .append)(hargs:c.args=#[x,y])(hts:c.argTypes=#[t,t])(hx:evA σ x=.sub b g i)(hd:zct B.n o=true)(h:aAppendS P o σ K t x y b g i):∃fx,K fx∧Eff P B o fx.rd σ fx.wr:=by
 unfold aAppendS at h;split at h
 ·rename_i d et e e' k' gs b0 e0 e8;have b6:=zeq e0;split at h
  ·rename_i k by_ new hk f5 hy
   have c7:∀(a:Act) w v' w',(Builtin.append_ #[t,t] o.type #[a.eval x,a.eval y]).run P w=.ok v' w'->(execOp a.eval o).run P w=.ok (.value v') w':=fun a w v' w' hv=>by
    simp[execOp,hop,resolve,hc,hargs,hts,invoke,builtin,hv]
   obtain⟨a7,h'⟩:=h.ok;clear h;simp only[ya0]at a7;obtain⟨⟨⟨⟨c1,c2⟩,c3⟩,c4⟩,c5⟩:=a7;have c0:=zez c1;have b8:e'=et:=yal c2;have d7:k'=k:=yal c3;have f6:d≠b:=fun e=>by rw[e]at c5;simp at c5
   subst b8 d7;obtain⟨it,z,hi,hz,b3,a5,f3⟩:=zkc c4 hk f5;obtain⟨es,⟨b7,d8,a4,a3⟩,h⟩:=h';have h:=h.out;refine⟨_,h,fun σ' hag a w ⟨ρ,hs⟩ K' Q hK=>?_⟩;have ha:∀z∈opd x++opd y,σ' z=σ z:=zay hag;have b2:σ'.ig b=σ.ig b:=zne (za6 hag (.ign b) (by simp));have e3:σ'.kd b=σ.kd b:=zql (za6 hag (.knd b) (by simp));have hg':σ'.gn d=σ.gn d:=zem (za6 hag (.gen d) (by simp));have h1:=za0 hs x;have h2:=za0 hs y;rw[zas (zay ha),hx]at h1
   have e1:fz σ' (evA σ' y)=some (.sl new,[]):=by
    rw[zas (za6 ha)];exact zpe hy fun l hl=>by simp[frd]at hl
   have h2:=fz_ok hs (bs':=[]) (by simp) h2 e1 (by simp)
   have d9:(ρ.inn b)[i]?=some (a.eval x):=by
    generalize a.eval x=v at h1;cases h1 with
    |sub _ _ _ _ _ _ hh=>exact hh ((hs.igs b).trans (b2.trans b7))
   obtain⟨c6,e4⟩:=hs.takeout (d:=d) (e3.trans e8) f6 d9 d8;have e9:=e4 _ _ h2;obtain⟨A,cp,news,hv,b9,c8,d6,a6,b5⟩:=zvv e9 a4;have e5:=zbi a4
   have a8:(app σ' (zin σ' b d i e e' k' gs es)).kd d=.row e' k' es:=by
    unfold zin;simp only[zby,zfr];rw[zfn,if_pos rfl]
   have ho:=c6.obs d;rw[a8]at ho;obtain⟨us,_,f4,_,a2,e7,d4,e2⟩:=ho;simp only[if_pos]at a2;obtain⟨v',w',d0,a9,b4,d1⟩:=zg3 (P:=P) (w:=w) 0 t o.type e' it z k' by_ b6 hi hz b3 a5 f3 c0 (a.eval x) es.length us a2 A new.length cp news (by rw[b9,e5]) a6 c8 (by unfold maxLen;unfold za3 at a3;omega) a3.1 (yag _);unfold Oper.wp;rw[c7 a w v' w' (by rw[hv];exact d0),Oper.upon_value,b0];have e6:=c6.rowed (used:=some d) (d:=d) (fun q hq=>⟨d,rfl,.root (zm5 a8) (by simp only[if_pos];exact hq)⟩) c0 f4 a4 a3.2 a2 a9 b4 d1 e7 b9 d4 c8 e2 b5
   have d2:(app σ' (zin σ' b d i e e' k' gs es)).gn d=σ.gn d+1:=by
    unfold zin;simp only[zby,zfr];rw[zhl,gn_gen,if_pos rfl,hg']
   have d5:zin σ' b d i e e' k' gs es=zin σ b d i e e' k' gs es:=by unfold zin;rw[b2,hg']
   have d3:app σ' (zin σ b d i e e' k' gs es++((.knd d,.kd .dead)::([(.gen d,.n (σ.gn d+2)),(.knd d,.kd (.row e' k' (es++new)))]++[(.tmp d,.av (.osl d (σ.gn d+2)))])))=app (zfj (app σ' (zin σ' b d i e e' k' gs es)) (some d) d (.row e' k' (es++new)) []) [(.tmp d,.av (.osl d ((app σ' (zin σ' b d i e e' k' gs es)).gn d+1)))]:=by
    rw[za2,<- d5,zby,za2];unfold zfj;rw[d2];rfl
   have c9:=zja e6 (row_one a9) (zdl hd b0);rw[<- d3]at c9;exact hK _ _ ⟨_,c9⟩
  ·exact h.elim
 ·exact h.elim
theorem row_src{w:World}{S:Nat->Prop}{v:Value}{e:TypeId}{es:List (List IV)}{k:Nat}(h:zj4 w S v e k es) :
  ∃(A:Option Addr) (c:Nat) (us:List Value),v=.slice A es.length c∧us.length=es.flatten.length∧(∀u∈us,u.oneCell'=true)∧es.length<=17592186044416 ∧
   (0<es.length->∃b q,A=some ⟨b,q,none⟩∧∀(j:Nat) u,us[j]?=some u->w.cell? ⟨b,q+j,none⟩=some u)∧∀(i:Nat) u x,us[i]?=some u->es.flatten[i]?=some x->RepI w S u x:=by
 rcases ycf es.length with h0|h0
 ·obtain⟨us,_,_,h3,h4,h5,h6,h7⟩:=h;have he:es=[]:=yaq h0;subst he;rcases h4.2 with⟨e1,_⟩|⟨q,a3,cur,e1,_⟩
  ·exact⟨none,0,us,e1,h5,h6,h3,fun h=>absurd h (by simp),h7⟩
  ·exact⟨_,a3,us,e1,h5,h6,h3,fun h=>absurd h (by simp),h7⟩
 ·have h':=h;obtain⟨_,_,_,h3,_⟩:=h';obtain⟨q,a3,cur,us,e1,_,_,_,_,_,_,_,_,e7,e8,e9,a2⟩:=h.form h0;exact⟨_,a3,us,e1,e7,e8,h3,fun _=>⟨q,0,rfl,fun j u hu=>by rw[yah];exact zu2 a2 e1 hu⟩,e9⟩
theorem aAppendT_ok{c:Call}{t:TypeId}{x y:Operand}{b g i b2 g2 j:Nat}(hop:o.op=.call c)(hc:c.callee=.builtin .append)(hargs:c.args=#[x,y])(hts:c.argTypes=#[t,t])(hx:evA σ x=.sub b g i)(hy0:evA σ y=.sub b2 g2 j)(hd:zct B.n o=true)(h:aAppendT P o σ K t x y b g i b2 g2 j):∃fx,K fx∧Eff P B o fx.rd σ fx.wr:=by
 unfold aAppendT at h;split at h
 ·rename_i d et e e' k' gs b3 f3 d3;have c0:=zeq f3;split at h
  ·rename_i k by_ hk g5
   have d5:∀(a:Act) w v' w',(Builtin.append_ #[t,t] o.type #[a.eval x,a.eval y]).run P w=.ok v' w'->(execOp a.eval o).run P w=.ok (.value v') w':=fun a w v' w' hv=>by
    simp[execOp,hop,resolve,hc,hargs,hts,invoke,builtin,hv]
   obtain⟨a8,h'⟩:=h.ok;clear h;simp only[ya0]at a8;obtain⟨⟨⟨⟨⟨c1,c2⟩,c3⟩,c4⟩,c5⟩,c6⟩:=a8;have e7:b=b2:=(yal c6).symm;have d1:=zez c1;have c8:e'=et:=yal c2;have e5:k'=k:=yal c3;have g6:d≠b:=fun e=>by rw[e]at c5;simp at c5
   subst c8 e5 e7;obtain⟨it,z,hi,hz,b6,a6,g3⟩:=zkc c4 hk g5;obtain⟨es,new,⟨c7,d4,g8,e6,e9,a4⟩,h⟩:=h';have h:=h.out;refine⟨_,h,fun σ' hag a w ⟨ρ,hs⟩ K' Q hK=>?_⟩;have ha:∀z∈opd x++opd y,σ' z=σ z:=zay hag;have a5:σ'.ig b=σ.ig b:=zne (za6 hag (.ign b) (by simp));have d0:σ'.kd b=σ.kd b:=zql (za6 hag (.knd b) (by simp));have hg':σ'.gn d=σ.gn d:=zem (za6 hag (.gen d) (by simp));have h1:=za0 hs x;have h2:=za0 hs y;rw[zas (zay ha),hx]at h1;rw[zas (za6 ha),hy0]at h2
   have e8:(ρ.inn b)[i]?=some (a.eval x):=by
    generalize a.eval x=v at h1;cases h1 with
    |sub _ _ _ _ _ _ hh=>exact hh ((hs.igs b).trans (a5.trans c7))
   have f9:(ρ.inn b)[j]?=some (a.eval y):=by
    generalize a.eval y=v at h2;cases h2 with
    |sub _ _ _ _ _ _ hh=>exact hh ((hs.igs b).trans (a5.trans d4))
   obtain⟨_,_,_,_,_,_,_,f5⟩:=zhw hs (d0.trans d3);obtain⟨_,g7,a2,b4⟩:=f5 j _ f9;rw[e9]at a2;injection a2 with a2
   injection a2 with a2 _
   injection a2 with a2
   subst a2
   have b5:∀e∈new,e.length=k':=by
    obtain⟨_,_,q,_⟩:=b4;exact q
   obtain⟨d2,f6⟩:=hs.takeout (d:=d) (d0.trans d3) g6 e8 e6;obtain⟨A,cp,news,hv,c9,d6,e4,a7,b7⟩:=row_src b4;have b9:∀(i:Nat) u x,news[i]?=some u->new.flatten[i]?=some x->RepI w _ u x:=fun i u x h1 h2=>f6 _ _ (b7 i u x h1 h2);have f7:=zbi b5
   have a9:(app σ' (zin σ' b d i e e' k' gs es)).kd d=.row e' k' es:=by
    unfold zin;simp only[zby,zfr];rw[zfn,if_pos rfl]
   have ho:=d2.obs d;rw[a9]at ho;obtain⟨us,_,g4,_,a3,g1,e2,f4⟩:=ho;simp only[if_pos]at a3;obtain⟨v',w',d8,b0,b8,d9⟩:=zg3 (P:=P) (w:=w) 0 t o.type e' it z k' by_ c0 hi hz b6 a6 g3 d1 (a.eval x) es.length us a3 A new.length cp news (by rw[c9,f7]) a7 d6 (by unfold maxLen;unfold za3 at a4;omega) a4.1 (yag _);unfold Oper.wp;rw[d5 a w v' w' (by rw[hv];exact d8),Oper.upon_value,b3];have f8:=d2.rowed (used:=some d) (d:=d) (fun q hq=>⟨d,rfl,.root (zm5 a9) (by simp only[if_pos];exact hq)⟩) d1 g4 b5 a4.2 a3 b0 b8 d9 g1 c9 e2 d6 f4 b9
   have e0:(app σ' (zin σ' b d i e e' k' gs es)).gn d=σ.gn d+1:=by
    unfold zin;simp only[zby,zfr];rw[zhl,gn_gen,if_pos rfl,hg']
   have e3:zin σ' b d i e e' k' gs es=zin σ b d i e e' k' gs es:=by unfold zin;rw[a5,hg']
   have e1:app σ' (zin σ b d i e e' k' gs es++((.knd d,.kd .dead)::([(.gen d,.n (σ.gn d+2)),(.knd d,.kd (.row e' k' (es++new)))]++[(.tmp d,.av (.osl d (σ.gn d+2)))])))=app (zfj (app σ' (zin σ' b d i e e' k' gs es)) (some d) d (.row e' k' (es++new)) []) [(.tmp d,.av (.osl d ((app σ' (zin σ' b d i e e' k' gs es)).gn d+1)))]:=by
    rw[za2,<- e3,zby,za2];unfold zfj;rw[e0];rfl
   have d7:=zja f8 (row_one b0) (zdl hd b3);rw[<- e1]at d7;exact hK _ _ ⟨_,d7⟩
  ·exact h.elim
 ·exact h.elim
theorem aMoves_ok{own:List Nat}{x:Operand}(hop:o.op=.move x∨o.op=.assign x)(hd:zct B.n o=true)(h:aMoves own o σ K x):∃fx,K fx∧Eff P B o fx.rd σ fx.wr:=by
 have a3:=aMove_ok (P:=P) (B:=B) (σ:=σ) hop hd;unfold aMoves at h;split at h
 ·rename_i d a2;split at h
  ·split at h
   ·rename_i y bs a6;obtain⟨a5,h⟩:=h.out;refine⟨_,h,fun σ' hag a w ⟨ρ,hs⟩ K' Q hK=>?_⟩;have a4:zdc σ σ' bs:=za6 hag
    have a8:∀p∈bs,σ'.gn p.1=p.2:=fun p hp=>by
     rw[<- a5 p hp];exact zem (a4 (.gen p.1) (by unfold frd;exact ya2.2 ⟨p,hp,by simp⟩))
    have h1:=za0 hs x;have hf:=fz_ok hs (bs':=bs) a8 h1 (by rw[zas (zay hag)];exact zpe a6 a4) fun _ h=>h;obtain⟨a7,_⟩:=hs.kills bs;have run:(execOp a.eval o).run P w=.ok (.value (a.eval x)) w:=by rcases hop with e|e<;>simp[execOp,e]
    unfold Oper.wp;rw[run,Oper.upon_value,a2];refine hK _ _ ⟨ρ,?_⟩;show SatR B (app σ' (fwr bs++[(.tmp d,.av (.im y))])) _ _ _;rw[za2];exact a7.put (d:=some d) (fun t e=>by injection e with e;subst e;exact zdl hd a2) (.im _ _ hf)
   ·exact h.elim
  ·exact⟨_,h,by rw[a2]at a3;exact a3⟩
 ·rename_i a2;exact⟨_,h,by rw[a2]at a3;exact a3⟩
theorem zue{a:Act}{w:World}{ρ:Ly}{S:Nat->Prop}{γ:Nat->Nat}{d:Nat}{us vs:List Value}:∀(fs:List Field) (i:Nat) (xs ys:List AV) (r:Bool),fs.length=xs.length->intFs P i fs=true->eqCs xs ys=some r ->
  (∀(j:Nat) x,xs[j]?=some x->∃u,us[i+j]?=some u∧RepA w S ρ γ u x)->(∀(j:Nat) x,ys[j]?=some x->∃u,vs[i+j]?=some u∧RepA w S ρ γ u x)->(Op.eqFields (d+1) us.toArray vs.toArray fs).run P w=.ok r w
 |[],i,xs,ys,r,hl,_,he,_,_=>by
  have hx:xs=[]:=yaq hl.symm;subst hx;cases ys with
  |nil =>
   simp only[eqCs,zkF]at he;subst he;simp[Op.eqFields]
  |cons y ys=>simp[eqCs]at he
 |f::fs,i,[],ys,r,hl,_,_,_,_=>by simp at hl
 |f::fs,i,x::xs,[],r,_,_,he,_,_=>by simp[eqCs]at he
 |f::fs,i,x::xs,y::ys,r,hl,hF,he,hx,hy=>by
  simp only[eqCs]at he;split at he
  ·rename_i k n k' m r' ex ey er;split at he
   ·rename_i hk;have hk:=of_decide_eq_true hk;subst hk;injection he with he
    subst he;simp only[intFs,intF,ya0,decide_eq_true_eq]at hF;obtain⟨⟨⟨hname,hoff⟩,hty⟩,hF⟩:=hF;have hoff:=yal hoff
    obtain⟨k0,hu⟩:∃k0,P.underlying f.type=some (.int k0):=by
     split at hty
     ·exact⟨_,by assumption⟩
     ·cases hty
    have hp:P.plainKey f.type=true:=by unfold Program.plainKey;rw[hu]
    obtain⟨u,a2,a4⟩:=hx 0 x rfl;obtain⟨v,a3,a5⟩:=hy 0 y rfl;rw[yb4]at a2 a3;have e1:=zcg ex a4;have e2:=zcg ey a5;subst e1 e2;have p1:=run_part_plain (P:=P) w hp (xs:=us.toArray) (off:=f.offset) (v:=.int k n) (by rw[hoff];simpa using a2);have p2:=run_part_plain (P:=P) w hp (xs:=vs.toArray) (off:=f.offset) (v:=.int k m) (by rw[hoff];simpa using a3);have p3:=run_equalIn_int (P:=P) w d f.type k k0 n m hu
    have ih:=zue (a:=a) (d:=d) fs (i+1) xs ys r' (by simpa using hl) hF er (fun j z hz=>by
     have:=hx (j+1) z (by simpa using hz)
     rwa [show i+(j+1)=i+1+j by omega]at this) (fun j z hz=>by
     have:=hy (j+1) z (by simpa using hz)
     rwa [show i+(j+1)=i+1+j by omega]at this)
    simp only[Op.eqFields,if_pos hname,Sem.run_bind,p1,p2,p3,Result.andThen_ok];by_cases h:n=m
    ·subst h;simp[ih]
    ·have:(n==m)=false:=by simpa using h
     simp[this,h]
   ·cases he
  ·cases he
theorem aBinS_ok{op:BinOp}{t z:TypeId}{x y:Operand}(hop:o.op=.binOp op t x y z)(hd:zct B.n o=true)(h:aBinS P o σ K op t x y):∃fx,K fx∧Eff P B o fx.rd σ fx.wr:=by
 unfold aBinS at h;split at h
 ·rename_i xs ys hx hy;split at h
  ·rename_i r hr;obtain⟨hT,h⟩:=h.out
   obtain⟨fs,hu,a6,hF,a7,a4⟩:∃fs,P.underlying t=some (.struct fs)∧fs.toList.length=xs.length∧intFs P 0 fs.toList=true∧P.stoodInHeld t=false∧P.eqGuardType P.depth t=false:=by
    unfold eqT at hT;split at hT
    ·rename_i fs hu;simp only[ya0,ydu]at hT;exact⟨fs,hu,yal hT.1.1.1,hT.1.1.2,hT.1.2,hT.2⟩
    ·cases hT
   have a5:P.fieldsOf t=fs:=by unfold Program.fieldsOf;rw[hu]
   have a3:∀σ' (a:Act) w ρ,SatR B σ' a w ρ->(∀l∈opd x++opd y,σ' l=σ l)->∃us vs:List Value,a.eval x=.agg us.toArray∧a.eval y=.agg vs.toArray∧(Op.equalIn 10000 t (.agg us.toArray) (.agg vs.toArray)).run P w=.ok r w:=fun σ' a w ρ hs hag=>by
    have g1:=za0 hs x;have g2:=za0 hs y;rw[zas (zay hag)]at g1;rw[zas (za6 hag)]at g2;obtain⟨us,e1,r1,_⟩:=zx7 hx g1;obtain⟨vs,e2,r2,_⟩:=zx7 hy g2;refine⟨us,vs,e1,e2,?_⟩;rw[run_equalIn_agg w 9999 t _ _ (by rw[a5];exact hu) a7,a5]
    have get:∀{us:List Value} {xs:List AV},Reps w (Imm B σ' ρ w) ρ σ'.gn us xs->∀(j:Nat) x,xs[j]?=some x->∃u,us[0+j]?=some u∧RepA w (Imm B σ' ρ w) ρ σ'.gn u x:=fun {us xs} hr j x hx=>by
     have hj:=(zkI.1 hx).1;rw[<- hr.1]at hj;exact⟨us[j],by rw[yah];exact zkM hj,hr.2 j _ x (zkM hj) hx⟩
    exact zue (a:=a) (d:=9998) fs.toList 0 xs ys r a6 hF hr (get r1) (get r2)
   split at h
   ·have h:=h.out;refine⟨_,h,Eff.pure hd fun σ' hag a w ρ hs=>⟨.bool r,?_,zc9 _⟩⟩;obtain⟨us,vs,e1,e2,a2⟩:=a3 σ' a w ρ hs hag;simp only[execOp,hop,e1,e2,Sem.run_bind,run_eqGuard_agg w _ t x y _ _ a4,Result.andThen_ok,run_eql_struct,a2,Sem.run_pure]
   ·have h:=h.out;refine⟨_,h,Eff.pure hd fun σ' hag a w ρ hs=>⟨.bool (!r),?_,zc9 _⟩⟩;obtain⟨us,vs,e1,e2,a2⟩:=a3 σ' a w ρ hs hag;simp only[execOp,hop,e1,e2,Sem.run_bind,run_eqGuard_agg w _ t x y _ _ a4,Result.andThen_ok,run_neq_struct,a2,Sem.run_pure]
   ·exact h.elim
  ·exact h.elim
 ·exact h.elim
end
end
section
section
variable {P:Program}{B:Base}{o:Oper}{σ:St}{K:Fx->Prop}
theorem zug{σ':St}{a:Act}{w:World}{ρ:Ly}(h:SatR B σ' a w ρ){bs':yad}(hgk:∀p∈bs',σ'.gn p.1=p.2):∀{l:List (Nat×Operand)} {i:Nat} {vs:List IV} {bs:yad},zx5 σ i l=some (vs,bs)->(∀y∈opdL (l.map (·.2)),σ' y=σ y)->zdc σ σ' bs->(∀b∈bs,b∈bs') ->
  (l.map fun p=>(p.1,a.eval p.2))=(((l.map fun p=>a.eval p.2).zipIdx i).map fun x=>(x.2,x.1))∧zlc w (Imm B (app σ' (fwr bs')) ρ w) (l.map fun p=>a.eval p.2) vs
 |[],i,vs,bs,e,_,_,_=>by
  simp only[zx5,zkF,zkG]at e;rw[<- e.1];exact⟨rfl,rfl,fun i u x hu=>by simp at hu⟩
 |(j,x)::l,i,vs,bs,e,hag,hsame,hs=>by
  simp only[zx5]at e;split at e
  ·rename_i hij;subst hij;split at e
   ·rename_i v b1 vs1 bs1 h1 h2;simp only[zkF,zkG]at e;obtain⟨rfl,rfl⟩:=e;have hx:evA σ' x=evA σ x:=zas fun y hy=>hag y (by simp only[yat,opdL,ya9];exact yas _ hy);have r1:=fz_ok h hgk (za0 h x) (x:=v) (bs:=b1) (by rw[hx];exact zpe h1 hsame.left) fun b hb=>hs b (yas _ hb);obtain⟨r2,r3⟩:=zug h hgk h2 (fun y hy=>hag y (by simp only[yat,opdL,ya9];exact yao _ hy)) hsame.right fun b hb=>hs b (yao _ hb);refine⟨by rw[yat,r2];rfl,by simpa using r3.1,fun n u y hu hy=>?_⟩;cases n with
    |zero=>simp at hu hy;rw[<- hu,<- hy];exact r1
    |succ n=>exact r3.2 n u y (by simpa using hu) (by simpa using hy)
   ·cases e
  ·cases e
theorem cellsI_rep{w:World}{S:Nat->Prop}{v:Value}{x:IV}(h:RepI w S v x)(h0:0<(zhn x).length):zlc w S v.cells.toList (zhn x)∧∀u∈v.cells.toList,u.oneCell'=true:=by
 have one:v.oneCell'=true->zhn x=[x]->zlc w S v.cells.toList (zhn x)∧∀u∈v.cells.toList,u.oneCell'=true:=fun h1 hx=>by
  have:v.cells=#[v]:=by revert h1;cases v<;>simp[Value.oneCell',Value.cells]
  rw[this,hx];refine⟨⟨rfl,fun i u y hu hy=>?_⟩,fun u hu=>by simp at hu;rw[hu];exact h1⟩;cases i with
  |zero=>simp at hu hy;rw[<- hu,<- hy];exact h
  |succ i=>simp at hu
 have h':=h;cases h' with
 |val _ =>
  simp only[zhn]at h0;split at h0
  ·rename_i h1;exact one h1 (by simp only[zhn];rw[if_pos h1])
  ·simp at h0
 |any _=>simp[zhn]at h0
 |ex _ h1=>exact one h1 rfl
 |emp _ _=>exact one rfl rfl
 |sl _ _ _ _ _ _ _ _ _ _ _ _ _ _ _ _=>exact one rfl rfl
 |agg us cs hl h1 hr=>exact⟨⟨by simpa[Value.cells,zhn]using hl,fun i u y hu hy=>hr i u y (by simpa[Value.cells]using hu) hy⟩,fun u hu=>h1 u (by simpa[Value.cells]using hu)⟩
 |ref _ _ _ _ _ _ _ _ _=>exact one rfl rfl
 |fn _ _ _ _ _=>exact one rfl rfl
 |nsl _ _ _ _ _=>exact one rfl rfl
theorem flat_reps{w:World}{S:Nat->Prop}{k:Nat}(hk0:0<k):∀{us:List Value} {vs:List IV},zlc w S us vs->(∀v∈vs,(zhn v).length=k) ->
  (∀u∈us,u.cells.size=k)∧zlc w S (us.flatMap fun u=>u.cells.toList) (vs.map zhn).flatten∧∀u∈us.flatMap fun u=>u.cells.toList,u.oneCell'=true
 |[],[],_,_=>⟨by simp,⟨rfl,by simp⟩,by simp⟩
 |u::us,v::vs,h,hk=>by
  obtain⟨r1,r2⟩:=cellsI_rep (h.2 0 u v rfl rfl) (by rw[hk v (by simp)];exact hk0);obtain⟨r3,r4,r5⟩:=flat_reps hk0 (us:=us) (vs:=vs) ⟨by simpa using h.1,fun i u x hu hx=>h.2 (i+1) u x (by simpa using hu) (by simpa using hx)⟩ fun v hv=>hk v (by simp[hv]);have hl:u.cells.toList.length=k:=by rw[r1.1,hk v (by simp)]
  refine⟨fun x hx=>?_,⟨by simp only[ya9,yat,ybm,zkJ,r1.1,r4.1],fun i x y hx hy=>?_⟩,fun x hx=>?_⟩
  ·rcases yap.1 hx with rfl|hx
   ·simpa using hl
   ·exact r3 x hx
  ·rw[ya9,yay]at hx;rw[yat,ybm,yay]at hy;rw[r1.1]at hx;split at hx
   ·rename_i a2;rw[if_pos a2]at hy;exact r1.2 i x y hx hy
   ·rename_i a2;rw[if_neg a2]at hy;exact r4.2 _ x y hx hy
  ·rw[ya9]at hx;rcases yak.1 hx with hx|hx
   ·exact r2 x hx
   ·exact r5 x hx
 |[],_::_,h,_=>by have:=h.1;simp at this
 |_::_,[],h,_=>by have:=h.1;simp at this
theorem zyh{t et len k:Nat}{w:World}{parts:Array (Nat×Value)}{us:List Value}(hu:P.underlying t=some (.slice et))(hk:szOf P et=some k)(hz:zOk P et k=true)(hb:∃b,byteOf P et=some b)(hk0:0<k)(hsm:len*k<=65536)(hl:us.length=len)(hp:parts.toList=(us.zipIdx 0).map fun x=>(x.2,x.1))(hus:∀u∈us,u.cells.size=k) :
  (Instr.buildSlice t len parts).run P w=.ok (.slice (some ⟨w.heap.size,0,none⟩) len len) (w.alloc (.cells (us.flatMap fun u=>u.cells.toList).toArray et)):=by
 obtain⟨b,hb⟩:=hb;obtain⟨i,z,hi,a5,a4,_,a6⟩:=zkc hz hk hb
 have a2:∀cells:Array Value,cells.size=len*k->Instr.fill (fun j=>some (j*k,k)) cells parts.toList=some (us.flatMap fun u=>u.cells.toList).toArray:=fun cells hc=>by
  rw[hp];exact Great.fill_whole hk0 us cells hus (by rw[hl,hc])
 by_cases h0:len*k=0
 ·have hf:=a2 ((Array.range (len*k)).map ((#[]:Array Value)[·%(#[]:Array Value).size]!)) (by simp);have a3:¬len*k > 2^24:=by omega
  simp[Instr.buildSlice,run_underlying hu,zj6 hk,a3,h0,newRow];simp[h0]at hf;rw[hf];simp
 ·have:=run_buildSlice (P:=P) w t et len parts (us.flatMap fun u=>u.cells.toList).toArray i z hu hi a5 (by rw[a4];omega) (by rw[a4];exact h0) (by rw[a4];exact a2 _ (by simp));exact this
theorem zym{own:List Nat}{t:TypeId}{len:Nat}{parts:Array (Nat×Operand)}(hop:o.op=.buildSlice t len parts)(hd:zct B.n o=true)(hbyt:∀et,zjy P t=some et->∃b,byteOf P et=some b)(h:zng P own o σ K t len parts):∃fx,K fx∧Eff P B o fx.rd σ fx.wr:=by
 unfold zng at h;split at h
 ·rename_i d et a2 c0;have b7:=zeq c0;split at h
  ·rename_i k vs bs hk b0;obtain⟨b3,h⟩:=h.ok;simp only[ya0]at b3;obtain⟨⟨⟨⟨c1,c2⟩,c3⟩,c4⟩,c5⟩:=b3;have a6:vs.length=len:=by simpa using c1
   have b9:=zji c2;have b2:=zez c3;have b6:∀v∈vs,(zhn v).length=k:=fun v hv=>by simpa using ybb.1 c5 v hv
   obtain⟨b8,h⟩:=h.out
   have za4:∀σ' a w ρ,SatR B σ' a w ρ->(∀y∈opdL (parts.toList.map (·.2)),σ' y=σ y)->zdc σ σ' bs->∃us:List Value,(execOp a.eval o).run P w=.ok (.value (.slice (some ⟨w.heap.size,0,none⟩) len len)) (w.alloc (.cells us.toArray et)) ∧
     us.length=len*k∧zlc w (Imm B (app σ' (fwr bs)) ρ w) us (vs.map zhn).flatten∧(∀u∈us,u.oneCell'=true):=fun σ' a w ρ hs hag1 hsame=>by
    have c8:∀p∈bs,σ'.gn p.1=p.2:=fun p hp=>by
     rw[<- b8 p hp];exact zem (hsame (.gen p.1) (by unfold frd;exact ya2.2 ⟨p,hp,by simp⟩))
    obtain⟨r1,r2⟩:=zug hs c8 b0 hag1 hsame (fun _ h=>h);obtain⟨r3,r4,r5⟩:=flat_reps b2 r2 b6;have c6:=zyh (P:=P) (w:=w) (parts:=parts.map fun p=>(p.1,a.eval p.2)) b7 hk c4 (hbyt et c0) b2 b9 (by rw[r2.1,a6]) (by rw[yco];exact r1) r3;refine⟨_,?_,?_,r4,r5⟩
    ·simp only[execOp,hop,Sem.run_bind,c6,Result.andThen_ok,Sem.run_pure]
    ·rw[r4.1,zbi (k:=k) (fun x hx=>by obtain⟨v,hv,rfl⟩:=yae.1 hx;exact b6 v hv),zkK,a6]
   have a5:∀x∈vs.map zhn,x.length=k:=fun x hx=>by obtain⟨v,hv,rfl⟩:=yae.1 hx;exact b6 v hv
   have c9:len<=65536:=yce (Nat.le_mul_of_pos_right len b2) b9;split at h
   ·refine⟨_,h,fun σ' hag a w ⟨ρ,hs⟩ K' Q hK=>?_⟩;obtain⟨us,run,a8,a4,a7⟩:=za4 σ' a w ρ hs (zay (zay hag)) (za6 (zay hag));obtain⟨a3,_⟩:=hs.kills bs;unfold Oper.wp;rw[run,Oper.upon_value,a2];refine hK _ _ ⟨setρ ρ d (.slice (some ⟨w.heap.size,0,none⟩) len len),?_⟩
    have hg:(app σ' (fwr bs)).gn d=σ.gn d:=by
     rw[zt6];exact zem (za6 hag (.gen d) (by simp))
    have m:zw5 (app σ' (fwr bs)) w (w.alloc (.cells us.toArray et)) ρ none (.slice (some ⟨w.heap.size,0,none⟩) len len) none :=
     ⟨World.grownBy_alloc w _ none,(fun b e=>by cases e),fun b e=>.inr (by simp only[zbg,zkF]at e;omega)⟩
    have c7:=a3.new (d:=d) (k:=.row et k (vs.map zhn)) (cs:=[]) m rfl fun hI _=>by
     refine⟨us,b2,a5,by rw[zkK,a6];omega,?_,a4.1,a7,fun i u x hu hx=>hI _ _ (a4.2 i u x hu hx)⟩;simp only[setρ,if_pos,zkK,a6];exact⟨a8,.inr ⟨w.heap.size,len,us.toArray,rfl,yag _,heap_alloc_new w _,yam _,by unfold maxLen;omega,by simpa using a8,by rw[<- a8];simp⟩⟩
    show SatR B (app σ' (fwr bs++(zep σ d (.row et k (vs.map zhn))++[(.tmp d,.av (.osl d (σ.gn d+1)))]))) _ _ _;rw[za2];have:=zrc (σ:=σ) (σ':=app σ' (fwr bs)) (k:=.row et k (vs.map zhn)) (cs:=[]) (v:=.osl d (σ.gn d+1)) hg;simp only[zg9,ybd]at this;rw[this,<- hg];exact zmg c7 rfl (zdl hd a2)
   ·split at h
    ·refine⟨_,h,fun σ' hag a w ⟨ρ,hs⟩ K' Q hK=>?_⟩;obtain⟨us,run,a8,a4,a7⟩:=za4 σ' a w ρ hs (zay hag) (za6 hag);obtain⟨a3,_⟩:=hs.kills bs;unfold Oper.wp;rw[run,Oper.upon_value,a2];have a9:Below w.heap.size w (w.alloc (.cells us.toArray et)):=(Below.refl _ _).alloc (yam _) _;obtain⟨b5,hI⟩:=a3.world a9;refine hK _ _ ⟨ρ,?_⟩;show SatR B (app σ' (fwr bs++[(.tmp d,.av (.im (.nsl (vs.map zhn))))])) _ _ _;rw[za2];refine b5.put (d:=some d) (fun t e=>by injection e with e;subst e;exact zdl hd a2) (.im _ _ ?_);refine .nsl _ _ _ _ (.sl w.heap.size 0 len k len _ us (by rw[zkK,a6]) a5 (yam _) (by omega) ⟨.inr (.inl hs.bel.size),by simp,fun p b4=>?_,fun hz=>?_⟩ a4.1 a7 (fun i u hu=>?_) fun i u x hu hx=>hI _ _ (a4.2 i u x hu hx))
     ·have:=(a3.own p _ b4).2;omega
     ·have:=(a3.res _ hz).1.2;omega
     ·rw[yah];unfold World.cell?;simp only[heap_alloc_new];simpa using hu
    ·refine⟨_,h,fun σ' hag a w ⟨ρ,hs⟩ K' Q hK=>?_⟩;obtain⟨us,run,a8,a4,a7⟩:=za4 σ' a w ρ hs (zay hag) (za6 hag);obtain⟨a3,_⟩:=hs.kills bs;unfold Oper.wp;rw[run,Oper.upon_value,a2];have a9:Below w.heap.size w (w.alloc (.cells us.toArray et)):=(Below.refl _ _).alloc (yam _) _;obtain⟨b5,hI⟩:=a3.world a9;refine hK _ _ ⟨ρ,?_⟩;show SatR B (app σ' (fwr bs++[(.tmp d,.av (.im (.sl (vs.map zhn))))])) _ _ _;rw[za2];refine b5.put (d:=some d) (fun t e=>by injection e with e;subst e;exact zdl hd a2) (.im _ _ ?_);refine .sl w.heap.size 0 len k len _ us (by rw[zkK,a6]) a5 (yam _) (by omega) ⟨.inr (.inl hs.bel.size),by simp,fun p b4=>?_,fun hz=>?_⟩ a4.1 a7 (fun i u hu=>?_) fun i u x hu hx=>hI _ _ (a4.2 i u x hu hx)
     ·have:=(a3.own p _ b4).2;omega
     ·have:=(a3.res _ hz).1.2;omega
     ·rw[yah];unfold World.cell?;simp only[heap_alloc_new];simpa using hu
  ·exact h.elim
 ·exact h.elim
end
end
section
section
variable {P:Program}{B:Base}{o:Oper}{σ:St}{K:Fx->Prop}
theorem imm_block{a:Act}{w w':World}{ρ:Ly}(hs:SatR B σ a w ρ){q:Option Nat}(hg:w.grownBy w' q)(hq:∀b,q=some b->∃o,Owns σ ρ o b):∀u x,RepI w (Imm B σ ρ w) u x->RepI w' (Imm B σ ρ w) u x:=fun u x h =>
 h.mono (fun _ hb=>hb) fun p v hb hc=>by
  rw[World.cell?_of_block (hg.block p.block hb.2.1 fun e=>by
   obtain⟨o,ho⟩:=hq p.block e.symm
   exact hb.2.2.1 o ho)]
  exact hc
theorem aAppendG_ok{c:Call}{t:TypeId}{x y:Operand}{b2 gc:Nat}(hop:o.op=.call c)(hc:c.callee=.builtin .append)(hargs:c.args=#[x,y])(hts:c.argTypes=#[t,t])(hy:evA σ y=.osl b2 gc)(hd:zct B.n o=true)(h:aAppendG P o σ K t x y b2 gc):∃fx,K fx∧Eff P B o fx.rd σ fx.wr:=by
 unfold aAppendG at h;split at h
 ·rename_i d et e e' k a9 d3 h9 b7;have e8:=zeq h9;split at h
  ·rename_i m by_ b gb hm i4 hx;split at h
   ·rename_i e1 e7 k1 gs b8;obtain⟨c0,h'⟩:=h.ok;clear h;simp only[ya0,ydu]at c0;obtain⟨⟨⟨⟨⟨⟨c1,c2⟩,c3⟩,c4⟩,c5⟩,c6⟩,c7⟩:=c0;have c1:=yal c1;have c2:=yal c2;have c3:=yal c3;have c4:=yal c4;have c5:=yal c5;have g5:b≠b2:=fun e=>by rw[e]at c7;simp at c7
    subst c1 c2 c4 c5;subst c3;obtain⟨d1,h⟩:=h'.out;obtain⟨b0,h⟩:=h.out;have h:=h.out;obtain⟨i,z,hi,hz,e3,b6,h8⟩:=zkc c6 hm i4;refine⟨_,h,fun σ' hag a w ⟨ρ,hs⟩ K' Q hK=>?_⟩;have e9:=zay (zay (zay hag));have f6:=za6 (zay (zay hag));have b3:zdc σ σ' [(b,gb),(b2,gc)]:=za6 (zay hag);have d4:=za6 hag;obtain⟨d6,f5,_⟩:=b3.mem (p:=(b,gb)) (by simp);obtain⟨d8,f4,_⟩:=b3.mem (p:=(b2,gc)) (by simp);have d6:σ'.gn b=gb:=d6.trans (d1 (b,gb) (by simp));have d8:σ'.gn b2=gc:=d8.trans (d1 (b2,gc) (by simp));have b8:=f5.trans b8;have b7:=f4.trans b7;have h1:=za0 hs x;rw[zas e9,hx]at h1;have h2:=za0 hs y;rw[zas f6,hy]at h2
    have g9:a.eval x=ρ b:=by
     generalize a.eval x=v at h1;cases h1 with
     |osl _ _ _ _ _ hh=>exact hh d6
    have g7:a.eval y=ρ b2:=by
     generalize a.eval y=v at h2;cases h2 with
     |osl _ _ _ _ _ hh=>exact hh d8
    obtain⟨ub,nb,lb,i8,a7,f8,i6,f3⟩:=zhw hs b8;obtain⟨uc,nc,lc,i7,c8,d2,i5,g4⟩:=zhw hs b7
    obtain⟨A,cp,h7,b5⟩:∃(A:Option Addr) (cp:Nat),ρ b2=.slice A a9.length cp∧(0<a9.length->∃bb q,A=some ⟨bb,q,none⟩∧∀(j:Nat) u,uc[j]?=some u->w.cell? ⟨bb,q+j,none⟩=some u):=by
     rcases c8.2 with⟨e0,h0⟩|⟨q,i3,cur,e0,_⟩
     ·exact⟨none,0,by rw[e0,h0],fun h=>by omega⟩
     ·exact⟨_,i3,e0,fun _=>⟨q,0,rfl,fun j u hu=>by rw[yah];exact zu2 c8 e0 hu⟩⟩
    obtain⟨v',w',f7,a6,a2,f9⟩:=zg3 (P:=P) (w:=w) 0 t o.type e1 i z 1 by_ e8 hi hz e3 b6 h8 (by omega) (ρ b) gs.length ub a7 A a9.length cp uc (by rw[i5,yc9]) b5 d2 (by unfold maxLen;have:=b0.2;omega) (by exact b0.1) (yag _)
    have run:(execOp a.eval o).run P w=.ok (.value v') w':=by
     have e0:(Builtin.append_ #[t,t] o.type #[a.eval x,a.eval y]).run P w=.ok v' w':=by rw[g9,g7,h7];exact f7
     simp[execOp,hop,resolve,hc,hargs,hts,invoke,builtin,e0]
    unfold Oper.wp;rw[run,Oper.upon_value,d3];refine hK _ _ ?_
    have b9:ze0 σ' ρ [(b,gb),(b2,gc)]=fpv (ρ b) (ρ.inn b)++fpv (ρ b2) (ρ.inn b2):=by
     unfold ze0;rw[ya9,ya9,yc8,ybd,b8,b7];rfl
    have a5:(ze0 σ' ρ [(b,gb),(b2,gc)]).Nodup:=zk6 hs (by simp[g5])
    have a3:∀q∈ze0 σ' ρ [(b,gb),(b2,gc)],q<w.heap.size:=fun q hq=>by
     obtain⟨p,_,ho⟩:=zf8.1 hq;exact(hs.own p.1 q ho).2
    have e5:∀q∈ze0 σ' ρ [(b,gb),(b2,gc)],¬Imm B σ' ρ w q:=fun q hq hi=>by
     obtain⟨p,_,ho⟩:=zf8.1 hq;exact hi.2.2.1 p.1 ho
    have d9:∀q,(ρ b).ownBlock=some q->q∈ze0 σ' ρ [(b,gb),(b2,gc)]:=fun q hq=>by
     rw[ziy a7]at hq;rw[b9];refine yas _ ?_;unfold fpv;rw[yci,hq];exact yb5 ..
    have hI:∀u y,RepI w (Imm B σ' ρ w) u y->RepI w' (Imm B σ' ρ w) u y:=imm_block hs a2 fun q hq=>by
     obtain⟨p,_,ho⟩:=zf8.1 (d9 q hq);exact⟨p.1,ho⟩
    -- where the new row of rows lies
    have a4:((ρ.inn b++ρ.inn b2).filterMap zbg).Sublist (ze0 σ' ρ [(b,gb),(b2,gc)]):=by
     rw[b9,yen];refine List.Sublist.append ?_ ?_
     ·unfold fpv;rw[yci];split
      ·exact List.Sublist.refl _
      ·exact ydt _ _
     ·unfold fpv;rw[yci];split
      ·exact List.Sublist.refl _
      ·exact ydt _ _
    have d0:fpv v' (ρ.inn b++ρ.inn b2)=(zbg v').toList++(ρ.inn b++ρ.inn b2).filterMap zbg:=by
     unfold fpv;rw[yci];cases zbg v'<;>rfl
    have a8:∀q,zbg v'=some q->(q=w.heap.size∨zbg (ρ b)=some q)∧q<w'.heap.size:=fun q hq=>by
     refine⟨?_,(a6.lt q (show v'.ownBlock=some q by rw[ziy a6];exact hq)).2⟩;rw[<- ziy a6]at hq;rcases f9 with e|e
     ·right;rw[<- ziy a7,<- e];exact hq
     ·left;rw[e]at hq;exact(Option.some.inj hq).symm
    have g6:(fpv v' (ρ.inn b++ρ.inn b2)).Nodup:=by
     rw[d0];have h3:=a4.nodup a5;cases hq:zbg v' with
     |none=>exact h3
     |some q =>
      refine yb2.2 ⟨fun hm=>?_,h3⟩;rcases (a8 q hq).1 with e|e
      ·have:=a3 q (a4.subset hm);omega
      ·have hm:q∈(ρ.inn b++ρ.inn b2).filterMap zbg:=hm
       have hm:q∈(ρ.inn b).filterMap zbg∨q∈(ρ.inn b2).filterMap zbg:=by
        rw[<- yak,<- yen];exact hm
       rw[b9,ybl]at a5
       have e4:fpv (ρ b) (ρ.inn b)=q::(ρ.inn b).filterMap zbg:=by
        unfold fpv;rw[yci,e]
       rw[e4]at a5;rcases hm with hm|hm
       ·exact(yb2.1 a5.1).1 hm
       ·refine a5.2.2 q (yb5 ..) q ?_ rfl;unfold fpv;rw[yci];split
        ·exact hm
        ·exact yaj _ hm
    have b4:∀u∈ρ.inn b++ρ.inn b2,∀q,zbg u=some q->w'.heap[q]?=w.heap[q]?:=fun u hu q hq=>by
     have hm:q∈(ρ.inn b++ρ.inn b2).filterMap zbg:=yb3.2 ⟨u,hu,hq⟩;refine a2.block q (a3 q (a4.subset hm)) fun e=>?_;rw[ziy a7]at e
     have hm:q∈(ρ.inn b).filterMap zbg∨q∈(ρ.inn b2).filterMap zbg:=by
      rw[<- yak,<- yen];exact hm
     rw[b9,ybl]at a5
     have e4:fpv (ρ b) (ρ.inn b)=q::(ρ.inn b).filterMap zbg:=by
      unfold fpv;rw[yci,<- e]
     rw[e4]at a5;rcases hm with hm|hm
     ·exact(yb2.1 a5.1).1 hm
     ·refine a5.2.2 q (yb5 ..) q ?_ rfl;unfold fpv;rw[yci];split
      ·exact hm
      ·exact yaj _ hm
    have e6:zlr w' (Imm B σ' ρ w) v' (ρ.inn b++ρ.inn b2) e1 e7 k1 (gs++a9) none:=by
     refine⟨g6,by rw[zkJ,zkJ,lb,lc],ub++uc,by rw[zkJ];have:=b0.2;omega,by rw[zkJ];exact a6,fun u hu=>?_,fun j u hu=>.inr ?_⟩
     ·rcases yak.1 hu with hu|hu
      ·exact f8 u hu
      ·exact d2 u hu
     ·have c9:=zkH hu;have el:ub.length=(ρ.inn b).length:=i6.trans lb.symm;have e2:gs.length=(ρ.inn b).length:=lb.symm;by_cases hj:j<(ρ.inn b).length
      ·rw[ybn hj]at hu;obtain⟨g1,es,g2,g3⟩:=f3 j u hu;refine⟨by rw[ybn (by rw[el];exact hj)];exact g1,es,by rw[ybn (by rw[e2];exact hj)];exact g2,g3.mono (b4 u c9) hI⟩
      ·have d5:(ρ.inn b).length<=j:=Nat.le_of_not_lt hj;rw[ybp d5]at hu;obtain⟨g1,es,g2,g3⟩:=g4 _ u hu;refine⟨by rw[ybp (by rw[el];exact d5),el];exact g1,es,by rw[ybp (by rw[e2];exact d5),e2];exact g2,g3.mono (b4 u c9) hI⟩
    have hF:∀q∈fpv v' (ρ.inn b++ρ.inn b2),(w.heap.size<=q∨q∈ze0 σ' ρ [(b,gb),(b2,gc)])∧q<w'.heap.size:=fun q hq=>by
     rw[d0]at hq;rcases yak.1 hq with hq|hq
     ·have hq:zbg v'=some q:=by simpa using hq
      obtain⟨h3,h4⟩:=a8 q hq;refine⟨?_,h4⟩;rcases h3 with e|e
      ·exact .inl (by omega)
      ·exact .inr (d9 q (by rw[ziy a7];exact e))
     ·have h3:=a4.subset hq;have:=a3 q h3;have:=a2.size;exact⟨.inr h3,by omega⟩
    have g8:∀t,some d=some t->t<B.n:=fun t e=>by injection e with e;subst e;exact zdl hd d3
    have d7:v'.oneCell'=true:=row_one a6
    obtain⟨ρ',g1,g2,_⟩:=zr3 hs [(b,gb),(b2,gc)] (by simp[g5]) (S':=Imm B σ' ρ w) (v:=v') (ps:=[]) (τ:=σ) (tp:=false) (d:=d) (l:=[.ow (.grid e1 e7 k1 (gs++a9) none)]) (ys:=[]) (F':=fpv v' (ρ.inn b++ρ.inn b2)) (bx:=[]) (bl:=[]) (ss':=[]) (va:=.osl d (σ.gn d+1))
     ⟨a2.os,a2.tape,a2.output,a2.size,fun q hq hn=>a2.block q hq fun e=>hn (d9 q e.symm)⟩ (fun q hq=>⟨.inl hq,by have:=hq.2.1;have:=a2.size;omega,fun hm=>by
      rcases (hF q hm).1 with e|e
      ·have:=hq.2.1;omega
      ·exact e5 q e hq⟩)
     ⟨_,_,[],rfl,⟨_,[],⟨d7,ρ.inn b++ρ.inn b2,e6,rfl⟩,rfl,rfl⟩,rfl,by
      show fpv v' (ρ.inn b++ρ.inn b2)=(fpv v' (ρ.inn b++ρ.inn b2)++[])++[]
      simp⟩
     g6 hF rfl rfl (by simp) rfl (by simp[zcb,ocPl]) (fun x _=>by simp) (fun p hp=>by
      obtain⟨h5,h6⟩:=zr9 hp
      exact⟨zem (d4 _ h5),zne (d4 _ h6)⟩)
    refine⟨ρ',?_⟩;show SatR B (app σ' (fwr [(b,gb),(b2,gc)]++(zdi σ [(d,.grid e1 e7 k1 (gs++a9) none)]++[(.tmp d,.av (.osl d (σ.gn d+1)))]))) _ _ _;rw[za2,za2];exact g1.put (d:=some d) g8 g2
   ·exact h.elim
  ·exact h.elim
 ·exact h.elim
end
end
section
open Go.RowKit Go.ChangeMaps
section
variable {P:Program}{B:Base}{o:Oper}{σ:St}{K:Fx->Prop}
theorem arr_spec{t e:TypeId}{n:Nat}(h:arrOf P t=some (n,e)):P.underlying t=some (.array n e):=by
 unfold arrOf at h;split at h
 ·rename_i n' e' hu;simp only[zkF,zkG]at h;rw[hu,h.1,h.2]
 ·cases h
theorem aAllocA_ok{t:TypeId}(hop:o.op=.alloc t)(hd:zct B.n o=true)(h:aAllocA P o σ K t):∃fx,K fx∧Eff P B o fx.rd σ fx.wr:=False.elim h
theorem aAllocs_ok{t:TypeId}(hop:o.op=.alloc t)(hd:zct B.n o=true)(h:aAllocs P o σ K t):∃fx,K fx∧Eff P B o fx.rd σ fx.wr:=by
 unfold aAllocs at h;split at h
 ·split at h
  ·exact aAlloc_ok hop hd h
  ·exact aAllocA_ok hop hd h
 ·exact aAlloc_ok hop hd h
theorem aIndexA_ok{t et:TypeId}{n:Nat}{x i:Operand}(hop:o.op=.indexAddr t x i)(ht:arrOf P t=some (n,et))(hd:zct B.n o=true)(h:aIndexA P o σ K n et x i):∃fx,K fx∧Eff P B o fx.rd σ fx.wr:=False.elim h
theorem aLoadA_ok{t:TypeId}{p:Operand}{b g k i j:Nat}(hop:o.op=.load t p)(hp:evA σ p=.elt b g k i j)(hw:wholeA P t k=true)(hd:zct B.n o=true)(h:aLoadA P o σ K t p b g k i j):∃fx,K fx∧Eff P B o fx.rd σ fx.wr:=False.elim h
theorem aLenM_ok{c:Call}{t kt et:TypeId}{ts:List TypeId}{x:Operand}{b g:Nat}{l:List (Value×Value)}(hop:o.op=.call c)(hc:c.callee=.builtin .len)(ha:c.args.toList=[x])(ht:c.argTypes.toList=t::ts)(hm:mapTy P t=some (kt,et))(hx:evA σ x=.osl b g)(hkd:σ.kd b=.map l)(hd:zct B.n o=true)(h:aLenM o σ K x b g l):∃fx,K fx∧Eff P B o fx.rd σ fx.wr:=by
 have a5:c.argTypes[0]?=some t:=by rw[<- yaz,ht];rfl
 have a6:∀a:Act,(c.args.map a.eval)[0]?=some (a.eval x):=fun a=>by rw[<- yaz,yco,ha];rfl
 have hu:=ztk hm;unfold aLenM at h;obtain⟨hg,h⟩:=h.out;have h:=h.out;refine⟨_,h,Eff.pure hd fun σ' hag a w ρ hs=>?_⟩;obtain⟨a4,hg',a7,_⟩:=zds hag;have h1:=za0 hs x;rw[zas a4,hx]at h1;have ho:=hs.obs b;rw[a7.trans hkd]at ho;obtain⟨q,a3,es,e1,e2,e3,a9⟩:=ho;have a8:=MapKept.run_getObj_map (P:=P) e2;generalize hv:a.eval x=v at h1;cases h1 with
 |osl _ _ _ a2 hgg hh =>
  rw[hh (hg'.trans hg),e1]at hv;have hl:l.length=es.size:=by rw[<- e3];simp
  refine⟨.int .i64 es.size,?_,by rw[hl];exact zc9 _⟩;simp only[execOp,hop,resolve,hc,invoke,builtin,Builtin.len_,a5,a6,Sem.run_bind,Sem.run_pure,Result.andThen_ok,run_underlying hu,hv,goInt,a8]
theorem aLookupA_ok{n:Nat}{t:TypeId}{x i:Operand}{ok:Bool}(hop:o.op=.lookup t x i ok)(hka:keyArr P t=some n)(hd:zct B.n o=true)(h:aLookupA P o σ K n t x i ok):∃fx,K fx∧Eff P B o fx.rd σ fx.wr:=False.elim h
theorem zyn{n:Nat}{t:TypeId}{x i y:Operand}(hop:o.op=.mapUpdate t x i y)(hka:keyArr P t=some n)(hd:zct B.n o=true)(h:zvq P o σ K n t x i y):∃fx,K fx∧Eff P B o fx.rd σ fx.wr:=False.elim h
end
end
section
section
variable {P:Program}{B:Base}{o:Oper}{σ:St}{K:Fx->Prop}
theorem zra{α:Type}{p:α->Prop}:∀(ds cs:List α) (i:Nat),(∀x∈cs,p x)->(∀x∈ds,p x)->∀x∈zi9 cs i ds,p x
 |[],cs,i,h,_=>h
 |d::ds,cs,i,h,k=>by
  rw[zi9];refine zra ds _ _ (fun x hx=>?_) fun x hx=>k x (by simp[hx]);rcases ycv hx with h1|h1
  ·exact h x h1
  ·rw[h1];exact k d (by simp)
theorem zn6(off:Nat):∀(vs:List Value) (j:Nat) (cells:Array Value),((vs.zipIdx j).foldl (fun cs (p:Value×Nat)=>cs.setIfInBounds (off+p.2) p.1) cells).toList=zi9 cells.toList (off+j) vs
 |[],j,cells=>rfl
 |v::vs,j,cells=>by
  rw[List.zipIdx_cons,yd9,zn6 off vs,zi9,Array.toList_setIfInBounds,ybv]
theorem zpa{w:World}{S:Nat->Prop}{ρ:Ly}{γ:Nat->Nat}:∀{vs:List Value} {ds:List AV} {us:List Value} {cs:List AV} (i:Nat),Reps w S ρ γ us cs->Reps w S ρ γ vs ds->Reps w S ρ γ (zi9 us i vs) (zi9 cs i ds)
 |[],[],us,cs,i,h,_=>h
 |v::vs,d::ds,us,cs,i,h,k=>by
  rw[zi9,zi9];refine zpa (i+1) ⟨by simpa using h.1,fun j u x hu hx=>?_⟩ ⟨by simpa using k.1,fun j u x hu hx=>k.2 (j+1) u x (by simpa using hu) (by simpa using hx)⟩;rw[ydv]at hu hx;by_cases e:i=j
  ·rw[if_pos e]at hu hx;split at hu
   ·rename_i h1;rw[if_pos (by rw[<- h.1];exact h1)]at hx;injection hu with hu
    injection hx with hx
    rw[<- hu,<- hx];exact k.2 0 v d rfl rfl
   ·cases hu
  ·rw[if_neg e]at hu hx;exact h.2 j u x hu hx
 |[],_::_,_,_,_,_,h=>by have:=h.1;simp at this
 |_::_,[],_,_,_,_,h=>by have:=h.1;simp at this
theorem plc_get{t:TypeId}{ps:yad}(h:plcOf P t=some ps){i off ft m:Nat}(hf:fldOf P t i=some (off,ft))(hm:szOf P ft=some m):ps.toArray[i]?=some (off,m):=by
 obtain⟨fs,x,hu,hx,ho,ht⟩:=fld_spec hf;unfold plcOf at h;rw[hu]at h;simp only at h
 have key:∀(l:List Field) (ps:yad),l.mapM (fun f=>(P.info? f.type).map fun i=>(f.offset,i.size))=some ps->∀(i:Nat) x,l[i]?=some x->∀m,szOf P x.type=some m->ps[i]?=some (x.offset,m):=by
  intro l
  induction l with
  |nil=>intro ps _ i x hx;simp at hx
  |cons f l ih =>
   intro ps hp i x hx m hm;simp only[List.mapM_cons,Option.bind_eq_bind,Option.pure_def]at hp;cases hi:P.info? f.type with
   |none=>simp[hi]at hp
   |some ii =>
    cases hr:l.mapM (fun f=>(P.info? f.type).map fun i=>(f.offset,i.size)) with
    |none=>simp[hi,hr]at hp
    |some rest =>
     simp[hi,hr]at hp;subst hp;cases i with
     |zero =>
      simp at hx;subst hx;unfold szOf at hm;rw[hi]at hm;simp at hm;simp[hm]
     |succ i=>simpa using ih rest hr i x (by simpa using hx) m hm
 have:=key fs.toList ps h i x (by rw[yaz];exact hx) m (by rw[ht];exact hm);rw[<- ho];simpa using this
theorem zxy{t:TypeId}{ps:yad}(hps:plcOf P t=some ps){σ':St}{a:Act}{w:World}{ρ:Ly}(h:SatR B σ' a w ρ):∀{l:List (Nat×Operand)} {cs cs':List AV} {cells:Array Value},buildA P t σ l cs=some cs'->(∀y∈opdL (l.map (·.2)),σ' y=σ y) ->
  Reps w (Imm B σ' ρ w) ρ σ'.gn cells.toList cs->(∀u∈cells.toList,u.oneCell'=true)->∃cells',Instr.fill (ps.toArray[·]?) cells (l.map fun p=>(p.1,a.eval p.2))=some cells'∧Reps w (Imm B σ' ρ w) ρ σ'.gn cells'.toList cs'∧∀u∈cells'.toList,u.oneCell'=true
 |[],cs,cs',cells,e,_,hr,h1=>by
  simp only[buildA,zkF]at e;subst e;exact⟨cells,rfl,hr,h1⟩
 |(i,x)::l,cs,cs',cells,e,hag,hr,h1=>by
  simp only[buildA]at e;split at e
  ·rename_i off ft vs hf hc;split at e
   ·rename_i m hm;split at e
    ·rename_i hchk;rw[ya0]at hchk;have hml:m=vs.length:=by simpa using hchk.1
     have a5:=zji hchk.2;have hx:=za0 h x;rw[zas fun y hy=>hag y (by simp only[yat,opdL,ya9];exact yas _ hy)]at hx;have r1:=zjb hc hx;have r2:=zjd hc hx;have a6:(a.eval x).cells.size=m:=by rw[hml,<- r1.1];simp
     have a2:=zn6 off (a.eval x).cells.toList 0 cells;rw[yb4]at a2;generalize a3:((a.eval x).cells.zipIdx.foldl (fun cs (p:Value×Nat)=>cs.setIfInBounds (off+p.2) p.1) cells)=cells1
     have a4:cells1.toList=zi9 cells.toList off (a.eval x).cells.toList:=by
      rw[<- a2,<- a3,<- Array.foldl_toList,Array.toList_zipIdx]
     obtain⟨cells',q1,q2,q3⟩:=zxy hps h (l:=l) (cells:=cells1) e (fun y hy=>hag y (by simp only[yat,opdL,ya9];exact yao _ hy)) (by rw[a4];exact zpa off hr r1) (by rw[a4];exact zra _ _ _ h1 r2);refine⟨cells',?_,q2,q3⟩;rw[<- q1,<- a3]
     have hg:¬((a.eval x).cells.size≠m∨off+(a.eval x).cells.size > cells.size):=by
      have:=hr.1;simp at this;omega
     simp only[yat,Instr.fill,plc_get hps hf hm];rw[if_neg (by simpa using hg)]
    ·cases e
   ·cases e
  ·cases e
theorem aBuild_ok{t:TypeId}{parts:Array (Nat×Operand)}(hop:o.op=.build t parts)(hd:zct B.n o=true)(h:aBuild P o σ K t parts):∃fx,K fx∧Eff P B o fx.rd σ fx.wr:=by
 unfold aBuild at h;split at h
 ·rename_i z hz;split at h
  ·rename_i cs a8;obtain⟨a2,h⟩:=h.ok;rw[ya0]at a2;refine⟨_,h,Eff.pure hd fun σ' hag a w ρ hs=>?_⟩;obtain⟨ps,a3⟩:=ye2.1 a2.1
   obtain⟨it,zv,a7,a4,a5⟩:∃it zv,P.info? t=some it∧it.zero=some zv∧zv.cells.toList=z:=by
    unfold zeroOf at hz;split at hz
    ·rename_i i hi;cases a4:i.zero with
     |none=>rw[a4]at hz;cases hz
     |some zv =>
      rw[a4]at hz;simp only[yav,zkF]at hz;exact⟨i,zv,hi,a4,hz⟩
    ·cases hz
   obtain⟨fs,hu,a6⟩:∃fs,P.underlying t=some (.struct fs)∧fs.toList.mapM (fun f=>(P.info? f.type).map fun i=>(f.offset,i.size))=some ps:=by
    unfold plcOf at a3;split at a3
    ·rename_i fs hu;exact⟨fs,hu,a3⟩
    ·cases a3
   obtain⟨cells',q1,q2,q3⟩:=zxy a3 hs (cells:=zv.cells) a8 hag (by rw[a5];exact⟨by simp,fun i u y hu hy=>by
    simp only[yan,hu,yav,zkF]at hy
    rw[<- hy]
    exact .im _ _ (.val _)⟩) (by rw[a5];exact fun u hu=>ybb.1 a2.2 u hu)
   refine⟨.agg cells',?_,by simpa using zr1 q2 q3⟩
   have hb:P.built t (parts.map fun(i,x)=>(i,a.eval x)).toList=some cells':=by
    unfold Program.built;simp only[a7,hu,a4,a6,yco];exact q1
   simp only[execOp,hop,Sem.run_bind,run_build w t _ cells' hb,Result.andThen_ok,Sem.run_pure]
  ·exact h.elim
 ·exact h.elim
theorem zvw{pl:Nat->Option (Nat×Nat)}{σ':St}{a:Act}{w:World}{ρ:Ly}(h:SatR B σ' a w ρ):∀{l:List (Nat×Operand)} {cs cs':List AV} {cells:Array Value},buildG pl σ l cs=some cs'->(∀y∈opdL (l.map (·.2)),σ' y=σ y) ->
  Reps w (Imm B σ' ρ w) ρ σ'.gn cells.toList cs->(∀u∈cells.toList,u.oneCell'=true)->∃cells',Instr.fill pl cells (l.map fun p=>(p.1,a.eval p.2))=some cells'∧Reps w (Imm B σ' ρ w) ρ σ'.gn cells'.toList cs'∧∀u∈cells'.toList,u.oneCell'=true
 |[],cs,cs',cells,e,_,hr,h1=>by
  simp only[buildG,zkF]at e;subst e;exact⟨cells,rfl,hr,h1⟩
 |(i,x)::l,cs,cs',cells,e,hag,hr,h1=>by
  simp only[buildG]at e;split at e
  ·rename_i off m vs hf hc;split at e
   ·rename_i hchk;rw[ya0]at hchk;have hml:m=vs.length:=by simpa using hchk.1
    have a5:=zji hchk.2;have hx:=za0 h x;rw[zas fun y hy=>hag y (by simp only[yat,opdL,ya9];exact yas _ hy)]at hx;have r1:=zjb hc hx;have r2:=zjd hc hx;have a6:(a.eval x).cells.size=m:=by rw[hml,<- r1.1];simp
    have a2:=zn6 off (a.eval x).cells.toList 0 cells;rw[yb4]at a2;generalize a3:((a.eval x).cells.zipIdx.foldl (fun cs (p:Value×Nat)=>cs.setIfInBounds (off+p.2) p.1) cells)=cells1
    have a4:cells1.toList=zi9 cells.toList off (a.eval x).cells.toList:=by
     rw[<- a2,<- a3,<- Array.foldl_toList,Array.toList_zipIdx]
    obtain⟨cells',q1,q2,q3⟩:=zvw h (l:=l) (cells:=cells1) e (fun y hy=>hag y (by simp only[yat,opdL,ya9];exact yao _ hy)) (by rw[a4];exact zpa off hr r1) (by rw[a4];exact zra _ _ _ h1 r2);refine⟨cells',?_,q2,q3⟩;rw[<- q1,<- a3]
    have hg:¬((a.eval x).cells.size≠m∨off+(a.eval x).cells.size > cells.size):=by
     have:=hr.1;simp at this;omega
    simp only[yat,Instr.fill,hf];rw[if_neg (by simpa using hg)]
   ·cases e
  ·cases e
theorem aBuildR_ok{t et:TypeId}{n:Nat}{parts:Array (Nat×Operand)}(hop:o.op=.build t parts)(ht:arrOf P t=some (n,et))(hd:zct B.n o=true)(h:aBuildR P o σ K t et parts):∃fx,K fx∧Eff P B o fx.rd σ fx.wr:=by
 unfold aBuildR at h;split at h
 ·rename_i z m hz hm;split at h
  ·rename_i cs a8;obtain⟨a3,h⟩:=h.ok;refine⟨_,h,Eff.pure hd fun σ' hag a w ρ hs=>?_⟩
   obtain⟨it,zv,a7,a2,a4⟩:∃it zv,P.info? t=some it∧it.zero=some zv∧zv.cells.toList=z:=by
    unfold zeroOf at hz;split at hz
    ·rename_i i hi;cases a2:i.zero with
     |none=>rw[a2]at hz;cases hz
     |some zv =>
      rw[a2]at hz;simp only[yav,zkF]at hz;exact⟨i,zv,hi,a2,hz⟩
    ·cases hz
   obtain⟨ie,a5,a6⟩:∃ie,P.info? et=some ie∧ie.size=m:=by
    unfold szOf at hm;cases hi:P.info? et with
    |none=>rw[hi]at hm;cases hm
    |some i =>
     rw[hi]at hm;simp only[yav,zkF]at hm;exact⟨i,rfl,hm⟩
   obtain⟨cells',q1,q2,q3⟩:=zvw hs (cells:=zv.cells) a8 hag (by rw[a4];exact⟨by simp,fun i u y hu hy=>by
    simp only[yan,hu,yav,zkF]at hy
    rw[<- hy]
    exact .im _ _ (.val _)⟩) (by rw[a4];exact fun u hu=>ybb.1 a3 u hu)
   refine⟨.agg cells',?_,by simpa using zr1 q2 q3⟩
   have hb:P.built t (parts.map fun(i,x)=>(i,a.eval x)).toList=some cells':=by
    unfold Program.built;simp only[a7,arr_spec ht,a2,a5,a6,yco];exact q1
   simp only[execOp,hop,Sem.run_bind,run_build w t _ cells' hb,Result.andThen_ok,Sem.run_pure]
  ·exact h.elim
 ·exact h.elim
theorem aIndexX_ok{t:TypeId}{x i:Operand}(hop:o.op=.index t x i)(hd:zct B.n o=true)(h:aIndexX P o σ K t x i):∃fx,K fx∧Eff P B o fx.rd σ fx.wr:=by
 unfold aIndexX at h;split at h
 ·rename_i n et cs k j ht a7 hj;split at h
  ·rename_i m a4 hm;obtain⟨hi,h'⟩:=h.ok;clear h;rw[ya0]at hi;have hn:n=2:=by simpa using hi.1
   have a9:=zji hi.2;subst hn;have hu:=arr_spec ht
   have a3:∀(q:Nat),j=(↑q:Int)->q<2->∀σ',(∀l∈opd x++opd i,σ' l=σ l)->∀a w ρ,SatR B σ' a w ρ->∃u,(execOp a.eval o).run P w=.ok (.value u) w∧RepA w (Imm B σ' ρ w) ρ σ'.gn u (aggA ((cs.drop (q*m)).take m)):=fun q hq hq2 σ' hag a w ρ hs=>by
    have h1:=za0 hs x;rw[zas (zay hag)]at h1;have h2:=za0 hs i;rw[zas (za6 hag)]at h2;obtain⟨us,hv,hr,a2⟩:=zx7 a7 h1;have a5:=zcg hj h2;have ha:=agg_run a4 w;have hz:=zj6 hm w;refine⟨.agg ((us.drop (q*m)).take m).toArray,?_,zr1 ⟨by simp[hr.1],fun j u y hj a8=>?_⟩ fun u a6=>a2 u (ybg (ya3 a6))⟩
    ·have e1:(0:Int)<=j∧j<2:=by omega
     have e2:j.toNat=q:=by omega
     simp[execOp,hop,hv,a5,Instr.index,asIntOf,run_underlying hu,part,ha,hz,e1,e2]
    ·exact hr.2 _ u y (zdh hj).1 (zdh a8).1
   have h:=h'.out;by_cases e:j=0
   ·refine⟨_,h.1 (zkB e),Eff.pure hd fun σ' hag a w ρ hs=>?_⟩;have:=a3 0 (by omega) (by omega) σ' hag a w ρ hs;simpa using this
   ·obtain⟨h1,h⟩:=(h.2 (zkA e)).out;refine⟨_,h,Eff.pure hd fun σ' hag a w ρ hs=>?_⟩;have:=a3 1 (by omega) (by omega) σ' hag a w ρ hs;simpa using this
  ·exact h.elim
 ·exact h.elim
theorem bytes_of_size{t:TypeId}{k:Nat}(h:szOf P t=some k):∃b,byteOf P t=some b:=by
 unfold szOf at h;unfold byteOf;cases hi:P.info? t with
 |none=>rw[hi]at h;cases h
 |some i=>exact⟨i.bytes,rfl⟩
theorem aOp_ok{C:FuncId->List Arg->Rs->Prop}(hC:∀g xs r,C g xs r->SpX P g xs r){own:List Nat}(hd:zct B.n o=true)(h:aOp P own o σ K C):∃fx,K fx∧Eff P B o fx.rd σ fx.wr:=by
 unfold aOp at h;split at h
 ·rename_i x a2;exact aMoves_ok (.inl a2) hd h
 ·rename_i x a2;exact aMoves_ok (.inr a2) hd h
 ·rename_i c x y a2;exact aPick_ok a2 hd h
 ·rename_i t p a2;unfold aLoads at h;split at h
  ·rename_i hp;exact aLoadS_ok a2 hp hd h
  ·rename_i hp;split at h
   ·exact aLoadG_ok a2 hp hd h
   ·split at h
    ·rename_i hw;exact aLoadA_ok a2 hp hw hd h
    ·exact aLoad_ok a2 hd h
  ·exact aLoad_ok a2 hd h
 ·rename_i t p x a2;split at h
  ·rename_i hp;split at h
   ·exact aStoreG_ok a2 hp hd h
   ·exact aStoreE_ok a2 hd hp h
  ·rename_i hp;exact aStoreS_ok a2 hp hd h
  ·exact aStore_ok a2 hd h
 ·rename_i t x a2;exact aBox_ok a2 hd h
 ·rename_i t a2;exact aAllocs_ok a2 hd h
 ·rename_i t p f a2;exact aFieldAddr_ok a2 hd h
 ·rename_i t x f a2;exact aField_ok a2 hd h
 ·rename_i t x i a2;unfold aIndexes at h;split at h
  ·rename_i hx;exact aIndexV_ok a2 hx hd h
  ·rename_i hx;exact aIndexS_ok a2 hx hd h
  ·rename_i hx;split at h
   ·exact aIndexG_ok a2 hx hd h
   ·exact zss a2 hd h
  ·split at h
   ·rename_i ht;exact aIndexA_ok a2 ht hd h
   ·exact zss a2 hd h
 ·rename_i t x lo hi mx a2;cases mx with
  |some m=>exact aSlice3_ok a2 hd h
  |none =>
  replace h:aSlices P o σ K t x lo hi:=h;unfold aSlices at h;split at h
  ·rename_i hx;split at h
   ·split at h
    ·exact aSliceQ_ok a2 hx hd h
    ·exact aSliceV_ok a2 hx hd h
   ·exact aSliceT_ok a2 hx hd h
   ·exact h.elim
  ·exact aSlice_ok a2 hd h
 ·rename_i t parts a2;unfold aBuilds at h;split at h
  ·rename_i ht;exact aBuildR_ok a2 ht hd h
  ·exact aBuild_ok a2 hd h
 ·rename_i t x i a2;exact aIndexX_ok a2 hd h
 ·rename_i t len parts a2;split at h
  ·rename_i d0 b2;split at h
   ·exact False.elim h
   ·refine zym a2 hd (fun et b0=>?_) h;unfold zng at h;split at h
    ·rename_i d b5 b3 a6;rw[b0]at a6;injection a6 with a6
     subst a6;split at h
     ·rename_i k vs bs hk _;exact bytes_of_size hk
     ·exact h.elim
    ·exact h.elim
  ·exact h.elim
 ·rename_i x i a2;exact aExtract_ok a2 hd h
 ·rename_i op t x y t' a2;unfold aBins at h;split at h
  ·exact aBinS_ok a2 hd h
  ·split at h
   ·rename_i hp;exact aBinN_ok a2 hp hd h
   ·split at h
    ·rename_i hp;exact aBinZ_ok a2 hp hd h
    ·exact aBin_ok a2 hd h
 ·rename_i op t x a2;exact aUn_ok a2 hd h
 ·rename_i src dst x a2;obtain⟨hm,h⟩:=h.ok;exact aConvert_ok a2 hd (ye2.1 hm) h
 ·rename_i fn first a9 a2;exact aMakeFunc_ok a2 hd h
 ·rename_i x a2;exact aNilCheck_ok a2 hd h
 ·rename_i t len b4 a2;exact aMakeSlice_ok a2 hd h
 ·rename_i t r a2;exact aMakeMap_ok a2 hd h
 ·rename_i t x i ok a2;split at h
  ·rename_i a7;exact aLookupA_ok a2 a7 hd h
  ·exact aLookup_ok a2 hd h
 ·rename_i t x i y a2;split at h
  ·rename_i a7;exact zyn a2 a7 hd h
  ·exact aMapUpdate_ok a2 hd h
 ·rename_i c a2;unfold aCalls at h;split at h
  ·rename_i b a4;unfold aBuiltin at h;split at h
   ·split at h
    ·rename_i x a3;split at h
     ·rename_i t ts a5;unfold aLens at h;split at h
      ·rename_i hx;split at h
       ·rename_i he;exact aLenV_ok a2 a4 a3 a5 he hx hd h
       ·exact h.elim
      ·rename_i hx;split at h
       ·rename_i he;exact aLenS_ok a2 a4 a3 a5 he hx hd h
       ·exact h.elim
      ·rename_i hx;split at h
       ·split at h
        ·rename_i he;exact aLenG_ok a2 a4 a3 a5 he hx hd h
        ·exact h.elim
       ·split at h
        ·rename_i hm hk;exact aLenM_ok a2 a4 a3 a5 hm hx hk hd h
        ·exact aLen_ok a2 a4 a3 a5 hd h
      ·exact aLen_ok a2 a4 a3 a5 hd h
     ·exact h.elim
    ·exact h.elim
   ·split at h
    ·rename_i x y a3;split at h
     ·rename_i t t' a5;obtain⟨a8,h⟩:=h.ok;have a8:t'=t:=by simpa using a8
      subst a8;split at h
      ·rename_i hx;split at h
       ·rename_i hy;exact aAppendT_ok a2 a4 (by rw[<- yct (xs:=c.args),a3]) (by rw[<- yct (xs:=c.argTypes),a5]) hx hy hd h
       ·exact aAppendS_ok a2 a4 (by rw[<- yct (xs:=c.args),a3]) (by rw[<- yct (xs:=c.argTypes),a5]) hx hd h
      ·split at h
       ·rename_i hy;exact aAppendG_ok a2 a4 (by rw[<- yct (xs:=c.args),a3]) (by rw[<- yct (xs:=c.argTypes),a5]) hy hd h
       ·exact aAppend_ok a2 a4 (by rw[<- yct (xs:=c.args),a3]) (by rw[<- yct (xs:=c.argTypes),a5]) hd h
     ·exact h.elim
    ·exact h.elim
   ·split at h
    ·rename_i x y a3;exact aMax_ok a2 a4 a3 hd h
    ·exact h.elim
   ·split at h
    ·rename_i x y a3;exact aMin_ok a2 a4 a3 hd h
    ·rename_i x y z a3;exact aMin3_ok a2 a4 a3 hd h
    ·exact h.elim
   ·split at h
    ·rename_i x t ts a3 a5;exact aClear_ok a2 a4 a3 a5 hd h
    ·exact h.elim
   ·split at h
    ·rename_i x y t t' a3 a5;exact aCopy_ok a2 a4 a3 a5 hd h
    ·exact h.elim
   ·split at h
    ·rename_i x y t t' a3 a5;exact aDelete_ok a2 a4 a3 a5 hd h
    ·exact h.elim
   ·exact h.elim
  ·rename_i f a4;split at h
   ·split at h
    ·exact aCallH_ok hC a2 a4 hd h
    ·split at h
     ·split at h
      ·exact aCallR_ok hC a2 a4 hd h
      ·exact aCallA_ok hC a2 a4 hd h
     ·exact aCall_ok hC a2 a4 hd h
   ·exact h.elim
  ·exact h.elim
 ·exact h.elim
def EffG(P:Program)(B:Base)(ops:Array Oper)(o:Oper)(rd:List Loc)(σ:St)(wr:List (Loc×Ct)):Prop :=
 ∀σ',(∀l∈rd,σ' l=σ l)->∀a w,Sat B σ' a w->∀(K:Act->World->Prop) (Q:Exit->Act->World->Prop),(∀a' w',Sat B (app σ' wr) a' w'->K a' w') ->
  if Region.wanted o (yielded ops a.tmps)=true then o.wp P a w K Q else K (a.put o.dst undef) w
theorem aGuard_ok{C:FuncId->List Arg->Rs->Prop}(hC:∀g xs r,C g xs r->SpX P g xs r){own:List Nat}{ops:Array Oper}(h:aGuard P C B.n own ops.toList o σ K):∃fx,K fx∧EffG P B ops o fx.rd σ fx.wr:=by
 unfold aGuard at h;obtain⟨hd,h⟩:=h.ok;split at h
 ·rename_i hg;obtain⟨fx,hk,he⟩:=aOp_ok (B:=B) hC hd h;refine⟨fx,hk,fun σ' hag a w hs K' Q hK=>?_⟩;have:Region.wanted o (yielded ops a.tmps)=true:=by simp[Region.wanted,hg]
  rw[if_pos this];exact he σ' hag a w hs K' Q hK
 ·rename_i j a2 hg;split at h
  ·rename_i t ht;split at h
   ·rename_i b hb
    have hy:∀σ' a w,σ' (.tmp t)=σ (.tmp t)->Sat B σ' a w->yielded ops a.tmps j=some b:=fun σ' a w hag ⟨ρ,hs⟩=>by
     have h1:=hs.tms t;have e:σ'.av t=σ.av t:=by unfold St.av;rw[hag]
     rw[e]at h1;have h2:=zkq hb h1;have hj:(ops[j]?).bind (·.dst)=some t:=by rw[<- yaz];exact ht
     have a4:a.tmps[t]?=some (.bool b):=by
      rw[yda]at h2;cases hc:a.tmps[t]? with
      |none=>rw[hc]at h2;cases h2
      |some v=>rw[hc]at h2;simp only[ybq]at h2;rw[h2]
     unfold yielded;rw[hj];simp only[yaw,a4]
    have hw:∀σ' a w,σ' (.tmp t)=σ (.tmp t)->Sat B σ' a w->Region.wanted o (yielded ops a.tmps)=(b==a2):=fun σ' a w hag hs=>by
     simp only[Region.wanted,hg,hy σ' a w hag hs];cases b<;>cases a2<;>rfl
    have h:=h.out;cases hbw:(b==a2) with
    |true =>
     obtain⟨fx,hk,he⟩:=aOp_ok (B:=B) hC hd (h.1 hbw);refine⟨_,hk,fun σ' hag a w hs K' Q hK=>?_⟩;rw[if_pos (by rw[hw σ' a w (hag _ (by simp)) hs];exact hbw)];exact he σ' (fun l hl=>hag l (by simp[hl])) a w hs K' Q hK
    |false =>
     refine⟨_,h.2 hbw,fun σ' hag a w hs K' Q hK=>?_⟩;rw[if_neg (by rw[hw σ' a w (hag _ (by simp)) hs,hbw];simp)];obtain⟨ρ,hs⟩:=hs;exact hK _ _ ⟨ρ,hs.put (zpb hd) (zc9 _)⟩
   ·split at h
    ·rename_i v hv;obtain⟨a3,h⟩:=h.ok
     have hw:∀σ' a w,σ' (.tmp t)=σ (.tmp t)->Sat B σ' a w->Region.wanted o (yielded ops a.tmps)=false:=fun σ' a w hag ⟨ρ,hs⟩=>by
      have h1:=hs.tms t;have e:σ'.av t=σ.av t:=by unfold St.av;rw[hag]
      rw[e,hv]at h1;have h2:=h1.im_inv;have hj:(ops[j]?).bind (·.dst)=some t:=by rw[<- yaz];exact ht
      have hy:yielded ops a.tmps j=none:=by
       unfold yielded;rw[hj];simp only[yaw];cases hc:a.tmps[t]? with
       |none=>rfl
       |some u =>
        have e2:a.tmps.getD t undef=u:=by rw[yda,hc];rfl
        rw[e2]at h2;obtain rfl:u=v:=by cases h2;rfl
        cases u<;>first|rfl|(cases a3)
      simp only[Region.wanted,hg,hy];rfl
     refine⟨_,h,fun σ' hag a w hs K' Q hK=>?_⟩;rw[if_neg (by rw[hw σ' a w (hag _ (by simp)) hs];simp)];obtain⟨ρ,hs⟩:=hs;exact hK _ _ ⟨ρ,hs.put (zpb hd) (zc9 _)⟩
    ·exact h.elim
  ·exact h.elim
end
inductive Runs(P:Program)(B:Base)(ops:Array Oper):List Nat->St->List (Nat×Fx)->St->Prop
 |nil (σ:St):Runs P B ops [] σ [] σ
 |cons (i:Nat) (o:Oper) (l:List Nat) (σ σ':St) (fx:Fx) (fs:List (Nat×Fx)) (ho:ops[i]?=some o) (he:EffG P B ops o fx.rd σ fx.wr) (h:Runs P B ops l (app σ fx.wr) fs σ'):Runs P B ops (i::l) σ ((i,fx)::fs) σ'
section
variable {P:Program}{B:Base}{ops:Array Oper}
theorem aOps_runs{C:FuncId->List Arg->Rs->Prop}(hC:∀g xs r,C g xs r->SpX P g xs r){own:List Nat}:∀(l:List Oper) (k:Nat) (fs0:List Mk) (σ:St) (K:List Mk->St->Prop),(∀j,l[j]?=ops[k+j]?) ->
  aOps P C B.n own ops.toList l fs0 σ K->∃fs σ',Runs P B ops (List.range' k l.length) σ fs σ'∧K (fs0++fs.map fun p=>fxm p.2) σ'
 |[],k,fs0,σ,K,_,h=>⟨[],σ,.nil σ,by simpa[aOps]using h⟩
 |o::l,k,fs0,σ,K,hl,h=>by
  simp only[aOps]at h;obtain⟨fx,h2,he⟩:=aGuard_ok (B:=B) hC h;rw[frcF_eq]at h2;obtain⟨fs,σ',hr,hk⟩:=aOps_runs hC l (k+1) (fs0++[fxm fx]) (app σ fx.wr) K (fun j=>by have:=hl (j+1);simpa[ybv,ycn 1 j]using this) h2;have ho:ops[k]?=some o:=by have:=hl 0;simpa using this.symm
  refine⟨(k,fx)::fs,σ',?_,by simpa using hk⟩;rw[zkL,List.range'_succ];exact .cons k o _ σ σ' fx fs ho he hr
theorem wanted_wp{o:Oper}{i:Nat}(ho:ops[i]?=some o){a:Act}{w:World}{K:Act->World->Prop}{Q:Exit->Act->World->Prop}(h:if Region.wanted o (yielded ops a.tmps)=true then o.wp P a w K Q else K (a.put o.dst undef) w):wpOp P ops Q i K a w:=by
 unfold wpOp;simp only[ho];split
 ·rename_i hw;rw[if_pos hw]at h;exact .inl h
 ·rename_i hw;rw[if_neg hw]at h;exact h
theorem runs_wp{l:List Nat}{σ σ':St}{fs:List (Nat×Fx)}(h:Runs P B ops l σ fs σ'):∀{a:Act} {w:World} {Q:Exit->Act->World->Prop},Sat B σ a w->(∀a' w',Sat B σ' a' w'->Q .normal a' w')->wpOps P ops Q l a w:=by
 induction h with
 |nil σ=>intro a w Q hs hQ;exact hQ a w hs
 |cons i o l σ σ' fx fs ho he hr ih =>
  intro a w Q hs hQ;rw[wpOps_cons];exact wanted_wp ho (he σ (fun _ _=>rfl) a w hs _ Q fun a' w' a2=>ih a2 hQ)
theorem znn{σ:St}{l:Loc}:∀{wr:List (Loc×Ct)},(∀p∈wr,p.1≠l)->(app σ wr) l=σ l:=by
 intro wr
 induction wr generalizing σ with
 |nil=>intro _;rfl
 |cons p wr ih =>
  intro h;show(app (upd σ p.1 p.2) wr) l=σ l;rw[ih fun q hq=>h q (yaj _ hq)];rw[zes,if_neg (fun e=>h p yb5 e.symm)]
theorem app_in{l:Loc}:∀{wr:List (Loc×Ct)} {σ τ:St},(∃p∈wr,p.1=l)->(app σ wr) l=(app τ wr) l:=by
 intro wr
 induction wr with
 |nil=>intro σ τ h;obtain⟨p,hp,_⟩:=h;cases hp
 |cons p wr ih =>
  intro σ τ h;show(app (upd σ p.1 p.2) wr) l=(app (upd τ p.1 p.2) wr) l;by_cases hw:∃q∈wr,q.1=l
  ·exact ih hw
  ·have hn:∀q∈wr,q.1≠l:=fun q hq e=>hw ⟨q,hq,e⟩;rw[znn hn,znn hn];obtain⟨q,hq,e⟩:=h;rcases yap.1 hq with rfl|hq
   ·rw[zes,zes,if_pos e.symm,if_pos e.symm]
   ·exact absurd e (hn q hq)
theorem app_comm{u v:List (Loc×Ct)}(h:∀p∈u,∀q∈v,p.1≠q.1)(σ:St):app (app σ u) v=app (app σ v) u:=by
 funext l;by_cases hu:∃p∈u,p.1=l
 ·have hv:∀q∈v,q.1≠l:=fun q hq e=>by
   obtain⟨p,hp,e'⟩:=hu;exact h p hp q hq (e'.trans e.symm)
  rw[znn hv];exact app_in hu
 ·have hn:∀p∈u,p.1≠l:=fun p hp e=>hu ⟨p,hp,e⟩;rw[znn (σ:=app σ v) hn];by_cases hv:∃q∈v,q.1=l
  ·exact app_in hv
  ·have hm:∀q∈v,q.1≠l:=fun q hq e=>hv ⟨q,hq,e⟩;rw[znn hm,znn hm,znn hn]
theorem bit1_eq(m:Nat)(l:Loc):bit1 m l=Nat.lor m (Nat.pow 2 l.code):=by unfold bit1;rw[p2_eq];rfl
theorem bit1_old(m:Nat)(l:Loc)(i:Nat)(h:m.testBit i=true):(bit1 m l).testBit i=true:=by
 rw[bit1_eq];show(m ||| 2^l.code).testBit i=true
 rw[yev,h,Bool.true_or]
theorem bit1_new(m:Nat)(l:Loc):(bit1 m l).testBit l.code=true:=by
 rw[bit1_eq];show(m ||| 2^l.code).testBit l.code=true
 rw[yev,Nat.testBit_two_pow_self,Bool.or_true]
theorem mskR_old(ls:List Loc):∀(m i:Nat),m.testBit i=true->(mskR ls m).testBit i=true:=by
 induction ls with
 |nil=>intro m i h;exact h
 |cons l r ih=>intro m i h;exact ih _ i (bit1_old m l i h)
theorem mskR_mem{l:Loc}(ls:List Loc):∀(m:Nat),l∈ls->(mskR ls m).testBit l.code=true:=by
 induction ls with
 |nil=>intro m h;cases h
 |cons l' r ih =>
  intro m h;rcases yap.1 h with rfl|h
  ·exact mskR_old r _ _ (bit1_new m l)
  ·exact ih _ h
theorem mskW_eq(ps:List (Loc×Ct)):∀m:Nat,mskW ps m=mskR (ps.map (·.1)) m:=by
 induction ps with
 |nil=>intro m;rfl
 |cons p r ih=>intro m;exact ih _
theorem zta{a b i:Nat}(h:Nat.land a b=0)(ha:a.testBit i=true)(hb:b.testBit i=true):False:=by
 have:(a &&& b).testBit i=true:=by rw[Nat.testBit_and,ha,hb];rfl
 rw[show a &&& b=0 from h,Nat.zero_testBit]at this;cases this
theorem indep_spec{f g:Fx}(h:indep f g=true):(∀p∈f.wr,p.1∉g.rd)∧(∀p∈f.wr,∀q∈g.wr,p.1≠q.1)∧∀p∈g.wr,p.1∉f.rd:=by
 unfold indep indepM at h;have h:=yal h;obtain⟨a2,h3⟩:=Nat.or_eq_zero_iff.1 (show(Nat.lor (Nat.land (fxm f).2 (fxm g).1) (Nat.land (fxm f).2 (fxm g).2)) ||| Nat.land (fxm g).2 (fxm f).1=0 from h);obtain⟨h1,h2⟩:=Nat.or_eq_zero_iff.1 (show Nat.land (fxm f).2 (fxm g).1 ||| Nat.land (fxm f).2 (fxm g).2=0 from a2)
 have wm:∀(f:Fx) p,p∈f.wr->(fxm f).2.testBit p.1.code=true:=fun f p hp=>by
  show(mskW f.wr 0).testBit _=true;rw[mskW_eq];exact mskR_mem _ 0 (yae.2 ⟨p,hp,rfl⟩)
 have rm:∀(f:Fx) l,l∈f.rd->(fxm f).1.testBit l.code=true:=fun f l hl=>mskR_mem _ 0 hl;exact⟨fun p hp hc=>zta h1 (wm f p hp) (rm g _ hc),fun p hp q hq e=>zta h2 (wm f p hp) (e ▸ wm g q hq),fun p hp hc=>zta h3 (wm g p hp) (rm f _ hc)⟩
theorem EffG.agree{o:Oper}{σ σ1:St}{fx:Fx}(h:EffG P B ops o fx.rd σ fx.wr)(hag:∀l∈fx.rd,σ1 l=σ l):EffG P B ops o fx.rd σ1 fx.wr :=
 fun σ' hag' a w hs K Q hK=>h σ' (fun l hl=>(hag' l hl).trans (hag l hl)) a w hs K Q hK
theorem runs_front{l:List Nat}{σ σ':St}{fs:List (Nat×Fx)}(h:Runs P B ops l σ fs σ'){i:Nat}:∀{pre post:List (Nat×Fx)} {fx:Fx},fs=pre++(i,fx)::post->(∀p∈pre,indep p.2 fx=true) ->
  ∃l',Runs P B ops (i::l') σ ((i,fx)::(pre++post)) σ':=by
 induction h with
 |nil σ=>intro pre post fx e _;simp at e
 |cons j o l σ σ' fj fs ho he hr ih =>
  intro pre post fx e hp;cases pre with
  |nil =>
   simp only[ycg,List.cons.injEq,zkG]at e;obtain⟨⟨rfl,rfl⟩,rfl⟩:=e;exact⟨l,.cons j o l σ σ' fj fs ho he hr⟩
  |cons p pre =>
   simp only[ycc,List.cons.injEq]at e;obtain⟨rfl,e⟩:=e;obtain⟨l',a4⟩:=ih e fun q hq=>hp q (yaj _ hq);obtain⟨h1,h2,h3⟩:=indep_spec (hp (j,fj) yb5);cases a4 with
   |cons _ oi _ _ _ _ _ hoi hei hr2 =>
    have a2:EffG P B ops oi fx.rd σ fx.wr:=hei.agree fun l hl=>(znn fun p hp e=>h1 p hp (e ▸ hl)).symm;have a3:EffG P B ops o fj.rd (app σ fx.wr) fj.wr:=he.agree fun l hl=>znn fun p hp e=>h3 p hp (e ▸ hl);refine⟨j::l',.cons i oi _ σ σ' fx _ hoi a2 (.cons j o _ _ σ' fj _ ho a3 ?_)⟩;rw[<- app_comm h2];exact hr2
end
end
section
theorem befStep_spec{acc:List Nat}{o:Oper}{j:Nat}(h:(zqv acc o).testBit j=true):∃e∈o.after.toList,Region.binds .any e=true∧(j=e.on∨(acc.getD e.on 0).testBit j=true):=by
 unfold zqv at h
 have key:∀(l:List Edge) (s:Nat),(l.foldl (fun s e=>if Region.binds .any e=true then s ||| 2^e.on ||| acc.getD e.on 0 else s) s).testBit j=true ->
   s.testBit j=true∨∃e∈l,Region.binds .any e=true∧(j=e.on∨(acc.getD e.on 0).testBit j=true):=by
  intro l
  induction l with
  |nil=>intro s h;exact .inl h
  |cons e l ih =>
   intro s h;rw[yd9]at h;rcases ih _ h with h1|⟨e',he',h2⟩
   ·by_cases hb:Region.binds .any e=true
    ·rw[if_pos hb,yev,yev,yeq,yeq]at h1;rcases h1 with (h1|h1)|h1
     ·exact .inl h1
     ·rw[Nat.testBit_two_pow]at h1;exact .inr ⟨e,by simp,hb,.inl (of_decide_eq_true h1).symm⟩
     ·exact .inr ⟨e,by simp,hb,.inr h1⟩
    ·rw[if_neg hb]at h1;exact .inl h1
   ·exact .inr ⟨e',by simp[he'],h2⟩
 rcases key _ 0 h with h1|h1
 ·simp at h1
 ·exact h1
theorem befs_spec(ops:List Oper):∀(i:Nat) (o:Oper),ops[i]?=some o->∀j,((befs ops).getD i 0).testBit j=true->∃e∈o.after.toList,Region.binds .any e=true∧(j=e.on∨((befs ops).getD e.on 0).testBit j=true):=by
 have key:∀(rest pre:List Oper) (a2:List Nat),a2.length=pre.length->(∀(i:Nat) (o:Oper),pre[i]?=some o->∀j,(a2.getD i 0).testBit j=true->∃e∈o.after.toList,Region.binds .any e=true∧(j=e.on∨(a2.getD e.on 0).testBit j=true)) ->
   (∀(i:Nat) (o:Oper),(pre++rest)[i]?=some o->∀j,((rest.foldl (fun a2 o=>a2++[zqv a2 o]) a2).getD i 0).testBit j=true->∃e∈o.after.toList,Region.binds .any e=true∧(j=e.on∨((rest.foldl (fun a2 o=>a2++[zqv a2 o]) a2).getD e.on 0).testBit j=true)):=by
  intro rest
  induction rest with
  |nil=>intro pre a2 _ h;simpa using h
  |cons o rest ih =>
   intro pre a2 hl h;have e:pre++o::rest=(pre++[o])++rest:=by simp
   rw[e]
   have grow:∀p j,(a2.getD p 0).testBit j=true->((a2++[zqv a2 o]).getD p 0).testBit j=true:=fun p j hj=>by
    by_cases hp:p<a2.length
    ·rw[ybo,yay,if_pos hp,<- ybo];exact hj
    ·rw[ybo,yb6 (by omega)]at hj;simp at hj
   refine ih (pre++[o]) (a2++[zqv a2 o]) (by simp[hl]) fun i o' a3 j hj=>?_;rw[yay]at a3;split at a3
   ·rename_i hi;rw[ybo,yay,if_pos (by omega),<- ybo]at hj;obtain⟨e1,h1,h2,h3⟩:=h i o' a3 j hj;exact⟨e1,h1,h2,h3.imp id (grow _ _)⟩
   ·rename_i hi
    have a4:i=a2.length:=by
     have:=(zkI.1 a3).1;simp at this;omega
    subst a4;have:o'=o:=by simpa[hl]using a3.symm
    subst this;rw[ybo,yay,if_neg (by omega)]at hj;simp at hj;obtain⟨e1,h1,h2,h3⟩:=befStep_spec hj;exact⟨e1,h1,h2,h3.imp id (grow _ _)⟩
 intro i o ho j hj;exact key ops [] [] rfl (by simp) i o (by simpa using ho) j hj
theorem zt9{bs:List Nat}{f:Mk}{i:Nat}:∀{fs:List Mk} {j:Nat},drawRow bs f i j fs=true->∀(k:Nat) g,fs[k]?=some g->indepM f g=true∨(bs.getD (j+k) 0).testBit i=true
 |[],j,_,k,g,h=>by simp at h
 |g0::fs,j,h,k,g,hg=>by
  simp only[drawRow,ya0,yeq]at h;cases k with
  |zero=>simp at hg;subst hg;exact h.1
  |succ k =>
   have:=zt9 h.2 k g (by simpa using hg);rw[show j+1+k=j+(k+1) from by omega]at this;exact this
theorem zur{bs:List Nat}:∀{fs:List Mk} {i:Nat},zwt bs i fs=true->∀(p q:Nat) f g,p<q->fs[p]?=some f->fs[q]?=some g->indepM f g=true∨(bs.getD (i+q) 0).testBit (i+p)=true
 |[],i,_,p,q,f,g,_,hf,_=>by simp at hf
 |f0::fs,i,h,p,q,f,g,hpq,hf,hg=>by
  simp only[zwt,ya0]at h;cases q with
  |zero=>omega
  |succ q =>
   cases p with
   |zero =>
    simp at hf;subst hf;have:=zt9 h.1 q g (by simpa using hg);rw[show i+1+q=i+(q+1) from by omega]at this;exact this
   |succ p =>
    have:=zur h.2 p q f g (by omega) (by simpa using hf) (by simpa using hg);rw[show i+1+q=i+(q+1) from by omega,show i+1+p=i+(p+1) from by omega]at this;exact this
theorem zvl:∀{l:List Oper} {i:Nat},edgeOk i l=true->∀(k:Nat) o,l[k]?=some o->∀e∈o.after.toList,Region.binds .any e=true->e.on<i+k
 |[],i,_,k,o,h=>by simp at h
 |o0::l,i,h,k,o,ho=>by
  simp only[edgeOk,ya0,ybb,yeq,ydu]at h;cases k with
  |zero =>
   simp at ho;subst ho;intro e he hb;rcases h.1 e he with h1|h1
   ·rw[hb]at h1;cases h1
   ·exact zez h1
  |succ k =>
   intro e he hb;have:=zvl h.2 k o (by simpa using ho) e he hb;omega
section
variable {P:Program}{B:Base}{ops:Array Oper}
theorem runs_idx{l:List Nat}{σ σ':St}{fs:List (Nat×Fx)}(h:Runs P B ops l σ fs σ'):fs.map (·.1)=l∧∀i∈l,i<ops.size:=by
 induction h with
 |nil σ=>exact⟨rfl,by simp⟩
 |cons i o l σ σ' fx fs ho he hr ih =>
  refine⟨by simp[ih.1],fun j hj=>?_⟩;rcases yap.1 hj with rfl|hj
  ·exact(yca.1 ho).1
  ·exact ih.2 j hj
def Apart(ops:Array Oper)(fs:List (Nat×Fx)):Prop :=
 fs.Pairwise fun p q=>indep p.2 q.2=true∨((befs ops.toList).getD q.1 0).testBit p.1=true
theorem getD_two{l:Array Bool}{i:Nat}(h:i<l.size)(d d':Bool):l.getD i d=l.getD i d':=by simp[h]
theorem runs_any{Q:Exit->Act->World->Prop}(hed:edgeOk 0 ops.toList=true):∀(fuel:Nat) (listed:Array Bool) (l:List Nat) (σ σ':St) (fs:List (Nat×Fx)) (a:Act) (w:World),listed.size=ops.size->l.length=fuel->(∀i,i∈l↔listed.getD i true=false) ->
  (∀k o,ops[k]?=some o->listed.getD k false=true->∀j,((befs ops.toList).getD k 0).testBit j=true->listed.getD j false=true)->Apart ops fs->l.Pairwise (·<·)->Runs P B ops l σ fs σ'->Sat B σ a w->(∀a' w',Sat B σ' a' w'->Q .normal a' w') ->
  wpAny P .any ops Q fuel listed a w
 |0,listed,l,σ,σ',fs,a,w,hsz,hlen,hmem,hdn,hap,hnd,hr,hs,hQ=>by
  have hl:l=[]:=yaq hlen;subst hl;cases hr with
  |nil _ =>
   refine⟨?_,hQ a w hs⟩;rw[ydq];intro i hi;exact absurd ((hmem i).2 (mem_ready.1 hi).1) (by simp)
 |fuel+1,listed,l,σ,σ',fs,a,w,hsz,hlen,hmem,hdn,hap,hnd,hr,hs,hQ=>by
  obtain⟨hidx,hlt⟩:=runs_idx hr
  have hon:∀i o,ops[i]?=some o->∀e∈o.after.toList,Region.binds .any e=true->e.on<i:=fun i o ho e he hb=>by
   have:=zvl hed i o (by rw[yaz];exact ho) e he hb;omega
  refine⟨fun hnil=>?_,fun i hi=>?_⟩
  ·exfalso;cases l with
   |nil=>simp at hlen
   |cons i l =>
    have hi:=hlt i (by simp)
    have hrd:i∈Region.ready .any ops listed:=by
     rw[mem_ready];refine⟨(hmem i).1 (by simp),ops[i],yc2 hi,fun e he hb=>?_⟩;have h1:=hon i ops[i] (yc2 hi) e (by simpa using he) hb
     have h2:e.on∉i::l:=fun hm=>by
      rcases yap.1 hm with h|h
      ·omega
      ·have:=(yb0.1 hnd).1 _ h;omega
     rw[getD_two (by omega) false true];cases hc:listed.getD e.on true with
     |true=>rfl
     |false=>exact absurd ((hmem _).2 hc) h2
    rw[hnil]at hrd;cases hrd
  ·obtain⟨b8,o,ho,b2⟩:=mem_ready.1 hi;have a7:i∈l:=(hmem i).2 b8;have a6:=hlt i a7
   have a9:∀j,((befs ops.toList).getD i 0).testBit j=true->listed.getD j false=true:=fun j hj=>by
    obtain⟨e,he,hb,h1⟩:=befs_spec ops.toList i o (by rw[yaz];exact ho) j hj;have hl:=b2 e (by simpa using he) hb;have c0:=hon i o ho e he hb;rcases h1 with rfl|h1
    ·exact hl
    ·exact hdn e.on ops[e.on] (yc2 (by omega)) hl j h1
   obtain⟨pre,fx,post,a2⟩:∃pre fx post,fs=pre++(i,fx)::post:=by
    rw[<- hidx]at a7;obtain⟨p,hp,e⟩:=yae.1 a7;obtain⟨pre,post,b6⟩:=List.append_of_mem hp;exact⟨pre,p.2,post,by rw[b6,<- e]⟩
   have a8:∀p∈pre,indep p.2 fx=true:=fun p hp=>by
    unfold Apart at hap;rw[a2,List.pairwise_append]at hap;rcases hap.2.2 p hp (i,fx) yb5 with h1|h1
    ·exact h1
    ·have h2:=a9 p.1 h1;have b0:p.1∈l:=by rw[<- hidx,a2];exact yae.2 ⟨p,yas _ hp,rfl⟩
     have h3:=(hmem p.1).1 b0;rw[getD_two (by rw[hsz];exact hlt _ b0) true false,h2]at h3;cases h3
   obtain⟨l',b5⟩:=runs_front hr a2 a8;have a3:=(runs_idx b5).1;simp only[yat,List.cons.injEq,true_and]at a3;have a4:l=pre.map (·.1)++i::post.map (·.1):=by rw[<- hidx,a2];simp
   have a5:l'=pre.map (·.1)++post.map (·.1):=by rw[<- a3];simp
   have b4:List.Sublist l' l:=by
    rw[a4,a5];exact List.Sublist.append (List.Sublist.refl _) (ydt _ _)
   have b3:i∉l':=by
    rw[a4,List.pairwise_append]at hnd;obtain⟨_,h2,h3⟩:=hnd;rw[a5,yak];rintro (h|h)
    ·have:=h3 i h i (by simp);omega
    ·have:=(yb0.1 h2).1 i h;omega
   cases b5 with
   |cons _ oi _ _ _ _ _ hoi hei hr2 =>
    refine wanted_wp hoi (hei σ (fun _ _=>rfl) a w hs _ Q fun a' w' b7=>?_);refine runs_any hed fuel (listed.setIfInBounds i true) l' _ σ' (pre++post) a' w' (by simp[hsz]) ?_ (fun j=>?_) (fun k ok b9 hk j hj=>?_) ?_ (hnd.sublist b4) hr2 b7 hQ
    ·rw[a4]at hlen;rw[a5];simp at hlen ⊢;omega
    ·by_cases e:j=i
     ·subst e;constructor
      ·intro h;exact absurd h b3
      ·intro h;rw[getD_two (by simp[hsz];exact a6) true false,show(listed.setIfInBounds j true).getD j false=true by simp[hsz,a6]]at h;cases h
     ·rw[getD_set_ne true (Ne.symm e),<- hmem j,a4,a5];simp[e]
    ·by_cases e:k=i
     ·subst e;exact getD_set_true (a9 j hj)
     ·rw[getD_set_ne false (Ne.symm e)]at hk;exact getD_set_true (hdn k ok b9 hk j hj)
    ·unfold Apart at hap ⊢;rw[a2]at hap;exact hap.sublist (List.Sublist.append (List.Sublist.refl _) (ydt _ _))
theorem apart_of{fs:List (Nat×Fx)}{n:Nat}(hidx:fs.map (·.1)=List.range n)(h:zwt (befs ops.toList) 0 (fs.map fun p=>fxm p.2)=true):Apart ops fs:=by
 unfold Apart;rw[ya4];intro p q hp hq a2;have h1:=zur h p q (fxm fs[p].2) (fxm fs[q].2) a2 (by simp[hp]) (by simp[hq])
 have idx:∀r (hr:r<fs.length),fs[r].1=r:=fun r hr=>by
  have:(fs.map (·.1))[r]?=some fs[r].1:=by simp[hr]
  rw[hidx]at this;have a3:fs.length=n:=by have:=congrArg List.length hidx;simpa using this
  rw[ybu (by omega)]at this;injection this with this
  exact this.symm
 rw[idx p hp,idx q hq];unfold indep;simpa only[yah]using h1
theorem aRegion_ok(hm:P.follows .mixedOrders=true){C:FuncId->List Arg->Rs->Prop}(hC:∀g xs r,C g xs r->SpX P g xs r){own:List Nat}{id:Nat}{draw:Bool}{σ:St}{K:Exit->St->Prop}
  (h:aOps P C B.n own ops.toList ops.toList [] σ fun fs σ'=>Chk (!draw||drawOk ops.toList fs) (K .normal σ')) {a:Act} {w:World} (hs:Sat B σ a w) {Q:Exit->Act->World->Prop} (hQ:∀e σ' a' w',K e σ'->Sat B σ' a' w'->Q e a' w'):(Code.region id ops draw).wp P Q a w:=by
 obtain⟨fs,σ',hr,hk⟩:=aOps_runs (B:=B) (ops:=ops) hC ops.toList 0 [] σ _ (fun j=>by simp) h;rw[<- yer]at hr;rw[ycg]at hk;obtain⟨a2,a4⟩:=hk.ok;have a6:ops.toList.length=ops.size:=by simp
 rw[a6]at hr;cases draw with
 |false=>exact wp_region (runs_wp hr hs fun a' w' a3=>hQ .normal σ' a' w' a4 a3)
 |true =>
  simp only[ybh,yeh]at a2;unfold drawOk at a2;rw[ya0]at a2;refine wp_region_any hm ?_;have a5:=(runs_idx hr).1;refine runs_any a2.1 ops.size (Array.replicate ops.size false) (List.range ops.size) σ σ' fs a _ (by simp) (by simp) (fun i=>?_) (fun k o ho hk=>?_) (apart_of a5 a2.2) yec hr ?_ fun a' w' a3=>hQ .normal σ' a' w' a4 a3
  ·by_cases h:i<ops.size
   ·simp[h]
   ·simp[h]
  ·have:k<ops.size:=(yca.1 ho).1;simp[this]at hk
  ·obtain⟨ρ,hs⟩:=hs;exact⟨ρ,(hs.world (w':={ w with drawn:=w.drawn+1 }) ⟨rfl,rfl,rfl,yam _,fun _ _=>rfl⟩).1⟩
end
end
section
theorem least{p:Nat->Prop}(h:∃m,p m):∃m,p m∧∀k,p k->m<=k:=by
 obtain⟨m,hm⟩:=h
 induction m using Nat.strongRecOn with
 |_ m ih =>
  by_cases hk:∃k,k<m∧p k
  ·obtain⟨k,h1,h2⟩:=hk;exact ih k h1 h2
  ·exact⟨m,hm,fun k hp=>by
    rcases ya6 k m with h1|h1
    ·exact absurd ⟨k,h1,hp⟩ hk
    ·exact h1⟩
section
variable {P:Program}{B:Base}
theorem zxd.out{body:(Exit->St->Prop)->St->Prop}{K:Exit->St->Prop}{σ:St}(h:zxd body K σ) :
  ∃(I:Nat->St->Prop) (m:Nat),I m σ∧∀m σ,I m σ->∃σ1 φ,Ent σ σ1∧Holds σ1 φ∧(φ->body (fun e σ'=>match e with|.normal=>∃m',m'<m∧I m' σ'|e=>K e σ') σ1):=by
 unfold zxd at h;exact h
open Classical in
theorem loop_ok{body:Code}{K:Exit->St->Prop}{σ:St}{f:(Exit->St->Prop)->St->Prop}(h:zxd f K σ)
  (hbody:∀(K':Exit->St->Prop) (σ:St),f K' σ->∀a w,Sat B σ a w->∀Q:Exit->Act->World->Prop,(∀e σ' a' w',K' e σ'->Sat B σ' a' w'->Q e a' w')->body.wp P Q a w)
  {a:Act} {w:World} (hs:Sat B σ a w) {Q:Exit->Act->World->Prop} (hQ:∀e σ' a' w',K e σ'->Sat B σ' a' w'->Q e a' w'):(Code.loop body).wp P Q a w:=by
 obtain⟨I,m0,h0,hI⟩:=h.out
 let L:Act->World->Nat->Prop:=fun a w m=>∃σ,I m σ∧Sat B σ a w
 let μ:Act->World->Nat:=fun a w=>if h:∃m,L a w m then Classical.choose (least h) else 0
 refine wp_loop (fun a w=>∃m,L a w m) μ ⟨m0,σ,h0,hs⟩ fun a w hL=>?_;obtain⟨h1,h2⟩:=Classical.choose_spec (least hL);have hμ:μ a w=Classical.choose (least hL):=by simp only[μ];rw[dif_pos hL]
 generalize hm:Classical.choose (least hL)=m at h1 h2 hμ;obtain⟨σ1,hσ1,a6⟩:=h1;obtain⟨σ2,φ,a5,hφ,hb⟩:=hI m σ1 hσ1;have a3:=a5 B a w a6;refine hbody _ σ2 (hb (hφ B a w a3)) a w a3 _ fun e σ' a' w' hk hs'=>?_;cases e with
 |normal =>
  obtain⟨m',a7,a4⟩:=hk;have a2:∃m,L a' w' m:=⟨m',σ',a4,hs'⟩;refine⟨a2,?_⟩;have h3:=(Classical.choose_spec (least a2)).2 m' ⟨σ',a4,hs'⟩;have hμ':μ a' w'=Classical.choose (least a2):=by simp only[μ];rw[dif_pos a2]
  rw[hμ',hμ];omega
 |exit id=>exact hQ _ σ' a' w' hk hs'
 |goto l=>exact hQ _ σ' a' w' hk hs'
 |ret=>exact hQ _ σ' a' w' hk hs'
 |panic ch=>exact hQ _ σ' a' w' hk hs'
 |outgrown=>exact hQ _ σ' a' w' hk hs'
theorem ziq(hm:P.follows .mixedOrders=true){C:FuncId->List Arg->Rs->Prop}(hC:∀g xs r,C g xs r->SpX P g xs r){own:List Nat}:∀(c:Code) (K:Exit->St->Prop) (σ:St),zn7 P C B.n own c K σ->∀a w,Sat B σ a w->∀Q:Exit->Act->World->Prop,
  (∀e σ' a' w',K e σ'->Sat B σ' a' w'->Q e a' w')->c.wp P Q a w
 | .skip,K,σ,h,a,w,hs,Q,hQ=>wp_skip (hQ .normal σ a w h hs)
 | .region id ops draw,K,σ,h,a,w,hs,Q,hQ=>aRegion_ok hm hC (id:=id) h hs hQ
 | .seq x y,K,σ,h,a,w,hs,Q,hQ=>by
  simp only[zn7]at h;split at h
  case h_2 =>
   obtain⟨Post,h1,h2⟩:=h.out;refine wp_seq (ziq hm hC x _ σ h1 a w hs _ fun e σ' a' w' hk hs'=>?_);cases e with
   |normal =>
    obtain⟨σ1,he,hp⟩:=hk;obtain⟨φ,hφ,h3⟩:=h2 σ1 hp;have hs1:=he B a' w' hs';exact ziq hm hC y K σ1 (h3 (hφ B a' w' hs1)) a' w' hs1 Q hQ
   |exit id=>exact hQ _ σ' a' w' hk hs'
   |goto l=>exact hQ _ σ' a' w' hk hs'
   |ret=>exact hQ _ σ' a' w' hk hs'
   |panic ch=>exact hQ _ σ' a' w' hk hs'
   |outgrown=>exact hQ _ σ' a' w' hk hs'
  refine wp_seq (ziq hm hC x _ σ h a w hs _ fun e σ' a' w' hk hs'=>?_);cases e with
  |normal=>exact ziq hm hC y K σ' hk a' w' hs' Q hQ
  |exit id=>exact hQ _ σ' a' w' hk hs'
  |goto l=>exact hQ _ σ' a' w' hk hs'
  |ret=>exact hQ _ σ' a' w' hk hs'
  |panic ch=>exact hQ _ σ' a' w' hk hs'
  |outgrown=>exact hQ _ σ' a' w' hk hs'
 | .cond c x y,K,σ,h,a,w,hs,Q,hQ=>by
  simp only[zn7]at h;split at h
  ·rename_i t ht;obtain⟨h1,h2⟩:=h.out
   have hc:a.eval c=.bool t:=by
    obtain⟨ρ,hs⟩:=hs;exact zkq ht (za0 hs c)
   cases ht':t with
   |true=>exact wp_cond_true (hc.trans (by rw[ht'])) (ziq hm hC x K σ (h1 ht') a w hs Q hQ)
   |false=>exact wp_cond_false (hc.trans (by rw[ht'])) (ziq hm hC y K σ (h2 ht') a w hs Q hQ)
  ·exact h.elim
 | .block id body,K,σ,h,a,w,hs,Q,hQ=>by
  simp only[zn7]at h;split at h
  case h_2 =>
   obtain⟨Post,h1,h2⟩:=h.out
   have a2:∀σ' a' w',(∃σ1,Ent σ' σ1∧Post σ1)->Sat B σ' a' w'->Q .normal a' w':=fun σ' a' w' ⟨σ1,he,hp⟩ hs'=>by
    obtain⟨φ,hφ,h3⟩:=h2 σ1 hp;have hs1:=he B a' w' hs';exact hQ _ σ1 a' w' (h3 (hφ B a' w' hs1)) hs1
   refine wp_block (ziq hm hC body _ σ h1 a w hs _ fun e σ' a' w' hk hs'=>?_);cases e with
   |exit j =>
    simp only at hk;show(if j=id then Q .normal a' w' else Q (.exit j) a' w');by_cases e:j=id
    ·rw[if_pos e]at hk ⊢;exact a2 σ' a' w' hk hs'
    ·rw[if_neg e]at hk ⊢;exact hQ _ σ' a' w' hk hs'
   |normal=>exact a2 σ' a' w' hk hs'
   |goto l=>exact hQ _ σ' a' w' hk hs'
   |ret=>exact hQ _ σ' a' w' hk hs'
   |panic ch=>exact hQ _ σ' a' w' hk hs'
   |outgrown=>exact hQ _ σ' a' w' hk hs'
  refine wp_block (ziq hm hC body _ σ h a w hs _ fun e σ' a' w' hk hs'=>?_);cases e with
  |exit j =>
   simp only at hk;show(if j=id then Q .normal a' w' else Q (.exit j) a' w');by_cases e:j=id
   ·rw[if_pos e]at hk ⊢;exact hQ _ σ' a' w' hk hs'
   ·rw[if_neg e]at hk ⊢;exact hQ _ σ' a' w' hk hs'
  |normal=>exact hQ _ σ' a' w' hk hs'
  |goto l=>exact hQ _ σ' a' w' hk hs'
  |ret=>exact hQ _ σ' a' w' hk hs'
  |panic ch=>exact hQ _ σ' a' w' hk hs'
  |outgrown=>exact hQ _ σ' a' w' hk hs'
 | .loop body,K,σ,h,a,w,hs,Q,hQ=>loop_ok h (fun K' σ h a w hs Q hQ=>ziq hm hC body K' σ h a w hs Q hQ) hs hQ
 | .exit id,K,σ,h,a,w,hs,Q,hQ=>wp_exit (hQ _ σ a w h hs)
 | .ret,K,σ,h,a,w,hs,Q,hQ=>wp_ret (hQ _ σ a w h hs)
 | .rangeFunc ..,_,_,h,_,_,_,_,_=>h.elim
 | .scope body,K,σ,h,a,w,hs,Q,hQ=>by
  refine wp_scope_straight (ziq hm hC body _ σ h a w hs _ fun e σ' a' w' hk hs'=>?_);cases e with
  |goto l=>exact hk.elim
  |exit j=>exact hQ _ σ' a' w' hk hs'
  |normal=>exact hQ _ σ' a' w' hk hs'
  |ret=>exact hQ _ σ' a' w' hk hs'
  |panic ch=>exact hQ _ σ' a' w' hk hs'
  |outgrown=>exact hQ _ σ' a' w' hk hs'
 | .label _,K,σ,h,a,w,hs,Q,hQ=>wp_label (hQ _ σ a w h hs)
 | .goto _,_,_,h,_,_,_,_,_=>h.elim
 | .refuse _,_,_,h,_,_,_,_,_=>h.elim
def resA(P:Program)(σ:St):ResultVar->Option (AV×yad)
 | .tmp t=>some (σ.av t,[])
 | .cell c t=>match σ.av c with
  | .own b g i=>match zyf P t with
   |some false=>if Nat.blt i (zli σ b)=true then some (σ.ce b i,[(b,g)]) else none
   |some true=>match szOf P t with
    |some m=>if(Nat.blt 0 m&&Nat.ble (i+m) (zli σ b))=true then some (aggA ((List.range m).map fun j=>σ.ce b (i+j)),[(b,g)]) else none
    |none=>none
   |none=>none
  |_=>none
def resAs(P:Program)(σ:St):List ResultVar->Option (List AV×yad)
 |[]=>some ([],[])
 |r::l=>match resA P σ r,resAs P σ l with|some (v,b),some (vs,bs)=>some (v::vs,b++bs)|_,_=>none
def outC(σ:St)(c:Oc)(a:AV):Option (Oc×yad×yad):=match c with
 | .im _=>match fz σ a with
  |some (x,bs)=>some (.im x,bs,[])
  |none=>none
 | .ow k0=>match a with
  | .osl b g=>match objG σ b with
   |some k=>some (.ow k,[],[(b,g)])
   |none=>none
  | .im x=>match k0 with
   | .row e k _=>match nilRow x e k with
    |some q=>some (.ow q,[],[])
    |none=>none
   |_=>none
  |_=>none
def outCs(σ:St):List Oc->List AV->Option (List Oc×yad×yad)
 |[],[]=>some ([],[],[])
 |c::cs,a::l=>match outC σ c a,outCs σ cs l with
  |some (x,bs,gs),some (xs,bs',gs')=>some (x::xs,bs++bs',gs++gs')
  |_,_=>none
 |_,_=>none
def zmp(σ:St):Nat->List Arg->List Arg->Option (List Arg×yad×yad)
 |_,[],[]=>some ([],[],[])
 |i,.im _::xs,ys=>zmp σ (i+1) xs ys
 |i,.ow _::xs,ys=>zmp σ (i+1) xs ys
 |i,.box _ _::xs,.box _ cs::ys=>match σ.kd i with
  | .box t _=>match outCs σ cs (zs9 σ i),zmp σ (i+1) xs ys with
   |some (cs',bs,gs),some (l,bs',gs')=>some (.box t cs'::l,bs++bs',((i,0)::gs)++gs')
   |_,_=>none
  |_=>none
 |i,.lent _::xs,.lent _::ys=>match objG σ i,zmp σ (i+1) xs ys with
  |some k,some (l,bs',gs')=>some (.lent k::l,bs',(i,0)::gs')
  |_,_=>none
 |_,_,_=>none
def RetOk(P:Program)(rs:List ResultVar)(xs:List Arg)(σ:St)(r:Rs):Prop :=
 match resAs P σ rs,r with
 |some (vs,c),.mk tp l ys=>Chk (match tp with|true=>!Nat.beq vs.length 1|false=>Nat.beq vs.length 1) (ztm σ c (match outCs σ l vs,zmp σ 0 xs ys with
  |some (l',bs,gs),some (ys',bs',gs')=>Chk (ndB ((gs++gs').map (·.1)) ((bs++bs').map (·.1))) (ztm σ ((bs++bs')++(gs++gs')) (l'=l∧ys'=ys))
  |_,_=>False))
 |none,_=>False
def retK(P:Program)(rs:List ResultVar)(xs:List Arg)(r:Rs):Exit->St->Prop
 | .ret,σ=>RetOk P rs xs σ r
 | .normal,σ=>RetOk P rs xs σ r
 |_,_=>False
def oneRes(tmps:Array Value):ResultVar->Sem Value
 | .tmp t=>pure (tmps.getD t undef)
 | .cell c t=>do loadVar t (<- asAddr (tmps.getD c undef))
theorem results_eq(fn:Func)(tmps:Array Value):results fn tmps=(do let vs <- fn.results.mapM (oneRes tmps);pure (if h:vs.size=1 then vs[0] else .tuple vs)):=by
 unfold results
 have e:(fun r:ResultVar=>match r with
  | .tmp t=>(pure (tmps.getD t undef):Sem Value)
  | .cell a t=>do loadVar t (<- asAddr (tmps.getD a undef)))=oneRes tmps:=funext fun r=>by cases r<;>rfl
 rw[<- e];rfl
theorem resA_ok{σ:St}{a:Act}{w:World}{ρ:Ly}(h:SatR B σ a w ρ){r:ResultVar}{v:AV}{bs:yad}(e:resA P σ r=some (v,bs))(hg:∀p∈bs,σ.gn p.1=p.2) :
  ∃u,(oneRes a.tmps r).run P w=.ok u w∧RepA w (Imm B σ ρ w) ρ σ.gn u v:=by
 cases r with
 |tmp t =>
  simp only[resA,zkF,zkG]at e;rw[<- e.1];exact⟨_,rfl,h.tms t⟩
 |cell c t =>
  simp only[resA]at e;split at e
  ·rename_i b g i hc;have h1:=h.tms c;rw[hc]at h1
   have ld:∀q u,a.tmps.getD c undef=.pointer (some q)->(Instr.loadAt t (.pointer (some q))).run P w=.ok u w->(do loadVar t (<- asAddr (a.tmps.getD c undef)):Sem Value).run P w=.ok u w:=fun q u e1 e2=>by
    simp only[Instr.loadAt,Instr.sureAddr,Sem.run_bind,Sem.run_pure,Result.andThen_ok]at e2;simp only[e1,asAddr,Sem.run_bind,Sem.run_pure,Result.andThen_ok,e2]
   split at e
   ·rename_i a3;split at e
    ·rename_i hi;simp only[zkF,zkG]at e;obtain⟨rfl,rfl⟩:=e;obtain⟨t',m,hk,a7⟩:=zky (zez hi);obtain⟨q,us,e1,_,_,hl,a2,a4,hr⟩:=zkb h h1 (hg (b,g) (by simp)) hk;obtain⟨u,hu⟩:∃u,us[i]?=some u:=⟨_,zkM (by omega)⟩;exact⟨u,ld _ u e1 (zpr a3 (a4 i u hu)),hr i u hu⟩
    ·cases e
   ·rename_i a3;split at e
    ·rename_i m hm;split at e
     ·rename_i hi;simp only[zkF,zkG]at e;obtain⟨rfl,rfl⟩:=e;rw[ya0]at hi;have a9:=zez hi.1;have hi:=zji hi.2;obtain⟨t',m',hk,a7⟩:=zky (σ:=σ) (b:=b) (i:=i) (by omega);have a8:=zsb hk;obtain⟨q,us,e1,_,_,hl,a2,a4,hr⟩:=zkb h h1 (hg (b,g) (by simp)) hk;have a5:((us.drop i).take m).length=m:=by rw[yaf,ya8];omega
      refine⟨.agg ((us.drop i).take m).toArray,ld _ _ e1 (zst a3 (by rw[a5];exact hm) fun j u hj=>a4 (i+j) u (zdh hj).1),zr1 ⟨by rw[a5];simp,fun j u x hj hx=>?_⟩ fun u hu=>a2 u (ybg (ya3 hu))⟩;obtain⟨h3,a6⟩:=zdh hj;simp only[yan,ybu a6,yav,zkF]at hx;rw[<- hx];exact hr _ u h3
     ·cases e
    ·cases e
   ·cases e
  ·cases e
theorem resAs_ok{σ:St}{a:Act}{w:World}{ρ:Ly}(h:SatR B σ a w ρ):∀{rs:List ResultVar} {vs:List AV} {bs:yad},resAs P σ rs=some (vs,bs)->(∀p∈bs,σ.gn p.1=p.2) ->
  ∃us:List Value,(rs.mapM (oneRes a.tmps)).run P w=.ok us w∧Reps w (Imm B σ ρ w) ρ σ.gn us vs
 |[],vs,bs,e,_=>by
  simp only[resAs,zkF,zkG]at e;rw[<- e.1];exact⟨[],by simp,rfl,by simp⟩
 |r::rs,vs,bs,e,hg=>by
  simp only[resAs]at e;split at e
  ·rename_i v b1 vs1 bs1 h1 h2;simp only[zkF,zkG]at e;obtain⟨rfl,rfl⟩:=e;obtain⟨u,hu,hr⟩:=resA_ok h h1 fun p hp=>hg p (yas _ hp);obtain⟨us,hus,hrs⟩:=resAs_ok h h2 fun p hp=>hg p (yao _ hp);refine⟨u::us,?_,by simp[hrs.1],fun i x y hx hy=>?_⟩
   ·rw[List.mapM_cons];simp only[Sem.run_bind,hu,Result.andThen_ok,hus,Sem.run_pure]
   ·cases i with
    |zero=>simp at hx hy;rw[<- hx,<- hy];exact hr
    |succ i=>exact hrs.2 i x y (by simpa using hx) (by simpa using hy)
  ·cases e
theorem outC_ok{σ:St}{a:Act}{w:World}{ρ:Ly}(h:SatR B σ a w ρ){bs0:yad}(hgk:∀p∈bs0,σ.gn p.1=p.2){c:Oc}{u:Value}{v:AV}{x:Oc}{bs gs:yad}(hu:RepA w (Imm B σ ρ w) ρ σ.gn u v)(e:outC σ c v=some (x,bs,gs))(hb:∀p∈bs,p∈bs0)(hg:∀p∈gs,σ.gn p.1=p.2) :
  OcOk w (Imm B (app σ (fwr bs0)) ρ w) u x (ze0 σ ρ gs):=by
 have hI:=(h.kills bs0).2;unfold outC at e;split at e
 ·split at e
  ·rename_i y bs' hy;simp only[zkF,zkG]at e;obtain⟨rfl,rfl,rfl⟩:=e;exact⟨fz_ok h hgk hu hy hb,rfl⟩
  ·cases e
 ·split at e
  ·rename_i b g;split at e
   ·rename_i k hk;simp only[zkF,zkG]at e;obtain⟨rfl,rfl,rfl⟩:=e;have a2:=hg (b,g) (by simp)
    have hv:u=ρ b:=by
     cases hu with
     |osl _ _ _ _ _ hh=>exact hh a2
    have hh:=zu5 h hk;subst hv;refine⟨hh.one,ρ.inn b,hh.mono (fun _ _=>rfl) hI,?_⟩;unfold ze0;rw[ya9,yc8,ybd,(zma hk).1]
   ·cases e
  ·have hu:=hu.im_inv;split at e
   ·split at e
    ·rename_i q hq;simp only[zkF,zkG]at e;obtain⟨rfl,rfl,rfl⟩:=e;obtain⟨rfl,k',rfl⟩:=zqr hq;cases hu;exact nil_oc _ _ _ _
    ·cases e
   ·cases e
  ·cases e
theorem outCs_ok{σ:St}{a:Act}{w:World}{ρ:Ly}(h:SatR B σ a w ρ){bs0:yad}(hgk:∀p∈bs0,σ.gn p.1=p.2):∀{cs:List Oc} {us:List Value} {vs:List AV} {xs:List Oc} {bs gs:yad},Reps w (Imm B σ ρ w) ρ σ.gn us vs->outCs σ cs vs=some (xs,bs,gs)->(∀p∈bs,p∈bs0)->(∀p∈gs,σ.gn p.1=p.2) ->
  zmo w (Imm B (app σ (fwr bs0)) ρ w) us xs (ze0 σ ρ gs)
 |[],us,[],xs,bs,gs,hr,e,_,_=>by
  simp only[outCs,zkF,zkG]at e;rw[<- e.1,<- e.2.2,yaq hr.1];exact rfl
 |[],_,_::_,_,_,_,_,e,_,_=>by simp[outCs]at e
 |_::_,_,[],_,_,_,_,e,_,_=>by simp[outCs]at e
 |c::cs,[],v::vs,_,_,_,hr,_,_,_=>by have:=hr.1;simp at this
 |c::cs,u::us,v::vs,xs,bs,gs,hr,e,hb,hg=>by
  simp only[outCs]at e;split at e
  ·rename_i x b1 g1 xs1 bs1 gs1 h1 h2;simp only[zkF,zkG]at e;obtain⟨rfl,rfl,rfl⟩:=e
   exact⟨_,_,outC_ok h hgk (hr.2 0 u v rfl rfl) h1 (fun p hp=>hb p (yas _ hp)) fun p hp=>hg p (yas _ hp),
    outCs_ok h hgk ⟨by simpa using hr.1,fun i u x hu hx=>hr.2 (i+1) u x (by simpa using hu) (by simpa using hx)⟩ h2 (fun p hp=>hb p (yao _ hp)) fun p hp=>hg p (yao _ hp),zgq _ _ _⟩
  ·cases e
def zsj(xs:List Arg)(vs:List Value)(o:Nat):Option Value:=match xs[o]? with
 |some (.box _ _)=>vs[o]?
 |some (.lent _)=>vs[o]?
 |_=>none
theorem zry{σ:St}{a:Act}{w:World}{ρ:Ly}(h:SatR B σ a w ρ){bs0:yad}(hgk:∀p∈bs0,σ.gn p.1=p.2):∀{xs:List Arg} {vs:List Value} {i:Nat} {ys ys':List Arg} {bs gs:yad},vs.length=xs.length->(∀j v,zsj xs vs j=some v->B.L (i+j)=some v)->zmp σ i xs ys=some (ys',bs,gs)->(∀p∈bs,p∈bs0)->(∀p∈gs,σ.gn p.1=p.2) ->
  zet w (Imm B (app σ (fwr bs0)) ρ w) (bxVs vs xs) ys' (ze0 σ ρ gs)
 |[],[],i,ys,ys',bs,gs,hl,hL,e,hb,hg=>by
  cases ys with
  |nil =>
   simp only[zmp,zkF,zkG]at e;rw[<- e.1,<- e.2.2];exact rfl
  |cons _ _=>simp[zmp]at e
 |[],_::_,_,_,_,_,_,hl,_,_,_,_=>by simp at hl
 |_::_,[],_,_,_,_,_,hl,_,_,_,_=>by simp at hl
 | .im x::xs,v::vs,i,ys,ys',bs,gs,hl,hL,e,hb,hg=>by
  have e:zmp σ (i+1) xs ys=some (ys',bs,gs):=by cases ys<;>exact e
  exact zry h hgk (xs:=xs) (vs:=vs) (i:=i+1) (by simpa using hl) (fun j v hv=>by rw[ybv,ycn 1 j];exact hL (j+1) v (by simpa[zsj]using hv)) e hb hg
 | .ow k::xs,v::vs,i,ys,ys',bs,gs,hl,hL,e,hb,hg=>by
  have e:zmp σ (i+1) xs ys=some (ys',bs,gs):=by cases ys<;>exact e
  exact zry h hgk (xs:=xs) (vs:=vs) (i:=i+1) (by simpa using hl) (fun j v hv=>by rw[ybv,ycn 1 j];exact hL (j+1) v (by simpa[zsj]using hv)) e hb hg
 | .lent _::xs,v::vs,i,[],ys',bs,gs,hl,hL,e,hb,hg=>by simp[zmp]at e
 | .lent _::xs,v::vs,i,.im _::ys,ys',bs,gs,hl,hL,e,hb,hg=>by simp[zmp]at e
 | .lent _::xs,v::vs,i,.ow _::ys,ys',bs,gs,hl,hL,e,hb,hg=>by simp[zmp]at e
 | .lent _::xs,v::vs,i,.box _ _::ys,ys',bs,gs,hl,hL,e,hb,hg=>by simp[zmp]at e
 | .box _ _::xs,v::vs,i,.lent _::ys,ys',bs,gs,hl,hL,e,hb,hg=>by simp[zmp]at e
 | .lent k0::xs,v::vs,i,.lent k1::ys,ys',bs,gs,hl,hL,e,hb,hg=>by
  unfold zmp at e;split at e
  ·rename_i k l b2 g2 hk h2;simp only[zkF,zkG]at e;obtain⟨rfl,rfl,rfl⟩:=e;have a2:σ.gn i=0:=hg (i,0) (by simp);have hv:ρ i=v:=h.rt i v (by have:=hL 0 v (by simp[zsj]);simpa using this) a2;have hh:=zu5 h hk;have hI:=(h.kills bs0).2
   refine⟨fpk (ρ i) (ρ.inn i) k,ze0 σ ρ g2,⟨by rw[<- hv];exact hh.one,ρ.inn i,by rw[<- hv];exact hh.mono (fun _ _=>rfl) hI,by rw[<- hv]⟩,
    zry h hgk (xs:=xs) (vs:=vs) (i:=i+1) (by simpa using hl) (fun j v hv=>by rw[ybv,ycn 1 j];exact hL (j+1) v (by simpa[zsj]using hv)) h2 hb (fun p hp=>hg p (by simp[hp])),?_⟩
   unfold ze0;rw[ya9,(zma hk).1]
  ·cases e
 | .box t0 c0::xs,v::vs,i,[],ys',bs,gs,hl,hL,e,hb,hg=>by simp[zmp]at e
 | .box t0 c0::xs,v::vs,i,.im _::ys,ys',bs,gs,hl,hL,e,hb,hg=>by simp[zmp]at e
 | .box t0 c0::xs,v::vs,i,.ow _::ys,ys',bs,gs,hl,hL,e,hb,hg=>by simp[zmp]at e
 | .box t0 c0::xs,v::vs,i,.box _ cs::ys,ys',bs,gs,hl,hL,e,hb,hg=>by
  unfold zmp at e;split at e
  ·rename_i t m hk;split at e
   ·rename_i a3 b1 g1 l b2 g2 h1 h2;simp only[zkF,zkG]at e;obtain⟨rfl,rfl,rfl⟩:=e;have a2:σ.gn i=0:=hg (i,0) (by simp);have hv:ρ i=v:=h.rt i v (by have:=hL 0 v (by simp[zsj]);simpa using this) a2;have ho:=h.obs i;rw[hk]at ho;obtain⟨q,us,e1,e2,e3,e4,e5⟩:=ho;have hr:=ztl (σ:=σ) (b:=i) (us:=us) (t:=t) (by rw[e3];exact hk) e5
    refine⟨_,_,⟨q,us,ze0 σ ρ g1,by rw[<- hv];exact e1,e2,e4,outCs_ok h hgk hr h1 (fun p hp=>hb p (yas _ hp)) (fun p hp=>hg p (by simp[hp])),rfl⟩,
     zry h hgk (xs:=xs) (vs:=vs) (i:=i+1) (by simpa using hl) (fun j v hv=>by rw[ybv,ycn 1 j];exact hL (j+1) v (by simpa[zsj]using hv)) h2 (fun p hp=>hb p (yao _ hp)) (fun p hp=>hg p (by simp[hp])),?_⟩
    rw[zgq];unfold ze0;rw[ya9,hk,e1];rfl
   ·cases e
  ·cases e
theorem results_ok{fn:Func}{xs:List Arg}{vs0:List Value}{r:Rs}{σ:St}(h:RetOk P fn.results.toList xs σ r){a:Act}{w:World}(hs:Sat B σ a w)(hl:vs0.length=xs.length)(hL:∀j v,zsj xs vs0 j=some v->B.L j=some v) :
  ∃v F',(results fn a.tmps).run P w=.ok v w∧zyp w (fun b=>(B.S0 b∨Mine B b)∧b<w.heap.size∧b∉F') v (bxVs vs0 xs) r F'∧F'.Nodup∧∀b∈F',Mine B b∧b<w.heap.size:=by
 obtain⟨ρ,hs⟩:=hs;unfold RetOk at h;split at h
 ·rename_i vs c tp l ys b3;obtain⟨a6,h⟩:=h.ok;obtain⟨hg,h⟩:=h.out;obtain⟨us,b4,hr⟩:=resAs_ok hs b3 hg
  have a2:(results fn a.tmps).run P w=.ok (if h:us.toArray.size=1 then us.toArray[0] else .tuple us.toArray) w:=by
   rw[results_eq,Sem.run_bind,Array.mapM_eq_mapM_toList,map_eq_pure_bind,Sem.run_bind,b4];simp only[Result.andThen_ok,Sem.run_pure]
  split at h
  ·rename_i l' bs gs b7 bs' a4 h1 h2;obtain⟨b6,h⟩:=h.ok;obtain⟨a9,b0⟩:=zld b6;obtain⟨b2,rfl,rfl⟩:=h.out;have a5:∀p∈bs++bs',σ.gn p.1=p.2:=fun p hp=>b2 p (yas _ hp);have a7:∀p∈gs++a4,σ.gn p.1=p.2:=fun p hp=>b2 p (yao _ hp);have r1:=outCs_ok hs (bs0:=bs++bs') a5 hr h1 (fun p hp=>yas _ hp) fun p hp=>a7 p (yas _ hp);have r2:=zry hs (bs0:=bs++bs') a5 hl (i:=0) (fun j v hv=>by rw[yah];exact hL j v hv) h2 (fun p hp=>yao _ hp) fun p hp=>a7 p (yao _ hp)
   have a3:∀u x,RepI w (Imm B (app σ (fwr (bs++bs'))) ρ w) u x->RepI w (fun b=>(B.S0 b∨Mine B b)∧b<w.heap.size∧b∉ze0 σ ρ gs++ze0 σ ρ a4) u x:=fun u x hr=>hr.mono (fun b hb=>⟨hb.1,hb.2.1,fun hf=>by
    rw[<- zgq]at hf
    obtain⟨p,hp,ho⟩:=zf8.1 hf
    refine hb.2.2.1 p.1 ?_
    unfold Owns at ho ⊢
    rw[zqg,if_neg (b0 p.1 (yae.2 ⟨p,hp,rfl⟩))]
    exact ho⟩) fun _ _ _ h=>h
   have hn:=zk6 hs a9;rw[zgq]at hn
   have hm:∀b∈ze0 σ ρ gs++ze0 σ ρ a4,Mine B b∧b<w.heap.size:=fun b hb=>by
    rw[<- zgq]at hb;obtain⟨p,hp,ho⟩:=zf8.1 hb;exact hs.own p.1 b ho
   have a8:us.toArray.size=vs.length:=by simp[hr.1]
   cases tp with
   |true =>
    have b5:¬us.toArray.size=1:=fun e=>by
     rw[a8]at e;simp[e]at a6
    rw[dif_neg b5]at a2;exact⟨_,_,a2,⟨us,_,_,rfl,r1.mono a3,r2.mono a3,rfl⟩,hn,hm⟩
   |false =>
    have he:us.toArray.size=1:=by rw[a8];simpa using a6
    rw[dif_pos he]at a2
    obtain⟨u,rfl⟩:∃u,us=[u]:=by
     match us,he with
     |[u],_=>exact⟨u,rfl⟩
    exact⟨_,_,a2,⟨[u],_,_,rfl,r1.mono a3,r2.mono a3,rfl⟩,hn,hm⟩
  ·exact h.elim
 ·exact h.elim
def sig0:St:=fun l=>match l with
 | .tmp _=>.av (.im .any)
 | .gen _=>.n 0
 | .ign _=>.n 0
 | .knd _=>.kd .dead
 | .cel _ _=>.av (.im .any)
def tau0:St:=fun l=>match l with
 | .tmp _=>.av (.im .any)
 | .gen _=>.n 0
 | .ign _=>.n 0
 | .knd _=>.kd .dead
 | .cel o j=>.av (.osl (nmB o j) 0)
def zte:Arg->Oc
 | .im x=>.im x
 | .ow k=>.ow k
 | .box _ _=>.im .any
 | .lent _=>.im .any
def bxIx:Nat->List Arg->yad
 |_,[]=>[]
 |i,.box _ _::xs=>(i,i)::bxIx (i+1) xs
 |i,.lent _::xs=>(i,i)::bxIx (i+1) xs
 |i,.im _::xs=>bxIx (i+1) xs
 |i,.ow _::xs=>bxIx (i+1) xs
def bxAs:List Arg->List Arg
 |[]=>[]
 | .box t cs::xs=>.box t cs::bxAs xs
 | .lent k::xs=>.lent k::bxAs xs
 | .im _::xs=>bxAs xs
 | .ow _::xs=>bxAs xs
def argV(i:Nat)(x:Arg)(a:AV):AV:=match x with
 | .box _ _=>.own i 0 0
 | .lent _=>.osl i 0
 |_=>a
def tmpW:Nat->List Arg->List AV->List (Loc×Ct)
 |i,x::xs,a::al=>(.tmp i,.av (argV i x a))::tmpW (i+1) xs al
 |_,_,_=>[]
def entW(xs:List Arg):List (Loc×Ct):=match zcb tau0 (fun i=>i) 0 (xs.map zte),bxPl tau0 (bxIx 0 xs) (bxAs xs) with
 |(al,ss),some (bl,ss')=>zdi tau0 (ss++ss')++(bxWr bl++tmpW 0 xs al)
 |_,none=>[]
def entOk(xs:List Arg):Bool:=match zcb tau0 (fun i=>i) 0 (xs.map zte),bxPl tau0 (bxIx 0 xs) (bxAs xs) with
 |(_,ss),some (bl,ss')=>ndB ((ss++ss').map (·.1)) (bl.map (·.1))
 |_,none=>false
def st0(xs:List Arg):St:=app sig0 (entW xs)
theorem zmt{w:World}{S:Nat->Prop}:∀{vs:List Value} {xs:List Arg} {F:List Nat},zet w S vs xs F->∃Ft Fb,zmo w S vs (xs.map zte) Ft∧zet w S (bxVs vs xs) (bxAs xs) Fb∧F.Perm (Ft++Fb)
 |[],[],F,h=>⟨[],[],rfl,rfl,by have h:F=[]:=h;rw[h];exact .refl _⟩
 |v::vs,.im x::xs,F,⟨F1,F2,h1,h2,h3⟩=>by
  obtain⟨Ft,Fb,a1,a2,a3⟩:=zmt h2;obtain⟨h1,rfl⟩:=h1;exact⟨[]++Ft,Fb,⟨[],Ft,⟨h1,rfl⟩,a1,rfl⟩,a2,by rw[h3];exact a3⟩
 |v::vs,.ow k::xs,F,⟨F1,F2,h1,h2,h3⟩=>by
  obtain⟨Ft,Fb,a1,a2,a3⟩:=zmt h2;exact⟨F1++Ft,Fb,⟨F1,Ft,h1,a1,rfl⟩,a2,by rw[h3,ybk];exact a3.append_left F1⟩
 |v::vs,.box t cs::xs,F,⟨F1,F2,h1,h2,h3⟩=>by
  obtain⟨Ft,Fb,a1,a2,a3⟩:=zmt h2;refine⟨[]++Ft,F1++Fb,⟨[],Ft,⟨.any _,rfl⟩,a1,rfl⟩,⟨F1,Fb,h1,a2,rfl⟩,?_⟩;rw[h3,ycg];refine(a3.append_left F1).trans ?_;rw[<- ybk,<- ybk];exact List.perm_append_comm.append_right Fb
 |v::vs,.lent k::xs,F,⟨F1,F2,h1,h2,h3⟩=>by
  obtain⟨Ft,Fb,a1,a2,a3⟩:=zmt h2;refine⟨[]++Ft,F1++Fb,⟨[],Ft,⟨.any _,rfl⟩,a1,rfl⟩,⟨F1,Fb,h1,a2,rfl⟩,?_⟩;rw[h3,ycg];refine(a3.append_left F1).trans ?_;rw[<- ybk,<- ybk];exact List.perm_append_comm.append_right Fb
 |[],_::_,_,h=>h.elim
 |_::_,[],_,h=>h.elim
theorem zet.len{w:World}{S:Nat->Prop}:∀{vs:List Value} {xs:List Arg} {F:List Nat},zet w S vs xs F->vs.length=xs.length
 |[],[],_,_=>rfl
 |_::_,_::_,_,⟨_,_,_,h,_⟩=>by simp[h.len]
 |[],_::_,_,h=>h.elim
 |_::_,[],_,h=>h.elim
theorem tmpW_get:∀{xs:List Arg} {al:List AV} {i:Nat} {σ:St} {t:Nat},xs.length=al.length->(app σ (tmpW i xs al)).av t=match xs[t-i]?,al[t-i]? with|some x,some a=>if i<=t then argV t x a else σ.av t|_,_=>σ.av t
 |[],[],i,σ,t,_=>by simp[tmpW,app]
 |[],_::_,_,_,_,h=>by simp at h
 |_::_,[],_,_,_,h=>by simp at h
 |x::xs,a::al,i,σ,t,h=>by
  rw[tmpW,zby,tmpW_get (by simpa using h)];by_cases h1:i+1<=t
  ·obtain⟨m,hm⟩:∃m,t-i=m+1:=⟨t-i-1,by omega⟩;rw[hm,show t-(i+1)=m from by omega];have h2:i<=t:=by omega
   have h3:t≠i:=by omega
   simp only[List.getElem?_cons_succ,h1,h2,if_true,av_tmp,h3,if_false]
  ·by_cases h2:t=i
   ·subst h2;rw[yd0];simp only[ye6,yam,if_true,h1,if_false,av_tmp];split<;>rfl
   ·have h3:¬i<=t:=by omega
    simp only[if_neg h1,if_neg h3,av_tmp,if_neg h2];split<;>split<;>rfl
theorem tmpW_same:∀{xs:List Arg} {al:List AV} {i:Nat} {σ:St},zm2 σ (app σ (tmpW i xs al))
 |[],_,_,_=>⟨rfl,rfl,rfl,rfl⟩
 |_::_,[],_,_=>⟨rfl,rfl,rfl,rfl⟩
 |x::xs,a::al,i,σ=>by
  have h1:=zm2.tmp σ i (.av (argV i x a));have h2:zm2 (upd σ (.tmp i) (.av (argV i x a))) (app (upd σ (.tmp i) (.av (argV i x a))) (tmpW (i+1) xs al)):=tmpW_same;exact⟨h2.gn.trans h1.gn,h2.ig.trans h1.ig,h2.kd.trans h1.kd,h2.ce.trans h1.ce⟩
theorem zow:∀{xs:List Arg} {vs:List Value} {i j:Nat} {b:Nat} {p:Value},vs.length=xs.length->((bxIx i xs).map (·.1))[j]?=some b->(bxVs vs xs)[j]?=some p->i<=b∧vs[b-i]?=some p
 |[],[],i,j,b,p,_,h,_=>by simp[bxIx]at h
 |[],_::_,_,_,_,_,h,_,_=>by simp at h
 |_::_,[],_,_,_,_,h,_,_=>by simp at h
 | .im x::xs,v::vs,i,j,b,p,hl,h,k=>by
  obtain⟨h1,h2⟩:=zow (i:=i+1) (by simpa using hl) h k;obtain⟨m,hm⟩:∃m,b-i=m+1:=⟨b-i-1,by omega⟩;exact⟨by omega,by rw[hm,show m=b-(i+1) from by omega];simpa using h2⟩
 | .ow x::xs,v::vs,i,j,b,p,hl,h,k=>by
  obtain⟨h1,h2⟩:=zow (i:=i+1) (by simpa using hl) h k;obtain⟨m,hm⟩:∃m,b-i=m+1:=⟨b-i-1,by omega⟩;exact⟨by omega,by rw[hm,show m=b-(i+1) from by omega];simpa using h2⟩
 | .lent q::xs,v::vs,i,0,b,p,hl,h,k=>by
  simp[bxIx]at h;simp[bxVs]at k;subst h k;exact⟨yam _,by simp⟩
 | .lent q::xs,v::vs,i,j+1,b,p,hl,h,k=>by
  obtain⟨h1,h2⟩:=zow (i:=i+1) (j:=j) (by simpa using hl) (by simpa[bxIx]using h) (by simpa[bxVs]using k);obtain⟨m,hm⟩:∃m,b-i=m+1:=⟨b-i-1,by omega⟩;exact⟨by omega,by rw[hm,show m=b-(i+1) from by omega];simpa using h2⟩
 | .box t cs::xs,v::vs,i,0,b,p,hl,h,k=>by
  simp[bxIx]at h;simp[bxVs]at k;subst h k;exact⟨yam _,by simp⟩
 | .box t cs::xs,v::vs,i,j+1,b,p,hl,h,k=>by
  obtain⟨h1,h2⟩:=zow (i:=i+1) (j:=j) (by simpa using hl) (by simpa[bxIx]using h) (by simpa[bxVs]using k);obtain⟨m,hm⟩:∃m,b-i=m+1:=⟨b-i-1,by omega⟩;exact⟨by omega,by rw[hm,show m=b-(i+1) from by omega];simpa using h2⟩
theorem ztt:∀{xs:List Arg} {i b:Nat},b∈(bxIx i xs).map (·.1)->i<=b
 |[],i,b,h=>by simp[bxIx]at h
 | .im x::xs,i,b,h=>by have:=ztt (xs:=xs) (i:=i+1) h;omega
 | .ow x::xs,i,b,h=>by have:=ztt (xs:=xs) (i:=i+1) h;omega
 | .lent k::xs,i,b,h=>by
  rw[bxIx,yat]at h;rcases yap.1 h with h|h
  ·exact yd1 h.symm
  ·have:=ztt (xs:=xs) (i:=i+1) h;omega
 | .box t cs::xs,i,b,h=>by
  rw[bxIx,yat]at h;rcases yap.1 h with h|h
  ·exact yd1 h.symm
  ·have:=ztt (xs:=xs) (i:=i+1) h;omega
theorem zmr:∀{xs:List Arg} {i:Nat},((bxIx i xs).map (·.1)).Nodup
 |[],i=>ycq
 | .im x::xs,i=>zmr (xs:=xs) (i:=i+1)
 | .ow x::xs,i=>zmr (xs:=xs) (i:=i+1)
 | .lent k::xs,i=>by
  rw[bxIx,yat,yb2];exact⟨fun h=>by have:=ztt h;omega,zmr⟩
 | .box t cs::xs,i=>by
  rw[bxIx,yat,yb2];exact⟨fun h=>by have:=ztt h;omega,zmr⟩
def isLent:Arg->Bool
 | .box _ _=>true
 | .lent _=>true
 |_=>false
theorem zpy:∀{xs:List Arg} {i o:Nat} {x:Arg},xs[o]?=some x->isLent x=true->i+o∈(bxIx i xs).map (·.1)
 |[],i,o,x,h,_=>by simp at h
 | .box t' cs'::xs,i,0,x,h,_=>by simp[bxIx]
 | .lent k::xs,i,0,x,h,_=>by simp[bxIx]
 | .im y::xs,i,0,x,h,hl=>by simp at h;subst h;cases hl
 | .ow y::xs,i,0,x,h,hl=>by simp at h;subst h;cases hl
 | .im y::xs,i,o+1,x,h,hl=>by have:=zpy (xs:=xs) (i:=i+1) (o:=o) (x:=x) (by simpa using h) hl;rw[bxIx,show i+(o+1)=i+1+o from by omega];exact this
 | .ow y::xs,i,o+1,x,h,hl=>by have:=zpy (xs:=xs) (i:=i+1) (o:=o) (x:=x) (by simpa using h) hl;rw[bxIx,show i+(o+1)=i+1+o from by omega];exact this
 | .box t' cs'::xs,i,o+1,x,h,hl=>by
  have:=zpy (xs:=xs) (i:=i+1) (o:=o) (x:=x) (by simpa using h) hl;rw[bxIx,yat,show i+(o+1)=i+1+o from by omega];exact yaj _ this
 | .lent k::xs,i,o+1,x,h,hl=>by
  have:=zpy (xs:=xs) (i:=i+1) (o:=o) (x:=x) (by simpa using h) hl;rw[bxIx,yat,show i+(o+1)=i+1+o from by omega];exact yaj _ this
theorem lkWr_gn(σ:St)(b:Nat)(x:LK):(app σ (lkWr b x)).gn=σ.gn:=by
 cases x with
 |box t al =>
  show(app (upd σ (.knd b) (.kd (.box t al.length))) (zg9 b 0 al)).gn=_;rw[zu4];exact funext fun o=>zhl σ b o _
 |obj k=>exact funext fun o=>zhl σ b o _
theorem lkWr_av(σ:St)(b:Nat)(x:LK)(t:Nat):(app σ (lkWr b x)).av t=σ.av t:=by
 cases x with
 |box ty al =>
  show(app (upd σ (.knd b) (.kd (.box ty al.length))) (zg9 b 0 al)).av t=_;rw[zvg,zj7]
 |obj k=>exact zj7 σ b t _
theorem bxWr_gn:∀{bl:List (Nat×LK)} {σ:St},(app σ (bxWr bl)).gn=σ.gn
 |[],_=>rfl
 |(b,x)::bl,σ=>by
  show(app σ (lkWr b x++bxWr bl)).gn=_;rw[za2,bxWr_gn,lkWr_gn]
theorem zet.ptr{w:World}{S:Nat->Prop}:∀{vs:List Value} {xs:List Arg} {F:List Nat},zet w S vs xs F->∀{i:Nat} {v:Value} {t:TypeId} {cs:List Oc},vs[i]?=some v->xs[i]?=some (.box t cs)->∃q,v=.pointer (some ⟨q,0,none⟩)
 |[],[],_,_,i,_,_,_,h,_=>by simp at h
 |v::vs,x::xs,_,⟨_,_,h1,h2,_⟩,0,u,t,cs,h,k=>by
  simp at h k;subst h k;obtain⟨q,_,_,e,_⟩:=h1;exact⟨q,e⟩
 |v::vs,x::xs,_,⟨_,_,h1,h2,_⟩,i+1,u,t,cs,h,k=>h2.ptr (by simpa using h) (by simpa using k)
 |[],_::_,_,h,_,_,_,_,_,_=>h.elim
 |_::_,[],_,h,_,_,_,_,_,_=>h.elim
theorem zet.one{w:World}{S:Nat->Prop}:∀{vs:List Value} {xs:List Arg} {F:List Nat},zet w S vs xs F->∀{i:Nat} {v:Value} {k:Kd},vs[i]?=some v->xs[i]?=some (.lent k)->v.oneCell'=true
 |[],[],_,_,i,_,_,h,_=>by simp at h
 |v::vs,x::xs,_,⟨_,_,h1,h2,_⟩,0,u,k',h,k=>by
  simp at h k;subst h k;exact h1.1
 |v::vs,x::xs,_,⟨_,_,h1,h2,_⟩,i+1,u,k',h,k=>h2.one (by simpa using h) (by simpa using k)
 |[],_::_,_,h,_,_,_,_,_=>h.elim
 |_::_,[],_,h,_,_,_,_,_=>h.elim
theorem st0_sat(w:World)(S:Nat->Prop){vs:List Value}{xs:List Arg}{F:List Nat}(h:zet w S vs xs F)(hnd:F.Nodup)(hF:∀b∈F,¬S b∧b<w.heap.size)(hS:∀b,S b->b<w.heap.size)(n:Nat)(hn:vs.length<=n)(hok:entOk xs=true) :
  Sat ⟨w,S,n,fun b=>b∈F,fun _=>False,zsj xs vs,[]⟩ (st0 xs) { tmps:=vs.toArray++Array.replicate (n-vs.toArray.size) undef,defers:=[] } w:=by
 have b7:=h.len;obtain⟨Ft,Fb,a1,a2,a3⟩:=zmt h;have a4:=a3.nodup_iff.1 hnd;rw[ybl]at a4;have b0:∀b,b∈Ft∨b∈Fb->b∈F:=fun b hb=>a3.mem_iff.2 (yak.2 hb);unfold entOk at hok;unfold st0 entW;cases hbl:bxPl tau0 (bxIx 0 xs) (bxAs xs) with
 |none=>rw[hbl]at hok;cases hok
 |some q =>
  obtain⟨bl,ss'⟩:=q;rw[hbl]at hok;simp only at hok ⊢;obtain⟨a6,a9⟩:=zld hok;have d5:=a6;rw[ya1,ybl]at a6
  have h0:SatR ⟨w,S,n,fun b=>b∈F,fun b=>b∈F,zsj xs vs,[]⟩ sig0 { tmps:=vs.toArray++Array.replicate (n-vs.toArray.size) undef,defers:=[] } w ⟨fun o=>vs.getD o undef,fun _=>[],fun _=>0⟩:=by
   refine⟨Belo.refl _ _ w,fun o=>trivial,fun o b ho=>absurd rfl ho.lv,fun o p b ho=>absurd rfl ho.lv,fun t=>.im _ _ (.any _),fun o=>rfl,fun b hb=>⟨⟨.inr hb,(hF b hb).2⟩,fun o ho=>absurd rfl ho.lv⟩,fun o v hl _=>?_,by simp;omega,rfl⟩;have hl:zsj xs vs o=some v:=hl;unfold zsj at hl;split at hl
   ·show vs.getD o undef=v;simp[List.getD,hl]
   ·show vs.getD o undef=v;simp[List.getD,hl]
   ·cases hl
  have d0:∀b,S b->Imm ⟨w,S,n,fun b=>b∈F,fun b=>b∈F,zsj xs vs,[]⟩ sig0 ⟨fun o=>vs.getD o undef,fun _=>[],fun _=>0⟩ w b:=fun b hb=>⟨.inl hb,hS b hb,fun o ho=>absurd rfl ho.lv,fun hf=>(hF b hf).1 hb⟩;obtain⟨ρ2,Z2,b1,b2,b3,b4,b5,b6⟩:=zn9 tau0 (fun i=>i) (l:=xs.map zte) (i:=0) h0 a1 d0 a4.1 (fun b hb=>b0 b (.inl hb)) a6.1 fun _ _=>⟨rfl,rfl⟩
  obtain⟨ρ3,Z3,qs,c1,c2,c3,c4,c5,c6,c7,c8,c9⟩:=zrn tau0 hbl b1 a2 (fun b hb=>b5 b (d0 b hb)) a4.2.1 (fun b hb=>b2 b (b0 b (.inr hb)) fun hf=>a4.2.2 b hf b hb rfl) a6.2.1 fun p hp=>by
   obtain⟨_,d2,d3,_⟩:=b6 p.1 fun hm=>a6.2.2 p.1 hm p.1 (yae.2 ⟨p,hp,rfl⟩) rfl;exact⟨d2,d3⟩
  have c0:app (app sig0 (zdi tau0 (zcb tau0 (fun i=>i) 0 (xs.map zte)).2)) (zdi tau0 ss')=app sig0 (zdi tau0 ((zcb tau0 (fun i=>i) 0 (xs.map zte)).2++ss')):=by rw[zlt,za2]
  rw[c0]at c1 c5 c7 c8 c9
  have a7:∀b,b∈bl.map (·.1)->ρ3 b=vs.getD b undef:=fun b hb=>by
   have a8:b∉(zcb tau0 (fun i=>i) 0 (xs.map zte)).2.map (·.1):=fun hm=>a9 b (by rw[ya1];exact yas _ hm) hb;have a5:b∉ss'.map (·.1):=fun hm=>a9 b (by rw[ya1];exact yao _ hm) hb;rw[(c9 b a5).1,(b6 b a8).1]
  obtain⟨Z4,e1,e2,e3⟩:=zqp c1 c5 c4 (fun q hq=>(c3 q hq).1) (by rw[c6];exact zmr) fun j b p hb hp=>by
   have d4:=zkH hb;rw[c6]at hb;obtain⟨_,hp⟩:=zow b7 hb hp;rw[a7 b d4];rw[ye1]at hp;simp[List.getD,hp]
  obtain⟨g1,_,g3,_⟩:=e1.stepZ (σ':=app (app sig0 (zdi tau0 ((zcb tau0 (fun i=>i) 0 (xs.map zte)).2++ss'))) (bxWr bl)) (ρ':=ρ3) (w':=w) (fun _=>False) (fun _=>False) (fun _=>rfl) (fun _ _=>⟨rfl,rfl,fun _=>rfl,rfl,rfl,rfl⟩) (fun _ hd=>hd.elim) e1.igs (Belo.refl _ _ _) (fun _ _ hd=>hd.elim) (fun _ _ _ hd=>hd.elim)
   (fun _ hb=>hb.elim) fun _ _ _ hd=>hd.elim
  refine⟨ρ3,?_⟩;rw[za2,za2]
  have lent:∀t (ht:t<vs.length),t∈bl.map (·.1)->(app (app sig0 (zdi tau0 ((zcb tau0 (fun i=>i) 0 (xs.map zte)).2++ss'))) (bxWr bl)).gn t=0∧ρ3 t=vs[t]:=fun t ht hb=>by
   have a8:t∉(zcb tau0 (fun i=>i) 0 (xs.map zte)).2.map (·.1):=fun hm=>a9 t (by rw[ya1];exact yas _ hm) hb;have a5:t∉ss'.map (·.1):=fun hm=>a9 t (by rw[ya1];exact yao _ hm) hb;refine⟨?_,by rw[a7 t hb];simp[List.getD,ht]⟩;rw[bxWr_gn,(c9 t a5).2.1,(b6 t a8).2.1];rfl
  refine g1.slots tmpW_same (fun t=>?_) (by simp;omega) rfl;have d1:xs.length=(zcb tau0 (fun i=>i) 0 (xs.map zte)).1.length:=by rw[<- b3.1,b7]
  rw[tmpW_get d1,ye1];by_cases ht:t<vs.length
  ·have hx:t<xs.length:=by omega
   have hv:(vs.toArray++Array.replicate (n-vs.toArray.size) undef).getD t undef=vs[t]:=by
    simp only[yda];rw[Array.getElem?_append_left (by simpa using ht)];simp[ht]
   obtain⟨al,b8⟩:∃al,(zcb tau0 (fun i=>i) 0 (xs.map zte)).1[t]?=some al:=⟨_,zkM (by omega)⟩;have hr:=g3 _ _ (e3 _ _ (c7 _ _ (b3.2 t vs[t] al (zkM ht) b8)));rw[hv,zkM hx,b8];simp only[yag,if_true];cases hxt:xs[t]with
   |im x=>exact hr
   |ow k=>exact hr
   |box ty cs =>
    have hb:t∈bl.map (·.1):=by
     rw[c6];have:=zpy (xs:=xs) (i:=0) (o:=t) (x:=.box ty cs) (by rw[zkM hx,hxt]) rfl
     rwa [yah]at this
    obtain⟨hg,b9⟩:=lent t ht hb;obtain⟨q,hq⟩:∃q,vs[t]=.pointer (some ⟨q,0,none⟩):=zet.ptr h (zkM ht) (by rw[zkM hx,hxt]);exact .own _ _ _ _ (by rw[hq];rfl) (by rw[hg];exact yam _) fun _=>⟨q,b9.trans hq,hq⟩
   |lent k =>
    have hb:t∈bl.map (·.1):=by
     rw[c6];have:=zpy (xs:=xs) (i:=0) (o:=t) (x:=.lent k) (by rw[zkM hx,hxt]) rfl
     rwa [yah]at this
    obtain⟨hg,b9⟩:=lent t ht hb;exact .osl _ _ _ (zet.one h (zkM ht) (by rw[zkM hx,hxt])) (by rw[hg];exact yam _) fun _=>b9.symm
  ·rw[yb6 (by omega)]
   have e0:(app (app sig0 (zdi tau0 ((zcb tau0 (fun i=>i) 0 (xs.map zte)).2++ss'))) (bxWr bl)).av t=.im .any:=by
    have k1:∀(bl:List (Nat×LK)) (σ:St),(app σ (bxWr bl)).av t=σ.av t:=by
     intro bl
     induction bl with
     |nil=>intro σ;rfl
     |cons x bl ih =>
      intro σ;obtain⟨b,x⟩:=x;show(app σ (lkWr b x++bxWr bl)).av t=_;rw[za2,ih,lkWr_av]
    have k2:∀(l:List (Nat×Kd)) (σ:St),(app σ (zdi tau0 l)).av t=σ.av t:=by
     intro l
     induction l with
     |nil=>intro σ;rfl
     |cons p l ih =>
      intro σ;rw[zdi,za2,ih];exact(mkK_eqs σ tau0 p.1 p.2).2.2.2.1 t
    rw[k1,k2];rfl
   simp only;rw[e0];exact .im _ _ (.any _)
theorem zfl{f:FuncId}{fn:Func}{c:Code}(hf:P.funcs[f]?=some fn)(hname:(fn.name=="runtime.NumGoroutine")=false)(hb:fn.body=some c)(args:Array Value)(w:World):(callFunc f args).run P w=.ok (.enter f args) w:=by
 have h1:fn.name≠"runtime.NumGoroutine":=by simpa using hname
 simp[callFunc,hf,h1,hb]
theorem sp_of_code(hm:P.follows .mixedOrders=true){C:FuncId->List Arg->Rs->Prop}(hC:∀g xs r,C g xs r->SpX P g xs r){own:List Nat}{f:FuncId}{fn:Func}{c:Code}(hf:P.funcs[f]?=some fn)(hname:(fn.name=="runtime.NumGoroutine")=false)(hb:fn.body=some c)
  {xs:List Arg} {r:Rs} (hn:xs.length<=fn.ntmps) (hok:entOk xs=true) (h:∀w S vs F,zet w S vs xs F->zn7 P C fn.ntmps own c (retK P fn.results.toList xs r) (st0 xs)):Sp P f xs r:=by
 refine⟨fun args w=>zfl hf hname hb args w,fun w S vs F hS a2 a7 hF=>?_⟩;have a4:=a2.len;refine calls_of_wp hf hb (ziq (B:=⟨w,S,fn.ntmps,fun b=>b∈F,fun _=>False,zsj xs vs,[]⟩) hm hC c _ _ (h w S vs F a2) _ _ (st0_sat w S a2 a7 hF hS fn.ntmps (by rw[a4];exact hn) hok) _ fun e σ' a' w' hk a3=>?_)
 have a6:RetOk P fn.results.toList xs σ' r->a'.defers=[]∧∃v,(results fn a'.tmps).run P w'=.ok v w'∧∃(v':Value) (F':List Nat),Ending.returned v=.returned v'∧Belo (fun b=>b∈F) w.heap.size w w' ∧
   zyp w' (fun b=>(S b∨w.heap.size<=b∨b∈F)∧b<w'.heap.size∧b∉F') v' (bxVs vs xs) r F'∧F'.Nodup∧∀b∈F',(w.heap.size<=b∨b∈F)∧b<w'.heap.size:=fun hk=>by
  obtain⟨v,F',hv,a5,h1,h2⟩:=results_ok (vs0:=vs) hk a3 a4 fun j v hv=>hv;obtain⟨ρ,a3⟩:=a3;exact⟨a3.dfr,v,hv,v,F',rfl,a3.bel,a5,h1,h2⟩
 cases e with
 |ret=>exact a6 hk
 |normal=>exact a6 hk
 |exit id=>exact hk.elim
 |goto l=>exact hk.elim
 |panic ch=>exact hk.elim
 |outgrown=>exact hk.elim
end
end
section
def lookA:List (Nat×AV)->Nat->AV
 |[],_=>.im .any
 |p::l,t=>match Nat.beq t p.1 with|true=>p.2|false=>lookA l t
def ztd:List (Nat×Kd)->Nat->Kd
 |[],_=>.dead
 |p::l,t=>match Nat.beq t p.1 with|true=>p.2|false=>ztd l t
def lookC:List (Nat×Nat×AV)->Nat->Nat->AV
 |[],_,_=>.im .any
 |p::l,o,i=>match Nat.beq o p.1&&Nat.beq i p.2.1 with|true=>p.2.2|false=>lookC l o i
def gnM:List (Nat×Kd)->Nat->Nat
 |[],_=>1
 |p::l,o=>match Nat.beq o p.1 with|true=>(match Nat.blt o 64 with|true=>0|false=>1)|false=>gnM l o
def mkSt(avs:List (Nat×AV))(kds:List (Nat×Kd))(cels:List (Nat×Nat×AV)):St:=fun l=>match l with
 | .tmp t=>.av (lookA avs t)
 | .gen o=>.n (gnM kds o)
 | .ign _=>.n 0
 | .knd o=>.kd (ztd kds o)
 | .cel o i=>.av (lookC cels o i)
inductive Sub:AV->AV->Prop
 |refl (a:AV):Sub a a
 |any (a:AV):Sub a (.im .any)
 |nz (x:IV):Sub (.im x) (.im (Sym.nz x))
theorem RepA.less{w:World}{S:Nat->Prop}{ρ:Ly}{γ:Nat->Nat}{v:Value}{x y:AV}(h:RepA w S ρ γ v x)(s:Sub x y):RepA w S ρ γ v y:=by
 cases s with
 |refl=>exact h
 |any=>exact .im _ _ (.any _)
 |nz x=>exact .im _ _ (nz_rep h.im_inv)
theorem Sub.rfl'{a b:AV}(h:a=b):Sub a b:=h ▸ .refl _
theorem Sub.nz'{x y:IV}(h:Sym.nz x=y):Sub (.im x) (.im y):=h ▸ .nz x
def zh9:List (Nat×Option Nat)->Nat->Option (Option Nat)
 |[],_=>none
 |p::l,b=>match Nat.beq b p.1 with|true=>some p.2|false=>zh9 l b
def srcs:List (Nat×Option Nat)->List Nat
 |[]=>[]
 |(_,some a)::l=>a::srcs l
 |(_,none)::l=>srcs l
mutual
inductive SubR(σ:St)(src:List (Nat×Option Nat))(γ:Nat->Nat):AV->AV->Prop
 |im {a:AV} {b:IV} (h:Sub a (.im b)):SubR σ src γ a (.im b)
 |osl {a b g g':Nat} (h:zh9 src b=some (some a)) (hg:σ.gn a=g) (hg':γ b=g'):SubR σ src γ (.osl a g) (.osl b g')
 |osv {a b g g' k m:Nat} (h:zh9 src b=some (some a)) (hg:σ.gn a=g) (hg':γ b=g'):SubR σ src γ (.osv a g k m) (.osv b g' k m)
 |made {b g':Nat} (h:zh9 src b=some none) (hg':γ b=g'):SubR σ src γ (.im (.val (.slice none 0 0))) (.osl b g')
 |own {a b g g' i:Nat} (h:zh9 src b=some (some a)) (hg:σ.gn a=g) (hg':γ b=g'):SubR σ src γ (.own a g i) (.own b g' i)
 |elt {a b g g' k i j:Nat} (h:zh9 src b=some (some a)) (hg:σ.gn a=g) (hg':γ b=g'):SubR σ src γ (.elt a g k i j) (.elt b g' k i j)
 |sub {a b g i:Nat} (h:zh9 src b=some (some a)) (hg:σ.ig a=g):SubR σ src γ (.sub a g i) (.sub b 0 i)
 |fn {f:FuncId} {cs ds:List AV} (h:zyr σ src γ cs ds):SubR σ src γ (.fn f cs) (.fn f ds)
 |agg {cs ds:List AV} (h:zyr σ src γ cs ds):SubR σ src γ (.agg cs) (.agg ds)
inductive zyr(σ:St)(src:List (Nat×Option Nat))(γ:Nat->Nat):List AV->List AV->Prop
 |nil:zyr σ src γ [] []
 |cons {c d:AV} {cs ds:List AV} (h:SubR σ src γ c d) (t:zyr σ src γ cs ds):zyr σ src γ (c::cs) (d::ds)
end
section
variable {w:World}{S S':Nat->Prop}{σ:St}{ρ ρ':Ly}{src:List (Nat×Option Nat)}{γ:Nat->Nat}
mutual
theorem SubR.rep(hI:∀v x,RepI w S v x->RepI w S' v x)(hρ:∀b a,zh9 src b=some (some a)->ρ' b=ρ a∧ρ'.inn b=ρ.inn a)(hn:∀b,zh9 src b=some none->ρ' b=.slice none 0 0)(hig:(∀o,ρ.ig o=σ.ig o)∧∀o,ρ'.ig o=0) :
  ∀{x y:AV},SubR σ src γ x y->∀{v:Value},RepA w S ρ σ.gn v x->RepA w S' ρ' γ v y
 |x,_,.im h,v,hr=>.im _ _ (hI _ _ (hr.less h).im_inv)
 |_,_,.osl h hg hg',v,hr=>by
  cases hr with
  |osl _ _ _ h1 h2 h3=>exact .osl _ _ _ h1 (yd1 hg'.symm) fun _=>by rw[(hρ _ _ h).1];exact h3 hg
 |_,_,.osv h hg hg',v,hr=>by
  cases hr with
  |osv _ _ _ _ _ h1 h2 h3=>exact .osv _ _ _ _ _ h1 (yd1 hg'.symm) fun _=>by rw[(hρ _ _ h).1];exact h3 hg
 |_,_,.made h hg',v,hr=>by
  cases hr.im_inv with
  |val _=>exact .osl _ _ _ rfl (yd1 hg'.symm) fun _=>(hn _ h).symm
 |_,_,.own h hg hg',v,hr=>by
  cases hr with
  |own _ _ _ _ h1 h2 h3=>exact .own _ _ _ _ h1 (yd1 hg'.symm) fun _=>by rw[(hρ _ _ h).1];exact h3 hg
 |_,_,.elt h hg hg',v,hr=>by
  cases hr with
  |elt _ _ _ _ _ _ h1 h2 h3=>exact .elt _ _ _ _ _ _ h1 (yd1 hg'.symm) fun _=>by rw[(hρ _ _ h).1];exact h3 hg
 |_,_,.sub h hg,v,hr=>by
  cases hr with
  |sub _ _ _ _ h1 h2 h3=>exact .sub _ _ _ _ h1 (yag _) fun _=>by rw[(hρ _ _ h).2];exact h3 ((hig.1 _).trans hg)
 |_,_,.fn h,v,hr=>by
  cases hr with
  |fn _ us _ hl h1 =>
   have:=zyr.rep hI hρ hn hig h ⟨hl,h1⟩;exact .fn _ _ _ this.1 this.2
 |_,_,.agg h,v,hr=>by
  cases hr with
  |agg us _ hl h0 h1 =>
   have:=zyr.rep hI hρ hn hig h ⟨hl,h1⟩;exact .agg _ _ this.1 h0 this.2
theorem zyr.rep(hI:∀v x,RepI w S v x->RepI w S' v x)(hρ:∀b a,zh9 src b=some (some a)->ρ' b=ρ a∧ρ'.inn b=ρ.inn a)(hn:∀b,zh9 src b=some none->ρ' b=.slice none 0 0)(hig:(∀o,ρ.ig o=σ.ig o)∧∀o,ρ'.ig o=0) :
  ∀{xs ys:List AV},zyr σ src γ xs ys->∀{us:List Value},Reps w S ρ σ.gn us xs->Reps w S' ρ' γ us ys
 |_,_,.nil,us,hr=>⟨hr.1,fun i u x hu hx=>by simp at hx⟩
 |_,_,.cons h t,[],hr=>by have:=hr.1;simp at this
 |_,_,.cons h t,u::us,hr=>by
  have h1:=SubR.rep hI hρ hn hig h (hr.2 0 u _ rfl rfl);have h2:=zyr.rep hI hρ hn hig t (us:=us) ⟨by simpa using hr.1,fun i u x hu hx=>hr.2 (i+1) u x (by simpa using hu) (by simpa using hx)⟩;refine⟨by simp[h2.1],fun i v x hv hx=>?_⟩;cases i with
  |zero=>simp at hv hx;subst hv hx;exact h1
  |succ i=>exact h2.2 i v x (by simpa using hv) (by simpa using hx)
end
end
def SubL(σ:St)(src:List (Nat×Option Nat))(γ:Nat->Nat):List (Nat×AV)->Prop
 |[]=>True
 |p::l=>(∃x,σ.av p.1=x∧SubR σ src γ x p.2)∧SubL σ src γ l
def KeepOk(σ:St)(o a:Nat):Prop:=match Nat.blt o 64 with|true=>a=o∧σ.gn a=0|false=>True
def NilKd(o:Nat)(k:Kd):Prop:=Nat.blt o 64=false∧((∃e m,k=.row e m []∧0<m)∨(∃e e' m,k=.grid e e' m [] none)∨∃t e m,k=.bag t e m [] none)
def KdL(σ:St)(src:List (Nat×Option Nat)):List (Nat×Kd)->Prop
 |[]=>True
 |p::l=>((∃a,zh9 src p.1=some (some a)∧σ.kd a=p.2∧KeepOk σ p.1 a)∨(zh9 src p.1=some none∧NilKd p.1 p.2))∧KdL σ src l
def CeL(σ:St)(src:List (Nat×Option Nat))(γ:Nat->Nat):List (Nat×Nat×AV)->Prop
 |[]=>True
 |p::l=>(∃a x,zh9 src p.1=some (some a)∧σ.ce a p.2.1=x∧SubR σ src γ x p.2.2)∧CeL σ src γ l
theorem lookA_sub{σ:St}{src:List (Nat×Option Nat)}{γ:Nat->Nat}:∀{avs:List (Nat×AV)},SubL σ src γ avs->∀t,SubR σ src γ (σ.av t) (lookA avs t)
 |[],_,t=>.im (.any _)
 |p::l,h,t=>by
  unfold lookA;split
  ·rename_i e;have e:=yal e;subst e;obtain⟨x,h1,h2⟩:=h.1;rw[h1];exact h2
  ·exact lookA_sub h.2 t
theorem zx2{σ:St}{src:List (Nat×Option Nat)}{γ:Nat->Nat}:∀{cels:List (Nat×Nat×AV)},CeL σ src γ cels->∀b a i,zh9 src b=some (some a)->SubR σ src γ (σ.ce a i) (lookC cels b i)
 |[],_,b,a,i,_=>.im (.any _)
 |p::l,h,b,a,i,hs=>by
  unfold lookC;split
  ·rename_i e;rw[ya0]at e;have e1:=yal e.1;have e2:=yal e.2;subst e1 e2;obtain⟨a',x,h1,h3,h2⟩:=h.1;rw[hs]at h1;injection h1 with h1
   injection h1 with h1
   subst h1;rw[h3];exact h2
  ·exact zx2 h.2 b a i hs
theorem zx3{σ:St}{src:List (Nat×Option Nat)}:∀{kds:List (Nat×Kd)},KdL σ src kds->∀o,ztd kds o≠.dead ->
  (∃a,zh9 src o=some (some a)∧σ.kd a=ztd kds o∧KeepOk σ o a)∨(zh9 src o=some none∧NilKd o (ztd kds o))
 |[],_,o,h=>absurd rfl h
 |p::l,h,o,hd=>by
  unfold ztd at hd ⊢;split
  ·rename_i e;have e:=yal e;subst e;exact h.1
  ·rename_i e;rw[e]at hd;exact zx3 h.2 o hd
theorem gnM_keep{σ:St}{src:List (Nat×Option Nat)}:∀{kds:List (Nat×Kd)},KdL σ src kds->∀o,gnM kds o=0->zh9 src o=some (some o)∧σ.gn o=0
 |[],_,o,h=>by simp[gnM]at h
 |p::l,h,o,hg=>by
  unfold gnM at hg;split at hg
  ·rename_i e;have e:=yal e;subst e;split at hg
   ·rename_i hb;rcases h.1 with⟨a,h1,_,h3⟩|⟨_,h3,_⟩
    ·unfold KeepOk at h3;rw[hb]at h3;obtain⟨rfl,h4⟩:=h3;exact⟨h1,h4⟩
    ·rw[hb]at h3;cases h3
   ·cases hg
  ·exact gnM_keep h.2 o hg
theorem zsa:∀{src:List (Nat×Option Nat)} {b a:Nat},zh9 src b=some (some a)->a∈srcs src
 |[],b,a,h=>by cases h
 |(c,o)::l,b,a,h=>by
  unfold zh9 at h;split at h
  ·simp only[zkF]at h;subst h;simp[srcs]
  ·cases o with
   |none=>exact zsa (src:=l) h
   |some d=>exact yaj _ (zsa h)
theorem zvt:∀{src:List (Nat×Option Nat)},(srcs src).Nodup->∀{b c a:Nat},zh9 src b=some (some a)->zh9 src c=some (some a)->b=c
 |[],_,b,c,a,h,_=>by cases h
 |(d,o)::l,hn,b,c,a,h,k=>by
  unfold zh9 at h k;cases o with
  |none =>
   split at h
   ·cases h
   ·split at k
    ·cases k
    ·exact zvt (src:=l) hn h k
  |some q =>
   obtain⟨h1,h2⟩:=yb2.1 hn;split at h
   ·rename_i e1;simp only[zkF]at h;subst h;split at k
    ·rename_i e2;rw[yal e1,yal e2]
    ·exact absurd (zsa k) h1
   ·split at k
    ·simp only[zkF]at k;subst k;exact absurd (zsa h) h1
    ·exact zvt h2 h k
theorem Ent.mk{σ:St}{avs:List (Nat×AV)}{kds:List (Nat×Kd)}{cels:List (Nat×Nat×AV)}(src:List (Nat×Option Nat))(hn:ndB (srcs src) []=true)(ha:SubL σ src (gnM kds) avs)(hk:KdL σ src kds)(hc:CeL σ src (gnM kds) cels):Ent σ (mkSt avs kds cels):=by
 rintro B a w ⟨ρ,hs⟩;have a5:=(zld hn).1
 let ρ':Ly:=⟨fun b=>match zh9 src b with|some (some a)=>ρ a|_=>.slice none 0 0,fun b=>match zh9 src b with|some (some a)=>ρ.inn a|_=>[],fun _=>0⟩
 have hρ:∀b a,zh9 src b=some (some a)->ρ' b=ρ a∧ρ'.inn b=ρ.inn a:=fun b a h=>by simp only[ρ',h];exact⟨trivial,trivial⟩
 have hρn:∀b,zh9 src b=some none->ρ' b=.slice none 0 0:=fun b h=>by simp only[ρ',h]
 have hρi:∀b,zh9 src b=some none->ρ'.inn b=[]:=fun b h=>by simp only[ρ',h]
 have a3:∀o,(mkSt avs kds cels).kd o=ztd kds o:=fun _=>rfl
 have a2:∀o q,Owns (mkSt avs kds cels) ρ' o q->∃a,zh9 src o=some (some a)∧Owns σ ρ a q:=fun o q hq=>by
  rcases zx3 hk o hq.lv with⟨a,h1,h2,_⟩|⟨h1,_,h2⟩
  ·refine⟨a,h1,?_⟩;unfold Owns at hq ⊢;rw[a3,(hρ o a h1).1,(hρ o a h1).2]at hq;rw[h2];exact hq
  ·unfold Owns at hq;rw[a3,hρn o h1,hρi o h1]at hq;rcases h2 with⟨e,m,h2,_⟩|⟨e,e',m,h2⟩|⟨t,e,m,h2⟩
   ·rw[h2]at hq;simp[fpk,zbg]at hq
   ·rw[h2]at hq;simp[fpk,fpv,zbg]at hq
   ·rw[h2]at hq;simp[fpk,fpv,zbg]at hq
 have hS:∀b,Imm B σ ρ w b->Imm B (mkSt avs kds cels) ρ' w b:=fun b hi=>⟨hi.1,hi.2.1,fun o hq=>by
  obtain⟨a,_,h2⟩:=a2 o b hq
  exact hi.2.2.1 a h2,hi.2.2.2⟩
 have hI:∀v x,RepI w (Imm B σ ρ w) v x->RepI w (Imm B (mkSt avs kds cels) ρ' w) v x:=fun v x hr=>hr.mono hS fun _ _ _ h=>h;have hA:∀{x y:AV},SubR σ src (gnM kds) x y->∀{v:Value},RepA w (Imm B σ ρ w) ρ σ.gn v x->RepA w (Imm B (mkSt avs kds cels) ρ' w) ρ' (mkSt avs kds cels).gn v y:=fun h _ hr=>SubR.rep hI hρ hρn ⟨hs.igs,fun _=>rfl⟩ h hr;refine⟨ρ',hs.bel,fun o=>?_,fun o b ho=>?_,fun o p b h1 h2=>?_,fun t=>hA (lookA_sub ha t) (hs.tms t),fun _=>rfl,fun b hb=>⟨(hs.res b hb).1,fun o ho=>?_⟩,fun o v hl hg=>?_,hs.siz,hs.dfr⟩
 ·rw[a3]
  have nil:zh9 src o=some none->NilKd o (ztd kds o)->zn4 B (mkSt avs kds cels) ρ' w o (ztd kds o):=fun h1 ⟨_,h2⟩=>by
   rcases h2 with⟨e,m,h2,h3⟩|⟨e,e',m,h2⟩|⟨t,e,m,h2⟩
   ·rw[h2];show zj4 w _ (ρ' o) e m [];rw[hρn o h1];exact⟨[],h3,by simp,by simp,World.ownsRow_nil _ _ _ _,rfl,by simp,by simp⟩
   ·rw[h2];show zlr w _ (ρ' o) (ρ'.inn o) e e' m [] none;rw[hρn o h1,hρi o h1];exact⟨ycq,rfl,[],yag _,World.ownsRow_nil _ _ _ _,by simp,fun i u hu=>by simp at hu⟩
   ·rw[h2];show zu0 w _ (ρ' o) (ρ'.inn o) t e m []∧_;rw[hρn o h1,hρi o h1];exact⟨⟨rfl,ycq,[],rfl,rfl,fun i g row hg _=>by simp at hg⟩,fun p hp=>by cases hp⟩
  have a4:∀a,zh9 src o=some (some a)->σ.kd a=ztd kds o->zn4 B (mkSt avs kds cels) ρ' w o (ztd kds o):=fun a h1 h2=>by
   have ho:=hs.obs a;rw[h2]at ho;obtain⟨e1,e2⟩:=hρ o a h1;cases e:ztd kds o with
   |dead=>trivial
   |box t m =>
    rw[e]at ho;obtain⟨b,us,h3,h4,h5,h6,h7⟩:=ho;exact⟨b,us,e1.trans h3,h4,h5,h6,fun i u hu=>hA (zx2 hc o a i h1) (h7 i u hu)⟩
   |row t k es =>
    rw[e]at ho;show zd0 w (Imm B (mkSt avs kds cels) ρ' w) (ρ' o) (ρ'.inn o) (.row t k es);rw[e1,e2];exact zd0.mono (k:=.row t k es) ho (fun _ _=>rfl) hI
   |grid t t' k gs q =>
    rw[e]at ho;show zd0 w (Imm B (mkSt avs kds cels) ρ' w) (ρ' o) (ρ'.inn o) (.grid t t' k gs q);rw[e1,e2];exact zd0.mono (k:=.grid t t' k gs q) ho (fun _ _=>rfl) hI
   |map l =>
    rw[e]at ho;show zd0 w (Imm B (mkSt avs kds cels) ρ' w) (ρ' o) (ρ'.inn o) (.map l);rw[e1,e2];exact zd0.mono (k:=.map l) ho (fun _ _=>rfl) hI
   |bag ty te m l q =>
    rw[e]at ho;show zu0 w (Imm B (mkSt avs kds cels) ρ' w) (ρ' o) (ρ'.inn o) ty te m l∧_;rw[e1,e2];exact⟨zu0.mono ho.1 (fun _ _=>rfl) hI,fun p hp=>hA (zx2 hc o a 0 h1) (ho.2 p hp)⟩
   |mapI l c =>
    rw[e]at ho;show GoOk w (Imm B (mkSt avs kds cels) ρ' w) (ρ' o) (ρ'.inn o) l c;rw[e1,e2];exact GoOk.mono ho (fun _ _=>rfl) hI
   |que t k es =>
    rw[e]at ho;show zd0 w (Imm B (mkSt avs kds cels) ρ' w) (ρ' o) (ρ'.inn o) (.que t k es);rw[e1,e2];exact zd0.mono (k:=.que t k es) ho (fun _ _=>rfl) hI
  by_cases hd:ztd kds o=.dead
  ·rw[hd];trivial
  ·rcases zx3 hk o hd with⟨a,h1,h2,_⟩|⟨h1,h2⟩
   ·exact a4 a h1 h2
   ·exact nil h1 h2
 ·obtain⟨a,_,h2⟩:=a2 o b ho;exact hs.own a b h2
 ·obtain⟨c,e1,b1⟩:=a2 o b h1;obtain⟨d,e2,b2⟩:=a2 p b h2;have:=hs.dis c d b b1 b2;subst this;exact zvt a5 e1 e2
 ·obtain⟨a,_,h2⟩:=a2 o b ho;exact(hs.res b hb).2 a h2
 ·obtain⟨h1,h2⟩:=gnM_keep hk o hg;rw[(hρ o o h1).1];exact hs.rt o v hl h2
def Ok(x:IV):Prop:=∃w S v,RepI w S v x
def OkL(es:List (List IV)):Prop:=es.length<=17592186044416∧∀e∈es,∀x∈e,Ok x
theorem ok_flat{w:World}{S:Nat->Prop}{es:List (List IV)}{us:List Value}(hl:us.length=es.flatten.length)(hr:∀(i:Nat) u x,us[i]?=some u->es.flatten[i]?=some x->RepI w S u x):∀e∈es,∀x∈e,Ok x:=fun e he x hx=>by
 have hm:x∈es.flatten:=ycz.2 ⟨e,he,hx⟩;obtain⟨i,hi⟩:=ycs hm;have hlt:i<us.length:=by rw[hl];exact(zkI.1 hi).1
 exact⟨w,S,_,hr i _ x (zkM hlt) hi⟩
theorem Ok.sl{es:List (List IV)}(h:Ok (.sl es)):OkL es:=by
 obtain⟨w,S,v,h⟩:=h;cases h with
 |emp A c=>exact⟨yag _,by simp⟩
 |sl b o c k n _ us hn hk hc hs hS hl h1 hu hr=>exact⟨by omega,ok_flat hl hr⟩
theorem ok_all{w:World}{S:Nat->Prop}{cs:List IV}{us:List Value}(hl:us.length=cs.length)(hr:∀(i:Nat) u x,us[i]?=some u->cs[i]?=some x->RepI w S u x):∀x∈cs,Ok x:=fun x hx=>by
 obtain⟨i,hi⟩:=ycs hx;have hlt:i<us.length:=by rw[hl];exact(zkI.1 hi).1
 exact⟨w,S,_,hr i _ x (zkM hlt) hi⟩
theorem Ok.agg{cs:List IV}(h:Ok (.agg cs)):∀x∈cs,Ok x:=by
 obtain⟨w,S,v,h⟩:=h;cases h with
 |agg us _ hl h1 hr=>exact ok_all hl hr
theorem Ok.agg_at{cs:List IV}{x:IV}(h:Ok (.agg cs))(i:Nat)(hx:cs[i]?=some x):Ok x:=h.agg x (zkH hx)
theorem Ok.ref{cs:List IV}(h:Ok (.ref cs)):∀x∈cs,Ok x:=by
 obtain⟨w,S,v,h⟩:=h;cases h with
 |ref b o us _ hS hl h1 hu hr=>exact ok_all hl hr
theorem Ok.ref_at{cs:List IV}{x:IV}(h:Ok (.ref cs))(i:Nat)(hx:cs[i]?=some x):Ok x:=h.ref x (zkH hx)
theorem Holds.true_(σ:St):Holds σ True:=fun _ _ _ _=>trivial
theorem Holds.and{σ:St}{φ ψ:Prop}(h:Holds σ φ)(k:Holds σ ψ):Holds σ (φ∧ψ):=fun B a w hs=>⟨h B a w hs,k B a w hs⟩
theorem Holds.av{σ:St}(t:Nat){x:IV}(h:σ.av t=.im x):Holds σ (Ok x):=by
 rintro B a w ⟨ρ,hs⟩;have h1:=hs.tms t;rw[h]at h1;exact⟨_,_,_,h1.im_inv⟩
theorem Holds.ce{σ:St}(o i:Nat){t:TypeId}{m:Nat}{x:IV}(hk:σ.kd o=.box t m)(hi:i<m)(h:σ.ce o i=.im x):Holds σ (Ok x):=by
 rintro B a w ⟨ρ,hs⟩;have ho:=hs.obs o;rw[hk]at ho;obtain⟨b,us,h3,h5,h6,h7,h8⟩:=ho;have:=h8 i _ (zkM (by omega));rw[h]at this;exact⟨_,_,_,this.im_inv⟩
theorem Holds.kd{σ:St}(o:Nat){t:TypeId}{k:Nat}{es:List (List IV)}(hk:σ.kd o=.row t k es):Holds σ (OkL es):=by
 rintro B a w ⟨ρ,hs⟩;have ho:=hs.obs o;rw[hk]at ho;obtain⟨us,h1,h2,h3,h4,h5,h6,h7⟩:=ho;exact⟨h3,ok_flat h5 h7⟩
theorem Holds.mono{σ:St}{φ ψ:Prop}(h:Holds σ φ)(k:φ->ψ):Holds σ ψ:=fun B a w hs=>k (h B a w hs)
def iter{S R:Type}(step:S->Option (S⊕R)):Nat->S->Option R
 |0,_=>none
 |n+1,s=>match step s with
  |none=>none
  |some (.inl s')=>iter step n s'
  |some (.inr r)=>some r
def Fin{S R:Type}(step:S->Option (S⊕R))(r:R)(k:Nat):S⊕R->Prop
 | .inl s'=>iter step k s'=some r
 | .inr r'=>r'=r
def Nxt{S R:Type}(step:S->Option (S⊕R))(r:R)(st:S->St)(k:Nat)(σ':St):Prop:=∃m',m'<k+1∧∃s,iter step m' s=some r∧Ent σ' (st s)
theorem Nxt.mk{S R:Type}{step:S->Option (S⊕R)}{r:R}{st:S->St}{k:Nat}{σ':St}(s:S)(h:Fin step r k (.inl s))(e:Ent σ' (st s)):Nxt step r st k σ':=⟨k,yd4 _,s,h,e⟩
attribute [irreducible] Nxt
theorem zxd.iter{S R:Type}(step:S->Option (S⊕R))(st:S->St)(φ:S->Prop){body:(Exit->St->Prop)->St->Prop}{K:Exit->St->Prop}{σ:St}{n:Nat}{s0:S}{r:R}
  (h:Sym.iter step n s0=some r) (e0:Ent σ (st s0)) (hφ:∀s,Holds (st s) (φ s))
  (hb:∀k s o,φ s->step s=some o->Fin step r k o->body (fun e σ'=>match e with|.normal=>Nxt step r st k σ'|e=>K e σ') (st s)):zxd body K σ:=by
 unfold zxd;refine⟨fun m σ=>∃s,Sym.iter step m s=some r∧Ent σ (st s),n,⟨s0,h,e0⟩,?_⟩;rintro m σ ⟨s,hm,he⟩;refine⟨st s,φ s,he,hφ s,fun hp=>?_⟩;cases m with
 |zero=>cases hm
 |succ k =>
  unfold Sym.iter at hm;split at hm
  ·cases hm
  ·rename_i s' hs;have:=hb k s _ hp hs hm;unfold Nxt at this;exact this
  ·rename_i r' hs;have:=hb k s _ hp hs (by injection hm);unfold Nxt at this;exact this
def Join(s σ':St):Prop:=∃σ1,Ent σ' σ1∧σ1=s
theorem Join.mk{s σ':St}(e:Ent σ' s):Join s σ':=⟨s,e,rfl⟩
attribute [irreducible] Join
theorem Cut.mk(s:St)(φ:Prop){body:(St->Prop)->Prop}{rest:St->Prop}(hφ:Holds s φ)(h:body (Join s))(k:φ->rest s):Cut body rest:=by
 unfold Cut;unfold Join at h;exact⟨fun σ=>σ=s,h,fun σ e=>⟨φ,by rw[e];exact hφ,fun hp=>by rw[e];exact k hp⟩⟩
end
section
def OkOc:Oc->Prop
 | .im x=>Ok x
 | .ow (.row _ _ es)=>OkL es
 | .ow (.grid _ _ _ gs _)=>gs.length<=17592186044416
 | .ow _=>True
def OkOcs:List Oc->Prop
 |[]=>True
 |c::l=>OkOc c∧OkOcs l
def OkA:Arg->Prop
 | .im x=>Ok x
 | .ow k=>OkOc (.ow k)
 | .box _ cs=>OkOcs cs
 | .lent k=>OkOc (.ow k)
def OkAs:List Arg->Prop
 |[]=>True
 |x::l=>OkA x∧OkAs l
theorem okOc_of{w:World}{S:Nat->Prop}{u:Value}:∀{c:Oc} {F:List Nat},OcOk w S u c F->OkOc c
 | .im x,_,h=>⟨w,S,u,h.1⟩
 | .ow (.row _ _ es),_,⟨_,_,⟨ws,h1,h2,h3,h4,h5,h6,h7⟩,_⟩=>⟨h3,ok_flat h5 h7⟩
 | .ow (.grid _ _ _ gs _),_,⟨_,_,⟨_,_,_,h,_⟩,_⟩=>h
 | .ow (.map _),_,_=>trivial
 | .ow .dead,_,_=>trivial
 | .ow (.box _ _),_,_=>trivial
 | .ow (.que _ _ _),_,_=>trivial
theorem okOcs_of{w:World}{S:Nat->Prop}:∀{us:List Value} {cs:List Oc} {F:List Nat},zmo w S us cs F->OkOcs cs
 |[],[],_,_=>trivial
 |_::_,_::_,_,⟨_,_,h1,h2,_⟩=>⟨okOc_of h1,okOcs_of h2⟩
 |[],_::_,_,h=>h.elim
 |_::_,[],_,h=>h.elim
theorem okA_of{w:World}{S:Nat->Prop}{u:Value}:∀{x:Arg} {F:List Nat},ArgOk w S u x F->OkA x
 | .im x,_,h=>⟨w,S,u,h.1⟩
 | .ow k,_,h=>okOc_of (c:=.ow k) h
 | .box _ _,_,⟨_,_,_,_,_,_,h,_⟩=>okOcs_of h
 | .lent k,_,h=>okOc_of (c:=.ow k) h
theorem oks_of{w:World}{S:Nat->Prop}:∀{us:List Value} {xs:List Arg} {F:List Nat},zet w S us xs F->OkAs xs
 |[],[],_,_=>trivial
 |_::_,_::_,_,⟨_,_,h1,h2,_⟩=>⟨okA_of h1,oks_of h2⟩
 |[],_::_,_,h=>h.elim
 |_::_,[],_,h=>h.elim
theorem sp_of{P:Program}{f:FuncId}{fn:Func}{c:Code}{xs:List Arg}{r:Rs}(hm:P.follows .mixedOrders=true)(own:List Nat)(hf:P.funcs[f]?=some fn)(hname:(fn.name=="runtime.NumGoroutine")=false)(hb:fn.body=some c)
  (hn:xs.length<=fn.ntmps) (hok:entOk xs=true) (h:OkAs xs->frcW (entW xs) 0 sig0 fun _ σ=>zn7 P (SpX P) fn.ntmps own c (retK P fn.results.toList xs r) σ):Sp P f xs r :=
 sp_of_code hm (C:=SpX P) (fun _ _ _ h=>h) hf hname hb hn hok fun _ _ _ _ ha=>by
  have:=h (oks_of ha);rw[frcW_eq]at this;exact this
inductive FrzL:List Oc->List Oc->Prop
 |nil:FrzL [] []
 |keep (c:Oc) {l l':List Oc} (h:FrzL l l'):FrzL (c::l) (c::l')
 |row {e:TypeId} {k:Nat} {es:List (List IV)} {l l':List Oc} (h:FrzL l l'):FrzL (.ow (.row e k es)::l) (.im (.sl es)::l')
 |grid {e e':TypeId} {k:Nat} {gs:List (List IV)} {l l':List Oc} (h:FrzL l l'):FrzL (.ow (.grid e e' k gs none)::l) (.im (.sl gs)::l')
theorem RepI.up{w:World}{S S':Nat->Prop}(hS:∀b,S b->S' b){v:Value}{x:IV}(h:RepI w S v x):RepI w S' v x:=h.mono hS fun _ _ _ h=>h
theorem Sp.frz{P:Program}{g:FuncId}{xs:List Arg}{tp:Bool}{l l':List Oc}{ys:List Arg}(hl:FrzL l l')(h:Sp P g xs (.mk tp l ys)):Sp P g xs (.mk tp l' ys) :=
 ⟨h.1,fun w S vs F hS ha hn hF=>(h.2 w S vs F hS ha hn hF).mono fun e w' ⟨v,F',h1,h2,⟨us,F1,F2,h3,h4,h5,h6⟩,h7,h8⟩=>by
  subst h6
  rw[ybl]at h7
  -- the frozen blocks leave the footprint
  have hlt:∀b∈F1,(w.heap.size<=b∨b∈F)∧b<w'.heap.size:=fun b hb=>h8 b (yas _ hb)
  have key:∀(l l':List Oc),FrzL l l'->∀(us:List Value) (F1:List Nat) (S:Nat->Prop),zmo w' S us l F1->F1.Nodup->∃Fk,Fk.Sublist F1∧∀(S':Nat->Prop),(∀b,S b->S' b)->(∀b∈F1,b∉Fk->S' b)->zmo w' S' us l' Fk:=by
   intro l l' hl
   induction hl with
   |nil =>
    intro us F1 S h _
    match us,h with
    |[],h=>exact⟨[],List.nil_sublist _,fun _ _ _=>rfl⟩
   |keep c _ ih =>
    intro us F1 S h a3
    match us,h with
    |u::us,⟨G1,G2,h1,h2,h3⟩ =>
     subst h3
     rw[ybl]at a3
     obtain⟨Fk,a1,a2⟩:=ih us G2 S h2 a3.2.1
     exact⟨G1++Fk,List.Sublist.append_left a1 _,fun S' hS hF=>⟨G1,Fk,h1.mono fun u x hr=>hr.up hS,a2 S' hS fun b hb a4=>hF b (by simp[hb]) fun hm=>by
      rcases yak.1 hm with hm|hm
      ·exact a3.2.2 b hm b hb rfl
      ·exact a4 hm,rfl⟩⟩
   |row _ ih =>
    intro us F1 S h a3
    match us,h with
    |u::us,⟨G1,G2,⟨_,inn,h1,e1⟩,h2,h3⟩ =>
     subst h3
     rw[ybl]at a3
     obtain⟨Fk,a1,a2⟩:=ih us G2 S h2 a3.2.1
     refine⟨[]++Fk,(ycg Fk).symm ▸ a1.trans (ydg _ _),fun S' hS hF=>⟨[],Fk,⟨zj4.repI h1 (fun b hb=>?_) fun u x hr=>hr.up hS,rfl⟩,a2 S' hS fun b hb a4=>hF b (by simp[hb]) (by simpa using a4),rfl⟩⟩
     have a5:b∈G1:=by rw[e1];simp[fpk,hb]
     exact⟨hF b (by simp[a5]) fun hm=>a3.2.2 b a5 b (a1.subset (by simpa using hm)) rfl,rfl⟩
   |grid _ ih =>
    intro us F1 S h a3
    match us,h with
    |u::us,⟨G1,G2,⟨_,inn,h1,e1⟩,h2,h3⟩ =>
     subst h3
     rw[ybl]at a3
     obtain⟨Fk,a1,a2⟩:=ih us G2 S h2 a3.2.1
     refine⟨[]++Fk,(ycg Fk).symm ▸ a1.trans (ydg _ _),fun S' hS hF=>⟨[],Fk,⟨zlr.repI h1 (fun b hb=>?_) fun u x hr=>hr.up hS,rfl⟩,a2 S' hS fun b hb a4=>hF b (by simp[hb]) (by simpa using a4),rfl⟩⟩
     have a5:b∈G1:=by rw[e1];exact hb
     exact⟨hF b (by simp[a5]) fun hm=>a3.2.2 b a5 b (a1.subset (by simpa using hm)) rfl,rfl⟩
  obtain⟨Fk,a1,a2⟩:=key l l' hl us F1 _ h4 h7.1
  have a6:∀b,b∈Fk++F2->b∈F1++F2:=fun b hb=>by
   rcases yak.1 hb with hb|hb
   ·exact yas _ (a1.subset hb)
   ·exact yao _ hb
  have a7:∀b,((S b∨w.heap.size<=b∨b∈F)∧b<w'.heap.size∧b∉F1++F2)->((S b∨w.heap.size<=b∨b∈F)∧b<w'.heap.size∧b∉Fk++F2):=fun b hb=>⟨hb.1,hb.2.1,fun hm=>hb.2.2 (a6 b hm)⟩
  refine⟨v,Fk++F2,h1,h2,⟨us,Fk,F2,h3,a2 _ a7 fun b hb a4=>⟨.inr (hlt b hb).1,(hlt b hb).2,fun hm=>?_⟩,h5.mono fun u x hr=>hr.up a7,rfl⟩,?_,fun b hb=>h8 b (a6 b hb)⟩
  ·rcases yak.1 hm with hm|hm
   ·exact a4 hm
   ·exact h7.2.2 b hb b hm rfl
  ·rw[ybl]
   exact⟨a1.nodup h7.1,h7.2.1,fun x hx y hy=>h7.2.2 x (a1.subset hx) y hy⟩⟩
theorem Sp.im{P:Program}{g:FuncId}{xs:List Arg}{e:TypeId}{k:Nat}{es:List (List IV)}(h:Sp P g xs (.row e k es)):Sp P g xs (.im (.sl es)):=Sp.frz (.row .nil) h
theorem Sp.args{P:Program}{g:FuncId}{xs ys:List Arg}{r:Rs}(h:Sp P g xs r)(e:ys=xs):Sp P g ys r:=e ▸ h
abbrev cI(x:Int):List IV:=[.val (.int .i64 x)]
abbrev cB(x:Bool):List IV:=[.val (.bool x)]
abbrev cL{α:Type}(c:α->List IV)(l:List α):List IV:=[.sl (l.map c)]
abbrev nI(n:Int):IV:=.val (.int .i64 n)
abbrev nB(b:Bool):IV:=.val (.bool b)
abbrev nS(s:ByteArray):IV:=.val (.string s)
abbrev nL{α:Type}(c:α->List IV)(l:List α):IV:=.sl (l.map c)
instance (n:Int):Decidable (inR n):=by unfold inR;infer_instance
instance (n b:Nat):Decidable (za3 n b):=by unfold za3;infer_instance
def fuel:Nat:=1000000000000000000000
section
variable {α β:Type}
def chk(c:Prop)[Decidable c](k:Option α):Option α:=if c then k else none
def idx(l:List α)(n:Int)(k:α->Option β):Option β:=if 0<=n then(match l[n.toNat]? with|some x=>k x|none=>none) else none
theorem zaj{c:Prop}[Decidable c]{k:Option α}{r:α}(h:chk c k=some r):c∧k=some r:=by
 unfold chk at h;split at h
 ·exact⟨‹_›,h⟩
 ·cases h
theorem zgn{l:List α}{n:Int}{k:α->Option β}{r:β}(h:idx l n k=some r):∃x,0<=n∧l[n.toNat]?=some x∧k x=some r:=by
 unfold idx at h;split at h
 ·split at h
  ·rename_i x hx;exact⟨x,‹_›,hx,h⟩
  ·cases h
 ·cases h
theorem bind_some{o:Option α}{f:α->Option β}{r:β}(h:o.bind f=some r):∃x,o=some x∧f x=some r:=by
 cases o with
 |none=>cases h
 |some x=>exact⟨x,rfl,h⟩
theorem zbf{Y Z R:Type}{f:Y->Option R}{g:Z->Option R}{y:Y}{r:R}(h:Sum.elim f g (.inl y)=some r):f y=some r:=h
theorem cond_t{b:Bool}{x y z:α}(hb:b=true)(h:cond b x y=z):x=z:=by rw[hb]at h;exact h
theorem cond_f{b:Bool}{x y z:α}(hb:b=false)(h:cond b x y=z):y=z:=by rw[hb]at h;exact h
def idxn(l:List α)(n:Nat)(k:α->Option β):Option β:=match l[n]? with|some x=>k x|none=>none
theorem zdf{l:List α}{n:Nat}{k:α->Option β}{r:β}(h:idxn l n k=some r):∃x,l[n]?=some x∧k x=some r:=by
 unfold idxn at h;split at h
 ·rename_i x hx;exact⟨x,hx,h⟩
 ·cases h
theorem beq_tt{b:Bool}(h:(b==true)=true):b=true:=by cases b<;>simp_all
theorem beq_tf{b:Bool}(h:(b==true)=false):b=false:=by cases b<;>simp_all
theorem beq_ff{b:Bool}(h:(b==false)=true):b=false:=by cases b<;>simp_all
theorem beq_ft{b:Bool}(h:(b==false)=false):b=true:=by cases b<;>simp_all
theorem zbl{b:Bool}(h:b=true):(b==true)=true:=by rw[h];rfl
theorem zbs{b:Bool}(h:b=false):(b==false)=true:=by rw[h];rfl
theorem zfu{b:Bool}(h:b=true):(b==false)=false:=by rw[h];rfl
theorem zfd{b:Bool}(h:b=false):(b==true)=false:=by rw[h];rfl
theorem zdz{l:List α}{c:α->β}{i:Nat}{x:α}(h:l[i]?=some x):(l.map c)[i]?=some (c x):=by rw[yan,h];rfl
theorem zd1{l:List α}{c:α->β}{i:Nat}{x:α}(h:l[i]?=some x):i<(l.map c).length:=by
 rw[zkK];exact(zkI.1 h).1
theorem zbp{l:List α}{c:α->List β}{k:Nat}(h:∀x,(c x).length=k):∀e∈l.map c,e.length=k:=fun e he=>by
 obtain⟨x,_,rfl⟩:=yae.1 he;exact h x
theorem zai{l:List α}{c:α->β}:l.length=(l.map c).length:=(zkK _).symm
theorem zb5{l m:List α}{c:α->β}:(l++m).map c=l.map c++m.map c:=ya1
theorem zlk{l:List α}{c:α->β}{n:Nat}:(l.take n).map c=((l.map c).take n).drop 0:=by rw[yei];rfl
theorem zvj{l:List α}{c:α->β}{n:Nat}:(l.drop n).map c=((l.map c).take ((l.map c).length:Int).toNat).drop n:=by rw[List.map_drop,ybf,yax]
theorem zx8{l:List α}{c:α->List β}{i:Nat}{x y:α}{j:Nat}{xs:List β}(h:c y=splice (c x) j xs):(l.set i y).map c=(l.map c).set i (splice (c x) j xs):=by rw[ye3,h]
end
abbrev wI(n:Int):Value:=.int .i64 n
abbrev wB(b:Bool):Value:=.bool b
abbrev wS(s:ByteArray):Value:=.string s
section
variable {κ ν:Type}
def mapV(f:κ->Value)(g:ν->Value)(m:List (κ×ν)):List (Value×Value):=m.map fun p=>(f p.1,g p.2)
def mget[BEq κ](k:κ):List (κ×ν)->Option ν
 |[]=>none
 |p::m=>match k==p.1 with|true=>some p.2|false=>mget k m
def mset[BEq κ](k:κ)(v:ν):List (κ×ν)->List (κ×ν)
 |[]=>[(k,v)]
 |p::m=>match k==p.1 with|true=>(k,v)::m|false=>p::mset k v m
theorem find_str(k:ByteArray)(g:ν->Value):∀m:List (ByteArray×ν),findV .string (.string k) (mapV wS g m)=some ((mget k m).map g)
 |[]=>rfl
 |p::m=>by
  have ih:=find_str k g m;unfold mapV at ih ⊢;rw[yat];unfold findV mget;simp only[Instr.sameNow];cases k==p.1 with
  |true=>rfl
  |false=>exact ih
theorem set_str(k:ByteArray)(v:ν)(g:ν->Value):∀m:List (ByteArray×ν),setV .string (.string k) (g v) (mapV wS g m)=some (mapV wS g (mset k v m))
 |[]=>rfl
 |p::m=>by
  have ih:=set_str k v g m;unfold mapV at ih ⊢;rw[yat];unfold setV mset;simp only[Instr.sameNow];cases k==p.1 with
  |true=>rfl
  |false=>simp only[ih];rfl
theorem getD_map{g:ν->Value}{d:ν}{z:Value}(h:g d=z)(o:Option ν):g (o.getD d)=(o.map g).getD z:=by cases o<;>simp[h]
theorem isSome_map{g:ν->Value}(o:Option ν):o.isSome=(o.map g).isSome:=by cases o<;>rfl
theorem clr_map{α β:Type}{c:α->β}{z:α}{e:β}{l:List α}{k:Nat}(hc:c z=e):(l.take k++List.replicate (l.length-k) z).map c=(l.map c).take k++List.replicate ((l.map c).length-k) e:=by rw[ya1,yei,List.map_replicate,zkK,hc]
theorem cut_own{α β:Type}{c:α->β}{l:List α}{k:Nat}:(l.take k).map c=(l.map c).take k:=yei
theorem len_own{α β:Type}{c:α->β}{l:List α}{k:Nat}:l.length-k=(l.map c).length-k:=by rw[zkK]
theorem rep_map{α β:Type}{c:α->β}{z:α}{e:β}{n m:Nat}(h:n=m)(hc:c z=e):(List.replicate n z).map c=List.replicate m e:=by rw[List.map_replicate,h,hc]
end
theorem flat_one{v:Value}:flatRs (.mk false [.im (.val v)] []):=⟨fun c hc=>by rcases yba.1 hc with rfl;exact Or.inl ⟨v,rfl⟩,fun y hy=>by cases hy⟩
theorem zaf{α:Type}{c:α->List IV}{l:List α}(h:Ok (.sl (l.map c))):l.length<=17592186044416:=by have:=h.sl.1;rwa [zkK]at this
theorem zqy{α:Type}{c:α->List IV}{l:List α}(h:OkL (l.map c)):l.length<=17592186044416:=by have:=h.1;rwa [zkK]at this
theorem Holds.avl{σ:St}{α:Type}{c:α->List IV}{l:List α}(t:Nat)(h:σ.av t=.im (.sl (l.map c))):Holds σ (l.length<=17592186044416):=(Holds.av t h).mono zaf
theorem Holds.cel{σ:St}{α:Type}{c:α->List IV}{l:List α}(o i:Nat){t:TypeId}{m:Nat}(hk:σ.kd o=.box t m)(hi:i<m)(h:σ.ce o i=.im (.sl (l.map c))):Holds σ (l.length<=17592186044416):=(Holds.ce o i hk hi h).mono zaf
theorem set_grid1{α:Type}{c:α->List IV}{g:List (List α)}{i:Nat}{r:List α}:(g.set i r).map (cL c)=(g.map (cL c)).set i [.sl (r.map c)]:=by rw[ye3]
theorem set_grid2{α:Type}{c:α->List IV}{g:List (List α)}{i j k:Nat}{ev:List α}{x y:α}{xs:List IV}(h:c y=splice (c x) k xs):(g.set i (ev.set j y)).map (cL c)=(g.map (cL c)).set i [.sl ((ev.map c).set j (splice (c x) k xs))]:=by
 rw[<- h,ye3];show(g.map (cL c)).set i [.sl ((ev.set j y).map c)]=_;rw[ye3]
theorem Holds.kdg{σ:St}{α:Type}{c:α->List IV}{l:List α}(o:Nat){e e':TypeId}{k:Nat}{q:Option Nat}(hk:σ.kd o=.grid e e' k (l.map c) q):Holds σ (l.length<=17592186044416):=fun B a w ⟨ρ,hs⟩=>by
 have ho:=hs.obs o;rw[hk]at ho;obtain⟨_,_,us,h,_⟩:=ho;simpa using h
theorem Holds.kdl{σ:St}{α:Type}{c:α->List IV}{l:List α}(o:Nat){t:TypeId}{k:Nat}(hk:σ.kd o=.row t k (l.map c)):Holds σ (l.length<=17592186044416):=(Holds.kd o hk).mono zqy
def zch{Y Z:Type}(oc:Y⊕Z)(st:Y->St)(σ':St):Prop:=∃y,oc=.inl y∧Ent σ' (st y)
theorem Cut.mkS{Y Z:Type}(oc:Y⊕Z)(st:Y->St)(φ:Y->Prop){body:(St->Prop)->Prop}{rest:St->Prop}(hφ:∀y,Holds (st y) (φ y))(h:body (zch oc st))(k:∀y,oc=.inl y->φ y->rest (st y)):Cut body rest:=by
 unfold Cut;have e:zch oc st=fun σ'=>∃σ1,Ent σ' σ1∧∃y,oc=.inl y∧σ1=st y:=funext fun σ'=>propext ⟨fun⟨y,h1,h2⟩=>⟨_,h2,y,h1,rfl⟩,fun⟨σ1,h1,y,h2,h3⟩=>⟨y,h2,h3 ▸ h1⟩⟩;rw[e]at h;refine⟨fun σ1=>∃y,oc=.inl y∧σ1=st y,h,?_⟩;rintro σ ⟨y,h1,rfl⟩;exact⟨φ y,hφ y,k y h1⟩
attribute [irreducible] zch
theorem zch.mk'{Y Z:Type}{oc:Y⊕Z}{st:Y->St}{σ':St}(y:Y)(h:oc=.inl y)(e:Ent σ' (st y)):zch oc st σ':=by unfold zch;exact⟨y,h,e⟩
abbrev zlA:=@bind_some
abbrev zlB:=@Side.mk
abbrev zlC:=@Both.mk
abbrev zlD:=@Both.yes
abbrev zlE:=@Both.no
abbrev zlF:=@Nf.mk
abbrev zlG:=@Join.mk
abbrev zlH:=@Holds.avl
abbrev zlI:=@Ok.agg_at
abbrev zlJ:=@Cut.mkS
abbrev zlK:=@Nxt.mk
end
structure zad where
 Inputs:Int
 Start:Int
 Next:yaa
 Out:yaa
 deriving DecidableEq
def zal(s:zad):List IV:=[nI s.Inputs,nI s.Start,nL (cL cI) s.Next,nL (cL cI) s.Out]
structure zr7 where
 Step:yab
 Reset:Int
 deriving DecidableEq
structure zt3 where
 Lost:Int
 Wrong:Int
 Crash:Int
 deriving DecidableEq
structure zfw where
 M:zad
 State:Int
 Ready:Bool
 Latency:zr7
 Faults:zt3
 Seed:Int
 Steps:Int
 Resets:Int
 Time:Int
 deriving DecidableEq
structure zaa where
 In:yab
 Out:yab
 deriving DecidableEq
def zae(s:zaa):List IV:=[nL cI s.In,nL cI s.Out]
structure zac where
 Inputs:Int
 Traces:List zaa
 deriving DecidableEq
def zat(s:zac):List IV:=[nI s.Inputs,nL zae s.Traces]
structure zjx where
 Device:zfw
 Obs:zac
 Votes:Int
 Tries:Int
 Asked:Int
 Hits:Int
 deriving DecidableEq
structure zab where
 Inputs:Int
 Prefixes:yaa
 Suffixes:yaa
 deriving DecidableEq
def zag(s:zab):List IV:=[nI s.Inputs,nL (cL cI) s.Prefixes,nL (cL cI) s.Suffixes]
structure T_api_Baseline where
 M:zad
 Words:yaa
 deriving DecidableEq
structure T_api_Report where
 Run:Int
 Changes:List zaa
 deriving DecidableEq
structure zt2 where
 Inputs:Int
 Abstract:Int
 Start:Int
 Next:yaa
 Sym:yaa
 deriving DecidableEq
structure T_api_Clash where
 Word:yab
 First:Int
 Second:Int
 deriving DecidableEq
structure za5 where
 M:zad
 Access:yaa
 deriving DecidableEq
def zju(s:za5):List IV:=[nI s.M.Inputs,nI s.M.Start,nL (cL cI) s.M.Next,nL (cL cI) s.M.Out,nL (cL cI) s.Access]
structure T_api_Part where
 Inputs:Int
 Start:Int
 Next:yaa
 Out:yaa
 deriving DecidableEq
structure zzk where
 Inputs:Int
 Short:yaa
 Suffixes:yaa
 deriving DecidableEq
structure T_api_Split where
 Prefix:yab
 Symbol:Int
 Suffix:yab
 deriving DecidableEq
structure T_learnerlaw28_Case where
 M:zad
 O:zac
 L:zzk
 S:T_api_Split
 deriving DecidableEq
structure T_learnerlaw35_Parts where
 P:T_api_Part
 W:yab
 S:Int
 T:Int
 Out:Int
 deriving DecidableEq
structure zdk where
 Mealy:zad
 deriving DecidableEq
def zwc(s:zdk):List IV:=[nI s.Mealy.Inputs,nI s.Mealy.Start,nL (cL cI) s.Mealy.Next,nL (cL cI) s.Mealy.Out]
structure zci where
 machine:zdk
 at_:Int
 deriving DecidableEq
structure T_api_Mutation where
 Kind:Int
 State:Int
 Input:Int
 Value:Int
 Value2:Int
 deriving DecidableEq
structure T_regress_runner where
 m:zad
 report:T_api_Report
 deriving DecidableEq
structure zaw where
 rows:List (yaa)
 prefixes:yab
 next:yaa
 number:List (ByteArray×Int)
 deriving DecidableEq
def zc1(s:zaw):List IV:=[nL (cL (cL cI)) s.rows,nL cI s.prefixes,nL (cL cI) s.next,.any]
structure T_refine_reached where
 m:zad
 states:yab
 words:yaa
 class_:yab
 deriving DecidableEq
structure T_mapper_set where
 list:yab
 word:yab
 deriving DecidableEq
structure T_mapper_builder where
 m:zad
 p:zt2
 sets:List T_mapper_set
 of:List (ByteArray×Int)
 deriving DecidableEq
structure T_evidence_candidate where
 score:Int
 blue:Int
 red:Int
 deriving DecidableEq
structure T_lazy_reader where
 l:zzk
 o:zac
 missing:yaa
 long:Bool
 deriving DecidableEq
structure T_nondet_group where
 word:yab
 before:yab
 least:yab
 deriving DecidableEq
structure T_device_unit where
 Device:zfw
 deriving DecidableEq
structure zdq where
 s:Int
 t:Int
 deriving DecidableEq
def zoh(s:zdq):List IV:=[nI s.s,nI s.t]
structure T_mapper_runner where
 Mapper:zt2
 state:Int
 deriving DecidableEq
structure T_cover_place where
 state:Int
 word:yab
 deriving DecidableEq
structure T_A2 where
 f0:Int
 f1:Int
 deriving DecidableEq
structure T_merge_blocks_int_ where
 up:List (Int×Int)
 deriving DecidableEq
structure zbn where
 at_:zdq
 word:yab
 deriving DecidableEq
def zf1(s:zbn):List IV:=[nI s.at_.s,nI s.at_.t,nL cI s.word]
structure T_A2_api_Mealy where
 f0:zad
 f1:zad
 deriving DecidableEq
structure zax where
 S:Int
 T:Int
 Word:yab
 deriving DecidableEq
def zcu(s:zax):List IV:=[nI s.S,nI s.T,nL cI s.Word]
structure T_api_DNode where
 Leaf:Bool
 Access:yab
 Suffix:yab
 Outs:yaa
 Kids:yab
 deriving DecidableEq
structure T_api_DTree where
 Nodes:List T_api_DNode
 deriving DecidableEq
structure zxe where
 Inputs:Int
 Tree:T_api_DTree
 deriving DecidableEq
structure T_treelearn_learner where
 TreeState:zxe
 o:zac
 deriving DecidableEq
structure T_analyze_subject where
 h:za5
 o:zac
 w:yab
 states:yab
 outs:yab
 deriving DecidableEq
structure T_treelearn_extension where
 w:yab
 node:Int
 deriving DecidableEq
end Go.Proofs.YtfgajaakmmogkaaGreatDoor.Sym
namespace Go.Proofs.YtfgajaakmmogkaaGreatDoor
section
open Go.ChangeShapes Go.WideShapes Go.ChangeAt Go.RowKit
theorem Tryz.own:ownKnob Tryz.prog.godebug=none:=by kernel_rfl
theorem Tryz.laidOut:laidOutB Tryz.prog=true:=by kernel_rfl
noncomputable def laidWorld(os:Os):World :=
 let w0:=World.holding Tryz.prog os ⟨#[],#[],[]⟩
 let h0:=w0.heap
 let h1:=h0.modify 0 fun
   | .cells _ t frozen=>.cells #[.int .u64 1,.int .u64 10,.int .u64 100,.int .u64 1000,.int .u64 10000,.int .u64 100000,.int .u64 1000000,.int .u64 10000000,.int .u64 100000000,.int .u64 1000000000,.int .u64 10000000000,.int .u64 100000000000,.int .u64 1000000000000,.int .u64 10000000000000,.int .u64 100000000000000,.int .u64 1000000000000000,.int .u64 10000000000000000,.int .u64 100000000000000000,.int .u64 1000000000000000000,.int .u64 10000000000000000000] t frozen
   |o=>o
 let h2:=h1.modify 1 fun
   | .cells _ t frozen=>.cells #[.int .u8 0,.int .u8 1,.int .u8 28,.int .u8 2,.int .u8 29,.int .u8 14,.int .u8 24,.int .u8 3,.int .u8 30,.int .u8 22,.int .u8 20,.int .u8 15,.int .u8 25,.int .u8 17,.int .u8 4,.int .u8 8,.int .u8 31,.int .u8 27,.int .u8 13,.int .u8 23,.int .u8 21,.int .u8 19,.int .u8 16,.int .u8 7,.int .u8 26,.int .u8 12,.int .u8 18,.int .u8 6,.int .u8 11,.int .u8 5,.int .u8 10,.int .u8 9] t frozen
   |o=>o
 let h3:=h2.modify 2 fun
   | .cells _ t frozen=>.cells #[.int .u8 0,.int .u8 1,.int .u8 56,.int .u8 2,.int .u8 57,.int .u8 49,.int .u8 28,.int .u8 3,.int .u8 61,.int .u8 58,.int .u8 42,.int .u8 50,.int .u8 38,.int .u8 29,.int .u8 17,.int .u8 4,.int .u8 62,.int .u8 47,.int .u8 59,.int .u8 36,.int .u8 45,.int .u8 43,.int .u8 51,.int .u8 22,.int .u8 53,.int .u8 39,.int .u8 33,.int .u8 30,.int .u8 24,.int .u8 18,.int .u8 12,.int .u8 5,.int .u8 63,.int .u8 55,.int .u8 48,.int .u8 27,.int .u8 60,.int .u8 41,.int .u8 37,.int .u8 16,.int .u8 46,.int .u8 35,.int .u8 44,.int .u8 21,.int .u8 52,.int .u8 32,.int .u8 23,.int .u8 11,.int .u8 54,.int .u8 26,.int .u8 40,.int .u8 15,.int .u8 34,.int .u8 20,.int .u8 31,.int .u8 10,.int .u8 25,.int .u8 14,.int .u8 19,.int .u8 9,.int .u8 13,.int .u8 8,.int .u8 7,.int .u8 6] t frozen
   |o=>o
 { w0 with heap:=h3 }
end
end Go.Proofs.YtfgajaakmmogkaaGreatDoor
namespace Go.Proofs.YtfgajaakmmogkaaGreatDoor.Sym
section
open Go.ChangeShapes Go.WideShapes Go.ChangeAt Go.RowKit Go.Deep
section
variable {H:Type}{enc:TypeId×Value->H}{W:World}{α β:Type}
theorem bulk_pos(d:DataW H):1<=Rows.uptoBulk d:=by
 cases d with
 |lit l=>cases l<;>simp[Rows.uptoBulk]
 |nil=>simp[Rows.uptoBulk]
 |ptr d=>simp[Rows.uptoBulk]
 |slice elems spare=>simp[Rows.uptoBulk]
 |agg parts=>simp[Rows.uptoBulk]
 |iface t d=>simp[Rows.uptoBulk]
 |map entries=>simp[Rows.uptoBulk]
 |held h=>simp[Rows.uptoBulk]
theorem bulk_mem{d:DataW H}{l:List (DataW H)}(h:d∈l):Rows.uptoBulk d<=Rows.uptoBulkAll l:=by
 induction l with
 |nil=>cases h
 |cons x r ih =>
  simp only[Rows.uptoBulkAll];rcases yap.1 h with e|e
  ·subst e;omega
  ·have:=ih e;omega
theorem zvn(l r:List (DataW H)):Rows.uptoBulkAll (l++r)=Rows.uptoBulkAll l+Rows.uptoBulkAll r:=by
 induction l with
 |nil=>simp[Rows.uptoBulkAll]
 |cons x l ih=>simp only[ycc,Rows.uptoBulkAll,ih];omega
theorem bulk_length(l:List (DataW H)):l.length<=Rows.uptoBulkAll l:=by
 induction l with
 |nil=>simp[Rows.uptoBulkAll]
 |cons x r ih=>have:=bulk_pos x;simp only[Rows.uptoBulkAll,zkL];omega
theorem bulk_small{l:List (DataW H)}(hk:Rows.uptoSmall H l=true):Rows.uptoBulkAll l<=1048576:=by
 simpa[Rows.uptoSmall]using hk
def lowS(W:World):Nat->Prop:=fun b=>b<W.heap.size
def Opn(W:World)(enc:TypeId×Value->H)(t:TypeId)(c:α->List IV)(sz:α->Nat)(ok:α->Prop):Prop :=
 ∀(fuel:Nat) (cs:List Value) (d:DataW H) (ps:List MemPlace),DataW.trod enc Tryz.prog W 0 (fun _=>true) true fuel t cs=some (d,ps)->Rows.uptoBulk d<=1048576 ->
  ∃x,zlc W (lowS W) cs (c x)∧(∀u∈cs,u.oneCell'=true)∧sz x<=Rows.uptoBulk d∧ok x
def sz1{α:Type}(_:α):Nat:=1
def szL(sz:α->Nat)(l:List α):Nat:=(l.map sz).sum+1
def okL(ok:α->Prop)(l:List α):Prop:=∀x∈l,ok x
def okT{α:Type}(_:α):Prop:=True
theorem opn_int:Opn W enc 3 cI sz1 inR:=by
 intro fuel cs d ps h hd;cases fuel with
 |zero=>simp[DataW.trod]at h
 |succ f =>
  unfold DataW.trod at h;rw[Tryz.underlying3]at h;split at h<;>try (cases h;done)
  all_goals (try (rename_i e;cases e;done))
  rename_i k k' n e;injection e with e
  injection e with e
  subst e;split at h
  ·rename_i hw;injection h with h
   injection h with h1 h2
   subst h1;obtain⟨rfl,hw⟩:=hw;refine⟨n,⟨rfl,fun i u x hu hx=>?_⟩,fun u hu=>?_,by simp[sz1,Rows.uptoBulk],?_⟩
   ·match i,hu,hx with
    |0,hu,hx =>
     simp at hu hx;subst hu hx;exact .val _
   ·rcases yba.1 hu with rfl;rfl
   ·simp[Lit.wf,IntKind.min,IntKind.max,IntKind.wrap,IntKind.bits,IntKind.signed]at hw;unfold inR;omega
  ·cases h
theorem opn_elems{t:TypeId}{c:α->List IV}{sz:α->Nat}{ok:α->Prop}{k b o:Nat}(hc:∀x,(c x).length=k)(D:Nat->DataW H):∀(n:Nat),
  (∀i,i<n->∃(x:α) (cs:List Value),(∀j,j<k->W.cell? ⟨b,o+(i*k+j),none⟩=cs[j]?)∧zlc W (lowS W) cs (c x)∧(∀u∈cs,u.oneCell'=true)∧sz x<=Rows.uptoBulk (D i)∧ok x) ->
  ∃(xs:List α) (us:List Value),xs.length=n∧us.length=n*k∧(∀(i:Nat) u,us[i]?=some u->W.cell? ⟨b,o+i,none⟩=some u)∧zlc W (lowS W) us (xs.map c).flatten∧(∀u∈us,u.oneCell'=true) ∧
   (xs.map sz).sum<=Rows.uptoBulkAll ((List.range n).map D)∧∀x∈xs,ok x
 |0,_=>⟨[],[],rfl,by simp,by simp,⟨rfl,by simp⟩,by simp,by simp,by simp⟩
 |n+1,h=>by
  obtain⟨xs,us,h1,h2,h3,h4,h5,h6,h7⟩:=opn_elems (t:=t) hc D n fun i hi=>h i (by omega);obtain⟨x,cs,g1,g2,g3,g4,g5⟩:=h n (by omega);have hcl:cs.length=k:=by rw[g2.1,hc]
  have a3:(xs.map c).flatten.length=n*k:=by rw[<- h4.1,h2]
  refine⟨xs++[x],us++cs,by simp[h1],by rw[zkJ,h2,hcl,Nat.add_mul];omega,fun i u hu=>?_,⟨?_,fun i u y hu hy=>?_⟩,fun u hu=>?_,?_,fun y hy=>?_⟩
  ·rw[yay]at hu;split at hu
   ·exact h3 i u hu
   ·rename_i a2;have hj:=(zkI.1 hu).1;have:=g1 (i-us.length) (by omega);rw[hu,show o+(n*k+(i-us.length))=o+i by omega]at this;exact this
  ·rw[ya1,ycj,zkJ,zkJ,h4.1];simp[g2.1]
  ·rw[ya1,ycj,yay]at hy;rw[yay]at hu;by_cases a2:i<us.length
   ·rw[if_pos a2]at hu;rw[if_pos (by rw[a3,<- h2];exact a2)]at hy;exact h4.2 i u y hu hy
   ·rw[if_neg a2]at hu;rw[if_neg (by rw[a3,<- h2];exact a2),a3,<- h2]at hy;simp only[yat,ydb,ybm,ye4,ybd]at hy;exact g2.2 _ u y hu hy
  ·rcases yak.1 hu with hu|hu
   ·exact h5 u hu
   ·exact g3 u hu
  ·rw[ycr,ya1,ya1,List.sum_append,zvn];simp only[yat,ydb,List.sum_cons,List.sum_nil,Rows.uptoBulkAll];omega
  ·rcases yak.1 hy with hy|hy
   ·exact h7 y hy
   ·rcases yba.1 hy with rfl;exact g5
theorem opn_slice{t e:TypeId}{c:α->List IV}{sz:α->Nat}{ok:α->Prop}{k:Nat}(ht:Tryz.prog.underlying t=some (.slice e))(hk:Tryz.prog.cellsOf e=k)(hk0:0<k)(hc:∀x,(c x).length=k)(O:Opn W enc e c sz ok) :
  Opn W enc t (cL c) (szL sz) (okL ok):=by
 intro fuel cs d ps h hd;rcases open_slice ht h with⟨rfl,hx⟩|⟨a,len,b5,m,n,D,Pl,rfl,_,hl,_,hm,hx,a3⟩
 ·injection hx with a4 a9
  subst a4;refine⟨[],⟨rfl,fun i u x hu hx=>?_⟩,fun u hu=>?_,by simp[szL,Rows.uptoBulk],fun x hx=>by cases hx⟩
  ·match i,hu,hx with
   |0,hu,hx =>
    simp at hu hx;subst hu hx;exact .emp _ _
  ·rcases yba.1 hu with rfl;rfl
 ·injection hx with a4 a9
  subst a4;simp only[if_true]at hm;subst hm
  have b2:Rows.uptoBulkAll ((List.range len).map D)+1<=Rows.uptoBulk (.slice ((List.range len).map D) ((List.range (m-len)).map fun j=>D (len+j))):=by
   simp only[Rows.uptoBulk];omega
  have b4:len<=1048576:=by
   have:=bulk_length ((List.range len).map D);simp at this;omega
  by_cases h0:len=0
  ·subst h0;refine⟨[],⟨rfl,fun i u x hu hx=>?_⟩,fun u hu=>?_,by simp[szL,Rows.uptoBulk],fun x hx=>by cases hx⟩
   ·match i,hu,hx with
    |0,hu,hx =>
     simp at hu hx;subst hu hx;exact .emp _ _
   ·rcases yba.1 hu with rfl;rfl
  ·obtain⟨ab,ao,a5⟩:=a;rw[hk]at a3
   have b0:a5=none:=by
    obtain⟨a7,h1,_⟩:=a3 0 (by omega);obtain⟨_,b3,a2⟩:=World.cells?_some h1;have h2:=a2 0 hk0;rw[zkM (by omega)]at h2;unfold World.cell? Addr.add at h2;simp only[ydz,if_true]at h2;cases a5 with
    |none=>rfl
    |some q =>
     simp at h2;split at h2<;>simp at h2
   subst b0
   obtain⟨xs,us,h1,h2,h3,h4,h5,h6,h7⟩:=opn_elems (W:=W) (t:=e) (sz:=sz) (ok:=ok) (b:=ab) (o:=ao) hc D len fun i hi=>by
    obtain⟨a7,e1,e2⟩:=a3 i (by omega);obtain⟨_,b3,a2⟩:=World.cells?_some e1;obtain⟨x,r1,r2,r3,r4⟩:=O _ _ _ _ e2 (yce (bulk_mem (yae.2 ⟨i,ybc.2 hi,rfl⟩)) (by omega));refine⟨x,a7,fun j hj=>?_,r1,r2,r3,r4⟩;have:=a2 j hj;rw[addr_add,addr_add,ybv]at this;exact this
   have a6:ab<W.heap.size:=by
    have a8:0<us.length:=by rw[h2];exact Nat.mul_pos (by omega) hk0
    exact World.block_lt_of_cell? W _ (h3 0 _ (zkM a8))
   refine⟨xs,⟨rfl,fun i u x hu hx=>?_⟩,fun u hu=>?_,?_,h7⟩
   ·match i,hu,hx with
    |0,hu,hx =>
     simp at hu hx;subst hu hx;refine .sl ab ao m k len (xs.map c) us (by simp[h1]) (fun e he=>by obtain⟨y,_,rfl⟩:=yae.1 he;exact hc y) hl (by omega) a6 h4.1 h5 h3 h4.2
   ·rcases yba.1 hu with rfl;rfl
   ·show(xs.map sz).sum+1<=_;omega
def OpnFs(W:World)(enc:TypeId×Value->H)(fs:List Field)(off len:Nat)(c:α->List IV)(sz:α->Nat)(ok:α->Prop):Prop :=
 ∀(n:Nat) (cs:List Value) (xs:List (DataW H×List MemPlace)),xs.length=fs.length ->
  (∀(i:Nat) f,fs[i]?=some f->DataW.trod enc Tryz.prog W 0 (fun _=>true) true n f.type ((cs.drop f.offset).take (Tryz.prog.cellsOf f.type))=xs[i]?)->Rows.uptoBulkAll (xs.map (·.1))<=1048576 ->
  ∃x,zlc W (lowS W) ((cs.drop off).take len) (c x)∧(∀u∈(cs.drop off).take len,u.oneCell'=true)∧sz x<=Rows.uptoBulkAll (xs.map (·.1))∧ok x
theorem opnFs_nil{off:Nat}:OpnFs W enc [] off 0 (fun _:Unit=>[]) (fun _=>0) okT:=by
 intro n cs xs hx h hb;exact⟨(),⟨by simp,by simp⟩,by simp,yag _,trivial⟩
theorem zph{f:Field}{fs:List Field}{off k len:Nat}{c1:α->List IV}{c2:β->List IV}{s1:α->Nat}{s2:β->Nat}{ok1:α->Prop}{ok2:β->Prop}(ho:f.offset=off)(hk:Tryz.prog.cellsOf f.type=k)
  (O:Opn W enc f.type c1 s1 ok1) (hc:∀x,(c1 x).length=k) (R:OpnFs W enc fs (off+k) len c2 s2 ok2) :
  OpnFs W enc (f::fs) off (k+len) (fun p:α×β=>c1 p.1++c2 p.2) (fun p=>s1 p.1+s2 p.2) (fun p=>ok1 p.1∧ok2 p.2):=by
 intro n cs xs hx h hb
 match xs,hx with
 |x::xs,hx =>
  have e0:=h 0 f rfl;rw[ho,hk]at e0;simp only[yat,Rows.uptoBulkAll]at hb;obtain⟨a,r1,r2,r3,r4⟩:=O n _ x.1 x.2 e0 (by omega)
  obtain⟨b,q1,q2,q3,q4⟩:=R n cs xs (by simpa using hx) (fun i g hg=>by
   have:=h (i+1) g (by simpa using hg)
   simpa using this) (by omega)
  have a2:(cs.drop off).take (k+len)=(cs.drop off).take k++(cs.drop (off+k)).take len:=by
   rw[List.take_add,yew]
  have a4:((cs.drop off).take k).length=(c1 a).length:=r1.1;refine⟨(a,b),?_,fun u hu=>?_,by simp only[yat,Rows.uptoBulkAll];omega,r4,q4⟩
  ·rw[a2];refine⟨by rw[zkJ,zkJ,r1.1,q1.1],fun i u y hu hy=>?_⟩;rw[yay,a4]at hu;rw[yay]at hy;split at hu
   ·rename_i a3;rw[if_pos a3]at hy;exact r1.2 i u y hu hy
   ·rename_i a3;rw[if_neg a3]at hy;exact q1.2 _ u y hu hy
  ·rw[a2]at hu;rcases yak.1 hu with hu|hu
   ·exact r2 u hu
   ·exact q2 u hu
theorem opn_struct{t:TypeId}{fs:Array Field}{len:Nat}{c:α->List IV}{sz:α->Nat}{ok:α->Prop}{c':β->List IV}{sz':β->Nat}{ok':β->Prop}(ht:Tryz.prog.underlying t=some (.struct fs))(hl:Tryz.prog.cellsOf t=len)
  (R:OpnFs W enc fs.toList 0 len c sz ok) (conv:α->β) (hc:∀p,c' (conv p)=c p) (hs:∀p,sz' (conv p)=sz p+1) (ho:∀p,ok p->ok' (conv p)):Opn W enc t c' sz' ok':=by
 intro fuel cs d ps h hd;obtain⟨xs,n,rfl,hx,a2,a3,hf⟩:=DataW.trod_struct ht h;injection hx with a4 a5
 subst a4;simp only[Rows.uptoBulk]at hd;obtain⟨x,r1,r2,r3,r4⟩:=R n cs xs (by rw[a3];simp) (fun i f hi=>hf i f (by simpa using hi)) (by omega);rw[hl]at a2;have e:(cs.drop 0).take len=cs:=by rw[List.drop_zero,<- a2,yax]
 rw[e]at r1 r2;refine⟨conv x,by rw[hc];exact r1,r2,?_,ho x r4⟩;rw[hs];simp only[Rows.uptoBulk];omega
theorem arg_struct{t:TypeId}{fs:Array Field}{v:Value}{d:DataW H}{p:List MemPlace}{base:Nat}{c:α->List IV}{sz:α->Nat}{ok:α->Prop}(ht:Tryz.prog.underlying t=some (.struct fs))(hv:Value.okWide Tryz.prog W .any base t v)
  (h:DataW.Trod enc Tryz.prog W 0 (fun _=>true) true t v d p) (O:Opn W enc t c sz ok) (hb:Rows.uptoBulk d<=1048576):∃x,RepI W (lowS W) v (.agg (c x))∧sz x<=Rows.uptoBulk d∧ok x:=by
 obtain⟨cs,rfl,_⟩:=okWide_struct ht hv;obtain⟨fuel,hf⟩:=h;obtain⟨x,r1,r2,r3,r4⟩:=O fuel cs.toList d p (by simpa[Value.cells]using hf) hb;refine⟨x,?_,r3,r4⟩;have:=RepI.agg (w:=W) (S:=lowS W) cs.toList (c x) r1.1 r2 r1.2;simpa using this
theorem arg_int{v:Value}{d:DataW H}{p:List MemPlace}{base:Nat}(hv:Value.okWide Tryz.prog W .any base 3 v)(h:DataW.Trod enc Tryz.prog W 0 (fun _=>true) true 3 v d p):∃x,RepI W (lowS W) v (nI x)∧inR x:=by
 obtain⟨z,rfl,rfl,rfl,wz⟩:=open_int Tryz.underlying3 hv h;refine⟨z,.val _,?_⟩;simp[Lit.wf,IntKind.min,IntKind.max,IntKind.wrap,IntKind.bits,IntKind.signed]at wz;unfold inR;omega
theorem sp_law{f:FuncId}{W:World}{vs:List Value}{xs:List Arg}(h:Sp Tryz.prog f xs (.im (nB true)))(ha:zet W (lowS W) vs xs []) :
  Calls Tryz.prog f vs.toArray W fun e W'=>e=.returned (.bool true)∧Below W.heap.size W W':=by
 refine(h.2 W (lowS W) vs [] (fun b hb=>hb) ha ycq (fun b hb=>by cases hb)).mono ?_;rintro e W' ⟨v,F',rfl,hb,⟨us,F1,F2,e1,ho,_,_⟩,_,_⟩;have e1:us=[v]:=e1;subst e1;refine⟨?_,hb.below fun b hb=>by cases hb⟩;obtain⟨F3,F4,⟨hr,_⟩,_⟩:=ho;cases hr;rfl
end
end
section
section
variable {H:Type}{enc:TypeId×Value->H}{W:World}
theorem opn_0:Opn W enc 48 (cL cI) (szL sz1) (okL inR):=opn_slice (k:=1) Tryz.underlying48 (by kernel_rfl) (by decide) (fun _=>rfl) opn_int
theorem opn_1:Opn W enc 22 (cL (cL cI)) (szL (szL sz1)) (okL (okL inR)):=opn_slice (k:=1) Tryz.underlying22 (by kernel_rfl) (by decide) (fun _=>rfl) opn_0
def zun(x:zad):Nat:=(sz1 x.Inputs+(sz1 x.Start+((szL (szL sz1)) x.Next+((szL (szL sz1)) x.Out+0))))+1
def zua(x:zad):Prop:=inR x.Inputs∧inR x.Start∧(okL (okL inR)) x.Next∧(okL (okL inR)) x.Out
theorem opn_api_Mealy:Opn W enc 24 zal zun zua :=
 opn_struct (len:=4) Tryz.underlying24 (by kernel_rfl) (zph (k:=1) rfl (by kernel_rfl) opn_int (fun _=>rfl) (zph (k:=1) rfl (by kernel_rfl) opn_int (fun _=>rfl) (zph (k:=1) rfl (by kernel_rfl) opn_1 (fun _=>rfl) (zph (k:=1) rfl (by kernel_rfl) opn_1 (fun _=>rfl) opnFs_nil)))) (fun p=>⟨p.1,p.2.1,p.2.2.1,p.2.2.2.1⟩) (fun _=>rfl) (fun _=>rfl) (fun p h=>⟨h.1,h.2.1,h.2.2.1,h.2.2.2.1⟩)
end
end
end Go.Proofs.YtfgajaakmmogkaaGreatDoor.Sym
namespace Go.Proofs.YtfgajaakmmogkaaGreatDoor
def za4:List Int->List Int->Nat
 |x::xs,y::ys=>if x=y then za4 xs ys+1 else 0
 |_,_=>0
theorem zmu:∀xs ys:List Int,za4 xs ys<=xs.length∧za4 xs ys<=ys.length
 |[],_=>by simp[za4]
 |_::_,[]=>by simp[za4]
 |x::xs,y::ys=>by
  have h:=zmu xs ys;simp only[za4];split<;>simp<;>omega
theorem ztq{xs ys:List Int}{k:Nat}(h:xs.length<=k∨ys.length<=k):za4 (xs.drop k) (ys.drop k)=0:=by
 rcases h with h|h
 ·rw[List.drop_eq_nil_of_le h];simp[za4]
 ·rw[List.drop_eq_nil_of_le h];cases xs.drop k<;>simp[za4]
theorem zmw:∀xs:List Int,za4 xs xs=xs.length
 |[]=>rfl
 |x::xs=>by simp[za4,zmw xs]
theorem zwn:∀xs ys:List Int,za4 xs ys=xs.length->za4 xs ys=ys.length->xs=ys
 |[],[],_,_=>rfl
 |[],y::ys,_,h=>by simp[za4]at h
 |x::xs,[],h,_=>by simp[za4]at h
 |x::xs,y::ys,h1,h2=>by
  simp only[za4]at h1 h2;split at h1
  ·rename_i he;subst he;simp at h1 h2;rw[zwn xs ys h1 h2]
  ·simp at h1
theorem same_iff(xs ys:List Int):(xs.length=ys.length∧za4 xs ys=xs.length)↔xs=ys:=by
 constructor
 ·rintro⟨h1,h2⟩;exact zwn xs ys h2 (by omega)
 ·rintro rfl;exact⟨rfl,zmw xs⟩
theorem zpp:∀w p:List Int,za4 w p=p.length↔p <+: w
 |[],[]=>by simp[za4]
 |[],y::ys=>by simp[za4]
 |x::xs,[]=>by simp[za4]
 |x::xs,y::ys=>by
  simp only[za4,List.length_cons,List.cons_prefix_cons];by_cases h:x=y
  ·subst h;simp[zpp xs ys]
  ·rw[if_neg h];constructor
   ·intro h';omega
   ·rintro⟨rfl,_⟩;exact absurd rfl h
def lexI:List Int->List Int->Int
 |[],[]=>0
 |[],_::_=>-1
 |_::_,[]=>1
 |x::xs,y::ys=>if x<y then -1 else if y<x then 1 else lexI xs ys
def cmpW(a b:List Int):Int:=if a.length<b.length then -1 else if b.length<a.length then 1 else lexI a b
theorem zhc:∀a b:List Int,lexI a b=-1∨lexI a b=0∨lexI a b=1
 |[],[]=>by simp[lexI]
 |[],_::_=>by simp[lexI]
 |_::_,[]=>by simp[lexI]
 |x::xs,y::ys=>by
  simp only[lexI];split
  ·simp
  ·split
   ·simp
   ·exact zhc xs ys
theorem zk7:∀a b:List Int,lexI a b=0↔a=b
 |[],[]=>by simp[lexI]
 |[],_::_=>by simp[lexI]
 |_::_,[]=>by simp[lexI]
 |x::xs,y::ys=>by
  simp only[lexI,List.cons.injEq];by_cases h1:x<y
  ·rw[if_pos h1];constructor
   ·intro h;omega
   ·rintro⟨rfl,_⟩;omega
  ·rw[if_neg h1];by_cases h2:y<x
   ·rw[if_pos h2];constructor
    ·intro h;omega
    ·rintro⟨rfl,_⟩;omega
   ·rw[if_neg h2,zk7 xs ys];constructor
    ·intro h;exact⟨by omega,h⟩
    ·rintro⟨_,h⟩;exact h
theorem lexI_refl(a:List Int):lexI a a=0:=(zk7 a a).2 rfl
theorem zjq:∀a b:List Int,lexI b a=- lexI a b
 |[],[]=>by simp[lexI]
 |[],_::_=>by simp[lexI]
 |_::_,[]=>by simp[lexI]
 |x::xs,y::ys=>by
  simp only[lexI];by_cases h1:x<y
  ·rw[if_neg (show ¬y<x by omega),if_pos h1,if_pos h1];simp
  ·by_cases h2:y<x
   ·rw[if_pos h2,if_neg h1,if_pos h2]
   ·rw[if_neg h2,if_neg h1,if_neg h1,if_neg h2];exact zjq xs ys
theorem zkn:∀a b c:List Int,lexI a b=-1->lexI b c=-1->lexI a c=-1
 |[],[],_,h,_=>by simp[lexI]at h
 |[],_::_,[],_,h=>by simp[lexI]at h
 |[],_::_,_::_,_,_=>by simp[lexI]
 |_::_,[],_,h,_=>by simp[lexI]at h
 |_::_,_::_,[],_,h=>by simp[lexI]at h
 |x::xs,y::ys,z::zs,h1,h2=>by
  simp only[lexI]at h1 h2 ⊢;by_cases p:x<y
  ·by_cases q:y<z
   ·rw[if_pos (by omega)]
   ·rw[if_neg q]at h2;by_cases r:z<y
    ·rw[if_pos r]at h2;omega
    ·rw[if_pos (by omega)]
  ·rw[if_neg p]at h1;by_cases p':y<x
   ·rw[if_pos p']at h1;omega
   ·rw[if_neg p']at h1;by_cases q:y<z
    ·rw[if_pos (by omega)]
    ·rw[if_neg q]at h2;by_cases r:z<y
     ·rw[if_pos r]at h2;omega
     ·rw[if_neg r]at h2;rw[if_neg (by omega),if_neg (by omega)];exact zkn xs ys zs h1 h2
theorem zwb:∀a b:List Int,lexI a b =
  if za4 a b=a.length∧za4 a b=b.length then 0 else
  if za4 a b=a.length∨(za4 a b<b.length∧a.getD (za4 a b) 0<b.getD (za4 a b) 0) then -1 else 1
 |[],[]=>by simp[lexI,za4]
 |[],_::_=>by simp[lexI,za4]
 |_::_,[]=>by simp[lexI,za4]
 |x::xs,y::ys=>by
  have ih:=zwb xs ys;simp only[lexI,za4];by_cases h:x=y
  ·subst h;rw[if_neg (by omega),if_neg (by omega),ih];simp
  ·by_cases h1:x<y
   ·simp[h,h1]
   ·have h2:y<x:=by omega
    simp[h,h1,h2]
theorem zil(a b:List Int):cmpW a b=-1∨cmpW a b=0∨cmpW a b=1:=by
 unfold cmpW;split
 ·simp
 ·split
  ·simp
  ·exact zhc a b
theorem zos(a b:List Int):cmpW a b=0↔a=b:=by
 unfold cmpW;by_cases h1:a.length<b.length
 ·rw[if_pos h1];constructor
  ·intro h;omega
  ·rintro rfl;omega
 ·rw[if_neg h1];by_cases h2:b.length<a.length
  ·rw[if_pos h2];constructor
   ·intro h;omega
   ·rintro rfl;omega
  ·rw[if_neg h2,zk7]
theorem zfs(a:List Int):cmpW a a=0:=(zos a a).2 rfl
theorem zmd(a b:List Int):cmpW b a=- cmpW a b:=by
 unfold cmpW;by_cases h1:a.length<b.length
 ·rw[if_neg (by omega),if_pos h1,if_pos h1];simp
 ·by_cases h2:b.length<a.length
  ·rw[if_pos h2,if_neg h1,if_pos h2]
  ·rw[if_neg h2,if_neg h1,if_neg h1,if_neg h2];exact zjq a b
theorem zik(a b c:List Int)(h1:cmpW a b=-1)(h2:cmpW b c=-1):cmpW a c=-1:=by
 unfold cmpW at *;by_cases p:a.length<b.length
 ·by_cases q:b.length<c.length
  ·rw[if_pos (by omega)]
  ·rw[if_neg q]at h2;by_cases r:c.length<b.length
   ·rw[if_pos r]at h2;omega
   ·rw[if_pos (by omega)]
 ·rw[if_neg p]at h1;by_cases p':b.length<a.length
  ·rw[if_pos p']at h1;omega
  ·rw[if_neg p']at h1;by_cases q:b.length<c.length
   ·rw[if_pos (by omega)]
   ·rw[if_neg q]at h2;by_cases r:c.length<b.length
    ·rw[if_pos r]at h2;omega
    ·rw[if_neg r]at h2;rw[if_neg (by omega),if_neg (by omega)];exact zkn a b c h1 h2
def Asc(l:List (List Int)):Prop:=l.Pairwise fun a b=>cmpW a b=-1
def zhf(l:List (List Int)):Nat:=l.foldl (fun n w=>max n w.length) 0
theorem foldl_max_le(l:List (List Int)):∀n b:Nat,(l.foldl (fun n w=>max n w.length) n<=b↔n<=b∧∀x∈l,x.length<=b):=by
 induction l with
 |nil=>intro n b;simp
 |cons y l ih =>
  intro n b;rw[List.foldl_cons,ih];simp only[List.forall_mem_cons];constructor
  ·rintro⟨h1,h2⟩;exact⟨by omega,by omega,h2⟩
  ·rintro⟨h1,h2,h3⟩;exact⟨by omega,h3⟩
theorem zq0(l:List (List Int))(b:Nat):zhf l<=b↔∀x∈l,x.length<=b:=by
 rw[zhf,foldl_max_le];simp
def zck(l:List (List Int))(w:List Int):Nat:=(l.takeWhile fun x=>cmpW x w==-1).length
theorem zxc(l:List (List Int))(w:List Int):zck l w<=l.length:=by
 unfold zck;exact(List.takeWhile_sublist _).length_le
def zbq(xs:List Int)(inputs:Int):Int :=
 if 1<=inputs∧inputs<=1024 then if 1024<xs.length then 3 else if xs.all fun a=>decide (0<=a∧a<inputs) then 0 else 1 else 2
theorem Asc.get{l:List (List Int)}(h:Asc l){i j:Nat}{x y:List Int}(hij:i<j)(hx:l[i]?=some x)(hy:l[j]?=some y):cmpW x y=-1:=by
 have hj:j<l.length:=(List.getElem?_eq_some_iff.1 hy).1;have h1:=List.pairwise_iff_getElem.1 h i j (by omega) hj hij;rw[List.getElem?_eq_getElem (by omega)]at hx;rw[List.getElem?_eq_getElem hj]at hy;injection hx with hx
 injection hy with hy
 rw[<- hx,<- hy];exact h1
def insW(l:List (List Int))(x:List Int):List (List Int):=if x∈l then l else l.take (zck l x)++x::l.drop (zck l x)
theorem znm:∀(l:List (List Int)) (w:List Int),(∀i x,i<zck l w->l[i]?=some x->cmpW x w=-1)∧(∀x,l[zck l w]?=some x->cmpW x w≠-1)
 |[],w=>by simp[zck]
 |y::l,w=>by
  have ih:=znm l w;by_cases hy:cmpW y w=-1
  ·have e:zck (y::l) w=zck l w+1:=by simp[zck,hy]
   rw[e];refine⟨fun i x hi hx=>?_,fun x hx=>ih.2 x (by simpa using hx)⟩;cases i with
   |zero=>simp at hx;rw[<- hx];exact hy
   |succ i=>exact ih.1 i x (by omega) (by simpa using hx)
  ·have e:zck (y::l) w=0:=by simp[zck,hy]
   rw[e];refine⟨fun i x hi=>absurd hi (by omega),fun x hx=>?_⟩;simp at hx;rw[<- hx];exact hy
theorem Asc.mem_place{l:List (List Int)}(h:Asc l)(w:List Int):w∈l↔l[zck l w]?=some w:=by
 constructor
 ·intro hm;obtain⟨i,hi⟩:=List.getElem?_of_mem hm;have hs:=znm l w
  have h1:¬i<zck l w:=fun a2=>by
   have:=hs.1 i w a2 hi;rw[zfs]at this;omega
  by_cases h2:i=zck l w
  ·rw[<- h2];exact hi
  ·have a3:i<l.length:=(List.getElem?_eq_some_iff.1 hi).1;have hg:l[zck l w]?=some l[zck l w]:=List.getElem?_eq_getElem (by omega);have:=h.get (by omega) hg hi;exact absurd this (hs.2 _ hg)
 ·intro h2;exact List.mem_of_getElem? h2
theorem mem_insW(l:List (List Int))(x y:List Int):y∈insW l x↔y∈l∨y=x:=by
 unfold insW;split
 ·rename_i h;constructor
  ·exact Or.inl
  ·rintro (h'|rfl)
   ·exact h'
   ·exact h
 ·have e:y∈l↔y∈l.take (zck l x)∨y∈l.drop (zck l x):=by
   rw[<- List.mem_append,List.take_append_drop]
  rw[List.mem_append,List.mem_cons,e];constructor
  ·rintro (h|h|h)
   ·exact Or.inl (Or.inl h)
   ·exact Or.inr h
   ·exact Or.inl (Or.inr h)
  ·rintro ((h|h)|h)
   ·exact Or.inl h
   ·exact Or.inr (Or.inr h)
   ·exact Or.inr (Or.inl h)
theorem Asc.insW{l:List (List Int)}(h:Asc l)(x:List Int):Asc (insW l x):=by
 unfold Go.Proofs.YtfgajaakmmogkaaGreatDoor.insW;split
 ·exact h
 ·rename_i hm;have hs:=znm l x
  have a2:∀a∈l.take (zck l x),cmpW a x=-1:=fun a ha=>by
   obtain⟨i,hi⟩:=List.getElem?_of_mem ha;rw[List.getElem?_take]at hi;split at hi
   ·rename_i a4;exact hs.1 i a a4 hi
   ·cases hi
  have a3:∀b∈l.drop (zck l x),cmpW x b=-1:=fun b hb=>by
   obtain⟨i,hi⟩:=List.getElem?_of_mem hb;rw[List.getElem?_drop]at hi;have a6:zck l x+i<l.length:=(List.getElem?_eq_some_iff.1 hi).1;have hg:l[zck l x]?=some l[zck l x]:=List.getElem?_eq_getElem (by omega);have h0:=hs.2 _ hg;have a7:cmpW l[zck l x] x≠0:=fun e=>hm (by rw[<- (zos _ _).1 e];exact List.getElem_mem _);have hr:=zil l[zck l x] x;have h1:cmpW x l[zck l x]=-1:=by rw[zmd];omega
   by_cases a5:i=0
   ·subst a5;rw[Nat.add_zero,hg]at hi;injection hi with hi
    rw[<- hi];exact h1
   ·exact zik _ _ _ h1 (h.get (by omega) hg hi)
  unfold Asc;rw[List.pairwise_append,List.pairwise_cons];refine⟨List.Pairwise.sublist (List.take_sublist _ _) h,⟨a3,List.Pairwise.sublist (List.drop_sublist _ _) h⟩,fun a ha b hb=>?_⟩;rcases List.mem_cons.1 hb with rfl|hb
  ·exact a2 a ha
  ·exact zik _ _ _ (a2 a ha) (a3 b hb)
theorem insW_length(l:List (List Int))(x:List Int):(insW l x).length<=l.length+1:=by
 unfold insW;split
 ·omega
 ·simp;omega
theorem asc_nil:Asc []:=List.Pairwise.nil
theorem zqq:∀{l m:List (List Int)},Asc l->Asc m->(∀x,x∈l↔x∈m)->l=m
 |[],[],_,_,_=>rfl
 |[],y::m,_,_,h=>absurd ((h y).2 (by simp)) (by simp)
 |x::l,[],_,_,h=>absurd ((h x).1 (by simp)) (by simp)
 |x::l,y::m,hl,hm,h=>by
  have h1:=List.pairwise_cons.1 hl;have h2:=List.pairwise_cons.1 hm
  have hxy:x=y:=by
   rcases List.mem_cons.1 ((h x).1 (by simp)) with e|hx
   ·exact e
   ·rcases List.mem_cons.1 ((h y).2 (by simp)) with e|hy
    ·exact e.symm
    ·have a:=h2.1 x hx;have b:=h1.1 y hy;rw[zmd]at a;omega
  subst hxy
  have a2:∀{k:List (List Int)},(∀b∈k,cmpW x b=-1)->x∉k:=fun hk hx=>by
   have:=hk x hx;rw[zfs]at this;omega
  rw[zqq h1.2 h2.2 fun z=>?_];have:=h z;simp only[List.mem_cons]at this;constructor
  ·intro hz;rcases this.1 (Or.inr hz) with rfl|h'
   ·exact absurd hz (a2 h1.1)
   ·exact h'
  ·intro hz;rcases this.2 (Or.inr hz) with rfl|h'
   ·exact absurd hz (a2 h2.1)
   ·exact h'
def sortW(l:List (List Int)):List (List Int):=l.foldl insW []
theorem zzs(l:List (List Int))(x:List Int):sortW (l++[x])=insW (sortW l) x:=by simp[sortW]
theorem zpu:∀(l a:List (List Int)),Asc a->Asc (l.foldl insW a)∧(∀x,x∈l.foldl insW a↔x∈a∨x∈l)∧(l.foldl insW a).length<=a.length+l.length
 |[],a,h=>⟨h,fun x=>by simp,by simp⟩
 |y::l,a,h=>by
  obtain⟨h1,h2,h3⟩:=zpu l (insW a y) (h.insW y);refine⟨h1,fun x=>?_,?_⟩
  ·rw[List.foldl_cons,h2,mem_insW,List.mem_cons,or_assoc]
  ·have:=insW_length a y;rw[List.foldl_cons,List.length_cons];omega
theorem zhx(l:List (List Int)):Asc (sortW l):=(zpu l [] asc_nil).1
theorem zcq(l:List (List Int))(x:List Int):x∈sortW l↔x∈l:=by
 rw[sortW,(zpu l [] asc_nil).2.1 x];simp
theorem zdd(l:List (List Int)):(sortW l).length<=l.length:=by
 have:=(zpu l [] asc_nil).2.2;simpa[sortW]using this
def stage{α:Type}(us:List α)(z:α)(i:Nat):List α:=us.take i++z::us.drop i
theorem stage_end{α:Type}(us:List α)(z:α):stage us z us.length=us++[z]:=by simp[stage]
theorem stage_at{α:Type}{us:List α}{z:α}{i:Nat}(h:i<=us.length):(stage us z i)[i]?=some z:=by
 simp[stage,List.getElem?_append,Nat.min_eq_left h]
theorem stage_before{α:Type}{us:List α}{z:α}{i j:Nat}(h:j<i)(h2:i<=us.length):(stage us z i)[j]?=us[j]?:=by
 rw[stage,List.getElem?_append,if_pos (by simp;omega),List.getElem?_take,if_pos h]
theorem stage_set{α:Type}{us:List α}{z u:α}{i:Nat}(h:i<=us.length):(stage us z i).set i u=stage us u i:=by
 rw[stage,List.set_append,if_neg (by simp;omega)];have:i-(us.take i).length=0:=by simp;omega
 rw[this];rfl
theorem stage_down{α:Type}{us:List α}{u:α}{j:Nat}(h:us[j]?=some u):stage us u (j+1)=stage us u j:=by
 obtain⟨hj,e⟩:=List.getElem?_eq_some_iff.1 h;unfold stage;rw[List.take_add_one,h,List.drop_eq_getElem_cons hj,e];simp
section
def Keeps(w w':World):Prop:=∀p u,w.cell? p=some u->w'.cell? p=some u
theorem Keeps.of_below{w w':World}(h:Below w.heap.size w w'):Keeps w w':=fun p _ hu =>
 (h.cell (p:=p) (World.block_lt_of_cell? w p hu)).trans hu
def zi0{α:Type}(w:World)(R:Value->α->Prop)(A:Option Addr)(n c:Nat)(l:List α):Prop :=
 l.length=n∧n<=c∧n<=17592186044416 ∧
  (0<n->∃b o,A=some ⟨b,o,none⟩∧∀i x,l[i]?=some x->∃u,w.cell? ⟨b,o+i,none⟩=some u∧R u x)
def zqx(u:Value)(x:Int):Prop:=u=.int .i64 x
section
variable {α:Type}{w w':World}{R R':Value->α->Prop}{A:Option Addr}{n c k:Nat}{l:List α}
theorem zi0.len(h:zi0 w R A n c l):l.length=n:=h.1
theorem zi0.small(h:zi0 w R A n c l):n<=17592186044416:=h.2.2.1
theorem zi0.keep(h:zi0 w R A n c l)(hk:Keeps w w')(hR:∀u x,R u x->R' u x):zi0 w' R' A n c l :=
 ⟨h.1,h.2.1,h.2.2.1,fun hn=>by
  obtain⟨b,o,e,hc⟩:=h.2.2.2 hn
  refine⟨b,o,e,fun i x hx=>?_⟩
  obtain⟨u,hu,hr⟩:=hc i x hx
  exact⟨u,hk _ _ hu,hR _ _ hr⟩⟩
theorem zi0.at_(h:zi0 w R A n c l)(hk:k<n):∃b o u x,A=some ⟨b,o,none⟩∧l[k]?=some x∧w.cell? ⟨b,o+k,none⟩=some u∧R u x:=by
 obtain⟨b,o,e,hc⟩:=h.2.2.2 (by omega);have hl:k<l.length:=by rw[h.1];exact hk
 obtain⟨u,hu,hr⟩:=hc k l[k] (List.getElem?_eq_getElem hl);exact⟨b,o,u,l[k],e,List.getElem?_eq_getElem hl,hu,hr⟩
end
theorem zi0.int_at{w:World}{A:Option Addr}{n c k:Nat}{xs:List Int}(h:zi0 w zqx A n c xs)(hk:k<n) :
  ∃b o x,A=some ⟨b,o,none⟩∧xs[k]?=some x∧w.cell? ⟨b,o+k,none⟩=some (.int .i64 x):=by
 obtain⟨b,o,u,x,e,hx,hu,rfl⟩:=h.at_ hk;exact⟨b,o,x,e,hx,hu⟩
theorem zl2{k:IntKind}{a b:Int}(h:a=b):Ending.returned (.int k a)=.returned (.int k b):=by rw[h]
theorem zi0.kept{α:Type}{w w':World}{R:Value->α->Prop}{A:Option Addr}{n c:Nat}{l:List α}(h:zi0 w R A n c l)(hk:Keeps w w'):zi0 w' R A n c l:=h.keep hk fun _ _ h=>h
theorem zbc{α:Type}{l:List α}{k:Nat}{x:α}(hl:l[k]?=some x):l.take (k+1)=l.take k++[x]:=by
 rw[List.take_add_one,hl];rfl
theorem zlj{α:Type}{l:List α}{k:Nat}{x d:α}(h:l[k]?=some x):l.getD k d=x:=by simp[List.getD_eq_getElem?_getD,h]
end
section
theorem Tryz.infoInt:(Tryz.prog.info? 3).map (fun i=>(i.zero,i.size,i.bytes))=some (some (.int .i64 0),1,8):=by kernel_rfl
theorem Tryz.infoWord:(Tryz.prog.info? 48).map (fun i=>(i.zero,i.size,i.bytes))=some (some (.slice none 0 0),1,24):=by kernel_rfl
theorem addr_add(b o j:Nat):(⟨b,o,none⟩:Addr).add j=⟨b,o+j,none⟩:=by
 unfold Addr.add;split
 ·rename_i h;subst h;rfl
 ·rfl
def Src(w:World)(A:Option Addr)(m:Nat)(news:List Value):Prop :=
 news.length=m∧(0<m->∃b o,A=some ⟨b,o,none⟩∧∀j u,news[j]?=some u->w.cell? ⟨b,o+j,none⟩=some u)
section
variable {P:Program}{w:World}
theorem zyj(base:Nat)(t ty e:TypeId)(i:TypeInfo)(z:Value)(bytes:Nat)(ht:P.underlying t=some (.slice e))(hi:P.info? e=some i)(hz:i.zero=some z)
  (hsize:i.size=1) (hby:i.bytes=bytes) (hzs:z.cells.size=1) (v:Value) (n:Nat) (xs:List Value) (hown:w.ownsRow base e 1 v n xs)
  (A:Option Addr) (m c:Nat) (news:List Value) (hs:Src w A m news) (h1:∀u∈news,u.oneCell'=true)
  (a2:n+m<=maxLen) (hbytes:(n+m)*bytes<=140737488355328) (hbase:base<=w.heap.size) :
  ∃v' w',(Builtin.append_ #[t,t] ty #[v,.slice A m c]).run P w=.ok v' w'∧w'.ownsRow base e 1 v' (n+m) (xs++news)∧w.grownBy w' v.ownBlock ∧
   (v'.ownBlock=v.ownBlock∨v'.ownBlock=some w.heap.size):=by
 obtain⟨hl,hc⟩:=hs;cases A with
 |none =>
  have hm:m=0:=by
   rcases Nat.eq_zero_or_pos m with h0|h0
   ·exact h0
   ·obtain⟨b,o,h,_⟩:=hc h0;cases h
  subst hm;have hn:news=[]:=List.eq_nil_of_length_eq_zero hl;subst hn;refine⟨v,w,?_,by simpa using hown,World.grownBy.refl w _,.inl rfl⟩;rcases hown.2 with⟨rfl,rfl⟩|⟨g,a7,cur,rfl,_,_,a5,_⟩
  ·simp[Builtin.append_,run_underlying ht,sizeOf,typeInfo,hi,Builtin.lenOf,Builtin.firstCells]
  ·simp[Builtin.append_,run_underlying ht,sizeOf,typeInfo,hi,Builtin.lenOf,Builtin.firstCells,a5,storeCells]
 |some ad =>
  have a3:∀j u,news[j]?=some u->w.cell? (ad.add j)=some u:=by
   intro j u hu;rcases Nat.eq_zero_or_pos m with h0|h0
   ·subst h0;have hn:news=[]:=List.eq_nil_of_length_eq_zero hl;subst hn;simp at hu
   ·obtain⟨b,o,h,a6⟩:=hc h0;injection h with h
    subst h;rw[addr_add];exact a6 j u hu
  obtain⟨v',w',a4,h2,h3,_,h5⟩:=run_append_own_at (P:=P) w base t ty e i z 1 bytes ht hi hz hsize hby hzs (by omega) v n xs hown ad m c news (by omega) a3 h1 a2 hbytes hbase;exact⟨v',w',a4,h2,h3,h5⟩
theorem wp_append_row{o:Oper}{a:Act}{K:Act->World->Prop}{Q:Exit->Act->World->Prop}(s x:Operand)(t:TypeId)
  (ho:o.op=.call { callee:=.builtin .append,args:=#[s,x],argTypes:=#[t,t] })
  (base:Nat) (e:TypeId) (i:TypeInfo) (z:Value) (bytes:Nat) (ht:P.underlying t=some (.slice e)) (hi:P.info? e=some i) (hz:i.zero=some z)
  (hsize:i.size=1) (hby:i.bytes=bytes) (hzs:z.cells.size=1) (v:Value) (n:Nat) (xs:List Value) (hs:a.eval s=v) (hown:w.ownsRow base e 1 v n xs)
  (A:Option Addr) (m c:Nat) (news:List Value) (hx:a.eval x=.slice A m c) (hsrc:Src w A m news) (h1:∀u∈news,u.oneCell'=true)
  (a2:n+m<=maxLen) (hbytes:(n+m)*bytes<=140737488355328) (hbase:base<=w.heap.size)
  (h:∀v' w',w'.ownsRow base e 1 v' (n+m) (xs++news)->w.grownBy w' v.ownBlock->(v'.ownBlock=v.ownBlock∨v'.ownBlock=some w.heap.size)->K (a.put o.dst v') w'):o.wp P a w K Q:=by
 obtain⟨v',w',a3,h2,h3,h4⟩:=zyj (P:=P) base t o.type e i z bytes ht hi hz hsize hby hzs v n xs hown A m c news hsrc h1 a2 hbytes hbase;unfold Oper.wp execOp;simp only[ho,resolve,invoke,builtin,Sem.run_bind,Sem.run_pure,Result.andThen_ok,List.map_toArray,List.map_cons,List.map_nil,hs,hx,a3];exact h v' w' h2 h3 h4
theorem zi5{ops:Array Oper}{rest:List Oper}{o:Oper}{a:Act}{Q:Exit->Act->World->Prop}(hgd:o.guard=none)(s x:Operand)(t:TypeId)
  (ho:o.op=.call { callee:=.builtin .append,args:=#[s,x],argTypes:=#[t,t] })
  (base:Nat) (e:TypeId) (i:TypeInfo) (z:Value) (bytes:Nat) (ht:P.underlying t=some (.slice e)) (hi:P.info? e=some i) (hz:i.zero=some z)
  (hsize:i.size=1) (hby:i.bytes=bytes) (hzs:z.cells.size=1) (v:Value) (n:Nat) (xs:List Value) (hs:a.eval s=v) (hown:w.ownsRow base e 1 v n xs)
  (A:Option Addr) (m c:Nat) (news:List Value) (hx:a.eval x=.slice A m c) (hsrc:Src w A m news) (h1:∀u∈news,u.oneCell'=true)
  (a2:n+m<=maxLen) (hbytes:(n+m)*bytes<=140737488355328) (hbase:base<=w.heap.size)
  (h:∀v' w',w'.ownsRow base e 1 v' (n+m) (xs++news)->w.grownBy w' v.ownBlock->(v'.ownBlock=v.ownBlock∨v'.ownBlock=some w.heap.size)->wpList P ops Q rest (a.put o.dst v') w') :
  wpList P ops Q (o::rest) a w :=
 wpList_plain hgd fun _ hK=>wp_append_row s x t ho base e i z bytes ht hi hz hsize hby hzs v n xs hs hown A m c news hx hsrc h1 a2 hbytes hbase fun v' w' h2 h3 h4=>hK _ _ (h v' w' h2 h3 h4)
end
theorem zia{w w':World}(hg:w.grownBy w' none):Keeps w w':=fun _ _ hu=>hg.cell hu (by simp)
theorem zy6{w w':World}(h:Below w.heap.size w w'):w.grownBy w' none:=⟨h.os,h.tape,h.output,h.size,fun k hk _=>h.block k hk⟩
theorem zqm{w w':World}{row:Option Nat}(hg:w.grownBy w' row){B:Nat}(hB:B<=w.heap.size)(hr:∀g,row=some g->B<=g):Below B w w':=(Below.refl B w).grown hg hB hr
theorem src_one(w:World)(x:Value)(t:TypeId):Src (w.alloc (.cells #[x] t)) (some ⟨w.heap.size,0,none⟩) 1 [x] :=
 ⟨rfl,fun _=>⟨_,_,rfl,fun j u hu=>by
  have:=cell_one_new w x t j u hu
  rwa [addr_add]at this⟩⟩
end
end Go.Proofs.YtfgajaakmmogkaaGreatDoor
namespace Go.Proofs.YtfgajaakmmogkaaGreatDoor.Sym
section
section
variable {P:Program}{w:World}
theorem zg4{ops:Array Oper}{rest:List Oper}{o:Oper}{a:Act}{Q:Exit->Act->World->Prop}(hgd:o.guard=none)(s x:Operand)(t:TypeId)
  (ho:o.op=.call { callee:=.builtin .append,args:=#[s,x],argTypes:=#[t,t] })
  (base:Nat) (e:TypeId) (i:TypeInfo) (z:Value) (size bytes:Nat) (ht:P.underlying t=some (.slice e)) (hi:P.info? e=some i) (hz:i.zero=some z)
  (hsize:i.size=size) (hby:i.bytes=bytes) (hzs:z.cells.size=size) (hsz:0<size) (v:Value) (n:Nat) (xs:List Value) (hs:a.eval s=v) (hown:w.ownsRow base e size v n xs)
  (A:Option Addr) (m c:Nat) (news:List Value) (hx:a.eval x=.slice A m c) (hl:news.length=m*size) (hsrc:0<m->∃b q,A=some ⟨b,q,none⟩∧∀(j:Nat) u,news[j]?=some u->w.cell? ⟨b,q+j,none⟩=some u) (h1:∀u∈news,u.oneCell'=true)
  (a2:n+m<=maxLen) (hbytes:(n+m)*bytes<=140737488355328) (hbase:base<=w.heap.size)
  (h:∀v' w',w'.ownsRow base e size v' (n+m) (xs++news)->w.grownBy w' v.ownBlock->(v'.ownBlock=v.ownBlock∨v'.ownBlock=some w.heap.size)->wpList P ops Q rest (a.put o.dst v') w') :
  wpList P ops Q (o::rest) a w:=by
 refine wpList_plain hgd fun _ hK=>?_;obtain⟨v',w',a3,h2,h3,h4⟩:=zg3 (P:=P) base t o.type e i z size bytes ht hi hz hsize hby hzs hsz v n xs hown A m c news hl hsrc h1 a2 hbytes hbase;unfold Oper.wp execOp;simp only[ho,resolve,invoke,builtin,Sem.run_bind,Sem.run_pure,Result.andThen_ok,List.map_toArray,yat,ydb,hs,hx,a3];exact hK _ _ (h v' w' h2 h3 h4)
end
theorem zs5{a b c:World}{row row':Option Nat}(h:a.grownBy b row)(k:b.grownBy c row')(hr:row'=row∨∀g,row'=some g->a.heap.size<=g):a.grownBy c row :=
 ⟨k.os.trans h.os,k.tape.trans h.tape,k.output.trans h.output,yce h.size k.size,fun i hi hne =>
  (k.block i (ycm hi h.size) (by
   rcases hr with e|e
   ·rw[e];exact hne
   ·intro he
    have:=e i he.symm
    omega)).trans (h.block i hi hne)⟩
def zsr(t:TypeId)(k n:Nat)(us:List Value)(w:World)(e:Ending)(w':World):Prop :=
 ∃v',e=.returned v'∧w'.ownsRow w.heap.size t k v' n us∧Below w.heap.size w w'
theorem zor(w:World)(t:TypeId)(k:Nat):(w.alloc (.cells #[] t)).ownsRow w.heap.size t k (.slice (some ⟨w.heap.size,0,none⟩) 0 0) 0 []:=by
 refine⟨by simp,.inr ⟨w.heap.size,0,#[],rfl,yam _,?_,yag _,by unfold maxLen;omega,by simp,by simp⟩⟩;exact heap_alloc_new w _
theorem zqs{g:FuncId}{t:TypeId}{k by_:Nat}(he:∀args w,(callFunc g args).run Tryz.prog w=.ok (.enter g args) w)(hk0:0<k)
  (h:∀(w:World) (A:Option Addr) (n c:Nat) (us:List Value),us.length=n*k->(0<n->∃b q,A=some ⟨b,q,none⟩∧∀(j:Nat) u,us[j]?=some u->w.cell? ⟨b,q+j,none⟩=some u) ->
   (∀u∈us,u.oneCell'=true)->n<=17592186044416->n*by_<=140737488355328->Calls Tryz.prog g #[.slice A n c] w (zsr t k n us w))
  {es:List (List IV)} (hk:∀e∈es,e.length=k) (hc:za3 es.length by_):Sp Tryz.prog g [.im (.sl es)] (.row t k es):=by
 refine⟨he,fun w S vs F hS hv hn hF=>?_⟩
 match vs,hv with
 |[v],⟨F1,F2,⟨h3,e1⟩,h5,e3⟩ =>
  have h5:F2=[]:=h5;subst e1 h5 e3;obtain⟨A,c,us,rfl,hl,h1,a2,a6,hr⟩:=zvv h3 hk;have a7:us.length=es.length*k:=by rw[hl,zbi hk]
  refine(h w A es.length c us a7 a6 h1 a2 hc.1).mono ?_;rintro e w' ⟨v',rfl,ho,hb⟩
  have a5:w'.ownsRow 0 t k v' es.length us:=by
   refine⟨ho.1,?_⟩;rcases ho.2 with h6|⟨g1,cap,cur,k1,_,k3⟩
   ·exact .inl h6
   ·exact .inr ⟨g1,cap,cur,k1,yag _,k3⟩
  have a8:=ho.lt
  have a4:∀b∈(zbg v').toList,w.heap.size<=b∧b<w'.heap.size:=fun b hb=>by
   refine a8 b ?_;rw[ziy a5];simpa using hb
  refine⟨v',(zbg v').toList,rfl,.of hb,⟨[v'],(zbg v').toList,[],rfl,⟨(zbg v').toList,[],⟨row_one a5,[],⟨us,hk0,hk,a2,a5,hl,h1,fun i u x hu hx=>?_⟩,rfl⟩,rfl,by simp⟩,rfl,by simp⟩,?_,fun b hb=>⟨.inl (a4 b hb).1,(a4 b hb).2⟩⟩
  ·have k1:∀b,S b->(S b∨w.heap.size<=b∨b∈[])∧b<w'.heap.size∧b∉(zbg v').toList:=fun b a3=>⟨.inl a3,ycm (hS b a3) hb.size,fun hm=>by
    have h1:=(a4 b hm).1
    have h2:=hS b a3
    omega⟩
   have k2:∀(p:Addr) u,S p.block->w.cell? p=some u->w'.cell? p=some u:=fun p u hp hu=>by
    have h6:=hb.block p.block (hS _ hp)
    have h7:w'.cell? p=w.cell? p:=by
     unfold World.cell?;rw[h6]
    rw[h7];exact hu
   exact(hr i u x hu hx).mono k1 k2
  ·cases zbg v'<;>simp
end
theorem Tryz.infoC_int:(Tryz.prog.info? 3).map (fun i=>(i.zero,i.size,i.bytes))=some (some (.int .i64 0),1,8):=by kernel_rfl
set_option maxRecDepth 100000 in
set_option maxHeartbeats 400000 in
theorem clone_int(w:World)(A:Option Addr)(n c:Nat)(us:List Value)(hl:us.length=n*1)(hs:0<n->∃b q,A=some ⟨b,q,none⟩∧∀(j:Nat) u,us[j]?=some u->w.cell? ⟨b,q+j,none⟩=some u)
  (h1:∀u∈us,u.oneCell'=true) (hn:n<=17592186044416) (hby:n*8<=140737488355328):Calls Tryz.prog 47 #[.slice A n c] w (zsr 3 1 n us w):=by
 obtain⟨j0,ji,b4,a7,b2⟩:=info_parts Tryz.infoC_int;have b5:=Lib.run_eql_slice_nil (P:=Tryz.prog) w 48 3 A n c 0 0 Tryz.underlying48;cases A with
 |none =>
  have h0:n=0:=by
   rcases ycf n with h|h
   ·exact h
   ·obtain⟨b,q,e,_⟩:=hs h;cases e
  subst h0;have a4:us=[]:=yaq (by omega);have HX:=Lib.hid a4;clear a4 hs hl h1
  go_enter Tryz.func47,Tryz.ntmps47
  go_wp2
  go_ret
  rw[HX.out];exact⟨_,rfl,World.ownsRow_nil _ _ _ _,Below.refl _ _⟩
 |some a =>
  have a3:∀o,0<n->∃b q,some a=some ⟨b,q,none⟩∧∀(j:Nat) u,us[j]?=some u->(w.alloc o).cell? ⟨b,q+j,none⟩=some u:=fun o h=>by
   obtain⟨b,q,e,hc⟩:=hs h;exact⟨b,q,e,fun j u hu=>zia (World.grownBy_alloc w o none) _ _ (hc j u hu)⟩
  have b3:0+n<=maxLen:=by unfold maxLen;omega
  have a6:(0+n)*8<=140737488355328:=by omega
  have a5:∀o,w.heap.size<=(w.alloc o).heap.size:=fun o=>by simp
  have a8:=Lib.hid hl;clear hs
  go_enter Tryz.func47,Tryz.ntmps47
  go_wp2_with (at_builtin;refine zg4 rfl (.tmp 5) (.tmp 6) 48 rfl w.heap.size 3 j0 (.int .i64 0) 1 8 Tryz.underlying48 ji b4 a7 b2 rfl (by decide) (.slice (some ⟨w.heap.size,0,none⟩) 0 0) 0 _ rfl (zor _ _ _) _ _ _ _ rfl a8.out (a3 _) h1 b3 a6 (a5 _) ?_;intro v1 w1 a2 b0 b6)
  go_ret
  have a9:w.grownBy w1 none:=zs5 (World.grownBy_alloc w _ none) b0 (.inr fun g e=>by
   have:some w.heap.size=some g:=e
   injection this with this
   omega)
  exact⟨v1,rfl,by simpa using a2,zqm a9 (yam _) (fun g e=>by cases e)⟩
theorem Tryz.infoC_words:(Tryz.prog.info? 48).map (fun i=>(i.zero,i.size,i.bytes))=some (some (.slice none 0 0),1,24):=by kernel_rfl
set_option maxRecDepth 100000 in
set_option maxHeartbeats 400000 in
theorem clone_words(w:World)(A:Option Addr)(n c:Nat)(us:List Value)(hl:us.length=n*1)(hs:0<n->∃b q,A=some ⟨b,q,none⟩∧∀(j:Nat) u,us[j]?=some u->w.cell? ⟨b,q+j,none⟩=some u)
  (h1:∀u∈us,u.oneCell'=true) (hn:n<=17592186044416) (hby:n*24<=140737488355328):Calls Tryz.prog 130 #[.slice A n c] w (zsr 48 1 n us w):=by
 obtain⟨j0,ji,b4,a7,b2⟩:=info_parts Tryz.infoC_words;have b5:=Lib.run_eql_slice_nil (P:=Tryz.prog) w 22 48 A n c 0 0 Tryz.underlying22;cases A with
 |none =>
  have h0:n=0:=by
   rcases ycf n with h|h
   ·exact h
   ·obtain⟨b,q,e,_⟩:=hs h;cases e
  subst h0;have a4:us=[]:=yaq (by omega);have HX:=Lib.hid a4;clear a4 hs hl h1
  go_enter Tryz.func130,Tryz.ntmps130
  go_wp2
  go_ret
  rw[HX.out];exact⟨_,rfl,World.ownsRow_nil _ _ _ _,Below.refl _ _⟩
 |some a =>
  have a3:∀o,0<n->∃b q,some a=some ⟨b,q,none⟩∧∀(j:Nat) u,us[j]?=some u->(w.alloc o).cell? ⟨b,q+j,none⟩=some u:=fun o h=>by
   obtain⟨b,q,e,hc⟩:=hs h;exact⟨b,q,e,fun j u hu=>zia (World.grownBy_alloc w o none) _ _ (hc j u hu)⟩
  have b3:0+n<=maxLen:=by unfold maxLen;omega
  have a6:(0+n)*24<=140737488355328:=by omega
  have a5:∀o,w.heap.size<=(w.alloc o).heap.size:=fun o=>by simp
  have a8:=Lib.hid hl;clear hs
  go_enter Tryz.func130,Tryz.ntmps130
  go_wp2_with (at_builtin;refine zg4 rfl (.tmp 5) (.tmp 6) 22 rfl w.heap.size 48 j0 (.slice none 0 0) 1 24 Tryz.underlying22 ji b4 a7 b2 rfl (by decide) (.slice (some ⟨w.heap.size,0,none⟩) 0 0) 0 _ rfl (zor _ _ _) _ _ _ _ rfl a8.out (a3 _) h1 b3 a6 (a5 _) ?_;intro v1 w1 a2 b0 b6)
  go_ret
  have a9:w.grownBy w1 none:=zs5 (World.grownBy_alloc w _ none) b0 (.inr fun g e=>by
   have:some w.heap.size=some g:=e
   injection this with this
   omega)
  exact⟨v1,rfl,by simpa using a2,zqm a9 (yam _) (fun g e=>by cases e)⟩
theorem Tryz.infoC_traces:(Tryz.prog.info? 79).map (fun i=>(i.zero,i.size,i.bytes))=some (some (.agg #[.slice none 0 0,.slice none 0 0]),2,48):=by kernel_rfl
set_option maxRecDepth 100000 in
set_option maxHeartbeats 400000 in
theorem clone_traces(w:World)(A:Option Addr)(n c:Nat)(us:List Value)(hl:us.length=n*2)(hs:0<n->∃b q,A=some ⟨b,q,none⟩∧∀(j:Nat) u,us[j]?=some u->w.cell? ⟨b,q+j,none⟩=some u)
  (h1:∀u∈us,u.oneCell'=true) (hn:n<=17592186044416) (hby:n*48<=140737488355328):Calls Tryz.prog 119 #[.slice A n c] w (zsr 79 2 n us w):=by
 obtain⟨j0,ji,b4,a7,b2⟩:=info_parts Tryz.infoC_traces;have b5:=Lib.run_eql_slice_nil (P:=Tryz.prog) w 29 79 A n c 0 0 Tryz.underlying29;cases A with
 |none =>
  have h0:n=0:=by
   rcases ycf n with h|h
   ·exact h
   ·obtain⟨b,q,e,_⟩:=hs h;cases e
  subst h0;have a4:us=[]:=yaq (by omega);have HX:=Lib.hid a4;clear a4 hs hl h1
  go_enter Tryz.func119,Tryz.ntmps119
  go_wp2
  go_ret
  rw[HX.out];exact⟨_,rfl,World.ownsRow_nil _ _ _ _,Below.refl _ _⟩
 |some a =>
  have a3:∀o,0<n->∃b q,some a=some ⟨b,q,none⟩∧∀(j:Nat) u,us[j]?=some u->(w.alloc o).cell? ⟨b,q+j,none⟩=some u:=fun o h=>by
   obtain⟨b,q,e,hc⟩:=hs h;exact⟨b,q,e,fun j u hu=>zia (World.grownBy_alloc w o none) _ _ (hc j u hu)⟩
  have b3:0+n<=maxLen:=by unfold maxLen;omega
  have a6:(0+n)*48<=140737488355328:=by omega
  have a5:∀o,w.heap.size<=(w.alloc o).heap.size:=fun o=>by simp
  have a8:=Lib.hid hl;clear hs
  go_enter Tryz.func119,Tryz.ntmps119
  go_wp2_with (at_builtin;refine zg4 rfl (.tmp 5) (.tmp 6) 29 rfl w.heap.size 79 j0 (.agg #[.slice none 0 0,.slice none 0 0]) 2 48 Tryz.underlying29 ji b4 a7 b2 rfl (by decide) (.slice (some ⟨w.heap.size,0,none⟩) 0 0) 0 _ rfl (zor _ _ _) _ _ _ _ rfl a8.out (a3 _) h1 b3 a6 (a5 _) ?_;intro v1 w1 a2 b0 b6)
  go_ret
  have a9:w.grownBy w1 none:=zs5 (World.grownBy_alloc w _ none) b0 (.inr fun g e=>by
   have:some w.heap.size=some g:=e
   injection this with this
   omega)
  exact⟨v1,rfl,by simpa using a2,zqm a9 (yam _) (fun g e=>by cases e)⟩
end Go.Proofs.YtfgajaakmmogkaaGreatDoor.Sym

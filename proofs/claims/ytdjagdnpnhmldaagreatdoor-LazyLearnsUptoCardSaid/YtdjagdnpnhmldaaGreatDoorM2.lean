/- Parts of the proof. -/
import Derived.Test.YtdjagdnpnhmldaaGreatDoorM1
import Derived.Maps.Own
import Derived.Laws.StructEq
import Derived.ChangeKeysEq
import Derived.Great.BuildSlice
import Derived.Orders
import Derived.Scope
import Derived.Test.YtdjagdnpnhmldaaGreatDoorCards
import Derived.Test.YtdjagdnpnhmldaaGreatDoorTie
import Derived.ProofKit
import Derived.OpenShut
import Derived.Deep.DeepHandedRow
import Derived.Lib.LaidTab
import Derived.Deep.Slices
set_option linter.all false
set_option maxRecDepth 100000
set_option maxHeartbeats 4000000
open Go.RowKit
namespace Go.Proofs.YtdjagdnpnhmldaaGreatDoor.Sym
section
def cellV(w:World)(v:Value)(j:Nat):Value:=match v with
 | .pointer (some a)=>match w.heap[a.block]? with
  |some (.cells us _ _)=>us.toList.getD j undef
  |_=>undef
 |_=>undef
def fillCs_ok{w:World}{S:Nat->Prop}{h:Nat->Bool}{V:Nat->Value}:∀{us:List Value} {cs:List Oc} {j:Nat} {F:List Nat},(∀k u,us[k]?=some u->V (j+k)=u/\u.oneCell'=true)->aB w S us cs F->aB w S us (fillCs h V j cs) F
 |[],[],_,_,_,hk=>hk
 |[],_::_,_,_,_,hk=>hk.elim
 |_::_,[],_,_,_,hk=>hk.elim
 |u::us,c::cs,j,F,hv,⟨F1,F2,h1,h2,h3⟩=>by
  refine⟨F1,F2,?_,fillCs_ok (λk x hx=>by rw[U1,bB 1 k];exact hv (k+1) x (by simpa using hx)) h2,h3⟩;unfold fillC;split
  ·split
   ·rename_i hc;cases c with
    |ow k=>cases hc
    |im x =>
     obtain⟨_,h1⟩:=h1;obtain⟨this,a2⟩:=hv 0 u rfl;rw[X5]at this;rw[this];exact⟨.ex _ a2,h1⟩
   ·exact h1
  ·exact h1
def fillX_ok{w:World}{S:Nat->Prop}{own:List Nat}{d:Nat}{V:Nat->Nat->Value}:∀{vs:List Value} {xs:List Arg} {i:Nat} {F:List Nat},(∀k v j,vs[k]?=some v->V (i+k) j=cellV w v j)->R0 w S vs xs F->R0 w S vs (fillX own d V i xs) F
 |[],[],_,_,_,hk=>hk
 |[],_::_,_,_,_,hk=>hk.elim
 |_::_,[],_,_,_,hk=>hk.elim
 |v::vs,x::xs,i,F,hv,⟨F1,F2,h1,h2,h3⟩=>by
  refine⟨F1,F2,?_,fillX_ok (λk x j hx=>by rw[U1,bB 1 k];exact hv (k+1) x j (by simpa using hx)) h2,h3⟩;cases x with
  |im x=>exact h1
  |ow k=>exact h1
  |lent k=>exact h1
  |box t cs =>
   obtain⟨q,us,F',e1,e2,e3,e4,e5⟩:=h1;refine⟨q,us,F',e1,e2,e3,fillCs_ok (λk u hu=>?_) e4,e5⟩;have:=hv 0 v (0+k) rfl;rw[X5]at this;refine⟨?_,e3 u (H0 hu)⟩;rw[this,e1];unfold cellV;simp only[e2];rw[F9,eU,hu];rfl
def fillX_vs{own:List Nat}{d:Nat}{V:Nat->Nat->Value}:∀{vs:List Value} {xs:List Arg} {i:Nat},bxVs vs (fillX own d V i xs)=bxVs vs xs
 |[],[],_=>rfl
 |[],_::_,_=>rfl
 |_::_,[],_=>rfl
 |v::vs,x::xs,i=>by
  have ih:=fillX_vs (own:=own) (d:=d) (V:=V) (vs:=vs) (xs:=xs) (i:=i+1);cases x with
  |im x=>exact ih
  |ow k=>exact ih
  |lent k=>show v::_=v::_;rw[ih]
  |box t cs=>show v::_=v::_;rw[ih]
def FG{w:World}{S:Nat->Prop}{h:Nat->Bool}{V:Nat->Value}:∀{us:List Value} {cs:List Oc} {j:Nat} {F:List Nat},aB w S us (fillCs h V j cs) F->aB w S us cs F/\∀k c,cs[k]?=some c->h (j+k)=true->isAny c=true->us[k]?=some (V (j+k))
 |[],[],_,_,hk=>⟨hk,λk c hc=>by simp at hc⟩
 |[],_::_,_,_,hk=>hk.elim
 |_::_,[],_,_,hk=>hk.elim
 |u::us,c::cs,j,F,⟨F1,F2,h1,h2,h3⟩=>by
  obtain⟨r1,r2⟩:=FG h2
  have key:OcOk w S u c F1/\(h j=true->isAny c=true->u=V j):=by
   unfold fillC at h1;split at h1
   ·rename_i hh;split at h1
    ·rename_i hc;obtain⟨h4,h5⟩:=h1;cases c with
     |ow k=>cases hc
     |im x =>
      cases x with
      |any=>cases h4;exact⟨⟨.any _,h5⟩,λ_ _=>rfl⟩
      |_=>cases hc
    ·rename_i hc;exact⟨h1,λ_ h6=>by rw[hc]at h6;cases h6⟩
   ·rename_i hh;exact⟨h1,λh6 _=>by rw[hh]at h6;cases h6⟩
  refine⟨⟨F1,F2,key.1,r1,h3⟩,λk c' hc hh ha=>?_⟩;cases k with
  |zero =>
   simp at hc;subst hc;rw[key.2 hh ha];rfl
  |succ k =>
   have:=r2 k c' (by simpa using hc) (by rw[U1,bB 1 k];exact hh) ha;rw[U1,bB 1 k]at this;simpa using this
def EA{w:World}{S:Nat->Prop}{own:List Nat}{d:Nat}{V:Nat->Nat->Value}:∀{bx:E5} {ps:List Value} {ys:List Arg} {F:List Nat},R0 w S ps (fillY own d V bx ys) F->R0 w S ps ys F /\
  ∀p∈hlY own d bx ys,∃(k i:Nat) (t:TypeId) (cs:List Oc) (q:Nat) (us:List Value),bx[k]?=some (p.1,i)/\ys[k]?=some (.box t cs)/\p.2<cs.length/\ps[k]?=some (.pointer (some ⟨q,0,none⟩))/\w.heap[q]?=some (.cells us.toArray t (0,0))/\us[p.2]?=some (V i p.2)
 |[],ps,ys,F,hk=>⟨hk,λp hp=>by cases ys<;>simp[hlY]at hp⟩
 |_::_,ps,[],F,hk=>⟨hk,λp hp=>by simp[hlY]at hp⟩
 |(b,i)::bx,[],y::ys,F,hk=>hk.elim
 |(b,i)::bx,v::ps,y::ys,F,⟨F1,F2,h1,h2,h3⟩=>by
  obtain⟨r1,r2⟩:=EA h2
  have up:∀p∈hlY own d bx ys,∃(k i':Nat) (t:TypeId) (cs:List Oc) (q:Nat) (us:List Value),((b,i)::bx)[k]?=some (p.1,i')/\(y::ys)[k]?=some (.box t cs)/\p.2<cs.length/\(v::ps)[k]?=some (.pointer (some ⟨q,0,none⟩))/\w.heap[q]?=some (.cells us.toArray t (0,0))/\us[p.2]?=some (V i' p.2):=λp hp=>by
   obtain⟨k,i',t,cs,q,us,a1,a2,a3⟩:=r2 p hp;exact⟨k+1,i',t,cs,q,us,by simpa using a1,by simpa using a2,by simpa using a3⟩
  cases y with
  |im x=>exact⟨⟨F1,F2,h1,r1,h3⟩,up⟩
  |ow k=>exact⟨⟨F1,F2,h1,r1,h3⟩,up⟩
  |lent k=>exact⟨⟨F1,F2,h1,r1,h3⟩,up⟩
  |box t cs =>
   obtain⟨q,us,F',e1,e2,e3,e4,e5⟩:=h1;obtain⟨e6,e7⟩:=FG e4;refine⟨⟨F1,F2,⟨q,us,F',e1,e2,e3,e6,e5⟩,r1,h3⟩,λp hp=>?_⟩;unfold hlY at hp;rcases I8.1 hp with hp|hp
   ·have hcell:∀(cs:List Oc) (j:Nat),p∈hlC own d i b j cs->∃m c,p=(b,j+m)/\cs[m]?=some c/\holeH own d i (j+m)=true/\isAny c=true:=by
     intro cs
     induction cs with
     |nil=>intro j hp;simp[hlC]at hp
     |cons c cs ih =>
      intro j hp
      have a6:p∈hlC own d i b (j+1) cs->∃m c',p=(b,j+m)/\(c::cs)[m]?=some c'/\holeH own d i (j+m)=true/\isAny c'=true:=λhp=>by
       obtain⟨m,c',a1,a2,a3,a4⟩:=ih (j+1) hp;exact⟨m+1,c',by rw[a1,U1,bB 1 m],by simpa using a2,by rw[<- bB 1 m,<- U1];exact a3,a4⟩
      unfold hlC at hp;split at hp
      ·rename_i hh ha;rcases H8.1 hp with rfl|hp
       ·exact⟨0,c,rfl,rfl,hh,ha⟩
       ·exact a6 hp
      ·exact a6 hp
    obtain⟨m,c,rfl,a2,a3,a4⟩:=hcell cs 0 hp;rw[F9]at a3 ⊢;have a5:=e7 m c a2 (by rw[F9];exact a3) a4;rw[F9]at a5;exact⟨0,i,t,cs,q,us,rfl,rfl,(E4.1 a2).1,by rw[e1];rfl,e2,a5⟩
   ·exact up p hp
def memB_iff{b:Nat}:∀{l:List Nat},memB b l=true↔b∈l
 |[]=>by simp[memB]
 |x::l=>by
  unfold memB;split
  ·rename_i h;simp[M3 h]
  ·rename_i h;have hne:b≠x:=λe=>by rw[e,Nat.beq_refl]at h;cases h
   rw[memB_iff];simp[hne]
def memC_iff{b j:Nat}:∀{l:E5},memC b j l=true↔(b,j)∈l
 |[]=>by simp[memC]
 |x::l=>by
  unfold memC;split
  ·rename_i h;rw[M4]at h;have h1:=M3 h.1;have h2:=M3 h.2;have:(b,j)=x:=by rw[<- h1,<- h2]
   simp[this]
  ·rename_i h
   have a2:(b,j)≠x:=λe=>by
    rw[<- e]at h;simp at h
   rw[memC_iff];simp[a2]
section
variable {P:Program}{B:Base}{o:Oper}{X:St}{K:Fx->Prop}
def keepW_at(bs:List Nat)(hs:E5)(l:Loc):∀(wr:List (Loc×Ct)) (X:St),app X (keepW bs hs wr) l=if keepL bs hs l=true then app X wr l else X l
 |[],X=>by show X l=_;split<;>rfl
 |p::wr,X=>by
  unfold keepW;split
  ·rename_i hp;show app (upd X p.1 p.2) (keepW bs hs wr) l=_;rw[keepW_at bs hs l wr];by_cases hl:keepL bs hs l=true
   ·rw[if_pos hl,if_pos hl];rfl
   ·rw[if_neg hl,if_neg hl,Q8,if_neg (λe=>hl (by rw[e];exact hp))]
  ·rename_i hp;rw[keepW_at bs hs l wr];by_cases hl:keepL bs hs l=true
   ·rw[if_pos hl,if_pos hl];have hne:l≠p.1:=λe=>by rw[e,hp]at hl;cases hl
    -- a write elsewhere
    have:∀(wr:List (Loc×Ct)) (X1 X2:St),(∀x,x≠p.1->X1 x=X2 x)->∀x,x≠p.1->app X1 wr x=app X2 wr x:=by
     intro wr
     induction wr with
     |nil=>intro X1 X2 h x hx;exact h x hx
     |cons q wr ih =>
      intro X1 X2 h x hx;refine ih (upd X1 q.1 q.2) (upd X2 q.1 q.2) (λy hy=>?_) x hx;rw[Q8,Q8];split
      ·rfl
      ·exact h y hy
    exact this wr X (upd X p.1 p.2) (λx hx=>by rw[Q8,if_neg hx]) l hne
   ·rw[if_neg hl,if_neg hl]
def argsG_box{own:List Nat}{d b i:Nat}:∀{cs:List AV} {i0:Nat} {xs:List Arg} {bs gs:E5},Y9 X own d i0 cs=some (xs,bs,gs)->(b,i)∈bxG own d i0 cs->objG X b=none->∃k g,i=i0+k/\cs[k]?=some (.own b g 0)/\(b,g)∈gs
 |[],i0,xs,bs,gs,e,hm,_=>by simp[bxG]at hm
 |c::cs,i0,xs,bs,gs,e,hm,hn=>by
  simp only[Y9]at e;split at e
  ·rename_i x b1 g1 xs1 bs1 gs1 h1 h2;simp only[C2,F0]at e;obtain⟨rfl,rfl,rfl⟩:=e
   have up:(b,i)∈bxG own d (i0+1) cs->∃k g,i=i0+k/\(c::cs)[k]?=some (.own b g 0)/\(b,g)∈g1++gs1:=λhm=>by
    obtain⟨k,g,a1,a2,a3⟩:=argsG_box h2 hm hn;exact⟨k+1,g,by omega,by simpa using a2,L3 _ a3⟩
   unfold argG at h1;unfold bxG at hm;split at h1
   ·rename_i ho;rw[ho]at hm;split at h1
    ·rename_i b' g';split at h1
     ·rename_i k hk;simp only at hm;split at hm
      ·rcases H8.1 hm with e|hm
       ·simp only[F0]at e;rw[<- e.1,hn]at hk;cases hk
       ·exact up hm
      ·exact up hm
     ·cases h1
    ·rename_i b' g';split at h1
     ·split at h1
      ·simp only[C2,F0]at h1;obtain⟨rfl,rfl,rfl⟩:=h1;simp only at hm;rcases H8.1 hm with e|hm
       ·simp only[F0]at e;obtain⟨rfl,rfl⟩:=e;exact⟨0,g',rfl,rfl,by simp⟩
       ·exact up hm
      ·cases h1
     ·cases h1
    ·exact up hm
    ·cases h1
   ·rename_i ho;rw[ho]at hm;exact up hm
  ·cases e
def vZ{U:St}:∀{bx:E5} {ys:List Arg} {bl:List (Nat×LK)} {ss:List (Nat×Kd)},bxPl U bx ys=some (bl,ss)->∀{k b i:Nat} {t:TypeId} {cs:List Oc},bx[k]?=some (b,i)->ys[k]?=some (.box t cs)->∃al,bl[k]?=some (b,.box t al)/\al.length=cs.length
 |[],_,_,_,_,k,b,i,t,cs,h1,_=>by simp at h1
 |_::_,[],_,_,e,k,b,i,t,cs,h1,h2=>by simp at h2
 |(b0,i0)::bx,y::ys,bl,ss,e,k,b,i,t,cs,h1,h2=>by
  cases y with
  |im x=>simp[bxPl]at e
  |ow x=>simp[bxPl]at e
  |lent x =>
   unfold bxPl at e;split at e
   ·rename_i l s2 hfk e2;simp only[C2,F0]at e;obtain⟨rfl,rfl⟩:=e;cases k with
    |zero=>simp at h2
    |succ k =>
     obtain⟨al,a1,a2⟩:=vZ e2 (k:=k) (by simpa using h1) (by simpa using h2);exact⟨al,by simpa using a1,a2⟩
   ·cases e
  |box t0 cs0 =>
   unfold bxPl at e;split at e
   ·rename_i al s1 l s2 e1 e2;simp only[C2,F0]at e;obtain⟨rfl,rfl⟩:=e;cases k with
    |zero =>
     simp at h1 h2;obtain⟨rfl,rfl⟩:=h1;obtain⟨rfl,rfl⟩:=h2;refine⟨al,rfl,?_⟩;have:al=(G3 U (cellNm U b0 i0) 0 cs0).1:=by rw[e1]
     rw[this]
     have a3:∀(f:Nat->Nat) (cs:List Oc) (j:Nat),(G3 U f j cs).1.length=cs.length:=by
      intro f cs
      induction cs with
      |nil=>intro j;rfl
      |cons c cs ih=>intro j;show(_::(G3 U f (j+1) cs).1).length=_;rw[E9,ih];rfl
     exact a3 _ _ _
    |succ k =>
     obtain⟨a4,a1,a2⟩:=vZ e2 (k:=k) (by simpa using h1) (by simpa using h2);exact⟨a4,by simpa using a1,a2⟩
   ·cases e
def sL:∀{bl:List (Nat×LK)},sameBx X bl=true->∀{b:Nat} {t:TypeId} {al:List AV},(b,LK.box t al)∈bl->X.kd b=.box t al.length
 |[],_,b,t,al,h=>by simp at h
 |(b0,.obj k)::bl,e,b,t,al,h=>by
  rcases H8.1 h with h|h
  ·simp at h
  ·exact sL (bl:=bl) e h
 |(b0,.box t0 al0)::bl,e,b,t,al,h=>by
  unfold sameBx at e;rw[M4]at e;rcases H8.1 h with h|h
  ·simp only[F0,LK.box.injEq]at h;obtain⟨rfl,rfl,rfl⟩:=h;have e1:=e.1;split at e1
   ·rename_i t' m hk;rw[M4]at e1;rw[hk,M3 e1.1,M3 e1.2]
   ·cases e1
  ·exact sL e.2 h
def bxN_mem:∀{bl:List (Nat×LK)} {b:Nat},b∈bxN bl->∃t al,(b,LK.box t al)∈bl
 |[],b,h=>by simp[bxN]at h
 |(b0,.obj k)::bl,b,h=>by
  obtain⟨t,al,h⟩:=bxN_mem (bl:=bl) h;exact⟨t,al,by simp[h]⟩
 |(b0,.box t al)::bl,b,h=>by
  have h:b∈b0::bxN bl:=h;rcases H8.1 h with rfl|h
  ·exact⟨t,al,by simp⟩
  ·obtain⟨t,al,h⟩:=bxN_mem h;exact⟨t,al,by simp[h]⟩
def bxN_of:∀{bl:List (Nat×LK)} {b:Nat} {t:TypeId} {al:List AV},(b,LK.box t al)∈bl->b∈bxN bl
 |[],b,t,al,h=>by simp at h
 |(b0,.obj k)::bl,b,t,al,h=>by
  rcases H8.1 h with h|h
  ·simp at h
  ·exact bxN_of (bl:=bl) h
 |(b0,.box t0 al0)::bl,b,t,al,h=>by
  show b∈b0::bxN bl;rcases H8.1 h with h|h
  ·simp only[F0]at h;simp[h.1]
  ·simp[bxN_of h]
def bxWr_kd:∀{bl:List (Nat×LK)} {X:St} {b:Nat} {t:TypeId} {al:List AV},(bl.map (·.1)).Nodup->(b,LK.box t al)∈bl->(app X (bxWr bl)).kd b=.box t al.length
 |[],X,b,t,al,_,h=>by simp at h
 |(b0,x)::bl,X,b,t,al,hn,h=>by
  rw[J7,aQ]at hn
  have happ:app X (bxWr ((b0,x)::bl))=app (app X (lkWr b0 x)) (bxWr bl):=by
   show app X (lkWr b0 x++bxWr bl)=_;rw[K3]
  rw[happ]
  have a2:∀(bl:List (Nat×LK)) (X:St),b0∉bl.map (·.1)->(app X (bxWr bl)).kd b0=X.kd b0:=by
   intro bl
   induction bl with
   |nil=>intro X _;rfl
   |cons p bl ih =>
    intro X hm;rw[J7,H8,not_or]at hm;show(app X (lkWr p.1 p.2++bxWr bl)).kd b0=_;rw[K3,ih _ hm.2];cases p.2 with
    |box t al =>
     show(app (upd X (.knd p.1) (.kd (.box t al.length))) (P4 p.1 0 al)).kd b0=_;rw[rO,U6,if_neg hm.1]
    |obj k =>
     show(upd X (.knd p.1) (.kd k)).kd b0=_;rw[U6,if_neg hm.1]
  rcases H8.1 h with h|h
  ·simp only[F0]at h;obtain⟨rfl,rfl⟩:=h;rw[a2 bl _ hn.1];show(app (upd X (.knd b) (.kd (.box t al.length))) (P4 b 0 al)).kd b=_;rw[rO,U6,if_pos rfl]
  ·exact bxWr_kd hn.2 h
def fillX_nm{own:List Nat}{d i:Nat}{V:Nat->Nat->Value}{xs:List Arg}(h:nmX xs=true):nmX (fillX own d V i xs)=true:=by
 cases xs with
 |nil=>rfl
 |cons x l =>
  cases x with
  |im _=>rfl
  |ow _=>rfl
  |box _ _=>rfl
  |lent k=>cases k<;>first|rfl|cases h
def aCallH_ok{C:FuncId->List Arg->Rs->Prop}(hC:∀g xs r,C g xs r->SpX P g xs r){own:List Nat}{c:Call}{f:Operand}(hop:o.op=.call c)(hcal:c.callee=.value f)(hd:I5 B.n o=true)(h:aCallH own o X K C f c.args.toList):∃fx,K fx/\Eff P B o fx.rd X fx.wr:=by
 unfold aCallH at h;split at h
 ·rename_i d g caps d9 hf;split at h
  ·rename_i xs bs gs d8;obtain⟨j9,h⟩:=h.ok;obtain⟨c8,c7⟩:=fF j9;obtain⟨i5,tp,l,ys,hr,h⟩:=h.out;have k9:=λV=>(hC g _ _ (hr V)).sp (fillX_nm (argsG_nm d8));split at h
   ·rename_i al ss bl ss' i8 d6;split at h
    ·rename_i va l3;obtain⟨c9,h⟩:=h.ok;rw[M4]at c9;obtain⟨c9,b7⟩:=c9;obtain⟨i7,i3⟩:=fF c9;have j8:al=(G3 X (L8 tp d) 0 l).1:=by rw[i8]
     have l8:ss=(G3 X (L8 tp d) 0 l).2:=by rw[i8]
     subst j8 l8;have e9:=((oV d8).nodup c8);have k5:∀t,some d=some t->t<B.n:=λt e=>by injection e with e;subst e;exact U8 hd d9
     refine⟨_,h,λX' hag a w ⟨Y,hs⟩ K' Q hK=>?_⟩;have j1:=E3 (E3 (E3 hag));have g9:=G9 (E3 (E3 hag));have b6:M6 X X' (bs++gs):=G9 (E3 hag);have f6:=G9 hag
     have d0:∀p∈bs++gs,X'.gn p.1=p.2:=λp hp=>by
      rw[<- i5 p hp];exact(b6.mem hp).1
     obtain⟨us,l7,k8⟩:∃us:List Value,a.eval f=.func (.func g) #[] us.toArray/\Reps w (Imm B X' Y w) Y X'.gn us caps:=by
      have h1:=D6 hs f;rw[D3 j1]at h1;split at hf
      ·rename_i g' c6 g5;simp only[C2,F0]at hf;obtain⟨rfl,rfl⟩:=hf;rw[g5]at h1;have h1:=h1.im_inv;generalize a.eval f=v at h1;cases h1 with
       |fn _ us _ hl hr =>
        refine⟨us,rfl,by simpa using hl,λi u y hu hy=>?_⟩;simp only[I9]at hy;cases hc:c6[i]? with
        |none=>rw[hc]at hy;cases hy
        |some c =>
         rw[hc]at hy;simp only[K0,C2]at hy;rw[<- hy];exact .im _ _ (hr i u c hu hc)
      ·rename_i g' c6 g5;simp only[C2,F0]at hf;obtain⟨rfl,rfl⟩:=hf;rw[g5]at h1;generalize a.eval f=v at h1;cases h1 with
       |fn _ us _ hl hr=>exact⟨us,rfl,hl,hr⟩
      ·cases hf
     have a9:=(evL_ok hs g9).app k8;have g6:=sY d8 b6.left b6.right;have i4:=rZ hs (bs0:=bs) (λp hp=>d0 p (L5 _ hp)) a9 g6 (λ_ h=>h) λp hp=>d0 p (L3 _ hp);obtain⟨l0,_⟩:=bxG_ok hs a9 g6 λp hp=>d0 p (L3 _ hp);generalize j7:c.args.toList.map a.eval++us=vs at *
     let V:Nat->Nat->Value:=λi j=>cellV w (vs.getD i undef) j
     have g7:=fillX_ok (own:=own) (d:=d) (V:=V) (i:=0) (λk v j hv=>by
      show cellV w (vs.getD (0+k) undef) j=_
      rw[F9,eU,hv];rfl) i4
     obtain⟨d5,m5⟩:=k9 V
     have d7:=m5 w (Imm B (app X' (fwr bs)) Y w) _ _ (λb hb=>hb.2.1) g7 (kS hs c8) λb hb=>by
      obtain⟨p,hp,ho⟩:=bW.1 hb;refine⟨λhi=>hi.2.2.1 p.1 ?_,(hs.own p.1 b ho).2⟩;unfold Owns at ho ⊢;rw[fB,if_neg (c7 p.1 (D7.2 ⟨p,hp,rfl⟩))];exact ho
     have run:(execOp a.eval o).run P w=.ok (.enter g vs.toArray) w:=by
      have e:(c.args.map a.eval)++us.toArray=vs.toArray:=by
       rw[<- j7];apply uP;simp
      simp[execOp,hop,resolve,hcal,l7,Deferred.ofValue,invoke,d5,<- e]
     unfold Oper.wp;rw[run,Oper.upon_enter];refine d7.mono ?_;rintro e w' ⟨v,F',rfl,f7,e8,l5,h9⟩;show K' (a.put o.dst v) w';rw[d9];rw[fillX_vs,l0]at e8;obtain⟨j4,F1,F2,r1,r2,r3,r4⟩:=e8;obtain⟨r5,r6⟩:=EA r3;have m4:=xC (X:=X') (Y:=Y) (bs:=bs) (gs:=gs) λp hp=>c7 p.1 (D7.2 ⟨p,hp,rfl⟩);rw[<- m4]at f7 h9 r2 r5
     have h5:∀p∈(G3 X (L8 tp d) 0 l).2++ss',(app X' (fwr bs)).gn p.1=X.gn p.1/\(app X' (fwr bs)).ig p.1=X.ig p.1:=λp hp=>by
      obtain⟨h5,h6⟩:=mX hp;rw[iR,mH];exact⟨S5 (f6 _ h5),fD (f6 _ h6)⟩
     obtain⟨Y',g1,g2,g3,g4⟩:=mT (hs.kills bs).1 gs c8 f7 (λb hb=>hb) ⟨j4,F1,F2,r1,r2,r5,r4⟩ l5 h9 d6 rfl e9 l3 i7 i3 h5;have c0:=zR d6;have i9:(bl.map (·.1)).Nodup:=by rw[c0];exact e9
     -- the state with j3 j2
     generalize h8:fwr bs++(fwr gs++(J4 X ((G3 X (L8 tp d) 0 l).2++ss')++bxWr bl))=wr;generalize k7:hlY own d (bxG own d 0 (c.args.toList.map (evA X)++caps)) ys=hl at r6
     have hX1:app (app (app (app X' (fwr bs)) (fwr gs)) (J4 X ((G3 X (L8 tp d) 0 l).2++ss'))) (bxWr bl)=app X' wr:=by
      rw[<- h8,K3,K3,K3]
     have e0:∀b∈bxN bl,∃t m,X'.kd b=.box t m/\(app X' wr).kd b=.box t m/\∀al,(b,LK.box t al)∈bl->al.length=m:=λb hb=>by
      obtain⟨t,al,hm⟩:=bxN_mem hb;have e1:=sL b7 hm;have k6:b∈gs.map (·.1):=(oV d8).subset (by rw[<- c0];exact D7.2 ⟨_,hm,rfl⟩);obtain⟨p,hp,rfl⟩:=D7.1 k6;refine⟨t,al.length,?_,?_,λm7 l9=>?_⟩
      ·rw[(b6.mem (L3 _ hp)).2.1,e1]
      ·rw[<- hX1];exact bxWr_kd i9 hm
      ·have:=sL b7 l9;rw[e1]at this;injection this with _ this
       exact this.symm
     rw[hX1]at g1 g2 g3;have b8:=keepW_at (bxN bl) hl;have m3:∀t,(app X' (keepW (bxN bl) hl wr)).av t=(app X' wr).av t:=λt=>by unfold St.av;rw[b8,if_pos (show keepL (bxN bl) hl (.tmp t)=true from rfl)]
     have h7:(app X' (keepW (bxN bl) hl wr)).gn=(app X' wr).gn:=funext λt=>by unfold St.gn;rw[b8,if_pos (show keepL (bxN bl) hl (.gen t)=true from rfl)]
     have j6:∀t,(app X' (keepW (bxN bl) hl wr)).ig t=(app X' wr).ig t:=λt=>by unfold St.ig;rw[b8,if_pos (show keepL (bxN bl) hl (.ign t)=true from rfl)]
     have f8:(app X' (keepW (bxN bl) hl wr)).kd=(app X' wr).kd:=funext λt=>by
      by_cases ht:t∈bxN bl
      ·obtain⟨t1,m,e1,e2,_⟩:=e0 t ht;rw[e2,<- e1];unfold St.kd;rw[b8,if_neg (by show ¬(!memB t (bxN bl))=true;rw[memB_iff.2 ht];simp)]
      ·unfold St.kd
       rw[b8,if_pos (by
        show(!memB t (bxN bl))=true
        cases hb:memB t (bxN bl) with
        |false=>rfl
        |true=>exact absurd (memB_iff.1 hb) ht)]
     have i6:∀b j,(b,j)∉hl->(app X' (keepW (bxN bl) hl wr)).ce b j=(app X' wr).ce b j:=λb j hn=>by
      unfold St.ce
      rw[b8,if_pos (by
       show(!memC b j hl)=true
       cases hb:memC b j hl with
       |false=>rfl
       |true=>exact absurd (memC_iff.1 hb) hn)]
     have g8:∀b j,(b,j)∈hl->(app X' (keepW (bxN bl) hl wr)).ce b j=X'.ce b j:=λb j hm=>by
      unfold St.ce;rw[b8,if_neg (by show ¬(!memC b j hl)=true;rw[memC_iff.2 hm];simp)]
     have b9:∀o b,Owns (app X' (keepW (bxN bl) hl wr)) Y' o b↔Owns (app X' wr) Y' o b:=λo b=>by unfold Owns;rw[f8]
     have l4:∀p∈hl,p.1∈bxN bl:=λp hp=>by
      obtain⟨k,i,t,cs,q,d4,a1,a2,_⟩:=r6 p hp;obtain⟨al,a3,_⟩:=vZ d6 a1 a2;exact bxN_of (H0 a3)
     obtain⟨s1,s2,s3,_⟩:=g1.stepZ (X':=app X' (keepW (bxN bl) hl wr)) (Y':=Y') (w':=w') (λo=>o∈bxN bl) B.Z m3
      (λo hd=>⟨by rw[f8],by rw[h7],λi=>i6 o i λhm=>hd (l4 _ hm),rfl,rfl,rfl⟩) (λo _=>⟨⟨by rw[h7];exact G4 _,λ_=>rfl⟩,G4 _,λ_=>rfl⟩)
      (λo=>by rw[j6];exact g1.igs o) (Belo.refl _ _ _) (λo b hd ho=>.inr (.inr ⟨o,hd,(b9 o b).1 ho⟩)) (λo p b _ _ h1 h2=>g1.dis o p b ((b9 o b).1 h1) ((b9 p b).1 h2))
      (λb hb=>⟨(g1.res b hb).1.2,.inr (.inl hb),λo _ ho=>(g1.res b hb).2 o ((b9 o b).1 ho)⟩) λhI hA o hd=>by
       obtain⟨t,m,k1,k2,k3⟩:=e0 o hd;rw[f8,k2];have ho:=g1.obs o;rw[k2]at ho;obtain⟨q,d4,b1,b2,b3,b4,b5⟩:=ho;refine⟨q,d4,b1,b2,b3,b4,λj u hu=>?_⟩;by_cases hm:(o,j)∈hl
       ·rw[g8 o j hm];obtain⟨k,i,t',cs,q',us'',a1,a2,a3,a4,a5,a6⟩:=r6 (o,j) hm;obtain⟨al,c1,c2⟩:=vZ d6 a1 a2
        -- the box's place
        have e1:=g4 k o _ (by rw[I9,c1];rfl) a4;rw[b1]at e1;injection e1 with e1
        injection e1 with e1
        injection e1 with e1
        subst e1;rw[b2]at a5;injection a5 with a5
        injection a5 with a5 a7 a8
        have:d4=us'':=by simpa using a5
        subst this;have a6:d4[j]?=some (V i j):=a6;rw[hu]at a6;injection a6 with a6
        -- what it held before
        have l6:(o,i)∈bxG own d 0 (c.args.toList.map (evA X)++caps):=H0 a1;have j5:objG X' o=none:=by unfold objG;rw[k1]
        obtain⟨k',g',d1,d2,d3⟩:=argsG_box g6 l6 j5;rw[F9]at d1;subst d1
        obtain⟨v0,j0⟩:∃v0,vs[i]?=some v0:=by
         have m6:=(E4.1 d2).1;have:=a9.1;exact⟨_,J8 (by omega)⟩
        have hg':=d0 (o,g') (L3 _ d3);obtain⟨q0,f9,e1,e2,e3,e4,e5,e6,e7⟩:=kH hs (a9.2 i v0 _ j0 d2) hg' k1
        have hj:j<m:=by
         have h1:=k3 al (by
          have:=H0 c1
          have h2:=sL b7 this
          have h3:=(b6.mem (p:=(o,g')) (L3 _ d3)).2.1
          rw[k1]at h3
          rw[h2]at h3
          injection h3 with h3 _
          subst h3
          exact this)
         have a3:j<cs.length:=a3;omega
        have hV:f9[j]?=some (V i j):=by
         show _=some (cellV w (vs.getD i undef) j);rw[eU,j0];show _=some (cellV w v0 j);rw[e1];unfold cellV;simp only[e3];rw[eU];have:j<f9.length:=by omega
         rw[J8 this];rfl
        have hk:=(hs.kills bs).1.obs o;rw[fB,if_neg (c7 o (D7.2 ⟨_,d3,rfl⟩)),k1]at hk;obtain⟨q1,us1,f1,f2,f3,f4,f5⟩:=hk;rw[e2]at f1;injection f1 with f1
        injection f1 with f1
        injection f1 with f1
        subst f1;rw[e3]at f2;injection f2 with f2
        injection f2 with f2 _ _
        have:f9=us1:=by simpa using f2
        subst this;have fin:=f5 j _ hV;rw[fwr_ce]at fin;rw[a6];exact hA _ _ (g3 _ _ fin)
       ·rw[i6 o j hm];exact hA _ _ (b5 j u hu)
     refine hK _ _ ⟨Y',?_⟩;show SatR B (app X' (keepW (bxN bl) (hlY own d (bxG own d 0 (c.args.toList.map (evA X)++caps)) ys) (fwr bs++(fwr gs++(J4 X ((G3 X (L8 tp d) 0 l).2++ss')++bxWr bl)))++[(.tmp d,.av va)])) _ _ _;rw[h8,k7,K3];exact s1.put (d:=some d) k5 (s3 _ _ g2)
    ·exact h.elim
   ·exact h.elim
  ·exact h.elim
 ·exact h.elim
end
end
section
open Go.RowKit Go.ChangeMaps
def ba_eq{a b:ByteArray}(h:(a==b)=true):a=b:=by
 have h:ByteArray.beq a b=true:=h;unfold ByteArray.beq at h;cases a;cases b;simp at h;rw[h]
def ba_rfl(a:ByteArray):(a==a)=true:=by
 show ByteArray.beq a a=true;unfold ByteArray.beq;simp
section
variable {P:Program}{B:Base}{o:Oper}{X:St}{K:Fx->Prop}
def aNilCheck_ok{x:Operand}(hop:o.op=.nilCheck x)(hd:I5 B.n o=true)(h:zM o X K x):∃fx,K fx/\Eff P B o fx.rd X fx.wr:=by
 unfold zM at h;split at h
 ·rename_i b g i hx;obtain⟨hg,h⟩:=h.out;refine⟨_,h,Eff.pure hd λX' hag a w Y hs=>?_⟩;have h1:=D6 hs x;rw[D3 (E3 hag),hx]at h1;have hg':=(S5 (G9 hag (.gen b) (by simp))).trans hg;generalize hv:a.eval x=v at h1;have h2:=h1;cases h1 with
  |own _ _ _ _ a2 hgg hh =>
   obtain⟨q,e1,e2⟩:=hh hg';refine⟨v,?_,h2⟩;subst e2;simp[execOp,hop,hv]
 ·rename_i cs hx;refine⟨_,h,Eff.pure hd λX' hag a w Y hs=>?_⟩;have h1:=D6 hs x;rw[D3 hag,hx]at h1;have h2:=h1;have h1:=h1.im_inv;generalize hv:a.eval x=v at h1 h2;refine⟨v,?_,h2⟩;cases h1 with
  |ref b q us _ _ _ _ _ _=>simp[execOp,hop,hv]
 ·rename_i f cs hx;refine⟨_,h,Eff.pure hd λX' hag a w Y hs=>?_⟩;have h1:=D6 hs x;rw[D3 hag,hx]at h1;have h2:=h1;have h1:=h1.im_inv;generalize hv:a.eval x=v at h1 h2;refine⟨v,?_,h2⟩;cases h1 with
  |fn _ us _ _ _=>simp[execOp,hop,hv]
 ·rename_i f cs hx;refine⟨_,h,Eff.pure hd λX' hag a w Y hs=>?_⟩;have h1:=D6 hs x;rw[D3 hag,hx]at h1;have h2:=h1;generalize hv:a.eval x=v at h1 h2;refine⟨v,?_,h2⟩;cases h1 with
  |fn _ us _ _ _=>simp[execOp,hop,hv]
 ·exact h.elim
def nV{V:Type}(z:List V):∀(l j:Nat),(List.replicate l z).flatten[j]?=if j<l*z.length then z[j%z.length]? else none
 |0,j=>by simp
 |l+1,j=>by
  rw[List.replicate_succ,W6,P2,nV z l];by_cases h:j<z.length
  ·rw[if_pos h,if_pos (by rw[Nat.add_mul];omega),Nat.mod_eq_of_lt h]
  ·have e:j%z.length=(j-z.length)%z.length:=Nat.mod_eq_sub_mod (by omega);rw[if_neg h,e];by_cases h2:j-z.length<l*z.length
   ·rw[if_pos h2,if_pos (by rw[Nat.add_mul];omega)]
   ·rw[if_neg h2,if_neg (by rw[Nat.add_mul];omega)]
def made_take(z:Array Value)(l c:Nat)(h:l<=c)(hz:0<z.size):(madeCells z (c*z.size)).toList.take (l*z.size)=(List.replicate l z.toList).flatten:=by
 apply cT;intro j;rw[nV,R5];have hm:l*z.size<=c*z.size:=W7 _ h;simp only[iI];by_cases hj:j<l*z.size
 ·rw[if_pos hj,if_pos hj];have a2:j%z.size<z.size:=lX _ hz;unfold madeCells;rw[fX,I9,Array.toList_range,cH (by omega)];simp only[K0];rw[getElem!_pos z (j%z.size) a2,P9,vE a2]
 ·rw[if_neg hj,if_neg hj]
def cap_bytes{c by_:Nat}(h:E0 c by_):(by_:Int)*(c:Int)<=281474976710656:=by
 have h1:=h.1;have:((by_*c:Nat):Int)<=281474976710656:=by rw[qY];omega
 rwa [CZ]at this
def mkZ_rep{w:World}{S:Nat->Prop}(own:List Nat)(d:Nat)(v:Value):RepI w S v (mkZ own d v):=by
 unfold mkZ;split
 ·exact .val v
 ·exact kB (.val v)
def aMakeSlice_ok{own:List Nat}{t:TypeId}{len cap:Operand}(hop:o.op=.makeSlice t len cap)(hd:I5 B.n o=true)(h:zY P own o X K t len cap):∃fx,K fx/\Eff P B o fx.rd X fx.wr:=by
 unfold zY at h;split at h
 ·rename_i d et a3 d8;have d2:=Y4 d8;split at h
  ·rename_i l c k z by_ hl hc hk hz d6;obtain⟨a5,h⟩:=h.ok;simp only[M4]at a5;have e6:=aN a5.1.1;obtain⟨i,zv,hi,c8,b8,a9,d1⟩:=kI a5.1.2 hk d6
   have c6:zv.cells.toList=z:=by
    unfold zeroOf at hz;simp only[hi,c8,K0,C2]at hz;exact hz
   have d9:∀u∈z,u.oneCell'=true:=λu hu=>P8.1 a5.2 u hu;have a2:z.length=k:=by rw[<- c6];simpa using d1
   obtain⟨⟨h0,e7,b2⟩,h⟩:=h.out;have d7:(c.toNat:Int)=c:=DT (by omega);have b6:l.toNat<=c.toNat:=by omega
   have e8:c.toNat<=17592186044416:=b2.2
   have G6:∀X' a w Y,SatR B X' a w Y->(∀y∈opd len++opd cap,X' y=X y)->(execOp a.eval o).run P w=.ok (.value (.slice (some ⟨w.heap.size,0,none⟩) l.toNat c.toNat)) (w.alloc (.cells (madeCells zv.cells (c.toNat*k)) et)):=λX' a w Y hs hag=>by
    have h1:=D6 hs len;rw[D3 (E3 hag)]at h1;have h2:=D6 hs cap;rw[D3 (G9 hag)]at h2;have hb:=cap_bytes b2;rw[<- a9,d7]at hb;have hr:=run_make (P:=P) w t et i zv d2 hi c8 .i64 .i64 l c h0 e7 hb (by omega);rw[b8]at hr;simp[execOp,hop,T8 hl h1,T8 hc h2,hr]
   have a8:∀w:World,(w.alloc (.cells (madeCells zv.cells (c.toNat*k)) et)).ownsRow 0 et k (.slice (some ⟨w.heap.size,0,none⟩) l.toNat c.toNat) l.toNat (List.replicate l.toNat z).flatten:=λw=>by
    refine⟨?_,.inr ⟨w.heap.size,c.toNat,_,rfl,F7 _,heap_alloc_new w _,b6,by unfold maxLen;omega,size_madeCells _ _,?_⟩⟩
    ·rw[R3 (k:=k) (λx hx=>by rw[eT hx];exact a2),cX]
    ·rw[<- c6,<- d1];exact made_take zv.cells _ _ b6 (by omega)
   have a7:∀u∈(List.replicate l.toNat z).flatten,u.oneCell'=true:=λu hu=>by
    obtain⟨x,hx,c0⟩:=mA.1 hu;rw[eT hx]at c0;exact d9 u c0
   have m:∀(X':St) (w:World) (Y:Ly),lG X' w (w.alloc (.cells (madeCells zv.cells (c.toNat*k)) et)) Y none (.slice (some ⟨w.heap.size,0,none⟩) l.toNat c.toNat) none:=λX' w Y =>
    ⟨World.grownBy_alloc w _ none,(λb e=>by cases e),λb e=>.inr (by simp only[D9,C2]at e;omega)⟩
   split at h
   ·split at h
    ·rename_i e' e9;split at h
     ·rename_i k' f3;obtain⟨a4,h⟩:=h.ok;simp only[M4]at a4;have c9:k=1:=by simpa using a4.1.1
      have d4:=aN a4.2
      have b3:z=[.slice none 0 0]:=by
       have:=a4.1.2;split at this
       ·rfl
       ·cases this
      have h:=h.out;refine⟨_,h,λX' hag a w ⟨Y,hs⟩ K' Q hK=>?_⟩;unfold Oper.wp;rw[G6 X' a w Y hs (E3 hag),Oper.upon_value,a3];have hg:X'.gn d=X.gn d:=S5 (G9 hag (.gen d) (by simp));have d0:X'.ig d=X.ig d:=fD (G9 hag (.ign d) (by simp));obtain⟨e1,e2,e3,e4,e5⟩:=mkK_eqs X' X d (.grid et e' k' (List.replicate l.toNat [IV.sl []]) none)
      let v:Value:=.slice (some ⟨w.heap.size,0,none⟩) l.toNat c.toNat
      let X2:=app X' (X9 X d (.grid et e' k' (List.replicate l.toNat [IV.sl []]) none))
      let Y2:Ly:=setK Y X2 d v (List.replicate l.toNat (.slice none 0 0)) (.grid et e' k' (List.replicate l.toNat [IV.sl []]) none)
      have c7:fpv v (List.replicate l.toNat (.slice none 0 0))=[w.heap.size]:=by
       unfold fpv;simp only[iK,v,D9];congr 1;exact List.filterMap_eq_nil_iff.2 λx hx=>by rw[eT hx];rfl
      have b9:∀b,Owns X2 Y2 d b->b=w.heap.size:=λb hb=>by
       unfold Owns at hb;rw[e1,if_pos rfl]at hb;simp only[Y2,setK,if_pos]at hb;have hb:b∈fpv v (List.replicate l.toNat (.slice none 0 0)):=hb;rw[c7]at hb;simpa using hb
      have a6:=World.grownBy_alloc w (.cells (madeCells zv.cells (c.toNat*k)) et) none
      obtain⟨b4,_,_⟩:=hs.step (X':=X2) (Y':=Y2) (w':=w.alloc (.cells (madeCells zv.cells (c.toNat*k)) et)) (λo=>o=d) e4
       (λo hd=>⟨by show X2.kd o=_;rw[e1,if_neg hd],by show X2.gn o=_;rw[e2,if_neg hd],λi=>e5 o i,by simp[Y2,setK,hd],by simp[Y2,setK,hd],by show X2.ig o=_;rw[e3,if_neg (λe=>hd e.1)];exact(hs.igs o).symm⟩)
       (λo hd=>by
        subst hd
        refine⟨⟨by rw[e2,if_pos rfl,hg];omega,λe=>by rw[e2,if_pos rfl,hg]at e;omega⟩,?_,λe=>?_⟩
        ·show _<=X2.ig o
         rw[e3,hs.igs,d0,if_pos ⟨rfl,rfl⟩];omega
        ·have e:X2.ig o=Y.ig o:=e
         rw[e3,hs.igs,d0,if_pos ⟨rfl,rfl⟩]at e;omega)
       (λo=>rfl) ⟨a6.os,a6.tape,a6.output,a6.size,λb hb _=>a6.block b hb (by simp)⟩ (λo b hd ho=>by subst hd;rw[b9 b ho];exact .inl (G4 _)) (λo p b hd hp _ _=>hd.trans hp.symm) λhI hA o hd=>by
        subst hd;rw[e1,if_pos rfl];show dC _ _ (Y2 o) (Y2.inn o) _ _ _ _ _;simp only[Y2,setK,if_pos];refine⟨by show(fpv v (List.replicate l.toNat (.slice none 0 0))).Nodup;rw[c7];simp,by simp[innK],(List.replicate l.toNat z).flatten,by simp;omega,?_,a7,λi u hu=>.inr ⟨?_,[],?_,?_⟩⟩
        ·have:=a8 w;rw[c9]at this;rw[cX];rw[c9];exact this
        ·have hu:(List.replicate l.toNat (.slice none 0 0))[i]?=some u:=hu;rw[nV,b3];rw[yR]at hu;split at hu
         ·rename_i b5;injection hu with hu
          subst hu;simp[b5,Nat.mod_one]
         ·cases hu
        ·have hu:(List.replicate l.toNat (Value.slice none 0 0))[i]?=some u:=hu;rw[yR]at hu ⊢;split at hu
         ·rename_i b5;rw[if_pos b5]
         ·cases hu
        ·have hu:(List.replicate l.toNat (Value.slice none 0 0))[i]?=some u:=hu;rw[yR]at hu;split at hu
         ·injection hu with hu
          subst hu;exact⟨[],d4,by simp,by simp,World.ownsRow_nil _ _ _ _,rfl,by simp,by simp⟩
         ·cases hu
      refine hK _ _ ⟨Y2,?_⟩;rw[K3];refine b4.put (d:=some d) (λt e=>by injection e with e;subst e;exact U8 hd a3) (.osl _ _ _ rfl ?_ λ_=>?_)
      ·show _<=X2.gn d;rw[e2,if_pos rfl];exact G4 _
      ·simp[Y2,setK,v]
     ·exact h.elim
    ·exact h.elim
   ·split at h
    ·have h:=h.out;refine⟨_,h,λX' hag a w ⟨Y,hs⟩ K' Q hK=>?_⟩;unfold Oper.wp;rw[G6 X' a w Y hs hag,Oper.upon_value,a3];have d3:Below w.heap.size w (w.alloc (.cells (madeCells zv.cells (c.toNat*k)) et)):=(Below.refl _ _).alloc (G4 _) _;obtain⟨d5,hI⟩:=hs.world d3;refine hK _ _ ⟨Y,?_⟩;show SatR B (app X' [(.tmp d,.av (.im (.sl (List.replicate l.toNat (z.map λv=>nz1 (.val v))))))]) _ _ _;refine d5.put (d:=some d) (λt e=>by injection e with e;subst e;exact U8 hd a3) (.im _ _ ?_);refine .sl w.heap.size 0 c.toNat k l.toNat _ (List.replicate l.toNat z).flatten (by rw[cX]) (λx hx=>by rw[eT hx,B6,a2]) b6 (by omega) ⟨.inr (.inl hs.bel.size),by simp,λp e0=>?_,λhz=>?_⟩ ?_ a7 (λi u hu=>?_) λi u x hu hx=>?_
     ·have:=(hs.own p _ e0).2;omega
     ·have:=(hs.res _ hz).1.2;omega
     ·rw[R3 (k:=k) (λx hx=>by rw[eT hx];exact a2),R3 (k:=k) (λx hx=>by rw[eT hx,B6,a2])];simp
     ·have:=(a8 w).cells (g:=w.heap.size) rfl i u hu;rw[addr_add,F9]at this;rw[F9];exact this
     ·rw[nV]at hu hx;rw[B6]at hx;split at hu
      ·rename_i b7;rw[if_pos b7,I9,hu]at hx;injection hx with hx
       subst hx;exact kB (.val u)
      ·cases hu
    ·have h:=h.out;refine⟨_,h,λX' hag a w ⟨Y,hs⟩ K' Q hK=>?_⟩;unfold Oper.wp;rw[G6 X' a w Y hs (E3 hag),Oper.upon_value,a3];refine hK _ _ ⟨setY Y d (.slice (some ⟨w.heap.size,0,none⟩) l.toNat c.toNat),?_⟩;have hg:X'.gn d=X.gn d:=S5 (G9 hag (.gen d) (by simp))
     have b4:=hs.new (d:=d) (k:=.row et k (List.replicate l.toNat (z.map λv=>mkZ own d v))) (cs:=[]) (m X' w Y) rfl λhI _=>by
      refine⟨(List.replicate l.toNat z).flatten,e6,λx hx=>by rw[eT hx,B6,a2],by rw[cX];omega,?_,?_,a7,λi u x hu hx=>?_⟩
      ·simp only[setY,if_pos,cX];exact a8 w
      ·rw[R3 (k:=k) (λx hx=>by rw[eT hx];exact a2),R3 (k:=k) (λx hx=>by rw[eT hx,B6,a2])];simp
      ·rw[nV]at hu hx;rw[B6]at hx;split at hu
       ·rename_i b7;rw[if_pos b7,I9,hu]at hx;injection hx with hx
        subst hx;exact mkZ_rep own d u
       ·cases hu
     have:=lM (X:=X) (X':=X') (k:=.row et k (List.replicate l.toNat (z.map λv=>mkZ own d v))) (cs:=[]) (v:=.osl d (X.gn d+1)) hg;simp only[P4,V0]at this;show SatR B (app X' (L4 X d (.row et k (List.replicate l.toNat (z.map λv=>mkZ own d v)))++[(.tmp d,.av (.osl d (X.gn d+1)))])) _ _ _;rw[this,<- hg];exact tF b4 rfl (U8 hd a3)
  ·exact h.elim
 ·exact h.elim
def aMakeMap_ok{t:TypeId}{r:Option Operand}(hop:o.op=.makeMap t r)(hd:I5 B.n o=true)(h:aMakeMap o X K t r):∃fx,K fx/\Eff P B o fx.rd X fx.wr:=by
 unfold aMakeMap at h;split at h
 ·rename_i d a2;refine⟨_,h,λX' hag a w ⟨Y,hs⟩ K' Q hK=>?_⟩;have hg:X'.gn d=X.gn d:=S5 (hag (.gen d) (by simp))
  have run:(execOp a.eval o).run P w=.ok (.value (.map (some w.heap.size))) (w.alloc (.map #[] 0)):=by
   simp[execOp,hop,Instr.makeMap]
  unfold Oper.wp;rw[run,Oper.upon_value,a2]
  have m:lG X' w (w.alloc (.map #[] 0)) Y none (.map (some w.heap.size)) none :=
   ⟨World.grownBy_alloc w _ none,(λb e=>by cases e),λb e=>.inr (by simp only[D9,C2]at e;omega)⟩
  refine hK _ _ ⟨setY Y d (.map (some w.heap.size)),?_⟩;have a3:=hs.new (d:=d) (k:=.map []) (cs:=[]) m rfl λhI _=>⟨w.heap.size,0,#[],by simp[setY],heap_alloc_new w _,rfl,dY.nil 0⟩;have:=lM (X:=X) (X':=X') (k:=.map []) (cs:=[]) (v:=.osl d (X.gn d+1)) hg;simp only[P4,V0]at this;rw[this,<- hg];exact tF a3 rfl (U8 hd a2)
 ·exact h.elim
def sU{w:World}{S:Nat->Prop}{Y:Ly}{E:Nat->Nat}{v:Value}{x:AV}{u:Value}(e:asVal x=some u)(h:RepA w S Y E v x):v=u:=by
 unfold asVal at e;split at e
 ·injection e with e
  subst e;have h:=h.im_inv;cases h;rfl
 ·cases e
def tA{t k e:TypeId}(h:gD P t=some (k,e)):P.underlying t=some (.map k e):=by
 unfold gD at h;split at h
 ·rename_i k' e' hu;simp only[C2,F0]at h;rw[hu,h.1,h.2]
 ·cases h
def zL{kt:TypeId}{D:TypeDesc}(h:keyD P kt=some D):P.underlying kt=some D/\((∃k,D=.int k)\/D=.string\/D=.bool):=by
 unfold keyD at h;split at h
 ·rename_i k hu;injection h with h;subst h;exact⟨hu,.inl ⟨k,rfl⟩⟩
 ·rename_i hu;injection h with h;subst h;exact⟨hu,.inr (.inl rfl)⟩
 ·rename_i hu;injection h with h;subst h;exact⟨hu,.inr (.inr rfl)⟩
 ·cases h
def sW{kt:TypeId}{D:TypeDesc}(h:keyD P kt=some D)(em:Bool)(v:Value)(w:World):(Instr.checkKey em 10000 kt v).run P w=.ok () w:=by
 obtain⟨hu,hD⟩:=zL h;unfold Instr.checkKey;rw[Sem.run_bind,run_underlying hu];simp only[Result.andThen_ok];rcases hD with⟨k,rfl⟩|rfl|rfl<;>rfl
def FA(D:TypeDesc)(k:Value):∀(es:List MapEntry) (i:Nat),(Instr.findNow D k es i).map (·.map (·.2))=findV D k (es.map λe=>(e.key,e.val))
 |[],i=>rfl
 |e::es,i=>by
  unfold Instr.findNow;rw[J7];unfold findV;simp only;cases Instr.sameNow D k e.key with
  |none=>rfl
  |some b=>cases b with
   |true=>rfl
   |false=>exact FA D k es (i+1)
def rW{kt:TypeId}{D:TypeDesc}(h:keyD P kt=some D){k:Value}{es:List MapEntry}{r:Option (Nat×Value)}(hf:Instr.findNow D k es 0=some r)(w:World):(Instr.findKey kt k es).run P w=.ok r w:=by
 unfold Instr.findKey;rw[Sem.run_bind,run_underlying (zL h).1];simp only[Result.andThen_ok,hf,Sem.run_pure]
def aLookup_ok{t:TypeId}{x i:Operand}{ok:Bool}(hop:o.op=.lookup t x i ok)(hd:I5 B.n o=true)(h:aLookup P o X K t x i ok):∃fx,K fx/\Eff P B o fx.rd X fx.wr:=by
 unfold aLookup at h;split at h
 ·rename_i kt et b g kv b2 hx hi;have a6:=tA b2;split at h
  ·rename_i l D z b3 a5 hz;obtain⟨hg,r,hr,h⟩:=h.out;have h:=h.out
   have a4:∀X',(∀y∈opd x++opd i++[.gen b,.knd b],X' y=X y)->∀a w,Sat B X' a w->(execOp a.eval o).run P w=.ok (.value (if ok=true then .tuple #[r.getD z,.bool r.isSome] else r.getD z)) w:=λX' hag a w ⟨Y,hs⟩=>by
    obtain⟨ha,hg',a9,_⟩:=U9 hag;have h1:=D6 hs x;have h2:=D6 hs i;rw[D3 (E3 ha),hx]at h1;rw[D3 (G9 ha)]at h2;have b5:=sU hi h2;have ho:=hs.obs b;rw[a9.trans b3]at ho;obtain⟨q,a7,es,e1,e2,e3,b9⟩:=ho
    have b7:a.eval x=.map (some q):=by
     generalize a.eval x=v at h1;cases h1 with
     |osl _ _ _ _ _ hh=>rw[hh (hg'.trans hg),e1]
    have a2:=FA D kv es.toList 0;rw[e3,hr]at a2
    obtain⟨r0,a8,a3⟩:∃r0,Instr.findNow D kv es.toList 0=some r0/\r0.map (·.2)=r:=by
     cases hc:Instr.findNow D kv es.toList 0 with
     |none=>rw[hc]at a2;cases a2
     |some r0=>rw[hc]at a2;simp only[K0,C2]at a2;exact⟨r0,rfl,a2⟩
    have b4:∀w,(zeroValue et).run P w=.ok z w:=λw=>by
     unfold zeroV at hz;split at hz
     ·rename_i it b8;simp[zeroValue,typeInfo,b8,hz]
     ·cases hz
    have b6:=MapKept.run_getObj_map (P:=P) e2;simp only[execOp,hop,b7,b5,Instr.lookup,Sem.run_bind,run_underlying a6,Result.andThen_ok,b6,Sem.run_pure,sW a5,rW a5 a8];cases r0 with
    |none =>
     simp only[lY]at a3;subst a3;cases ok<;>simp[b4]
    |some p =>
     simp only[K0]at a3;subst a3;cases ok<;>simp
   split at h
   ·have h:=h.out;refine⟨_,h,Eff.pure hd λX' hag a w Y hs=>⟨_,a4 X' hag a w ⟨Y,hs⟩,?_⟩⟩;simp only[if_true]
    exact .tup [r.getD z,.bool r.isSome] _ rfl λj u y hu hy=>by
     match j with
     |0=>simp at hu hy;rw[<- hu,<- hy];exact Q1 _
     |1=>simp at hu hy;rw[<- hu,<- hy];exact vB_rep _
     |j+2=>simp at hu
   ·refine⟨_,h,Eff.pure hd λX' hag a w Y hs=>⟨_,a4 X' hag a w ⟨Y,hs⟩,?_⟩⟩;simp only[mC,if_false];exact Q1 _
  ·exact h.elim
 ·exact h.elim
def setV_eq(D:TypeDesc)(hD:(∃k,D=.int k)\/D=.string\/D=.bool)(k v:Value):∀(es:List MapEntry) (i:Nat) (l:List (Value×Value)),setV D k v (es.map λe=>(e.key,e.val))=some l ->
  (Instr.findNow D k es i=some none/\l=(es.map λe=>(e.key,e.val))++[(k,v)])\/∃j e,Instr.findNow D k es i=some (some (i+j,e.val))/\es[j]?=some e/\Instr.sameBits 10000 e.key k=true/\l=(es.set j { e with key:=k,val:=v }).map λe=>(e.key,e.val)
 |[],i,l,h=>by
  simp only[eS,setV,C2]at h;exact .inl ⟨rfl,by rw[<- h];rfl⟩
 |e::es,i,l,h=>by
  rw[J7]at h;unfold setV at h;unfold Instr.findNow;simp only at h;cases hs:Instr.sameNow D k e.key with
  |none=>rw[hs]at h;cases h
  |some b =>
   rw[hs]at h;cases b with
   |true =>
    simp only[C2]at h;refine .inr ⟨0,e,rfl,rfl,?_,by rw[<- h];rfl⟩;unfold Instr.sameNow at hs;split at hs
    ·rename_i k1 a k2 b hk;split at hs
     ·rename_i he;simp only[C2]at hs;rw[hk];have hab:a=b:=by simpa using hs
      subst he hab;simp[Instr.sameBits]
     ·cases hs
    ·rename_i a b hk;simp only[C2]at hs;rw[hk,ba_eq hs];exact ba_rfl _
    ·rename_i a b hk;simp only[C2]at hs;have hab:a=b:=by simpa using hs
     rw[hk,hab];simp[Instr.sameBits]
    ·cases hs
   |false =>
    cases hr:setV D k v (es.map λe=>(e.key,e.val)) with
    |none=>simp only[hr]at h;cases h
    |some l' =>
     simp only[hr,K0,C2]at h;rcases setV_eq D hD k v es (i+1) l' hr with⟨h1,h2⟩|⟨j,e',h1,h2,h3,h4⟩
     ·exact .inl ⟨h1,by rw[<- h,h2];rfl⟩
     ·exact .inr ⟨j+1,e',by rw[h1,U1,bB 1 j],by simpa using h2,h3,by rw[<- h,h4];rfl⟩
def aMapUpdate_ok{t:TypeId}{x i y:Operand}(hop:o.op=.mapUpdate t x i y)(hd:I5 B.n o=true)(h:AI P o X K t x i y):∃fx,K fx/\Eff P B o fx.rd X fx.wr:=by
 unfold AI at h;split at h
 ·rename_i kt et b g kv v c6 hx hi hy;have a6:=tA c6;split at h
  ·rename_i l D a9 a5;obtain⟨hg,l',b6,h⟩:=h.out;refine⟨_,h,λX' hag a w ⟨Y,hs⟩ K' Q hK=>?_⟩;obtain⟨ha,hg',a8,_⟩:=U9 hag;have h1:=D6 hs x;have h2:=D6 hs i;have h3:=D6 hs y;rw[D3 (E3 (E3 ha)),hx]at h1;rw[D3 (G9 (E3 ha))]at h2;rw[D3 (G9 ha)]at h3;have b4:=sU hi h2;have hv:=sU hy h3;have ho:=hs.obs b;rw[a8.trans a9]at ho;obtain⟨q,a3,es,e1,e2,e3,b2⟩:=ho
   have b9:a.eval x=.map (some q):=by
    generalize a.eval x=u at h1;cases h1 with
    |osl _ _ _ _ _ hh=>rw[hh (hg'.trans hg),e1]
   rw[<- e3]at b6;have b5:=MapKept.run_getObj_map (P:=P) e2;have a7:live X' b:=by unfold live;rw[a8.trans a9];exact λz=>by cases z
   have c8:D9 (Y b)=some q:=by rw[e1];rfl
   have fin:∀(a4:Array MapEntry) (a2:Nat),(a4.toList.map λe=>(e.key,e.val))=l'->dY a4 a2->(execOp a.eval o).run P w=.ok .skip (setBlock w q (.map a4 a2))->o.wp P a w K' Q:=λa4 a2 c7 b7 b3=>by
    unfold Oper.wp;rw[b3,Oper.upon_skip];refine hK _ _ ⟨Y,?_⟩
    have c0:=hs.turn (b:=b) (q:=q) (w':=setBlock w q (.map a4 a2)) (k':=.map l') a7 c8 ⟨rfl,rfl,rfl,by simp[setBlock],λi _ hi=>heap_setBlock_other e2 _ (λe=>hi (by rw[e]))⟩ (λc hc=>by unfold Owns;rw[a8.trans a9];exact hc) λhI =>
     ⟨q,a2,a4,e1,heap_setBlock_same e2 _,c7,b7⟩
    rw[N8];exact c0.put (cZ hd) (Q1 _)
   rcases setV_eq D (zL a5).2 kv v es.toList 0 l' b6 with⟨f1,f2⟩|⟨j,e,f1,f2,f3,f4⟩
   ·refine fin (es.push { key:=kv,val:=v,born:=a3 }) (a3+1) (by rw[f2];simp) (b2.push _ _) ?_;simp only[execOp,hop,b9,b4,hv,Instr.mapUpdate,Sem.run_bind,run_underlying a6,Result.andThen_ok,b5,Sem.run_pure,sW a5,rW a5 f1,MapKept.run_setObj_map _ e2];rfl
   ·have hj:es[j]?=some e:=by rw[<- P9];exact f2
    have b8:j<es.size:=(jY.1 hj).1;refine fin (es.modify j λe=>{ e with key:=kv,val:=v }) a3 ?_ (b2.modify _ _ λ_=>rfl) ?_
    ·rw[f4];congr 1;apply cT;intro n;rw[P9,vA,rH];by_cases hn:j=n
     ·subst hn;rw[if_pos rfl,if_pos rfl,if_pos (by simpa using b8),hj];rfl
     ·rw[if_neg hn,if_neg hn,P9]
    ·rw[F9]at f1;simp only[execOp,hop,b9,b4,hv,Instr.mapUpdate,Sem.run_bind,run_underlying a6,Result.andThen_ok,b5,Sem.run_pure,sW a5,rW a5 f1,MapKept.run_setObj_map _ e2,hj,Instr.keyThatStays,K0,N1,f3,if_true];rfl
  ·exact h.elim
 ·exact h.elim
def delV_eq(D:TypeDesc)(k:Value):∀(es:List MapEntry) (i:Nat) (l:List (Value×Value)),delV D k (es.map λe=>(e.key,e.val))=some l ->
  (Instr.findNow D k es i=some none/\l=es.map λe=>(e.key,e.val))\/∃j v,Instr.findNow D k es i=some (some (i+j,v))/\j<es.length/\l=(es.eraseIdx j).map λe=>(e.key,e.val)
 |[],i,l,h=>by
  simp only[eS,delV,C2]at h;exact .inl ⟨rfl,by rw[<- h];rfl⟩
 |e::es,i,l,h=>by
  rw[J7]at h;unfold delV at h;unfold Instr.findNow;simp only at h;cases hs:Instr.sameNow D k e.key with
  |none=>rw[hs]at h;cases h
  |some b =>
   rw[hs]at h;cases b with
   |true =>
    simp only[C2]at h;exact .inr ⟨0,_,rfl,by simp,by rw[<- h];rfl⟩
   |false =>
    cases hr:delV D k (es.map λe=>(e.key,e.val)) with
    |none=>simp only[hr]at h;cases h
    |some l' =>
     simp only[hr,K0,C2]at h;rcases delV_eq D k es (i+1) l' hr with⟨h1,h2⟩|⟨j,v,h1,h2,h3⟩
     ·exact .inl ⟨h1,by rw[<- h,h2];rfl⟩
     ·exact .inr ⟨j+1,v,by rw[h1,U1,bB 1 j],by simpa using h2,by rw[<- h,h3];rfl⟩
def aDelete_ok{c:Call}{t t':TypeId}{x i:Operand}(hop:o.op=.call c)(hc:c.callee=.builtin .delete)(ha:c.args.toList=[x,i])(ht:c.argTypes.toList=[t,t'])(hd:I5 B.n o=true)(h:aDelete P o X K t x i):∃fx,K fx/\Eff P B o fx.rd X fx.wr:=by
 have a5:c.args=#[x,i]:=by rw[<- gA (xs:=c.args),ha]
 have b8:c.argTypes=#[t,t']:=by rw[<- gA (xs:=c.argTypes),ht]
 unfold aDelete at h;split at h
 ·rename_i kt et b g kv c7 hx hi;have a7:=tA c7;split at h
  ·rename_i l D b3 a6;obtain⟨hg,l',b7,h⟩:=h.out;refine⟨_,h,λX' hag a w ⟨Y,hs⟩ K' Q hK=>?_⟩;obtain⟨ha,hg',b2,_⟩:=U9 hag;have h1:=D6 hs x;have h2:=D6 hs i;rw[D3 (E3 ha),hx]at h1;rw[D3 (G9 ha)]at h2;have b5:=sU hi h2;have ho:=hs.obs b;rw[b2.trans b3]at ho;obtain⟨q,a2,es,e1,e2,e3,a9⟩:=ho
   have c0:a.eval x=.map (some q):=by
    generalize a.eval x=u at h1;cases h1 with
    |osl _ _ _ _ _ hh=>rw[hh (hg'.trans hg),e1]
   rw[<- e3]at b7;have b6:=MapKept.run_getObj_map (P:=P) e2;have a8:live X' b:=by unfold live;rw[b2.trans b3];exact λz=>by cases z
   have c9:D9 (Y b)=some q:=by rw[e1];rfl
   have fin:∀(a3:Array MapEntry),(a3.toList.map λe=>(e.key,e.val))=l'->dY a3 a2->(execOp a.eval o).run P w=.ok (.value (.tuple #[])) (setBlock w q (.map a3 a2))->o.wp P a w K' Q:=λa3 c8 b9 b4=>by
    unfold Oper.wp;rw[b4,Oper.upon_value];refine hK _ _ ⟨Y,?_⟩
    have c6:=hs.turn (b:=b) (q:=q) (w':=setBlock w q (.map a3 a2)) (k':=.map l') a8 c9 ⟨rfl,rfl,rfl,by simp[setBlock],λi _ hi=>heap_setBlock_other e2 _ (λe=>hi (by rw[e]))⟩ (λc hc=>by unfold Owns;rw[b2.trans b3];exact hc) λhI =>
     ⟨q,a2,a3,e1,heap_setBlock_same e2 _,c8,b9⟩
    rw[N8];exact c6.put (cZ hd) (.im _ _ (.any _))
   rcases delV_eq D kv es.toList 0 l' b7 with⟨f1,f2⟩|⟨j,v,f1,f2,f3⟩
   ·refine fin es f2.symm a9 ?_;simp only[execOp,hop,resolve,hc,a5,b8,invoke,builtin,uS,J7,eS,Builtin.delete_,c0,b5,Sem.run_bind,Sem.run_pure,run_underlying a7,Result.andThen_ok,b6,sW a6,rW a6 f1,MapKept.run_setObj_map _ e2,DY,yS,DR];rfl
   ·have hj:j<es.size:=by simpa using f2
    have a4:(es.eraseIdxIfInBounds j).toList=es.toList.eraseIdx j:=by
     unfold Array.eraseIdxIfInBounds;rw[dif_pos hj];simp
    refine fin (es.eraseIdxIfInBounds j) (by rw[a4,f3]) ⟨λy hy=>a9.1 y (by rw[a4]at hy;exact(List.eraseIdx_sublist _ _).subset hy),by rw[a4];exact a9.2.sublist ((List.eraseIdx_sublist _ _).map _)⟩ ?_;rw[F9]at f1;simp only[execOp,hop,resolve,hc,a5,b8,invoke,builtin,uS,J7,eS,Builtin.delete_,c0,b5,Sem.run_bind,Sem.run_pure,run_underlying a7,Result.andThen_ok,b6,sW a6,rW a6 f1,MapKept.run_setObj_map _ e2,DY,yS,DR];rfl
  ·exact h.elim
 ·exact h.elim
end
end
section
section
variable {P:Program}{B:Base}{o:Oper}{X:St}{K:Fx->Prop}
def sG{a:Act}{w:World}{Y:Ly}(hs:SatR B X a w Y){y:Operand}{n:Int}{k:IntKind}(hy:Sym.asInt (evA X y)=some (k,n)){m:Nat}{c:BoundsCode}(h0:0<=n)(hm:n<=m):(Instr.sliceBound (a.eval y) m c).run P w=.ok n.toNat w:=by
 have h3:0<=n/\n<=m:=⟨h0,hm⟩;simp only[T8 hy (D6 hs y),Instr.sliceBound,asIntOf,Sem.run_bind,Sem.run_pure,Result.andThen_ok,if_pos h3]
def rV{a:Act}{w:World}{Y:Ly}(hs:SatR B X a w Y){b k:Nat}{t:TypeId}{es:List (List IV)}(hk:X.kd b=.row t k es)(hn:0<es.length) :
  ∃(q cap:Nat) (cur:Array Value) (us:List Value),Y b=.slice (some ⟨q,0,none⟩) es.length cap/\w.heap[q]?=some (.cells cur t (0,0))/\es.length<=cap/\cap<=maxLen/\cur.size=cap*k/\cur.toList.take (es.length*k)=us/\0<k/\(∀x∈es,x.length=k)/\es.length<=17592186044416/\us.length=es.flatten.length /\
   (∀u∈us,u.oneCell'=true)/\∀(i:Nat) u x,us[i]?=some u->es.flatten[i]?=some x->RepI w (Imm B X Y w) u x:=by
 have ho:=hs.obs b;rw[hk]at ho;obtain⟨us,h1,h2,h3,h4,h5,h6,h7⟩:=ho;rcases h4.2 with⟨_,h0⟩|⟨q,cap,cur,e1,_,e3,e4,e5,e6,e7⟩
 ·omega
 ·exact⟨q,cap,cur,us,e1,e3,e4,e5,e6,e7,h1,h2,h3,h5,h6,h7⟩
def aSliceV_ok{t:TypeId}{x lo:Operand}{b g:Nat}(hop:o.op=.slice t x (some lo) none none)(hx:evA X x=.osl b g)(hd:I5 B.n o=true)(h:aSliceV P o X K t x b g lo):∃fx,K fx/\Eff P B o fx.rd X fx.wr:=by
 unfold aSliceV at h;split at h
 ·rename_i et kk l b4 k es b2 a7 b3;have hu:=Y4 b2;split at h
  ·rename_i k' a8;obtain⟨a3,h'⟩:=h.ok;clear h;have a3:=M3 a3;subst a3;obtain⟨⟨hg,h0,hl,hn⟩,h⟩:=h'.out;refine⟨_,h,Eff.pure hd λX' hag a w Y hs=>?_⟩;obtain⟨a6,hg',a9,_⟩:=U9 hag;have h1:=D6 hs x;rw[D3 (E3 a6),hx]at h1;have a5:Sym.asInt (evA X' lo)=some (kk,l):=by rw[D3 (G9 a6)];exact a7
   obtain⟨q,a4,cur,us,e1,e2,e3,_⟩:=rV hs (a9.trans b3) hn;have hb:=λc=>sG (P:=P) (w:=w) hs a5 (m:=es.length) (c:=c) h0 (by omega);have hz:=aD a8 w;generalize hv:a.eval x=v at h1;cases h1 with
   |osl _ _ _ a2 hgg hh =>
    rw[hh (hg'.trans hg),e1]at hv;refine⟨.slice (if a4=l.toNat then some ⟨q,0,none⟩ else some ⟨q,l.toNat*k,none⟩) (es.length-l.toNat) (a4-l.toNat),?_,.osv _ b g l.toNat k (by rfl) hgg λ_=>⟨q,_,a4,e1,hl,rfl⟩⟩;simp only[execOp,hop,hv,Instr.sliceAt,Instr.slice,Sem.run_bind,Sem.run_pure,Result.andThen_ok,run_underlying hu,lY,K0,hz];unfold Instr.sliceBounds;simp[hb,addr_add,hz]
  ·exact h.elim
 ·exact h.elim
def aSlice3_ok{t:TypeId}{x:Operand}{lo hi:Option Operand}{mx:Operand}(hop:o.op=.slice t x lo hi (some mx))(hd:I5 B.n o=true)(h:aSlice3 P o X K t x lo hi mx):∃fx,K fx/\Eff P B o fx.rd X fx.wr:=by
 unfold aSlice3 at h;split at h
 ·rename_i hi et b4;have hu:=Y4 b4;split at h
  ·rename_i k es k1 h9 k2 hh hk hx a9 b5;obtain⟨⟨h0,a4,rfl,a3⟩,h⟩:=h.out;have h:=h.out;refine⟨_,h,Eff.pure hd λX' hag a w Y hs=>?_⟩;have h1:=D6 hs x;rw[D3 (E3 (E3 hag))]at h1;have a8:Sym.asInt (evA X' hi)=some (k1,hh):=by rw[D3 (G9 (E3 hag))];exact a9
   have a7:Sym.asInt (evA X' mx)=some (k2,hh):=by rw[D3 (G9 hag)];exact b5
   have hz:=aD hk w
   have run:∀A n cp,a.eval x=.slice A n cp->n=es.length->n<=cp->(execOp a.eval o).run P w=.ok (.value (.slice (if hh.toNat=0 then A else A.map (·.add (0*k))) (hh.toNat-0) (hh.toNat-0))) w:=λA n cp hv hn b6=>by
    have b1:=λc=>sG (P:=P) (w:=w) hs a7 (m:=cp) (c:=c) h0 (by omega);have b2:=λc=>sG (P:=P) (w:=w) hs a8 (m:=hh.toNat) (c:=c) h0 (by omega);simp only[execOp,hop,hv,Instr.sliceAt,Instr.slice,Sem.run_bind,Sem.run_pure,Result.andThen_ok,run_underlying hu,lY,K0,hz];unfold Instr.sliceBounds;simp[b1,b2,hz]
   have emp:∀A,es=[]->RepA w (Imm B X' Y w) Y X'.gn (.slice (if hh.toNat=0 then A else A.map (·.add (0*k))) (hh.toNat-0) (hh.toNat-0)) (.full (es.take hh.toNat)):=λA e=>by
    have e0:hh.toNat=0:=by rw[e]at a4;simp at a4;omega
    rw[e0,e,if_pos rfl,List.take_nil];exact .full _ _ _ (.emp _ _)
   cases hxx:evA X x with
   |im y =>
    rw[hxx]at h1 hx;have hx:nz y=.sl es:=hx;have h1:RepI w (Imm B X' Y w) (a.eval x) (.sl es):=hx ▸ nz_rep h1.im_inv;generalize hv:a.eval x=v at h1;cases h1 with
    |emp A c =>
     exact⟨_,run _ _ _ hv rfl (F7 _),emp _ rfl⟩
    |sl b q c k' n _ us hn hkk hc hs' hS hl hone hu' hr =>
     refine⟨_,run _ _ _ hv hn.symm hc,?_⟩;rcases eR hh.toNat with e0|e0
     ·rw[e0,if_pos rfl,CX];exact .full _ _ _ (.emp _ _)
     ·rw[if_neg (by omega)];simp only[K0,lB,addr_add,X5,oA];have a5:(es.take hh.toNat).length=hh.toNat:=by rw[H6];omega
      have a6:(es.take hh.toNat).flatten=es.flatten.take (hh.toNat*k):=pU a3;refine .full _ _ _ (.sl b q _ k _ _ (us.take (hh.toNat*k)) a5 (λe he=>a3 e (Q4 he)) (G4 _) (by omega) hS (by rw[a6,H6,H6,hl]) (λu a2=>hone u (Q4 a2)) (λi u a2=>?_) λi u y a2 hy=>?_)
      ·rw[R5]at a2;split at a2
       ·exact hu' i u a2
       ·cases a2
      ·rw[a6,R5]at hy;rw[R5]at a2;split at a2
       ·rename_i b3;rw[if_pos b3]at hy;exact hr i u y a2 hy
       ·cases a2
   |_=>rw[hxx]at hx;cases hx
  ·exact h.elim
 ·exact h.elim
def aLenV_ok{c:Call}{t:TypeId}{ts:List TypeId}{x:Operand}{b g k m:Nat}(hop:o.op=.call c)(hc:c.callee=.builtin .len)(ha:c.args.toList=[x])(ht:c.argTypes.toList=t::ts){e:TypeId}(he:S2 P t=some e)(hx:evA X x=.osv b g k m)(hd:I5 B.n o=true)(h:aLenV o X K x b g k):∃fx,K fx/\Eff P B o fx.rd X fx.wr:=by
 have a7:c.argTypes[0]?=some t:=by rw[<- P9,ht];rfl
 have a4:∀a:Act,(c.args.map a.eval)[0]?=some (a.eval x):=λa=>by rw[<- P9,fX,ha];rfl
 have hu:=Y4 he
 have run:∀(a:Act) w A n cp,a.eval x=.slice A n cp->(execOp a.eval o).run P w=.ok (.value (.int .i64 n)) w:=λa w A n cp hv=>by
  simp only[execOp,hop,resolve,hc,invoke,builtin,Builtin.len_,a7,a4,Sem.run_bind,Sem.run_pure,Result.andThen_ok,run_underlying hu,hv,goInt]
 unfold aLenV at h;split at h
 ·rename_i t' kk es a5;obtain⟨hg,h⟩:=h.out;have h:=h.out;refine⟨_,h,Eff.pure hd λX' hag a w Y hs=>?_⟩;obtain⟨a6,hg',a3,_⟩:=U9 hag;have h1:=D6 hs x;rw[D3 a6,hx]at h1;obtain⟨A,cp,hY⟩:=EP hs (a3.trans a5);generalize hv:a.eval x=v at h1;cases h1 with
  |osv _ _ _ _ _ a2 hgg hh =>
   obtain⟨q,n,c',e1,e2,e3⟩:=hh (hg'.trans hg);rw[hY]at e1;injection e1 with _ e1 _
   subst e1;rw[e3]at hv;exact⟨_,run a w _ _ _ hv,Q1 _⟩
 ·exact h.elim
def aIndexV_ok{t:TypeId}{x i:Operand}{b g k m:Nat}(hop:o.op=.indexAddr t x i)(hx:evA X x=.osv b g k m)(hd:I5 B.n o=true)(h:aIndexV P o X K t x i b g k m):∃fx,K fx/\Eff P B o fx.rd X fx.wr:=by
 unfold aIndexV at h;split at h
 ·rename_i kk n et t' k' es hi a7 a8;have hu:=Y4 a7;split at h
  ·rename_i m' hm;obtain⟨a3,h'⟩:=h.ok;clear h;have a3:=M3 a3;subst a3;obtain⟨⟨h0,hg,a9⟩,h⟩:=h'.out;have h:=h.out;refine⟨_,h,Eff.pure hd λX' hag a w Y hs=>?_⟩;obtain⟨a4,hg',a6,_⟩:=U9 hag;have h1:=D6 hs x;have h2:=D6 hs i;rw[D3 (E3 a4),hx]at h1;rw[D3 (G9 a4)]at h2;have hn:=T8 hi h2;obtain⟨q,a5,cur,us,e1,e2,e3,_⟩:=rV hs (a6.trans a8) (by omega);generalize hv:a.eval x=v at h1;cases h1 with
   |osv _ _ _ _ _ a2 hgg hh =>
    obtain⟨q',n',c',f1,f2,f3⟩:=hh (hg'.trans hg);have b2:=f1;rw[e1]at f1;injection f1 with f1 f4 f5
    injection f1 with f1
    injection f1 with f1
    subst f1 f4 f5;rw[f3,if_neg (by omega)]at hv;have hz:=aD hm w;have h3:0<=n/\n<(es.length-k:Nat):=⟨h0,by omega⟩;refine⟨.pointer (some ⟨q,(k+n.toNat)*m,none⟩),?_,.elt _ b g m (k+n.toNat) 0 rfl hgg λ_=>⟨q,0,_,a5,e1,by rw[X5,F9]⟩⟩;simp only[execOp,hop,hv,hn,Instr.indexAt,asIntOf,Sem.run_bind,Sem.run_pure,Result.andThen_ok,run_underlying hu,if_pos h3,hz,addr_add];rw[Nat.add_mul]
  ·exact h.elim
 ·exact h.elim
def aSliceT_ok{t:TypeId}{x hi:Operand}{b g:Nat}(hop:o.op=.slice t x none (some hi) none)(hx:evA X x=.osl b g)(hd:I5 B.n o=true)(h:aSliceT P o X K t x b g hi):∃fx,K fx/\Eff P B o fx.rd X fx.wr:=by
 unfold aSliceT at h;split at h
 ·rename_i et kk l a4 k es d c9 c6 b6 a9;have hu:=Y4 c9;split at h
  ·rename_i k' c8;obtain⟨b2,h'⟩:=h.ok;clear h;have b2:=M3 b2;subst b2;obtain⟨⟨hg,h0,hl,hn⟩,h⟩:=h'.out;have h:=h.out;refine⟨_,h,λX' hag a w ⟨Y,hs⟩ K' Q hK=>?_⟩;obtain⟨b7,hg',b5,d1⟩:=U9 hag;have h1:=D6 hs x;rw[D3 (E3 b7),hx]at h1;have b8:Sym.asInt (evA X' hi)=some (kk,l):=by rw[D3 (G9 b7)];exact c6
   obtain⟨q,cap,cur,us,e1,e2,e3,e4,e5,e6,e7,e8,e9,a2,a6,a7⟩:=rV hs (b5.trans b6) hn;have hb:=λc=>sG (P:=P) (w:=w) hs b8 (m:=cap) (c:=c) h0 (by omega);have hz:=aD c8 w
   have hv:a.eval x=.slice (some ⟨q,0,none⟩) es.length cap:=by
    generalize a.eval x=v at h1;cases h1 with
    |osl _ _ _ a8 hgg hh=>rw[hh (hg'.trans hg),e1]
   have run:(execOp a.eval o).run P w=.ok (.value (.slice (some ⟨q,0,none⟩) l.toNat cap)) w:=by
    simp only[execOp,hop,hv,Instr.sliceAt,Instr.slice,Sem.run_bind,Sem.run_pure,Result.andThen_ok,run_underlying hu,lY,K0,hz];unfold Instr.sliceBounds;have:¬cap=0:=by omega
    simp[hb,addr_add,hz,this]
   unfold Oper.wp;rw[run,Oper.upon_value,a9];refine hK _ _ ⟨setY Y b (.slice (some ⟨q,0,none⟩) l.toNat cap),?_⟩;have a3:Owns X' Y b q:=.root (lO (b5.trans b6)) (by rw[e1];rfl);have m:lG X' w w Y (some b) (.slice (some ⟨q,0,none⟩) l.toNat cap) (some q):=⟨World.grownBy.refl _ _,λc hc=>by injection hc with hc;subst hc;exact⟨b,rfl,a3⟩,λc hc=>.inl (by injection hc with hc;rw[<- hc])⟩;have a5:(es.take l.toNat).length=l.toNat:=by rw[H6];omega
   have b4:(es.take l.toNat).flatten=es.flatten.take (l.toNat*k):=pU e8;have d0:=R3 e8;have b3:l.toNat*k<=es.length*k:=W7 _ hl
   have c0:=hs.new (d:=b) (k:=.row a4 k (es.take l.toNat)) (cs:=[]) m rfl λhI _=>by
    refine⟨us.take (l.toNat*k),e7,λy hy=>e8 y (Q4 hy),by rw[a5];omega,?_,by rw[b4,H6,H6,a2],λu hu=>a6 u (Q4 hu),λi u y hu hy=>?_⟩
    ·rw[a5];refine⟨by rw[H6];omega,.inr ⟨q,cap,cur,by simp[setY],F7 _,e2,by omega,e4,e5,?_⟩⟩;rw[<- e6,jV,fV b3]
    ·rw[b4,R5]at hy;rw[R5]at hu;split at hu
     ·rename_i c7;rw[if_pos c7]at hy;exact hI _ _ (a7 i u y hu hy)
     ·cases hu
   have b9:app X' ((.knd b,.kd .dead)::(L4 X b (.row a4 k (es.take l.toNat))++[(.tmp d,.av (.osl b (X.gn b+1)))]))=app (N3 X' (some b) b (.row a4 k (es.take l.toNat)) []) [(.tmp d,.av (.osl b (X'.gn b+1)))]:=by
    rw[N8,K3];unfold N3 L4;rw[hg'];rfl
   show SatR B (app X' ((.knd b,.kd .dead)::(L4 X b (.row a4 k (es.take l.toNat))++[(.tmp d,.av (.osl b (X.gn b+1)))]))) _ _ _;rw[b9];exact qJ c0 rfl (U8 hd a9)
  ·exact h.elim
 ·exact h.elim
def aSliceQ_ok{t:TypeId}{x lo:Operand}{b g:Nat}(hop:o.op=.slice t x (some lo) none none)(hx:evA X x=.osl b g)(hd:I5 B.n o=true)(h:aSliceQ P o X K t x b g lo):∃fx,K fx/\Eff P B o fx.rd X fx.wr:=by
 unfold aSliceQ at h;split at h
 ·rename_i et kk l a3 k es d c7 c0 b2 a4;have hu:=Y4 c7;split at h
  ·rename_i k' c6;obtain⟨a5,h'⟩:=h.ok;clear h;have a5:=M3 a5;subst a5;obtain⟨⟨hg,h0,hl⟩,h⟩:=h'.out;have h:=h.out;refine⟨_,h,λX' hag a w ⟨Y,hs⟩ K' Q hK=>?_⟩;obtain⟨b7,hg',b6,d8⟩:=U9 hag;have h1:=D6 hs x;rw[D3 (E3 b7),hx]at h1;have a9:Sym.asInt (evA X' lo)=some (kk,l):=by rw[D3 (G9 b7)];exact c0
   have ho:=hs.obs b;rw[b6.trans b2]at ho;have hQ:aU w (Imm B X' Y w) (Y b) a3 k es:=ho;obtain⟨us,k0,hk,d6,a8,c8,d3,hv⟩:=hQ
   have b5:a.eval x=Y b:=by
    generalize a.eval x=v at h1;cases h1 with
    |osl _ _ _ _ _ hh=>exact hh (hg'.trans hg)
   have hb:=λc=>sG (P:=P) (w:=w) hs a9 (m:=es.length) (c:=c) h0 (by omega);have hz:=aD c6 w
   have key:∃v',(execOp a.eval o).run P w=.ok (.value v') w/\(∀q,D9 v'=some q->D9 (Y b)=some q)/\v'.oneCell'=true/\∀S',(∀u x,RepI w (Imm B X' Y w) u x->RepI w S' u x)->aU w S' v' a3 k (es.drop l.toNat):=by
    have b3:(es.drop l.toNat).flatten=es.flatten.drop (l.toNat*k):=wO hk;have d5:l.toNat*k<=es.length*k:=W7 _ hl;have d1:=R3 hk
    have mk:∀v',((v'=.slice none 0 0/\es.drop l.toNat=[])\/∃(q off a2:Nat) (cur:Array Value),v'=.slice (some ⟨q,off,none⟩) (es.drop l.toNat).length a2/\w.heap[q]?=some (.cells cur a3 (0,0))/\(es.drop l.toNat).length<=a2/\a2<=maxLen/\off+a2*k<=cur.size/\∀(j:Nat) u,(us.drop (l.toNat*k))[j]?=some u->cur[off+j]?=some u)->∀S',(∀u x,RepI w (Imm B X' Y w) u x->RepI w S' u x)->aU w S' v' a3 k (es.drop l.toNat):=λv' d4 S' hI=>by
     refine⟨us.drop (l.toNat*k),k0,λx hx=>hk x (U3 hx),by rw[M0];omega,by rw[b3,M0,M0,a8],λu hu=>c8 u (U3 hu),λi u x hu hx=>?_,d4⟩;rw[b3,U2]at hx;rw[U2]at hu;exact hI _ _ (d3 _ u x hu hx)
    rcases hv with⟨e1,e2⟩|⟨q,off,a2,cur,e1,e2,e3,e4,e5,e6⟩
    ·have b8:l.toNat=0:=by rw[e2]at hl;simpa using hl
     refine⟨.slice none 0 0,?_,(λq (hq:none=some q)=>nomatch hq),rfl,mk _ (.inl ⟨rfl,by rw[e2];simp⟩)⟩;have d0:es.length=0:=by rw[e2];rfl
     rw[d0]at hb;simp only[execOp,hop,b5,e1,Instr.sliceAt,Instr.slice,Sem.run_bind,Sem.run_pure,Result.andThen_ok,run_underlying hu,lY,K0,hz];unfold Instr.sliceBounds;simp[hb,hz,b8]
    ·refine⟨.slice (if a2=l.toNat then some ⟨q,off,none⟩ else some ⟨q,off+l.toNat*k,none⟩) (es.length-l.toNat) (a2-l.toNat),?_,λp hp=>?_,by rfl,mk _ (.inr ?_)⟩
     ·simp only[execOp,hop,b5,e1,Instr.sliceAt,Instr.slice,Sem.run_bind,Sem.run_pure,Result.andThen_ok,run_underlying hu,lY,K0,hz];unfold Instr.sliceBounds;simp[hb,addr_add,hz]
     ·rw[e1];split at hp<;>exact hp
     ·by_cases hc:a2=l.toNat
      ·rw[if_pos hc];refine⟨q,off,a2-l.toNat,cur,by rw[M0],e2,by rw[M0];omega,by omega,by rw[hc,Y5,lB];omega,λj u hu=>?_⟩
       have:(us.drop (l.toNat*k)).length=0:=by
        have:es.length=l.toNat:=by omega
        rw[M0,a8,d1,this];omega
       rw[S7 this]at hu;cases hu
      ·rw[if_neg hc];have d7:l.toNat*k+(a2-l.toNat)*k=a2*k:=by rw[<- Nat.add_mul];congr 1;omega
       refine⟨q,off+l.toNat*k,a2-l.toNat,cur,by rw[M0],e2,by rw[M0];omega,by omega,by omega,λj u hu=>?_⟩;rw[U2]at hu;rw[U1];exact e6 _ u hu
   obtain⟨v',a6,a7,b4,d2⟩:=key;unfold Oper.wp;rw[a6,Oper.upon_value,a4];refine hK _ _ ⟨setY Y b v',?_⟩;have b9:=hs.qued (w':=w) (used:=some b) (row:=D9 (Y b)) (d:=b) (v':=v') (e:=a3) (k:=k) (es:=es.drop l.toNat) (λq hq=>⟨b,rfl,.root (live_que (b6.trans b2)) hq⟩) (World.grownBy.refl _ _) (λq hq=>.inl (a7 q hq)) d2
   have c9:app X' ((.knd b,.kd .dead)::(L4 X b (.que a3 k (es.drop l.toNat))++[(.tmp d,.av (.osl b (X.gn b+1)))]))=app (N3 X' (some b) b (.que a3 k (es.drop l.toNat)) []) [(.tmp d,.av (.osl b (X'.gn b+1)))]:=by
    rw[N8,K3];unfold N3 L4;rw[hg'];rfl
   show SatR B (app X' ((.knd b,.kd .dead)::(L4 X b (.que a3 k (es.drop l.toNat))++[(.tmp d,.av (.osl b (X.gn b+1)))]))) _ _ _;rw[c9];exact qJ b9 b4 (U8 hd a4)
  ·exact h.elim
 ·exact h.elim
def aClear_ok{c:Call}{t:TypeId}{ts:List TypeId}{x:Operand}(hop:o.op=.call c)(hc:c.callee=.builtin .clear)(ha:c.args.toList=[x])(ht:c.argTypes.toList=t::ts)(hd:I5 B.n o=true)(h:aClear P o X K t x):∃fx,K fx/\Eff P B o fx.rd X fx.wr:=by
 have c0:c.argTypes[0]?=some t:=by rw[<- P9,ht];rfl
 have c9:∀a:Act,(c.args.map a.eval)[0]?=some (a.eval x):=λa=>by rw[<- P9,fX,ha];rfl
 unfold aClear at h;split at h
 ·rename_i et b g k m d2 hx;have hu:=Y4 d2;split at h
  ·rename_i b3 k' es m' z d3 d9 hz;obtain⟨b5,h'⟩:=h.ok;clear h;simp only[M4]at b5;obtain⟨⟨⟨⟨c1,c2⟩,c3⟩,c4⟩,c5⟩:=b5;have c1:=M3 c1;have c2:=M3 c2;have c4:=M3 c4;subst c1 c2;have c3:=aN c3;obtain⟨⟨hg,f6⟩,h⟩:=h'.out;have h:=h.out;refine⟨_,h,λX' hag a w ⟨Y,hs⟩ K' Q hK=>?_⟩;obtain⟨d6,hg',d8,_⟩:=U9 hag;have h1:=D6 hs x;rw[D3 d6,hx]at h1;have a4:=d8.trans d3;by_cases hn:k=es.length
   ·-- nothing to clear
    have e0:es.take k++List.replicate (es.length-k) (z.map λv=>nz1 (.val v))=es:=by rw[hn];simp
    obtain⟨A,cp,hY⟩:=EP hs a4
    have run:(execOp a.eval o).run P w=.ok (.value (.tuple #[])) w:=by
     generalize hv:a.eval x=v at h1;cases h1 with
     |osv _ _ _ _ _ a6 hgg hh =>
      obtain⟨q,n,c',f1,f2,f3⟩:=hh (hg'.trans hg);rw[hY]at f1;injection f1 with _ f1 _
      subst f1;have:es.length-k=0:=by omega
      rw[f3,this]at hv;generalize (if c'=k then some (⟨q,0,none⟩:Addr) else some ⟨q,k*k',none⟩)=AA at hv;simp only[execOp,hop,resolve,hc,invoke,builtin,Builtin.clear_,c0,c9,Sem.run_bind,Sem.run_pure,Result.andThen_ok,run_underlying hu,hv];cases AA<;>simp
    unfold Oper.wp;rw[run,Oper.upon_value];refine hK _ _ ⟨Y,?_⟩;rw[e0]
    have b6:SatR B (upd X' (.knd b) (.kd (.row b3 k' es))) a w Y:=(hs.step (λ_=>False) (λt=>bR X' b t _) (λo _=>⟨by
      rw[U6]
      by_cases e:o=b
      ·rw[if_pos e,e,a4]
      ·rw[if_neg e],X8 X' b o _,λi=>dA X' b o i _,rfl,rfl,rfl⟩) (λ_ h=>h.elim) (λo=>by rw[dD];exact hs.igs o) (Belo.refl _ _ _) (λ_ _ h=>h.elim) (λ_ _ _ h=>h.elim) (λ_ _ _ h=>h.elim)).1
    rw[N8];exact b6.put (λt e=>cZ hd t e) (.im _ _ (.any _))
   ·obtain⟨q,b7,cur,us,e1,e2,e3,e4,e5,e6,e7,e8,e9,a2,a7,a8⟩:=rV hs a4 (by omega)
    obtain⟨zv,d4,c6⟩:∃zv:Value,(∀w,(zeroValue et).run P w=.ok zv w)/\zv.cells.toList=z:=by
     unfold zeroOf at hz;split at hz
     ·rename_i i hi;cases hz0:i.zero with
      |none=>rw[hz0]at hz;cases hz
      |some zz =>
       rw[hz0]at hz;simp only[K0,C2]at hz;exact⟨zz,λw=>by simp[zeroValue,typeInfo,hi,hz0],hz⟩
     ·cases hz
    have f7:zv.cells.size=k':=by rw[<- c4,<- c6];simp
    have c7:(Builtin.zeroCells zv.cells (es.length-k)).toList=(List.replicate (es.length-k) z).flatten:=by
     have:=made_take zv.cells (es.length-k) (es.length-k) (G4 _) (by omega);rw[aP (by simp[madeCells])]at this;rw[<- c6];exact this
    have a3:((List.replicate (es.length-k) z).flatten).length=(es.length-k)*k':=by
     rw[R3 (k:=k') (λx hx=>by rw[eT hx];exact c4),cX]
    have a9:∀u∈(List.replicate (es.length-k) z).flatten,u.oneCell'=true:=λu hu=>by
     obtain⟨y,hy,hu⟩:=mA.1 hu;rw[eT hy]at hu;exact P8.1 c5 u hu
    have b8:k*k'+(es.length-k)*k'=es.length*k':=by rw[<- Nat.add_mul];congr 1;omega
    have d5:es.length*k'<=b7*k':=W7 _ e3;have a5:=run_storeCells_at (P:=P) q (k*k') b3 ((List.replicate (es.length-k) z).flatten) 0 cur w e2 (by omega) a9;simp only[X5]at a5
    have run:(execOp a.eval o).run P w=.ok (.value (.tuple #[])) (w.setRow q (splice cur.toList (k*k') ((List.replicate (es.length-k) z).flatten)).toArray):=by
     generalize hv:a.eval x=v at h1;cases h1 with
     |osv _ _ _ _ _ a6 hgg hh =>
      obtain⟨q',n',c',f1,f2,f3⟩:=hh (hg'.trans hg);rw[e1]at f1;injection f1 with f1 f4 f5
      injection f1 with f1
      injection f1 with f1
      subst f1 f4 f5;obtain⟨p,hp⟩:∃p,es.length-k=p+1:=⟨es.length-k-1,by omega⟩;rw[f3,if_neg (by omega)]at hv;rw[hp]at hv a5 c7 ⊢;simp only[execOp,hop,resolve,hc,invoke,builtin,Builtin.clear_,c0,c9,Sem.run_bind,Sem.run_pure,Result.andThen_ok,run_underlying hu,hv,d4,c7,a5];rfl
    unfold Oper.wp;rw[run,Oper.upon_value];refine hK _ _ ⟨Y,?_⟩;have d0:us.length=es.length*k':=by rw[a2,R3 e8]
    have b9:(es.take k).length=k:=by rw[H6];omega
    have b4:(es.take k++List.replicate (es.length-k) (z.map λv=>nz1 (.val v))).flatten=es.flatten.take (k*k')++(List.replicate (es.length-k) (z.map λv=>nz1 (.val v))).flatten:=by
     rw[iJ,pU e8]
    have d7:((List.replicate (es.length-k) (z.map λv=>nz1 (.val v))).flatten).length=(es.length-k)*k':=by
     rw[R3 (k:=k') (λx hx=>by rw[eT hx];simpa using c4),cX]
    have b6:=hs.turn (w':=w.setRow q (splice cur.toList (k*k') ((List.replicate (es.length-k) z).flatten)).toArray) (k':=.row b3 k' (es.take k++List.replicate (es.length-k) (z.map λv=>nz1 (.val v)))) (lO a4) (q:=q) (by rw[e1];rfl)
     ⟨rfl,rfl,rfl,by simp,λk _ hk=>setRow_other w q k _ (λe=>hk (by rw[e]))⟩ (λc hc=>by unfold Owns;rw[a4];exact hc) λhI=>by
      refine⟨us.take (k*k')++(List.replicate (es.length-k) z).flatten,e7,λy hy=>?_,by rw[D4,b9,cX];omega,?_,?_,λu hu=>?_,λn u y hu hy=>?_⟩
      ·rcases I8.1 hy with hy|hy
       ·exact e8 y (Q4 hy)
       ·rw[eT hy];simpa using c4
      ·have d1:(es.take k++List.replicate (es.length-k) (z.map λv=>nz1 (.val v))).length=es.length:=by rw[D4,b9,cX];omega
       rw[d1];refine⟨by rw[D4,H6,a3,d0];omega,.inr ⟨q,b7,_,e1,F7 _,setRow_heap w q cur _ b3 _ e2,e3,e4,?_,?_⟩⟩
       ·rw[fZ,fO _ _ _ (by rw[a3];simp;omega)];simpa using e5
       ·rw[vH,xJ _ _ _ _ (by rw[a3];omega) (by simp;omega),e6];unfold splice;rw[a3,b8,rC (by omega),V0]
      ·rw[b4,D4,D4,H6,H6,a3,d7,a2]
      ·rcases I8.1 hu with hu|hu
       ·exact a7 u (Q4 hu)
       ·exact a9 u hu
      ·rw[b4,P2,H6,<- a2,fV (by omega)]at hy;rw[P2,H6,fV (by omega)]at hu;split at hu
       ·rename_i b2;rw[if_pos b2,R5,if_pos b2]at hy;rw[R5,if_pos b2]at hu;exact hI _ _ (a8 n u y hu hy)
       ·rename_i b2;rw[if_neg b2,nV]at hy;rw[nV]at hu;split at hu
        ·rename_i c8;rw[B6,if_pos c8,I9,hu]at hy;simp only[K0,C2]at hy;rw[<- hy];exact kB (.val _)
        ·cases hu
    rw[N8];exact b6.put (λt e=>cZ hd t e) (.im _ _ (.any _))
  ·exact h.elim
 ·exact h.elim
def tE(w:World)(dT sT ty elem:TypeId)(g o dLen dCap:Nat)(a:Addr)(sLen sCap:Nat)(cur:Array Value)(t:TypeId)(cs:List Value)(k:Nat)
  (hu:P.underlying dT=some (.slice elem)) (hs:(P.info? elem).map (·.size)=some k)
  (hg:w.heap[g]?=some (.cells cur t (0,0))) (hn:cs.length=Nat.min sLen dLen*k)
  (hsrc:∀j v,cs[j]?=some v->w.cell? (a.add j)=some v) (hfit:o+cs.length<=cur.size) (h1:∀v∈cs,v.oneCell'=true) :
  (Builtin.copy_ #[dT,sT] ty #[.slice (some ⟨g,o,none⟩) dLen dCap,.slice (some a) sLen sCap]).run P w =
   .ok (goInt (Nat.min sLen dLen)) (w.setRow g (cur.toList.take o++cs++cur.toList.drop (o+cs.length)).toArray):=by
 have hl:=run_loadCells_list (P:=P) w a cs hsrc;have a2:=run_storeCells_at P g o t cs 0 cur w hg (by simpa using hfit) h1;cases hq:P.info? elem with
 |none=>simp[hq]at hs
 |some i =>
  have hi:i.size=k:=by simpa[hq]using hs
  rw[hn]at hl;simp[Builtin.copy_,run_underlying hu,Builtin.lenOf,Builtin.firstCells,sizeOf,typeInfo,hq,hi,hl,a2]
def aCopy_ok{c:Call}{t t':TypeId}{x y:Operand}(hop:o.op=.call c)(hc:c.callee=.builtin .copy)(ha:c.args.toList=[x,y])(ht:c.argTypes.toList=[t,t'])(hd:I5 B.n o=true)(h:aCopy P o X K t x y):∃fx,K fx/\Eff P B o fx.rd X fx.wr:=by
 have b3:c.args=#[x,y]:=by rw[<- gA (xs:=c.args),ha]
 have d3:c.argTypes=#[t,t']:=by rw[<- gA (xs:=c.argTypes),ht]
 unfold aCopy at h;split at h
 ·rename_i et b g d0 hx;have hu:=Y4 d0;split at h
  ·rename_i a9 k es m ss d1 hm hy;obtain⟨b9,h'⟩:=h.ok;clear h;have c1:=M3 b9;subst c1;obtain⟨⟨hg,hn,c9,a4⟩,h⟩:=h'.out;have h:=h.out;refine⟨_,h,λX' hag a w ⟨Y,hs⟩ K' Q hK=>?_⟩;obtain⟨c6,hg',d4,_⟩:=U9 hag;have h1:=D6 hs x;have h2:=D6 hs y;rw[D3 (E3 c6),hx]at h1;rw[D3 (G9 c6)]at h2;have a3:=d4.trans d1;obtain⟨q,cap,cur,us,e1,e2,e3,e4,e5,e6,e7,e8,e9,a2,a6,a7⟩:=rV hs a3 hn
   have hv:a.eval x=.slice (some ⟨q,0,none⟩) es.length cap:=by
    generalize a.eval x=v at h1;cases h1 with
    |osl _ _ _ a8 hgg hh=>rw[hh (hg'.trans hg),e1]
   obtain⟨sb,so,sc,su,f1,f2,f3,f4,f5⟩:∃(sb so sc:Nat) (su:List Value),a.eval y=.slice (some ⟨sb,so,none⟩) ss.length sc/\su.length=ss.flatten.length/\(∀u∈su,u.oneCell'=true)/\(∀(i:Nat) u,su[i]?=some u->w.cell? ⟨sb,so+i,none⟩=some u)/\∀(i:Nat) u z,su[i]?=some u->ss.flatten[i]?=some z->RepI w (Imm B X' Y w) u z:=by
    cases hyy:evA X y with
    |im z =>
     rw[hyy]at h2 hy;have hy:nz z=.sl ss:=hy;have h2:RepI w (Imm B X' Y w) (a.eval y) (.sl ss):=hy ▸ nz_rep h2.im_inv;generalize a.eval y=v at h2;cases h2 with
     |emp A c =>
      cases c9
     |sl b q c k' n' _ us hn hkk hc hs' hS hl hone hu' hr =>
      subst hn;exact⟨_,_,_,us,rfl,hl,hone,hu',hr⟩
    |_=>rw[hyy]at hy;cases hy
   have a5:su.length=ss.length*k:=by rw[f2,R3 a4]
   have c8:us.length=es.length*k:=by rw[a2,R3 e8]
   have d5:Nat.min ss.length es.length=min ss.length es.length:=rfl
   have c0:(su.take (es.length*k)).length=Nat.min ss.length es.length*k:=by
    rw[H6,a5,d5,Nat.min_comm (es.length*k)];rcases Nat.le_total ss.length es.length with hh|hh
    ·rw[fV hh,fV (W7 _ hh)]
    ·rw[DI hh,DI (W7 _ hh)]
   have d7:Nat.min ss.length es.length*k<=es.length*k:=W7 _ (Nat.min_le_right _ _);have d8:es.length*k<=cap*k:=W7 _ e3
   have b5:=tE (P:=P) w t t' o.type et q 0 es.length cap ⟨sb,so,none⟩ ss.length sc cur a9 (su.take (es.length*k)) k hu hm e2 c0 (λj v hj=>by
    rw[R5]at hj
    split at hj
    ·rw[Addr.add_lit];exact f4 j v hj
    ·cases hj) (by rw[c0];omega) (λv hv=>f3 v (Q4 hv))
   have run:(execOp a.eval o).run P w=.ok (.value (goInt (Nat.min ss.length es.length))) (w.setRow q (cur.toList.take 0++su.take (es.length*k)++cur.toList.drop (0+(su.take (es.length*k)).length)).toArray):=by
    simp only[execOp,hop,resolve,hc,invoke,builtin,Sem.run_bind,Sem.run_pure,Result.andThen_ok,b3,d3,uS,J7,eS,hv,f1,b5]
   unfold Oper.wp;rw[run,Oper.upon_value];refine hK _ _ ⟨Y,?_⟩;rw[CX,aJ,F9];have b7:(su.take (es.length*k)).length<=es.length*k:=by rw[H6];exact Nat.min_le_left _ _
   have b4:(su.take (es.length*k)).length=min (es.length*k) (ss.length*k):=by rw[H6,a5]
   have b8:(ss.take es.length++es.drop ss.length).flatten=(ss.flatten.take (es.length*k))++es.flatten.drop (ss.length*k):=by
    rw[iJ,pU a4,wO e8]
   have c7:=hs.turn (w':=w.setRow q (su.take (es.length*k)++cur.toList.drop (su.take (es.length*k)).length).toArray) (k':=.row a9 k (ss.take es.length++es.drop ss.length)) (lO a3) (q:=q) (by rw[e1];rfl)
    ⟨rfl,rfl,rfl,by simp,λk _ hk=>setRow_other w q k _ (λe=>hk (by rw[e]))⟩ (λc hc=>by unfold Owns;rw[a3];exact hc) λhI=>by
     have b6:(ss.take es.length++es.drop ss.length).length=es.length:=by rw[D4,H6,M0];omega
     refine⟨su.take (es.length*k)++us.drop (ss.length*k),e7,λy hy=>?_,by rw[b6];exact e9,?_,?_,λu hu=>?_,λn u y hu hy=>?_⟩
     ·rcases I8.1 hy with hy|hy
      ·exact a4 y (Q4 hy)
      ·exact e8 y (U3 hy)
     ·rw[b6];refine⟨by rw[D4,H6,M0,a5,c8];omega,.inr ⟨q,cap,_,e1,F7 _,setRow_heap w q cur _ a9 _ e2,e3,e4,?_,?_⟩⟩
      ·have d6:cur.toList.length=cap*k:=by rw[iI,e5]
       rw[fZ,D4,M0,d6];omega
      ·rw[vH,uT,aP b7,List.take_drop,show(su.take (es.length*k)).length+(es.length*k-(su.take (es.length*k)).length)=es.length*k by omega,e6];congr 1;rcases Nat.le_total (ss.length*k) (es.length*k) with hh|hh
       ·rw[b4,DI hh]
       ·rw[b4,fV hh,rC (by omega),rC (by omega)]
     ·rw[b8,D4,D4,H6,H6,M0,M0,f2,a2]
     ·rcases I8.1 hu with hu|hu
      ·exact f3 u (Q4 hu)
      ·exact a6 u (U3 hu)
     ·rw[b8,P2,H6,<- f2]at hy;rw[P2,H6]at hu;split at hu
      ·rename_i b2;rw[if_pos b2,R5]at hy;rw[R5]at hu;split at hu
       ·rename_i d2;rw[if_pos d2]at hy;exact hI _ _ (f5 n u y hu hy)
       ·cases hu
      ·rename_i b2;rw[if_neg b2,U2]at hy;rw[U2]at hu;exact hI _ _ (a7 _ u y hu hy)
   rw[N8];exact c7.put (λt e=>cZ hd t e) (.im _ _ (.any _))
  ·exact h.elim
 ·exact h.elim
end
end
section
variable {t:TypeId}{w:World}{a:Act}{e:TypeId}{v:Value}{c:Call}
section
variable {P:Program}{B:Base}{o:Oper}{X:St}{K:Fx->Prop}
def wM{inn:List Value}(h:(fpv v inn).Nodup){i q:Nat}{u:Value}(hu:inn[i]?=some u)(hq:D9 u=some q):D9 v≠some q/\∀j u',j≠i->inn[j]?=some u'->D9 u'≠some q:=by
 unfold fpv List.Nodup at h;rw[KB]at h;rw[cU]at h;obtain⟨h1,h2⟩:=h;obtain⟨hi,rfl⟩:=E4.1 hu;refine⟨λe=>h1 _ (J3 hi) q e q hq rfl,λj u' hj a3 e=>?_⟩;obtain⟨a2,rfl⟩:=E4.1 a3;have h3:=V1.1 h2;rcases J0 j i with a4|a5
 ·exact h3 j i a2 hi a4 q e q hq rfl
 ·exact h3 i j hi a2 (by omega) q hq q e rfl
def jG{Y:Ly}(hs:SatR B X a w Y){b k:Nat}{e e':TypeId}{gs:List (List IV)}(hk:X.kd b=.grid e e' k gs none) :
  ∃us:List Value,(fpv (Y b) (Y.inn b)).Nodup/\(Y.inn b).length=gs.length/\gs.length<=17592186044416/\w.ownsRow 0 e 1 (Y b) gs.length us/\(∀u∈us,u.oneCell'=true)/\us.length=gs.length /\
   ∀(i:Nat) u,(Y.inn b)[i]?=some u->us[i]?=some u/\∃es,gs[i]?=some [.sl es]/\V7 w (Imm B X Y w) u e' k es:=by
 have ho:=hs.obs b;rw[hk]at ho;obtain⟨h0,h1,us,h2,h3,h4,h5⟩:=ho;refine⟨us,h0,h1,h2,h3,h4,by rw[h3.1,fT],λi u hu=>?_⟩;rcases h5 i u hu with⟨h6,_⟩|h6
 ·cases h6
 ·exact h6
def EI{Y:Ly}(hs:SatR B X a w Y){b k:Nat}{e e':TypeId}{gs:List (List IV)}{hole:Option Nat}(hk:X.kd b=.grid e e' k gs hole) :
  ∃us:List Value,(fpv (Y b) (Y.inn b)).Nodup/\(Y.inn b).length=gs.length/\gs.length<=17592186044416/\w.ownsRow 0 e 1 (Y b) gs.length us/\(∀u∈us,u.oneCell'=true)/\us.length=gs.length /\
   ∀(i:Nat) u,(Y.inn b)[i]?=some u->(hole=some i/\u=undef)\/(us[i]?=some u/\∃es,gs[i]?=some [.sl es]/\V7 w (Imm B X Y w) u e' k es):=by
 have ho:=hs.obs b;rw[hk]at ho;obtain⟨h0,h1,us,h2,h3,h4,h5⟩:=ho;exact⟨us,h0,h1,h2,h3,h4,by rw[h3.1,fT],h5⟩
def inn_at{Y:Ly}{b n i:Nat}(h:(Y.inn b).length=n)(hi:i<n):∃u,(Y.inn b)[i]?=some u:=⟨_,J8 (by omega)⟩
def V7.form{S:Nat->Prop}{k:Nat}{es:List (List IV)}(h:V7 w S v e k es)(hn:0<es.length) :
  ∃(q cap:Nat) (cur:Array Value) (us:List Value),v=.slice (some ⟨q,0,none⟩) es.length cap/\w.heap[q]?=some (.cells cur e (0,0))/\es.length<=cap/\cap<=maxLen/\cur.size=cap*k/\cur.toList.take (es.length*k)=us/\0<k/\(∀x∈es,x.length=k)/\es.length<=17592186044416/\us.length=es.flatten.length /\
   (∀u∈us,u.oneCell'=true)/\(∀(i:Nat) u x,us[i]?=some u->es.flatten[i]?=some x->RepI w S u x)/\w.ownsRow 0 e k v es.length us:=by
 obtain⟨us,h1,h2,h3,h4,h5,h6,h7⟩:=h;rcases h4.2 with⟨_,h0⟩|⟨q,cap,cur,e1,_,e3,e4,e5,e6,e7⟩
 ·omega
 ·exact⟨q,cap,cur,us,e1,e3,e4,e5,e6,e7,h1,h2,h3,h5,h6,h7,h4⟩
def wH{k n q cap:Nat}{us:List Value}(h:w.ownsRow 0 e k v n us)(hv:v=.slice (some ⟨q,0,none⟩) n cap){p:Nat}{u:Value}(hu:us[p]?=some u):w.cell? ⟨q,p,none⟩=some u:=by
 have:=h.cells (g:=q) (by rw[hv];rfl) p u hu
 rwa [addr_add,F9]at this
def aIndexG_ok{x i:Operand}{b g:Nat}(hop:o.op=.indexAddr t x i)(hx:evA X x=.osl b g)(hd:I5 B.n o=true)(h:aIndexG P o X K t x i b g):∃fx,K fx/\Eff P B o fx.rd X fx.wr:=by
 unfold aIndexG at h;split at h
 ·rename_i kk n et e e' k' gs hole hi a9 b2;have hu:=Y4 a9;split at h
  ·rename_i m hm;obtain⟨a4,h'⟩:=h.ok;clear h;have a4:=M3 a4;subst a4;obtain⟨⟨h0,hg,b3⟩,h⟩:=h'.out;refine⟨_,h,Eff.pure hd λX' hag a w Y hs=>?_⟩;obtain⟨a6,hg',a7,_⟩:=U9 hag;have h1:=D6 hs x;have h2:=D6 hs i;rw[D3 (E3 a6),hx]at h1;rw[D3 (G9 a6)]at h2;have hn:=T8 hi h2;obtain⟨us,_,_,_,a5,_⟩:=EI hs (a7.trans b2);obtain⟨q,a8,a3⟩:=World.ownsRow.form a5 (by omega);generalize hv:a.eval x=v at h1;cases h1 with
   |osl _ _ _ a2 hgg hh =>
    rw[hh (hg'.trans hg),a3.1]at hv;have hz:=aD hm w;have h3:0<=n/\n<gs.length:=⟨h0,by omega⟩;refine⟨.pointer (some ⟨q,n.toNat*1,none⟩),?_,.elt _ b g 1 n.toNat 0 rfl hgg λ_=>⟨q,0,_,a8,a3.1,by rw[X5,F9]⟩⟩;simp only[execOp,hop,hv,hn,Instr.indexAt,asIntOf,Sem.run_bind,Sem.run_pure,Result.andThen_ok,run_underlying hu,if_pos h3,hz,addr_add,F9]
  ·exact h.elim
 ·exact h.elim
def wC{X':St}{l:List Loc}{b:Nat}(h:∀x∈l++[.ign b,.knd b],X' x=X x):(∀x∈l,X' x=X x)/\X'.ig b=X.ig b/\X'.kd b=X.kd b :=
 ⟨E3 h,fD (G9 h _ (by simp)),mL (G9 h _ (by simp))⟩
def aIndexS_ok{x i:Operand}{b g j:Nat}(hop:o.op=.indexAddr t x i)(hx:evA X x=.sub b g j)(hd:I5 B.n o=true)(h:aIndexS P o X K t x i b g j):∃fx,K fx/\Eff P B o fx.rd X fx.wr:=by
 unfold aIndexS at h;split at h
 ·rename_i kk n et e e' k gs hi b2 b3;have hu:=Y4 b2;split at h
  ·rename_i m hm;obtain⟨a5,h'⟩:=h.ok;clear h;have a5:=M3 a5;subst a5;obtain⟨es,⟨h0,hg,b5,b9⟩,h⟩:=h';refine⟨_,h,Eff.pure hd λX' hag a w Y hs=>?_⟩;obtain⟨a7,hg',a9⟩:=wC hag;have h1:=D6 hs x;have h2:=D6 hs i;rw[D3 (E3 a7),hx]at h1;rw[D3 (G9 a7)]at h2;have hn:=T8 hi h2;obtain⟨us,_,_,_,_,_,_,b4⟩:=jG hs (a9.trans b3);generalize hv:a.eval x=v at h1;cases h1 with
   |sub _ _ _ _ a2 hgg hh =>
    have b6:Y.ig b=g:=by rw[hs.igs,hg',hg]
    have a4:=hh b6;obtain⟨_,b7,a3,a6⟩:=b4 j v a4;rw[b5]at a3;injection a3 with a3
    injection a3 with a3
    injection a3 with a3
    subst a3;obtain⟨q,a8,cur,b8,e1,_⟩:=a6.form (by omega);have hz:=aD hm w;have h3:0<=n/\n<es.length:=⟨h0,by omega⟩;refine⟨.pointer (some ⟨q,n.toNat*m,none⟩),?_,.elt2 _ b g j m n.toNat 0 rfl hgg λ_=>⟨q,_,a8,by rw[a4,e1],by rw[X5]⟩⟩;rw[e1]at hv;simp only[execOp,hop,hv,hn,Instr.indexAt,asIntOf,Sem.run_bind,Sem.run_pure,Result.andThen_ok,run_underlying hu,if_pos h3,hz,addr_add,F9]
  ·exact h.elim
 ·exact h.elim
def aLoadG_ok{p:Operand}{b g k i j:Nat}(hop:o.op=.load t p)(hp:evA X p=.elt b g k i j)(hd:I5 B.n o=true)(h:aLoadG P o X K t p b g k i j):∃fx,K fx/\Eff P B o fx.rd X fx.wr:=by
 have run:∀(a:Act) w v,(Instr.loadAt t (a.eval p)).run P w=.ok v w->(execOp a.eval o).run P w=.ok (.value v) w:=λa w v hv=>by simp[execOp,hop,hv]
 unfold aLoadG at h;split at h
 ·rename_i e e' k' gs a6 b6;obtain⟨a4,h'⟩:=h.ok;clear h;rw[M4]at a4;have b9:=M3 a4.1;have b2:=M3 a4.2;subst b9 b2;obtain⟨⟨hg,b8⟩,h⟩:=h'.out;refine⟨_,h,Eff.pure hd λX' hag a w Y hs=>?_⟩;have a8:∀x∈opd p++(.gen b::.knd b::[.ign b]),X' x=X x:=λx hx=>hag x (by simpa using hx);obtain⟨c6,hg',b5,b4⟩:=U9 a8;have c0:X'.ig b=X.ig b:=fD (b4 (.ign b) (by simp));have h1:=D6 hs p;rw[D3 c6,hp]at h1;obtain⟨us,_,b3,_,a5,a9,_,b7⟩:=jG hs (b5.trans b6);obtain⟨u,hu⟩:=inn_at b3 b8;obtain⟨a7,_⟩:=b7 i u hu;generalize hv:a.eval p=v at h1;cases h1 with
  |elt _ _ _ _ _ _ a2 hgg hh =>
   obtain⟨q,z,n,c,e1,e2⟩:=hh (hg'.trans hg);obtain⟨q',c7,a3⟩:=World.ownsRow.form a5 (by omega);rw[a3.1]at e1;injection e1 with e1 _ _
   injection e1 with e1
   injection e1 with e1 e3
   subst e1 e3;rw[e2,fT,X5,F9]at hv;refine⟨u,run a w u (by rw[hv];exact pG a6 (wH a5 a3.1 a7)),.sub _ b _ i (a9 u (H0 a7)) ?_ λ_=>hu⟩;rw[hs.igs,c0];exact G4 _
 ·exact h.elim
def aLoadS_ok{p:Operand}{b g i k j c:Nat}(hop:o.op=.load t p)(hp:evA X p=.elt2 b g i k j c)(hd:I5 B.n o=true)(h:aLoadS P o X K t p b g i k j c):∃fx,K fx/\Eff P B o fx.rd X fx.wr:=by
 have run:∀(a:Act) w v,(Instr.loadAt t (a.eval p)).run P w=.ok v w->(execOp a.eval o).run P w=.ok (.value v) w:=λa w v hv=>by simp[execOp,hop,hv]
 unfold aLoadS at h;split at h
 ·rename_i e e' k' gs a5 c6;obtain⟨a8,h'⟩:=h.ok;clear h;have b6:=M3 a8;subst b6;obtain⟨es,el,x,⟨hg,b2,he,hx⟩,h⟩:=h';refine⟨_,h,Eff.pure hd λX' hag a w Y hs=>?_⟩;obtain⟨c7,hg',b5⟩:=wC hag;have h1:=D6 hs p;rw[D3 c7,hp]at h1;obtain⟨us,_,_,_,_,_,_,c0⟩:=jG hs (b5.trans c6);generalize hv:a.eval p=v at h1;cases h1 with
  |elt2 _ _ _ _ _ _ _ a2 hgg hh =>
   have b7:Y.ig b=g:=by rw[hs.igs,hg',hg]
   obtain⟨q,n,cp,a9,e2⟩:=hh b7;obtain⟨_,d1,a3,a4⟩:=c0 i _ a9;rw[b2]at a3;injection a3 with a3
   injection a3 with a3
   injection a3 with a3
   subst a3;have d3:=(E4.1 he).1;obtain⟨q',c9,cur,c8,e1,_,_,_,_,_,d0,a7,_,b4,d2,b3,a6⟩:=a4.form (by omega);have b8:=e1;injection e1 with e1 _ _
   injection e1 with e1
   injection e1 with e1
   subst e1;have b9:c<k':=by rw[<- a7 el (H0 he)];exact(E4.1 hx).1
   have hf:=flat_get a7 he b9;rw[hx]at hf;obtain⟨u,hu⟩:∃u,c8[j*k'+c]?=some u:=⟨_,J8 (by rw[b4];exact(E4.1 hf).1)⟩;exact⟨u,run a w u (by rw[hv,e2];exact pG a5 (wH a6 b8 hu)),.im _ _ (b3 _ u x hu hf)⟩
 ·exact h.elim
def aLenG_ok{ts:List TypeId}{x:Operand}{b g:Nat}(hop:o.op=.call c)(hc:c.callee=.builtin .len)(ha:c.args.toList=[x])(ht:c.argTypes.toList=t::ts)(he:S2 P t=some e)(hx:evA X x=.osl b g)(hd:I5 B.n o=true)(h:aLenG o X K x b g):∃fx,K fx/\Eff P B o fx.rd X fx.wr:=by
 have a9:c.argTypes[0]?=some t:=by rw[<- P9,ht];rfl
 have a5:∀a:Act,(c.args.map a.eval)[0]?=some (a.eval x):=λa=>by rw[<- P9,fX,ha];rfl
 have hu:=Y4 he
 have run:∀(a:Act) w A n cp,a.eval x=.slice A n cp->(execOp a.eval o).run P w=.ok (.value (.int .i64 n)) w:=λa w A n cp hv=>by
  simp only[execOp,hop,resolve,hc,invoke,builtin,Builtin.len_,a9,a5,Sem.run_bind,Sem.run_pure,Result.andThen_ok,run_underlying hu,hv,goInt]
 unfold aLenG at h;split at h
 ·rename_i e1 e2 k gs a7;obtain⟨hg,h⟩:=h.out;have h:=h.out;refine⟨_,h,Eff.pure hd λX' hag a w Y hs=>?_⟩;obtain⟨a8,hg',a4,_⟩:=U9 hag;have h1:=D6 hs x;rw[D3 a8,hx]at h1;obtain⟨us,_,_,_,a3,_⟩:=jG hs (a4.trans a7)
  obtain⟨A,cp,hY⟩:∃A c,Y b=.slice A gs.length c:=by
   rcases a3.2 with⟨e,h0⟩|⟨g,a6,cur,e,_⟩
   ·exact⟨none,0,by rw[e,h0]⟩
   ·exact⟨_,a6,e⟩
  generalize hv:a.eval x=v at h1;cases h1 with
  |osl _ _ _ a2 hgg hh =>
   rw[hh (hg'.trans hg),hY]at hv;exact⟨_,run a w _ _ _ hv,Q1 _⟩
 ·exact h.elim
def aLenS_ok{ts:List TypeId}{x:Operand}{b g i:Nat}(hop:o.op=.call c)(hc:c.callee=.builtin .len)(ha:c.args.toList=[x])(ht:c.argTypes.toList=t::ts)(he:S2 P t=some e)(hx:evA X x=.sub b g i)(hd:I5 B.n o=true)(h:aLenS o X K x b g i):∃fx,K fx/\Eff P B o fx.rd X fx.wr:=by
 have b5:c.argTypes[0]?=some t:=by rw[<- P9,ht];rfl
 have a9:∀a:Act,(c.args.map a.eval)[0]?=some (a.eval x):=λa=>by rw[<- P9,fX,ha];rfl
 have hu:=Y4 he
 have run:∀(a:Act) w A n cp,a.eval x=.slice A n cp->(execOp a.eval o).run P w=.ok (.value (.int .i64 n)) w:=λa w A n cp hv=>by
  simp only[execOp,hop,resolve,hc,invoke,builtin,Builtin.len_,b5,a9,Sem.run_bind,Sem.run_pure,Result.andThen_ok,run_underlying hu,hv,goInt]
 unfold aLenS at h;split at h
 ·rename_i e1 e2 k gs b3;obtain⟨es,⟨hg,a7⟩,h⟩:=h;have h:=h.out;refine⟨_,h,Eff.pure hd λX' hag a w Y hs=>?_⟩;obtain⟨b4,hg',a8⟩:=wC hag;have h1:=D6 hs x;rw[D3 b4,hx]at h1;obtain⟨us,_,_,_,_,_,_,b6⟩:=jG hs (a8.trans b3);generalize hv:a.eval x=v at h1;cases h1 with
  |sub _ _ _ _ a2 hgg hh =>
   have b2:Y.ig b=g:=by rw[hs.igs,hg',hg]
   obtain⟨_,b8,a3,a4⟩:=b6 i v (hh b2);rw[a7]at a3;injection a3 with a3
   injection a3 with a3
   injection a3 with a3
   subst a3;obtain⟨b7,_,_,_,a5,_⟩:=a4
   obtain⟨A,cp,hY⟩:∃A c,v=.slice A es.length c:=by
    rcases a5.2 with⟨e,h0⟩|⟨g,a6,cur,e,_⟩
    ·exact⟨none,0,by rw[e,h0]⟩
    ·exact⟨_,a6,e⟩
   rw[hY]at hv;exact⟨_,run a w _ _ _ hv,Q1 _⟩
 ·exact h.elim
def SatR.turnA{w w':World}{Y:Ly}(h:SatR B X a w Y){b q:Nat}{k':Kd}(hq:Owns X Y b q)(hg:w.grownBy w' (some q))(hk':∀c,c∈fpk (Y b) (Y.inn b) k'->Owns X Y b c)
  (hob:(∀v x,RepI w (Imm B X Y w) v x->RepI w' (Imm B (upd X (.knd b) (.kd k')) Y w') v x)->aT B (upd X (.knd b) (.kd k')) Y w' b k'):SatR B (upd X (.knd b) (.kd k')) a w' Y:=by
 refine(h.step (λo=>o=b) (λt=>bR X b t _) (λo hd=>⟨by rw[U6,if_neg hd],X8 X b o _,λi=>dA X b o i _,rfl,rfl,rfl⟩) (λo _=>⟨⟨by rw[X8];exact G4 _,λ_=>rfl⟩,G4 _,λ_=>rfl⟩)
  (λo=>by rw[dD];exact h.igs o) ⟨hg.os,hg.tape,hg.output,hg.size,λc hc hn=>hg.block c hc λe=>?_⟩ (λo c hd ho=>?_) (λo p c hd hp _ _=>hd.trans hp.symm) λhI hA o hd=>?_).1
 ·injection e with e
  subst e;exact hn ⟨b,rfl,hq⟩
 ·subst hd;unfold Owns at ho;rw[U6,if_pos rfl]at ho;exact .inr ⟨o,rfl,hk' c ho⟩
 ·subst hd;rw[U6,if_pos rfl];exact hob hI
def aStoreS_ok{p x:Operand}{b g i k j c:Nat}(hop:o.op=.store t p x)(hp:evA X p=.elt2 b g i k j c)(hd:I5 B.n o=true)(h:aStoreS P o X K t p x b g i k j c):∃fx,K fx/\Eff P B o fx.rd X fx.wr:=by
 unfold aStoreS at h;split at h
 ·rename_i m cs e e' k' gs hm e6 b8;split at h
  ·rename_i xs h9;obtain⟨a9,h'⟩:=h.ok;clear h;simp only[M4]at a9;obtain⟨⟨⟨c1,c2⟩,c3⟩,c4⟩:=a9;have d6:cs.length=m:=by simpa using c1
   have i7:=aN c2;have i6:=fG c3;have h6:k'=k:=by simpa using c4
   subst h6;obtain⟨es,el,⟨hg,f8,a7⟩,h⟩:=h';have h:=h.out;refine⟨_,h,λX' hag a w ⟨Y,hs⟩ K' Q hK=>?_⟩;obtain⟨d7,hg',b6⟩:=wC hag;have h1:=D6 hs p;have h2:=D6 hs x;rw[D3 (E3 d7),hp]at h1;rw[D3 (G9 d7)]at h2;have hr:=nF e6 h2;have b3:=nE e6 h2;have e5:=oM hs (bs':=[]) (by simp) hr (pC h9 λl hl=>by simp[frd]at hl) (by simp);obtain⟨us,e0,d1,c6,d9,b9,i4,e8⟩:=jG hs (b6.trans b8);have g5:Y.ig b=g:=by rw[hs.igs,hg',hg]
   obtain⟨q,cap,u0,a3,f5,a8⟩:∃q cap u0,(Y.inn b)[i]?=some u0/\a.eval p=.pointer (some ⟨q,j*k'+c,none⟩)/\∃n,u0=.slice (some ⟨q,0,none⟩) n cap:=by
    generalize a.eval p=v at h1;cases h1 with
    |elt2 _ _ _ _ _ _ _ a2 hgg hh =>
     obtain⟨q,n,cp,a3,e2⟩:=hh g5;exact⟨q,cp,_,a3,e2,n,rfl⟩
   obtain⟨i3,i5,a4,c8⟩:=e8 i u0 a3;rw[f8]at a4;injection a4 with a4
   injection a4 with a4
   injection a4 with a4
   subst a4;have g6:=(E4.1 a7).1;obtain⟨q',b4,cur,d4,e1,e3,e4,d3,c9,h7,f7,a5,d5,c7,e7,h8,g7⟩:=c8.form (by omega);obtain⟨n,a8⟩:=a8
   have f3:q'=q:=by
    rw[a8]at e1;injection e1 with e1 _ _
    injection e1 with e1
    injection e1 with e1
    exact e1.symm
   subst f3;have b7:(a.eval x).cells.toList.length=m:=by rw[hr.1,d6]
   have e9:xs.length=m:=by rw[<- e5.1,b7]
   have d0:(j+1)*k'<=es.length*k':=W7 _ g6;have g4:es.length*k'<=b4*k':=W7 _ e4;rw[Nat.add_mul,yG]at d0;have a6:=run_storeCells_at (P:=P) q' (j*k'+c) e' (a.eval x).cells.toList 0 cur w e3 (by omega) b3;simp only[X5]at a6;have hz:=aD hm w;have f6:(a.eval x).cells.size=m:=by rw[<- b7];simp
   have run:(execOp a.eval o).run P w=.ok .skip (w.setRow q' (splice cur.toList (j*k'+c) (a.eval x).cells.toList).toArray):=by
    simp only[execOp,hop,Instr.storeAt,f5,Instr.sureAddr,storeVar,Sem.run_bind,Sem.run_pure,Result.andThen_ok,hz,f6];rw[if_neg (by simp),a6];rfl
   unfold Oper.wp;rw[run,Oper.upon_skip];refine hK _ _ ⟨Y,?_⟩;have b5:d4.length=es.length*k':=by rw[c7,R3 a5]
   have d8:el.length=k':=a5 el (H0 a7);have b2:D9 u0=some q':=by rw[a8];rfl
   obtain⟨f9,f4⟩:=wM e0 a3 b2;have d2:∀r,r≠q'->(w.setRow q' (splice cur.toList (j*k'+c) (a.eval x).cells.toList).toArray).heap[r]?=w.heap[r]?:=λr hr=>setRow_other w q' r _ hr
   have g8:=hs.turnA (w':=w.setRow q' (splice cur.toList (j*k'+c) (a.eval x).cells.toList).toArray) (b:=b) (q:=q') (k':=.grid e e' k' (gs.set i [.sl (es.set j (splice el c xs))]) none)
    (by unfold Owns;rw[b6.trans b8];exact fpk_inn a3 b2)
    ⟨rfl,rfl,rfl,by simp,λk _ hk=>setRow_other w q' k _ (λe=>hk (by rw[e]))⟩ (λr hr=>by unfold Owns;rw[b6.trans b8];exact hr) λhI=>by
     refine⟨e0,by rw[bO];exact d1,us,by rw[bO];exact c6,?_,b9,λi' u hu=>.inr ?_⟩
     ·rw[bO];exact tR d9 λr hr=>d2 r λe=>f9 (by rw[<- e];exact hr)
     ·obtain⟨g1,g9,g2,g3⟩:=e8 i' u hu;refine⟨g1,?_⟩;by_cases c0:i'=i
      ·subst c0;rw[a3]at hu;injection hu with hu
       subst hu;refine⟨es.set j (splice el c xs),by rw[cG (by rw[<- d1];exact(E4.1 a3).1)],splice d4 (j*k'+c) (a.eval x).cells.toList,f7,λy hy=>?_,by rw[bO];exact d5,?_,?_,λu hu=>?_,λn u y hu hy=>?_⟩
       ·rcases rI hy with hy|hy
        ·exact a5 y hy
        ·rw[hy,fO _ _ _ (by omega),d8]
       ·rw[bO];refine⟨by rw[fO _ _ _ (by omega),b5],.inr ⟨q',b4,_,e1,F7 _,setRow_heap w q' cur _ e' _ e3,e4,d3,?_,?_⟩⟩
        ·rw[fZ,fO _ _ _ (by simp;omega)];simpa using c9
        ·rw[vH,xJ _ _ _ _ (by omega) (by simp;omega),h7]
       ·rw[sA a5 a7 (by omega),fO _ _ _ (by omega),fO _ _ _ (by omega),c7]
       ·unfold splice at hu;rcases I8.1 hu with hu|hu
        ·rcases I8.1 hu with hu|hu
         ·exact e7 u (Q4 hu)
         ·exact b3 u hu
        ·exact e7 u (U3 hu)
       ·rw[sA a5 a7 (by omega)]at hy;rcases FB c7 (by rw[b7,e9]) (by omega) hu hy with⟨n',h3,h4⟩|⟨n',h3,h4⟩
        ·exact hI _ _ (h8 n' u y h3 h4)
        ·exact hI _ _ (e5.2 n' u y h3 h4)
      ·exact⟨g9,by rw[cW (λe=>c0 e.symm)];exact g2,g3.mono (λr hr=>d2 r λe=>f4 i' u c0 hu (by rw[<- e];exact hr)) hI⟩
   rw[N8];exact g8.put (cZ hd) (Q1 _)
  ·exact h.elim
 ·exact h.elim
def fpv_set{v x:Value}{inn:List Value}{i:Nat}(h:(fpv v inn).Nodup)(hx:∀q,D9 x=some q->q∉fpv v inn):(fpv v (inn.set i x)).Nodup:=by
 have hm:∀u q,u=v\/u∈inn->D9 u=some q->q∈fpv v inn:=λu q hu hq=>dQ.2 ⟨u,by rcases hu with rfl|hu<;>simp[*],hq⟩
 unfold fpv List.Nodup at h ⊢;rw[KB,cU]at h ⊢;obtain⟨h1,h2⟩:=h;refine⟨λa' a3 c hc c' a2 e=>?_,?_⟩
 ·rcases rI a3 with h3|h3
  ·exact h1 a' h3 c hc c' a2 e
  ·subst h3 e;exact hx c a2 (hm v c (.inl rfl) hc)
 ·rw[V1]at h2 ⊢;intro j k hj hk a4 c hc c' a2 e;rw[bO]at hj hk;rw[List.getElem_set]at hc a2;subst e;split at hc
  ·split at a2
   ·omega
   ·exact hx c hc (hm _ c (.inr (J3 hk)) a2)
  ·split at a2
   ·exact hx c a2 (hm _ c (.inr (J3 hj)) hc)
   ·exact h2 j k hj hk a4 c hc c a2 rfl
def splice_one{V:Type}{l:List V}{i:Nat}(h:i<l.length)(v:V):splice l i [v]=l.set i v:=by
 rw[List.set_eq_take_append_cons_drop,if_pos h];unfold splice;simp
def aStoreG_ok{p x:Operand}{b g k i j:Nat}(hop:o.op=.store t p x)(hp:evA X p=.elt b g k i j)(hd:I5 B.n o=true)(h:aStoreG P o X K t p x b g k i j):∃fx,K fx/\Eff P B o fx.rd X fx.wr:=by
 unfold aStoreG at h;split at h
 ·rename_i m r gr e e' k' gs hole hm hx a8;split at h
  ·rename_i e2 k2 es d3;obtain⟨b3,h'⟩:=h.ok;clear h;simp only[M4]at b3;obtain⟨⟨⟨⟨⟨c1,c2⟩,c3⟩,c4⟩,c5⟩,c6⟩:=b3;have c1:=M3 c1;have c2:=M3 c2;have c3:=M3 c3;have c4:=M3 c4;have c5:=M3 c5;have a4:r≠b:=λe=>by rw[e]at c6;simp at c6
   subst c1 c2 c3 c4 c5;obtain⟨⟨hg,f8,h7,d1⟩,h⟩:=h'.out;have h:=h.out;refine⟨_,h,λX' hag a w ⟨Y,hs⟩ K' Q hK=>?_⟩;have d7:∀x_1∈(opd p++opd x)++(.gen b::.knd b::[.ign b,.gen r,.knd r]),X' x_1=X x_1:=λy hy=>hag y (by simpa using hy);obtain⟨d4,hg',a7,b4⟩:=U9 d7;have f9:X'.ig b=X.ig b:=fD (b4 (.ign b) (by simp));have d8:X'.gn r=X.gn r:=S5 (b4 (.gen r) (by simp));have b2:X'.kd r=X.kd r:=mL (b4 (.knd r) (by simp));have h1:=D6 hs p;have h2:=D6 hs x;rw[D3 (E3 d4),hp]at h1;rw[D3 (G9 d4),hx]at h2;obtain⟨us,d6,e7,c0,d5,b8,e0,g8⟩:=EI hs (a7.trans a8);have c8:=hs.obs r;rw[b2.trans d3]at c8;have c9:V7 w (Imm B X' Y w) (Y r) e2 k2 es:=c8;obtain⟨h6,_,_,_,r4,_⟩:=c8;have a3:(Y r).oneCell'=true:=row_one r4;have e8:(Y r).cells=#[Y r]:=by revert a3;cases Y r<;>simp[Value.oneCell',Value.cells]
   rcases d5.2 with⟨_,hn⟩|⟨q,e6,cur,e1,_,e3,g7,d2,a9,d9⟩
   ·omega
   have f5:a.eval p=.pointer (some ⟨q,i,none⟩):=by
    generalize a.eval p=v at h1;cases h1 with
    |elt _ _ _ _ _ _ _ _ hh =>
     obtain⟨b',z,n,c,f1,f2⟩:=hh (hg'.trans hg);rw[e1]at f1;injection f1 with f1
     injection f1 with f1
     injection f1 with f1 f3
     rw[f2,f1,<- f3,fT,X5,F9]
   have g9:a.eval x=Y r:=by
    generalize a.eval x=v at h2;cases h2 with
    |osl _ _ _ _ _ hh=>exact hh (d8.trans f8)
   rw[fT]at a9 d9;have a6:=run_storeCells_at (P:=P) q i e [Y r] 0 cur w e3 (by simp;omega) (by simpa using a3);simp only[X5]at a6;have hz:=aD hm w
   have run:(execOp a.eval o).run P w=.ok .skip (w.setRow q (splice cur.toList i [Y r]).toArray):=by
    simp only[execOp,hop,Instr.storeAt,f5,g9,Instr.sureAddr,storeVar,Sem.run_bind,Sem.run_pure,Result.andThen_ok,hz,e8];rw[if_neg (by simp),a6];rfl
   unfold Oper.wp;rw[run,Oper.upon_skip]
   let Y2:Ly:=⟨Y.root,λo=>if o=b then(Y.inn b).set i (Y r) else Y.inn o,λo=>if o=b then Y.ig b+1 else Y.ig o⟩
   let U:St:=app X' [(.knd r,.kd .dead),(.ign b,.n (X.ig b+1)),(.knd b,.kd (.grid e e2 k2 (gs.set i [.sl es]) none))]
   have a2:∀o,U.kd o=if o=b then .grid e e2 k2 (gs.set i [.sl es]) none else if o=r then .dead else X'.kd o:=λo=>by
    show(app X' _).kd o=_;simp only[N8,aF];rw[U6,kd_ign,U6]
   have d0:∀o,U.gn o=X'.gn o:=λo=>by
    show(app X' _).gn o=_;simp only[N8,aF];rw[X8,gn_ign,X8]
   have e9:∀o,U.ig o=if o=b then X.ig b+1 else X'.ig o:=λo=>by
    show(app X' _).ig o=_;simp only[N8,aF];rw[dD,ig_ign,dD]
   have f6:∀t,U.av t=X'.av t:=λt=>by
    show(app X' _).av t=_;simp only[N8,aF];rw[bR,av_ign,bR]
   have f4:∀o i,U.ce o i=X'.ce o i:=λo i=>by
    show(app X' _).ce o i=_;simp only[N8,aF];rw[dA,ce_ign,dA]
   have b7:Owns X' Y b q:=.root (by unfold live;rw[a7.trans a8];exact λz=>by cases z) (by rw[e1];rfl);have b9:live X' r:=lO (b2.trans d3);have e5:∀c,D9 (Y r)=some c->c≠q:=λc hc e=>a4 (hs.dis r b c (.root b9 hc) (e ▸ b7));have b5:∀c,c≠q->(w.setRow q (splice cur.toList i [Y r]).toArray).heap[c]?=w.heap[c]?:=λc hc=>setRow_other w q c _ hc;have e4:∀(j:Nat) u,(Y.inn b)[j]?=some u->∀c,D9 u=some c->c≠q:=λj u hu c hc e=>(wM d6 hu hc).1 (by rw[e1,e];rfl)
   obtain⟨g4,_⟩:=hs.step (X':=U) (Y':=Y2) (w':=w.setRow q (splice cur.toList i [Y r]).toArray) (λo=>o=b\/o=r) f6
    (λo ho=>⟨by rw[a2,if_neg (λe=>ho (.inl e)),if_neg (λe=>ho (.inr e))],d0 o,f4 o,rfl,by simp only[Y2];rw[if_neg (λe=>ho (.inl e))],by simp only[Y2];rw[if_neg (λe=>ho (.inl e))]⟩)
    (λo ho=>by
     refine⟨⟨by rw[d0];exact G4 _,λ_=>rfl⟩,?_,λe=>?_⟩
     ·show Y.ig o<=(if o=b then Y.ig b+1 else Y.ig o)
      split
      ·rename_i e;rw[e];omega
      ·exact G4 _
     ·have e:(if o=b then Y.ig b+1 else Y.ig o)=Y.ig o:=e
      show(if o=b then(Y.inn b).set i (Y r) else Y.inn o)=_
      split at e
      ·rename_i e2;rw[e2]at e;omega
      ·rename_i e2;rw[if_neg e2])
    (λo=>by
     show(if o=b then Y.ig b+1 else Y.ig o)=_
     rw[e9]
     split
     ·rw[hs.igs,f9]
     ·exact hs.igs o)
    ⟨rfl,rfl,rfl,by simp,λc hc hn=>b5 c λe=>hn ⟨b,.inl rfl,e ▸ b7⟩⟩
    (λo c ho hc=>by
     rcases ho with rfl|rfl
     ·unfold Owns at hc
      rw[a2,if_pos rfl]at hc
      have hc:c∈fpv (Y o) (if o=o then(Y.inn o).set i (Y r) else Y.inn o):=hc
      rw[if_pos rfl]at hc
      obtain⟨u,hu,c7⟩:=dQ.1 hc
      rcases H8.1 hu with rfl|hu
      ·exact .inr ⟨o,.inl rfl,.root b7.lv c7⟩
      ·rcases rI hu with hu|rfl
       ·obtain⟨n,hn⟩:=mE hu
        exact .inr ⟨o,.inl rfl,by unfold Owns;rw[a7.trans a8];exact fpk_inn hn c7⟩
       ·exact .inr ⟨r,.inr rfl,.root b9 c7⟩
     ·exact absurd (by rw[a2,if_neg a4,if_pos rfl]) hc.lv)
    (λo p c ho hp f7 g5=>by
     rcases ho with rfl|rfl
     ·rcases hp with rfl|rfl
      ·rfl
      ·exact absurd (by rw[a2,if_neg a4,if_pos rfl]) g5.lv
     ·exact absurd (by rw[a2,if_neg a4,if_pos rfl]) f7.lv)
    λhI _ o ho=>by
     by_cases b6:o=b
     ·subst b6;rw[a2,if_pos rfl];show dC _ _ (Y o) (if o=o then(Y.inn o).set i (Y r) else Y.inn o) _ _ _ _ _;rw[if_pos rfl];refine⟨fpv_set d6 λc hc hm=>?_,by rw[bO,bO];exact e7,us.set i (Y r),by rw[bO];exact c0,?_,λu hu=>?_,λi' u hu=>.inr ?_⟩
      ·exact a4 (hs.dis r o c (.root b9 hc) (by unfold Owns;rw[a7.trans a8];exact hm))
      ·rw[bO];refine⟨by rw[bO,e0,fT],.inr ⟨q,e6,_,e1,F7 _,setRow_heap w q cur _ e _ e3,g7,d2,?_,?_⟩⟩
       ·rw[fZ,fO _ _ _ (by simp;omega),fT];simpa using a9
       ·rw[vH,fT,xJ _ _ _ _ (by simp;omega) (by simp;omega),d9,splice_one (by omega)]
      ·rcases rI hu with hu|rfl
       ·exact b8 u hu
       ·exact a3
      ·by_cases a5:i'=i
       ·subst a5;rw[cG (by omega)]at hu;injection hu with hu
        subst hu;exact⟨cG (by omega),es,cG (by omega),c9.mono (λc hc=>b5 c (e5 c hc)) hI⟩
       ·rw[cW (λe=>a5 e.symm)]at hu
        obtain⟨g1,g6,g2,g3⟩:=(g8 i' u hu).resolve_left λhh=>by
         rw[hh.1]at d1;exact a5 d1
        exact⟨by rw[cW (λe=>a5 e.symm)];exact g1,g6,by rw[cW (λe=>a5 e.symm)];exact g2,g3.mono (λc hc=>b5 c (e4 i' u hu c hc)) hI⟩
     ·rw[a2,if_neg b6,if_pos (ho.resolve_left b6)];trivial
   refine hK _ _ ⟨Y2,?_⟩;show SatR B (app X' ([(.knd r,.kd .dead),(.ign b,.n (X.ig b+1)),(.knd b,.kd (.grid e e2 k2 (gs.set i [.sl es]) none))]++wrT o.dst (.im (.val undef)))) _ _ _;rw[K3];exact g4.put (cZ hd) (Q1 _)
  ·exact h.elim
 ·exact h.elim
def SatR.takeout{Y:Ly}(hs:SatR B X a w Y){b d i k:Nat}{e e':TypeId}{gs es:List (List IV)}{u:Value}(hkd:X.kd b=.grid e e' k gs none)(hdb:d≠b)(hu:(Y.inn b)[i]?=some u)(hes:gs[i]?=some [.sl es]) :
  let Y2:Ly:=⟨λo=>if o=d then u else Y o,λo=>if o=b then(Y.inn b).set i undef else Y.inn o,λo=>if o=b then Y.ig b+1 else Y.ig o⟩
  SatR B (app X (S3 X b d i e e' k gs es)) a w Y2/\∀v x,RepI w (Imm B X Y w) v x->RepI w (Imm B (app X (S3 X b d i e e' k gs es)) Y2 w) v x:=by
 intro Y2;obtain⟨us,b2,d0,b3,c0,b6,d8,c7⟩:=jG hs hkd;obtain⟨d9,b4,a7,b7⟩:=c7 i u hu;have d7:b4=es:=by rw[hes]at a7;simpa using a7.symm
 subst d7
 let U:St:=app X (S3 X b d i e e' k gs b4)
 have a5:∀o,U.kd o=if o=d then .row e' k b4 else if o=b then .grid e e' k gs (some i) else X.kd o:=λo=>by
  show(app X _).kd o=_;unfold S3;simp only[N8,aF];rw[U6,kd_gen,U6,kd_ign]
 have a9:∀o,U.gn o=if o=d then X.gn d+1 else X.gn o:=λo=>by
  show(app X _).gn o=_;unfold S3;simp only[N8,aF];rw[X8,gn_gen,X8,gn_ign]
 have d1:∀o,U.ig o=if o=b then X.ig b+1 else X.ig o:=λo=>by
  show(app X _).ig o=_;unfold S3;simp only[N8,aF];rw[dD,ig_gen,dD,ig_ign]
 have d4:∀t,U.av t=X.av t:=λt=>by
  show(app X _).av t=_;unfold S3;simp only[N8,aF];rw[bR,av_gen,bR,av_ign]
 have d3:∀o j,U.ce o j=X.ce o j:=λo j=>by
  show(app X _).ce o j=_;unfold S3;simp only[N8,aF];rw[dA,ce_gen,dA,ce_ign]
 have a8:D9 undef=none:=rfl
 have b5:∀c,c∈fpv (Y b) ((Y.inn b).set i undef)->c∈fpv (Y b) (Y.inn b)/\D9 u≠some c:=λc hc=>by
  obtain⟨x,hx,a3⟩:=dQ.1 hc;rcases H8.1 hx with rfl|hx
  ·exact⟨dQ.2 ⟨_,aR ..,a3⟩,λe=>(wM b2 hu e).1 a3⟩
  ·obtain⟨j,hj⟩:=mE hx;rw[rH]at hj;split at hj
   ·split at hj
    ·injection hj with hj
     rw[<- hj,a8]at a3;cases a3
    ·cases hj
   ·rename_i d2;exact⟨dQ.2 ⟨x,K7 _ (H0 hj),a3⟩,λe=>(wM b2 hu e).2 j x (λe=>d2 e.symm) hj a3⟩
 have d6:∀c,c∈fpv (Y b) (Y.inn b)->Owns X Y b c:=λc hc=>by unfold Owns;rw[hkd];exact hc
 have a4:∀c,Owns U Y2 b c->c∈fpv (Y b) ((Y.inn b).set i undef):=λc hc=>by
  unfold Owns at hc;rw[a5,if_neg hdb.symm,if_pos rfl]at hc;have hc:c∈fpv (if b=d then u else Y b) (if b=b then(Y.inn b).set i undef else Y.inn b):=hc
  rwa [if_neg hdb.symm,if_pos rfl]at hc
 have a6:∀c,Owns U Y2 d c->D9 u=some c:=λc hc=>by
  unfold Owns at hc;rw[a5,if_pos rfl]at hc;have hc:c∈(D9 (if d=d then u else Y d)).toList:=hc;rw[if_pos rfl]at hc;simpa using hc
 obtain⟨c8,hI,_⟩:=hs.step (X':=U) (Y':=Y2) (w':=w) (λo=>o=b\/o=d) d4
  (λo ho=>⟨by rw[a5,if_neg (λe=>ho (.inr e)),if_neg (λe=>ho (.inl e))],by rw[a9,if_neg (λe=>ho (.inr e))],d3 o,by simp only[Y2];rw[if_neg (λe=>ho (.inr e))],by simp only[Y2];rw[if_neg (λe=>ho (.inl e))],by simp only[Y2];rw[if_neg (λe=>ho (.inl e))]⟩)
  (λo ho=>by
   refine⟨⟨?_,λe=>?_⟩,?_,λe=>?_⟩
   ·rw[a9];split
    ·rename_i e;subst e;omega
    ·exact G4 _
   ·rw[a9]at e
    by_cases a2:o=d
    ·subst a2;rw[if_pos rfl]at e;omega
    ·simp only[Y2];rw[if_neg a2]
   ·show Y.ig o<=(if o=b then Y.ig b+1 else Y.ig o)
    split
    ·rename_i e;rw[e];omega
    ·exact G4 _
   ·have e:(if o=b then Y.ig b+1 else Y.ig o)=Y.ig o:=e
    show(if o=b then(Y.inn b).set i undef else Y.inn o)=_
    split at e
    ·rename_i e2;rw[e2]at e;omega
    ·rename_i e2;rw[if_neg e2])
  (λo=>by
   show(if o=b then Y.ig b+1 else Y.ig o)=_
   rw[d1]
   split
   ·rw[hs.igs]
   ·exact hs.igs o)
  (Belo.refl _ _ _)
  (λo c ho hc=>by
   rcases ho with rfl|rfl
   ·exact .inr ⟨o,.inl rfl,d6 c (b5 c (a4 c hc)).1⟩
   ·exact .inr ⟨b,.inl rfl,by unfold Owns;rw[hkd];exact fpk_inn hu (a6 c hc)⟩)
  (λo p c ho hp c6 b9=>by
   rcases ho with rfl|rfl
   ·rcases hp with rfl|rfl
    ·rfl
    ·exact absurd (a6 c b9) (b5 c (a4 c c6)).2
   ·rcases hp with rfl|rfl
    ·exact absurd (a6 c c6) (b5 c (a4 c b9)).2
    ·rfl)
  λhI _ o ho=>by
   by_cases a2:o=d
   ·subst a2;rw[a5,if_pos rfl];show V7 _ _ (if o=o then u else Y o) _ _ _;rw[if_pos rfl];exact b7.mono (λ_ _=>rfl) hI
   ·have b8:=ho.resolve_right a2;subst b8;rw[a5,if_neg a2,if_pos rfl];show dC _ _ (if o=d then u else Y o) (if o=o then(Y.inn o).set i undef else Y.inn o) _ _ _ _ _;rw[if_neg a2,if_pos rfl];refine⟨fpv_set b2 (λc hc=>by rw[a8]at hc;cases hc),by rw[bO];exact d0,us,b3,c0,b6,λj x hx=>?_⟩;rw[rH]at hx;split at hx
    ·rename_i d5;split at hx
     ·injection hx with hx
      exact .inl ⟨by rw[d5],hx.symm⟩
     ·cases hx
    ·obtain⟨g1,c9,g2,g3⟩:=c7 j x hx;exact .inr ⟨g1,c9,g2,g3.mono (λ_ _=>rfl) hI⟩
 exact⟨c8,hI⟩
def aAppendS_ok{x y:Operand}{b g i:Nat}(hop:o.op=.call c)(hc:c.callee=.builtin .append)(hargs:c.args=#[x,y])(hts:c.argTypes=#[t,t])(hx:evA X x=.sub b g i)(hd:I5 B.n o=true)(h:aAppendS P o X K t x y b g i):∃fx,K fx/\Eff P B o fx.rd X fx.wr:=by
 unfold aAppendS at h;split at h
 ·rename_i d et e e' k' gs a8 d7 d8;have b8:=Y4 d7;split at h
  ·rename_i k by_ new hk d3 hy
   have d2:∀(a:Act) w v' w',(Builtin.append_ #[t,t] o.type #[a.eval x,a.eval y]).run P w=.ok v' w'->(execOp a.eval o).run P w=.ok (.value v') w':=λa w v' w' hv=>by
    simp[execOp,hop,resolve,hc,hargs,hts,invoke,builtin,hv]
   obtain⟨b2,h'⟩:=h.ok;clear h;simp only[M4]at b2;obtain⟨⟨⟨⟨c1,c2⟩,c3⟩,c4⟩,c5⟩:=b2;have b7:=aN c1;have c0:e'=et:=M3 c2;have e6:k'=k:=M3 c3;have d9:d≠b:=λe=>by rw[e]at c5;simp at c5
   subst c0 e6;obtain⟨it,z,hi,hz,b5,a5,f5⟩:=kI c4 hk d3;obtain⟨es,⟨b9,e3,a4,a3⟩,h⟩:=h';have h:=h.out;refine⟨_,h,λX' hag a w ⟨Y,hs⟩ K' Q hK=>?_⟩;have ha:∀z∈opd x++opd y,X' z=X z:=E3 hag;have a9:X'.ig b=X.ig b:=fD (G9 hag (.ign b) (by simp));have d4:X'.kd b=X.kd b:=mL (G9 hag (.knd b) (by simp));have hg':X'.gn d=X.gn d:=S5 (G9 hag (.gen d) (by simp));have h1:=D6 hs x;have h2:=D6 hs y;rw[D3 (E3 ha),hx]at h1
   have e1:fz X' (evA X' y)=some (.sl new,[]):=by
    rw[D3 (G9 ha)];exact lK hy λl hl=>by simp[frd]at hl
   have h2:=fz_ok hs (bs':=[]) (by simp) h2 e1 (by simp)
   have d6:(Y.inn b)[i]?=some (a.eval x):=by
    generalize a.eval x=v at h1;cases h1 with
    |sub _ _ _ _ _ _ hh=>exact hh ((hs.igs b).trans (a9.trans b9))
   obtain⟨c6,d5⟩:=hs.takeout (d:=d) (d4.trans d8) d9 d6 e3;have f6:=d5 _ _ h2;obtain⟨A,cp,news,hv,b6,c9,e2,a6,d1⟩:=mG f6 a4;have f3:=R3 a4
   have a7:(app X' (S3 X' b d i e e' k' gs es)).kd d=.row e' k' es:=by
    unfold S3;simp only[N8,aF];rw[U6,if_pos rfl]
   have ho:=c6.obs d;rw[a7]at ho;obtain⟨us,_,e9,_,a2,e5,e8,f4⟩:=ho;simp only[if_pos]at a2;obtain⟨v',w',c7,b3,b4,c8⟩:=nO (P:=P) (w:=w) 0 t o.type e' it z k' by_ b8 hi hz b5 a5 f5 b7 (a.eval x) es.length us a2 A new.length cp news (by rw[b6,f3]) a6 c9 (by unfold maxLen;unfold E0 at a3;omega) a3.1 (F7 _);unfold Oper.wp;rw[d2 a w v' w' (by rw[hv];exact c7),Oper.upon_value,a8];have e4:=c6.rowed (used:=some d) (d:=d) (λq hq=>⟨d,rfl,.root (lO a7) (by simp only[if_pos];exact hq)⟩) b7 e9 a4 a3.2 a2 b3 b4 c8 e5 b6 e8 c9 f4 d1
   have d0:(app X' (S3 X' b d i e e' k' gs es)).gn d=X.gn d+1:=by
    unfold S3;simp only[N8,aF];rw[X8,gn_gen,if_pos rfl,hg']
   have e7:S3 X' b d i e e' k' gs es=S3 X b d i e e' k' gs es:=by unfold S3;rw[a9,hg']
   have e0:app X' (S3 X b d i e e' k' gs es++((.knd d,.kd .dead)::([(.gen d,.n (X.gn d+2)),(.knd d,.kd (.row e' k' (es++new)))]++[(.tmp d,.av (.osl d (X.gn d+2)))])))=app (N3 (app X' (S3 X' b d i e e' k' gs es)) (some d) d (.row e' k' (es++new)) []) [(.tmp d,.av (.osl d ((app X' (S3 X' b d i e e' k' gs es)).gn d+1)))]:=by
    rw[K3,<- e7,N8,K3];unfold N3;rw[d0];rfl
   have fin:=qJ e4 (row_one b3) (U8 hd a8);rw[<- e0]at fin;exact hK _ _ ⟨_,fin⟩
  ·exact h.elim
 ·exact h.elim
def row_src{S:Nat->Prop}{es:List (List IV)}{k:Nat}(h:V7 w S v e k es) :
  ∃(A:Option Addr) (c:Nat) (us:List Value),v=.slice A es.length c/\us.length=es.flatten.length/\(∀u∈us,u.oneCell'=true)/\es.length<=17592186044416 /\
   (0<es.length->∃b q,A=some ⟨b,q,none⟩/\∀(j:Nat) u,us[j]?=some u->w.cell? ⟨b,q+j,none⟩=some u)/\∀(i:Nat) u x,us[i]?=some u->es.flatten[i]?=some x->RepI w S u x:=by
 rcases eR es.length with h0|h0
 ·obtain⟨us,_,_,h3,h4,h5,h6,h7⟩:=h;have he:es=[]:=S7 h0;subst he;rcases h4.2 with⟨e1,_⟩|⟨q,a3,cur,e1,_⟩
  ·exact⟨none,0,us,e1,h5,h6,h3,λh=>absurd h (by simp),h7⟩
  ·exact⟨_,a3,us,e1,h5,h6,h3,λh=>absurd h (by simp),h7⟩
 ·have h':=h;obtain⟨_,_,_,h3,_⟩:=h';obtain⟨q,a3,cur,us,e1,_,_,_,_,_,_,_,_,e7,e8,e9,a2⟩:=h.form h0;exact⟨_,a3,us,e1,e7,e8,h3,λ_=>⟨q,0,rfl,λj u hu=>by rw[F9];exact wH a2 e1 hu⟩,e9⟩
def aAppendT_ok{x y:Operand}{b g i b2 g2 j:Nat}(hop:o.op=.call c)(hc:c.callee=.builtin .append)(hargs:c.args=#[x,y])(hts:c.argTypes=#[t,t])(hx:evA X x=.sub b g i)(hy0:evA X y=.sub b2 g2 j)(hd:I5 B.n o=true)(h:aAppendT P o X K t x y b g i b2 g2 j):∃fx,K fx/\Eff P B o fx.rd X fx.wr:=by
 unfold aAppendT at h;split at h
 ·rename_i d et e e' k' gs b3 e5 c8;have d1:=Y4 e5;split at h
  ·rename_i k by_ hk e2
   have e0:∀(a:Act) w v' w',(Builtin.append_ #[t,t] o.type #[a.eval x,a.eval y]).run P w=.ok v' w'->(execOp a.eval o).run P w=.ok (.value v') w':=λa w v' w' hv=>by
    simp[execOp,hop,resolve,hc,hargs,hts,invoke,builtin,hv]
   obtain⟨b5,h'⟩:=h.ok;clear h;simp only[M4]at b5;obtain⟨⟨⟨⟨⟨c1,c2⟩,c3⟩,c4⟩,c5⟩,c6⟩:=b5;have hb2:b=b2:=(M3 c6).symm;have c9:=aN c1;have d3:e'=et:=M3 c2;have f6:k'=k:=M3 c3;have e6:d≠b:=λe=>by rw[e]at c5;simp at c5
   subst d3 f6 hb2;obtain⟨it,z,hi,hz,b9,a6,g5⟩:=kI c4 hk e2;obtain⟨es,new,⟨d2,d0,g7,f3,e8,a4⟩,h⟩:=h';have h:=h.out;refine⟨_,h,λX' hag a w ⟨Y,hs⟩ K' Q hK=>?_⟩;have ha:∀z∈opd x++opd y,X' z=X z:=E3 hag;have a5:X'.ig b=X.ig b:=fD (G9 hag (.ign b) (by simp));have c0:X'.kd b=X.kd b:=mL (G9 hag (.knd b) (by simp));have hg':X'.gn d=X.gn d:=S5 (G9 hag (.gen d) (by simp));have h1:=D6 hs x;have h2:=D6 hs y;rw[D3 (E3 ha),hx]at h1;rw[D3 (G9 ha),hy0]at h2
   have e4:(Y.inn b)[i]?=some (a.eval x):=by
    generalize a.eval x=v at h1;cases h1 with
    |sub _ _ _ _ _ _ hh=>exact hh ((hs.igs b).trans (a5.trans d2))
   have e1:(Y.inn b)[j]?=some (a.eval y):=by
    generalize a.eval y=v at h2;cases h2 with
    |sub _ _ _ _ _ _ hh=>exact hh ((hs.igs b).trans (a5.trans d0))
   obtain⟨_,_,_,_,_,_,_,f9⟩:=jG hs (c0.trans c8);obtain⟨_,g6,a2,a8⟩:=f9 j _ e1;rw[e8]at a2;injection a2 with a2
   injection a2 with a2 _
   injection a2 with a2
   subst a2
   have b4:∀e∈new,e.length=k':=by
    obtain⟨_,_,q,_⟩:=a8;exact q
   obtain⟨d4,e3⟩:=hs.takeout (d:=d) (c0.trans c8) e6 e4 f3;obtain⟨A,cp,news,hv,c7,d7,e9,a7,b8⟩:=row_src a8;have d9:∀(i:Nat) u x,news[i]?=some u->new.flatten[i]?=some x->RepI w _ u x:=λi u x h1 h2=>e3 _ _ (b8 i u x h1 h2);have g3:=R3 b4
   have a9:(app X' (S3 X' b d i e e' k' gs es)).kd d=.row e' k' es:=by
    unfold S3;simp only[N8,aF];rw[U6,if_pos rfl]
   have ho:=d4.obs d;rw[a9]at ho;obtain⟨us,_,g1,_,a3,f5,f8,g4⟩:=ho;simp only[if_pos]at a3;obtain⟨v',w',d5,b6,b7,d6⟩:=nO (P:=P) (w:=w) 0 t o.type e' it z k' by_ d1 hi hz b9 a6 g5 c9 (a.eval x) es.length us a3 A new.length cp news (by rw[c7,g3]) a7 d7 (by unfold maxLen;unfold E0 at a4;omega) a4.1 (F7 _);unfold Oper.wp;rw[e0 a w v' w' (by rw[hv];exact d5),Oper.upon_value,b3];have f4:=d4.rowed (used:=some d) (d:=d) (λq hq=>⟨d,rfl,.root (lO a9) (by simp only[if_pos];exact hq)⟩) c9 g1 b4 a4.2 a3 b6 b7 d6 f5 c7 f8 d7 g4 d9
   have d8:(app X' (S3 X' b d i e e' k' gs es)).gn d=X.gn d+1:=by
    unfold S3;simp only[N8,aF];rw[X8,gn_gen,if_pos rfl,hg']
   have f7:S3 X' b d i e e' k' gs es=S3 X b d i e e' k' gs es:=by unfold S3;rw[a5,hg']
   have e7:app X' (S3 X b d i e e' k' gs es++((.knd d,.kd .dead)::([(.gen d,.n (X.gn d+2)),(.knd d,.kd (.row e' k' (es++new)))]++[(.tmp d,.av (.osl d (X.gn d+2)))])))=app (N3 (app X' (S3 X' b d i e e' k' gs es)) (some d) d (.row e' k' (es++new)) []) [(.tmp d,.av (.osl d ((app X' (S3 X' b d i e e' k' gs es)).gn d+1)))]:=by
    rw[K3,<- f7,N8,K3];unfold N3;rw[d8];rfl
   have fin:=qJ f4 (row_one b6) (U8 hd b3);rw[<- e7]at fin;exact hK _ _ ⟨_,fin⟩
  ·exact h.elim
 ·exact h.elim
def aMoves_ok{own:List Nat}{x:Operand}(hop:o.op=.move x\/o.op=.assign x)(hd:I5 B.n o=true)(h:aMoves own o X K x):∃fx,K fx/\Eff P B o fx.rd X fx.wr:=by
 have a3:=aMove_ok (P:=P) (B:=B) (X:=X) hop hd;unfold aMoves at h;split at h
 ·rename_i d a2;split at h
  ·split at h
   ·rename_i y bs a8;obtain⟨a5,h⟩:=h.out;refine⟨_,h,λX' hag a w ⟨Y,hs⟩ K' Q hK=>?_⟩;have a4:M6 X X' bs:=G9 hag
    have a6:∀p∈bs,X'.gn p.1=p.2:=λp hp=>by
     rw[<- a5 p hp];exact S5 (a4 (.gen p.1) (by unfold frd;exact O0.2 ⟨p,hp,by simp⟩))
    have h1:=D6 hs x;have hf:=fz_ok hs (bs':=bs) a6 h1 (by rw[D3 (E3 hag)];exact lK a8 a4) λ_ h=>h;obtain⟨a7,_⟩:=hs.kills bs;have run:(execOp a.eval o).run P w=.ok (.value (a.eval x)) w:=by rcases hop with e|e<;>simp[execOp,e]
    unfold Oper.wp;rw[run,Oper.upon_value,a2];refine hK _ _ ⟨Y,?_⟩;show SatR B (app X' (fwr bs++[(.tmp d,.av (.im y))])) _ _ _;rw[K3];exact a7.put (d:=some d) (λt e=>by injection e with e;subst e;exact U8 hd a2) (.im _ _ hf)
   ·exact h.elim
  ·exact⟨_,h,by rw[a2]at a3;exact a3⟩
 ·rename_i a2;exact⟨_,h,by rw[a2]at a3;exact a3⟩
def HI{a:Act}{Y:Ly}{S:Nat->Prop}{E:Nat->Nat}{d:Nat}{us vs:List Value}:∀(fs:List Field) (i:Nat) (xs ys:List AV) (r:Bool),fs.length=xs.length->intFs P i fs=true->eqCs xs ys=some r ->
  (∀(j:Nat) x,xs[j]?=some x->∃u,us[i+j]?=some u/\RepA w S Y E u x)->(∀(j:Nat) x,ys[j]?=some x->∃u,vs[i+j]?=some u/\RepA w S Y E u x)->(Op.eqFields (d+1) us.toArray vs.toArray fs).run P w=.ok r w
 |[],i,xs,ys,r,hl,_,he,_,_=>by
  have hx:xs=[]:=S7 hl.symm;subst hx;cases ys with
  |nil =>
   simp only[eqCs,C2]at he;subst he;simp[Op.eqFields]
  |cons y ys=>simp[eqCs]at he
 |f::fs,i,[],ys,r,hl,_,_,_,_=>by simp at hl
 |f::fs,i,x::xs,[],r,_,_,he,_,_=>by simp[eqCs]at he
 |f::fs,i,x::xs,y::ys,r,hl,hF,he,hx,hy=>by
  simp only[eqCs]at he;split at he
  ·rename_i k n k' m r' ex ey er;split at he
   ·rename_i hk;have hk:=of_decide_eq_true hk;subst hk;injection he with he
    subst he;simp only[intFs,intF,M4,decide_eq_true_eq]at hF;obtain⟨⟨⟨hname,hoff⟩,hty⟩,hF⟩:=hF;have hoff:=M3 hoff
    obtain⟨k0,hu⟩:∃k0,P.underlying f.type=some (.int k0):=by
     split at hty
     ·exact⟨_,by assumption⟩
     ·cases hty
    have hp:P.plainKey f.type=true:=by unfold Program.plainKey;rw[hu]
    obtain⟨u,a3,a4⟩:=hx 0 x rfl;obtain⟨v,a2,a5⟩:=hy 0 y rfl;rw[X5]at a3 a2;have e1:=T8 ex a4;have e2:=T8 ey a5;subst e1 e2;have p1:=run_part_plain (P:=P) w hp (xs:=us.toArray) (off:=f.offset) (v:=.int k n) (by rw[hoff];simpa using a3);have p2:=run_part_plain (P:=P) w hp (xs:=vs.toArray) (off:=f.offset) (v:=.int k m) (by rw[hoff];simpa using a2);have p3:=run_equalIn_int (P:=P) w d f.type k k0 n m hu
    have ih:=HI (a:=a) (d:=d) fs (i+1) xs ys r' (by simpa using hl) hF er (λj z hz=>by
     have:=hx (j+1) z (by simpa using hz)
     rwa [show i+(j+1)=i+1+j by omega]at this) (λj z hz=>by
     have:=hy (j+1) z (by simpa using hz)
     rwa [show i+(j+1)=i+1+j by omega]at this)
    simp only[Op.eqFields,if_pos hname,Sem.run_bind,p1,p2,p3,Result.andThen_ok];by_cases h:n=m
    ·subst h;simp[ih]
    ·have:(n==m)=false:=by simpa using h
     simp[this,h]
   ·cases he
  ·cases he
def aBinS_ok{op:BinOp}{t z:TypeId}{x y:Operand}(hop:o.op=.binOp op t x y z)(hd:I5 B.n o=true)(h:aBinS P o X K op t x y):∃fx,K fx/\Eff P B o fx.rd X fx.wr:=by
 unfold aBinS at h;split at h
 ·rename_i xs ys hx hy;split at h
  ·rename_i r hr;obtain⟨hT,h⟩:=h.out
   obtain⟨fs,hu,a5,hF,a7,a6⟩:∃fs,P.underlying t=some (.struct fs)/\fs.toList.length=xs.length/\intFs P 0 fs.toList=true/\P.stoodInHeld t=false/\P.eqGuardType P.depth t=false:=by
    unfold eqT at hT;split at hT
    ·rename_i fs hu;simp only[M4,oF]at hT;exact⟨fs,hu,M3 hT.1.1.1,hT.1.1.2,hT.1.2,hT.2⟩
    ·cases hT
   have a4:P.fieldsOf t=fs:=by unfold Program.fieldsOf;rw[hu]
   have a3:∀X' (a:Act) w Y,SatR B X' a w Y->(∀l∈opd x++opd y,X' l=X l)->∃us vs:List Value,a.eval x=.agg us.toArray/\a.eval y=.agg vs.toArray/\(Op.equalIn 10000 t (.agg us.toArray) (.agg vs.toArray)).run P w=.ok r w:=λX' a w Y hs hag=>by
    have g1:=D6 hs x;have g2:=D6 hs y;rw[D3 (E3 hag)]at g1;rw[D3 (G9 hag)]at g2;obtain⟨us,e1,r1,_⟩:=sQ hx g1;obtain⟨vs,e2,r2,_⟩:=sQ hy g2;refine⟨us,vs,e1,e2,?_⟩;rw[run_equalIn_agg w 9999 t _ _ (by rw[a4];exact hu) a7,a4]
    have get:∀{us:List Value} {xs:List AV},Reps w (Imm B X' Y w) Y X'.gn us xs->∀(j:Nat) x,xs[j]?=some x->∃u,us[0+j]?=some u/\RepA w (Imm B X' Y w) Y X'.gn u x:=λ{us xs} hr j x hx=>by
     have hj:=(E4.1 hx).1;rw[<- hr.1]at hj;exact⟨us[j],by rw[F9];exact J8 hj,hr.2 j _ x (J8 hj) hx⟩
    exact HI (a:=a) (d:=9998) fs.toList 0 xs ys r a5 hF hr (get r1) (get r2)
   split at h
   ·have h:=h.out;refine⟨_,h,Eff.pure hd λX' hag a w Y hs=>⟨.bool r,?_,Q1 _⟩⟩;obtain⟨us,vs,e1,e2,a2⟩:=a3 X' a w Y hs hag;simp only[execOp,hop,e1,e2,Sem.run_bind,run_eqGuard_agg w _ t x y _ _ a6,Result.andThen_ok,run_eql_struct,a2,Sem.run_pure]
   ·have h:=h.out;refine⟨_,h,Eff.pure hd λX' hag a w Y hs=>⟨.bool (!r),?_,Q1 _⟩⟩;obtain⟨us,vs,e1,e2,a2⟩:=a3 X' a w Y hs hag;simp only[execOp,hop,e1,e2,Sem.run_bind,run_eqGuard_agg w _ t x y _ _ a6,Result.andThen_ok,run_neq_struct,a2,Sem.run_pure]
   ·exact h.elim
  ·exact h.elim
 ·exact h.elim
end
end
section
section
variable {P:Program}{B:Base}{o:Oper}{X:St}{K:Fx->Prop}
def GK{X':St}{a:Act}{w:World}{Y:Ly}(h:SatR B X' a w Y){bs':E5}(hgk:∀p∈bs',X'.gn p.1=p.2):∀{l:List (Nat×Operand)} {i:Nat} {vs:List IV} {bs:E5},rJ X i l=some (vs,bs)->(∀y∈opdL (l.map (·.2)),X' y=X y)->M6 X X' bs->(∀b∈bs,b∈bs') ->
  (l.map λp=>(p.1,a.eval p.2))=(((l.map λp=>a.eval p.2).zipIdx i).map λx=>(x.2,x.1))/\X7 w (Imm B (app X' (fwr bs')) Y w) (l.map λp=>a.eval p.2) vs
 |[],i,vs,bs,e,_,_,_=>by
  simp only[rJ,C2,F0]at e;rw[<- e.1];exact⟨rfl,rfl,λi u x hu=>by simp at hu⟩
 |(j,x)::l,i,vs,bs,e,hag,hsame,hs=>by
  simp only[rJ]at e;split at e
  ·rename_i hij;subst hij;split at e
   ·rename_i v b1 vs1 bs1 h1 h2;simp only[C2,F0]at e;obtain⟨rfl,rfl⟩:=e;have hx:evA X' x=evA X x:=D3 λy hy=>hag y (by simp only[J7,opdL,P0];exact L5 _ hy);have r1:=fz_ok h hgk (D6 h x) (x:=v) (bs:=b1) (by rw[hx];exact lK h1 hsame.left) λb hb=>hs b (L5 _ hb);obtain⟨r2,r3⟩:=GK h hgk h2 (λy hy=>hag y (by simp only[J7,opdL,P0];exact L3 _ hy)) hsame.right λb hb=>hs b (L3 _ hb);refine⟨by rw[J7,r2];rfl,by simpa using r3.1,λn u y hu hy=>?_⟩;cases n with
    |zero=>simp at hu hy;rw[<- hu,<- hy];exact r1
    |succ n=>exact r3.2 n u y (by simpa using hu) (by simpa using hy)
   ·cases e
  ·cases e
def cellsI_rep{w:World}{S:Nat->Prop}{v:Value}{x:IV}(h:RepI w S v x)(h0:0<(Y0 x).length):X7 w S v.cells.toList (Y0 x)/\∀u∈v.cells.toList,u.oneCell'=true:=by
 have one:v.oneCell'=true->Y0 x=[x]->X7 w S v.cells.toList (Y0 x)/\∀u∈v.cells.toList,u.oneCell'=true:=λh1 hx=>by
  have:v.cells=#[v]:=by revert h1;cases v<;>simp[Value.oneCell',Value.cells]
  rw[this,hx];refine⟨⟨rfl,λi u y hu hy=>?_⟩,λu hu=>by simp at hu;rw[hu];exact h1⟩;cases i with
  |zero=>simp at hu hy;rw[<- hu,<- hy];exact h
  |succ i=>simp at hu
 have h':=h;cases h' with
 |val _ =>
  simp only[Y0]at h0;split at h0
  ·rename_i h1;exact one h1 (by simp only[Y0];rw[if_pos h1])
  ·simp at h0
 |any _=>simp[Y0]at h0
 |ex _ h1=>exact one h1 rfl
 |emp _ _=>exact one rfl rfl
 |sl _ _ _ _ _ _ _ _ _ _ _ _ _ _ _ _=>exact one rfl rfl
 |agg us cs hl h1 hr=>exact⟨⟨by simpa[Value.cells,Y0]using hl,λi u y hu hy=>hr i u y (by simpa[Value.cells]using hu) hy⟩,λu hu=>h1 u (by simpa[Value.cells]using hu)⟩
 |ref _ _ _ _ _ _ _ _ _=>exact one rfl rfl
 |fn _ _ _ _ _=>exact one rfl rfl
 |nsl _ _ _ _ _=>exact one rfl rfl
def flat_reps{w:World}{S:Nat->Prop}{k:Nat}(hk0:0<k):∀{us:List Value} {vs:List IV},X7 w S us vs->(∀v∈vs,(Y0 v).length=k) ->
  (∀u∈us,u.cells.size=k)/\X7 w S (us.flatMap λu=>u.cells.toList) (vs.map Y0).flatten/\∀u∈us.flatMap λu=>u.cells.toList,u.oneCell'=true
 |[],[],_,_=>⟨by simp,⟨rfl,by simp⟩,by simp⟩
 |u::us,v::vs,h,hk=>by
  obtain⟨r1,r2⟩:=cellsI_rep (h.2 0 u v rfl rfl) (by rw[hk v (by simp)];exact hk0);obtain⟨r3,r4,r5⟩:=flat_reps hk0 (us:=us) (vs:=vs) ⟨by simpa using h.1,λi u x hu hx=>h.2 (i+1) u x (by simpa using hu) (by simpa using hx)⟩ λv hv=>hk v (by simp[hv]);have hl:u.cells.toList.length=k:=by rw[r1.1,hk v (by simp)]
  refine⟨λx hx=>?_,⟨by simp only[P0,J7,W6,D4,r1.1,r4.1],λi x y hx hy=>?_⟩,λx hx=>?_⟩
  ·rcases H8.1 hx with rfl|hx
   ·simpa using hl
   ·exact r3 x hx
  ·rw[P0,P2]at hx;rw[J7,W6,P2]at hy;rw[r1.1]at hx;split at hx
   ·rename_i a2;rw[if_pos a2]at hy;exact r1.2 i x y hx hy
   ·rename_i a2;rw[if_neg a2]at hy;exact r4.2 _ x y hx hy
  ·rw[P0]at hx;rcases I8.1 hx with hx|hx
   ·exact r2 x hx
   ·exact r5 x hx
 |[],_::_,h,_=>by have:=h.1;simp at this
 |_::_,[],h,_=>by have:=h.1;simp at this
def IN{t et len k:Nat}{w:World}{parts:Array (Nat×Value)}{us:List Value}(hu:P.underlying t=some (.slice et))(hk:szOf P et=some k)(hz:eN P et k=true)(hb:∃b,byteOf P et=some b)(hk0:0<k)(hsm:len*k<=65536)(hl:us.length=len)(hp:parts.toList=(us.zipIdx 0).map λx=>(x.2,x.1))(hus:∀u∈us,u.cells.size=k) :
  (Instr.buildSlice t len parts).run P w=.ok (.slice (some ⟨w.heap.size,0,none⟩) len len) (w.alloc (.cells (us.flatMap λu=>u.cells.toList).toArray et)):=by
 obtain⟨b,hb⟩:=hb;obtain⟨i,z,hi,a5,a4,_,a6⟩:=kI hz hk hb
 have a2:∀cells:Array Value,cells.size=len*k->Instr.fill (λj=>some (j*k,k)) cells parts.toList=some (us.flatMap λu=>u.cells.toList).toArray:=λcells hc=>by
  rw[hp];exact Great.fill_whole hk0 us cells hus (by rw[hl,hc])
 by_cases h0:len*k=0
 ·have hf:=a2 ((Array.range (len*k)).map ((#[]:Array Value)[·%(#[]:Array Value).size]!)) (by simp);have a3:¬len*k > 2^24:=by omega
  simp[Instr.buildSlice,run_underlying hu,aD hk,a3,h0,newRow];simp[h0]at hf;rw[hf];simp
 ·have:=run_buildSlice (P:=P) w t et len parts (us.flatMap λu=>u.cells.toList).toArray i z hu hi a5 (by rw[a4];omega) (by rw[a4];exact h0) (by rw[a4];exact a2 _ (by simp));exact this
def zyn{own:List Nat}{t:TypeId}{len:Nat}{parts:Array (Nat×Operand)}(hop:o.op=.buildSlice t len parts)(hd:I5 B.n o=true)(hbyt:∀et,S2 P t=some et->∃b,byteOf P et=some b)(h:xH P own o X K t len parts):∃fx,K fx/\Eff P B o fx.rd X fx.wr:=by
 unfold xH at h;split at h
 ·rename_i d et a2 c0;have c7:=Y4 c0;split at h
  ·rename_i k vs bs hk b2;obtain⟨b4,h⟩:=h.ok;simp only[M4]at b4;obtain⟨⟨⟨⟨c1,c2⟩,c3⟩,c4⟩,c5⟩:=b4;have a6:vs.length=len:=by simpa using c1
   have c6:=fG c2;have b3:=aN c3;have b7:∀v∈vs,(Y0 v).length=k:=λv hv=>by simpa using P8.1 c5 v hv
   obtain⟨b8,h⟩:=h.out
   have G6:∀X' a w Y,SatR B X' a w Y->(∀y∈opdL (parts.toList.map (·.2)),X' y=X y)->M6 X X' bs->∃us:List Value,(execOp a.eval o).run P w=.ok (.value (.slice (some ⟨w.heap.size,0,none⟩) len len)) (w.alloc (.cells us.toArray et)) /\
     us.length=len*k/\X7 w (Imm B (app X' (fwr bs)) Y w) us (vs.map Y0).flatten/\(∀u∈us,u.oneCell'=true):=λX' a w Y hs hag1 hsame=>by
    have c9:∀p∈bs,X'.gn p.1=p.2:=λp hp=>by
     rw[<- b8 p hp];exact S5 (hsame (.gen p.1) (by unfold frd;exact O0.2 ⟨p,hp,by simp⟩))
    obtain⟨r1,r2⟩:=GK hs c9 b2 hag1 hsame (λ_ h=>h);obtain⟨r3,r4,r5⟩:=flat_reps b3 r2 b7;have b9:=IN (P:=P) (w:=w) (parts:=parts.map λp=>(p.1,a.eval p.2)) c7 hk c4 (hbyt et c0) b3 c6 (by rw[r2.1,a6]) (by rw[fX];exact r1) r3;refine⟨_,?_,?_,r4,r5⟩
    ·simp only[execOp,hop,Sem.run_bind,b9,Result.andThen_ok,Sem.run_pure]
    ·rw[r4.1,R3 (k:=k) (λx hx=>by obtain⟨v,hv,rfl⟩:=D7.1 hx;exact b7 v hv),B6,a6]
   have a5:∀x∈vs.map Y0,x.length=k:=λx hx=>by obtain⟨v,hv,rfl⟩:=D7.1 hx;exact b7 v hv
   have d0:len<=65536:=R9 (Nat.le_mul_of_pos_right len b3) c6;split at h
   ·refine⟨_,h,λX' hag a w ⟨Y,hs⟩ K' Q hK=>?_⟩;obtain⟨us,run,a7,a4,a8⟩:=G6 X' a w Y hs (E3 (E3 hag)) (G9 (E3 hag));obtain⟨a3,_⟩:=hs.kills bs;unfold Oper.wp;rw[run,Oper.upon_value,a2];refine hK _ _ ⟨setY Y d (.slice (some ⟨w.heap.size,0,none⟩) len len),?_⟩
    have hg:(app X' (fwr bs)).gn d=X.gn d:=by
     rw[iR];exact S5 (G9 hag (.gen d) (by simp))
    have m:lG (app X' (fwr bs)) w (w.alloc (.cells us.toArray et)) Y none (.slice (some ⟨w.heap.size,0,none⟩) len len) none :=
     ⟨World.grownBy_alloc w _ none,(λb e=>by cases e),λb e=>.inr (by simp only[D9,C2]at e;omega)⟩
    have c8:=a3.new (d:=d) (k:=.row et k (vs.map Y0)) (cs:=[]) m rfl λhI _=>by
     refine⟨us,b3,a5,by rw[B6,a6];omega,?_,a4.1,a8,λi u x hu hx=>hI _ _ (a4.2 i u x hu hx)⟩;simp only[setY,if_pos,B6,a6];exact⟨a7,.inr ⟨w.heap.size,len,us.toArray,rfl,F7 _,heap_alloc_new w _,G4 _,by unfold maxLen;omega,by simpa using a7,by rw[<- a7];simp⟩⟩
    show SatR B (app X' (fwr bs++(L4 X d (.row et k (vs.map Y0))++[(.tmp d,.av (.osl d (X.gn d+1)))]))) _ _ _;rw[K3];have:=lM (X:=X) (X':=app X' (fwr bs)) (k:=.row et k (vs.map Y0)) (cs:=[]) (v:=.osl d (X.gn d+1)) hg;simp only[P4,V0]at this;rw[this,<- hg];exact tF c8 rfl (U8 hd a2)
   ·split at h
    ·refine⟨_,h,λX' hag a w ⟨Y,hs⟩ K' Q hK=>?_⟩;obtain⟨us,run,a7,a4,a8⟩:=G6 X' a w Y hs (E3 hag) (G9 hag);obtain⟨a3,_⟩:=hs.kills bs;unfold Oper.wp;rw[run,Oper.upon_value,a2];have a9:Below w.heap.size w (w.alloc (.cells us.toArray et)):=(Below.refl _ _).alloc (G4 _) _;obtain⟨b5,hI⟩:=a3.world a9;refine hK _ _ ⟨Y,?_⟩;show SatR B (app X' (fwr bs++[(.tmp d,.av (.im (.nsl (vs.map Y0))))])) _ _ _;rw[K3];refine b5.put (d:=some d) (λt e=>by injection e with e;subst e;exact U8 hd a2) (.im _ _ ?_);refine .nsl _ _ _ _ (.sl w.heap.size 0 len k len _ us (by rw[B6,a6]) a5 (G4 _) (by omega) ⟨.inr (.inl hs.bel.size),by simp,λp b6=>?_,λhz=>?_⟩ a4.1 a8 (λi u hu=>?_) λi u x hu hx=>hI _ _ (a4.2 i u x hu hx))
     ·have:=(a3.own p _ b6).2;omega
     ·have:=(a3.res _ hz).1.2;omega
     ·rw[F9];unfold World.cell?;simp only[heap_alloc_new];simpa using hu
    ·refine⟨_,h,λX' hag a w ⟨Y,hs⟩ K' Q hK=>?_⟩;obtain⟨us,run,a7,a4,a8⟩:=G6 X' a w Y hs (E3 hag) (G9 hag);obtain⟨a3,_⟩:=hs.kills bs;unfold Oper.wp;rw[run,Oper.upon_value,a2];have a9:Below w.heap.size w (w.alloc (.cells us.toArray et)):=(Below.refl _ _).alloc (G4 _) _;obtain⟨b5,hI⟩:=a3.world a9;refine hK _ _ ⟨Y,?_⟩;show SatR B (app X' (fwr bs++[(.tmp d,.av (.im (.sl (vs.map Y0))))])) _ _ _;rw[K3];refine b5.put (d:=some d) (λt e=>by injection e with e;subst e;exact U8 hd a2) (.im _ _ ?_);refine .sl w.heap.size 0 len k len _ us (by rw[B6,a6]) a5 (G4 _) (by omega) ⟨.inr (.inl hs.bel.size),by simp,λp b6=>?_,λhz=>?_⟩ a4.1 a8 (λi u hu=>?_) λi u x hu hx=>hI _ _ (a4.2 i u x hu hx)
     ·have:=(a3.own p _ b6).2;omega
     ·have:=(a3.res _ hz).1.2;omega
     ·rw[F9];unfold World.cell?;simp only[heap_alloc_new];simpa using hu
  ·exact h.elim
 ·exact h.elim
end
end
section
section
variable {P:Program}{B:Base}{o:Oper}{X:St}{K:Fx->Prop}
def one_cells{v:Value}(h1:v.oneCell'=true):v.cells=#[v]:=by revert h1;cases v<;>simp[Value.oneCell',Value.cells]
def imm_block{a:Act}{w w':World}{Y:Ly}(hs:SatR B X a w Y){q:Option Nat}(hg:w.grownBy w' q)(hq:∀b,q=some b->∃o,Owns X Y o b):∀u x,RepI w (Imm B X Y w) u x->RepI w' (Imm B X Y w) u x:=λu x h =>
 h.mono (λ_ hb=>hb) λp v hb hc=>by
  rw[World.cell?_of_block (hg.block p.block hb.2.1 λe=>by
   obtain⟨o,ho⟩:=hq p.block e.symm
   exact hb.2.2.1 o ho)]
  exact hc
def aBuildG_ok{t:TypeId}{len:Nat}{parts:Array (Nat×Operand)}(hop:o.op=.buildSlice t len parts)(hd:I5 B.n o=true)(hbyt:∀et,S2 P t=some et->∃b,byteOf P et=some b)(h:aBuildG P o X K t len parts):∃fx,K fx/\Eff P B o fx.rd X fx.wr:=by
 unfold aBuildG at h;split at h
 ·rename_i d et x a7 b8 a4;have c0:=Y4 b8;split at h
  ·rename_i k r gr hk hx;split at h
   ·rename_i e' k' es c8;obtain⟨a9,h'⟩:=h.ok;clear h;simp only[M4]at a9;obtain⟨⟨c1,c2⟩,c3⟩:=a9;have c1:=M3 c1;have c2:=M3 c2;subst c1 c2;obtain⟨b6,h⟩:=h'.out;have h:=h.out;refine⟨_,h,λX' hag a w ⟨Y,hs⟩ K' Q hK=>?_⟩;have b9:=E3 (E3 hag);have b2:M6 X X' [(r,gr)]:=G9 (E3 hag);have a8:=G9 hag;obtain⟨b5,a5,_⟩:=b2.mem (p:=(r,gr)) (by simp);have b5:X'.gn r=gr:=b5.trans (b6 (r,gr) (by simp));have a5:=a5.trans c8;have h1:=D6 hs x;rw[D3 b9,hx]at h1
    have hv:a.eval x=Y r:=by
     generalize a.eval x=v at h1;cases h1 with
     |osl _ _ _ _ _ hh=>exact hh b5
    have ho:=hs.obs r;rw[a5]at ho;have a3:(Y r).oneCell'=true:=O4.one (inn:=Y.inn r) (k:=.row e' k' es) ho
    have a6:=IN (P:=P) (w:=w) (len:=1) (k:=1) (parts:=parts.map λp=>(p.1,a.eval p.2)) (us:=[Y r]) c0 hk c3 (hbyt et b8) (by omega) (by omega) rfl (by rw[fX,a4];simp[hv]) (λu hu=>by
     rw[K4]at hu
     rw[hu,one_cells a3]
     rfl)
    have c9:([Y r].flatMap λu=>u.cells.toList)=[Y r]:=by simp[one_cells a3]
    rw[c9]at a6
    have run:(execOp a.eval o).run P w=.ok (.value (.slice (some ⟨w.heap.size,0,none⟩) 1 1)) (w.alloc (.cells [Y r].toArray et)):=by
     simp only[execOp,hop,Sem.run_bind,a6,Result.andThen_ok,Sem.run_pure]
    unfold Oper.wp;rw[run,Oper.upon_value,a7];refine hK _ _ ?_;have c6:Below w.heap.size w (w.alloc (.cells [Y r].toArray et)):=(Below.refl _ _).alloc (G4 _) _;have hI:∀u y,RepI w (Imm B X' Y w) u y->RepI (w.alloc (.cells [Y r].toArray et)) (Imm B X' Y w) u y:=imm_block hs (World.grownBy_alloc w _ none) λb e=>by cases e
    have b7:K2 X' Y [(r,gr)]=fpk (Y r) (Y.inn r) (.row e' k' es):=by
     unfold K2;rw[P0,oE,V0,a5]
    have d0:fpk (Y r) (Y.inn r) (.row e' k' es)=(D9 (Y r)).toList:=by
     unfold fpk;rfl
    have a2:∀b∈K2 X' Y [(r,gr)],b<w.heap.size:=λb hb=>by
     obtain⟨p,_,ho⟩:=bW.1 hb;exact(hs.own p.1 b ho).2
    have hF:fpv (.slice (some ⟨w.heap.size,0,none⟩) 1 1) [Y r]=w.heap.size::K2 X' Y [(r,gr)]:=by
     rw[b7,d0];unfold fpv;rw[iK];show w.heap.size::List.filterMap D9 [Y r]=_;congr 1
    have c7:∀t,some d=some t->t<B.n:=λt e=>by injection e with e;subst e;exact U8 hd a7
    have b3:∀b∈K2 X' Y [(r,gr)],¬Imm B X' Y w b:=λb hb hi=>by
     obtain⟨p,_,ho⟩:=bW.1 hb;exact hi.2.2.1 p.1 ho
    have b4:=O4.mono (inn:=Y.inn r) (k:=.row e' k' es) (w':=w.alloc (.cells [Y r].toArray et)) ho (λb hb=>heap_alloc_old _ _ (a2 b (by rw[b7];exact hb))) hI
    obtain⟨Y',g1,g2,_⟩:=mT hs [(r,gr)] (by simp) (S':=Imm B X' Y w) (v:=.slice (some ⟨w.heap.size,0,none⟩) 1 1) (ps:=[]) (U:=X) (tp:=false) (d:=d) (l:=[.ow (.grid et e' k' [[IV.sl es]] none)]) (ys:=[]) (F':=w.heap.size::K2 X' Y [(r,gr)]) (bx:=[]) (bl:=[]) (ss':=[]) (va:=.osl d (X.gn d+1))
     (.of c6) (λb hb=>⟨.inl hb,by have:=hb.2.1;simp;omega,λhm=>by
      rcases H8.1 hm with e|hm
      ·have:=hb.2.1;omega
      ·exact b3 b hm hb⟩)
     ⟨_,_,[],rfl,⟨_,[],⟨rfl,[Y r],⟨by rw[hF];exact aQ.2 ⟨λhm=>by have:=a2 _ hm;omega,kS hs (by simp)⟩,rfl,[Y r],by simp,⟨rfl,.inr ⟨w.heap.size,1,[Y r].toArray,rfl,F7 _,heap_alloc_new w _,G4 _,by unfold maxLen;omega,rfl,rfl⟩⟩,λu hu=>by rw[K4]at hu;rw[hu];exact a3,λi u hu=>.inr ⟨hu,es,by
      cases i with
      |zero=>rfl
      |succ i=>simp at hu,by
      cases i with
      |zero =>
       simp at hu
       subst hu
       exact b4
      |succ i=>simp at hu⟩⟩,rfl⟩,rfl,rfl⟩,rfl,by
      show w.heap.size::K2 X' Y [(r,gr)]=(fpv (.slice (some ⟨w.heap.size,0,none⟩) 1 1) [Y r]++[])++[]
      rw[hF]
      simp⟩
     (aQ.2 ⟨λhm=>by have:=a2 _ hm;omega,kS hs (by simp)⟩)
     (λb hb=>by
      rcases H8.1 hb with e|hb
      ·exact⟨.inl (by omega),by rw[e];simp⟩
      ·exact⟨.inr hb,by have:=a2 b hb;simp;omega⟩)
     rfl rfl (by simp) rfl (by simp[G3,ocPl]) (λx _=>by simp) (λp hp=>by
      obtain⟨h5,h6⟩:=mX hp
      exact⟨S5 (a8 _ h5),fD (a8 _ h6)⟩)
    refine⟨Y',?_⟩;show SatR B (app X' (fwr [(r,gr)]++(J4 X [(d,.grid et e' k' [[IV.sl es]] none)]++[(.tmp d,.av (.osl d (X.gn d+1)))]))) _ _ _;rw[K3,K3];exact g1.put (d:=some d) c7 g2
   ·exact h.elim
  ·exact h.elim
 ·exact h.elim
def aAppendG_ok{c:Call}{t:TypeId}{x y:Operand}{b2 gc:Nat}(hop:o.op=.call c)(hc:c.callee=.builtin .append)(hargs:c.args=#[x,y])(hts:c.argTypes=#[t,t])(hy:evA X y=.osl b2 gc)(hd:I5 B.n o=true)(h:aAppendG P o X K t x y b2 gc):∃fx,K fx/\Eff P B o fx.rd X fx.wr:=by
 unfold aAppendG at h;split at h
 ·rename_i d et e e' k a9 d1 i4 b9;have g7:=Y4 i4;split at h
  ·rename_i m by_ b gb hm h9 hx;split at h
   ·rename_i e1 e2 k1 gs b6;obtain⟨d4,h'⟩:=h.ok;clear h;simp only[M4,oF]at d4;obtain⟨⟨⟨⟨⟨⟨c1,c2⟩,c3⟩,c4⟩,c5⟩,c6⟩,c7⟩:=d4;have c1:=M3 c1;have c2:=M3 c2;have c3:=M3 c3;have c4:=M3 c4;have c5:=M3 c5;have g4:b≠b2:=λe=>by rw[e]at c7;simp at c7
    subst c1 c2 c4 c5;subst c3;obtain⟨c9,h⟩:=h'.out;obtain⟨b4,h⟩:=h.out;have h:=h.out;obtain⟨i,z,hi,hz,e7,b8,i7⟩:=kI c6 hm h9;refine⟨_,h,λX' hag a w ⟨Y,hs⟩ K' Q hK=>?_⟩;have g6:=E3 (E3 (E3 hag));have f8:=G9 (E3 (E3 hag));have b5:M6 X X' [(b,gb),(b2,gc)]:=G9 (E3 hag);have d2:=G9 hag;obtain⟨d9,f7,_⟩:=b5.mem (p:=(b,gb)) (by simp);obtain⟨e5,e9,_⟩:=b5.mem (p:=(b2,gc)) (by simp);have d9:X'.gn b=gb:=d9.trans (c9 (b,gb) (by simp));have e5:X'.gn b2=gc:=e5.trans (c9 (b2,gc) (by simp));have b6:=f7.trans b6;have b9:=e9.trans b9;have h1:=D6 hs x;rw[D3 g6,hx]at h1;have h2:=D6 hs y;rw[D3 f8,hy]at h2
    have i6:a.eval x=Y b:=by
     generalize a.eval x=v at h1;cases h1 with
     |osl _ _ _ _ _ hh=>exact hh d9
    have h8:a.eval y=Y b2:=by
     generalize a.eval y=v at h2;cases h2 with
     |osl _ _ _ _ _ hh=>exact hh e5
    obtain⟨ub,nb,lb,i9,a6,g5,h7,f6⟩:=jG hs b6;obtain⟨uc,nc,lc,i8,d0,d5,g8,f9⟩:=jG hs b9
    obtain⟨A,cp,i5,c0⟩:∃(A:Option Addr) (cp:Nat),Y b2=.slice A a9.length cp/\(0<a9.length->∃bb q,A=some ⟨bb,q,none⟩/\∀(j:Nat) u,uc[j]?=some u->w.cell? ⟨bb,q+j,none⟩=some u):=by
     rcases d0.2 with⟨e0,h0⟩|⟨q,g9,cur,e0,_⟩
     ·exact⟨none,0,by rw[e0,h0],λh=>by omega⟩
     ·exact⟨_,g9,e0,λ_=>⟨q,0,rfl,λj u hu=>by rw[F9];exact wH d0 e0 hu⟩⟩
    obtain⟨v',w',f3,a7,a2,f4⟩:=nO (P:=P) (w:=w) 0 t o.type e1 i z 1 by_ g7 hi hz e7 b8 i7 (by omega) (Y b) gs.length ub a6 A a9.length cp uc (by rw[g8,fT]) c0 d5 (by unfold maxLen;have:=b4.2;omega) (by exact b4.1) (F7 _)
    have run:(execOp a.eval o).run P w=.ok (.value v') w':=by
     have e0:(Builtin.append_ #[t,t] o.type #[a.eval x,a.eval y]).run P w=.ok v' w':=by rw[i6,h8,i5];exact f3
     simp[execOp,hop,resolve,hc,hargs,hts,invoke,builtin,e0]
    unfold Oper.wp;rw[run,Oper.upon_value,d1];refine hK _ _ ?_
    have b7:K2 X' Y [(b,gb),(b2,gc)]=fpv (Y b) (Y.inn b)++fpv (Y b2) (Y.inn b2):=by
     unfold K2;rw[P0,P0,oE,V0,b6,b9];rfl
    have a3:(K2 X' Y [(b,gb),(b2,gc)]).Nodup:=kS hs (by simp[g4])
    have a4:∀q∈K2 X' Y [(b,gb),(b2,gc)],q<w.heap.size:=λq hq=>by
     obtain⟨p,_,ho⟩:=bW.1 hq;exact(hs.own p.1 q ho).2
    have e3:∀q∈K2 X' Y [(b,gb),(b2,gc)],¬Imm B X' Y w q:=λq hq hi=>by
     obtain⟨p,_,ho⟩:=bW.1 hq;exact hi.2.2.1 p.1 ho
    have d6:∀q,(Y b).ownBlock=some q->q∈K2 X' Y [(b,gb),(b2,gc)]:=λq hq=>by
     rw[dE a6]at hq;rw[b7];refine L5 _ ?_;unfold fpv;rw[iK,hq];exact aR ..
    have hI:∀u y,RepI w (Imm B X' Y w) u y->RepI w' (Imm B X' Y w) u y:=imm_block hs a2 λq hq=>by
     obtain⟨p,_,ho⟩:=bW.1 (d6 q hq);exact⟨p.1,ho⟩
    -- where the new row of rows lies
    have a5:((Y.inn b++Y.inn b2).filterMap D9).Sublist (K2 X' Y [(b,gb),(b2,gc)]):=by
     rw[b7,DX];refine List.Sublist.append ?_ ?_
     ·unfold fpv;rw[iK];split
      ·exact List.Sublist.refl _
      ·exact yP _ _
     ·unfold fpv;rw[iK];split
      ·exact List.Sublist.refl _
      ·exact yP _ _
    have d3:fpv v' (Y.inn b++Y.inn b2)=(D9 v').toList++(Y.inn b++Y.inn b2).filterMap D9:=by
     unfold fpv;rw[iK];cases D9 v'<;>rfl
    have a8:∀q,D9 v'=some q->(q=w.heap.size\/D9 (Y b)=some q)/\q<w'.heap.size:=λq hq=>by
     refine⟨?_,(a7.lt q (show v'.ownBlock=some q by rw[dE a7];exact hq)).2⟩;rw[<- dE a7]at hq;rcases f4 with e|e
     ·right;rw[<- dE a6,<- e];exact hq
     ·left;rw[e]at hq;exact(Option.some.inj hq).symm
    have f5:(fpv v' (Y.inn b++Y.inn b2)).Nodup:=by
     rw[d3];have h3:=a5.nodup a3;cases hq:D9 v' with
     |none=>exact h3
     |some q =>
      refine aQ.2 ⟨λhm=>?_,h3⟩;rcases (a8 q hq).1 with e|e
      ·have:=a4 q (a5.subset hm);omega
      ·have hm:q∈(Y.inn b++Y.inn b2).filterMap D9:=hm
       have hm:q∈(Y.inn b).filterMap D9\/q∈(Y.inn b2).filterMap D9:=by
        rw[<- I8,<- DX];exact hm
       rw[b7,Y7]at a3
       have e8:fpv (Y b) (Y.inn b)=q::(Y.inn b).filterMap D9:=by
        unfold fpv;rw[iK,e]
       rw[e8]at a3;rcases hm with hm|hm
       ·exact(aQ.1 a3.1).1 hm
       ·refine a3.2.2 q (aR ..) q ?_ rfl;unfold fpv;rw[iK];split
        ·exact hm
        ·exact K7 _ hm
    have b3:∀u∈Y.inn b++Y.inn b2,∀q,D9 u=some q->w'.heap[q]?=w.heap[q]?:=λu hu q hq=>by
     have hm:q∈(Y.inn b++Y.inn b2).filterMap D9:=dQ.2 ⟨u,hu,hq⟩;refine a2.block q (a4 q (a5.subset hm)) λe=>?_;rw[dE a6]at e
     have hm:q∈(Y.inn b).filterMap D9\/q∈(Y.inn b2).filterMap D9:=by
      rw[<- I8,<- DX];exact hm
     rw[b7,Y7]at a3
     have e8:fpv (Y b) (Y.inn b)=q::(Y.inn b).filterMap D9:=by
      unfold fpv;rw[iK,<- e]
     rw[e8]at a3;rcases hm with hm|hm
     ·exact(aQ.1 a3.1).1 hm
     ·refine a3.2.2 q (aR ..) q ?_ rfl;unfold fpv;rw[iK];split
      ·exact hm
      ·exact K7 _ hm
    have e4:dC w' (Imm B X' Y w) v' (Y.inn b++Y.inn b2) e1 e2 k1 (gs++a9) none:=by
     refine⟨f5,by rw[D4,D4,lb,lc],ub++uc,by rw[D4];have:=b4.2;omega,by rw[D4];exact a7,λu hu=>?_,λj u hu=>.inr ?_⟩
     ·rcases I8.1 hu with hu|hu
      ·exact g5 u hu
      ·exact d5 u hu
     ·have c8:=H0 hu;have el:ub.length=(Y.inn b).length:=h7.trans lb.symm;have e6:gs.length=(Y.inn b).length:=lb.symm;by_cases hj:j<(Y.inn b).length
      ·rw[Q3 hj]at hu;obtain⟨g1,es,g2,g3⟩:=f6 j u hu;refine⟨by rw[Q3 (by rw[el];exact hj)];exact g1,es,by rw[Q3 (by rw[e6];exact hj)];exact g2,g3.mono (b3 u c8) hI⟩
      ·have d7:(Y.inn b).length<=j:=DG hj;rw[U4 d7]at hu;obtain⟨g1,es,g2,g3⟩:=f9 _ u hu;refine⟨by rw[U4 (by rw[el];exact d7),el];exact g1,es,by rw[U4 (by rw[e6];exact d7),e6];exact g2,g3.mono (b3 u c8) hI⟩
    have hF:∀q∈fpv v' (Y.inn b++Y.inn b2),(w.heap.size<=q\/q∈K2 X' Y [(b,gb),(b2,gc)])/\q<w'.heap.size:=λq hq=>by
     rw[d3]at hq;rcases I8.1 hq with hq|hq
     ·have hq:D9 v'=some q:=by simpa using hq
      obtain⟨h3,h4⟩:=a8 q hq;refine⟨?_,h4⟩;rcases h3 with e|e
      ·exact .inl (by omega)
      ·exact .inr (d6 q (by rw[dE a6];exact e))
     ·have h3:=a5.subset hq;have:=a4 q h3;have:=a2.size;exact⟨.inr h3,by omega⟩
    have i3:∀t,some d=some t->t<B.n:=λt e=>by injection e with e;subst e;exact U8 hd d1
    have d8:v'.oneCell'=true:=row_one a7
    obtain⟨Y',g1,g2,_⟩:=mT hs [(b,gb),(b2,gc)] (by simp[g4]) (S':=Imm B X' Y w) (v:=v') (ps:=[]) (U:=X) (tp:=false) (d:=d) (l:=[.ow (.grid e1 e2 k1 (gs++a9) none)]) (ys:=[]) (F':=fpv v' (Y.inn b++Y.inn b2)) (bx:=[]) (bl:=[]) (ss':=[]) (va:=.osl d (X.gn d+1))
     ⟨a2.os,a2.tape,a2.output,a2.size,λq hq hn=>a2.block q hq λe=>hn (d6 q e.symm)⟩ (λq hq=>⟨.inl hq,by have:=hq.2.1;have:=a2.size;omega,λhm=>by
      rcases (hF q hm).1 with e|e
      ·have:=hq.2.1;omega
      ·exact e3 q e hq⟩)
     ⟨_,_,[],rfl,⟨_,[],⟨d8,Y.inn b++Y.inn b2,e4,rfl⟩,rfl,rfl⟩,rfl,by
      show fpv v' (Y.inn b++Y.inn b2)=(fpv v' (Y.inn b++Y.inn b2)++[])++[]
      simp⟩
     f5 hF rfl rfl (by simp) rfl (by simp[G3,ocPl]) (λx _=>by simp) (λp hp=>by
      obtain⟨h5,h6⟩:=mX hp
      exact⟨S5 (d2 _ h5),fD (d2 _ h6)⟩)
    refine⟨Y',?_⟩;show SatR B (app X' (fwr [(b,gb),(b2,gc)]++(J4 X [(d,.grid e1 e2 k1 (gs++a9) none)]++[(.tmp d,.av (.osl d (X.gn d+1)))]))) _ _ _;rw[K3,K3];exact g1.put (d:=some d) i3 g2
   ·exact h.elim
  ·exact h.elim
 ·exact h.elim
end
end
section
variable {n:Nat}{t:TypeId}{ks:A2}
open Go.RowKit Go.ChangeMaps
section
variable {P:Program}{B:Base}{o:Oper}{X:St}{K:Fx->Prop}
def vS{t e:TypeId}(h:arrOf P t=some (n,e)):P.underlying t=some (.array n e):=by
 unfold arrOf at h;split at h
 ·rename_i n' e' hu;simp only[C2,F0]at h;rw[hu,h.1,h.2]
 ·cases h
def FX(h:intArr P t=some n):∃e,P.underlying t=some (.array n e)/\P.underlying e=some (.int .i64)/\szOf P e=some 1:=by
 unfold intArr at h;split at h
 ·rename_i n' e he;split at h
  ·rename_i h1 h2;injection h with h
   subst h;exact⟨e,vS he,h1,h2⟩
  ·cases h
 ·cases h
def flat_sing{V G:Type}(f:V->G):∀cs:List V,(cs.map λv=>[f v]).flatten=cs.map f
 |[]=>rfl
 |c::cs=>by rw[J7,W6,flat_sing f cs];rfl
def aAllocA_ok(hop:o.op=.alloc t)(hd:I5 B.n o=true)(h:aAllocA P o X K t):∃fx,K fx/\Eff P B o fx.rd X fx.wr:=by
 unfold aAllocA at h;split at h
 ·rename_i d cs a4 hz;obtain⟨a2,h⟩:=h.ok;simp only[M4]at a2;have a5:=a2.1.1;have a9:=aN a2.1.2;have b2:=fG a2.2;have h:=h.out;refine⟨_,h,λX' hag a w ⟨Y,hs⟩ K' Q hK=>?_⟩;have hg:X'.gn d=X.gn d:=S5 (hag (.gen d) (by simp))
  obtain⟨z,a7,a8⟩:∃z:Value,(∀w,(zeroValue t).run P w=.ok z w)/\z.cells.toList=cs:=by
   unfold zeroOf at hz;split at hz
   ·rename_i i hi;cases hz0:i.zero with
    |none=>rw[hz0]at hz;cases hz
    |some z =>
     rw[hz0]at hz;simp only[K0,C2]at hz;exact⟨z,λw=>by simp[zeroValue,typeInfo,hi,hz0],hz⟩
   ·cases hz
  have run:(execOp a.eval o).run P w=.ok (.value (.pointer (some ⟨w.heap.size,0,none⟩))) (w.alloc (.cells cs.toArray t)):=by
   rw[<- a8];simp[execOp,hop,Instr.alloc,a7,newVar,newRow]
  unfold Oper.wp;rw[run,Oper.upon_value,a4]
  let hv:Value:=.slice (some ⟨w.heap.size,0,none⟩) cs.length cs.length
  refine hK _ _ ⟨setY Y d hv,?_⟩
  have m:lG X' w (w.alloc (.cells cs.toArray t)) Y none hv none :=
   ⟨World.grownBy_alloc w _ none,(λb e=>by cases e),λb e=>.inr (by simp only[hv,D9,C2]at e;omega)⟩
  have a3:(cs.map λv=>[nz1 (IV.val v)]).flatten=cs.map λv=>nz1 (.val v):=flat_sing (λv=>nz1 (IV.val v)) cs
  have a6:=hs.new (d:=d) (k:=.row t 1 (cs.map λv=>[nz1 (.val v)])) (cs:=[]) m rfl λhI _=>by
   refine⟨cs,by omega,λx hx=>by obtain⟨u,_,rfl⟩:=D7.1 hx;rfl,by rw[B6];omega,?_,by rw[a3];simp,λu hu=>P8.1 a5 u hu,λi u x hu hx=>?_⟩
   ·simp only[setY,if_pos,B6];refine⟨by simp,.inr ⟨w.heap.size,cs.length,cs.toArray,rfl,F7 _,heap_alloc_new w _,G4 _,by unfold maxLen;omega,by simp,by simp⟩⟩
   ·rw[a3,I9,hu]at hx;injection hx with hx
    subst hx;exact kB (.val u)
  have:=lM (X:=X) (X':=X') (k:=.row t 1 (cs.map λv=>[nz1 (.val v)])) (cs:=[]) (v:=.elt d (X.gn d+1) 1 0 0) hg;simp only[P4,V0]at this;show SatR B (app X' (L4 X d (.row t 1 (cs.map λv=>[nz1 (.val v)]))++[(.tmp d,.av (.elt d (X.gn d+1) 1 0 0))])) _ _ _;rw[this,<- hg];exact a6.put (d:=some d) (λt e=>by injection e with e;subst e;exact U8 hd a4) (.elt _ _ _ _ _ _ rfl (by rw[mP,if_pos rfl];omega) λ_=>⟨w.heap.size,0,cs.length,cs.length,by simp[setY,hv],by simp⟩)
 ·exact h.elim
def aAllocs_ok(hop:o.op=.alloc t)(hd:I5 B.n o=true)(h:aAllocs P o X K t):∃fx,K fx/\Eff P B o fx.rd X fx.wr:=by
 unfold aAllocs at h;split at h
 ·split at h
  ·exact aAlloc_ok hop hd h
  ·exact aAllocA_ok hop hd h
 ·exact aAlloc_ok hop hd h
def aIndexA_ok{t et:TypeId}{x i:Operand}(hop:o.op=.indexAddr t x i)(ht:arrOf P t=some (n,et))(hd:I5 B.n o=true)(h:aIndexA P o X K n et x i):∃fx,K fx/\Eff P B o fx.rd X fx.wr:=by
 have hu:=vS ht;unfold aIndexA at h;split at h
 ·rename_i kk j m hi hm
  have run:∀(a:Act) w q p,a.eval x=.pointer (some ⟨q,p,none⟩)->a.eval i=.int kk j->0<=j->j<n->(execOp a.eval o).run P w=.ok (.value (.pointer (some ⟨q,p+j.toNat*m,none⟩))) w:=λa w q p hv hn h0 a3=>by
   have hz:=aD hm w;have h3:0<=j/\j<(n:Int):=⟨h0,a3⟩;simp only[execOp,hop,hv,hn,Instr.indexAt,asIntOf,Instr.sureAddr,Sem.run_bind,Sem.run_pure,Result.andThen_ok,run_underlying hu,if_pos h3,hz,addr_add]
  split at h
  ·rename_i b g k p q hx
   have a5:∀(X':St),(∀y∈opd x++opd i++[Loc.gen b],X' y=X y)->∀a w Y,SatR B X' a w Y->X.gn b=g->∃v,a.eval x=v/\RepA w (Imm B X' Y w) Y X'.gn v (.elt b g k p q)/\a.eval i=.int kk j/\X'.gn b=g:=λX' hag a w Y hs hg=>by
    have h1:=D6 hs x;have h2:=D6 hs i;rw[D3 (E3 (E3 hag)),hx]at h1;rw[D3 (G9 (E3 hag))]at h2;exact⟨_,rfl,h1,T8 hi h2,(S5 (G9 hag (.gen b) (by simp))).trans hg⟩
   split at h
   ·rename_i hc;simp only[M4,Nat.beq_eq]at hc;obtain⟨⟨⟨rfl,rfl⟩,rfl⟩,rfl⟩:=hc;obtain⟨⟨h0,a3,hg⟩,h⟩:=h.out;refine⟨_,h,Eff.pure hd λX' hag a w Y hs=>?_⟩;obtain⟨v,hv,h1,h2,hg'⟩:=a5 X' hag a w Y hs hg;cases h1 with
    |elt _ _ _ _ _ _ a2 hgg hh =>
     obtain⟨q0,z0,n0,c0,e1,e2⟩:=hh hg';subst e2;have a4:=run a w q0 (z0+(0*1+0)) hv h2 h0 a3;exact⟨_,a4,.elt _ b g 1 j.toNat 0 rfl hgg λ_=>⟨q0,z0,n0,c0,e1,by simp⟩⟩
   ·obtain⟨⟨h0,a3,hg⟩,h⟩:=h.out;refine⟨_,h,Eff.pure hd λX' hag a w Y hs=>?_⟩;obtain⟨v,hv,h1,h2,hg'⟩:=a5 X' hag a w Y hs hg;cases h1 with
    |elt _ _ _ _ _ _ a2 hgg hh =>
     obtain⟨q0,z0,n0,c0,e1,e2⟩:=hh hg';subst e2;have a4:=run a w q0 _ hv h2 h0 a3;exact⟨_,a4,.elt _ b g k p (q+j.toNat*m) rfl hgg λ_=>⟨q0,z0,n0,c0,e1,by rw[U1,U1]⟩⟩
  ·rename_i cs hx;obtain⟨⟨h0,a3⟩,h⟩:=h.out;refine⟨_,h,Eff.pure hd λX' hag a w Y hs=>?_⟩;have h1:=D6 hs x;have h2:=D6 hs i;rw[D3 (E3 hag),hx]at h1;rw[D3 (G9 hag)]at h2;have hn:=T8 hi h2;have h1:=h1.im_inv;generalize hv:a.eval x=v at h1;cases h1 with
   |ref b q us _ hS hl a2 hu' hr =>
    refine⟨_,run a w b q hv hn h0 a3,.im _ _ (.ref b (q+j.toNat*m) (us.drop (j.toNat*m)) (cs.drop (j.toNat*m)) hS (by simp[hl]) (λu a6=>a2 u (U3 a6)) (λp u hj=>?_) λp u y hj hy=>?_)⟩
    ·rw[U2]at hj;have:=hu' _ u hj
     rwa [<- U1]at this
    ·rw[U2]at hj hy;exact hr _ u y hj hy
  ·rename_i b g p hx;obtain⟨⟨h0,a3,hg⟩,h⟩:=h.out;refine⟨_,h,Eff.pure hd λX' hag a w Y hs=>?_⟩;have h1:=D6 hs x;have h2:=D6 hs i;rw[D3 (E3 (E3 hag)),hx]at h1;rw[D3 (G9 (E3 hag))]at h2;have hn:=T8 hi h2;have hg':=(S5 (G9 hag (.gen b) (by simp))).trans hg;generalize hv:a.eval x=v at h1;cases h1 with
   |own _ _ _ _ a2 hgg hh =>
    obtain⟨q,e1,e2⟩:=hh hg';exact⟨_,run a w q p (hv.trans e2) hn h0 a3,.own _ b g (p+j.toNat*m) rfl hgg λ_=>⟨q,e1,rfl⟩⟩
  ·exact h.elim
 ·exact h.elim
def flat_ones{V:Type}:∀{es:List (List V)},(∀x∈es,x.length=1)->es.flatten.length=es.length
 |[],_=>rfl
 |x::es,h=>by
  rw[W6,D4,flat_ones λy hy=>h y (by simp[hy]),h x (by simp),E9];omega
def aLoadA_ok{p:Operand}{b g k i j:Nat}(hop:o.op=.load t p)(hp:evA X p=.elt b g k i j)(hw:wholeA P t k=true)(hd:I5 B.n o=true)(h:aLoadA P o X K t p b g k i j):∃fx,K fx/\Eff P B o fx.rd X fx.wr:=by
 have a3:cK P t=some true:=by
  unfold wholeA at hw;split at hw
  ·rename_i n hn;obtain⟨e,hu,_⟩:=FX hn;unfold cK;rw[hu];rfl
  ·cases hw
 unfold aLoadA at h;split at h
 ·rename_i t' k' es m a8 hm;obtain⟨hc,h⟩:=h.ok;simp only[M4,Nat.beq_eq]at hc;obtain⟨⟨⟨rfl,rfl⟩,rfl⟩,rfl⟩:=hc;obtain⟨⟨hg,a4⟩,h⟩:=h.out;have h:=h.out;refine⟨_,h,Eff.pure hd λX' hag a w Y hs=>?_⟩;obtain⟨a9,hg',a7,_⟩:=U9 hag;have h1:=D6 hs p;rw[D3 a9,hp]at h1;have ho:=hs.obs b;rw[a7.trans a8]at ho;obtain⟨us,h2,h3,h4,h5,h6,h7,h8⟩:=ho;generalize hv:a.eval p=v at h1;cases h1 with
  |elt _ _ _ _ _ _ a2 hgg hh =>
   obtain⟨q,z,n,c,e1,e2⟩:=hh (hg'.trans hg)
   have a5:z=0:=by
    rcases h5.2 with⟨f,_⟩|⟨_,_,_,f,_⟩
    ·rw[f]at e1;cases e1
    ·rw[f]at e1;injection e1 with e1 _ _
     injection e1 with e1
     injection e1 with _ e1
     exact e1.symm
   subst a5;rw[F9]at e2;subst e2;have a6:us.length=m:=by rw[h6,flat_ones h3,a4]
   refine⟨.agg us.toArray,?_,.im _ _ (.agg us _ h6 h7 h8)⟩
   have:=sF (P:=P) (t:=t) (us:=us) a3 (by rw[a6];exact hm) (b:=q) (q:=0*1+0) (w:=w) (λp u hu=>by
    have:=h5.cells (g:=q) (by rw[e1];rfl) p u hu
    rw[addr_add,F9]at this
    simpa using this)
   have hr:(Instr.loadAt t (a.eval p)).run P w=.ok (.agg us.toArray) w:=by rw[hv];exact this
   simp[execOp,hop,hr]
 ·exact h.elim
def aLenM_ok{c:Call}{t kt et:TypeId}{ts:List TypeId}{x:Operand}{b g:Nat}{l:List (Value×Value)}(hop:o.op=.call c)(hc:c.callee=.builtin .len)(ha:c.args.toList=[x])(ht:c.argTypes.toList=t::ts)(hm:gD P t=some (kt,et))(hx:evA X x=.osl b g)(hkd:X.kd b=.map l)(hd:I5 B.n o=true)(h:aLenM o X K x b g l):∃fx,K fx/\Eff P B o fx.rd X fx.wr:=by
 have a8:c.argTypes[0]?=some t:=by rw[<- P9,ht];rfl
 have a6:∀a:Act,(c.args.map a.eval)[0]?=some (a.eval x):=λa=>by rw[<- P9,fX,ha];rfl
 have hu:=tA hm;unfold aLenM at h;obtain⟨hg,h⟩:=h.out;have h:=h.out;refine⟨_,h,Eff.pure hd λX' hag a w Y hs=>?_⟩;obtain⟨a7,hg',a5,_⟩:=U9 hag;have h1:=D6 hs x;rw[D3 a7,hx]at h1;have ho:=hs.obs b;rw[a5.trans hkd]at ho;obtain⟨q,a4,es,e1,e2,e3,a9⟩:=ho;have a3:=MapKept.run_getObj_map (P:=P) e2;generalize hv:a.eval x=v at h1;cases h1 with
 |osl _ _ _ a2 hgg hh =>
  rw[hh (hg'.trans hg),e1]at hv;have hl:l.length=es.size:=by rw[<- e3];simp
  refine⟨.int .i64 es.size,?_,by rw[hl];exact Q1 _⟩;simp only[execOp,hop,resolve,hc,invoke,builtin,Builtin.len_,a8,a6,Sem.run_bind,Sem.run_pure,Result.andThen_ok,run_underlying hu,hv,goInt,a3]
def part_int{e:TypeId}{w:World}(hu:P.underlying e=some (.int .i64)){i:Nat}{c:Int}(h:ks[i]?=some c):(part e (ks.map (Value.int .i64)).toArray i).run P w=.ok (.int .i64 c) w:=by
 have a2:cK P e=some false:=by unfold cK;rw[hu];rfl
 have hi:(ks.map (Value.int .i64)).toArray[i]?=some (.int .i64 c):=by simp[h]
 unfold part;rw[Sem.run_bind,oU a2];simp only[Result.andThen_ok,mC,if_false,hi,Sem.run_pure]
def zC{kt e:TypeId}(hu:P.underlying kt=some (.array n e))(he:P.underlying e=some (.int .i64))(hs:szOf P e=some 1)(em:Bool)(hl:ks.length=n)(w:World):(Instr.checkKey em 10000 kt (wA ks)).run P w=.ok () w:=by
 unfold wA;rw[Instr.checkKey];simp only[Sem.run_bind,run_underlying hu,Result.andThen_ok];simp only[Std.Legacy.Range.forIn_eq_forIn_range',Std.Legacy.Range.size,oA,Nat.add_one_sub_one,Nat.div_one];have a2:∀i∈List.range' 0 n,i<ks.length:=λi hi=>by rw[hl];simpa using List.mem_range'_1.1 hi
 generalize List.range' 0 n=is at a2
 induction is with
 |nil=>simp
 |cons j is ih =>
  have hj:=a2 j (by simp);have hp:=part_int (w:=w) he (J8 hj)
  have a3:(Instr.checkKey em 9999 e (.int .i64 ks[j])).run P w=.ok () w:=by
   rw[Instr.checkKey,Sem.run_bind,run_underlying he];rfl
  simp only[List.forIn_cons,Sem.run_bind,aD hs,Result.andThen_ok,fT,hp,a3,Sem.run_pure];exact ih λy hy=>a2 y (by simp[hy])
def eq_items{e:TypeId}(he:P.underlying e=some (.int .i64)){ks ls:A2}(hl:ks.length=ls.length)(w:World):∀is:List Nat,(∀i∈is,i<ks.length) ->
  (Op.eqItems 9999 e 1 (ks.map (Value.int .i64)).toArray (ls.map (Value.int .i64)).toArray is).run P w=.ok (is.all λi=>decide (ks[i]?=ls[i]?)) w
 |[],_=>by simp[Op.eqItems]
 |i::is,h=>by
  have hi:=h i (by simp);have hi':i<ls.length:=by omega
  have p1:=part_int (w:=w) he (J8 hi);have p2:=part_int (w:=w) he (J8 hi')
  have a2:(Op.equalIn 9999 e (.int .i64 ks[i]) (.int .i64 ls[i])).run P w=.ok (ks[i]==ls[i]) w:=by
   rw[Op.equalIn,Sem.run_bind,run_underlying he];simp
  rw[CV,J8 hi,J8 hi'];simp only[Op.eqItems,fT,Sem.run_bind,p1,p2,a2,Result.andThen_ok];by_cases hc:ks[i]=ls[i]
  ·simp[hc,eq_items he hl w is λj hj=>h j (by simp[hj])]
  ·simp[hc]
def all_get{ks ls:A2}(h1:ks.length=n)(h2:ls.length=n):((List.range n).all λi=>decide (ks[i]?=ls[i]?))=decide (ks=ls):=by
 rw[Bool.eq_iff_iff];simp only[P8,M1,decide_eq_true_eq];constructor
 ·intro h;apply cT;intro i;by_cases hi:i<n
  ·exact h i hi
  ·rw[W8 (by omega),W8 (by omega)]
 ·rintro rfl i _;rfl
def equal_arr{kt e:TypeId}(hu:P.underlying kt=some (.array n e))(he:P.underlying e=some (.int .i64))(hs:szOf P e=some 1){ks ls:A2}(h1:ks.length=n)(h2:ls.length=n)(w:World):(Op.equal kt (wA ks) (wA ls)).run P w=.ok (decide (ks=ls)) w:=by
 obtain⟨i,hi,a3⟩:∃i,P.info? e=some i/\i.size=1:=by
  unfold szOf at hs;cases hi:P.info? e with
  |none=>rw[hi]at hs;cases hs
  |some i=>rw[hi]at hs;exact⟨i,rfl,by simpa using hs⟩
 have a2:P.cellsOf e=1:=by simp[Program.cellsOf,hi,a3]
 unfold Op.equal wA;rw[show Op.maxDepth=9999+1 from rfl,run_equalIn_array w 9999 _ _ hu hi,a2,eq_items he (by omega) w _ (λi hi=>by rw[h1];simpa using hi),all_get h1 h2]
def AX{kt e:TypeId}(hu:P.underlying kt=some (.array n e))(he:P.underlying e=some (.int .i64))(hs:szOf P e=some 1)(h1:ks.length=n)(w:World):∀(es:List MapEntry) (i:Nat) (m:List (A2×Value)),es.map (λe=>(e.key,e.val))=m.map (λp=>(wA p.1,p.2))->(∀p∈m,p.1.length=n) ->
  ((Instr.findAsking kt (wA ks) es i).run P w=.ok none w/\getA ks m=none/\∀v,setA ks v m=m++[(ks,v)]) \/
  ∃j e,(Instr.findAsking kt (wA ks) es i).run P w=.ok (some (i+j,e.val)) w/\getA ks m=some e.val/\es[j]?=some e/\e.key=wA ks/\∀v,(setA ks v m).map (λp=>(wA p.1,p.2))=(es.set j { e with key:=wA ks,val:=v }).map (λe=>(e.key,e.val))
 |[],i,[],_,_=>.inl ⟨by simp[Instr.findAsking],rfl,λ_=>rfl⟩
 |[],_,_::_,h,_=>by simp at h
 |_::_,_,[],h,_=>by simp at h
 |x::es,i,p::m,h,hm=>by
  simp only[J7,List.cons.injEq,F0]at h;obtain⟨⟨hk,hv⟩,ht⟩:=h;have heq:=equal_arr hu he hs h1 (hm p (by simp)) w;by_cases hc:ks=p.1
  ·refine .inr ⟨0,x,?_,?_,rfl,by rw[hk,hc],λv=>?_⟩
   ·rw[Instr.findAsking,Sem.run_bind,hk,heq];simp[hc]
   ·simp[getA,hc,hv]
   ·simp[setA,hc,ht]
  ·have hdc:decide (ks=p.1)=false:=by simp[hc]
   rcases AX hu he hs h1 w es (i+1) m ht λq hq=>hm q (by simp[hq]) with⟨f1,f2,f3⟩|⟨j,y,f1,f2,f3,f4,f5⟩
   ·refine .inl ⟨?_,?_,λv=>?_⟩
    ·rw[Instr.findAsking,Sem.run_bind,hk,heq];simp[hc,f1]
    ·simp[getA,hc,f2]
    ·simp[setA,hc,f3]
   ·refine .inr ⟨j+1,y,?_,?_,by simpa using f3,f4,λv=>?_⟩
    ·rw[Instr.findAsking,Sem.run_bind,hk,heq];simp[hc,f1,U1,bB 1 j]
    ·simp[getA,hc,f2]
    ·simp[setA,hc,f5,hk,hv]
def find_arr{kt e:TypeId}(hu:P.underlying kt=some (.array n e)){k:Value}{es:List MapEntry}(w:World):∀{ks:A2},k=wA ks->(Instr.findKey kt k es).run P w=(Instr.findAsking kt k es 0).run P w\/(es=[]/\(Instr.findKey kt k es).run P w=.ok none w):=by
 rintro ks rfl;unfold Instr.findKey;rw[Sem.run_bind,run_underlying hu];simp only[Result.andThen_ok];cases es with
 |nil=>exact .inr ⟨rfl,rfl⟩
 |cons x es=>exact .inl (by simp[Instr.findNow,Instr.sameNow,wA])
def zO{kt e:TypeId}(hu:P.underlying kt=some (.array n e)){es:List MapEntry}(w:World)(ks:A2):(Instr.findKey kt (wA ks) es).run P w=(Instr.findAsking kt (wA ks) es 0).run P w:=by
 rcases find_arr hu (es:=es) w (ks:=ks) rfl with h|⟨rfl,h⟩
 ·exact h
 ·rw[h];simp[Instr.findAsking]
def agg_wA{w:World}{S:Nat->Prop}{v:Value}(h:RepI w S v (.agg (ks.map λc=>.val (.int .i64 c)))):v=wA ks:=by
 cases h with
 |agg us cs hl h1 hr =>
  unfold wA;congr 2;apply cT;intro i;by_cases hi:i<us.length
  ·have hk:i<ks.length:=by simpa[hl]using hi
   obtain⟨u,hu⟩:∃u,us[i]?=some u:=⟨_,J8 hi⟩;have:=hr i u (.val (.int .i64 ks[i])) hu (by simp[J8 hk]);cases this;rw[hu];simp[J8 hk]
  ·have hk:¬i<ks.length:=by simpa[hl]using hi
   rw[W8 (by omega),W8 (by simp;omega)]
def same_zip:∀ks:A2,(((ks.map (Value.int .i64)).zip (ks.map (Value.int .i64))).all λ(x,y)=>Instr.sameBits 9999 x y)=true
 |[]=>rfl
 |k::ks=>by
  rw[J7,List.zip_cons_cons,CV,same_zip ks];simp[Instr.sameBits]
def sameBits_wA(ks:A2):Instr.sameBits 10000 (wA ks) (wA ks)=true:=by
 unfold wA;rw[Instr.sameBits];simp only[beq_self_eq_true,Bool.true_and];exact same_zip ks
def GA(h:oN P t=some n):∃kt et e,P.underlying t=some (.map kt et)/\gD P t=some (kt,et)/\P.underlying kt=some (.array n e)/\P.underlying e=some (.int .i64)/\szOf P e=some 1:=by
 unfold oN at h;split at h
 ·rename_i k et hm;obtain⟨e,h1,h2,h3⟩:=FX h;exact⟨k,et,e,tA hm,hm,h1,h2,h3⟩
 ·cases h
def aLookupA_ok{x i:Operand}{ok:Bool}(hop:o.op=.lookup t x i ok)(hka:oN P t=some n)(hd:I5 B.n o=true)(h:aLookupA P o X K n t x i ok):∃fx,K fx/\Eff P B o fx.rd X fx.wr:=by
 obtain⟨kt,et,e,a5,b5,hu,he,a4⟩:=GA hka;unfold aLookupA at h;split at h
 ·rename_i c0 b9 b g cs a2 hx hi;rw[b5]at a2;simp only[C2,F0]at a2;obtain⟨rfl,rfl⟩:=a2;split at h
  ·rename_i l z b6 hz;obtain⟨hg,ks,m,⟨k1,k2,k3,k4⟩,h⟩:=h.out;have h:=h.out
   have a3:∀X',(∀y∈opd x++opd i++[.gen b,.knd b],X' y=X y)->∀a w,Sat B X' a w->(execOp a.eval o).run P w=.ok (.value (if ok=true then .tuple #[(getA ks m).getD z,.bool (getA ks m).isSome] else(getA ks m).getD z)) w:=λX' hag a w ⟨Y,hs⟩=>by
    obtain⟨ha,hg',b4,_⟩:=U9 hag;have h1:=D6 hs x;have h2:=D6 hs i;rw[D3 (E3 ha),hx]at h1;rw[D3 (G9 ha),hi,k1]at h2;have a6:=agg_wA h2.im_inv;have ho:=hs.obs b;rw[b4.trans b6]at ho;obtain⟨q,a8,es,e1,e2,e3,b8⟩:=ho
    have a9:a.eval x=.map (some q):=by
     generalize a.eval x=v at h1;cases h1 with
     |osl _ _ _ _ _ hh=>rw[hh (hg'.trans hg),e1]
    have b7:∀w,(zeroValue et).run P w=.ok z w:=λw=>by
     unfold zeroV at hz;split at hz
     ·rename_i it b3;simp[zeroValue,typeInfo,b3,hz]
     ·cases hz
    have a7:=MapKept.run_getObj_map (P:=P) e2;have b2:=AX hu he a4 k2 w es.toList 0 m (e3.trans k3) k4;simp only[execOp,hop,a9,a6,Instr.lookup,Sem.run_bind,run_underlying a5,Result.andThen_ok,a7,Sem.run_pure,zC hu he a4 _ k2,zO hu];rcases b2 with⟨f1,f2,_⟩|⟨j,y,f1,f2,_⟩
    ·rw[f1,f2];cases ok<;>simp[b7]
    ·rw[f1,f2];cases ok<;>simp
   split at h
   ·have h:=h.out;refine⟨_,h,Eff.pure hd λX' hag a w Y hs=>⟨_,a3 X' hag a w ⟨Y,hs⟩,?_⟩⟩;simp only[if_true]
    exact .tup [(getA ks m).getD z,.bool (getA ks m).isSome] _ rfl λj u y hu hy=>by
     match j with
     |0=>simp at hu hy;rw[<- hu,<- hy];exact Q1 _
     |1=>simp at hu hy;rw[<- hu,<- hy];exact vB_rep _
     |j+2=>simp at hu
   ·refine⟨_,h,Eff.pure hd λX' hag a w Y hs=>⟨_,a3 X' hag a w ⟨Y,hs⟩,?_⟩⟩;simp only[mC,if_false];exact Q1 _
  ·exact h.elim
 ·exact h.elim
def zye{x i y:Operand}(hop:o.op=.mapUpdate t x i y)(hka:oN P t=some n)(hd:I5 B.n o=true)(h:AT P o X K n t x i y):∃fx,K fx/\Eff P B o fx.rd X fx.wr:=by
 obtain⟨kt,et,e,a5,c8,hu,he,a7⟩:=GA hka;unfold AT at h;split at h
 ·rename_i b g cs v c7 hx hi hy;split at h
  ·rename_i l a9;obtain⟨hg,ks,m,⟨k1,k2,k3,k4⟩,h⟩:=h.out;have h:=h.out;refine⟨_,h,λX' hag a w ⟨Y,hs⟩ K' Q hK=>?_⟩;obtain⟨ha,hg',a8,_⟩:=U9 hag;have h1:=D6 hs x;have h2:=D6 hs i;have h3:=D6 hs y;rw[D3 (E3 (E3 ha)),hx]at h1;rw[D3 (G9 (E3 ha)),hi,k1]at h2;rw[D3 (G9 ha)]at h3;have b2:=agg_wA h2.im_inv;have hv:=sU hy h3;have ho:=hs.obs b;rw[a8.trans a9]at ho;obtain⟨q,a3,es,e1,e2,e3,b4⟩:=ho
   have b8:a.eval x=.map (some q):=by
    generalize a.eval x=u at h1;cases h1 with
    |osl _ _ _ _ _ hh=>rw[hh (hg'.trans hg),e1]
   have b3:=MapKept.run_getObj_map (P:=P) e2;have a6:live X' b:=by unfold live;rw[a8.trans a9];exact λz=>by cases z
   have c6:D9 (Y b)=some q:=by rw[e1];rfl
   have fin:∀(a4:Array MapEntry) (a2:Nat),(a4.toList.map λe=>(e.key,e.val))=(setA ks v m).map (λp=>(wA p.1,p.2))->dY a4 a2->(execOp a.eval o).run P w=.ok .skip (setBlock w q (.map a4 a2))->o.wp P a w K' Q:=λa4 a2 b9 b6 b7=>by
    unfold Oper.wp;rw[b7,Oper.upon_skip];refine hK _ _ ⟨Y,?_⟩
    have c0:=hs.turn (b:=b) (q:=q) (w':=setBlock w q (.map a4 a2)) (k':=.map ((setA ks v m).map λp=>(wA p.1,p.2))) a6 c6 ⟨rfl,rfl,rfl,by simp[setBlock],λi _ hi=>heap_setBlock_other e2 _ (λe=>hi (by rw[e]))⟩ (λc hc=>by unfold Owns;rw[a8.trans a9];exact hc) λhI =>
     ⟨q,a2,a4,e1,heap_setBlock_same e2 _,b9,b6⟩
    rw[N8];exact c0.put (cZ hd) (Q1 _)
   rcases AX hu he a7 k2 w es.toList 0 m (e3.trans k3) k4 with⟨f1,f2,f3⟩|⟨j,y',f1,f2,f3,f4,f5⟩
   ·refine fin (es.push { key:=wA ks,val:=v,born:=a3 }) (a3+1) (by rw[f3];simp[<- k3,e3]) (b4.push _ _) ?_;simp only[execOp,hop,b8,b2,hv,Instr.mapUpdate,Sem.run_bind,run_underlying a5,Result.andThen_ok,b3,Sem.run_pure,zC hu he a7 _ k2,zO hu,f1,MapKept.run_setObj_map _ e2];rfl
   ·have hj:es[j]?=some y':=by rw[<- P9];exact f3
    have b5:j<es.size:=(jY.1 hj).1;refine fin (es.modify j λe=>{ e with key:=wA ks,val:=v }) a3 ?_ (b4.modify _ _ λ_=>rfl) ?_
    ·rw[f5];congr 1;apply cT;intro n;rw[P9,vA,rH];by_cases hn:j=n
     ·subst hn;rw[if_pos rfl,if_pos rfl,if_pos (by simpa using b5),hj];rfl
     ·rw[if_neg hn,if_neg hn,P9]
    ·simp only[execOp,hop,b8,b2,hv,Instr.mapUpdate,Sem.run_bind,run_underlying a5,Result.andThen_ok,b3,Sem.run_pure,zC hu he a7 _ k2,zO hu,f1,F9];rw[hj];simp only[K0,N1,f4];unfold Instr.keyThatStays;rw[sameBits_wA];simp only[if_true,Sem.run_pure,Result.andThen_ok,MapKept.run_setObj_map _ e2];rfl
  ·exact h.elim
 ·exact h.elim
end
end
section
section
variable {P:Program}{B:Base}{o:Oper}{X:St}{K:Fx->Prop}
def AN{V:Type}{p:V->Prop}:∀(ds cs:List V) (i:Nat),(∀x∈cs,p x)->(∀x∈ds,p x)->∀x∈dZ cs i ds,p x
 |[],cs,i,h,_=>h
 |d::ds,cs,i,h,k=>by
  rw[dZ];refine AN ds _ _ (λx hx=>?_) λx hx=>k x (by simp[hx]);rcases rI hx with h1|h1
  ·exact h x h1
  ·rw[h1];exact k d (by simp)
def BC(off:Nat):∀(vs:List Value) (j:Nat) (cells:Array Value),((vs.zipIdx j).foldl (λcs (p:Value×Nat)=>cs.setIfInBounds (off+p.2) p.1) cells).toList=dZ cells.toList (off+j) vs
 |[],j,cells=>rfl
 |v::vs,j,cells=>by
  rw[List.zipIdx_cons,uR,BC off vs,dZ,Array.toList_setIfInBounds,U1]
def BL{w:World}{S:Nat->Prop}{Y:Ly}{E:Nat->Nat}:∀{vs:List Value} {ds:List AV} {us:List Value} {cs:List AV} (i:Nat),Reps w S Y E us cs->Reps w S Y E vs ds->Reps w S Y E (dZ us i vs) (dZ cs i ds)
 |[],[],us,cs,i,h,_=>h
 |v::vs,d::ds,us,cs,i,h,k=>by
  rw[dZ,dZ];refine BL (i+1) ⟨by simpa using h.1,λj u x hu hx=>?_⟩ ⟨by simpa using k.1,λj u x hu hx=>k.2 (j+1) u x (by simpa using hu) (by simpa using hx)⟩;rw[rH]at hu hx;by_cases e:i=j
  ·rw[if_pos e]at hu hx;split at hu
   ·rename_i h1;rw[if_pos (by rw[<- h.1];exact h1)]at hx;injection hu with hu
    injection hx with hx
    rw[<- hu,<- hx];exact k.2 0 v d rfl rfl
   ·cases hu
  ·rw[if_neg e]at hu hx;exact h.2 j u x hu hx
 |[],_::_,_,_,_,_,h=>by have:=h.1;simp at this
 |_::_,[],_,_,_,_,h=>by have:=h.1;simp at this
def plc_get{t:TypeId}{ps:E5}(h:plcOf P t=some ps){i off ft m:Nat}(hf:fldOf P t i=some (off,ft))(hm:szOf P ft=some m):ps.toArray[i]?=some (off,m):=by
 obtain⟨fs,x,hu,hx,ho,ht⟩:=fld_spec hf;unfold plcOf at h;rw[hu]at h;simp only at h
 have key:∀(l:List Field) (ps:E5),l.mapM (λf=>(P.info? f.type).map λi=>(f.offset,i.size))=some ps->∀(i:Nat) x,l[i]?=some x->∀m,szOf P x.type=some m->ps[i]?=some (x.offset,m):=by
  intro l
  induction l with
  |nil=>intro ps _ i x hx;simp at hx
  |cons f l ih =>
   intro ps hp i x hx m hm;simp only[List.mapM_cons,Option.bind_eq_bind,Option.pure_def]at hp;cases hi:P.info? f.type with
   |none=>simp[hi]at hp
   |some ii =>
    cases hr:l.mapM (λf=>(P.info? f.type).map λi=>(f.offset,i.size)) with
    |none=>simp[hi,hr]at hp
    |some rest =>
     simp[hi,hr]at hp;subst hp;cases i with
     |zero =>
      simp at hx;subst hx;unfold szOf at hm;rw[hi]at hm;simp at hm;simp[hm]
     |succ i=>simpa using ih rest hr i x (by simpa using hx) m hm
 have:=key fs.toList ps h i x (by rw[P9];exact hx) m (by rw[ht];exact hm);rw[<- ho];simpa using this
def FU{t:TypeId}{ps:E5}(hps:plcOf P t=some ps){X':St}{a:Act}{w:World}{Y:Ly}(h:SatR B X' a w Y):∀{l:List (Nat×Operand)} {cs cs':List AV} {cells:Array Value},buildA P t X l cs=some cs'->(∀y∈opdL (l.map (·.2)),X' y=X y) ->
  Reps w (Imm B X' Y w) Y X'.gn cells.toList cs->(∀u∈cells.toList,u.oneCell'=true)->∃cells',Instr.fill (ps.toArray[·]?) cells (l.map λp=>(p.1,a.eval p.2))=some cells'/\Reps w (Imm B X' Y w) Y X'.gn cells'.toList cs'/\∀u∈cells'.toList,u.oneCell'=true
 |[],cs,cs',cells,e,_,hr,h1=>by
  simp only[buildA,C2]at e;subst e;exact⟨cells,rfl,hr,h1⟩
 |(i,x)::l,cs,cs',cells,e,hag,hr,h1=>by
  simp only[buildA]at e;split at e
  ·rename_i off ft vs hf hc;split at e
   ·rename_i m hm;split at e
    ·rename_i hchk;rw[M4]at hchk;have hml:m=vs.length:=by simpa using hchk.1
     have a5:=fG hchk.2;have hx:=D6 h x;rw[D3 λy hy=>hag y (by simp only[J7,opdL,P0];exact L5 _ hy)]at hx;have r1:=nF hc hx;have r2:=nE hc hx;have a6:(a.eval x).cells.size=m:=by rw[hml,<- r1.1];simp
     have a2:=BC off (a.eval x).cells.toList 0 cells;rw[X5]at a2;generalize a3:((a.eval x).cells.zipIdx.foldl (λcs (p:Value×Nat)=>cs.setIfInBounds (off+p.2) p.1) cells)=cells1
     have a4:cells1.toList=dZ cells.toList off (a.eval x).cells.toList:=by
      rw[<- a2,<- a3,<- Array.foldl_toList,Array.toList_zipIdx]
     obtain⟨cells',q1,q2,q3⟩:=FU hps h (l:=l) (cells:=cells1) e (λy hy=>hag y (by simp only[J7,opdL,P0];exact L3 _ hy)) (by rw[a4];exact BL off hr r1) (by rw[a4];exact AN _ _ _ h1 r2);refine⟨cells',?_,q2,q3⟩;rw[<- q1,<- a3]
     have hg:¬((a.eval x).cells.size≠m\/off+(a.eval x).cells.size > cells.size):=by
      have:=hr.1;simp at this;omega
     simp only[J7,Instr.fill,plc_get hps hf hm];rw[if_neg (by simpa using hg)]
    ·cases e
   ·cases e
  ·cases e
def aBuild_ok{t:TypeId}{parts:Array (Nat×Operand)}(hop:o.op=.build t parts)(hd:I5 B.n o=true)(h:aBuild P o X K t parts):∃fx,K fx/\Eff P B o fx.rd X fx.wr:=by
 unfold aBuild at h;split at h
 ·rename_i z hz;split at h
  ·rename_i cs a7;obtain⟨a3,h⟩:=h.ok;rw[M4]at a3;refine⟨_,h,Eff.pure hd λX' hag a w Y hs=>?_⟩;obtain⟨ps,a4⟩:=KD.1 a3.1
   obtain⟨it,zv,a8,a2,a5⟩:∃it zv,P.info? t=some it/\it.zero=some zv/\zv.cells.toList=z:=by
    unfold zeroOf at hz;split at hz
    ·rename_i i hi;cases a2:i.zero with
     |none=>rw[a2]at hz;cases hz
     |some zv =>
      rw[a2]at hz;simp only[K0,C2]at hz;exact⟨i,zv,hi,a2,hz⟩
    ·cases hz
   obtain⟨fs,hu,a6⟩:∃fs,P.underlying t=some (.struct fs)/\fs.toList.mapM (λf=>(P.info? f.type).map λi=>(f.offset,i.size))=some ps:=by
    unfold plcOf at a4;split at a4
    ·rename_i fs hu;exact⟨fs,hu,a4⟩
    ·cases a4
   obtain⟨cells',q1,q2,q3⟩:=FU a4 hs (cells:=zv.cells) a7 hag (by rw[a5];exact⟨by simp,λi u y hu hy=>by
    simp only[I9,hu,K0,C2]at hy
    rw[<- hy]
    exact .im _ _ (.val _)⟩) (by rw[a5];exact λu hu=>P8.1 a3.2 u hu)
   refine⟨.agg cells',?_,by simpa using oZ q2 q3⟩
   have hb:P.built t (parts.map λ(i,x)=>(i,a.eval x)).toList=some cells':=by
    unfold Program.built;simp only[a8,hu,a2,a6,fX];exact q1
   simp only[execOp,hop,Sem.run_bind,run_build w t _ cells' hb,Result.andThen_ok,Sem.run_pure]
  ·exact h.elim
 ·exact h.elim
def GC{pl:Nat->Option (Nat×Nat)}{X':St}{a:Act}{w:World}{Y:Ly}(h:SatR B X' a w Y):∀{l:List (Nat×Operand)} {cs cs':List AV} {cells:Array Value},buildG pl X l cs=some cs'->(∀y∈opdL (l.map (·.2)),X' y=X y) ->
  Reps w (Imm B X' Y w) Y X'.gn cells.toList cs->(∀u∈cells.toList,u.oneCell'=true)->∃cells',Instr.fill pl cells (l.map λp=>(p.1,a.eval p.2))=some cells'/\Reps w (Imm B X' Y w) Y X'.gn cells'.toList cs'/\∀u∈cells'.toList,u.oneCell'=true
 |[],cs,cs',cells,e,_,hr,h1=>by
  simp only[buildG,C2]at e;subst e;exact⟨cells,rfl,hr,h1⟩
 |(i,x)::l,cs,cs',cells,e,hag,hr,h1=>by
  simp only[buildG]at e;split at e
  ·rename_i off m vs hf hc;split at e
   ·rename_i hchk;rw[M4]at hchk;have hml:m=vs.length:=by simpa using hchk.1
    have a5:=fG hchk.2;have hx:=D6 h x;rw[D3 λy hy=>hag y (by simp only[J7,opdL,P0];exact L5 _ hy)]at hx;have r1:=nF hc hx;have r2:=nE hc hx;have a6:(a.eval x).cells.size=m:=by rw[hml,<- r1.1];simp
    have a2:=BC off (a.eval x).cells.toList 0 cells;rw[X5]at a2;generalize a3:((a.eval x).cells.zipIdx.foldl (λcs (p:Value×Nat)=>cs.setIfInBounds (off+p.2) p.1) cells)=cells1
    have a4:cells1.toList=dZ cells.toList off (a.eval x).cells.toList:=by
     rw[<- a2,<- a3,<- Array.foldl_toList,Array.toList_zipIdx]
    obtain⟨cells',q1,q2,q3⟩:=GC h (l:=l) (cells:=cells1) e (λy hy=>hag y (by simp only[J7,opdL,P0];exact L3 _ hy)) (by rw[a4];exact BL off hr r1) (by rw[a4];exact AN _ _ _ h1 r2);refine⟨cells',?_,q2,q3⟩;rw[<- q1,<- a3]
    have hg:¬((a.eval x).cells.size≠m\/off+(a.eval x).cells.size > cells.size):=by
     have:=hr.1;simp at this;omega
    simp only[J7,Instr.fill,hf];rw[if_neg (by simpa using hg)]
   ·cases e
  ·cases e
def aBuildR_ok{t et:TypeId}{n:Nat}{parts:Array (Nat×Operand)}(hop:o.op=.build t parts)(ht:arrOf P t=some (n,et))(hd:I5 B.n o=true)(h:aBuildR P o X K t et parts):∃fx,K fx/\Eff P B o fx.rd X fx.wr:=by
 unfold aBuildR at h;split at h
 ·rename_i z m hz hm;split at h
  ·rename_i cs a7;obtain⟨a3,h⟩:=h.ok;refine⟨_,h,Eff.pure hd λX' hag a w Y hs=>?_⟩
   obtain⟨it,zv,a8,a2,a4⟩:∃it zv,P.info? t=some it/\it.zero=some zv/\zv.cells.toList=z:=by
    unfold zeroOf at hz;split at hz
    ·rename_i i hi;cases a2:i.zero with
     |none=>rw[a2]at hz;cases hz
     |some zv =>
      rw[a2]at hz;simp only[K0,C2]at hz;exact⟨i,zv,hi,a2,hz⟩
    ·cases hz
   obtain⟨ie,a6,a5⟩:∃ie,P.info? et=some ie/\ie.size=m:=by
    unfold szOf at hm;cases hi:P.info? et with
    |none=>rw[hi]at hm;cases hm
    |some i =>
     rw[hi]at hm;simp only[K0,C2]at hm;exact⟨i,rfl,hm⟩
   obtain⟨cells',q1,q2,q3⟩:=GC hs (cells:=zv.cells) a7 hag (by rw[a4];exact⟨by simp,λi u y hu hy=>by
    simp only[I9,hu,K0,C2]at hy
    rw[<- hy]
    exact .im _ _ (.val _)⟩) (by rw[a4];exact λu hu=>P8.1 a3 u hu)
   refine⟨.agg cells',?_,by simpa using oZ q2 q3⟩
   have hb:P.built t (parts.map λ(i,x)=>(i,a.eval x)).toList=some cells':=by
    unfold Program.built;simp only[a8,vS ht,a2,a6,a5,fX];exact q1
   simp only[execOp,hop,Sem.run_bind,run_build w t _ cells' hb,Result.andThen_ok,Sem.run_pure]
  ·exact h.elim
 ·exact h.elim
def aIndexX_ok{t:TypeId}{x i:Operand}(hop:o.op=.index t x i)(hd:I5 B.n o=true)(h:aIndexX P o X K t x i):∃fx,K fx/\Eff P B o fx.rd X fx.wr:=by
 unfold aIndexX at h;split at h
 ·rename_i n et cs k j ht a8 hj;split at h
  ·rename_i m a4 hm;obtain⟨hi,h'⟩:=h.ok;clear h;rw[M4]at hi;have hn:n=2:=by simpa using hi.1
   have a9:=fG hi.2;subst hn;have hu:=vS ht
   have a3:∀(q:Nat),j=(q:Int)->q<2->∀X',(∀l∈opd x++opd i,X' l=X l)->∀a w Y,SatR B X' a w Y->∃u,(execOp a.eval o).run P w=.ok (.value u) w/\RepA w (Imm B X' Y w) Y X'.gn u (aggA ((cs.drop (q*m)).take m)):=λq hq hq2 X' hag a w Y hs=>by
    have h1:=D6 hs x;rw[D3 (E3 hag)]at h1;have h2:=D6 hs i;rw[D3 (G9 hag)]at h2;obtain⟨us,hv,hr,a2⟩:=sQ a8 h1;have a5:=T8 hj h2;have ha:=oU a4 w;have hz:=aD hm w;refine⟨.agg ((us.drop (q*m)).take m).toArray,?_,oZ ⟨by simp[hr.1],λj u y hj a6=>?_⟩ λu a7=>a2 u (U3 (Q4 a7))⟩
    ·have e1:(0:Int)<=j/\j<2:=by omega
     have e2:j.toNat=q:=by omega
     simp[execOp,hop,hv,a5,Instr.index,asIntOf,run_underlying hu,part,ha,hz,e1,e2]
    ·exact hr.2 _ u y (eH hj).1 (eH a6).1
   have h:=h'.out;by_cases e:j=0
   ·refine⟨_,h.1 (E6 e),Eff.pure hd λX' hag a w Y hs=>?_⟩;have:=a3 0 (by omega) (by omega) X' hag a w Y hs;simpa using this
   ·obtain⟨h1,h⟩:=(h.2 (I3 e)).out;refine⟨_,h,Eff.pure hd λX' hag a w Y hs=>?_⟩;have:=a3 1 (by omega) (by omega) X' hag a w Y hs;simpa using this
  ·exact h.elim
 ·exact h.elim
def IF{t:TypeId}{k:Nat}(h:szOf P t=some k):∃b,byteOf P t=some b:=by
 unfold szOf at h;unfold byteOf;cases hi:P.info? t with
 |none=>rw[hi]at h;cases h
 |some i=>exact⟨i.bytes,rfl⟩
def aOp_ok{C:FuncId->List Arg->Rs->Prop}(hC:∀g xs r,C g xs r->SpX P g xs r){own:List Nat}(hd:I5 B.n o=true)(h:aOp P own o X K C):∃fx,K fx/\Eff P B o fx.rd X fx.wr:=by
 unfold aOp at h;split at h
 ·rename_i x a2;exact aMoves_ok (.inl a2) hd h
 ·rename_i x a2;exact aMoves_ok (.inr a2) hd h
 ·rename_i c x y a2;exact aPick_ok a2 hd h
 ·rename_i t p a2;unfold aLoads at h;split at h
  ·rename_i hp;exact aLoadS_ok a2 hp hd h
  ·rename_i hp;split at h
   ·exact aLoadG_ok a2 hp hd h
   ·split at h
    ·rename_i hw;exact aLoadA_ok a2 hp hw hd h
    ·exact aLoad_ok a2 hd h
  ·exact aLoad_ok a2 hd h
 ·rename_i t p x a2;split at h
  ·rename_i hp;split at h
   ·exact aStoreG_ok a2 hp hd h
   ·exact aStoreE_ok a2 hd hp h
  ·rename_i hp;exact aStoreS_ok a2 hp hd h
  ·exact aStore_ok a2 hd h
 ·rename_i t x a2;exact aBox_ok a2 hd h
 ·rename_i t a2;exact aAllocs_ok a2 hd h
 ·rename_i t p f a2;exact aFieldAddr_ok a2 hd h
 ·rename_i t x f a2;exact aField_ok a2 hd h
 ·rename_i t x i a2;unfold aIndexes at h;split at h
  ·rename_i hx;exact aIndexV_ok a2 hx hd h
  ·rename_i hx;exact aIndexS_ok a2 hx hd h
  ·rename_i hx;split at h
   ·exact aIndexG_ok a2 hx hd h
   ·exact IB a2 hd h
  ·split at h
   ·rename_i ht;exact aIndexA_ok a2 ht hd h
   ·exact IB a2 hd h
 ·rename_i t x lo hi mx a2;cases mx with
  |some m=>exact aSlice3_ok a2 hd h
  |none =>
  replace h:aSlices P o X K t x lo hi:=h;unfold aSlices at h;split at h
  ·rename_i hx;split at h
   ·split at h
    ·exact aSliceQ_ok a2 hx hd h
    ·exact aSliceV_ok a2 hx hd h
   ·exact aSliceT_ok a2 hx hd h
   ·exact h.elim
  ·exact aSlice_ok a2 hd h
 ·rename_i t parts a2;unfold aBuilds at h;split at h
  ·rename_i ht;exact aBuildR_ok a2 ht hd h
  ·exact aBuild_ok a2 hd h
 ·rename_i t x i a2;exact aIndexX_ok a2 hd h
 ·rename_i t len parts a2;split at h
  ·rename_i d0 b5;split at h
   ·refine aBuildG_ok a2 hd (λet a9=>?_) h;unfold aBuildG at h;split at h
    ·rename_i d b4 x b3 a6 hp;rw[a9]at a6;injection a6 with a6
     subst a6;split at h
     ·rename_i k r gr hk hx;exact IF hk
     ·exact h.elim
    ·exact h.elim
   ·refine zyn a2 hd (λet a9=>?_) h;unfold xH at h;split at h
    ·rename_i d b4 b3 a6;rw[a9]at a6;injection a6 with a6
     subst a6;split at h
     ·rename_i k vs bs hk _;exact IF hk
     ·exact h.elim
    ·exact h.elim
  ·exact h.elim
 ·rename_i x i a2;exact aExtract_ok a2 hd h
 ·rename_i op t x y t' a2;unfold aBins at h;split at h
  ·exact aBinS_ok a2 hd h
  ·split at h
   ·rename_i hp;exact aBinN_ok a2 hp hd h
   ·split at h
    ·rename_i hp;exact aBinZ_ok a2 hp hd h
    ·exact aBin_ok a2 hd h
 ·rename_i op t x a2;exact aUn_ok a2 hd h
 ·rename_i src dst x a2;obtain⟨hm,h⟩:=h.ok;exact aConvert_ok a2 hd (KD.1 hm) h
 ·rename_i fn first b2 a2;exact aMakeFunc_ok a2 hd h
 ·rename_i x a2;exact aNilCheck_ok a2 hd h
 ·rename_i t len b6 a2;exact aMakeSlice_ok a2 hd h
 ·rename_i t r a2;exact aMakeMap_ok a2 hd h
 ·rename_i t x i ok a2;split at h
  ·rename_i a8;exact aLookupA_ok a2 a8 hd h
  ·exact aLookup_ok a2 hd h
 ·rename_i t x i y a2;split at h
  ·rename_i a8;exact zye a2 a8 hd h
  ·exact aMapUpdate_ok a2 hd h
 ·rename_i c a2;unfold aCalls at h;split at h
  ·rename_i b a4;unfold aBuiltin at h;split at h
   ·split at h
    ·rename_i x a3;split at h
     ·rename_i t ts a5;unfold aLens at h;split at h
      ·rename_i hx;split at h
       ·rename_i he;exact aLenV_ok a2 a4 a3 a5 he hx hd h
       ·exact h.elim
      ·rename_i hx;split at h
       ·rename_i he;exact aLenS_ok a2 a4 a3 a5 he hx hd h
       ·exact h.elim
      ·rename_i hx;split at h
       ·split at h
        ·rename_i he;exact aLenG_ok a2 a4 a3 a5 he hx hd h
        ·exact h.elim
       ·split at h
        ·rename_i hm hk;exact aLenM_ok a2 a4 a3 a5 hm hx hk hd h
        ·exact aLen_ok a2 a4 a3 a5 hd h
      ·exact aLen_ok a2 a4 a3 a5 hd h
     ·exact h.elim
    ·exact h.elim
   ·split at h
    ·rename_i x y a3;split at h
     ·rename_i t t' a5;obtain⟨a7,h⟩:=h.ok;have a7:t'=t:=by simpa using a7
      subst a7;split at h
      ·rename_i hx;split at h
       ·rename_i hy;exact aAppendT_ok a2 a4 (by rw[<- gA (xs:=c.args),a3]) (by rw[<- gA (xs:=c.argTypes),a5]) hx hy hd h
       ·exact aAppendS_ok a2 a4 (by rw[<- gA (xs:=c.args),a3]) (by rw[<- gA (xs:=c.argTypes),a5]) hx hd h
      ·split at h
       ·rename_i hy;exact aAppendG_ok a2 a4 (by rw[<- gA (xs:=c.args),a3]) (by rw[<- gA (xs:=c.argTypes),a5]) hy hd h
       ·exact aAppend_ok a2 a4 (by rw[<- gA (xs:=c.args),a3]) (by rw[<- gA (xs:=c.argTypes),a5]) hd h
     ·exact h.elim
    ·exact h.elim
   ·split at h
    ·rename_i x y a3;exact aMax_ok a2 a4 a3 hd h
    ·exact h.elim
   ·split at h
    ·rename_i x y a3;exact aMin_ok a2 a4 a3 hd h
    ·rename_i x y z a3;exact aMin3_ok a2 a4 a3 hd h
    ·exact h.elim
   ·split at h
    ·rename_i x t ts a3 a5;exact aClear_ok a2 a4 a3 a5 hd h
    ·exact h.elim
   ·split at h
    ·rename_i x y t t' a3 a5;exact aCopy_ok a2 a4 a3 a5 hd h
    ·exact h.elim
   ·split at h
    ·rename_i x y t t' a3 a5;exact aDelete_ok a2 a4 a3 a5 hd h
    ·exact h.elim
   ·exact h.elim
  ·rename_i f a4;split at h
   ·split at h
    ·exact aCallH_ok hC a2 a4 hd h
    ·split at h
     ·split at h
      ·exact aCallR_ok hC a2 a4 hd h
      ·exact aCallA_ok hC a2 a4 hd h
     ·exact aCall_ok hC a2 a4 hd h
   ·exact h.elim
  ·exact h.elim
 ·exact h.elim
def EffG(P:Program)(B:Base)(ops:Array Oper)(o:Oper)(rd:List Loc)(X:St)(wr:List (Loc×Ct)):Prop :=
 ∀X',(∀l∈rd,X' l=X l)->∀a w,Sat B X' a w->∀(K:Act->World->Prop) (Q:Exit->Act->World->Prop),(∀a' w',Sat B (app X' wr) a' w'->K a' w') ->
  if Region.wanted o (yielded ops a.tmps)=true then o.wp P a w K Q else K (a.put o.dst undef) w
def aGuard_ok{C:FuncId->List Arg->Rs->Prop}(hC:∀g xs r,C g xs r->SpX P g xs r){own:List Nat}{ops:Array Oper}(h:aGuard P C B.n own ops.toList o X K):∃fx,K fx/\EffG P B ops o fx.rd X fx.wr:=by
 unfold aGuard at h;obtain⟨hd,h⟩:=h.ok;split at h
 ·rename_i hg;obtain⟨fx,hk,he⟩:=aOp_ok (B:=B) hC hd h;refine⟨fx,hk,λX' hag a w hs K' Q hK=>?_⟩;have:Region.wanted o (yielded ops a.tmps)=true:=by simp[Region.wanted,hg]
  rw[if_pos this];exact he X' hag a w hs K' Q hK
 ·rename_i j a2 hg;split at h
  ·rename_i t ht;split at h
   ·rename_i b hb
    have hy:∀X' a w,X' (.tmp t)=X (.tmp t)->Sat B X' a w->yielded ops a.tmps j=some b:=λX' a w hag ⟨Y,hs⟩=>by
     have h1:=hs.tms t;have e:X'.av t=X.av t:=by unfold St.av;rw[hag]
     rw[e]at h1;have h2:=qF hb h1;have hj:(ops[j]?).bind (·.dst)=some t:=by rw[<- P9];exact ht
     have a3:a.tmps[t]?=some (.bool b):=by
      rw[yV]at h2;cases hc:a.tmps[t]? with
      |none=>rw[hc]at h2;cases h2
      |some v=>rw[hc]at h2;simp only[N1]at h2;rw[h2]
     unfold yielded;rw[hj];simp only[V6,a3]
    have hw:∀X' a w,X' (.tmp t)=X (.tmp t)->Sat B X' a w->Region.wanted o (yielded ops a.tmps)=(b==a2):=λX' a w hag hs=>by
     simp only[Region.wanted,hg,hy X' a w hag hs];cases b<;>cases a2<;>rfl
    have h:=h.out;cases hbw:(b==a2) with
    |true =>
     obtain⟨fx,hk,he⟩:=aOp_ok (B:=B) hC hd (h.1 hbw);refine⟨_,hk,λX' hag a w hs K' Q hK=>?_⟩;rw[if_pos (by rw[hw X' a w (hag _ (by simp)) hs];exact hbw)];exact he X' (λl hl=>hag l (by simp[hl])) a w hs K' Q hK
    |false =>
     refine⟨_,h.2 hbw,λX' hag a w hs K' Q hK=>?_⟩;rw[if_neg (by rw[hw X' a w (hag _ (by simp)) hs,hbw];simp)];obtain⟨Y,hs⟩:=hs;exact hK _ _ ⟨Y,hs.put (cZ hd) (Q1 _)⟩
   ·split at h
    ·rename_i v hv;obtain⟨a4,h⟩:=h.ok
     have hw:∀X' a w,X' (.tmp t)=X (.tmp t)->Sat B X' a w->Region.wanted o (yielded ops a.tmps)=false:=λX' a w hag ⟨Y,hs⟩=>by
      have h1:=hs.tms t;have e:X'.av t=X.av t:=by unfold St.av;rw[hag]
      rw[e,hv]at h1;have h2:=h1.im_inv;have hj:(ops[j]?).bind (·.dst)=some t:=by rw[<- P9];exact ht
      have hy:yielded ops a.tmps j=none:=by
       unfold yielded;rw[hj];simp only[V6];cases hc:a.tmps[t]? with
       |none=>rfl
       |some u =>
        have e2:a.tmps.getD t undef=u:=by rw[yV,hc];rfl
        rw[e2]at h2;obtain rfl:u=v:=by cases h2;rfl
        cases u<;>first|rfl|(cases a4)
      simp only[Region.wanted,hg,hy];rfl
     refine⟨_,h,λX' hag a w hs K' Q hK=>?_⟩;rw[if_neg (by rw[hw X' a w (hag _ (by simp)) hs];simp)];obtain⟨Y,hs⟩:=hs;exact hK _ _ ⟨Y,hs.put (cZ hd) (Q1 _)⟩
    ·exact h.elim
  ·exact h.elim
end
inductive Runs(P:Program)(B:Base)(ops:Array Oper):List Nat->St->List (Nat×Fx)->St->Prop
 |nil (X:St):Runs P B ops [] X [] X
 |cons (i:Nat) (o:Oper) (l:List Nat) (X X':St) (fx:Fx) (fs:List (Nat×Fx)) (ho:ops[i]?=some o) (he:EffG P B ops o fx.rd X fx.wr) (h:Runs P B ops l (app X fx.wr) fs X'):Runs P B ops (i::l) X ((i,fx)::fs) X'
section
variable {P:Program}{B:Base}{ops:Array Oper}
def aOps_runs{C:FuncId->List Arg->Rs->Prop}(hC:∀g xs r,C g xs r->SpX P g xs r){own:List Nat}:∀(l:List Oper) (k:Nat) (fs0:List Mk) (X:St) (K:List Mk->St->Prop),(∀j,l[j]?=ops[k+j]?) ->
  aOps P C B.n own ops.toList l fs0 X K->∃fs X',Runs P B ops (List.range' k l.length) X fs X'/\K (fs0++fs.map λp=>fxm p.2) X'
 |[],k,fs0,X,K,_,h=>⟨[],X,.nil X,by simpa[aOps]using h⟩
 |o::l,k,fs0,X,K,hl,h=>by
  simp only[aOps]at h;obtain⟨fx,h2,he⟩:=aGuard_ok (B:=B) hC h;rw[frcF_eq]at h2;obtain⟨fs,X',hr,hk⟩:=aOps_runs hC l (k+1) (fs0++[fxm fx]) (app X fx.wr) K (λj=>by have:=hl (j+1);simpa[U1,bB 1 j]using this) h2;have ho:ops[k]?=some o:=by have:=hl 0;simpa using this.symm
  refine⟨(k,fx)::fs,X',?_,by simpa using hk⟩;rw[E9,List.range'_succ];exact .cons k o _ X X' fx fs ho he hr
def wanted_wp{o:Oper}{i:Nat}(ho:ops[i]?=some o){a:Act}{w:World}{K:Act->World->Prop}{Q:Exit->Act->World->Prop}(h:if Region.wanted o (yielded ops a.tmps)=true then o.wp P a w K Q else K (a.put o.dst undef) w):wpOp P ops Q i K a w:=by
 unfold wpOp;simp only[ho];split
 ·rename_i hw;rw[if_pos hw]at h;exact .inl h
 ·rename_i hw;rw[if_neg hw]at h;exact h
def runs_wp{l:List Nat}{X X':St}{fs:List (Nat×Fx)}(h:Runs P B ops l X fs X'):∀{a:Act} {w:World} {Q:Exit->Act->World->Prop},Sat B X a w->(∀a' w',Sat B X' a' w'->Q .normal a' w')->wpOps P ops Q l a w:=by
 induction h with
 |nil X=>intro a w Q hs hQ;exact hQ a w hs
 |cons i o l X X' fx fs ho he hr ih =>
  intro a w Q hs hQ;rw[wpOps_cons];exact wanted_wp ho (he X (λ_ _=>rfl) a w hs _ Q λa' w' a2=>ih a2 hQ)
def kF{X:St}{l:Loc}:∀{wr:List (Loc×Ct)},(∀p∈wr,p.1≠l)->(app X wr) l=X l:=by
 intro wr
 induction wr generalizing X with
 |nil=>intro _;rfl
 |cons p wr ih =>
  intro h;show(app (upd X p.1 p.2) wr) l=X l;rw[ih λq hq=>h q (K7 _ hq)];rw[Q8,if_neg (λe=>h p aR e.symm)]
def app_in{l:Loc}:∀{wr:List (Loc×Ct)} {X U:St},(∃p∈wr,p.1=l)->(app X wr) l=(app U wr) l:=by
 intro wr
 induction wr with
 |nil=>intro X U h;obtain⟨p,hp,_⟩:=h;cases hp
 |cons p wr ih =>
  intro X U h;show(app (upd X p.1 p.2) wr) l=(app (upd U p.1 p.2) wr) l;by_cases hw:∃q∈wr,q.1=l
  ·exact ih hw
  ·have hn:∀q∈wr,q.1≠l:=λq hq e=>hw ⟨q,hq,e⟩;rw[kF hn,kF hn];obtain⟨q,hq,e⟩:=h;rcases H8.1 hq with rfl|hq
   ·rw[Q8,Q8,if_pos e.symm,if_pos e.symm]
   ·exact absurd e (hn q hq)
def app_comm{u v:List (Loc×Ct)}(h:∀p∈u,∀q∈v,p.1≠q.1)(X:St):app (app X u) v=app (app X v) u:=by
 funext l;by_cases hu:∃p∈u,p.1=l
 ·have hv:∀q∈v,q.1≠l:=λq hq e=>by
   obtain⟨p,hp,e'⟩:=hu;exact h p hp q hq (e'.trans e.symm)
  rw[kF hv];exact app_in hu
 ·have hn:∀p∈u,p.1≠l:=λp hp e=>hu ⟨p,hp,e⟩;rw[kF (X:=app X v) hn];by_cases hv:∃q∈v,q.1=l
  ·exact app_in hv
  ·have hm:∀q∈v,q.1≠l:=λq hq e=>hv ⟨q,hq,e⟩;rw[kF hm,kF hm,kF hn]
def bit1_eq(m:Nat)(l:Loc):bit1 m l=Nat.lor m (Nat.pow 2 l.code):=by unfold bit1;rw[p2_eq];rfl
def bit1_old(m:Nat)(l:Loc)(i:Nat)(h:m.testBit i=true):(bit1 m l).testBit i=true:=by
 rw[bit1_eq];show(m ||| 2^l.code).testBit i=true
 rw[yT,h,Bool.true_or]
def bit1_new(m:Nat)(l:Loc):(bit1 m l).testBit l.code=true:=by
 rw[bit1_eq];show(m ||| 2^l.code).testBit l.code=true
 rw[yT,Nat.testBit_two_pow_self,Bool.or_true]
def mskR_old(ls:List Loc):∀(m i:Nat),m.testBit i=true->(mskR ls m).testBit i=true:=by
 induction ls with
 |nil=>intro m i h;exact h
 |cons l r ih=>intro m i h;exact ih _ i (bit1_old m l i h)
def mskR_mem{l:Loc}(ls:List Loc):∀(m:Nat),l∈ls->(mskR ls m).testBit l.code=true:=by
 induction ls with
 |nil=>intro m h;cases h
 |cons l' r ih =>
  intro m h;rcases H8.1 h with rfl|h
  ·exact mskR_old r _ _ (bit1_new m l)
  ·exact ih _ h
def mskW_eq(ps:List (Loc×Ct)):∀m:Nat,mskW ps m=mskR (ps.map (·.1)) m:=by
 induction ps with
 |nil=>intro m;rfl
 |cons p r ih=>intro m;exact ih _
def AF{a b i:Nat}(h:Nat.land a b=0)(ha:a.testBit i=true)(hb:b.testBit i=true):False:=by
 have:(a &&& b).testBit i=true:=by rw[Nat.testBit_and,ha,hb];rfl
 rw[show a &&& b=0 from h,Nat.zero_testBit]at this;cases this
def indep_spec{f g:Fx}(h:indep f g=true):(∀p∈f.wr,p.1∉g.rd)/\(∀p∈f.wr,∀q∈g.wr,p.1≠q.1)/\∀p∈g.wr,p.1∉f.rd:=by
 unfold indep indepM at h;have h:=M3 h;obtain⟨a2,h3⟩:=Nat.or_eq_zero_iff.1 (show(Nat.lor (Nat.land (fxm f).2 (fxm g).1) (Nat.land (fxm f).2 (fxm g).2)) ||| Nat.land (fxm g).2 (fxm f).1=0 from h);obtain⟨h1,h2⟩:=Nat.or_eq_zero_iff.1 (show Nat.land (fxm f).2 (fxm g).1 ||| Nat.land (fxm f).2 (fxm g).2=0 from a2)
 have wm:∀(f:Fx) p,p∈f.wr->(fxm f).2.testBit p.1.code=true:=λf p hp=>by
  show(mskW f.wr 0).testBit _=true;rw[mskW_eq];exact mskR_mem _ 0 (D7.2 ⟨p,hp,rfl⟩)
 have rm:∀(f:Fx) l,l∈f.rd->(fxm f).1.testBit l.code=true:=λf l hl=>mskR_mem _ 0 hl;exact⟨λp hp hc=>AF h1 (wm f p hp) (rm g _ hc),λp hp q hq e=>AF h2 (wm f p hp) (e ▸ wm g q hq),λp hp hc=>AF h3 (wm g p hp) (rm f _ hc)⟩
def EffG.agree{o:Oper}{X X1:St}{fx:Fx}(h:EffG P B ops o fx.rd X fx.wr)(hag:∀l∈fx.rd,X1 l=X l):EffG P B ops o fx.rd X1 fx.wr :=
 λX' hag' a w hs K Q hK=>h X' (λl hl=>(hag' l hl).trans (hag l hl)) a w hs K Q hK
def runs_front{l:List Nat}{X X':St}{fs:List (Nat×Fx)}(h:Runs P B ops l X fs X'){i:Nat}:∀{pre post:List (Nat×Fx)} {fx:Fx},fs=pre++(i,fx)::post->(∀p∈pre,indep p.2 fx=true) ->
  ∃l',Runs P B ops (i::l') X ((i,fx)::(pre++post)) X':=by
 induction h with
 |nil X=>intro pre post fx e _;simp at e
 |cons j o l X X' fj fs ho he hr ih =>
  intro pre post fx e hp;cases pre with
  |nil =>
   simp only[aJ,List.cons.injEq,F0]at e;obtain⟨⟨rfl,rfl⟩,rfl⟩:=e;exact⟨l,.cons j o l X X' fj fs ho he hr⟩
  |cons p pre =>
   simp only[fW,List.cons.injEq]at e;obtain⟨rfl,e⟩:=e;obtain⟨l',a4⟩:=ih e λq hq=>hp q (K7 _ hq);obtain⟨h1,h2,h3⟩:=indep_spec (hp (j,fj) aR);cases a4 with
   |cons _ oi _ _ _ _ _ hoi hei hr2 =>
    have a2:EffG P B ops oi fx.rd X fx.wr:=hei.agree λl hl=>(kF λp hp e=>h1 p hp (e ▸ hl)).symm;have a3:EffG P B ops o fj.rd (app X fx.wr) fj.wr:=he.agree λl hl=>kF λp hp e=>h3 p hp (e ▸ hl);refine⟨j::l',.cons i oi _ X X' fx _ hoi a2 (.cons j o _ _ X' fj _ ho a3 ?_)⟩;rw[<- app_comm h2];exact hr2
end
end
section
def befStep_spec{acc:List Nat}{o:Oper}{j:Nat}(h:(mO acc o).testBit j=true):∃e∈o.after.toList,Region.binds .any e=true/\(j=e.on\/(acc.getD e.on 0).testBit j=true):=by
 unfold mO at h
 have key:∀(l:List Edge) (s:Nat),(l.foldl (λs e=>if Region.binds .any e=true then s ||| 2^e.on ||| acc.getD e.on 0 else s) s).testBit j=true ->
   s.testBit j=true\/∃e∈l,Region.binds .any e=true/\(j=e.on\/(acc.getD e.on 0).testBit j=true):=by
  intro l
  induction l with
  |nil=>intro s h;exact .inl h
  |cons e l ih =>
   intro s h;rw[uR]at h;rcases ih _ h with h1|⟨e',he',h2⟩
   ·by_cases hb:Region.binds .any e=true
    ·rw[if_pos hb,yT,yT,oB,oB]at h1;rcases h1 with (h1|h1)|h1
     ·exact .inl h1
     ·rw[Nat.testBit_two_pow]at h1;exact .inr ⟨e,by simp,hb,.inl (of_decide_eq_true h1).symm⟩
     ·exact .inr ⟨e,by simp,hb,.inr h1⟩
    ·rw[if_neg hb]at h1;exact .inl h1
   ·exact .inr ⟨e',by simp[he'],h2⟩
 rcases key _ 0 h with h1|h1
 ·simp at h1
 ·exact h1
def befs_spec(ops:List Oper):∀(i:Nat) (o:Oper),ops[i]?=some o->∀j,((befs ops).getD i 0).testBit j=true->∃e∈o.after.toList,Region.binds .any e=true/\(j=e.on\/((befs ops).getD e.on 0).testBit j=true):=by
 have key:∀(rest pre:List Oper) (acc:List Nat),acc.length=pre.length->(∀(i:Nat) (o:Oper),pre[i]?=some o->∀j,(acc.getD i 0).testBit j=true->∃e∈o.after.toList,Region.binds .any e=true/\(j=e.on\/(acc.getD e.on 0).testBit j=true)) ->
   (∀(i:Nat) (o:Oper),(pre++rest)[i]?=some o->∀j,((rest.foldl (λacc o=>acc++[mO acc o]) acc).getD i 0).testBit j=true->∃e∈o.after.toList,Region.binds .any e=true/\(j=e.on\/((rest.foldl (λacc o=>acc++[mO acc o]) acc).getD e.on 0).testBit j=true)):=by
  intro rest
  induction rest with
  |nil=>intro pre acc _ h;simpa using h
  |cons o rest ih =>
   intro pre acc hl h;have e:pre++o::rest=(pre++[o])++rest:=by simp
   rw[e]
   have grow:∀p j,(acc.getD p 0).testBit j=true->((acc++[mO acc o]).getD p 0).testBit j=true:=λp j hj=>by
    by_cases hp:p<acc.length
    ·rw[eU,P2,if_pos hp,<- eU];exact hj
    ·rw[eU,W8 (by omega)]at hj;simp at hj
   refine ih (pre++[o]) (acc++[mO acc o]) (by simp[hl]) λi o' a2 j hj=>?_;rw[P2]at a2;split at a2
   ·rename_i hi;rw[eU,P2,if_pos (by omega),<- eU]at hj;obtain⟨e1,h1,h2,h3⟩:=h i o' a2 j hj;exact⟨e1,h1,h2,h3.imp id (grow _ _)⟩
   ·rename_i hi
    have a3:i=acc.length:=by
     have:=(E4.1 a2).1;simp at this;omega
    subst a3;have:o'=o:=by simpa[hl]using a2.symm
    subst this;rw[eU,P2,if_neg (by omega)]at hj;simp at hj;obtain⟨e1,h1,h2,h3⟩:=befStep_spec hj;exact⟨e1,h1,h2,h3.imp id (grow _ _)⟩
 intro i o ho j hj;exact key ops [] [] rfl (by simp) i o (by simpa using ho) j hj
def GY{bs:List Nat}{f:Mk}{i:Nat}:∀{fs:List Mk} {j:Nat},drawRow bs f i j fs=true->∀(k:Nat) g,fs[k]?=some g->indepM f g=true\/(bs.getD (j+k) 0).testBit i=true
 |[],j,_,k,g,h=>by simp at h
 |g0::fs,j,h,k,g,hg=>by
  simp only[drawRow,M4,oB]at h;cases k with
  |zero=>simp at hg;subst hg;exact h.1
  |succ k =>
   have:=GY h.2 k g (by simpa using hg);rw[show j+1+k=j+(k+1) from by omega]at this;exact this
def HA{bs:List Nat}:∀{fs:List Mk} {i:Nat},rM bs i fs=true->∀(p q:Nat) f g,p<q->fs[p]?=some f->fs[q]?=some g->indepM f g=true\/(bs.getD (i+q) 0).testBit (i+p)=true
 |[],i,_,p,q,f,g,_,hf,_=>by simp at hf
 |f0::fs,i,h,p,q,f,g,hpq,hf,hg=>by
  simp only[rM,M4]at h;cases q with
  |zero=>omega
  |succ q =>
   cases p with
   |zero =>
    simp at hf;subst hf;have:=GY h.1 q g (by simpa using hg);rw[show i+1+q=i+(q+1) from by omega]at this;exact this
   |succ p =>
    have:=HA h.2 p q f g (by omega) (by simpa using hf) (by simpa using hg);rw[show i+1+q=i+(q+1) from by omega,show i+1+p=i+(p+1) from by omega]at this;exact this
def FE:∀{l:List Oper} {i:Nat},edgeOk i l=true->∀(k:Nat) o,l[k]?=some o->∀e∈o.after.toList,Region.binds .any e=true->e.on<i+k
 |[],i,_,k,o,h=>by simp at h
 |o0::l,i,h,k,o,ho=>by
  simp only[edgeOk,M4,P8,oB,oF]at h;cases k with
  |zero =>
   simp at ho;subst ho;intro e he hb;rcases h.1 e he with h1|h1
   ·rw[hb]at h1;cases h1
   ·exact aN h1
  |succ k =>
   intro e he hb;have:=FE h.2 k o (by simpa using ho) e he hb;omega
section
variable {P:Program}{B:Base}{ops:Array Oper}
def runs_idx{l:List Nat}{X X':St}{fs:List (Nat×Fx)}(h:Runs P B ops l X fs X'):fs.map (·.1)=l/\∀i∈l,i<ops.size:=by
 induction h with
 |nil X=>exact⟨rfl,by simp⟩
 |cons i o l X X' fx fs ho he hr ih =>
  refine⟨by simp[ih.1],λj hj=>?_⟩;rcases H8.1 hj with rfl|hj
  ·exact(jY.1 ho).1
  ·exact ih.2 j hj
def Apart(ops:Array Oper)(fs:List (Nat×Fx)):Prop :=
 fs.Pairwise λp q=>indep p.2 q.2=true\/((befs ops.toList).getD q.1 0).testBit p.1=true
def getD_two{l:Array Bool}{i:Nat}(h:i<l.size)(d d':Bool):l.getD i d=l.getD i d':=by simp[h]
def runs_any{Q:Exit->Act->World->Prop}(hed:edgeOk 0 ops.toList=true):∀(fuel:Nat) (listed:Array Bool) (l:List Nat) (X X':St) (fs:List (Nat×Fx)) (a:Act) (w:World),listed.size=ops.size->l.length=fuel->(∀i,i∈l↔listed.getD i true=false) ->
  (∀k o,ops[k]?=some o->listed.getD k false=true->∀j,((befs ops.toList).getD k 0).testBit j=true->listed.getD j false=true)->Apart ops fs->l.Pairwise (·<·)->Runs P B ops l X fs X'->Sat B X a w->(∀a' w',Sat B X' a' w'->Q .normal a' w') ->
  wpAny P .any ops Q fuel listed a w
 |0,listed,l,X,X',fs,a,w,hsz,hlen,hmem,hdn,hap,hnd,hr,hs,hQ=>by
  have hl:l=[]:=S7 hlen;subst hl;cases hr with
  |nil _ =>
   refine⟨?_,hQ a w hs⟩;rw[vL];intro i hi;exact absurd ((hmem i).2 (mem_ready.1 hi).1) (by simp)
 |fuel+1,listed,l,X,X',fs,a,w,hsz,hlen,hmem,hdn,hap,hnd,hr,hs,hQ=>by
  obtain⟨hidx,hlt⟩:=runs_idx hr
  have hon:∀i o,ops[i]?=some o->∀e∈o.after.toList,Region.binds .any e=true->e.on<i:=λi o ho e he hb=>by
   have:=FE hed i o (by rw[P9];exact ho) e he hb;omega
  refine⟨λhnil=>?_,λi hi=>?_⟩
  ·exfalso;cases l with
   |nil=>simp at hlen
   |cons i l =>
    have hi:=hlt i (by simp)
    have hrd:i∈Region.ready .any ops listed:=by
     rw[mem_ready];refine⟨(hmem i).1 (by simp),ops[i],vE hi,λe he hb=>?_⟩;have h1:=hon i ops[i] (vE hi) e (by simpa using he) hb
     have h2:e.on∉i::l:=λhm=>by
      rcases H8.1 hm with h|h
      ·omega
      ·have:=(cU.1 hnd).1 _ h;omega
     rw[getD_two (by omega) false true];cases hc:listed.getD e.on true with
     |true=>rfl
     |false=>exact absurd ((hmem _).2 hc) h2
    rw[hnil]at hrd;cases hrd
  ·obtain⟨b7,o,ho,b4⟩:=mem_ready.1 hi;have a7:i∈l:=(hmem i).2 b7;have a6:=hlt i a7
   have b6:∀j,((befs ops.toList).getD i 0).testBit j=true->listed.getD j false=true:=λj hj=>by
    obtain⟨e,he,hb,h1⟩:=befs_spec ops.toList i o (by rw[P9];exact ho) j hj;have hl:=b4 e (by simpa using he) hb;have c6:=hon i o ho e he hb;rcases h1 with rfl|h1
    ·exact hl
    ·exact hdn e.on ops[e.on] (vE (by omega)) hl j h1
   obtain⟨pre,fx,post,a2⟩:∃pre fx post,fs=pre++(i,fx)::post:=by
    rw[<- hidx]at a7;obtain⟨p,hp,e⟩:=D7.1 a7;obtain⟨pre,post,c0⟩:=List.append_of_mem hp;exact⟨pre,p.2,post,by rw[c0,<- e]⟩
   have b2:∀p∈pre,indep p.2 fx=true:=λp hp=>by
    unfold Apart at hap;rw[a2,List.pairwise_append]at hap;rcases hap.2.2 p hp (i,fx) aR with h1|h1
    ·exact h1
    ·have h2:=b6 p.1 h1;have b3:p.1∈l:=by rw[<- hidx,a2];exact D7.2 ⟨p,L5 _ hp,rfl⟩
     have h3:=(hmem p.1).1 b3;rw[getD_two (by rw[hsz];exact hlt _ b3) true false,h2]at h3;cases h3
   obtain⟨l',b5⟩:=runs_front hr a2 b2;have a3:=(runs_idx b5).1;simp only[J7,List.cons.injEq,true_and]at a3;have a5:l=pre.map (·.1)++i::post.map (·.1):=by rw[<- hidx,a2];simp
   have a4:l'=pre.map (·.1)++post.map (·.1):=by rw[<- a3];simp
   have a9:List.Sublist l' l:=by
    rw[a5,a4];exact List.Sublist.append (List.Sublist.refl _) (yP _ _)
   have a8:i∉l':=by
    rw[a5,List.pairwise_append]at hnd;obtain⟨_,h2,h3⟩:=hnd;rw[a4,I8];rintro (h|h)
    ·have:=h3 i h i (by simp);omega
    ·have:=(cU.1 h2).1 i h;omega
   cases b5 with
   |cons _ oi _ _ _ _ _ hoi hei hr2 =>
    refine wanted_wp hoi (hei X (λ_ _=>rfl) a w hs _ Q λa' w' b9=>?_);refine runs_any hed fuel (listed.setIfInBounds i true) l' _ X' (pre++post) a' w' (by simp[hsz]) ?_ (λj=>?_) (λk ok b8 hk j hj=>?_) ?_ (hnd.sublist a9) hr2 b9 hQ
    ·rw[a5]at hlen;rw[a4];simp at hlen ⊢;omega
    ·by_cases e:j=i
     ·subst e;constructor
      ·intro h;exact absurd h a8
      ·intro h;rw[getD_two (by simp[hsz];exact a6) true false,show(listed.setIfInBounds j true).getD j false=true by simp[hsz,a6]]at h;cases h
     ·rw[getD_set_ne true (Ne.symm e),<- hmem j,a5,a4];simp[e]
    ·by_cases e:k=i
     ·subst e;exact getD_set_true (b6 j hj)
     ·rw[getD_set_ne false (Ne.symm e)]at hk;exact getD_set_true (hdn k ok b8 hk j hj)
    ·unfold Apart at hap ⊢;rw[a2]at hap;exact hap.sublist (List.Sublist.append (List.Sublist.refl _) (yP _ _))
def apart_of{fs:List (Nat×Fx)}{n:Nat}(hidx:fs.map (·.1)=List.range n)(h:rM (befs ops.toList) 0 (fs.map λp=>fxm p.2)=true):Apart ops fs:=by
 unfold Apart;rw[V1];intro p q hp hq a2;have h1:=HA h p q (fxm fs[p].2) (fxm fs[q].2) a2 (by simp[hp]) (by simp[hq])
 have idx:∀r (hr:r<fs.length),fs[r].1=r:=λr hr=>by
  have:(fs.map (·.1))[r]?=some fs[r].1:=by simp[hr]
  rw[hidx]at this;have a3:fs.length=n:=by have:=congrArg List.length hidx;simpa using this
  rw[cH (by omega)]at this;injection this with this
  exact this.symm
 rw[idx p hp,idx q hq];unfold indep;simpa only[F9]using h1
def aRegion_ok(hm:P.follows .mixedOrders=true){C:FuncId->List Arg->Rs->Prop}(hC:∀g xs r,C g xs r->SpX P g xs r){own:List Nat}{id:Nat}{draw:Bool}{X:St}{K:Exit->St->Prop}
  (h:aOps P C B.n own ops.toList ops.toList [] X λfs X'=>Chk (!draw||drawOk ops.toList fs) (K .normal X')) {a:Act} {w:World} (hs:Sat B X a w) {Q:Exit->Act->World->Prop} (hQ:∀e X' a' w',K e X'->Sat B X' a' w'->Q e a' w'):(Code.region id ops draw).wp P Q a w:=by
 obtain⟨fs,X',hr,hk⟩:=aOps_runs (B:=B) (ops:=ops) hC ops.toList 0 [] X _ (λj=>by simp) h;rw[<- DV]at hr;rw[aJ]at hk;obtain⟨a2,a4⟩:=hk.ok;have a6:ops.toList.length=ops.size:=by simp
 rw[a6]at hr;cases draw with
 |false=>exact wp_region (runs_wp hr hs λa' w' a3=>hQ .normal X' a' w' a4 a3)
 |true =>
  simp only[U0,gB]at a2;unfold drawOk at a2;rw[M4]at a2;refine wp_region_any hm ?_;have a5:=(runs_idx hr).1;refine runs_any a2.1 ops.size (Array.replicate ops.size false) (List.range ops.size) X X' fs a _ (by simp) (by simp) (λi=>?_) (λk o ho hk=>?_) (apart_of a5 a2.2) List.pairwise_lt_range hr ?_ λa' w' a3=>hQ .normal X' a' w' a4 a3
  ·by_cases h:i<ops.size
   ·simp[h]
   ·simp[h]
  ·have:k<ops.size:=(jY.1 ho).1;simp[this]at hk
  ·obtain⟨Y,hs⟩:=hs;exact⟨Y,(hs.world (w':={ w with drawn:=w.drawn+1 }) ⟨rfl,rfl,rfl,G4 _,λ_ _=>rfl⟩).1⟩
end
end
section
variable {w:World}{a:Act}
def least{p:Nat->Prop}(h:∃m,p m):∃m,p m/\∀k,p k->m<=k:=by
 obtain⟨m,hm⟩:=h
 induction m using Nat.strongRecOn with
 |_ m ih =>
  by_cases hk:∃k,k<m/\p k
  ·obtain⟨k,h1,h2⟩:=hk;exact ih k h1 h2
  ·exact⟨m,hm,λk hp=>by
    rcases J0 k m with h1|h1
    ·exact absurd ⟨k,h1,hp⟩ hk
    ·exact h1⟩
section
variable {P:Program}{B:Base}
def gE.out{body:(Exit->St->Prop)->St->Prop}{K:Exit->St->Prop}{X:St}(h:gE body K X) :
  ∃(I:Nat->St->Prop) (m:Nat),I m X/\∀m X,I m X->∃X1 J,Ent X X1/\Holds X1 J/\(J->body (λe X'=>match e with|.normal=>∃m',m'<m/\I m' X'|e=>K e X') X1):=by
 unfold gE at h;exact h
open Classical in
def loop_ok{body:Code}{K:Exit->St->Prop}{X:St}{f:(Exit->St->Prop)->St->Prop}(h:gE f K X)
  (hbody:∀(K':Exit->St->Prop) (X:St),f K' X->∀a w,Sat B X a w->∀Q:Exit->Act->World->Prop,(∀e X' a' w',K' e X'->Sat B X' a' w'->Q e a' w')->body.wp P Q a w)
  {a:Act} {w:World} (hs:Sat B X a w) {Q:Exit->Act->World->Prop} (hQ:∀e X' a' w',K e X'->Sat B X' a' w'->Q e a' w'):(Code.loop body).wp P Q a w:=by
 obtain⟨I,m0,h0,hI⟩:=h.out
 let L:Act->World->Nat->Prop:=λa w m=>∃X,I m X/\Sat B X a w
 let D:Act->World->Nat:=λa w=>if h:∃m,L a w m then Classical.choose (least h) else 0
 refine wp_loop (λa w=>∃m,L a w m) D ⟨m0,X,h0,hs⟩ λa w hL=>?_;obtain⟨h1,h2⟩:=yO (least hL);have hD:D a w=Classical.choose (least hL):=by simp only[D];rw[dif_pos hL]
 generalize hm:Classical.choose (least hL)=m at h1 h2 hD;obtain⟨X1,hX1,a6⟩:=h1;obtain⟨X2,J,a4,hJ,hb⟩:=hI m X1 hX1;have a3:=a4 B a w a6;refine hbody _ X2 (hb (hJ B a w a3)) a w a3 _ λe X' a' w' hk hs'=>?_;cases e with
 |normal =>
  obtain⟨m',a7,a5⟩:=hk;have a2:∃m,L a' w' m:=⟨m',X',a5,hs'⟩;refine⟨a2,?_⟩;have h3:=(yO (least a2)).2 m' ⟨X',a5,hs'⟩;have hD':D a' w'=Classical.choose (least a2):=by simp only[D];rw[dif_pos a2]
  rw[hD',hD];omega
 |exit id=>exact hQ _ X' a' w' hk hs'
 |goto l=>exact hQ _ X' a' w' hk hs'
 |ret=>exact hQ _ X' a' w' hk hs'
 |panic ch=>exact hQ _ X' a' w' hk hs'
 |outgrown=>exact hQ _ X' a' w' hk hs'
def gM(hm:P.follows .mixedOrders=true){C:FuncId->List Arg->Rs->Prop}(hC:∀g xs r,C g xs r->SpX P g xs r){own:List Nat}:∀(c:Code) (K:Exit->St->Prop) (X:St),bC P C B.n own c K X->∀a w,Sat B X a w->∀Q:Exit->Act->World->Prop,
  (∀e X' a' w',K e X'->Sat B X' a' w'->Q e a' w')->c.wp P Q a w
 | .skip,K,X,h,a,w,hs,Q,hQ=>wp_skip (hQ .normal X a w h hs)
 | .region id ops draw,K,X,h,a,w,hs,Q,hQ=>aRegion_ok hm hC (id:=id) h hs hQ
 | .seq x y,K,X,h,a,w,hs,Q,hQ=>by
  simp only[bC]at h;split at h
  case h_2 =>
   obtain⟨Post,h1,h2⟩:=h.out;refine wp_seq (gM hm hC x _ X h1 a w hs _ λe X' a' w' hk hs'=>?_);cases e with
   |normal =>
    obtain⟨X1,he,hp⟩:=hk;obtain⟨J,hJ,h3⟩:=h2 X1 hp;have hs1:=he B a' w' hs';exact gM hm hC y K X1 (h3 (hJ B a' w' hs1)) a' w' hs1 Q hQ
   |exit id=>exact hQ _ X' a' w' hk hs'
   |goto l=>exact hQ _ X' a' w' hk hs'
   |ret=>exact hQ _ X' a' w' hk hs'
   |panic ch=>exact hQ _ X' a' w' hk hs'
   |outgrown=>exact hQ _ X' a' w' hk hs'
  refine wp_seq (gM hm hC x _ X h a w hs _ λe X' a' w' hk hs'=>?_);cases e with
  |normal=>exact gM hm hC y K X' hk a' w' hs' Q hQ
  |exit id=>exact hQ _ X' a' w' hk hs'
  |goto l=>exact hQ _ X' a' w' hk hs'
  |ret=>exact hQ _ X' a' w' hk hs'
  |panic ch=>exact hQ _ X' a' w' hk hs'
  |outgrown=>exact hQ _ X' a' w' hk hs'
 | .cond c x y,K,X,h,a,w,hs,Q,hQ=>by
  simp only[bC]at h;split at h
  ·rename_i t ht;obtain⟨h1,h2⟩:=h.out
   have hc:a.eval c=.bool t:=by
    obtain⟨Y,hs⟩:=hs;exact qF ht (D6 hs c)
   cases ht':t with
   |true=>exact wp_cond_true (hc.trans (by rw[ht'])) (gM hm hC x K X (h1 ht') a w hs Q hQ)
   |false=>exact wp_cond_false (hc.trans (by rw[ht'])) (gM hm hC y K X (h2 ht') a w hs Q hQ)
  ·exact h.elim
 | .block id body,K,X,h,a,w,hs,Q,hQ=>by
  simp only[bC]at h;split at h
  case h_2 =>
   obtain⟨Post,h1,h2⟩:=h.out
   have fin:∀X' a' w',(∃X1,Ent X' X1/\Post X1)->Sat B X' a' w'->Q .normal a' w':=λX' a' w' ⟨X1,he,hp⟩ hs'=>by
    obtain⟨J,hJ,h3⟩:=h2 X1 hp;have hs1:=he B a' w' hs';exact hQ _ X1 a' w' (h3 (hJ B a' w' hs1)) hs1
   refine wp_block (gM hm hC body _ X h1 a w hs _ λe X' a' w' hk hs'=>?_);cases e with
   |exit j =>
    simp only at hk;show(if j=id then Q .normal a' w' else Q (.exit j) a' w');by_cases e:j=id
    ·rw[if_pos e]at hk ⊢;exact fin X' a' w' hk hs'
    ·rw[if_neg e]at hk ⊢;exact hQ _ X' a' w' hk hs'
   |normal=>exact fin X' a' w' hk hs'
   |goto l=>exact hQ _ X' a' w' hk hs'
   |ret=>exact hQ _ X' a' w' hk hs'
   |panic ch=>exact hQ _ X' a' w' hk hs'
   |outgrown=>exact hQ _ X' a' w' hk hs'
  refine wp_block (gM hm hC body _ X h a w hs _ λe X' a' w' hk hs'=>?_);cases e with
  |exit j =>
   simp only at hk;show(if j=id then Q .normal a' w' else Q (.exit j) a' w');by_cases e:j=id
   ·rw[if_pos e]at hk ⊢;exact hQ _ X' a' w' hk hs'
   ·rw[if_neg e]at hk ⊢;exact hQ _ X' a' w' hk hs'
  |normal=>exact hQ _ X' a' w' hk hs'
  |goto l=>exact hQ _ X' a' w' hk hs'
  |ret=>exact hQ _ X' a' w' hk hs'
  |panic ch=>exact hQ _ X' a' w' hk hs'
  |outgrown=>exact hQ _ X' a' w' hk hs'
 | .loop body,K,X,h,a,w,hs,Q,hQ=>loop_ok h (λK' X h a w hs Q hQ=>gM hm hC body K' X h a w hs Q hQ) hs hQ
 | .exit id,K,X,h,a,w,hs,Q,hQ=>wp_exit (hQ _ X a w h hs)
 | .ret,K,X,h,a,w,hs,Q,hQ=>wp_ret (hQ _ X a w h hs)
 | .rangeFunc ..,_,_,h,_,_,_,_,_=>h.elim
 | .scope body,K,X,h,a,w,hs,Q,hQ=>by
  refine wp_scope_straight (gM hm hC body _ X h a w hs _ λe X' a' w' hk hs'=>?_);cases e with
  |goto l=>exact hk.elim
  |exit j=>exact hQ _ X' a' w' hk hs'
  |normal=>exact hQ _ X' a' w' hk hs'
  |ret=>exact hQ _ X' a' w' hk hs'
  |panic ch=>exact hQ _ X' a' w' hk hs'
  |outgrown=>exact hQ _ X' a' w' hk hs'
 | .label _,K,X,h,a,w,hs,Q,hQ=>wp_label (hQ _ X a w h hs)
 | .goto _,_,_,h,_,_,_,_,_=>h.elim
 | .refuse _,_,_,h,_,_,_,_,_=>h.elim
def resA(P:Program)(X:St):ResultVar->Option (AV×E5)
 | .tmp t=>some (X.av t,[])
 | .cell c t=>match X.av c with
  | .own b g i=>match cK P t with
   |some false=>if Nat.blt i (dB X b)=true then some (X.ce b i,[(b,g)]) else none
   |some true=>match szOf P t with
    |some m=>if(Nat.blt 0 m&&Nat.ble (i+m) (dB X b))=true then some (aggA ((List.range m).map λj=>X.ce b (i+j)),[(b,g)]) else none
    |none=>none
   |none=>none
  |_=>none
def resAs(P:Program)(X:St):List ResultVar->Option (List AV×E5)
 |[]=>some ([],[])
 |r::l=>match resA P X r,resAs P X l with|some (v,b),some (vs,bs)=>some (v::vs,b++bs)|_,_=>none
def outC(X:St)(c:Oc)(a:AV):Option (Oc×E5×E5):=match c with
 | .im _=>match fz X a with
  |some (x,bs)=>some (.im x,bs,[])
  |none=>none
 | .ow k0=>match a with
  | .osl b g=>match objG X b with
   |some k=>some (.ow k,[],[(b,g)])
   |none=>none
  | .im x=>match k0 with
   | .row e k _=>match nilRow x e k with
    |some q=>some (.ow q,[],[])
    |none=>none
   |_=>none
  |_=>none
def outCs(X:St):List Oc->List AV->Option (List Oc×E5×E5)
 |[],[]=>some ([],[],[])
 |c::cs,a::l=>match outC X c a,outCs X cs l with
  |some (x,bs,gs),some (xs,bs',gs')=>some (x::xs,bs++bs',gs++gs')
  |_,_=>none
 |_,_=>none
def aC(X:St):Nat->List Arg->List Arg->Option (List Arg×E5×E5)
 |_,[],[]=>some ([],[],[])
 |i,.im _::xs,ys=>aC X (i+1) xs ys
 |i,.ow _::xs,ys=>aC X (i+1) xs ys
 |i,.box _ _::xs,.box _ cs::ys=>match X.kd i with
  | .box t _=>match outCs X cs (dW X i),aC X (i+1) xs ys with
   |some (cs',bs,gs),some (l,bs',gs')=>some (.box t cs'::l,bs++bs',((i,0)::gs)++gs')
   |_,_=>none
  |_=>none
 |i,.lent _::xs,.lent _::ys=>match objG X i,aC X (i+1) xs ys with
  |some k,some (l,bs',gs')=>some (.lent k::l,bs',(i,0)::gs')
  |_,_=>none
 |_,_,_=>none
def RetOk(P:Program)(rs:List ResultVar)(xs:List Arg)(X:St)(r:Rs):Prop :=
 match resAs P X rs,r with
 |some (vs,c),.mk tp l ys=>Chk (match tp with|true=>!Nat.beq vs.length 1|false=>Nat.beq vs.length 1) (bQ X c (match outCs X l vs,aC X 0 xs ys with
  |some (l',bs,gs),some (ys',bs',gs')=>Chk (ndB ((gs++gs').map (·.1)) ((bs++bs').map (·.1))) (bQ X ((bs++bs')++(gs++gs')) (l'=l/\ys'=ys))
  |_,_=>False))
 |none,_=>False
def retK(P:Program)(rs:List ResultVar)(xs:List Arg)(r:Rs):Exit->St->Prop
 | .ret,X=>RetOk P rs xs X r
 | .normal,X=>RetOk P rs xs X r
 |_,_=>False
def oneRes(tmps:Array Value):ResultVar->Sem Value
 | .tmp t=>pure (tmps.getD t undef)
 | .cell c t=>do loadVar t (<- asAddr (tmps.getD c undef))
def results_eq(fn:Func)(tmps:Array Value):results fn tmps=(do let vs <- fn.results.mapM (oneRes tmps);pure (if h:vs.size=1 then vs[0] else .tuple vs)):=by
 unfold results
 have e:(λr:ResultVar=>match r with
  | .tmp t=>(pure (tmps.getD t undef):Sem Value)
  | .cell a t=>do loadVar t (<- asAddr (tmps.getD a undef)))=oneRes tmps:=funext λr=>by cases r<;>rfl
 rw[<- e];rfl
def resA_ok{X:St}{Y:Ly}(h:SatR B X a w Y){r:ResultVar}{v:AV}{bs:E5}(e:resA P X r=some (v,bs))(hg:∀p∈bs,X.gn p.1=p.2) :
  ∃u,(oneRes a.tmps r).run P w=.ok u w/\RepA w (Imm B X Y w) Y X.gn u v:=by
 cases r with
 |tmp t =>
  simp only[resA,C2,F0]at e;rw[<- e.1];exact⟨_,rfl,h.tms t⟩
 |cell c t =>
  simp only[resA]at e;split at e
  ·rename_i b g i hc;have h1:=h.tms c;rw[hc]at h1
   have ld:∀q u,a.tmps.getD c undef=.pointer (some q)->(Instr.loadAt t (.pointer (some q))).run P w=.ok u w->(do loadVar t (<- asAddr (a.tmps.getD c undef)):Sem Value).run P w=.ok u w:=λq u e1 e2=>by
    simp only[Instr.loadAt,Instr.sureAddr,Sem.run_bind,Sem.run_pure,Result.andThen_ok]at e2;simp only[e1,asAddr,Sem.run_bind,Sem.run_pure,Result.andThen_ok,e2]
   split at e
   ·rename_i a3;split at e
    ·rename_i hi;simp only[C2,F0]at e;obtain⟨rfl,rfl⟩:=e;obtain⟨t',m,hk,a7⟩:=tI (aN hi);obtain⟨q,us,e1,_,_,hl,a2,a4,hr⟩:=kH h h1 (hg (b,g) (by simp)) hk;obtain⟨u,hu⟩:∃u,us[i]?=some u:=⟨_,J8 (by omega)⟩;exact⟨u,ld _ u e1 (pG a3 (a4 i u hu)),hr i u hu⟩
    ·cases e
   ·rename_i a3;split at e
    ·rename_i m hm;split at e
     ·rename_i hi;simp only[C2,F0]at e;obtain⟨rfl,rfl⟩:=e;rw[M4]at hi;have a9:=aN hi.1;have hi:=fG hi.2;obtain⟨t',m',hk,a7⟩:=tI (X:=X) (b:=b) (i:=i) (by omega);have a8:=wU hk;obtain⟨q,us,e1,_,_,hl,a2,a4,hr⟩:=kH h h1 (hg (b,g) (by simp)) hk;have a5:((us.drop i).take m).length=m:=by rw[H6,M0];omega
      refine⟨.agg ((us.drop i).take m).toArray,ld _ _ e1 (sF a3 (by rw[a5];exact hm) λj u hj=>a4 (i+j) u (eH hj).1),oZ ⟨by rw[a5];simp,λj u x hj hx=>?_⟩ λu hu=>a2 u (U3 (Q4 hu))⟩;obtain⟨h3,a6⟩:=eH hj;simp only[I9,cH a6,K0,C2]at hx;rw[<- hx];exact hr _ u h3
     ·cases e
    ·cases e
   ·cases e
  ·cases e
def resAs_ok{X:St}{Y:Ly}(h:SatR B X a w Y):∀{rs:List ResultVar} {vs:List AV} {bs:E5},resAs P X rs=some (vs,bs)->(∀p∈bs,X.gn p.1=p.2) ->
  ∃us:List Value,(rs.mapM (oneRes a.tmps)).run P w=.ok us w/\Reps w (Imm B X Y w) Y X.gn us vs
 |[],vs,bs,e,_=>by
  simp only[resAs,C2,F0]at e;rw[<- e.1];exact⟨[],by simp,rfl,by simp⟩
 |r::rs,vs,bs,e,hg=>by
  simp only[resAs]at e;split at e
  ·rename_i v b1 vs1 bs1 h1 h2;simp only[C2,F0]at e;obtain⟨rfl,rfl⟩:=e;obtain⟨u,hu,hr⟩:=resA_ok h h1 λp hp=>hg p (L5 _ hp);obtain⟨us,hus,hrs⟩:=resAs_ok h h2 λp hp=>hg p (L3 _ hp);refine⟨u::us,?_,by simp[hrs.1],λi x y hx hy=>?_⟩
   ·rw[List.mapM_cons];simp only[Sem.run_bind,hu,Result.andThen_ok,hus,Sem.run_pure]
   ·cases i with
    |zero=>simp at hx hy;rw[<- hx,<- hy];exact hr
    |succ i=>exact hrs.2 i x y (by simpa using hx) (by simpa using hy)
  ·cases e
def outC_ok{X:St}{Y:Ly}(h:SatR B X a w Y){bs0:E5}(hgk:∀p∈bs0,X.gn p.1=p.2){c:Oc}{u:Value}{v:AV}{x:Oc}{bs gs:E5}(hu:RepA w (Imm B X Y w) Y X.gn u v)(e:outC X c v=some (x,bs,gs))(hb:∀p∈bs,p∈bs0)(hg:∀p∈gs,X.gn p.1=p.2) :
  OcOk w (Imm B (app X (fwr bs0)) Y w) u x (K2 X Y gs):=by
 have hI:=(h.kills bs0).2;unfold outC at e;split at e
 ·split at e
  ·rename_i y bs' hy;simp only[C2,F0]at e;obtain⟨rfl,rfl,rfl⟩:=e;exact⟨fz_ok h hgk hu hy hb,rfl⟩
  ·cases e
 ·split at e
  ·rename_i b g;split at e
   ·rename_i k hk;simp only[C2,F0]at e;obtain⟨rfl,rfl,rfl⟩:=e;have a2:=hg (b,g) (by simp)
    have hv:u=Y b:=by
     cases hu with
     |osl _ _ _ _ _ hh=>exact hh a2
    have hh:=vW h hk;subst hv;refine⟨hh.one,Y.inn b,hh.mono (λ_ _=>rfl) hI,?_⟩;unfold K2;rw[P0,oE,V0,(pR hk).1]
   ·cases e
  ·have hu:=hu.im_inv;split at e
   ·split at e
    ·rename_i q hq;simp only[C2,F0]at e;obtain⟨rfl,rfl,rfl⟩:=e;obtain⟨rfl,k',rfl⟩:=AK hq;cases hu;exact nil_oc _ _ _ _
    ·cases e
   ·cases e
  ·cases e
def outCs_ok{X:St}{Y:Ly}(h:SatR B X a w Y){bs0:E5}(hgk:∀p∈bs0,X.gn p.1=p.2):∀{cs:List Oc} {us:List Value} {vs:List AV} {xs:List Oc} {bs gs:E5},Reps w (Imm B X Y w) Y X.gn us vs->outCs X cs vs=some (xs,bs,gs)->(∀p∈bs,p∈bs0)->(∀p∈gs,X.gn p.1=p.2) ->
  aB w (Imm B (app X (fwr bs0)) Y w) us xs (K2 X Y gs)
 |[],us,[],xs,bs,gs,hr,e,_,_=>by
  simp only[outCs,C2,F0]at e;rw[<- e.1,<- e.2.2,S7 hr.1];exact rfl
 |[],_,_::_,_,_,_,_,e,_,_=>by simp[outCs]at e
 |_::_,_,[],_,_,_,_,e,_,_=>by simp[outCs]at e
 |c::cs,[],v::vs,_,_,_,hr,_,_,_=>by have:=hr.1;simp at this
 |c::cs,u::us,v::vs,xs,bs,gs,hr,e,hb,hg=>by
  simp only[outCs]at e;split at e
  ·rename_i x b1 g1 xs1 bs1 gs1 h1 h2;simp only[C2,F0]at e;obtain⟨rfl,rfl,rfl⟩:=e
   exact⟨_,_,outC_ok h hgk (hr.2 0 u v rfl rfl) h1 (λp hp=>hb p (L5 _ hp)) λp hp=>hg p (L5 _ hp),
    outCs_ok h hgk ⟨by simpa using hr.1,λi u x hu hx=>hr.2 (i+1) u x (by simpa using hu) (by simpa using hx)⟩ h2 (λp hp=>hb p (L3 _ hp)) λp hp=>hg p (L3 _ hp),nU _ _ _⟩
  ·cases e
def cY(xs:List Arg)(vs:List Value)(o:Nat):Option Value:=match xs[o]? with
 |some (.box _ _)=>vs[o]?
 |some (.lent _)=>vs[o]?
 |_=>none
def rQ{X:St}{Y:Ly}(h:SatR B X a w Y){bs0:E5}(hgk:∀p∈bs0,X.gn p.1=p.2):∀{xs:List Arg} {vs:List Value} {i:Nat} {ys ys':List Arg} {bs gs:E5},vs.length=xs.length->(∀j v,cY xs vs j=some v->B.L (i+j)=some v)->aC X i xs ys=some (ys',bs,gs)->(∀p∈bs,p∈bs0)->(∀p∈gs,X.gn p.1=p.2) ->
  R0 w (Imm B (app X (fwr bs0)) Y w) (bxVs vs xs) ys' (K2 X Y gs)
 |[],[],i,ys,ys',bs,gs,hl,hL,e,hb,hg=>by
  cases ys with
  |nil =>
   simp only[aC,C2,F0]at e;rw[<- e.1,<- e.2.2];exact rfl
  |cons _ _=>simp[aC]at e
 |[],_::_,_,_,_,_,_,hl,_,_,_,_=>by simp at hl
 |_::_,[],_,_,_,_,_,hl,_,_,_,_=>by simp at hl
 | .im x::xs,v::vs,i,ys,ys',bs,gs,hl,hL,e,hb,hg=>by
  have e:aC X (i+1) xs ys=some (ys',bs,gs):=by cases ys<;>exact e
  exact rQ h hgk (xs:=xs) (vs:=vs) (i:=i+1) (by simpa using hl) (λj v hv=>by rw[U1,bB 1 j];exact hL (j+1) v (by simpa[cY]using hv)) e hb hg
 | .ow k::xs,v::vs,i,ys,ys',bs,gs,hl,hL,e,hb,hg=>by
  have e:aC X (i+1) xs ys=some (ys',bs,gs):=by cases ys<;>exact e
  exact rQ h hgk (xs:=xs) (vs:=vs) (i:=i+1) (by simpa using hl) (λj v hv=>by rw[U1,bB 1 j];exact hL (j+1) v (by simpa[cY]using hv)) e hb hg
 | .lent _::xs,v::vs,i,[],ys',bs,gs,hl,hL,e,hb,hg=>by simp[aC]at e
 | .lent _::xs,v::vs,i,.im _::ys,ys',bs,gs,hl,hL,e,hb,hg=>by simp[aC]at e
 | .lent _::xs,v::vs,i,.ow _::ys,ys',bs,gs,hl,hL,e,hb,hg=>by simp[aC]at e
 | .lent _::xs,v::vs,i,.box _ _::ys,ys',bs,gs,hl,hL,e,hb,hg=>by simp[aC]at e
 | .box _ _::xs,v::vs,i,.lent _::ys,ys',bs,gs,hl,hL,e,hb,hg=>by simp[aC]at e
 | .lent k0::xs,v::vs,i,.lent k1::ys,ys',bs,gs,hl,hL,e,hb,hg=>by
  unfold aC at e;split at e
  ·rename_i k l b2 g2 hk h2;simp only[C2,F0]at e;obtain⟨rfl,rfl,rfl⟩:=e;have a2:X.gn i=0:=hg (i,0) (by simp);have hv:Y i=v:=h.rt i v (by have:=hL 0 v (by simp[cY]);simpa using this) a2;have hh:=vW h hk;have hI:=(h.kills bs0).2
   refine⟨fpk (Y i) (Y.inn i) k,K2 X Y g2,⟨by rw[<- hv];exact hh.one,Y.inn i,by rw[<- hv];exact hh.mono (λ_ _=>rfl) hI,by rw[<- hv]⟩,
    rQ h hgk (xs:=xs) (vs:=vs) (i:=i+1) (by simpa using hl) (λj v hv=>by rw[U1,bB 1 j];exact hL (j+1) v (by simpa[cY]using hv)) h2 hb (λp hp=>hg p (by simp[hp])),?_⟩
   unfold K2;rw[P0,(pR hk).1]
  ·cases e
 | .box t0 c0::xs,v::vs,i,[],ys',bs,gs,hl,hL,e,hb,hg=>by simp[aC]at e
 | .box t0 c0::xs,v::vs,i,.im _::ys,ys',bs,gs,hl,hL,e,hb,hg=>by simp[aC]at e
 | .box t0 c0::xs,v::vs,i,.ow _::ys,ys',bs,gs,hl,hL,e,hb,hg=>by simp[aC]at e
 | .box t0 c0::xs,v::vs,i,.box _ cs::ys,ys',bs,gs,hl,hL,e,hb,hg=>by
  unfold aC at e;split at e
  ·rename_i t m hk;split at e
   ·rename_i a3 b1 g1 l b2 g2 h1 h2;simp only[C2,F0]at e;obtain⟨rfl,rfl,rfl⟩:=e;have a2:X.gn i=0:=hg (i,0) (by simp);have hv:Y i=v:=h.rt i v (by have:=hL 0 v (by simp[cY]);simpa using this) a2;have ho:=h.obs i;rw[hk]at ho;obtain⟨q,us,e1,e2,e3,e4,e5⟩:=ho;have hr:=zW (X:=X) (b:=i) (us:=us) (t:=t) (by rw[e3];exact hk) e5
    refine⟨_,_,⟨q,us,K2 X Y g1,by rw[<- hv];exact e1,e2,e4,outCs_ok h hgk hr h1 (λp hp=>hb p (L5 _ hp)) (λp hp=>hg p (by simp[hp])),rfl⟩,
     rQ h hgk (xs:=xs) (vs:=vs) (i:=i+1) (by simpa using hl) (λj v hv=>by rw[U1,bB 1 j];exact hL (j+1) v (by simpa[cY]using hv)) h2 (λp hp=>hb p (L3 _ hp)) (λp hp=>hg p (by simp[hp])),?_⟩
    rw[nU];unfold K2;rw[P0,hk,e1];rfl
   ·cases e
  ·cases e
def results_ok{fn:Func}{xs:List Arg}{vs0:List Value}{r:Rs}{X:St}(h:RetOk P fn.results.toList xs X r)(hs:Sat B X a w)(hl:vs0.length=xs.length)(hL:∀j v,cY xs vs0 j=some v->B.L j=some v) :
  ∃v F',(results fn a.tmps).run P w=.ok v w/\eV w (λb=>(B.S0 b\/Mine B b)/\b<w.heap.size/\b∉F') v (bxVs vs0 xs) r F'/\F'.Nodup/\∀b∈F',Mine B b/\b<w.heap.size:=by
 obtain⟨Y,hs⟩:=hs;unfold RetOk at h;split at h
 ·rename_i vs c tp l ys b4;obtain⟨b3,h⟩:=h.ok;obtain⟨hg,h⟩:=h.out;obtain⟨us,b6,hr⟩:=resAs_ok hs b4 hg
  have a2:(results fn a.tmps).run P w=.ok (if h:us.toArray.size=1 then us.toArray[0] else .tuple us.toArray) w:=by
   rw[results_eq,Sem.run_bind,Array.mapM_eq_mapM_toList,map_eq_pure_bind,Sem.run_bind,b6];simp only[Result.andThen_ok,Sem.run_pure]
  split at h
  ·rename_i l' bs gs b8 bs' a4 h1 h2;obtain⟨b5,h⟩:=h.ok;obtain⟨a5,a8⟩:=fF b5;obtain⟨b2,rfl,rfl⟩:=h.out;have a7:∀p∈bs++bs',X.gn p.1=p.2:=λp hp=>b2 p (L5 _ hp);have a6:∀p∈gs++a4,X.gn p.1=p.2:=λp hp=>b2 p (L3 _ hp);have r1:=outCs_ok hs (bs0:=bs++bs') a7 hr h1 (λp hp=>L5 _ hp) λp hp=>a6 p (L5 _ hp);have r2:=rQ hs (bs0:=bs++bs') a7 hl (i:=0) (λj v hv=>by rw[F9];exact hL j v hv) h2 (λp hp=>L3 _ hp) λp hp=>a6 p (L3 _ hp)
   have a3:∀u x,RepI w (Imm B (app X (fwr (bs++bs'))) Y w) u x->RepI w (λb=>(B.S0 b\/Mine B b)/\b<w.heap.size/\b∉K2 X Y gs++K2 X Y a4) u x:=λu x hr=>hr.mono (λb hb=>⟨hb.1,hb.2.1,λhf=>by
    rw[<- nU]at hf
    obtain⟨p,hp,ho⟩:=bW.1 hf
    refine hb.2.2.1 p.1 ?_
    unfold Owns at ho ⊢
    rw[fB,if_neg (a8 p.1 (D7.2 ⟨p,hp,rfl⟩))]
    exact ho⟩) λ_ _ _ h=>h
   have hn:=kS hs a5;rw[nU]at hn
   have hm:∀b∈K2 X Y gs++K2 X Y a4,Mine B b/\b<w.heap.size:=λb hb=>by
    rw[<- nU]at hb;obtain⟨p,hp,ho⟩:=bW.1 hb;exact hs.own p.1 b ho
   have a9:us.toArray.size=vs.length:=by simp[hr.1]
   cases tp with
   |true =>
    have b7:¬us.toArray.size=1:=λe=>by
     rw[a9]at e;simp[e]at b3
    rw[dif_neg b7]at a2;exact⟨_,_,a2,⟨us,_,_,rfl,r1.mono a3,r2.mono a3,rfl⟩,hn,hm⟩
   |false =>
    have he:us.toArray.size=1:=by rw[a9];simpa using b3
    rw[dif_pos he]at a2
    obtain⟨u,rfl⟩:∃u,us=[u]:=by
     match us,he with
     |[u],_=>exact⟨u,rfl⟩
    exact⟨_,_,a2,⟨[u],_,_,rfl,r1.mono a3,r2.mono a3,rfl⟩,hn,hm⟩
  ·exact h.elim
 ·exact h.elim
def sig0:St:=λl=>match l with
 | .tmp _=>.av (.im .any)
 | .gen _=>.n 0
 | .ign _=>.n 0
 | .knd _=>.kd .dead
 | .cel _ _=>.av (.im .any)
def tau0:St:=λl=>match l with
 | .tmp _=>.av (.im .any)
 | .gen _=>.n 0
 | .ign _=>.n 0
 | .knd _=>.kd .dead
 | .cel o j=>.av (.osl (nmB o j) 0)
def dV:Arg->Oc
 | .im x=>.im x
 | .ow k=>.ow k
 | .box _ _=>.im .any
 | .lent _=>.im .any
def bxIx:Nat->List Arg->E5
 |_,[]=>[]
 |i,.box _ _::xs=>(i,i)::bxIx (i+1) xs
 |i,.lent _::xs=>(i,i)::bxIx (i+1) xs
 |i,.im _::xs=>bxIx (i+1) xs
 |i,.ow _::xs=>bxIx (i+1) xs
def bxAs:List Arg->List Arg
 |[]=>[]
 | .box t cs::xs=>.box t cs::bxAs xs
 | .lent k::xs=>.lent k::bxAs xs
 | .im _::xs=>bxAs xs
 | .ow _::xs=>bxAs xs
def argV(i:Nat)(x:Arg)(a:AV):AV:=match x with
 | .box _ _=>.own i 0 0
 | .lent _=>.osl i 0
 |_=>a
def tmpW:Nat->List Arg->List AV->List (Loc×Ct)
 |i,x::xs,a::al=>(.tmp i,.av (argV i x a))::tmpW (i+1) xs al
 |_,_,_=>[]
def entW(xs:List Arg):List (Loc×Ct):=match G3 tau0 (λi=>i) 0 (xs.map dV),bxPl tau0 (bxIx 0 xs) (bxAs xs) with
 |(al,ss),some (bl,ss')=>J4 tau0 (ss++ss')++(bxWr bl++tmpW 0 xs al)
 |_,none=>[]
def entOk(xs:List Arg):Bool:=match G3 tau0 (λi=>i) 0 (xs.map dV),bxPl tau0 (bxIx 0 xs) (bxAs xs) with
 |(_,ss),some (bl,ss')=>ndB ((ss++ss').map (·.1)) (bl.map (·.1))
 |_,none=>false
def st0(xs:List Arg):St:=app sig0 (entW xs)
def tB{S:Nat->Prop}:∀{vs:List Value} {xs:List Arg} {F:List Nat},R0 w S vs xs F->∃Ft Fb,aB w S vs (xs.map dV) Ft/\R0 w S (bxVs vs xs) (bxAs xs) Fb/\F.Perm (Ft++Fb)
 |[],[],F,h=>⟨[],[],rfl,rfl,by have h:F=[]:=h;rw[h];exact .refl _⟩
 |v::vs,.im x::xs,F,⟨F1,F2,h1,h2,h3⟩=>by
  obtain⟨Ft,Fb,a1,a2,a3⟩:=tB h2;obtain⟨h1,rfl⟩:=h1;exact⟨[]++Ft,Fb,⟨[],Ft,⟨h1,rfl⟩,a1,rfl⟩,a2,by rw[h3];exact a3⟩
 |v::vs,.ow k::xs,F,⟨F1,F2,h1,h2,h3⟩=>by
  obtain⟨Ft,Fb,a1,a2,a3⟩:=tB h2;exact⟨F1++Ft,Fb,⟨F1,Ft,h1,a1,rfl⟩,a2,by rw[h3,Z9];exact a3.append_left F1⟩
 |v::vs,.box t cs::xs,F,⟨F1,F2,h1,h2,h3⟩=>by
  obtain⟨Ft,Fb,a1,a2,a3⟩:=tB h2;refine⟨[]++Ft,F1++Fb,⟨[],Ft,⟨.any _,rfl⟩,a1,rfl⟩,⟨F1,Fb,h1,a2,rfl⟩,?_⟩;rw[h3,aJ];refine(a3.append_left F1).trans ?_;rw[<- Z9,<- Z9];exact List.perm_append_comm.append_right Fb
 |v::vs,.lent k::xs,F,⟨F1,F2,h1,h2,h3⟩=>by
  obtain⟨Ft,Fb,a1,a2,a3⟩:=tB h2;refine⟨[]++Ft,F1++Fb,⟨[],Ft,⟨.any _,rfl⟩,a1,rfl⟩,⟨F1,Fb,h1,a2,rfl⟩,?_⟩;rw[h3,aJ];refine(a3.append_left F1).trans ?_;rw[<- Z9,<- Z9];exact List.perm_append_comm.append_right Fb
 |[],_::_,_,h=>h.elim
 |_::_,[],_,h=>h.elim
def R0.len{S:Nat->Prop}:∀{vs:List Value} {xs:List Arg} {F:List Nat},R0 w S vs xs F->vs.length=xs.length
 |[],[],_,_=>rfl
 |_::_,_::_,_,⟨_,_,_,h,_⟩=>by simp[h.len]
 |[],_::_,_,h=>h.elim
 |_::_,[],_,h=>h.elim
def tmpW_get:∀{xs:List Arg} {al:List AV} {i:Nat} {X:St} {t:Nat},xs.length=al.length->(app X (tmpW i xs al)).av t=match xs[t-i]?,al[t-i]? with|some x,some a=>if i<=t then argV t x a else X.av t|_,_=>X.av t
 |[],[],i,X,t,_=>by simp[tmpW,app]
 |[],_::_,_,_,_,h=>by simp at h
 |_::_,[],_,_,_,h=>by simp at h
 |x::xs,a::al,i,X,t,h=>by
  rw[tmpW,N8,tmpW_get (by simpa using h)];by_cases h1:i+1<=t
  ·obtain⟨m,hm⟩:∃m,t-i=m+1:=⟨t-i-1,by omega⟩;rw[hm,show t-(i+1)=m from by omega];have h2:i<=t:=by omega
   have h3:t≠i:=by omega
   simp only[DR,h1,h2,if_true,av_tmp,h3,if_false]
  ·by_cases h2:t=i
   ·subst h2;rw[Y5];simp only[yS,G4,if_true,h1,if_false,av_tmp];split<;>rfl
   ·have h3:¬i<=t:=by omega
    simp only[if_neg h1,if_neg h3,av_tmp,if_neg h2];split<;>split<;>rfl
def tmpW_same:∀{xs:List Arg} {al:List AV} {i:Nat} {X:St},kE X (app X (tmpW i xs al))
 |[],_,_,_=>⟨rfl,rfl,rfl,rfl⟩
 |_::_,[],_,_=>⟨rfl,rfl,rfl,rfl⟩
 |x::xs,a::al,i,X=>by
  have h1:=kE.tmp X i (.av (argV i x a));have h2:kE (upd X (.tmp i) (.av (argV i x a))) (app (upd X (.tmp i) (.av (argV i x a))) (tmpW (i+1) xs al)):=tmpW_same;exact⟨h2.gn.trans h1.gn,h2.ig.trans h1.ig,h2.kd.trans h1.kd,h2.ce.trans h1.ce⟩
def sO:∀{xs:List Arg} {vs:List Value} {i j:Nat} {b:Nat} {p:Value},vs.length=xs.length->((bxIx i xs).map (·.1))[j]?=some b->(bxVs vs xs)[j]?=some p->i<=b/\vs[b-i]?=some p
 |[],[],i,j,b,p,_,h,_=>by simp[bxIx]at h
 |[],_::_,_,_,_,_,h,_,_=>by simp at h
 |_::_,[],_,_,_,_,h,_,_=>by simp at h
 | .im x::xs,v::vs,i,j,b,p,hl,h,k=>by
  obtain⟨h1,h2⟩:=sO (i:=i+1) (by simpa using hl) h k;obtain⟨m,hm⟩:∃m,b-i=m+1:=⟨b-i-1,by omega⟩;exact⟨by omega,by rw[hm,show m=b-(i+1) from by omega];simpa using h2⟩
 | .ow x::xs,v::vs,i,j,b,p,hl,h,k=>by
  obtain⟨h1,h2⟩:=sO (i:=i+1) (by simpa using hl) h k;obtain⟨m,hm⟩:∃m,b-i=m+1:=⟨b-i-1,by omega⟩;exact⟨by omega,by rw[hm,show m=b-(i+1) from by omega];simpa using h2⟩
 | .lent q::xs,v::vs,i,0,b,p,hl,h,k=>by
  simp[bxIx]at h;simp[bxVs]at k;subst h k;exact⟨G4 _,by simp⟩
 | .lent q::xs,v::vs,i,j+1,b,p,hl,h,k=>by
  obtain⟨h1,h2⟩:=sO (i:=i+1) (j:=j) (by simpa using hl) (by simpa[bxIx]using h) (by simpa[bxVs]using k);obtain⟨m,hm⟩:∃m,b-i=m+1:=⟨b-i-1,by omega⟩;exact⟨by omega,by rw[hm,show m=b-(i+1) from by omega];simpa using h2⟩
 | .box t cs::xs,v::vs,i,0,b,p,hl,h,k=>by
  simp[bxIx]at h;simp[bxVs]at k;subst h k;exact⟨G4 _,by simp⟩
 | .box t cs::xs,v::vs,i,j+1,b,p,hl,h,k=>by
  obtain⟨h1,h2⟩:=sO (i:=i+1) (j:=j) (by simpa using hl) (by simpa[bxIx]using h) (by simpa[bxVs]using k);obtain⟨m,hm⟩:∃m,b-i=m+1:=⟨b-i-1,by omega⟩;exact⟨by omega,by rw[hm,show m=b-(i+1) from by omega];simpa using h2⟩
def oT:∀{xs:List Arg} {i b:Nat},b∈(bxIx i xs).map (·.1)->i<=b
 |[],i,b,h=>by simp[bxIx]at h
 | .im x::xs,i,b,h=>by have:=oT (xs:=xs) (i:=i+1) h;omega
 | .ow x::xs,i,b,h=>by have:=oT (xs:=xs) (i:=i+1) h;omega
 | .lent k::xs,i,b,h=>by
  rw[bxIx,J7]at h;rcases H8.1 h with h|h
  ·exact nZ h.symm
  ·have:=oT (xs:=xs) (i:=i+1) h;omega
 | .box t cs::xs,i,b,h=>by
  rw[bxIx,J7]at h;rcases H8.1 h with h|h
  ·exact nZ h.symm
  ·have:=oT (xs:=xs) (i:=i+1) h;omega
def tC:∀{xs:List Arg} {i:Nat},((bxIx i xs).map (·.1)).Nodup
 |[],i=>fU
 | .im x::xs,i=>tC (xs:=xs) (i:=i+1)
 | .ow x::xs,i=>tC (xs:=xs) (i:=i+1)
 | .lent k::xs,i=>by
  rw[bxIx,J7,aQ];exact⟨λh=>by have:=oT h;omega,tC⟩
 | .box t cs::xs,i=>by
  rw[bxIx,J7,aQ];exact⟨λh=>by have:=oT h;omega,tC⟩
def isLent:Arg->Bool
 | .box _ _=>true
 | .lent _=>true
 |_=>false
def pI:∀{xs:List Arg} {i o:Nat} {x:Arg},xs[o]?=some x->isLent x=true->i+o∈(bxIx i xs).map (·.1)
 |[],i,o,x,h,_=>by simp at h
 | .box t' cs'::xs,i,0,x,h,_=>by simp[bxIx]
 | .lent k::xs,i,0,x,h,_=>by simp[bxIx]
 | .im y::xs,i,0,x,h,hl=>by simp at h;subst h;cases hl
 | .ow y::xs,i,0,x,h,hl=>by simp at h;subst h;cases hl
 | .im y::xs,i,o+1,x,h,hl=>by have:=pI (xs:=xs) (i:=i+1) (o:=o) (x:=x) (by simpa using h) hl;rw[bxIx,show i+(o+1)=i+1+o from by omega];exact this
 | .ow y::xs,i,o+1,x,h,hl=>by have:=pI (xs:=xs) (i:=i+1) (o:=o) (x:=x) (by simpa using h) hl;rw[bxIx,show i+(o+1)=i+1+o from by omega];exact this
 | .box t' cs'::xs,i,o+1,x,h,hl=>by
  have:=pI (xs:=xs) (i:=i+1) (o:=o) (x:=x) (by simpa using h) hl;rw[bxIx,J7,show i+(o+1)=i+1+o from by omega];exact K7 _ this
 | .lent k::xs,i,o+1,x,h,hl=>by
  have:=pI (xs:=xs) (i:=i+1) (o:=o) (x:=x) (by simpa using h) hl;rw[bxIx,J7,show i+(o+1)=i+1+o from by omega];exact K7 _ this
def lkWr_gn(X:St)(b:Nat)(x:LK):(app X (lkWr b x)).gn=X.gn:=by
 cases x with
 |box t al =>
  show(app (upd X (.knd b) (.kd (.box t al.length))) (P4 b 0 al)).gn=_;rw[vY];exact funext λo=>X8 X b o _
 |obj k=>exact funext λo=>X8 X b o _
def lkWr_av(X:St)(b:Nat)(x:LK)(t:Nat):(app X (lkWr b x)).av t=X.av t:=by
 cases x with
 |box ty al =>
  show(app (upd X (.knd b) (.kd (.box ty al.length))) (P4 b 0 al)).av t=_;rw[vM,bR]
 |obj k=>exact bR X b t _
def bxWr_gn:∀{bl:List (Nat×LK)} {X:St},(app X (bxWr bl)).gn=X.gn
 |[],_=>rfl
 |(b,x)::bl,X=>by
  show(app X (lkWr b x++bxWr bl)).gn=_;rw[K3,bxWr_gn,lkWr_gn]
def R0.ptr{S:Nat->Prop}:∀{vs:List Value} {xs:List Arg} {F:List Nat},R0 w S vs xs F->∀{i:Nat} {v:Value} {t:TypeId} {cs:List Oc},vs[i]?=some v->xs[i]?=some (.box t cs)->∃q,v=.pointer (some ⟨q,0,none⟩)
 |[],[],_,_,i,_,_,_,h,_=>by simp at h
 |v::vs,x::xs,_,⟨_,_,h1,h2,_⟩,0,u,t,cs,h,k=>by
  simp at h k;subst h k;obtain⟨q,_,_,e,_⟩:=h1;exact⟨q,e⟩
 |v::vs,x::xs,_,⟨_,_,h1,h2,_⟩,i+1,u,t,cs,h,k=>h2.ptr (by simpa using h) (by simpa using k)
 |[],_::_,_,h,_,_,_,_,_,_=>h.elim
 |_::_,[],_,h,_,_,_,_,_,_=>h.elim
def R0.one{S:Nat->Prop}:∀{vs:List Value} {xs:List Arg} {F:List Nat},R0 w S vs xs F->∀{i:Nat} {v:Value} {k:Kd},vs[i]?=some v->xs[i]?=some (.lent k)->v.oneCell'=true
 |[],[],_,_,i,_,_,h,_=>by simp at h
 |v::vs,x::xs,_,⟨_,_,h1,h2,_⟩,0,u,k',h,k=>by
  simp at h k;subst h k;exact h1.1
 |v::vs,x::xs,_,⟨_,_,h1,h2,_⟩,i+1,u,k',h,k=>h2.one (by simpa using h) (by simpa using k)
 |[],_::_,_,h,_,_,_,_,_=>h.elim
 |_::_,[],_,h,_,_,_,_,_=>h.elim
def st0_sat(w:World)(S:Nat->Prop){vs:List Value}{xs:List Arg}{F:List Nat}(h:R0 w S vs xs F)(hnd:F.Nodup)(hF:∀b∈F,¬S b/\b<w.heap.size)(hS:∀b,S b->b<w.heap.size)(n:Nat)(hn:vs.length<=n)(hok:entOk xs=true) :
  Sat ⟨w,S,n,λb=>b∈F,λ_=>False,cY xs vs,[]⟩ (st0 xs) { tmps:=vs.toArray++Array.replicate (n-vs.toArray.size) undef,defers:=[] } w:=by
 have b9:=h.len;obtain⟨Ft,Fb,a1,a2,a3⟩:=tB h;have a4:=a3.nodup_iff.1 hnd;rw[Y7]at a4;have b7:∀b,b∈Ft\/b∈Fb->b∈F:=λb hb=>a3.mem_iff.2 (I8.2 hb);unfold entOk at hok;unfold st0 entW;cases hbl:bxPl tau0 (bxIx 0 xs) (bxAs xs) with
 |none=>rw[hbl]at hok;cases hok
 |some q =>
  obtain⟨bl,ss'⟩:=q;rw[hbl]at hok;simp only at hok ⊢;obtain⟨a6,a9⟩:=fF hok;have d6:=a6;rw[N6,Y7]at a6
  have h0:SatR ⟨w,S,n,λb=>b∈F,λb=>b∈F,cY xs vs,[]⟩ sig0 { tmps:=vs.toArray++Array.replicate (n-vs.toArray.size) undef,defers:=[] } w ⟨λo=>vs.getD o undef,λ_=>[],λ_=>0⟩:=by
   refine⟨Belo.refl _ _ w,λo=>trivial,λo b ho=>absurd rfl ho.lv,λo p b ho=>absurd rfl ho.lv,λt=>.im _ _ (.any _),λo=>rfl,λb hb=>⟨⟨.inr hb,(hF b hb).2⟩,λo ho=>absurd rfl ho.lv⟩,λo v hl _=>?_,by simp;omega,rfl⟩;have hl:cY xs vs o=some v:=hl;unfold cY at hl;split at hl
   ·show vs.getD o undef=v;simp[List.getD,hl]
   ·show vs.getD o undef=v;simp[List.getD,hl]
   ·cases hl
  have d1:∀b,S b->Imm ⟨w,S,n,λb=>b∈F,λb=>b∈F,cY xs vs,[]⟩ sig0 ⟨λo=>vs.getD o undef,λ_=>[],λ_=>0⟩ w b:=λb hb=>⟨.inl hb,hS b hb,λo ho=>absurd rfl ho.lv,λhf=>(hF b hf).1 hb⟩;obtain⟨Y2,Z2,b1,b2,b3,b4,b5,b6⟩:=sS tau0 (λi=>i) (l:=xs.map dV) (i:=0) h0 a1 d1 a4.1 (λb hb=>b7 b (.inl hb)) a6.1 λ_ _=>⟨rfl,rfl⟩
  obtain⟨Y3,Z3,qs,c1,c2,c3,c4,c5,c6,c7,c8,c9⟩:=wP tau0 hbl b1 a2 (λb hb=>b5 b (d1 b hb)) a4.2.1 (λb hb=>b2 b (b7 b (.inr hb)) λhf=>a4.2.2 b hf b hb rfl) a6.2.1 λp hp=>by
   obtain⟨_,d2,d3,_⟩:=b6 p.1 λhm=>a6.2.2 p.1 hm p.1 (D7.2 ⟨p,hp,rfl⟩) rfl;exact⟨d2,d3⟩
  have d0:app (app sig0 (J4 tau0 (G3 tau0 (λi=>i) 0 (xs.map dV)).2)) (J4 tau0 ss')=app sig0 (J4 tau0 ((G3 tau0 (λi=>i) 0 (xs.map dV)).2++ss')):=by rw[xO,K3]
  rw[d0]at c1 c5 c7 c8 c9
  have a5:∀b,b∈bl.map (·.1)->Y3 b=vs.getD b undef:=λb hb=>by
   have a7:b∉(G3 tau0 (λi=>i) 0 (xs.map dV)).2.map (·.1):=λhm=>a9 b (by rw[N6];exact L5 _ hm) hb;have a8:b∉ss'.map (·.1):=λhm=>a9 b (by rw[N6];exact L3 _ hm) hb;rw[(c9 b a8).1,(b6 b a7).1]
  obtain⟨Z4,e1,e2,e3⟩:=AR c1 c5 c4 (λq hq=>(c3 q hq).1) (by rw[c6];exact tC) λj b p hb hp=>by
   have d5:=H0 hb;rw[c6]at hb;obtain⟨_,hp⟩:=sO b9 hb hp;rw[a5 b d5];rw[oA]at hp;simp[List.getD,hp]
  obtain⟨g1,_,g3,_⟩:=e1.stepZ (X':=app (app sig0 (J4 tau0 ((G3 tau0 (λi=>i) 0 (xs.map dV)).2++ss'))) (bxWr bl)) (Y':=Y3) (w':=w) (λ_=>False) (λ_=>False) (λ_=>rfl) (λ_ _=>⟨rfl,rfl,λ_=>rfl,rfl,rfl,rfl⟩) (λ_ hd=>hd.elim) e1.igs (Belo.refl _ _ _) (λ_ _ hd=>hd.elim) (λ_ _ _ hd=>hd.elim)
   (λ_ hb=>hb.elim) λ_ _ _ hd=>hd.elim
  refine⟨Y3,?_⟩;rw[K3,K3]
  have lent:∀t (ht:t<vs.length),t∈bl.map (·.1)->(app (app sig0 (J4 tau0 ((G3 tau0 (λi=>i) 0 (xs.map dV)).2++ss'))) (bxWr bl)).gn t=0/\Y3 t=vs[t]:=λt ht hb=>by
   have a7:t∉(G3 tau0 (λi=>i) 0 (xs.map dV)).2.map (·.1):=λhm=>a9 t (by rw[N6];exact L5 _ hm) hb;have a8:t∉ss'.map (·.1):=λhm=>a9 t (by rw[N6];exact L3 _ hm) hb;refine⟨?_,by rw[a5 t hb];simp[List.getD,ht]⟩;rw[bxWr_gn,(c9 t a8).2.1,(b6 t a7).2.1];rfl
  refine g1.slots tmpW_same (λt=>?_) (by simp;omega) rfl;have d4:xs.length=(G3 tau0 (λi=>i) 0 (xs.map dV)).1.length:=by rw[<- b3.1,b9]
  rw[tmpW_get d4,oA];by_cases ht:t<vs.length
  ·have hx:t<xs.length:=by omega
   have hv:(vs.toArray++Array.replicate (n-vs.toArray.size) undef).getD t undef=vs[t]:=by
    simp only[yV];rw[Array.getElem?_append_left (by simpa using ht)];simp[ht]
   obtain⟨al,b8⟩:∃al,(G3 tau0 (λi=>i) 0 (xs.map dV)).1[t]?=some al:=⟨_,J8 (by omega)⟩;have hr:=g3 _ _ (e3 _ _ (c7 _ _ (b3.2 t vs[t] al (J8 ht) b8)));rw[hv,J8 hx,b8];simp only[F7,if_true];cases hxt:xs[t]with
   |im x=>exact hr
   |ow k=>exact hr
   |box ty cs =>
    have hb:t∈bl.map (·.1):=by
     rw[c6];have:=pI (xs:=xs) (i:=0) (o:=t) (x:=.box ty cs) (by rw[J8 hx,hxt]) rfl
     rwa [F9]at this
    obtain⟨hg,c0⟩:=lent t ht hb;obtain⟨q,hq⟩:∃q,vs[t]=.pointer (some ⟨q,0,none⟩):=R0.ptr h (J8 ht) (by rw[J8 hx,hxt]);exact .own _ _ _ _ (by rw[hq];rfl) (by rw[hg];exact G4 _) λ_=>⟨q,c0.trans hq,hq⟩
   |lent k =>
    have hb:t∈bl.map (·.1):=by
     rw[c6];have:=pI (xs:=xs) (i:=0) (o:=t) (x:=.lent k) (by rw[J8 hx,hxt]) rfl
     rwa [F9]at this
    obtain⟨hg,c0⟩:=lent t ht hb;exact .osl _ _ _ (R0.one h (J8 ht) (by rw[J8 hx,hxt])) (by rw[hg];exact G4 _) λ_=>c0.symm
  ·rw[W8 (by omega)]
   have e0:(app (app sig0 (J4 tau0 ((G3 tau0 (λi=>i) 0 (xs.map dV)).2++ss'))) (bxWr bl)).av t=.im .any:=by
    have k1:∀(bl:List (Nat×LK)) (X:St),(app X (bxWr bl)).av t=X.av t:=by
     intro bl
     induction bl with
     |nil=>intro X;rfl
     |cons x bl ih =>
      intro X;obtain⟨b,x⟩:=x;show(app X (lkWr b x++bxWr bl)).av t=_;rw[K3,ih,lkWr_av]
    have k2:∀(l:List (Nat×Kd)) (X:St),(app X (J4 tau0 l)).av t=X.av t:=by
     intro l
     induction l with
     |nil=>intro X;rfl
     |cons p l ih =>
      intro X;rw[J4,K3,ih];exact(mkK_eqs X tau0 p.1 p.2).2.2.2.1 t
    rw[k1,k2];rfl
   simp only;rw[e0];exact .im _ _ (.any _)
def fH{f:FuncId}{fn:Func}{c:Code}(hf:P.funcs[f]?=some fn)(hname:(fn.name=="runtime.NumGoroutine")=false)(hb:fn.body=some c)(args:Array Value)(w:World):(callFunc f args).run P w=.ok (.enter f args) w:=by
 have h1:fn.name≠"runtime.NumGoroutine":=by simpa using hname
 simp[callFunc,hf,h1,hb]
def sp_of_code(hm:P.follows .mixedOrders=true){C:FuncId->List Arg->Rs->Prop}(hC:∀g xs r,C g xs r->SpX P g xs r){own:List Nat}{f:FuncId}{fn:Func}{c:Code}(hf:P.funcs[f]?=some fn)(hname:(fn.name=="runtime.NumGoroutine")=false)(hb:fn.body=some c)
  {xs:List Arg} {r:Rs} (hn:xs.length<=fn.ntmps) (hok:entOk xs=true) (h:∀w S vs F,R0 w S vs xs F->bC P C fn.ntmps own c (retK P fn.results.toList xs r) (st0 xs)):Sp P f xs r:=by
 refine⟨λargs w=>fH hf hname hb args w,λw S vs F hS a2 a6 hF=>?_⟩;have a4:=a2.len;refine calls_of_wp hf hb (gM (B:=⟨w,S,fn.ntmps,λb=>b∈F,λ_=>False,cY xs vs,[]⟩) hm hC c _ _ (h w S vs F a2) _ _ (st0_sat w S a2 a6 hF hS fn.ntmps (by rw[a4];exact hn) hok) _ λe X' a' w' hk a3=>?_)
 have fin:RetOk P fn.results.toList xs X' r->a'.defers=[]/\∃v,(results fn a'.tmps).run P w'=.ok v w'/\∃(v':Value) (F':List Nat),Ending.returned v=.returned v'/\Belo (λb=>b∈F) w.heap.size w w' /\
   eV w' (λb=>(S b\/w.heap.size<=b\/b∈F)/\b<w'.heap.size/\b∉F') v' (bxVs vs xs) r F'/\F'.Nodup/\∀b∈F',(w.heap.size<=b\/b∈F)/\b<w'.heap.size:=λhk=>by
  obtain⟨v,F',hv,a5,h1,h2⟩:=results_ok (vs0:=vs) hk a3 a4 λj v hv=>hv;obtain⟨Y,a3⟩:=a3;exact⟨a3.dfr,v,hv,v,F',rfl,a3.bel,a5,h1,h2⟩
 cases e with
 |ret=>exact fin hk
 |normal=>exact fin hk
 |exit id=>exact hk.elim
 |goto l=>exact hk.elim
 |panic ch=>exact hk.elim
 |outgrown=>exact hk.elim
end
end
section
def lookA:List (Nat×AV)->Nat->AV
 |[],_=>.im .any
 |p::l,t=>match Nat.beq t p.1 with|true=>p.2|false=>lookA l t
def dU:List (Nat×Kd)->Nat->Kd
 |[],_=>.dead
 |p::l,t=>match Nat.beq t p.1 with|true=>p.2|false=>dU l t
def lookC:List (Nat×Nat×AV)->Nat->Nat->AV
 |[],_,_=>.im .any
 |p::l,o,i=>match Nat.beq o p.1&&Nat.beq i p.2.1 with|true=>p.2.2|false=>lookC l o i
def gnM:List (Nat×Kd)->Nat->Nat
 |[],_=>1
 |p::l,o=>match Nat.beq o p.1 with|true=>(match Nat.blt o 64 with|true=>0|false=>1)|false=>gnM l o
def mkSt(avs:List (Nat×AV))(kds:List (Nat×Kd))(cels:List (Nat×Nat×AV)):St:=λl=>match l with
 | .tmp t=>.av (lookA avs t)
 | .gen o=>.n (gnM kds o)
 | .ign _=>.n 0
 | .knd o=>.kd (dU kds o)
 | .cel o i=>.av (lookC cels o i)
inductive Sub:AV->AV->Prop
 |refl (a:AV):Sub a a
 |any (a:AV):Sub a (.im .any)
 |nz (x:IV):Sub (.im x) (.im (Sym.nz x))
def RepA.less{w:World}{S:Nat->Prop}{Y:Ly}{E:Nat->Nat}{v:Value}{x y:AV}(h:RepA w S Y E v x)(s:Sub x y):RepA w S Y E v y:=by
 cases s with
 |refl=>exact h
 |any=>exact .im _ _ (.any _)
 |nz x=>exact .im _ _ (nz_rep h.im_inv)
def Sub.rfl'{a b:AV}(h:a=b):Sub a b:=h ▸ .refl _
def Sub.nz'{x y:IV}(h:Sym.nz x=y):Sub (.im x) (.im y):=h ▸ .nz x
def R6:List (Nat×Option Nat)->Nat->Option (Option Nat)
 |[],_=>none
 |p::l,b=>match Nat.beq b p.1 with|true=>some p.2|false=>R6 l b
def srcs:List (Nat×Option Nat)->List Nat
 |[]=>[]
 |(_,some a)::l=>a::srcs l
 |(_,none)::l=>srcs l
mutual
inductive SubR(X:St)(src:List (Nat×Option Nat))(E:Nat->Nat):AV->AV->Prop
 |im {a:AV} {b:IV} (h:Sub a (.im b)):SubR X src E a (.im b)
 |osl {a b g g':Nat} (h:R6 src b=some (some a)) (hg:X.gn a=g) (hg':E b=g'):SubR X src E (.osl a g) (.osl b g')
 |osv {a b g g' k m:Nat} (h:R6 src b=some (some a)) (hg:X.gn a=g) (hg':E b=g'):SubR X src E (.osv a g k m) (.osv b g' k m)
 |made {b g':Nat} (h:R6 src b=some none) (hg':E b=g'):SubR X src E (.im (.val (.slice none 0 0))) (.osl b g')
 |own {a b g g' i:Nat} (h:R6 src b=some (some a)) (hg:X.gn a=g) (hg':E b=g'):SubR X src E (.own a g i) (.own b g' i)
 |elt {a b g g' k i j:Nat} (h:R6 src b=some (some a)) (hg:X.gn a=g) (hg':E b=g'):SubR X src E (.elt a g k i j) (.elt b g' k i j)
 |sub {a b g i:Nat} (h:R6 src b=some (some a)) (hg:X.ig a=g):SubR X src E (.sub a g i) (.sub b 0 i)
 |fn {f:FuncId} {cs ds:List AV} (h:iQ X src E cs ds):SubR X src E (.fn f cs) (.fn f ds)
 |agg {cs ds:List AV} (h:iQ X src E cs ds):SubR X src E (.agg cs) (.agg ds)
inductive iQ(X:St)(src:List (Nat×Option Nat))(E:Nat->Nat):List AV->List AV->Prop
 |nil:iQ X src E [] []
 |cons {c d:AV} {cs ds:List AV} (h:SubR X src E c d) (t:iQ X src E cs ds):iQ X src E (c::cs) (d::ds)
end
section
variable {w:World}{S S':Nat->Prop}{X:St}{Y Y':Ly}{src:List (Nat×Option Nat)}{E:Nat->Nat}
mutual
def SubR.rep(hI:∀v x,RepI w S v x->RepI w S' v x)(hY:∀b a,R6 src b=some (some a)->Y' b=Y a/\Y'.inn b=Y.inn a)(hn:∀b,R6 src b=some none->Y' b=.slice none 0 0)(hig:(∀o,Y.ig o=X.ig o)/\∀o,Y'.ig o=0) :
  ∀{x y:AV},SubR X src E x y->∀{v:Value},RepA w S Y X.gn v x->RepA w S' Y' E v y
 |x,_,.im h,v,hr=>.im _ _ (hI _ _ (hr.less h).im_inv)
 |_,_,.osl h hg hg',v,hr=>by
  cases hr with
  |osl _ _ _ h1 h2 h3=>exact .osl _ _ _ h1 (nZ hg'.symm) λ_=>by rw[(hY _ _ h).1];exact h3 hg
 |_,_,.osv h hg hg',v,hr=>by
  cases hr with
  |osv _ _ _ _ _ h1 h2 h3=>exact .osv _ _ _ _ _ h1 (nZ hg'.symm) λ_=>by rw[(hY _ _ h).1];exact h3 hg
 |_,_,.made h hg',v,hr=>by
  cases hr.im_inv with
  |val _=>exact .osl _ _ _ rfl (nZ hg'.symm) λ_=>(hn _ h).symm
 |_,_,.own h hg hg',v,hr=>by
  cases hr with
  |own _ _ _ _ h1 h2 h3=>exact .own _ _ _ _ h1 (nZ hg'.symm) λ_=>by rw[(hY _ _ h).1];exact h3 hg
 |_,_,.elt h hg hg',v,hr=>by
  cases hr with
  |elt _ _ _ _ _ _ h1 h2 h3=>exact .elt _ _ _ _ _ _ h1 (nZ hg'.symm) λ_=>by rw[(hY _ _ h).1];exact h3 hg
 |_,_,.sub h hg,v,hr=>by
  cases hr with
  |sub _ _ _ _ h1 h2 h3=>exact .sub _ _ _ _ h1 (F7 _) λ_=>by rw[(hY _ _ h).2];exact h3 ((hig.1 _).trans hg)
 |_,_,.fn h,v,hr=>by
  cases hr with
  |fn _ us _ hl h1 =>
   have:=iQ.rep hI hY hn hig h ⟨hl,h1⟩;exact .fn _ _ _ this.1 this.2
 |_,_,.agg h,v,hr=>by
  cases hr with
  |agg us _ hl h0 h1 =>
   have:=iQ.rep hI hY hn hig h ⟨hl,h1⟩;exact .agg _ _ this.1 h0 this.2
def iQ.rep(hI:∀v x,RepI w S v x->RepI w S' v x)(hY:∀b a,R6 src b=some (some a)->Y' b=Y a/\Y'.inn b=Y.inn a)(hn:∀b,R6 src b=some none->Y' b=.slice none 0 0)(hig:(∀o,Y.ig o=X.ig o)/\∀o,Y'.ig o=0) :
  ∀{xs ys:List AV},iQ X src E xs ys->∀{us:List Value},Reps w S Y X.gn us xs->Reps w S' Y' E us ys
 |_,_,.nil,us,hr=>⟨hr.1,λi u x hu hx=>by simp at hx⟩
 |_,_,.cons h t,[],hr=>by have:=hr.1;simp at this
 |_,_,.cons h t,u::us,hr=>by
  have h1:=SubR.rep hI hY hn hig h (hr.2 0 u _ rfl rfl);have h2:=iQ.rep hI hY hn hig t (us:=us) ⟨by simpa using hr.1,λi u x hu hx=>hr.2 (i+1) u x (by simpa using hu) (by simpa using hx)⟩;refine⟨by simp[h2.1],λi v x hv hx=>?_⟩;cases i with
  |zero=>simp at hv hx;subst hv hx;exact h1
  |succ i=>exact h2.2 i v x (by simpa using hv) (by simpa using hx)
end
end
def SubL(X:St)(src:List (Nat×Option Nat))(E:Nat->Nat):List (Nat×AV)->Prop
 |[]=>True
 |p::l=>(∃x,X.av p.1=x/\SubR X src E x p.2)/\SubL X src E l
def KeepOk(X:St)(o a:Nat):Prop:=match Nat.blt o 64 with|true=>a=o/\X.gn a=0|false=>True
def NilKd(o:Nat)(k:Kd):Prop:=Nat.blt o 64=false/\((∃e m,k=.row e m []/\0<m)\/(∃e e' m,k=.grid e e' m [] none)\/∃t e m,k=.bag t e m [] none)
def KdL(X:St)(src:List (Nat×Option Nat)):List (Nat×Kd)->Prop
 |[]=>True
 |p::l=>((∃a,R6 src p.1=some (some a)/\X.kd a=p.2/\KeepOk X p.1 a)\/(R6 src p.1=some none/\NilKd p.1 p.2))/\KdL X src l
def CeL(X:St)(src:List (Nat×Option Nat))(E:Nat->Nat):List (Nat×Nat×AV)->Prop
 |[]=>True
 |p::l=>(∃a x,R6 src p.1=some (some a)/\X.ce a p.2.1=x/\SubR X src E x p.2.2)/\CeL X src E l
def lookA_sub{X:St}{src:List (Nat×Option Nat)}{E:Nat->Nat}:∀{avs:List (Nat×AV)},SubL X src E avs->∀t,SubR X src E (X.av t) (lookA avs t)
 |[],_,t=>.im (.any _)
 |p::l,h,t=>by
  unfold lookA;split
  ·rename_i e;have e:=M3 e;subst e;obtain⟨x,h1,h2⟩:=h.1;rw[h1];exact h2
  ·exact lookA_sub h.2 t
def zF{X:St}{src:List (Nat×Option Nat)}{E:Nat->Nat}:∀{cels:List (Nat×Nat×AV)},CeL X src E cels->∀b a i,R6 src b=some (some a)->SubR X src E (X.ce a i) (lookC cels b i)
 |[],_,b,a,i,_=>.im (.any _)
 |p::l,h,b,a,i,hs=>by
  unfold lookC;split
  ·rename_i e;rw[M4]at e;have e1:=M3 e.1;have e2:=M3 e.2;subst e1 e2;obtain⟨a',x,h1,h3,h2⟩:=h.1;rw[hs]at h1;injection h1 with h1
   injection h1 with h1
   subst h1;rw[h3];exact h2
  ·exact zF h.2 b a i hs
def zI{X:St}{src:List (Nat×Option Nat)}:∀{kds:List (Nat×Kd)},KdL X src kds->∀o,dU kds o≠.dead ->
  (∃a,R6 src o=some (some a)/\X.kd a=dU kds o/\KeepOk X o a)\/(R6 src o=some none/\NilKd o (dU kds o))
 |[],_,o,h=>absurd rfl h
 |p::l,h,o,hd=>by
  unfold dU at hd ⊢;split
  ·rename_i e;have e:=M3 e;subst e;exact h.1
  ·rename_i e;rw[e]at hd;exact zI h.2 o hd
def gnM_keep{X:St}{src:List (Nat×Option Nat)}:∀{kds:List (Nat×Kd)},KdL X src kds->∀o,gnM kds o=0->R6 src o=some (some o)/\X.gn o=0
 |[],_,o,h=>by simp[gnM]at h
 |p::l,h,o,hg=>by
  unfold gnM at hg;split at hg
  ·rename_i e;have e:=M3 e;subst e;split at hg
   ·rename_i hb;rcases h.1 with⟨a,h1,_,h3⟩|⟨_,h3,_⟩
    ·unfold KeepOk at h3;rw[hb]at h3;obtain⟨rfl,h4⟩:=h3;exact⟨h1,h4⟩
    ·rw[hb]at h3;cases h3
   ·cases hg
  ·exact gnM_keep h.2 o hg
def wT:∀{src:List (Nat×Option Nat)} {b a:Nat},R6 src b=some (some a)->a∈srcs src
 |[],b,a,h=>by cases h
 |(c,o)::l,b,a,h=>by
  unfold R6 at h;split at h
  ·simp only[C2]at h;subst h;simp[srcs]
  ·cases o with
   |none=>exact wT (src:=l) h
   |some d=>exact K7 _ (wT h)
def yZ:∀{src:List (Nat×Option Nat)},(srcs src).Nodup->∀{b c a:Nat},R6 src b=some (some a)->R6 src c=some (some a)->b=c
 |[],_,b,c,a,h,_=>by cases h
 |(d,o)::l,hn,b,c,a,h,k=>by
  unfold R6 at h k;cases o with
  |none =>
   split at h
   ·cases h
   ·split at k
    ·cases k
    ·exact yZ (src:=l) hn h k
  |some q =>
   obtain⟨h1,h2⟩:=aQ.1 hn;split at h
   ·rename_i e1;simp only[C2]at h;subst h;split at k
    ·rename_i e2;rw[M3 e1,M3 e2]
    ·exact absurd (wT k) h1
   ·split at k
    ·simp only[C2]at k;subst k;exact absurd (wT h) h1
    ·exact yZ h2 h k
def Ent.mk{X:St}{avs:List (Nat×AV)}{kds:List (Nat×Kd)}{cels:List (Nat×Nat×AV)}(src:List (Nat×Option Nat))(hn:ndB (srcs src) []=true)(ha:SubL X src (gnM kds) avs)(hk:KdL X src kds)(hc:CeL X src (gnM kds) cels):Ent X (mkSt avs kds cels):=by
 rintro B a w ⟨Y,hs⟩;have a5:=(fF hn).1
 let Y':Ly:=⟨λb=>match R6 src b with|some (some a)=>Y a|_=>.slice none 0 0,λb=>match R6 src b with|some (some a)=>Y.inn a|_=>[],λ_=>0⟩
 have hY:∀b a,R6 src b=some (some a)->Y' b=Y a/\Y'.inn b=Y.inn a:=λb a h=>by simp only[Y',h];exact⟨trivial,trivial⟩
 have hρn:∀b,R6 src b=some none->Y' b=.slice none 0 0:=λb h=>by simp only[Y',h]
 have hρi:∀b,R6 src b=some none->Y'.inn b=[]:=λb h=>by simp only[Y',h]
 have a3:∀o,(mkSt avs kds cels).kd o=dU kds o:=λ_=>rfl
 have a2:∀o q,Owns (mkSt avs kds cels) Y' o q->∃a,R6 src o=some (some a)/\Owns X Y a q:=λo q hq=>by
  rcases zI hk o hq.lv with⟨a,h1,h2,_⟩|⟨h1,_,h2⟩
  ·refine⟨a,h1,?_⟩;unfold Owns at hq ⊢;rw[a3,(hY o a h1).1,(hY o a h1).2]at hq;rw[h2];exact hq
  ·unfold Owns at hq;rw[a3,hρn o h1,hρi o h1]at hq;rcases h2 with⟨e,m,h2,_⟩|⟨e,e',m,h2⟩|⟨t,e,m,h2⟩
   ·rw[h2]at hq;simp[fpk,D9]at hq
   ·rw[h2]at hq;simp[fpk,fpv,D9]at hq
   ·rw[h2]at hq;simp[fpk,fpv,D9]at hq
 have hS:∀b,Imm B X Y w b->Imm B (mkSt avs kds cels) Y' w b:=λb hi=>⟨hi.1,hi.2.1,λo hq=>by
  obtain⟨a,_,h2⟩:=a2 o b hq
  exact hi.2.2.1 a h2,hi.2.2.2⟩
 have hI:∀v x,RepI w (Imm B X Y w) v x->RepI w (Imm B (mkSt avs kds cels) Y' w) v x:=λv x hr=>hr.mono hS λ_ _ _ h=>h;have hA:∀{x y:AV},SubR X src (gnM kds) x y->∀{v:Value},RepA w (Imm B X Y w) Y X.gn v x->RepA w (Imm B (mkSt avs kds cels) Y' w) Y' (mkSt avs kds cels).gn v y:=λh _ hr=>SubR.rep hI hY hρn ⟨hs.igs,λ_=>rfl⟩ h hr;refine⟨Y',hs.bel,λo=>?_,λo b ho=>?_,λo p b h1 h2=>?_,λt=>hA (lookA_sub ha t) (hs.tms t),λ_=>rfl,λb hb=>⟨(hs.res b hb).1,λo ho=>?_⟩,λo v hl hg=>?_,hs.siz,hs.dfr⟩
 ·rw[a3]
  have nil:R6 src o=some none->NilKd o (dU kds o)->aT B (mkSt avs kds cels) Y' w o (dU kds o):=λh1 ⟨_,h2⟩=>by
   rcases h2 with⟨e,m,h2,h3⟩|⟨e,e',m,h2⟩|⟨t,e,m,h2⟩
   ·rw[h2];show V7 w _ (Y' o) e m [];rw[hρn o h1];exact⟨[],h3,by simp,by simp,World.ownsRow_nil _ _ _ _,rfl,by simp,by simp⟩
   ·rw[h2];show dC w _ (Y' o) (Y'.inn o) e e' m [] none;rw[hρn o h1,hρi o h1];exact⟨fU,rfl,[],F7 _,World.ownsRow_nil _ _ _ _,by simp,λi u hu=>by simp at hu⟩
   ·rw[h2];show eW w _ (Y' o) (Y'.inn o) t e m []/\_;rw[hρn o h1,hρi o h1];exact⟨⟨rfl,fU,[],rfl,rfl,λi g row hg _=>by simp at hg⟩,λp hp=>by cases hp⟩
  have a4:∀a,R6 src o=some (some a)->X.kd a=dU kds o->aT B (mkSt avs kds cels) Y' w o (dU kds o):=λa h1 h2=>by
   have ho:=hs.obs a;rw[h2]at ho;obtain⟨e1,e2⟩:=hY o a h1;cases e:dU kds o with
   |dead=>trivial
   |box t m =>
    rw[e]at ho;obtain⟨b,us,h3,h4,h5,h6,h7⟩:=ho;exact⟨b,us,e1.trans h3,h4,h5,h6,λi u hu=>hA (zF hc o a i h1) (h7 i u hu)⟩
   |row t k es =>
    rw[e]at ho;show O4 w (Imm B (mkSt avs kds cels) Y' w) (Y' o) (Y'.inn o) (.row t k es);rw[e1,e2];exact O4.mono (k:=.row t k es) ho (λ_ _=>rfl) hI
   |grid t t' k gs q =>
    rw[e]at ho;show O4 w (Imm B (mkSt avs kds cels) Y' w) (Y' o) (Y'.inn o) (.grid t t' k gs q);rw[e1,e2];exact O4.mono (k:=.grid t t' k gs q) ho (λ_ _=>rfl) hI
   |map l =>
    rw[e]at ho;show O4 w (Imm B (mkSt avs kds cels) Y' w) (Y' o) (Y'.inn o) (.map l);rw[e1,e2];exact O4.mono (k:=.map l) ho (λ_ _=>rfl) hI
   |bag ty te m l q =>
    rw[e]at ho;show eW w (Imm B (mkSt avs kds cels) Y' w) (Y' o) (Y'.inn o) ty te m l/\_;rw[e1,e2];exact⟨eW.mono ho.1 (λ_ _=>rfl) hI,λp hp=>hA (zF hc o a 0 h1) (ho.2 p hp)⟩
   |mapI l c =>
    rw[e]at ho;show GoOk w (Imm B (mkSt avs kds cels) Y' w) (Y' o) (Y'.inn o) l c;rw[e1,e2];exact GoOk.mono ho (λ_ _=>rfl) hI
   |que t k es =>
    rw[e]at ho;show O4 w (Imm B (mkSt avs kds cels) Y' w) (Y' o) (Y'.inn o) (.que t k es);rw[e1,e2];exact O4.mono (k:=.que t k es) ho (λ_ _=>rfl) hI
  by_cases hd:dU kds o=.dead
  ·rw[hd];trivial
  ·rcases zI hk o hd with⟨a,h1,h2,_⟩|⟨h1,h2⟩
   ·exact a4 a h1 h2
   ·exact nil h1 h2
 ·obtain⟨a,_,h2⟩:=a2 o b ho;exact hs.own a b h2
 ·obtain⟨c,e1,b1⟩:=a2 o b h1;obtain⟨d,e2,b2⟩:=a2 p b h2;have:=hs.dis c d b b1 b2;subst this;exact yZ a5 e1 e2
 ·obtain⟨a,_,h2⟩:=a2 o b ho;exact(hs.res b hb).2 a h2
 ·obtain⟨h1,h2⟩:=gnM_keep hk o hg;rw[(hY o o h1).1];exact hs.rt o v hl h2
def Ok(x:IV):Prop:=∃w S v,RepI w S v x
def OkL(es:List (List IV)):Prop:=es.length<=17592186044416/\∀e∈es,∀x∈e,Ok x
def ok_flat{w:World}{S:Nat->Prop}{es:List (List IV)}{us:List Value}(hl:us.length=es.flatten.length)(hr:∀(i:Nat) u x,us[i]?=some u->es.flatten[i]?=some x->RepI w S u x):∀e∈es,∀x∈e,Ok x:=λe he x hx=>by
 have hm:x∈es.flatten:=mA.2 ⟨e,he,hx⟩;obtain⟨i,hi⟩:=mE hm;have hlt:i<us.length:=by rw[hl];exact(E4.1 hi).1
 exact⟨w,S,_,hr i _ x (J8 hlt) hi⟩
def Ok.sl{es:List (List IV)}(h:Ok (.sl es)):OkL es:=by
 obtain⟨w,S,v,h⟩:=h;cases h with
 |emp A c=>exact⟨F7 _,by simp⟩
 |sl b o c k n _ us hn hk hc hs hS hl h1 hu hr=>exact⟨by omega,ok_flat hl hr⟩
def ok_all{w:World}{S:Nat->Prop}{cs:List IV}{us:List Value}(hl:us.length=cs.length)(hr:∀(i:Nat) u x,us[i]?=some u->cs[i]?=some x->RepI w S u x):∀x∈cs,Ok x:=λx hx=>by
 obtain⟨i,hi⟩:=mE hx;have hlt:i<us.length:=by rw[hl];exact(E4.1 hi).1
 exact⟨w,S,_,hr i _ x (J8 hlt) hi⟩
def Ok.agg{cs:List IV}(h:Ok (.agg cs)):∀x∈cs,Ok x:=by
 obtain⟨w,S,v,h⟩:=h;cases h with
 |agg us _ hl h1 hr=>exact ok_all hl hr
def Ok.agg_at{cs:List IV}{x:IV}(h:Ok (.agg cs))(i:Nat)(hx:cs[i]?=some x):Ok x:=h.agg x (H0 hx)
def Ok.ref{cs:List IV}(h:Ok (.ref cs)):∀x∈cs,Ok x:=by
 obtain⟨w,S,v,h⟩:=h;cases h with
 |ref b o us _ hS hl h1 hu hr=>exact ok_all hl hr
def Ok.ref_at{cs:List IV}{x:IV}(h:Ok (.ref cs))(i:Nat)(hx:cs[i]?=some x):Ok x:=h.ref x (H0 hx)
def Holds.true_(X:St):Holds X True:=λ_ _ _ _=>trivial
def Holds.and{X:St}{J ψ:Prop}(h:Holds X J)(k:Holds X ψ):Holds X (J/\ψ):=λB a w hs=>⟨h B a w hs,k B a w hs⟩
def Holds.av{X:St}(t:Nat){x:IV}(h:X.av t=.im x):Holds X (Ok x):=by
 rintro B a w ⟨Y,hs⟩;have h1:=hs.tms t;rw[h]at h1;exact⟨_,_,_,h1.im_inv⟩
def Holds.ce{X:St}(o i:Nat){t:TypeId}{m:Nat}{x:IV}(hk:X.kd o=.box t m)(hi:i<m)(h:X.ce o i=.im x):Holds X (Ok x):=by
 rintro B a w ⟨Y,hs⟩;have ho:=hs.obs o;rw[hk]at ho;obtain⟨b,us,h3,h5,h6,h7,h8⟩:=ho;have:=h8 i _ (J8 (by omega));rw[h]at this;exact⟨_,_,_,this.im_inv⟩
def Holds.kd{X:St}(o:Nat){t:TypeId}{k:Nat}{es:List (List IV)}(hk:X.kd o=.row t k es):Holds X (OkL es):=by
 rintro B a w ⟨Y,hs⟩;have ho:=hs.obs o;rw[hk]at ho;obtain⟨us,h1,h2,h3,h4,h5,h6,h7⟩:=ho;exact⟨h3,ok_flat h5 h7⟩
def Holds.mono{X:St}{J ψ:Prop}(h:Holds X J)(k:J->ψ):Holds X ψ:=λB a w hs=>k (h B a w hs)
def iter{S R:Type}(step:S->Option (S⊕R)):Nat->S->Option R
 |0,_=>none
 |n+1,s=>match step s with
  |none=>none
  |some (.inl s')=>iter step n s'
  |some (.inr r)=>some r
def Fin{S R:Type}(step:S->Option (S⊕R))(r:R)(k:Nat):S⊕R->Prop
 | .inl s'=>iter step k s'=some r
 | .inr r'=>r'=r
def Nxt{S R:Type}(step:S->Option (S⊕R))(r:R)(st:S->St)(k:Nat)(X':St):Prop:=∃m',m'<k+1/\∃s,iter step m' s=some r/\Ent X' (st s)
def Nxt.mk{S R:Type}{step:S->Option (S⊕R)}{r:R}{st:S->St}{k:Nat}{X':St}(s:S)(h:Fin step r k (.inl s))(e:Ent X' (st s)):Nxt step r st k X':=⟨k,uU _,s,h,e⟩
attribute [irreducible] Nxt
def gE.iter{S R:Type}(step:S->Option (S⊕R))(st:S->St)(J:S->Prop){body:(Exit->St->Prop)->St->Prop}{K:Exit->St->Prop}{X:St}{n:Nat}{s0:S}{r:R}
  (h:Sym.iter step n s0=some r) (e0:Ent X (st s0)) (hJ:∀s,Holds (st s) (J s))
  (hb:∀k s o,J s->step s=some o->Fin step r k o->body (λe X'=>match e with|.normal=>Nxt step r st k X'|e=>K e X') (st s)):gE body K X:=by
 unfold gE;refine⟨λm X=>∃s,Sym.iter step m s=some r/\Ent X (st s),n,⟨s0,h,e0⟩,?_⟩;rintro m X ⟨s,hm,he⟩;refine⟨st s,J s,he,hJ s,λhp=>?_⟩;cases m with
 |zero=>cases hm
 |succ k =>
  unfold Sym.iter at hm;split at hm
  ·cases hm
  ·rename_i s' hs;have:=hb k s _ hp hs hm;unfold Nxt at this;exact this
  ·rename_i r' hs;have:=hb k s _ hp hs (by injection hm);unfold Nxt at this;exact this
def Join(s X':St):Prop:=∃X1,Ent X' X1/\X1=s
def Join.mk{s X':St}(e:Ent X' s):Join s X':=⟨s,e,rfl⟩
attribute [irreducible] Join
def Cut.mk(s:St)(J:Prop){body:(St->Prop)->Prop}{rest:St->Prop}(hJ:Holds s J)(h:body (Join s))(k:J->rest s):Cut body rest:=by
 unfold Cut;unfold Join at h;exact⟨λX=>X=s,h,λX e=>⟨J,by rw[e];exact hJ,λhp=>by rw[e];exact k hp⟩⟩
end
section
variable {b:Bool}{k:Nat}{w:World}{P:Program}{i:Nat}
def OkOc:Oc->Prop
 | .im x=>Ok x
 | .ow (.row _ _ es)=>OkL es
 | .ow (.grid _ _ _ gs _)=>gs.length<=17592186044416
 | .ow _=>True
def gF:List Oc->Prop
 |[]=>True
 |c::l=>OkOc c/\gF l
def OkA:Arg->Prop
 | .im x=>Ok x
 | .ow k=>OkOc (.ow k)
 | .box _ cs=>gF cs
 | .lent k=>OkOc (.ow k)
def OkAs:List Arg->Prop
 |[]=>True
 |x::l=>OkA x/\OkAs l
def okOc_of{S:Nat->Prop}{u:Value}:∀{c:Oc} {F:List Nat},OcOk w S u c F->OkOc c
 | .im x,_,h=>⟨w,S,u,h.1⟩
 | .ow (.row _ _ es),_,⟨_,_,⟨ws,h1,h2,h3,h4,h5,h6,h7⟩,_⟩=>⟨h3,ok_flat h5 h7⟩
 | .ow (.grid _ _ _ gs _),_,⟨_,_,⟨_,_,_,h,_⟩,_⟩=>h
 | .ow (.map _),_,_=>trivial
 | .ow .dead,_,_=>trivial
 | .ow (.box _ _),_,_=>trivial
 | .ow (.que _ _ _),_,_=>trivial
def okOcs_of{S:Nat->Prop}:∀{us:List Value} {cs:List Oc} {F:List Nat},aB w S us cs F->gF cs
 |[],[],_,_=>trivial
 |_::_,_::_,_,⟨_,_,h1,h2,_⟩=>⟨okOc_of h1,okOcs_of h2⟩
 |[],_::_,_,h=>h.elim
 |_::_,[],_,h=>h.elim
def okA_of{S:Nat->Prop}{u:Value}:∀{x:Arg} {F:List Nat},ArgOk w S u x F->OkA x
 | .im x,_,h=>⟨w,S,u,h.1⟩
 | .ow k,_,h=>okOc_of (c:=.ow k) h
 | .box _ _,_,⟨_,_,_,_,_,_,h,_⟩=>okOcs_of h
 | .lent k,_,h=>okOc_of (c:=.ow k) h
def oks_of{S:Nat->Prop}:∀{us:List Value} {xs:List Arg} {F:List Nat},R0 w S us xs F->OkAs xs
 |[],[],_,_=>trivial
 |_::_,_::_,_,⟨_,_,h1,h2,_⟩=>⟨okA_of h1,oks_of h2⟩
 |[],_::_,_,h=>h.elim
 |_::_,[],_,h=>h.elim
def sp_of{f:FuncId}{fn:Func}{c:Code}{xs:List Arg}{r:Rs}(hm:P.follows .mixedOrders=true)(own:List Nat)(hf:P.funcs[f]?=some fn)(hname:(fn.name=="runtime.NumGoroutine")=false)(hb:fn.body=some c)
  (hn:xs.length<=fn.ntmps) (hok:entOk xs=true) (h:OkAs xs->frcW (entW xs) 0 sig0 λ_ X=>bC P (SpX P) fn.ntmps own c (retK P fn.results.toList xs r) X):Sp P f xs r :=
 sp_of_code hm (C:=SpX P) (λ_ _ _ h=>h) hf hname hb hn hok λ_ _ _ _ ha=>by
  have:=h (oks_of ha);rw[frcW_eq]at this;exact this
inductive FrzL:List Oc->List Oc->Prop
 |nil:FrzL [] []
 |keep (c:Oc) {l l':List Oc} (h:FrzL l l'):FrzL (c::l) (c::l')
 |row {e:TypeId} {k:Nat} {es:List (List IV)} {l l':List Oc} (h:FrzL l l'):FrzL (.ow (.row e k es)::l) (.im (.sl es)::l')
 |grid {e e':TypeId} {k:Nat} {gs:List (List IV)} {l l':List Oc} (h:FrzL l l'):FrzL (.ow (.grid e e' k gs none)::l) (.im (.sl gs)::l')
def RepI.up{S S':Nat->Prop}(hS:∀b,S b->S' b){v:Value}{x:IV}(h:RepI w S v x):RepI w S' v x:=h.mono hS λ_ _ _ h=>h
def Sp.frz{g:FuncId}{xs:List Arg}{tp:Bool}{l l':List Oc}{ys:List Arg}(hl:FrzL l l')(h:Sp P g xs (.mk tp l ys)):Sp P g xs (.mk tp l' ys) :=
 ⟨h.1,λw S vs F hS ha hn hF=>(h.2 w S vs F hS ha hn hF).mono λe w' ⟨v,F',h1,h2,⟨us,F1,F2,h3,h4,h5,h6⟩,h7,h8⟩=>by
  subst h6
  rw[Y7]at h7
  -- the frozen blocks leave the footprint
  have hlt:∀b∈F1,(w.heap.size<=b\/b∈F)/\b<w'.heap.size:=λb hb=>h8 b (L5 _ hb)
  have key:∀(l l':List Oc),FrzL l l'->∀(us:List Value) (F1:List Nat) (S:Nat->Prop),aB w' S us l F1->F1.Nodup->∃Fk,Fk.Sublist F1/\∀(S':Nat->Prop),(∀b,S b->S' b)->(∀b∈F1,b∉Fk->S' b)->aB w' S' us l' Fk:=by
   intro l l' hl
   induction hl with
   |nil =>
    intro us F1 S h _
    match us,h with
    |[],h=>exact⟨[],List.nil_sublist _,λ_ _ _=>rfl⟩
   |keep c _ ih =>
    intro us F1 S h a3
    match us,h with
    |u::us,⟨G1,G2,h1,h2,h3⟩ =>
     subst h3
     rw[Y7]at a3
     obtain⟨Fk,a1,a2⟩:=ih us G2 S h2 a3.2.1
     exact⟨G1++Fk,List.Sublist.append_left a1 _,λS' hS hF=>⟨G1,Fk,h1.mono λu x hr=>hr.up hS,a2 S' hS λb hb a4=>hF b (by simp[hb]) λhm=>by
      rcases I8.1 hm with hm|hm
      ·exact a3.2.2 b hm b hb rfl
      ·exact a4 hm,rfl⟩⟩
   |row _ ih =>
    intro us F1 S h a3
    match us,h with
    |u::us,⟨G1,G2,⟨_,inn,h1,e1⟩,h2,h3⟩ =>
     subst h3
     rw[Y7]at a3
     obtain⟨Fk,a1,a2⟩:=ih us G2 S h2 a3.2.1
     refine⟨[]++Fk,(aJ Fk).symm ▸ a1.trans (yW _ _),λS' hS hF=>⟨[],Fk,⟨V7.repI h1 (λb hb=>?_) λu x hr=>hr.up hS,rfl⟩,a2 S' hS λb hb a4=>hF b (by simp[hb]) (by simpa using a4),rfl⟩⟩
     have hb1:b∈G1:=by rw[e1];simp[fpk,hb]
     exact⟨hF b (by simp[hb1]) λhm=>a3.2.2 b hb1 b (a1.subset (by simpa using hm)) rfl,rfl⟩
   |grid _ ih =>
    intro us F1 S h a3
    match us,h with
    |u::us,⟨G1,G2,⟨_,inn,h1,e1⟩,h2,h3⟩ =>
     subst h3
     rw[Y7]at a3
     obtain⟨Fk,a1,a2⟩:=ih us G2 S h2 a3.2.1
     refine⟨[]++Fk,(aJ Fk).symm ▸ a1.trans (yW _ _),λS' hS hF=>⟨[],Fk,⟨dC.repI h1 (λb hb=>?_) λu x hr=>hr.up hS,rfl⟩,a2 S' hS λb hb a4=>hF b (by simp[hb]) (by simpa using a4),rfl⟩⟩
     have hb1:b∈G1:=by rw[e1];exact hb
     exact⟨hF b (by simp[hb1]) λhm=>a3.2.2 b hb1 b (a1.subset (by simpa using hm)) rfl,rfl⟩
  obtain⟨Fk,a1,a2⟩:=key l l' hl us F1 _ h4 h7.1
  have a5:∀b,b∈Fk++F2->b∈F1++F2:=λb hb=>by
   rcases I8.1 hb with hb|hb
   ·exact L5 _ (a1.subset hb)
   ·exact L3 _ hb
  have a6:∀b,((S b\/w.heap.size<=b\/b∈F)/\b<w'.heap.size/\b∉F1++F2)->((S b\/w.heap.size<=b\/b∈F)/\b<w'.heap.size/\b∉Fk++F2):=λb hb=>⟨hb.1,hb.2.1,λhm=>hb.2.2 (a5 b hm)⟩
  refine⟨v,Fk++F2,h1,h2,⟨us,Fk,F2,h3,a2 _ a6 λb hb a4=>⟨.inr (hlt b hb).1,(hlt b hb).2,λhm=>?_⟩,h5.mono λu x hr=>hr.up a6,rfl⟩,?_,λb hb=>h8 b (a5 b hb)⟩
  ·rcases I8.1 hm with hm|hm
   ·exact a4 hm
   ·exact h7.2.2 b hb b hm rfl
  ·rw[Y7]
   exact⟨a1.nodup h7.1,h7.2.1,λx hx y hy=>h7.2.2 x (a1.subset hx) y hy⟩⟩
def Sp.im{g:FuncId}{xs:List Arg}{e:TypeId}{es:List (List IV)}(h:Sp P g xs (.row e k es)):Sp P g xs (.im (.sl es)):=Sp.frz (.row .nil) h
def Sp.args{g:FuncId}{xs ys:List Arg}{r:Rs}(h:Sp P g xs r)(e:ys=xs):Sp P g ys r:=e ▸ h
abbrev cI(x:Int):List IV:=[.val (.int .i64 x)]
abbrev cB(x:Bool):List IV:=[.val (.bool x)]
abbrev cL{V:Type}(c:V->List IV)(l:List V):List IV:=[.sl (l.map c)]
abbrev nI(n:Int):IV:=.val (.int .i64 n)
abbrev nB(b:Bool):IV:=.val (.bool b)
abbrev nS(s:ByteArray):IV:=.val (.string s)
abbrev nL{V:Type}(c:V->List IV)(l:List V):IV:=.sl (l.map c)
instance (n:Int):Decidable (inR n):=by unfold inR;infer_instance
instance (n b:Nat):Decidable (E0 n b):=by unfold E0;infer_instance
def fuel:Nat:=1000000000000000000000
section
variable {V G:Type}
def chk(c:Prop)[Decidable c](k:Option V):Option V:=if c then k else none
def idx(l:List V)(n:Int)(k:V->Option G):Option G:=if 0<=n then(match l[n.toNat]? with|some x=>k x|none=>none) else none
def D5{c:Prop}[Decidable c]{k:Option V}{r:V}(h:chk c k=some r):c/\k=some r:=by
 unfold chk at h;split at h
 ·exact⟨‹_›,h⟩
 ·cases h
def cN{l:List V}{n:Int}{k:V->Option G}{r:G}(h:idx l n k=some r):∃x,0<=n/\l[n.toNat]?=some x/\k x=some r:=by
 unfold idx at h;split at h
 ·split at h
  ·rename_i x hx;exact⟨x,‹_›,hx,h⟩
  ·cases h
 ·cases h
def bind_some{o:Option V}{f:V->Option G}{r:G}(h:o.bind f=some r):∃x,o=some x/\f x=some r:=by
 cases o with
 |none=>cases h
 |some x=>exact⟨x,rfl,h⟩
def K5{Y Z R:Type}{f:Y->Option R}{g:Z->Option R}{y:Y}{r:R}(h:Sum.elim f g (.inl y)=some r):f y=some r:=h
def cond_t{x y z:V}(hb:b=true)(h:cond b x y=z):x=z:=by rw[hb]at h;exact h
def cond_f{x y z:V}(hb:b=false)(h:cond b x y=z):y=z:=by rw[hb]at h;exact h
def idxn(l:List V)(n:Nat)(k:V->Option G):Option G:=match l[n]? with|some x=>k x|none=>none
def aZ{l:List V}{n:Nat}{k:V->Option G}{r:G}(h:idxn l n k=some r):∃x,l[n]?=some x/\k x=some r:=by
 unfold idxn at h;split at h
 ·rename_i x hx;exact⟨x,hx,h⟩
 ·cases h
def beq_tt(h:(b==true)=true):b=true:=by cases b<;>simp_all
def beq_tf(h:(b==true)=false):b=false:=by cases b<;>simp_all
def beq_ff(h:(b==false)=true):b=false:=by cases b<;>simp_all
def beq_ft(h:(b==false)=false):b=true:=by cases b<;>simp_all
def H9(h:b=true):(b==true)=true:=by rw[h];rfl
def J2(h:b=false):(b==false)=true:=by rw[h];rfl
def T5(h:b=true):(b==false)=false:=by rw[h];rfl
def V2(h:b=false):(b==true)=false:=by rw[h];rfl
def P7{l:List V}{c:V->G}{x:V}(h:l[i]?=some x):(l.map c)[i]?=some (c x):=by rw[I9,h];rfl
def P6{l:List V}{c:V->G}{x:V}(h:l[i]?=some x):i<(l.map c).length:=by
 rw[B6];exact(E4.1 h).1
def K6{l:List V}{c:V->List G}(h:∀x,(c x).length=k):∀e∈l.map c,e.length=k:=λe he=>by
 obtain⟨x,_,rfl⟩:=D7.1 he;exact h x
def B9{l:List V}{c:V->G}:l.length=(l.map c).length:=(B6 _).symm
def O9{l m:List V}{c:V->G}:(l++m).map c=l.map c++m.map c:=N6
def lP{l:List V}{c:V->G}{n:Nat}:(l.take n).map c=((l.map c).take n).drop 0:=by rw[yJ];rfl
def kJ{l:List V}{c:V->G}{n:Nat}:(l.drop n).map c=((l.map c).take ((l.map c).length:Int).toNat).drop n:=by rw[List.map_drop,O3,T0]
def oR{l:List V}{c:V->List G}{x y:V}{j:Nat}{xs:List G}(h:c y=splice (c x) j xs):(l.set i y).map c=(l.map c).set i (splice (c x) j xs):=by rw[yI,h]
end
abbrev wI(n:Int):Value:=.int .i64 n
abbrev wB(b:Bool):Value:=.bool b
abbrev wS(s:ByteArray):Value:=.string s
section
variable {O Z:Type}
def mapV(f:O->Value)(g:Z->Value)(m:List (O×Z)):List (Value×Value):=m.map λp=>(f p.1,g p.2)
def mget[BEq O](k:O):List (O×Z)->Option Z
 |[]=>none
 |p::m=>match k==p.1 with|true=>some p.2|false=>mget k m
def mset[BEq O](k:O)(v:Z):List (O×Z)->List (O×Z)
 |[]=>[(k,v)]
 |p::m=>match k==p.1 with|true=>(k,v)::m|false=>p::mset k v m
def find_str(k:ByteArray)(g:Z->Value):∀m:List (ByteArray×Z),findV .string (.string k) (mapV wS g m)=some ((mget k m).map g)
 |[]=>rfl
 |p::m=>by
  have ih:=find_str k g m;unfold mapV at ih ⊢;rw[J7];unfold findV mget;simp only[Instr.sameNow];cases k==p.1 with
  |true=>rfl
  |false=>exact ih
def set_str(k:ByteArray)(v:Z)(g:Z->Value):∀m:List (ByteArray×Z),setV .string (.string k) (g v) (mapV wS g m)=some (mapV wS g (mset k v m))
 |[]=>rfl
 |p::m=>by
  have ih:=set_str k v g m;unfold mapV at ih ⊢;rw[J7];unfold setV mset;simp only[Instr.sameNow];cases k==p.1 with
  |true=>rfl
  |false=>simp only[ih];rfl
def getD_map{g:Z->Value}{d:Z}{z:Value}(h:g d=z)(o:Option Z):g (o.getD d)=(o.map g).getD z:=by cases o<;>simp[h]
def isSome_map{g:Z->Value}(o:Option Z):o.isSome=(o.map g).isSome:=by cases o<;>rfl
def clr_map{V G:Type}{c:V->G}{z:V}{e:G}{l:List V}(hc:c z=e):(l.take k++List.replicate (l.length-k) z).map c=(l.map c).take k++List.replicate ((l.map c).length-k) e:=by rw[N6,yJ,List.map_replicate,B6,hc]
def cut_own{V G:Type}{c:V->G}{l:List V}:(l.take k).map c=(l.map c).take k:=yJ
def len_own{V G:Type}{c:V->G}{l:List V}:l.length-k=(l.map c).length-k:=by rw[B6]
def rep_map{V G:Type}{c:V->G}{z:V}{e:G}{n m:Nat}(h:n=m)(hc:c z=e):(List.replicate n z).map c=List.replicate m e:=by rw[List.map_replicate,h,hc]
end
def flat_one{v:Value}:flatRs (.mk false [.im (.val v)] []):=⟨λc hc=>by rcases K4.1 hc with rfl;exact Or.inl ⟨v,rfl⟩,λy hy=>by cases hy⟩
def A8{V:Type}{c:V->List IV}{l:List V}(h:Ok (.sl (l.map c))):l.length<=17592186044416:=by have:=h.sl.1;rwa [B6]at this
def iW{V:Type}{c:V->List IV}{l:List V}(h:OkL (l.map c)):l.length<=17592186044416:=by have:=h.1;rwa [B6]at this
def Holds.avl{X:St}{V:Type}{c:V->List IV}{l:List V}(t:Nat)(h:X.av t=.im (.sl (l.map c))):Holds X (l.length<=17592186044416):=(Holds.av t h).mono A8
def Holds.cel{X:St}{V:Type}{c:V->List IV}{l:List V}(o i:Nat){t:TypeId}{m:Nat}(hk:X.kd o=.box t m)(hi:i<m)(h:X.ce o i=.im (.sl (l.map c))):Holds X (l.length<=17592186044416):=(Holds.ce o i hk hi h).mono A8
def oP{V:Type}(c:V->List IV):Option V->IV
 |none=>.val (.pointer none)
 |some x=>.ref (c x)
def set_grid1{V:Type}{c:V->List IV}{g:List (List V)}{r:List V}:(g.set i r).map (cL c)=(g.map (cL c)).set i [.sl (r.map c)]:=by rw[yI]
def set_grid2{V:Type}{c:V->List IV}{g:List (List V)}{i j k:Nat}{ev:List V}{x y:V}{xs:List IV}(h:c y=splice (c x) k xs):(g.set i (ev.set j y)).map (cL c)=(g.map (cL c)).set i [.sl ((ev.map c).set j (splice (c x) k xs))]:=by
 rw[<- h,yI];show(g.map (cL c)).set i [.sl ((ev.set j y).map c)]=_;rw[yI]
def Holds.kdg{X:St}{V:Type}{c:V->List IV}{l:List V}(o:Nat){e e':TypeId}{q:Option Nat}(hk:X.kd o=.grid e e' k (l.map c) q):Holds X (l.length<=17592186044416):=λB a w ⟨Y,hs⟩=>by
 have ho:=hs.obs o;rw[hk]at ho;obtain⟨_,_,us,h,_⟩:=ho;simpa using h
def Holds.kdl{X:St}{V:Type}{c:V->List IV}{l:List V}(o:Nat){t:TypeId}(hk:X.kd o=.row t k (l.map c)):Holds X (l.length<=17592186044416):=(Holds.kd o hk).mono iW
def J5{Y Z:Type}(oc:Y⊕Z)(st:Y->St)(X':St):Prop:=∃y,oc=.inl y/\Ent X' (st y)
def Cut.mkS{Y Z:Type}(oc:Y⊕Z)(st:Y->St)(J:Y->Prop){body:(St->Prop)->Prop}{rest:St->Prop}(hJ:∀y,Holds (st y) (J y))(h:body (J5 oc st))(k:∀y,oc=.inl y->J y->rest (st y)):Cut body rest:=by
 unfold Cut;have e:J5 oc st=λX'=>∃X1,Ent X' X1/\∃y,oc=.inl y/\X1=st y:=funext λX'=>propext ⟨λ⟨y,h1,h2⟩=>⟨_,h2,y,h1,rfl⟩,λ⟨X1,h1,y,h2,h3⟩=>⟨y,h2,h3 ▸ h1⟩⟩;rw[e]at h;refine⟨λX1=>∃y,oc=.inl y/\X1=st y,h,?_⟩;rintro X ⟨y,h1,rfl⟩;exact⟨J y,hJ y,k y h1⟩
attribute [irreducible] J5
def J5.mk'{Y Z:Type}{oc:Y⊕Z}{st:Y->St}{X':St}(y:Y)(h:oc=.inl y)(e:Ent X' (st y)):J5 oc st X':=by unfold J5;exact⟨y,h,e⟩
abbrev A5:=@bind_some
abbrev A3:=@Side.mk
abbrev zlC:=@Both.mk
abbrev B3:=@Both.yes
abbrev C4:=@Both.no
abbrev B1:=@Nf.mk
abbrev D8:=@Join.mk
abbrev C5:=@Holds.avl
abbrev B7:=@Ok.agg_at
abbrev W9:=@Cut.mkS
abbrev E7:=@Nxt.mk
end
structure A9 where
 I:Int
 S:Int
 N:A4
 O:A4
 deriving DecidableEq
def G7(s:A9):List IV:=[nI s.I,nI s.S,nL (cL cI) s.N,nL (cL cI) s.O]
structure HS where
 Step:A2
 Reset:Int
 deriving DecidableEq
structure GV where
 Lost:Int
 Wrong:Int
 Crash:Int
 deriving DecidableEq
structure lS where
 M:A9
 State:Int
 Ready:Bool
 Latency:HS
 Faults:GV
 Seed:Int
 Steps:Int
 Resets:Int
 Time:Int
 deriving DecidableEq
structure B0 where
 In:A2
 O:A2
 deriving DecidableEq
def C9(s:B0):List IV:=[nL cI s.In,nL cI s.O]
structure A7 where
 I:Int
 T:List B0
 deriving DecidableEq
def N4(s:A7):List IV:=[nI s.I,nL C9 s.T]
structure tQ where
 Device:lS
 Obs:A7
 Votes:Int
 Tries:Int
 Asked:Int
 Hits:Int
 deriving DecidableEq
structure C6 where
 I:Int
 P:A4
 X:A4
 deriving DecidableEq
def N9(s:C6):List IV:=[nI s.I,nL (cL cI) s.P,nL (cL cI) s.X]
structure T_api_Baseline where
 M:A9
 Words:A4
 deriving DecidableEq
structure T_api_Report where
 Run:Int
 Changes:List B0
 deriving DecidableEq
structure GR where
 I:Int
 Abstract:Int
 S:Int
 N:A4
 Sym:A4
 deriving DecidableEq
structure T_api_Clash where
 Word:A2
 First:Int
 Second:Int
 deriving DecidableEq
structure I6 where
 M:A9
 Access:A4
 deriving DecidableEq
def cO(s:I6):List IV:=[nI s.M.I,nI s.M.S,nL (cL cI) s.M.N,nL (cL cI) s.M.O,nL (cL cI) s.Access]
structure T_api_Part where
 I:Int
 S:Int
 N:A4
 O:A4
 deriving DecidableEq
structure E1 where
 I:Int
 Short:A4
 X:A4
 deriving DecidableEq
def W0(s:E1):List IV:=[nI s.I,nL (cL cI) s.Short,nL (cL cI) s.X]
structure N5 where
 Prefix:A2
 Symbol:Int
 Suffix:A2
 deriving DecidableEq
def tK(s:N5):List IV:=[nL cI s.Prefix,nI s.Symbol,nL cI s.Suffix]
structure T_learnerlaw28_Case where
 M:A9
 O:A7
 L:E1
 S:N5
 deriving DecidableEq
structure T_learnerlaw35_Parts where
 P:T_api_Part
 W:A2
 S:Int
 T:Int
 O:Int
 deriving DecidableEq
structure kV where
 Mealy:A9
 deriving DecidableEq
def zw6(s:kV):List IV:=[nI s.Mealy.I,nI s.Mealy.S,nL (cL cI) s.Mealy.N,nL (cL cI) s.Mealy.O]
structure eJ where
 machine:kV
 at_:Int
 deriving DecidableEq
structure T_api_Mutation where
 Kind:Int
 State:Int
 Input:Int
 Value:Int
 Value2:Int
 deriving DecidableEq
structure T_regress_runner where
 m:A9
 report:T_api_Report
 deriving DecidableEq
structure M7 where
 rows:List (A4)
 prefixes:A2
 next:A4
 number:List (ByteArray×Int)
 deriving DecidableEq
def dN(s:M7):List IV:=[nL (cL (cL cI)) s.rows,nL cI s.prefixes,nL (cL cI) s.next,.any]
structure T_refine_reached where
 m:A9
 states:A2
 words:A4
 class_:A2
 deriving DecidableEq
structure T_mapper_set where
 list:A2
 word:A2
 deriving DecidableEq
structure T_mapper_builder where
 m:A9
 p:GR
 sets:List T_mapper_set
 of:List (ByteArray×Int)
 deriving DecidableEq
structure T_evidence_candidate where
 score:Int
 blue:Int
 red:Int
 deriving DecidableEq
structure I7 where
 l:E1
 o:A7
 missing:A4
 long:Bool
 deriving DecidableEq
structure T_nondet_group where
 word:A2
 before:A2
 least:A2
 deriving DecidableEq
structure T_device_unit where
 Device:lS
 deriving DecidableEq
structure fP where
 s:Int
 t:Int
 deriving DecidableEq
def BF(s:fP):List IV:=[nI s.s,nI s.t]
structure T_mapper_runner where
 Mapper:GR
 state:Int
 deriving DecidableEq
structure T_cover_place where
 state:Int
 word:A2
 deriving DecidableEq
structure T_A2 where
 f0:Int
 f1:Int
 deriving DecidableEq
structure T_merge_blocks_int_ where
 up:List (Int×Int)
 deriving DecidableEq
structure X4 where
 at_:fP
 word:A2
 deriving DecidableEq
def nQ(s:X4):List IV:=[nI s.at_.s,nI s.at_.t,nL cI s.word]
structure T_A2_api_Mealy where
 f0:A9
 f1:A9
 deriving DecidableEq
structure T_learnerref09_Pair where
 S:Int
 T:Int
 Word:A2
 deriving DecidableEq
structure T_api_DNode where
 Leaf:Bool
 Access:A2
 Suffix:A2
 Outs:A4
 Kids:A2
 deriving DecidableEq
structure T_api_DTree where
 Nodes:List T_api_DNode
 deriving DecidableEq
structure zv3 where
 I:Int
 Tree:T_api_DTree
 deriving DecidableEq
structure T_treelearn_learner where
 TreeState:zv3
 o:A7
 deriving DecidableEq
structure bL where
 h:I6
 o:A7
 w:A2
 states:A2
 outs:A2
 deriving DecidableEq
def kZ(s:bL):List IV:=[nI s.h.M.I,nI s.h.M.S,nL (cL cI) s.h.M.N,nL (cL cI) s.h.M.O,nL (cL cI) s.h.Access,nI s.o.I,nL C9 s.o.T,nL cI s.w,nL cI s.states,nL cI s.outs]
structure T_treelearn_extension where
 w:A2
 node:Int
 deriving DecidableEq
end Go.Proofs.YtdjagdnpnhmldaaGreatDoor.Sym
namespace Go.Proofs.YtdjagdnpnhmldaaGreatDoor
section
open Go.ChangeShapes Go.WideShapes Go.ChangeAt Go.RowKit
def Tryz.own:ownKnob Tryz.prog.godebug=none:=by kernel_rfl
def Tryz.laidOut:laidOutB Tryz.prog=true:=by kernel_rfl
noncomputable def laidWorld(os:Os):World :=
 let w0:=World.holding Tryz.prog os ⟨#[],#[],[]⟩
 let h0:=w0.heap
 let h1:=h0.modify 0 fun
   | .cells _ t frozen=>.cells #[.int .u64 1,.int .u64 10,.int .u64 100,.int .u64 1000,.int .u64 10000,.int .u64 100000,.int .u64 1000000,.int .u64 10000000,.int .u64 100000000,.int .u64 1000000000,.int .u64 10000000000,.int .u64 100000000000,.int .u64 1000000000000,.int .u64 10000000000000,.int .u64 100000000000000,.int .u64 1000000000000000,.int .u64 10000000000000000,.int .u64 100000000000000000,.int .u64 1000000000000000000,.int .u64 10000000000000000000] t frozen
   |o=>o
 let h2:=h1.modify 1 fun
   | .cells _ t frozen=>.cells #[.int .u8 0,.int .u8 1,.int .u8 28,.int .u8 2,.int .u8 29,.int .u8 14,.int .u8 24,.int .u8 3,.int .u8 30,.int .u8 22,.int .u8 20,.int .u8 15,.int .u8 25,.int .u8 17,.int .u8 4,.int .u8 8,.int .u8 31,.int .u8 27,.int .u8 13,.int .u8 23,.int .u8 21,.int .u8 19,.int .u8 16,.int .u8 7,.int .u8 26,.int .u8 12,.int .u8 18,.int .u8 6,.int .u8 11,.int .u8 5,.int .u8 10,.int .u8 9] t frozen
   |o=>o
 let h3:=h2.modify 2 fun
   | .cells _ t frozen=>.cells #[.int .u8 0,.int .u8 1,.int .u8 56,.int .u8 2,.int .u8 57,.int .u8 49,.int .u8 28,.int .u8 3,.int .u8 61,.int .u8 58,.int .u8 42,.int .u8 50,.int .u8 38,.int .u8 29,.int .u8 17,.int .u8 4,.int .u8 62,.int .u8 47,.int .u8 59,.int .u8 36,.int .u8 45,.int .u8 43,.int .u8 51,.int .u8 22,.int .u8 53,.int .u8 39,.int .u8 33,.int .u8 30,.int .u8 24,.int .u8 18,.int .u8 12,.int .u8 5,.int .u8 63,.int .u8 55,.int .u8 48,.int .u8 27,.int .u8 60,.int .u8 41,.int .u8 37,.int .u8 16,.int .u8 46,.int .u8 35,.int .u8 44,.int .u8 21,.int .u8 52,.int .u8 32,.int .u8 23,.int .u8 11,.int .u8 54,.int .u8 26,.int .u8 40,.int .u8 15,.int .u8 34,.int .u8 20,.int .u8 31,.int .u8 10,.int .u8 25,.int .u8 14,.int .u8 19,.int .u8 9,.int .u8 13,.int .u8 8,.int .u8 7,.int .u8 6] t frozen
   |o=>o
 { w0 with heap:=h3 }
end
end Go.Proofs.YtdjagdnpnhmldaaGreatDoor
namespace Go.Proofs.YtdjagdnpnhmldaaGreatDoor.Sym
section
open Go.ChangeShapes Go.WideShapes Go.ChangeAt Go.RowKit Go.Deep
section
variable {H:Type}{enc:TypeId×Value->H}{W:World}{V G:Type}
def bulk_pos(d:DataW H):1<=Rows.uptoBulk d:=by
 cases d with
 |lit l=>cases l<;>simp[Rows.uptoBulk]
 |nil=>simp[Rows.uptoBulk]
 |ptr d=>simp[Rows.uptoBulk]
 |slice elems spare=>simp[Rows.uptoBulk]
 |agg parts=>simp[Rows.uptoBulk]
 |iface t d=>simp[Rows.uptoBulk]
 |map entries=>simp[Rows.uptoBulk]
 |held h=>simp[Rows.uptoBulk]
def bulk_mem{d:DataW H}{l:List (DataW H)}(h:d∈l):Rows.uptoBulk d<=Rows.uptoBulkAll l:=by
 induction l with
 |nil=>cases h
 |cons x r ih =>
  simp only[Rows.uptoBulkAll];rcases H8.1 h with e|e
  ·subst e;omega
  ·have:=ih e;omega
def FC(l r:List (DataW H)):Rows.uptoBulkAll (l++r)=Rows.uptoBulkAll l+Rows.uptoBulkAll r:=by
 induction l with
 |nil=>simp[Rows.uptoBulkAll]
 |cons x l ih=>simp only[fW,Rows.uptoBulkAll,ih];omega
def bulk_length(l:List (DataW H)):l.length<=Rows.uptoBulkAll l:=by
 induction l with
 |nil=>simp[Rows.uptoBulkAll]
 |cons x r ih=>have:=bulk_pos x;simp only[Rows.uptoBulkAll,E9];omega
def bulk_small{l:List (DataW H)}(hk:Rows.uptoSmall H l=true):Rows.uptoBulkAll l<=1048576:=by
 simpa[Rows.uptoSmall]using hk
def lowS(W:World):Nat->Prop:=λb=>b<W.heap.size
def Opn(W:World)(enc:TypeId×Value->H)(t:TypeId)(c:V->List IV)(sz:V->Nat)(ok:V->Prop):Prop :=
 ∀(fuel:Nat) (cs:List Value) (d:DataW H) (ps:List MemPlace),DataW.trod enc Tryz.prog W 0 (λ_=>true) true fuel t cs=some (d,ps)->Rows.uptoBulk d<=1048576 ->
  ∃x,X7 W (lowS W) cs (c x)/\(∀u∈cs,u.oneCell'=true)/\sz x<=Rows.uptoBulk d/\ok x
def sz1{V:Type}(_:V):Nat:=1
def szL(sz:V->Nat)(l:List V):Nat:=(l.map sz).sum+1
def okL(ok:V->Prop)(l:List V):Prop:=∀x∈l,ok x
def okT{V:Type}(_:V):Prop:=True
def opn_int:Opn W enc 3 cI sz1 inR:=by
 intro fuel cs d ps h hd;cases fuel with
 |zero=>simp[DataW.trod]at h
 |succ f =>
  unfold DataW.trod at h;rw[Tryz.underlying3]at h;split at h<;>try (cases h;done)
  all_goals (try (rename_i e;cases e;done))
  rename_i k k' n e;injection e with e
  injection e with e
  subst e;split at h
  ·rename_i hw;injection h with h
   injection h with h1 h2
   subst h1;obtain⟨rfl,hw⟩:=hw;refine⟨n,⟨rfl,λi u x hu hx=>?_⟩,λu hu=>?_,by simp[sz1,Rows.uptoBulk],?_⟩
   ·match i,hu,hx with
    |0,hu,hx =>
     simp at hu hx;subst hu hx;exact .val _
   ·rcases K4.1 hu with rfl;rfl
   ·simp[Lit.wf,IntKind.min,IntKind.max,IntKind.wrap,IntKind.bits,IntKind.signed]at hw;unfold inR;omega
  ·cases h
def opn_elems{t:TypeId}{c:V->List IV}{sz:V->Nat}{ok:V->Prop}{k b o:Nat}(hc:∀x,(c x).length=k)(D:Nat->DataW H):∀(n:Nat),
  (∀i,i<n->∃(x:V) (cs:List Value),(∀j,j<k->W.cell? ⟨b,o+(i*k+j),none⟩=cs[j]?)/\X7 W (lowS W) cs (c x)/\(∀u∈cs,u.oneCell'=true)/\sz x<=Rows.uptoBulk (D i)/\ok x) ->
  ∃(xs:List V) (us:List Value),xs.length=n/\us.length=n*k/\(∀(i:Nat) u,us[i]?=some u->W.cell? ⟨b,o+i,none⟩=some u)/\X7 W (lowS W) us (xs.map c).flatten/\(∀u∈us,u.oneCell'=true) /\
   (xs.map sz).sum<=Rows.uptoBulkAll ((List.range n).map D)/\∀x∈xs,ok x
 |0,_=>⟨[],[],rfl,by simp,by simp,⟨rfl,by simp⟩,by simp,by simp,by simp⟩
 |n+1,h=>by
  obtain⟨xs,us,h1,h2,h3,h4,h5,h6,h7⟩:=opn_elems (t:=t) hc D n λi hi=>h i (by omega);obtain⟨x,cs,g1,g2,g3,g4,g5⟩:=h n (by omega);have hcl:cs.length=k:=by rw[g2.1,hc]
  have a3:(xs.map c).flatten.length=n*k:=by rw[<- h4.1,h2]
  refine⟨xs++[x],us++cs,by simp[h1],by rw[D4,h2,hcl,Nat.add_mul];omega,λi u hu=>?_,⟨?_,λi u y hu hy=>?_⟩,λu hu=>?_,?_,λy hy=>?_⟩
  ·rw[P2]at hu;split at hu
   ·exact h3 i u hu
   ·rename_i a2;have hj:=(E4.1 hu).1;have:=g1 (i-us.length) (by omega);rw[hu,show o+(n*k+(i-us.length))=o+i by omega]at this;exact this
  ·rw[N6,iJ,D4,D4,h4.1];simp[g2.1]
  ·rw[N6,iJ,P2]at hy;rw[P2]at hu;by_cases a2:i<us.length
   ·rw[if_pos a2]at hu;rw[if_pos (by rw[a3,<- h2];exact a2)]at hy;exact h4.2 i u y hu hy
   ·rw[if_neg a2]at hu;rw[if_neg (by rw[a3,<- h2];exact a2),a3,<- h2]at hy;simp only[J7,eS,W6,DF,V0]at hy;exact g2.2 _ u y hu hy
  ·rcases I8.1 hu with hu|hu
   ·exact h5 u hu
   ·exact g3 u hu
  ·rw[jZ,N6,N6,List.sum_append,FC];simp only[J7,eS,List.sum_cons,List.sum_nil,Rows.uptoBulkAll];omega
  ·rcases I8.1 hy with hy|hy
   ·exact h7 y hy
   ·rcases K4.1 hy with rfl;exact g5
def opn_slice{t e:TypeId}{c:V->List IV}{sz:V->Nat}{ok:V->Prop}{k:Nat}(ht:Tryz.prog.underlying t=some (.slice e))(hk:Tryz.prog.cellsOf e=k)(hk0:0<k)(hc:∀x,(c x).length=k)(O:Opn W enc e c sz ok) :
  Opn W enc t (cL c) (szL sz) (okL ok):=by
 intro fuel cs d ps h hd;rcases open_slice ht h with⟨rfl,hx⟩|⟨a,len,b6,m,n,D,Pl,rfl,_,hl,_,hm,hx,a4⟩
 ·injection hx with a3 a8
  subst a3;refine⟨[],⟨rfl,λi u x hu hx=>?_⟩,λu hu=>?_,by simp[szL,Rows.uptoBulk],λx hx=>by cases hx⟩
  ·match i,hu,hx with
   |0,hu,hx =>
    simp at hu hx;subst hu hx;exact .emp _ _
  ·rcases K4.1 hu with rfl;rfl
 ·injection hx with a3 a8
  subst a3;simp only[if_true]at hm;subst hm
  have b3:Rows.uptoBulkAll ((List.range len).map D)+1<=Rows.uptoBulk (.slice ((List.range len).map D) ((List.range (m-len)).map λj=>D (len+j))):=by
   simp only[Rows.uptoBulk];omega
  have b5:len<=1048576:=by
   have:=bulk_length ((List.range len).map D);simp at this;omega
  by_cases h0:len=0
  ·subst h0;refine⟨[],⟨rfl,λi u x hu hx=>?_⟩,λu hu=>?_,by simp[szL,Rows.uptoBulk],λx hx=>by cases hx⟩
   ·match i,hu,hx with
    |0,hu,hx =>
     simp at hu hx;subst hu hx;exact .emp _ _
   ·rcases K4.1 hu with rfl;rfl
  ·obtain⟨ab,ao,a6⟩:=a;rw[hk]at a4
   have b2:a6=none:=by
    obtain⟨a5,h1,_⟩:=a4 0 (by omega);obtain⟨_,a9,a2⟩:=World.cells?_some h1;have h2:=a2 0 hk0;rw[J8 (by omega)]at h2;unfold World.cell? Addr.add at h2;simp only[lB,if_true]at h2;cases a6 with
    |none=>rfl
    |some q =>
     simp at h2;split at h2<;>simp at h2
   subst b2
   obtain⟨xs,us,h1,h2,h3,h4,h5,h6,h7⟩:=opn_elems (W:=W) (t:=e) (sz:=sz) (ok:=ok) (b:=ab) (o:=ao) hc D len λi hi=>by
    obtain⟨a5,e1,e2⟩:=a4 i (by omega);obtain⟨_,a9,a2⟩:=World.cells?_some e1;obtain⟨x,r1,r2,r3,r4⟩:=O _ _ _ _ e2 (R9 (bulk_mem (D7.2 ⟨i,M1.2 hi,rfl⟩)) (by omega));refine⟨x,a5,λj hj=>?_,r1,r2,r3,r4⟩;have:=a2 j hj;rw[addr_add,addr_add,U1]at this;exact this
   have a7:ab<W.heap.size:=by
    have b4:0<us.length:=by rw[h2];exact Nat.mul_pos (by omega) hk0
    exact World.block_lt_of_cell? W _ (h3 0 _ (J8 b4))
   refine⟨xs,⟨rfl,λi u x hu hx=>?_⟩,λu hu=>?_,?_,h7⟩
   ·match i,hu,hx with
    |0,hu,hx =>
     simp at hu hx;subst hu hx;refine .sl ab ao m k len (xs.map c) us (by simp[h1]) (λe he=>by obtain⟨y,_,rfl⟩:=D7.1 he;exact hc y) hl (by omega) a7 h4.1 h5 h3 h4.2
   ·rcases K4.1 hu with rfl;rfl
   ·show(xs.map sz).sum+1<=_;omega
def OpnFs(W:World)(enc:TypeId×Value->H)(fs:List Field)(off len:Nat)(c:V->List IV)(sz:V->Nat)(ok:V->Prop):Prop :=
 ∀(n:Nat) (cs:List Value) (xs:List (DataW H×List MemPlace)),xs.length=fs.length ->
  (∀(i:Nat) f,fs[i]?=some f->DataW.trod enc Tryz.prog W 0 (λ_=>true) true n f.type ((cs.drop f.offset).take (Tryz.prog.cellsOf f.type))=xs[i]?)->Rows.uptoBulkAll (xs.map (·.1))<=1048576 ->
  ∃x,X7 W (lowS W) ((cs.drop off).take len) (c x)/\(∀u∈(cs.drop off).take len,u.oneCell'=true)/\sz x<=Rows.uptoBulkAll (xs.map (·.1))/\ok x
def opnFs_nil{off:Nat}:OpnFs W enc [] off 0 (λ_:Unit=>[]) (λ_=>0) okT:=by
 intro n cs xs hx h hb;exact⟨(),⟨by simp,by simp⟩,by simp,F7 _,trivial⟩
def xE{f:Field}{fs:List Field}{off k len:Nat}{c1:V->List IV}{c2:G->List IV}{s1:V->Nat}{s2:G->Nat}{ok1:V->Prop}{ok2:G->Prop}(ho:f.offset=off)(hk:Tryz.prog.cellsOf f.type=k)
  (O:Opn W enc f.type c1 s1 ok1) (hc:∀x,(c1 x).length=k) (R:OpnFs W enc fs (off+k) len c2 s2 ok2) :
  OpnFs W enc (f::fs) off (k+len) (λp:V×G=>c1 p.1++c2 p.2) (λp=>s1 p.1+s2 p.2) (λp=>ok1 p.1/\ok2 p.2):=by
 intro n cs xs hx h hb
 match xs,hx with
 |x::xs,hx =>
  have e0:=h 0 f rfl;rw[ho,hk]at e0;simp only[J7,Rows.uptoBulkAll]at hb;obtain⟨a,r1,r2,r3,r4⟩:=O n _ x.1 x.2 e0 (by omega)
  obtain⟨b,q1,q2,q3,q4⟩:=R n cs xs (by simpa using hx) (λi g hg=>by
   have:=h (i+1) g (by simpa using hg)
   simpa using this) (by omega)
  have a2:(cs.drop off).take (k+len)=(cs.drop off).take k++(cs.drop (off+k)).take len:=by
   rw[List.take_add,uQ]
  have a4:((cs.drop off).take k).length=(c1 a).length:=r1.1;refine⟨(a,b),?_,λu hu=>?_,by simp only[J7,Rows.uptoBulkAll];omega,r4,q4⟩
  ·rw[a2];refine⟨by rw[D4,D4,r1.1,q1.1],λi u y hu hy=>?_⟩;rw[P2,a4]at hu;rw[P2]at hy;split at hu
   ·rename_i a3;rw[if_pos a3]at hy;exact r1.2 i u y hu hy
   ·rename_i a3;rw[if_neg a3]at hy;exact q1.2 _ u y hu hy
  ·rw[a2]at hu;rcases I8.1 hu with hu|hu
   ·exact r2 u hu
   ·exact q2 u hu
def opn_struct{t:TypeId}{fs:Array Field}{len:Nat}{c:V->List IV}{sz:V->Nat}{ok:V->Prop}{c':G->List IV}{sz':G->Nat}{ok':G->Prop}(ht:Tryz.prog.underlying t=some (.struct fs))(hl:Tryz.prog.cellsOf t=len)
  (R:OpnFs W enc fs.toList 0 len c sz ok) (conv:V->G) (hc:∀p,c' (conv p)=c p) (hs:∀p,sz' (conv p)=sz p+1) (ho:∀p,ok p->ok' (conv p)):Opn W enc t c' sz' ok':=by
 intro fuel cs d ps h hd;obtain⟨xs,n,rfl,hx,a2,a3,hf⟩:=DataW.trod_struct ht h;injection hx with a4 a5
 subst a4;simp only[Rows.uptoBulk]at hd;obtain⟨x,r1,r2,r3,r4⟩:=R n cs xs (by rw[a3];simp) (λi f hi=>hf i f (by simpa using hi)) (by omega);rw[hl]at a2;have e:(cs.drop 0).take len=cs:=by rw[CW,<- a2,T0]
 rw[e]at r1 r2;refine⟨conv x,by rw[hc];exact r1,r2,?_,ho x r4⟩;rw[hs];simp only[Rows.uptoBulk];omega
def arg_struct{t:TypeId}{fs:Array Field}{v:Value}{d:DataW H}{p:List MemPlace}{base:Nat}{c:V->List IV}{sz:V->Nat}{ok:V->Prop}(ht:Tryz.prog.underlying t=some (.struct fs))(hv:Value.okWide Tryz.prog W .any base t v)
  (h:DataW.Trod enc Tryz.prog W 0 (λ_=>true) true t v d p) (O:Opn W enc t c sz ok) (hb:Rows.uptoBulk d<=1048576):∃x,RepI W (lowS W) v (.agg (c x))/\sz x<=Rows.uptoBulk d/\ok x:=by
 obtain⟨cs,rfl,_⟩:=okWide_struct ht hv;obtain⟨fuel,hf⟩:=h;obtain⟨x,r1,r2,r3,r4⟩:=O fuel cs.toList d p (by simpa[Value.cells]using hf) hb;refine⟨x,?_,r3,r4⟩;have:=RepI.agg (w:=W) (S:=lowS W) cs.toList (c x) r1.1 r2 r1.2;simpa using this
def sp_law{f:FuncId}{W:World}{vs:List Value}{xs:List Arg}(h:Sp Tryz.prog f xs (.im (nB true)))(ha:R0 W (lowS W) vs xs []) :
  Calls Tryz.prog f vs.toArray W λe W'=>e=.returned (.bool true)/\Below W.heap.size W W':=by
 refine(h.2 W (lowS W) vs [] (λb hb=>hb) ha fU (λb hb=>by cases hb)).mono ?_;rintro e W' ⟨v,F',rfl,hb,⟨us,F1,F2,e1,ho,_,_⟩,_,_⟩;have e1:us=[v]:=e1;subst e1;refine⟨?_,hb.below λb hb=>by cases hb⟩;obtain⟨F3,F4,⟨hr,_⟩,_⟩:=ho;cases hr;rfl
end
end
section
section
variable {H:Type}{enc:TypeId×Value->H}{W:World}
def opn_0:Opn W enc 51 (cL cI) (szL sz1) (okL inR):=opn_slice (k:=1) Tryz.underlying51 (by kernel_rfl) (by decide) (λ_=>rfl) opn_int
def opn_1:Opn W enc 22 (cL (cL cI)) (szL (szL sz1)) (okL (okL inR)):=opn_slice (k:=1) Tryz.underlying22 (by kernel_rfl) (by decide) (λ_=>rfl) opn_0
def HP(x:A9):Nat:=(sz1 x.I+(sz1 x.S+((szL (szL sz1)) x.N+((szL (szL sz1)) x.O+0))))+1
def GN(x:A9):Prop:=inR x.I/\inR x.S/\(okL (okL inR)) x.N/\(okL (okL inR)) x.O
def opn_api_Mealy:Opn W enc 24 G7 HP GN :=
 opn_struct (len:=4) Tryz.underlying24 (by kernel_rfl) (xE (k:=1) rfl (by kernel_rfl) opn_int (λ_=>rfl) (xE (k:=1) rfl (by kernel_rfl) opn_int (λ_=>rfl) (xE (k:=1) rfl (by kernel_rfl) opn_1 (λ_=>rfl) (xE (k:=1) rfl (by kernel_rfl) opn_1 (λ_=>rfl) opnFs_nil)))) (λp=>⟨p.1,p.2.1,p.2.2.1,p.2.2.2.1⟩) (λ_=>rfl) (λ_=>rfl) (λp h=>⟨h.1,h.2.1,h.2.2.1,h.2.2.2.1⟩)
end
end
end Go.Proofs.YtdjagdnpnhmldaaGreatDoor.Sym

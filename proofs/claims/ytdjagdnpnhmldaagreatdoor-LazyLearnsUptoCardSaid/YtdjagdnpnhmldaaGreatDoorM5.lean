/- Parts of the proof. -/
import Derived.Test.YtdjagdnpnhmldaaGreatDoorM4
set_option linter.all false
set_option maxRecDepth 100000
set_option maxHeartbeats 4000000
open Go.RowKit
namespace Go.Proofs.YtdjagdnpnhmldaaGreatDoor.Sym
section
def subW(h:I6)(o:A7)(w:A2):bL:=⟨h,o,w,(List.range (w.length+1)).map (λ(i:Nat)=>(↑(stW h w i):Int)),outs h.M 0 w⟩
section
variable {h:I6}{o:A7}{w:A2}
def S8.wok(F:S8 h o w):WOk h.M.I w:=W5 F.chk
def S8.sym(F:S8 h o w){i:Nat}(hi:i<w.length):∃a:Nat,w[i]?=some (a:Int)/\a<h.M.I.toNat:=by
 have:=F.wok _ (J3 hi);obtain⟨a,ha⟩:=oI this.1;exact⟨a,by rw[get_at hi,ha],by omega⟩
def st_succ{i a:Nat}(ha:w[i]?=some (a:Int)):stW h w (i+1)=nx h.M (stW h w i) a:=by
 unfold stW;rw[Q2 ha,fM];show nx h.M _ (Int.toNat (a:Int))=_;rw[O3]
def outs_succ{i a:Nat}(s:Nat)(ha:w[i]?=some (a:Int)):outs h.M s (w.take (i+1))=outs h.M s (w.take i)++[ot h.M (dest h.M s (w.take i)) a]:=by
 rw[Q2 ha,gR];show _++[ot h.M _ (Int.toNat (a:Int))]=_;rw[O3]
def begin_eq(F:S8 h o w):bZ h o w=some (some (subW h o w),0):=by
 obtain⟨r,k1,k2⟩:=F.kn;have a5:=F.wl;have a4:I2 w o.I=0:=by rw[<- F.inp];exact F.chk
 have a2:h.M.S.toNat=0:=by rw[F.st];rfl
 unfold bZ;rw[F.vp,A6,B4 (by simp),B4 (λh=>h F.inp),lU w _ (by unfold SmW;omega),A6,a4,B4 (by simp),yA F.ho F.hv,A6,k1];simp only[tw,U0,G0]
 have key:=V3 (step:=λ(s:A2×A2×Int×Nat)=>bZ.s2 h w s.1 s.2.1 s.2.2.1 s.2.2.2) (r:=((List.range (w.length+1)).map (λ(i:Nat)=>(↑(stW h w i):Int)),outs h.M 0 w)) (λs=>s.2.2.2<=w.length/\s.1=(List.range (s.2.2.2+1)).map (λ(i:Nat)=>(↑(stW h w i):Int))/\s.2.1=outs h.M 0 (w.take s.2.2.2)/\s.2.2.1=(↑(stW h w s.2.2.2):Int)) (λs=>w.length-s.2.2.2) (λs ⟨g1,g2,g3,g4⟩=>by
  obtain⟨p,q,st,i⟩:=s
  simp only at g1 g2 g3 g4
  subst g2
  subst g3
  subst g4
  simp only[bZ.s2]
  by_cases g:i<w.length
  ·left
   obtain⟨a,ha,a3⟩:=F.sym g
   obtain⟨_,_,_,x,y,e1,e2,e3,e4⟩:=F.mac.at (F.stl i) a3
   refine⟨((List.range (i+1+1)).map (λ(i:Nat)=>(↑(stW h w i):Int)),outs h.M 0 (w.take (i+1)),(↑(stW h w (i+1)):Int),i+1),?_,⟨g,rfl,rfl,rfl⟩,by simp only;omega⟩
   rw[K8 ha,G5,C8 ha,E8 rfl e2,E8 (i:=a) rfl e4,H7 (by unfold E0;rw[bU,H6];omega),E8 rfl e1,E8 (i:=a) rfl e3,H7 (by unfold E0;rw[B6,Y6];omega),st_succ ha,outs_succ 0 ha,jZ (n:=i+1),N6,List.map_singleton,st_succ ha]
   have:dest h.M 0 (w.take i)=stW h w i:=by unfold stW;rw[a2]
   rw[this]
  ·right
   have e:i=w.length:=by omega
   subst e
   rw[B4,T0]) (n:=fuel) (s:=([h.M.S],[],h.M.S,0)) ⟨F7 _,by
    show [h.M.S]=[(↑(stW h w 0):Int)]
    rw[st_zero,a2,F.st];rfl,rfl,by
    show h.M.S=(↑(stW h w 0):Int)
    rw[st_zero,a2,F.st];rfl⟩
 rw[key,A6];simp only[bZ.k3];have a6:=kG F.hv k1;rw[nX _ _ (by omega),A6,B4 k2];rfl
def sub_state(F:S8 h o w){i:Nat}(hi:i<=w.length):(subW h o w).states[i]?=some (↑(stW h w i):Int):=by
 unfold subW;simp only;rw[I9,cH (by omega)];rfl
def query_eq(F:S8 h o w){i:Nat}(hi:i<=w.length):qV (subW h o w) (i:Int)=some (qW h w i):=by
 have hq:=F.ql i;unfold qW at hq;unfold qV qW;rw[E8 rfl (sub_state F hi)];show(idx h.Access (↑(stW h w i):Int) λa2=>chk ((0:Int)<=(i:Int)/\(i:Int)<=(w.length:Int)) ((aX [a2,(List.drop (Int.toNat (i:Int)) w)]).bind λa6=>some a6))=_;rw[E8 rfl (F.ac i).1,H7 (by omega),O3,gT _ (by simp) (by rw[pO];omega),A6,pO]
def AG(F:S8 h o w){i:Nat}(hi:i<=w.length)(hk:ansO o (qW h w i)≠none):∃r,ansO o (qW h w i)=some r/\r.length=(acW h w i).length+(w.length-i)/\tailA o (acW h w i) (w.drop i)=r.drop (acW h w i).length:=by
 cases e:ansO o (qW h w i) with
 |none=>exact absurd e hk
 |some r =>
  have hl:=kG F.hv e;unfold qW at hl e;rw[D4,M0]at hl;exact⟨r,rfl,hl,by unfold tailA;rw[e];rfl⟩
def rest_eq(F:S8 h o w){i:Nat}(hi:i<=w.length)(hk:ansO o (qW h w i)≠none):qX (subW h o w) (i:Int)=some (tailA o (acW h w i) (w.drop i)):=by
 obtain⟨r,h1,h2,h3⟩:=AG F hi hk;have a3:=F.wl;have a4:=(F.ac i).2;unfold qX;rw[query_eq F hi,A6];show((jM o (qW h w i)).bind λa2=>chk (inR ((w.length:Int)-(i:Int))) (chk (inR ((a2.1.length:Int)-((w.length:Int)-(i:Int)))) (chk ((0:Int)<=((a2.1.length:Int)-((w.length:Int)-(i:Int)))/\((a2.1.length:Int)-((w.length:Int)-(i:Int)))<=(a2.1.length:Int)) (some (List.drop (Int.toNat ((a2.1.length:Int)-((w.length:Int)-(i:Int)))) a2.1)))))=_;rw[yA F.ho F.hv,A6,h1];simp only[tw];rw[L0,L0,H7 (by omega),h3];congr 2;omega
def bad_eq(F:S8 h o w){i:Nat}(hi:i<=w.length)(hk:ansO o (qW h w i)≠none):uN (i:Int) (subW h o w)=some (badW h o w i):=by
 have a3:h.M.S.toNat=0:=by rw[F.st];rfl
 have hd:=outs_drop (h:=h) (w:=w) i;rw[a3]at hd;obtain⟨r,h1,h2,h3⟩:=AG F hi hk;have a4:=F.wl;have a5:=(F.ac i).2;unfold uN badW;rw[rest_eq F hi hk,A6];show chk ((0:Int)<=(i:Int)/\(i:Int)<=(↑(List.length (outs h.M 0 w)):Int)) ((bN (tailA o (acW h w i) (w.drop i)) (List.drop (Int.toNat (i:Int)) (outs h.M 0 w))).bind λa2=>some (!a2))=_;rw[H7 (by rw[bU];omega),O3,hd,nX _ _ (by rw[h3,M0];omega),A6]
def tail_head(F:S8 h o w){i:Nat}(hi:i<w.length)(hk:ansO o (qW h w i)≠none):∃y,(tailA o (acW h w i) (w.drop i))[0]?=some y/\(tailA o (acW h w i) (w.drop i)).head?=some y:=by
 obtain⟨r,h1,h2,h3⟩:=AG F (by omega) hk;rw[h3];have hl:0<(r.drop (acW h w i).length).length:=by rw[M0];omega
 refine⟨_,get_at hl,?_⟩;rw[List.head?_eq_getElem?,get_at hl]
def out_at(F:S8 h o w){i a:Nat}(ha:w[i]?=some (a:Int)):(outs h.M 0 w)[i]?=some (ot h.M (stW h w i) a):=by
 have a2:h.M.S.toNat=0:=by rw[F.st];rfl
 have hi:=(E4.1 ha).1;have hd:=outs_drop (h:=h) (w:=w) i;rw[a2]at hd;have h1:(List.drop i (outs h.M 0 w))[0]?=(outs h.M 0 w)[i]?:=by rw[U2,X5]
 have h2:w.drop i=(a:Int)::w.drop (i+1):=by
  rw[cV hi];congr 1;rw[get_at hi]at ha;injection ha
 rw[<- h1,hd,h2];show some (ot h.M (stW h w i) (Int.toNat (a:Int)))=_;rw[O3]
def split_eq(F:S8 h o w){i:Nat}(hi:i<w.length)(hk:ansO o (qW h w i)≠none):uK (subW h o w) (i:Int)=some ((splW h o w i).1,[],(splW h o w i).2):=by
 obtain⟨a,ha,a5⟩:=F.sym hi;obtain⟨y,y1,y2⟩:=tail_head F hi hk;have a3:=F.wl;have a4:=(F.ac i).2;unfold uK splW;rw[rest_eq F (by omega) hk,A6,C8 y1];show(idx (outs h.M 0 w) (i:Int) λa2=>cond (decide (y≠a2)) (some ((⟨[],0,[]⟩:N5),[],15)) (idx (subW h o w).states (i:Int) λa6=>idx h.Access a6 λa7=>(cA a7).bind λa8=>idx w (i:Int) λb2=>chk (inR ((i:Int)+1)) (chk ((0:Int)<=((i:Int)+1)/\((i:Int)+1)<=(w.length:Int)) ((cA (List.drop (Int.toNat ((i:Int)+1)) w)).bind λb3=>some ((⟨a8,b2,b3⟩:N5),[],0)))))=_;rw[E8 rfl (out_at F ha),y2,ha,N1,O3];by_cases g:y=ot h.M (stW h w i) a
 ·rw[B4 (λh=>h g),if_neg (λh=>h (by rw[g])),E8 rfl (sub_state F (by omega)),E8 rfl (F.ac i).1,gW (by unfold SmW;omega),A6,E8 rfl ha,L0,H7 (by omega),gW (by unfold SmW;rw[M0];omega),A6];rfl
 ·rw[E2 g,if_pos (λh=>g (by injection h))]
def prog_loc(F:S8 h o w):∀(n lo hi k:Nat),lo<hi->hi<=w.length->hi-lo<=n->n<k ->
  iter (λ(s:Int×Int)=>dO.s2 (subW h o w) (λu0 u1=>jO u0 u1) s.1 s.2) k ((lo:Int),(hi:Int))=some (match locW h o w n lo hi with|.inl x=>.inl (x:Int)|.inr r=>.inr r):=by
 intro n;have a7:=F.wl
 induction n with
 |zero=>intro lo hi k h1 h2 h3;omega
 |succ n ih =>
  intro lo hi k h1 h2 h3 h4;obtain⟨k,rfl⟩:∃k',k=k'+1:=⟨k-1,by omega⟩;by_cases g:1<hi-lo
  ·have a6:Int.toNat (((lo:Int)+(hi:Int)) / 2)=(lo+hi) / 2:=by omega
   have a5:((lo:Int)+(hi:Int)) / 2=(↑((lo+hi) / 2):Int):=by omega
   have hb:lo<(lo+hi) / 2/\(lo+hi) / 2<hi:=by omega
   have hq:=F.ql ((lo+hi) / 2)
   have a4:jO (lo:Int) (hi:Int)=some (↑((lo+hi) / 2):Int):=by
    unfold jO;rw[L0,L0,a5]
   have a3:dO.s2 (subW h o w) (λu0 u1=>jO u0 u1) (lo:Int) (hi:Int)=(if ansO o (qW h w ((lo+hi) / 2))=none then some (.inr (.inr (⟨[],0,[]⟩,qW h w ((lo+hi) / 2),0))) else if badW h o w ((lo+hi) / 2)=true then some (.inl ((↑((lo+hi) / 2):Int),(hi:Int))) else some (.inl ((lo:Int),(↑((lo+hi) / 2):Int)))):=by
    unfold dO.s2;rw[L0,E2];simp only;rw[a4,A6,query_eq F (by omega),A6,B4];show((jM o (qW h w ((lo+hi) / 2))).bind λa2=>_)=_;rw[yA F.ho F.hv,A6];by_cases g2:ansO o (qW h w ((lo+hi) / 2))=none
    ·rw[if_pos g2,g2];rfl
    ·rw[if_neg g2,bad_eq F (by omega) g2];obtain⟨r,e⟩:=Option.ne_none_iff_exists'.1 g2;rw[e];simp only[tw,U0,G0,A6];cases badW h o w ((lo+hi) / 2)<;>rfl
   unfold locW;rw[if_pos g];by_cases g2:ansO o (qW h w ((lo+hi) / 2))=none
   ·rw[if_pos g2]at a3 ⊢;rw[pH a3]
   ·rw[if_neg g2]at a3 ⊢;by_cases g3:badW h o w ((lo+hi) / 2)=true
    ·rw[if_pos g3]at a3 ⊢;rw[pJ a3];exact ih _ _ _ hb.2 h2 (by omega) (by omega)
    ·rw[if_neg g3]at a3 ⊢;rw[pJ a3];exact ih _ _ _ hb.1 (by omega) (by omega) (by omega)
  ·have a3:dO.s2 (subW h o w) (λu0 u1=>jO u0 u1) (lo:Int) (hi:Int)=some (.inr (.inl (lo:Int))):=by
    unfold dO.s2;rw[L0,B4]
   unfold locW;rw[if_neg g,pH a3]
def wL(F:S8 h o w):∀(n lo hi:Nat),lo<hi->hi<=w.length->ansO o (qW h w lo)≠none->∀x,locW h o w n lo hi=.inl x->x<w.length/\ansO o (qW h w x)≠none
 |0,lo,hi,h1,h2,h3,x,e=>by
  unfold locW at e;injection e with e
  subst e;exact⟨by omega,h3⟩
 |n+1,lo,hi,h1,h2,h3,x,e=>by
  unfold locW at e;split at e
  ·split at e
   ·cases e
   ·rename_i g g2;split at e
    ·exact wL F n _ _ (by omega) h2 g2 x e
    ·exact wL F n _ _ (by omega) (by omega) h3 x e
  ·injection e with e
   subst e;exact⟨by omega,h3⟩
def IR(F:S8 h o w):qK h o w=some (Q7 h o w):=by
 have a3:=F.wl;have a2:=F.w0;unfold qK Q7;rw[begin_eq F,A6,B4 (by simp),A6]
 have e:dO (subW h o w) (λu0 u1=>jO u0 u1)=some (match locW h o w w.length 0 w.length with
  | .inl lo=>((splW h o w lo).1,[],(splW h o w lo).2)
  | .inr r=>r):=by
  unfold dO;show((iter _ fuel (0,(w.length:Int)):Option (Int⊕(N5×A2×Int))).bind _)=_;have:=prog_loc F w.length 0 w.length fuel a2 (G4 _) (by omega) (by have:=U7;omega);rw[show((↑(0:Nat):Int))=0 from rfl]at this;rw[this,A6];cases e:locW h o w w.length 0 w.length with
  |inr r=>rfl
  |inl x =>
   obtain⟨k1,k2⟩:=wL F _ _ _ a2 (G4 _) F.k0 x e;simp only[cS];rw[split_eq F k1 k2,A6]
 rw[e,A6];rfl
end
end
section
def runO(nx:A7->Option A7):Nat->A7->A7
 |0,o=>o
 |n+1,o=>match nx o with
  |none=>o
  |some p=>runO nx n p
def runO_inv{nx:A7->Option A7}{I:A7->Prop}{mu:A7->Nat}(h:∀o p,I o->nx o=some p->I p/\mu p<mu o):∀n o,I o->mu o<n->I (runO nx n o)/\nx (runO nx n o)=none
 |0,o,_,hm=>by omega
 |n+1,o,hi,hm=>by
  unfold runO;cases e:nx o with
  |none=>exact⟨hi,e⟩
  |some p =>
   obtain⟨h1,h2⟩:=h o p hi e;exact runO_inv h n p h1 (by omega)
def zA{S R:Type}{step:S->Option (S⊕R)}{st:A7->S}{fin:A7->R}{nx:A7->Option A7}{I:A7->Prop}{mu:A7->Nat}(h:∀o p,I o->nx o=some p->I p/\mu p<mu o)
  (h1:∀o,I o->nx o=none->step (st o)=some (.inr (fin o))) (h2:∀o p,I o->nx o=some p->step (st o)=some (.inl (st p))):∀n k o,I o->mu o<n->mu o<k->iter step k (st o)=some (fin (runO nx n o))
 |0,k,o,_,hm,_=>by omega
 |n+1,0,o,_,_,hm=>by omega
 |n+1,k+1,o,hi,hm,hk=>by
  unfold runO;cases e:nx o with
  |none=>rw[pH (h1 o hi e)]
  |some p =>
   obtain⟨g1,g2⟩:=h o p hi e;rw[pJ (h2 o p hi e)];exact zA h h1 h2 n k p g1 (by omega) (by omega)
def trs_len{l:List B0}(h:dX l){k:A4}(hk:∀t∈l,t.In∈k):l.length<=k.length:=by
 have a2:(l.map λu=>u.In).Nodup:=by
  unfold List.Nodup;rw[rG]
  exact h.asc.imp λ{a b} h e=>by
   rw[e,dJ]at h;cases h
 have:=mZ (k:=k) a2 λx hx=>by
  obtain⟨t,ht,rfl⟩:=D7.1 hx;exact hk t ht
 rwa [B6]at this
section
variable {m:A9}{o:A7}
def tU(hv:S4 m=0){ws:A4}(T:Q9 m o)(hw:∀w∈ws,I2 w m.I=0)(hl:ws.length<=2000000)(hN:(M5 m o ws).T.length<=10000):X0 m o ws=some (M5 m o ws,0):=by
 have H:=dG hv
 have key:∀(n i:Nat) (o:A7),Q9 m o->i<=ws.length->ws.length-i<n->(M5 m o (ws.drop i)).T.length<=10000->iter (λ(s:Int×List B0×Nat)=>X0.s2 m ws s.1 s.2.1 s.2.2) n (o.I,o.T,i)=some (.inl ((M5 m o (ws.drop i)).I,(M5 m o (ws.drop i)).T)):=by
  intro n
  induction n with
  |zero=>intro i o _ _ h;omega
  |succ n ih =>
   intro i o T hi hn hN;rcases J0 i ws.length with h|h
   ·have hx:=get_at h;have hc:=hw _ (J3 h);rw[cV h]at hN ⊢;unfold M5 at hN ⊢;have h1:=told_up (m:=m) (ws.drop (i+1)) ⟨o.I,addL o.T (Sym.tr m ws[i])⟩ (T.ok.trs.add _);simp only at h1
    have a2:X0.s2 m ws o.I o.T i=some (.inl (o.I,addL o.T (Sym.tr m ws[i]),i+1)):=by
     unfold X0.s2;rw[K8 hx,G5,C8 hx,mealy_Run_ok hv hc,A6];simp only;rw[B4 (by decide),show(⟨o.I,o.T⟩:A7)=o from rfl,show(⟨ws[i],outS m ws[i]⟩:B0)=Sym.tr m ws[i] from rfl,zyf T.tr T.ok (tr_sm hc),A6,add_any H T hc,if_neg (by omega)];rfl
    rw[pJ a2];exact ih (i+1) ⟨o.I,addL o.T (Sym.tr m ws[i])⟩ (GB H T hc (by omega)) h (by omega) hN
   ·have e:i=ws.length:=by omega
    subst e
    have a2:X0.s2 m ws o.I o.T ws.length=some (.inr (.inl (o.I,o.T))):=by
     unfold X0.s2;rw[T7,G0]
    rw[oD];exact pH a2
 unfold X0;have:=key fuel 0 o T (F7 _) (by have:=U7;omega) hN;rw[CW]at this;rw[this,A6];rfl
def rS(w v:A2):Kn (M5 m o [w]) v↔Kn o v\/v <+: w:=by
 rw[mQ];constructor
 ·rintro (h|⟨x,hx,h⟩)
  ·exact .inl h
  ·rw[K4.1 hx]at h;exact .inr h
 ·rintro (h|h)
  ·exact .inl h
  ·exact .inr ⟨w,K4.2 rfl,h⟩
end
structure FndS(m:A9)(h:I6)(w:A2):Prop where
 H:J6 m
 mac:J6 h.M
 st:h.M.S=0
 acc:∀s,s<h.M.N.length->∃q,h.Access[s]?=some q/\q.length<=400/\WOk m.I q/\∀a:Nat,a<m.I.toNat->ot m (dest m m.S.toNat q) a=ot h.M s a
 ac0:h.Access[0]?=some []
 vp:eM h=some 0
 vr:eF h=some 0
 inp:h.M.I=m.I
 wk:WOk m.I w
 wl:w.length<=24
 ne:Sym.outs h.M 0 w≠Sym.outs m m.S.toNat w
structure FndO(m:A9)(h:I6)(w:A2)(I0:A4)(o:A7):Prop where
 told:Q9 m o
 kn:Kn o w
 cs:∀t∈o.T,t.In∈I0\/∃i,i<w.length/\t.In=qW h w i
section
variable {m:A9}{h:I6}{w:A2}{I0:A4}{o:A7}
def FndS.chk(F:FndS m h w):I2 w m.I=0:=jH ⟨F.H.i1,by have:=F.H.i2;omega⟩ F.wk (by have:=F.wl;omega)
def FndS.fnd(F:FndS m h w)(O:FndO m h w I0 o):S8 h o w:=by
 refine⟨F.mac,F.st,λs hs=>?_,F.ac0,F.vp,F.vr,by rw[F.inp,O.told.inp],by rw[F.inp];exact F.chk,F.wl,O.told.smR,O.told.ok,⟨_,(kM O.told.ex).1 O.kn,λe=>F.ne e.symm⟩⟩;obtain⟨q,h1,h2,_⟩:=F.acc s hs;exact⟨q,h1,h2⟩
def FndS.stl(F:FndS m h w)(i:Nat):stW h w i<h.M.N.length:=F.mac.dest (λy hy=>by rw[F.inp];exact F.wk y (Q4 hy)) (by have:=F.mac.st;omega)
def FndS.ac(F:FndS m h w)(i:Nat):h.Access[stW h w i]?=some (acW h w i)/\(acW h w i).length<=400/\WOk m.I (acW h w i)/\∀a:Nat,a<m.I.toNat->ot m (dest m m.S.toNat (acW h w i)) a=ot h.M (stW h w i) a:=by
 obtain⟨q,h1,h2⟩:=F.acc _ (F.stl i);have e:acW h w i=q:=by unfold acW;rw[h1];rfl
 rw[e];exact⟨h1,h2⟩
def FndS.qchk(F:FndS m h w)(i:Nat):I2 (qW h w i) m.I=0:=by
 obtain⟨_,h2,h3,_⟩:=F.ac i;have:=F.wl;refine jH ⟨F.H.i1,by have:=F.H.i2;omega⟩ (h3.append λx hx=>F.wk x (U3 hx)) ?_;show(acW h w i++w.drop i).length<=_;rw[D4,M0];omega
def loc_ask:∀(n lo hi:Nat),lo<hi->hi<=w.length->∀r,locW h o w n lo hi=.inr r->∃i,0<i/\i<w.length/\r=(⟨[],0,[]⟩,qW h w i,0)/\ansO o (qW h w i)=none
 |0,lo,hi,h1,h2,r,e=>by
  unfold locW at e;cases e
 |n+1,lo,hi,h1,h2,r,e=>by
  unfold locW at e;split at e
  ·split at e
   ·rename_i g g2;injection e with e
    exact⟨(lo+hi) / 2,by omega,by omega,e.symm,g2⟩
   ·rename_i g g2;split at e
    ·exact loc_ask n _ _ (by omega) h2 r e
    ·exact loc_ask n _ _ (by omega) (by omega) r e
  ·cases e
def loc_brk:∀(n lo hi:Nat),lo<hi->hi-lo<=n->badW h o w lo=true->badW h o w hi=false->(hi<w.length->ansO o (qW h w hi)≠none)->∀x,locW h o w n lo hi=.inl x->badW h o w x=true/\badW h o w (x+1)=false/\(x+1<w.length->ansO o (qW h w (x+1))≠none)
 |0,lo,hi,h1,h2,_,_,_,x,e=>by omega
 |n+1,lo,hi,h1,h2,h3,h4,h5,x,e=>by
  unfold locW at e;split at e
  ·split at e
   ·cases e
   ·split at e
    ·rename_i g _ g3;exact loc_brk n _ _ (by omega) (by omega) g3 h4 h5 x e
    ·rename_i g g2 g3;exact loc_brk n _ _ (by omega) (by omega) h3 (by simpa using g3) (λ_=>g2) x e
  ·injection e with e
   subst e;have:hi=lo+1:=by omega
   subst this;exact⟨h3,h4,h5⟩
def nxF(m:A9)(h:I6)(w:A2)(o:A7):Option A7:=if(Q7 h o w).2.2=0/\(Q7 h o w).2.1≠[] then some (M5 m o [(Q7 h o w).2.1]) else none
def muF(h:I6)(w:A2)(o:A7):Nat:=((List.range w.length).filter λi=>decide (ansO o (qW h w i)=none)).length
def wG(F:FndS m h w)(O:FndO m h w I0 o):(∃i,0<i/\i<w.length/\Q7 h o w=(⟨[],0,[]⟩,qW h w i,0)/\ansO o (qW h w i)=none) \/
  ∃i,i<w.length/\Q7 h o w=(⟨acW h w i,(w[i]?).getD 0,w.drop (i+1)⟩,[],0)/\Sym.outs m (dest m m.S.toNat (acW h w i)) (w.drop i)≠Sym.outs h.M (stW h w i) (w.drop i)/\Sym.outs m (dest m m.S.toNat (acW h w (i+1))) (w.drop (i+1))=Sym.outs h.M (stW h w (i+1)) (w.drop (i+1)):=by
 have FI:=F.fnd O;have a2:=FI.w0;unfold Q7;cases e:locW h o w w.length 0 w.length with
 |inr r =>
  obtain⟨i,h1,h2,h3,h4⟩:=loc_ask _ _ _ a2 (G4 _) r e;exact .inl ⟨i,h1,h2,h3,h4⟩
 |inl x =>
  right;obtain⟨k1,k2⟩:=wL FI _ _ _ a2 (G4 _) FI.k0 x e;have tl:∀i,i<=w.length->ansO o (qW h w i)≠none->tailA o (acW h w i) (w.drop i)=Sym.outs m (dest m m.S.toNat (acW h w i)) (w.drop i):=λi _ hk=>qN O.told.ex (S1 λg=>hk ((iT O.told).2 g))
  have a6:badW h o w 0=true:=by
   unfold badW;have a3:stW h w 0=0:=by rw[st_zero,F.st];rfl
   have ha:acW h w 0=[]:=by unfold acW;rw[a3,F.ac0];rfl
   rw[tl 0 (F7 _) FI.k0,ha,a3,CW];have:Sym.outs m (dest m m.S.toNat []) w≠Sym.outs h.M 0 w:=λe=>F.ne e.symm;rw[I3 this];rfl
  have hb1:badW h o w w.length=false:=by
   unfold badW;rw[oD,wK O.told.ok];simp[Sym.outs]
  obtain⟨b1,b2,b3⟩:=loc_brk _ _ _ a2 (by omega) a6 hb1 (λh=>absurd h (by omega)) x e;obtain⟨a,ha,a4⟩:=FI.sym k1;obtain⟨_,_,_,a5⟩:=F.ac x
  have hd:w.drop x=(a:Int)::w.drop (x+1):=by
   rw[cV k1];congr 1;rw[get_at k1]at ha;injection ha
  refine⟨x,k1,?_,?_,?_⟩
  ·show((splW h o w x).1,([]:A2),(splW h o w x).2)=_;unfold splW;rw[if_neg];rw[tl x (by omega) k2,hd,eC,ha,N1,O3,List.head?_cons,a5 a (by rw[<- F.inp];exact a4)];exact λh=>h rfl
  ·unfold badW at b1;rw[tl x (by omega) k2]at b1;simpa using b1
  ·rcases J0 (x+1) w.length with g|g
   ·unfold badW at b2;rw[tl (x+1) (by omega) (b3 g)]at b2;simpa using b2
   ·rw[iL g];rfl
def q_ne{i:Nat}(hi:i<w.length):qW h w i≠[]:=λe=>by
 have:=congrArg List.length e;unfold qW at this;rw[D4,M0,L2]at this;omega
def q_pos{i:Nat}(hi:i<w.length):(0:Int)<(↑(qW h w i).length:Int):=by
 have:=rA.2 (q_ne (h:=h) hi);omega
def FndO.one(F:FndS m h w)(O:FndO m h w I0 o)(hI:I0.length+25<=10000){i:Nat}(hi:i<w.length)(hn:ansO o (qW h w i)=none):(M5 m o [qW h w i]).T.length<=10000/\FndO m h w I0 (M5 m o [qW h w i])/\muF h w (M5 m o [qW h w i])<muF h w o:=by
 have hc:∀z∈[qW h w i],I2 z m.I=0:=λz hz=>by
  rw[K4.1 hz];exact F.qchk i
 have cs:∀t∈(M5 m o [qW h w i]).T,t.In∈I0\/∃i,i<w.length/\t.In=qW h w i:=λt ht=>by
  rcases pW _ _ ht with h1|h1
  ·exact O.cs t h1
  ·exact .inr ⟨i,hi,K4.1 h1⟩
 have hl:(M5 m o [qW h w i]).T.length<=10000:=by
  have:=trs_len (wE [qW h w i] o O.told.ok.trs) (k:=I0++(List.range w.length).map (qW h w)) λt ht=>by
   rcases cs t ht with h1|⟨i,h1,h2⟩
   ·exact L5 _ h1
   ·exact L3 _ (D7.2 ⟨i,M1.2 h1,h2.symm⟩)
  rw[D4,B6,Y6]at this;have:=F.wl;omega
 have T':=sR F.H [qW h w i] o O.told hc hl;refine⟨hl,⟨T',(rS _ _).2 (.inl O.kn),cs⟩,?_⟩;unfold muF;refine Nat.lt_of_succ_le ((AQ λx _ hx=>?_).2 ⟨i,M1.2 hi,E6 hn,I3 λg=>(iT T').1 g ((rS _ _).2 (.inr (eQ _)))⟩);have hx:=of_decide_eq_true hx;exact E6 ((iT O.told).2 λg=>(iT T').1 hx ((rS _ _).2 (.inl g)))
def FndO.step(F:FndS m h w)(hI:I0.length+25<=10000):∀o p,FndO m h w I0 o->nxF m h w o=some p->FndO m h w I0 p/\muF h w p<muF h w o:=λo p O hn=>by
 unfold nxF at hn;rcases wG F O with⟨i,h1,h2,h3,h4⟩|⟨i,h1,h2,_⟩
 ·rw[h3]at hn;simp only at hn;rw[if_pos ⟨trivial,q_ne (by assumption)⟩]at hn;injection hn with hn
  rw[<- hn];exact(FndO.one F O hI h2 h4).2
 ·rw[h2]at hn;rw[if_neg (λh=>h.2 rfl)]at hn;cases hn
def muF_le:muF h w o<=w.length:=by
 unfold muF;have:=oH (λi=>decide (ansO o (qW h w i)=none)) (List.range w.length)
 rwa [Y6]at this
def find_end(F:FndS m h w)(hI:I0.length+25<=10000)(O:FndO m h w I0 o):FndO m h w I0 (runO (nxF m h w) 25 o)/\∃i,i<w.length/\Q7 h (runO (nxF m h w) 25 o) w=(⟨acW h w i,(w[i]?).getD 0,w.drop (i+1)⟩,[],0)/\Sym.outs m (dest m m.S.toNat (acW h w i)) (w.drop i)≠Sym.outs h.M (stW h w i) (w.drop i)/\Sym.outs m (dest m m.S.toNat (acW h w (i+1))) (w.drop (i+1))=Sym.outs h.M (stW h w (i+1)) (w.drop (i+1)):=by
 obtain⟨h1,h2⟩:=runO_inv (FndO.step F hI) 25 o O (by have:=muF_le (h:=h) (w:=w) (o:=o);have:=F.wl;omega);refine⟨h1,?_⟩;rcases wG F h1 with⟨i,g1,g2,g3,g4⟩|g
 ·have h2:(if(Q7 h (runO (nxF m h w) 25 o) w).2.2=0/\(Q7 h (runO (nxF m h w) 25 o) w).2.1≠[] then some (M5 m (runO (nxF m h w) 25 o) [(Q7 h (runO (nxF m h w) 25 o) w).2.1]) else none)=none:=h2;rw[g3]at h2;simp only at h2;rw[if_pos ⟨trivial,q_ne (by assumption)⟩]at h2;cases h2
 ·exact g
def prog_find{l:E1}(hv:S4 m=0)(F:FndS m h w)(hI:I0.length+25<=10000)(O:FndO m h w I0 o) :
  iter (λ(s:Int×List B0×Int×A2×Int×A2×A2)=>X3.s2 l m h w s.1 s.2.1 s.2.2.1 s.2.2.2.1 s.2.2.2.2.1 s.2.2.2.2.2.1 s.2.2.2.2.2.2) fuel (o.I,o.T,(Q7 h o w).2.2,(Q7 h o w).1.Prefix,(Q7 h o w).1.Symbol,(Q7 h o w).1.Suffix,(Q7 h o w).2.1) =
   some (.inl ((runO (nxF m h w) 25 o).I,(runO (nxF m h w) 25 o).T,(Q7 h (runO (nxF m h w) 25 o) w).2.2,(Q7 h (runO (nxF m h w) 25 o) w).1.Prefix,(Q7 h (runO (nxF m h w) 25 o) w).1.Symbol,(Q7 h (runO (nxF m h w) 25 o) w).1.Suffix)):=by
 have hm:=muF_le (h:=h) (w:=w) (o:=o);have a2:=F.wl;refine zA (st:=λo=>(o.I,o.T,(Q7 h o w).2.2,(Q7 h o w).1.Prefix,(Q7 h o w).1.Symbol,(Q7 h o w).1.Suffix,(Q7 h o w).2.1)) (fin:=λo=>(.inl (o.I,o.T,(Q7 h o w).2.2,(Q7 h o w).1.Prefix,(Q7 h o w).1.Symbol,(Q7 h o w).1.Suffix):(Int×List B0×Int×A2×Int×A2)⊕(E1×A7×Int))) (FndO.step F hI) (λo O hn=>?_) (λo p O hn=>?_) 25 fuel o O (by omega) (by have:=U7;omega)
 ·simp only;unfold X3.s2;rcases wG F O with⟨i,g1,g2,g3,g4⟩|⟨i,g1,g2,_⟩
  ·exfalso;unfold nxF at hn;rw[g3]at hn;simp only at hn;rw[if_pos ⟨trivial,q_ne g2⟩]at hn;cases hn
  ·rw[g2];rfl
 ·simp only;unfold X3.s2;rcases wG F O with⟨i,g1,g2,g3,g4⟩|⟨i,g1,g2,_⟩
  ·obtain⟨k1,k2,_⟩:=FndO.one F O hI g2 g4;unfold nxF at hn;rw[g3]at hn ⊢;simp only at hn;rw[if_pos ⟨trivial,q_ne g2⟩]at hn;injection hn with hn
   subst hn;simp only;rw[E2 (by decide),A6,E2 (q_pos g2),show(⟨o.I,o.T⟩:A7)=o from rfl,tU hv O.told (λz hz=>by rw[K4.1 hz];exact F.qchk i) (by simp) k1,A6];simp only;rw[B4 (by decide),IR (F.fnd k2),A6]
  ·exfalso;unfold nxF at hn;rw[g2]at hn;rw[if_neg (λh=>h.2 rfl)]at hn;cases hn
end
end
section
def find_congr{V:Type}{p q:V->Bool}:∀{l:List V},(∀x∈l,p x=q x)->l.find? p=l.find? q
 |[],_=>rfl
 |x::l,h=>by
  rw[List.find?_cons,List.find?_cons,h x (by simp),find_congr (l:=l) λy hy=>h y (by simp[hy])]
def clsT(m:A9)(l:E1)(R:Row):Option (A2):=l.Short.find? λs=>decide (trow m l.X s=R)
def chX(m:A9)(u r f:A2)(a:Int)(v:A2):A2:=if outs m (dest m m.S.toNat (u++[a])) v=outs m (dest m m.S.toNat f) v then r++[a] else u++[a]
def chG(m:A9)(l:E1):A2->A2->A2->A4×A4
 |a::b::v,u,r =>
  if trow m l.X (u++[a])≠trow m l.X (r++[a]) then([],[])
  else match clsT m l (trow m l.X (u++[a])) with
   |none=>([],[])
   |some f=>(chX m u r f a (b::v)::(chG m l (b::v) (chX m u r f a (b::v)) f).1,(u++[a]++(b::v))::(f++(b::v))::(chG m l (b::v) (chX m u r f a (b::v)) f).2)
 |_,_,_=>([],[])
structure RefM(m:A9)(l:E1):Prop where
 H:J6 m
 inp:l.I=m.I
 val:aE l=0
 tab:N7 (lazT l)
 sing:∀a:Nat,(a:Int)<m.I->[(a:Int)]∈l.X
 pwk:∀p∈l.Short,WOk m.I p
 swk:∀e∈l.X,WOk m.I e
 cl:∀r∈l.Short,∀a:Nat,(a:Int)<m.I->∃s∈l.Short,trow m l.X s=trow m l.X (r++[(a:Int)])
structure RefO(m:A9)(l:E1)(o:A7):Prop where
 told:Q9 m o
 all:∀v∈bF m.I.toNat l.X l.Short,Kn o v
structure ChM(m:A9)(l:E1)(K:Nat)(v u r:A2):Prop where
 row:trow m l.X u=trow m l.X r
 rs:r∈l.Short
 tl:outs m (dest m m.S.toNat u) v≠outs m (dest m m.S.toNat r) v
 vw:WOk m.I v
 uw:WOk m.I u
 kp:∀p∈l.Short,p.length<=K
 ul:u.length<=K
 kv:K+v.length<=900
section
variable {m:A9}{l:E1}{o:A7}{K:Nat}
def ChM.two{v u r:A2}(C:ChM m l K v u r)(R:RefM m l):∃(a b:Int) (v':A2),v=a::b::v'/\0<=a/\a<m.I:=by
 match v,C with
 |[],C=>exact absurd rfl C.tl
 |[a],C =>
  have ha:=C.vw.head;have hs:=R.sing a.toNat (by omega);rw[show(a.toNat:Int)=a by omega]at hs;exact absurd (mJ C.row hs) C.tl
 |a::b::v',C=>exact⟨a,b,v',rfl,C.vw.head⟩
def ChM.step{a b:Int}{v u r:A2}(C:ChM m l K (a::b::v) u r)(R:RefM m l)(he:trow m l.X (u++[a])=trow m l.X (r++[a])) :
  ∃f,clsT m l (trow m l.X (u++[a]))=some f/\f∈l.Short/\trow m l.X f=trow m l.X (u++[a])/\ChM m l (K+1) (b::v) (chX m u r f a (b::v)) f:=by
 have ha:=C.vw.head;have ea:a=(a.toNat:Int):=by omega
 cases hf:clsT m l (trow m l.X (u++[a])) with
 |none =>
  exfalso;obtain⟨s,hs,h⟩:=R.cl r C.rs a.toNat (by omega);rw[<- ea]at h;exact qZ.1 hf s hs (E6 (h.trans he.symm))
 |some f =>
  have a3:f∈l.Short:=dR hf;have a4:trow m l.X f=trow m l.X (u++[a]):=of_decide_eq_true (lC (p:=λs=>decide (trow m l.X s=trow m l.X (u++[a]))) hf);have hs:=R.sing a.toNat (by omega);rw[<- ea]at hs;have a2:=mJ C.row hs;have a6:=C.tl;rw[eC (m:=m) (dest m m.S.toNat u) a (b::v),eC (m:=m) (dest m m.S.toNat r) a (b::v)]at a6;rw[eC (m:=m) (dest m m.S.toNat u) a [],eC (m:=m) (dest m m.S.toNat r) a []]at a2;have a8:ot m (dest m m.S.toNat u) a.toNat=ot m (dest m m.S.toNat r) a.toNat:=by injection a2
  have a5:outs m (dest m m.S.toNat (u++[a])) (b::v)≠outs m (dest m m.S.toNat (r++[a])) (b::v):=by
   rw[kR,kR];exact λe=>a6 (by rw[a8,e])
  have wa:WOk m.I [a]:=λx hx=>by rw[K4.1 hx];exact ha
  have a7:=C.kv;simp only[E9]at a7;have b2:=C.ul;have a9:=C.kp r C.rs;refine⟨f,rfl,a3,a4,?_⟩;unfold chX;split
  ·rename_i g;exact⟨by rw[a4,he],a3,λe=>a5 (by rw[g,e]),C.vw.tail,(R.pwk r C.rs).append wa,λp hp=>by have:=C.kp p hp;omega,by rw[D4,P3];omega,by simp only[E9];omega⟩
  ·rename_i g;exact⟨a4.symm,a3,g,C.vw.tail,C.uw.append wa,λp hp=>by have:=C.kp p hp;omega,by rw[D4,P3];omega,by simp only[E9];omega⟩
def chG_stop{a b:Int}{v u r:A2}(h:trow m l.X (u++[a])≠trow m l.X (r++[a])):chG m l (a::b::v) u r=([],[]):=by
 unfold chG;rw[if_pos h]
def chG_go{a b:Int}{v u r f:A2}(h:trow m l.X (u++[a])=trow m l.X (r++[a]))(hf:clsT m l (trow m l.X (u++[a]))=some f) :
  chG m l (a::b::v) u r=(chX m u r f a (b::v)::(chG m l (b::v) (chX m u r f a (b::v)) f).1,(u++[a]++(b::v))::(f++(b::v))::(chG m l (b::v) (chX m u r f a (b::v)) f).2):=by
 conv=>lhs;unfold chG
 rw[if_neg (λg=>g h),hf]
def chG_facts(R:RefM m l):∀(v u r:A2) (K:Nat),ChM m l K v u r ->
  (chG m l v u r).1.length+2<=v.length/\(chG m l v u r).2.length<=2*v.length /\
  (∀x∈(chG m l v u r).1,x.length<=K+v.length/\WOk m.I x/\∃y a,x=y++[a]/\(y∈l.Short\/y∈u::(chG m l v u r).1)) /\
  (∀x∈(chG m l v u r).2,x.length<=K+v.length/\WOk m.I x) /\
  mI m l.X (l.Short++u::(chG m l v u r).1)
 |[],u,r,K,C=>absurd rfl C.tl
 |[a],u,r,K,C=>by
  obtain⟨_,_,_,e,_⟩:=C.two R;cases e
 |a::b::v,u,r,K,C=>by
  have ha:=C.vw.head;have ea:a=(a.toNat:Int):=by omega
  by_cases g:trow m l.X (u++[a])=trow m l.X (r++[a])
  ·obtain⟨f,h1,h2,h3,h4⟩:=C.step R g;obtain⟨k1,k2,k3,k4,k5⟩:=chG_facts R (b::v) _ f (K+1) h4;rw[chG_go g h1];simp only[E9]at k1 k2 ⊢;have hx:(chX m u r f a (b::v)).length<=K+1:=h4.ul;refine⟨by omega,by omega,λx hx=>?_,λx hx=>?_,k5.mono λx hx=>?_⟩
   ·rcases H8.1 hx with e|e
    ·subst e;refine⟨by omega,h4.uw,?_⟩;unfold chX;split
     ·exact⟨r,a,rfl,.inl C.rs⟩
     ·exact⟨u,a,rfl,.inr (by simp)⟩
    ·obtain⟨q1,q2,y,c,q3,q4⟩:=k3 x e;refine⟨by simp only[E9]at q1;omega,q2,y,c,q3,?_⟩;rcases q4 with h|h
     ·exact .inl h
     ·exact .inr (K7 _ h)
   ·have a2:=C.vw.tail;have wa:WOk m.I [a]:=λx hx=>by rw[K4.1 hx];exact ha
    have:=C.ul;have:=C.kp f h2;rcases H8.1 hx with e|e
    ·subst e;exact⟨by simp only[D4,E9,L2];omega,(C.uw.append wa).append a2⟩
    ·rcases H8.1 e with e|e
     ·subst e;exact⟨by simp only[D4,E9];omega,(R.pwk f h2).append a2⟩
     ·obtain⟨q1,q2⟩:=k4 x e;exact⟨by simp only[E9]at q1;omega,q2⟩
   ·rcases I8.1 hx with h|h
    ·exact L5 _ h
    ·exact L3 _ (K7 _ h)
  ·rw[chG_stop g];refine⟨by simp,by simp,(λx hx=>by cases hx),(λx hx=>by cases hx),u,by simp,r,L5 _ C.rs,C.row,a.toNat,by omega,?_⟩;rw[<- ea];exact g
def RefO.rowS(O:RefO m l o){p:A2}(hp:p∈l.Short):rowO o p l.X=some (trow m l.X p):=(lR O.told.ex l.X).1 λe he=>O.all _ (dM.2 ⟨p,hp,p,qH _ p,e,he,rfl⟩)
def RefO.cls(O:RefO m l o)(X:Row):clsW l o X=clsT m l X:=find_congr λx hx=>by
 rw[O.rowS hx];exact decide_eq_decide.2 ⟨λh=>by injection h,λh=>by rw[h]⟩
def no_long{ws S:A4}(h:∀w∈ws,∀e∈S,(w++e).length<=1024):anyL ws S=false:=by
 unfold anyL O5;refine rF.2 λw hw=>?_;simp only[Bool.not_eq_true];refine rF.2 λe he=>?_;have:=h w hw e he;simp only[decide_eq_true_eq];omega
def wF{S ws:A4}(h:∀w∈ws,∀e∈S,(w++e).length<=1024):(T6 (O7 o ws S)=false/\∀w∈ws,L9 o w S=[]) \/
  (T6 (O7 o ws S)=true/\(O7 o ws S).2=0/\(O7 o ws S).1≠[]/\∀x∈(O7 o ws S).1,ansO o x=none/\∃w∈ws,∃e∈S,x=w++e):=by
 have hn:=no_long h;by_cases g:T6 (O7 o ws S)=true
 ·right;refine⟨g,?_,?_,λx hx=>?_⟩
  ·unfold O7;rw[hn];rfl
  ·unfold T6 O7 at g;rw[hn]at g;unfold O7;rw[hn];simpa using g
  ·unfold O7 at hx;rw[hn]at hx;obtain⟨w,hw,h2⟩:=O0.1 (vT hx);obtain⟨⟨e,he,h3⟩,h4⟩:=eD.1 h2;exact⟨h4,w,hw,e,he,h3⟩
 ·have g:T6 (O7 o ws S)=false:=by simpa using g
  exact .inl ⟨g,λw hw=>(lJ g w hw).2⟩
def chain_run(R:RefM m l)(O:RefO m l o):∀(v u r:A2) (A:A4) (K:Nat),ChM m l K v u r ->
  fC l o v u r A=(A++(chG m l v u r).1,[],0)\/∃W,fC l o v u r A=([],W,0)/\W≠[]/\∀x∈W,ansO o x=none/\(x∈(chG m l v u r).2\/∃y∈u::(chG m l v u r).1,∃a:Nat,(a:Int)<m.I/\∃e∈l.X,x=y++[(a:Int)]++e)
 |[],u,r,A,K,C=>absurd rfl C.tl
 |[a],u,r,A,K,C=>by
  obtain⟨_,_,_,e,_⟩:=C.two R;cases e
 |a::b::v,u,r,A,K,C=>by
  have ha:=C.vw.head;have ea:a=(a.toNat:Int):=by omega
  have a2:=C.kv;simp only[E9]at a2;have b3:=C.ul;have b2:=C.kp r C.rs;have a5:∀e∈l.X,e.length<=80:=R.tab.sw;rw[xG];have a8:L9 o (r++[a]) l.X=[]:=kn_miss O.told.ex λe he=>O.all _ (dM.2 ⟨r,C.rs,r++[a],by rw[ea];exact mV (by omega) r,e,he,rfl⟩)
  rcases wF (o:=o) (S:=l.X) (ws:=[u++[a],r++[a]]) (λw hw e he=>by
   have:=a5 e he
   rcases H8.1 hw with e|e
   ·rw[e];simp only[D4,E9,L2];omega
   ·rw[K4.1 e];simp only[D4,E9,L2];omega) with⟨g1,g2⟩|⟨g1,g2,g3,g4⟩
  ·rw[if_neg (by rw[g1];decide)];have a7:=mM O.told.ex (g2 (u++[a]) (by simp));have a6:=mM O.told.ex (g2 (r++[a]) (by simp));rw[(lR O.told.ex l.X).1 a7,(lR O.told.ex l.X).1 a6,N1,O.cls];by_cases g:trow m l.X (u++[a])=trow m l.X (r++[a])
   ·obtain⟨f,h1,h2,h3,h4⟩:=C.step R g;have a9:=C.kp f h2;rw[if_neg (λh=>h (by rw[g])),h1,chG_go g h1];simp only
    rcases wF (o:=o) (S:=[b::v]) (ws:=[u++[a],f]) (λw hw e he=>by
     rw[K4.1 he]
     rcases H8.1 hw with e|e
     ·rw[e];simp only[D4,E9,L2];omega
     ·rw[K4.1 e];simp only[D4,E9];omega) with⟨q1,q2⟩|⟨q1,q2,q3,q4⟩
    ·rw[if_neg (by rw[q1];decide)];have a3:Kn o (u++[a]++(b::v)):=mM O.told.ex (q2 (u++[a]) (by simp)) (b::v) (by simp);have a4:Kn o (f++(b::v)):=mM O.told.ex (q2 f (by simp)) (b::v) (by simp);rw[qN O.told.ex a3,qN O.told.ex a4];have hX:(if outs m (dest m m.S.toNat (u++[a])) (b::v)=outs m (dest m m.S.toNat f) (b::v) then r++[a] else u++[a])=chX m u r f a (b::v):=rfl;rw[hX];rcases chain_run R O (b::v) _ f (A++[chX m u r f a (b::v)]) (K+1) h4 with e|⟨W,e1,e2,e3⟩
     ·left;rw[e,Z9,DW]
     ·right;refine⟨W,e1,e2,λx hx=>?_⟩;obtain⟨k1,k2⟩:=e3 x hx;refine⟨k1,?_⟩;rcases k2 with h|⟨y,hy,h⟩
      ·exact .inl (K7 _ (K7 _ h))
      ·exact .inr ⟨y,K7 _ hy,h⟩
    ·right;rw[if_pos q1];refine⟨_,by rw[<- q2],q3,λx hx=>?_⟩;obtain⟨k1,w,hw,e,he,k2⟩:=q4 x hx;rw[K4.1 he]at k2;refine⟨k1,.inl ?_⟩;rcases H8.1 hw with h|h
     ·rw[k2,h];exact aR ..
     ·rw[k2,K4.1 h];exact K7 _ (aR ..)
   ·left;rw[if_pos (λh=>g (by injection h)),chG_stop g,V0]
  ·right;rw[if_pos g1];refine⟨_,by rw[<- g2],g3,λx hx=>?_⟩;obtain⟨k1,w,hw,e,he,k2⟩:=g4 x hx;refine⟨k1,.inr ⟨u,aR ..,a.toNat,by omega,e,he,?_⟩⟩;rw[<- ea];rcases H8.1 hw with h|h
   ·rw[k2,h]
   ·exfalso;rw[K4.1 h]at k2;have:x∈L9 o (r++[a]) l.X:=eD.2 ⟨⟨e,he,k2⟩,k1⟩;rw[a8]at this;cases this
end
end
section
abbrev upS(s:N5):A2:=s.Prefix++[s.Symbol]
def addS(m:A9)(l:E1)(s:N5)(f:A2):A4:=upS s::(chG m l s.Suffix (upS s) f).1
def askS(m:A9)(l:E1)(s:N5)(f:A2):A4:=(upS s++s.Suffix)::(f++s.Suffix)::(chG m l s.Suffix (upS s) f).2
def rowU(m:A9)(S:A4)(y:A2):A4:=(List.range m.I.toNat).flatMap λ(a:Nat)=>S.map λe=>y++[(a:Int)]++e
def allU(m:A9)(l:E1)(s:N5)(f:A2):A4:=askS m l s f++(addS m l s f).flatMap (rowU m l.X)
structure RefS(m:A9)(l:E1)(K:Nat)(s:N5)(f:A2):Prop where
 R:RefM m l
 q:s.Prefix∈l.Short
 a0:0<=s.Symbol
 a1:s.Symbol<m.I
 cls:clsT m l (trow m l.X (upS s))=some f
 ch:ChM m l K s.Suffix (upS s) f
 vl:s.Suffix.length<=24
 n4:m.I<=4
 p5:l.Short.length<=300
 s5:l.X.length<=15
 kl:K<=370
section
variable {m:A9}{l:E1}{o:A7}{K:Nat}{s:N5}{f:A2}
def RefS.v2(S:RefS m l K s f):2<=s.Suffix.length:=by
 obtain⟨a,b,v,e,_⟩:=S.ch.two S.R;rw[e];simp
def RefS.add_facts(S:RefS m l K s f):(addS m l s f).length+1<=s.Suffix.length/\(askS m l s f).length<=2+2*s.Suffix.length /\
  (∀x∈addS m l s f,x.length<=K+s.Suffix.length/\WOk m.I x/\∃y a,x=y++[a]/\(y∈l.Short\/y∈addS m l s f))/\(∀x∈askS m l s f,x.length<=K+s.Suffix.length/\WOk m.I x)/\mI m l.X (l.Short++addS m l s f):=by
 obtain⟨h1,h2,h3,h4,h5⟩:=chG_facts S.R s.Suffix (upS s) f K S.ch;have hu:=S.ch.ul;have hf:=S.ch.kp f S.ch.rs;refine⟨by unfold addS;rw[E9];omega,by unfold askS;simp only[E9];omega,λx hx=>?_,λx hx=>?_,h5⟩
 ·rcases H8.1 hx with e|e
  ·rw[e];exact⟨by omega,S.ch.uw,s.Prefix,s.Symbol,rfl,.inl S.q⟩
  ·exact h3 x e
 ·rcases H8.1 hx with e|e
  ·rw[e,D4];exact⟨by omega,S.ch.uw.append S.ch.vw⟩
  ·rcases H8.1 e with e|e
   ·rw[e,D4];exact⟨by omega,(S.R.pwk f S.ch.rs).append S.ch.vw⟩
   ·exact h4 x e
def mem_rowU{S:A4}{y x:A2}:x∈rowU m S y↔∃a:Nat,a<m.I.toNat/\∃e∈S,x=y++[(a:Int)]++e:=by
 unfold rowU;rw[O0];constructor
 ·rintro⟨a,ha,h⟩;obtain⟨e,he,h⟩:=D7.1 h;exact⟨a,M1.1 ha,e,he,h.symm⟩
 ·rintro⟨a,ha,e,he,h⟩;exact⟨a,M1.2 ha,D7.2 ⟨e,he,h.symm⟩⟩
def rowU_len(S:A4)(y:A2):(rowU m S y).length=m.I.toNat*S.length:=by
 unfold rowU;generalize m.I.toNat=n
 have:∀l:List Nat,(l.flatMap λ(a:Nat)=>S.map λe=>y++[(a:Int)]++e).length=l.length*S.length:=λl=>by
  induction l with
  |nil=>simp
  |cons a l ih=>rw[P0,D4,B6,ih,E9,iG];omega
 rw[this,Y6]
def RefS.all_len(S:RefS m l K s f):(allU m l s f).length<=50+60*23:=by
 obtain⟨h1,h2,_⟩:=S.add_facts;have hv:=S.vl;have a2:=S.s5;have hn:=S.n4;unfold allU;rw[D4]
 have:∀A:A4,(A.flatMap (rowU m l.X)).length<=60*A.length:=λA=>by
  induction A with
  |nil=>simp
  |cons y A ih =>
   rw[P0,D4,rowU_len,E9];have:m.I.toNat*l.X.length<=4*15:=jT (by omega) a2;omega
 have:=this (addS m l s f);omega
def RefS.all_chk(S:RefS m l K s f):∀x∈allU m l s f,I2 x m.I=0:=λx hx=>by
 obtain⟨h1,h2,h3,h4,_⟩:=S.add_facts;have hv:=S.vl;have hk:=S.kl;have i1:=S.R.H.i1;have i2:=S.R.H.i2;rcases I8.1 hx with h|h
 ·obtain⟨q1,q2⟩:=h4 x h;exact jH ⟨i1,by omega⟩ q2 (by omega)
 ·obtain⟨y,hy,h⟩:=O0.1 h;obtain⟨a,ha,e,he,rfl⟩:=mem_rowU.1 h;obtain⟨q1,q2,_⟩:=h3 y hy;have:=S.R.tab.sw e he;refine jH ⟨i1,by omega⟩ ((q2.append λz hz=>?_).append (S.R.swk e he)) (by simp only[D4,P3];omega);rw[K4.1 hz];omega
def RefS.valid(S:RefS m l K s f):aE (bT l (addS m l s f))=0:=by
 obtain⟨h1,_,h3,_,_⟩:=S.add_facts;obtain⟨a4,a5⟩:=nT S.R.val;obtain⟨a9,_,b7,b2,a3,_,_,b6⟩:=bI a4;obtain⟨b5,b4,a6,a7⟩:=Z5 a4;have hI:(lazT l).I=m.I:=S.R.inp;have hn:m.I<=4:=S.n4;have b8:=S.p5;have b3:=S.s5;have hv:=S.vl;have hk:=S.kl;have a8:=xM (l.Short++addS m l s f);rw[D4]at a8;have a2:∀z,z∈sortW (l.Short++addS m l s f)↔z∈l.Short\/z∈addS m l s f:=λz=>by rw[dL,I8]
 have h0:([]:A2)∈sortW (l.Short++addS m l s f):=(a2 _).2 (.inl a6)
 have hv:P5 ⟨l.I,sortW (l.Short++addS m l s f),l.X⟩=0:=by
  refine xK a9 (by show l.I<=4;rw[S.R.inp];exact hn) (List.ne_nil_of_mem h0) (by simp only;omega) (by simp only;omega) (R9 (jT (W7 5 (m:=330) (by simp only;omega)) (show l.X.length<=15 from b3)) (by decide)) (gO _) b2 (λz hz=>?_) (λz hz=>⟨(a7 z hz).1,(a7 z hz).2,by have:=S.R.tab.sw z hz;omega⟩) (λz hz h0=>?_) h0 a3
  ·rcases (a2 z).1 hz with h|h
   ·exact⟨b5 z h,by have:=S.ch.kp z h;omega⟩
   ·obtain⟨q1,q2,_⟩:=h3 z h;exact⟨jH ⟨a9,by show l.I<=1024;rw[S.R.inp];omega⟩ (by show WOk l.I z;rw[S.R.inp];exact q2) (by omega),by omega⟩
  ·rcases (a2 z).1 hz with h|h
   ·exact(a2 _).2 (.inl (b4 z h h0))
   ·obtain⟨_,_,y,a,e,q⟩:=h3 z h;refine(a2 _).2 ?_;rw[e,D4,P3,uY,CY];exact q
 exact pX hv a5
def ref_two(S:RefS m l K s f)(O:RefO m l o):gI l o s=(bT l (addS m l s f),[],0)\/∃W,gI l o s=(l,W,0)/\W≠[]/\∀x∈W,ansO o x=none/\x∈allU m l s f:=by
 have a5:chkL l o=0:=by
  unfold chkL;rw[if_neg (λh=>h S.R.val),if_neg (λh=>h (by rw[S.R.inp,O.told.inp]))]
 have i1:=S.R.H.i1;have i2:=S.R.H.i2;have a9:=S.kl;have b5:=S.vl;have a4:=S.v2;have b3:=S.ch.kp _ S.q;have b4:=S.ch.ul
 have a3:lN s l.I=0:=by
  have a0:=S.a0;have a1:=S.a1;unfold lN;rw[S.R.inp,jH ⟨i1,by omega⟩ (S.R.pwk _ S.q) (by omega),if_neg (λh=>h rfl),if_neg (by omega),if_neg (λe=>by rw[e]at a4;simp at a4)];exact jH ⟨i1,by omega⟩ S.ch.vw (by omega)
 have a2:L9 o (upS s) l.X=[]:=kn_miss O.told.ex λe he=>O.all _ (dM.2 ⟨s.Prefix,S.q,upS s,by
  have a0:=S.a0
  have a1:=S.a1
  unfold upS
  rw[show s.Symbol=(s.Symbol.toNat:Int) by omega]
  exact mV (by omega) _,e,he,rfl⟩)
 have key:refR l o (upS s) s.Suffix=(addS m l s f,[],0)\/∃W,refR l o (upS s) s.Suffix=([],W,0)/\W≠[]/\∀x∈W,ansO o x=none/\x∈allU m l s f:=by
  have a6:∀e∈l.X,e.length<=80:=S.R.tab.sw;unfold refR
  rcases wF (o:=o) (S:=l.X) (ws:=[upS s]) (λw hw e he=>by
   have:=a6 e he
   rw[K4.1 hw,D4];omega) with⟨g1,g2⟩|⟨g1,g2,g3,g4⟩
  ·rw[if_neg (by rw[g1];decide),(lR O.told.ex l.X).1 (mM O.told.ex a2),N1,O.cls,S.cls];simp only;have b2:=S.ch.kp f S.ch.rs
   rcases wF (o:=o) (S:=[s.Suffix]) (ws:=[upS s,f]) (λw hw e he=>by
    rw[K4.1 he]
    rcases H8.1 hw with e|e
    ·rw[e,D4];omega
    ·rw[K4.1 e,D4];omega) with⟨q1,q2⟩|⟨q1,q2,q3,q4⟩
   ·have a7:Kn o (upS s++s.Suffix):=mM O.told.ex (q2 (upS s) (by simp)) s.Suffix (by simp);have a8:Kn o (f++s.Suffix):=mM O.told.ex (q2 f (by simp)) s.Suffix (by simp);rw[if_neg (by rw[q1];decide),qN O.told.ex a7,qN O.told.ex a8,if_neg S.ch.tl];rcases chain_run S.R O s.Suffix (upS s) f [upS s] K S.ch with e|⟨W,e1,e2,e3⟩
    ·left;rw[e,DW];rfl
    ·right;refine⟨W,e1,e2,λx hx=>?_⟩;obtain⟨k1,k2⟩:=e3 x hx;refine⟨k1,I8.2 ?_⟩;rcases k2 with h|⟨y,hy,a,ha,e,he,h⟩
     ·exact .inl (K7 _ (K7 _ h))
     ·exact .inr (O0.2 ⟨y,hy,mem_rowU.2 ⟨a,by omega,e,he,h⟩⟩)
   ·right;rw[if_pos q1];refine⟨_,by rw[<- q2],q3,λx hx=>?_⟩;obtain⟨k1,w,hw,e,he,k2⟩:=q4 x hx;rw[K4.1 he]at k2;refine⟨k1,L5 _ ?_⟩;rcases H8.1 hw with h|h
    ·rw[k2,h];exact aR ..
    ·rw[k2,K4.1 h];exact K7 _ (aR ..)
  ·exfalso;obtain⟨x,hx⟩:=KE _ g3;obtain⟨k1,w,hw,e,he,k2⟩:=g4 x hx;rw[K4.1 hw]at k2;have:x∈L9 o (upS s) l.X:=eD.2 ⟨⟨e,he,k2⟩,k1⟩;rw[a2]at this;cases this
 unfold gI;rw[if_neg (λh=>h a5),if_neg (λh=>h a3)];rcases key with e|⟨W,e1,e2,e3⟩
 ·left;rw[show s.Prefix++[s.Symbol]=upS s from rfl,e];have:T6 (([]:A4),(0:Int))=false:=by decide
  simp only;rw[this,if_neg aA,if_neg (λh=>h S.valid)]
 ·right;refine⟨W,?_,e2,e3⟩;rw[show s.Prefix++[s.Symbol]=upS s from rfl,e1];have:T6 (W,(0:Int))=true:=by unfold T6;simp[e2]
  simp only;rw[this,if_pos rfl]
def nxR(m:A9)(l:E1)(s:N5)(o:A7):Option A7:=if(gI l o s).2.1≠[] then some (M5 m o (gI l o s).2.1) else none
def muR(F:A4)(o:A7):Nat:=(F.filter λx=>decide (ansO o x=none)).length
structure RefT(m:A9)(l:E1)(s:N5)(f:A2)(I0:A4)(o:A7):Prop where
 O:RefO m l o
 cs:∀t∈o.T,t.In∈I0\/t.In∈allU m l s f
variable {I0:A4}
def RefT.one(S:RefS m l K s f)(T:RefT m l s f I0 o)(hI:I0.length+1430<=10000){W:A4}(hne:W≠[])(hW:∀x∈W,ansO o x=none/\x∈allU m l s f) :
  (M5 m o W).T.length<=10000/\RefT m l s f I0 (M5 m o W)/\muR (allU m l s f) (M5 m o W)<muR (allU m l s f) o:=by
 have hF:=S.all_len;have hc:∀z∈W,I2 z m.I=0:=λz hz=>S.all_chk z (hW z hz).2
 have cs:∀t∈(M5 m o W).T,t.In∈I0\/t.In∈allU m l s f:=λt ht=>by
  rcases pW _ _ ht with h|h
  ·exact T.cs t h
  ·exact .inr (hW _ h).2
 have hl:(M5 m o W).T.length<=10000:=by
  have:=trs_len (wE W o T.O.told.ok.trs) (k:=I0++allU m l s f) λt ht=>I8.2 (cs t ht);rw[D4]at this;omega
 have T':=sR S.R.H W o T.O.told hc hl;refine⟨hl,⟨⟨T',λv hv=>(mQ _ _).2 (.inl (T.O.all v hv))⟩,cs⟩,?_⟩;obtain⟨x,hx⟩:=KE _ hne;unfold muR;refine Nat.lt_of_succ_le ((AQ λy _ hy=>?_).2 ⟨x,(hW x hx).2,E6 (hW x hx).1,I3 λg=>(iT T').1 g ((mQ _ _).2 (.inr ⟨x,hx,eQ _⟩))⟩);have hy:=of_decide_eq_true hy;exact E6 ((iT T.O.told).2 λg=>(iT T').1 hy ((mQ _ _).2 (.inl g)))
def RefT.step(S:RefS m l K s f)(hI:I0.length+1430<=10000):∀o p,RefT m l s f I0 o->nxR m l s o=some p->RefT m l s f I0 p/\muR (allU m l s f) p<muR (allU m l s f) o:=λo p T hn=>by
 unfold nxR at hn;rcases ref_two S T.O with e|⟨W,e1,e2,e3⟩
 ·rw[e]at hn;rw[if_neg (λh=>h rfl)]at hn;cases hn
 ·rw[e1]at hn;simp only at hn;rw[if_pos e2]at hn;injection hn with hn
  rw[<- hn];exact(RefT.one S T hI e2 e3).2
def muR_le(S:RefS m l K s f):muR (allU m l s f) o<=1430:=by
 have:=oH (λx=>decide (ansO o x=none)) (allU m l s f);have:=S.all_len;unfold muR;omega
def ref_end(S:RefS m l K s f)(hI:I0.length+1430<=10000)(T:RefT m l s f I0 o):RefT m l s f I0 (runO (nxR m l s) 1500 o):=(runO_inv (RefT.step S hI) 1500 o T (by have:=muR_le (o:=o) S;omega)).1
def prog_ref(hv:S4 m=0)(S:RefS m l K s f)(hI:I0.length+1430<=10000)(T:RefT m l s f I0 o) :
  iter (λ(x:Int×List B0)=>X3.s3 l m s.Prefix s.Symbol s.Suffix x.1 x.2) fuel (o.I,o.T)=some (bT l (addS m l s f),runO (nxR m l s) 1500 o,0):=by
 have hm:=muR_le (o:=o) S;have hk:=S.kl;have a4:=S.ch.kp _ S.q;have a3:=S.vl;have hF:=S.all_len;refine zA (st:=λo=>(o.I,o.T)) (fin:=λo=>(bT l (addS m l s f),o,(0:Int))) (RefT.step S hI) (λo T hn=>?_) (λo p T hn=>?_) 1500 fuel o T (by omega) (by have:=U7;omega)
 all_goals
  simp only;unfold X3.s3;rw[show(⟨o.I,o.T⟩:A7)=o from rfl,show(⟨s.Prefix,s.Symbol,s.Suffix⟩:N5)=s from rfl,zyu T.O.told.smR T.O.told.ok S.R.tab (show s.Prefix.length<=_ by omega) (show s.Suffix.length<=_ by omega),A6];unfold nxR at hn;rcases ref_two S T.O with e|⟨W,e1,e2,e3⟩
 ·rw[e];rfl
 ·rw[e1]at hn;simp only at hn;rw[if_pos e2]at hn;cases hn
 ·rw[e]at hn;rw[if_neg (λh=>h rfl)]at hn;cases hn
 ·obtain⟨k1,k2,_⟩:=RefT.one S T hI e2 e3;rw[e1]at hn ⊢;simp only at hn ⊢;rw[if_pos e2]at hn;injection hn with hn
  subst hn;have hW:=pos_len e2
  have a2:W.length<=2000000:=by
   have:=(refineL_ok (o:=o) S.R.tab (s:=s)).2.2.1;rw[e1]at this;exact R9 this (by decide)
  rw[B4 (by decide),I3 (by omega),A6,G0,tU hv T.O.told (λz hz=>S.all_chk z (e3 z hz).2) a2 k1,A6];rfl
end
end
section
section
variable {m:A9}{t:C6}{o:A7}{w:A2}
def first_of{r:Row}(hr:r∈M2 t o):∃p,(hypT t o).Access[pos r (M2 t o)]?=some p/\t.P.find? (λs=>decide (rowG t o s=r))=some p:=by
 obtain⟨i,h1,h2,h3,h4⟩:=rep_of hr;refine⟨O8 t i,?_,?_⟩
 ·show((fstI (Q0 t o) t.P.length).map (O8 t))[pos r (M2 t o)]?=_;rw[I9,h1];rfl
 ·have hn:newAt (Q0 t o) i=true:=(eO.1 (H0 h1)).2;have hp:O8 t i=t.P[i]:=by unfold O8;rw[get_at h2];rfl
  rw[List.find?_eq_some_iff_getElem];refine⟨E6 h4,i,h2,hp.symm,λj hj=>?_⟩;rw[oF,decide_eq_false_iff_not];intro e;unfold newAt Q0 at hn;rw[I9,get_at h2]at hn;have hn:=of_decide_eq_true hn;refine hn ?_;rw[<- hp,h4,<- e];refine P1.2 ⟨j,by rw[H6,B6];omega,?_⟩;rw[List.getElem_take,DC]
def hyp_fnd(HO:H5 t o)(T:Q9 m o)(H:J6 m)(hI:t.I=m.I)(hw:WOk m.I w)(hl:w.length<=24)(hne:Sym.outs (hypT t o).M 0 w≠Sym.outs m m.S.toNat w):FndS m (hypT t o) w:=by
 refine⟨H,HO.mac,rfl,λs hs=>?_,HO.acc0,HO.valid_prog,HO.valid22,hI,hw,hl,hne⟩;obtain⟨q,h1,h2,h3,h4,_,h6⟩:=HO.acc hs;refine⟨q,h2,h6,by rw[<- hI];exact h4,λa ha=>?_⟩;have:=HO.ot_t T h1 (a:=a) (by rw[hI];exact ha);rw[<- this,<- h3,(HO.walk _ q rfl h1).2]
def compT_need(hz:V8 t o=0):L6 o t t.P=[]:=by
 unfold V8 at hz;split at hz
 ·rename_i g;exact absurd hz g
 ·split at hz
  ·assumption
  ·cases hz
def cells_known(HO:H5 t o)(T:Q9 m o):∀v∈bF t.I.toNat t.X t.P,Kn o v:=λv hv=>S1 λh=>by
 have:=yY.2 ⟨hv,(iT T).2 h⟩;rw[compT_need HO.hz]at this;cases this
def split_ref{l:E1}{i B:Nat}(HO:H5 (lazT l) o)(T:Q9 m o)(F:FndS m (hypT (lazT l) o) w)(hI:l.I=m.I)(hv:aE l=0)(hi:i<w.length)
  (e1:Sym.outs m (dest m m.S.toNat (acW (hypT (lazT l) o) w i)) (w.drop i)≠Sym.outs (hypT (lazT l) o).M (stW (hypT (lazT l) o) w i) (w.drop i))
  (e2:Sym.outs m (dest m m.S.toNat (acW (hypT (lazT l) o) w (i+1))) (w.drop (i+1))=Sym.outs (hypT (lazT l) o).M (stW (hypT (lazT l) o) w (i+1)) (w.drop (i+1)))
  (hB:∀p∈l.Short,p.length<=B) (hB2:B<=369) (hn4:m.I<=4) (hp:l.Short.length<=300) (hs:l.X.length<=15) :
  RefS m l (B+1) ⟨acW (hypT (lazT l) o) w i,(w[i]?).getD 0,w.drop (i+1)⟩ (acW (hypT (lazT l) o) w (i+1)):=by
 have a2:(lazT l).I=m.I:=hI;have c6:(hypT (lazT l) o).M.I=m.I:=hI;have hH:=F.H;have b9:=F.wl;obtain⟨b7,_,_,b5⟩:=Z5 (nT hv).1;obtain⟨_,_,_,_,a6,_,_,_⟩:=bI (nT hv).1;have hw:=F.wk _ (J3 hi);obtain⟨a,ha⟩:=oI hw.1;have a5:w[i]?=some (a:Int):=by rw[get_at hi,ha]
 have a3:a<m.I.toNat:=by omega
 have hd:w.drop i=(a:Int)::w.drop (i+1):=by rw[cV hi,ha]
 obtain⟨q,q1,q2,q3,_⟩:=HO.acc (F.stl i);obtain⟨k1,k2,k3,k4⟩:=F.ac i
 have eq:q=acW (hypT (lazT l) o) w i:=by
  rw[k1]at q2;injection q2 with q2
  exact q2.symm
 rw[eq]at q1 q3;have b2:stt (lazT l) o (acW (hypT (lazT l) o) w i)=stW (hypT (lazT l) o) w i:=by rw[<- (HO.walk _ _ rfl q1).2,q3]
 have a7:=HO.nx_t T q1 (a:=a) (by rw[a2];exact a3);rw[b2,<- st_succ a5]at a7;have a9:=HO.ext_t T q1 (a:=a) (by rw[a2];exact a3);have b3:=HO.closed q1 (a:=a) (by rw[a2];exact a3);rw[a9]at b3;obtain⟨p,p1,p2⟩:=first_of b3;rw[<- a7]at p1;obtain⟨k5,_⟩:=F.ac (i+1)
 have ep:p=acW (hypT (lazT l) o) w (i+1):=by
  rw[k5]at p1;injection p1 with p1
  exact p1.symm
 rw[ep]at p2
 have a4:clsT m l (trow m l.X (acW (hypT (lazT l) o) w i++[(a:Int)]))=some (acW (hypT (lazT l) o) w (i+1)):=by
  rw[<- p2];unfold clsT;refine find_congr λs hs=>?_;have:=HO.row_t T (p:=s) hs;rw[this];rfl
 have b8:acW (hypT (lazT l) o) w (i+1)∈l.Short:=dR a4;have b6:=of_decide_eq_true (lC (p:=λs=>decide (trow m l.X s=trow m l.X (acW (hypT (lazT l) o) w i++[(a:Int)]))) a4);have wa:WOk m.I [(a:Int)]:=λx hx=>by rw[K4.1 hx];omega
 have a8:acW (hypT (lazT l) o) w i∈l.Short:=q1;have c0:=hB _ a8;have eg:(w[i]?).getD 0=(a:Int):=by rw[a5];rfl
 rw[eg]
 have b4:∀p∈l.Short,WOk m.I p:=λp hp=>by
  have:=W5 (b7 p hp);rw[a2]at this;exact this
 refine⟨⟨hH,hI,hv,HO.ht,λb hb=>a6 b (M1.2 (by rw[a2];omega)),b4,λe he=>?_,λr hr b hb=>?_⟩,a8,by simp only;omega,by simp only;omega,a4,⟨b6.symm,b8,?_,λx hx=>F.wk x (U3 hx),k3.append wa,λp hp=>by have:=hB p hp;omega,by rw[D4,P3];simp only;omega,by simp only[M0];omega⟩,by simp only[M0];omega,hn4,hp,hs,by omega⟩
 ·have:=W5 (b5 e he).1;rw[a2]at this;exact this
 ·obtain⟨q,hq,e,_⟩:=HO.rep (p:=r) hr (a:=b) (by rw[a2];omega);rw[HO.row_t T hq,HO.ext_t T (p:=r) hr (by rw[a2];omega)]at e;exact⟨q,hq,e⟩
 ·simp only;rw[e2,st_succ a5,kR,O3];intro e;apply e1;rw[hd,eC,eC,O3,k4 a a3,e]
end
section
variable {m:A9}{l:E1}{o:A7}{w:A2}{h:I6}{K:Nat}
def o2L(m:A9)(h:I6)(o:A7)(w:A2):A7:=runO (nxF m h w) 25 (M5 m o [w])
def spL(m:A9)(h:I6)(o:A7)(w:A2):N5:=(Q7 h (o2L m h o w) w).1
def o3L(m:A9)(l:E1)(h:I6)(o:A7)(w:A2):A7:=runO (nxR m l (spL m h o w)) 1500 (o2L m h o w)
def ctxC(m:A9)(l:E1)(h:I6)(o:A7)(w f:A2):A4:=w::(List.range w.length).map (qW h w)++askS m l (spL m h o w) f
structure CtxIn(m:A9)(l:E1)(h:I6)(o:A7)(w:A2):Prop where
 F:FndS m h w
 T:Q9 m o
 all:∀v∈bF m.I.toNat l.X l.Short,Kn o v
 num:o.T.length<=8500
 ref:∀i,i<w.length->Sym.outs m (dest m m.S.toNat (acW h w i)) (w.drop i)≠Sym.outs h.M (stW h w i) (w.drop i)->Sym.outs m (dest m m.S.toNat (acW h w (i+1))) (w.drop (i+1))=Sym.outs h.M (stW h w (i+1)) (w.drop (i+1)) ->
  RefS m l K ⟨acW h w i,(w[i]?).getD 0,w.drop (i+1)⟩ (acW h w (i+1))
end
end
section
def kn_run{nx:A7->Option A7}(h:∀o p,nx o=some p->∀v,Kn o v->Kn p v):∀n o v,Kn o v->Kn (runO nx n o) v
 |0,_,_,hk=>hk
 |n+1,o,v,hk=>by
  unfold runO;cases e:nx o with
  |none=>exact hk
  |some p=>exact kn_run h n p v (h o p e v hk)
section
variable {m:A9}{l:E1}{o:A7}{w:A2}{h:I6}{K:Nat}
def nxF_kn:∀o p,nxF m h w o=some p->∀v,Kn o v->Kn p v:=λo p hn v hk=>by
 unfold nxF at hn;split at hn
 ·injection hn with hn
  rw[<- hn];exact(mQ _ _).2 (.inl hk)
 ·cases hn
def told_len(F:FndS m h w)(hN:o.T.length+1<=10000):(M5 m o [w]).T.length<=10000:=by
 have:=FJ o.T (tr m w);show(addL o.T (tr m w)).length<=10000;omega
def FndO.start{I0:A4}(F:FndS m h w)(T:Q9 m o)(hI:∀t∈o.T,t.In∈I0)(hN:o.T.length+1<=10000):FndO m h w (w::I0) (M5 m o [w]):=by
 refine⟨sR F.H [w] o T (λz hz=>by rw[K4.1 hz];exact F.chk) (told_len F hN),(rS _ _).2 (.inr (eQ _)),λt ht=>.inl ?_⟩;rcases pW _ _ ht with h|h
 ·exact K7 _ (hI t h)
 ·rw[K4.1 h];exact aR ..
structure CtxR(m:A9)(l:E1)(h:I6)(o:A7)(w:A2)(K:Nat)(f:A2):Prop where
 fnd:Q7 h (o2L m h o w) w=(spL m h o w,[],0)
 O1:FndO m h w (w::o.T.map λt=>t.In) (M5 m o [w])
 O2:FndO m h w (w::o.T.map λt=>t.In) (o2L m h o w)
 S:RefS m l K (spL m h o w) f
 I1:((o2L m h o w).T.map λt=>t.In).length+1430<=10000
 T2:RefT m l (spL m h o w) f ((o2L m h o w).T.map λt=>t.In) (o2L m h o w)
 T3:RefT m l (spL m h o w) f ((o2L m h o w).T.map λt=>t.In) (o3L m l h o w)
 vl:(spL m h o w).Suffix.length+1<=w.length
def ctx_run(C:CtxIn (K:=K) m l h o w):∃f,CtxR m l h o w K f:=by
 have F:=C.F;have a4:=C.num;have a6:=F.wl;have O1:=FndO.start (I0:=o.T.map λt=>t.In) F C.T (λt ht=>D7.2 ⟨t,ht,rfl⟩) (by omega);have hI:(w::o.T.map λt=>t.In).length+25<=10000:=by rw[E9,B6];omega
 obtain⟨O2,i,h1,h2,h3,h4⟩:=find_end F hI O1
 have a2:spL m h o w=⟨acW h w i,(w[i]?).getD 0,w.drop (i+1)⟩:=by
  unfold spL o2L;rw[h2]
 have S:=C.ref i h1 h3 h4;rw[<- a2]at S
 have a5:(o2L m h o w).T.length<=8525:=by
  have:=trs_len O2.told.ok.trs (k:=(w::o.T.map λt=>t.In)++(List.range w.length).map (qW h w)) λt ht=>by
   rcases O2.cs t ht with h|⟨i,hi,h⟩
   ·exact L5 _ h
   ·exact L3 _ (D7.2 ⟨i,M1.2 hi,h.symm⟩)
  rw[D4,E9,B6,B6,Y6]at this;unfold o2L;omega
 have a3:((o2L m h o w).T.map λt=>t.In).length+1430<=10000:=by rw[B6];omega
 have T2:RefT m l (spL m h o w) (acW h w (i+1)) ((o2L m h o w).T.map λt=>t.In) (o2L m h o w):=⟨⟨O2.told,λv hv=>kn_run nxF_kn 25 _ v ((rS _ _).2 (.inl (C.all v hv)))⟩,λt ht=>.inl (D7.2 ⟨t,ht,rfl⟩)⟩;refine⟨acW h w (i+1),?_,O1,O2,S,a3,T2,ref_end S a3 T2,?_⟩
 ·rw[a2];exact h2
 ·rw[a2];simp only[M0];omega
variable {f:A2}
def CtxR.ins(R:CtxR m l h o w K f):∀t∈(o3L m l h o w).T,(∃u∈o.T,t.In=u.In)\/t.In∈ctxC m l h o w f\/∃y∈addS m l (spL m h o w) f,t.In∈rowU m l.X y:=λt ht=>by
 rcases R.T3.cs t ht with h1|h1
 ·obtain⟨u,hu,e⟩:=D7.1 h1;rw[<- e];rcases R.O2.cs u hu with h2|⟨i,hi,h2⟩
  ·rcases H8.1 h2 with h3|h3
   ·exact .inr (.inl (by rw[h3];exact L5 _ (aR ..)))
   ·obtain⟨v,hv,h3⟩:=D7.1 h3;exact .inl ⟨v,hv,h3.symm⟩
  ·exact .inr (.inl (by rw[h2];exact L5 _ (K7 _ (D7.2 ⟨i,M1.2 hi,rfl⟩))))
 ·rcases I8.1 h1 with h2|h2
  ·exact .inr (.inl (L3 _ h2))
  ·obtain⟨y,hy,h3⟩:=O0.1 h2;exact .inr (.inr ⟨y,hy,h3⟩)
def CtxR.ctxC_len(R:CtxR m l h o w K f)(hw:w.length<=24):(ctxC m l h o w f).length<=75:=by
 obtain⟨_,h2,_⟩:=R.S.add_facts;have:=R.vl;unfold ctxC;rw[D4,E9,B6,Y6];omega
def zwi(hv:S4 m=0)(F:FndS m h w)(T:Q9 m o)(hN:o.T.length<=8500)(R:CtxR m l h o w K f):X3 l o m h w=some (bT l (addS m l (spL m h o w) f),o3L m l h o w,0):=by
 have hI:(w::o.T.map λt=>t.In).length+25<=10000:=by rw[E9,B6];omega
 have e2:runO (nxF m h w) 25 (M5 m o [w])=o2L m h o w:=rfl;unfold X3;rw[tU hv T (λz hz=>by rw[K4.1 hz];exact F.chk) (by simp) (told_len F (by omega)),A6];simp only;rw[B4 (by decide),IR (F.fnd R.O1),A6,prog_find hv F hI R.O1,A6];simp only[cS];rw[e2,R.fnd];unfold X3.k4;simp only;rw[B4 (by decide)];exact prog_ref hv R.S R.I1 R.T2
end
end
section
def EE{V:Type}(p:V->Bool):∀l:List V,(l.filter p).length+(l.filter λx=>!p x).length=l.length
 |[]=>rfl
 |x::l=>by
  have:=EE p l;cases h:p x with
  |true=>rw[vC h,yQ (by simp[h]),E9,E9];omega
  |false=>rw[yQ (by simp[h]),vC (by simp[h]),E9,E9];omega
def nextW(n:Nat)(P:A4):A4:=P.flatMap λp=>(List.range n).map λ(a:Nat)=>p++[(a:Int)]
def nextW_len(n:Nat):∀P:A4,(nextW n P).length=n*P.length
 |[]=>rfl
 |p::P=>by
  have:=nextW_len n P;unfold nextW at this ⊢;rw[P0,D4,B6,Y6,this,E9,Nat.mul_succ];omega
def extN(n:Nat)(P:A4):A4:=(nextW n P).filter λw=>!decide (w∈P)
def mem_next{n:Nat}{P:A4}{p:A2}{a:Nat}(hp:p∈P)(ha:a<n):p++[(a:Int)]∈nextW n P:=O0.2 ⟨p,hp,D7.2 ⟨a,M1.2 ha,rfl⟩⟩
def extN_len{n:Nat}{P:A4}(hnd:P.Nodup)(hcl:∀w∈P,0<w.length->w.take (w.length-1)∈P)(hw:∀w∈P,∀x∈w,(0:Int)<=x/\x<n):(extN n P).length+P.length<=n*P.length+1:=by
 have h1:=EE (λw=>decide (w∈P)) (nextW n P)
 have h2:P.length<=([]::(nextW n P).filter λw=>decide (w∈P)).length:=mZ hnd λw h=>by
  rcases uZ w with e|⟨v,x,e⟩
  ·rw[e];simp
  ·rw[yM]at e;have hv:=hcl w h (by rw[e];simp);rw[e,D4,P3,uY,List.take_left' rfl]at hv;have hx:=hw w h x (by rw[e];simp);obtain⟨a,rfl⟩:=oI hx.1;refine K7 _ (eO.2 ⟨by rw[e];exact mem_next hv (by omega),by simp[h]⟩)
 rw[E9]at h2;rw[nextW_len]at h1;unfold extN;omega
section
variable {m:A9}{t:C6}{o:A7}{c x:Nat}{g:Bool}{C:A4}
def cell_walk{n:Nat}{P S:A4}(hS:∀e∈S,e.drop 1∈S\/e.drop 1=[])(hw:∀e∈S,∀y∈e,(0:Int)<=y/\y<n):∀(e w:A2),e∈S\/e=[]->w∈P\/w∈extN n P->w++e∈P\/w++e∈extN n P\/∃v∈extN n P,∃f∈S,v++f=w++e
 |[],w,_,h=>by
  rw[V0];rcases h with h|h
  ·exact .inl h
  ·exact .inr (.inl h)
 |a::e,w,he,h=>by
  have he:a::e∈S:=by
   rcases he with h|h
   ·exact h
   ·cases h
  rcases h with h|h
  ·have ha:=hw _ he a (by simp);obtain⟨a,rfl⟩:=oI ha.1
   have h1:w++[(a:Int)]∈P\/w++[(a:Int)]∈extN n P:=by
    by_cases g:w++[(a:Int)]∈P
    ·exact .inl g
    ·exact .inr (eO.2 ⟨mem_next h (by omega),by simp[g]⟩)
   have:=cell_walk hS hw e (w++[(a:Int)]) (hS _ he) h1;rw[Z9,DW]at this;exact this
  ·exact .inr (.inr ⟨w,h,_,he,rfl⟩)
def traces_le(hT:dX o.T)(hval:P5 t=0)(hS:∀e∈t.X,e.drop 1∈t.X\/e.drop 1=[])(hcs:∀u∈o.T,u.In∈C\/u.In∈bF t.I.toNat t.X t.P)
  (hk:∀v∈bF t.I.toNat t.X t.P,Kn o v):o.T.length<=C.length+(extN t.I.toNat t.P).length*t.X.length:=by
 obtain⟨a9,_,_,_,a3,_,_,_⟩:=bI hval;obtain⟨a7,a8,b2,a6⟩:=Z5 hval
 have a5:(o.T.map λu=>u.In).Nodup:=by
  unfold List.Nodup;rw[rG]
  exact hT.asc.imp λ{a b} h e=>by
   rw[e,dJ]at h;cases h
 have h0:[(0:Int)]∈t.X:=a3 0 (M1.2 (by omega))
 -- what follows is known too
 have a2:∀u∈o.T,(∃p∈t.P,u.In∈T1 t.I.toNat p)->False:=λu hu ⟨p,hp,h⟩=>by
  rcases hk (u.In++[(0:Int)]) (dM.2 ⟨p,hp,_,h,_,h0,rfl⟩) with e|⟨u',hu',hpre⟩
  ·simp at e
  ·have:=hT.one hu hu' ((DL _ _).trans hpre);subst this;have:=hpre.length_le;rw[D4,P3]at this;omega
 have:=mZ (k:=C++(extN t.I.toNat t.P).flatMap λw=>t.X.map λe=>w++e) a5 λv hv=>by
  obtain⟨u,hu,rfl⟩:=D7.1 hv;rcases hcs u hu with h|h
  ·exact L5 _ h
  ·refine L3 _ ?_;obtain⟨p,hp,w,hw,e,he,h⟩:=dM.1 h
   have a4:w∈t.P\/w∈extN t.I.toNat t.P:=by
    unfold T1 at hw;rcases H8.1 hw with rfl|hw
    ·exact .inl hp
    ·obtain⟨a,ha,rfl⟩:=D7.1 hw;by_cases g:p++[(a:Int)]∈t.P
     ·exact .inl g
     ·exact .inr (eO.2 ⟨mem_next hp (M1.1 ha),by simp[g]⟩)
   rcases cell_walk hS (λe he y hy=>by have:=W5 (a6 e he).1 y hy;omega) e w (.inl he) a4 with h3|h3|⟨v,hv,f,hf,h3⟩
   ·rw[h]at h3;exact(a2 u hu ⟨_,h3,qH _ _⟩).elim
   ·rw[h]at h3;obtain⟨q,hq,h4⟩:=O0.1 (eO.1 h3).1;obtain⟨a,ha,h5⟩:=D7.1 h4;exact(a2 u hu ⟨q,hq,by rw[<- h5];exact mV (M1.1 ha) q⟩).elim
   ·rw[h]at h3;exact O0.2 ⟨v,hv,D7.2 ⟨f,hf,h3⟩⟩
 rw[B6,D4]at this
 have e:∀l:A4,(l.flatMap λw=>t.X.map λe=>w++e).length=l.length*t.X.length:=λl=>by
  induction l with
  |nil=>simp
  |cons y l ih=>rw[P0,D4,B6,ih,E9,iG];omega
 rw[e]at this;exact this
def tri:Nat->Nat
 |0=>0
 |k+1=>tri k+(k+13)
structure RunL(m:A9)(t:C6)(o:A7)(mode:Int)(c x:Nat)(g:Bool):Prop where
 J:RunI m t o c x g
 m0:mode=0->t.P.length<=1+x+tri (kT m t-(if g=true then 0 else 1))/\t.X.length<=4+x
 m1:mode=1->t.P.length<=1+x/\t.X.length<=4+x+tri (kT m t-(if g=true then 0 else 1))
 g11:g=true->kT m t<=11
 cs:∃C:A4,C.length<=c/\∀u∈o.T,u.In∈C\/u.In∈bF t.I.toNat t.X t.P
end
end
section
abbrev kL(m:A9)(l:E1):Nat:=kN m l.X l.Short
def tri2:Nat->Nat
 |0=>0
 |k+1=>tri2 k+(k+12)
def pS:∀{b a:Nat},a<=b->tri2 a<=tri2 b
 |0,a,h=>by rw[Nat.le_zero.1 h];exact G4 _
 |b+1,a,h=>by
  rcases Nat.lt_or_eq_of_le h with h|h
  ·have:=pS (b:=b) (a:=a) (by omega);show tri2 a<=tri2 b+(b+12);omega
  ·rw[h];exact G4 _
structure LzI(m:A9)(l:E1)(o:A7)(c x:Nat)(g:Bool):Prop where
 told:Q9 m o
 val:aE l=0
 inp:l.I=m.I
 pl:l.Short.length<=1+x+tri2 (kL m l-(if g=true then 0 else 1))
 sl:l.X.length<=4+x
 pw:∀p∈l.Short,p.length<=25+x+25*c
 sw:∀e∈l.X,e.length<=25+x
 k1:1+x<=kL m l
 k2:c+(if g=true then 0 else 1)<=kL m l
 gh:g=true->mI m l.X l.Short
 cs:∃C:A4,C.length<=75*c/\∀u∈o.T,u.In∈C\/u.In∈bF m.I.toNat l.X l.Short
section
variable {m:A9}{l:E1}{o:A7}{c x:Nat}{g:Bool}
def LzI.wok(J:LzI m l o c x g):∀p∈l.Short,WOk m.I p:=λp hp=>by
 have:=(Z5 (nT J.val).1).1 p hp;rw[show(lazT l).I=m.I from J.inp]at this;exact W5 this
def LzI.swok(J:LzI m l o c x g):∀p∈l.X,WOk m.I p:=λp hp=>by
 have:=((Z5 (nT J.val).1).2.2.2 p hp).1;rw[show(lazT l).I=m.I from J.inp]at this;exact W5 this
def LzI.suf(J:LzI m l o c x g):∀e∈l.X,e.drop 1∈l.X\/e.drop 1=[]:=λe he=>by
 have:=P8.1 (nT J.val).2 e he;rw[oB,decide_eq_true_eq,decide_eq_true_eq]at this;rcases this with h|h
 ·exact .inr (iL h)
 ·exact .inl h
def split_lt(H:J6 m){S P:A4}(hP:∀p∈P,WOk m.I p)(h:mI m S P):kN m S P+1<=m.N.length:=by
 obtain⟨p,hp,q,hq,e,a,ha,a2⟩:=h;have:∃z∈S,Sym.outs m (dest m m.S.toNat (p++[(a:Int)])) z≠Sym.outs m (dest m m.S.toNat (q++[(a:Int)])) z:=S1 λg=>a2 (mD λz hz=>S1 λh=>g ⟨z,hz,h⟩);obtain⟨z,hz,a2⟩:=this;refine R9 (kN_split (S':=S++[(a:Int)::z]) hp hq (λy hy=>L5 _ hy) e λhh=>a2 ?_) (kN_le H hP);have h1:=mJ hh (e:=(a:Int)::z) (by simp);rw[eC,eC]at h1;injection h1 with _ h1
 rw[kR,kR];exact h1
def LzI.bnd(J:LzI m l o c x g)(H:J6 m)(hn:m.N.length<=12):kL m l<=12/\x<=11/\c<=11/\l.Short.length<=199/\l.X.length<=15/\(g=true->kL m l<=11):=by
 have h1:kL m l<=m.N.length:=kN_le (S:=l.X) H J.wok;have h2:=J.k1;have h3:=J.k2;have h4:=J.pl;have h5:=J.sl
 have a2:g=true->kL m l<=11:=λe=>by
  have:kL m l+1<=m.N.length:=split_lt H J.wok (J.gh e);omega
 have ht:tri2 (kL m l-(if g=true then 0 else 1))<=187:=by
  refine R9 (pS (b:=11) ?_) (by decide);cases g with
  |true=>have:=a2 rfl;omega
  |false=>rw[if_neg aA];omega
 have h6:x<=11:=by omega
 refine⟨by omega,h6,?_,by omega,by omega,a2⟩;clear h4 ht;cases g with
 |true =>
  have:=a2 rfl;rw[if_pos rfl]at h3;omega
 |false =>
  rw[if_neg aA]at h3;omega
def LzI.tab(J:LzI m l o c x g)(H:J6 m)(hn:m.N.length<=12)(hi:m.I<=4):N7 (lazT l):=by
 obtain⟨b1,b2,b3,b4,b5,_⟩:=J.bnd H hn;have a2:=H.i1;have hI:=J.inp;refine⟨⟨by show inR l.I;unfold inR;omega,⟨by show l.Short.length<=_;omega,λp hp=>by have:=J.pw p hp;unfold SmW;omega⟩,⟨by show l.X.length<=_;omega,λp hp=>by have:=J.sw p hp;unfold SmW;omega⟩,λp hp a ha=>by have:=J.wok p hp a ha;unfold inR;omega⟩,by show l.I<=4;omega,by show l.Short.length<=600;omega,by show l.X.length<=600;omega,λp hp=>by have:=J.pw p hp;omega,λe he=>by have:=J.sw e he;omega⟩
def LzI.room(J:LzI m l o c x g)(H:J6 m)(hn:m.N.length<=12):RoomT (lazT l):=by
 obtain⟨_,_,_,b4,b5,_⟩:=J.bnd H hn;exact R9 (jT (W7 5 (Nat.succ_le_succ b4)) (Nat.succ_le_succ b5)) (by decide)
def LzI.chk(J:LzI m l o c x g):chkL l o=0:=by
 unfold chkL;rw[if_neg (λh=>h J.val),if_neg (λh=>h (by rw[J.inp,J.told.inp]))]
def LzI.cell(J:LzI m l o c x g)(H:J6 m)(hn:m.N.length<=12){v:A2}(hv:v∈bF m.I.toNat l.X l.Short):WOk m.I v/\v.length<=500:=by
 obtain⟨b1,b2,b3,b4,b5,_⟩:=J.bnd H hn;obtain⟨p,hp,w,hw,e,he,rfl⟩:=dM.1 hv;have h2:=J.pw p hp;have h3:=J.sw e he
 have a2:WOk m.I w/\w.length<=p.length+1:=by
  unfold T1 at hw;rcases H8.1 hw with rfl|hw
  ·exact⟨J.wok _ hp,by omega⟩
  ·obtain⟨a,ha,rfl⟩:=D7.1 hw;have ha:=M1.1 ha;refine⟨λy hy=>?_,by simp⟩;rcases I8.1 hy with h|h
   ·exact J.wok p hp y h
   ·rw[K4.1 h];omega
 exact⟨a2.1.append (J.swok e he),by rw[D4];omega⟩
def LzI.few(J:LzI m l o c x g)(H:J6 m)(hi:m.I<=4){p:A7}(hT:dX p.T)
  (hcs:∀u∈p.T,(∃u'∈o.T,u'.In=u.In)\/u.In∈bF m.I.toNat l.X l.Short) (hk:∀v∈bF m.I.toNat l.X l.Short,Kn p v):p.T.length<=75*c+(3*l.Short.length+1)*l.X.length:=by
 obtain⟨C,hC,a3⟩:=J.cs;have a2:=(nT J.val).1;have hI:(lazT l).I=m.I:=J.inp;obtain⟨a9,_,a6,_,_,_,_,_⟩:=bI a2;obtain⟨a7,a4,b2,a8⟩:=Z5 a2
 have h1:=traces_le (t:=lazT l) (C:=C) hT a2 J.suf (λu hu=>by
  rw[hI]
  rcases hcs u hu with⟨u',a5,e⟩|h
  ·rw[<- e];exact a3 u' a5
  ·exact .inr h) (by rw[hI];exact hk)
 have h2:=extN_len (n:=(lazT l).I.toNat) (P:=l.Short) (a6.imp λ{a b} h e=>by
  rw[e,dJ]at h
  cases h) a4 (λw hw y hy=>by have:=W5 (a7 w hw) y hy;omega)
 have h3:(lazT l).I.toNat*l.Short.length<=4*l.Short.length:=W7 _ (by omega);have h4:(extN (lazT l).I.toNat l.Short).length*l.X.length<=(3*l.Short.length+1)*l.X.length:=W7 _ (by omega);have h1:p.T.length<=C.length+(extN (lazT l).I.toNat l.Short).length*l.X.length:=h1;omega
def LzI.noghost(J:LzI m l o c x g)(HO:H5 (lazT l) o):g=false:=by
 cases g with
 |false=>rfl
 |true =>
  exfalso;obtain⟨p,hp,q,hq,h1,a,ha,h2⟩:=J.gh rfl;have a3:(lazT l).I=m.I:=J.inp;have a2:a<(lazT l).I.toNat:=by rw[a3];omega
  have:=HO.cons (p:=p) (q:=q) hp hq (by rw[HO.row_t J.told (p:=p) hp,HO.row_t J.told (p:=q) hq];exact h1) a2;rw[HO.ext_t J.told (p:=p) hp a2,HO.ext_t J.told (p:=q) hq a2]at this;exact h2 this
def ins_len(L:A4)(w:A2):(insW L w).length<=L.length+1:=by
 unfold insW;split
 ·omega
 ·simp only[D4,E9,H6,M0];omega
def LzI.round(J:LzI m l o c x g)(H:J6 m)(hn:m.N.length<=12)(hi:m.I<=4) :
  (L6 o (lazT l) l.Short≠[]/\fA l o=(l,maxR (L6 o (lazT l) l.Short),false,0)/\(∀w∈maxR (L6 o (lazT l) l.Short),I2 w m.I=0)/\(maxR (L6 o (lazT l) l.Short)).length<=2000000 /\
   (M5 m o (maxR (L6 o (lazT l) l.Short))).T.length<=10000/\LzI m l (M5 m o (maxR (L6 o (lazT l) l.Short))) c x g/\L6 (M5 m o (maxR (L6 o (lazT l) l.Short))) (lazT l) l.Short=[]) \/
  (∃u,fA l o=(u,[],false,0)/\LzI m u o c (x+1) false/\kL m l+1<=kL m u) \/
  (fA l o=(l,[],true,0)/\H5 (lazT l) o/\g=false/\L6 o (lazT l) l.Short=[]):=by
 obtain⟨b1,b2,b3,b4,b5,_⟩:=J.bnd H hn;have hT:=J.tab H hn hi;have hR:=J.room H hn;have b6:=J.chk;obtain⟨d2,_,a9,d8⟩:=chk_laz b6;have c7:(lazT l).I=m.I:=J.inp;have i1:=H.i1;have i2:=H.i2
 have hS:fA l o=(ofT (stepT (lazT l) o).1,(stepT (lazT l) o).2):=by
  unfold fA;rw[if_neg (λh=>h b6)]
 rw[hS];unfold stepT;rw[if_neg (λh=>h d2)];by_cases hA:L6 o (lazT l) l.Short=[]
 ·right;have a6:L6 o (lazT l) (lazT l).P=[]:=hA;rw[if_neg (λh=>h a6)];have hz:V8 (lazT l) o=0:=compT_of d2 a6;obtain⟨_,_,a2⟩:=Z7 hz;have h1:=J.pl;have h2:=J.sl;have h3:=J.k1;have h4:=J.k2;cases hf:(extL (lazT l)).find? (newRow (lazT l) o) with
  |some w =>
   left;obtain⟨e1,e2⟩:=uncl_ins hT hR hz hf;obtain⟨p,hp,hw⟩:=O0.1 (dR hf);obtain⟨a,ha,rfl⟩:=D7.1 hw;have ha:=M1.1 ha;have d1:newRow (lazT l) o (p++[(a:Int)])=true:=lC hf
   have b7:∀q∈l.Short,trow m l.X q≠trow m l.X (p++[(a:Int)]):=λq hq e=>by
    refine of_decide_eq_true d1 (D7.2 ⟨q,hq,?_⟩);rw[mY J.told a2 (p:=q) hq (qH _ q),mY J.told a2 hp (mV ha p)];exact congrArg some e
   have hk:kL m l+1<=kN m l.X (insW l.Short (p++[(a:Int)])):=kN_new (λq hq=>(bV _ _ _).2 (.inl hq)) ((bV _ _ _).2 (.inr rfl)) b7;have d5:=ins_len l.Short (p++[(a:Int)]);have c0:tri2 (kL m l-(if g=true then 0 else 1))<=tri2 (kN m l.X (insW l.Short (p++[(a:Int)]))-1):=pS (by omega);have d9:=J.pw p hp;simp only;rw[e1];refine⟨⟨l.I,insW l.Short (p++[(a:Int)]),l.X⟩,rfl,⟨J.told,pX e2 a9,J.inp,?_,by simp only;omega,λq hq=>?_,λe he=>by have:=J.sw e he;omega,by simp only[kL]at hk h3 ⊢;omega,?_,(λh=>by cases h),?_⟩,hk⟩
   ·simp only[kL];rw[if_neg aA];omega
   ·rcases (bV _ _ _).1 hq with h|h
    ·have:=J.pw q h;omega
    ·rw[h,D4,P3];omega
   ·rw[if_neg aA];simp only[kL]at hk h4 ⊢;have:c<=kN m l.X l.Short:=R9 (rD _ _) h4;omega
   ·obtain⟨C,hC,h⟩:=J.cs;refine⟨C,hC,λu hu=>?_⟩;rcases h u hu with h|h
    ·exact .inl h
    ·obtain⟨q,hq,h⟩:=dM.1 h;exact .inr (dM.2 ⟨q,(bV _ _ _).2 (.inl hq),h⟩)
  |none =>
   cases hip:iP (lazT l) o with
   |some y =>
    left;obtain⟨e1,e2,e3⟩:=inc_ins hT hR J.told.ok hz hip;obtain⟨p,q,hp,hq,b9,a,e,ey,ha,X,Y,u,hX,hY,hu,d0⟩:=iP_parts a2 hip;have d6:=mY J.told a2 hp (qH _ p);have d4:=mY J.told a2 hq (qH _ q)
    have c8:trow m l.X p=trow m l.X q:=by
     rw[d6,d4]at b9;injection b9
    have a5:=mY J.told a2 hp (mV ha p);have a7:=mY J.told a2 hq (mV ha q);rw[hX]at a5;rw[hY]at a7;injection a5 with a5
    injection a7 with a7
    have d3:e<l.X.length:=by
     have h1:=(E4.1 hu).1;rw[a5]at h1;unfold trow at h1
     rwa [B6]at h1
    have b8:=get_at d3
    have hW:toW (lazT l) y=(a:Int)::l.X[e]:=by
     rw[ey];unfold toW;have:(lazT l).X[e]?=some l.X[e]:=b8;simp[this]
    have hk:kL m l+1<=kN m (insW l.X (toW (lazT l) y)) l.Short:=by
     refine kN_split hp hq (λz hz=>(bV _ _ _).2 (.inl hz)) c8 λhh=>d0 ?_;have h1:=mJ hh ((bV _ _ _).2 (.inr rfl));rw[hW]at h1
     have h2:Sym.outs m (dest m m.S.toNat (p++[(a:Int)])) l.X[e]=Sym.outs m (dest m m.S.toNat (q++[(a:Int)])) l.X[e]:=by
      rw[kR,kR];rw[eC,eC]at h1;injection h1
     have c9:(lazT l).X[e]?=some l.X[e]:=b8;rw[a7];rw[a5]at hu;unfold trow at hu ⊢;rw[I9,c9,K0]at hu ⊢;rw[<- hu,h2]
    have d5:=ins_len l.X (toW (lazT l) y);have c0:tri2 (kL m l-(if g=true then 0 else 1))<=tri2 (kN m (insW l.X (toW (lazT l) y)) l.Short-1):=pS (by omega);have h5:=J.sw _ (J3 d3);simp only;rw[e1];refine⟨⟨l.I,l.Short,insW l.X (toW (lazT l) y)⟩,rfl,⟨J.told,pX e2 (sufB_ins a9 e3),J.inp,?_,by simp only;omega,λq hq=>by have:=J.pw q hq;omega,λz hz=>?_,by simp only[kL]at hk h3 ⊢;omega,?_,(λh=>by cases h),?_⟩,hk⟩
    ·simp only[kL];rw[if_neg aA];omega
    ·rcases (bV _ _ _).1 hz with h|h
     ·have:=J.sw z h;omega
     ·rw[h,hW,E9];omega
    ·rw[if_neg aA];simp only[kL]at hk h4 ⊢;have:c<=kN m l.X l.Short:=R9 (rD _ _) h4;omega
    ·obtain⟨C,hC,h⟩:=J.cs;refine⟨C,hC,λu hu=>?_⟩;rcases h u hu with h|h
     ·exact .inl h
     ·obtain⟨q,hq,w,hw,z,hz,h⟩:=dM.1 h;exact .inr (dM.2 ⟨q,hq,w,hw,z,(bV _ _ _).2 (.inl hz),h⟩)
   |none =>
    right;have d7:(M2 (lazT l) o).length=kL m l:=rowsA_kN J.told a2;have HO:H5 (lazT l) o:=⟨hT,by rw[d7];omega,J.told.smR,J.told.ok,hz,hf,hip⟩;exact⟨rfl,HO,J.noghost HO,hA⟩
 ·left;have a6:L6 o (lazT l) (lazT l).P≠[]:=hA;rw[if_pos a6];have a4:∀v,v∈L6 o (lazT l) l.Short↔v∈bF m.I.toNat l.X l.Short/\ansO o v=none:=λv=>by rw[yY,c7];rfl
  have a3:∀v∈maxR (L6 o (lazT l) l.Short),v∈bF m.I.toNat l.X l.Short:=λv hv=>((a4 v).1 (vT hv)).1
  have c6:∀w∈maxR (L6 o (lazT l) l.Short),I2 w m.I=0:=λw hw=>by
   obtain⟨h1,h2⟩:=J.cell H hn (a3 w hw);exact jH ⟨i1,by omega⟩ h1 (by omega)
  have a8:∀v∈bF m.I.toNat l.X l.Short,Kn (M5 m o (maxR (L6 o (lazT l) l.Short))) v:=λv hv=>by
   rw[mQ];by_cases h4:ansO o v=none
   ·obtain⟨y,hy,hp⟩:=maxR_up 500 (λz hz=>(J.cell H hn ((a4 z).1 hz).1).2) 500 v ((a4 v).2 ⟨hv,h4⟩) (by omega);exact .inr ⟨y,hy,hp⟩
   ·exact .inl (S1 λh=>h4 ((iT J.told).2 h))
  have hN:(M5 m o (maxR (L6 o (lazT l) l.Short))).T.length<=10000:=by
   have:=J.few H hi (wE _ _ J.told.ok.trs) (λu hu=>by
    rcases pW _ _ hu with h|h
    ·exact .inl ⟨u,h,rfl⟩
    ·exact .inr (a3 _ h)) a8
   have hm:(3*l.Short.length+1)*l.X.length<=598*15:=jT (by omega) b5;omega
  have T':=sR H _ o J.told c6 hN;refine⟨hA,rfl,c6,(maxR_need_sml hT).1,hN,⟨T',J.val,J.inp,J.pl,J.sl,J.pw,J.sw,J.k1,J.k2,J.gh,?_⟩,?_⟩
  ·obtain⟨C,hC,h⟩:=J.cs;refine⟨C,hC,λu hu=>?_⟩;rcases pW _ _ hu with h1|h1
   ·exact h u h1
   ·exact .inr (a3 _ h1)
  ·refine vL.2 λv hv=>?_;obtain⟨h1,h2⟩:=yY.1 hv;rw[c7]at h1;exact(iT T').1 h2 (a8 v h1)
end
end
section
section
variable {m:A9}{t t':C6}{o:A7}{c x:Nat}{g:Bool}{mode:Int}
def ctx_full(H:H5 t o)(T:Q9 m o)(hM:J6 m)(hi:t.I=m.I)(hP:∀p∈t.P,WOk m.I p)(hk:m.N.length<=kT m t){w:A2}(hw:WOk m.I w):Sym.outs (hypT t o).M 0 w=Sym.outs m m.S.toNat w:=by
 have a2:∀z,z∈t.P++(List.range (w.length+1)).map (λk=>w.take k)↔z∈t.P\/∃k,k<w.length+1/\w.take k=z:=λz=>by
  rw[I8,D7];exact or_congr Iff.rfl ⟨λ⟨k,h,e⟩=>⟨k,M1.1 h,e⟩,λ⟨k,h,e⟩=>⟨k,M1.2 h,e⟩⟩
 have a3:∀p∈t.P,p∈t.P++(List.range (w.length+1)).map (λk=>w.take k):=λp hp=>(a2 p).2 (.inl hp)
 have a4:∀p∈t.P++(List.range (w.length+1)).map (λk=>w.take k),WOk m.I p:=λp hp=>by
  rcases (a2 p).1 hp with h|⟨k,_,rfl⟩
  ·exact hP p h
  ·exact λy hy=>hw y (Q4 hy)
 refine(ctx_pre H T hi a3 (R9 (kN_le hM a4) hk) (λp hp q hq e a ha=>?_) w.length rfl hw (λk=>(a2 _).2 (.inr ?_))).1
 ·refine S1 λa5=>?_;have h1:=kN_split (m:=m) (S:=t.X) (S':=t.X++t.X.map λf=>(a:Int)::f) hp hq (λf hf=>L5 _ hf) e λh=>a5 (mD λf hf=>?_)
  ·have h2:=kN_le (m:=m) (S:=t.X++t.X.map λf=>(a:Int)::f) hM a4;have h3:kT m t<=kN m t.X (t.P++(List.range (w.length+1)).map (λk=>w.take k)):=kN_mono a3 λ_ h=>h;omega
  ·have h2:=mJ h (e:=(a:Int)::f) (L3 _ (D7.2 ⟨f,hf,rfl⟩));rw[eC,eC]at h2;injection h2 with _ h2
   rw[kR,kR];exact h2
 ·rcases J0 w.length k with q|q
  ·exact⟨w.length,by omega,by rw[T0,aP (by omega)]⟩
  ·exact⟨k,by omega,rfl⟩
end
end
section
section
variable {m:A9}
def dist_prog{a b:A9}(c1:S4 a=0)(c2:S4 b=0)(c3:a.I=b.I)(h:a.N.length+b.N.length<=128) :
  (lA a b=some ([],false,0)/\∀w,WOk a.I w->Sym.outs a a.S.toNat w=Sym.outs b b.S.toNat w) \/
  ∃w,lA a b=some (w,true,0)/\WOk a.I w/\w.length<=a.N.length+b.N.length/\Sym.outs a a.S.toNat w≠Sym.outs b b.S.toNat w:=by
 have T:Two a b:=⟨dG c1,dG c2,c3⟩;have h1:=T.a1.st;have h2:=T.b1.st;have hi:=T.a1.i1;obtain⟨⟨w,f⟩,h3,h4⟩:=zx2 T (p0:=(a.S.toNat,b.S.toNat)) (by simp only;omega) (by simp only;omega);simp only at h3;rw[show(a.S.toNat:Int)=a.S by omega,show(b.S.toNat:Int)=b.S by omega]at h3
 have e1:lA a b=some (w,f,0):=by
  unfold lA;rw[zyp c1 c2 c3,A6,B4 (by decide),h3,A6]
 cases f with
 |false =>
  left
  have hw:w=[]:=by
   rcases h4 with⟨_,_,_,_,_,_,_,h⟩|⟨_,_,_,h⟩
   ·injection h with _ h;cases h
   ·injection h
  subst hw;exact⟨e1,fst_none h4⟩
 |true =>
  right;have hw:=(fst_word T (p0:=(a.S.toNat,b.S.toNat)) (by simp only;omega) (by simp only;omega) h4).1;have a2:=fst_ne T (p0:=(a.S.toNat,b.S.toNat)) (by simp only;omega) (by simp only;omega) h4;obtain⟨v,v1,v2,v3⟩:=two_short T h (s:=a.S.toNat) (t:=b.S.toNat) (by omega) (by omega) hw a2;have:=fst_short h4 v2 v3;exact⟨w,e1,hw,by omega,a2⟩
end
end
section
section
variable {m:A9}{l:E1}{o:A7}{c x:Nat}{w:A2}
abbrev hL(l:E1)(o:A7):I6:=hypT (lazT l) o
def LzI.ctxIn(J:LzI m l o c x false)(HO:H5 (lazT l) o)(H:J6 m)(hi:m.I<=4)(a2:kL m l<=11)(hw:WOk m.I w)(hwl:w.length<=kL m l+12)(hne:Sym.outs (hL l o).M 0 w≠Sym.outs m m.S.toNat w):CtxIn (K:=25+x+25*c+1) m l (hL l o) o w:=by
 have F:=hyp_fnd HO J.told H J.inp hw (by omega) hne;have a3:∀v∈bF m.I.toNat l.X l.Short,Kn o v:=λv hv=>cells_known HO J.told v (by rw[show(lazT l).I=m.I from J.inp];exact hv);have h1:=J.pl;have h2:=J.sl;have h3:=J.k1;have h4:=J.k2;rw[if_neg aA]at h1 h4;have ht:tri2 (kL m l-1)<=165:=R9 (pS (b:=10) (by omega)) (by decide);have a7:c<=10:=by omega
 have a6:x<=10:=by omega
 have hp:l.Short.length<=176:=by omega
 have hs:l.X.length<=14:=by omega
 have a5:=J.few H hi J.told.ok.trs (λu hu=>.inl ⟨u,hu,rfl⟩) a3;have hm:(3*l.Short.length+1)*l.X.length<=529*14:=jT (by omega) hs;exact⟨F,J.told,a3,by omega,λi a4 e1 e2=>split_ref HO J.told F J.inp J.val a4 e1 e2 J.pw (by omega) hi (by omega) (by omega)⟩
def LzI.ctx(J:LzI m l o c x false){h:I6}{K:Nat}(hK:K=25+x+25*c+1)(hwl:w.length<=kL m l+12)(hw24:w.length<=24){f:A2}(R:CtxR m l h o w K f) :
  LzI m (bT l (addS m l (spL m h o w) f)) (o3L m l h o w) (c+1) x true/\kL m l<=kL m (bT l (addS m l (spL m h o w) f)):=by
 obtain⟨a1,a2,a3,a4,a5⟩:=R.S.add_facts;have b3:=R.vl;have h1:=J.pl;have h3:=J.k1;have h4:=J.k2;rw[if_neg aA]at h1 h4;have a7:=xM (l.Short++addS m l (spL m h o w) f);rw[D4]at a7;have a6:∀z,z∈sortW (l.Short++addS m l (spL m h o w) f)↔z∈l.Short\/z∈addS m l (spL m h o w) f:=λz=>by rw[dL,I8]
 have hk:kL m l<=kL m (bT l (addS m l (spL m h o w) f)):=kN_mono (λp hp=>(a6 p).2 (.inl hp)) λ_ h=>h
 have ht:tri2 (kL m l-1)+(kL m l+11)<=tri2 (kL m (bT l (addS m l (spL m h o w) f))):=by
  refine R9 ?_ (pS hk);obtain⟨k,e⟩:∃k,kL m l=k+1:=⟨kL m l-1,by omega⟩;rw[e];show tri2 k+(k+1+11)<=tri2 k+(k+12);omega
 refine⟨⟨R.T3.O.told,R.S.valid,J.inp,?_,J.sl,λz hz=>?_,J.sw,by omega,?_,λ_=>a5.mono λz hz=>(a6 z).2 (I8.1 hz),?_⟩,hk⟩
 ·rw[if_pos rfl,oA];show(sortW (l.Short++addS m l (spL m h o w) f)).length<=_;omega
 ·rcases (a6 z).1 hz with g|g
  ·have:=J.pw z g;omega
  ·have:=(a3 z g).1;omega
 ·rw[if_pos rfl];omega
 ·obtain⟨C,hC,a9⟩:=J.cs;have b2:=R.ctxC_len hw24;refine⟨C++ctxC m l h o w f,by rw[D4];omega,λu hu=>?_⟩;rcases R.ins u hu with⟨u',a8,e⟩|g|⟨y,hy,g⟩
  ·rw[e];rcases a9 u' a8 with g|g
   ·exact .inl (L5 _ g)
   ·obtain⟨q,hq,g⟩:=dM.1 g;exact .inr (dM.2 ⟨q,(a6 q).2 (.inl hq),g⟩)
  ·exact .inl (L3 _ g)
  ·obtain⟨a,ha,e,he,g⟩:=mem_rowU.1 g;exact .inr (dM.2 ⟨y,(a6 y).2 (.inr hy),y++[(a:Int)],mV ha y,e,he,g.symm⟩)
end
abbrev LzS:Type:=Int×A4×A4×Int×List B0×Nat
abbrev LzR:Type:=I6×A7×Int×Int
abbrev stL(l:E1)(o:A7)(n:Nat):LzS:=(l.I,l.Short,l.X,o.I,o.T,n)
structure Rules(m:A9)(step:LzS->Option (LzS⊕LzR)):Prop where
 ask:∀{l o c x g W},LzI m l o c x g->fA l o=(l,W,false,0)->(∀w∈W,I2 w m.I=0)->W.length<=2000000->(M5 m o W).T.length<=10000->step (stL l o c)=some (.inl (stL l (M5 m o W) c))
 grow:∀{l o c x g u},LzI m l o c x g->fA l o=(u,[],false,0)->step (stL l o c)=some (.inl (stL u o c))
 fin:∀{l o c x},LzI m l o c x false->fA l o=(l,[],true,0)->H5 (lazT l) o->lA (hL l o).M m=some ([],false,0)->step (stL l o c)=some (.inr (hL l o,o,(↑(c+1):Int),0))
 ctx:∀{l o c x w K f},LzI m l o c x false->fA l o=(l,[],true,0)->H5 (lazT l) o->lA (hL l o).M m=some (w,true,0)->FndS m (hL l o) w->o.T.length<=8500->CtxR m l (hL l o) o w K f->step (stL l o c)=some (.inl (stL (bT l (addS m l (spL m (hL l o) o w) f)) (o3L m l (hL l o) o w) (c+1)))
def DoneL(m:A9)(r:LzR):Prop :=
 ∃l o c x,H5 (lazT l) o/\LzI m l o c x false/\(∀w,WOk m.I w->Sym.outs (hL l o).M 0 w=Sym.outs m m.S.toNat w)/\(hL l o).M.N.length=kL m l/\r=(hL l o,o,(↑(c+1):Int),0)
def muL(m:A9)(l:E1)(o:A7)(g:Bool):Nat:=10*(12-kL m l)+(if g=true then 0 else 2)+(if L6 o (lazT l) l.Short=[] then 0 else 1)
def muL_le(m:A9)(l:E1)(o:A7)(g:Bool):muL m l o g<=10*(12-kL m l)+3:=by
 unfold muL;split<;>split<;>omega
section
variable {m:A9}
def lz_both{s1 s2:LzS->Option (LzS⊕LzR)}(R1:Rules m s1)(R2:Rules m s2)(hv:S4 m=0)(hn:m.N.length<=12)(hi:m.I<=4) :
  ∀(N:Nat) (l:E1) (o:A7) (c x:Nat) (g:Bool),LzI m l o c x g->muL m l o g<=N->∀n,N<n->∃r,iter s1 n (stL l o c)=some r/\iter s2 n (stL l o c)=some r/\DoneL m r:=by
 have H:=dG hv;intro N
 induction N using Nat.strongRecOn with
 |ind N ih =>
  intro l o c x g J b5 n hN;obtain⟨k,rfl⟩:∃k,n=k+1:=⟨n-1,by omega⟩
  have a2:∀(u:E1) (p:A7) (c' x':Nat) (g':Bool),LzI m u p c' x' g'->muL m u p g'<muL m l o g->s1 (stL l o c)=some (.inl (stL u p c'))->s2 (stL l o c)=some (.inl (stL u p c'))->∃r,iter s1 (k+1) (stL l o c)=some r/\iter s2 (k+1) (stL l o c)=some r/\DoneL m r:=λu p c' x' g' J' b6 h1 h2=>by
   rw[pJ h1,pJ h2];exact ih (muL m u p g') (by omega) u p c' x' g' J' (G4 _) k (by omega)
  obtain⟨b1,_⟩:=J.bnd H hn;rcases J.round H hn hi with⟨q1,q2,q3,q4,q5,q6,q7⟩|⟨u,q1,q2,q3⟩|⟨q1,q2,q3,q4⟩
  ·refine a2 l _ c x g q6 ?_ (R1.ask J q2 q3 q4 q5) (R2.ask J q2 q3 q4 q5);unfold muL;rw[if_neg q1,if_pos q7];omega
  ·refine a2 u o c (x+1) false q2 ?_ (R1.grow J q1) (R2.grow J q1);have b2:=(q2.bnd H hn).1;have h1:=muL_le m u o false;unfold muL at h1 ⊢;omega
  ·subst q3;have a9:(M2 (lazT l) o).length=kL m l:=rowsA_kN J.told (Z7 q2.hz).2.2;have a7:(hL l o).M.N.length=kL m l:=by rw[q2.nlen.1,a9]
   have a8:S4 (hL l o).M=0:=q2.validM0;have a5:(hL l o).M.I=m.I:=J.inp;rcases dist_prog a8 hv a5 (by omega) with⟨d1,d3⟩|⟨w,d1,hw,b4,a3⟩
   ·refine⟨_,pH (R1.fin J q1 q2 d1),pH (R2.fin J q1 q2 d1),l,o,c,x,q2,J,λw hw=>?_,a7,rfl⟩;exact d3 w (by rw[a5];exact hw)
   ·have a6:WOk m.I w:=by rw[<- a5];exact hw
    have a3:Sym.outs (hL l o).M 0 w≠Sym.outs m m.S.toNat w:=a3;have b3:kL m l<m.N.length:=S1 λh=>a3 (ctx_full q2 J.told H J.inp J.wok (DG h) a6);have a4:w.length<=kL m l+12:=by omega
    have C:=J.ctxIn q2 H hi (by omega) a6 a4 a3;obtain⟨f,R⟩:=ctx_run C;obtain⟨J',hk⟩:=J.ctx rfl a4 (by omega) R;have b2:=(J'.bnd H hn).1;refine a2 _ _ (c+1) x true J' ?_ (R1.ctx J q1 q2 d1 C.F C.num R) (R2.ctx J q1 q2 d1 C.F C.num R);unfold muL;rw[if_pos rfl,if_neg aA];split<;>omega
def lz_start(H:J6 m)(hi:m.I<=4):LzI m ⟨m.I,[[]],W4 m.I.toNat⟩ ⟨m.I,[]⟩ 0 0 false:=by
 have J:=run_start H hi;have hk:=J.k1;refine⟨J.told,pX J.val ?_,rfl,by simp,?_,λp hp=>?_,λe he=>?_,hk,by rw[if_neg aA];exact hk,(λh=>by cases h),[],G4 _,λu hu=>by cases hu⟩
 ·unfold sufB;refine P8.2 λe he=>?_;unfold W4 at he;obtain⟨a,_,rfl⟩:=D7.1 he;simp
 ·show(W4 m.I.toNat).length<=4+0;rw[xV];omega
 ·rw[K4.1 hp];simp
 ·unfold W4 at he;obtain⟨a,_,rfl⟩:=D7.1 he;simp
def prog_rules(hv:S4 m=0)(hn:m.N.length<=12)(hi:m.I<=4):Rules m (λs=>bX.s4 m s.1 s.2.1 s.2.2.1 s.2.2.2.1 s.2.2.2.2.1 s.2.2.2.2.2):=by
 have H:=dG hv;refine⟨λ{l o c x g W} J hS hW hWl hN=>?_,λ{l o c x g u} J hS=>?_,λ{l o c x} J hS HO hD=>?_,λ{l o c x w K f} J hS HO hD F hN R=>?_⟩
 all_goals
  have hb:=(J.bnd H hn).2.2.1;have a3:eB ⟨l.I,l.Short,l.X⟩ ⟨o.I,o.T⟩=some (fA l o):=lazy_Step_eq (l:=l) (o:=o) (J.tab H hn hi) (J.room H hn) J.told.smR J.told.ok;have a2:X0 m ⟨o.I,o.T⟩ []=some (o,0):=tU (o:=o) (ws:=[]) hv J.told (λw h=>by cases h) (by simp) J.told.ok.num;show bX.s4 m l.I l.Short l.X o.I o.T c=_;unfold bX.s4;rw[a3,A6,hS];simp only;rw[B4 (by decide)]
 ·have ht:X0 m ⟨o.I,o.T⟩ W=some (M5 m o W,0):=tU (o:=o) hv J.told hW hWl hN;rw[ht,A6];rfl
 ·rw[a2,A6];rfl
 ·rw[a2,A6]
  have hH:lV l o=some (hL l o,0):=by
   rw[JJ HO.ht J.told.smR J.told.ok HO.h128];unfold hypL;rw[if_neg (λh=>h J.chk)];unfold hypR;rw[if_neg (λh=>h HO.hz),if_neg (λh=>h.elim (λh=>h HO.hf) λh=>h HO.hi)]
  simp only;rw[B4 (by decide),U0,G0,hH,A6];simp only;rw[B4 (by decide),L0,hD,A6];rfl
 ·rw[a2,A6]
  have hH:lV l o=some (hL l o,0):=by
   rw[JJ HO.ht J.told.smR J.told.ok HO.h128];unfold hypL;rw[if_neg (λh=>h J.chk)];unfold hypR;rw[if_neg (λh=>h HO.hz),if_neg (λh=>h.elim (λh=>h HO.hf) λh=>h HO.hi)]
  simp only;rw[B4 (by decide),U0,G0,hH,A6];simp only;rw[B4 (by decide),L0,hD,A6];simp only;rw[B4 (by decide),U0,G0,zwi hv F J.told hN R,A6];rfl
end
end
section
section
variable {m:A9}
def R06_has_eq{l:A2}{t:Int}(hl:l.length<=1000000):iY l t=some (decide (t∈l)):=by
 unfold iY;rw[V4 (l:=l) (λ_ u=>if u=t then some true else none) (λi u hu=>?_) ?_ (by omega),A6]
 ·by_cases h:t∈l
  ·rw[E6 h];cases e:scan (λ_ u=>if u=t then some true else none) 0 l with
   |some r =>
    obtain⟨i,u,_,h2⟩:=wJ e;split at h2
    ·injection h2 with h2
     subst h2;rfl
    ·cases h2
   |none =>
    obtain⟨i,hi,a2⟩:=P1.1 h;have:=V9.1 e i _ (get_at hi);rw[if_pos a2]at this;cases this
  ·rw[I3 h,V9.2 λi u hu=>if_neg λq=>h (by rw[<- q];exact H0 hu)];rfl
 ·simp only[iY.s2];rw[B4]
 ·have hi:=(E4.1 hu).1;simp only[iY.s2];rw[E2,C8 hu];by_cases e:u=t
  ·rw[E2 e,if_pos e]
  ·rw[B4 e,if_neg e]
def R06_index_eq{l:A2}{t:Int}{j:Nat}(hl:l.length<=1000000)(hj:l[j]?=some t)(hnd:l.Nodup):jC l t=some (j:Int):=by
 unfold jC;rw[V4 (l:=l) (λi u=>if u=t then some (i:Int) else none) (λi u hu=>?_) ?_ (by omega),A6]
 ·cases e:scan (λi u=>if u=t then some (i:Int) else none) 0 l with
  |some r =>
   obtain⟨i,u,h1,h2⟩:=wJ e;split at h2
   ·rename_i h3;injection h2 with h2
    rw[h3]at h1;have:=vX hnd h1 hj;subst this;rw[<- h2];show some (↑(0+i):Int)=_;rw[F9]
   ·cases h2
  |none =>
   have:=V9.1 e j _ hj;rw[if_pos rfl]at this;cases this
 ·simp only[jC.s2];rw[B4]
 ·have hi:=(E4.1 hu).1;simp only[jC.s2];rw[E2,C8 hu];by_cases e:u=t
  ·rw[E2 e,if_pos e]
  ·rw[B4 e,if_neg e]
def natI_nodup{l:List Nat}(h:l.Nodup):(natI l).Nodup:=by
 unfold natI List.Nodup;rw[rG];exact h.imp λ{a b} h e=>h (by omega)
def R06_Reach_eq(hv:S4 m=0):∃L,MEnd m m.S.toNat L/\aY m=some (natI (L.map Prod.fst)):=by
 have H:=dG hv;have a9:=H.st;have hn:=H.n2;have hI:=H.i2;have hs:m.S.toNat<m.N.length:=by omega
 have a3:∀(i:Nat) (x:Nat×A2),i<=m.N.length->(mB m m.S.toNat (i*m.I.toNat))[i]?=some x ->
   iter (λ(s:A2×Nat)=>aY.s13 m i s.1 s.2) fuel (natI ((mB m m.S.toNat (i*m.I.toNat)).map Prod.fst),0)=some (natI ((mB m m.S.toNat ((i+1)*m.I.toNat)).map Prod.fst)):=by
  intro i x b3 hx;have a8:=(mB_rng H hs _ x (H0 hx)).1;have b2:i*m.I.toNat<=128*64:=jT (by omega) (by omega)
  exact V3 (step:=λ(s:A2×Nat)=>aY.s13 m i s.1 s.2) (λs=>s.2<=m.I.toNat/\s.1=natI ((mB m m.S.toNat (i*m.I.toNat+s.2)).map Prod.fst)) (λs=>m.I.toNat-s.2) (λs ⟨q1,q2⟩=>by
   obtain⟨l,a⟩:=s
   simp only at q1 q2
   subst q2
   simp only[aY.s13]
   by_cases g:a<m.I.toNat
   ·left
    have a6:=mB_get hx (r:=i*m.I.toNat+a) (by omega)
    obtain⟨h1,_,_,x',y',h2,_,h4,_⟩:=H.at a8 g
    have a4:=mB_len H hs (i*m.I.toNat+a)
    have a2:=mB_step g a6
    have a5:=mN (i:=i) (u:=x.1) (l:=(mB m m.S.toNat (i*m.I.toNat+a)).map Prod.fst) (by rw[I9,a6];rfl)
    rw[E2,C8 a5,E8 rfl h2,C8 h4,R06_has_eq (by rw[dI,B6];omega),A6]
    by_cases hm:nx m x.1 a∈(mB m m.S.toNat (i*m.I.toNat+a)).map Prod.fst
    ·rw[if_pos hm]at a2
     refine⟨(natI ((mB m m.S.toNat (i*m.I.toNat+a)).map Prod.fst),a+1),?_,⟨g,by simp only;rw[a2]⟩,by simp only;omega⟩
     rw[E6 (mem_natI.2 hm),U0,G0,L0]
    ·rw[if_neg hm]at a2
     refine⟨(natI ((mB m m.S.toNat (i*m.I.toNat+a)).map Prod.fst++[nx m x.1 a]),a+1),?_,⟨g,by simp only;rw[a2,N6];rfl⟩,by simp only;omega⟩
     rw[I3 (λq=>hm (mem_natI.1 q)),jU,G5,C8 a5,E8 rfl h2,C8 h4,H7 (by unfold E0;rw[dI,B6];omega),L0,zE]
   ·right
    have e':a=m.I.toNat:=by omega
    subst e'
    rw[mB_next,B4]) (n:=fuel) ⟨F7 _,rfl⟩
 unfold aY;rw[nN,A6,hv,B4 (by decide)]
 obtain⟨r,hr,L,hL,rfl⟩:=aG (step:=λ(s:A2×Nat)=>aY.s14 m s.1 s.2) (λs=>s.2<=(mB m m.S.toNat (s.2*m.I.toNat)).length/\s.1=natI ((mB m m.S.toNat (s.2*m.I.toNat)).map Prod.fst)) (λs=>m.N.length+1-s.2) (λr=>∃L,MEnd m m.S.toNat L/\r=natI (L.map Prod.fst)) (λs ⟨q1,q2⟩=>by
  obtain⟨l,i⟩:=s
  simp only at q1 q2
  subst q2
  simp only[aY.s14]
  have a4:=mB_len H hs (i*m.I.toNat)
  by_cases g:i<(mB m m.S.toNat (i*m.I.toNat)).length
  ·left
   have hx:=get_at g
   have h1:=a3 i _ (by omega) hx
   have a7:=(fE (e:=nx m) (K:=m.I.toNat) (s0:=m.S.toNat) (show i*m.I.toNat<=(i+1)*m.I.toNat by rw[iG];omega)).length_le
   refine⟨(natI ((mB m m.S.toNat ((i+1)*m.I.toNat)).map Prod.fst),i+1),?_,⟨by simp only;unfold mB at g ⊢;omega,rfl⟩,by simp only;omega⟩
   rw[E2 (by rw[dI,B6];omega),h1,A6]
  ·right
   refine⟨_,by rw[B4 (by rw[dI,B6];omega)],mB m m.S.toNat (i*m.I.toNat),⟨?_⟩,rfl⟩
   rw[show(mB m m.S.toNat (i*m.I.toNat)).length=i by omega]
   rfl) ([m.S],0) ⟨F7 _,by simp only;rw[lB];simp[mB,bfsB,natI];omega⟩
 exact⟨L,hL,by rw[hr,A6]⟩
def HK{G:Type}(f:Nat->G){n a:Nat}(h:a<n):((List.range n).map f)[a]?=some (f a):=by
 rw[I9,cH h];rfl
def R06_Trim_eq(hv:S4 m=0):∃t L,S9 m=some (t,0)/\TrimOk m t L:=by
 have H:=dG hv;have b2:=H.st;have hn:=H.n2;have hI:=H.i2;have a7:=H.i1;have hs:m.S.toNat<m.N.length:=by omega
 obtain⟨L,hE,hR⟩:=R06_Reach_eq hv;obtain⟨b3,a5⟩:=mEnd_rng H hs hE;have a8:=hE.nodup;unfold S9;rw[nN,A6,hv,B4 (by decide),hR,A6]
 have pl:∀(x:Nat×A2) (a:Nat),x∈L->a<m.I.toNat->∃j:Nat,∃y,L[j]?=some y/\y.1=nx m x.1 a:=λx a hx ha=>by
  obtain⟨i,hi⟩:=yN.1 hx;obtain⟨j,y,h1,h2,_⟩:=hE.closed hi ha;exact⟨j,y,h1,h2⟩
 let F:Nat×A2->Nat->Int:=λx a=>if h:x∈L/\a<m.I.toNat then(↑(Classical.choose (pl x a h.1 h.2)):Int) else 0
 have hF:∀x a,x∈L->a<m.I.toNat->∃(j:Nat) (y:Nat×A2),L[j]?=some y/\y.1=nx m x.1 a/\F x a=(j:Int):=λx a hx ha=>by
  obtain⟨y,h1,h2⟩:=yO (pl x a hx ha);exact⟨_,y,h1,h2,by show(if h:x∈L/\a<m.I.toNat then(↑(Classical.choose (pl x a h.1 h.2)):Int) else 0)=_;rw[dif_pos ⟨hx,ha⟩]⟩
 have a6:∀(i:Nat) (x:Nat×A2),L[i]?=some x->iter (λ(s:A2×A2×Nat)=>S9.s18 m (natI (L.map Prod.fst)) i s.1 s.2.1 s.2.2) fuel ([],[],0)=some ((List.range m.I.toNat).map (F x),(List.range m.I.toNat).map (ot m x.1)):=by
  intro i x hx;have a2:=H0 hx;have a3:=(a5 x a2).1;have a4:=mN (i:=i) (u:=x.1) (l:=L.map Prod.fst) (by rw[I9,hx];rfl)
  exact V3 (step:=λ(s:A2×A2×Nat)=>S9.s18 m (natI (L.map Prod.fst)) i s.1 s.2.1 s.2.2) (λs=>s.2.2<=m.I.toNat/\s.1=(List.range s.2.2).map (F x)/\s.2.1=(List.range s.2.2).map (ot m x.1)) (λs=>m.I.toNat-s.2.2) (λs ⟨q1,q2,q3⟩=>by
   obtain⟨p,q,a⟩:=s
   simp only at q1 q2 q3
   subst q2
   subst q3
   simp only[S9.s18]
   by_cases g:a<m.I.toNat
   ·left
    obtain⟨h1,_,_,x',y',h2,h3,h4,h5⟩:=H.at a3 g
    obtain⟨j,y,z1,z2,z3⟩:=hF x a a2 g
    refine⟨((List.range (a+1)).map (F x),(List.range (a+1)).map (ot m x.1),a+1),?_,⟨g,rfl,rfl⟩,by simp only;omega⟩
    rw[E2,C8 a4,E8 rfl h2,C8 h4,R06_index_eq (by rw[dI,B6];omega) (j:=j) (mN (by rw[I9,z1,<- z2];rfl)) (natI_nodup a8),A6,H7 (by unfold E0;rw[B6,Y6];omega),C8 a4,E8 rfl h3,C8 h5,H7 (by unfold E0;rw[B6,Y6];omega),L0]
    rw[jZ,N6,N6,<- z3]
    rfl
   ·right
    have:a=m.I.toNat:=by omega
    subst this
    rw[B4]) (n:=fuel) ⟨F7 _,rfl,rfl⟩
 have all:iter (λ(s:A4×A4×Nat)=>S9.s20 m (natI (L.map Prod.fst)) s.1 s.2.1 s.2.2) fuel ([],[],0)=some (L.map λx=>(List.range m.I.toNat).map (F x),L.map λx=>(List.range m.I.toNat).map (ot m x.1)) :=
  V3 (step:=λ(s:A4×A4×Nat)=>S9.s20 m (natI (L.map Prod.fst)) s.1 s.2.1 s.2.2) (λs=>s.2.2<=L.length/\s.1=(L.take s.2.2).map (λx=>(List.range m.I.toNat).map (F x))/\s.2.1=(L.take s.2.2).map (λx=>(List.range m.I.toNat).map (ot m x.1))) (λs=>L.length-s.2.2) (λs ⟨q1,q2,q3⟩=>by
   obtain⟨p,q,i⟩:=s
   simp only at q1 q2 q3
   subst q2
   subst q3
   simp only[S9.s20]
   by_cases g:i<L.length
   ·left
    have hx:=get_at g
    have ht:L.take (i+1)=L.take i++[L[i]]:=by rw[List.take_succ,hx];rfl
    refine⟨((L.take (i+1)).map (λx=>(List.range m.I.toNat).map (F x)),(L.take (i+1)).map (λx=>(List.range m.I.toNat).map (ot m x.1)),i+1),?_,⟨g,rfl,rfl⟩,by simp only;omega⟩
    rw[E2 (by rw[dI,B6];omega),a6 i _ hx,A6]
    simp only[S9.k19]
    rw[H7 (by unfold E0;rw[B6,H6];omega),H7 (by unfold E0;rw[B6,H6];omega),ht,N6,N6]
    rfl
   ·right
    have:i=L.length:=by omega
    subst this
    rw[B4 (by rw[dI,B6];omega),T0]) (n:=fuel) ⟨F7 _,by simp,by simp⟩
 rw[all,A6];simp only[S9.k21];have b4:0<L.length:=(E4.1 hE.first).1
 have a9:∀(i:Nat) (x:Nat×A2) (a:Nat),L[i]?=some x->a<m.I.toNat->nx (⟨m.I,0,L.map λx=>(List.range m.I.toNat).map (F x),L.map λx=>(List.range m.I.toNat).map (ot m x.1)⟩:A9) i a=(F x a).toNat/\ot (⟨m.I,0,L.map λx=>(List.range m.I.toNat).map (F x),L.map λx=>(List.range m.I.toNat).map (ot m x.1)⟩:A9) i a=ot m x.1 a:=λi x a hx ha=>by
  constructor
  ·unfold nx;simp only;rw[I9,hx];simp only[K0,N1];rw[HK _ ha,N1]
  ·unfold ot;simp only;rw[I9,hx];simp only[K0,N1];rw[HK _ ha,N1]
 refine⟨_,L,rfl,hE,rfl,rfl,⟨a7,hI,by simp only[B6];omega,by simp only[B6];omega,⟨Int.le_refl 0,by simp only[B6];omega⟩,by simp only[B6],λi hi=>?_⟩,⟨by simp only[B6],λi x a hx ha=>?_⟩⟩
 ·simp only[B6]at hi ⊢;have hx:=get_at (l:=L) (i:=i) (by omega);generalize L[i]=x at hx;have a2:=H0 hx;have a3:=(a5 x a2).1;refine⟨_,_,by rw[I9,hx];rfl,by rw[I9,hx];rfl,by rw[B6,Y6];omega,by rw[B6,Y6];omega,λu hu=>?_,λv hv=>?_⟩
  ·obtain⟨a,ha,rfl⟩:=D7.1 hu;obtain⟨j,y,z1,z2,z3⟩:=hF x a a2 (M1.1 ha);have:=(E4.1 z1).1;rw[z3];omega
  ·obtain⟨a,ha,rfl⟩:=D7.1 hv;obtain⟨_,h2,h3,_⟩:=H.at a3 (M1.1 ha);exact⟨h2,h3⟩
 ·obtain⟨j,y,z1,z2,z3⟩:=hF x a (H0 hx) ha;obtain⟨e1,e2⟩:=a9 i x a hx ha;exact⟨y,by rw[e1,z3,O3];exact z1,z2,e2⟩
end
end
section
def L06_Great_any(m:A9):∃b,sE m=some b:=by
 unfold sE;by_cases g1:40<(m.N.length:Int)
 ·exact⟨true,by rw[E6 g1];rfl⟩
 rw[B4 g1];by_cases g2:40<(m.O.length:Int)
 ·exact⟨true,by rw[E6 g2];rfl⟩
 rw[B4 g2,A6];exact⟨_,rfl⟩
def R16_Proper_ok{t:B0}{n:Int}(hP:eY n t)(h1:SmW t.In)(h2:SmW t.O):jI t n=some 0:=by
 have hl:=hP.2.1;unfold SmW at h2;unfold jI;rw[BI _ _ h1,A6,hP.1,B4 (by simp),B4]
 rw[V4 (l:=t.O) (λ_ _=>(none:Option Int)) (λi y hy=>by
  have:=hP.2.2 y (H0 hy)
  simp only[jI.s2]
  rw[K8 hy,G5,C8 hy,C8 hy,B4,I3 (by omega),A6,G0]) (by
  simp only[jI.s2]
  rw[T7]
  rfl) (by omega),V9.2 λ_ _ _=>rfl]
 rfl
def R16_Differ_ok{a b:B0}{n:Int}(ha:eY n a)(hb:eY n b)(h1:SmW a.In)(hag:Agree a b):jJ a b=some (-1):=by
 have a2:a.In.length<=2000000:=h1;have hc:=pT a.In b.In;have la:=ha.2.1;have lb:=hb.2.1;unfold jJ;rw[BO _ _ h1,A6]
 rw[V3 (step:=λk=>jJ.s2 a b (↑(G6 a.In b.In):Int) k) (r:=.inl ()) (λk=>k<=G6 a.In b.In) (λk=>G6 a.In b.In-k) (λk g1=>by
  simp only[jJ.s2]
  by_cases g3:k<G6 a.In b.In
  ·left
   have hx:=get_at (l:=a.O) (i:=k) (by omega)
   have hy:=get_at (l:=b.O) (i:=k) (by omega)
   have e:a.O[k]'(by omega)=b.O[k]'(by omega):=by
    have h2:=congrArg (λl:A2=>l[k]?) hag
    simp only[R5,g3,if_true]at h2
    rw[hx,hy]at h2
    injection h2
   refine⟨k+1,?_,g3,by omega⟩
   rw[E2,C8 hx,C8 hy,B4 (by simpa using e),L0]
  ·right
   rw[B4]) (F7 _)]
 rfl
def R16_apart_ok{o:A7}(hv:J9 o)(ho:SmO o):Z6 o=some 0:=by
 obtain⟨hl,hs⟩:=ho;unfold Z6
 have a3:∀(i:Nat) (a:B0),o.T[i]?=some a->iter (λ(s:Bool×Bool×Nat)=>Z6.s30 o i s.1 s.2.1 s.2.2) fuel (false,false,i+1)=some (false,false):=by
  intro i a ha;have hi:=(E4.1 ha).1;have a5:=H0 ha
  exact V3 (step:=λ(s:Bool×Bool×Nat)=>Z6.s30 o i s.1 s.2.1 s.2.2) (λs=>i<s.2.2/\s.2.2<=o.T.length/\s.1=false/\s.2.1=false) (λs=>o.T.length-s.2.2) (λs ⟨g1,g2,g3,g5⟩=>by
   obtain⟨p,c,k⟩:=s
   simp only at g1 g2 g3 g5
   subst g3
   subst g5
   simp only[Z6.s30]
   by_cases g4:k<o.T.length
   ·left
    have hx:=get_at g4
    have a4:=J3 g4
    have sx:SmW o.T[k].In:=by have:=(hs _ a4).1;unfold SmW;omega
    have sa:SmW a.In:=by have:=(hs _ a5).1;unfold SmW;omega
    obtain⟨n1,n2⟩:=hv.apart i k a _ g1 ha hx
    have a8:(cond false (some true) (idxn o.T k λa2=>idxn o.T i λa6=>(qQ a2.In a6.In).bind λa7=>some a7):Option Bool)=some false:=by
     rw[G0,C8 hx,C8 ha,zu1 _ _ sx,A6,I3 n1]
    refine⟨(false,false,k+1),?_,⟨by simp only;omega,by simp only;omega,rfl,rfl⟩,by simp only;omega⟩
    rw[K8 hx,G5,a8,A6,G0,C8 ha,C8 hx,R16_Differ_ok (hv.prop a a5).1 (hv.prop _ a4).1 sa n2,A6]
    rfl
   ·right
    rw[B4]) (n:=fuel) ⟨by simp only;omega,by simp only;omega,rfl,rfl⟩
 rw[V3 (step:=λi=>Z6.s32 o i) (r:=.inl ()) (λi=>i<=o.T.length) (λi=>o.T.length-i) (λi g1=>by
  simp only[Z6.s32]
  by_cases g3:i<o.T.length
  ·left
   have hx:=get_at g3
   refine⟨i+1,?_,g3,by omega⟩
   rw[K8 hx,G5,a3 i _ hx,A6]
   rfl
  ·right
   rw[B4]) (F7 _)]
 rfl
def R16_Valid_ok{o:A7}(hv:J9 o)(ho:SmO o):jF o=some 0:=by
 have hl:=ho.1;have a5:=hv.inp;have a4:=hv.num;unfold jF;rw[B4,I3 (by omega),A6,G0,B4]
 rw[V4 (l:=o.T) (λ_ _=>(none:Option Int)) (λi t hx=>by
  have ht:=H0 hx
  have hi:=(E4.1 hx).1
  obtain⟨s1,s2⟩:=ho.2 t ht
  obtain⟨hP,a3⟩:=hv.prop t ht
  have sx:SmW t.In:=by unfold SmW;omega
  simp only[jF.s2]
  rw[K8 hx,G5,C8 hx,BI _ _ sx,A6,hP.1,B4 (by simp),B4 (by have:=rA.2 a3;omega),R16_Proper_ok hP sx s2,A6,B4 (by simp)]
  by_cases g:0<i
  ·have a2:=get_at (l:=o.T) (i:=i-1) (by omega)
   have sp:SmW (o.T[i-1]'(by omega)).In:=by have:=(ho.2 _ (J3 (show i-1<o.T.length by omega))).1;unfold SmW;omega
   have hc:=hv.asc (i-1) i _ _ (by omega) a2 hx
   rw[E2,E8 (i:=i-1) (by omega) a2,zy3 _ _ sp,A6,hc,A6]
   rfl
  ·rw[B4,A6,G0]) (by
  simp only[jF.s2]
  rw[T7]
  rfl) (by omega),V9.2 λ_ _ _=>rfl]
 simp only[A6,cS];rw[R16_apart_ok hv ho,A6]
section
variable {m:A9}{t:C6}{o:A7}
def IJ{m:A9}(H:J6 m)(hv:J9 o)(ho:SmO o)(hin:o.I=m.I)(hE:∀t∈o.T,Sym.outs m m.S.toNat t.In=t.O):gY m o=some true:=by
 have hl:=ho.1;have a3:=H.st;have hS:m.S=(m.S.toNat:Int):=by omega
 unfold gY
 rw[V4 (l:=o.T) (λ_ _=>(none:Option Bool)) (λi t hx=>by
  have ht:=H0 hx
  have hP:=(hv.prop t ht).1
  have hw:WOk m.I t.In:=by
   rw[<- hin]
   exact W5 hP.1
  have a2:=tD hP.1
  have hO:=R06_Outs_eq H (s:=m.S.toNat) (by omega) hw (by omega)
  rw[<- hS]at hO
  simp only[gY.s2]
  rw[K8 hx,G5,C8 hx,hO,A6,C8 hx,ES _ _ (by rw[bU];omega),A6,E6 (hE t ht)]
  rfl) (by
  simp only[gY.s2]
  rw[T7]
  rfl) (by omega),V9.2 λ_ _ _=>rfl,A6]
 rfl
def H5.two(H:H5 t o)(hc:∀e∈t.X,e.drop 1∈t.X\/e.drop 1=[]){s u:Nat}(hs:s<(hypT t o).M.N.length)(hu:u<(hypT t o).M.N.length)(hE:∀w,WOk t.I w->Sym.outs (hypT t o).M s w=Sym.outs (hypT t o).M u w):s=u:=by
 rw[H.nlen.1]at hs hu;obtain⟨p,hp,p1,_⟩:=H.state hs;obtain⟨q,hq,q1,_⟩:=H.state hu;subst p1;subst q1
 have a2:rowG t o p=rowG t o q:=by
  have l1:=(dH H.hv (H.row hp)).1;have l2:=(dH H.hv (H.row hq)).1;apply cT;intro i;rcases J0 i t.X.length with hi|hi
  ·have hg:=get_at hi;have he:=J3 hi;rw[mK (H.row hp) hg,mK (H.row hq) hg,<- H.along hc _ (Or.inl he) p hp,<- H.along hc _ (Or.inl he) q hq,hE _ (H.sufs he)]
  ·rw[W8 (by omega),W8 (by omega)]
 unfold stt;rw[a2]
def mEnd_all{M:A9}{s0:Nat}{L:List (Nat×A2)}(hE:MEnd M s0 L):∀(n:Nat) (w:A2),w.length=n->WOk M.I w->dest M s0 w∈L.map Prod.fst
 |0,w,hn,_=>by
  rw[JZ.1 hn];exact D7.2 ⟨_,H0 hE.first,rfl⟩
 |n+1,w,hn,hw=>by
  rcases uZ w with h|⟨v,x,h⟩
  ·rw[h]at hn;cases hn
  ·rw[yM]at h;subst h;have hx:=hw x (by simp);obtain⟨y,hy,e⟩:=D7.1 (mEnd_all hE n v (by simpa using hn) λz hz=>hw z (L5 _ hz));obtain⟨i,hi⟩:=yN.1 hy;obtain⟨j,z,h1,h2,_⟩:=hE.closed (a:=x.toNat) hi (by omega);rw[fM,<- e];exact D7.2 ⟨z,H0 h1,h2⟩
def exact_true(hv:S4 m=0)(HO:H5 t o)(hI:t.I=m.I)(hc:∀e∈t.X,e.drop 1∈t.X\/e.drop 1=[])(hall:∀w,WOk m.I w->Sym.outs (hypT t o).M 0 w=Sym.outs m m.S.toNat w):sP (hypT t o).M m=some true:=by
 have a3:S4 (hypT t o).M=0:=by
  have:=HO.valid6;rw[nN]at this;injection this
 have HM:=dG a3;have hS:(hypT t o).M.S.toNat=0:=rfl;have a2:(hypT t o).M.I=m.I:=hI;have b3:=HM.n2;obtain⟨T,L,e1,TO⟩:=R06_Trim_eq a3;obtain⟨M,e2,S⟩:=R08_Min_sem hv;have hE:=TO.end_;rw[hS]at hE;obtain⟨a9,a4⟩:=mEnd_rng HM HM.n1 hE;have a6:T.I=m.I:=TO.inp.trans a2;have b2:=TO.ok.i1
 have S':MinSem m T:=by
  refine⟨TO.ok,a6,TO.start,λw hw=>?_,λi j hi hj h=>?_,?_⟩
  ·rw[a6]at hw;rw[wR TO w 0 _ hE.first (by rw[a2];exact hw)];exact hall w hw
  ·rw[TO.shape.len]at hi hj;have hx:=get_at hi;have hy:=get_at hj
   have:L[i].1=L[j].1:=HO.two hc (a4 _ (J3 hi)).1 (a4 _ (J3 hj)).1 λw hw=>by
    have hw:WOk (hypT t o).M.I w:=hw;rw[<- wR TO w i _ hx hw,<- wR TO w j _ hy hw];exact h w (by rw[TO.inp];exact hw)
   exact vX hE.nodup (x:=L[i].1) (by rw[I9,hx];rfl) (by rw[I9,hy,this];rfl)
  ·exact shape_can (s0:=0) (by rw[TO.inp];exact hE) TO.shape (by omega)
 have:=minsem_uniq S S';subst this
 have a8:(hypT t o).M.N.length<=L.length:=by
  have h1:=mZ (l:=List.range (hypT t o).M.N.length) (k:=L.map Prod.fst) List.nodup_range λs hs=>by
   have hs:=M1.1 hs;have a5:=hs;rw[HO.nlen.1]at a5;obtain⟨q,hq,q1,_⟩:=HO.state a5;have h2:=mEnd_all hE _ q rfl (W5 ((Z5 (Z7 HO.hz).1).1 q hq))
   rwa [(HO.walk _ q rfl hq).2,q1]at h2
  rwa [Y6,B6]at h1
 have a7:M.N.length=(hypT t o).M.N.length:=by rw[TO.shape.len];omega
 unfold sP;rw[e2,A6,e1,A6];simp only[decide_true,G5];rw[E2 (by rw[a7]),R06_Same_self TO.ok];rfl
end
end
section
section
variable {m:A9}
def lz_new(H:J6 m)(hi:m.I<=4):newT m.I=(⟨m.I,[[]],W4 m.I.toNat⟩,0):=by
 have:=H.i1;unfold newT;rw[if_neg (by omega)]
def lazy_done(hv:S4 m=0)(hn:m.N.length<=12)(hi:m.I<=4):∃r,bX m=some r/\DoneL m r:=by
 have H:=dG hv;have J:=lz_start H hi;have R:=prog_rules hv hn hi;have a2:=muL_le m ⟨m.I,[[]],W4 m.I.toNat⟩ ⟨m.I,[]⟩ false;obtain⟨r,r1,_,r2⟩:=lz_both R R hv hn hi _ _ _ 0 0 false J (G4 _) fuel (by have:=U7;omega);refine⟨r,?_,r2⟩;unfold bX;rw[uD,A6,hv,B4 (by decide),lazy_New_eq,lz_new H hi,A6];simp only;rw[B4 (by decide)];exact r1
def zve(m:A9):tV m=some true:=by
 unfold tV
 have a6:∃b,sH m=some b/\(b=true->m.N.length<=12/\m.I<=4):=by
  unfold sH;by_cases h1:m.N.length<=12
  ·rw[E2];by_cases h2:m.O.length<=12
   ·rw[E2,A6];exact⟨_,rfl,λh=>⟨h1,of_decide_eq_true h⟩⟩
   ·rw[B4,A6];exact⟨_,rfl,λh=>by cases h⟩
  ·rw[B4,A6];exact⟨_,rfl,λh=>by cases h⟩
 obtain⟨b,e,hb⟩:=a6;obtain⟨b2,eg⟩:=L06_Great_any m;rw[e,A6];cases b with
 |false=>rw[jU,G5,A6,G5,xL];rfl
 |true =>
  rw[U0,G0,eg,A6];cases b2 with
  |true=>rw[G5,A6,G5,xL];rfl
  |false =>
   rw[G0,nN,A6,A6];by_cases hv:S4 m=0
   ·obtain⟨hn,hi⟩:=hb rfl;have H:=dG hv;rw[B4 (λh=>h hv)];obtain⟨r,r1,l,o,c,x,HO,J,a2,a5,rfl⟩:=lazy_done hv hn hi;have a4:=J.k2;rw[if_neg aA]at a4;have a3:=HO.mac;have a7:(hL l o).M.I=m.I:=J.inp;rw[r1,A6];simp only;rw[B4 (by simp),HO.valid22,A6,B4 (by simp),R16_Valid_ok J.told.ok J.told.smR,A6,B4 (by simp),HO.minimal J.suf,A6,A6,U0,G0];rw[exact_true hv HO J.inp J.suf a2,A6,G5,E6 J.told.inp,G5,IJ H J.told.ok J.told.smR J.told.inp (λt ht=>(J.told.ex t ht).symm),A6,G5]
    rw[IJ a3 J.told.ok J.told.smR (by rw[a7];exact J.told.inp) (λu hu=>by
     show Sym.outs (hL l o).M 0 u.In=u.O
     rw[a2 u.In (by rw[<- J.told.inp];exact W5 (J.told.ok.prop u hu).1.1)]
     exact(J.told.ex u hu).symm),A6,G5,E2,E2 (by rw[a5];omega),xL]
    rfl
   ·rw[E2 (by exact hv),xL];rfl
end
end
def zsj(x0:A9)(_:GN x0)(_:HP x0<=1048576):tV x0=some true :=
 zve x0
def eI{X:St}{src:List (Nat×Option Nat)}{E:Nat->Nat}{t:Nat}{y b:IV}(h1:X.av t=.im y)(h2:AV.im y=.im b):∃x,X.av t=x/\SubR X src E x (.im b):=⟨.im y,h1,.im (Sub.rfl' h2)⟩
def odt{p:Prop}[Decidable p](h:decide p=true):p:=of_decide_eq_true h
def odf{p:Prop}[Decidable p](h:decide p=false):¬p:=of_decide_eq_false h
def ctd{V:Type}{p:Prop}[Decidable p]{x y z:V}(hb:decide p=true)(h:cond (decide p) x y=z):x=z/\p:=⟨cond_t hb h,odt hb⟩
def cfd{V:Type}{p:Prop}[Decidable p]{x y z:V}(hb:decide p=false)(h:cond (decide p) x y=z):y=z/\¬p:=⟨cond_f hb h,odf hb⟩
def hT{X:St}:Holds X True:=Holds.true_ _
abbrev lZ{V:Type}(l:List V):Prop:=List.length l<=17592186044416
def eA{X:St}{avs:List (Nat×AV)}{kds:List (Nat×Kd)}{cels:List (Nat×Nat×AV)}(src:List (Nat×Option Nat))(hn:ndB (srcs src) []=true:=by exact rfl)(ha:SubL X src (gnM kds) avs:=by repeat' (first|exact trivial|refine⟨eI rfl rfl,?_⟩|refine⟨⟨.own _ _ _,rfl,.own rfl rfl rfl⟩,?_⟩|refine⟨⟨.osl _ _,rfl,.osl rfl rfl rfl⟩,?_⟩|refine⟨⟨.im (.val (.slice none 0 0)),rfl,.made rfl rfl⟩,?_⟩|refine⟨⟨.sub _ _ _,rfl,.sub rfl rfl⟩,?_⟩|refine⟨⟨.osv _ _ _ _,rfl,.osv rfl rfl rfl⟩,?_⟩|refine⟨⟨.agg [.osl _ _],rfl,.agg (.cons (.osl rfl rfl rfl) (.nil))⟩,?_⟩))(hk:KdL X src kds:=by repeat' (first|exact trivial|refine⟨.inl ⟨_,rfl,rfl,trivial⟩,?_⟩|refine⟨.inl ⟨_,rfl,rfl,⟨rfl,rfl⟩⟩,?_⟩|refine⟨.inr ⟨rfl,rfl,.inl ⟨_,_,rfl,by decide⟩⟩,?_⟩|refine⟨.inr ⟨rfl,rfl,.inr (.inl ⟨_,_,_,rfl⟩)⟩,?_⟩))(hc:CeL X src (gnM kds) cels:=by repeat' (first|exact trivial|refine⟨⟨_,.im _,rfl,rfl,.im (Sub.rfl' rfl)⟩,?_⟩|refine⟨⟨_,.own _ _ _,rfl,rfl,.own rfl rfl rfl⟩,?_⟩|refine⟨⟨_,.osl _ _,rfl,rfl,.osl rfl rfl rfl⟩,?_⟩|refine⟨⟨_,.im (.val (.slice none 0 0)),rfl,rfl,.made rfl rfl⟩,?_⟩)):Ent X (mkSt avs kds cels):=Ent.mk src hn ha hk hc
def C0{S R:Type}{step:S->Option (S⊕R)}{r:R}{k:Nat}{x:R}(h:Fin step r k (.inr x)):x=r:=h
def B5{V:Type}{p:Prop}[Decidable p]{x y z:V}{A B:Prop}(h:cond (decide p) x y=z)(k:decide p=true->x=z->p->A)(l:decide p=false->y=z->¬p->B):Both (decide p) A B:=.mk (λe=>k e (ctd e h).1 (ctd e h).2) λe=>l e (cfd e h).1 (cfd e h).2
def aS{V:Type}{p:Prop}[Decidable p]{x y z:V}{A B:Prop}(h:cond (decide p) x y=z)(k:decide p=true->x=z->p->A)(l:decide p=false->y=z->¬p->B):Both (decide p==true) A B:=.mk (λe=>k (beq_tt e) (ctd (beq_tt e) h).1 (ctd (beq_tt e) h).2) λe=>l (beq_tf e) (cfd (beq_tf e) h).1 (cfd (beq_tf e) h).2
def Y8{V:Type}{p:Prop}[Decidable p]{x y z:V}{A B:Prop}(h:cond (decide p) x y=z)(k:decide p=false->y=z->¬p->A)(l:decide p=true->x=z->p->B):Both (decide p==false) A B:=.mk (λe=>k (beq_ff e) (cfd (beq_ff e) h).1 (cfd (beq_ff e) h).2) λe=>l (beq_ft e) (ctd (beq_ft e) h).1 (ctd (beq_ft e) h).2
def H4{V:Type}{b:Bool}{x y z:V}{A B:Prop}(h:cond b x y=z)(k:b=true->x=z->A)(l:b=false->y=z->B):Both b A B:=.mk (λe=>k e (cond_t e h)) λe=>l e (cond_f e h)
def iN{V:Type}{b:Bool}{x y z:V}{A B:Prop}(h:cond b x y=z)(k:b=true->x=z->A)(l:b=false->y=z->B):Both (b==true) A B:=.mk (λe=>k (beq_tt e) (cond_t (beq_tt e) h)) λe=>l (beq_tf e) (cond_f (beq_tf e) h)
def iM{V:Type}{b:Bool}{x y z:V}{A B:Prop}(h:cond b x y=z)(k:b=false->y=z->A)(l:b=true->x=z->B):Both (b==false) A B:=.mk (λe=>k (beq_ff e) (cond_f (beq_ff e) h)) λe=>l (beq_ft e) (cond_t (beq_ft e) h)
def F8{V G:Type}{l:List V}{c:V->List IV}{i:Nat}{F:V->Option G}{r:G}{Z:Option Nat}{K:List IV->Prop}(h:idxn l i F=some r)(k:∀x,l[i]?=some x->F x=some r->K (c x))(hz:∀x,Z=some (c x).length:=by exact λ_=>rfl):∃e,(0<=(i:Int)/\(l.map c)[(i:Int).toNat]?=some e/\Z=some e.length)/\K e:=by
 obtain⟨x,hx,h⟩:=aZ h;exact⟨c x,⟨by omega,P7 hx,hz x⟩,k x hx h⟩
def K1{V G:Type}{l:List V}{c:V->List IV}{i:Int}{F:V->Option G}{r:G}{Z:Option Nat}{K:List IV->Prop}(h:idx l i F=some r)(k:∀x,0<=i->l[i.toNat]?=some x->F x=some r->K (c x))(hz:∀x,Z=some (c x).length:=by exact λ_=>rfl):∃e,(0<=i/\(l.map c)[i.toNat]?=some e/\Z=some e.length)/\K e:=by
 obtain⟨x,h0,hx,h⟩:=cN h;exact⟨c x,⟨h0,P7 hx,hz x⟩,k x h0 hx h⟩
def H1{S R:Type}{step:S->Option (S⊕R)}{n:Nat}{s0:S}{r:R}(h:Sym.iter step n s0=some r)(st:S->St)(J:S->Prop){body:(Exit->St->Prop)->St->Prop}{K:Exit->St->Prop}{X:St}(e0:Ent X (st s0))(hJ:∀s,Holds (st s) (J s))
 (hb:∀k s o,J s->step s=some o->Fin step r k o->body (λe X'=>match e with|.normal=>Nxt step r st k X'|e=>K e X') (st s)):gE body K X:=gE.iter step st J h e0 hJ hb
def D1{P:Program}{f:FuncId}{fn:Func}{c:Code}{xs:List Arg}{r:Rs}(own:List Nat)(h:OkAs xs->frcW (entW xs) 0 sig0 λ_ X=>bC P (SpX P) fn.ntmps own c (retK P fn.results.toList xs r) X)(hm:P.follows .mixedOrders=true:=by exact rfl)(hf:P.funcs[f]?=some fn:=by exact rfl)(hname:(fn.name=="runtime.NumGoroutine")=false:=by exact rfl)(hb:fn.body=some c:=by exact rfl)
 (hn:xs.length<=fn.ntmps:=by exact xU rfl) (hok:entOk xs=true:=by exact rfl):Sp P f xs r:=sp_of hm own hf hname hb hn hok h
def Q6{J:Prop}{Z:Type}(oc:Unit⊕Z)(st:St){body:(St->Prop)->Prop}{rest:St->Prop}(hJ:Holds st J)(h:body (J5 oc λ_=>st))(k:∀y:Unit,oc=.inl y->J->rest st):Cut body rest:=W9 oc (λ_=>st) (λ_=>J) (λ_=>hJ) h k
def zzR_{x:Int}(h:-9223372036854775808<=x/\x<=9223372036854775807):inR x:=h
abbrev C1(x:Int):AV:=.im (nI x)
abbrev B8(x:Nat):AV:=.im (nI (x:Int))
abbrev J1(x:Bool):AV:=.im (nB x)
abbrev C7(x:List IV):AV:=.im (.ref x)
abbrev C3{V:Type}(c:V->List IV)(l:List V):AV:=.im (nL c l)
def zid:List Nat->List (Nat×Option Nat)
 |[]=>[]
 |a::l=>(a,some a)::zid l
def K9:List Nat->List (Nat×Option Nat)
 |a::b::l=>(a,some b)::K9 l
 |_=>[]
def idk:List (Nat×Kd)->List (Nat×Option Nat)
 |[]=>[]
 |a::l=>(a.1,some a.1)::idk l
def eZ{X:St}{avs:List (Nat×AV)}{kds:List (Nat×Kd)}{cels:List (Nat×Nat×AV)}(hn:ndB (srcs (idk kds)) []=true:=by exact rfl)(ha:SubL X (idk kds) (gnM kds) avs:=by repeat' (first|exact trivial|refine⟨eI rfl rfl,?_⟩|refine⟨⟨.own _ _ _,rfl,.own rfl rfl rfl⟩,?_⟩|refine⟨⟨.osl _ _,rfl,.osl rfl rfl rfl⟩,?_⟩|refine⟨⟨.im (.val (.slice none 0 0)),rfl,.made rfl rfl⟩,?_⟩|refine⟨⟨.sub _ _ _,rfl,.sub rfl rfl⟩,?_⟩|refine⟨⟨.osv _ _ _ _,rfl,.osv rfl rfl rfl⟩,?_⟩|refine⟨⟨.agg [.osl _ _],rfl,.agg (.cons (.osl rfl rfl rfl) (.nil))⟩,?_⟩))(hk:KdL X (idk kds) kds:=by repeat' (first|exact trivial|refine⟨.inl ⟨_,rfl,rfl,trivial⟩,?_⟩|refine⟨.inl ⟨_,rfl,rfl,⟨rfl,rfl⟩⟩,?_⟩))(hc:CeL X (idk kds) (gnM kds) cels:=by repeat' (first|exact trivial|refine⟨⟨_,.im _,rfl,rfl,.im (Sub.rfl' rfl)⟩,?_⟩|refine⟨⟨_,.own _ _ _,rfl,rfl,.own rfl rfl rfl⟩,?_⟩|refine⟨⟨_,.osl _ _,rfl,rfl,.osl rfl rfl rfl⟩,?_⟩|refine⟨⟨_,.im (.val (.slice none 0 0)),rfl,rfl,.made rfl rfl⟩,?_⟩)):Ent X (mkSt avs kds cels):=Ent.mk (idk kds) hn ha hk hc
def U5{V G:Type}{X:Option V}{F:V->Option G}{r:G}{J:V->Prop}(h:X.bind F=some r)(st:V->St){body:(St->Prop)->Prop}{rest:St->Prop}(hJ:∀y,Holds (st y) (J y))(k:∀y,F y=some r->J y->rest (st y))(hb:∀y,X=some y->body (Join (st y)):=by intro y h;repeat' ((try conv=>whnf);first|refine B3 (by assumption) ?_|refine C4 (by assumption) ?_|refine B3 (J2 (by assumption)) ?_|refine C4 (T5 (by assumption)) ?_|refine B3 (H9 (by assumption)) ?_|refine C4 (V2 (by assumption)) ?_|refine B3 rfl ?_|refine C4 rfl ?_|refine B5 h (λ_ h _=>?_) λ_ h _=>?_|refine Y8 h (λ_ h _=>?_) λ_ h _=>?_|refine aS h (λ_ h _=>?_) λ_ h _=>?_|refine H4 h (λ_ h=>?_) λ_ h=>?_|refine iM h (λ_ h=>?_) λ_ h=>?_|refine iN h (λ_ h=>?_) λ_ h=>?_|refine F8 h λ_ _ h=>?_|refine K1 h λ_ _ _ h=>?_|refine B1 _ B9 ?_|refine A3 rfl ?_|(cases h;exact D8 eZ))):Cut body rest:=by
 obtain⟨y,hc,h⟩:=A5 h;exact Cut.mk (st y) (J y) (hJ y) (hb y hc) (k y h)
def I4{J:Prop}(s:St){body:(St->Prop)->Prop}{rest:St->Prop}(hJ:Holds s J)(h:body (Join s))(k:J->rest s):Cut body rest:=Cut.mk s J hJ h k
def sp_L24_Small(m_:A9)(r:Bool)(h:sH m_=some r):Sp Tryz.prog 5 [.im (.agg (G7 m_))] (.im (nB r)):=by
 refine D1 [700001] λhk=>?_;have z1:lZ m_.N:=A8 (B7 hk.1 2 rfl);have z2:lZ m_.O:=A8 (B7 hk.1 3 rfl);unfold sH at h;refine U5 h (λa2=>mkSt [(2,J1 a2)] [] []) (λ_=>hT) λa2 h hp=>?_;cases h;exact⟨rfl,rfl⟩
def sp_L06_Great(m_:A9)(r:Bool)(h:sE m_=some r):Sp Tryz.prog 11 [.im (.agg (G7 m_))] (.im (nB r)):=by
 refine D1 [700001] λhk=>?_;have z1:lZ m_.N:=A8 (B7 hk.1 2 rfl);have z2:lZ m_.O:=A8 (B7 hk.1 3 rfl);unfold sE at h;refine U5 h (λa2=>mkSt [(2,J1 a2)] [] []) (λ_=>hT) λa2 h hp=>?_;cases h;exact⟨rfl,rfl⟩
def sp_R06_row(m_:A9)(s_ r:Int)(h:aW m_ s_=some r):Sp Tryz.prog 37 [.im (.agg (G7 m_)),.im (nI s_)] (.im (nI r)):=by
 refine D1 [700002] λhk=>?_;have z1:lZ m_.N:=A8 (B7 hk.1 2 rfl);have z2:lZ m_.O:=A8 (B7 hk.1 3 rfl);unfold aW at h;refine U5 h (λb4=>mkSt [(1,C1 s_),(2,C7 (G7 m_)),(25,J1 b4)] [] []) (λ_=>hT) λb4 h hp=>?_;refine H4 h (λb5 h=>?_) λb5 h=>?_;cases h;exact⟨rfl,rfl⟩;obtain⟨oc,h,a4⟩:=A5 h;refine Q6 oc (mkSt [] [] []) hT ?_ ?_;refine H1 h (λa2=>mkSt [(1,C1 s_),(2,C7 (G7 m_)),(5,B8 a2)] [] []) (λa2=>True) eZ (λ_=>hT) ?_;rintro k a2 o hp h a3;unfold aW.s2 at h;refine B5 h (λa8 h a6=>?_) λa8 h a6=>?_;refine U5 h (λa7=>mkSt [(1,C1 s_),(2,C7 (G7 m_)),(5,B8 a2),(76,J1 a7)] [] []) (λ_=>hT) λa7 h hp=>?_;refine H4 h (λb2 h=>?_) λb2 h=>?_;cases h;cases C0 a3;replace h:some _=some _:=a4;cases h;exact⟨rfl,rfl⟩;obtain⟨b3,h⟩:=D5 h;refine D2.mk b3 ?_;cases h;exact E7 _ a3 eZ;cases h;cases C0 a3;exact J5.mk' _ rfl eZ;rintro⟨⟩ rfl hp;replace h:=K5 a4;cases h;exact⟨rfl,rfl⟩
def tO(m_:A9)(r:Int)(h:S6 m_=some r):Sp Tryz.prog 12 [.im (.agg (G7 m_))] (.im (nI r)):=by
 refine D1 [700001] λhk=>?_;have z1:lZ m_.N:=A8 (B7 hk.1 2 rfl);have z2:lZ m_.O:=A8 (B7 hk.1 3 rfl);unfold S6 at h;refine U5 h (λb4=>mkSt [(1,C7 (G7 m_)),(12,J1 b4)] [] []) (λ_=>hT) λb4 h hp=>?_;refine H4 h (λb6 h=>?_) λb6 h=>?_;cases h;exact⟨rfl,rfl⟩;refine B1 m_.N.length B9<|B5 h (λb7 h a6=>?_) λb7 h a6=>?_;cases h;exact⟨rfl,rfl⟩;refine B1 m_.N.length B9<|B5 h (λb8 h a7=>?_) λb8 h a7=>?_;cases h;exact⟨rfl,rfl⟩;refine U5 h (λb5=>mkSt [(1,C7 (G7 m_)),(31,J1 b5)] [] []) (λ_=>hT) λb5 h hp=>?_;refine H4 h (λb9 h=>?_) λb9 h=>?_;cases h;exact⟨rfl,rfl⟩;refine B1 m_.O.length B9<|B1 m_.N.length B9<|B5 h (λc0 h a8=>?_) λc0 h a8=>?_;cases h;exact⟨rfl,rfl⟩;obtain⟨oc,h,a4⟩:=A5 h;refine Q6 oc (mkSt [] [] []) hT ?_ ?_;refine H1 h (λa2=>mkSt [(1,C7 (G7 m_)),(3,B8 a2)] [] []) (λa2=>True) eZ (λ_=>hT) ?_;rintro k a2 o hp h a3;unfold S6.s2 at h;refine B1 m_.N.length B9<|B5 h (λc6 h b2=>?_) λc6 h b2=>?_;obtain⟨c7,a5,h⟩:=A5 h;refine⟨_,sp_R06_row m_ (a2:Int) c7 a5,?_⟩;refine B5 h (λc8 h b3=>?_) λc8 h b3=>?_;cases h;cases C0 a3;replace h:some _=some _:=a4;cases h;exact⟨rfl,rfl⟩;refine D2.mk (zzR_ (by omega)) ?_;cases h;exact E7 _ a3 eZ;cases h;cases C0 a3;exact J5.mk' _ rfl eZ;rintro⟨⟩ rfl hp;replace h:=K5 a4;cases h;exact⟨rfl,rfl⟩
def xT(a_ b_:A2)(r:Int)(h:fJ a_ b_=some r):Sp Tryz.prog 113 [.im (nL cI a_),.im (nL cI b_)] (.im (nI r)):=by
 refine D1 [] λhk=>?_;have z1:lZ a_:=A8 hk.1;have z2:lZ b_:=A8 hk.2.1;unfold fJ at h;obtain⟨a7,h,a4⟩:=A5 h;refine I4 (mkSt [(5,B8 a7)] [] []) hT ?_ λhp=>?_;refine H1 h (λa2=>mkSt [(0,C3 cI a_),(1,C3 cI b_),(5,B8 a2)] [] []) (λa2=>lZ a_/\lZ b_/\True) eZ (λa2=>((C5 0 rfl).and ((C5 1 rfl).and hT))) ?_;rintro k a2 o hp h a3;unfold fJ.s2 at h;obtain⟨b3,b4,_⟩:=hp;refine U5 h (λa6=>mkSt [(0,C3 cI a_),(1,C3 cI b_),(5,B8 a2),(26,J1 a6)] [] []) (λ_=>((C5 0 rfl).and ((C5 1 rfl).and hT))) λa6 h hp=>?_;obtain⟨b5,b6,_⟩:=hp;refine H4 h (λa8 h=>?_) λa8 h=>?_;obtain⟨b2,h⟩:=D5 h;refine D2.mk b2 ?_;cases h;exact E7 _ a3 eZ;cases h;cases C0 a3;exact D8 eZ;replace h:=a4;cases h;exact⟨rfl,rfl⟩
def sp_R01_Same(a_ b_:A2)(r:Bool)(h:R01_Same a_ b_=some r):Sp Tryz.prog 60 [.im (nL cI a_),.im (nL cI b_)] (.im (nB r)):=by
 refine D1 [] λhk=>?_;have z1:lZ a_:=A8 hk.1;have z2:lZ b_:=A8 hk.2.1;unfold R01_Same at h;obtain⟨a7,h,a3⟩:=A5 h;refine I4 (mkSt [(4,J1 a7)] [] []) hT ?_ λhp=>?_;refine B1 a_.length B9<|B1 b_.length B9<|aS h (λa2 h a6=>?_) λa2 h a6=>?_
 iterate 2 (refine B3 (H9 a2) ?_)
 obtain⟨a8,a4,h⟩:=A5 h;refine⟨_,xT a_ b_ a8 a4,?_⟩
 iterate 2 (refine B3 (H9 a2) ?_)
 refine B1 a_.length B9<|B3 (H9 a2)<|B3 a2 ?_;cases h;exact D8 eZ
 iterate 5 (refine C4 (V2 a2) ?_)
 refine C4 a2 ?_;cases h;exact D8 eZ;replace h:=a3;cases h;exact⟨rfl,rfl⟩
def CJ(a_ b_:A4)(r:Bool)(h:lT a_ b_=some r):Sp Tryz.prog 23 [.im (nL (cL cI) a_),.im (nL (cL cI) b_)] (.im (nB r)):=by
 refine D1 [] λhk=>?_;have z1:lZ a_:=A8 hk.1;have z2:lZ b_:=A8 hk.2.1;unfold lT at h;refine B1 a_.length B9<|B1 b_.length B9<|B5 h (λa8 h a6=>?_) λa8 h a6=>?_;cases h;exact⟨rfl,rfl⟩;obtain⟨oc,h,a4⟩:=A5 h;refine Q6 oc (mkSt [] [] []) hT ?_ ?_;refine H1 h (λa2=>mkSt [(0,C3 (cL cI) a_),(1,C3 (cL cI) b_),(5,B8 a2)] [] []) (λa2=>lZ a_/\lZ b_/\True) eZ (λa2=>((C5 0 rfl).and ((C5 1 rfl).and hT))) ?_;rintro k a2 o hp h a3;unfold lT.s2 at h;obtain⟨b7,b8,_⟩:=hp;refine B1 a_.length B9<|B5 h (λb2 h a7=>?_) λb2 h a7=>?_;refine F8 h λb3 b9 h=>?_;refine F8 h λb4 a9 h=>?_;obtain⟨b5,a5,h⟩:=A5 h;refine⟨_,sp_R01_Same b3 b4 b5 a5,?_⟩;refine H4 h (λb6 h=>?_) λb6 h=>?_;cases h;cases C0 a3;replace h:some _=some _:=a4;cases h;exact⟨rfl,rfl⟩;refine D2.mk (zzR_ (by omega)) ?_;cases h;exact E7 _ a3 eZ;cases h;cases C0 a3;exact J5.mk' _ rfl eZ;rintro⟨⟩ rfl hp;replace h:=K5 a4;cases h;exact⟨rfl,rfl⟩
def sp_table_New(inputs_:Int)(r:C6×Int)(h:jB inputs_=some r):Sp Tryz.prog 46 [.im (nI inputs_)] (.tup [.agg (N9 r.1),nI r.2]):=by
 refine D1 [] λhk=>?_;unfold jB at h;obtain⟨b3,h,a5⟩:=A5 h;refine I4 (mkSt [(0,C1 inputs_),(2,.own 64 1 0),(11,J1 b3)] [(64,.box 91 3)] [(64,0,.im (nI 0)),(64,1,.im (.val (.slice none 0 0))),(64,2,.im (.val (.slice none 0 0)))]) hT ?_ λhp=>?_;refine Y8 h (λa7 h a8=>?_) λa7 h a8=>?_;refine B3 (J2 a7)<|C4 a7 ?_;cases h;exact D8 (eA (K9 [64,2]));refine C4 (T5 a7)<|B3 a7 ?_;cases h;exact D8 (eA (K9 [64,2]));replace h:=a5;refine H4 h (λb4 h=>?_) λb4 h=>?_;refine A3 rfl ?_;cases h;refine A3 ⟨rfl,trivial⟩ ?_;exact⟨rfl,rfl⟩;refine A3 rfl ?_;obtain⟨b5,h,a4⟩:=A5 h;refine I4 (mkSt [(2,.own 64 1 0),(4,.own 65 1 0)] [(64,.box 91 3),(65,.box 91 3),(66,.row 51 1 (List.map (cL cI) b5))] [(64,0,.im (nI 0)),(64,1,.im (.val (.slice none 0 0))),(64,2,.im (.val (.slice none 0 0))),(65,0,.im (nI inputs_)),(65,1,.im (nL (cL cI) [[]])),(65,2,.osl 66 1)]) ((Holds.cel 65 1 rfl (by decide) rfl).and ((Holds.kdl 66 rfl).and hT)) ?_ λhp=>?_;refine H1 h (λ(a2,a6)=>mkSt [(2,.own 64 1 0),(4,.own 65 1 0),(17,C1 inputs_),(18,B8 a6)] [(64,.box 91 3),(65,.box 91 3),(66,.row 51 1 (List.map (cL cI) a2))] [(64,0,.im (nI 0)),(64,1,.im (.val (.slice none 0 0))),(64,2,.im (.val (.slice none 0 0))),(65,0,.im (nI inputs_)),(65,1,.im (nL (cL cI) [[]])),(65,2,.osl 66 1)]) (λ(a2,a6)=>List.length [[]]<=17592186044416/\lZ a2/\True) (eA [(64,some 64),(65,some 4),(66,none)]) (λ⟨a2,a6⟩=>((Holds.cel 65 1 rfl (by decide) rfl).and ((Holds.kdl 66 rfl).and hT))) ?_;rintro k ⟨a2,a6⟩ o hp h a3;change jB.s2 inputs_ a2 a6=_ at h;unfold jB.s2 at h;obtain⟨b9,c0,_⟩:=hp;refine B5 h (λb6 h b2=>?_) λb6 h b2=>?_;refine A3 rfl<|A3 rfl ?_;obtain⟨b7,h⟩:=D5 h;refine A3 ⟨rfl,K6 (l:=[[(a6:Int)]]) (c:=cL cI) λ_=>rfl,show E0 _ 24 by simpa only[B6,E9,L2,F9]using b7⟩ ?_;refine B1 (List.map (cL cI) (a2++[[(a6:Int)]])) (O9 (l:=a2) (m:=[[(a6:Int)]]) (c:=cL cI)) ?_;refine A3 rfl<|A3 rfl ?_;obtain⟨b8,h⟩:=D5 h;refine D2.mk b8 ?_;cases h;exact E7 _ a3 eZ;cases h;cases C0 a3;exact D8 eZ;replace h:=a4;obtain⟨c6,c7,_⟩:=hp;refine A3 rfl<|A3 rfl ?_;cases h;refine A3 ⟨rfl,trivial⟩ ?_;exact A3 ⟨rfl,trivial⟩ ⟨rfl,rfl⟩
def AU(inputs_:Int)(r:E1×Int)(h:mS inputs_=some r):Sp Tryz.prog 18 [.im (nI inputs_)] (.tup [.agg (W0 r.1),nI r.2]):=by
 refine D1 [] λhk=>?_;unfold mS at h;obtain⟨a6,a3,h⟩:=A5 h;refine⟨_,sp_table_New inputs_ a6 a3,?_⟩;refine A3 rfl<|B5 h (λa7 h a2=>?_) λa7 h a2=>?_;refine A3 rfl ?_;cases h;refine A3 ⟨rfl,trivial⟩ ?_;exact⟨rfl,rfl⟩;refine A3 rfl<|A3 rfl<|A3 rfl<|A3 rfl<|A3 rfl ?_;cases h;refine A3 ⟨rfl,trivial⟩ ?_;exact⟨rfl,rfl⟩
def sp_L23_Gate(r:A7)(h:L23_Gate=some r):Sp Tryz.prog 20 [] (.im (.agg (N4 r))):=by
 refine D1 [] λhk=>?_;unfold L23_Gate at h;refine A3 rfl ?_;cases h;refine A3 ⟨rfl,trivial⟩ ?_;exact⟨rfl,rfl⟩
def zgl(x_:A4)(target_:A2)(cmp_:(A2)->(A2)->Option Int)(f2_:FuncId)(hf2:∀x0 x1 r,cmp_ x0 x1=some r->Sp Tryz.prog f2_ [.im (nL cI x0),.im (nL cI x1)] (.im (nI r)))(r:Int×Bool)(h:iD x_ target_ cmp_=some r):Sp Tryz.prog 92 [.im (nL (cL cI) x_),.im (nL cI target_),.im (.fn f2_ [])] (.tup [nI r.1,nB r.2]):=by
 refine D1 [] λhk=>?_;have z1:lZ x_:=A8 hk.1;have z2:lZ target_:=A8 hk.2.1;unfold iD at h;refine B1 x_.length B9 ?_;obtain⟨d1,h,d6⟩:=A5 h;refine I4 (mkSt [(0,C3 (cL cI) x_),(1,C3 cI target_),(2,.im (.fn f2_ [])),(8,C1 (x_.length:Int)),(9,C1 d1)] [] []) ((C5 0 rfl).and ((C5 1 rfl).and hT)) ?_ λhp=>?_;refine H1 h (λ(a6,a7)=>mkSt [(0,C3 (cL cI) x_),(1,C3 cI target_),(2,.im (.fn f2_ [])),(8,C1 (x_.length:Int)),(9,C1 a6),(10,C1 a7)] [] []) (λ(a6,a7)=>lZ x_/\lZ target_/\True) eZ (λ⟨a6,a7⟩=>((C5 0 rfl).and ((C5 1 rfl).and hT))) ?_;rintro k ⟨a6,a7⟩ o hp h a3;change iD.s2 x_ target_ cmp_ a6 a7=_ at h;unfold iD.s2 at h;obtain⟨d2,d3,_⟩:=hp;refine B5 h (λb4 h a8=>?_) λb4 h a8=>?_;obtain⟨b5,h⟩:=D5 h;refine D2.mk b5 ?_;obtain⟨b6,h⟩:=D5 h;refine A3 b6 ?_;obtain⟨b7,h⟩:=D5 h;refine A3 ⟨⟨by show(0:Int)<=(a6+a7) / 2^1;omega,by show(a6+a7) / 2^1<=(18446744073709551615:Int);omega⟩,b7.1,by decide,by decide⟩ ?_;obtain⟨b8,h⟩:=D5 h;refine A3 b8<|K1 h λb9 d7 d9 h=>?_;obtain⟨c0,a4,h⟩:=A5 h;refine⟨_,hf2 b9 target_ c0 a4,?_⟩;refine B5 h (λc6 h b2=>?_) λc6 h b2=>?_;obtain⟨c7,h⟩:=D5 h;refine D2.mk c7 ?_;cases h;exact E7 _ a3 eZ;cases h;exact E7 _ a3 eZ;cases h;cases C0 a3;exact D8 eZ;replace h:=d6;obtain⟨d4,d5,_⟩:=hp;obtain⟨c8,h,a9⟩:=A5 h;refine I4 (mkSt [(6,C1 d1),(7,J1 c8)] [] []) hT ?_ λhp=>?_;refine aS h (λa2 h b3=>?_) λa2 h b3=>?_
 iterate 3 (refine B3 (H9 a2) ?_)
 refine K1 h λc9 d8 e0 h=>?_
 iterate 3 (refine B3 (H9 a2) ?_)
 obtain⟨d0,a5,h⟩:=A5 h;refine⟨_,hf2 c9 target_ d0 a5,?_⟩;refine B3 (H9 a2)<|B3 a2 ?_;cases h;exact D8 eZ
 iterate 7 (refine C4 (V2 a2) ?_)
 refine C4 a2 ?_;cases h;exact D8 eZ;replace h:=a9;cases h;exact⟨rfl,rfl⟩
def IW(x_:Int)(r:Bool)(h:cmp_isNaN_int x_=some r):Sp Tryz.prog 204 [.im (nI x_)] (.im (nB r)):=by
 refine D1 [] λhk=>?_;unfold cmp_isNaN_int at h;cases h;exact⟨rfl,rfl⟩
def JO(x_ y_ r:Int)(h:cmp_Compare_int x_ y_=some r):Sp Tryz.prog 149 [.im (nI x_),.im (nI y_)] (.im (nI r)):=by
 refine D1 [] λhk=>?_;unfold cmp_Compare_int at h;obtain⟨a7,a4,h⟩:=A5 h;refine⟨_,IW x_ a7 a4,?_⟩;obtain⟨a8,a3,h⟩:=A5 h;refine⟨_,IW y_ a8 a3,?_⟩;refine H4 h (λb2 h=>?_) λb2 h=>?_;refine H4 h (λb3 h=>?_) λb3 h=>?_;cases h;exact⟨rfl,rfl⟩;cases h;exact⟨rfl,rfl⟩;refine H4 h (λb4 h=>?_) λb4 h=>?_;cases h;exact⟨rfl,rfl⟩;refine B5 h (λb5 h a2=>?_) λb5 h a2=>?_;cases h;exact⟨rfl,rfl⟩;refine B5 h (λb6 h a6=>?_) λb6 h a6=>?_;cases h;exact⟨rfl,rfl⟩;cases h;exact⟨rfl,rfl⟩
def JX(s1_ s2_:A2)(r:Int)(h:iC s1_ s2_=some r):Sp Tryz.prog 150 [.im (nL cI s1_),.im (nL cI s2_)] (.im (nI r)):=by
 refine D1 [] λhk=>?_;have z1:lZ s1_:=A8 hk.1;have z2:lZ s2_:=A8 hk.2.1;unfold iC at h;refine B1 s1_.length B9 ?_;obtain⟨oc,h,a4⟩:=A5 h;refine W9 oc (Y:=Unit) (λ(_:Unit)=>mkSt [(0,C3 cI s1_),(1,C3 cI s2_)] [] []) (λ(_:Unit)=>lZ s1_/\lZ s2_/\True) (by rintro⟨⟩;exact((C5 0 rfl).and ((C5 1 rfl).and hT))) ?_ ?_;refine H1 h (λa2=>mkSt [(0,C3 cI s1_),(1,C3 cI s2_),(9,C3 cI s1_),(10,C1 (s1_.length:Int)),(11,B8 a2)] [] []) (λa2=>lZ s1_/\lZ s2_/\True) eZ (λa2=>((C5 0 rfl).and ((C5 1 rfl).and hT))) ?_;rintro k a2 o hp h a3;unfold iC.s2 at h;obtain⟨c0,c6,_⟩:=hp;refine B5 h (λb3 h a6=>?_) λb3 h a6=>?_;refine F8 h λb4 c9 h=>?_;refine B1 s2_.length B9<|B5 h (λb5 h a7=>?_) λb5 h a7=>?_;cases h;cases C0 a3;replace h:some _=some _:=a4;cases h;exact⟨rfl,rfl⟩;refine F8 h λb6 a9 h=>?_;obtain⟨b7,a5,h⟩:=A5 h;refine⟨_,JO b4 b6 b7 a5,?_⟩;refine B5 h (λb8 h a8=>?_) λb8 h a8=>?_;cases h;cases C0 a3;replace h:some _=some _:=a4;cases h;exact⟨rfl,rfl⟩;refine D2.mk (zzR_ (by omega)) ?_;cases h;exact E7 _ a3 eZ;cases h;cases C0 a3;exact J5.mk' _ rfl eZ;rintro⟨⟩ rfl hp;replace h:=K5 a4;obtain⟨c7,c8,_⟩:=hp;refine B1 s1_.length B9<|B1 s2_.length B9<|B5 h (λb9 h b2=>?_) λb9 h b2=>?_;cases h;exact⟨rfl,rfl⟩;cases h;exact⟨rfl,rfl⟩
def sp_cmp_Or_int(vals_:A2)(r:Int)(h:fI vals_=some r):Sp Tryz.prog 148 [.im (nL cI vals_)] (.im (nI r)):=by
 refine D1 [] λhk=>?_;have z1:lZ vals_:=A8 hk.1;unfold fI at h;refine B1 vals_.length B9 ?_;obtain⟨oc,h,a4⟩:=A5 h;refine Q6 oc (mkSt [(3,C1 0)] [] []) hT ?_ ?_;refine H1 h (λa2=>mkSt [(3,C1 0),(6,C3 cI vals_),(7,C1 (vals_.length:Int)),(8,B8 a2)] [] []) (λa2=>lZ vals_/\True) eZ (λa2=>((C5 6 rfl).and hT)) ?_;rintro k a2 o hp h a3;unfold fI.s2 at h;obtain⟨b3,_⟩:=hp;refine B5 h (λa8 h a6=>?_) λa8 h a6=>?_;refine F8 h λb4 a5 h=>?_;refine B5 h (λb2 h a7=>?_) λb2 h a7=>?_;cases h;cases C0 a3;replace h:some _=some _:=a4;cases h;exact⟨rfl,rfl⟩;refine D2.mk (zzR_ (by omega)) ?_;cases h;exact E7 _ a3 eZ;cases h;cases C0 a3;exact J5.mk' _ rfl eZ;rintro⟨⟩ rfl hp;replace h:=K5 a4;cases h;exact⟨rfl,rfl⟩
def xX(a_ b_:A2)(r:Int)(h:bY a_ b_=some r):Sp Tryz.prog 93 [.im (nL cI a_),.im (nL cI b_)] (.im (nI r)):=by
 refine D1 [] λhk=>?_;have z1:lZ a_:=A8 hk.1;have z2:lZ b_:=A8 hk.2.1;unfold bY at h;refine B1 a_.length B9<|B1 b_.length B9 ?_;obtain⟨a2,a3,h⟩:=A5 h;refine⟨_,JO (a_.length:Int) (b_.length:Int) a2 a3,?_⟩;obtain⟨a6,a5,h⟩:=A5 h;refine⟨_,JX a_ b_ a6 a5,?_⟩;obtain⟨a7,a4,h⟩:=A5 h;refine⟨_,(sp_cmp_Or_int [a2,a6] a7 a4),?_⟩;cases h;exact⟨rfl,rfl⟩
def BD(l_:A4)(w_:A2)(r:A4)(h:mU l_ w_=some r):Sp Tryz.prog 51 [.im (nL (cL cI) l_),.im (nL cI w_)] (.im (nL (cL cI) r)):=by
 refine D1 [] λhk=>?_;have z1:lZ l_:=A8 hk.1;have z2:lZ w_:=A8 hk.2.1;unfold mU at h;obtain⟨a2,a3,h⟩:=A5 h;refine⟨_,zgl l_ w_ (λu0 u1=>bY u0 u1) 93 (λu0 u1 r h=>(xX u0 u1 r h)) a2 a3,?_⟩;refine H4 h (λa7 h=>?_) λa7 h=>?_;cases h;exact⟨rfl,rfl⟩;obtain⟨b3,h⟩:=D5 h;refine A3 (show(0:Int)<=a2.1/\a2.1<=(↑(List.length (List.map (cL cI) l_)):Int)/\a2.1=a2.1/\(∀e∈List.map (cL cI) l_,List.length e=1) from⟨by omega,by simp only[B6];omega,rfl,K6 λ_=>rfl⟩)<|B1 (List.map (cL cI) (List.take (Int.toNat a2.1) l_)) lP ?_;obtain⟨a6,a4,h⟩:=A5 h;refine⟨_,(iA w_ a6 (a4)).im,?_⟩;obtain⟨a8,h⟩:=D5 h;refine A3 ⟨Nat.succ_pos _,K6 (l:=(List.take (Int.toNat a2.1) l_)) (c:=cL cI) λ_=>rfl,K6 (l:=[a6]) (c:=cL cI) λ_=>rfl,show E0 _ 24 by simpa only[B6,E9,L2,F9]using a8⟩ ?_;refine B1 (List.map (cL cI) ((List.take (Int.toNat a2.1) l_)++[a6])) (O9 (l:=(List.take (Int.toNat a2.1) l_)) (m:=[a6]) (c:=cL cI)) ?_;obtain⟨b4,h⟩:=D5 h;refine A3 (show(0:Int)<=a2.1/\a2.1<=(↑(List.length (List.map (cL cI) l_)):Int)/\(↑(List.length (List.map (cL cI) l_)):Int)<=(↑(List.length (List.map (cL cI) l_)):Int)/\(∀e∈List.map (cL cI) l_,List.length e=1) from⟨by omega,by first|omega|(simp only[B6];omega),by first|omega|(simp only[B6];omega),K6 λ_=>rfl⟩) ?_
 refine B1 (List.map (cL cI) (List.drop (Int.toNat a2.1) l_)) kJ ?_;obtain⟨b2,h⟩:=D5 h;refine A3 ⟨rfl,K6 (l:=(List.drop (Int.toNat a2.1) l_)) (c:=cL cI) λ_=>rfl,show E0 _ 24 by simpa only[B6,E9,L2,F9]using b2⟩ ?_;refine B1 (List.map (cL cI) (((List.take (Int.toNat a2.1) l_)++[a6])++(List.drop (Int.toNat a2.1) l_))) (O9 (l:=((List.take (Int.toNat a2.1) l_)++[a6])) (m:=(List.drop (Int.toNat a2.1) l_)) (c:=cL cI)) ?_;cases h;exact A3 ⟨rfl,trivial⟩ ⟨rfl,rfl⟩
def nY(s1_ s2_:A2)(r:Bool)(h:bN s1_ s2_=some r):Sp Tryz.prog 106 [.im (nL cI s1_),.im (nL cI s2_)] (.im (nB r)):=by
 refine D1 [] λhk=>?_;have z1:lZ s1_:=A8 hk.1;have z2:lZ s2_:=A8 hk.2.1;unfold bN at h;refine B1 s1_.length B9<|B1 s2_.length B9<|B5 h (λb2 h a6=>?_) λb2 h a6=>?_;cases h;exact⟨rfl,rfl⟩;refine B1 s1_.length B9 ?_;obtain⟨oc,h,a4⟩:=A5 h;refine Q6 oc (mkSt [] [] []) hT ?_ ?_;refine H1 h (λa2=>mkSt [(0,C3 cI s1_),(1,C3 cI s2_),(12,C1 (s1_.length:Int)),(13,B8 a2)] [] []) (λa2=>lZ s1_/\lZ s2_/\True) eZ (λa2=>((C5 0 rfl).and ((C5 1 rfl).and hT))) ?_;rintro k a2 o hp h a3;unfold bN.s2 at h;obtain⟨b5,b6,_⟩:=hp;refine B5 h (λb3 h a7=>?_) λb3 h a7=>?_;refine F8 h λb7 a5 h=>?_;refine F8 h λb8 a9 h=>?_;refine B5 h (λb4 h a8=>?_) λb4 h a8=>?_;cases h;cases C0 a3;replace h:some _=some _:=a4;cases h;exact⟨rfl,rfl⟩;refine D2.mk (zzR_ (by omega)) ?_;cases h;exact E7 _ a3 eZ;cases h;cases C0 a3;exact J5.mk' _ rfl eZ;rintro⟨⟩ rfl hp;replace h:=K5 a4;cases h;exact⟨rfl,rfl⟩
def zu2(v_ p1_:A2)(r:Bool)(h:qP v_ p1_=some r):Sp Tryz.prog 155 [.im (nL cI v_),.im (.ref (cL cI p1_))] (.im (nB r)):=by
 refine D1 [] λhk=>?_;have z1:lZ v_:=A8 hk.1;have z2:lZ p1_:=A8 (Ok.ref_at hk.2.1 0 rfl);unfold qP at h;obtain⟨a2,a3,h⟩:=A5 h;refine⟨_,nY v_ p1_ a2 a3,?_⟩;cases h;exact⟨rfl,rfl⟩
def zi5(s_:A4)(f_:(A2)->Option Bool)(f1_:FuncId)(k1_0:IV)(hk1_0:nz k1_0=k1_0)(hf1:∀x0 r,f_ x0=some r->Sp Tryz.prog f1_ [.im (nL cI x0),.im k1_0] (.im (nB r)))(r:Int)(h:jR s_ f_=some r):Sp Tryz.prog 206 [.im (nL (cL cI) s_),.im (.fn f1_ [k1_0])] (.im (nI r)):=by
 refine D1 [] λhk=>?_;have z1:lZ s_:=A8 hk.1;unfold jR at h;refine B1 s_.length B9 ?_;obtain⟨oc,h,a4⟩:=A5 h;refine Q6 oc (mkSt [] [] []) hT ?_ ?_;refine H1 h (λa2=>mkSt [(0,C3 (cL cI) s_),(1,.im (.fn f1_ [k1_0])),(7,C1 (s_.length:Int)),(8,B8 a2)] [] []) (λa2=>lZ s_/\True) eZ (λa2=>((C5 0 rfl).and hT)) ?_;rintro k a2 o hp h a3;unfold jR.s2 at h;obtain⟨b4,_⟩:=hp;refine B5 h (λa7 h a6=>?_) λa7 h a6=>?_;refine F8 h λa8 a9 h=>?_;obtain⟨b2,a5,h⟩:=A5 h;refine⟨_,Sp.args (hf1 a8 b2 a5) (by rw[hk1_0];try rfl),?_⟩;refine H4 h (λb3 h=>?_) λb3 h=>?_;cases h;cases C0 a3;replace h:some _=some _:=a4;cases h;exact⟨rfl,rfl⟩;refine D2.mk (zzR_ (by omega)) ?_;cases h;exact E7 _ a3 eZ;cases h;cases C0 a3;exact J5.mk' _ rfl eZ;rintro⟨⟩ rfl hp;replace h:=K5 a4;cases h;exact⟨rfl,rfl⟩
def zh3(s_:A4)(f_:(A2)->Option Bool)(f1_:FuncId)(k1_0:IV)(hk1_0:nz k1_0=k1_0)(hf1:∀x0 r,f_ x0=some r->Sp Tryz.prog f1_ [.im (nL cI x0),.im k1_0] (.im (nB r)))(r:Bool)(h:yD s_ f_=some r):Sp Tryz.prog 154 [.im (nL (cL cI) s_),.im (.fn f1_ [k1_0])] (.im (nB r)):=by
 refine D1 [] λhk=>?_;have z1:lZ s_:=A8 hk.1;unfold yD at h;obtain⟨a2,a3,h⟩:=A5 h;refine⟨_,zi5 s_ f_ f1_ k1_0 hk1_0 hf1 a2 a3,?_⟩;cases h;exact⟨rfl,rfl⟩
def zyk(l_:A4)(w_:A2)(r:Bool)(h:tJ l_ w_=some r):Sp Tryz.prog 97 [.im (nL (cL cI) l_),.im (nL cI w_)] (.im (nB r)):=by
 refine D1 [700003] λhk=>?_;have z1:lZ l_:=A8 hk.1;have z2:lZ w_:=A8 hk.2.1;unfold tJ at h;obtain⟨a2,a3,h⟩:=A5 h;refine⟨_,zh3 l_ (λu0=>qP u0 w_) 155 (.ref (cL cI w_)) rfl (λu0 r h=>(zu2 u0 w_ r h)) a2 a3,?_⟩;cases h;exact⟨rfl,rfl⟩
def xR(l_:E1)(r:C6)(h:jK l_=some r):Sp Tryz.prog 48 [.im (.agg (W0 l_))] (.im (.agg (N9 r))):=by
 refine D1 [700001] λhk=>?_;have z1:lZ l_.Short:=A8 (B7 hk.1 1 rfl);have z2:lZ l_.X:=A8 (B7 hk.1 2 rfl);unfold jK at h;refine A3 rfl ?_;cases h;refine A3 ⟨rfl,trivial⟩ ?_;exact⟨rfl,rfl⟩
def zko(s_:A2)(f_:Int->Option Bool)(f1_:FuncId)(hf1:∀x0 r,f_ x0=some r->Sp Tryz.prog f1_ [.im (nI x0)] (.im (nB r)))(r:Int)(h:jP s_ f_=some r):Sp Tryz.prog 156 [.im (nL cI s_),.im (.fn f1_ [])] (.im (nI r)):=by
 refine D1 [] λhk=>?_;have z1:lZ s_:=A8 hk.1;unfold jP at h;refine B1 s_.length B9 ?_;obtain⟨oc,h,a4⟩:=A5 h;refine Q6 oc (mkSt [] [] []) hT ?_ ?_;refine H1 h (λa2=>mkSt [(0,C3 cI s_),(1,.im (.fn f1_ [])),(7,C1 (s_.length:Int)),(8,B8 a2)] [] []) (λa2=>lZ s_/\True) eZ (λa2=>((C5 0 rfl).and hT)) ?_;rintro k a2 o hp h a3;unfold jP.s2 at h;obtain⟨b4,_⟩:=hp;refine B5 h (λa7 h a6=>?_) λa7 h a6=>?_;refine F8 h λa8 a9 h=>?_;obtain⟨b2,a5,h⟩:=A5 h;refine⟨_,hf1 a8 b2 a5,?_⟩;refine H4 h (λb3 h=>?_) λb3 h=>?_;cases h;cases C0 a3;replace h:some _=some _:=a4;cases h;exact⟨rfl,rfl⟩;refine D2.mk (zzR_ (by omega)) ?_;cases h;exact E7 _ a3 eZ;cases h;cases C0 a3;exact J5.mk' _ rfl eZ;rintro⟨⟩ rfl hp;replace h:=K5 a4;cases h;exact⟨rfl,rfl⟩
def zjs(s_:A2)(f_:Int->Option Bool)(f1_:FuncId)(hf1:∀x0 r,f_ x0=some r->Sp Tryz.prog f1_ [.im (nI x0)] (.im (nB r)))(r:Bool)(h:uO s_ f_=some r):Sp Tryz.prog 100 [.im (nL cI s_),.im (.fn f1_ [])] (.im (nB r)):=by
 refine D1 [] λhk=>?_;have z1:lZ s_:=A8 hk.1;unfold uO at h;obtain⟨a2,a3,h⟩:=A5 h;refine⟨_,zko s_ f_ f1_ hf1 a2 a3,?_⟩;cases h;exact⟨rfl,rfl⟩
def zt3(inputs_:Int)(r:Bool)(h:tZ inputs_=some r):Sp Tryz.prog 99 [.im (nI inputs_)] (.im (nB r)):=by
 refine D1 [] λhk=>?_;unfold tZ at h;refine U5 h (λa2=>mkSt [(2,J1 a2)] [] []) (λ_=>hT) λa2 h hp=>?_;cases h;exact⟨rfl,rfl⟩
def zxb(a_ p1_:Int)(r:Bool)(h:qL a_ p1_=some r):Sp Tryz.prog 101 [.im (nI a_),.im (.ref (cI p1_))] (.im (nB r)):=by
 refine D1 [] λhk=>?_;unfold qL at h;refine U5 h (λa2=>mkSt [(3,J1 a2)] [] []) (λ_=>hT) λa2 h hp=>?_;cases h;exact⟨rfl,rfl⟩
def zjr(s_:A2)(f_:Int->Option Bool)(f1_:FuncId)(k1_0:IV)(hk1_0:nz k1_0=k1_0)(hf1:∀x0 r,f_ x0=some r->Sp Tryz.prog f1_ [.im (nI x0),.im k1_0] (.im (nB r)))(r:Int)(h:jQ s_ f_=some r):Sp Tryz.prog 156 [.im (nL cI s_),.im (.fn f1_ [k1_0])] (.im (nI r)):=by
 refine D1 [] λhk=>?_;have z1:lZ s_:=A8 hk.1;unfold jQ at h;refine B1 s_.length B9 ?_;obtain⟨oc,h,a4⟩:=A5 h;refine Q6 oc (mkSt [] [] []) hT ?_ ?_;refine H1 h (λa2=>mkSt [(0,C3 cI s_),(1,.im (.fn f1_ [k1_0])),(7,C1 (s_.length:Int)),(8,B8 a2)] [] []) (λa2=>lZ s_/\True) eZ (λa2=>((C5 0 rfl).and hT)) ?_;rintro k a2 o hp h a3;unfold jQ.s2 at h;obtain⟨b4,_⟩:=hp;refine B5 h (λa7 h a6=>?_) λa7 h a6=>?_;refine F8 h λa8 a9 h=>?_;obtain⟨b2,a5,h⟩:=A5 h;refine⟨_,Sp.args (hf1 a8 b2 a5) (by rw[hk1_0];try rfl),?_⟩;refine H4 h (λb3 h=>?_) λb3 h=>?_;cases h;cases C0 a3;replace h:some _=some _:=a4;cases h;exact⟨rfl,rfl⟩;refine D2.mk (zzR_ (by omega)) ?_;cases h;exact E7 _ a3 eZ;cases h;cases C0 a3;exact J5.mk' _ rfl eZ;rintro⟨⟩ rfl hp;replace h:=K5 a4;cases h;exact⟨rfl,rfl⟩
def ziu(s_:A2)(f_:Int->Option Bool)(f1_:FuncId)(k1_0:IV)(hk1_0:nz k1_0=k1_0)(hf1:∀x0 r,f_ x0=some r->Sp Tryz.prog f1_ [.im (nI x0),.im k1_0] (.im (nB r)))(r:Bool)(h:yE s_ f_=some r):Sp Tryz.prog 100 [.im (nL cI s_),.im (.fn f1_ [k1_0])] (.im (nB r)):=by
 refine D1 [] λhk=>?_;have z1:lZ s_:=A8 hk.1;unfold yE at h;obtain⟨a2,a3,h⟩:=A5 h;refine⟨_,zjr s_ f_ f1_ k1_0 hk1_0 hf1 a2 a3,?_⟩;cases h;exact⟨rfl,rfl⟩
def nP(w_:A2)(inputs_ r:Int)(h:gS w_ inputs_=some r):Sp Tryz.prog 55 [.im (nL cI w_),.im (nI inputs_)] (.im (nI r)):=by
 refine D1 [700003] λhk=>?_;have z1:lZ w_:=A8 hk.1;unfold gS at h;obtain⟨a6,a3,h⟩:=A5 h;refine⟨_,zt3 inputs_ a6 a3,?_⟩;refine H4 h (λa7 h=>?_) λa7 h=>?_;cases h;exact⟨rfl,rfl⟩;refine B1 w_.length B9<|B5 h (λa8 h a2=>?_) λa8 h a2=>?_;cases h;exact⟨rfl,rfl⟩;obtain⟨b2,a4,h⟩:=A5 h;refine⟨_,ziu w_ (λu0=>qL u0 inputs_) 101 (.ref (cI inputs_)) rfl (λu0 r h=>(zxb u0 inputs_ r h)) b2 a4,?_⟩;refine H4 h (λb3 h=>?_) λb3 h=>?_;cases h;exact⟨rfl,rfl⟩;cases h;exact⟨rfl,rfl⟩
def CQ(l_:A4)(i_:Int)(r:Bool)(h:nR l_ i_=some r):Sp Tryz.prog 152 [.im (nL (cL cI) l_),.im (nI i_)] (.im (nB r)):=by
 refine D1 [] λhk=>?_;have z1:lZ l_:=A8 hk.1;unfold nR at h;obtain⟨a7,h,a3⟩:=A5 h;refine I4 (mkSt [(4,J1 a7)] [] []) hT ?_ λhp=>?_;refine Y8 h (λa2 h a6=>?_) λa2 h a6=>?_
 iterate 2 (refine B3 (J2 a2) ?_)
 obtain⟨a8,h⟩:=D5 h;refine D2.mk a8<|B3 (J2 a2)<|K1 h λb2 a9 b5 h=>?_
 iterate 4 (refine B3 (J2 a2) ?_)
 refine K1 h λb3 a5 b6 h=>?_
 iterate 2 (refine B3 (J2 a2) ?_)
 obtain⟨b4,a4,h⟩:=A5 h;refine⟨_,xX b2 b3 b4 a4,?_⟩;refine B3 (J2 a2)<|C4 a2 ?_;cases h;exact D8 eZ
 iterate 10 (refine C4 (T5 a2) ?_)
 refine B3 a2 ?_;cases h;exact D8 eZ;replace h:=a3;cases h;exact⟨rfl,rfl⟩
def JD(l_:A4)(r:Int)(h:eL l_=some r):Sp Tryz.prog 153 [.im (nL (cL cI) l_)] (.im (nI r)):=by
 refine D1 [] λhk=>?_;have z1:lZ l_:=A8 hk.1;unfold eL at h;refine B1 l_.length B9 ?_;obtain⟨a8,h,a4⟩:=A5 h;refine I4 (mkSt [(3,C1 a8)] [] []) hT ?_ λhp=>?_;refine H1 h (λ(a2,a6)=>mkSt [(3,C1 a2),(6,C3 (cL cI) l_),(7,C1 (l_.length:Int)),(8,B8 a6)] [] []) (λ(a2,a6)=>lZ l_/\True) eZ (λ⟨a2,a6⟩=>((C5 6 rfl).and hT)) ?_;rintro k ⟨a2,a6⟩ o hp h a3;change eL.s2 l_ a2 a6=_ at h;unfold eL.s2 at h;obtain⟨b4,_⟩:=hp;refine B5 h (λb2 h a7=>?_) λb2 h a7=>?_;refine F8 h λb3 a5 h=>?_;refine B1 b3.length B9<|D2.mk (zzR_ (by omega)) ?_;cases h;exact E7 _ a3 eZ;cases h;cases C0 a3;exact D8 eZ;replace h:=a4;cases h;exact⟨rfl,rfl⟩
def IM(t_:C6)(r:Int)(h:V5 t_=some r):Sp Tryz.prog 96 [.im (.agg (N9 t_))] (.im (nI r)):=by
 refine D1 [700001] λhk=>?_;have z1:lZ t_.P:=A8 (B7 hk.1 1 rfl);have z2:lZ t_.X:=A8 (B7 hk.1 2 rfl);unfold V5 at h;refine B1 t_.P.length B9<|B1 t_.X.length B9<|U5 h (λg9=>mkSt [(1,C7 (N9 t_)),(3,C1 (t_.P.length:Int)),(4,C1 (t_.X.length:Int)),(20,J1 g9)] [] []) (λ_=>hT) λg9 h hp=>?_;refine H4 h (λh6 h=>?_) λh6 h=>?_;cases h;exact⟨rfl,rfl⟩;refine B5 h (λh7 h d7=>?_) λh7 h d7=>?_;cases h;exact⟨rfl,rfl⟩;obtain⟨h8,h,l6⟩:=A5 h;refine I4 (mkSt [(1,C7 (N9 t_)),(4,C1 (t_.X.length:Int)),(32,J1 h8)] [] []) hT ?_ λhp=>?_;refine Y8 h (λb6 h d8=>?_) λb6 h d8=>?_;refine B3 (J2 b6)<|C4 b6<|Y8 h (λb5 h d9=>?_) λb5 h d9=>?_
 iterate 3 (refine B3 (J2 b5) ?_)
 obtain⟨h9,h⟩:=D5 h;refine D2.mk h9<|B3 (J2 b5) ?_;obtain⟨i3,h⟩:=D5 h;refine D2.mk i3 ?_
 iterate 2 (refine B3 (J2 b5) ?_)
 obtain⟨i4,h⟩:=D5 h;refine D2.mk i4<|B3 (J2 b5)<|C4 b5 ?_;cases h;exact D8 eZ
 iterate 7 (refine C4 (T5 b5) ?_)
 refine B3 b5 ?_;cases h;exact D8 eZ;refine C4 (T5 b6)<|B3 b6 ?_
 iterate 8 (refine C4 rfl ?_)
 refine B3 rfl ?_;cases h;exact D8 eZ;replace h:=l6;refine H4 h (λi5 h=>?_) λi5 h=>?_;cases h;exact⟨rfl,rfl⟩;refine B1 t_.P.length B9 ?_;obtain⟨b7,h,l4⟩:=A5 h;refine I4 (mkSt [(1,C7 (N9 t_)),(4,C1 (t_.X.length:Int)),(5,.osl 152 1)] [(152,.map (mapV wS wB b7))] []) hT ?_ λhp=>?_;refine H1 h (λ(b8,b9)=>mkSt [(1,C7 (N9 t_)),(4,C1 (t_.X.length:Int)),(5,.osl 152 1),(51,C3 (cL cI) t_.P),(52,C1 (t_.P.length:Int)),(53,B8 b9)] [(152,.map (mapV wS wB b8))] []) (λ(b8,b9)=>lZ t_.P/\True) (eA (K9 [152,49])) (λ⟨b8,b9⟩=>((C5 51 rfl).and hT)) ?_;rintro k ⟨b8,b9⟩ o hp h f6;change V5.s2 t_ b8 b9=_ at h;unfold V5.s2 at h;obtain⟨j5,_⟩:=hp;refine B5 h (λi6 h e0=>?_) λi6 h e0=>?_;refine F8 h λi7 m4 h=>?_;obtain⟨i8,l5,h⟩:=A5 h;refine⟨_,BJ i7 i8 (l5),?_⟩;refine A3 rfl<|⟨_,set_str _ true wB _,?_⟩;refine D2.mk (zzR_ (by omega)) ?_;cases h;exact E7 _ f6 eZ;cases h;cases C0 f6;exact D8 eZ;replace h:=l4;refine B1 t_.P.length B9 ?_;obtain⟨oc,h,a5⟩:=A5 h;refine Q6 oc (mkSt [(1,C7 (N9 t_)),(4,C1 (t_.X.length:Int))] [] []) hT ?_ ?_;refine H1 h (λa7=>mkSt [(1,C7 (N9 t_)),(4,C1 (t_.X.length:Int)),(5,.osl 152 1),(62,C3 (cL cI) t_.P),(63,C1 (t_.P.length:Int)),(64,B8 a7)] [(152,.map (mapV wS wB b7))] []) (λa7=>lZ t_.P/\True) eZ (λa7=>((C5 62 rfl).and hT)) ?_;rintro k a7 o hp h a3;unfold V5.s4 at h;obtain⟨i9,_⟩:=hp;refine B5 h (λe1 h c0=>?_) λe1 h c0=>?_;refine F8 h λa2 l8 h=>?_;obtain⟨e2,j9,h⟩:=A5 h;refine⟨_,nP a2 t_.I e2 j9,?_⟩;refine B5 h (λe3 h c6=>?_) λe3 h c6=>?_;cases h;cases C0 a3;replace h:some _=some _:=a5;cases h;exact⟨rfl,rfl⟩;obtain⟨e4,h,k9⟩:=A5 h;refine I4 (mkSt [(1,C7 (N9 t_)),(4,C1 (t_.X.length:Int)),(5,.osl 152 1),(9,C3 cI a2),(62,C3 (cL cI) t_.P),(63,C1 (t_.P.length:Int)),(64,B8 a7),(89,J1 e4)] [(152,.map (mapV wS wB b7))] []) ((C5 9 rfl).and ((C5 62 rfl).and hT)) ?_ λhp=>?_;refine aS h (λb2 h c7=>?_) λb2 h c7=>?_;refine B3 (H9 b2)<|B1 a2.length B9<|B3 (H9 b2)<|B3 b2<|Y8 h (λb3 h c8=>?_) λb3 h c8=>?_
 iterate 3 (refine B3 (J2 b3) ?_)
 obtain⟨e5,k8,h⟩:=A5 h;refine⟨_,CQ t_.P (a7:Int) e5 k8,?_⟩;refine B3 (J2 b3)<|C4 b3 ?_;cases h;exact D8 eZ
 iterate 4 (refine C4 (T5 b3) ?_)
 refine B3 b3 ?_;cases h;exact D8 eZ
 iterate 2 (refine C4 (V2 b2) ?_)
 refine C4 b2 ?_
 iterate 4 (refine B3 rfl ?_)
 obtain⟨e6,l0,h⟩:=A5 h;refine⟨_,CQ t_.P (a7:Int) e6 l0,?_⟩;refine B3 rfl<|C4 rfl ?_;cases h;exact D8 eZ;replace h:=k9;obtain⟨j0,j1,_⟩:=hp;refine H4 h (λe7 h=>?_) λe7 h=>?_;cases h;cases C0 a3;replace h:some _=some _:=a5;cases h;exact⟨rfl,rfl⟩;obtain⟨e8,h,l3⟩:=A5 h;refine I4 (mkSt [(1,C7 (N9 t_)),(4,C1 (t_.X.length:Int)),(5,.osl 152 1),(62,C3 (cL cI) t_.P),(63,C1 (t_.P.length:Int)),(64,B8 a7),(103,J1 e8)] [(152,.map (mapV wS wB b7))] []) ((C5 62 rfl).and hT) ?_ λhp=>?_;refine B1 a2.length B9<|aS h (λa6 h c9=>?_) λa6 h c9=>?_
 iterate 3 (refine B3 (H9 a6) ?_)
 refine B1 a2.length B9<|B3 (H9 a6)<|D2.mk (zzR_ (by omega))<|B3 (H9 a6) ?_;obtain⟨j2,h⟩:=D5 h;refine A3 (show(0:Int)<=(0:Int)/\(0:Int)<=((a2.length:Int)-1)/\((a2.length:Int)-1)<=(↑(List.length (List.map cI a2)):Int)/\(∀e∈List.map cI a2,List.length e=1) from⟨by omega,by first|omega|(simp only[B6];omega),by first|omega|(simp only[B6];omega),K6 λ_=>rfl⟩) ?_
 refine B1 (List.map cI (List.take (Int.toNat ((a2.length:Int)-1)) a2)) lP<|B3 (H9 a6) ?_;obtain⟨d0,k6,h⟩:=A5 h;refine⟨_,(BJ (List.take (Int.toNat ((a2.length:Int)-1)) a2) d0 (k6)),?_⟩;refine B3 (H9 a6)<|A3 rfl<|⟨_,find_str _ wB _,?_⟩;refine B1 (wB ((mget d0 b7).getD false)) (getD_map rfl _)<|B3 (H9 a6)<|B3 a6 ?_;cases h;exact D8 eZ
 iterate 8 (refine C4 (V2 a6) ?_)
 refine C4 a6 ?_;cases h;exact D8 eZ;replace h:=l3;obtain⟨j3,_⟩:=hp;refine H4 h (λe9 h=>?_) λe9 h=>?_;cases h;cases C0 a3;replace h:some _=some _:=a5;cases h;exact⟨rfl,rfl⟩;refine D2.mk (zzR_ (by omega)) ?_;cases h;exact E7 _ a3 eZ;cases h;cases C0 a3;exact J5.mk' _ rfl eZ;rintro⟨⟩ rfl hp;replace h:=K5 a5;refine B1 t_.X.length B9 ?_;obtain⟨oc,h,a9⟩:=A5 h;refine Q6 oc (mkSt [(1,C7 (N9 t_)),(4,C1 (t_.X.length:Int))] [] []) hT ?_ ?_;refine H1 h (λb4=>mkSt [(1,C7 (N9 t_)),(4,C1 (t_.X.length:Int)),(106,C3 (cL cI) t_.X),(107,C1 (t_.X.length:Int)),(108,B8 b4)] [] []) (λb4=>lZ t_.X/\True) eZ (λb4=>((C5 106 rfl).and hT)) ?_;rintro k b4 o hp h a4;unfold V5.s6 at h;obtain⟨j4,_⟩:=hp;refine B5 h (λf3 h d1=>?_) λf3 h d1=>?_;refine F8 h λd2 l9 h=>?_;obtain⟨f4,j7,h⟩:=A5 h;refine⟨_,nP d2 t_.I f4 j7,?_⟩;refine B5 h (λf5 h d3=>?_) λf5 h d3=>?_;cases h;cases C0 a4;replace h:some _=some _:=a9;cases h;exact⟨rfl,rfl⟩;refine B1 d2.length B9<|B5 h (λf7 h d4=>?_) λf7 h d4=>?_;cases h;cases C0 a4;replace h:some _=some _:=a9;cases h;exact⟨rfl,rfl⟩;obtain⟨f8,k5,h⟩:=A5 h;refine⟨_,CQ t_.X (b4:Int) f8 k5,?_⟩;refine H4 h (λf9 h=>?_) λf9 h=>?_;cases h;cases C0 a4;replace h:some _=some _:=a9;cases h;exact⟨rfl,rfl⟩;refine D2.mk (zzR_ (by omega)) ?_;cases h;exact E7 _ a4 eZ;cases h;cases C0 a4;exact J5.mk' _ rfl eZ;rintro⟨⟩ rfl hp;replace h:=K5 a9;obtain⟨g1,h,j6⟩:=A5 h;refine I4 (mkSt [(1,C7 (N9 t_)),(143,J1 g1)] [] []) hT ?_ λhp=>?_;refine Y8 h (λa8 h d5=>?_) λa8 h d5=>?_
 iterate 4 (refine B3 (J2 a8) ?_)
 obtain⟨g2,h⟩:=D5 h;refine D2.mk g2<|B3 (J2 a8)<|K1 h λg3 l7 m3 h=>?_
 iterate 2 (refine B3 (J2 a8) ?_)
 refine B1 g3.length B9<|B3 (J2 a8)<|C4 a8 ?_;cases h;exact D8 eZ
 iterate 8 (refine C4 (T5 a8) ?_)
 refine B3 a8 ?_;cases h;exact D8 eZ;replace h:=j6;refine H4 h (λg4 h=>?_) λg4 h=>?_;cases h;exact⟨rfl,rfl⟩;obtain⟨g5,j8,h⟩:=A5 h;refine⟨_,JD t_.P g5 j8,?_⟩;obtain⟨g6,k7,h⟩:=A5 h;refine⟨_,JD t_.X g6 k7,?_⟩;obtain⟨g7,h⟩:=D5 h;refine D2.mk g7<|B5 h (λg8 h d6=>?_) λg8 h d6=>?_;cases h;exact⟨rfl,rfl⟩;cases h;exact⟨rfl,rfl⟩
def BU(l_:E1)(r:Int)(h:eG l_=some r):Sp Tryz.prog 53 [.im (.agg (W0 l_))] (.im (nI r)):=by
 refine D1 [700001] λhk=>?_;have z1:lZ l_.Short:=A8 (B7 hk.1 1 rfl);have z2:lZ l_.X:=A8 (B7 hk.1 2 rfl);unfold eG at h;obtain⟨b8,c9,h⟩:=A5 h;refine⟨_,xR l_ b8 c9,?_⟩;obtain⟨b9,d0,h⟩:=A5 h;refine⟨_,IM b8 b9 d0,?_⟩;refine B5 h (λc0 h b3=>?_) λc0 h b3=>?_;cases h;exact⟨rfl,rfl⟩;refine B1 l_.X.length B9 ?_;obtain⟨oc,h,a4⟩:=A5 h;refine Q6 oc (mkSt [] [] []) hT ?_ ?_;refine H1 h (λa7=>mkSt [(1,C7 (W0 l_)),(13,C3 (cL cI) l_.X),(14,C1 (l_.X.length:Int)),(15,B8 a7)] [] []) (λa7=>lZ l_.X/\True) eZ (λa7=>((C5 13 rfl).and hT)) ?_;rintro k a7 o hp h a3;unfold eG.s2 at h;obtain⟨c6,_⟩:=hp;refine B5 h (λb4 h a8=>?_) λb4 h a8=>?_;refine F8 h λa2 d1 h=>?_;obtain⟨b5,h,a9⟩:=A5 h;refine I4 (mkSt [(1,C7 (W0 l_)),(13,C3 (cL cI) l_.X),(14,C1 (l_.X.length:Int)),(15,B8 a7),(29,J1 b5)] [] []) ((C5 13 rfl).and hT) ?_ λhp=>?_;refine B1 a2.length B9<|aS h (λa6 h b2=>?_) λa6 h b2=>?_
 iterate 3 (refine B3 (H9 a6) ?_)
 obtain⟨c7,h⟩:=D5 h;refine A3 (show(0:Int)<=1/\1<=(↑(List.length (List.map cI a2)):Int)/\(↑(List.length (List.map cI a2)):Int)<=(↑(List.length (List.map cI a2)):Int)/\(∀e∈List.map cI a2,List.length e=1) from⟨by omega,by first|omega|(simp only[B6];omega),by first|omega|(simp only[B6];omega),K6 λ_=>rfl⟩) ?_
 refine B1 (List.map cI (List.drop 1 a2)) kJ<|B3 (H9 a6) ?_;obtain⟨b6,a5,h⟩:=A5 h;refine⟨_,zyk l_.X (List.drop 1 a2) b6 a5,?_⟩;refine B3 (H9 a6)<|B3 a6 ?_;cases h;exact D8 eZ
 iterate 5 (refine C4 (V2 a6) ?_)
 refine C4 a6 ?_;cases h;exact D8 eZ;replace h:=a9;obtain⟨c8,_⟩:=hp;refine H4 h (λb7 h=>?_) λb7 h=>?_;cases h;cases C0 a3;replace h:some _=some _:=a4;cases h;exact⟨rfl,rfl⟩;refine D2.mk (zzR_ (by omega)) ?_;cases h;exact E7 _ a3 eZ;cases h;cases C0 a3;exact J5.mk' _ rfl eZ;rintro⟨⟩ rfl hp;replace h:=K5 a4;cases h;exact⟨rfl,rfl⟩
def BN(l_:E1)(o_:A7)(r:Int)(h:nG l_ o_=some r):Sp Tryz.prog 47 [.im (.agg (W0 l_)),.im (.agg (N4 o_))] (.im (nI r)):=by
 refine D1 [700002,700003] λhk=>?_;have z1:lZ l_.Short:=A8 (B7 hk.1 1 rfl);have z2:lZ l_.X:=A8 (B7 hk.1 2 rfl);have z3:lZ o_.T:=A8 (B7 hk.2.1 1 rfl);unfold nG at h;obtain⟨a7,a3,h⟩:=A5 h;refine⟨_,BU l_ a7 a3,?_⟩;refine B5 h (λa8 h a2=>?_) λa8 h a2=>?_;cases h;exact⟨rfl,rfl⟩;refine B5 h (λb2 h a6=>?_) λb2 h a6=>?_;cases h;exact⟨rfl,rfl⟩;cases h;exact⟨rfl,rfl⟩
def zmh(slices_:A4)(r:A2)(h:cR slices_=some r):Sp Tryz.prog 108 [.im (nL (cL cI) slices_)] (.row 3 1 (List.map cI r)):=by
 refine D1 [4025000] λhk=>?_;have z1:lZ slices_:=A8 hk.1;unfold cR at h;refine B1 slices_.length B9 ?_;obtain⟨a4,h,d3⟩:=A5 h;refine I4 (mkSt [(0,C3 (cL cI) slices_),(3,B8 a4)] [] []) ((C5 0 rfl).and hT) ?_ λhp=>?_;refine H1 h (λ(a3,a8)=>mkSt [(0,C3 (cL cI) slices_),(3,B8 a3),(9,C3 (cL cI) slices_),(10,C1 (slices_.length:Int)),(11,B8 a8)] [] []) (λ(a3,a8)=>lZ slices_/\True) eZ (λ⟨a3,a8⟩=>((C5 0 rfl).and hT)) ?_;rintro k ⟨a3,a8⟩ o hp h a9;change cR.s2 slices_ a3 a8=_ at h;unfold cR.s2 at h;obtain⟨d1,_⟩:=hp;refine B5 h (λb8 h b3=>?_) λb8 h b3=>?_;refine F8 h λb9 d7 h=>?_;refine B1 b9.length B9 ?_;obtain⟨c0,h⟩:=D5 h;refine D2.mk c0<|B5 h (λc6 h b4=>?_) λc6 h b4=>?_;cases h;refine D2.mk (zzR_ (by omega)) ?_;cases h;exact E7 _ a9 eZ;cases h;cases C0 a9;exact D8 eZ;replace h:=d3;obtain⟨d2,_⟩:=hp;obtain⟨c7,d5,h⟩:=A5 h;refine⟨_,zxx (a4:Int) c7 (d5),?_⟩;refine B1 slices_.length B9 ?_;obtain⟨b5,h,d4⟩:=A5 h;refine I4 (mkSt [(6,.osl 64 1)] [(64,.row 3 1 (List.map cI b5))] []) ((Holds.kdl 64 rfl).and hT) ?_ λhp=>?_;refine H1 h (λ(a2,a6)=>mkSt [(6,.osl 64 1),(25,C3 (cL cI) slices_),(26,C1 (slices_.length:Int)),(27,B8 a6)] [(64,.row 3 1 (List.map cI a2))] []) (λ(a2,a6)=>lZ slices_/\lZ a2/\True) (eA (K9 [64,24])) (λ⟨a2,a6⟩=>((C5 25 rfl).and ((Holds.kdl 64 rfl).and hT))) ?_;rintro k ⟨a2,a6⟩ o hp h a5;change cR.s4 slices_ a2 a6=_ at h;unfold cR.s4 at h;obtain⟨c8,c9,_⟩:=hp;refine B5 h (λb6 h b2=>?_) λb6 h b2=>?_;refine F8 h λa7 d6 h=>?_;obtain⟨b7,h⟩:=D5 h;refine A3 ⟨rfl,K6 (l:=a7) (c:=cI) λ_=>rfl,show E0 _ 8 by simpa only[B6,E9,L2,F9]using b7⟩ ?_;refine B1 (List.map cI (a2++a7)) (O9 (l:=a2) (m:=a7) (c:=cI))<|D2.mk (zzR_ (by omega)) ?_;cases h;exact E7 _ a5 eZ;cases h;cases C0 a5;exact D8 eZ;replace h:=d4;obtain⟨d0,_⟩:=hp;cases h;exact A3 ⟨rfl,trivial⟩ ⟨rfl,rfl⟩
def gU(parts_:A4)(r:A2)(h:aX parts_=some r):Sp Tryz.prog 57 [.im (nL (cL cI) parts_)] (.im (nL cI r)):=by
 refine D1 [] λhk=>?_;have z1:lZ parts_:=A8 hk.1;unfold aX at h;obtain⟨a2,a3,h⟩:=A5 h;refine⟨_,(zmh parts_ a2 a3).im,?_⟩;cases h;exact⟨rfl,rfl⟩
def CN(w_:A2)(a_:Int)(r:A2)(h:nW w_ a_=some r):Sp Tryz.prog 89 [.im (nL cI w_),.im (nI a_)] (.im (nL cI r)):=by
 refine D1 [] λhk=>?_;have z1:lZ w_:=A8 hk.1;unfold nW at h;obtain⟨a2,a3,h⟩:=A5 h;refine⟨_,(gU [w_,[a_]] a2 a3),?_⟩;cases h;exact⟨rfl,rfl⟩
def zqi(a_ b_:A2)(p2_:(A2)->(A2)->Option Int)(f2_:FuncId)(hf2:∀x0 x1 r,p2_ x0 x1=some r->Sp Tryz.prog f2_ [.im (nL cI x0),.im (nL cI x1)] (.im (nI r)))(r:Bool)(h:uG a_ b_ p2_=some r):Sp Tryz.prog 165 [.im (nL cI a_),.im (nL cI b_),.im (.ref [.fn f2_ []])] (.im (nB r)):=by
 refine D1 [] λhk=>?_;have z1:lZ a_:=A8 hk.1;have z2:lZ b_:=A8 hk.2.1;unfold uG at h;obtain⟨a2,a3,h⟩:=A5 h;refine⟨_,hf2 a_ b_ a2 a3,?_⟩;cases h;exact⟨rfl,rfl⟩
def zig(s_:A4)(eq_:(A2)->(A2)->Option Bool)(f1_:FuncId)(k1_0:IV)(hk1_0:nz k1_0=k1_0)(hf1:∀x0 x1 r,eq_ x0 x1=some r->Sp Tryz.prog f1_ [.im (nL cI x0),.im (nL cI x1),.im k1_0] (.im (nB r)))(r:A4)(h:OkL (List.map (cL cI) s_)->Ok (.fn f1_ [k1_0])->Z8 s_ eq_=some r):Sp Tryz.prog 164 [.row 51 1 (List.map (cL cI) s_),.im (.fn f1_ [k1_0])] (.row 51 1 (List.map (cL cI) r)):=by
 refine D1 [] λhk=>?_;replace h:=h hk.1 hk.2.1;have z1:lZ s_:=iW hk.1;unfold Z8 at h;refine A3 rfl<|B1 s_.length B9<|B5 h (λd9 h b9=>?_) λd9 h b9=>?_;cases h;exact A3 ⟨rfl,trivial⟩ ⟨rfl,rfl⟩;obtain⟨oc,h,f4⟩:=A5 h;refine W9 oc (Y:=Unit) (λ(_:Unit)=>mkSt [(0,.osl 66 1)] [(66,.row 51 1 (List.map (cL cI) s_))] []) (λ(_:Unit)=>lZ s_/\True) (by rintro⟨⟩;exact((Holds.kdl 66 rfl).and hT)) ?_ ?_;refine H1 h (λa2=>mkSt [(0,.osl 66 1),(1,.im (.fn f1_ [k1_0])),(5,B8 a2)] [(66,.row 51 1 (List.map (cL cI) s_))] []) (λa2=>lZ s_/\True) (eA (K9 [66,0])) (λa2=>((Holds.kdl 66 rfl).and hT)) ?_;rintro k a2 o hp h a4;unfold Z8.s20 at h;obtain⟨e0,_⟩:=hp;refine A3 rfl<|B1 s_.length B9<|B5 h (λc0 h b7=>?_) λc0 h b7=>?_;obtain⟨c6,e5,h⟩:=aZ h;refine A3 ⟨(by omega),rfl,P6 e5⟩<|⟨_,_,⟨rfl,P7 e5,rfl,rfl⟩,?_⟩;refine D2.mk (zzR_ (by omega)) ?_;obtain⟨c7,f3,a9,h⟩:=cN h;refine A3 ⟨f3,rfl,P6 a9⟩<|⟨_,_,⟨rfl,P7 a9,rfl,rfl⟩,?_⟩;obtain⟨c8,f7,h⟩:=A5 h;refine⟨_,Sp.args (hf1 c6 c7 c8 f7) (by rw[hk1_0];try rfl),?_⟩;refine H4 h (λc9 h=>?_) λc9 h=>?_;obtain⟨b4,h⟩:=D5 h;refine A3 ⟨rfl,b4.1,by have a5:=b4;simp only[B6];omega,by have a5:=b4;simp only[B6];omega⟩ ?_;obtain⟨⟨b2,a8⟩,h,f6⟩:=A5 h;refine I4 (mkSt [(0,.osl 66 1),(5,B8 a8)] [(66,.row 51 1 (List.map (cL cI) b2))] []) ((Holds.kdl 66 rfl).and hT) ?_ λhp=>?_;refine H1 h (λ(a6,b3,a7)=>mkSt [(0,.osl 66 1),(1,.im (.fn f1_ [k1_0])),(5,B8 b3),(6,.osv 66 1 a2 1),(7,B8 a7)] [(66,.row 51 1 (List.map (cL cI) a6))] []) (λ(a6,b3,a7)=>lZ a6/\True) eZ (λ⟨a6,b3,a7⟩=>((Holds.kdl 66 rfl).and hT)) ?_;rintro k ⟨a6,b3,a7⟩ o hp h a3;change Z8.s18 eq_ a2 a6 b3 a7=_ at h;unfold Z8.s18 at h;obtain⟨e1,_⟩:=hp;refine A3 rfl<|B1 (List.length a6-a2) len_own<|B5 h (λd0 h b8=>?_) λd0 h b8=>?_;obtain⟨d1,e8,h⟩:=aZ h;refine A3 ⟨(by omega),rfl,P6 e8⟩<|B1 (a2+a7) rfl<|⟨_,_,⟨rfl,P7 e8,rfl,rfl⟩,?_⟩;refine D2.mk (zzR_ (by omega)) ?_;obtain⟨d2,h⟩:=D5 h;obtain⟨d3,e7,h⟩:=aZ h;refine A3 ⟨d2,rfl,P6 e7⟩<|B1 (a2+(Int.toNat ((a7:Int)-1))) rfl<|⟨_,_,⟨rfl,P7 e7,rfl,rfl⟩,?_⟩;obtain⟨d4,f5,h⟩:=A5 h;refine⟨_,Sp.args (hf1 d1 d3 d4 f5) (by rw[hk1_0];try rfl),?_⟩;refine H4 h (λd5 h=>?_) λd5 h=>?_;obtain⟨d6,e9,h⟩:=aZ h;refine A3 ⟨(by omega),rfl,P6 e9⟩<|B1 (a2+a7) rfl<|⟨_,_,⟨rfl,P7 e9,rfl,rfl⟩,?_⟩;obtain⟨e2,e6,h⟩:=aZ h;refine A3 ⟨(by omega),rfl,P6 e6⟩<|A3 ⟨rfl,trivial⟩<|⟨_,P7 e6,?_⟩;refine B1 (List.map (cL cI) (List.set a6 b3 d6)) (oR rfl) ?_;obtain⟨d7,h⟩:=D5 h;refine D2.mk d7<|D2.mk (zzR_ (by omega)) ?_;cases h;exact E7 _ a3 eZ;refine D2.mk (zzR_ (by omega)) ?_;cases h;exact E7 _ a3 eZ;cases h;cases C0 a3;exact D8 eZ;replace h:Z8.k19 b2 a8=some _:=f6;unfold Z8.k19 at h;obtain⟨e3,_⟩:=hp;obtain⟨b5,h⟩:=D5 h;refine A3 ⟨rfl,b5.1,by have a5:=b5;simp only[B6];omega,by have a5:=b5;simp only[B6];omega⟩ ?_;obtain⟨d8,h⟩:=D5 h;refine A3 ⟨rfl,by have a5:=d8;simp only[B6];omega⟩ ?_;refine B1 (List.map (cL cI) (List.take a8 b2++List.replicate (List.length b2-a8) [])) (clr_map (z:=[]) rfl) ?_;obtain⟨b6,h⟩:=D5 h;refine A3 ⟨rfl,b6.1,by have a5:=b6;simp only[B6];omega,by have a5:=b6;simp only[B6];omega⟩ ?_;refine B1 (List.map (cL cI) (List.take a8 (List.take a8 b2++List.replicate (List.length b2-a8) []))) cut_own ?_;cases h;cases C0 a4;replace h:some _=some _:=f4;cases h;exact A3 ⟨rfl,trivial⟩ ⟨rfl,rfl⟩;refine D2.mk (zzR_ (by omega)) ?_;cases h;exact E7 _ a4 eZ;cases h;cases C0 a4;exact J5.mk' _ rfl eZ;rintro⟨⟩ rfl hp;replace h:=K5 f4;obtain⟨e4,_⟩:=hp;cases h;exact A3 ⟨rfl,trivial⟩ ⟨rfl,rfl⟩
def JN(l_:A4)(order_:(A2)->(A2)->Option Int)(f1_:FuncId)(hf1:∀x0 x1 r,order_ x0 x1=some r->Sp Tryz.prog f1_ [.im (nL cI x0),.im (nL cI x1)] (.im (nI r)))(hd1:CmpE Tryz.prog f1_ (λx=>nL cI x) order_)(r:A4)(h:iB l_ order_=some r):Sp Tryz.prog 109 [.im (nL (cL cI) l_),.im (.fn f1_ [])] (.row 51 1 (List.map (cL cI) r)):=by
 refine D1 [13000,16000,2013000] λhk=>?_;have z1:lZ l_:=A8 hk.1;unfold iB at h;obtain⟨b2,a9,h⟩:=A5 h;refine⟨_,zsp l_ b2 (a9),?_⟩;refine A3 rfl<|A3 ⟨rfl,trivial⟩ ?_;obtain⟨b3,c8,h⟩:=A5 h;refine⟨_,zo9 b2 order_ f1_ hd1 b3 (c8),?_⟩;refine A3 ⟨rfl,rfl,trivial⟩ ?_;obtain⟨a7,c7,h⟩:=A5 h;refine⟨_,zig b3 (λu0 u1=>uG u0 u1 order_) 165 (.ref [.fn f1_ []]) rfl (λu0 u1 r h=>(zqi u0 u1 order_ f1_ hf1 r h)) a7 (λ_ _=>c7),?_⟩;refine A3 rfl<|B1 a7.length B9 ?_;obtain⟨b5,h,d0⟩:=A5 h;refine I4 (mkSt [(5,.osl 64 1)] [(64,.row 51 1 (List.map (cL cI) b5))] []) ((Holds.kdl 64 rfl).and hT) ?_ λhp=>?_;refine H1 h (λ(a2,a6)=>mkSt [(5,.osl 64 1),(16,.osl 64 1),(17,C1 (a7.length:Int)),(18,B8 a6)] [(64,.row 51 1 (List.map (cL cI) a2))] []) (λ(a2,a6)=>lZ a2/\True) (eA (K9 [64,15])) (λ⟨a2,a6⟩=>((Holds.kdl 64 rfl).and hT)) ?_;rintro k ⟨a2,a6⟩ o hp h a4;change iB.s2 a7 a2 a6=_ at h;unfold iB.s2 at h;obtain⟨b9,_⟩:=hp;refine B5 h (λb6 h a8=>?_) λb6 h a8=>?_;obtain⟨b7,a3,h⟩:=aZ h;refine A3 ⟨(by omega),rfl,P6 a3⟩<|⟨_,_,⟨rfl,P7 a3,rfl,rfl⟩,?_⟩;obtain⟨b4,c9,h⟩:=A5 h;refine⟨_,(iA b7 b4 (c9)).im,?_⟩;obtain⟨c0,a5,h⟩:=aZ h;refine A3 ⟨(by omega),rfl,P6 a5⟩<|A3 ⟨rfl,trivial⟩<|⟨_,P7 a5,?_⟩;refine B1 (List.map (cL cI) (List.set a2 a6 b4)) (oR rfl) ?_;obtain⟨b8,h⟩:=D5 h;refine D2.mk b8 ?_;cases h;exact E7 _ a4 eZ;cases h;cases C0 a4;exact D8 eZ;replace h:=d0;obtain⟨c6,_⟩:=hp;cases h;exact A3 ⟨rfl,trivial⟩ ⟨rfl,rfl⟩
def CI(a_ b_:A2)(r:Int)(h:fN a_ b_=some r):Sp Tryz.prog 166 [.im (nL cI a_),.im (nL cI b_)] (.im (nI r)):=by
 refine D1 [] λhk=>?_;have z1:lZ a_:=A8 hk.1;have z2:lZ b_:=A8 hk.2.1;unfold fN at h;refine B1 a_.length B9<|B1 b_.length B9 ?_;obtain⟨oc,h,a4⟩:=A5 h;refine W9 oc (Y:=Unit) (λ(_:Unit)=>mkSt [(0,C3 cI a_),(1,C3 cI b_)] [] []) (λ(_:Unit)=>lZ a_/\lZ b_/\True) (by rintro⟨⟩;exact((C5 0 rfl).and ((C5 1 rfl).and hT))) ?_ ?_;refine H1 h (λa2=>mkSt [(0,C3 cI a_),(1,C3 cI b_),(10,C1 (min (a_.length:Int) (b_.length:Int))),(11,B8 a2)] [] []) (λa2=>lZ a_/\lZ b_/\True) eZ (λa2=>((C5 0 rfl).and ((C5 1 rfl).and hT))) ?_;rintro k a2 o hp h a3;unfold fN.s2 at h;obtain⟨b3,b4,_⟩:=hp;refine B5 h (λa8 h a6=>?_) λa8 h a6=>?_;refine F8 h λb5 a9 h=>?_;refine F8 h λb6 a5 h=>?_;refine B5 h (λb2 h a7=>?_) λb2 h a7=>?_;cases h;cases C0 a3;replace h:some _=some _:=a4;cases h;exact⟨rfl,rfl⟩;refine D2.mk (zzR_ (by omega)) ?_;cases h;exact E7 _ a3 eZ;cases h;cases C0 a3;exact J5.mk' _ rfl eZ;rintro⟨⟩ rfl hp;replace h:=K5 a4;obtain⟨b7,b8,_⟩:=hp;refine B1 a_.length B9<|B1 b_.length B9 ?_;cases h;exact⟨rfl,rfl⟩
def uJ(w_ p_:A2)(r:Bool)(h:jN w_ p_=some r):Sp Tryz.prog 111 [.im (nL cI w_),.im (nL cI p_)] (.im (nB r)):=by
 refine D1 [] λhk=>?_;have z1:lZ w_:=A8 hk.1;have z2:lZ p_:=A8 hk.2.1;unfold jN at h;obtain⟨a2,a3,h⟩:=A5 h;refine⟨_,CI w_ p_ a2 a3,?_⟩;refine B1 p_.length B9 ?_;cases h;exact⟨rfl,rfl⟩
def zs9(l_ r:A4)(h:uB l_=some r):Sp Tryz.prog 112 [.im (nL (cL cI) l_)] (.row 51 1 (List.map (cL cI) r)):=by
 refine D1 [] λhk=>?_;have z1:lZ l_:=A8 hk.1;unfold uB at h;obtain⟨a2,a3,h⟩:=A5 h;refine⟨_,JN l_ (λu0 u1=>bY u0 u1) 93 (λu0 u1 r h=>(xX u0 u1 r h)) zs7 a2 a3,?_⟩;cases h;exact A3 ⟨rfl,trivial⟩ ⟨rfl,rfl⟩
def FQ(a_ b_:A2)(r:Int)(h:jA a_ b_=some r):Sp Tryz.prog 110 [.im (nL cI a_),.im (nL cI b_)] (.im (nI r)):=by
 refine D1 [] λhk=>?_;have z1:lZ a_:=A8 hk.1;have z2:lZ b_:=A8 hk.2.1;unfold jA at h;obtain⟨a2,a3,h⟩:=A5 h;refine⟨_,JX a_ b_ a2 a3,?_⟩;cases h;exact⟨rfl,rfl⟩
def JM(l_ r:A4)(h:fQ l_=some r):Sp Tryz.prog 58 [.im (nL (cL cI) l_)] (.im (nL (cL cI) r)):=by
 refine D1 [] λhk=>?_;have z1:lZ l_:=A8 hk.1;unfold fQ at h;obtain⟨a8,d4,h⟩:=A5 h;refine⟨_,(JN l_ (λu0 u1=>jA u0 u1) 110 (λu0 u1 r h=>(FQ u0 u1 r h)) cmpE_word_Lex a8 d4).im,?_⟩;refine B1 a8.length B9 ?_;obtain⟨b3,h,d5⟩:=A5 h;refine I4 (mkSt [(4,.osl 64 1)] [(64,.row 51 1 (List.map (cL cI) b3))] []) ((Holds.kdl 64 rfl).and hT) ?_ λhp=>?_;refine H1 h (λ(a2,a7)=>mkSt [(3,C3 (cL cI) a8),(4,.osl 64 1),(9,C3 (cL cI) a8),(10,C1 (a8.length:Int)),(11,B8 a7)] [(64,.row 51 1 (List.map (cL cI) a2))] []) (λ(a2,a7)=>lZ a8/\lZ a2/\True) (eA [(64,none)]) (λ⟨a2,a7⟩=>((C5 3 rfl).and ((Holds.kdl 64 rfl).and hT))) ?_;rintro k ⟨a2,a7⟩ o hp h a3;change fQ.s2 a8 a2 a7=_ at h;unfold fQ.s2 at h;obtain⟨c8,c9,_⟩:=hp;refine B5 h (λb6 h b4=>?_) λb6 h b4=>?_;refine F8 h λb2 d7 h=>?_;obtain⟨b7,h,a5⟩:=A5 h;refine I4 (mkSt [(3,C3 (cL cI) a8),(4,.osl 64 1),(6,C3 cI b2),(9,C3 (cL cI) a8),(10,C1 (a8.length:Int)),(11,B8 a7),(30,J1 b7)] [(64,.row 51 1 (List.map (cL cI) a2))] []) ((C5 3 rfl).and ((C5 6 rfl).and ((Holds.kdl 64 rfl).and hT))) ?_ λhp=>?_;refine D2.mk (zzR_ (by omega))<|B1 a8.length B9<|Y8 h (λa6 h b5=>?_) λa6 h b5=>?_
 iterate 2 (refine B3 (J2 a6) ?_)
 refine D2.mk (zzR_ (by omega))<|B3 (J2 a6)<|F8 h λb8 d6 h=>?_
 iterate 3 (refine B3 (J2 a6) ?_)
 obtain⟨b9,a9,h⟩:=A5 h;refine⟨_,uJ b8 b2 b9 a9,?_⟩;refine B3 (J2 a6)<|C4 a6 ?_;cases h;exact D8 eZ
 iterate 7 (refine C4 (T5 a6) ?_)
 refine B3 a6 ?_;cases h;exact D8 eZ;replace h:=a5;obtain⟨d0,d1,d2,_⟩:=hp;refine H4 h (λc0 h=>?_) λc0 h=>?_;obtain⟨c6,h⟩:=D5 h;refine A3 ⟨rfl,K6 (l:=[b2]) (c:=cL cI) λ_=>rfl,show E0 _ 24 by simpa only[B6,E9,L2,F9]using c6⟩ ?_;refine B1 (List.map (cL cI) (a2++[b2])) (O9 (l:=a2) (m:=[b2]) (c:=cL cI))<|D2.mk (zzR_ (by omega)) ?_;cases h;exact E7 _ a3 eZ;refine D2.mk (zzR_ (by omega)) ?_;cases h;exact E7 _ a3 eZ;cases h;cases C0 a3;exact D8 eZ;replace h:=d5;obtain⟨d3,_⟩:=hp;refine A3 ⟨rfl,trivial⟩ ?_;obtain⟨c7,a4,h⟩:=A5 h;refine⟨_,(zs9 b3 c7 a4).im,?_⟩;cases h;exact⟨rfl,rfl⟩
def CF(t_:C6)(o_:A7)(r:Int)(h:nK t_ o_=some r):Sp Tryz.prog 85 [.im (.agg (N9 t_)),.im (.agg (N4 o_))] (.im (nI r)):=by
 refine D1 [700002,700003] λhk=>?_;have z1:lZ t_.P:=A8 (B7 hk.1 1 rfl);have z2:lZ t_.X:=A8 (B7 hk.1 2 rfl);have z3:lZ o_.T:=A8 (B7 hk.2.1 1 rfl);unfold nK at h;obtain⟨a7,a3,h⟩:=A5 h;refine⟨_,IM t_ a7 a3,?_⟩;refine B5 h (λa8 h a2=>?_) λa8 h a2=>?_;cases h;exact⟨rfl,rfl⟩;refine B5 h (λb2 h a6=>?_) λb2 h a6=>?_;cases h;exact⟨rfl,rfl⟩;cases h;exact⟨rfl,rfl⟩
def BP(o_:A7)(r:List B0)(h:nC o_=some r):Sp Tryz.prog 86 [.im (.agg (N4 o_))] (.row 53 2 (List.map C9 r)):=by
 refine D1 [9000,700001,2009000] λhk=>?_;have z1:lZ o_.T:=A8 (B7 hk.1 1 rfl);unfold nC at h;obtain⟨a2,a4,h⟩:=A5 h;refine⟨_,zrn o_.T a2 (a4),?_⟩;refine A3 ⟨rfl,trivial⟩ ?_;obtain⟨a6,a3,h⟩:=A5 h;refine⟨_,zoj a2 (λu0 u1=>aO u0 u1) 143 zs2 a6 (a3),?_⟩;cases h;exact A3 ⟨rfl,trivial⟩ ⟨rfl,rfl⟩
def zeu(x_:List B0)(target_:A2)(cmp_:B0->(A2)->Option Int)(f2_:FuncId)(hf2:∀x0 x1 r,cmp_ x0 x1=some r->Sp Tryz.prog f2_ [.im (.agg (C9 x0)),.im (nL cI x1)] (.im (nI r)))(r:Int×Bool)(h:iE x_ target_ cmp_=some r):Sp Tryz.prog 201 [.im (nL C9 x_),.im (nL cI target_),.im (.fn f2_ [])] (.tup [nI r.1,nB r.2]):=by
 refine D1 [] λhk=>?_;have z1:lZ x_:=A8 hk.1;have z2:lZ target_:=A8 hk.2.1;unfold iE at h;refine B1 x_.length B9 ?_;obtain⟨d1,h,d6⟩:=A5 h;refine I4 (mkSt [(0,C3 C9 x_),(1,C3 cI target_),(2,.im (.fn f2_ [])),(8,C1 (x_.length:Int)),(9,C1 d1)] [] []) ((C5 0 rfl).and ((C5 1 rfl).and hT)) ?_ λhp=>?_;refine H1 h (λ(a6,a7)=>mkSt [(0,C3 C9 x_),(1,C3 cI target_),(2,.im (.fn f2_ [])),(8,C1 (x_.length:Int)),(9,C1 a6),(10,C1 a7)] [] []) (λ(a6,a7)=>lZ x_/\lZ target_/\True) eZ (λ⟨a6,a7⟩=>((C5 0 rfl).and ((C5 1 rfl).and hT))) ?_;rintro k ⟨a6,a7⟩ o hp h a3;change iE.s2 x_ target_ cmp_ a6 a7=_ at h;unfold iE.s2 at h;obtain⟨d2,d3,_⟩:=hp;refine B5 h (λb4 h a8=>?_) λb4 h a8=>?_;obtain⟨b5,h⟩:=D5 h;refine D2.mk b5 ?_;obtain⟨b6,h⟩:=D5 h;refine A3 b6 ?_;obtain⟨b7,h⟩:=D5 h;refine A3 ⟨⟨by show(0:Int)<=(a6+a7) / 2^1;omega,by show(a6+a7) / 2^1<=(18446744073709551615:Int);omega⟩,b7.1,by decide,by decide⟩ ?_;obtain⟨b8,h⟩:=D5 h;refine A3 b8<|K1 h λb9 d7 d9 h=>?_;obtain⟨c0,a4,h⟩:=A5 h;refine⟨_,hf2 b9 target_ c0 a4,?_⟩;refine B5 h (λc6 h b2=>?_) λc6 h b2=>?_;obtain⟨c7,h⟩:=D5 h;refine D2.mk c7 ?_;cases h;exact E7 _ a3 eZ;cases h;exact E7 _ a3 eZ;cases h;cases C0 a3;exact D8 eZ;replace h:=d6;obtain⟨d4,d5,_⟩:=hp;obtain⟨c8,h,a9⟩:=A5 h;refine I4 (mkSt [(6,C1 d1),(7,J1 c8)] [] []) hT ?_ λhp=>?_;refine aS h (λa2 h b3=>?_) λa2 h b3=>?_
 iterate 3 (refine B3 (H9 a2) ?_)
 refine K1 h λc9 d8 e0 h=>?_
 iterate 3 (refine B3 (H9 a2) ?_)
 obtain⟨d0,a5,h⟩:=A5 h;refine⟨_,hf2 c9 target_ d0 a5,?_⟩;refine B3 (H9 a2)<|B3 a2 ?_;cases h;exact D8 eZ
 iterate 7 (refine C4 (V2 a2) ?_)
 refine C4 a2 ?_;cases h;exact D8 eZ;replace h:=a9;cases h;exact⟨rfl,rfl⟩
def zmy(t_:B0)(w_:A2)(r:Int)(h:kY t_ w_=some r):Sp Tryz.prog 202 [.im (.agg (C9 t_)),.im (nL cI w_)] (.im (nI r)):=by
 refine D1 [700002] λhk=>?_;have z1:lZ t_.In:=A8 (B7 hk.1 0 rfl);have z2:lZ t_.O:=A8 (B7 hk.1 1 rfl);have z3:lZ w_:=A8 hk.2.1;unfold kY at h;obtain⟨a2,a3,h⟩:=A5 h;refine⟨_,FQ t_.In w_ a2 a3,?_⟩;cases h;exact⟨rfl,rfl⟩
def JS(f_:List B0)(w_:A2)(r:A2×Bool)(h:qT f_ w_=some r):Sp Tryz.prog 144 [.im (nL C9 f_),.im (nL cI w_)] (.tup [nL cI r.1,nB r.2]):=by
 refine D1 [] λhk=>?_;have z1:lZ f_:=A8 hk.1;have z2:lZ w_:=A8 hk.2.1;unfold qT at h;refine B1 w_.length B9<|B5 h (λb4 h a7=>?_) λb4 h a7=>?_;cases h;exact⟨rfl,rfl⟩;obtain⟨b3,a3,h⟩:=A5 h;refine⟨_,zeu f_ w_ (λu0 u1=>kY u0 u1) 202 (λu0 u1 r h=>(zmy u0 u1 r h)) b3 a3,?_⟩;obtain⟨b5,h,a4⟩:=A5 h;refine I4 (mkSt [(0,C3 C9 f_),(1,C3 cI w_),(6,C1 b3.1),(41,J1 b5)] [] []) ((C5 0 rfl).and ((C5 1 rfl).and hT)) ?_ λhp=>?_;refine B1 f_.length B9<|Y8 h (λa6 h a8=>?_) λa6 h a8=>?_
 iterate 2 (refine B3 (J2 a6) ?_)
 refine K1 h λb6 c8 d1 h=>?_
 iterate 4 (refine B3 (J2 a6) ?_)
 obtain⟨b7,a5,h⟩:=A5 h;refine⟨_,uJ b6.In w_ b7 a5,?_⟩;refine B3 (J2 a6)<|C4 a6<|iM h (λa2 h=>?_) λa2 h=>?_
 iterate 2 (refine B3 (J2 a2) ?_)
 refine K1 h λb8 a9 c9 h=>?_
 iterate 3 (refine B3 (J2 a2) ?_)
 refine B1 b8.O.length B9 ?_
 iterate 2 (refine B3 (J2 a2) ?_)
 refine B1 w_.length B9<|B3 (J2 a2)<|C4 a2 ?_;cases h;exact D8 eZ
 iterate 8 (refine C4 (T5 a2) ?_)
 refine B3 a2 ?_;cases h;exact D8 eZ
 iterate 7 (refine C4 (T5 a6) ?_)
 refine B3 a6 ?_
 iterate 9 (refine C4 rfl ?_)
 refine B3 rfl ?_;cases h;exact D8 eZ;replace h:=a4;obtain⟨d2,c0,_⟩:=hp;refine H4 h (λb9 h=>?_) λb9 h=>?_;cases h;exact⟨rfl,rfl⟩;refine K1 h λb2 c7 d0 h=>?_;refine B1 w_.length B9 ?_;obtain⟨c6,h⟩:=D5 h;refine A3 (show(0:Int)<=(0:Int)/\(0:Int)<=(w_.length:Int)/\(w_.length:Int)<=(↑(List.length (List.map cI b2.O)):Int)/\(∀e∈List.map cI b2.O,List.length e=1) from⟨by omega,by first|omega|(simp only[B6];omega),by first|omega|(simp only[B6];omega),K6 λ_=>rfl⟩) ?_
 refine B1 (List.map cI (List.take w_.length b2.O)) lP ?_;cases h;exact⟨rfl,rfl⟩
def zpt(f_:List B0)(w_:A2)(r:Bool)(h:uI f_ w_=some r):Sp Tryz.prog 88 [.im (nL C9 f_),.im (nL cI w_)] (.im (nB r)):=by
 refine D1 [] λhk=>?_;have z1:lZ f_:=A8 hk.1;have z2:lZ w_:=A8 hk.2.1;unfold uI at h;obtain⟨a2,a3,h⟩:=A5 h;refine⟨_,JS f_ w_ a2 a3,?_⟩;cases h;exact⟨rfl,rfl⟩
def JH(w_:A2)(p1_:C6)(p2_:List B0)(p3_ r:A4)(h:Ok (nL cI w_)->Ok (.ref (N9 p1_))->Ok (.ref (cL C9 p2_))->gF [.ow (.row 51 1 (List.map (cL cI) p3_))]->fR w_ p1_ p2_ p3_=some r):Sp Tryz.prog 87 [.im (nL cI w_),.im (.ref (N9 p1_)),.im (.ref (cL C9 p2_)),.box 22 [.ow (.row 51 1 (List.map (cL cI) p3_))]] (.mk true [] [.box 22 [.ow (.row 51 1 (List.map (cL cI) r))]]):=by
 refine D1 [] λhk=>?_;replace h:=h hk.1 hk.2.1 hk.2.2.1 hk.2.2.2.1;have z1:lZ w_:=A8 hk.1;have z2:lZ p1_.P:=A8 (Ok.ref_at hk.2.1 1 rfl);have z3:lZ p1_.X:=A8 (Ok.ref_at hk.2.1 2 rfl);have z4:lZ p2_:=A8 (Ok.ref_at hk.2.2.1 0 rfl);have z5:lZ p3_:=iW hk.2.2.2.1.1;unfold fR at h;refine B1 p1_.X.length B9 ?_;obtain⟨b2,h,a4⟩:=A5 h;refine I4 (mkSt [(3,.own 3 0 0)] [(3,.box 22 1),(65,.row 51 1 (List.map (cL cI) b2))] [(3,0,.osl 65 1)]) ((Holds.kdl 65 rfl).and hT) ?_ λhp=>?_;refine H1 h (λ(a2,a6)=>mkSt [(0,C3 cI w_),(2,C7 (cL C9 p2_)),(3,.own 3 0 0),(9,C3 (cL cI) p1_.X),(10,C1 (p1_.X.length:Int)),(11,B8 a6)] [(3,.box 22 1),(65,.row 51 1 (List.map (cL cI) a2))] [(3,0,.osl 65 1)]) (λ(a2,a6)=>lZ w_/\lZ p1_.X/\lZ a2/\True) (eA (K9 [3,3,65,2192])) (λ⟨a2,a6⟩=>((C5 0 rfl).and ((C5 9 rfl).and ((Holds.kdl 65 rfl).and hT)))) ?_;rintro k ⟨a2,a6⟩ o hp h a3;change fR.s2 w_ p1_ p2_ a2 a6=_ at h;unfold fR.s2 at h;obtain⟨c0,c6,b3,_⟩:=hp;refine B5 h (λb4 h a8=>?_) λb4 h a8=>?_;refine F8 h λb5 c7 h=>?_;obtain⟨a7,a5,h⟩:=A5 h;refine⟨_,(gU [w_,b5] a7 a5),?_⟩;obtain⟨b6,a9,h⟩:=A5 h;refine⟨_,zpt p2_ a7 b6 a9,?_⟩;refine H4 h (λb7 h=>?_) λb7 h=>?_;refine A3 rfl ?_;obtain⟨b8,h⟩:=D5 h;refine A3 ⟨rfl,K6 (l:=[a7]) (c:=cL cI) λ_=>rfl,show E0 _ 24 by simpa only[B6,E9,L2,F9]using b8⟩ ?_;refine B1 (List.map (cL cI) (a2++[a7])) (O9 (l:=a2) (m:=[a7]) (c:=cL cI))<|A3 rfl<|D2.mk (zzR_ (by omega)) ?_;cases h;exact E7 _ a3 eZ;refine D2.mk (zzR_ (by omega)) ?_;cases h;exact E7 _ a3 eZ;cases h;cases C0 a3;exact D8 eZ;replace h:=a4;obtain⟨b9,_⟩:=hp;cases h;exact A3 ⟨rfl,rfl,trivial⟩ ⟨rfl,rfl⟩
def zw0(t_:C6)(o_:A7)(r:A4×Int)(h:bJ t_ o_=some r):Sp Tryz.prog 49 [.im (.agg (N9 t_)),.im (.agg (N4 o_))] (.tup [nL (cL cI) r.1,nI r.2]):=by
 refine sp_of rfl [32003,42003,700002,700003,800007,31937*1000000000+51*100+1] rfl rfl rfl (xU rfl) rfl λhk=>?_;have z1:lZ t_.P:=A8 (B7 hk.1 1 rfl);have z2:lZ t_.X:=A8 (B7 hk.1 2 rfl);have z3:lZ o_.T:=A8 (B7 hk.2.1 1 rfl);unfold bJ at h;obtain⟨d1,e6,h⟩:=A5 h;refine⟨_,CF t_ o_ d1 e6,?_⟩;refine B5 h (λd2 h b8=>?_) λd2 h b8=>?_;cases h;exact⟨rfl,rfl⟩;obtain⟨b3,e4,h⟩:=A5 h;refine⟨_,(BP o_ b3 e4).im,?_⟩;refine A3 rfl<|A3 ⟨rfl,trivial⟩<|B1 t_.P.length B9 ?_;obtain⟨b4,h,e5⟩:=A5 h;refine I4 (mkSt [(8,.own 64 1 0)] [(64,.box 22 1),(65,.row 51 1 (List.map (cL cI) b4))] [(64,0,.osl 65 1)]) ((Holds.kdl 65 rfl).and hT) ?_ λhp=>?_;refine H1 h (λ(a2,a6)=>mkSt [(2,C7 (N9 t_)),(8,.own 64 1 0),(9,.fn 87 [.im (.ref (N9 t_)),C7 (cL C9 b3),.own 64 1 0]),(23,C3 (cL cI) t_.P),(24,C1 (t_.P.length:Int)),(25,B8 a6)] [(64,.box 22 1),(65,.row 51 1 (List.map (cL cI) a2))] [(64,0,.osl 65 1)]) (λ(a2,a6)=>lZ t_.P/\lZ a2/\True) (Ent.mk [(64,some 8),(65,none)] rfl ⟨eI rfl rfl,⟨.own 8 _ 0,rfl,.own rfl rfl rfl⟩,⟨.fn _ [.im _,.im _,.own 8 _ 0],rfl,.fn (.cons (.im (Sub.rfl' rfl)) (.cons (.im (Sub.rfl' rfl)) (.cons (.own rfl rfl rfl) (.nil))))⟩,eI rfl rfl,eI rfl rfl,eI rfl rfl,trivial⟩ ⟨.inl ⟨8,rfl,rfl,trivial⟩,.inr ⟨rfl,rfl,.inl ⟨_,_,rfl,by decide⟩⟩,trivial⟩ ⟨⟨8,.im (.val (.slice none 0 0)),rfl,rfl,.made rfl rfl⟩,trivial⟩) (λ⟨a2,a6⟩=>((C5 23 rfl).and ((Holds.kdl 65 rfl).and hT))) ?_;rintro k ⟨a2,a6⟩ o hp h a3;change bJ.s14 t_ b3 a2 a6=_ at h;unfold bJ.s14 at h;obtain⟨d3,d4,_⟩:=hp;refine B5 h (λb9 h b5=>?_) λb9 h b5=>?_;refine F8 h λb2 e7 h=>?_;refine A3 ⟨rfl,rfl,trivial⟩ ?_;obtain⟨c0,e1,h⟩:=A5 h;refine⟨_,JH b2 t_ b3 a2 c0 (λ_ _ _ _=>e1),?_⟩;obtain⟨c6,h,e2⟩:=A5 h;refine I4 (mkSt [(2,C7 (N9 t_)),(8,.own 64 1 0),(9,.fn 87 [.im (.ref (N9 t_)),C7 (cL C9 b3),.own 64 1 0]),(23,C3 (cL cI) t_.P),(24,C1 (t_.P.length:Int)),(25,B8 a6)] [(64,.box 22 1),(65,.row 51 1 (List.map (cL cI) c6))] [(64,0,.osl 65 1)]) ((C5 23 rfl).and ((Holds.kdl 65 rfl).and hT)) ?_ λhp=>?_;refine H1 h (λ(a7,a8)=>mkSt [(2,C7 (N9 t_)),(8,.own 64 1 0),(9,.fn 87 [.im (.ref (N9 t_)),C7 (cL C9 b3),.own 64 1 0]),(11,C3 cI b2),(23,C3 (cL cI) t_.P),(24,C1 (t_.P.length:Int)),(25,B8 a6),(33,C1 t_.I),(34,B8 a8)] [(64,.box 22 1),(65,.row 51 1 (List.map (cL cI) a7))] [(64,0,.osl 65 1)]) (λ(a7,a8)=>lZ b2/\lZ t_.P/\lZ a7/\True) (Ent.mk [(64,some 64),(65,some 65)] rfl ⟨eI rfl rfl,⟨.own 64 _ 0,rfl,.own rfl rfl rfl⟩,⟨.fn _ [.im _,.im _,.own 64 _ 0],rfl,.fn (.cons (.im (Sub.rfl' rfl)) (.cons (.im (Sub.rfl' rfl)) (.cons (.own rfl rfl rfl) (.nil))))⟩,eI rfl rfl,eI rfl rfl,eI rfl rfl,eI rfl rfl,eI rfl rfl,eI rfl rfl,trivial⟩ ⟨.inl ⟨64,rfl,rfl,trivial⟩,.inl ⟨65,rfl,rfl,trivial⟩,trivial⟩ ⟨⟨64,.osl 65 _,rfl,rfl,.osl rfl rfl rfl⟩,trivial⟩) (λ⟨a7,a8⟩=>((C5 11 rfl).and ((C5 23 rfl).and ((Holds.kdl 65 rfl).and hT)))) ?_;rintro k ⟨a7,a8⟩ o hp h a4;change bJ.s13 t_ b3 b2 a7 a8=_ at h;unfold bJ.s13 at h;obtain⟨d5,d6,d7,_⟩:=hp;refine B5 h (λc7 h b6=>?_) λc7 h b6=>?_;obtain⟨b7,a5,h⟩:=A5 h;refine⟨_,CN b2 (a8:Int) b7 a5,?_⟩;refine A3 ⟨rfl,rfl,trivial⟩ ?_;obtain⟨c8,e3,h⟩:=A5 h;refine⟨_,JH b7 t_ b3 a7 c8 (λ_ _ _ _=>e3),?_⟩;obtain⟨c9,h⟩:=D5 h;refine D2.mk c9 ?_;cases h;exact E7 _ a4 (Ent.mk [(64,some 64),(65,some 65)] rfl ⟨eI rfl rfl,⟨.own 64 _ 0,rfl,.own rfl rfl rfl⟩,⟨.fn _ [.im _,.im _,.own 64 _ 0],rfl,.fn (.cons (.im (Sub.rfl' rfl)) (.cons (.im (Sub.rfl' rfl)) (.cons (.own rfl rfl rfl) (.nil))))⟩,eI rfl rfl,eI rfl rfl,eI rfl rfl,eI rfl rfl,eI rfl rfl,eI rfl rfl,trivial⟩ ⟨.inl ⟨64,rfl,rfl,trivial⟩,.inl ⟨65,rfl,rfl,trivial⟩,trivial⟩ ⟨⟨64,.osl 65 _,rfl,rfl,.osl rfl rfl rfl⟩,trivial⟩);cases h;cases C0 a4;exact D8 (Ent.mk [(64,some 64),(65,some 65)] rfl ⟨eI rfl rfl,⟨.own 64 _ 0,rfl,.own rfl rfl rfl⟩,⟨.fn _ [.im _,.im _,.own 64 _ 0],rfl,.fn (.cons (.im (Sub.rfl' rfl)) (.cons (.im (Sub.rfl' rfl)) (.cons (.own rfl rfl rfl) (.nil))))⟩,eI rfl rfl,eI rfl rfl,eI rfl rfl,trivial⟩ ⟨.inl ⟨64,rfl,rfl,trivial⟩,.inl ⟨65,rfl,rfl,trivial⟩,trivial⟩ ⟨⟨64,.osl 65 _,rfl,rfl,.osl rfl rfl rfl⟩,trivial⟩);replace h:=e2;obtain⟨d8,d9,_⟩:=hp;refine D2.mk (zzR_ (by omega)) ?_;cases h;exact E7 _ a3 (Ent.mk [(64,some 64),(65,some 65)] rfl ⟨eI rfl rfl,⟨.own 64 _ 0,rfl,.own rfl rfl rfl⟩,⟨.fn _ [.im _,.im _,.own 64 _ 0],rfl,.fn (.cons (.im (Sub.rfl' rfl)) (.cons (.im (Sub.rfl' rfl)) (.cons (.own rfl rfl rfl) (.nil))))⟩,eI rfl rfl,eI rfl rfl,eI rfl rfl,trivial⟩ ⟨.inl ⟨64,rfl,rfl,trivial⟩,.inl ⟨65,rfl,rfl,trivial⟩,trivial⟩ ⟨⟨64,.osl 65 _,rfl,rfl,.osl rfl rfl rfl⟩,trivial⟩);cases h;cases C0 a3;exact D8 eZ;replace h:=e5;obtain⟨e0,_⟩:=hp;refine A3 rfl<|A3 ⟨rfl,trivial⟩ ?_;obtain⟨d0,a9,h⟩:=A5 h;refine⟨_,JM b4 d0 a9,?_⟩;cases h;exact⟨rfl,rfl⟩
def CS(f_:List B0)(t_:C6)(w_:A2)(r:A4×Bool)(h:eK f_ t_ w_=some r):Sp Tryz.prog 145 [.im (nL C9 f_),.im (.agg (N9 t_)),.im (nL cI w_)] (.tup [nL (cL cI) r.1,nB r.2]):=by
 refine D1 [700004] λhk=>?_;have z1:lZ f_:=A8 hk.1;have z2:lZ t_.P:=A8 (B7 hk.2.1 1 rfl);have z3:lZ t_.X:=A8 (B7 hk.2.1 2 rfl);have z4:lZ w_:=A8 hk.2.2.1;unfold eK at h;refine B1 t_.X.length B9 ?_;obtain⟨b9,h⟩:=D5 h;refine A3 b9<|B1 (List.map (cL cI) []) rfl<|B1 t_.X.length B9 ?_;obtain⟨oc,h,a4⟩:=A5 h;refine W9 oc (Y:=A4) (λa8=>mkSt [(8,.osl 64 1)] [(64,.row 51 1 (List.map (cL cI) a8))] []) (λa8=>lZ a8/\True) (by rintro a8;exact((Holds.kdl 64 rfl).and hT)) ?_ ?_;refine H1 h (λ(a7,b2)=>mkSt [(0,C3 C9 f_),(2,C3 cI w_),(8,.osl 64 1),(18,C3 (cL cI) t_.X),(19,C1 (t_.X.length:Int)),(20,B8 b2)] [(64,.row 51 1 (List.map (cL cI) a7))] []) (λ(a7,b2)=>lZ f_/\lZ w_/\lZ t_.X/\lZ a7/\True) (eA (K9 [64,16])) (λ⟨a7,b2⟩=>((C5 0 rfl).and ((C5 2 rfl).and ((C5 18 rfl).and ((Holds.kdl 64 rfl).and hT))))) ?_;rintro k ⟨a7,b2⟩ o hp h a3;change eK.s2 f_ t_ w_ a7 b2=_ at h;unfold eK.s2 at h;obtain⟨c0,c6,c7,c8,_⟩:=hp;refine B5 h (λb5 h b3=>?_) λb5 h b3=>?_;refine F8 h λb6 d2 h=>?_;obtain⟨b4,a9,h⟩:=A5 h;refine⟨_,(gU [w_,b6] b4 a9),?_⟩;obtain⟨a2,a5,h⟩:=A5 h;refine⟨_,JS f_ b4 a2 a5,?_⟩;refine H4 h (λb7 h=>?_) λb7 h=>?_;cases h;cases C0 a3;replace h:some _=some _:=a4;cases h;exact⟨rfl,rfl⟩;refine B1 w_.length B9 ?_;obtain⟨c9,h⟩:=D5 h;refine A3 (show(0:Int)<=(w_.length:Int)/\(w_.length:Int)<=(↑(List.length (List.map cI a2.1)):Int)/\(↑(List.length (List.map cI a2.1)):Int)<=(↑(List.length (List.map cI a2.1)):Int)/\(∀e∈List.map cI a2.1,List.length e=1) from⟨by omega,by first|omega|(simp only[B6];omega),by first|omega|(simp only[B6];omega),K6 λ_=>rfl⟩) ?_
 refine B1 (List.map cI (List.drop w_.length a2.1)) kJ ?_;obtain⟨a6,d1,h⟩:=A5 h;refine⟨_,(iA (List.drop w_.length a2.1) a6 (d1)).im,?_⟩;obtain⟨b8,h⟩:=D5 h;refine A3 ⟨rfl,K6 (l:=[a6]) (c:=cL cI) λ_=>rfl,show E0 _ 24 by simpa only[B6,E9,L2,F9]using b8⟩ ?_;refine B1 (List.map (cL cI) (a7++[a6])) (O9 (l:=a7) (m:=[a6]) (c:=cL cI))<|D2.mk (zzR_ (by omega)) ?_;cases h;exact E7 _ a3 eZ;cases h;cases C0 a3;exact J5.mk' _ rfl eZ;rintro a8 rfl hp;replace h:=K5 a4;obtain⟨d0,_⟩:=hp;cases h;exact A3 ⟨rfl,trivial⟩ ⟨rfl,rfl⟩
def JI(v_:M7)(row_:A4)(v0_1 v0_2:Value)(r:Int×M7)(h:gF [.ow (.row 22 1 (List.map (cL (cL cI)) v_.rows)),.im (.ex v0_1),.im (.ex v0_2),.ow (.map (mapV wS wI v_.number))]->Ok (nL (cL cI) row_)->cD v_ row_=some r):Sp Tryz.prog 146 [.box 148 [.ow (.row 22 1 (List.map (cL (cL cI)) v_.rows)),.im (.ex v0_1),.im (.ex v0_2),.ow (.map (mapV wS wI v_.number))],.im (nL (cL cI) row_)] (.mk false [.im (nI r.1)] [.box 148 [.ow (.row 22 1 (List.map (cL (cL cI)) r.2.rows)),.im (.ex v0_1),.im (.ex v0_2),.ow (.map (mapV wS wI r.2.number))]]):=by
 refine D1 [] λhk=>?_;replace h:=h hk.1 hk.2.1;have z1:lZ v_.rows:=iW hk.1.1;have z2:lZ row_:=A8 hk.2.1;unfold cD at h;refine B1 row_.length B9 ?_;obtain⟨b2,h,a4⟩:=A5 h;refine I4 (mkSt [(0,.own 0 0 0),(1,C3 (cL cI) row_),(5,.im (nS b2))] [(0,.box 148 4),(65,.row 22 1 (List.map (cL (cL cI)) v_.rows)),(66,.map (mapV wS wI v_.number))] [(0,0,.osl 65 1),(0,1,.im (.ex v0_1)),(0,2,.im (.ex v0_2)),(0,3,.osl 66 1)]) ((C5 1 rfl).and ((Holds.kdl 65 rfl).and hT)) ?_ λhp=>?_;refine H1 h (λ(a2,a6)=>mkSt [(0,.own 0 0 0),(1,C3 (cL cI) row_),(5,.im (nS a2)),(10,C3 (cL cI) row_),(11,C1 (row_.length:Int)),(12,B8 a6)] [(0,.box 148 4),(65,.row 22 1 (List.map (cL (cL cI)) v_.rows)),(66,.map (mapV wS wI v_.number))] [(0,0,.osl 65 1),(0,1,.im (.ex v0_1)),(0,2,.im (.ex v0_2)),(0,3,.osl 66 1)]) (λ(a2,a6)=>lZ row_/\lZ v_.rows/\True) (eA (K9 [0,0,65,2000,66,2003])) (λ⟨a2,a6⟩=>((C5 1 rfl).and ((Holds.kdl 65 rfl).and hT))) ?_;rintro k ⟨a2,a6⟩ o hp h a3;change cD.s2 row_ a2 a6=_ at h;unfold cD.s2 at h;obtain⟨c8,c9,_⟩:=hp;refine B5 h (λb7 h b3=>?_) λb7 h b3=>?_;refine F8 h λb8 d2 h=>?_;obtain⟨b9,a9,h⟩:=A5 h;refine⟨_,BJ b8 b9 (a9),?_⟩;obtain⟨c0,h⟩:=D5 h;refine A3 c0 ?_;obtain⟨c6,h⟩:=D5 h;refine A3 c6<|D2.mk (zzR_ (by omega)) ?_;cases h;exact E7 _ a3 eZ;cases h;cases C0 a3;exact D8 eZ;replace h:=a4;obtain⟨d0,d1,_⟩:=hp;refine A3 rfl<|A3 rfl<|A3 rfl<|A3 rfl<|⟨_,find_str _ wI _,?_⟩;refine B1 (wI ((mget b2 v_.number).getD 0)) (getD_map rfl _)<|B1 (mget b2 v_.number).isSome (isSome_map _) ?_;obtain⟨⟨b6,a7,a8⟩,h,a5⟩:=A5 h;refine I4 (mkSt [(0,.own 0 0 0),(8,C1 a8)] [(0,.box 148 4),(65,.row 22 1 (List.map (cL (cL cI)) b6)),(66,.map (mapV wS wI a7))] [(0,0,.osl 65 1),(0,1,.im (.ex v0_1)),(0,2,.im (.ex v0_2)),(0,3,.osl 66 1)]) ((Holds.kdl 65 rfl).and hT) ?_ λhp=>?_;refine H4 h (λb4 h=>?_) λb4 h=>?_;refine A3 rfl<|A3 rfl<|A3 rfl<|A3 rfl<|B1 v_.rows.length B9<|A3 rfl<|A3 rfl<|A3 rfl<|A3 rfl ?_;refine⟨_,set_str _ (v_.rows.length:Int) wI _,?_⟩;refine A3 rfl<|A3 rfl<|A3 rfl ?_;obtain⟨b5,h⟩:=D5 h;refine A3 ⟨rfl,K6 (l:=[row_]) (c:=cL (cL cI)) λ_=>rfl,show E0 _ 24 by simpa only[B6,E9,L2,F9]using b5⟩ ?_;refine B1 (List.map (cL (cL cI)) (v_.rows++[row_])) (O9 (l:=v_.rows) (m:=[row_]) (c:=cL (cL cI))) ?_;refine A3 rfl<|A3 rfl<|A3 rfl ?_;cases h;exact D8 eZ;cases h;exact D8 eZ;replace h:cD.k3 v_ b6 a7 a8=some _:=a5;unfold cD.k3 at h;obtain⟨c7,_⟩:=hp;cases h;exact A3 ⟨rfl,rfl,rfl,trivial⟩ ⟨rfl,rfl⟩
def BQ(t_:C6)(o_:A7)(r:M7×Int)(h:M9 t_ o_=some r):Sp Tryz.prog 90 [.im (.agg (N9 t_)),.im (.agg (N4 o_))] (.tup [.agg (dN r.1),nI r.2]):=by
 refine sp_of rfl [51000,82000,700002,700003,900050,900081,1000000000000051201,1000000000000051202,1000000000000082945,1000000000000082946,51201*1000000000+22*100+1] rfl rfl rfl (xU rfl) rfl λhk=>?_;have z1:lZ t_.P:=A8 (B7 hk.1 1 rfl);have z2:lZ t_.X:=A8 (B7 hk.1 2 rfl);have z3:lZ o_.T:=A8 (B7 hk.2.1 1 rfl);unfold M9 at h;obtain⟨f9,l4,h⟩:=A5 h;refine⟨_,CF t_ o_ f9 l4,?_⟩;refine B5 h (λg1 h e4=>?_) λg1 h e4=>?_;refine A3 rfl ?_;cases h;refine A3 ⟨rfl,trivial⟩ ?_;exact⟨rfl,rfl⟩;obtain⟨a8,l3,h⟩:=A5 h;refine⟨_,(BP o_ a8 l3).im,?_⟩;refine A3 rfl<|B1 t_.P.length B9 ?_;obtain⟨oc,h,k5⟩:=A5 h;refine W9 oc (Y:=List (A4)×A2×(List (ByteArray×Int))) (λ(d4,a7,d6)=>mkSt [(2,C7 (N9 t_)),(4,.own 93 1 0),(7,C3 C9 a8),(8,.own 94 1 0)] [(93,.box 148 4),(94,.box 148 4),(95,.row 22 1 (List.map (cL (cL cI)) d4)),(96,.row 3 1 (List.map cI a7)),(97,.map (mapV wS wI d6))] [(93,0,.im (.val (.slice none 0 0))),(93,1,.im (.val (.slice none 0 0))),(93,2,.im (.val (.slice none 0 0))),(93,3,.im (.val (.map none))),(94,0,.osl 95 1),(94,1,.osl 96 1),(94,2,.im (.val (.slice none 0 0))),(94,3,.osl 97 1)]) (λ(d4,a7,d6)=>lZ a8/\lZ d4/\lZ a7/\True) (by rintro⟨d4,a7,d6⟩;exact((C5 7 rfl).and ((Holds.kdl 95 rfl).and ((Holds.kdl 96 rfl).and hT)))) ?_ ?_;refine H1 h (λ(d3,d1,d5,d7)=>mkSt [(2,C7 (N9 t_)),(4,.own 93 1 0),(7,C3 C9 a8),(8,.own 94 1 0),(31,C3 (cL cI) t_.P),(32,C1 (t_.P.length:Int)),(33,B8 d7)] [(93,.box 148 4),(94,.box 148 4),(95,.row 22 1 (List.map (cL (cL cI)) d3)),(96,.row 3 1 (List.map cI d1)),(97,.map (mapV wS wI d5))] [(93,0,.im (.val (.slice none 0 0))),(93,1,.im (.val (.slice none 0 0))),(93,2,.im (.val (.slice none 0 0))),(93,3,.im (.val (.map none))),(94,0,.osl 95 1),(94,1,.osl 96 1),(94,2,.im (.val (.slice none 0 0))),(94,3,.osl 97 1)]) (λ(d3,d1,d5,d7)=>lZ a8/\lZ t_.P/\lZ d3/\lZ d1/\True) (eA [(93,some 4),(94,some 8),(95,none),(96,none),(97,some 28)]) (λ⟨d3,d1,d5,d7⟩=>((C5 7 rfl).and ((C5 31 rfl).and ((Holds.kdl 95 rfl).and ((Holds.kdl 96 rfl).and hT))))) ?_;rintro k ⟨d3,d1,d5,d7⟩ o hp h a9;change M9.s2 t_ a8 d3 d1 d5 d7=_ at h;unfold M9.s2 at h;obtain⟨g2,g3,g4,g5,_⟩:=hp;refine B5 h (λe5 h d8=>?_) λe5 h d8=>?_;refine F8 h λe6 l5 h=>?_;obtain⟨d9,k6,h⟩:=A5 h;refine⟨_,CS a8 t_ e6 d9 k6,?_⟩;refine H4 h (λe7 h=>?_) λe7 h=>?_;refine A3 rfl ?_;cases h;cases C0 a9;replace h:some _=some _:=k5;cases h;refine A3 ⟨rfl,trivial⟩ ?_;exact⟨rfl,rfl⟩;refine A3 rfl<|A3 rfl<|A3 ⟨rfl,rfl,rfl,trivial⟩ ?_;obtain⟨b4,k9,h⟩:=A5 h;refine⟨false,[.im (nI b4.1)],[.box 148 [.ow (.row 22 1 (List.map (cL (cL cI)) b4.2.rows)),.im .any,.im .any,.ow (.map (mapV wS wI b4.2.number))]],λV=>(JI (⟨d3,d1,[],d5⟩:M7) d9.1 (V 0 1) (V 0 2) b4 (λ_ _=>k9)),?_⟩;obtain⟨e8,h⟩:=D5 h;refine A3 ⟨rfl,K6 (l:=[b4.1]) (c:=cI) λ_=>rfl,show E0 _ 8 by simpa only[B6,E9,L2,F9]using e8⟩ ?_;refine B1 (List.map cI (d1++[b4.1])) (O9 (l:=d1) (m:=[b4.1]) (c:=cI))<|A3 rfl<|A3 rfl<|D2.mk (zzR_ (by omega)) ?_;cases h;exact E7 _ a9 eZ;cases h;cases C0 a9;exact J5.mk' _ rfl eZ;rintro⟨d4,a7,d6⟩ rfl hp;have a3:=K5 k5;replace h:M9.k24 t_ a8 d4 a7 d6=some _:=a3;clear a3;unfold M9.k24 at h;obtain⟨g6,g7,g8,_⟩:=hp;refine B1 t_.P.length B9 ?_;obtain⟨oc,h,f6⟩:=A5 h;refine W9 oc (Y:=List (A4)×A4×(List (ByteArray×Int))) (λ(b7,b8,c8)=>mkSt [(4,.own 93 1 0),(8,.own 94 1 0)] [(93,.box 148 4),(94,.box 148 4),(95,.row 22 1 (List.map (cL (cL cI)) b7)),(96,.row 3 1 (List.map cI a7)),(97,.row 51 1 (List.map (cL cI) b8)),(98,.map (mapV wS wI c8))] [(93,0,.im (.val (.slice none 0 0))),(93,1,.im (.val (.slice none 0 0))),(93,2,.im (.val (.slice none 0 0))),(93,3,.im (.val (.map none))),(94,0,.osl 95 1),(94,1,.osl 96 1),(94,2,.osl 97 1),(94,3,.osl 98 1)]) (λ(b7,b8,c8)=>lZ b7/\lZ a7/\lZ b8/\True) (by rintro⟨b7,b8,c8⟩;exact((Holds.kdl 95 rfl).and ((Holds.kdl 96 rfl).and ((Holds.kdl 97 rfl).and hT)))) ?_ ?_;refine H1 h (λ(b9,a2,c9,b2)=>mkSt [(2,C7 (N9 t_)),(4,.own 93 1 0),(7,C3 C9 a8),(8,.own 94 1 0),(56,C3 (cL cI) t_.P),(57,C1 (t_.P.length:Int)),(58,B8 b2)] [(93,.box 148 4),(94,.box 148 4),(95,.row 22 1 (List.map (cL (cL cI)) b9)),(96,.row 3 1 (List.map cI a7)),(97,.row 51 1 (List.map (cL cI) a2)),(98,.map (mapV wS wI c9))] [(93,0,.im (.val (.slice none 0 0))),(93,1,.im (.val (.slice none 0 0))),(93,2,.im (.val (.slice none 0 0))),(93,3,.im (.val (.map none))),(94,0,.osl 95 1),(94,1,.osl 96 1),(94,2,.osl 97 1),(94,3,.osl 98 1)]) (λ(b9,a2,c9,b2)=>lZ a8/\lZ t_.P/\lZ b9/\lZ a7/\lZ a2/\True) (eA [(93,some 93),(94,some 94),(95,some 95),(96,some 96),(97,none),(98,some 97)]) (λ⟨b9,a2,c9,b2⟩=>((C5 7 rfl).and ((C5 56 rfl).and ((Holds.kdl 95 rfl).and ((Holds.kdl 96 rfl).and ((Holds.kdl 97 rfl).and hT)))))) ?_;rintro k ⟨b9,a2,c9,b2⟩ o hp h a5;change M9.s22 t_ a8 a7 b9 a2 c9 b2=_ at h;unfold M9.s22 at h;obtain⟨g9,h6,h7,h8,h9,_⟩:=hp;refine B5 h (λe9 h e0=>?_) λe9 h e0=>?_;refine F8 h λd2 l6 h=>?_;obtain⟨oc,h,j9⟩:=A5 h;refine W9 oc (Y:=List (A4)×(List (ByteArray×Int))×A2) (λ(c0,d0,a6)=>mkSt [(2,C7 (N9 t_)),(4,.own 93 1 0),(7,C3 C9 a8),(8,.own 94 1 0),(15,.osl 99 1),(56,C3 (cL cI) t_.P),(57,C1 (t_.P.length:Int)),(58,B8 b2)] [(93,.box 148 4),(94,.box 148 4),(95,.row 22 1 (List.map (cL (cL cI)) c0)),(96,.row 3 1 (List.map cI a7)),(97,.row 51 1 (List.map (cL cI) a2)),(98,.map (mapV wS wI d0)),(99,.row 3 1 (List.map cI a6))] [(93,0,.im (.val (.slice none 0 0))),(93,1,.im (.val (.slice none 0 0))),(93,2,.im (.val (.slice none 0 0))),(93,3,.im (.val (.map none))),(94,0,.osl 95 1),(94,1,.osl 96 1),(94,2,.osl 97 1),(94,3,.osl 98 1)]) (λ(c0,d0,a6)=>lZ a8/\lZ t_.P/\lZ c0/\lZ a7/\lZ a2/\lZ a6/\True) (by rintro⟨c0,d0,a6⟩;exact((C5 7 rfl).and ((C5 56 rfl).and ((Holds.kdl 95 rfl).and ((Holds.kdl 96 rfl).and ((Holds.kdl 97 rfl).and ((Holds.kdl 99 rfl).and hT))))))) ?_ ?_;refine H1 h (λ(b5,c6,b3,c7)=>mkSt [(2,C7 (N9 t_)),(4,.own 93 1 0),(7,C3 C9 a8),(8,.own 94 1 0),(14,C3 cI d2),(15,.osl 99 1),(56,C3 (cL cI) t_.P),(57,C1 (t_.P.length:Int)),(58,B8 b2),(63,C1 t_.I),(64,B8 c7)] [(93,.box 148 4),(94,.box 148 4),(95,.row 22 1 (List.map (cL (cL cI)) b5)),(96,.row 3 1 (List.map cI a7)),(97,.row 51 1 (List.map (cL cI) a2)),(98,.map (mapV wS wI c6)),(99,.row 3 1 (List.map cI b3))] [(93,0,.im (.val (.slice none 0 0))),(93,1,.im (.val (.slice none 0 0))),(93,2,.im (.val (.slice none 0 0))),(93,3,.im (.val (.map none))),(94,0,.osl 95 1),(94,1,.osl 96 1),(94,2,.osl 97 1),(94,3,.osl 98 1)]) (λ(b5,c6,b3,c7)=>lZ a8/\lZ d2/\lZ t_.P/\lZ b5/\lZ a7/\lZ a2/\lZ b3/\True) (eA [(93,some 93),(94,some 94),(95,some 95),(96,some 96),(97,some 97),(98,some 98),(99,none)]) (λ⟨b5,c6,b3,c7⟩=>((C5 7 rfl).and ((C5 14 rfl).and ((C5 56 rfl).and ((Holds.kdl 95 rfl).and ((Holds.kdl 96 rfl).and ((Holds.kdl 97 rfl).and ((Holds.kdl 99 rfl).and hT)))))))) ?_;rintro k ⟨b5,c6,b3,c7⟩ o hp h a4;change M9.s20 t_ a8 a7 a2 d2 b5 c6 b3 c7=_ at h;unfold M9.s20 at h;obtain⟨i3,i4,i5,i6,i7,i8,i9,_⟩:=hp;refine B5 h (λf3 h e1=>?_) λf3 h e1=>?_;obtain⟨e2,k7,h⟩:=A5 h;refine⟨_,CN d2 (c7:Int) e2 k7,?_⟩;obtain⟨e3,k8,h⟩:=A5 h;refine⟨_,CS a8 t_ e2 e3 k8,?_⟩;refine H4 h (λf4 h=>?_) λf4 h=>?_;refine A3 rfl ?_;cases h;cases C0 a4;replace h:some _=some _:=j9;cases h;cases C0 a5;replace h:some _=some _:=f6;cases h;refine A3 ⟨rfl,trivial⟩ ?_;exact⟨rfl,rfl⟩;refine A3 ⟨rfl,rfl,rfl,trivial⟩ ?_;obtain⟨b6,l0,h⟩:=A5 h;refine⟨false,[.im (nI b6.1)],[.box 148 [.ow (.row 22 1 (List.map (cL (cL cI)) b6.2.rows)),.im .any,.im .any,.ow (.map (mapV wS wI b6.2.number))]],λV=>(JI (⟨b5,a7,a2,c6⟩:M7) e3.1 (V 0 1) (V 0 2) b6 (λ_ _=>l0)),?_⟩;obtain⟨f5,h⟩:=D5 h;refine A3 ⟨rfl,K6 (l:=[b6.1]) (c:=cI) λ_=>rfl,show E0 _ 8 by simpa only[B6,E9,L2,F9]using f5⟩ ?_;refine B1 (List.map cI (b3++[b6.1])) (O9 (l:=b3) (m:=[b6.1]) (c:=cI)) ?_;obtain⟨f7,h⟩:=D5 h;refine D2.mk f7 ?_;cases h;exact E7 _ a4 eZ;cases h;cases C0 a4;exact J5.mk' _ rfl eZ;rintro⟨c0,d0,a6⟩ rfl hp;have a3:=K5 j9;replace h:M9.k21 a2 b2 c0 d0 a6=some _:=a3;clear a3;unfold M9.k21 at h;obtain⟨j0,j1,j2,j3,j4,j5,_⟩:=hp;refine A3 rfl<|A3 rfl<|A3 ⟨rfl,trivial⟩ ?_;obtain⟨f8,h⟩:=D5 h;refine A3 ⟨rfl,K6 (l:=[a6]) (c:=cL cI) λ_=>rfl,show E0 _ 24 by simpa only[B6,E9,L2,F9]using f8⟩ ?_;refine B1 (List.map (cL cI) (a2++[a6])) (O9 (l:=a2) (m:=[a6]) (c:=cL cI))<|A3 rfl<|A3 rfl<|D2.mk (zzR_ (by omega)) ?_;cases h;exact E7 _ a5 eZ;cases h;cases C0 a5;exact J5.mk' _ rfl eZ;rintro⟨b7,b8,c8⟩ rfl hp;have a3:=K5 f6;replace h:M9.k23 a7 b7 b8 c8=some _:=a3;clear a3;unfold M9.k23 at h;obtain⟨j6,j7,j8,_⟩:=hp;refine A3 rfl<|A3 rfl ?_;cases h;refine A3 ⟨rfl,trivial⟩ ?_;exact A3 ⟨rfl,rfl,rfl,rfl,trivial⟩ ⟨rfl,rfl⟩
def zms(s_:A2)(v_ r:Int)(h:kX s_ v_=some r):Sp Tryz.prog 203 [.im (nL cI s_),.im (nI v_)] (.im (nI r)):=by
 refine D1 [] λhk=>?_;have z1:lZ s_:=A8 hk.1;unfold kX at h;refine B1 s_.length B9 ?_;obtain⟨oc,h,a4⟩:=A5 h;refine Q6 oc (mkSt [] [] []) hT ?_ ?_;refine H1 h (λa2=>mkSt [(0,C3 cI s_),(1,C1 v_),(7,C1 (s_.length:Int)),(8,B8 a2)] [] []) (λa2=>lZ s_/\True) eZ (λa2=>((C5 0 rfl).and hT)) ?_;rintro k a2 o hp h a3;unfold kX.s2 at h;obtain⟨b3,_⟩:=hp;refine B5 h (λa8 h a6=>?_) λa8 h a6=>?_;refine F8 h λb4 a5 h=>?_;refine B5 h (λb2 h a7=>?_) λb2 h a7=>?_;cases h;cases C0 a3;replace h:some _=some _:=a4;cases h;exact⟨rfl,rfl⟩;refine D2.mk (zzR_ (by omega)) ?_;cases h;exact E7 _ a3 eZ;cases h;cases C0 a3;exact J5.mk' _ rfl eZ;rintro⟨⟩ rfl hp;replace h:=K5 a4;cases h;exact⟨rfl,rfl⟩
def zlk(s_:A2)(v_:Int)(r:Bool)(h:uM s_ v_=some r):Sp Tryz.prog 147 [.im (nL cI s_),.im (nI v_)] (.im (nB r)):=by
 refine D1 [] λhk=>?_;have z1:lZ s_:=A8 hk.1;unfold uM at h;obtain⟨a2,a3,h⟩:=A5 h;refine⟨_,zms s_ v_ a2 a3,?_⟩;cases h;exact⟨rfl,rfl⟩
def JR(v_:M7)(r:Int×Int×Bool)(h:cC v_=some r):Sp Tryz.prog 91 [.im (.agg (dN v_))] (.tup [nI r.1,nI r.2.1,nB r.2.2]):=by
 refine D1 [700001] λhk=>?_;have z1:lZ v_.rows:=A8 (B7 hk.1 0 rfl);have z2:lZ v_.prefixes:=A8 (B7 hk.1 1 rfl);have z3:lZ v_.next:=A8 (B7 hk.1 2 rfl);unfold cC at h;refine B1 v_.next.length B9 ?_;obtain⟨oc,h,a9⟩:=A5 h;refine Q6 oc (mkSt [] [] []) hT ?_ ?_;refine H1 h (λa2=>mkSt [(1,C7 (dN v_)),(10,C3 (cL cI) v_.next),(11,C1 (v_.next.length:Int)),(12,B8 a2)] [] []) (λa2=>lZ v_.next/\True) eZ (λa2=>((C5 10 rfl).and hT)) ?_;rintro k a2 o hp h a3;unfold cC.s14 at h;obtain⟨b8,_⟩:=hp;refine B5 h (λb3 h a8=>?_) λb3 h a8=>?_;refine F8 h λa6 c9 h=>?_;refine B1 a6.length B9 ?_;obtain⟨oc,h,a5⟩:=A5 h;refine W9 oc (Y:=Unit) (λ(_:Unit)=>mkSt [(1,C7 (dN v_)),(10,C3 (cL cI) v_.next),(11,C1 (v_.next.length:Int)),(12,B8 a2)] [] []) (λ(_:Unit)=>lZ v_.next/\True) (by rintro⟨⟩;exact((C5 10 rfl).and hT)) ?_ ?_;refine H1 h (λa7=>mkSt [(1,C7 (dN v_)),(5,B8 a2),(10,C3 (cL cI) v_.next),(11,C1 (v_.next.length:Int)),(12,B8 a2),(17,C3 cI a6),(18,C1 (a6.length:Int)),(19,B8 a7)] [] []) (λa7=>lZ v_.next/\lZ a6/\True) eZ (λa7=>((C5 10 rfl).and ((C5 17 rfl).and hT))) ?_;rintro k a7 o hp h a4;unfold cC.s13 at h;obtain⟨b9,c0,_⟩:=hp;refine B5 h (λb4 h b2=>?_) λb4 h b2=>?_;refine F8 h λb5 c8 h=>?_;obtain⟨b6,c7,h⟩:=A5 h;refine⟨_,zlk v_.prefixes b5 b6 c7,?_⟩;refine H4 h (λb7 h=>?_) λb7 h=>?_;cases h;cases C0 a4;replace h:some _=some _:=a5;cases h;cases C0 a3;replace h:some _=some _:=a9;cases h;exact⟨rfl,rfl⟩;refine D2.mk (zzR_ (by omega)) ?_;cases h;exact E7 _ a4 eZ;cases h;cases C0 a4;exact J5.mk' _ rfl eZ;rintro⟨⟩ rfl hp;replace h:=K5 a5;obtain⟨c6,_⟩:=hp;refine D2.mk (zzR_ (by omega)) ?_;cases h;exact E7 _ a3 eZ;cases h;cases C0 a3;exact J5.mk' _ rfl eZ;rintro⟨⟩ rfl hp;replace h:=K5 a9;cases h;exact⟨rfl,rfl⟩
def zs4(t_:C6)(o_:A7)(r:A2×Bool×Int)(h:uC t_ o_=some r):Sp Tryz.prog 50 [.im (.agg (N9 t_)),.im (.agg (N4 o_))] (.tup [nL cI r.1,nB r.2.1,nI r.2.2]):=by
 refine D1 [700002,700003] λhk=>?_;have z1:lZ t_.P:=A8 (B7 hk.1 1 rfl);have z2:lZ t_.X:=A8 (B7 hk.1 2 rfl);have z3:lZ o_.T:=A8 (B7 hk.2.1 1 rfl);unfold uC at h;obtain⟨a6,a3,h⟩:=A5 h;refine⟨_,BQ t_ o_ a6 a3,?_⟩;refine A3 rfl<|B5 h (λa8 h a2=>?_) λa8 h a2=>?_;cases h;exact⟨rfl,rfl⟩;refine A3 rfl ?_;obtain⟨a7,a4,h⟩:=A5 h;refine⟨_,JR a6.1 a7 a4,?_⟩;refine H4 h (λb2 h=>?_) λb2 h=>?_;cases h;exact⟨rfl,rfl⟩;refine K1 h λb3 a9 b5 h=>?_;obtain⟨b4,a5,h⟩:=A5 h;refine⟨_,CN b3 a7.2.1 b4 a5,?_⟩;cases h;exact⟨rfl,rfl⟩
def JW(v_:M7)(r:Int×Int×Bool)(h:R4 v_=some r):Sp Tryz.prog 95 [.im (.agg (dN v_))] (.tup [nI r.1,nI r.2.1,nB r.2.2]):=by
 refine D1 [700001] λhk=>?_;have z1:lZ v_.rows:=A8 (B7 hk.1 0 rfl);have z2:lZ v_.prefixes:=A8 (B7 hk.1 1 rfl);have z3:lZ v_.next:=A8 (B7 hk.1 2 rfl);unfold R4 at h;refine B1 v_.prefixes.length B9 ?_;obtain⟨oc,h,f9⟩:=A5 h;refine Q6 oc (mkSt [] [] []) hT ?_ ?_;refine H1 h (λa2=>mkSt [(1,C7 (dN v_)),(13,C3 cI v_.prefixes),(14,C1 (v_.prefixes.length:Int)),(15,B8 a2)] [] []) (λa2=>lZ v_.prefixes/\True) eZ (λa2=>((C5 13 rfl).and hT)) ?_;rintro k a2 o hp h a5;unfold R4.s1022 at h;obtain⟨d6,_⟩:=hp;refine B5 h (λc6 h b6=>?_) λc6 h b6=>?_;refine F8 h λa8 h9 h=>?_;refine D2.mk (zzR_ (by omega)) ?_;obtain⟨oc,h,f4⟩:=A5 h;refine W9 oc (Y:=Unit) (λ(_:Unit)=>mkSt [(1,C7 (dN v_)),(13,C3 cI v_.prefixes),(14,C1 (v_.prefixes.length:Int)),(15,B8 a2)] [] []) (λ(_:Unit)=>lZ v_.prefixes/\True) (by rintro⟨⟩;exact((C5 13 rfl).and hT)) ?_ ?_;refine H1 h (λa6=>mkSt [(1,C7 (dN v_)),(5,B8 a2),(6,C1 a8),(7,B8 a6),(13,C3 cI v_.prefixes),(14,C1 (v_.prefixes.length:Int)),(15,B8 a2)] [] []) (λa6=>lZ v_.prefixes/\True) eZ (λa6=>((C5 13 rfl).and hT)) ?_;rintro k a6 o hp h a4;unfold R4.s1021 at h;obtain⟨d7,_⟩:=hp;refine B1 v_.prefixes.length B9<|B5 h (λc7 h b7=>?_) λc7 h b7=>?_;obtain⟨oc,h,f5⟩:=A5 h;refine W9 oc (Y:=Unit) (λ(_:Unit)=>mkSt [(1,C7 (dN v_)),(5,B8 a2),(6,C1 a8),(7,B8 a6),(13,C3 cI v_.prefixes),(14,C1 (v_.prefixes.length:Int)),(15,B8 a2)] [] []) (λ(_:Unit)=>lZ v_.prefixes/\True) (by rintro⟨⟩;exact((C5 13 rfl).and hT)) ?_ ?_;refine F8 h λd8 g7 h=>?_;refine B5 h (λc8 h b8=>?_) λc8 h b8=>?_;cases h;exact J5.mk' _ rfl eZ;refine F8 h λb2 h8 h=>?_;refine B1 b2.length B9 ?_;obtain⟨oc,h,f7⟩:=A5 h;refine W9 oc (Y:=Unit) (λ(_:Unit)=>mkSt [(1,C7 (dN v_)),(5,B8 a2),(6,C1 a8),(7,B8 a6),(13,C3 cI v_.prefixes),(14,C1 (v_.prefixes.length:Int)),(15,B8 a2)] [] []) (λ(_:Unit)=>lZ v_.prefixes/\True) (by rintro⟨⟩;exact((C5 13 rfl).and hT)) ?_ ?_;refine H1 h (λa7=>mkSt [(1,C7 (dN v_)),(5,B8 a2),(6,C1 a8),(7,B8 a6),(13,C3 cI v_.prefixes),(14,C1 (v_.prefixes.length:Int)),(15,B8 a2),(41,C1 (b2.length:Int)),(42,B8 a7)] [] []) (λa7=>lZ v_.prefixes/\True) eZ (λa7=>((C5 13 rfl).and hT)) ?_;rintro k a7 o hp h a9;unfold R4.s1020 at h;obtain⟨d9,_⟩:=hp;refine B5 h (λc9 h b9=>?_) λc9 h b9=>?_;refine F8 h λe0 g8 h=>?_;refine F8 h λe1 g9 h=>?_;refine K1 h λb3 g1 g3 h=>?_;refine F8 h λe2 g4 h=>?_;refine F8 h λe3 g5 h=>?_;refine K1 h λb5 g2 h6 h=>?_;refine B1 b3.length B9 ?_;obtain⟨oc,h,f6⟩:=A5 h;refine W9 oc (Y:=Unit) (λ(_:Unit)=>mkSt [(1,C7 (dN v_)),(5,B8 a2),(6,C1 a8),(7,B8 a6),(13,C3 cI v_.prefixes),(14,C1 (v_.prefixes.length:Int)),(15,B8 a2),(41,C1 (b2.length:Int)),(42,B8 a7)] [] []) (λ(_:Unit)=>lZ v_.prefixes/\True) (by rintro⟨⟩;exact((C5 13 rfl).and hT)) ?_ ?_;refine H1 h (λb4=>mkSt [(1,C7 (dN v_)),(5,B8 a2),(6,C1 a8),(7,B8 a6),(8,B8 a7),(9,C3 (cL cI) b3),(10,C3 (cL cI) b5),(13,C3 cI v_.prefixes),(14,C1 (v_.prefixes.length:Int)),(15,B8 a2),(41,C1 (b2.length:Int)),(42,B8 a7),(70,C1 (b3.length:Int)),(71,B8 b4)] [] []) (λb4=>lZ b3/\lZ b5/\lZ v_.prefixes/\True) eZ (λb4=>((C5 9 rfl).and ((C5 10 rfl).and ((C5 13 rfl).and hT)))) ?_;rintro k b4 o hp h a3;unfold R4.s1019 at h;obtain⟨e4,e5,e6,_⟩:=hp;refine B5 h (λd0 h c0=>?_) λd0 h c0=>?_;refine F8 h λd1 h7 h=>?_;refine F8 h λd2 g6 h=>?_;obtain⟨d3,f8,h⟩:=A5 h;refine⟨_,nY d1 d2 d3 f8,?_⟩;refine H4 h (λd4 h=>?_) λd4 h=>?_;cases h;cases C0 a3;replace h:some _=some _:=f6;cases h;cases C0 a9;replace h:some _=some _:=f7;cases h;replace h:some _=some _:=f5;cases h;cases C0 a4;replace h:some _=some _:=f4;cases h;cases C0 a5;replace h:some _=some _:=f9;cases h;exact⟨rfl,rfl⟩;refine D2.mk (zzR_ (by omega)) ?_;cases h;exact E7 _ a3 eZ;cases h;cases C0 a3;exact J5.mk' _ rfl eZ;rintro⟨⟩ rfl hp;replace h:=K5 f6;obtain⟨e7,_⟩:=hp;obtain⟨d5,h⟩:=D5 h;refine D2.mk d5 ?_;cases h;exact E7 _ a9 eZ;cases h;cases C0 a9;exact J5.mk' _ rfl eZ;rintro⟨⟩ rfl hp;replace h:=K5 f7;obtain⟨e8,_⟩:=hp;cases h;exact J5.mk' _ rfl eZ;rintro⟨⟩ rfl hp;replace h:=K5 f5;obtain⟨e9,_⟩:=hp;refine D2.mk (zzR_ (by omega)) ?_;cases h;exact E7 _ a4 eZ;cases h;cases C0 a4;exact J5.mk' _ rfl eZ;rintro⟨⟩ rfl hp;replace h:=K5 f4;obtain⟨f3,_⟩:=hp;refine D2.mk (zzR_ (by omega)) ?_;cases h;exact E7 _ a5 eZ;cases h;cases C0 a5;exact J5.mk' _ rfl eZ;rintro⟨⟩ rfl hp;replace h:=K5 f9;cases h;exact⟨rfl,rfl⟩
def zpl(t_:C6)(o_:A7)(r:A2×Bool×Int)(h:uH t_ o_=some r):Sp Tryz.prog 52 [.im (.agg (N9 t_)),.im (.agg (N4 o_))] (.tup [nL cI r.1,nB r.2.1,nI r.2.2]):=by
 refine D1 [700002,700003] λhk=>?_;have z1:lZ t_.P:=A8 (B7 hk.1 1 rfl);have z2:lZ t_.X:=A8 (B7 hk.1 2 rfl);have z3:lZ o_.T:=A8 (B7 hk.2.1 1 rfl);unfold uH at h;obtain⟨a6,a3,h⟩:=A5 h;refine⟨_,BQ t_ o_ a6 a3,?_⟩;refine A3 rfl<|B5 h (λa8 h a2=>?_) λa8 h a2=>?_;cases h;exact⟨rfl,rfl⟩;refine A3 rfl ?_;obtain⟨a7,a4,h⟩:=A5 h;refine⟨_,JW a6.1 a7 a4,?_⟩;refine H4 h (λb2 h=>?_) λb2 h=>?_;cases h;exact⟨rfl,rfl⟩;refine K1 h λb3 a9 b5 h=>?_;obtain⟨b4,a5,h⟩:=A5 h;refine⟨_,(gU [[a7.1],b3] b4 a5),?_⟩;cases h;exact⟨rfl,rfl⟩
def IH(l_ r:A4)(h:gP l_=some r):Sp Tryz.prog 98 [.im (nL (cL cI) l_)] (.row 51 1 (List.map (cL cI) r)):=by
 refine D1 [] λhk=>?_;have z1:lZ l_:=A8 hk.1;unfold gP at h;refine B1 l_.length B9 ?_;obtain⟨b2,h,a4⟩:=A5 h;refine I4 (mkSt [(3,.osl 64 1)] [(64,.row 51 1 (List.map (cL cI) b2))] []) ((Holds.kdl 64 rfl).and hT) ?_ λhp=>?_;refine H1 h (λ(a2,a6)=>mkSt [(3,.osl 64 1),(6,C3 (cL cI) l_),(7,C1 (l_.length:Int)),(8,B8 a6)] [(64,.row 51 1 (List.map (cL cI) a2))] []) (λ(a2,a6)=>lZ l_/\lZ a2/\True) (eA [(64,none)]) (λ⟨a2,a6⟩=>((C5 6 rfl).and ((Holds.kdl 64 rfl).and hT))) ?_;rintro k ⟨a2,a6⟩ o hp h a3;change gP.s2 l_ a2 a6=_ at h;unfold gP.s2 at h;obtain⟨b6,b7,_⟩:=hp;refine B5 h (λb3 h a8=>?_) λb3 h a8=>?_;refine F8 h λb4 a9 h=>?_;obtain⟨a7,a5,h⟩:=A5 h;refine⟨_,(iA b4 a7 (a5)).im,?_⟩;obtain⟨b5,h⟩:=D5 h;refine A3 ⟨rfl,K6 (l:=[a7]) (c:=cL cI) λ_=>rfl,show E0 _ 24 by simpa only[B6,E9,L2,F9]using b5⟩ ?_;refine B1 (List.map (cL cI) (a2++[a7])) (O9 (l:=a2) (m:=[a7]) (c:=cL cI))<|D2.mk (zzR_ (by omega)) ?_;cases h;exact E7 _ a3 eZ;cases h;cases C0 a3;exact D8 eZ;replace h:=a4;obtain⟨b8,_⟩:=hp;cases h;exact A3 ⟨rfl,trivial⟩ ⟨rfl,rfl⟩
def HV(l_ r:E1)(h:qA l_=some r):Sp Tryz.prog 54 [.im (.agg (W0 l_))] (.im (.agg (W0 r))):=by
 refine D1 [700001] λhk=>?_;have z1:lZ l_.Short:=A8 (B7 hk.1 1 rfl);have z2:lZ l_.X:=A8 (B7 hk.1 2 rfl);unfold qA at h;obtain⟨a2,a4,h⟩:=A5 h;refine⟨_,(IH l_.Short a2 a4).im,?_⟩;obtain⟨a6,a3,h⟩:=A5 h;refine⟨_,(IH l_.X a6 a3).im,?_⟩;refine A3 rfl ?_;cases h;refine A3 ⟨rfl,trivial⟩ ?_;exact⟨rfl,rfl⟩
def GU(l_:E1)(o_:A7)(r:E1×A4×Bool×Int)(h:eB l_ o_=some r):Sp Tryz.prog 19 [.im (.agg (W0 l_)),.im (.agg (N4 o_))] (.tup [.agg (W0 r.1),nL (cL cI) r.2.1,nB r.2.2.1,nI r.2.2.2]):=by
 refine D1 [700002,700003] λhk=>?_;have z1:lZ l_.Short:=A8 (B7 hk.1 1 rfl);have z2:lZ l_.X:=A8 (B7 hk.1 2 rfl);have z3:lZ o_.T:=A8 (B7 hk.2.1 1 rfl);unfold eB at h;obtain⟨c0,a4,h⟩:=A5 h;refine⟨_,BN l_ o_ c0 a4,?_⟩;refine B5 h (λc6 h b3=>?_) λc6 h b3=>?_;refine A3 rfl ?_;cases h;refine A3 ⟨rfl,trivial⟩ ?_;exact⟨rfl,rfl⟩;obtain⟨a7,f3,h⟩:=A5 h;refine⟨_,xR l_ a7 f3,?_⟩;refine A3 rfl<|A3 rfl ?_;obtain⟨b2,e6,h⟩:=A5 h;refine⟨_,zw0 a7 o_ b2 e6,?_⟩;obtain⟨c7,h,e4⟩:=A5 h;refine I4 (mkSt [(2,C7 (W0 l_)),(3,C7 (N4 o_)),(4,.own 90 1 0),(9,.own 91 1 0),(10,C3 (cL cI) b2.1),(11,C1 b2.2),(41,J1 c7)] [(90,.box 45 3),(91,.box 91 3)] [(90,0,.im (nI 0)),(90,1,.im (.val (.slice none 0 0))),(90,2,.im (.val (.slice none 0 0))),(91,0,.im (nI a7.I)),(91,1,.im (nL (cL cI) a7.P)),(91,2,.im (nL (cL cI) a7.X))]) ((C5 10 rfl).and ((Holds.cel 91 1 rfl (by decide) rfl).and ((Holds.cel 91 2 rfl (by decide) rfl).and hT))) ?_ λhp=>?_;refine Y8 h (λa8 h b4=>?_) λa8 h b4=>?_;refine B3 (J2 a8)<|B1 b2.1.length B9<|B3 (J2 a8)<|C4 a8 ?_;cases h;exact D8 (eA (K9 [90,4,91,9]))
 iterate 2 (refine C4 (T5 a8) ?_)
 refine B3 a8 ?_;cases h;exact D8 (eA (K9 [90,4,91,9]));replace h:=e4;obtain⟨d8,d9,e0,_⟩:=hp;refine H4 h (λc8 h=>?_) λc8 h=>?_;refine A3 rfl ?_;cases h;refine A3 ⟨rfl,trivial⟩ ?_;exact⟨rfl,rfl⟩;refine A3 rfl ?_;obtain⟨oc,h,a3⟩:=A5 h;refine W9 oc (Y:=A4×A4) (λ(a2,a6)=>mkSt [(2,C7 (W0 l_)),(4,.own 90 1 0),(12,.own 91 1 0)] [(90,.box 45 3),(91,.box 45 3)] [(90,0,.im (nI 0)),(90,1,.im (.val (.slice none 0 0))),(90,2,.im (.val (.slice none 0 0))),(91,0,.im (nI l_.I)),(91,1,.im (nL (cL cI) a2)),(91,2,.im (nL (cL cI) a6))]) (λ(a2,a6)=>lZ a2/\lZ a6/\True) (by rintro⟨a2,a6⟩;exact((Holds.cel 91 1 rfl (by decide) rfl).and ((Holds.cel 91 2 rfl (by decide) rfl).and hT))) ?_ ?_;refine A3 rfl ?_;obtain⟨b8,e8,h⟩:=A5 h;refine⟨_,zs4 a7 o_ b8 e8,?_⟩;refine B5 h (λc9 h b5=>?_) λc9 h b5=>?_;refine A3 rfl ?_;cases h;replace h:some _=some _:=a3;cases h;refine A3 ⟨rfl,trivial⟩ ?_;exact⟨rfl,rfl⟩;refine H4 h (λd0 h=>?_) λd0 h=>?_;obtain⟨d1,a9,h⟩:=A5 h;refine⟨_,BD l_.Short b8.1 d1 a9,?_⟩;refine A3 rfl<|A3 rfl ?_;cases h;exact J5.mk' _ rfl (eA (K9 [90,90,91,12]));refine A3 rfl ?_;obtain⟨b9,e9,h⟩:=A5 h;refine⟨_,zpl a7 o_ b9 e9,?_⟩;refine B5 h (λd2 h b6=>?_) λd2 h b6=>?_;refine A3 rfl ?_;cases h;replace h:some _=some _:=a3;cases h;refine A3 ⟨rfl,trivial⟩ ?_;exact⟨rfl,rfl⟩;refine H4 h (λd3 h=>?_) λd3 h=>?_;refine A3 rfl ?_;cases h;replace h:some _=some _:=a3;cases h;refine A3 ⟨rfl,trivial⟩ ?_;exact⟨rfl,rfl⟩;obtain⟨d4,e7,h⟩:=A5 h;refine⟨_,BD l_.X b9.1 d4 e7,?_⟩;refine A3 rfl<|A3 rfl ?_;cases h;exact J5.mk' _ rfl (eA (K9 [90,90,91,12]));rintro⟨a2,a6⟩ rfl hp;have e3:=K5 a3;replace h:eB.k1 l_ a2 a6=some _:=e3;clear e3;unfold eB.k1 at h;obtain⟨e1,e2,_⟩:=hp;refine A3 rfl ?_;obtain⟨d5,a5,h⟩:=A5 h;refine⟨_,BU (⟨l_.I,a2,a6⟩:E1) d5 a5,?_⟩;refine B5 h (λd6 h b7=>?_) λd6 h b7=>?_;refine A3 rfl ?_;cases h;refine A3 ⟨rfl,trivial⟩ ?_;exact⟨rfl,rfl⟩;refine A3 rfl ?_;obtain⟨d7,e5,h⟩:=A5 h;refine⟨_,HV (⟨l_.I,a2,a6⟩:E1) d7 e5,?_⟩;refine A3 rfl ?_;cases h;refine A3 ⟨rfl,trivial⟩ ?_;exact⟨rfl,rfl⟩
def zq2(t_:B0)(p1_:A2)(r:Bool)(h:qS t_ p1_=some r):Sp Tryz.prog 208 [.im (.agg (C9 t_)),.im (.ref (cL cI p1_))] (.im (nB r)):=by
 refine D1 [700002] λhk=>?_;have z1:lZ t_.In:=A8 (B7 hk.1 0 rfl);have z2:lZ t_.O:=A8 (B7 hk.1 1 rfl);have z3:lZ p1_:=A8 (Ok.ref_at hk.2.1 0 rfl);unfold qS at h;obtain⟨a2,a3,h⟩:=A5 h;refine⟨_,uJ t_.In p1_ a2 a3,?_⟩;cases h;exact⟨rfl,rfl⟩
def JY(s_:List B0)(f_:B0->Option Bool)(f1_:FuncId)(k1_0:IV)(hk1_0:nz k1_0=k1_0)(hf1:∀x0 r,f_ x0=some r->Sp Tryz.prog f1_ [.im (.agg (C9 x0)),.im k1_0] (.im (nB r)))(r:Int)(h:cE s_ f_=some r):Sp Tryz.prog 207 [.im (nL C9 s_),.im (.fn f1_ [k1_0])] (.im (nI r)):=by
 refine D1 [] λhk=>?_;have z1:lZ s_:=A8 hk.1;unfold cE at h;refine B1 s_.length B9 ?_;obtain⟨oc,h,a4⟩:=A5 h;refine Q6 oc (mkSt [] [] []) hT ?_ ?_;refine H1 h (λa2=>mkSt [(0,C3 C9 s_),(1,.im (.fn f1_ [k1_0])),(7,C1 (s_.length:Int)),(8,B8 a2)] [] []) (λa2=>lZ s_/\True) eZ (λa2=>((C5 0 rfl).and hT)) ?_;rintro k a2 o hp h a3;unfold cE.s2 at h;obtain⟨b4,_⟩:=hp;refine B5 h (λa7 h a6=>?_) λa7 h a6=>?_;refine F8 h λa8 a9 h=>?_;obtain⟨b2,a5,h⟩:=A5 h;refine⟨_,Sp.args (hf1 a8 b2 a5) (by rw[hk1_0];try rfl),?_⟩;refine H4 h (λb3 h=>?_) λb3 h=>?_;cases h;cases C0 a3;replace h:some _=some _:=a4;cases h;exact⟨rfl,rfl⟩;refine D2.mk (zzR_ (by omega)) ?_;cases h;exact E7 _ a3 eZ;cases h;cases C0 a3;exact J5.mk' _ rfl eZ;rintro⟨⟩ rfl hp;replace h:=K5 a4;cases h;exact⟨rfl,rfl⟩
def xZ(o_:A7)(w_:A2)(r:A2×Bool)(h:jM o_ w_=some r):Sp Tryz.prog 158 [.im (.agg (N4 o_)),.im (nL cI w_)] (.tup [nL cI r.1,nB r.2]):=by
 refine D1 [700002,700003] λhk=>?_;have z1:lZ o_.T:=A8 (B7 hk.1 1 rfl);have z2:lZ w_:=A8 hk.2.1;unfold jM at h;refine B1 w_.length B9<|B5 h (λa8 h a6=>?_) λa8 h a6=>?_;cases h;exact⟨rfl,rfl⟩;obtain⟨b2,a4,h⟩:=A5 h;refine⟨_,JY o_.T (λu0=>qS u0 w_) 208 (.ref (cL cI w_)) rfl (λu0 r h=>(zq2 u0 w_ r h)) b2 a4,?_⟩;refine B5 h (λb3 h a7=>?_) λb3 h a7=>?_;cases h;exact⟨rfl,rfl⟩;refine K1 h λa2 a5 a9 h=>?_;refine B1 w_.length B9<|B1 a2.O.length B9 ?_;obtain⟨b5,h⟩:=D5 h;refine A3 (show(0:Int)<=(0:Int)/\(0:Int)<=(min (w_.length:Int) (a2.O.length:Int))/\(min (w_.length:Int) (a2.O.length:Int))<=(↑(List.length (List.map cI a2.O)):Int)/\(∀e∈List.map cI a2.O,List.length e=1) from⟨by omega,by first|omega|(simp only[B6];omega),by first|omega|(simp only[B6];omega),K6 λ_=>rfl⟩) ?_
 refine B1 (List.map cI (List.take (Int.toNat (min (w_.length:Int) (a2.O.length:Int))) a2.O)) lP ?_;obtain⟨b4,a3,h⟩:=A5 h;refine⟨_,(iA (List.take (Int.toNat (min (w_.length:Int) (a2.O.length:Int))) a2.O) b4 (a3)).im,?_⟩;cases h;exact⟨rfl,rfl⟩
def uL(r_:I7)(w_ v_:A2)(v0_0 v0_1 v0_2:Value)(r:A2×I7)(h:gF [.im (.ex v0_0),.im (.ex v0_1),.im (.ex v0_2),.im (nI r_.o.I),.im (nL C9 r_.o.T),.ow (.row 51 1 (List.map (cL cI) r_.missing)),.im (nB r_.long)]->Ok (nL cI w_)->Ok (nL cI v_)->kW r_ w_ v_=some r):Sp Tryz.prog 105 [.box 105 [.im (.ex v0_0),.im (.ex v0_1),.im (.ex v0_2),.im (nI r_.o.I),.im (nL C9 r_.o.T),.ow (.row 51 1 (List.map (cL cI) r_.missing)),.im (nB r_.long)],.im (nL cI w_),.im (nL cI v_)] (.mk false [.im (nL cI r.1)] [.box 105 [.im (.ex v0_0),.im (.ex v0_1),.im (.ex v0_2),.im (nI r.2.o.I),.im (nL C9 r.2.o.T),.ow (.row 51 1 (List.map (cL cI) r.2.missing)),.im (nB r.2.long)]]):=by
 refine D1 [] λhk=>?_;replace h:=h hk.1 hk.2.1 hk.2.2.1;have z1:lZ r_.o.T:=A8 hk.1.2.2.2.2.1;have z2:lZ r_.missing:=iW hk.1.2.2.2.2.2.1;have z3:lZ w_:=A8 hk.2.1;have z4:lZ v_:=A8 hk.2.2.1;unfold kW at h;obtain⟨a2,a3,h⟩:=A5 h;refine⟨_,(gU [w_,v_] a2 a3),?_⟩;refine B1 a2.length B9<|B5 h (λa8 h a7=>?_) λa8 h a7=>?_;refine A3 rfl<|A3 rfl<|A3 rfl ?_;cases h;exact A3 ⟨rfl,rfl,trivial⟩ ⟨rfl,rfl⟩;refine A3 rfl<|A3 rfl<|A3 rfl ?_;obtain⟨a6,a4,h⟩:=A5 h;refine⟨_,xZ r_.o a2 a6 a4,?_⟩;refine H4 h (λb2 h=>?_) λb2 h=>?_;refine A3 rfl<|A3 rfl<|A3 rfl ?_;obtain⟨b3,h⟩:=D5 h;refine A3 ⟨rfl,K6 (l:=[a2]) (c:=cL cI) λ_=>rfl,show E0 _ 24 by simpa only[B6,E9,L2,F9]using b3⟩ ?_;refine B1 (List.map (cL cI) (r_.missing++[a2])) (O9 (l:=r_.missing) (m:=[a2]) (c:=cL cI))<|A3 rfl<|A3 rfl<|A3 rfl ?_;cases h;exact A3 ⟨rfl,rfl,trivial⟩ ⟨rfl,rfl⟩;refine B1 w_.length B9 ?_;obtain⟨b4,h⟩:=D5 h;refine A3 (show(0:Int)<=(w_.length:Int)/\(w_.length:Int)<=(↑(List.length (List.map cI a6.1)):Int)/\(↑(List.length (List.map cI a6.1)):Int)<=(↑(List.length (List.map cI a6.1)):Int)/\(∀e∈List.map cI a6.1,List.length e=1) from⟨by omega,by first|omega|(simp only[B6];omega),by first|omega|(simp only[B6];omega),K6 λ_=>rfl⟩) ?_
 refine B1 (List.map cI (List.drop w_.length a6.1)) kJ ?_;cases h;exact A3 ⟨rfl,rfl,trivial⟩ ⟨rfl,rfl⟩
def CO(r_:I7)(w_:A2)(v0_0 v0_1:Value)(r:A4×I7)(h:gF [.im (.ex v0_0),.im (.ex v0_1),.im (nL (cL cI) r_.l.X),.im (nI r_.o.I),.im (nL C9 r_.o.T),.ow (.row 51 1 (List.map (cL cI) r_.missing)),.im (nB r_.long)]->Ok (nL cI w_)->bK r_ w_=some r):Sp Tryz.prog 102 [.box 105 [.im (.ex v0_0),.im (.ex v0_1),.im (nL (cL cI) r_.l.X),.im (nI r_.o.I),.im (nL C9 r_.o.T),.ow (.row 51 1 (List.map (cL cI) r_.missing)),.im (nB r_.long)],.im (nL cI w_)] (.mk false [.im (nL (cL cI) r.1)] [.box 105 [.im (.ex v0_0),.im (.ex v0_1),.im (nL (cL cI) r.2.l.X),.im (nI r.2.o.I),.im (nL C9 r.2.o.T),.ow (.row 51 1 (List.map (cL cI) r.2.missing)),.im (nB r.2.long)]]):=by
 refine D1 [23000,900022,1000000000000022528,1000000000000022529,1000000000000022530] λhk=>?_;replace h:=h hk.1 hk.2.1;have z1:lZ r_.l.X:=A8 hk.1.2.2.1;have z2:lZ r_.o.T:=A8 hk.1.2.2.2.2.1;have z3:lZ r_.missing:=iW hk.1.2.2.2.2.2.1;have z4:lZ w_:=A8 hk.2.1;unfold bK at h;refine A3 rfl<|A3 rfl<|A3 rfl<|A3 rfl<|B1 r_.l.X.length B9 ?_;obtain⟨⟨b6,b7,b8,b9,c0⟩,h,a4⟩:=A5 h;refine I4 (mkSt [(0,.own 0 0 0),(5,.osl 66 1)] [(0,.box 105 7),(65,.row 51 1 (List.map (cL cI) b8)),(66,.row 51 1 (List.map (cL cI) c0))] [(0,0,.im (.ex v0_0)),(0,1,.im (.ex v0_1)),(0,2,.im (nL (cL cI) r_.l.X)),(0,3,.im (nI b6)),(0,4,.im (nL C9 b7)),(0,5,.osl 65 1),(0,6,.im (nB b9))]) ((Holds.cel 0 2 rfl (by decide) rfl).and ((Holds.cel 0 4 rfl (by decide) rfl).and ((Holds.kdl 65 rfl).and ((Holds.kdl 66 rfl).and hT)))) ?_ λhp=>?_;refine H1 h (λ(b2,a7,a8,b3,a6,b4)=>mkSt [(0,.own 0 0 0),(1,C3 cI w_),(5,.osl 66 1),(12,C3 (cL cI) r_.l.X),(13,C1 (r_.l.X.length:Int)),(14,B8 b4)] [(0,.box 105 7),(65,.row 51 1 (List.map (cL cI) a8)),(66,.row 51 1 (List.map (cL cI) a6))] [(0,0,.im (.ex v0_0)),(0,1,.im (.ex v0_1)),(0,2,.im (nL (cL cI) r_.l.X)),(0,3,.im (nI b2)),(0,4,.im (nL C9 a7)),(0,5,.osl 65 1),(0,6,.im (nB b3))]) (λ(b2,a7,a8,b3,a6,b4)=>lZ w_/\lZ r_.l.X/\lZ a7/\lZ a8/\lZ a6/\True) (eA [(0,some 0),(65,some 2005),(66,none)]) (λ⟨b2,a7,a8,b3,a6,b4⟩=>((C5 1 rfl).and ((C5 12 rfl).and ((Holds.cel 0 4 rfl (by decide) rfl).and ((Holds.kdl 65 rfl).and ((Holds.kdl 66 rfl).and hT)))))) ?_;rintro k ⟨b2,a7,a8,b3,a6,b4⟩ o hp h a3;change bK.s2 r_ w_ b2 a7 a8 b3 a6 b4=_ at h;unfold bK.s2 at h;obtain⟨d6,d7,c6,c7,c8,_⟩:=hp;refine B5 h (λc9 h b5=>?_) λc9 h b5=>?_;refine F8 h λd0 a9 h=>?_;refine A3 ⟨rfl,rfl,trivial⟩ ?_;obtain⟨a2,a5,h⟩:=A5 h;refine⟨false,[.im (nL cI a2.1)],[.box 105 [.im .any,.im .any,.im .any,.im (nI a2.2.o.I),.im (nL C9 a2.2.o.T),.ow (.row 51 1 (List.map (cL cI) a2.2.missing)),.im (nB a2.2.long)]],λV=>(uL (⟨r_.l,(⟨b2,a7⟩:A7),a8,b3⟩:I7) w_ d0 (V 0 0) (V 0 1) (V 0 2) a2 (λ_ _ _=>a5)),?_⟩;obtain⟨d1,h⟩:=D5 h;refine A3 ⟨rfl,K6 (l:=[a2.1]) (c:=cL cI) λ_=>rfl,show E0 _ 24 by simpa only[B6,E9,L2,F9]using d1⟩ ?_;refine B1 (List.map (cL cI) (a6++[a2.1])) (O9 (l:=a6) (m:=[a2.1]) (c:=cL cI))<|D2.mk (zzR_ (by omega)) ?_;cases h;exact E7 _ a3 eZ;cases h;cases C0 a3;exact D8 eZ;replace h:bK.k3 r_ b6 b7 b8 b9 c0=some _:=a4;unfold bK.k3 at h;obtain⟨d2,d3,d4,d5,_⟩:=hp;cases h;exact A3 ⟨rfl,rfl,rfl,trivial⟩ ⟨rfl,rfl⟩
def sp_table_Row(t_:C6)(o_:A7)(w_:A2)(r:A4×Bool)(h:sX t_ o_ w_=some r):Sp Tryz.prog 157 [.im (.agg (N9 t_)),.im (.agg (N4 o_)),.im (nL cI w_)] (.tup [nL (cL cI) r.1,nB r.2]):=by
 refine D1 [700003,700004] λhk=>?_;have z1:lZ t_.P:=A8 (B7 hk.1 1 rfl);have z2:lZ t_.X:=A8 (B7 hk.1 2 rfl);have z3:lZ o_.T:=A8 (B7 hk.2.1 1 rfl);have z4:lZ w_:=A8 hk.2.2.1;unfold sX at h;obtain⟨a7,a3,h⟩:=A5 h;refine⟨_,CF t_ o_ a7 a3,?_⟩;refine B5 h (λa8 h a2=>?_) λa8 h a2=>?_;cases h;exact⟨rfl,rfl⟩;obtain⟨a6,a4,h⟩:=A5 h;refine⟨_,(BP o_ a6 a4).im,?_⟩;obtain⟨b2,a5,h⟩:=A5 h;refine⟨_,CS a6 t_ w_ b2 a5,?_⟩;cases h;exact⟨rfl,rfl⟩
def zgs(s1_ s2_:A4)(eq_:(A2)->(A2)->Option Bool)(f2_:FuncId)(hf2:∀x0 x1 r,eq_ x0 x1=some r->Sp Tryz.prog f2_ [.im (nL cI x0),.im (nL cI x1)] (.im (nB r)))(r:Bool)(h:jS s1_ s2_ eq_=some r):Sp Tryz.prog 159 [.im (nL (cL cI) s1_),.im (nL (cL cI) s2_),.im (.fn f2_ [])] (.im (nB r)):=by
 refine D1 [] λhk=>?_;have z1:lZ s1_:=A8 hk.1;have z2:lZ s2_:=A8 hk.2.1;unfold jS at h;refine B1 s1_.length B9<|B1 s2_.length B9<|B5 h (λa8 h a6=>?_) λa8 h a6=>?_;cases h;exact⟨rfl,rfl⟩;refine B1 s1_.length B9 ?_;obtain⟨oc,h,a4⟩:=A5 h;refine Q6 oc (mkSt [] [] []) hT ?_ ?_;refine H1 h (λa2=>mkSt [(1,C3 (cL cI) s2_),(2,.im (.fn f2_ [])),(15,C3 (cL cI) s1_),(16,C1 (s1_.length:Int)),(17,B8 a2)] [] []) (λa2=>lZ s2_/\lZ s1_/\True) eZ (λa2=>((C5 1 rfl).and ((C5 15 rfl).and hT))) ?_;rintro k a2 o hp h a3;unfold jS.s2 at h;obtain⟨b7,b8,_⟩:=hp;refine B5 h (λb2 h a7=>?_) λb2 h a7=>?_;refine F8 h λb3 b9 h=>?_;refine F8 h λb4 a9 h=>?_;obtain⟨b5,a5,h⟩:=A5 h;refine⟨_,hf2 b3 b4 b5 a5,?_⟩;refine H4 h (λb6 h=>?_) λb6 h=>?_;cases h;cases C0 a3;replace h:some _=some _:=a4;cases h;exact⟨rfl,rfl⟩;refine D2.mk (zzR_ (by omega)) ?_;cases h;exact E7 _ a3 eZ;cases h;cases C0 a3;exact J5.mk' _ rfl eZ;rintro⟨⟩ rfl hp;replace h:=K5 a4;cases h;exact⟨rfl,rfl⟩
def zyw(x_ y_:A2)(r:Bool)(h:qI x_ y_=some r):Sp Tryz.prog 160 [.im (nL cI x_),.im (nL cI y_)] (.im (nB r)):=by
 refine D1 [] λhk=>?_;have z1:lZ x_:=A8 hk.1;have z2:lZ y_:=A8 hk.2.1;unfold qI at h;obtain⟨a2,a3,h⟩:=A5 h;refine⟨_,nY x_ y_ a2 a3,?_⟩;cases h;exact⟨rfl,rfl⟩
def GP(a_ b_:A4)(r:Bool)(h:pL a_ b_=some r):Sp Tryz.prog 107 [.im (nL (cL cI) a_),.im (nL (cL cI) b_)] (.im (nB r)):=by
 refine D1 [] λhk=>?_;have z1:lZ a_:=A8 hk.1;have z2:lZ b_:=A8 hk.2.1;unfold pL at h;obtain⟨a2,a3,h⟩:=A5 h;refine⟨_,zgs a_ b_ (λu0 u1=>qI u0 u1) 160 (λu0 u1 r h=>(zyw u0 u1 r h)) a2 a3,?_⟩;cases h;exact⟨rfl,rfl⟩
def JQ(r_:I7)(row_:A4)(v0_5 v0_6:Value)(r:A2×Bool×I7)(h:gF [.im (nI r_.l.I),.im (nL (cL cI) r_.l.Short),.im (nL (cL cI) r_.l.X),.im (nI r_.o.I),.im (nL C9 r_.o.T),.im (.ex v0_5),.im (.ex v0_6)]->Ok (nL (cL cI) row_)->fS r_ row_=some r):Sp Tryz.prog 104 [.box 105 [.im (nI r_.l.I),.im (nL (cL cI) r_.l.Short),.im (nL (cL cI) r_.l.X),.im (nI r_.o.I),.im (nL C9 r_.o.T),.im (.ex v0_5),.im (.ex v0_6)],.im (nL (cL cI) row_)] (.mk true [.im (nL cI r.1),.im (nB r.2.1)] [.box 105 [.im (nI r.2.2.l.I),.im (nL (cL cI) r.2.2.l.Short),.im (nL (cL cI) r.2.2.l.X),.im (nI r.2.2.o.I),.im (nL C9 r.2.2.o.T),.im (.ex v0_5),.im (.ex v0_6)]]):=by
 refine D1 [] λhk=>?_;replace h:=h hk.1 hk.2.1;have z1:lZ r_.l.Short:=A8 hk.1.2.1;have z2:lZ r_.l.X:=A8 hk.1.2.2.1;have z3:lZ r_.o.T:=A8 hk.1.2.2.2.2.1;have z4:lZ row_:=A8 hk.2.1;unfold fS at h;refine A3 rfl<|A3 rfl<|A3 rfl<|A3 rfl<|B1 r_.l.Short.length B9 ?_;obtain⟨oc,h,a4⟩:=A5 h;refine W9 oc (Y:=Unit) (λ(_:Unit)=>mkSt [(0,.own 0 0 0)] [(0,.box 105 7)] [(0,0,.im (nI r_.l.I)),(0,1,.im (nL (cL cI) r_.l.Short)),(0,2,.im (nL (cL cI) r_.l.X)),(0,3,.im (nI r_.o.I)),(0,4,.im (nL C9 r_.o.T)),(0,5,.im (.ex v0_5)),(0,6,.im (.ex v0_6))]) (λ(_:Unit)=>lZ r_.l.Short/\lZ r_.l.X/\lZ r_.o.T/\True) (by rintro⟨⟩;exact((Holds.cel 0 1 rfl (by decide) rfl).and ((Holds.cel 0 2 rfl (by decide) rfl).and ((Holds.cel 0 4 rfl (by decide) rfl).and hT)))) ?_ ?_;refine H1 h (λa2=>mkSt [(0,.own 0 0 0),(1,C3 (cL cI) row_),(14,C3 (cL cI) r_.l.Short),(15,C1 (r_.l.Short.length:Int)),(16,B8 a2)] [(0,.box 105 7)] [(0,0,.im (nI r_.l.I)),(0,1,.im (nL (cL cI) r_.l.Short)),(0,2,.im (nL (cL cI) r_.l.X)),(0,3,.im (nI r_.o.I)),(0,4,.im (nL C9 r_.o.T)),(0,5,.im (.ex v0_5)),(0,6,.im (.ex v0_6))]) (λa2=>lZ row_/\lZ r_.l.Short/\lZ r_.l.X/\lZ r_.o.T/\True) eZ (λa2=>((C5 1 rfl).and ((C5 14 rfl).and ((Holds.cel 0 2 rfl (by decide) rfl).and ((Holds.cel 0 4 rfl (by decide) rfl).and hT))))) ?_;rintro k a2 o hp h a3;unfold fS.s2 at h;obtain⟨b8,b9,c0,c6,_⟩:=hp;refine B5 h (λb4 h a7=>?_) λb4 h a7=>?_;refine F8 h λa8 d7 h=>?_;refine A3 rfl<|A3 rfl<|A3 rfl ?_;obtain⟨b2,d5,h⟩:=A5 h;refine⟨_,xR r_.l b2 d5,?_⟩;refine A3 rfl<|A3 rfl<|A3 rfl ?_;obtain⟨b3,d6,h⟩:=A5 h;refine⟨_,sp_table_Row b2 r_.o a8 b3 d6,?_⟩;obtain⟨b5,h,a9⟩:=A5 h;refine I4 (mkSt [(0,.own 0 0 0),(1,C3 (cL cI) row_),(7,C3 cI a8),(14,C3 (cL cI) r_.l.Short),(15,C1 (r_.l.Short.length:Int)),(16,B8 a2),(39,J1 b5)] [(0,.box 105 7)] [(0,0,.im (nI r_.l.I)),(0,1,.im (nL (cL cI) r_.l.Short)),(0,2,.im (nL (cL cI) r_.l.X)),(0,3,.im (nI r_.o.I)),(0,4,.im (nL C9 r_.o.T)),(0,5,.im (.ex v0_5)),(0,6,.im (.ex v0_6))]) ((C5 1 rfl).and ((C5 7 rfl).and ((C5 14 rfl).and ((Holds.cel 0 2 rfl (by decide) rfl).and ((Holds.cel 0 4 rfl (by decide) rfl).and hT))))) ?_ λhp=>?_;refine iN h (λa6 h=>?_) λa6 h=>?_
 iterate 2 (refine B3 (H9 a6) ?_)
 obtain⟨b6,a5,h⟩:=A5 h;refine⟨_,GP b3.1 row_ b6 a5,?_⟩;refine B3 a6 ?_;cases h;exact D8 eZ
 iterate 2 (refine C4 (V2 a6) ?_)
 refine C4 a6 ?_;cases h;exact D8 eZ;replace h:=a9;obtain⟨c7,c8,c9,d0,d1,_⟩:=hp;refine H4 h (λb7 h=>?_) λb7 h=>?_;cases h;cases C0 a3;replace h:some _=some _:=a4;cases h;exact A3 ⟨rfl,trivial⟩ ⟨rfl,rfl⟩;refine D2.mk (zzR_ (by omega)) ?_;cases h;exact E7 _ a3 eZ;cases h;cases C0 a3;exact J5.mk' _ rfl eZ;rintro⟨⟩ rfl hp;replace h:=K5 a4;obtain⟨d2,d3,d4,_⟩:=hp;cases h;exact A3 ⟨rfl,trivial⟩ ⟨rfl,rfl⟩
def yC(r_:I7)(v0_0 v0_1 v0_2 v0_3 v0_4:Value)(r:Bool×I7)(h:gF [.im (.ex v0_0),.im (.ex v0_1),.im (.ex v0_2),.im (.ex v0_3),.im (.ex v0_4),.ow (.row 51 1 (List.map (cL cI) r_.missing)),.im (nB r_.long)]->lW r_=some r):Sp Tryz.prog 103 [.box 105 [.im (.ex v0_0),.im (.ex v0_1),.im (.ex v0_2),.im (.ex v0_3),.im (.ex v0_4),.ow (.row 51 1 (List.map (cL cI) r_.missing)),.im (nB r_.long)]] (.mk false [.im (nB r.1)] [.box 105 [.im (.ex v0_0),.im (.ex v0_1),.im (.ex v0_2),.im (.ex v0_3),.im (.ex v0_4),.ow (.row 51 1 (List.map (cL cI) r.2.missing)),.im (nB r.2.long)]]):=by
 refine D1 [] λhk=>?_;replace h:=h hk.1;have z1:lZ r_.missing:=iW hk.1.2.2.2.2.2.1;unfold lW at h;obtain⟨a6,h,a3⟩:=A5 h;refine I4 (mkSt [(0,.own 0 0 0),(2,J1 a6)] [(0,.box 105 7),(65,.row 51 1 (List.map (cL cI) r_.missing))] [(0,0,.im (.ex v0_0)),(0,1,.im (.ex v0_1)),(0,2,.im (.ex v0_2)),(0,3,.im (.ex v0_3)),(0,4,.im (.ex v0_4)),(0,5,.osl 65 1),(0,6,.im (nB r_.long))]) ((Holds.kdl 65 rfl).and hT) ?_ λhp=>?_;refine A3 rfl<|A3 rfl<|A3 rfl<|iM h (λa2 h=>?_) λa2 h=>?_;refine B3 (J2 a2)<|A3 rfl<|B3 (J2 a2)<|A3 rfl<|B3 (J2 a2)<|A3 rfl<|B3 (J2 a2)<|A3 rfl<|B1 r_.missing.length B9 ?_;refine B3 (J2 a2)<|C4 a2 ?_;cases h;exact D8 (eA (K9 [0,0,65,2005]))
 iterate 5 (refine C4 (T5 a2) ?_)
 refine B3 a2 ?_;cases h;exact D8 (eA (K9 [0,0,65,2005]));replace h:=a3;obtain⟨a7,_⟩:=hp;cases h;exact A3 ⟨rfl,rfl,trivial⟩ ⟨rfl,rfl⟩
def zo6(r_:I7)(u_ v_:A2)(r:A4×Int×I7)(h:gF [.im (nI r_.l.I),.im (nL (cL cI) r_.l.Short),.im (nL (cL cI) r_.l.X),.im (nI r_.o.I),.im (nL C9 r_.o.T),.ow (.row 51 1 (List.map (cL cI) r_.missing)),.im (nB r_.long)]->Ok (nL cI u_)->Ok (nL cI v_)->bM r_ u_ v_=some r):Sp Tryz.prog 56 [.box 105 [.im (nI r_.l.I),.im (nL (cL cI) r_.l.Short),.im (nL (cL cI) r_.l.X),.im (nI r_.o.I),.im (nL C9 r_.o.T),.ow (.row 51 1 (List.map (cL cI) r_.missing)),.im (nB r_.long)],.im (nL cI u_),.im (nL cI v_)] (.mk true [.im (nL (cL cI) r.1),.im (nI r.2.1)] [.box 105 [.im (nI r.2.2.l.I),.im (nL (cL cI) r.2.2.l.Short),.im (nL (cL cI) r.2.2.l.X),.im (nI r.2.2.o.I),.im (nL C9 r.2.2.o.T),.ow (.row 51 1 (List.map (cL cI) r.2.2.missing)),.im (nB r.2.2.long)]]):=by
 refine D1 [50,26000,28000,32000,40000,44000,46000,69000,72000,74000,83000,91000,95000,97000,900025,900027,900031,900039,900043,900045,900068,900071,900073,900082,900090,900094,900096,1000000000000025600,1000000000000025601,1000000000000027648,1000000000000027649,1000000000000027650,1000000000000027651,1000000000000027652,1000000000000031749,1000000000000031750,1000000000000039936,1000000000000039937,1000000000000039938,1000000000000044032,1000000000000044033,1000000000000044034,1000000000000046080,1000000000000046081,1000000000000046082,1000000000000046083,1000000000000046084,1000000000000069632,1000000000000069633,1000000000000072704,1000000000000072705,1000000000000074752,1000000000000074753,1000000000000074754,1000000000000074755,1000000000000074756,1000000000000083973,1000000000000083974,1000000000000092160,1000000000000092161,1000000000000092162,1000000000000096256,1000000000000096257,1000000000000096258,1000000000000098304,1000000000000098305,1000000000000098306,1000000000000098307,1000000000000098308] λhk=>?_;replace h:=h hk.1 hk.2.1 hk.2.2.1;have z1:lZ r_.l.Short:=A8 hk.1.2.1;have z2:lZ r_.l.X:=A8 hk.1.2.2.1;have z3:lZ r_.o.T:=A8 hk.1.2.2.2.2.1;have z4:lZ r_.missing:=iW hk.1.2.2.2.2.2.1;have z5:lZ u_:=A8 hk.2.1;have z6:lZ v_:=A8 hk.2.2.1;unfold bM at h;refine A3 ⟨rfl,rfl,trivial⟩ ?_;obtain⟨c8,l8,h⟩:=A5 h;refine⟨false,[.im (nL (cL cI) c8.1)],[.box 105 [.im .any,.im .any,.im (nL (cL cI) c8.2.l.X),.im (nI c8.2.o.I),.im (nL C9 c8.2.o.T),.ow (.row 51 1 (List.map (cL cI) c8.2.missing)),.im (nB c8.2.long)]],λV=>(CO r_ u_ (V 0 0) (V 0 1) c8 (λ_ _=>l8)),?_⟩;refine A3 ⟨rfl,rfl,trivial⟩ ?_;obtain⟨e4,m6,h⟩:=A5 h;refine⟨false,[.im (nB e4.1)],[.box 105 [.im .any,.im .any,.im .any,.im .any,.im .any,.ow (.row 51 1 (List.map (cL cI) e4.2.missing)),.im (nB e4.2.long)]],λV=>(yC (⟨(⟨r_.l.I,r_.l.Short,c8.2.l.X⟩:E1),c8.2.o,c8.2.missing,c8.2.long⟩:I7) (V 0 0) (V 0 1) (V 0 2) (V 0 3) (V 0 4) e4 (λ_=>m6)),?_⟩;refine H4 h (λg3 h=>?_) λg3 h=>?_;cases h;exact A3 ⟨rfl,rfl,trivial⟩ ⟨rfl,rfl⟩;refine A3 ⟨rfl,trivial⟩ ?_;obtain⟨c9,m5,h⟩:=A5 h;refine⟨true,[.im (nL cI c9.1),.im (nB c9.2.1)],[.box 105 [.im (nI c9.2.2.l.I),.im (nL (cL cI) c9.2.2.l.Short),.im (nL (cL cI) c9.2.2.l.X),.im (nI c9.2.2.o.I),.im (nL C9 c9.2.2.o.T),.im .any,.im .any]],λV=>(JQ (⟨(⟨r_.l.I,r_.l.Short,c8.2.l.X⟩:E1),c8.2.o,e4.2.missing,e4.2.long⟩:I7) c8.1 (V 0 5) (V 0 6) c9 (λ_ _=>m5)),?_⟩;refine H4 h (λg4 h=>?_) λg4 h=>?_;cases h;exact A3 ⟨rfl,rfl,trivial⟩ ⟨rfl,rfl⟩;refine A3 ⟨rfl,rfl,trivial⟩ ?_;obtain⟨e1,l9,h⟩:=A5 h;refine⟨false,[.im (nL cI e1.1)],[.box 105 [.im .any,.im .any,.im .any,.im (nI e1.2.o.I),.im (nL C9 e1.2.o.T),.ow (.row 51 1 (List.map (cL cI) e1.2.missing)),.im (nB e1.2.long)]],λV=>(uL (⟨c9.2.2.l,c9.2.2.o,e4.2.missing,e4.2.long⟩:I7) u_ v_ (V 0 0) (V 0 1) (V 0 2) e1 (λ_ _ _=>l9)),?_⟩;refine A3 ⟨rfl,rfl,trivial⟩ ?_;obtain⟨e2,m7,h⟩:=A5 h;refine⟨false,[.im (nL cI e2.1)],[.box 105 [.im .any,.im .any,.im .any,.im (nI e2.2.o.I),.im (nL C9 e2.2.o.T),.ow (.row 51 1 (List.map (cL cI) e2.2.missing)),.im (nB e2.2.long)]],λV=>(uL (⟨c9.2.2.l,e1.2.o,e1.2.missing,e1.2.long⟩:I7) c9.1 v_ (V 0 0) (V 0 1) (V 0 2) e2 (λ_ _ _=>m7)),?_⟩;refine A3 ⟨rfl,rfl,trivial⟩ ?_;obtain⟨e8,l7,h⟩:=A5 h;refine⟨false,[.im (nB e8.1)],[.box 105 [.im .any,.im .any,.im .any,.im .any,.im .any,.ow (.row 51 1 (List.map (cL cI) e8.2.missing)),.im (nB e8.2.long)]],λV=>(yC (⟨c9.2.2.l,e2.2.o,e2.2.missing,e2.2.long⟩:I7) (V 0 0) (V 0 1) (V 0 2) (V 0 3) (V 0 4) e8 (λ_=>l7)),?_⟩;refine H4 h (λg5 h=>?_) λg5 h=>?_;cases h;exact A3 ⟨rfl,rfl,trivial⟩ ⟨rfl,rfl⟩;obtain⟨g6,m4,h⟩:=A5 h;refine⟨_,nY e1.1 e2.1 g6 m4,?_⟩;refine H4 h (λg7 h=>?_) λg7 h=>?_;cases h;exact A3 ⟨rfl,rfl,trivial⟩ ⟨rfl,rfl⟩;obtain⟨oc,h,a4⟩:=A5 h;refine W9 oc (Y:=Int×A4×A4×Int×List B0×A4×Bool×A4) (λ(d8,d0,d1,d9,d2,d3,e0,d4)=>mkSt [(0,.own 0 0 0),(13,.osl 112 1)] [(0,.box 105 7),(111,.row 51 1 (List.map (cL cI) d3)),(112,.row 51 1 (List.map (cL cI) d4))] [(0,0,.im (nI d8)),(0,1,.im (nL (cL cI) d0)),(0,2,.im (nL (cL cI) d1)),(0,3,.im (nI d9)),(0,4,.im (nL C9 d2)),(0,5,.osl 111 1),(0,6,.im (nB e0))]) (λ(d8,d0,d1,d9,d2,d3,e0,d4)=>lZ d0/\lZ d1/\lZ d2/\lZ d3/\lZ d4/\True) (by rintro⟨d8,d0,d1,d9,d2,d3,e0,d4⟩;exact((Holds.cel 0 1 rfl (by decide) rfl).and ((Holds.cel 0 2 rfl (by decide) rfl).and ((Holds.cel 0 4 rfl (by decide) rfl).and ((Holds.kdl 111 rfl).and ((Holds.kdl 112 rfl).and hT)))))) ?_ ?_;refine H1 h (λ(b5,b3,b8,d5,b9,c0,d6,c6,a2,c7,b6)=>mkSt [(0,.own 0 0 0),(1,C3 cI c6),(2,C3 cI a2),(9,C3 cI c7),(13,.osl 112 1)] [(0,.box 105 7),(111,.row 51 1 (List.map (cL cI) c0)),(112,.row 51 1 (List.map (cL cI) b6))] [(0,0,.im (nI b5)),(0,1,.im (nL (cL cI) b3)),(0,2,.im (nL (cL cI) b8)),(0,3,.im (nI d5)),(0,4,.im (nL C9 b9)),(0,5,.osl 111 1),(0,6,.im (nB d6))]) (λ(b5,b3,b8,d5,b9,c0,d6,c6,a2,c7,b6)=>lZ c6/\lZ a2/\lZ c7/\lZ b3/\lZ b8/\lZ b9/\lZ c0/\lZ b6/\True) (eA (K9 [0,0,111,2005,112,50])) (λ⟨b5,b3,b8,d5,b9,c0,d6,c6,a2,c7,b6⟩=>((C5 1 rfl).and ((C5 2 rfl).and ((C5 9 rfl).and ((Holds.cel 0 1 rfl (by decide) rfl).and ((Holds.cel 0 2 rfl (by decide) rfl).and ((Holds.cel 0 4 rfl (by decide) rfl).and ((Holds.kdl 111 rfl).and ((Holds.kdl 112 rfl).and hT))))))))) ?_;rintro k ⟨b5,b3,b8,d5,b9,c0,d6,c6,a2,c7,b6⟩ o hp h a3;change bM.s2 b5 b3 b8 d5 b9 c0 d6 c6 a2 c7 b6=_ at h;unfold bM.s2 at h;obtain⟨g8,g9,h6,h7,h8,h9,i3,i4,_⟩:=hp;refine B1 a2.length B9<|B5 h (λe9 h e6=>?_) λe9 h e6=>?_;obtain⟨i5,h⟩:=D5 h;refine A3 (show(0:Int)<=(0:Int)/\(0:Int)<=1/\1<=(↑(List.length (List.map cI a2)):Int)/\(∀e∈List.map cI a2,List.length e=1) from⟨by omega,by first|omega|(simp only[B6];omega),by first|omega|(simp only[B6];omega),K6 λ_=>rfl⟩) ?_
 refine B1 (List.map cI (List.take 1 a2)) lP ?_;obtain⟨e5,l6,h⟩:=A5 h;refine⟨_,(gU [c6,(List.take 1 a2)] e5 l6),?_⟩;obtain⟨i6,h⟩:=D5 h;refine A3 (show(0:Int)<=(0:Int)/\(0:Int)<=1/\1<=(↑(List.length (List.map cI a2)):Int)/\(∀e∈List.map cI a2,List.length e=1) from⟨by omega,by first|omega|(simp only[B6];omega),by first|omega|(simp only[B6];omega),K6 λ_=>rfl⟩) ?_
 refine B1 (List.map cI (List.take 1 a2)) lP ?_;obtain⟨e7,l0,h⟩:=A5 h;refine⟨_,(gU [c7,(List.take 1 a2)] e7 l0),?_⟩;obtain⟨i7,h⟩:=D5 h;refine A3 (show(0:Int)<=1/\1<=(↑(List.length (List.map cI a2)):Int)/\(↑(List.length (List.map cI a2)):Int)<=(↑(List.length (List.map cI a2)):Int)/\(∀e∈List.map cI a2,List.length e=1) from⟨by omega,by first|omega|(simp only[B6];omega),by first|omega|(simp only[B6];omega),K6 λ_=>rfl⟩) ?_
 refine B1 (List.map cI (List.drop 1 a2)) kJ<|A3 ⟨rfl,rfl,trivial⟩ ?_;obtain⟨a8,l4,h⟩:=A5 h;refine⟨false,[.im (nL (cL cI) a8.1)],[.box 105 [.im .any,.im .any,.im (nL (cL cI) a8.2.l.X),.im (nI a8.2.o.I),.im (nL C9 a8.2.o.T),.ow (.row 51 1 (List.map (cL cI) a8.2.missing)),.im (nB a8.2.long)]],λV=>(CO (⟨(⟨b5,b3,b8⟩:E1),(⟨d5,b9⟩:A7),c0,d6⟩:I7) e5 (V 0 0) (V 0 1) a8 (λ_ _=>l4)),?_⟩;refine A3 ⟨rfl,rfl,trivial⟩ ?_;obtain⟨a7,k9,h⟩:=A5 h;refine⟨false,[.im (nL (cL cI) a7.1)],[.box 105 [.im .any,.im .any,.im (nL (cL cI) a7.2.l.X),.im (nI a7.2.o.I),.im (nL C9 a7.2.o.T),.ow (.row 51 1 (List.map (cL cI) a7.2.missing)),.im (nB a7.2.long)]],λV=>(CO (⟨(⟨b5,b3,a8.2.l.X⟩:E1),a8.2.o,a8.2.missing,a8.2.long⟩:I7) e7 (V 0 0) (V 0 1) a7 (λ_ _=>k9)),?_⟩;refine A3 ⟨rfl,rfl,trivial⟩ ?_;obtain⟨b7,k8,h⟩:=A5 h;refine⟨false,[.im (nB b7.1)],[.box 105 [.im .any,.im .any,.im .any,.im .any,.im .any,.ow (.row 51 1 (List.map (cL cI) b7.2.missing)),.im (nB b7.2.long)]],λV=>(yC (⟨(⟨b5,b3,a7.2.l.X⟩:E1),a7.2.o,a7.2.missing,a7.2.long⟩:I7) (V 0 0) (V 0 1) (V 0 2) (V 0 3) (V 0 4) b7 (λ_=>k8)),?_⟩;refine H4 h (λf3 h=>?_) λf3 h=>?_;cases h;cases C0 a3;replace h:some _=some _:=a4;cases h;exact A3 ⟨rfl,rfl,trivial⟩ ⟨rfl,rfl⟩;obtain⟨f4,l3,h⟩:=A5 h;refine⟨_,GP a8.1 a7.1 f4 l3,?_⟩;refine H4 h (λf5 h=>?_) λf5 h=>?_;cases h;cases C0 a3;replace h:some _=some _:=a4;cases h;exact A3 ⟨rfl,rfl,rfl,trivial⟩ ⟨rfl,rfl⟩;refine A3 ⟨rfl,trivial⟩ ?_;obtain⟨a6,l5,h⟩:=A5 h;refine⟨true,[.im (nL cI a6.1),.im (nB a6.2.1)],[.box 105 [.im (nI a6.2.2.l.I),.im (nL (cL cI) a6.2.2.l.Short),.im (nL (cL cI) a6.2.2.l.X),.im (nI a6.2.2.o.I),.im (nL C9 a6.2.2.o.T),.im .any,.im .any]],λV=>(JQ (⟨(⟨b5,b3,a7.2.l.X⟩:E1),a7.2.o,b7.2.missing,b7.2.long⟩:I7) a8.1 (V 0 5) (V 0 6) a6 (λ_ _=>l5)),?_⟩;refine H4 h (λf7 h=>?_) λf7 h=>?_;cases h;cases C0 a3;replace h:some _=some _:=a4;cases h;exact A3 ⟨rfl,rfl,trivial⟩ ⟨rfl,rfl⟩;refine A3 ⟨rfl,rfl,trivial⟩ ?_;obtain⟨b4,k6,h⟩:=A5 h;refine⟨false,[.im (nL cI b4.1)],[.box 105 [.im .any,.im .any,.im .any,.im (nI b4.2.o.I),.im (nL C9 b4.2.o.T),.ow (.row 51 1 (List.map (cL cI) b4.2.missing)),.im (nB b4.2.long)]],λV=>(uL (⟨a6.2.2.l,a6.2.2.o,b7.2.missing,b7.2.long⟩:I7) e5 (List.drop 1 a2) (V 0 0) (V 0 1) (V 0 2) b4 (λ_ _ _=>k6)),?_⟩;refine A3 ⟨rfl,rfl,trivial⟩ ?_;obtain⟨b2,a9,h⟩:=A5 h;refine⟨false,[.im (nL cI b2.1)],[.box 105 [.im .any,.im .any,.im .any,.im (nI b2.2.o.I),.im (nL C9 b2.2.o.T),.ow (.row 51 1 (List.map (cL cI) b2.2.missing)),.im (nB b2.2.long)]],λV=>(uL (⟨a6.2.2.l,b4.2.o,b4.2.missing,b4.2.long⟩:I7) a6.1 (List.drop 1 a2) (V 0 0) (V 0 1) (V 0 2) b2 (λ_ _ _=>a9)),?_⟩;refine A3 ⟨rfl,rfl,trivial⟩ ?_;obtain⟨d7,a5,h⟩:=A5 h;refine⟨false,[.im (nB d7.1)],[.box 105 [.im .any,.im .any,.im .any,.im .any,.im .any,.ow (.row 51 1 (List.map (cL cI) d7.2.missing)),.im (nB d7.2.long)]],λV=>(yC (⟨a6.2.2.l,b2.2.o,b2.2.missing,b2.2.long⟩:I7) (V 0 0) (V 0 1) (V 0 2) (V 0 3) (V 0 4) d7 (λ_=>a5)),?_⟩;refine H4 h (λf8 h=>?_) λf8 h=>?_;cases h;cases C0 a3;replace h:some _=some _:=a4;cases h;exact A3 ⟨rfl,rfl,trivial⟩ ⟨rfl,rfl⟩;obtain⟨e3,h,k7⟩:=A5 h;refine I4 (mkSt [(0,.own 0 0 0),(1,C3 cI e3),(13,.osl 112 1),(16,C3 cI (List.drop 1 a2)),(19,C3 cI a6.1)] [(0,.box 105 7),(111,.row 51 1 (List.map (cL cI) d7.2.missing)),(112,.row 51 1 (List.map (cL cI) b6))] [(0,0,.im (nI a6.2.2.l.I)),(0,1,.im (nL (cL cI) a6.2.2.l.Short)),(0,2,.im (nL (cL cI) a6.2.2.l.X)),(0,3,.im (nI b2.2.o.I)),(0,4,.im (nL C9 b2.2.o.T)),(0,5,.osl 111 1),(0,6,.im (nB d7.2.long))]) ((C5 1 rfl).and ((C5 16 rfl).and ((C5 19 rfl).and ((Holds.cel 0 1 rfl (by decide) rfl).and ((Holds.cel 0 2 rfl (by decide) rfl).and ((Holds.cel 0 4 rfl (by decide) rfl).and ((Holds.kdl 111 rfl).and ((Holds.kdl 112 rfl).and hT)))))))) ?_ λhp=>?_;obtain⟨f9,f6,h⟩:=A5 h;refine⟨_,nY b4.1 b2.1 f9 f6,?_⟩;refine H4 h (λg1 h=>?_) λg1 h=>?_;cases h;exact D8 eZ;cases h;exact D8 eZ;replace h:=k7;obtain⟨i8,i9,j0,j1,j2,j3,j4,j5,_⟩:=hp;obtain⟨g2,h⟩:=D5 h;refine A3 ⟨rfl,K6 (l:=[e3]) (c:=cL cI) λ_=>rfl,show E0 _ 24 by simpa only[B6,E9,L2,F9]using g2⟩ ?_;refine B1 (List.map (cL cI) (b6++[e3])) (O9 (l:=b6) (m:=[e3]) (c:=cL cI)) ?_;cases h;exact E7 _ a3 eZ;cases h;cases C0 a3;exact J5.mk' _ rfl eZ;rintro⟨d8,d0,d1,d9,d2,d3,e0,d4⟩ rfl hp;have m3:=K5 a4;replace h:bM.k3 d8 d0 d1 d9 d2 d3 e0 d4=some _:=m3;clear m3;unfold bM.k3 at h;obtain⟨j6,j7,j8,j9,k5,_⟩:=hp;cases h;exact A3 ⟨rfl,rfl,rfl,trivial⟩ ⟨rfl,rfl⟩
def IQ(l_:E1)(o_:A7)(s_:N5)(r:E1×A4×Int)(h:fL l_ o_ s_=some r):Sp Tryz.prog 21 [.im (.agg (W0 l_)),.im (.agg (N4 o_)),.im (.agg (tK s_))] (.tup [.agg (W0 r.1),nL (cL cI) r.2.1,nI r.2.2]):=by
 refine sp_of rfl [76000,700003,700004,700005,76806*1000000000+51*100+1] rfl rfl rfl (xU rfl) rfl λhk=>?_;have z1:lZ l_.Short:=A8 (B7 hk.1 1 rfl);have z2:lZ l_.X:=A8 (B7 hk.1 2 rfl);have z3:lZ o_.T:=A8 (B7 hk.2.1 1 rfl);have z4:lZ s_.Prefix:=A8 (B7 hk.2.2.1 0 rfl);have z5:lZ s_.Suffix:=A8 (B7 hk.2.2.1 2 rfl);unfold fL at h;obtain⟨d1,f8,h⟩:=A5 h;refine⟨_,BN l_ o_ d1 f8,?_⟩;refine B5 h (λd2 h b3=>?_) λd2 h b3=>?_;refine A3 rfl ?_;cases h;refine A3 ⟨rfl,trivial⟩ ?_;exact⟨rfl,rfl⟩;obtain⟨d3,f5,h⟩:=A5 h;refine⟨_,nP s_.Prefix l_.I d3 f5,?_⟩;refine B5 h (λd4 h b4=>?_) λd4 h b4=>?_;refine A3 rfl ?_;cases h;refine A3 ⟨rfl,trivial⟩ ?_;exact⟨rfl,rfl⟩;obtain⟨d5,h,g1⟩:=A5 h;refine I4 (mkSt [(3,C7 (W0 l_)),(4,C7 (N4 o_)),(5,C7 (tK s_)),(6,.own 123 1 0),(44,J1 d5)] [(123,.box 45 3)] [(123,0,.im (nI 0)),(123,1,.im (.val (.slice none 0 0))),(123,2,.im (.val (.slice none 0 0)))]) hT ?_ λhp=>?_;refine Y8 h (λa7 h b5=>?_) λa7 h b5=>?_
 iterate 4 (refine B3 (J2 a7) ?_)
 refine C4 a7 ?_;cases h;exact D8 (eA (K9 [123,6]))
 iterate 4 (refine C4 (T5 a7) ?_)
 refine B3 a7 ?_;cases h;exact D8 (eA (K9 [123,6]));replace h:=g1;refine H4 h (λd6 h=>?_) λd6 h=>?_;refine A3 rfl ?_;cases h;refine A3 ⟨rfl,trivial⟩ ?_;exact⟨rfl,rfl⟩;refine B1 s_.Suffix.length B9<|B5 h (λd7 h b6=>?_) λd7 h b6=>?_;refine A3 rfl ?_;cases h;refine A3 ⟨rfl,trivial⟩ ?_;exact⟨rfl,rfl⟩;obtain⟨d8,g2,h⟩:=A5 h;refine⟨_,nP s_.Suffix l_.I d8 g2,?_⟩;refine B5 h (λd9 h b7=>?_) λd9 h b7=>?_;refine A3 rfl ?_;cases h;refine A3 ⟨rfl,trivial⟩ ?_;exact⟨rfl,rfl⟩;obtain⟨d0,g3,h⟩:=A5 h;refine⟨_,(gU [s_.Prefix,[s_.Symbol]] d0 g3),?_⟩;refine A3 ⟨rfl,trivial⟩ ?_;obtain⟨a2,f6,h⟩:=A5 h;refine⟨_,zo6 (⟨l_,o_,[],false⟩:I7) d0 s_.Suffix a2 (λ_ _ _=>f6),?_⟩;refine A3 rfl<|A3 rfl<|A3 rfl<|H4 h (λe0 h=>?_) λe0 h=>?_;refine A3 rfl ?_;cases h;refine A3 ⟨rfl,trivial⟩ ?_;exact⟨rfl,rfl⟩;refine B5 h (λe1 h b8=>?_) λe1 h b8=>?_;refine A3 rfl ?_;cases h;refine A3 ⟨rfl,trivial⟩ ?_;exact⟨rfl,rfl⟩;refine A3 rfl<|A3 rfl<|A3 rfl<|A3 rfl<|B1 a2.2.2.missing.length B9<|B5 h (λe2 h b9=>?_) λe2 h b9=>?_;refine A3 rfl<|A3 rfl<|A3 rfl<|A3 ⟨rfl,trivial⟩ ?_;obtain⟨e3,f9,h⟩:=A5 h;refine⟨_,JM a2.2.2.missing e3 f9,?_⟩;refine A3 rfl ?_;cases h;refine A3 ⟨rfl,trivial⟩ ?_;exact⟨rfl,rfl⟩;refine A3 rfl<|B1 a2.1.length B9 ?_;obtain⟨c0,h,a9⟩:=A5 h;refine I4 (mkSt [(3,C7 (W0 l_)),(6,.own 123 1 0),(15,.own 124 1 0)] [(123,.box 45 3),(124,.box 45 3)] [(123,0,.im (nI 0)),(123,1,.im (.val (.slice none 0 0))),(123,2,.im (.val (.slice none 0 0))),(124,0,.im (nI l_.I)),(124,1,.im (nL (cL cI) c0)),(124,2,.im (nL (cL cI) l_.X))]) ((Holds.cel 124 1 rfl (by decide) rfl).and ((Holds.cel 124 2 rfl (by decide) rfl).and hT)) ?_ λhp=>?_;refine H1 h (λ(a6,a8)=>mkSt [(3,C7 (W0 l_)),(6,.own 123 1 0),(15,.own 124 1 0),(103,C3 (cL cI) a2.1),(104,C1 (a2.1.length:Int)),(105,B8 a8)] [(123,.box 45 3),(124,.box 45 3)] [(123,0,.im (nI 0)),(123,1,.im (.val (.slice none 0 0))),(123,2,.im (.val (.slice none 0 0))),(124,0,.im (nI l_.I)),(124,1,.im (nL (cL cI) a6)),(124,2,.im (nL (cL cI) l_.X))]) (λ(a6,a8)=>lZ a2.1/\lZ a6/\lZ l_.X/\True) (eA (K9 [123,123,124,15])) (λ⟨a6,a8⟩=>((C5 103 rfl).and ((Holds.cel 124 1 rfl (by decide) rfl).and ((Holds.cel 124 2 rfl (by decide) rfl).and hT)))) ?_;rintro k ⟨a6,a8⟩ o hp h a3;change fL.s2 a2 a6 a8=_ at h;unfold fL.s2 at h;obtain⟨f4,e4,e5,_⟩:=hp;refine B5 h (λe6 h c6=>?_) λe6 h c6=>?_;refine F8 h λe7 g4 h=>?_;refine A3 rfl<|A3 rfl ?_;obtain⟨e8,f7,h⟩:=A5 h;refine⟨_,BD a6 e7 e8 f7,?_⟩;refine A3 rfl<|A3 rfl<|D2.mk (zzR_ (by omega)) ?_;cases h;exact E7 _ a3 eZ;cases h;cases C0 a3;exact D8 eZ;replace h:=a9;obtain⟨e9,f3,_⟩:=hp;refine A3 rfl ?_;obtain⟨c7,a5,h⟩:=A5 h;refine⟨_,BU (⟨l_.I,c0,l_.X⟩:E1) c7 a5,?_⟩;refine B5 h (λc8 h b2=>?_) λc8 h b2=>?_;refine A3 rfl ?_;cases h;refine A3 ⟨rfl,trivial⟩ ?_;exact⟨rfl,rfl⟩;refine A3 rfl ?_;obtain⟨c9,a4,h⟩:=A5 h;refine⟨_,HV (⟨l_.I,c0,l_.X⟩:E1) c9 a4,?_⟩;refine A3 rfl ?_;cases h;refine A3 ⟨rfl,trivial⟩ ?_;exact⟨rfl,rfl⟩
def zrd(t_:C6)(o_:A7)(r:I6×Int)(h:W2 t_ o_=some r):Sp Tryz.prog 59 [.im (.agg (N9 t_)),.im (.agg (N4 o_))] (.tup [.agg (cO r.1),nI r.2]):=by
 refine D1 [700002,700003] λhk=>?_;have z1:lZ t_.P:=A8 (B7 hk.1 1 rfl);have z2:lZ t_.X:=A8 (B7 hk.1 2 rfl);have z3:lZ o_.T:=A8 (B7 hk.2.1 1 rfl);unfold W2 at h;obtain⟨a2,k8,h⟩:=A5 h;refine⟨_,BQ t_ o_ a2 k8,?_⟩;refine A3 rfl<|B5 h (λe7 h d4=>?_) λe7 h d4=>?_;refine A3 rfl ?_;cases h;refine A3 ⟨rfl,trivial⟩ ?_;exact⟨rfl,rfl⟩;refine A3 rfl ?_;obtain⟨e8,k7,h⟩:=A5 h;refine⟨_,JR a2.1 e8 k7,?_⟩;refine A3 rfl ?_;obtain⟨e9,l3,h⟩:=A5 h;refine⟨_,JW a2.1 e9 l3,?_⟩;obtain⟨f3,h,l0⟩:=A5 h;refine I4 (mkSt [(2,C7 (N9 t_)),(4,.own 121 1 0),(6,.own 122 1 0),(44,J1 f3)] [(121,.box 28 5),(122,.box 148 4)] [(121,0,.im (nI 0)),(121,1,.im (nI 0)),(121,2,.im (.val (.slice none 0 0))),(121,3,.im (.val (.slice none 0 0))),(121,4,.im (.val (.slice none 0 0))),(122,0,.im (nL (cL (cL cI)) a2.1.rows)),(122,1,.im (nL cI a2.1.prefixes)),(122,2,.im (nL (cL cI) a2.1.next)),(122,3,.im (.any))]) ((Holds.cel 122 0 rfl (by decide) rfl).and ((Holds.cel 122 1 rfl (by decide) rfl).and ((Holds.cel 122 2 rfl (by decide) rfl).and hT))) ?_ λhp=>?_;refine iM h (λd5 h=>?_) λd5 h=>?_;refine C4 d5 ?_;cases h;exact D8 (eA (K9 [121,4,122,6]));refine B3 d5 ?_;cases h;exact D8 (eA (K9 [121,4,122,6]));replace h:=l0;obtain⟨j8,j9,k5,_⟩:=hp;refine H4 h (λf4 h=>?_) λf4 h=>?_;refine A3 rfl ?_;cases h;refine A3 ⟨rfl,trivial⟩ ?_;exact⟨rfl,rfl⟩;refine A3 rfl<|A3 rfl<|B1 a2.1.rows.length B9<|B5 h (λf5 h d6=>?_) λf5 h d6=>?_;refine A3 rfl ?_;cases h;refine A3 ⟨rfl,trivial⟩ ?_;exact⟨rfl,rfl⟩;refine A3 rfl<|A3 rfl<|A3 rfl<|B1 a2.1.prefixes.length B9 ?_;obtain⟨⟨b9,c0,c6⟩,h,k9⟩:=A5 h;refine I4 (mkSt [(4,.own 121 1 0),(14,.own 122 1 0)] [(121,.box 28 5),(122,.box 28 5),(123,.row 51 1 (List.map (cL cI) b9)),(124,.row 51 1 (List.map (cL cI) c0)),(125,.row 51 1 (List.map (cL cI) c6))] [(121,0,.im (nI 0)),(121,1,.im (nI 0)),(121,2,.im (.val (.slice none 0 0))),(121,3,.im (.val (.slice none 0 0))),(121,4,.im (.val (.slice none 0 0))),(122,0,.im (nI t_.I)),(122,1,.im (nI 0)),(122,2,.osl 123 1),(122,3,.osl 124 1),(122,4,.osl 125 1)]) ((Holds.kdl 123 rfl).and ((Holds.kdl 124 rfl).and ((Holds.kdl 125 rfl).and hT))) ?_ λhp=>?_;refine H1 h (λ(a7,a8,a6,b2)=>mkSt [(2,C7 (N9 t_)),(4,.own 121 1 0),(6,.own 122 1 0),(14,.own 123 1 0),(56,C3 cI a2.1.prefixes),(57,C1 (a2.1.prefixes.length:Int)),(58,B8 b2)] [(121,.box 28 5),(122,.box 148 4),(123,.box 28 5),(124,.row 51 1 (List.map (cL cI) a7)),(125,.row 51 1 (List.map (cL cI) a8)),(126,.row 51 1 (List.map (cL cI) a6))] [(121,0,.im (nI 0)),(121,1,.im (nI 0)),(121,2,.im (.val (.slice none 0 0))),(121,3,.im (.val (.slice none 0 0))),(121,4,.im (.val (.slice none 0 0))),(122,0,.im (nL (cL (cL cI)) a2.1.rows)),(122,1,.im (nL cI a2.1.prefixes)),(122,2,.im (nL (cL cI) a2.1.next)),(122,3,.im (.any)),(123,0,.im (nI t_.I)),(123,1,.im (nI 0)),(123,2,.osl 124 1),(123,3,.osl 125 1),(123,4,.osl 126 1)]) (λ(a7,a8,a6,b2)=>lZ a2.1.prefixes/\lZ a2.1.rows/\lZ a2.1.next/\lZ a7/\lZ a8/\lZ a6/\True) (eA [(121,some 121),(122,some 122),(123,some 14),(124,none),(125,none),(126,none)]) (λ⟨a7,a8,a6,b2⟩=>((C5 56 rfl).and ((Holds.cel 122 0 rfl (by decide) rfl).and ((Holds.cel 122 2 rfl (by decide) rfl).and ((Holds.kdl 124 rfl).and ((Holds.kdl 125 rfl).and ((Holds.kdl 126 rfl).and hT))))))) ?_;rintro k ⟨a7,a8,a6,b2⟩ o hp h a3;change W2.s32 t_ a2 a7 a8 a6 b2=_ at h;unfold W2.s32 at h;obtain⟨f7,f8,f9,g1,g2,g3,_⟩:=hp;refine B5 h (λd7 h c7=>?_) λd7 h c7=>?_;obtain⟨⟨c8,c9,d0⟩,h,f6⟩:=A5 h;refine I4 (mkSt [(2,C7 (N9 t_)),(4,.own 121 1 0),(6,.own 122 1 0),(14,.own 123 1 0),(56,C3 cI a2.1.prefixes),(57,C1 (a2.1.prefixes.length:Int)),(58,B8 b2)] [(121,.box 28 5),(122,.box 148 4),(123,.box 28 5),(124,.row 51 1 (List.map (cL cI) c8)),(125,.row 51 1 (List.map (cL cI) c9)),(126,.row 51 1 (List.map (cL cI) d0))] [(121,0,.im (nI 0)),(121,1,.im (nI 0)),(121,2,.im (.val (.slice none 0 0))),(121,3,.im (.val (.slice none 0 0))),(121,4,.im (.val (.slice none 0 0))),(122,0,.im (nL (cL (cL cI)) a2.1.rows)),(122,1,.im (nL cI a2.1.prefixes)),(122,2,.im (nL (cL cI) a2.1.next)),(122,3,.im (.any)),(123,0,.im (nI t_.I)),(123,1,.im (nI 0)),(123,2,.osl 124 1),(123,3,.osl 125 1),(123,4,.osl 126 1)]) ((C5 56 rfl).and ((Holds.cel 122 0 rfl (by decide) rfl).and ((Holds.cel 122 2 rfl (by decide) rfl).and ((Holds.kdl 124 rfl).and ((Holds.kdl 125 rfl).and ((Holds.kdl 126 rfl).and hT)))))) ?_ λhp=>?_;refine F8 h λd1 m3 h=>?_;refine A3 rfl<|A3 rfl<|A3 rfl<|B1 a6.length B9<|B5 h (λd8 h d2=>?_) λd8 h d2=>?_;cases h;exact D8 eZ;obtain⟨b5,h,a5⟩:=A5 h;refine I4 (mkSt [(2,C7 (N9 t_)),(4,.own 121 1 0),(6,.own 122 1 0),(14,.own 123 1 0),(15,B8 b2),(17,.osl 127 1),(56,C3 cI a2.1.prefixes),(57,C1 (a2.1.prefixes.length:Int)),(58,B8 b2)] [(121,.box 28 5),(122,.box 148 4),(123,.box 28 5),(124,.row 51 1 (List.map (cL cI) a7)),(125,.row 51 1 (List.map (cL cI) a8)),(126,.row 51 1 (List.map (cL cI) a6)),(127,.row 3 1 (List.map cI b5))] [(121,0,.im (nI 0)),(121,1,.im (nI 0)),(121,2,.im (.val (.slice none 0 0))),(121,3,.im (.val (.slice none 0 0))),(121,4,.im (.val (.slice none 0 0))),(122,0,.im (nL (cL (cL cI)) a2.1.rows)),(122,1,.im (nL cI a2.1.prefixes)),(122,2,.im (nL (cL cI) a2.1.next)),(122,3,.im (.any)),(123,0,.im (nI t_.I)),(123,1,.im (nI 0)),(123,2,.osl 124 1),(123,3,.osl 125 1),(123,4,.osl 126 1)]) ((C5 56 rfl).and ((Holds.cel 122 0 rfl (by decide) rfl).and ((Holds.cel 122 2 rfl (by decide) rfl).and ((Holds.kdl 124 rfl).and ((Holds.kdl 125 rfl).and ((Holds.kdl 126 rfl).and ((Holds.kdl 127 rfl).and hT))))))) ?_ λhp=>?_;refine H1 h (λ(b3,b4)=>mkSt [(2,C7 (N9 t_)),(4,.own 121 1 0),(6,.own 122 1 0),(14,.own 123 1 0),(15,B8 b2),(16,C1 d1),(17,.osl 127 1),(56,C3 cI a2.1.prefixes),(57,C1 (a2.1.prefixes.length:Int)),(58,B8 b2),(69,C1 t_.I),(70,B8 b4)] [(121,.box 28 5),(122,.box 148 4),(123,.box 28 5),(124,.row 51 1 (List.map (cL cI) a7)),(125,.row 51 1 (List.map (cL cI) a8)),(126,.row 51 1 (List.map (cL cI) a6)),(127,.row 3 1 (List.map cI b3))] [(121,0,.im (nI 0)),(121,1,.im (nI 0)),(121,2,.im (.val (.slice none 0 0))),(121,3,.im (.val (.slice none 0 0))),(121,4,.im (.val (.slice none 0 0))),(122,0,.im (nL (cL (cL cI)) a2.1.rows)),(122,1,.im (nL cI a2.1.prefixes)),(122,2,.im (nL (cL cI) a2.1.next)),(122,3,.im (.any)),(123,0,.im (nI t_.I)),(123,1,.im (nI 0)),(123,2,.osl 124 1),(123,3,.osl 125 1),(123,4,.osl 126 1)]) (λ(b3,b4)=>lZ a2.1.prefixes/\lZ a2.1.rows/\lZ a2.1.next/\lZ a7/\lZ a8/\lZ a6/\lZ b3/\True) (eA [(121,some 121),(122,some 122),(123,some 123),(124,some 124),(125,some 125),(126,some 126),(127,none)]) (λ⟨b3,b4⟩=>((C5 56 rfl).and ((Holds.cel 122 0 rfl (by decide) rfl).and ((Holds.cel 122 2 rfl (by decide) rfl).and ((Holds.kdl 124 rfl).and ((Holds.kdl 125 rfl).and ((Holds.kdl 126 rfl).and ((Holds.kdl 127 rfl).and hT)))))))) ?_;rintro k ⟨b3,b4⟩ o hp h a4;change W2.s30 t_ a2 d1 b3 b4=_ at h;unfold W2.s30 at h;obtain⟨g4,g5,g6,g7,g8,g9,h6,_⟩:=hp;refine B5 h (λd9 h d3=>?_) λd9 h d3=>?_;refine A3 rfl<|A3 rfl<|K1 h λh7 l4 l8 h=>?_;refine F8 h λh8 l6 h=>?_;refine F8 h λb8 l5 h=>?_;obtain⟨e0,h⟩:=D5 h;refine A3 ⟨rfl,K6 (l:=[b8]) (c:=cI) λ_=>rfl,show E0 _ 8 by simpa only[B6,E9,L2,F9]using e0⟩ ?_;refine B1 (List.map cI (b3++[b8])) (O9 (l:=b3) (m:=[b8]) (c:=cI)) ?_;obtain⟨e1,h⟩:=D5 h;refine D2.mk e1 ?_;cases h;exact E7 _ a4 eZ;cases h;cases C0 a4;exact D8 eZ;replace h:=a5;obtain⟨h9,i3,i4,i5,i6,i7,i8,_⟩:=hp;refine A3 rfl<|A3 rfl<|A3 rfl<|A3 rfl<|A3 rfl<|F8 h λe2 l9 h=>?_;obtain⟨b6,k6,h⟩:=A5 h;refine⟨_,(iA e2 b6 (k6)).im,?_⟩;obtain⟨e3,h⟩:=D5 h;refine A3 ⟨rfl,K6 (l:=[b6]) (c:=cL cI) λ_=>rfl,show E0 _ 24 by simpa only[B6,E9,L2,F9]using e3⟩ ?_;refine B1 (List.map (cL cI) (a7++[b6])) (O9 (l:=a7) (m:=[b6]) (c:=cL cI))<|A3 rfl<|A3 rfl<|A3 rfl<|A3 rfl<|A3 rfl<|A3 rfl<|A3 ⟨rfl,trivial⟩ ?_;obtain⟨e4,h⟩:=D5 h;refine A3 ⟨rfl,K6 (l:=[b5]) (c:=cL cI) λ_=>rfl,show E0 _ 24 by simpa only[B6,E9,L2,F9]using e4⟩ ?_;refine B1 (List.map (cL cI) (a8++[b5])) (O9 (l:=a8) (m:=[b5]) (c:=cL cI))<|A3 rfl<|A3 rfl<|A3 rfl<|A3 rfl<|A3 rfl<|F8 h λe5 l7 h=>?_;obtain⟨b7,a9,h⟩:=A5 h;refine⟨_,(iA e5 b7 (a9)).im,?_⟩;obtain⟨e6,h⟩:=D5 h;refine A3 ⟨rfl,K6 (l:=[b7]) (c:=cL cI) λ_=>rfl,show E0 _ 24 by simpa only[B6,E9,L2,F9]using e6⟩ ?_;refine B1 (List.map (cL cI) (a6++[b7])) (O9 (l:=a6) (m:=[b7]) (c:=cL cI))<|A3 rfl<|A3 rfl ?_;cases h;exact D8 eZ;replace h:W2.k31 b2 c8 c9 d0=some _:=f6;unfold W2.k31 at h;obtain⟨i9,j0,j1,j2,j3,j4,_⟩:=hp;refine D2.mk (zzR_ (by omega)) ?_;cases h;exact E7 _ a3 eZ;cases h;cases C0 a3;exact D8 (eA (K9 [121,121,122,123,123,124,124,125,125,126]));replace h:W2.k33 t_ b9 c0 c6=some _:=k9;unfold W2.k33 at h;obtain⟨j5,j6,j7,_⟩:=hp;refine A3 rfl<|A3 rfl ?_;cases h;refine A3 ⟨rfl,trivial⟩ ?_;exact A3 ⟨rfl,rfl,rfl,trivial⟩ ⟨rfl,rfl⟩
def JP(l_:E1)(o_:A7)(r:I6×Int)(h:lV l_ o_=some r):Sp Tryz.prog 22 [.im (.agg (W0 l_)),.im (.agg (N4 o_))] (.tup [.agg (cO r.1),nI r.2]):=by
 refine D1 [700002,700003] λhk=>?_;have z1:lZ l_.Short:=A8 (B7 hk.1 1 rfl);have z2:lZ l_.X:=A8 (B7 hk.1 2 rfl);have z3:lZ o_.T:=A8 (B7 hk.2.1 1 rfl);unfold lV at h;obtain⟨a7,a3,h⟩:=A5 h;refine⟨_,BN l_ o_ a7 a3,?_⟩;refine B5 h (λa8 h a2=>?_) λa8 h a2=>?_;refine A3 rfl ?_;cases h;refine A3 ⟨rfl,trivial⟩ ?_;exact⟨rfl,rfl⟩;obtain⟨a6,a4,h⟩:=A5 h;refine⟨_,xR l_ a6 a4,?_⟩;obtain⟨b2,a5,h⟩:=A5 h;refine⟨_,zrd a6 o_ b2 a5,?_⟩;refine A3 rfl ?_;cases h;refine A3 ⟨rfl,trivial⟩ ?_;exact⟨rfl,rfl⟩
def GT(r:Bool)(h:sV=some r):Sp Tryz.prog 6 [] (.im (nB r)):=by
 refine D1 [] λhk=>?_;unfold sV at h;obtain⟨d3,a3,h⟩:=A5 h;refine⟨_,AU 2 d3 a3,?_⟩;refine A3 rfl<|A3 rfl ?_;obtain⟨d4,f4,h⟩:=A5 h;refine⟨_,(sp_L23_Gate  d4 (f4)),?_⟩;obtain⟨a8,e9,h⟩:=A5 h;refine⟨_,GU d3.1 d4 a8 e9,?_⟩;refine A3 rfl ?_;obtain⟨c0,e7,h⟩:=A5 h;refine⟨_,AU 1 c0 e7,?_⟩;refine A3 rfl<|A3 rfl<|A3 rfl<|A3 rfl ?_;obtain⟨a6,e8,h⟩:=A5 h;refine⟨_,IQ c0.1 (⟨1,[(⟨[0,0,0],[0,0,1]⟩:B0)]⟩:A7) (⟨[],0,[0,0]⟩:N5) a6 e8,?_⟩;refine A3 rfl<|A3 rfl<|A3 rfl ?_;obtain⟨a7,a9,h⟩:=A5 h;refine⟨_,JP c0.1 (⟨1,[(⟨[0,0,0],[0,0,1]⟩:B0)]⟩:A7) a7 a9,?_⟩;refine A3 rfl ?_;obtain⟨d5,h,e6⟩:=A5 h;refine I4 (mkSt [(3,.own 110 1 0),(10,.own 111 1 0),(13,.own 112 1 0),(81,J1 d5)] [(110,.box 45 3),(111,.box 45 3),(112,.box 28 5)] [(110,0,.im (nI a8.1.I)),(110,1,.im (nL (cL cI) a8.1.Short)),(110,2,.im (nL (cL cI) a8.1.X)),(111,0,.im (nI a6.1.I)),(111,1,.im (nL (cL cI) a6.1.Short)),(111,2,.im (nL (cL cI) a6.1.X)),(112,0,.im (nI a7.1.M.I)),(112,1,.im (nI a7.1.M.S)),(112,2,.im (nL (cL cI) a7.1.M.N)),(112,3,.im (nL (cL cI) a7.1.M.O)),(112,4,.im (nL (cL cI) a7.1.Access))]) ((Holds.cel 110 1 rfl (by decide) rfl).and ((Holds.cel 110 2 rfl (by decide) rfl).and ((Holds.cel 111 1 rfl (by decide) rfl).and ((Holds.cel 111 2 rfl (by decide) rfl).and ((Holds.cel 112 2 rfl (by decide) rfl).and ((Holds.cel 112 3 rfl (by decide) rfl).and ((Holds.cel 112 4 rfl (by decide) rfl).and hT))))))) ?_ λhp=>?_;refine Y8 h (λb6 h c6=>?_) λb6 h c6=>?_;refine B3 (J2 b6)<|C4 b6<|Y8 h (λb7 h c7=>?_) λb7 h c7=>?_;refine B3 (J2 b7)<|C4 b7<|Y8 h (λb8 h c8=>?_) λb8 h c8=>?_;refine B3 (J2 b8)<|C4 b8<|Y8 h (λb9 h c9=>?_) λb9 h c9=>?_;refine B3 (J2 b9)<|C4 b9<|Y8 h (λd0 h d1=>?_) λd0 h d1=>?_;refine C4 d0<|iM h (λb2 h=>?_) λb2 h=>?_;refine B3 (J2 b2)<|B1 a8.2.1.length B9<|B3 (J2 b2)<|C4 b2<|Y8 h (λb3 h d2=>?_) λb3 h d2=>?_;refine B3 (J2 b3)<|B1 a6.2.1.length B9<|B3 (J2 b3)<|C4 b3 ?_;cases h;exact D8 (eA (K9 [110,3,111,10,112,13]))
 iterate 2 (refine C4 (T5 b3) ?_)
 refine B3 b3 ?_;cases h;exact D8 (eA (K9 [110,3,111,10,112,13]))
 iterate 2 (refine C4 (T5 b2) ?_)
 refine B3 b2 ?_
 iterate 3 (refine C4 rfl ?_)
 refine B3 rfl ?_;cases h;exact D8 (eA (K9 [110,3,111,10,112,13]));refine B3 d0 ?_
 iterate 3 (refine C4 rfl ?_)
 refine B3 rfl ?_
 iterate 3 (refine C4 rfl ?_)
 refine B3 rfl ?_;cases h;exact D8 (eA (K9 [110,3,111,10,112,13]));refine C4 (T5 b9)<|B3 b9<|C4 rfl<|B3 rfl ?_
 iterate 3 (refine C4 rfl ?_)
 refine B3 rfl ?_
 iterate 3 (refine C4 rfl ?_)
 refine B3 rfl ?_;cases h;exact D8 (eA (K9 [110,3,111,10,112,13]));refine C4 (T5 b8)<|B3 b8 ?_
 iterate 2 (refine C4 rfl ?_)
 refine B3 rfl<|C4 rfl<|B3 rfl ?_
 iterate 3 (refine C4 rfl ?_)
 refine B3 rfl ?_
 iterate 3 (refine C4 rfl ?_)
 refine B3 rfl ?_;cases h;exact D8 (eA (K9 [110,3,111,10,112,13]));refine C4 (T5 b7)<|B3 b7 ?_
 iterate 2 (refine C4 rfl ?_)
 refine B3 rfl ?_
 iterate 2 (refine C4 rfl ?_)
 refine B3 rfl<|C4 rfl<|B3 rfl ?_
 iterate 3 (refine C4 rfl ?_)
 refine B3 rfl ?_
 iterate 3 (refine C4 rfl ?_)
 refine B3 rfl ?_;cases h;exact D8 (eA (K9 [110,3,111,10,112,13]));refine C4 (T5 b6)<|B3 b6 ?_
 iterate 2 (refine C4 rfl ?_)
 refine B3 rfl ?_
 iterate 2 (refine C4 rfl ?_)
 refine B3 rfl ?_
 iterate 2 (refine C4 rfl ?_)
 refine B3 rfl<|C4 rfl<|B3 rfl ?_
 iterate 3 (refine C4 rfl ?_)
 refine B3 rfl ?_
 iterate 3 (refine C4 rfl ?_)
 refine B3 rfl ?_;cases h;exact D8 (eA (K9 [110,3,111,10,112,13]));replace h:=e6;obtain⟨e1,e2,f6,f7,e3,e4,e5,_⟩:=hp;refine H4 h (λd6 h=>?_) λd6 h=>?_;cases h;exact⟨rfl,rfl⟩;obtain⟨d7,h,a4⟩:=A5 h;refine I4 (mkSt [(0,J1 d7)] [] []) hT ?_ λhp=>?_;refine A3 rfl<|A3 rfl ?_;obtain⟨d8,f3,h⟩:=A5 h;refine⟨_,(CJ a8.1.Short [[],[0]] d8 f3),?_⟩;refine iN h (λb4 h=>?_) λb4 h=>?_;refine A3 rfl<|B3 (H9 b4)<|A3 rfl ?_
 iterate 4 (refine B3 (H9 b4) ?_)
 obtain⟨d9,f5,h⟩:=A5 h;refine⟨_,(CJ a6.1.Short [[],[0]] d9 f5),?_⟩;refine B3 b4<|iN h (λb5 h=>?_) λb5 h=>?_;refine A3 rfl<|B3 (H9 b5)<|A3 rfl ?_
 iterate 3 (refine B3 (H9 b5) ?_)
 obtain⟨e0,a5,h⟩:=A5 h;refine⟨_,(CJ a6.1.X [[0]] e0 a5),?_⟩;refine B3 b5<|iN h (λa2 h=>?_) λa2 h=>?_;refine A3 rfl<|B3 (H9 a2)<|A3 rfl<|B3 (H9 a2)<|A3 rfl<|B3 (H9 a2)<|B1 a7.1.M.N.length B9<|B3 (H9 a2)<|B3 a2 ?_;cases h;exact D8 eZ
 iterate 4 (refine C4 (V2 a2) ?_)
 refine C4 a2 ?_;cases h;exact D8 eZ
 iterate 4 (refine C4 (V2 b5) ?_)
 refine C4 b5 ?_
 iterate 6 (refine C4 rfl ?_)
 cases h;exact D8 eZ
 iterate 5 (refine C4 (V2 b4) ?_)
 refine C4 b4 ?_
 iterate 12 (refine C4 rfl ?_)
 cases h;exact D8 eZ;replace h:=a4;cases h;exact⟨rfl,rfl⟩
def zom(m_:kV)(s_ a_:Int)(r:Int×Int)(h:yB m_ s_ a_=some r):Sp Tryz.prog 210 [.im (.agg (zw6 m_)),.im (nI s_),.im (nI a_)] (.tup [nI r.1,nI r.2]):=by
 refine D1 [700003] λhk=>?_;have z1:lZ m_.Mealy.N:=A8 (B7 hk.1 2 rfl);have z2:lZ m_.Mealy.O:=A8 (B7 hk.1 3 rfl);unfold yB at h;refine K1 h λa2 a9 b2 h=>?_;refine K1 h λa6 a3 b4 h=>?_;refine K1 h λa7 a4 b3 h=>?_;refine K1 h λa8 a5 b5 h=>?_;cases h;exact⟨rfl,rfl⟩
def zrj(r_:eJ)(w_:A2)(r:A2×eJ)(h:gF [.im (nI r_.machine.Mealy.I),.im (nI r_.machine.Mealy.S),.im (nL (cL cI) r_.machine.Mealy.N),.im (nL (cL cI) r_.machine.Mealy.O),.im (nI r_.at_)]->Ok (nL cI w_)->cQ r_ w_=some r):Sp Tryz.prog 168 [.box 226 [.im (nI r_.machine.Mealy.I),.im (nI r_.machine.Mealy.S),.im (nL (cL cI) r_.machine.Mealy.N),.im (nL (cL cI) r_.machine.Mealy.O),.im (nI r_.at_)],.im (nL cI w_)] (.mk false [.im (nL cI r.1)] [.box 226 [.im (nI r.2.machine.Mealy.I),.im (nI r.2.machine.Mealy.S),.im (nL (cL cI) r.2.machine.Mealy.N),.im (nL (cL cI) r.2.machine.Mealy.O),.im (nI r.2.at_)]]):=by
 refine D1 [] λhk=>?_;replace h:=h hk.1 hk.2.1;have z1:lZ r_.machine.Mealy.N:=A8 hk.1.2.2.1;have z2:lZ r_.machine.Mealy.O:=A8 hk.1.2.2.2.1;have z3:lZ w_:=A8 hk.2.1;unfold cQ at h;refine B1 w_.length B9 ?_;obtain⟨⟨b3,b4⟩,h,a4⟩:=A5 h;refine I4 (mkSt [(0,.own 0 0 0),(5,.osl 65 1)] [(0,.box 226 5),(65,.row 3 1 (List.map cI b4))] [(0,0,.im (nI r_.machine.Mealy.I)),(0,1,.im (nI r_.machine.Mealy.S)),(0,2,.im (nL (cL cI) r_.machine.Mealy.N)),(0,3,.im (nL (cL cI) r_.machine.Mealy.O)),(0,4,.im (nI b3))]) ((Holds.cel 0 2 rfl (by decide) rfl).and ((Holds.cel 0 3 rfl (by decide) rfl).and ((Holds.kdl 65 rfl).and hT))) ?_ λhp=>?_;refine H1 h (λ(a6,a2,a7)=>mkSt [(0,.own 0 0 0),(5,.osl 65 1),(10,C3 cI w_),(11,C1 (w_.length:Int)),(12,B8 a7)] [(0,.box 226 5),(65,.row 3 1 (List.map cI a2))] [(0,0,.im (nI r_.machine.Mealy.I)),(0,1,.im (nI r_.machine.Mealy.S)),(0,2,.im (nL (cL cI) r_.machine.Mealy.N)),(0,3,.im (nL (cL cI) r_.machine.Mealy.O)),(0,4,.im (nI a6))]) (λ(a6,a2,a7)=>lZ w_/\lZ r_.machine.Mealy.N/\lZ r_.machine.Mealy.O/\lZ a2/\True) (eA [(0,some 0),(65,none)]) (λ⟨a6,a2,a7⟩=>((C5 10 rfl).and ((Holds.cel 0 2 rfl (by decide) rfl).and ((Holds.cel 0 3 rfl (by decide) rfl).and ((Holds.kdl 65 rfl).and hT))))) ?_;rintro k ⟨a6,a2,a7⟩ o hp h a3;change cQ.s2 r_ w_ a6 a2 a7=_ at h;unfold cQ.s2 at h;obtain⟨b8,b9,c0,c6,_⟩:=hp;refine B5 h (λb5 h b2=>?_) λb5 h b2=>?_;refine F8 h λb6 a9 h=>?_;refine A3 rfl<|A3 rfl<|A3 rfl<|A3 rfl<|A3 rfl<|A3 rfl ?_;obtain⟨a8,a5,h⟩:=A5 h;refine⟨_,zom r_.machine a6 b6 a8 a5,?_⟩;refine A3 rfl<|A3 rfl<|A3 rfl ?_;obtain⟨b7,h⟩:=D5 h;refine A3 ⟨rfl,K6 (l:=[a8.2]) (c:=cI) λ_=>rfl,show E0 _ 8 by simpa only[B6,E9,L2,F9]using b7⟩ ?_;refine B1 (List.map cI (a2++[a8.2])) (O9 (l:=a2) (m:=[a8.2]) (c:=cI))<|D2.mk (zzR_ (by omega)) ?_;cases h;exact E7 _ a3 eZ;cases h;cases C0 a3;exact D8 eZ;replace h:cQ.k3 r_ b3 b4=some _:=a4;unfold cQ.k3 at h;obtain⟨c7,c8,c9,_⟩:=hp;cases h;exact A3 ⟨rfl,rfl,trivial⟩ ⟨rfl,rfl⟩
def tS(m_:A9)(r:Int)(h:aI m_=some r):Sp Tryz.prog 24 [.im (.agg (G7 m_))] (.im (nI r)):=by
 refine D1 [700001] λhk=>?_;have z1:lZ m_.N:=A8 (B7 hk.1 2 rfl);have z2:lZ m_.O:=A8 (B7 hk.1 3 rfl);unfold aI at h;refine B1 m_.N.length B9<|U5 h (λc7=>mkSt [(1,C7 (G7 m_)),(3,C1 (m_.N.length:Int)),(11,J1 c7)] [] []) (λ_=>hT) λc7 h hp=>?_;refine H4 h (λc9 h=>?_) λc9 h=>?_;cases h;exact⟨rfl,rfl⟩;refine B5 h (λd0 h b4=>?_) λd0 h b4=>?_;cases h;exact⟨rfl,rfl⟩;refine B5 h (λd1 h b5=>?_) λd1 h b5=>?_;cases h;exact⟨rfl,rfl⟩;refine U5 h (λc8=>mkSt [(1,C7 (G7 m_)),(3,C1 (m_.N.length:Int)),(26,J1 c8)] [] []) (λ_=>hT) λc8 h hp=>?_;refine H4 h (λd2 h=>?_) λd2 h=>?_;cases h;exact⟨rfl,rfl⟩;refine B1 m_.O.length B9<|B5 h (λd3 h b6=>?_) λd3 h b6=>?_;cases h;exact⟨rfl,rfl⟩;obtain⟨oc,h,a9⟩:=A5 h;refine Q6 oc (mkSt [] [] []) hT ?_ ?_;refine H1 h (λa2=>mkSt [(1,C7 (G7 m_)),(3,C1 (m_.N.length:Int)),(42,C1 (m_.N.length:Int)),(43,B8 a2)] [] []) (λa2=>True) eZ (λ_=>hT) ?_;rintro k a2 o hp h a3;unfold aI.s14 at h;refine B5 h (λb7 h a7=>?_) λb7 h a7=>?_;refine U5 h (λa8=>mkSt [(1,C7 (G7 m_)),(3,C1 (m_.N.length:Int)),(4,B8 a2),(42,C1 (m_.N.length:Int)),(43,B8 a2),(65,J1 a8)] [] []) (λ_=>hT) λa8 h hp=>?_;refine H4 h (λb8 h=>?_) λb8 h=>?_;cases h;cases C0 a3;replace h:some _=some _:=a9;cases h;exact⟨rfl,rfl⟩;obtain⟨oc,h,a5⟩:=A5 h;refine Q6 oc (mkSt [(1,C7 (G7 m_)),(3,C1 (m_.N.length:Int)),(42,C1 (m_.N.length:Int)),(43,B8 a2)] [] []) hT ?_ ?_;refine H1 h (λa6=>mkSt [(1,C7 (G7 m_)),(3,C1 (m_.N.length:Int)),(4,B8 a2),(42,C1 (m_.N.length:Int)),(43,B8 a2),(67,C1 m_.I),(68,B8 a6)] [] []) (λa6=>True) eZ (λ_=>hT) ?_;rintro k a6 o hp h a4;unfold aI.s13 at h;refine B5 h (λb9 h b2=>?_) λb9 h b2=>?_;refine F8 h λd4 e0 h=>?_;refine F8 h λd5 d8 h=>?_;refine F8 h λd6 d9 h=>?_;refine F8 h λd7 e1 h=>?_;refine U5 h (λb3=>mkSt [(1,C7 (G7 m_)),(3,C1 (m_.N.length:Int)),(4,B8 a2),(42,C1 (m_.N.length:Int)),(43,B8 a2),(67,C1 m_.I),(68,B8 a6),(101,J1 b3)] [] []) (λ_=>hT) λb3 h hp=>?_;refine H4 h (λc0 h=>?_) λc0 h=>?_;cases h;cases C0 a4;replace h:some _=some _:=a5;cases h;cases C0 a3;replace h:some _=some _:=a9;cases h;exact⟨rfl,rfl⟩;obtain⟨c6,h⟩:=D5 h;refine D2.mk c6 ?_;cases h;exact E7 _ a4 eZ;cases h;cases C0 a4;exact J5.mk' _ rfl eZ;rintro⟨⟩ rfl hp;replace h:=K5 a5;refine D2.mk (zzR_ (by omega)) ?_;cases h;exact E7 _ a3 eZ;cases h;cases C0 a3;exact J5.mk' _ rfl eZ;rintro⟨⟩ rfl hp;replace h:=K5 a9;cases h;exact⟨rfl,rfl⟩
def zy2(m_:A9)(s_ r:Int)(h:xI m_ s_=some r):Sp Tryz.prog 167 [.im (.agg (G7 m_)),.im (nI s_)] (.im (nI r)):=by
 refine D1 [700002] λhk=>?_;have z1:lZ m_.N:=A8 (B7 hk.1 2 rfl);have z2:lZ m_.O:=A8 (B7 hk.1 3 rfl);unfold xI at h;obtain⟨a7,a3,h⟩:=A5 h;refine⟨_,tS m_ a7 a3,?_⟩;refine B5 h (λa8 h a2=>?_) λa8 h a2=>?_;cases h;exact⟨rfl,rfl⟩;refine U5 h (λa6=>mkSt [(19,J1 a6)] [] []) (λ_=>hT) λa6 h hp=>?_;refine H4 h (λb2 h=>?_) λb2 h=>?_;cases h;exact⟨rfl,rfl⟩;cases h;exact⟨rfl,rfl⟩
def IE(m_:A9)(s_:Int)(w_:A2)(r:A2×Int×Int)(h:qD m_ s_ w_=some r):Sp Tryz.prog 114 [.im (.agg (G7 m_)),.im (nI s_),.im (nL cI w_)] (.tup [nL cI r.1,nI r.2.1,nI r.2.2]):=by
 refine D1 [34000,700003] λhk=>?_;have z1:lZ m_.N:=A8 (B7 hk.1 2 rfl);have z2:lZ m_.O:=A8 (B7 hk.1 3 rfl);have z3:lZ w_:=A8 hk.2.2.1;unfold qD at h;obtain⟨a7,a4,h⟩:=A5 h;refine⟨_,zy2 m_ s_ a7 a4,?_⟩;refine B5 h (λa8 h a2=>?_) λa8 h a2=>?_;cases h;exact⟨rfl,rfl⟩;obtain⟨b2,a5,h⟩:=A5 h;refine⟨_,nP w_ m_.I b2 a5,?_⟩;refine B5 h (λb3 h a6=>?_) λb3 h a6=>?_;cases h;exact⟨rfl,rfl⟩;refine A3 ⟨rfl,trivial⟩ ?_;obtain⟨b4,a3,h⟩:=A5 h;refine⟨_,zrj (⟨(⟨m_⟩:kV),s_⟩:eJ) w_ b4 (λ_ _=>a3),?_⟩;refine A3 rfl<|A3 rfl<|A3 rfl ?_;cases h;exact⟨rfl,rfl⟩
def sp_mealy_Run(m_:A9)(w_:A2)(r:A2×Int)(h:sD m_ w_=some r):Sp Tryz.prog 61 [.im (.agg (G7 m_)),.im (nL cI w_)] (.tup [nL cI r.1,nI r.2]):=by
 refine D1 [700002] λhk=>?_;have z1:lZ m_.N:=A8 (B7 hk.1 2 rfl);have z2:lZ m_.O:=A8 (B7 hk.1 3 rfl);have z3:lZ w_:=A8 hk.2.1;unfold sD at h;obtain⟨a2,a3,h⟩:=A5 h;refine⟨_,IE m_ m_.S w_ a2 a3,?_⟩;cases h;exact⟨rfl,rfl⟩
def JF(t_ r:B0)(h:qR t_=some r):Sp Tryz.prog 211 [.im (.agg (C9 t_))] (.im (.agg (C9 r))):=by
 refine D1 [700001] λhk=>?_;have z1:lZ t_.In:=A8 (B7 hk.1 0 rfl);have z2:lZ t_.O:=A8 (B7 hk.1 1 rfl);unfold qR at h;obtain⟨a2,a4,h⟩:=A5 h;refine⟨_,(iA t_.In a2 (a4)).im,?_⟩;obtain⟨a6,a3,h⟩:=A5 h;refine⟨_,(iA t_.O a6 (a3)).im,?_⟩;refine A3 rfl ?_;cases h;refine A3 ⟨rfl,trivial⟩ ?_;exact⟨rfl,rfl⟩
def zvc(l_ r:List B0)(h:gZ l_=some r):Sp Tryz.prog 169 [.im (nL C9 l_)] (.row 53 2 (List.map C9 r)):=by
 refine D1 [] λhk=>?_;have z1:lZ l_:=A8 hk.1;unfold gZ at h;refine B1 l_.length B9<|D2.mk (zzR_ (by omega)) ?_;obtain⟨b2,h⟩:=D5 h;refine A3 b2<|B1 (List.map C9 []) rfl<|B1 l_.length B9 ?_;obtain⟨b3,h,a5⟩:=A5 h;refine I4 (mkSt [(3,.osl 64 1)] [(64,.row 53 2 (List.map C9 b3))] []) ((Holds.kdl 64 rfl).and hT) ?_ λhp=>?_;refine H1 h (λ(a2,a6)=>mkSt [(3,.osl 64 1),(10,C3 C9 l_),(11,C1 (l_.length:Int)),(12,B8 a6)] [(64,.row 53 2 (List.map C9 a2))] []) (λ(a2,a6)=>lZ l_/\lZ a2/\True) (eA (K9 [64,9])) (λ⟨a2,a6⟩=>((C5 10 rfl).and ((Holds.kdl 64 rfl).and hT))) ?_;rintro k ⟨a2,a6⟩ o hp h a3;change gZ.s2 l_ a2 a6=_ at h;unfold gZ.s2 at h;obtain⟨b7,b8,_⟩:=hp;refine B5 h (λb4 h a8=>?_) λb4 h a8=>?_;refine F8 h λb5 a9 h=>?_;refine A3 rfl<|A3 rfl ?_;obtain⟨a7,a4,h⟩:=A5 h;refine⟨_,JF b5 a7 a4,?_⟩;obtain⟨b6,h⟩:=D5 h;refine A3 ⟨rfl,K6 (l:=[a7]) (c:=C9) λ_=>rfl,show E0 _ 48 by simpa only[B6,E9,L2,F9]using b6⟩ ?_;refine B1 (List.map C9 (a2++[a7])) (O9 (l:=a2) (m:=[a7]) (c:=C9))<|D2.mk (zzR_ (by omega)) ?_;cases h;exact E7 _ a3 eZ;cases h;cases C0 a3;exact D8 eZ;replace h:=a5;obtain⟨b9,_⟩:=hp;cases h;exact A3 ⟨rfl,trivial⟩ ⟨rfl,rfl⟩
def zek(x_:List B0)(target_:B0)(cmp_:B0->B0->Option Int)(f2_:FuncId)(hf2:∀x0 x1 r,cmp_ x0 x1=some r->Sp Tryz.prog f2_ [.im (.agg (C9 x0)),.im (.agg (C9 x1))] (.im (nI r)))(r:Int×Bool)(h:iF x_ target_ cmp_=some r):Sp Tryz.prog 216 [.im (nL C9 x_),.im (.agg (C9 target_)),.im (.fn f2_ [])] (.tup [nI r.1,nB r.2]):=by
 refine D1 [700004] λhk=>?_;have z1:lZ x_:=A8 hk.1;have z2:lZ target_.In:=A8 (B7 hk.2.1 0 rfl);have z3:lZ target_.O:=A8 (B7 hk.2.1 1 rfl);unfold iF at h;refine B1 x_.length B9 ?_;obtain⟨d1,h,d4⟩:=A5 h;refine I4 (mkSt [(0,C3 C9 x_),(2,.im (.fn f2_ [])),(4,C7 (C9 target_)),(8,C1 (x_.length:Int)),(9,C1 d1)] [] []) ((C5 0 rfl).and hT) ?_ λhp=>?_;refine H1 h (λ(a6,a7)=>mkSt [(0,C3 C9 x_),(2,.im (.fn f2_ [])),(4,C7 (C9 target_)),(8,C1 (x_.length:Int)),(9,C1 a6),(10,C1 a7)] [] []) (λ(a6,a7)=>lZ x_/\True) eZ (λ⟨a6,a7⟩=>((C5 0 rfl).and hT)) ?_;rintro k ⟨a6,a7⟩ o hp h a3;change iF.s2 x_ target_ cmp_ a6 a7=_ at h;unfold iF.s2 at h;obtain⟨d2,_⟩:=hp;refine B5 h (λb4 h a8=>?_) λb4 h a8=>?_;obtain⟨b5,h⟩:=D5 h;refine D2.mk b5 ?_;obtain⟨b6,h⟩:=D5 h;refine A3 b6 ?_;obtain⟨b7,h⟩:=D5 h;refine A3 ⟨⟨by show(0:Int)<=(a6+a7) / 2^1;omega,by show(a6+a7) / 2^1<=(18446744073709551615:Int);omega⟩,b7.1,by decide,by decide⟩ ?_;obtain⟨b8,h⟩:=D5 h;refine A3 b8<|K1 h λb9 d5 d7 h=>?_;obtain⟨c0,a4,h⟩:=A5 h;refine⟨_,hf2 b9 target_ c0 a4,?_⟩;refine B5 h (λc6 h b2=>?_) λc6 h b2=>?_;obtain⟨c7,h⟩:=D5 h;refine D2.mk c7 ?_;cases h;exact E7 _ a3 eZ;cases h;exact E7 _ a3 eZ;cases h;cases C0 a3;exact D8 eZ;replace h:=d4;obtain⟨d3,_⟩:=hp;obtain⟨c8,h,a5⟩:=A5 h;refine I4 (mkSt [(6,C1 d1),(7,J1 c8)] [] []) hT ?_ λhp=>?_;refine aS h (λa2 h b3=>?_) λa2 h b3=>?_
 iterate 3 (refine B3 (H9 a2) ?_)
 refine K1 h λc9 d6 d8 h=>?_
 iterate 3 (refine B3 (H9 a2) ?_)
 obtain⟨d0,a9,h⟩:=A5 h;refine⟨_,hf2 c9 target_ d0 a9,?_⟩;refine B3 (H9 a2)<|B3 a2 ?_;cases h;exact D8 eZ
 iterate 7 (refine C4 (V2 a2) ?_)
 refine C4 a2 ?_;cases h;exact D8 eZ;replace h:=a5;cases h;exact⟨rfl,rfl⟩
def ztf(a_ b_:B0)(r:Int)(h:uA a_ b_=some r):Sp Tryz.prog 213 [.im (.agg (C9 a_)),.im (.agg (C9 b_))] (.im (nI r)):=by
 refine D1 [700002,700003] λhk=>?_;have z1:lZ a_.In:=A8 (B7 hk.1 0 rfl);have z2:lZ a_.O:=A8 (B7 hk.1 1 rfl);have z3:lZ b_.In:=A8 (B7 hk.2.1 0 rfl);have z4:lZ b_.O:=A8 (B7 hk.2.1 1 rfl);unfold uA at h;obtain⟨a2,a3,h⟩:=A5 h;refine⟨_,CI a_.In b_.In a2 a3,?_⟩;refine B1 a_.O.length B9<|B1 b_.O.length B9 ?_;obtain⟨b2,h⟩:=D5 h;refine A3 (show(0:Int)<=(0:Int)/\(0:Int)<=(min (min a2 (a_.O.length:Int)) (b_.O.length:Int))/\(min (min a2 (a_.O.length:Int)) (b_.O.length:Int))<=(↑(List.length (List.map cI a_.O)):Int)/\(∀e∈List.map cI a_.O,List.length e=1) from⟨by omega,by first|omega|(simp only[B6];omega),by first|omega|(simp only[B6];omega),K6 λ_=>rfl⟩) ?_
 refine B1 (List.map cI (List.take (Int.toNat (min (min a2 (a_.O.length:Int)) (b_.O.length:Int))) a_.O)) lP ?_;obtain⟨b3,h⟩:=D5 h;refine A3 (show(0:Int)<=(0:Int)/\(0:Int)<=(min (min a2 (a_.O.length:Int)) (b_.O.length:Int))/\(min (min a2 (a_.O.length:Int)) (b_.O.length:Int))<=(↑(List.length (List.map cI b_.O)):Int)/\(∀e∈List.map cI b_.O,List.length e=1) from⟨by omega,by first|omega|(simp only[B6];omega),by first|omega|(simp only[B6];omega),K6 λ_=>rfl⟩) ?_
 refine B1 (List.map cI (List.take (Int.toNat (min (min a2 (a_.O.length:Int)) (b_.O.length:Int))) b_.O)) lP ?_;obtain⟨a7,a4,h⟩:=A5 h;refine⟨_,(CI (List.take (Int.toNat (min (min a2 (a_.O.length:Int)) (b_.O.length:Int))) a_.O) (List.take (Int.toNat (min (min a2 (a_.O.length:Int)) (b_.O.length:Int))) b_.O) a7 a4),?_⟩;refine B5 h (λa8 h a6=>?_) λa8 h a6=>?_;cases h;exact⟨rfl,rfl⟩;cases h;exact⟨rfl,rfl⟩
def zu8(u_ p1_:B0)(r:Bool)(h:tT u_ p1_=some r):Sp Tryz.prog 215 [.im (.agg (C9 u_)),.im (.ref (C9 p1_))] (.im (nB r)):=by
 refine D1 [700002] λhk=>?_;have z1:lZ u_.In:=A8 (B7 hk.1 0 rfl);have z2:lZ u_.O:=A8 (B7 hk.1 1 rfl);have z3:lZ p1_.In:=A8 (Ok.ref_at hk.2.1 0 rfl);have z4:lZ p1_.O:=A8 (Ok.ref_at hk.2.1 1 rfl);unfold tT at h;obtain⟨a2,a3,h⟩:=A5 h;refine⟨_,uJ p1_.In u_.In a2 a3,?_⟩;cases h;exact⟨rfl,rfl⟩
def zgb(s_:List B0)(del_:B0->Option Bool)(f1_:FuncId)(k1_0:IV)(hk1_0:nz k1_0=k1_0)(hf1:∀x0 r,del_ x0=some r->Sp Tryz.prog f1_ [.im (.agg (C9 x0)),.im k1_0] (.im (nB r)))(r:List B0)(h:OkL (List.map C9 s_)->Ok (.fn f1_ [k1_0])->cF s_ del_=some r):Sp Tryz.prog 214 [.row 53 2 (List.map C9 s_),.im (.fn f1_ [k1_0])] (.row 53 2 (List.map C9 r)):=by
 refine D1 [500010] λhk=>?_;replace h:=h hk.1 hk.2.1;have z1:lZ s_:=iW hk.1;unfold cF at h;refine A3 ⟨rfl,trivial⟩ ?_;obtain⟨d0,d9,h⟩:=A5 h;refine⟨_,JY s_ del_ f1_ k1_0 hk1_0 hf1 d0 d9,?_⟩;refine A3 flat_one<|B5 h (λd1 h b7=>?_) λd1 h b7=>?_;cases h;exact A3 ⟨rfl,trivial⟩ ⟨rfl,rfl⟩;obtain⟨d2,h⟩:=D5 h;refine D2.mk d2 ?_;obtain⟨⟨b2,a6⟩,h,e0⟩:=A5 h;refine I4 (mkSt [(0,.osl 64 1),(5,C1 a6)] [(64,.row 53 2 (List.map C9 b2))] []) ((Holds.kdl 64 rfl).and hT) ?_ λhp=>?_;refine H1 h (λ(a2,b3,b4)=>mkSt [(0,.osl 64 1),(1,.im (.fn f1_ [k1_0])),(5,C1 b3),(6,C1 b4)] [(64,.row 53 2 (List.map C9 a2))] []) (λ(a2,b3,b4)=>lZ a2/\True) (eA (K9 [64,0])) (λ⟨a2,b3,b4⟩=>((Holds.kdl 64 rfl).and hT)) ?_;rintro k ⟨a2,b3,b4⟩ o hp h a3;change cF.s2 del_ a2 b3 b4=_ at h;unfold cF.s2 at h;obtain⟨d3,_⟩:=hp;refine A3 rfl<|B1 a2.length B9<|B5 h (λb8 h b5=>?_) λb8 h b5=>?_;obtain⟨b6,d6,a5,h⟩:=cN h;refine A3 ⟨d6,rfl,P6 a5⟩<|⟨_,⟨rfl,P7 a5,of_decide_eq_true rfl,rfl⟩,?_⟩;refine A3 rfl<|A3 rfl ?_;obtain⟨b9,d8,h⟩:=A5 h;refine⟨_,Sp.args (hf1 b6 b9 d8) (by rw[hk1_0];try rfl),?_⟩;refine H4 h (λc0 h=>?_) λc0 h=>?_;refine A3 rfl ?_;obtain⟨d4,a9,a4,h⟩:=cN h;refine A3 ⟨a9,rfl,P6 a4⟩<|A3 ⟨rfl,trivial⟩<|⟨_,P7 a4,?_⟩;refine B1 (List.map C9 (List.set a2 b3.toNat b6)) (oR rfl) ?_;obtain⟨c6,h⟩:=D5 h;refine D2.mk c6 ?_;obtain⟨c7,h⟩:=D5 h;refine D2.mk c7 ?_;cases h;exact E7 _ a3 eZ;obtain⟨c8,h⟩:=D5 h;refine D2.mk c8 ?_;cases h;exact E7 _ a3 eZ;cases h;cases C0 a3;exact D8 eZ;replace h:cF.k3 b2 a6=some _:=e0;unfold cF.k3 at h;obtain⟨d5,_⟩:=hp;obtain⟨a7,h⟩:=D5 h;refine A3 ⟨rfl,a7.1,by have d7:=a7;simp only[B6];omega,by have d7:=a7;simp only[B6];omega⟩ ?_;obtain⟨c9,h⟩:=D5 h;refine A3 ⟨rfl,by have d7:=c9;simp only[B6];omega⟩ ?_;refine B1 (List.map C9 (List.take (Int.toNat a6) b2++List.replicate (List.length b2-(Int.toNat a6)) (⟨[],[]⟩:B0))) (clr_map (z:=(⟨[],[]⟩:B0)) rfl) ?_;obtain⟨a8,h⟩:=D5 h;refine A3 ⟨rfl,a8.1,by have d7:=a8;simp only[B6];omega,by have d7:=a8;simp only[B6];omega⟩ ?_;refine B1 (List.map C9 (List.take (Int.toNat a6) (List.take (Int.toNat a6) b2++List.replicate (List.length b2-(Int.toNat a6)) (⟨[],[]⟩:B0)))) cut_own ?_;cases h;exact A3 ⟨rfl,trivial⟩ ⟨rfl,rfl⟩
def zu9(a_ b_:B0)(r:Int)(h:kU a_ b_=some r):Sp Tryz.prog 217 [.im (.agg (C9 a_)),.im (.agg (C9 b_))] (.im (nI r)):=by
 refine D1 [700002,700003] λhk=>?_;have z1:lZ a_.In:=A8 (B7 hk.1 0 rfl);have z2:lZ a_.O:=A8 (B7 hk.1 1 rfl);have z3:lZ b_.In:=A8 (B7 hk.2.1 0 rfl);have z4:lZ b_.O:=A8 (B7 hk.2.1 1 rfl);unfold kU at h;obtain⟨a2,a3,h⟩:=A5 h;refine⟨_,xX a_.In b_.In a2 a3,?_⟩;cases h;exact⟨rfl,rfl⟩
def zyj(l_:List B0)(t_:B0)(r:List B0×Int)(h:OkL (List.map C9 l_)->Ok (.agg (C9 t_))->gV l_ t_=some r):Sp Tryz.prog 171 [.row 53 2 (List.map C9 l_),.im (.agg (C9 t_))] (.mk true [.ow (.row 53 2 (List.map C9 r.1)),.im (nI r.2)] []):=by
 refine D1 [54,41000,56000,56002,500047,700003] λhk=>?_;replace h:=h hk.1 hk.2.1;have z1:lZ l_:=iW hk.1;have z2:lZ t_.In:=A8 (B7 hk.2.1 0 rfl);have z3:lZ t_.O:=A8 (B7 hk.2.1 1 rfl);unfold gV at h;refine A3 rfl<|B1 l_.length B9 ?_;obtain⟨oc,h,a9⟩:=A5 h;refine W9 oc (Y:=Bool) (λa4=>mkSt [(0,.osl 64 1),(3,C7 (C9 t_)),(6,J1 a4)] [(64,.row 53 2 (List.map C9 l_))] []) (λa4=>lZ l_/\True) (by rintro a4;exact((Holds.kdl 64 rfl).and hT)) ?_ ?_;refine H1 h (λ(a3,a7)=>mkSt [(0,.osl 64 1),(3,C7 (C9 t_)),(6,J1 a3),(11,.osl 64 1),(12,C1 (l_.length:Int)),(13,B8 a7)] [(64,.row 53 2 (List.map C9 l_))] []) (λ(a3,a7)=>lZ l_/\True) (eA (K9 [64,0])) (λ⟨a3,a7⟩=>((Holds.kdl 64 rfl).and hT)) ?_;rintro k ⟨a3,a7⟩ o hp h a5;change gV.s2 l_ t_ a3 a7=_ at h;unfold gV.s2 at h;obtain⟨d1,_⟩:=hp;refine B5 h (λc6 h b4=>?_) λc6 h b4=>?_;obtain⟨b9,d3,h⟩:=aZ h;refine A3 ⟨(by omega),rfl,P6 d3⟩<|⟨_,⟨rfl,P7 d3,of_decide_eq_true rfl,rfl⟩,?_⟩;refine A3 rfl<|A3 rfl ?_;obtain⟨c7,d8,h⟩:=A5 h;refine⟨_,ztf b9 t_ c7 d8,?_⟩;refine B5 h (λc8 h b5=>?_) λc8 h b5=>?_;cases h;cases C0 a5;replace h:some _=some _:=a9;cases h;exact⟨rfl,rfl⟩;refine iM h (λa6 h=>?_) λa6 h=>?_;refine A3 rfl<|B3 (J2 a6)<|A3 rfl ?_
 iterate 3 (refine B3 (J2 a6) ?_)
 obtain⟨c9,d9,h⟩:=A5 h;refine⟨_,uJ b9.In t_.In c9 d9,?_⟩;refine C4 a6<|D2.mk (zzR_ (by omega)) ?_;cases h;exact E7 _ a5 eZ
 iterate 4 (refine C4 (T5 a6) ?_)
 refine B3 a6<|D2.mk (zzR_ (by omega)) ?_;cases h;exact E7 _ a5 eZ;cases h;cases C0 a5;exact J5.mk' _ rfl eZ;rintro a4 rfl hp;replace h:=K5 a9;obtain⟨d2,_⟩:=hp;refine U5 h (λc0=>mkSt [(0,.osl 64 1),(3,C7 (C9 t_)),(36,J1 c0)] [(64,.row 53 2 (List.map C9 l_))] []) (λ_=>((Holds.kdl 64 rfl).and hT)) λc0 h hp=>?_;obtain⟨d0,_⟩:=hp;refine H4 h (λb6 h=>?_) λb6 h=>?_;cases h;exact A3 ⟨rfl,trivial⟩ ⟨rfl,rfl⟩;refine A3 ⟨rfl,trivial⟩ ?_;obtain⟨a2,d4,h⟩:=A5 h;refine⟨_,zgb l_ (λu0=>tT u0 t_) 215 (.ref (C9 t_)) rfl (λu0 r h=>(zu8 u0 t_ r h)) a2 (λ_ _=>d4),?_⟩;refine A3 rfl<|B1 a2.length B9<|B5 h (λb7 h a8=>?_) λb7 h a8=>?_;cases h;exact⟨rfl,rfl⟩;refine A3 ⟨rfl,trivial⟩ ?_;obtain⟨b2,d7,h⟩:=A5 h;refine⟨_,zek a2 t_ (λu0 u1=>kU u0 u1) 217 (λu0 u1 r h=>(zu9 u0 u1 r h)) b2 d7,?_⟩;refine A3 (by simp[flatRs,oK]) ?_;obtain⟨b3,d6,h⟩:=A5 h;refine⟨_,JF t_ b3 d6,?_⟩;refine A3 ⟨rfl,rfl,trivial⟩ ?_;obtain⟨b8,d5,h⟩:=A5 h;refine⟨_,(zqk a2 b2.1 [b3] b8 (d5)),?_⟩;cases h;exact A3 ⟨rfl,trivial⟩ ⟨rfl,rfl⟩
def zri(o_:Int)(r:Bool)(h:uE o_=some r):Sp Tryz.prog 212 [.im (nI o_)] (.im (nB r)):=by
 refine D1 [] λhk=>?_;unfold uE at h;refine U5 h (λa2=>mkSt [(2,J1 a2)] [] []) (λ_=>hT) λa2 h hp=>?_;cases h;exact⟨rfl,rfl⟩
def ztg(t_:B0)(inputs_ r:Int)(h:tW t_ inputs_=some r):Sp Tryz.prog 170 [.im (.agg (C9 t_)),.im (nI inputs_)] (.im (nI r)):=by
 refine D1 [700002] λhk=>?_;have z1:lZ t_.In:=A8 (B7 hk.1 0 rfl);have z2:lZ t_.O:=A8 (B7 hk.1 1 rfl);unfold tW at h;obtain⟨a7,a3,h⟩:=A5 h;refine⟨_,nP t_.In inputs_ a7 a3,?_⟩;refine B5 h (λa8 h a2=>?_) λa8 h a2=>?_;cases h;exact⟨rfl,rfl⟩;refine B1 t_.O.length B9<|B1 t_.In.length B9<|B5 h (λb2 h a6=>?_) λb2 h a6=>?_;cases h;exact⟨rfl,rfl⟩;obtain⟨b3,a4,h⟩:=A5 h;refine⟨_,zjs t_.O (λu0=>uE u0) 212 (λu0 r h=>(zri u0 r h)) b3 a4,?_⟩;refine H4 h (λb4 h=>?_) λb4 h=>?_;cases h;exact⟨rfl,rfl⟩;cases h;exact⟨rfl,rfl⟩
def zyi(o_:A7)(l_:List B0)(r:A7×Int)(h:fK o_ l_=some r):Sp Tryz.prog 115 [.im (.agg (N4 o_)),.im (nL C9 l_)] (.tup [.agg (N4 r.1),nI r.2]):=by
 refine D1 [33000,700002] λhk=>?_;have z1:lZ o_.T:=A8 (B7 hk.1 1 rfl);have z2:lZ l_:=A8 hk.2.1;unfold fK at h;obtain⟨b5,a9,h⟩:=A5 h;refine⟨_,zvc o_.T b5 a9,?_⟩;refine B1 l_.length B9 ?_;obtain⟨oc,h,a4⟩:=A5 h;refine W9 oc (Y:=List B0) (λa6=>mkSt [(2,C7 (N4 o_)),(4,.own 64 1 0),(6,.osl 65 1)] [(64,.box 31 2),(65,.row 53 2 (List.map C9 a6))] [(64,0,.im (nI 0)),(64,1,.im (.val (.slice none 0 0)))]) (λa6=>lZ a6/\True) (by rintro a6;exact((Holds.kdl 65 rfl).and hT)) ?_ ?_;refine H1 h (λ(a2,a7)=>mkSt [(2,C7 (N4 o_)),(4,.own 64 1 0),(6,.osl 65 1),(15,C3 C9 l_),(16,C1 (l_.length:Int)),(17,B8 a7)] [(64,.box 31 2),(65,.row 53 2 (List.map C9 a2))] [(64,0,.im (nI 0)),(64,1,.im (.val (.slice none 0 0)))]) (λ(a2,a7)=>lZ l_/\lZ a2/\True) (eA (K9 [64,4,65,14])) (λ⟨a2,a7⟩=>((C5 15 rfl).and ((Holds.kdl 65 rfl).and hT))) ?_;rintro k ⟨a2,a7⟩ o hp h a3;change fK.s2 o_ l_ a2 a7=_ at h;unfold fK.s2 at h;obtain⟨c7,c8,_⟩:=hp;refine B5 h (λb6 h a8=>?_) λb6 h a8=>?_;refine F8 h λb4 d0 h=>?_;refine A3 rfl<|A3 rfl ?_;obtain⟨b7,a5,h⟩:=A5 h;refine⟨_,ztg b4 o_.I b7 a5,?_⟩;refine B5 h (λb8 h b2=>?_) λb8 h b2=>?_;refine A3 rfl ?_;cases h;cases C0 a3;replace h:some _=some _:=a4;cases h;refine A3 ⟨rfl,trivial⟩ ?_;exact⟨rfl,rfl⟩;refine A3 rfl<|A3 ⟨rfl,trivial⟩ ?_;obtain⟨b9,c9,h⟩:=A5 h;refine⟨_,zyj a2 b4 b9 (λ_ _=>c9),?_⟩;refine B5 h (λc0 h b3=>?_) λc0 h b3=>?_;refine A3 rfl ?_;cases h;cases C0 a3;replace h:some _=some _:=a4;cases h;refine A3 ⟨rfl,trivial⟩ ?_;exact⟨rfl,rfl⟩;refine D2.mk (zzR_ (by omega)) ?_;cases h;exact E7 _ a3 (eA (K9 [64,64,65,3228]));cases h;cases C0 a3;exact J5.mk' _ rfl eZ;rintro a6 rfl hp;replace h:=K5 a4;obtain⟨c6,_⟩:=hp;refine A3 rfl ?_;cases h;refine A3 ⟨rfl,trivial⟩ ?_;exact A3 ⟨rfl,trivial⟩ ⟨rfl,rfl⟩
def zyv(o_:A7)(t_:B0)(r:A7×Int)(h:tG o_ t_=some r):Sp Tryz.prog 62 [.im (.agg (N4 o_)),.im (.agg (C9 t_))] (.tup [.agg (N4 r.1),nI r.2]):=by
 refine D1 [700002,700003] λhk=>?_;have z1:lZ o_.T:=A8 (B7 hk.1 1 rfl);have z2:lZ t_.In:=A8 (B7 hk.2.1 0 rfl);have z3:lZ t_.O:=A8 (B7 hk.2.1 1 rfl);unfold tG at h;obtain⟨a2,a3,h⟩:=A5 h;refine⟨_,(zyi o_ [t_] a2 a3),?_⟩;refine A3 rfl ?_;cases h;refine A3 ⟨rfl,trivial⟩ ?_;exact⟨rfl,rfl⟩
def xQ(m_:A9)(o_:A7)(words_:A4)(r:A7×Int)(h:X0 m_ o_ words_=some r):Sp Tryz.prog 25 [.im (.agg (G7 m_)),.im (.agg (N4 o_)),.im (nL (cL cI) words_)] (.tup [.agg (N4 r.1),nI r.2]):=by
 refine D1 [700003] λhk=>?_;have z1:lZ m_.N:=A8 (B7 hk.1 2 rfl);have z2:lZ m_.O:=A8 (B7 hk.1 3 rfl);have z3:lZ o_.T:=A8 (B7 hk.2.1 1 rfl);have z4:lZ words_:=A8 hk.2.2.1;unfold X0 at h;refine B1 words_.length B9 ?_;obtain⟨oc,h,a4⟩:=A5 h;refine W9 oc (Y:=Int×List B0) (λ(a8,a6)=>mkSt [(4,.own 64 1 0),(6,.own 65 1 0)] [(64,.box 31 2),(65,.box 31 2)] [(64,0,.im (nI a8)),(64,1,.im (nL C9 a6)),(65,0,.im (nI 0)),(65,1,.im (.val (.slice none 0 0)))]) (λ(a8,a6)=>lZ a6/\True) (by rintro⟨a8,a6⟩;exact((Holds.cel 64 1 rfl (by decide) rfl).and hT)) ?_ ?_;refine H1 h (λ(a7,a2,b2)=>mkSt [(3,C7 (G7 m_)),(4,.own 64 1 0),(6,.own 65 1 0),(12,C3 (cL cI) words_),(13,C1 (words_.length:Int)),(14,B8 b2)] [(64,.box 31 2),(65,.box 31 2)] [(64,0,.im (nI a7)),(64,1,.im (nL C9 a2)),(65,0,.im (nI 0)),(65,1,.im (.val (.slice none 0 0)))]) (λ(a7,a2,b2)=>lZ words_/\lZ a2/\True) (eA (K9 [64,4,65,6])) (λ⟨a7,a2,b2⟩=>((C5 12 rfl).and ((Holds.cel 64 1 rfl (by decide) rfl).and hT))) ?_;rintro k ⟨a7,a2,b2⟩ o hp h a3;change X0.s2 m_ words_ a7 a2 b2=_ at h;unfold X0.s2 at h;obtain⟨b8,b9,_⟩:=hp;refine B5 h (λc0 h b3=>?_) λc0 h b3=>?_;refine F8 h λb6 d1 h=>?_;obtain⟨b7,a9,h⟩:=A5 h;refine⟨_,sp_mealy_Run m_ b6 b7 a9,?_⟩;refine B5 h (λc6 h b4=>?_) λc6 h b4=>?_;refine A3 rfl<|A3 rfl ?_;cases h;cases C0 a3;replace h:some _=some _:=a4;cases h;refine A3 ⟨rfl,trivial⟩ ?_;exact⟨rfl,rfl⟩;refine A3 rfl ?_;obtain⟨c7,d0,h⟩:=A5 h;refine⟨_,zyv (⟨a7,a2⟩:A7) (⟨b6,b7.1⟩:B0) c7 d0,?_⟩;refine A3 rfl<|B5 h (λc8 h b5=>?_) λc8 h b5=>?_;refine A3 rfl<|A3 rfl ?_;cases h;cases C0 a3;replace h:some _=some _:=a4;cases h;refine A3 ⟨rfl,trivial⟩ ?_;exact⟨rfl,rfl⟩;refine D2.mk (zzR_ (by omega)) ?_;cases h;exact E7 _ a3 eZ;cases h;cases C0 a3;exact J5.mk' _ rfl eZ;rintro⟨a8,a6⟩ rfl hp;have a5:=K5 a4;replace h:X0.k3 a8 a6=some _:=a5;clear a5;unfold X0.k3 at h;obtain⟨c9,_⟩:=hp;refine A3 rfl<|A3 rfl ?_;cases h;refine A3 ⟨rfl,trivial⟩ ?_;exact⟨rfl,rfl⟩
end Go.Proofs.YtdjagdnpnhmldaaGreatDoor.Sym

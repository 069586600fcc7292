/- Parts of the proof. -/
import Derived.Test.YtjmcbfbjajlbhaaGreatDoorM4
set_option linter.all false
set_option maxRecDepth 100000
set_option maxHeartbeats 4000000
open Go.RowKit
namespace Go.Proofs.YtjmcbfbjajlbhaaGreatDoor.Sym
section
def subW(h:E3)(o:A6)(w:A2):bQ:=⟨h,o,w,(List.range (w.length+1)).map (λ(i:Nat)=>(↑(stW h w i):Int)),outs h.M 0 w⟩
section
variable {h:E3}{o:A6}{w:A2}
def P3.wok(F:P3 h o w):WOk h.M.I w:=aB F.chk
def P3.sym(F:P3 h o w){i:Nat}(hi:i<w.length):∃a:Nat,w[i]?=some (a:Int)/\a<h.M.I.toNat:=by
 have:=F.wok _ (H9 hi);obtain⟨a,ha⟩:=pZ this.1;exact⟨a,by rw[get_at hi,ha],by omega⟩
def st_succ{i a:Nat}(ha:w[i]?=some (a:Int)):stW h w (i+1)=nx h.M (stW h w i) a:=by
 unfold stW;rw[L9 ha,kG];show nx h.M _ (Int.toNat (a:Int))=_;rw[P0]
def outs_succ{i a:Nat}(s:Nat)(ha:w[i]?=some (a:Int)):outs h.M s (w.take (i+1))=outs h.M s (w.take i)++[ot h.M (dest h.M s (w.take i)) a]:=by
 rw[L9 ha,iL];show _++[ot h.M _ (Int.toNat (a:Int))]=_;rw[P0]
def begin_eq(F:P3 h o w):cG h o w=some (some (subW h o w),0):=by
 obtain⟨r,k1,k2⟩:=F.kn;have a5:=F.wl;have a3:H1 w o.I=0:=by rw[<- F.inp];exact F.chk
 have a2:h.M.S.toNat=0:=by rw[F.st];rfl
 unfold cG;rw[F.vp,A5,B5 (by simp),B5 (λh=>h F.inp),nH w _ (by unfold SmW;omega),A5,a3,B5 (by simp),AX F.ho F.hv,A5,k1];simp only[tw,N2,D6]
 have key:=O4 (step:=λ(s:A2×A2×Int×Nat)=>cG.s2 h w s.1 s.2.1 s.2.2.1 s.2.2.2) (r:=((List.range (w.length+1)).map (λ(i:Nat)=>(↑(stW h w i):Int)),outs h.M 0 w)) (λs=>s.2.2.2<=w.length/\s.1=(List.range (s.2.2.2+1)).map (λ(i:Nat)=>(↑(stW h w i):Int))/\s.2.1=outs h.M 0 (w.take s.2.2.2)/\s.2.2.1=(↑(stW h w s.2.2.2):Int)) (λs=>w.length-s.2.2.2) (λs ⟨g1,g2,g3,g4⟩=>by
  obtain⟨p,q,st,i⟩:=s
  simp only at g1 g2 g3 g4
  subst g2
  subst g3
  subst g4
  simp only[cG.s2]
  by_cases g:i<w.length
  ·left
   obtain⟨a,ha,a4⟩:=F.sym g
   obtain⟨_,_,_,x,y,e1,e2,e3,e4⟩:=F.mac.at (F.stl i) a4
   refine⟨((List.range (i+1+1)).map (λ(i:Nat)=>(↑(stW h w i):Int)),outs h.M 0 (w.take (i+1)),(↑(stW h w (i+1)):Int),i+1),?_,⟨g,rfl,rfl,rfl⟩,by simp only;omega⟩
   rw[I8 ha,D2,C6 ha,F9 rfl e2,F9 (i:=a) rfl e4,F0 (by unfold E5;rw[cX,H6];omega),F9 rfl e1,F9 (i:=a) rfl e3,F0 (by unfold E5;rw[E1,aE];omega),st_succ ha,outs_succ 0 ha,jE (n:=i+1),N3,List.map_singleton,st_succ ha]
   have:dest h.M 0 (w.take i)=stW h w i:=by unfold stW;rw[a2]
   rw[this]
  ·right
   have e:i=w.length:=by omega
   subst e
   rw[B5,M4]) (n:=fuel) (s:=([h.M.S],[],h.M.S,0)) ⟨F8 _,by
    show [h.M.S]=[(↑(stW h w 0):Int)]
    rw[st_zero,a2,F.st];rfl,rfl,by
    show h.M.S=(↑(stW h w 0):Int)
    rw[st_zero,a2,F.st];rfl⟩
 rw[key,A5];simp only[cG.k3];have a6:=iF F.hv k1;rw[pQ _ _ (by omega),A5,B5 k2];rfl
def sub_state(F:P3 h o w){i:Nat}(hi:i<=w.length):(subW h o w).states[i]?=some (↑(stW h w i):Int):=by
 unfold subW;simp only;rw[K5,bT (by omega)];rfl
def query_eq(F:P3 h o w){i:Nat}(hi:i<=w.length):sK (subW h o w) (i:Int)=some (qW h w i):=by
 have hq:=F.ql i;unfold qW at hq;unfold sK qW;rw[F9 rfl (sub_state F hi)];show(idx h.Access (↑(stW h w i):Int) λa2=>chk ((0:Int)<=(i:Int)/\(i:Int)<=(w.length:Int)) ((aW [a2,(List.drop (Int.toNat (i:Int)) w)]).bind λa6=>some a6))=_;rw[F9 rfl (F.ac i).1,F0 (by omega),P0,iU _ (by simp) (by rw[dV];omega),A5,dV]
def uN(F:P3 h o w){i:Nat}(hi:i<=w.length)(hk:ansO o (qW h w i)≠none):∃r,ansO o (qW h w i)=some r/\r.length=(acW h w i).length+(w.length-i)/\tailA o (acW h w i) (w.drop i)=r.drop (acW h w i).length:=by
 cases e:ansO o (qW h w i) with
 |none=>exact absurd e hk
 |some r =>
  have hl:=iF F.hv e;unfold qW at hl e;rw[D7,O5]at hl;exact⟨r,rfl,hl,by unfold tailA;rw[e];rfl⟩
def rest_eq(F:P3 h o w){i:Nat}(hi:i<=w.length)(hk:ansO o (qW h w i)≠none):sJ (subW h o w) (i:Int)=some (tailA o (acW h w i) (w.drop i)):=by
 obtain⟨r,h1,h2,h3⟩:=uN F hi hk;have a4:=F.wl;have a3:=(F.ac i).2;unfold sJ;rw[query_eq F hi,A5];show((kM o (qW h w i)).bind λa2=>chk (inR ((w.length:Int)-(i:Int))) (chk (inR ((a2.1.length:Int)-((w.length:Int)-(i:Int)))) (chk ((0:Int)<=((a2.1.length:Int)-((w.length:Int)-(i:Int)))/\((a2.1.length:Int)-((w.length:Int)-(i:Int)))<=(a2.1.length:Int)) (some (List.drop (Int.toNat ((a2.1.length:Int)-((w.length:Int)-(i:Int)))) a2.1)))))=_;rw[AX F.ho F.hv,A5,h1];simp only[tw];rw[K1,K1,F0 (by omega),h3];congr 2;omega
def bad_eq(F:P3 h o w){i:Nat}(hi:i<=w.length)(hk:ansO o (qW h w i)≠none):wP (i:Int) (subW h o w)=some (badW h o w i):=by
 have a3:h.M.S.toNat=0:=by rw[F.st];rfl
 have hd:=outs_drop (h:=h) (w:=w) i;rw[a3]at hd;obtain⟨r,h1,h2,h3⟩:=uN F hi hk;have a5:=F.wl;have a4:=(F.ac i).2;unfold wP badW;rw[rest_eq F hi hk,A5];show chk ((0:Int)<=(i:Int)/\(i:Int)<=(↑(List.length (outs h.M 0 w)):Int)) ((bS (tailA o (acW h w i) (w.drop i)) (List.drop (Int.toNat (i:Int)) (outs h.M 0 w))).bind λa2=>some (!a2))=_;rw[F0 (by rw[cX];omega),P0,hd,pQ _ _ (by rw[h3,O5];omega),A5]
def tail_head(F:P3 h o w){i:Nat}(hi:i<w.length)(hk:ansO o (qW h w i)≠none):∃y,(tailA o (acW h w i) (w.drop i))[0]?=some y/\(tailA o (acW h w i) (w.drop i)).head?=some y:=by
 obtain⟨r,h1,h2,h3⟩:=uN F (by omega) hk;rw[h3];have hl:0<(r.drop (acW h w i).length).length:=by rw[O5];omega
 refine⟨_,get_at hl,?_⟩;rw[List.head?_eq_getElem?,get_at hl]
def out_at(F:P3 h o w){i a:Nat}(ha:w[i]?=some (a:Int)):(outs h.M 0 w)[i]?=some (ot h.M (stW h w i) a):=by
 have a2:h.M.S.toNat=0:=by rw[F.st];rfl
 have hi:=(G4.1 ha).1;have hd:=outs_drop (h:=h) (w:=w) i;rw[a2]at hd;have h1:(List.drop i (outs h.M 0 w))[0]?=(outs h.M 0 w)[i]?:=by rw[W6,W7]
 have h2:w.drop i=(a:Int)::w.drop (i+1):=by
  rw[cR hi];congr 1;rw[get_at hi]at ha;injection ha
 rw[<- h1,hd,h2];show some (ot h.M (stW h w i) (Int.toNat (a:Int)))=_;rw[P0]
def split_eq(F:P3 h o w){i:Nat}(hi:i<w.length)(hk:ansO o (qW h w i)≠none):wN (subW h o w) (i:Int)=some ((splW h o w i).1,[],(splW h o w i).2):=by
 obtain⟨a,ha,a3⟩:=F.sym hi;obtain⟨y,y1,y2⟩:=tail_head F hi hk;have a5:=F.wl;have a4:=(F.ac i).2;unfold wN splW;rw[rest_eq F (by omega) hk,A5,C6 y1];show(idx (outs h.M 0 w) (i:Int) λa2=>cond (decide (y≠a2)) (some ((⟨[],0,[]⟩:J8),[],15)) (idx (subW h o w).states (i:Int) λa6=>idx h.Access a6 λa7=>(cH a7).bind λa8=>idx w (i:Int) λb0=>chk (inR ((i:Int)+1)) (chk ((0:Int)<=((i:Int)+1)/\((i:Int)+1)<=(w.length:Int)) ((cH (List.drop (Int.toNat ((i:Int)+1)) w)).bind λb2=>some ((⟨a8,b0,b2⟩:J8),[],0)))))=_;rw[F9 rfl (out_at F ha),y2,ha,Q3,P0];by_cases g:y=ot h.M (stW h w i) a
 ·rw[B5 (λh=>h g),if_neg (λh=>h (by rw[g])),F9 rfl (sub_state F (by omega)),F9 rfl (F.ac i).1,iR (by unfold SmW;omega),A5,F9 rfl ha,K1,F0 (by omega),iR (by unfold SmW;rw[O5];omega),A5];rfl
 ·rw[C9 g,if_pos (λh=>g (by injection h))]
def prog_loc(F:P3 h o w):∀(n lo hi k:Nat),lo<hi->hi<=w.length->hi-lo<=n->n<k ->
  iter (λ(s:Int×Int)=>dY.s2 (subW h o w) (λu0 u1=>kO u0 u1) s.1 s.2) k ((lo:Int),(hi:Int))=some (match locW h o w n lo hi with|.inl x=>.inl (x:Int)|.inr r=>.inr r):=by
 intro n;have a7:=F.wl
 induction n with
 |zero=>intro lo hi k h1 h2 h3;omega
 |succ n ih =>
  intro lo hi k h1 h2 h3 h4;obtain⟨k,rfl⟩:∃k',k=k'+1:=⟨k-1,by omega⟩;by_cases g:1<hi-lo
  ·have a6:Int.toNat (((lo:Int)+(hi:Int)) / 2)=(lo+hi) / 2:=by omega
   have a5:((lo:Int)+(hi:Int)) / 2=(↑((lo+hi) / 2):Int):=by omega
   have hb:lo<(lo+hi) / 2/\(lo+hi) / 2<hi:=by omega
   have hq:=F.ql ((lo+hi) / 2)
   have a4:kO (lo:Int) (hi:Int)=some (↑((lo+hi) / 2):Int):=by
    unfold kO;rw[K1,K1,a5]
   have a3:dY.s2 (subW h o w) (λu0 u1=>kO u0 u1) (lo:Int) (hi:Int)=(if ansO o (qW h w ((lo+hi) / 2))=none then some (.inr (.inr (⟨[],0,[]⟩,qW h w ((lo+hi) / 2),0))) else if badW h o w ((lo+hi) / 2)=true then some (.inl ((↑((lo+hi) / 2):Int),(hi:Int))) else some (.inl ((lo:Int),(↑((lo+hi) / 2):Int)))):=by
    unfold dY.s2;rw[K1,C9];simp only;rw[a4,A5,query_eq F (by omega),A5,B5];show((kM o (qW h w ((lo+hi) / 2))).bind λa2=>_)=_;rw[AX F.ho F.hv,A5];by_cases g2:ansO o (qW h w ((lo+hi) / 2))=none
    ·rw[if_pos g2,g2];rfl
    ·rw[if_neg g2,bad_eq F (by omega) g2];obtain⟨r,e⟩:=Option.ne_none_iff_exists'.1 g2;rw[e];simp only[tw,N2,D6,A5];cases badW h o w ((lo+hi) / 2)<;>rfl
   unfold locW;rw[if_pos g];by_cases g2:ansO o (qW h w ((lo+hi) / 2))=none
   ·rw[if_pos g2]at a3 ⊢;rw[mS a3]
   ·rw[if_neg g2]at a3 ⊢;by_cases g3:badW h o w ((lo+hi) / 2)=true
    ·rw[if_pos g3]at a3 ⊢;rw[mR a3];exact ih _ _ _ hb.2 h2 (by omega) (by omega)
    ·rw[if_neg g3]at a3 ⊢;rw[mR a3];exact ih _ _ _ hb.1 (by omega) (by omega) (by omega)
  ·have a3:dY.s2 (subW h o w) (λu0 u1=>kO u0 u1) (lo:Int) (hi:Int)=some (.inr (.inl (lo:Int))):=by
    unfold dY.s2;rw[K1,B5]
   unfold locW;rw[if_neg g,mS a3]
def tR(F:P3 h o w):∀(n lo hi:Nat),lo<hi->hi<=w.length->ansO o (qW h w lo)≠none->∀x,locW h o w n lo hi=.inl x->x<w.length/\ansO o (qW h w x)≠none
 |0,lo,hi,h1,h2,h3,x,e=>by
  unfold locW at e;injection e with e
  subst e;exact⟨by omega,h3⟩
 |n+1,lo,hi,h1,h2,h3,x,e=>by
  unfold locW at e;split at e
  ·split at e
   ·cases e
   ·rename_i g g2;split at e
    ·exact tR F n _ _ (by omega) h2 g2 x e
    ·exact tR F n _ _ (by omega) (by omega) h3 x e
  ·injection e with e
   subst e;exact⟨by omega,h3⟩
def KN(F:P3 h o w):rT h o w=some (O7 h o w):=by
 have a3:=F.wl;have a2:=F.w0;unfold rT O7;rw[begin_eq F,A5,B5 (by simp),A5]
 have e:dY (subW h o w) (λu0 u1=>kO u0 u1)=some (match locW h o w w.length 0 w.length with
  | .inl lo=>((splW h o w lo).1,[],(splW h o w lo).2)
  | .inr r=>r):=by
  unfold dY;show((iter _ fuel (0,(w.length:Int)):Option (Int⊕(J8×A2×Int))).bind _)=_;have:=prog_loc F w.length 0 w.length fuel a2 (H4 _) (by omega) (by have:=O9;omega);rw[show((↑(0:Nat):Int))=0 from rfl]at this;rw[this,A5];cases e:locW h o w w.length 0 w.length with
  |inr r=>rfl
  |inl x =>
   obtain⟨k1,k2⟩:=tR F _ _ _ a2 (H4 _) F.k0 x e;simp only[aO];rw[split_eq F k1 k2,A5]
 rw[e,A5];rfl
end
end
section
def runO(nx:A6->Option A6):Nat->A6->A6
 |0,o=>o
 |n+1,o=>match nx o with
  |none=>o
  |some p=>runO nx n p
def runO_inv{nx:A6->Option A6}{I:A6->Prop}{mu:A6->Nat}(h:∀o p,I o->nx o=some p->I p/\mu p<mu o):∀n o,I o->mu o<n->I (runO nx n o)/\nx (runO nx n o)=none
 |0,o,_,hm=>by omega
 |n+1,o,hi,hm=>by
  unfold runO;cases e:nx o with
  |none=>exact⟨hi,e⟩
  |some p =>
   obtain⟨h1,h2⟩:=h o p hi e;exact runO_inv h n p h1 (by omega)
def uE{S R:Type}{step:S->Option (S⊕R)}{st:A6->S}{fin:A6->R}{nx:A6->Option A6}{I:A6->Prop}{mu:A6->Nat}(h:∀o p,I o->nx o=some p->I p/\mu p<mu o)
  (h1:∀o,I o->nx o=none->step (st o)=some (.inr (fin o))) (h2:∀o p,I o->nx o=some p->step (st o)=some (.inl (st p))):∀n k o,I o->mu o<n->mu o<k->iter step k (st o)=some (fin (runO nx n o))
 |0,k,o,_,hm,_=>by omega
 |n+1,0,o,_,_,hm=>by omega
 |n+1,k+1,o,hi,hm,hk=>by
  unfold runO;cases e:nx o with
  |none=>rw[mS (h1 o hi e)]
  |some p =>
   obtain⟨g1,g2⟩:=h o p hi e;rw[mR (h2 o p hi e)];exact uE h h1 h2 n k p g1 (by omega) (by omega)
def trs_len{l:List A8}(h:eK l){k:A3}(hk:∀t∈l,t.In∈k):l.length<=k.length:=by
 have a2:(l.map λu=>u.In).Nodup:=by
  unfold List.Nodup;rw[sS]
  exact h.asc.imp λ{a b} h e=>by
   rw[e,cA]at h;cases h
 have:=qV (k:=k) a2 λx hx=>by
  obtain⟨t,ht,rfl⟩:=D8.1 hx;exact hk t ht
 rwa [E1]at this
section
variable {m:B7}{o:A6}
def vM(hv:Q9 m=0){ws:A3}(T:P5 m o)(hw:∀w∈ws,H1 w m.I=0)(hl:ws.length<=2000000)(hN:(K4 m o ws).T.length<=10000):W3 m o ws=some (K4 m o ws,0):=by
 have H:=fW hv
 have key:∀(n i:Nat) (o:A6),P5 m o->i<=ws.length->ws.length-i<n->(K4 m o (ws.drop i)).T.length<=10000->iter (λ(s:Int×List A8×Nat)=>W3.s2 m ws s.1 s.2.1 s.2.2) n (o.I,o.T,i)=some (.inl ((K4 m o (ws.drop i)).I,(K4 m o (ws.drop i)).T)):=by
  intro n
  induction n with
  |zero=>intro i o _ _ h;omega
  |succ n ih =>
   intro i o T hi hn hN;rcases L8 i ws.length with h|h
   ·have hx:=get_at h;have hc:=hw _ (H9 h);rw[cR h]at hN ⊢;unfold K4 at hN ⊢;have h1:=told_up (m:=m) (ws.drop (i+1)) ⟨o.I,addL o.T (Sym.tr m ws[i])⟩ (T.ok.trs.add _);simp only at h1
    have a2:W3.s2 m ws o.I o.T i=some (.inl (o.I,addL o.T (Sym.tr m ws[i]),i+1)):=by
     unfold W3.s2;rw[I8 hx,D2,C6 hx,mealy_Run_ok hv hc,A5];simp only;rw[B5 (by decide),show(⟨o.I,o.T⟩:A6)=o from rfl,show(⟨ws[i],outS m ws[i]⟩:A8)=Sym.tr m ws[i] from rfl,observe_Add_eq T.tr T.ok (tr_sm hc),A5,add_any H T hc,if_neg (by omega)];rfl
    rw[mR a2];exact ih (i+1) ⟨o.I,addL o.T (Sym.tr m ws[i])⟩ (EA H T hc (by omega)) h (by omega) hN
   ·have e:i=ws.length:=by omega
    subst e
    have a2:W3.s2 m ws o.I o.T ws.length=some (.inr (.inl (o.I,o.T))):=by
     unfold W3.s2;rw[N7,D6]
    rw[kV];exact mS a2
 unfold W3;have:=key fuel 0 o T (F8 _) (by have:=O9;omega) hN;rw[GP]at this;rw[this,A5];rfl
def tO(w v:A2):Kn (K4 m o [w]) v↔Kn o v\/v <+: w:=by
 rw[oI];constructor
 ·rintro (h|⟨x,hx,h⟩)
  ·exact .inl h
  ·rw[K2.1 hx]at h;exact .inr h
 ·rintro (h|h)
  ·exact .inl h
  ·exact .inr ⟨w,K2.2 rfl,h⟩
end
structure FndS(m:B7)(h:E3)(w:A2):Prop where
 H:N0 m
 mac:N0 h.M
 st:h.M.S=0
 acc:∀s,s<h.M.N.length->∃q,h.Access[s]?=some q/\q.length<=400/\WOk m.I q/\∀a:Nat,a<m.I.toNat->ot m (dest m m.S.toNat q) a=ot h.M s a
 ac0:h.Access[0]?=some []
 vp:fH h=some 0
 vr:eY h=some 0
 inp:h.M.I=m.I
 wk:WOk m.I w
 wl:w.length<=24
 ne:Sym.outs h.M 0 w≠Sym.outs m m.S.toNat w
structure FndO(m:B7)(h:E3)(w:A2)(I0:A3)(o:A6):Prop where
 told:P5 m o
 kn:Kn o w
 cs:∀t∈o.T,t.In∈I0\/∃i,i<w.length/\t.In=qW h w i
section
variable {m:B7}{h:E3}{w:A2}{I0:A3}{o:A6}
def FndS.chk(F:FndS m h w):H1 w m.I=0:=kA ⟨F.H.i1,by have:=F.H.i2;omega⟩ F.wk (by have:=F.wl;omega)
def FndS.fnd(F:FndS m h w)(O:FndO m h w I0 o):P3 h o w:=by
 refine⟨F.mac,F.st,λs hs=>?_,F.ac0,F.vp,F.vr,by rw[F.inp,O.told.inp],by rw[F.inp];exact F.chk,F.wl,O.told.smR,O.told.ok,⟨_,(lH O.told.ex).1 O.kn,λe=>F.ne e.symm⟩⟩;obtain⟨q,h1,h2,_⟩:=F.acc s hs;exact⟨q,h1,h2⟩
def FndS.stl(F:FndS m h w)(i:Nat):stW h w i<h.M.N.length:=F.mac.dest (λy hy=>by rw[F.inp];exact F.wk y (Q1 hy)) (by have:=F.mac.st;omega)
def FndS.ac(F:FndS m h w)(i:Nat):h.Access[stW h w i]?=some (acW h w i)/\(acW h w i).length<=400/\WOk m.I (acW h w i)/\∀a:Nat,a<m.I.toNat->ot m (dest m m.S.toNat (acW h w i)) a=ot h.M (stW h w i) a:=by
 obtain⟨q,h1,h2⟩:=F.acc _ (F.stl i);have e:acW h w i=q:=by unfold acW;rw[h1];rfl
 rw[e];exact⟨h1,h2⟩
def FndS.qchk(F:FndS m h w)(i:Nat):H1 (qW h w i) m.I=0:=by
 obtain⟨_,h2,h3,_⟩:=F.ac i;have:=F.wl;refine kA ⟨F.H.i1,by have:=F.H.i2;omega⟩ (h3.append λx hx=>F.wk x (V7 hx)) ?_;show(acW h w i++w.drop i).length<=_;rw[D7,O5];omega
def loc_ask:∀(n lo hi:Nat),lo<hi->hi<=w.length->∀r,locW h o w n lo hi=.inr r->∃i,0<i/\i<w.length/\r=(⟨[],0,[]⟩,qW h w i,0)/\ansO o (qW h w i)=none
 |0,lo,hi,h1,h2,r,e=>by
  unfold locW at e;cases e
 |n+1,lo,hi,h1,h2,r,e=>by
  unfold locW at e;split at e
  ·split at e
   ·rename_i g g2;injection e with e
    exact⟨(lo+hi) / 2,by omega,by omega,e.symm,g2⟩
   ·rename_i g g2;split at e
    ·exact loc_ask n _ _ (by omega) h2 r e
    ·exact loc_ask n _ _ (by omega) (by omega) r e
  ·cases e
def loc_brk:∀(n lo hi:Nat),lo<hi->hi-lo<=n->badW h o w lo=true->badW h o w hi=false->(hi<w.length->ansO o (qW h w hi)≠none)->∀x,locW h o w n lo hi=.inl x->badW h o w x=true/\badW h o w (x+1)=false/\(x+1<w.length->ansO o (qW h w (x+1))≠none)
 |0,lo,hi,h1,h2,_,_,_,x,e=>by omega
 |n+1,lo,hi,h1,h2,h3,h4,h5,x,e=>by
  unfold locW at e;split at e
  ·split at e
   ·cases e
   ·split at e
    ·rename_i g _ g3;exact loc_brk n _ _ (by omega) (by omega) g3 h4 h5 x e
    ·rename_i g g2 g3;exact loc_brk n _ _ (by omega) (by omega) h3 (by simpa using g3) (λ_=>g2) x e
  ·injection e with e
   subst e;have:hi=lo+1:=by omega
   subst this;exact⟨h3,h4,h5⟩
def nxF(m:B7)(h:E3)(w:A2)(o:A6):Option A6:=if(O7 h o w).2.2=0/\(O7 h o w).2.1≠[] then some (K4 m o [(O7 h o w).2.1]) else none
def muF(h:E3)(w:A2)(o:A6):Nat:=((List.range w.length).filter λi=>decide (ansO o (qW h w i)=none)).length
def qN(F:FndS m h w)(O:FndO m h w I0 o):(∃i,0<i/\i<w.length/\O7 h o w=(⟨[],0,[]⟩,qW h w i,0)/\ansO o (qW h w i)=none) \/
  ∃i,i<w.length/\O7 h o w=(⟨acW h w i,(w[i]?).getD 0,w.drop (i+1)⟩,[],0)/\Sym.outs m (dest m m.S.toNat (acW h w i)) (w.drop i)≠Sym.outs h.M (stW h w i) (w.drop i)/\Sym.outs m (dest m m.S.toNat (acW h w (i+1))) (w.drop (i+1))=Sym.outs h.M (stW h w (i+1)) (w.drop (i+1)):=by
 have FI:=F.fnd O;have a2:=FI.w0;unfold O7;cases e:locW h o w w.length 0 w.length with
 |inr r =>
  obtain⟨i,h1,h2,h3,h4⟩:=loc_ask _ _ _ a2 (H4 _) r e;exact .inl ⟨i,h1,h2,h3,h4⟩
 |inl x =>
  right;obtain⟨k1,k2⟩:=tR FI _ _ _ a2 (H4 _) FI.k0 x e;have tl:∀i,i<=w.length->ansO o (qW h w i)≠none->tailA o (acW h w i) (w.drop i)=Sym.outs m (dest m m.S.toNat (acW h w i)) (w.drop i):=λi _ hk=>rZ O.told.ex (Q5 λg=>hk ((jL O.told).2 g))
  have a4:badW h o w 0=true:=by
   unfold badW;have a3:stW h w 0=0:=by rw[st_zero,F.st];rfl
   have ha:acW h w 0=[]:=by unfold acW;rw[a3,F.ac0];rfl
   rw[tl 0 (F8 _) FI.k0,ha,a3,GP];have:Sym.outs m (dest m m.S.toNat []) w≠Sym.outs h.M 0 w:=λe=>F.ne e.symm;rw[E2 this];rfl
  have hb1:badW h o w w.length=false:=by
   unfold badW;rw[kV,tailA_nil O.told.ok];simp[Sym.outs]
  obtain⟨b1,b2,b3⟩:=loc_brk _ _ _ a2 (by omega) a4 hb1 (λh=>absurd h (by omega)) x e;obtain⟨a,ha,a6⟩:=FI.sym k1;obtain⟨_,_,_,a5⟩:=F.ac x
  have hd:w.drop x=(a:Int)::w.drop (x+1):=by
   rw[cR k1];congr 1;rw[get_at k1]at ha;injection ha
  refine⟨x,k1,?_,?_,?_⟩
  ·show((splW h o w x).1,([]:A2),(splW h o w x).2)=_;unfold splW;rw[if_neg];rw[tl x (by omega) k2,hd,eW,ha,Q3,P0,List.head?_cons,a5 a (by rw[<- F.inp];exact a6)];exact λh=>h rfl
  ·unfold badW at b1;rw[tl x (by omega) k2]at b1;simpa using b1
  ·rcases L8 (x+1) w.length with g|g
   ·unfold badW at b2;rw[tl (x+1) (by omega) (b3 g)]at b2;simpa using b2
   ·rw[jG g];rfl
def q_ne{i:Nat}(hi:i<w.length):qW h w i≠[]:=λe=>by
 have:=congrArg List.length e;unfold qW at this;rw[D7,O5,V5]at this;omega
def q_pos{i:Nat}(hi:i<w.length):(0:Int)<(↑(qW h w i).length:Int):=by
 have:=sV.2 (q_ne (h:=h) hi);omega
def FndO.one(F:FndS m h w)(O:FndO m h w I0 o)(hI:I0.length+25<=10000){i:Nat}(hi:i<w.length)(hn:ansO o (qW h w i)=none):(K4 m o [qW h w i]).T.length<=10000/\FndO m h w I0 (K4 m o [qW h w i])/\muF h w (K4 m o [qW h w i])<muF h w o:=by
 have hc:∀z∈[qW h w i],H1 z m.I=0:=λz hz=>by
  rw[K2.1 hz];exact F.qchk i
 have cs:∀t∈(K4 m o [qW h w i]).T,t.In∈I0\/∃i,i<w.length/\t.In=qW h w i:=λt ht=>by
  rcases rF _ _ ht with h1|h1
  ·exact O.cs t h1
  ·exact .inr ⟨i,hi,K2.1 h1⟩
 have hl:(K4 m o [qW h w i]).T.length<=10000:=by
  have:=trs_len (yB [qW h w i] o O.told.ok.trs) (k:=I0++(List.range w.length).map (qW h w)) λt ht=>by
   rcases cs t ht with h1|⟨i,h1,h2⟩
   ·exact M1 _ h1
   ·exact M2 _ (D8.2 ⟨i,M8.2 h1,h2.symm⟩)
  rw[D7,E1,aE]at this;have:=F.wl;omega
 have T':=uC F.H [qW h w i] o O.told hc hl;refine⟨hl,⟨T',(tO _ _).2 (.inl O.kn),cs⟩,?_⟩;unfold muF;refine Nat.lt_of_succ_le ((EK λx _ hx=>?_).2 ⟨i,M8.2 hi,D3 hn,E2 λg=>(jL T').1 g ((tO _ _).2 (.inr (eC _)))⟩);have hx:=of_decide_eq_true hx;exact D3 ((jL O.told).2 λg=>(jL T').1 hx ((tO _ _).2 (.inl g)))
def FndO.step(F:FndS m h w)(hI:I0.length+25<=10000):∀o p,FndO m h w I0 o->nxF m h w o=some p->FndO m h w I0 p/\muF h w p<muF h w o:=λo p O hn=>by
 unfold nxF at hn;rcases qN F O with⟨i,h1,h2,h3,h4⟩|⟨i,h1,h2,_⟩
 ·rw[h3]at hn;simp only at hn;rw[if_pos ⟨trivial,q_ne (by assumption)⟩]at hn;injection hn with hn
  rw[<- hn];exact(FndO.one F O hI h2 h4).2
 ·rw[h2]at hn;rw[if_neg (λh=>h.2 rfl)]at hn;cases hn
def muF_le:muF h w o<=w.length:=by
 unfold muF;have:=nR (λi=>decide (ansO o (qW h w i)=none)) (List.range w.length)
 rwa [aE]at this
def find_end(F:FndS m h w)(hI:I0.length+25<=10000)(O:FndO m h w I0 o):FndO m h w I0 (runO (nxF m h w) 25 o)/\∃i,i<w.length/\O7 h (runO (nxF m h w) 25 o) w=(⟨acW h w i,(w[i]?).getD 0,w.drop (i+1)⟩,[],0)/\Sym.outs m (dest m m.S.toNat (acW h w i)) (w.drop i)≠Sym.outs h.M (stW h w i) (w.drop i)/\Sym.outs m (dest m m.S.toNat (acW h w (i+1))) (w.drop (i+1))=Sym.outs h.M (stW h w (i+1)) (w.drop (i+1)):=by
 obtain⟨h1,h2⟩:=runO_inv (FndO.step F hI) 25 o O (by have:=muF_le (h:=h) (w:=w) (o:=o);have:=F.wl;omega);refine⟨h1,?_⟩;rcases qN F h1 with⟨i,g1,g2,g3,g4⟩|g
 ·have h2:(if(O7 h (runO (nxF m h w) 25 o) w).2.2=0/\(O7 h (runO (nxF m h w) 25 o) w).2.1≠[] then some (K4 m (runO (nxF m h w) 25 o) [(O7 h (runO (nxF m h w) 25 o) w).2.1]) else none)=none:=h2;rw[g3]at h2;simp only at h2;rw[if_pos ⟨trivial,q_ne (by assumption)⟩]at h2;cases h2
 ·exact g
def prog_find{l:C7}(hv:Q9 m=0)(F:FndS m h w)(hI:I0.length+25<=10000)(O:FndO m h w I0 o) :
  iter (λ(s:Int×List A8×Int×A2×Int×A2×A2)=>W4.s2 l m h w s.1 s.2.1 s.2.2.1 s.2.2.2.1 s.2.2.2.2.1 s.2.2.2.2.2.1 s.2.2.2.2.2.2) fuel (o.I,o.T,(O7 h o w).2.2,(O7 h o w).1.Prefix,(O7 h o w).1.Symbol,(O7 h o w).1.Suffix,(O7 h o w).2.1) =
   some (.inl ((runO (nxF m h w) 25 o).I,(runO (nxF m h w) 25 o).T,(O7 h (runO (nxF m h w) 25 o) w).2.2,(O7 h (runO (nxF m h w) 25 o) w).1.Prefix,(O7 h (runO (nxF m h w) 25 o) w).1.Symbol,(O7 h (runO (nxF m h w) 25 o) w).1.Suffix)):=by
 have hm:=muF_le (h:=h) (w:=w) (o:=o);have a2:=F.wl;refine uE (st:=λo=>(o.I,o.T,(O7 h o w).2.2,(O7 h o w).1.Prefix,(O7 h o w).1.Symbol,(O7 h o w).1.Suffix,(O7 h o w).2.1)) (fin:=λo=>(.inl (o.I,o.T,(O7 h o w).2.2,(O7 h o w).1.Prefix,(O7 h o w).1.Symbol,(O7 h o w).1.Suffix):(Int×List A8×Int×A2×Int×A2)⊕(C7×A6×Int))) (FndO.step F hI) (λo O hn=>?_) (λo p O hn=>?_) 25 fuel o O (by omega) (by have:=O9;omega)
 ·simp only;unfold W4.s2;rcases qN F O with⟨i,g1,g2,g3,g4⟩|⟨i,g1,g2,_⟩
  ·exfalso;unfold nxF at hn;rw[g3]at hn;simp only at hn;rw[if_pos ⟨trivial,q_ne g2⟩]at hn;cases hn
  ·rw[g2];rfl
 ·simp only;unfold W4.s2;rcases qN F O with⟨i,g1,g2,g3,g4⟩|⟨i,g1,g2,_⟩
  ·obtain⟨k1,k2,_⟩:=FndO.one F O hI g2 g4;unfold nxF at hn;rw[g3]at hn ⊢;simp only at hn;rw[if_pos ⟨trivial,q_ne g2⟩]at hn;injection hn with hn
   subst hn;simp only;rw[C9 (by decide),A5,C9 (q_pos g2),show(⟨o.I,o.T⟩:A6)=o from rfl,vM hv O.told (λz hz=>by rw[K2.1 hz];exact F.qchk i) (by simp) k1,A5];simp only;rw[B5 (by decide),KN (F.fnd k2),A5]
  ·exfalso;unfold nxF at hn;rw[g2]at hn;rw[if_neg (λh=>h.2 rfl)]at hn;cases hn
end
end
section
def find_congr{V:Type}{p q:V->Bool}:∀{l:List V},(∀x∈l,p x=q x)->l.find? p=l.find? q
 |[],_=>rfl
 |x::l,h=>by
  rw[List.find?_cons,List.find?_cons,h x (by simp),find_congr (l:=l) λy hy=>h y (by simp[hy])]
def clsT(m:B7)(l:C7)(R:Row):Option (A2):=l.Short.find? λs=>decide (trow m l.X s=R)
def chX(m:B7)(u r f:A2)(a:Int)(v:A2):A2:=if outs m (dest m m.S.toNat (u++[a])) v=outs m (dest m m.S.toNat f) v then r++[a] else u++[a]
def chG(m:B7)(l:C7):A2->A2->A2->A3×A3
 |a::b::v,u,r =>
  if trow m l.X (u++[a])≠trow m l.X (r++[a]) then([],[])
  else match clsT m l (trow m l.X (u++[a])) with
   |none=>([],[])
   |some f=>(chX m u r f a (b::v)::(chG m l (b::v) (chX m u r f a (b::v)) f).1,(u++[a]++(b::v))::(f++(b::v))::(chG m l (b::v) (chX m u r f a (b::v)) f).2)
 |_,_,_=>([],[])
structure RefM(m:B7)(l:C7):Prop where
 H:N0 m
 inp:l.I=m.I
 val:V0 l=0
 tab:K7 (lazT l)
 sing:∀a:Nat,(a:Int)<m.I->[(a:Int)]∈l.X
 pwk:∀p∈l.Short,WOk m.I p
 swk:∀e∈l.X,WOk m.I e
 cl:∀r∈l.Short,∀a:Nat,(a:Int)<m.I->∃s∈l.Short,trow m l.X s=trow m l.X (r++[(a:Int)])
structure RefO(m:B7)(l:C7)(o:A6):Prop where
 told:P5 m o
 all:∀v∈bG m.I.toNat l.X l.Short,Kn o v
structure ChM(m:B7)(l:C7)(K:Nat)(v u r:A2):Prop where
 row:trow m l.X u=trow m l.X r
 rs:r∈l.Short
 tl:outs m (dest m m.S.toNat u) v≠outs m (dest m m.S.toNat r) v
 vw:WOk m.I v
 uw:WOk m.I u
 kp:∀p∈l.Short,p.length<=K
 ul:u.length<=K
 kv:K+v.length<=900
section
variable {m:B7}{l:C7}{o:A6}{K:Nat}
def ChM.two{v u r:A2}(C:ChM m l K v u r)(R:RefM m l):∃(a b:Int) (v':A2),v=a::b::v'/\0<=a/\a<m.I:=by
 match v,C with
 |[],C=>exact absurd rfl C.tl
 |[a],C =>
  have ha:=C.vw.head;have hs:=R.sing a.toNat (by omega);rw[show(a.toNat:Int)=a by omega]at hs;exact absurd (oB C.row hs) C.tl
 |a::b::v',C=>exact⟨a,b,v',rfl,C.vw.head⟩
def ChM.step{a b:Int}{v u r:A2}(C:ChM m l K (a::b::v) u r)(R:RefM m l)(he:trow m l.X (u++[a])=trow m l.X (r++[a])) :
  ∃f,clsT m l (trow m l.X (u++[a]))=some f/\f∈l.Short/\trow m l.X f=trow m l.X (u++[a])/\ChM m l (K+1) (b::v) (chX m u r f a (b::v)) f:=by
 have ha:=C.vw.head;have ea:a=(a.toNat:Int):=by omega
 cases hf:clsT m l (trow m l.X (u++[a])) with
 |none =>
  exfalso;obtain⟨s,hs,h⟩:=R.cl r C.rs a.toNat (by omega);rw[<- ea]at h;exact pX.1 hf s hs (D3 (h.trans he.symm))
 |some f =>
  have a4:f∈l.Short:=dE hf;have a3:trow m l.X f=trow m l.X (u++[a]):=of_decide_eq_true (mE (p:=λs=>decide (trow m l.X s=trow m l.X (u++[a]))) hf);have hs:=R.sing a.toNat (by omega);rw[<- ea]at hs;have a2:=oB C.row hs;have a5:=C.tl;rw[eW (m:=m) (dest m m.S.toNat u) a (b::v),eW (m:=m) (dest m m.S.toNat r) a (b::v)]at a5;rw[eW (m:=m) (dest m m.S.toNat u) a [],eW (m:=m) (dest m m.S.toNat r) a []]at a2;have a8:ot m (dest m m.S.toNat u) a.toNat=ot m (dest m m.S.toNat r) a.toNat:=by injection a2
  have a6:outs m (dest m m.S.toNat (u++[a])) (b::v)≠outs m (dest m m.S.toNat (r++[a])) (b::v):=by
   rw[lM,lM];exact λe=>a5 (by rw[a8,e])
  have wa:WOk m.I [a]:=λx hx=>by rw[K2.1 hx];exact ha
  have a7:=C.kv;simp only[H7]at a7;have b0:=C.ul;have a9:=C.kp r C.rs;refine⟨f,rfl,a4,a3,?_⟩;unfold chX;split
  ·rename_i g;exact⟨by rw[a3,he],a4,λe=>a6 (by rw[g,e]),C.vw.tail,(R.pwk r C.rs).append wa,λp hp=>by have:=C.kp p hp;omega,by rw[D7,S6];omega,by simp only[H7];omega⟩
  ·rename_i g;exact⟨a3.symm,a4,g,C.vw.tail,C.uw.append wa,λp hp=>by have:=C.kp p hp;omega,by rw[D7,S6];omega,by simp only[H7];omega⟩
def chG_stop{a b:Int}{v u r:A2}(h:trow m l.X (u++[a])≠trow m l.X (r++[a])):chG m l (a::b::v) u r=([],[]):=by
 unfold chG;rw[if_pos h]
def chG_go{a b:Int}{v u r f:A2}(h:trow m l.X (u++[a])=trow m l.X (r++[a]))(hf:clsT m l (trow m l.X (u++[a]))=some f) :
  chG m l (a::b::v) u r=(chX m u r f a (b::v)::(chG m l (b::v) (chX m u r f a (b::v)) f).1,(u++[a]++(b::v))::(f++(b::v))::(chG m l (b::v) (chX m u r f a (b::v)) f).2):=by
 conv=>lhs;unfold chG
 rw[if_neg (λg=>g h),hf]
def chG_facts(R:RefM m l):∀(v u r:A2) (K:Nat),ChM m l K v u r ->
  (chG m l v u r).1.length+2<=v.length/\(chG m l v u r).2.length<=2*v.length /\
  (∀x∈(chG m l v u r).1,x.length<=K+v.length/\WOk m.I x/\∃y a,x=y++[a]/\(y∈l.Short\/y∈u::(chG m l v u r).1)) /\
  (∀x∈(chG m l v u r).2,x.length<=K+v.length/\WOk m.I x) /\
  Split2 m l.X (l.Short++u::(chG m l v u r).1)
 |[],u,r,K,C=>absurd rfl C.tl
 |[a],u,r,K,C=>by
  obtain⟨_,_,_,e,_⟩:=C.two R;cases e
 |a::b::v,u,r,K,C=>by
  have ha:=C.vw.head;have ea:a=(a.toNat:Int):=by omega
  by_cases g:trow m l.X (u++[a])=trow m l.X (r++[a])
  ·obtain⟨f,h1,h2,h3,h4⟩:=C.step R g;obtain⟨k1,k2,k3,k4,k5⟩:=chG_facts R (b::v) _ f (K+1) h4;rw[chG_go g h1];simp only[H7]at k1 k2 ⊢;have hx:(chX m u r f a (b::v)).length<=K+1:=h4.ul;refine⟨by omega,by omega,λx hx=>?_,λx hx=>?_,k5.mono λx hx=>?_⟩
   ·rcases I2.1 hx with e|e
    ·subst e;refine⟨by omega,h4.uw,?_⟩;unfold chX;split
     ·exact⟨r,a,rfl,.inl C.rs⟩
     ·exact⟨u,a,rfl,.inr (by simp)⟩
    ·obtain⟨q1,q2,y,c,q3,q4⟩:=k3 x e;refine⟨by simp only[H7]at q1;omega,q2,y,c,q3,?_⟩;rcases q4 with h|h
     ·exact .inl h
     ·exact .inr (K3 _ h)
   ·have a2:=C.vw.tail;have wa:WOk m.I [a]:=λx hx=>by rw[K2.1 hx];exact ha
    have:=C.ul;have:=C.kp f h2;rcases I2.1 hx with e|e
    ·subst e;exact⟨by simp only[D7,H7,V5];omega,(C.uw.append wa).append a2⟩
    ·rcases I2.1 e with e|e
     ·subst e;exact⟨by simp only[D7,H7];omega,(R.pwk f h2).append a2⟩
     ·obtain⟨q1,q2⟩:=k4 x e;exact⟨by simp only[H7]at q1;omega,q2⟩
   ·rcases K0.1 hx with h|h
    ·exact M1 _ h
    ·exact M2 _ (K3 _ h)
  ·rw[chG_stop g];refine⟨by simp,by simp,(λx hx=>by cases hx),(λx hx=>by cases hx),u,by simp,r,M1 _ C.rs,C.row,a.toNat,by omega,?_⟩;rw[<- ea];exact g
def RefO.rowS(O:RefO m l o){p:A2}(hp:p∈l.Short):rowO o p l.X=some (trow m l.X p):=(nA O.told.ex l.X).1 λe he=>O.all _ (dW.2 ⟨p,hp,p,rI _ p,e,he,rfl⟩)
def RefO.cls(O:RefO m l o)(X:Row):clsW l o X=clsT m l X:=find_congr λx hx=>by
 rw[O.rowS hx];exact decide_eq_decide.2 ⟨λh=>by injection h,λh=>by rw[h]⟩
def no_long{ws S:A3}(h:∀w∈ws,∀e∈S,(w++e).length<=1024):anyL ws S=false:=by
 unfold anyL M3;refine sR.2 λw hw=>?_;simp only[Bool.not_eq_true];refine sR.2 λe he=>?_;have:=h w hw e he;simp only[decide_eq_true_eq];omega
def xW{S ws:A3}(h:∀w∈ws,∀e∈S,(w++e).length<=1024):(P9 (N5 o ws S)=false/\∀w∈ws,J5 o w S=[]) \/
  (P9 (N5 o ws S)=true/\(N5 o ws S).2=0/\(N5 o ws S).1≠[]/\∀x∈(N5 o ws S).1,ansO o x=none/\∃w∈ws,∃e∈S,x=w++e):=by
 have hn:=no_long h;by_cases g:P9 (N5 o ws S)=true
 ·right;refine⟨g,?_,?_,λx hx=>?_⟩
  ·unfold N5;rw[hn];rfl
  ·unfold P9 N5 at g;rw[hn]at g;unfold N5;rw[hn];simpa using g
  ·unfold N5 at hx;rw[hn]at hx;obtain⟨w,hw,h2⟩:=L6.1 (yF hx);obtain⟨⟨e,he,h3⟩,h4⟩:=cY.1 h2;exact⟨h4,w,hw,e,he,h3⟩
 ·have g:P9 (N5 o ws S)=false:=by simpa using g
  exact .inl ⟨g,λw hw=>(gX g w hw).2⟩
def chain_run(R:RefM m l)(O:RefO m l o):∀(v u r:A2) (A:A3) (K:Nat),ChM m l K v u r ->
  cV l o v u r A=(A++(chG m l v u r).1,[],0)\/∃W,cV l o v u r A=([],W,0)/\W≠[]/\∀x∈W,ansO o x=none/\(x∈(chG m l v u r).2\/∃y∈u::(chG m l v u r).1,∃a:Nat,(a:Int)<m.I/\∃e∈l.X,x=y++[(a:Int)]++e)
 |[],u,r,A,K,C=>absurd rfl C.tl
 |[a],u,r,A,K,C=>by
  obtain⟨_,_,_,e,_⟩:=C.two R;cases e
 |a::b::v,u,r,A,K,C=>by
  have ha:=C.vw.head;have ea:a=(a.toNat:Int):=by omega
  have a6:=C.kv;simp only[H7]at a6;have b2:=C.ul;have b0:=C.kp r C.rs;have a5:∀e∈l.X,e.length<=80:=R.tab.sw;rw[uP];have a3:J5 o (r++[a]) l.X=[]:=kn_miss O.told.ex λe he=>O.all _ (dW.2 ⟨r,C.rs,r++[a],by rw[ea];exact oK (by omega) r,e,he,rfl⟩)
  rcases xW (o:=o) (S:=l.X) (ws:=[u++[a],r++[a]]) (λw hw e he=>by
   have:=a5 e he
   rcases I2.1 hw with e|e
   ·rw[e];simp only[D7,H7,V5];omega
   ·rw[K2.1 e];simp only[D7,H7,V5];omega) with⟨g1,g2⟩|⟨g1,g2,g3,g4⟩
  ·rw[if_neg (by rw[g1];decide)];have a8:=oC O.told.ex (g2 (u++[a]) (by simp));have a4:=oC O.told.ex (g2 (r++[a]) (by simp));rw[(nA O.told.ex l.X).1 a8,(nA O.told.ex l.X).1 a4,Q3,O.cls];by_cases g:trow m l.X (u++[a])=trow m l.X (r++[a])
   ·obtain⟨f,h1,h2,h3,h4⟩:=C.step R g;have a9:=C.kp f h2;rw[if_neg (λh=>h (by rw[g])),h1,chG_go g h1];simp only
    rcases xW (o:=o) (S:=[b::v]) (ws:=[u++[a],f]) (λw hw e he=>by
     rw[K2.1 he]
     rcases I2.1 hw with e|e
     ·rw[e];simp only[D7,H7,V5];omega
     ·rw[K2.1 e];simp only[D7,H7];omega) with⟨q1,q2⟩|⟨q1,q2,q3,q4⟩
    ·rw[if_neg (by rw[q1];decide)];have a7:Kn o (u++[a]++(b::v)):=oC O.told.ex (q2 (u++[a]) (by simp)) (b::v) (by simp);have a2:Kn o (f++(b::v)):=oC O.told.ex (q2 f (by simp)) (b::v) (by simp);rw[rZ O.told.ex a7,rZ O.told.ex a2];have hX:(if outs m (dest m m.S.toNat (u++[a])) (b::v)=outs m (dest m m.S.toNat f) (b::v) then r++[a] else u++[a])=chX m u r f a (b::v):=rfl;rw[hX];rcases chain_run R O (b::v) _ f (A++[chX m u r f a (b::v)]) (K+1) h4 with e|⟨W,e1,e2,e3⟩
     ·left;rw[e,U8,GZ]
     ·right;refine⟨W,e1,e2,λx hx=>?_⟩;obtain⟨k1,k2⟩:=e3 x hx;refine⟨k1,?_⟩;rcases k2 with h|⟨y,hy,h⟩
      ·exact .inl (K3 _ (K3 _ h))
      ·exact .inr ⟨y,K3 _ hy,h⟩
    ·right;rw[if_pos q1];refine⟨_,by rw[<- q2],q3,λx hx=>?_⟩;obtain⟨k1,w,hw,e,he,k2⟩:=q4 x hx;rw[K2.1 he]at k2;refine⟨k1,.inl ?_⟩;rcases I2.1 hw with h|h
     ·rw[k2,h];exact aP ..
     ·rw[k2,K2.1 h];exact K3 _ (aP ..)
   ·left;rw[if_pos (λh=>g (by injection h)),chG_stop g,S5]
  ·right;rw[if_pos g1];refine⟨_,by rw[<- g2],g3,λx hx=>?_⟩;obtain⟨k1,w,hw,e,he,k2⟩:=g4 x hx;refine⟨k1,.inr ⟨u,aP ..,a.toNat,by omega,e,he,?_⟩⟩;rw[<- ea];rcases I2.1 hw with h|h
   ·rw[k2,h]
   ·exfalso;rw[K2.1 h]at k2;have:x∈J5 o (r++[a]) l.X:=cY.2 ⟨⟨e,he,k2⟩,k1⟩;rw[a3]at this;cases this
end
end
section
abbrev upS(s:J8):A2:=s.Prefix++[s.Symbol]
def addS(m:B7)(l:C7)(s:J8)(f:A2):A3:=upS s::(chG m l s.Suffix (upS s) f).1
def askS(m:B7)(l:C7)(s:J8)(f:A2):A3:=(upS s++s.Suffix)::(f++s.Suffix)::(chG m l s.Suffix (upS s) f).2
def rowU(m:B7)(S:A3)(y:A2):A3:=(List.range m.I.toNat).flatMap λ(a:Nat)=>S.map λe=>y++[(a:Int)]++e
def allU(m:B7)(l:C7)(s:J8)(f:A2):A3:=askS m l s f++(addS m l s f).flatMap (rowU m l.X)
structure RefS(m:B7)(l:C7)(K:Nat)(s:J8)(f:A2):Prop where
 R:RefM m l
 q:s.Prefix∈l.Short
 a0:0<=s.Symbol
 a1:s.Symbol<m.I
 cls:clsT m l (trow m l.X (upS s))=some f
 ch:ChM m l K s.Suffix (upS s) f
 vl:s.Suffix.length<=24
 n4:m.I<=4
 p5:l.Short.length<=300
 s5:l.X.length<=15
 kl:K<=370
section
variable {m:B7}{l:C7}{o:A6}{K:Nat}{s:J8}{f:A2}
def RefS.v2(S:RefS m l K s f):2<=s.Suffix.length:=by
 obtain⟨a,b,v,e,_⟩:=S.ch.two S.R;rw[e];simp
def RefS.add_facts(S:RefS m l K s f):(addS m l s f).length+1<=s.Suffix.length/\(askS m l s f).length<=2+2*s.Suffix.length /\
  (∀x∈addS m l s f,x.length<=K+s.Suffix.length/\WOk m.I x/\∃y a,x=y++[a]/\(y∈l.Short\/y∈addS m l s f))/\(∀x∈askS m l s f,x.length<=K+s.Suffix.length/\WOk m.I x)/\Split2 m l.X (l.Short++addS m l s f):=by
 obtain⟨h1,h2,h3,h4,h5⟩:=chG_facts S.R s.Suffix (upS s) f K S.ch;have hu:=S.ch.ul;have hf:=S.ch.kp f S.ch.rs;refine⟨by unfold addS;rw[H7];omega,by unfold askS;simp only[H7];omega,λx hx=>?_,λx hx=>?_,h5⟩
 ·rcases I2.1 hx with e|e
  ·rw[e];exact⟨by omega,S.ch.uw,s.Prefix,s.Symbol,rfl,.inl S.q⟩
  ·exact h3 x e
 ·rcases I2.1 hx with e|e
  ·rw[e,D7];exact⟨by omega,S.ch.uw.append S.ch.vw⟩
  ·rcases I2.1 e with e|e
   ·rw[e,D7];exact⟨by omega,(S.R.pwk f S.ch.rs).append S.ch.vw⟩
   ·exact h4 x e
def mem_rowU{S:A3}{y x:A2}:x∈rowU m S y↔∃a:Nat,a<m.I.toNat/\∃e∈S,x=y++[(a:Int)]++e:=by
 unfold rowU;rw[L6];constructor
 ·rintro⟨a,ha,h⟩;obtain⟨e,he,h⟩:=D8.1 h;exact⟨a,M8.1 ha,e,he,h.symm⟩
 ·rintro⟨a,ha,e,he,h⟩;exact⟨a,M8.2 ha,D8.2 ⟨e,he,h.symm⟩⟩
def rowU_len(S:A3)(y:A2):(rowU m S y).length=m.I.toNat*S.length:=by
 unfold rowU;generalize m.I.toNat=n
 have:∀l:List Nat,(l.flatMap λ(a:Nat)=>S.map λe=>y++[(a:Int)]++e).length=l.length*S.length:=λl=>by
  induction l with
  |nil=>simp
  |cons a l ih=>rw[P1,D7,E1,ih,H7,mC];omega
 rw[this,aE]
def RefS.all_len(S:RefS m l K s f):(allU m l s f).length<=50+60*23:=by
 obtain⟨h1,h2,_⟩:=S.add_facts;have hv:=S.vl;have a2:=S.s5;have hn:=S.n4;unfold allU;rw[D7]
 have:∀A:A3,(A.flatMap (rowU m l.X)).length<=60*A.length:=λA=>by
  induction A with
  |nil=>simp
  |cons y A ih =>
   rw[P1,D7,rowU_len,H7];have:m.I.toNat*l.X.length<=4*15:=jH (by omega) a2;omega
 have:=this (addS m l s f);omega
def RefS.all_chk(S:RefS m l K s f):∀x∈allU m l s f,H1 x m.I=0:=λx hx=>by
 obtain⟨h1,h2,h3,h4,_⟩:=S.add_facts;have hv:=S.vl;have hk:=S.kl;have i1:=S.R.H.i1;have i2:=S.R.H.i2;rcases K0.1 hx with h|h
 ·obtain⟨q1,q2⟩:=h4 x h;exact kA ⟨i1,by omega⟩ q2 (by omega)
 ·obtain⟨y,hy,h⟩:=L6.1 h;obtain⟨a,ha,e,he,rfl⟩:=mem_rowU.1 h;obtain⟨q1,q2,_⟩:=h3 y hy;have:=S.R.tab.sw e he;refine kA ⟨i1,by omega⟩ ((q2.append λz hz=>?_).append (S.R.swk e he)) (by simp only[D7,S6];omega);rw[K2.1 hz];omega
def RefS.valid(S:RefS m l K s f):V0 (X9 l (addS m l s f))=0:=by
 obtain⟨h1,_,h3,_,_⟩:=S.add_facts;obtain⟨a9,a4⟩:=pG S.R.val;obtain⟨a6,_,b7,b0,a3,_,_,b5⟩:=Z9 a9;obtain⟨b2,b3,a7,a8⟩:=aL a9;have hI:(lazT l).I=m.I:=S.R.inp;have hn:m.I<=4:=S.n4;have b6:=S.p5;have b4:=S.s5;have hv:=S.vl;have hk:=S.kl;have a5:=pI (l.Short++addS m l s f);rw[D7]at a5;have a2:∀z,z∈sortW (l.Short++addS m l s f)↔z∈l.Short\/z∈addS m l s f:=λz=>by rw[aC,K0]
 have h0:([]:A2)∈sortW (l.Short++addS m l s f):=(a2 _).2 (.inl a7)
 have hv:M5 ⟨l.I,sortW (l.Short++addS m l s f),l.X⟩=0:=by
  refine zJ a6 (by show l.I<=4;rw[S.R.inp];exact hn) (List.ne_nil_of_mem h0) (by simp only;omega) (by simp only;omega) (S1 (jH (bD 5 (m:=330) (by simp only;omega)) (show l.X.length<=15 from b4)) (by decide)) (cC _) b0 (λz hz=>?_) (λz hz=>⟨(a8 z hz).1,(a8 z hz).2,by have:=S.R.tab.sw z hz;omega⟩) (λz hz h0=>?_) h0 a3
  ·rcases (a2 z).1 hz with h|h
   ·exact⟨b2 z h,by have:=S.ch.kp z h;omega⟩
   ·obtain⟨q1,q2,_⟩:=h3 z h;exact⟨kA ⟨a6,by show l.I<=1024;rw[S.R.inp];omega⟩ (by show WOk l.I z;rw[S.R.inp];exact q2) (by omega),by omega⟩
  ·rcases (a2 z).1 hz with h|h
   ·exact(a2 _).2 (.inl (b3 z h h0))
   ·obtain⟨_,_,y,a,e,q⟩:=h3 z h;refine(a2 _).2 ?_;rw[e,D7,S6,xG,GR];exact q
 exact rC hv a4
def ref_two(S:RefS m l K s f)(O:RefO m l o):eS l o s=(X9 l (addS m l s f),[],0)\/∃W,eS l o s=(l,W,0)/\W≠[]/\∀x∈W,ansO o x=none/\x∈allU m l s f:=by
 have a4:chkL l o=0:=by
  unfold chkL;rw[if_neg (λh=>h S.R.val),if_neg (λh=>h (by rw[S.R.inp,O.told.inp]))]
 have i1:=S.R.H.i1;have i2:=S.R.H.i2;have b3:=S.kl;have b2:=S.vl;have a5:=S.v2;have b4:=S.ch.kp _ S.q;have a9:=S.ch.ul
 have a3:iB s l.I=0:=by
  have a0:=S.a0;have a1:=S.a1;unfold iB;rw[S.R.inp,kA ⟨i1,by omega⟩ (S.R.pwk _ S.q) (by omega),if_neg (λh=>h rfl),if_neg (by omega),if_neg (λe=>by rw[e]at a5;simp at a5)];exact kA ⟨i1,by omega⟩ S.ch.vw (by omega)
 have a2:J5 o (upS s) l.X=[]:=kn_miss O.told.ex λe he=>O.all _ (dW.2 ⟨s.Prefix,S.q,upS s,by
  have a0:=S.a0
  have a1:=S.a1
  unfold upS
  rw[show s.Symbol=(s.Symbol.toNat:Int) by omega]
  exact oK (by omega) _,e,he,rfl⟩)
 have key:refR l o (upS s) s.Suffix=(addS m l s f,[],0)\/∃W,refR l o (upS s) s.Suffix=([],W,0)/\W≠[]/\∀x∈W,ansO o x=none/\x∈allU m l s f:=by
  have a8:∀e∈l.X,e.length<=80:=S.R.tab.sw;unfold refR
  rcases xW (o:=o) (S:=l.X) (ws:=[upS s]) (λw hw e he=>by
   have:=a8 e he
   rw[K2.1 hw,D7];omega) with⟨g1,g2⟩|⟨g1,g2,g3,g4⟩
  ·rw[if_neg (by rw[g1];decide),(nA O.told.ex l.X).1 (oC O.told.ex a2),Q3,O.cls,S.cls];simp only;have b0:=S.ch.kp f S.ch.rs
   rcases xW (o:=o) (S:=[s.Suffix]) (ws:=[upS s,f]) (λw hw e he=>by
    rw[K2.1 he]
    rcases I2.1 hw with e|e
    ·rw[e,D7];omega
    ·rw[K2.1 e,D7];omega) with⟨q1,q2⟩|⟨q1,q2,q3,q4⟩
   ·have a7:Kn o (upS s++s.Suffix):=oC O.told.ex (q2 (upS s) (by simp)) s.Suffix (by simp);have a6:Kn o (f++s.Suffix):=oC O.told.ex (q2 f (by simp)) s.Suffix (by simp);rw[if_neg (by rw[q1];decide),rZ O.told.ex a7,rZ O.told.ex a6,if_neg S.ch.tl];rcases chain_run S.R O s.Suffix (upS s) f [upS s] K S.ch with e|⟨W,e1,e2,e3⟩
    ·left;rw[e,GZ];rfl
    ·right;refine⟨W,e1,e2,λx hx=>?_⟩;obtain⟨k1,k2⟩:=e3 x hx;refine⟨k1,K0.2 ?_⟩;rcases k2 with h|⟨y,hy,a,ha,e,he,h⟩
     ·exact .inl (K3 _ (K3 _ h))
     ·exact .inr (L6.2 ⟨y,hy,mem_rowU.2 ⟨a,by omega,e,he,h⟩⟩)
   ·right;rw[if_pos q1];refine⟨_,by rw[<- q2],q3,λx hx=>?_⟩;obtain⟨k1,w,hw,e,he,k2⟩:=q4 x hx;rw[K2.1 he]at k2;refine⟨k1,M1 _ ?_⟩;rcases I2.1 hw with h|h
    ·rw[k2,h];exact aP ..
    ·rw[k2,K2.1 h];exact K3 _ (aP ..)
  ·exfalso;obtain⟨x,hx⟩:=MM _ g3;obtain⟨k1,w,hw,e,he,k2⟩:=g4 x hx;rw[K2.1 hw]at k2;have:x∈J5 o (upS s) l.X:=cY.2 ⟨⟨e,he,k2⟩,k1⟩;rw[a2]at this;cases this
 unfold eS;rw[if_neg (λh=>h a4),if_neg (λh=>h a3)];rcases key with e|⟨W,e1,e2,e3⟩
 ·left;rw[show s.Prefix++[s.Symbol]=upS s from rfl,e];have:P9 (([]:A3),(0:Int))=false:=by decide
  simp only;rw[this,if_neg W5,if_neg (λh=>h S.valid)]
 ·right;refine⟨W,?_,e2,e3⟩;rw[show s.Prefix++[s.Symbol]=upS s from rfl,e1];have:P9 (W,(0:Int))=true:=by unfold P9;simp[e2]
  simp only;rw[this,if_pos rfl]
def nxR(m:B7)(l:C7)(s:J8)(o:A6):Option A6:=if(eS l o s).2.1≠[] then some (K4 m o (eS l o s).2.1) else none
def muR(F:A3)(o:A6):Nat:=(F.filter λx=>decide (ansO o x=none)).length
structure RefT(m:B7)(l:C7)(s:J8)(f:A2)(I0:A3)(o:A6):Prop where
 O:RefO m l o
 cs:∀t∈o.T,t.In∈I0\/t.In∈allU m l s f
variable {I0:A3}
def RefT.one(S:RefS m l K s f)(T:RefT m l s f I0 o)(hI:I0.length+1430<=10000){W:A3}(hne:W≠[])(hW:∀x∈W,ansO o x=none/\x∈allU m l s f) :
  (K4 m o W).T.length<=10000/\RefT m l s f I0 (K4 m o W)/\muR (allU m l s f) (K4 m o W)<muR (allU m l s f) o:=by
 have hF:=S.all_len;have hc:∀z∈W,H1 z m.I=0:=λz hz=>S.all_chk z (hW z hz).2
 have cs:∀t∈(K4 m o W).T,t.In∈I0\/t.In∈allU m l s f:=λt ht=>by
  rcases rF _ _ ht with h|h
  ·exact T.cs t h
  ·exact .inr (hW _ h).2
 have hl:(K4 m o W).T.length<=10000:=by
  have:=trs_len (yB W o T.O.told.ok.trs) (k:=I0++allU m l s f) λt ht=>K0.2 (cs t ht);rw[D7]at this;omega
 have T':=uC S.R.H W o T.O.told hc hl;refine⟨hl,⟨⟨T',λv hv=>(oI _ _).2 (.inl (T.O.all v hv))⟩,cs⟩,?_⟩;obtain⟨x,hx⟩:=MM _ hne;unfold muR;refine Nat.lt_of_succ_le ((EK λy _ hy=>?_).2 ⟨x,(hW x hx).2,D3 (hW x hx).1,E2 λg=>(jL T').1 g ((oI _ _).2 (.inr ⟨x,hx,eC _⟩))⟩);have hy:=of_decide_eq_true hy;exact D3 ((jL T.O.told).2 λg=>(jL T').1 hy ((oI _ _).2 (.inl g)))
def RefT.step(S:RefS m l K s f)(hI:I0.length+1430<=10000):∀o p,RefT m l s f I0 o->nxR m l s o=some p->RefT m l s f I0 p/\muR (allU m l s f) p<muR (allU m l s f) o:=λo p T hn=>by
 unfold nxR at hn;rcases ref_two S T.O with e|⟨W,e1,e2,e3⟩
 ·rw[e]at hn;rw[if_neg (λh=>h rfl)]at hn;cases hn
 ·rw[e1]at hn;simp only at hn;rw[if_pos e2]at hn;injection hn with hn
  rw[<- hn];exact(RefT.one S T hI e2 e3).2
def muR_le(S:RefS m l K s f):muR (allU m l s f) o<=1430:=by
 have:=nR (λx=>decide (ansO o x=none)) (allU m l s f);have:=S.all_len;unfold muR;omega
def ref_end(S:RefS m l K s f)(hI:I0.length+1430<=10000)(T:RefT m l s f I0 o):RefT m l s f I0 (runO (nxR m l s) 1500 o):=(runO_inv (RefT.step S hI) 1500 o T (by have:=muR_le (o:=o) S;omega)).1
def prog_ref(hv:Q9 m=0)(S:RefS m l K s f)(hI:I0.length+1430<=10000)(T:RefT m l s f I0 o) :
  iter (λ(x:Int×List A8)=>W4.s3 l m s.Prefix s.Symbol s.Suffix x.1 x.2) fuel (o.I,o.T)=some (X9 l (addS m l s f),runO (nxR m l s) 1500 o,0):=by
 have hm:=muR_le (o:=o) S;have hk:=S.kl;have a4:=S.ch.kp _ S.q;have a3:=S.vl;have hF:=S.all_len;refine uE (st:=λo=>(o.I,o.T)) (fin:=λo=>(X9 l (addS m l s f),o,(0:Int))) (RefT.step S hI) (λo T hn=>?_) (λo p T hn=>?_) 1500 fuel o T (by omega) (by have:=O9;omega)
 all_goals
  simp only;unfold W4.s3;rw[show(⟨o.I,o.T⟩:A6)=o from rfl,show(⟨s.Prefix,s.Symbol,s.Suffix⟩:J8)=s from rfl,lazy_Refine_eq T.O.told.smR T.O.told.ok S.R.tab (show s.Prefix.length<=_ by omega) (show s.Suffix.length<=_ by omega),A5];unfold nxR at hn;rcases ref_two S T.O with e|⟨W,e1,e2,e3⟩
 ·rw[e];rfl
 ·rw[e1]at hn;simp only at hn;rw[if_pos e2]at hn;cases hn
 ·rw[e]at hn;rw[if_neg (λh=>h rfl)]at hn;cases hn
 ·obtain⟨k1,k2,_⟩:=RefT.one S T hI e2 e3;rw[e1]at hn ⊢;simp only at hn ⊢;rw[if_pos e2]at hn;injection hn with hn
  subst hn;have hW:=qI e2
  have a2:W.length<=2000000:=by
   have:=(refineL_ok (o:=o) S.R.tab (s:=s)).2.2.1;rw[e1]at this;exact S1 this (by decide)
  rw[B5 (by decide),E2 (by omega),A5,D6,vM hv T.O.told (λz hz=>S.all_chk z (e3 z hz).2) a2 k1,A5];rfl
end
end
section
section
variable {m:B7}{t:B8}{o:A6}{w:A2}
def first_of{r:Row}(hr:r∈K8 t o):∃p,(hypT t o).Access[pos r (K8 t o)]?=some p/\t.P.find? (λs=>decide (rowG t o s=r))=some p:=by
 obtain⟨i,h1,h2,h3,h4⟩:=rep_of hr;refine⟨M0 t i,?_,?_⟩
 ·show((fstI (J4 t o) t.P.length).map (M0 t))[pos r (K8 t o)]?=_;rw[K5,h1];rfl
 ·have hn:newAt (J4 t o) i=true:=(fK.1 (H8 h1)).2;have hp:M0 t i=t.P[i]:=by unfold M0;rw[get_at h2];rfl
  rw[List.find?_eq_some_iff_getElem];refine⟨D3 h4,i,h2,hp.symm,λj hj=>?_⟩;rw[sU,decide_eq_false_iff_not];intro e;unfold newAt J4 at hn;rw[K5,get_at h2]at hn;have hn:=of_decide_eq_true hn;refine hn ?_;rw[<- hp,h4,<- e];refine Q4.2 ⟨j,by rw[H6,E1];omega,?_⟩;rw[List.getElem_take,GV]
def hyp_fnd(HO:I7 t o)(T:P5 m o)(H:N0 m)(hI:t.I=m.I)(hw:WOk m.I w)(hl:w.length<=24)(hne:Sym.outs (hypT t o).M 0 w≠Sym.outs m m.S.toNat w):FndS m (hypT t o) w:=by
 refine⟨H,HO.mac,rfl,λs hs=>?_,HO.acc0,HO.valid_prog,HO.valid22,hI,hw,hl,hne⟩;obtain⟨q,h1,h2,h3,h4,_,h6⟩:=HO.acc hs;refine⟨q,h2,h6,by rw[<- hI];exact h4,λa ha=>?_⟩;have:=HO.ot_t T h1 (a:=a) (by rw[hI];exact ha);rw[<- this,<- h3,(HO.walk _ q rfl h1).2]
def compT_need(hz:Q8 t o=0):L1 o t t.P=[]:=by
 unfold Q8 at hz;split at hz
 ·rename_i g;exact absurd hz g
 ·split at hz
  ·assumption
  ·cases hz
def cells_known(HO:I7 t o)(T:P5 m o):∀v∈bG t.I.toNat t.X t.P,Kn o v:=λv hv=>Q5 λh=>by
 have:=mem_needL.2 ⟨hv,(jL T).2 h⟩;rw[compT_need HO.hz]at this;cases this
def split_ref{l:C7}{i B:Nat}(HO:I7 (lazT l) o)(T:P5 m o)(F:FndS m (hypT (lazT l) o) w)(hI:l.I=m.I)(hv:V0 l=0)(hi:i<w.length)
  (e1:Sym.outs m (dest m m.S.toNat (acW (hypT (lazT l) o) w i)) (w.drop i)≠Sym.outs (hypT (lazT l) o).M (stW (hypT (lazT l) o) w i) (w.drop i))
  (e2:Sym.outs m (dest m m.S.toNat (acW (hypT (lazT l) o) w (i+1))) (w.drop (i+1))=Sym.outs (hypT (lazT l) o).M (stW (hypT (lazT l) o) w (i+1)) (w.drop (i+1)))
  (hB:∀p∈l.Short,p.length<=B) (hB2:B<=369) (hn4:m.I<=4) (hp:l.Short.length<=300) (hs:l.X.length<=15) :
  RefS m l (B+1) ⟨acW (hypT (lazT l) o) w i,(w[i]?).getD 0,w.drop (i+1)⟩ (acW (hypT (lazT l) o) w (i+1)):=by
 have a2:(lazT l).I=m.I:=hI;have b9:(hypT (lazT l) o).M.I=m.I:=hI;have hH:=F.H;have b8:=F.wl;obtain⟨b4,_,_,b7⟩:=aL (pG hv).1;obtain⟨_,_,_,_,a5,_,_,_⟩:=Z9 (pG hv).1;have hw:=F.wk _ (H9 hi);obtain⟨a,ha⟩:=pZ hw.1;have a6:w[i]?=some (a:Int):=by rw[get_at hi,ha]
 have a3:a<m.I.toNat:=by omega
 have hd:w.drop i=(a:Int)::w.drop (i+1):=by rw[cR hi,ha]
 obtain⟨q,q1,q2,q3,_⟩:=HO.acc (F.stl i);obtain⟨k1,k2,k3,k4⟩:=F.ac i
 have eq:q=acW (hypT (lazT l) o) w i:=by
  rw[k1]at q2;injection q2 with q2
  exact q2.symm
 rw[eq]at q1 q3;have a7:stt (lazT l) o (acW (hypT (lazT l) o) w i)=stW (hypT (lazT l) o) w i:=by rw[<- (HO.walk _ _ rfl q1).2,q3]
 have b0:=HO.nx_t T q1 (a:=a) (by rw[a2];exact a3);rw[a7,<- st_succ a6]at b0;have b3:=HO.ext_t T q1 (a:=a) (by rw[a2];exact a3);have b2:=HO.closed q1 (a:=a) (by rw[a2];exact a3);rw[b3]at b2;obtain⟨p,p1,p2⟩:=first_of b2;rw[<- b0]at p1;obtain⟨k5,_⟩:=F.ac (i+1)
 have ep:p=acW (hypT (lazT l) o) w (i+1):=by
  rw[k5]at p1;injection p1 with p1
  exact p1.symm
 rw[ep]at p2
 have a4:clsT m l (trow m l.X (acW (hypT (lazT l) o) w i++[(a:Int)]))=some (acW (hypT (lazT l) o) w (i+1)):=by
  rw[<- p2];unfold clsT;refine find_congr λs hs=>?_;have:=HO.row_t T (p:=s) hs;rw[this];rfl
 have b6:acW (hypT (lazT l) o) w (i+1)∈l.Short:=dE a4;have b5:=of_decide_eq_true (mE (p:=λs=>decide (trow m l.X s=trow m l.X (acW (hypT (lazT l) o) w i++[(a:Int)]))) a4);have wa:WOk m.I [(a:Int)]:=λx hx=>by rw[K2.1 hx];omega
 have a8:acW (hypT (lazT l) o) w i∈l.Short:=q1;have c0:=hB _ a8;have eg:(w[i]?).getD 0=(a:Int):=by rw[a6];rfl
 rw[eg]
 have a9:∀p∈l.Short,WOk m.I p:=λp hp=>by
  have:=aB (b4 p hp);rw[a2]at this;exact this
 refine⟨⟨hH,hI,hv,HO.ht,λb hb=>a5 b (M8.2 (by rw[a2];omega)),a9,λe he=>?_,λr hr b hb=>?_⟩,a8,by simp only;omega,by simp only;omega,a4,⟨b5.symm,b6,?_,λx hx=>F.wk x (V7 hx),k3.append wa,λp hp=>by have:=hB p hp;omega,by rw[D7,S6];simp only;omega,by simp only[O5];omega⟩,by simp only[O5];omega,hn4,hp,hs,by omega⟩
 ·have:=aB (b7 e he).1;rw[a2]at this;exact this
 ·obtain⟨q,hq,e,_⟩:=HO.rep (p:=r) hr (a:=b) (by rw[a2];omega);rw[HO.row_t T hq,HO.ext_t T (p:=r) hr (by rw[a2];omega)]at e;exact⟨q,hq,e⟩
 ·simp only;rw[e2,st_succ a6,lM,P0];intro e;apply e1;rw[hd,eW,eW,P0,k4 a a3,e]
end
section
variable {m:B7}{l:C7}{o:A6}{w:A2}{h:E3}{K:Nat}
def o2L(m:B7)(h:E3)(o:A6)(w:A2):A6:=runO (nxF m h w) 25 (K4 m o [w])
def spL(m:B7)(h:E3)(o:A6)(w:A2):J8:=(O7 h (o2L m h o w) w).1
def o3L(m:B7)(l:C7)(h:E3)(o:A6)(w:A2):A6:=runO (nxR m l (spL m h o w)) 1500 (o2L m h o w)
def ctxC(m:B7)(l:C7)(h:E3)(o:A6)(w f:A2):A3:=w::(List.range w.length).map (qW h w)++askS m l (spL m h o w) f
structure CtxIn(m:B7)(l:C7)(h:E3)(o:A6)(w:A2):Prop where
 F:FndS m h w
 T:P5 m o
 all:∀v∈bG m.I.toNat l.X l.Short,Kn o v
 num:o.T.length<=8500
 ref:∀i,i<w.length->Sym.outs m (dest m m.S.toNat (acW h w i)) (w.drop i)≠Sym.outs h.M (stW h w i) (w.drop i)->Sym.outs m (dest m m.S.toNat (acW h w (i+1))) (w.drop (i+1))=Sym.outs h.M (stW h w (i+1)) (w.drop (i+1)) ->
  RefS m l K ⟨acW h w i,(w[i]?).getD 0,w.drop (i+1)⟩ (acW h w (i+1))
end
end
section
def kn_run{nx:A6->Option A6}(h:∀o p,nx o=some p->∀v,Kn o v->Kn p v):∀n o v,Kn o v->Kn (runO nx n o) v
 |0,_,_,hk=>hk
 |n+1,o,v,hk=>by
  unfold runO;cases e:nx o with
  |none=>exact hk
  |some p=>exact kn_run h n p v (h o p e v hk)
section
variable {m:B7}{l:C7}{o:A6}{w:A2}{h:E3}{K:Nat}
def nxF_kn:∀o p,nxF m h w o=some p->∀v,Kn o v->Kn p v:=λo p hn v hk=>by
 unfold nxF at hn;split at hn
 ·injection hn with hn
  rw[<- hn];exact(oI _ _).2 (.inl hk)
 ·cases hn
def told_len(F:FndS m h w)(hN:o.T.length+1<=10000):(K4 m o [w]).T.length<=10000:=by
 have:=zq14 o.T (tr m w);show(addL o.T (tr m w)).length<=10000;omega
def FndO.start{I0:A3}(F:FndS m h w)(T:P5 m o)(hI:∀t∈o.T,t.In∈I0)(hN:o.T.length+1<=10000):FndO m h w (w::I0) (K4 m o [w]):=by
 refine⟨uC F.H [w] o T (λz hz=>by rw[K2.1 hz];exact F.chk) (told_len F hN),(tO _ _).2 (.inr (eC _)),λt ht=>.inl ?_⟩;rcases rF _ _ ht with h|h
 ·exact K3 _ (hI t h)
 ·rw[K2.1 h];exact aP ..
structure CtxR(m:B7)(l:C7)(h:E3)(o:A6)(w:A2)(K:Nat)(f:A2):Prop where
 fnd:O7 h (o2L m h o w) w=(spL m h o w,[],0)
 O1:FndO m h w (w::o.T.map λt=>t.In) (K4 m o [w])
 O2:FndO m h w (w::o.T.map λt=>t.In) (o2L m h o w)
 S:RefS m l K (spL m h o w) f
 I1:((o2L m h o w).T.map λt=>t.In).length+1430<=10000
 T2:RefT m l (spL m h o w) f ((o2L m h o w).T.map λt=>t.In) (o2L m h o w)
 T3:RefT m l (spL m h o w) f ((o2L m h o w).T.map λt=>t.In) (o3L m l h o w)
 vl:(spL m h o w).Suffix.length+1<=w.length
def ctx_run(C:CtxIn (K:=K) m l h o w):∃f,CtxR m l h o w K f:=by
 have F:=C.F;have a4:=C.num;have a6:=F.wl;have O1:=FndO.start (I0:=o.T.map λt=>t.In) F C.T (λt ht=>D8.2 ⟨t,ht,rfl⟩) (by omega);have hI:(w::o.T.map λt=>t.In).length+25<=10000:=by rw[H7,E1];omega
 obtain⟨O2,i,h1,h2,h3,h4⟩:=find_end F hI O1
 have a2:spL m h o w=⟨acW h w i,(w[i]?).getD 0,w.drop (i+1)⟩:=by
  unfold spL o2L;rw[h2]
 have S:=C.ref i h1 h3 h4;rw[<- a2]at S
 have a5:(o2L m h o w).T.length<=8525:=by
  have:=trs_len O2.told.ok.trs (k:=(w::o.T.map λt=>t.In)++(List.range w.length).map (qW h w)) λt ht=>by
   rcases O2.cs t ht with h|⟨i,hi,h⟩
   ·exact M1 _ h
   ·exact M2 _ (D8.2 ⟨i,M8.2 hi,h.symm⟩)
  rw[D7,H7,E1,E1,aE]at this;unfold o2L;omega
 have a3:((o2L m h o w).T.map λt=>t.In).length+1430<=10000:=by rw[E1];omega
 have T2:RefT m l (spL m h o w) (acW h w (i+1)) ((o2L m h o w).T.map λt=>t.In) (o2L m h o w):=⟨⟨O2.told,λv hv=>kn_run nxF_kn 25 _ v ((tO _ _).2 (.inl (C.all v hv)))⟩,λt ht=>.inl (D8.2 ⟨t,ht,rfl⟩)⟩;refine⟨acW h w (i+1),?_,O1,O2,S,a3,T2,ref_end S a3 T2,?_⟩
 ·rw[a2];exact h2
 ·rw[a2];simp only[O5];omega
variable {f:A2}
def CtxR.ins(R:CtxR m l h o w K f):∀t∈(o3L m l h o w).T,(∃u∈o.T,t.In=u.In)\/t.In∈ctxC m l h o w f\/∃y∈addS m l (spL m h o w) f,t.In∈rowU m l.X y:=λt ht=>by
 rcases R.T3.cs t ht with h1|h1
 ·obtain⟨u,hu,e⟩:=D8.1 h1;rw[<- e];rcases R.O2.cs u hu with h2|⟨i,hi,h2⟩
  ·rcases I2.1 h2 with h3|h3
   ·exact .inr (.inl (by rw[h3];exact M1 _ (aP ..)))
   ·obtain⟨v,hv,h3⟩:=D8.1 h3;exact .inl ⟨v,hv,h3.symm⟩
  ·exact .inr (.inl (by rw[h2];exact M1 _ (K3 _ (D8.2 ⟨i,M8.2 hi,rfl⟩))))
 ·rcases K0.1 h1 with h2|h2
  ·exact .inr (.inl (M2 _ h2))
  ·obtain⟨y,hy,h3⟩:=L6.1 h2;exact .inr (.inr ⟨y,hy,h3⟩)
def CtxR.ctxC_len(R:CtxR m l h o w K f)(hw:w.length<=24):(ctxC m l h o w f).length<=75:=by
 obtain⟨_,h2,_⟩:=R.S.add_facts;have:=R.vl;unfold ctxC;rw[D7,H7,E1,aE];omega
def zq24(hv:Q9 m=0)(F:FndS m h w)(T:P5 m o)(hN:o.T.length<=8500)(R:CtxR m l h o w K f):W4 l o m h w=some (X9 l (addS m l (spL m h o w) f),o3L m l h o w,0):=by
 have hI:(w::o.T.map λt=>t.In).length+25<=10000:=by rw[H7,E1];omega
 have e2:runO (nxF m h w) 25 (K4 m o [w])=o2L m h o w:=rfl;unfold W4;rw[vM hv T (λz hz=>by rw[K2.1 hz];exact F.chk) (by simp) (told_len F (by omega)),A5];simp only;rw[B5 (by decide),KN (F.fnd R.O1),A5,prog_find hv F hI R.O1,A5];simp only[aO];rw[e2,R.fnd];unfold W4.k4;simp only;rw[B5 (by decide)];exact prog_ref hv R.S R.I1 R.T2
end
end
section
def filter_two{V:Type}(p:V->Bool):∀l:List V,(l.filter p).length+(l.filter λx=>!p x).length=l.length
 |[]=>rfl
 |x::l=>by
  have:=filter_two p l;cases h:p x with
  |true=>rw[xB h,CI (by simp[h]),H7,H7];omega
  |false=>rw[CI (by simp[h]),xB (by simp[h]),H7,H7];omega
def nextW(n:Nat)(P:A3):A3:=P.flatMap λp=>(List.range n).map λ(a:Nat)=>p++[(a:Int)]
def nextW_len(n:Nat):∀P:A3,(nextW n P).length=n*P.length
 |[]=>rfl
 |p::P=>by
  have:=nextW_len n P;unfold nextW at this ⊢;rw[P1,D7,E1,aE,this,H7,Nat.mul_succ];omega
def extN(n:Nat)(P:A3):A3:=(nextW n P).filter λw=>!decide (w∈P)
def mem_next{n:Nat}{P:A3}{p:A2}{a:Nat}(hp:p∈P)(ha:a<n):p++[(a:Int)]∈nextW n P:=L6.2 ⟨p,hp,D8.2 ⟨a,M8.2 ha,rfl⟩⟩
def extN_len{n:Nat}{P:A3}(hnd:P.Nodup)(hcl:∀w∈P,0<w.length->w.take (w.length-1)∈P)(hw:∀w∈P,∀x∈w,(0:Int)<=x/\x<n):(extN n P).length+P.length<=n*P.length+1:=by
 have h1:=filter_two (λw=>decide (w∈P)) (nextW n P)
 have h2:P.length<=([]::(nextW n P).filter λw=>decide (w∈P)).length:=qV hnd λw h=>by
  rcases BU w with e|⟨v,x,e⟩
  ·rw[e];simp
  ·rw[HA]at e;have hv:=hcl w h (by rw[e];simp);rw[e,D7,S6,xG,List.take_left' rfl]at hv;have hx:=hw w h x (by rw[e];simp);obtain⟨a,rfl⟩:=pZ hx.1;refine K3 _ (fK.2 ⟨by rw[e];exact mem_next hv (by omega),by simp[h]⟩)
 rw[H7]at h2;rw[nextW_len]at h1;unfold extN;omega
section
variable {m:B7}{t:B8}{o:A6}{c x:Nat}{g:Bool}{C:A3}
def cell_walk{n:Nat}{P S:A3}(hS:∀e∈S,e.drop 1∈S\/e.drop 1=[])(hw:∀e∈S,∀y∈e,(0:Int)<=y/\y<n):∀(e w:A2),e∈S\/e=[]->w∈P\/w∈extN n P->w++e∈P\/w++e∈extN n P\/∃v∈extN n P,∃f∈S,v++f=w++e
 |[],w,_,h=>by
  rw[S5];rcases h with h|h
  ·exact .inl h
  ·exact .inr (.inl h)
 |a::e,w,he,h=>by
  have he:a::e∈S:=by
   rcases he with h|h
   ·exact h
   ·cases h
  rcases h with h|h
  ·have ha:=hw _ he a (by simp);obtain⟨a,rfl⟩:=pZ ha.1
   have h1:w++[(a:Int)]∈P\/w++[(a:Int)]∈extN n P:=by
    by_cases g:w++[(a:Int)]∈P
    ·exact .inl g
    ·exact .inr (fK.2 ⟨mem_next h (by omega),by simp[g]⟩)
   have:=cell_walk hS hw e (w++[(a:Int)]) (hS _ he) h1;rw[U8,GZ]at this;exact this
  ·exact .inr (.inr ⟨w,h,_,he,rfl⟩)
def traces_le(hT:eK o.T)(hval:M5 t=0)(hS:∀e∈t.X,e.drop 1∈t.X\/e.drop 1=[])(hcs:∀u∈o.T,u.In∈C\/u.In∈bG t.I.toNat t.X t.P)
  (hk:∀v∈bG t.I.toNat t.X t.P,Kn o v):o.T.length<=C.length+(extN t.I.toNat t.P).length*t.X.length:=by
 obtain⟨a8,_,_,_,a3,_,_,_⟩:=Z9 hval;obtain⟨a9,a7,b0,a4⟩:=aL hval
 have a6:(o.T.map λu=>u.In).Nodup:=by
  unfold List.Nodup;rw[sS]
  exact hT.asc.imp λ{a b} h e=>by
   rw[e,cA]at h;cases h
 have h0:[(0:Int)]∈t.X:=a3 0 (M8.2 (by omega))
 -- what follows is known too
 have a2:∀u∈o.T,(∃p∈t.P,u.In∈N6 t.I.toNat p)->False:=λu hu ⟨p,hp,h⟩=>by
  rcases hk (u.In++[(0:Int)]) (dW.2 ⟨p,hp,_,h,_,h0,rfl⟩) with e|⟨u',hu',hpre⟩
  ·simp at e
  ·have:=hT.one hu hu' ((HP _ _).trans hpre);subst this;have:=hpre.length_le;rw[D7,S6]at this;omega
 have:=qV (k:=C++(extN t.I.toNat t.P).flatMap λw=>t.X.map λe=>w++e) a6 λv hv=>by
  obtain⟨u,hu,rfl⟩:=D8.1 hv;rcases hcs u hu with h|h
  ·exact M1 _ h
  ·refine M2 _ ?_;obtain⟨p,hp,w,hw,e,he,h⟩:=dW.1 h
   have a5:w∈t.P\/w∈extN t.I.toNat t.P:=by
    unfold N6 at hw;rcases I2.1 hw with rfl|hw
    ·exact .inl hp
    ·obtain⟨a,ha,rfl⟩:=D8.1 hw;by_cases g:p++[(a:Int)]∈t.P
     ·exact .inl g
     ·exact .inr (fK.2 ⟨mem_next hp (M8.1 ha),by simp[g]⟩)
   rcases cell_walk hS (λe he y hy=>by have:=aB (a4 e he).1 y hy;omega) e w (.inl he) a5 with h3|h3|⟨v,hv,f,hf,h3⟩
   ·rw[h]at h3;exact(a2 u hu ⟨_,h3,rI _ _⟩).elim
   ·rw[h]at h3;obtain⟨q,hq,h4⟩:=L6.1 (fK.1 h3).1;obtain⟨a,ha,h5⟩:=D8.1 h4;exact(a2 u hu ⟨q,hq,by rw[<- h5];exact oK (M8.1 ha) q⟩).elim
   ·rw[h]at h3;exact L6.2 ⟨v,hv,D8.2 ⟨f,hf,h3⟩⟩
 rw[E1,D7]at this
 have e:∀l:A3,(l.flatMap λw=>t.X.map λe=>w++e).length=l.length*t.X.length:=λl=>by
  induction l with
  |nil=>simp
  |cons y l ih=>rw[P1,D7,E1,ih,H7,mC];omega
 rw[e]at this;exact this
def tri:Nat->Nat
 |0=>0
 |k+1=>tri k+(k+13)
structure RunL(m:B7)(t:B8)(o:A6)(mode:Int)(c x:Nat)(g:Bool):Prop where
 J:RunI m t o c x g
 m0:mode=0->t.P.length<=1+x+tri (kT m t-(if g=true then 0 else 1))/\t.X.length<=4+x
 m1:mode=1->t.P.length<=1+x/\t.X.length<=4+x+tri (kT m t-(if g=true then 0 else 1))
 g11:g=true->kT m t<=11
 cs:∃C:A3,C.length<=c/\∀u∈o.T,u.In∈C\/u.In∈bG t.I.toNat t.X t.P
end
end
section
abbrev kL(m:B7)(l:C7):Nat:=kN m l.X l.Short
def tri2:Nat->Nat
 |0=>0
 |k+1=>tri2 k+(k+12)
def rD:∀{b a:Nat},a<=b->tri2 a<=tri2 b
 |0,a,h=>by rw[Nat.le_zero.1 h];exact H4 _
 |b+1,a,h=>by
  rcases Nat.lt_or_eq_of_le h with h|h
  ·have:=rD (b:=b) (a:=a) (by omega);show tri2 a<=tri2 b+(b+12);omega
  ·rw[h];exact H4 _
structure LzI(m:B7)(l:C7)(o:A6)(c x:Nat)(g:Bool):Prop where
 told:P5 m o
 val:V0 l=0
 inp:l.I=m.I
 pl:l.Short.length<=1+x+tri2 (kL m l-(if g=true then 0 else 1))
 sl:l.X.length<=4+x
 pw:∀p∈l.Short,p.length<=25+x+25*c
 sw:∀e∈l.X,e.length<=25+x
 k1:1+x<=kL m l
 k2:c+(if g=true then 0 else 1)<=kL m l
 gh:g=true->Split2 m l.X l.Short
 cs:∃C:A3,C.length<=75*c/\∀u∈o.T,u.In∈C\/u.In∈bG m.I.toNat l.X l.Short
section
variable {m:B7}{l:C7}{o:A6}{c x:Nat}{g:Bool}
def LzI.wok(J:LzI m l o c x g):∀p∈l.Short,WOk m.I p:=λp hp=>by
 have:=(aL (pG J.val).1).1 p hp;rw[show(lazT l).I=m.I from J.inp]at this;exact aB this
def LzI.swok(J:LzI m l o c x g):∀p∈l.X,WOk m.I p:=λp hp=>by
 have:=((aL (pG J.val).1).2.2.2 p hp).1;rw[show(lazT l).I=m.I from J.inp]at this;exact aB this
def LzI.suf(J:LzI m l o c x g):∀e∈l.X,e.drop 1∈l.X\/e.drop 1=[]:=λe he=>by
 have:=O0.1 (pG J.val).2 e he;rw[pV,decide_eq_true_eq,decide_eq_true_eq]at this;rcases this with h|h
 ·exact .inr (jG h)
 ·exact .inl h
def split_lt(H:N0 m){S P:A3}(hP:∀p∈P,WOk m.I p)(h:Split2 m S P):kN m S P+1<=m.N.length:=by
 obtain⟨p,hp,q,hq,e,a,ha,a2⟩:=h;have:∃z∈S,Sym.outs m (dest m m.S.toNat (p++[(a:Int)])) z≠Sym.outs m (dest m m.S.toNat (q++[(a:Int)])) z:=Q5 λg=>a2 (nV λz hz=>Q5 λh=>g ⟨z,hz,h⟩);obtain⟨z,hz,a2⟩:=this;refine S1 (kN_split (S':=S++[(a:Int)::z]) hp hq (λy hy=>M1 _ hy) e λhh=>a2 ?_) (kN_le H hP);have h1:=oB hh (e:=(a:Int)::z) (by simp);rw[eW,eW]at h1;injection h1 with _ h1
 rw[lM,lM];exact h1
def LzI.bnd(J:LzI m l o c x g)(H:N0 m)(hn:m.N.length<=12):kL m l<=12/\x<=11/\c<=11/\l.Short.length<=199/\l.X.length<=15/\(g=true->kL m l<=11):=by
 have h1:kL m l<=m.N.length:=kN_le (S:=l.X) H J.wok;have h2:=J.k1;have h3:=J.k2;have h4:=J.pl;have h5:=J.sl
 have a2:g=true->kL m l<=11:=λe=>by
  have:kL m l+1<=m.N.length:=split_lt H J.wok (J.gh e);omega
 have ht:tri2 (kL m l-(if g=true then 0 else 1))<=187:=by
  refine S1 (rD (b:=11) ?_) (by decide);cases g with
  |true=>have:=a2 rfl;omega
  |false=>rw[if_neg W5];omega
 have h6:x<=11:=by omega
 refine⟨by omega,h6,?_,by omega,by omega,a2⟩;clear h4 ht;cases g with
 |true =>
  have:=a2 rfl;rw[if_pos rfl]at h3;omega
 |false =>
  rw[if_neg W5]at h3;omega
def LzI.tab(J:LzI m l o c x g)(H:N0 m)(hn:m.N.length<=12)(hi:m.I<=4):K7 (lazT l):=by
 obtain⟨b1,b2,b3,b4,b5,_⟩:=J.bnd H hn;have a2:=H.i1;have hI:=J.inp;refine⟨⟨by show inR l.I;unfold inR;omega,⟨by show l.Short.length<=_;omega,λp hp=>by have:=J.pw p hp;unfold SmW;omega⟩,⟨by show l.X.length<=_;omega,λp hp=>by have:=J.sw p hp;unfold SmW;omega⟩,λp hp a ha=>by have:=J.wok p hp a ha;unfold inR;omega⟩,by show l.I<=4;omega,by show l.Short.length<=600;omega,by show l.X.length<=600;omega,λp hp=>by have:=J.pw p hp;omega,λe he=>by have:=J.sw e he;omega⟩
def LzI.room(J:LzI m l o c x g)(H:N0 m)(hn:m.N.length<=12):RoomT (lazT l):=by
 obtain⟨_,_,_,b4,b5,_⟩:=J.bnd H hn;exact S1 (jH (bD 5 (Nat.succ_le_succ b4)) (Nat.succ_le_succ b5)) (by decide)
def LzI.chk(J:LzI m l o c x g):chkL l o=0:=by
 unfold chkL;rw[if_neg (λh=>h J.val),if_neg (λh=>h (by rw[J.inp,J.told.inp]))]
def LzI.cell(J:LzI m l o c x g)(H:N0 m)(hn:m.N.length<=12){v:A2}(hv:v∈bG m.I.toNat l.X l.Short):WOk m.I v/\v.length<=500:=by
 obtain⟨b1,b2,b3,b4,b5,_⟩:=J.bnd H hn;obtain⟨p,hp,w,hw,e,he,rfl⟩:=dW.1 hv;have h2:=J.pw p hp;have h3:=J.sw e he
 have a2:WOk m.I w/\w.length<=p.length+1:=by
  unfold N6 at hw;rcases I2.1 hw with rfl|hw
  ·exact⟨J.wok _ hp,by omega⟩
  ·obtain⟨a,ha,rfl⟩:=D8.1 hw;have ha:=M8.1 ha;refine⟨λy hy=>?_,by simp⟩;rcases K0.1 hy with h|h
   ·exact J.wok p hp y h
   ·rw[K2.1 h];omega
 exact⟨a2.1.append (J.swok e he),by rw[D7];omega⟩
def LzI.few(J:LzI m l o c x g)(H:N0 m)(hi:m.I<=4){p:A6}(hT:eK p.T)
  (hcs:∀u∈p.T,(∃u'∈o.T,u'.In=u.In)\/u.In∈bG m.I.toNat l.X l.Short) (hk:∀v∈bG m.I.toNat l.X l.Short,Kn p v):p.T.length<=75*c+(3*l.Short.length+1)*l.X.length:=by
 obtain⟨C,hC,a3⟩:=J.cs;have a2:=(pG J.val).1;have hI:(lazT l).I=m.I:=J.inp;obtain⟨a9,_,a7,_,_,_,_,_⟩:=Z9 a2;obtain⟨a6,a4,a8,b0⟩:=aL a2
 have h1:=traces_le (t:=lazT l) (C:=C) hT a2 J.suf (λu hu=>by
  rw[hI]
  rcases hcs u hu with⟨u',a5,e⟩|h
  ·rw[<- e];exact a3 u' a5
  ·exact .inr h) (by rw[hI];exact hk)
 have h2:=extN_len (n:=(lazT l).I.toNat) (P:=l.Short) (a7.imp λ{a b} h e=>by
  rw[e,cA]at h
  cases h) a4 (λw hw y hy=>by have:=aB (a6 w hw) y hy;omega)
 have h3:(lazT l).I.toNat*l.Short.length<=4*l.Short.length:=bD _ (by omega);have h4:(extN (lazT l).I.toNat l.Short).length*l.X.length<=(3*l.Short.length+1)*l.X.length:=bD _ (by omega);have h1:p.T.length<=C.length+(extN (lazT l).I.toNat l.Short).length*l.X.length:=h1;omega
def LzI.noghost(J:LzI m l o c x g)(HO:I7 (lazT l) o):g=false:=by
 cases g with
 |false=>rfl
 |true =>
  exfalso;obtain⟨p,hp,q,hq,h1,a,ha,h2⟩:=J.gh rfl;have a3:(lazT l).I=m.I:=J.inp;have a2:a<(lazT l).I.toNat:=by rw[a3];omega
  have:=HO.cons (p:=p) (q:=q) hp hq (by rw[HO.row_t J.told (p:=p) hp,HO.row_t J.told (p:=q) hq];exact h1) a2;rw[HO.ext_t J.told (p:=p) hp a2,HO.ext_t J.told (p:=q) hq a2]at this;exact h2 this
def ins_len(L:A3)(w:A2):(insW L w).length<=L.length+1:=by
 unfold insW;split
 ·omega
 ·simp only[D7,H7,H6,O5];omega
def LzI.round(J:LzI m l o c x g)(H:N0 m)(hn:m.N.length<=12)(hi:m.I<=4) :
  (L1 o (lazT l) l.Short≠[]/\cS l o=(l,maxR (L1 o (lazT l) l.Short),false,0)/\(∀w∈maxR (L1 o (lazT l) l.Short),H1 w m.I=0)/\(maxR (L1 o (lazT l) l.Short)).length<=2000000 /\
   (K4 m o (maxR (L1 o (lazT l) l.Short))).T.length<=10000/\LzI m l (K4 m o (maxR (L1 o (lazT l) l.Short))) c x g/\L1 (K4 m o (maxR (L1 o (lazT l) l.Short))) (lazT l) l.Short=[]) \/
  (∃u,cS l o=(u,[],false,0)/\LzI m u o c (x+1) false/\kL m l+1<=kL m u) \/
  (cS l o=(l,[],true,0)/\I7 (lazT l) o/\g=false/\L1 o (lazT l) l.Short=[]):=by
 obtain⟨b1,b2,b3,b4,b5,_⟩:=J.bnd H hn;have hT:=J.tab H hn hi;have hR:=J.room H hn;have a8:=J.chk;obtain⟨d2,_,b0,d8⟩:=oD a8;have b6:(lazT l).I=m.I:=J.inp;have i1:=H.i1;have i2:=H.i2
 have hS:cS l o=(ofT (stepT (lazT l) o).1,(stepT (lazT l) o).2):=by
  unfold cS;rw[if_neg (λh=>h a8)]
 rw[hS];unfold stepT;rw[if_neg (λh=>h d2)];by_cases hA:L1 o (lazT l) l.Short=[]
 ·right;have a7:L1 o (lazT l) (lazT l).P=[]:=hA;rw[if_neg (λh=>h a7)];have hz:Q8 (lazT l) o=0:=compT_of d2 a7;obtain⟨_,_,a2⟩:=X5 hz;have h1:=J.pl;have h2:=J.sl;have h3:=J.k1;have h4:=J.k2;cases hf:(extL (lazT l)).find? (newRow (lazT l) o) with
  |some w =>
   left;obtain⟨e1,e2⟩:=uncl_ins hT hR hz hf;obtain⟨p,hp,hw⟩:=L6.1 (dE hf);obtain⟨a,ha,rfl⟩:=D8.1 hw;have ha:=M8.1 ha;have b9:newRow (lazT l) o (p++[(a:Int)])=true:=mE hf
   have c7:∀q∈l.Short,trow m l.X q≠trow m l.X (p++[(a:Int)]):=λq hq e=>by
    refine of_decide_eq_true b9 (D8.2 ⟨q,hq,?_⟩);rw[oL J.told a2 (p:=q) hq (rI _ q),oL J.told a2 hp (oK ha p)];exact congrArg some e
   have hk:kL m l+1<=kN m l.X (insW l.Short (p++[(a:Int)])):=kN_new (λq hq=>(bV _ _ _).2 (.inl hq)) ((bV _ _ _).2 (.inr rfl)) c7;have d5:=ins_len l.Short (p++[(a:Int)]);have d1:tri2 (kL m l-(if g=true then 0 else 1))<=tri2 (kN m l.X (insW l.Short (p++[(a:Int)]))-1):=rD (by omega);have d7:=J.pw p hp;simp only;rw[e1];refine⟨⟨l.I,insW l.Short (p++[(a:Int)]),l.X⟩,rfl,⟨J.told,rC e2 b0,J.inp,?_,by simp only;omega,λq hq=>?_,λe he=>by have:=J.sw e he;omega,by simp only[kL]at hk h3 ⊢;omega,?_,(λh=>by cases h),?_⟩,hk⟩
   ·simp only[kL];rw[if_neg W5];omega
   ·rcases (bV _ _ _).1 hq with h|h
    ·have:=J.pw q h;omega
    ·rw[h,D7,S6];omega
   ·rw[if_neg W5];simp only[kL]at hk h4 ⊢;have:c<=kN m l.X l.Short:=S1 (sP _ _) h4;omega
   ·obtain⟨C,hC,h⟩:=J.cs;refine⟨C,hC,λu hu=>?_⟩;rcases h u hu with h|h
    ·exact .inl h
    ·obtain⟨q,hq,h⟩:=dW.1 h;exact .inr (dW.2 ⟨q,(bV _ _ _).2 (.inl hq),h⟩)
  |none =>
   cases hip:iP (lazT l) o with
   |some y =>
    left;obtain⟨e1,e2,e3⟩:=inc_ins hT hR J.told.ok hz hip;obtain⟨p,q,hp,hq,b8,a,e,ey,ha,X,Y,u,hX,hY,hu,c8⟩:=iP_parts a2 hip;have d6:=oL J.told a2 hp (rI _ p);have d3:=oL J.told a2 hq (rI _ q)
    have c0:trow m l.X p=trow m l.X q:=by
     rw[d6,d3]at b8;injection b8
    have a5:=oL J.told a2 hp (oK ha p);have a6:=oL J.told a2 hq (oK ha q);rw[hX]at a5;rw[hY]at a6;injection a5 with a5
    injection a6 with a6
    have c6:e<l.X.length:=by
     have h1:=(G4.1 hu).1;rw[a5]at h1;unfold trow at h1
     rwa [E1]at h1
    have d0:=get_at c6
    have hW:toW (lazT l) y=(a:Int)::l.X[e]:=by
     rw[ey];unfold toW;have:(lazT l).X[e]?=some l.X[e]:=d0;simp[this]
    have hk:kL m l+1<=kN m (insW l.X (toW (lazT l) y)) l.Short:=by
     refine kN_split hp hq (λz hz=>(bV _ _ _).2 (.inl hz)) c0 λhh=>c8 ?_;have h1:=oB hh ((bV _ _ _).2 (.inr rfl));rw[hW]at h1
     have h2:Sym.outs m (dest m m.S.toNat (p++[(a:Int)])) l.X[e]=Sym.outs m (dest m m.S.toNat (q++[(a:Int)])) l.X[e]:=by
      rw[lM,lM];rw[eW,eW]at h1;injection h1
     have c9:(lazT l).X[e]?=some l.X[e]:=d0;rw[a6];rw[a5]at hu;unfold trow at hu ⊢;rw[K5,c9,L5]at hu ⊢;rw[<- hu,h2]
    have d5:=ins_len l.X (toW (lazT l) y);have d1:tri2 (kL m l-(if g=true then 0 else 1))<=tri2 (kN m (insW l.X (toW (lazT l) y)) l.Short-1):=rD (by omega);have h5:=J.sw _ (H9 c6);simp only;rw[e1];refine⟨⟨l.I,l.Short,insW l.X (toW (lazT l) y)⟩,rfl,⟨J.told,rC e2 (sufB_ins b0 e3),J.inp,?_,by simp only;omega,λq hq=>by have:=J.pw q hq;omega,λz hz=>?_,by simp only[kL]at hk h3 ⊢;omega,?_,(λh=>by cases h),?_⟩,hk⟩
    ·simp only[kL];rw[if_neg W5];omega
    ·rcases (bV _ _ _).1 hz with h|h
     ·have:=J.sw z h;omega
     ·rw[h,hW,H7];omega
    ·rw[if_neg W5];simp only[kL]at hk h4 ⊢;have:c<=kN m l.X l.Short:=S1 (sP _ _) h4;omega
    ·obtain⟨C,hC,h⟩:=J.cs;refine⟨C,hC,λu hu=>?_⟩;rcases h u hu with h|h
     ·exact .inl h
     ·obtain⟨q,hq,w,hw,z,hz,h⟩:=dW.1 h;exact .inr (dW.2 ⟨q,hq,w,hw,z,(bV _ _ _).2 (.inl hz),h⟩)
   |none =>
    right;have d4:(K8 (lazT l) o).length=kL m l:=yE J.told a2;have HO:I7 (lazT l) o:=⟨hT,by rw[d4];omega,J.told.smR,J.told.ok,hz,hf,hip⟩;exact⟨rfl,HO,J.noghost HO,hA⟩
 ·left;have a7:L1 o (lazT l) (lazT l).P≠[]:=hA;rw[if_pos a7];have a4:∀v,v∈L1 o (lazT l) l.Short↔v∈bG m.I.toNat l.X l.Short/\ansO o v=none:=λv=>by rw[mem_needL,b6];rfl
  have a3:∀v∈maxR (L1 o (lazT l) l.Short),v∈bG m.I.toNat l.X l.Short:=λv hv=>((a4 v).1 (yF hv)).1
  have b7:∀w∈maxR (L1 o (lazT l) l.Short),H1 w m.I=0:=λw hw=>by
   obtain⟨h1,h2⟩:=J.cell H hn (a3 w hw);exact kA ⟨i1,by omega⟩ h1 (by omega)
  have a9:∀v∈bG m.I.toNat l.X l.Short,Kn (K4 m o (maxR (L1 o (lazT l) l.Short))) v:=λv hv=>by
   rw[oI];by_cases h4:ansO o v=none
   ·obtain⟨y,hy,hp⟩:=maxR_up 500 (λz hz=>(J.cell H hn ((a4 z).1 hz).1).2) 500 v ((a4 v).2 ⟨hv,h4⟩) (by omega);exact .inr ⟨y,hy,hp⟩
   ·exact .inl (Q5 λh=>h4 ((jL J.told).2 h))
  have hN:(K4 m o (maxR (L1 o (lazT l) l.Short))).T.length<=10000:=by
   have:=J.few H hi (yB _ _ J.told.ok.trs) (λu hu=>by
    rcases rF _ _ hu with h|h
    ·exact .inl ⟨u,h,rfl⟩
    ·exact .inr (a3 _ h)) a9
   have hm:(3*l.Short.length+1)*l.X.length<=598*15:=jH (by omega) b5;omega
  have T':=uC H _ o J.told b7 hN;refine⟨hA,rfl,b7,(maxR_need_sml hT).1,hN,⟨T',J.val,J.inp,J.pl,J.sl,J.pw,J.sw,J.k1,J.k2,J.gh,?_⟩,?_⟩
  ·obtain⟨C,hC,h⟩:=J.cs;refine⟨C,hC,λu hu=>?_⟩;rcases rF _ _ hu with h1|h1
   ·exact h u h1
   ·exact .inr (a3 _ h1)
  ·refine xL.2 λv hv=>?_;obtain⟨h1,h2⟩:=mem_needL.1 hv;rw[b6]at h1;exact(jL T').1 h2 (a9 v h1)
end
end
section
section
variable {m:B7}{t t':B8}{o:A6}{c x:Nat}{g:Bool}{mode:Int}
def ctx_full(H:I7 t o)(T:P5 m o)(hM:N0 m)(hi:t.I=m.I)(hP:∀p∈t.P,WOk m.I p)(hk:m.N.length<=kT m t){w:A2}(hw:WOk m.I w):Sym.outs (hypT t o).M 0 w=Sym.outs m m.S.toNat w:=by
 have a2:∀z,z∈t.P++(List.range (w.length+1)).map (λk=>w.take k)↔z∈t.P\/∃k,k<w.length+1/\w.take k=z:=λz=>by
  rw[K0,D8];exact or_congr Iff.rfl ⟨λ⟨k,h,e⟩=>⟨k,M8.1 h,e⟩,λ⟨k,h,e⟩=>⟨k,M8.2 h,e⟩⟩
 have a4:∀p∈t.P,p∈t.P++(List.range (w.length+1)).map (λk=>w.take k):=λp hp=>(a2 p).2 (.inl hp)
 have a3:∀p∈t.P++(List.range (w.length+1)).map (λk=>w.take k),WOk m.I p:=λp hp=>by
  rcases (a2 p).1 hp with h|⟨k,_,rfl⟩
  ·exact hP p h
  ·exact λy hy=>hw y (Q1 hy)
 refine(ctx_pre H T hi a4 (S1 (kN_le hM a3) hk) (λp hp q hq e a ha=>?_) w.length rfl hw (λk=>(a2 _).2 (.inr ?_))).1
 ·refine Q5 λa5=>?_;have h1:=kN_split (m:=m) (S:=t.X) (S':=t.X++t.X.map λf=>(a:Int)::f) hp hq (λf hf=>M1 _ hf) e λh=>a5 (nV λf hf=>?_)
  ·have h2:=kN_le (m:=m) (S:=t.X++t.X.map λf=>(a:Int)::f) hM a3;have h3:kT m t<=kN m t.X (t.P++(List.range (w.length+1)).map (λk=>w.take k)):=kN_mono a4 λ_ h=>h;omega
  ·have h2:=oB h (e:=(a:Int)::f) (M2 _ (D8.2 ⟨f,hf,rfl⟩));rw[eW,eW]at h2;injection h2 with _ h2
   rw[lM,lM];exact h2
 ·rcases L8 w.length k with q|q
  ·exact⟨w.length,by omega,by rw[M4,X6 (by omega)]⟩
  ·exact⟨k,by omega,rfl⟩
end
end
section
section
variable {m:B7}
def dist_prog{a b:B7}(c1:Q9 a=0)(c2:Q9 b=0)(c3:a.I=b.I)(h:a.N.length+b.N.length<=128) :
  (fJ a b=some ([],false,0)/\∀w,WOk a.I w->Sym.outs a a.S.toNat w=Sym.outs b b.S.toNat w) \/
  ∃w,fJ a b=some (w,true,0)/\WOk a.I w/\w.length<=a.N.length+b.N.length/\Sym.outs a a.S.toNat w≠Sym.outs b b.S.toNat w:=by
 have T:Two a b:=⟨fW c1,fW c2,c3⟩;have h1:=T.a1.st;have h2:=T.b1.st;have hi:=T.a1.i1;obtain⟨⟨w,f⟩,h3,h4⟩:=KO T (p0:=(a.S.toNat,b.S.toNat)) (by simp only;omega) (by simp only;omega);simp only at h3;rw[show(a.S.toNat:Int)=a.S by omega,show(b.S.toNat:Int)=b.S by omega]at h3
 have e1:fJ a b=some (w,f,0):=by
  unfold fJ;rw[KE c1 c2 c3,A5,B5 (by decide),h3,A5]
 cases f with
 |false =>
  left
  have hw:w=[]:=by
   rcases h4 with⟨_,_,_,_,_,_,_,h⟩|⟨_,_,_,h⟩
   ·injection h with _ h;cases h
   ·injection h
  subst hw;exact⟨e1,fst_none h4⟩
 |true =>
  right;have hw:=(fst_word T (p0:=(a.S.toNat,b.S.toNat)) (by simp only;omega) (by simp only;omega) h4).1;have a2:=fst_ne T (p0:=(a.S.toNat,b.S.toNat)) (by simp only;omega) (by simp only;omega) h4;obtain⟨v,v1,v2,v3⟩:=two_short T h (s:=a.S.toNat) (t:=b.S.toNat) (by omega) (by omega) hw a2;have:=fst_short h4 v2 v3;exact⟨w,e1,hw,by omega,a2⟩
end
end
section
section
variable {m:B7}{l:C7}{o:A6}{c x:Nat}{w:A2}
abbrev hL(l:C7)(o:A6):E3:=hypT (lazT l) o
def LzI.ctxIn(J:LzI m l o c x false)(HO:I7 (lazT l) o)(H:N0 m)(hi:m.I<=4)(a2:kL m l<=11)(hw:WOk m.I w)(hwl:w.length<=kL m l+12)(hne:Sym.outs (hL l o).M 0 w≠Sym.outs m m.S.toNat w):CtxIn (K:=25+x+25*c+1) m l (hL l o) o w:=by
 have F:=hyp_fnd HO J.told H J.inp hw (by omega) hne;have a3:∀v∈bG m.I.toNat l.X l.Short,Kn o v:=λv hv=>cells_known HO J.told v (by rw[show(lazT l).I=m.I from J.inp];exact hv);have h1:=J.pl;have h2:=J.sl;have h3:=J.k1;have h4:=J.k2;rw[if_neg W5]at h1 h4;have ht:tri2 (kL m l-1)<=165:=S1 (rD (b:=10) (by omega)) (by decide);have a6:c<=10:=by omega
 have a5:x<=10:=by omega
 have hp:l.Short.length<=176:=by omega
 have hs:l.X.length<=14:=by omega
 have a7:=J.few H hi J.told.ok.trs (λu hu=>.inl ⟨u,hu,rfl⟩) a3;have hm:(3*l.Short.length+1)*l.X.length<=529*14:=jH (by omega) hs;exact⟨F,J.told,a3,by omega,λi a4 e1 e2=>split_ref HO J.told F J.inp J.val a4 e1 e2 J.pw (by omega) hi (by omega) (by omega)⟩
def LzI.ctx(J:LzI m l o c x false){h:E3}{K:Nat}(hK:K=25+x+25*c+1)(hwl:w.length<=kL m l+12)(hw24:w.length<=24){f:A2}(R:CtxR m l h o w K f) :
  LzI m (X9 l (addS m l (spL m h o w) f)) (o3L m l h o w) (c+1) x true/\kL m l<=kL m (X9 l (addS m l (spL m h o w) f)):=by
 obtain⟨a1,a2,a3,a4,a5⟩:=R.S.add_facts;have b0:=R.vl;have h1:=J.pl;have h3:=J.k1;have h4:=J.k2;rw[if_neg W5]at h1 h4;have a7:=pI (l.Short++addS m l (spL m h o w) f);rw[D7]at a7;have a6:∀z,z∈sortW (l.Short++addS m l (spL m h o w) f)↔z∈l.Short\/z∈addS m l (spL m h o w) f:=λz=>by rw[aC,K0]
 have hk:kL m l<=kL m (X9 l (addS m l (spL m h o w) f)):=kN_mono (λp hp=>(a6 p).2 (.inl hp)) λ_ h=>h
 have ht:tri2 (kL m l-1)+(kL m l+11)<=tri2 (kL m (X9 l (addS m l (spL m h o w) f))):=by
  refine S1 ?_ (rD hk);obtain⟨k,e⟩:∃k,kL m l=k+1:=⟨kL m l-1,by omega⟩;rw[e];show tri2 k+(k+1+11)<=tri2 k+(k+12);omega
 refine⟨⟨R.T3.O.told,R.S.valid,J.inp,?_,J.sl,λz hz=>?_,J.sw,by omega,?_,λ_=>a5.mono λz hz=>(a6 z).2 (K0.1 hz),?_⟩,hk⟩
 ·rw[if_pos rfl,sN];show(sortW (l.Short++addS m l (spL m h o w) f)).length<=_;omega
 ·rcases (a6 z).1 hz with g|g
  ·have:=J.pw z g;omega
  ·have:=(a3 z g).1;omega
 ·rw[if_pos rfl];omega
 ·obtain⟨C,hC,a9⟩:=J.cs;have b2:=R.ctxC_len hw24;refine⟨C++ctxC m l h o w f,by rw[D7];omega,λu hu=>?_⟩;rcases R.ins u hu with⟨u',a8,e⟩|g|⟨y,hy,g⟩
  ·rw[e];rcases a9 u' a8 with g|g
   ·exact .inl (M1 _ g)
   ·obtain⟨q,hq,g⟩:=dW.1 g;exact .inr (dW.2 ⟨q,(a6 q).2 (.inl hq),g⟩)
  ·exact .inl (M2 _ g)
  ·obtain⟨a,ha,e,he,g⟩:=mem_rowU.1 g;exact .inr (dW.2 ⟨y,(a6 y).2 (.inr hy),y++[(a:Int)],oK ha y,e,he,g.symm⟩)
end
abbrev LzS:Type:=Int×A3×A3×Int×List A8×Nat
abbrev LzR:Type:=E3×A6×Int×Int
abbrev stL(l:C7)(o:A6)(n:Nat):LzS:=(l.I,l.Short,l.X,o.I,o.T,n)
structure Rules(m:B7)(step:LzS->Option (LzS⊕LzR)):Prop where
 ask:∀{l o c x g W},LzI m l o c x g->cS l o=(l,W,false,0)->(∀w∈W,H1 w m.I=0)->W.length<=2000000->(K4 m o W).T.length<=10000->step (stL l o c)=some (.inl (stL l (K4 m o W) c))
 grow:∀{l o c x g u},LzI m l o c x g->cS l o=(u,[],false,0)->step (stL l o c)=some (.inl (stL u o c))
 fin:∀{l o c x},LzI m l o c x false->cS l o=(l,[],true,0)->I7 (lazT l) o->fJ (hL l o).M m=some ([],false,0)->step (stL l o c)=some (.inr (hL l o,o,(↑(c+1):Int),0))
 ctx:∀{l o c x w K f},LzI m l o c x false->cS l o=(l,[],true,0)->I7 (lazT l) o->fJ (hL l o).M m=some (w,true,0)->FndS m (hL l o) w->o.T.length<=8500->CtxR m l (hL l o) o w K f->step (stL l o c)=some (.inl (stL (X9 l (addS m l (spL m (hL l o) o w) f)) (o3L m l (hL l o) o w) (c+1)))
def DoneL(m:B7)(r:LzR):Prop :=
 ∃l o c x,I7 (lazT l) o/\LzI m l o c x false/\(∀w,WOk m.I w->Sym.outs (hL l o).M 0 w=Sym.outs m m.S.toNat w)/\(hL l o).M.N.length=kL m l/\r=(hL l o,o,(↑(c+1):Int),0)
def muL(m:B7)(l:C7)(o:A6)(g:Bool):Nat:=10*(12-kL m l)+(if g=true then 0 else 2)+(if L1 o (lazT l) l.Short=[] then 0 else 1)
def muL_le(m:B7)(l:C7)(o:A6)(g:Bool):muL m l o g<=10*(12-kL m l)+3:=by
 unfold muL;split<;>split<;>omega
section
variable {m:B7}
def lz_both{s1 s2:LzS->Option (LzS⊕LzR)}(R1:Rules m s1)(R2:Rules m s2)(hv:Q9 m=0)(hn:m.N.length<=12)(hi:m.I<=4) :
  ∀(N:Nat) (l:C7) (o:A6) (c x:Nat) (g:Bool),LzI m l o c x g->muL m l o g<=N->∀n,N<n->∃r,iter s1 n (stL l o c)=some r/\iter s2 n (stL l o c)=some r/\DoneL m r:=by
 have H:=fW hv;intro N
 induction N using Nat.strongRecOn with
 |ind N ih =>
  intro l o c x g J b4 n hN;obtain⟨k,rfl⟩:∃k,n=k+1:=⟨n-1,by omega⟩
  have a2:∀(u:C7) (p:A6) (c' x':Nat) (g':Bool),LzI m u p c' x' g'->muL m u p g'<muL m l o g->s1 (stL l o c)=some (.inl (stL u p c'))->s2 (stL l o c)=some (.inl (stL u p c'))->∃r,iter s1 (k+1) (stL l o c)=some r/\iter s2 (k+1) (stL l o c)=some r/\DoneL m r:=λu p c' x' g' J' b5 h1 h2=>by
   rw[mR h1,mR h2];exact ih (muL m u p g') (by omega) u p c' x' g' J' (H4 _) k (by omega)
  obtain⟨b1,_⟩:=J.bnd H hn;rcases J.round H hn hi with⟨q1,q2,q3,q4,q5,q6,q7⟩|⟨u,q1,q2,q3⟩|⟨q1,q2,q3,q4⟩
  ·refine a2 l _ c x g q6 ?_ (R1.ask J q2 q3 q4 q5) (R2.ask J q2 q3 q4 q5);unfold muL;rw[if_neg q1,if_pos q7];omega
  ·refine a2 u o c (x+1) false q2 ?_ (R1.grow J q1) (R2.grow J q1);have b2:=(q2.bnd H hn).1;have h1:=muL_le m u o false;unfold muL at h1 ⊢;omega
  ·subst q3;have a7:(K8 (lazT l) o).length=kL m l:=yE J.told (X5 q2.hz).2.2;have a8:(hL l o).M.N.length=kL m l:=by rw[q2.nlen.1,a7]
   have b0:Q9 (hL l o).M=0:=q2.validM0;have a5:(hL l o).M.I=m.I:=J.inp;rcases dist_prog b0 hv a5 (by omega) with⟨d1,d3⟩|⟨w,d1,hw,b3,a3⟩
   ·refine⟨_,mS (R1.fin J q1 q2 d1),mS (R2.fin J q1 q2 d1),l,o,c,x,q2,J,λw hw=>?_,a8,rfl⟩;exact d3 w (by rw[a5];exact hw)
   ·have a6:WOk m.I w:=by rw[<- a5];exact hw
    have a3:Sym.outs (hL l o).M 0 w≠Sym.outs m m.S.toNat w:=a3;have a9:kL m l<m.N.length:=Q5 λh=>a3 (ctx_full q2 J.told H J.inp J.wok (Nat.le_of_not_lt h) a6);have a4:w.length<=kL m l+12:=by omega
    have C:=J.ctxIn q2 H hi (by omega) a6 a4 a3;obtain⟨f,R⟩:=ctx_run C;obtain⟨J',hk⟩:=J.ctx rfl a4 (by omega) R;have b2:=(J'.bnd H hn).1;refine a2 _ _ (c+1) x true J' ?_ (R1.ctx J q1 q2 d1 C.F C.num R) (R2.ctx J q1 q2 d1 C.F C.num R);unfold muL;rw[if_pos rfl,if_neg W5];split<;>omega
def lz_start(H:N0 m)(hi:m.I<=4):LzI m ⟨m.I,[[]],T1 m.I.toNat⟩ ⟨m.I,[]⟩ 0 0 false:=by
 have J:=run_start H hi;have hk:=J.k1;refine⟨J.told,rC J.val ?_,rfl,by simp,?_,λp hp=>?_,λe he=>?_,hk,by rw[if_neg W5];exact hk,(λh=>by cases h),[],H4 _,λu hu=>by cases hu⟩
 ·unfold sufB;refine O0.2 λe he=>?_;unfold T1 at he;obtain⟨a,_,rfl⟩:=D8.1 he;simp
 ·show(T1 m.I.toNat).length<=4+0;rw[vX];omega
 ·rw[K2.1 hp];simp
 ·unfold T1 at he;obtain⟨a,_,rfl⟩:=D8.1 he;simp
def prog_rules(hv:Q9 m=0)(hn:m.N.length<=12)(hi:m.I<=4):Rules m (λs=>cE.s4 m s.1 s.2.1 s.2.2.1 s.2.2.2.1 s.2.2.2.2.1 s.2.2.2.2.2):=by
 have H:=fW hv;refine⟨λ{l o c x g W} J hS hW hWl hN=>?_,λ{l o c x g u} J hS=>?_,λ{l o c x} J hS HO hD=>?_,λ{l o c x w K f} J hS HO hD F hN R=>?_⟩
 all_goals
  have hb:=(J.bnd H hn).2.2.1;have a3:eX ⟨l.I,l.Short,l.X⟩ ⟨o.I,o.T⟩=some (cS l o):=lazy_Step_eq (l:=l) (o:=o) (J.tab H hn hi) (J.room H hn) J.told.smR J.told.ok;have a2:W3 m ⟨o.I,o.T⟩ []=some (o,0):=vM (o:=o) (ws:=[]) hv J.told (λw h=>by cases h) (by simp) J.told.ok.num;show cE.s4 m l.I l.Short l.X o.I o.T c=_;unfold cE.s4;rw[a3,A5,hS];simp only;rw[B5 (by decide)]
 ·have ht:W3 m ⟨o.I,o.T⟩ W=some (K4 m o W,0):=vM (o:=o) hv J.told hW hWl hN;rw[ht,A5];rfl
 ·rw[a2,A5];rfl
 ·rw[a2,A5]
  have hH:nJ l o=some (hL l o,0):=by
   rw[LN HO.ht J.told.smR J.told.ok HO.h128];unfold hypL;rw[if_neg (λh=>h J.chk)];unfold hypR;rw[if_neg (λh=>h HO.hz),if_neg (λh=>h.elim (λh=>h HO.hf) λh=>h HO.hi)]
  simp only;rw[B5 (by decide),N2,D6,hH,A5];simp only;rw[B5 (by decide),K1,hD,A5];rfl
 ·rw[a2,A5]
  have hH:nJ l o=some (hL l o,0):=by
   rw[LN HO.ht J.told.smR J.told.ok HO.h128];unfold hypL;rw[if_neg (λh=>h J.chk)];unfold hypR;rw[if_neg (λh=>h HO.hz),if_neg (λh=>h.elim (λh=>h HO.hf) λh=>h HO.hi)]
  simp only;rw[B5 (by decide),N2,D6,hH,A5];simp only;rw[B5 (by decide),K1,hD,A5];simp only;rw[B5 (by decide),N2,D6,zq24 hv F J.told hN R,A5];rfl
end
end
section
section
variable {h:E3}{o:A6}{w:A2}
def P3.start(F:P3 h o w):h.M.S=(↑(0:Nat):Int):=F.st
def yJ(a:A2):[a].flatten=a:=by simp
def R25_at_eq(F:P3 h o w){i:Nat}(hi:i<=w.length):R25_at h w (i:Int)=some (↑(stW h w i):Int):=by
 have a3:=F.wl;have a2:h.M.S.toNat=0:=by rw[F.st];rfl
 unfold R25_at;rw[F0 (by omega),P0,F.start,zI F.mac F.mac.n1 (λy hy=>F.wok y (Q1 hy)) (by rw[H6];omega),A5];unfold stW;rw[a2]
def R25_examine_eq(F:P3 h o w){i:Nat}(hi:i<w.length):vC h o w (i:Int)=some (if ansO o (qW h w i)=none then(false,qW h w i,0) else(badW h o w i,[],0)):=by
 have a4:=F.wl;have hq:=F.ql i;have a3:=(F.ac i).2;unfold qW at hq;unfold vC;rw[B5,R25_at_eq F (by omega),A5,F9 rfl (F.ac i).1,F0 (by omega),P0,gH _ (by simp) (by rw[dV];omega),A5,dV,B5,sC F.ho F.hv,A5];by_cases g:ansO o (qW h w i)=none
 ·have g':ansO o (acW h w i++w.drop i)=none:=g;rw[if_pos g,g'];rfl
 ·rw[if_neg g];obtain⟨r,h1,h2,h3⟩:=uN F (by omega) g;have a2:ansO o (acW h w i++w.drop i)=some r:=h1;rw[a2];simp only[tw,N2,D6];rw[F0 (by omega),zI F.mac (F.stl i) (λy hy=>F.wok y (V7 hy)) (by rw[O5];omega),A5,F9 rfl (F.ac i).1,F0 (by omega),oY _ _ (by rw[O5];omega),A5];unfold badW;rw[h3]
def R25_split_eq(F:P3 h o w){i:Nat}(hi:i<w.length)(hk:ansO o (qW h w i)≠none):uG h o w (i:Int)=some (splW h o w i):=by
 obtain⟨a,ha,a3⟩:=F.sym hi;obtain⟨r,h1,h2,h3⟩:=uN F (by omega) hk;obtain⟨y,y1,y2⟩:=tail_head F hi hk;have a2:ansO o (acW h w i++w.drop i)=some r:=h1;have a4:=F.wl;have hq:=F.ql i;have a5:=(F.ac i).2;unfold qW at hq;obtain⟨_,_,_,p,q,e1,e2,e3,e4⟩:=F.mac.at (F.stl i) a3
 have hy:r[(acW h w i).length]?=some y:=by
  rw[h3,W6,W7]at y1;exact y1
 unfold uG splW;rw[R25_at_eq F (by omega),A5,F9 rfl (F.ac i).1,F0 (by omega),P0,gH _ (by simp) (by rw[dV];omega),A5,dV,sC F.ho F.hv,A5,a2,F9 rfl (F.ac i).1];simp only[tw];rw[C6 hy,F9 rfl e2,F9 rfl ha,F9 (i:=a) rfl e4,y2,ha,Q3,P0];by_cases g:y=ot h.M (stW h w i) a
 ·rw[B5 (λh=>h g),if_neg (λh=>h (by rw[g])),F9 rfl (F.ac i).1,gH _ (by simp) (by rw[yJ];omega),A5,yJ,F9 rfl ha,K1,F0 (by omega),gH _ (by simp) (by rw[yJ,O5];omega),A5,yJ];rfl
 ·rw[C9 g,if_pos (λh=>g (by injection h))]
def ref_loc(F:P3 h o w):∀(n lo hi k:Nat),lo<hi->hi<=w.length->hi-lo<=n->n<k ->
  iter (λ(s:Nat×Nat)=>dU.s2 h o w s.1 s.2) k (lo,hi)=some (match locW h o w n lo hi with|.inl x=>.inl x|.inr r=>.inr r):=by
 intro n;have a4:=F.wl
 induction n with
 |zero=>intro lo hi k h1 h2 h3;omega
 |succ n ih =>
  intro lo hi k h1 h2 h3 h4;obtain⟨k,rfl⟩:∃k',k=k'+1:=⟨k-1,by omega⟩;by_cases g:1<hi-lo
  ·have a3:((lo:Int)+(hi:Int)) / 2=(↑((lo+hi) / 2):Int):=by omega
   have hb:lo<(lo+hi) / 2/\(lo+hi) / 2<hi:=by omega
   have a2:dU.s2 h o w lo hi=(if ansO o (qW h w ((lo+hi) / 2))=none then some (.inr (.inr (⟨[],0,[]⟩,qW h w ((lo+hi) / 2),0))) else if badW h o w ((lo+hi) / 2)=true then some (.inl ((lo+hi) / 2,hi)) else some (.inl (lo,(lo+hi) / 2))):=by
    unfold dU.s2;rw[K1,C9,K1,K1,a3,R25_examine_eq F (by omega),A5];by_cases g2:ansO o (qW h w ((lo+hi) / 2))=none
    ·rw[if_pos g2,if_pos g2];simp only;have hl:0<(qW h w ((lo+hi) / 2)).length:=by unfold qW;rw[D7,O5];omega
     rw[B5 (by simp),D3 (by omega),A5,D2]
    ·rw[if_neg g2,if_neg g2];simp only;rw[B5 (by simp),E2 (by simp),A5,D6];cases badW h o w ((lo+hi) / 2)<;>rfl
   unfold locW;rw[if_pos g];by_cases g2:ansO o (qW h w ((lo+hi) / 2))=none
   ·rw[if_pos g2]at a2 ⊢;rw[mS a2]
   ·rw[if_neg g2]at a2 ⊢;by_cases g3:badW h o w ((lo+hi) / 2)=true
    ·rw[if_pos g3]at a2 ⊢;rw[mR a2];exact ih _ _ _ hb.2 h2 (by omega) (by omega)
    ·rw[if_neg g3]at a2 ⊢;rw[mR a2];exact ih _ _ _ hb.1 (by omega) (by omega) (by omega)
  ·have a2:dU.s2 h o w lo hi=some (.inr (.inl lo)):=by
    unfold dU.s2;rw[K1,B5]
   unfold locW;rw[if_neg g,mS a2]
def zq42(F:P3 h o w):dU h o w=some (O7 h o w):=by
 obtain⟨r,k1,k2⟩:=F.kn;have a5:=F.wl;have a3:=F.w0
 have a2:vO h o w=some 0:=by
  have a4:=iF F.hv k1;unfold vO zG;rw[F.vr,A5,B5 (by simp),B5 (λh=>h F.inp.symm),A5,B5 (by simp),kJ _ _ (by unfold SmW;omega),A5,F.chk,B5 (by simp),sC F.ho F.hv,A5,k1];simp only[tw,N2,D6];rw[F.start,zI F.mac F.mac.n1 F.wok (by omega),A5,oY _ _ (by omega),A5,B5 k2]
 unfold dU O7;rw[a2,A5,B5 (by simp),ref_loc F w.length 0 w.length fuel a3 (H4 _) (by omega) (by have:=O9;omega),A5];cases e:locW h o w w.length 0 w.length with
 |inr r=>rfl
 |inl x =>
  obtain⟨k1,k2⟩:=tR F _ _ _ a3 (H4 _) F.k0 x e;simp only[aO];rw[R25_split_eq F k1 k2,A5]
end
end
section
section
variable {m:B7}{h:E3}{w:A2}{I0:A3}{o:A6}
def R27_Located_eq(hv6:S4 m=some 0)(F:FndS m h w)(T:P5 m o)(hI:∀t∈o.T,t.In∈I0)(hN:I0.length+26<=10000)(hl:o.T.length+1<=10000) :
  cF h o m w=some (runO (nxF m h w) 25 (K4 m o [w]),(O7 h (runO (nxF m h w) 25 (K4 m o [w])) w).1,(O7 h (runO (nxF m h w) 25 (K4 m o [w])) w).2.2):=by
 have O:=FndO.start F T hI hl;have a2:(w::I0).length+25<=10000:=by rw[H7];omega
 have hm:=muF_le (h:=h) (w:=w) (o:=K4 m o [w]);have a3:=F.wl
 have key:=uE (step:=λ(s:Int×List A8×Int)=>cF.s2 h m w s.1 s.2.1 s.2.2) (st:=λo=>(o.I,o.T,0)) (fin:=λo=>(.inr (o,(O7 h o w).1,(O7 h o w).2.2):(Int×List A8×Int)⊕(A6×J8×Int))) (FndO.step F a2) (λo O hn=>by
  simp only
  unfold cF.s2
  rw[C9 rfl,show(⟨o.I,o.T⟩:A6)=o from rfl,zq42 (F.fnd O),A5]
  rcases qN F O with⟨i,g1,g2,g3,g4⟩|⟨i,g1,g2,_⟩
  ·exfalso
   unfold nxF at hn
   rw[g3]at hn
   simp only at hn
   rw[if_pos ⟨trivial,q_ne g2⟩]at hn
   cases hn
  ·rw[g2]
   rfl) (λo p O hn=>by
  simp only
  unfold cF.s2
  rw[C9 rfl,show(⟨o.I,o.T⟩:A6)=o from rfl,zq42 (F.fnd O),A5]
  rcases qN F O with⟨i,g1,g2,g3,g4⟩|⟨i,g1,g2,_⟩
  ·obtain⟨k1,k2,_⟩:=FndO.one F O a2 g2 g4
   unfold nxF at hn
   rw[g3]at hn ⊢
   simp only at hn
   rw[if_pos ⟨trivial,q_ne g2⟩]at hn
   injection hn with hn
   subst hn
   simp only
   have hq:=q_pos (h:=h) g2
   rw[B5 (by decide),E2 (by omega),A5,D6,(vH (ws:=[qW h w i]) F.H hv6 O.told (λz hz=>by rw[K2.1 hz];exact F.qchk i) (by simp)).1 k1,A5]
  ·exfalso
   unfold nxF at hn
   rw[g2]at hn
   rw[if_neg (λh=>h.2 rfl)]at hn
   cases hn) 25 fuel (K4 m o [w]) O (by omega) (by have:=O9;omega)
 unfold cF;rw[(vH (ws:=[w]) F.H hv6 T (λz hz=>by rw[K2.1 hz];exact F.chk) (by simp)).1 (told_len F hl),A5];simp only;rw[key,A5];rfl
variable {l:C7}{K:Nat}{f:A2}
def doc_ref{s:J8}{c:A6×J8×Int}(hc:c.2.1=s)(hv6:S4 m=some 0)(S:RefS m l K s f)(hI:I0.length+1430<=10000)(T:RefT m l s f I0 o) :
  iter (λ(x:Int×List A8×Int)=>dA.s2 l m c x.1 x.2.1 x.2.2) fuel (o.I,o.T,0)=some (.inr (X9 l (addS m l s f),runO (nxR m l s) 1500 o,0)):=by
 have hm:=muR_le (o:=o) S;have hk:=S.kl;have a4:=S.ch.kp _ S.q;have a3:=S.vl;have hF:=S.all_len;refine uE (st:=λo=>(o.I,o.T,(0:Int))) (fin:=λo=>(.inr (X9 l (addS m l s f),o,(0:Int)):(Int×List A8×Int)⊕(C7×A6×Int))) (RefT.step S hI) (λo T hn=>?_) (λo p T hn=>?_) 1500 fuel o T (by omega) (by have:=O9;omega)
 all_goals
  simp only;unfold dA.s2;rw[C9 rfl,hc,show(⟨o.I,o.T⟩:A6)=o from rfl,R28_Refine_eq T.O.told.smR T.O.told.ok S.R.tab (show s.Prefix.length<=_ by omega) (show s.Suffix.length<=_ by omega),A5];unfold nxR at hn;rcases ref_two S T.O with e|⟨W,e1,e2,e3⟩
 ·rw[e];rfl
 ·rw[e1]at hn;simp only at hn;rw[if_pos e2]at hn;cases hn
 ·rw[e]at hn;rw[if_neg (λh=>h rfl)]at hn;cases hn
 ·obtain⟨k1,k2,_⟩:=RefT.one S T hI e2 e3;rw[e1]at hn ⊢;simp only at hn ⊢;rw[if_pos e2]at hn;injection hn with hn
  subst hn;have hW:=qI e2
  have a2:W.length<=2000000:=by
   have:=(refineL_ok (o:=o) S.R.tab (s:=s)).2.2.1;rw[e1]at this;exact S1 this (by decide)
  rw[B5 (by decide),E2 (by omega),A5,D6,(vH S.R.H hv6 T.O.told (λz hz=>S.all_chk z (e3 z hz).2) a2).1 k1,A5]
def R28_refined_eq(hv6:S4 m=some 0)(F:FndS m h w)(T:P5 m o)(hN:o.T.length<=8500)(R:CtxR m l h o w K f):dA l h o m w=some (X9 l (addS m l (spL m h o w) f),o3L m l h o w,0):=by
 have e2:runO (nxF m h w) 25 (K4 m o [w])=o2L m h o w:=rfl;unfold dA;rw[R27_Located_eq hv6 F T (I0:=o.T.map λt=>t.In) (λt ht=>D8.2 ⟨t,ht,rfl⟩) (by rw[E1];omega) (by omega),A5,e2,R.fnd];simp only;rw[doc_ref (c:=(o2L m h o w,spL m h o w,0)) rfl hv6 R.S R.I1 R.T2,A5];rfl
end
end
section
section
variable {m:B7}
def doc_rules(hv:Q9 m=0)(hn:m.N.length<=12)(hi:m.I<=4):Rules m (λs=>bZ.s4 m s.1 s.2.1 s.2.2.1 s.2.2.2.1 s.2.2.2.2.1 s.2.2.2.2.2):=by
 have H:=fW hv;have a4:S4 m=some 0:=by rw[rS,hv]
 refine⟨λ{l o c x g W} J hS hW hWl hN=>?_,λ{l o c x g u} J hS=>?_,λ{l o c x} J hS HO hD=>?_,λ{l o c x w K f} J hS HO hD F hN R=>?_⟩
 all_goals
  have hb:=(J.bnd H hn).2.2.1;have a6:qM ⟨l.I,l.Short,l.X⟩ ⟨o.I,o.T⟩=some (cS l o):=R28_Step_eq (l:=l) (o:=o) (J.tab H hn hi) J.told.smR J.told.ok;have a2:Y4 ⟨o.I,o.T⟩ m []=some (o,0):=(vH (m:=m) (o:=o) (ws:=[]) H a4 J.told (λw h=>by cases h) (by simp)).1 J.told.ok.num;show bZ.s4 m l.I l.Short l.X o.I o.T c=_;unfold bZ.s4;rw[a6,A5,hS];simp only;rw[B5 (by decide)]
 ·have ht:Y4 ⟨o.I,o.T⟩ m W=some (K4 m o W,0):=(vH (o:=o) H a4 J.told hW hWl).1 hN;rw[ht,A5];rfl
 ·rw[a2,A5];rfl
 ·rw[a2,A5]
  have hH:pM l o=some (hL l o,0):=by
   rw[KZ HO.ht J.told.smR J.told.ok HO.h128];unfold hypL;rw[if_neg (λh=>h J.chk)];unfold hypR;rw[if_neg (λh=>h HO.hz),if_neg (λh=>h.elim (λh=>h HO.hf) λh=>h HO.hi)]
  have a3:lX (hL l o).M m=some ([],false,0):=by
   have a5:(K8 (lazT l) o).length=kL m l:=yE J.told (X5 HO.hz).2.2;have a7:(hypT (lazT l) o).M.N.length=kL m l:=by rw[HO.nlen.1,a5]
   have:=(J.bnd H hn).1;rcases dist_both HO.validM0 hv J.inp (by omega) with⟨_,d2,_⟩|⟨w,d1,_⟩
   ·exact d2
   ·rw[hD]at d1;injection d1 with d1
    injection d1 with _ d1
    injection d1 with d1
    cases d1
  simp only;rw[show decide True=true from rfl,D2,A5,D2,K1,hH,A5];simp only;rw[B5 (by decide),a3,A5];rfl
 ·rw[a2,A5]
  have hH:pM l o=some (hL l o,0):=by
   rw[KZ HO.ht J.told.smR J.told.ok HO.h128];unfold hypL;rw[if_neg (λh=>h J.chk)];unfold hypR;rw[if_neg (λh=>h HO.hz),if_neg (λh=>h.elim (λh=>h HO.hf) λh=>h HO.hi)]
  have a3:lX (hL l o).M m=some (w,true,0):=by
   have a5:(K8 (lazT l) o).length=kL m l:=yE J.told (X5 HO.hz).2.2;have a7:(hypT (lazT l) o).M.N.length=kL m l:=by rw[HO.nlen.1,a5]
   have:=(J.bnd H hn).1;rcases dist_both HO.validM0 hv J.inp (by omega) with⟨d1,_⟩|⟨w',d1,d2,_⟩
   ·rw[hD]at d1;injection d1 with d1
    injection d1 with _ d1
    injection d1 with d1
    cases d1
   ·rw[hD]at d1;injection d1 with d1
    injection d1 with d1
    rw[d1];exact d2
  simp only;rw[show decide True=true from rfl,D2,A5,D2,K1,hH,A5];simp only;rw[B5 (by decide),a3,A5];simp only;rw[show decide True=true from rfl,D2,N2,A5,D6,D2,R28_refined_eq a4 F J.told hN R,A5];rfl
def plain_LazyRuns(m:B7):vJ m=some true:=by
 unfold vJ
 have a2:∃b,tU m=some b/\(b=true->m.N.length<=12/\m.I<=4):=by
  unfold tU;by_cases h1:m.N.length<=12
  ·rw[C9];by_cases h2:m.O.length<=12
   ·rw[C9,A5];exact⟨_,rfl,λh=>⟨h1,of_decide_eq_true h⟩⟩
   ·rw[B5,A5];exact⟨_,rfl,λh=>by cases h⟩
  ·rw[B5,A5];exact⟨_,rfl,λh=>by cases h⟩
 obtain⟨b,e,hb⟩:=a2;rw[e,A5];cases b with
 |false=>rw[aG,D2,IX];rfl
 |true =>
  rw[N2,D6]
  have key:∃r,cE m=some r/\bZ m=some r/\ResR r:=by
   unfold cE bZ;rw[vT,rS,A5,A5];by_cases hv:Q9 m=0
   ·obtain⟨hn,hi⟩:=hb rfl;have H:=fW hv;have J:=lz_start H hi
    have a3:newT m.I=(⟨m.I,[[]],T1 m.I.toNat⟩,0):=by
     have:=H.i1;unfold newT;rw[if_neg (by omega)]
    have a4:=muL_le m ⟨m.I,[[]],T1 m.I.toNat⟩ ⟨m.I,[]⟩ false;obtain⟨r,r1,r2,l,o,c,x,HO,J',_,_,rfl⟩:=lz_both (prog_rules hv hn hi) (doc_rules hv hn hi) hv hn hi _ _ _ 0 0 false J (H4 _) fuel (by have:=O9;omega);rw[hv,B5 (by decide),B5 (by decide),lazy_New_eq,R28_New_eq,a3,A5,A5];simp only;rw[B5 (by decide)];refine⟨_,r1,r2,?_⟩;have a2:=hypR_sml (o:=o) HO.ht
    have eR:hypR (lazT l) o=(hL l o,0):=by
     unfold hypR;rw[if_neg (λh=>h HO.hz),if_neg (λh=>h.elim (λh=>h HO.hf) λh=>h HO.hi)]
    rw[eR]at a2;exact⟨a2.1,a2.2.1,a2.2.2,J'.told.tr⟩
   ·rw[C9 (by exact hv),C9 (by exact hv)];exact⟨_,rfl,rfl,fail_ok _⟩
  obtain⟨r,r1,r2,r3⟩:=key;rw[r1,A5,r2,A5,R22_Same_self _ r3.h1 r3.h2 r3.h3,A5,D2,R16_Same_self r3.h4,A5,D2,C9 rfl,C9 rfl,IX];rfl
end
end
def zyx(x0:B7)(_:JB x0)(_:IF x0<=1048576):vJ x0=some true :=
 plain_LazyRuns x0
def eI{X:St}{src:List (Nat×Option Nat)}{E:Nat->Nat}{t:Nat}{y b:IV}(h1:X.av t=.im y)(h2:AV.im y=.im b):∃x,X.av t=x/\SubR X src E x (.im b):=⟨.im y,h1,.im (Sub.rfl' h2)⟩
def odt{p:Prop}[Decidable p](h:decide p=true):p:=of_decide_eq_true h
def odf{p:Prop}[Decidable p](h:decide p=false):¬p:=of_decide_eq_false h
def ctd{V:Type}{p:Prop}[Decidable p]{x y z:V}(hb:decide p=true)(h:cond (decide p) x y=z):x=z/\p:=⟨cond_t hb h,odt hb⟩
def cfd{V:Type}{p:Prop}[Decidable p]{x y z:V}(hb:decide p=false)(h:cond (decide p) x y=z):y=z/\¬p:=⟨cond_f hb h,odf hb⟩
def hT{X:St}:Holds X True:=Holds.true_ _
abbrev lZ{V:Type}(l:List V):Prop:=List.length l<=17592186044416
def eA{X:St}{avs:List (Nat×AV)}{kds:List (Nat×Kd)}{cels:List (Nat×Nat×AV)}(src:List (Nat×Option Nat))(hn:ndB (srcs src) []=true:=by exact rfl)(ha:SubL X src (gnM kds) avs:=by repeat' (first|exact trivial|refine⟨eI rfl rfl,?_⟩|refine⟨⟨.own _ _ _,rfl,.own rfl rfl rfl⟩,?_⟩|refine⟨⟨.osl _ _,rfl,.osl rfl rfl rfl⟩,?_⟩|refine⟨⟨.im (.val (.slice none 0 0)),rfl,.made rfl rfl⟩,?_⟩|refine⟨⟨.sub _ _ _,rfl,.sub rfl rfl⟩,?_⟩|refine⟨⟨.osv _ _ _ _,rfl,.osv rfl rfl rfl⟩,?_⟩|refine⟨⟨.agg [.osl _ _],rfl,.agg (.cons (.osl rfl rfl rfl) (.nil))⟩,?_⟩))(hk:KdL X src kds:=by repeat' (first|exact trivial|refine⟨.inl ⟨_,rfl,rfl,trivial⟩,?_⟩|refine⟨.inl ⟨_,rfl,rfl,⟨rfl,rfl⟩⟩,?_⟩|refine⟨.inr ⟨rfl,rfl,.inl ⟨_,_,rfl,by decide⟩⟩,?_⟩|refine⟨.inr ⟨rfl,rfl,.inr (.inl ⟨_,_,_,rfl⟩)⟩,?_⟩))(hc:CeL X src (gnM kds) cels:=by repeat' (first|exact trivial|refine⟨⟨_,.im _,rfl,rfl,.im (Sub.rfl' rfl)⟩,?_⟩|refine⟨⟨_,.own _ _ _,rfl,rfl,.own rfl rfl rfl⟩,?_⟩|refine⟨⟨_,.osl _ _,rfl,rfl,.osl rfl rfl rfl⟩,?_⟩|refine⟨⟨_,.im (.val (.slice none 0 0)),rfl,rfl,.made rfl rfl⟩,?_⟩)):Ent X (mkSt avs kds cels):=Ent.mk src hn ha hk hc
def D1{S R:Type}{step:S->Option (S⊕R)}{r:R}{k:Nat}{x:R}(h:Fin step r k (.inr x)):x=r:=h
def B3{V:Type}{p:Prop}[Decidable p]{x y z:V}{A B:Prop}(h:cond (decide p) x y=z)(k:decide p=true->x=z->p->A)(l:decide p=false->y=z->¬p->B):Both (decide p) A B:=.mk (λe=>k e (ctd e h).1 (ctd e h).2) λe=>l e (cfd e h).1 (cfd e h).2
def W8{V:Type}{p:Prop}[Decidable p]{x y z:V}{A B:Prop}(h:cond (decide p) x y=z)(k:decide p=true->x=z->p->A)(l:decide p=false->y=z->¬p->B):Both (decide p==true) A B:=.mk (λe=>k (beq_tt e) (ctd (beq_tt e) h).1 (ctd (beq_tt e) h).2) λe=>l (beq_tf e) (cfd (beq_tf e) h).1 (cfd (beq_tf e) h).2
def U2{V:Type}{p:Prop}[Decidable p]{x y z:V}{A B:Prop}(h:cond (decide p) x y=z)(k:decide p=false->y=z->¬p->A)(l:decide p=true->x=z->p->B):Both (decide p==false) A B:=.mk (λe=>k (beq_ff e) (cfd (beq_ff e) h).1 (cfd (beq_ff e) h).2) λe=>l (beq_ft e) (ctd (beq_ft e) h).1 (ctd (beq_ft e) h).2
def D9{V:Type}{b:Bool}{x y z:V}{A B:Prop}(h:cond b x y=z)(k:b=true->x=z->A)(l:b=false->y=z->B):Both b A B:=.mk (λe=>k e (cond_t e h)) λe=>l e (cond_f e h)
def eH{V:Type}{b:Bool}{x y z:V}{A B:Prop}(h:cond b x y=z)(k:b=true->x=z->A)(l:b=false->y=z->B):Both (b==true) A B:=.mk (λe=>k (beq_tt e) (cond_t (beq_tt e) h)) λe=>l (beq_tf e) (cond_f (beq_tf e) h)
def gV{V:Type}{b:Bool}{x y z:V}{A B:Prop}(h:cond b x y=z)(k:b=false->y=z->A)(l:b=true->x=z->B):Both (b==false) A B:=.mk (λe=>k (beq_ff e) (cond_f (beq_ff e) h)) λe=>l (beq_ft e) (cond_t (beq_ft e) h)
def E0{V G:Type}{l:List V}{c:V->List IV}{i:Nat}{F:V->Option G}{r:G}{Z:Option Nat}{K:List IV->Prop}(h:idxn l i F=some r)(k:∀x,l[i]?=some x->F x=some r->K (c x))(hz:∀x,Z=some (c x).length:=by exact λ_=>rfl):∃e,(0<=(i:Int)/\(l.map c)[(i:Int).toNat]?=some e/\Z=some e.length)/\K e:=by
 obtain⟨x,hx,h⟩:=Z8 h;exact⟨c x,⟨by omega,P7 hx,hz x⟩,k x hx h⟩
def J7{V G:Type}{l:List V}{c:V->List IV}{i:Int}{F:V->Option G}{r:G}{Z:Option Nat}{K:List IV->Prop}(h:idx l i F=some r)(k:∀x,0<=i->l[i.toNat]?=some x->F x=some r->K (c x))(hz:∀x,Z=some (c x).length:=by exact λ_=>rfl):∃e,(0<=i/\(l.map c)[i.toNat]?=some e/\Z=some e.length)/\K e:=by
 obtain⟨x,h0,hx,h⟩:=dR h;exact⟨c x,⟨h0,P7 hx,hz x⟩,k x h0 hx h⟩
def zzL{S R:Type}{step:S->Option (S⊕R)}{n:Nat}{s0:S}{r:R}(h:Sym.iter step n s0=some r)(st:S->St)(J:S->Prop){body:(Exit->St->Prop)->St->Prop}{K:Exit->St->Prop}{X:St}(e0:Ent X (st s0))(hJ:∀s,Holds (st s) (J s))
 (hb:∀k s o,J s->step s=some o->Fin step r k o->body (λe X'=>match e with|.normal=>Nxt step r st k X'|e=>K e X') (st s)):eM body K X:=eM.iter step st J h e0 hJ hb
def C2{P:Program}{f:FuncId}{fn:Func}{c:Code}{xs:List Arg}{r:Rs}(own:List Nat)(h:OkAs xs->frcW (entW xs) 0 sig0 λ_ X=>bE P (SpX P) fn.ntmps own c (retK P fn.results.toList xs r) X)(hm:P.follows .mixedOrders=true:=by exact rfl)(hf:P.funcs[f]?=some fn:=by exact rfl)(hname:(fn.name=="runtime.NumGoroutine")=false:=by exact rfl)(hb:fn.body=some c:=by exact rfl)
 (hn:xs.length<=fn.ntmps:=by exact AS rfl) (hok:entOk xs=true:=by exact rfl):Sp P f xs r:=sp_of hm own hf hname hb hn hok h
def zzV{J:Prop}{Z:Type}(oc:Unit⊕Z)(st:St){body:(St->Prop)->Prop}{rest:St->Prop}(hJ:Holds st J)(h:body (X8 oc λ_=>st))(k:∀y:Unit,oc=.inl y->J->rest st):Cut body rest:=LU oc (λ_=>st) (λ_=>J) (λ_=>hJ) h k
def zzR_{x:Int}(h:-9223372036854775808<=x/\x<=9223372036854775807):inR x:=h
abbrev A7(x:Int):AV:=.im (nI x)
abbrev C1(x:Nat):AV:=.im (nI (x:Int))
abbrev G8(x:Bool):AV:=.im (nB x)
abbrev B9(x:List IV):AV:=.im (.ref x)
abbrev A9{V:Type}(c:V->List IV)(l:List V):AV:=.im (nL c l)
def zid:List Nat->List (Nat×Option Nat)
 |[]=>[]
 |a::l=>(a,some a)::zid l
def J1:List Nat->List (Nat×Option Nat)
 |a::b::l=>(a,some b)::J1 l
 |_=>[]
def idk:List (Nat×Kd)->List (Nat×Option Nat)
 |[]=>[]
 |a::l=>(a.1,some a.1)::idk l
def eZ{X:St}{avs:List (Nat×AV)}{kds:List (Nat×Kd)}{cels:List (Nat×Nat×AV)}(hn:ndB (srcs (idk kds)) []=true:=by exact rfl)(ha:SubL X (idk kds) (gnM kds) avs:=by repeat' (first|exact trivial|refine⟨eI rfl rfl,?_⟩|refine⟨⟨.own _ _ _,rfl,.own rfl rfl rfl⟩,?_⟩|refine⟨⟨.osl _ _,rfl,.osl rfl rfl rfl⟩,?_⟩|refine⟨⟨.im (.val (.slice none 0 0)),rfl,.made rfl rfl⟩,?_⟩|refine⟨⟨.sub _ _ _,rfl,.sub rfl rfl⟩,?_⟩|refine⟨⟨.osv _ _ _ _,rfl,.osv rfl rfl rfl⟩,?_⟩|refine⟨⟨.agg [.osl _ _],rfl,.agg (.cons (.osl rfl rfl rfl) (.nil))⟩,?_⟩))(hk:KdL X (idk kds) kds:=by repeat' (first|exact trivial|refine⟨.inl ⟨_,rfl,rfl,trivial⟩,?_⟩|refine⟨.inl ⟨_,rfl,rfl,⟨rfl,rfl⟩⟩,?_⟩))(hc:CeL X (idk kds) (gnM kds) cels:=by repeat' (first|exact trivial|refine⟨⟨_,.im _,rfl,rfl,.im (Sub.rfl' rfl)⟩,?_⟩|refine⟨⟨_,.own _ _ _,rfl,rfl,.own rfl rfl rfl⟩,?_⟩|refine⟨⟨_,.osl _ _,rfl,rfl,.osl rfl rfl rfl⟩,?_⟩|refine⟨⟨_,.im (.val (.slice none 0 0)),rfl,rfl,.made rfl rfl⟩,?_⟩)):Ent X (mkSt avs kds cels):=Ent.mk (idk kds) hn ha hk hc
def R4{V G:Type}{X:Option V}{F:V->Option G}{r:G}{J:V->Prop}(h:X.bind F=some r)(st:V->St){body:(St->Prop)->Prop}{rest:St->Prop}(hJ:∀y,Holds (st y) (J y))(k:∀y,F y=some r->J y->rest (st y))(hb:∀y,X=some y->body (Join (st y)):=by intro y h;repeat' ((try conv=>whnf);first|refine B6 (by assumption) ?_|refine C5 (by assumption) ?_|refine B6 (I3 (by assumption)) ?_|refine C5 (R6 (by assumption)) ?_|refine B6 (G9 (by assumption)) ?_|refine C5 (R0 (by assumption)) ?_|refine B6 rfl ?_|refine C5 rfl ?_|refine B3 h (λ_ h _=>?_) λ_ h _=>?_|refine U2 h (λ_ h _=>?_) λ_ h _=>?_|refine W8 h (λ_ h _=>?_) λ_ h _=>?_|refine D9 h (λ_ h=>?_) λ_ h=>?_|refine gV h (λ_ h=>?_) λ_ h=>?_|refine eH h (λ_ h=>?_) λ_ h=>?_|refine E0 h λ_ _ h=>?_|refine J7 h λ_ _ _ h=>?_|refine B4 _ C0 ?_|refine A4 rfl ?_|(cases h;exact H5 eZ))):Cut body rest:=by
 obtain⟨y,hc,h⟩:=B0 h;exact Cut.mk (st y) (J y) (hJ y) (hb y hc) (k y h)
def zzU{J:Prop}(s:St){body:(St->Prop)->Prop}{rest:St->Prop}(hJ:Holds s J)(h:body (Join s))(k:J->rest s):Cut body rest:=Cut.mk s J hJ h k
def B1{V G Y:Type}{X:Option V}{F:V->Option G}{r:G}{C K:Y->Prop}{R:V->Y}(h:X.bind F=some r)(c:∀a,X=some a->C (R a))(k:∀a,X=some a->F a=some r->K (R a)):∃y,C y/\K y:=by
 obtain⟨a,h1,h2⟩:=B0 h;exact⟨R a,c a h1,k a h1 h2⟩
def B2{V:Type}{a r:V}{P:Prop}(x:some a=some r)(k:a=r->P:=by intro e;cases e;exact⟨rfl,rfl⟩):P:=k (Option.some.inj x)
def G7{V:Type}{a r:V}{P:Prop}(x:some a=some r)(k:a=r->P:=by intro e;cases e;exact A4 ⟨rfl,trivial⟩ ⟨rfl,rfl⟩):P:=k (Option.some.inj x)
def E4{k:IntKind}{n:Int}{F:Int->Prop}(g:F n)(h:rng k n:=by exact zzR_ (by omega)):dI k n F:=dI.mk h g
abbrev C8:AV:=.im (.val (.slice none 0 0))
abbrev zr0_(x:A3):Kd:=.row 46 1 (List.map (cL cI) x)
abbrev zr1_(x:A2):Kd:=.row 3 1 (List.map cI x)
abbrev zr2_(x:List (A3)):Kd:=.row 22 1 (List.map (cL (cL cI)) x)
def BF:IV->Prop
 |.sl es=>es.length<=17592186044416
 |_=>True
def wM:AV->Prop
 |.im x=>BF x
 |_=>True
def GM:Kd->Prop
 |.row _ _ es=>es.length<=17592186044416
 |.que _ _ es=>es.length<=17592186044416
 |.grid _ _ _ gs _=>gs.length<=17592186044416
 |_=>True
def BE:List (Nat×AV)->Prop
 |[]=>True
 |(_,a)::l=>wM a/\BE l
def BC:List (Nat×Kd)->Prop
 |[]=>True
 |(_,a)::l=>GM a/\BC l
def BD:List (Nat×Nat×AV)->Prop
 |[]=>True
 |(_,_,a)::l=>wM a/\BD l
abbrev zS:=List (Nat×AV)×List (Nat×Kd)×List (Nat×Nat×AV)
abbrev zM(S:zS):St:=mkSt S.1 S.2.1 S.2.2
def zP(S:zS):Prop:=BE S.1/\BC S.2.1/\BD S.2.2
def zZ:List (Nat×AV)->Bool
 |[]=>true
 |(t,_)::l=>l.all (λp=>!Nat.beq p.1 t)&&zZ l
def zX:List (Nat×Kd)->Bool
 |[]=>true
 |(t,_)::l=>l.all (λp=>!Nat.beq p.1 t)&&zX l
def zY(K:List (Nat×Kd)):List (Nat×Nat×AV)->Bool
 |[]=>true
 |(o,i,_)::l=>l.all (λp=>!(Nat.beq p.1 o&&Nat.beq p.2.1 i))&&(match aQ K o with |.box _ m=>Nat.blt i m |_=>false)&&zY K l
def zO(S:zS):Bool:=zZ S.1&&zX S.2.1&&zY S.2.1 S.2.2
def MD{es:List (List IV)}(h:Ok (.sl es)):es.length<=17592186044416:=dN (c:=id) (by rw[List.map_id];exact h)
def MC{es:List (List IV)}(h:OkL es):es.length<=17592186044416:=okl_len (c:=id) (by rw[List.map_id];exact h)
def LS:∀{l:List (Nat×AV)},zZ l=true->∀p∈l,lookA l p.1=p.2
 |[],_,p,h=>by cases h
 |q::l,hn,p,h=>by
  unfold zZ at hn;simp only[M7,O0]at hn;unfold lookA;rcases I2.1 h with e|h
  · subst e;simp
  · have:=hn.1 p h;simp at this
    have e:Nat.beq p.1 q.1=false:=by simpa using this
    rw[e];exact LS hn.2 p h
def LQ:∀{l:List (Nat×Kd)},zX l=true->∀p∈l,aQ l p.1=p.2
 |[],_,p,h=>by cases h
 |q::l,hn,p,h=>by
  unfold zX at hn;simp only[M7,O0]at hn;unfold aQ;rcases I2.1 h with e|h
  · subst e;simp
  · have:=hn.1 p h;simp at this
    have e:Nat.beq p.1 q.1=false:=by simpa using this
    rw[e];exact LQ hn.2 p h
def LR{K:List (Nat×Kd)}:∀{l:List (Nat×Nat×AV)},zY K l=true->∀p∈l,lookC l p.1 p.2.1=p.2.2/\∃t m,aQ K p.1=.box t m/\p.2.1<m
 |[],_,p,h=>by cases h
 |q::l,hn,p,h=>by
  unfold zY at hn;simp only[M7,O0]at hn;unfold lookC;rcases I2.1 h with e|h
  · subst e;refine⟨by simp,?_⟩
    have h2:=hn.1.2;cases ek:aQ K p.1 with
    |box t m=>rw[ek]at h2;exact⟨t,m,rfl,by simpa using h2⟩
    |_=>rw[ek]at h2;cases h2
  · have h1:=hn.1.1 p h
    have e:(Nat.beq p.1 q.1&&Nat.beq p.2.1 q.2.1)=false:=by revert h1;cases (Nat.beq p.1 q.1&&Nat.beq p.2.1 q.2.1)<;>decide
    rw[e];exact LR hn.2 p h
def MG{X:St}:∀{l:List (Nat×AV)},(∀p∈l,X.av p.1=p.2)->Holds X (BE l)
 |[],_=>Holds.true_ _
 |p::l,h=>by
  refine Holds.and ?_ (MG λq hq=>h q (K3 _ hq));have h1:=h p (aP ..);unfold wM;split
  · rename_i x e;rw[e]at h1;unfold BF;split
    · exact(Holds.av _ h1).mono MD
    · exact Holds.true_ _
  · exact Holds.true_ _
def Holds.kdq{X:St}(o:Nat){t:TypeId}{k:Nat}{es:List (List IV)}(hk:X.kd o=.que t k es):Holds X (OkL es):=by
 rintro B a w ⟨Y,hs⟩;have ho:=hs.obs o;rw[hk]at ho;obtain⟨us,h1,h2,h3,h5,h6,h7,h8⟩:=ho;exact⟨h3,ok_flat h5 h7⟩
def ME{X:St}:∀{l:List (Nat×Kd)},(∀p∈l,X.kd p.1=p.2)->Holds X (BC l)
 |[],_=>Holds.true_ _
 |p::l,h=>by
  refine Holds.and ?_ (ME λq hq=>h q (K3 _ hq));have h1:=h p (aP ..);unfold GM;split
  · rename_i e;rw[e]at h1;exact(Holds.kd _ h1).mono MC
  · rename_i e;rw[e]at h1;exact(Holds.kdq _ h1).mono MC
  · rename_i gs _ e;rw[e]at h1;exact Holds.kdg (c:=id) _ (by rw[List.map_id];exact h1)
  · exact Holds.true_ _
def MF{X:St}:∀{l:List (Nat×Nat×AV)},(∀p∈l,X.ce p.1 p.2.1=p.2.2/\∃t m,X.kd p.1=.box t m/\p.2.1<m)->Holds X (BD l)
 |[],_=>Holds.true_ _
 |p::l,h=>by
  refine Holds.and ?_ (MF λq hq=>h q (K3 _ hq));obtain⟨h1,t,m,h2,h3⟩:=h p (aP ..);unfold wM;split
  · rename_i x e;rw[e]at h1;unfold BF;split
    · exact(Holds.ce _ _ h2 h3 h1).mono MD
    · exact Holds.true_ _
  · exact Holds.true_ _
def GN(S:zS)(h:zO S=true):Holds (zM S) (zP S):=by
  unfold zO at h;simp only[M7]at h;exact(MG (LS h.1.1)).and ((ME (LQ h.1.2)).and (MF (LR h.2)))
def zzLx{S R:Type}{step:S->Option (S⊕R)}{n:Nat}{s0:S}{r:R}(h:Sym.iter step n s0=some r)(st:S->zS){body:(Exit->St->Prop)->St->Prop}{K:Exit->St->Prop}{X:St}(e0:Ent X (zM (st s0)))
 (hb:∀k s o,zP (st s)->step s=some o->Fin step r k o->body (λe X'=>match e with|.normal=>Nxt step r (λs=>zM (st s)) k X'|e=>K e X') (zM (st s))) (hk:∀s,zO (st s)=true:=by exact λ_=>rfl):eM body K X:=eM.iter step (λs=>zM (st s)) (λs=>zP (st s)) h e0 (λs=>GN _ (hk s)) hb
def zzUx(S:zS){body:(St->Prop)->Prop}{rest:St->Prop}(h:body (Join (zM S)))(k:zP S->rest (zM S))(hk:zO S=true:=by exact rfl):Cut body rest:=Cut.mk (zM S) (zP S) (GN S hk) h k
def zzVx{Y Z:Type}(oc:Y⊕Z)(st:Y->zS){body:(St->Prop)->Prop}{rest:St->Prop}(h:body (X8 oc λy=>zM (st y)))(k:∀y,oc=.inl y->zP (st y)->rest (zM (st y)))(hk:∀y,zO (st y)=true:=by exact λ_=>rfl):Cut body rest:=LU oc (λy=>zM (st y)) (λy=>zP (st y)) (λy=>GN _ (hk y)) h k
def zq{P Q:Prop}(h:P)(k:P->Q:=by intro h;(try simp only[zP,BE,BC,BD,wM,BF,GM,E1]at h);exact h):Q:=k h
def D5{S R:Type}{step:S->Option (S⊕R)}{r:R}{st:S->St}{k:Nat}{o:S⊕R}{x:S}{X:St}(h:some (Sum.inl x)=some o)(ho:Fin step r k o)(e:Ent X (st x):=by exact eZ):Nxt step r st k X:=by cases h;exact oV _ ho e
def zzN_{S Y Z:Type}{step:S->Option (S⊕(Y⊕Z))}{oc:Y⊕Z}{st:Y->St}{k:Nat}{o:S⊕(Y⊕Z)}{y:Y}{X:St}(h:some (Sum.inr (Sum.inl y))=some o)(ho:Fin step oc k o)(e:Ent X (st y):=by exact eZ):X8 oc st X:=by cases h;cases D1 ho;exact X8.mk' _ rfl e
def zzJn{V:Type}{a r:V}{P:Prop}(x:some a=some r)(k:a=r->P:=by intro e;cases e;exact H5 eZ):P:=k (Option.some.inj x)
def S7{V:Type}(lo hi:Int)(l:List V)(c:V->List IV){k:Nat}{K:Prop}(g:K)(a:0<=lo:=by omega)(b:lo<=hi:=by first|omega|(simp only[E1];omega))(d:hi<=((l.map c).length:Int):=by first|omega|(simp only[E1];omega))(e:∀x,(c x).length=k:=by exact λ_=>rfl):Side (0<=lo/\lo<=hi/\hi<=((l.map c).length:Int)/\(∀e∈l.map c,e.length=k)) K:=.mk ⟨a,b,d,jS e⟩ g
def wK(f:IV->Prop):List IV->Prop
 |[]=>True
 |x::l=>f x/\wK f l
def zg:Nat->IV->Prop
 |0,_=>True
 |_+1,.sl es=>es.length<=17592186044416
 |n+1,.agg cs=>wK (zg n) cs
 |n+1,.ref cs=>wK (zg n) cs
 |_,_=>True
def pO:List Oc->Prop
 |[]=>True
 |.im x::l=>zg 4 x/\pO l
 |.ow (.row _ _ es)::l=>es.length<=17592186044416/\pO l
 |_::l=>pO l
def lQ:List Arg->Prop
 |[]=>True
 |.im x::l=>zg 4 x/\lQ l
 |.ow (.row _ _ es)::l=>es.length<=17592186044416/\lQ l
 |.lent (.row _ _ es)::l=>es.length<=17592186044416/\lQ l
 |.box _ cs::l=>pO cs/\lQ l
 |_::l=>lQ l
def GL{f:IV->Prop}:∀{cs:List IV},(∀x∈cs,f x)->wK f cs
 |[],_=>trivial
 |x::l,h=>⟨h x (aP ..),GL λy hy=>h y (K3 _ hy)⟩
def BA:∀(n:Nat) {x:IV},Ok x->zg n x
 |0,_,_=>by unfold zg;trivial
 |n+1,x,h=>by
  unfold zg;split
  · rename_i e;cases e
  · exact h.sl.1
  · rename_i e;cases e;exact GL λx hx=>BA n (h.agg x hx)
  · rename_i e;cases e;exact GL λx hx=>BA n (h.ref x hx)
  · trivial
def AZ:∀{l:List Oc},fQ l->pO l
 |[],_=>trivial
 |x::l,h=>by
  unfold pO;split
  · trivial
  · rename_i e;cases e;exact⟨BA 4 h.1,AZ h.2⟩
  · rename_i e;cases e;exact⟨h.1.1,AZ h.2⟩
  · rename_i e;cases e;exact AZ h.2
def sF:∀{l:List Arg},OkAs l->lQ l
 |[],_=>trivial
 |x::l,h=>by
  unfold lQ;split
  · trivial
  · rename_i e;cases e;exact⟨BA 4 h.1,sF h.2⟩
  · rename_i e;cases e;exact⟨h.1.1,sF h.2⟩
  · rename_i e;cases e;exact⟨h.1.1,sF h.2⟩
  · rename_i e;cases e;exact⟨AZ h.1,sF h.2⟩
  · rename_i e;cases e;exact sF h.2
def C3{xs:List Arg}{Q:Prop}(h:OkAs xs)(k:lQ xs->Q:=by intro h;(try simp only[lQ,pO,zg,wK,kP,Q0,L3,H0,E6,dX,G5,C4,zW,sB,pR,KJ,dB,E1]at h);exact h):Q:=k (sF h)
def K6{V:Type}{k:IntKind}{n:Int}{F:Int->Prop}{d:Decidable (rng k n)}{X:Option V}{r:V}(h:@chk V (rng k n) d X=some r)(g:X=some r->rng k n->F n):dI k n F:=by
 obtain⟨h1,h⟩:=J0 h;exact dI.mk h1 (g h h1)
def N4{V G:Type}(l:List V)(x:V)(c:V->List IV){b n k:Nat}{g:Prop}{X:Option G}{r:G}{K:List (List IV)->Prop}(h:chk (E5 n b) X=some r)(hk:E5 n b->X=some r->K (List.map c (l++[x])))(hn:n=l.length+1:=by exact rfl)(hg:g:=by exact rfl)(hc:∀y,(c y).length=k:=by exact λ_=>rfl):Side (g/\(∀e∈[c x],e.length=k)/\E5 ((l.map c).length+[c x].length) b) (Nf (l.map c++[c x]) K):=by
 obtain⟨h1,h⟩:=J0 h;refine A4 ⟨hg,λe he=>by rw[K2.1 he];exact hc x,?_⟩ (B4 (List.map c (l++[x])) (by rw[N3];rfl) (hk h1 h));rw[E1];rw[hn]at h1;exact h1
def sp_L24_Small(m_:B7)(r:Bool)(h:tU m_=some r):Sp Tryz.prog 4 [.im (.agg (H0 m_))] (.im (nB r)):=by
 refine C2 [700001] λhk=>?_;have hz:=C3 hk;unfold tU at h;refine R4 h (λa2=>mkSt [(2,G8 a2)] [] []) (λ_=>hT) λa2 h hp=>?_;exact B2 h
def AD(a_ b_:A2)(r:Int)(h:gD a_ b_=some r):Sp Tryz.prog 92 [.im (nL cI a_),.im (nL cI b_)] (.im (nI r)):=by
 refine C2 [] λhk=>?_;have hz:=C3 hk;unfold gD at h;obtain⟨a7,h,a4⟩:=B0 h;refine zzUx ([(5,C1 a7)],[],[]) ?_ λhp=>?_;refine zzLx h (λa2=>([(0,A9 cI a_),(1,A9 cI b_),(5,C1 a2)],[],[])) eZ ?_;rintro k a2 o hp h a3;unfold gD.s2 at h;have hp:=zq hp;refine R4 h (λa6=>mkSt [(0,A9 cI a_),(1,A9 cI b_),(5,C1 a2),(26,G8 a6)] [] []) (λ_=>((X0 0 rfl).and ((X0 1 rfl).and hT))) λa6 h hp=>?_;have hp:=zq hp;refine D9 h (λa8 h=>?_) λa8 h=>?_;refine K6 h λh b0=>?_;exact D5 h a3;cases h;cases D1 a3;exact H5 eZ;replace h:=a4;exact B2 h
def ED(a_ b_:A2)(r:Bool)(h:mV a_ b_=some r):Sp Tryz.prog 44 [.im (nL cI a_),.im (nL cI b_)] (.im (nB r)):=by
 refine C2 [] λhk=>?_;have hz:=C3 hk;unfold mV at h;obtain⟨a7,h,a3⟩:=B0 h;refine zzUx ([(4,G8 a7)],[],[]) ?_ λhp=>?_;refine B4 a_.length C0<|B4 b_.length C0<|W8 h (λa2 h a6=>?_) λa2 h a6=>?_
 iterate 2 (refine B6 (G9 a2) ?_)
 refine B1 h (AD a_ b_) λa8 a4 h=>?_
 iterate 2 (refine B6 (G9 a2) ?_)
 refine B4 a_.length C0<|B6 (G9 a2)<|B6 a2 ?_;exact zzJn h
 iterate 5 (refine C5 (R0 a2) ?_)
 refine C5 a2 ?_;exact zzJn h;replace h:=a3;exact B2 h
def GF(a_ b_:A3)(r:Bool)(h:nG a_ b_=some r):Sp Tryz.prog 15 [.im (nL (cL cI) a_),.im (nL (cL cI) b_)] (.im (nB r)):=by
 refine C2 [] λhk=>?_;have hz:=C3 hk;unfold nG at h;refine B4 a_.length C0<|B4 b_.length C0<|B3 h (λa8 h a2=>?_) λa8 h a2=>?_;exact B2 h;obtain⟨oc,h,a4⟩:=B0 h;refine zzVx oc (λ(_:Unit)=>([],[],[])) ?_ ?_;refine zzLx h (λa7=>([(0,A9 (cL cI) a_),(1,A9 (cL cI) b_),(5,C1 a7)],[],[])) eZ ?_;rintro k a7 o hp h a3;unfold nG.s2 at h;have hp:=zq hp;refine B4 a_.length C0<|B3 h (λb0 h a6=>?_) λb0 h a6=>?_;refine E0 h λb2 b6 h=>?_;refine E0 h λb3 a9 h=>?_;refine B1 h (ED b2 b3) λb5 a5 h=>?_;refine D9 h (λb4 h=>?_) λb4 h=>?_;cases h;cases D1 a3;exact B2 a4;refine E4 ?_;exact D5 h a3;exact zzN_ h a3;rintro⟨⟩ rfl hp;replace h:=I9 a4;exact B2 h
def sp_table_New(inputs_:Int)(r:B8×Int)(h:jX inputs_=some r):Sp Tryz.prog 30 [.im (nI inputs_)] (.tup [.agg (G5 r.1),nI r.2]):=by
 refine C2 [] λhk=>?_;unfold jX at h;obtain⟨b2,h,a4⟩:=B0 h;refine zzUx ([(0,A7 inputs_),(2,.own 64 1 0),(11,G8 b2)],[(64,.box 79 3)],[(64,0,A7 0),(64,1,C8),(64,2,C8)]) ?_ λhp=>?_;refine U2 h (λa2 h a8=>?_) λa2 h a8=>?_;refine B6 (I3 a2)<|C5 a2 ?_;cases h;exact H5 (eA (J1 [64,2]));refine C5 (R6 a2)<|B6 a2 ?_;cases h;exact H5 (eA (J1 [64,2]));replace h:=a4;refine D9 h (λb3 h=>?_) λb3 h=>?_;refine A4 rfl ?_;exact G7 h;refine A4 rfl ?_;obtain⟨b4,h,a5⟩:=B0 h;refine zzUx ([(2,.own 64 1 0),(4,.own 65 1 0)],[(64,.box 79 3),(65,.box 79 3),(66,zr0_ b4)],[(64,0,A7 0),(64,1,C8),(64,2,C8),(65,0,A7 inputs_),(65,1,A9 (cL cI) [[]]),(65,2,.osl 66 1)]) ?_ λhp=>?_;refine zzLx h (λ(a6,a7)=>([(2,.own 64 1 0),(4,.own 65 1 0),(17,A7 inputs_),(18,C1 a7)],[(64,.box 79 3),(65,.box 79 3),(66,zr0_ a6)],[(64,0,A7 0),(64,1,C8),(64,2,C8),(65,0,A7 inputs_),(65,1,A9 (cL cI) [[]]),(65,2,.osl 66 1)])) (eA [(64,some 64),(65,some 4),(66,none)]) ?_;rintro k ⟨a6,a7⟩ o hp h a3;change jX.s2 inputs_ a6 a7=_ at h;unfold jX.s2 at h;have hp:=zq hp;refine B3 h (λb5 h b0=>?_) λb5 h b0=>?_;refine A4 rfl<|A4 rfl<|N4 a6 [(a7:Int)] (cL cI) h λb6 h=>?_;refine A4 rfl<|A4 rfl<|K6 h λh b7=>?_;exact D5 h a3;cases h;cases D1 a3;exact H5 eZ;replace h:=a5;have hp:=zq hp;refine A4 rfl<|A4 rfl ?_;cases h;refine A4 ⟨rfl,trivial⟩ ?_;exact A4 ⟨rfl,trivial⟩ ⟨rfl,rfl⟩
def DV(inputs_:Int)(r:C7×Int)(h:oE inputs_=some r):Sp Tryz.prog 10 [.im (nI inputs_)] (.tup [.agg (L3 r.1),nI r.2]):=by
 refine C2 [] λhk=>?_;unfold oE at h;refine B1 h (sp_table_New inputs_) λa7 a3 h=>?_;refine A4 rfl<|B3 h (λa6 h a2=>?_) λa6 h a2=>?_;refine A4 rfl ?_;exact G7 h;refine A4 rfl<|A4 rfl<|A4 rfl<|A4 rfl<|A4 rfl ?_;exact G7 h
def sp_L23_Gate(r:A6)(h:L23_Gate=some r):Sp Tryz.prog 12 [] (.im (.agg (E6 r))):=by
 refine C2 [] λhk=>?_;unfold L23_Gate at h;refine A4 rfl ?_;exact G7 h
def zhs(x_:A3)(target_:A2)(cmp_:(A2)->(A2)->Option Int)(f2_:FuncId)(hf2:∀x0 x1 r,cmp_ x0 x1=some r->Sp Tryz.prog f2_ [.im (nL cI x0),.im (nL cI x1)] (.im (nI r)))(r:Int×Bool)(h:jB x_ target_ cmp_=some r):Sp Tryz.prog 71 [.im (nL (cL cI) x_),.im (nL cI target_),.im (.fn f2_ [])] (.tup [nI r.1,nB r.2]):=by
 refine C2 [] λhk=>?_;have hz:=C3 hk;unfold jB at h;refine B4 x_.length C0 ?_;obtain⟨c8,h,d1⟩:=B0 h;refine zzUx ([(0,A9 (cL cI) x_),(1,A9 cI target_),(2,.im (.fn f2_ [])),(8,A7 (x_.length:Int)),(9,A7 c8)],[],[]) ?_ λhp=>?_;refine zzLx h (λ(a6,a7)=>([(0,A9 (cL cI) x_),(1,A9 cI target_),(2,.im (.fn f2_ [])),(8,A7 (x_.length:Int)),(9,A7 a6),(10,A7 a7)],[],[])) eZ ?_;rintro k ⟨a6,a7⟩ o hp h a3;change jB.s2 x_ target_ cmp_ a6 a7=_ at h;unfold jB.s2 at h;have hp:=zq hp;refine B3 h (λb3 h a8=>?_) λb3 h a8=>?_;refine K6 h λh c9=>?_;obtain⟨b4,h⟩:=J0 h;refine A4 b4 ?_;obtain⟨b5,h⟩:=J0 h;refine A4 ⟨⟨by show(0:Int)<=(a6+a7) / 2^1;omega,by show(a6+a7) / 2^1<=(18446744073709551615:Int);omega⟩,b5.1,by decide,by decide⟩ ?_;obtain⟨b6,h⟩:=J0 h;refine A4 b6<|J7 h λb7 d3 d5 h=>?_;obtain⟨b8,a9,h⟩:=B0 h;refine⟨_,hf2 b7 target_ b8 a9,?_⟩;refine B3 h (λb9 h b0=>?_) λb9 h b0=>?_;refine K6 h λh d0=>?_;exact D5 h a3;exact D5 h a3;cases h;cases D1 a3;exact H5 eZ;replace h:=d1;have hp:=zq hp;obtain⟨c0,h,a5⟩:=B0 h;refine zzUx ([(6,A7 c8),(7,G8 c0)],[],[]) ?_ λhp=>?_;refine W8 h (λa2 h b2=>?_) λa2 h b2=>?_
 iterate 3 (refine B6 (G9 a2) ?_)
 refine J7 h λc6 d2 d4 h=>?_
 iterate 3 (refine B6 (G9 a2) ?_)
 obtain⟨c7,a4,h⟩:=B0 h;refine⟨_,hf2 c6 target_ c7 a4,?_⟩;refine B6 (G9 a2)<|B6 a2 ?_;exact zzJn h
 iterate 7 (refine C5 (R0 a2) ?_)
 refine C5 a2 ?_;exact zzJn h;replace h:=a5;exact B2 h
def KV(x_:Int)(r:Bool)(h:cmp_isNaN_int x_=some r):Sp Tryz.prog 186 [.im (nI x_)] (.im (nB r)):=by
 refine C2 [] λhk=>?_;unfold cmp_isNaN_int at h;exact B2 h
def LI(x_ y_ r:Int)(h:cmp_Compare_int x_ y_=some r):Sp Tryz.prog 128 [.im (nI x_),.im (nI y_)] (.im (nI r)):=by
 refine C2 [] λhk=>?_;unfold cmp_Compare_int at h;refine B1 h (KV x_) λb4 a3 h=>?_;refine B1 h (KV y_) λb5 a4 h=>?_;refine D9 h (λa7 h=>?_) λa7 h=>?_;refine D9 h (λa8 h=>?_) λa8 h=>?_;exact B2 h;exact B2 h;refine D9 h (λb0 h=>?_) λb0 h=>?_;exact B2 h;refine B3 h (λb2 h a2=>?_) λb2 h a2=>?_;exact B2 h;refine B3 h (λb3 h a6=>?_) λb3 h a6=>?_;exact B2 h;exact B2 h
def LZ(s1_ s2_:A2)(r:Int)(h:jA s1_ s2_=some r):Sp Tryz.prog 129 [.im (nL cI s1_),.im (nL cI s2_)] (.im (nI r)):=by
 refine C2 [] λhk=>?_;have hz:=C3 hk;unfold jA at h;refine B4 s1_.length C0 ?_;obtain⟨oc,h,a4⟩:=B0 h;refine zzVx oc (Y:=Unit) (λ(_:Unit)=>([(0,A9 cI s1_),(1,A9 cI s2_)],[],[])) ?_ ?_;refine zzLx h (λb0=>([(0,A9 cI s1_),(1,A9 cI s2_),(9,A9 cI s1_),(10,A7 (s1_.length:Int)),(11,C1 b0)],[],[])) eZ ?_;rintro k b0 o hp h a3;unfold jA.s2 at h;have hp:=zq hp;refine B3 h (λb2 h a2=>?_) λb2 h a2=>?_;refine E0 h λb3 a5 h=>?_;refine B4 s2_.length C0<|B3 h (λb4 h a6=>?_) λb4 h a6=>?_;cases h;cases D1 a3;exact B2 a4;refine E0 h λb5 a9 h=>?_;refine B1 h (LI b3 b5) λb8 b9 h=>?_;refine B3 h (λb6 h a7=>?_) λb6 h a7=>?_;cases h;cases D1 a3;exact B2 a4;refine E4 ?_;exact D5 h a3;exact zzN_ h a3;rintro⟨⟩ rfl hp;replace h:=I9 a4;have hp:=zq hp;refine B4 s1_.length C0<|B4 s2_.length C0<|B3 h (λb7 h a8=>?_) λb7 h a8=>?_;exact B2 h;exact B2 h
def sp_cmp_Or_int(vals_:A2)(r:Int)(h:gB vals_=some r):Sp Tryz.prog 127 [.im (nL cI vals_)] (.im (nI r)):=by
 refine C2 [] λhk=>?_;have hz:=C3 hk;unfold gB at h;refine B4 vals_.length C0 ?_;obtain⟨oc,h,a4⟩:=B0 h;refine zzVx oc (λ(_:Unit)=>([(3,A7 0)],[],[])) ?_ ?_;refine zzLx h (λa7=>([(3,A7 0),(6,A9 cI vals_),(7,A7 (vals_.length:Int)),(8,C1 a7)],[],[])) eZ ?_;rintro k a7 o hp h a3;unfold gB.s2 at h;have hp:=zq hp;refine B3 h (λa8 h a2=>?_) λa8 h a2=>?_;refine E0 h λb2 a5 h=>?_;refine B3 h (λb0 h a6=>?_) λb0 h a6=>?_;cases h;cases D1 a3;exact B2 a4;refine E4 ?_;exact D5 h a3;exact zzN_ h a3;rintro⟨⟩ rfl hp;replace h:=I9 a4;exact B2 h
def AP(a_ b_:A2)(r:Int)(h:cJ a_ b_=some r):Sp Tryz.prog 72 [.im (nL cI a_),.im (nL cI b_)] (.im (nI r)):=by
 refine C2 [] λhk=>?_;have hz:=C3 hk;unfold cJ at h;refine B4 a_.length C0<|B4 b_.length C0<|B1 h (LI (a_.length:Int) (b_.length:Int)) λa2 a4 h=>?_;refine B1 h (LZ a_ b_) λa6 a5 h=>?_;obtain⟨a7,a3,h⟩:=B0 h;refine⟨_,(sp_cmp_Or_int [a2,a6] a7 a3),?_⟩;exact B2 h
def EQ(l_:A3)(w_:A2)(r:A3)(h:oN l_ w_=some r):Sp Tryz.prog 35 [.im (nL (cL cI) l_),.im (nL cI w_)] (.im (nL (cL cI) r)):=by
 refine C2 [] λhk=>?_;have hz:=C3 hk;unfold oN at h;refine B1 h (zhs l_ w_ (λu0 u1=>cJ u0 u1) 72 (λu0 u1 r h=>(AP u0 u1 r h))) λa2 a4 h=>?_;refine D9 h (λa7 h=>?_) λa7 h=>?_;exact B2 h;obtain⟨b2,h⟩:=J0 h;refine A4 (show(0:Int)<=a2.1/\a2.1<=(↑(List.length (List.map (cL cI) l_)):Int)/\a2.1=a2.1/\(∀e∈List.map (cL cI) l_,List.length e=1) from⟨by omega,by simp only[E1];omega,rfl,jS λ_=>rfl⟩)<|B4 (List.map (cL cI) (List.take (Int.toNat a2.1) l_)) dS ?_;obtain⟨a6,a3,h⟩:=B0 h;refine⟨_,(iZ w_ a6 (a3)).im,?_⟩;obtain⟨a8,h⟩:=J0 h;refine A4 ⟨Nat.succ_pos _,jS (l:=(List.take (Int.toNat a2.1) l_)) (c:=cL cI) λ_=>rfl,jS (l:=[a6]) (c:=cL cI) λ_=>rfl,show E5 _ 24 by simpa only[E1,H7,V5,J9]using a8⟩ ?_;refine B4 (List.map (cL cI) ((List.take (Int.toNat a2.1) l_)++[a6])) (qF (l:=(List.take (Int.toNat a2.1) l_)) (m:=[a6]) (c:=cL cI)) ?_;obtain⟨b3,h⟩:=J0 h;refine S7 a2.1 (↑(List.length (List.map (cL cI) l_)):Int) l_ (cL cI)<|B4 (List.map (cL cI) (List.drop (Int.toNat a2.1) l_)) bL ?_;obtain⟨b0,h⟩:=J0 h;refine A4 ⟨rfl,jS (l:=(List.drop (Int.toNat a2.1) l_)) (c:=cL cI) λ_=>rfl,show E5 _ 24 by simpa only[E1,H7,V5,J9]using b0⟩ ?_;refine B4 (List.map (cL cI) (((List.take (Int.toNat a2.1) l_)++[a6])++(List.drop (Int.toNat a2.1) l_))) (qF (l:=((List.take (Int.toNat a2.1) l_)++[a6])) (m:=(List.drop (Int.toNat a2.1) l_)) (c:=cL cI)) ?_;cases h;exact A4 ⟨rfl,trivial⟩ ⟨rfl,rfl⟩
def pS(s1_ s2_:A2)(r:Bool)(h:bS s1_ s2_=some r):Sp Tryz.prog 85 [.im (nL cI s1_),.im (nL cI s2_)] (.im (nB r)):=by
 refine C2 [] λhk=>?_;have hz:=C3 hk;unfold bS at h;refine B4 s1_.length C0<|B4 s2_.length C0<|B3 h (λb0 h a2=>?_) λb0 h a2=>?_;exact B2 h;refine B4 s1_.length C0 ?_;obtain⟨oc,h,a4⟩:=B0 h;refine zzVx oc (λ(_:Unit)=>([],[],[])) ?_ ?_;refine zzLx h (λa8=>([(0,A9 cI s1_),(1,A9 cI s2_),(12,A7 (s1_.length:Int)),(13,C1 a8)],[],[])) eZ ?_;rintro k a8 o hp h a3;unfold bS.s2 at h;have hp:=zq hp;refine B3 h (λb2 h a6=>?_) λb2 h a6=>?_;refine E0 h λb4 a5 h=>?_;refine E0 h λb5 a9 h=>?_;refine B3 h (λb3 h a7=>?_) λb3 h a7=>?_;cases h;cases D1 a3;exact B2 a4;refine E4 ?_;exact D5 h a3;exact zzN_ h a3;rintro⟨⟩ rfl hp;replace h:=I9 a4;exact B2 h
def zyv(v_ p1_:A2)(r:Bool)(h:rY v_ p1_=some r):Sp Tryz.prog 134 [.im (nL cI v_),.im (.ref (cL cI p1_))] (.im (nB r)):=by
 refine C2 [] λhk=>?_;have hz:=C3 hk;unfold rY at h;refine B1 h (pS v_ p1_) λa2 a3 h=>?_;exact B2 h
def zky(s_:A3)(f_:(A2)->Option Bool)(f1_:FuncId)(k1_0:IV)(hk1_0:nz k1_0=k1_0)(hf1:∀x0 r,f_ x0=some r->Sp Tryz.prog f1_ [.im (nL cI x0),.im k1_0] (.im (nB r)))(r:Int)(h:kS s_ f_=some r):Sp Tryz.prog 188 [.im (nL (cL cI) s_),.im (.fn f1_ [k1_0])] (.im (nI r)):=by
 refine C2 [] λhk=>?_;have hz:=C3 hk;unfold kS at h;refine B4 s_.length C0 ?_;obtain⟨oc,h,a4⟩:=B0 h;refine zzVx oc (λ(_:Unit)=>([],[],[])) ?_ ?_;refine zzLx h (λa6=>([(0,A9 (cL cI) s_),(1,.im (.fn f1_ [k1_0])),(7,A7 (s_.length:Int)),(8,C1 a6)],[],[])) eZ ?_;rintro k a6 o hp h a3;unfold kS.s2 at h;have hp:=zq hp;refine B3 h (λa7 h a2=>?_) λa7 h a2=>?_;refine E0 h λa8 a9 h=>?_;obtain⟨b0,a5,h⟩:=B0 h;refine⟨_,Sp.args (hf1 a8 b0 a5) (by rw[hk1_0];try rfl),?_⟩;refine D9 h (λb2 h=>?_) λb2 h=>?_;cases h;cases D1 a3;exact B2 a4;refine E4 ?_;exact D5 h a3;exact zzN_ h a3;rintro⟨⟩ rfl hp;replace h:=I9 a4;exact B2 h
def zjk(s_:A3)(f_:(A2)->Option Bool)(f1_:FuncId)(k1_0:IV)(hk1_0:nz k1_0=k1_0)(hf1:∀x0 r,f_ x0=some r->Sp Tryz.prog f1_ [.im (nL cI x0),.im k1_0] (.im (nB r)))(r:Bool)(h:BH s_ f_=some r):Sp Tryz.prog 133 [.im (nL (cL cI) s_),.im (.fn f1_ [k1_0])] (.im (nB r)):=by
 refine C2 [] λhk=>?_;have hz:=C3 hk;unfold BH at h;refine B1 h (zky s_ f_ f1_ k1_0 hk1_0 hf1) λa2 a3 h=>?_;exact B2 h
def sp_wordset_Has(l_:A3)(w_:A2)(r:Bool)(h:vA l_ w_=some r):Sp Tryz.prog 76 [.im (nL (cL cI) l_),.im (nL cI w_)] (.im (nB r)):=by
 refine C2 [700003] λhk=>?_;have hz:=C3 hk;unfold vA at h;refine B1 h (zjk l_ (λu0=>rY u0 w_) 134 (.ref (cL cI w_)) rfl (λu0 r h=>(zyv u0 w_ r h))) λa2 a3 h=>?_;exact B2 h
def AG(l_:C7)(r:B8)(h:kC l_=some r):Sp Tryz.prog 32 [.im (.agg (L3 l_))] (.im (.agg (G5 r))):=by
 refine C2 [700001] λhk=>?_;have hz:=C3 hk;unfold kC at h;refine A4 rfl ?_;exact G7 h
def zme(s_:A2)(f_:Int->Option Bool)(f1_:FuncId)(hf1:∀x0 r,f_ x0=some r->Sp Tryz.prog f1_ [.im (nI x0)] (.im (nB r)))(r:Int)(h:kQ s_ f_=some r):Sp Tryz.prog 135 [.im (nL cI s_),.im (.fn f1_ [])] (.im (nI r)):=by
 refine C2 [] λhk=>?_;have hz:=C3 hk;unfold kQ at h;refine B4 s_.length C0 ?_;obtain⟨oc,h,a4⟩:=B0 h;refine zzVx oc (λ(_:Unit)=>([],[],[])) ?_ ?_;refine zzLx h (λa6=>([(0,A9 cI s_),(1,.im (.fn f1_ [])),(7,A7 (s_.length:Int)),(8,C1 a6)],[],[])) eZ ?_;rintro k a6 o hp h a3;unfold kQ.s2 at h;have hp:=zq hp;refine B3 h (λa7 h a2=>?_) λa7 h a2=>?_;refine E0 h λa8 a9 h=>?_;obtain⟨b0,a5,h⟩:=B0 h;refine⟨_,hf1 a8 b0 a5,?_⟩;refine D9 h (λb2 h=>?_) λb2 h=>?_;cases h;cases D1 a3;exact B2 a4;refine E4 ?_;exact D5 h a3;exact zzN_ h a3;rintro⟨⟩ rfl hp;replace h:=I9 a4;exact B2 h
def zlj(s_:A2)(f_:Int->Option Bool)(f1_:FuncId)(hf1:∀x0 r,f_ x0=some r->Sp Tryz.prog f1_ [.im (nI x0)] (.im (nB r)))(r:Bool)(h:wQ s_ f_=some r):Sp Tryz.prog 79 [.im (nL cI s_),.im (.fn f1_ [])] (.im (nB r)):=by
 refine C2 [] λhk=>?_;have hz:=C3 hk;unfold wQ at h;refine B1 h (zme s_ f_ f1_ hf1) λa2 a3 h=>?_;exact B2 h
def zwm(inputs_:Int)(r:Bool)(h:vV inputs_=some r):Sp Tryz.prog 78 [.im (nI inputs_)] (.im (nB r)):=by
 refine C2 [] λhk=>?_;unfold vV at h;refine R4 h (λa2=>mkSt [(2,G8 a2)] [] []) (λ_=>hT) λa2 h hp=>?_;exact B2 h
def zq56(a_ p1_:Int)(r:Bool)(h:rU a_ p1_=some r):Sp Tryz.prog 80 [.im (nI a_),.im (.ref (cI p1_))] (.im (nB r)):=by
 refine C2 [] λhk=>?_;unfold rU at h;refine R4 h (λa2=>mkSt [(3,G8 a2)] [] []) (λ_=>hT) λa2 h hp=>?_;exact B2 h
def zlm(s_:A2)(f_:Int->Option Bool)(f1_:FuncId)(k1_0:IV)(hk1_0:nz k1_0=k1_0)(hf1:∀x0 r,f_ x0=some r->Sp Tryz.prog f1_ [.im (nI x0),.im k1_0] (.im (nB r)))(r:Int)(h:kR s_ f_=some r):Sp Tryz.prog 135 [.im (nL cI s_),.im (.fn f1_ [k1_0])] (.im (nI r)):=by
 refine C2 [] λhk=>?_;have hz:=C3 hk;unfold kR at h;refine B4 s_.length C0 ?_;obtain⟨oc,h,a4⟩:=B0 h;refine zzVx oc (λ(_:Unit)=>([],[],[])) ?_ ?_;refine zzLx h (λa6=>([(0,A9 cI s_),(1,.im (.fn f1_ [k1_0])),(7,A7 (s_.length:Int)),(8,C1 a6)],[],[])) eZ ?_;rintro k a6 o hp h a3;unfold kR.s2 at h;have hp:=zq hp;refine B3 h (λa7 h a2=>?_) λa7 h a2=>?_;refine E0 h λa8 a9 h=>?_;obtain⟨b0,a5,h⟩:=B0 h;refine⟨_,Sp.args (hf1 a8 b0 a5) (by rw[hk1_0];try rfl),?_⟩;refine D9 h (λb2 h=>?_) λb2 h=>?_;cases h;cases D1 a3;exact B2 a4;refine E4 ?_;exact D5 h a3;exact zzN_ h a3;rintro⟨⟩ rfl hp;replace h:=I9 a4;exact B2 h
def zkg(s_:A2)(f_:Int->Option Bool)(f1_:FuncId)(k1_0:IV)(hk1_0:nz k1_0=k1_0)(hf1:∀x0 r,f_ x0=some r->Sp Tryz.prog f1_ [.im (nI x0),.im k1_0] (.im (nB r)))(r:Bool)(h:BG s_ f_=some r):Sp Tryz.prog 79 [.im (nL cI s_),.im (.fn f1_ [k1_0])] (.im (nB r)):=by
 refine C2 [] λhk=>?_;have hz:=C3 hk;unfold BG at h;refine B1 h (zlm s_ f_ f1_ k1_0 hk1_0 hf1) λa2 a3 h=>?_;exact B2 h
def pL(w_:A2)(inputs_ r:Int)(h:iK w_ inputs_=some r):Sp Tryz.prog 39 [.im (nL cI w_),.im (nI inputs_)] (.im (nI r)):=by
 refine C2 [700003] λhk=>?_;have hz:=C3 hk;unfold iK at h;refine B1 h (zwm inputs_) λb0 a4 h=>?_;refine D9 h (λa6 h=>?_) λa6 h=>?_;exact B2 h;refine B4 w_.length C0<|B3 h (λa7 h a2=>?_) λa7 h a2=>?_;exact B2 h;refine B1 h (zkg w_ (λu0=>rU u0 inputs_) 80 (.ref (cI inputs_)) rfl (λu0 r h=>(zq56 u0 inputs_ r h))) λb2 a3 h=>?_;refine D9 h (λa8 h=>?_) λa8 h=>?_;exact B2 h;exact B2 h
def GB(l_:A3)(i_:Int)(r:Bool)(h:pK l_ i_=some r):Sp Tryz.prog 131 [.im (nL (cL cI) l_),.im (nI i_)] (.im (nB r)):=by
 refine C2 [] λhk=>?_;have hz:=C3 hk;unfold pK at h;obtain⟨a7,h,a3⟩:=B0 h;refine zzUx ([(4,G8 a7)],[],[]) ?_ λhp=>?_;refine U2 h (λa2 h a6=>?_) λa2 h a6=>?_
 iterate 2 (refine B6 (I3 a2) ?_)
 refine K6 h λh b2=>?_;refine B6 (I3 a2)<|J7 h λa8 a5 b5 h=>?_
 iterate 4 (refine B6 (I3 a2) ?_)
 refine J7 h λb0 a4 b4 h=>?_
 iterate 2 (refine B6 (I3 a2) ?_)
 refine B1 h (AP a8 b0) λb3 a9 h=>?_;refine B6 (I3 a2)<|C5 a2 ?_;exact zzJn h
 iterate 10 (refine C5 (R6 a2) ?_)
 refine B6 a2 ?_;exact zzJn h;replace h:=a3;exact B2 h
def KT(l_:A3)(r:Int)(h:fF l_=some r):Sp Tryz.prog 132 [.im (nL (cL cI) l_)] (.im (nI r)):=by
 refine C2 [] λhk=>?_;have hz:=C3 hk;unfold fF at h;refine B4 l_.length C0 ?_;obtain⟨a8,h,a4⟩:=B0 h;refine zzUx ([(3,A7 a8)],[],[]) ?_ λhp=>?_;refine zzLx h (λ(a2,a6)=>([(3,A7 a2),(6,A9 (cL cI) l_),(7,A7 (l_.length:Int)),(8,C1 a6)],[],[])) eZ ?_;rintro k ⟨a2,a6⟩ o hp h a3;change fF.s2 l_ a2 a6=_ at h;unfold fF.s2 at h;have hp:=zq hp;refine B3 h (λb0 h a7=>?_) λb0 h a7=>?_;refine E0 h λb2 a5 h=>?_;refine B4 b2.length C0<|E4 ?_;exact D5 h a3;cases h;cases D1 a3;exact H5 eZ;replace h:=a4;exact B2 h
def KA(t_:B8)(r:Int)(h:U1 t_=some r):Sp Tryz.prog 75 [.im (.agg (G5 t_))] (.im (nI r)):=by
 refine C2 [700001] λhk=>?_;have hz:=C3 hk;unfold U1 at h;refine B4 t_.P.length C0<|B4 t_.X.length C0<|R4 h (λf8=>mkSt [(1,B9 (G5 t_)),(3,A7 (t_.P.length:Int)),(4,A7 (t_.X.length:Int)),(20,G8 f8)] [] []) (λ_=>hT) λf8 h hp=>?_;refine D9 h (λf9 h=>?_) λf9 h=>?_;exact B2 h;refine B3 h (λg1 h d4=>?_) λg1 h d4=>?_;exact B2 h;obtain⟨g2,h,j3⟩:=B0 h;refine zzUx ([(1,B9 (G5 t_)),(4,A7 (t_.X.length:Int)),(32,G8 g2)],[],[]) ?_ λhp=>?_;refine U2 h (λb5 h d5=>?_) λb5 h d5=>?_;refine B6 (I3 b5)<|C5 b5<|U2 h (λb3 h d6=>?_) λb3 h d6=>?_
 iterate 3 (refine B6 (I3 b3) ?_)
 refine K6 h λh i6=>?_;refine B6 (I3 b3)<|K6 h λh i7=>?_
 iterate 2 (refine B6 (I3 b3) ?_)
 refine K6 h λh i8=>?_;refine B6 (I3 b3)<|C5 b3 ?_;exact zzJn h
 iterate 7 (refine C5 (R6 b3) ?_)
 refine B6 b3 ?_;exact zzJn h;refine C5 (R6 b5)<|B6 b5 ?_
 iterate 8 (refine C5 rfl ?_)
 refine B6 rfl ?_;exact zzJn h;replace h:=j3;refine D9 h (λg3 h=>?_) λg3 h=>?_;exact B2 h;refine B4 t_.P.length C0 ?_;obtain⟨b6,h,j4⟩:=B0 h;refine zzUx ([(1,B9 (G5 t_)),(4,A7 (t_.X.length:Int)),(5,.osl 152 1)],[(152,.map (mapV wS wB b6))],[]) ?_ λhp=>?_;refine zzLx h (λ(d7,d8)=>([(1,B9 (G5 t_)),(4,A7 (t_.X.length:Int)),(5,.osl 152 1),(51,A9 (cL cI) t_.P),(52,A7 (t_.P.length:Int)),(53,C1 d8)],[(152,.map (mapV wS wB d7))],[])) (eA (J1 [152,49])) ?_;rintro k ⟨d7,d8⟩ o hp h f6;change U1.s2 t_ d7 d8=_ at h;unfold U1.s2 at h;have hp:=zq hp;refine B3 h (λg4 h d9=>?_) λg4 h d9=>?_;refine E0 h λg5 l5 h=>?_;obtain⟨g6,j5,h⟩:=B0 h;refine⟨_,EX g5 g6 (j5),?_⟩;refine A4 rfl<|⟨_,set_str _ true wB _,?_⟩;refine E4 ?_;exact D5 h f6;cases h;cases D1 f6;exact H5 eZ;replace h:=j4;refine B4 t_.P.length C0 ?_;obtain⟨oc,h,a9⟩:=B0 h;refine zzVx oc (λ(_:Unit)=>([(1,B9 (G5 t_)),(4,A7 (t_.X.length:Int))],[],[])) ?_ ?_;refine zzLx h (λa8=>([(1,B9 (G5 t_)),(4,A7 (t_.X.length:Int)),(5,.osl 152 1),(62,A9 (cL cI) t_.P),(63,A7 (t_.P.length:Int)),(64,C1 a8)],[(152,.map (mapV wS wB b6))],[])) eZ ?_;rintro k a8 o hp h a4;unfold U1.s4 at h;have hp:=zq hp;refine B3 h (λe0 h b7=>?_) λe0 h b7=>?_;refine E0 h λa2 k7 h=>?_;refine B1 h (pL a2 t_.I) λg7 j9 h=>?_;refine B3 h (λe1 h b8=>?_) λe1 h b8=>?_;cases h;cases D1 a4;exact B2 a9;obtain⟨e2,h,j0⟩:=B0 h;refine zzUx ([(1,B9 (G5 t_)),(4,A7 (t_.X.length:Int)),(5,.osl 152 1),(9,A9 cI a2),(62,A9 (cL cI) t_.P),(63,A7 (t_.P.length:Int)),(64,C1 a8),(89,G8 e2)],[(152,.map (mapV wS wB b6))],[]) ?_ λhp=>?_;refine W8 h (λb0 h b9=>?_) λb0 h b9=>?_;refine B6 (G9 b0)<|B4 a2.length C0<|B6 (G9 b0)<|B6 b0<|U2 h (λb2 h c0=>?_) λb2 h c0=>?_
 iterate 3 (refine B6 (I3 b2) ?_)
 refine B1 h (GB t_.P (a8:Int)) λg8 k8 h=>?_;refine B6 (I3 b2)<|C5 b2 ?_;exact zzJn h
 iterate 4 (refine C5 (R6 b2) ?_)
 refine B6 b2 ?_;exact zzJn h
 iterate 2 (refine C5 (R0 b0) ?_)
 refine C5 b0 ?_
 iterate 4 (refine B6 rfl ?_)
 refine B1 h (GB t_.P (a8:Int)) λg9 k5 h=>?_;refine B6 rfl<|C5 rfl ?_;exact zzJn h;replace h:=j0;have hp:=zq hp;refine D9 h (λe3 h=>?_) λe3 h=>?_;cases h;cases D1 a4;exact B2 a9;obtain⟨e4,h,i9⟩:=B0 h;refine zzUx ([(1,B9 (G5 t_)),(4,A7 (t_.X.length:Int)),(5,.osl 152 1),(62,A9 (cL cI) t_.P),(63,A7 (t_.P.length:Int)),(64,C1 a8),(103,G8 e4)],[(152,.map (mapV wS wB b6))],[]) ?_ λhp=>?_;refine B4 a2.length C0<|W8 h (λa6 h c6=>?_) λa6 h c6=>?_
 iterate 3 (refine B6 (G9 a6) ?_)
 refine B4 a2.length C0<|B6 (G9 a6)<|E4<|B6 (G9 a6) ?_;obtain⟨h6,h⟩:=J0 h;refine S7 (0:Int) ((a2.length:Int)-1) a2 cI<|B4 (List.map cI (List.take (Int.toNat ((a2.length:Int)-1)) a2)) dS<|B6 (G9 a6) ?_;obtain⟨c7,j1,h⟩:=B0 h;refine⟨_,(EX (List.take (Int.toNat ((a2.length:Int)-1)) a2) c7 (j1)),?_⟩;refine B6 (G9 a6)<|A4 rfl<|⟨_,find_str _ wB _,?_⟩;refine B4 (wB ((mget c7 b6).getD false)) (getD_map rfl _)<|B6 (G9 a6)<|B6 a6 ?_;exact zzJn h
 iterate 8 (refine C5 (R0 a6) ?_)
 refine C5 a6 ?_;exact zzJn h;replace h:=i9;have hp:=zq hp;refine D9 h (λe5 h=>?_) λe5 h=>?_;cases h;cases D1 a4;exact B2 a9;refine E4 ?_;exact D5 h a4;exact zzN_ h a4;rintro⟨⟩ rfl hp;replace h:=I9 a9;refine B4 t_.X.length C0 ?_;obtain⟨oc,h,a5⟩:=B0 h;refine zzVx oc (λ(_:Unit)=>([(1,B9 (G5 t_)),(4,A7 (t_.X.length:Int))],[],[])) ?_ ?_;refine zzLx h (λb4=>([(1,B9 (G5 t_)),(4,A7 (t_.X.length:Int)),(106,A9 (cL cI) t_.X),(107,A7 (t_.X.length:Int)),(108,C1 b4)],[],[])) eZ ?_;rintro k b4 o hp h a3;unfold U1.s6 at h;have hp:=zq hp;refine B3 h (λe6 h c8=>?_) λe6 h c8=>?_;refine E0 h λc9 l3 h=>?_;refine B1 h (pL c9 t_.I) λh7 l0 h=>?_;refine B3 h (λe7 h d0=>?_) λe7 h d0=>?_;cases h;cases D1 a3;exact B2 a5;refine B4 c9.length C0<|B3 h (λe8 h d1=>?_) λe8 h d1=>?_;cases h;cases D1 a3;exact B2 a5;refine B1 h (GB t_.X (b4:Int)) λh8 k6 h=>?_;refine D9 h (λe9 h=>?_) λe9 h=>?_;cases h;cases D1 a3;exact B2 a5;refine E4 ?_;exact D5 h a3;exact zzN_ h a3;rintro⟨⟩ rfl hp;replace h:=I9 a5;obtain⟨f3,h,j2⟩:=B0 h;refine zzUx ([(1,B9 (G5 t_)),(143,G8 f3)],[],[]) ?_ λhp=>?_;refine U2 h (λa7 h d2=>?_) λa7 h d2=>?_
 iterate 4 (refine B6 (I3 a7) ?_)
 refine K6 h λh h9=>?_;refine B6 (I3 a7)<|J7 h λf4 j6 j7 h=>?_
 iterate 2 (refine B6 (I3 a7) ?_)
 refine B4 f4.length C0<|B6 (I3 a7)<|C5 a7 ?_;exact zzJn h
 iterate 8 (refine C5 (R6 a7) ?_)
 refine B6 a7 ?_;exact zzJn h;replace h:=j2;refine D9 h (λf5 h=>?_) λf5 h=>?_;exact B2 h;refine B1 h (KT t_.P) λi3 j8 h=>?_;refine B1 h (KT t_.X) λi4 l4 h=>?_;refine K6 h λh i5=>?_;refine B3 h (λf7 h d3=>?_) λf7 h d3=>?_;exact B2 h;exact B2 h
def FC(l_:C7)(r:Int)(h:fD l_=some r):Sp Tryz.prog 37 [.im (.agg (L3 l_))] (.im (nI r)):=by
 refine C2 [700001] λhk=>?_;have hz:=C3 hk;unfold fD at h;refine B1 h (AG l_) λb6 c7 h=>?_;refine B1 h (KA b6) λc0 c8 h=>?_;refine B3 h (λb7 h b2=>?_) λb7 h b2=>?_;exact B2 h;refine B4 l_.X.length C0 ?_;obtain⟨oc,h,a4⟩:=B0 h;refine zzVx oc (λ(_:Unit)=>([],[],[])) ?_ ?_;refine zzLx h (λa7=>([(1,B9 (L3 l_)),(13,A9 (cL cI) l_.X),(14,A7 (l_.X.length:Int)),(15,C1 a7)],[],[])) eZ ?_;rintro k a7 o hp h a3;unfold fD.s2 at h;have hp:=zq hp;refine B3 h (λb3 h a8=>?_) λb3 h a8=>?_;refine E0 h λa6 a9 h=>?_;obtain⟨b4,h,a5⟩:=B0 h;refine zzUx ([(1,B9 (L3 l_)),(13,A9 (cL cI) l_.X),(14,A7 (l_.X.length:Int)),(15,C1 a7),(29,G8 b4)],[],[]) ?_ λhp=>?_;refine B4 a6.length C0<|W8 h (λa2 h b0=>?_) λa2 h b0=>?_
 iterate 3 (refine B6 (G9 a2) ?_)
 obtain⟨b8,h⟩:=J0 h;refine S7 1 (↑(List.length (List.map cI a6)):Int) a6 cI<|B4 (List.map cI (List.drop 1 a6)) bL<|B6 (G9 a2)<|B1 h (sp_wordset_Has l_.X (List.drop 1 a6)) λb9 c6 h=>?_;refine B6 (G9 a2)<|B6 a2 ?_;exact zzJn h
 iterate 5 (refine C5 (R0 a2) ?_)
 refine C5 a2 ?_;exact zzJn h;replace h:=a5;have hp:=zq hp;refine D9 h (λb5 h=>?_) λb5 h=>?_;cases h;cases D1 a3;exact B2 a4;refine E4 ?_;exact D5 h a3;exact zzN_ h a3;rintro⟨⟩ rfl hp;replace h:=I9 a4;exact B2 h
def FE(l_:C7)(o_:A6)(r:Int)(h:oW l_ o_=some r):Sp Tryz.prog 31 [.im (.agg (L3 l_)),.im (.agg (E6 o_))] (.im (nI r)):=by
 refine C2 [700002,700003] λhk=>?_;have hz:=C3 hk;unfold oW at h;refine B1 h (FC l_) λb0 a3 h=>?_;refine B3 h (λa7 h a2=>?_) λa7 h a2=>?_;exact B2 h;refine B3 h (λa8 h a6=>?_) λa8 h a6=>?_;exact B2 h;exact B2 h
def zoc(slices_:A3)(r:A2)(h:dC slices_=some r):Sp Tryz.prog 87 [.im (nL (cL cI) slices_)] (.row 3 1 (List.map cI r)):=by
 refine C2 [4025000] λhk=>?_;have hz:=C3 hk;unfold dC at h;refine B4 slices_.length C0 ?_;obtain⟨a4,h,c7⟩:=B0 h;refine zzUx ([(0,A9 (cL cI) slices_),(3,C1 a4)],[],[]) ?_ λhp=>?_;refine zzLx h (λ(a3,b0)=>([(0,A9 (cL cI) slices_),(3,C1 a3),(9,A9 (cL cI) slices_),(10,A7 (slices_.length:Int)),(11,C1 b0)],[],[])) eZ ?_;rintro k ⟨a3,b0⟩ o hp h a9;change dC.s2 slices_ a3 b0=_ at h;unfold dC.s2 at h;have hp:=zq hp;refine B3 h (λb7 h b2=>?_) λb7 h b2=>?_;refine E0 h λb8 d1 h=>?_;refine B4 b8.length C0<|K6 h λh c6=>?_;refine B3 h (λb9 h b3=>?_) λb9 h b3=>?_;cases h;refine E4 ?_;exact D5 h a9;cases h;cases D1 a9;exact H5 eZ;replace h:=c7;have hp:=zq hp;obtain⟨c0,c9,h⟩:=B0 h;refine⟨_,zq54 (a4:Int) c0 (c9),?_⟩;refine B4 slices_.length C0 ?_;obtain⟨b4,h,c8⟩:=B0 h;refine zzUx ([(6,.osl 64 1)],[(64,zr1_ b4)],[]) ?_ λhp=>?_;refine zzLx h (λ(a2,a6)=>([(6,.osl 64 1),(25,A9 (cL cI) slices_),(26,A7 (slices_.length:Int)),(27,C1 a6)],[(64,zr1_ a2)],[])) (eA (J1 [64,24])) ?_;rintro k ⟨a2,a6⟩ o hp h a5;change dC.s4 slices_ a2 a6=_ at h;unfold dC.s4 at h;have hp:=zq hp;refine B3 h (λb5 h a8=>?_) λb5 h a8=>?_;refine E0 h λa7 d0 h=>?_;obtain⟨b6,h⟩:=J0 h;refine A4 ⟨rfl,jS (l:=a7) (c:=cI) λ_=>rfl,show E5 _ 8 by simpa only[E1,H7,V5,J9]using b6⟩ ?_;refine B4 (List.map cI (a2++a7)) (qF (l:=a2) (m:=a7) (c:=cI))<|E4 ?_;exact D5 h a5;cases h;cases D1 a5;exact H5 eZ;replace h:=c8;have hp:=zq hp;cases h;exact A4 ⟨rfl,trivial⟩ ⟨rfl,rfl⟩
def iT(parts_:A3)(r:A2)(h:aW parts_=some r):Sp Tryz.prog 41 [.im (nL (cL cI) parts_)] (.im (nL cI r)):=by
 refine C2 [] λhk=>?_;have hz:=C3 hk;unfold aW at h;obtain⟨a2,a3,h⟩:=B0 h;refine⟨_,(zoc parts_ a2 a3).im,?_⟩;exact B2 h
def GE(w_:A2)(a_:Int)(r:A2)(h:pN w_ a_=some r):Sp Tryz.prog 68 [.im (nL cI w_),.im (nI a_)] (.im (nL cI r)):=by
 refine C2 [] λhk=>?_;have hz:=C3 hk;unfold pN at h;obtain⟨a2,a3,h⟩:=B0 h;refine⟨_,(iT [w_,[a_]] a2 a3),?_⟩;exact B2 h
def ztj(a_ b_:A2)(p2_:(A2)->(A2)->Option Int)(f2_:FuncId)(hf2:∀x0 x1 r,p2_ x0 x1=some r->Sp Tryz.prog f2_ [.im (nL cI x0),.im (nL cI x1)] (.im (nI r)))(r:Bool)(h:wG a_ b_ p2_=some r):Sp Tryz.prog 144 [.im (nL cI a_),.im (nL cI b_),.im (.ref [.fn f2_ []])] (.im (nB r)):=by
 refine C2 [] λhk=>?_;have hz:=C3 hk;unfold wG at h;obtain⟨a2,a3,h⟩:=B0 h;refine⟨_,hf2 a_ b_ a2 a3,?_⟩;exact B2 h
def zj7(s_:A3)(eq_:(A2)->(A2)->Option Bool)(f1_:FuncId)(k1_0:IV)(hk1_0:nz k1_0=k1_0)(hf1:∀x0 x1 r,eq_ x0 x1=some r->Sp Tryz.prog f1_ [.im (nL cI x0),.im (nL cI x1),.im k1_0] (.im (nB r)))(r:A3)(h:OkL (List.map (cL cI) s_)->Ok (.fn f1_ [k1_0])->Y8 s_ eq_=some r):Sp Tryz.prog 143 [.row 46 1 (List.map (cL cI) s_),.im (.fn f1_ [k1_0])] (.row 46 1 (List.map (cL cI) r)):=by
 refine C2 [] λhk=>?_;have hz:=C3 hk;replace h:=h hk.1 hk.2.1;unfold Y8 at h;refine A4 rfl<|B4 s_.length C0<|B3 h (λd7 h b8=>?_) λd7 h b8=>?_;cases h;exact A4 ⟨rfl,trivial⟩ ⟨rfl,rfl⟩;obtain⟨oc,h,e6⟩:=B0 h;refine zzVx oc (Y:=Unit) (λ(_:Unit)=>([(0,.osl 66 1)],[(66,zr0_ s_)],[])) ?_ ?_;refine zzLx h (λa2=>([(0,.osl 66 1),(1,.im (.fn f1_ [k1_0])),(5,C1 a2)],[(66,zr0_ s_)],[])) (eA (J1 [66,0])) ?_;rintro k a2 o hp h a4;unfold Y8.s20 at h;have hp:=zq hp;refine A4 rfl<|B4 s_.length C0<|B3 h (λb9 h b6=>?_) λb9 h b6=>?_;obtain⟨c0,a9,h⟩:=Z8 h;refine A4 ⟨(by omega),rfl,P6 a9⟩<|⟨_,_,⟨rfl,P7 a9,rfl,rfl⟩,?_⟩;refine E4 ?_;obtain⟨c6,e5,e4,h⟩:=dR h;refine A4 ⟨e5,rfl,P6 e4⟩<|⟨_,_,⟨rfl,P7 e4,rfl,rfl⟩,?_⟩;obtain⟨c7,e9,h⟩:=B0 h;refine⟨_,Sp.args (hf1 c0 c6 c7 e9) (by rw[hk1_0];try rfl),?_⟩;refine D9 h (λc8 h=>?_) λc8 h=>?_;obtain⟨b3,h⟩:=J0 h;refine A4 ⟨rfl,b3.1,by have a5:=b3;simp only[E1];omega,by have a5:=b3;simp only[E1];omega⟩ ?_;obtain⟨⟨a7,a6⟩,h,e7⟩:=B0 h;refine zzUx ([(0,.osl 66 1),(5,C1 a6)],[(66,zr0_ a7)],[]) ?_ λhp=>?_;refine zzLx h (λ(b0,b2,a8)=>([(0,.osl 66 1),(1,.im (.fn f1_ [k1_0])),(5,C1 b2),(6,.osv 66 1 a2 1),(7,C1 a8)],[(66,zr0_ b0)],[])) eZ ?_;rintro k ⟨b0,b2,a8⟩ o hp h a3;change Y8.s18 eq_ a2 b0 b2 a8=_ at h;unfold Y8.s18 at h;have hp:=zq hp;refine A4 rfl<|B4 (List.length b0-a2) len_own<|B3 h (λc9 h b7=>?_) λc9 h b7=>?_;obtain⟨d0,e2,h⟩:=Z8 h;refine A4 ⟨(by omega),rfl,P6 e2⟩<|B4 (a2+a8) rfl<|⟨_,_,⟨rfl,P7 e2,rfl,rfl⟩,?_⟩;refine E4 ?_;obtain⟨d1,h⟩:=J0 h;obtain⟨d2,e1,h⟩:=Z8 h;refine A4 ⟨d1,rfl,P6 e1⟩<|B4 (a2+(Int.toNat ((a8:Int)-1))) rfl<|⟨_,_,⟨rfl,P7 e1,rfl,rfl⟩,?_⟩;obtain⟨d3,e8,h⟩:=B0 h;refine⟨_,Sp.args (hf1 d0 d2 d3 e8) (by rw[hk1_0];try rfl),?_⟩;refine D9 h (λd4 h=>?_) λd4 h=>?_;obtain⟨d5,e0,h⟩:=Z8 h;refine A4 ⟨(by omega),rfl,P6 e0⟩<|B4 (a2+a8) rfl<|⟨_,_,⟨rfl,P7 e0,rfl,rfl⟩,?_⟩;obtain⟨d8,e3,h⟩:=Z8 h;refine A4 ⟨(by omega),rfl,P6 e3⟩<|A4 ⟨rfl,trivial⟩<|⟨_,P7 e3,?_⟩;refine B4 (List.map (cL cI) (List.set b0 b2 d5)) (set_map rfl)<|K6 h λh d9=>?_;refine E4 ?_;exact D5 h a3;refine E4 ?_;exact D5 h a3;cases h;cases D1 a3;exact H5 eZ;replace h:Y8.k19 a7 a6=some _:=e7;unfold Y8.k19 at h;have hp:=zq hp;obtain⟨b4,h⟩:=J0 h;refine A4 ⟨rfl,b4.1,by have a5:=b4;simp only[E1];omega,by have a5:=b4;simp only[E1];omega⟩ ?_;obtain⟨d6,h⟩:=J0 h;refine A4 ⟨rfl,by have a5:=d6;simp only[E1];omega⟩ ?_;refine B4 (List.map (cL cI) (List.take a6 a7++List.replicate (List.length a7-a6) [])) (clr_map (z:=[]) rfl) ?_;obtain⟨b5,h⟩:=J0 h;refine A4 ⟨rfl,b5.1,by have a5:=b5;simp only[E1];omega,by have a5:=b5;simp only[E1];omega⟩ ?_;refine B4 (List.map (cL cI) (List.take a6 (List.take a6 a7++List.replicate (List.length a7-a6) []))) cut_own ?_;cases h;cases D1 a4;replace h:some _=some _:=e6;cases h;exact A4 ⟨rfl,trivial⟩ ⟨rfl,rfl⟩;refine E4 ?_;exact D5 h a4;exact zzN_ h a4;rintro⟨⟩ rfl hp;replace h:=I9 e6;have hp:=zq hp;cases h;exact A4 ⟨rfl,trivial⟩ ⟨rfl,rfl⟩
def LH(l_:A3)(order_:(A2)->(A2)->Option Int)(f1_:FuncId)(hf1:∀x0 x1 r,order_ x0 x1=some r->Sp Tryz.prog f1_ [.im (nL cI x0),.im (nL cI x1)] (.im (nI r)))(hd1:CmpE Tryz.prog f1_ (λx=>nL cI x) order_)(r:A3)(h:iX l_ order_=some r):Sp Tryz.prog 88 [.im (nL (cL cI) l_),.im (.fn f1_ [])] (.row 46 1 (List.map (cL cI) r)):=by
 refine C2 [13000,16000,2013000] λhk=>?_;have hz:=C3 hk;unfold iX at h;obtain⟨b0,b9,h⟩:=B0 h;refine⟨_,zvo l_ b0 (b9),?_⟩;refine A4 rfl<|A4 ⟨rfl,trivial⟩ ?_;obtain⟨b2,c7,h⟩:=B0 h;refine⟨_,zsm b0 order_ f1_ hd1 b2 (c7),?_⟩;refine A4 ⟨rfl,rfl,trivial⟩ ?_;obtain⟨a2,a9,h⟩:=B0 h;refine⟨_,zj7 b2 (λu0 u1=>wG u0 u1 order_) 144 (.ref [.fn f1_ []]) rfl (λu0 u1 r h=>(ztj u0 u1 order_ f1_ hf1 r h)) a2 (λ_ _=>a9),?_⟩;refine A4 rfl<|B4 a2.length C0 ?_;obtain⟨b4,h,c0⟩:=B0 h;refine zzUx ([(5,.osl 64 1)],[(64,zr0_ b4)],[]) ?_ λhp=>?_;refine zzLx h (λ(a6,a7)=>([(5,.osl 64 1),(16,.osl 64 1),(17,A7 (a2.length:Int)),(18,C1 a7)],[(64,zr0_ a6)],[])) (eA (J1 [64,15])) ?_;rintro k ⟨a6,a7⟩ o hp h a4;change iX.s2 a2 a6 a7=_ at h;unfold iX.s2 at h;have hp:=zq hp;refine B3 h (λb5 h a8=>?_) λb5 h a8=>?_;obtain⟨b6,a3,h⟩:=Z8 h;refine A4 ⟨(by omega),rfl,P6 a3⟩<|⟨_,_,⟨rfl,P7 a3,rfl,rfl⟩,?_⟩;obtain⟨b3,c6,h⟩:=B0 h;refine⟨_,(iZ b6 b3 (c6)).im,?_⟩;obtain⟨b7,a5,h⟩:=Z8 h;refine A4 ⟨(by omega),rfl,P6 a5⟩<|A4 ⟨rfl,trivial⟩<|⟨_,P7 a5,?_⟩;refine B4 (List.map (cL cI) (List.set a6 a7 b3)) (set_map rfl)<|K6 h λh b8=>?_;exact D5 h a4;cases h;cases D1 a4;exact H5 eZ;replace h:=c0;have hp:=zq hp;cases h;exact A4 ⟨rfl,trivial⟩ ⟨rfl,rfl⟩
def FU(a_ b_:A2)(r:Int)(h:gE a_ b_=some r):Sp Tryz.prog 145 [.im (nL cI a_),.im (nL cI b_)] (.im (nI r)):=by
 refine C2 [] λhk=>?_;have hz:=C3 hk;unfold gE at h;refine B4 a_.length C0<|B4 b_.length C0 ?_;obtain⟨oc,h,a4⟩:=B0 h;refine zzVx oc (Y:=Unit) (λ(_:Unit)=>([(0,A9 cI a_),(1,A9 cI b_)],[],[])) ?_ ?_;refine zzLx h (λa7=>([(0,A9 cI a_),(1,A9 cI b_),(10,A7 (min (a_.length:Int) (b_.length:Int))),(11,C1 a7)],[],[])) eZ ?_;rintro k a7 o hp h a3;unfold gE.s2 at h;have hp:=zq hp;refine B3 h (λa8 h a2=>?_) λa8 h a2=>?_;refine E0 h λb2 a9 h=>?_;refine E0 h λb3 a5 h=>?_;refine B3 h (λb0 h a6=>?_) λb0 h a6=>?_;cases h;cases D1 a3;exact B2 a4;refine E4 ?_;exact D5 h a3;exact zzN_ h a3;rintro⟨⟩ rfl hp;replace h:=I9 a4;have hp:=zq hp;refine B4 a_.length C0<|B4 b_.length C0 ?_;exact B2 h
def wF(w_ p_:A2)(r:Bool)(h:kK w_ p_=some r):Sp Tryz.prog 90 [.im (nL cI w_),.im (nL cI p_)] (.im (nB r)):=by
 refine C2 [] λhk=>?_;have hz:=C3 hk;unfold kK at h;refine B1 h (FU w_ p_) λa2 a3 h=>?_;refine B4 p_.length C0 ?_;exact B2 h
def zwp(l_ r:A3)(h:wD l_=some r):Sp Tryz.prog 91 [.im (nL (cL cI) l_)] (.row 46 1 (List.map (cL cI) r)):=by
 refine C2 [] λhk=>?_;have hz:=C3 hk;unfold wD at h;refine B1 h (LH l_ (λu0 u1=>cJ u0 u1) 72 (λu0 u1 r h=>(AP u0 u1 r h)) zwx) λa2 a3 h=>?_;cases h;exact A4 ⟨rfl,trivial⟩ ⟨rfl,rfl⟩
def zq17(a_ b_:A2)(r:Int)(h:jT a_ b_=some r):Sp Tryz.prog 89 [.im (nL cI a_),.im (nL cI b_)] (.im (nI r)):=by
 refine C2 [] λhk=>?_;have hz:=C3 hk;unfold jT at h;refine B1 h (LZ a_ b_) λa2 a3 h=>?_;exact B2 h
def LF(l_ r:A3)(h:gN l_=some r):Sp Tryz.prog 42 [.im (nL (cL cI) l_)] (.im (nL (cL cI) r)):=by
 refine C2 [] λhk=>?_;have hz:=C3 hk;unfold gN at h;obtain⟨a7,a9,h⟩:=B0 h;refine⟨_,(LH l_ (λu0 u1=>jT u0 u1) 89 (λu0 u1 r h=>(zq17 u0 u1 r h)) cmpE_word_Lex a7 a9).im,?_⟩;refine B4 a7.length C0 ?_;obtain⟨b2,h,c7⟩:=B0 h;refine zzUx ([(4,.osl 64 1)],[(64,zr0_ b2)],[]) ?_ λhp=>?_;refine zzLx h (λ(a6,a8)=>([(3,A9 (cL cI) a7),(4,.osl 64 1),(9,A9 (cL cI) a7),(10,A7 (a7.length:Int)),(11,C1 a8)],[(64,zr0_ a6)],[])) (eA [(64,none)]) ?_;rintro k ⟨a6,a8⟩ o hp h a3;change gN.s2 a7 a6 a8=_ at h;unfold gN.s2 at h;have hp:=zq hp;refine B3 h (λb5 h b3=>?_) λb5 h b3=>?_;refine E0 h λb0 d0 h=>?_;obtain⟨b6,h,a5⟩:=B0 h;refine zzUx ([(3,A9 (cL cI) a7),(4,.osl 64 1),(6,A9 cI b0),(9,A9 (cL cI) a7),(10,A7 (a7.length:Int)),(11,C1 a8),(30,G8 b6)],[(64,zr0_ a6)],[]) ?_ λhp=>?_;refine E4<|B4 a7.length C0<|U2 h (λa2 h b4=>?_) λa2 h b4=>?_
 iterate 2 (refine B6 (I3 a2) ?_)
 refine E4<|B6 (I3 a2)<|E0 h λb7 c8 h=>?_
 iterate 3 (refine B6 (I3 a2) ?_)
 refine B1 h (wF b7 b0) λc0 c9 h=>?_;refine B6 (I3 a2)<|C5 a2 ?_;exact zzJn h
 iterate 7 (refine C5 (R6 a2) ?_)
 refine B6 a2 ?_;exact zzJn h;replace h:=a5;have hp:=zq hp;refine D9 h (λb8 h=>?_) λb8 h=>?_;refine N4 a6 b0 (cL cI) h λc6 h=>?_;refine E4 ?_;exact D5 h a3;refine E4 ?_;exact D5 h a3;cases h;cases D1 a3;exact H5 eZ;replace h:=c7;have hp:=zq hp;refine A4 ⟨rfl,trivial⟩ ?_;obtain⟨b9,a4,h⟩:=B0 h;refine⟨_,(zwp b2 b9 a4).im,?_⟩;exact B2 h
def FY(t_:B8)(o_:A6)(r:Int)(h:oZ t_ o_=some r):Sp Tryz.prog 64 [.im (.agg (G5 t_)),.im (.agg (E6 o_))] (.im (nI r)):=by
 refine C2 [700002,700003] λhk=>?_;have hz:=C3 hk;unfold oZ at h;refine B1 h (KA t_) λb0 a3 h=>?_;refine B3 h (λa7 h a2=>?_) λa7 h a2=>?_;exact B2 h;refine B3 h (λa8 h a6=>?_) λa8 h a6=>?_;exact B2 h;exact B2 h
def FF(o_:A6)(r:List A8)(h:oU o_=some r):Sp Tryz.prog 65 [.im (.agg (E6 o_))] (.row 48 2 (List.map C4 r)):=by
 refine C2 [9000,700001,2009000] λhk=>?_;have hz:=C3 hk;unfold oU at h;obtain⟨a2,a3,h⟩:=B0 h;refine⟨_,zud o_.T a2 (a3),?_⟩;refine A4 ⟨rfl,trivial⟩ ?_;obtain⟨a6,a4,h⟩:=B0 h;refine⟨_,zq8 a2 (λu0 u1=>aM u0 u1) 122 zws a6 (a4),?_⟩;cases h;exact A4 ⟨rfl,trivial⟩ ⟨rfl,rfl⟩
def zfr(x_:List A8)(target_:A2)(cmp_:A8->(A2)->Option Int)(f2_:FuncId)(hf2:∀x0 x1 r,cmp_ x0 x1=some r->Sp Tryz.prog f2_ [.im (.agg (C4 x0)),.im (nL cI x1)] (.im (nI r)))(r:Int×Bool)(h:jC x_ target_ cmp_=some r):Sp Tryz.prog 183 [.im (nL C4 x_),.im (nL cI target_),.im (.fn f2_ [])] (.tup [nI r.1,nB r.2]):=by
 refine C2 [] λhk=>?_;have hz:=C3 hk;unfold jC at h;refine B4 x_.length C0 ?_;obtain⟨c8,h,d1⟩:=B0 h;refine zzUx ([(0,A9 C4 x_),(1,A9 cI target_),(2,.im (.fn f2_ [])),(8,A7 (x_.length:Int)),(9,A7 c8)],[],[]) ?_ λhp=>?_;refine zzLx h (λ(a6,a7)=>([(0,A9 C4 x_),(1,A9 cI target_),(2,.im (.fn f2_ [])),(8,A7 (x_.length:Int)),(9,A7 a6),(10,A7 a7)],[],[])) eZ ?_;rintro k ⟨a6,a7⟩ o hp h a3;change jC.s2 x_ target_ cmp_ a6 a7=_ at h;unfold jC.s2 at h;have hp:=zq hp;refine B3 h (λb3 h a8=>?_) λb3 h a8=>?_;refine K6 h λh c9=>?_;obtain⟨b4,h⟩:=J0 h;refine A4 b4 ?_;obtain⟨b5,h⟩:=J0 h;refine A4 ⟨⟨by show(0:Int)<=(a6+a7) / 2^1;omega,by show(a6+a7) / 2^1<=(18446744073709551615:Int);omega⟩,b5.1,by decide,by decide⟩ ?_;obtain⟨b6,h⟩:=J0 h;refine A4 b6<|J7 h λb7 d3 d5 h=>?_;obtain⟨b8,a9,h⟩:=B0 h;refine⟨_,hf2 b7 target_ b8 a9,?_⟩;refine B3 h (λb9 h b0=>?_) λb9 h b0=>?_;refine K6 h λh d0=>?_;exact D5 h a3;exact D5 h a3;cases h;cases D1 a3;exact H5 eZ;replace h:=d1;have hp:=zq hp;obtain⟨c0,h,a5⟩:=B0 h;refine zzUx ([(6,A7 c8),(7,G8 c0)],[],[]) ?_ λhp=>?_;refine W8 h (λa2 h b2=>?_) λa2 h b2=>?_
 iterate 3 (refine B6 (G9 a2) ?_)
 refine J7 h λc6 d2 d4 h=>?_
 iterate 3 (refine B6 (G9 a2) ?_)
 obtain⟨c7,a4,h⟩:=B0 h;refine⟨_,hf2 c6 target_ c7 a4,?_⟩;refine B6 (G9 a2)<|B6 a2 ?_;exact zzJn h
 iterate 7 (refine C5 (R0 a2) ?_)
 refine C5 a2 ?_;exact zzJn h;replace h:=a5;exact B2 h
def zpp(t_:A8)(w_:A2)(r:Int)(h:mA t_ w_=some r):Sp Tryz.prog 184 [.im (.agg (C4 t_)),.im (nL cI w_)] (.im (nI r)):=by
 refine C2 [700002] λhk=>?_;have hz:=C3 hk;unfold mA at h;refine B1 h (zq17 t_.In w_) λa2 a3 h=>?_;exact B2 h
def LY(f_:List A8)(w_:A2)(r:A2×Bool)(h:sH f_ w_=some r):Sp Tryz.prog 123 [.im (nL C4 f_),.im (nL cI w_)] (.tup [nL cI r.1,nB r.2]):=by
 refine C2 [] λhk=>?_;have hz:=C3 hk;unfold sH at h;refine B4 w_.length C0<|B3 h (λb2 h a7=>?_) λb2 h a7=>?_;exact B2 h;refine B1 h (zfr f_ w_ (λu0 u1=>mA u0 u1) 184 (λu0 u1 r h=>(zpp u0 u1 r h))) λb3 c9 h=>?_;obtain⟨b4,h,a3⟩:=B0 h;refine zzUx ([(0,A9 C4 f_),(1,A9 cI w_),(6,A7 b3.1),(41,G8 b4)],[],[]) ?_ λhp=>?_;refine B4 f_.length C0<|U2 h (λa6 h a8=>?_) λa6 h a8=>?_
 iterate 2 (refine B6 (I3 a6) ?_)
 refine J7 h λb5 a4 c8 h=>?_
 iterate 4 (refine B6 (I3 a6) ?_)
 refine B1 h (wF b5.In w_) λb8 c7 h=>?_;refine B6 (I3 a6)<|C5 a6<|gV h (λa2 h=>?_) λa2 h=>?_
 iterate 2 (refine B6 (I3 a2) ?_)
 refine J7 h λb6 a5 c0 h=>?_
 iterate 3 (refine B6 (I3 a2) ?_)
 refine B4 b6.O.length C0 ?_
 iterate 2 (refine B6 (I3 a2) ?_)
 refine B4 w_.length C0<|B6 (I3 a2)<|C5 a2 ?_;exact zzJn h
 iterate 8 (refine C5 (R6 a2) ?_)
 refine B6 a2 ?_;exact zzJn h
 iterate 7 (refine C5 (R6 a6) ?_)
 refine B6 a6 ?_
 iterate 9 (refine C5 rfl ?_)
 refine B6 rfl ?_;exact zzJn h;replace h:=a3;have hp:=zq hp;refine D9 h (λb7 h=>?_) λb7 h=>?_;exact B2 h;refine J7 h λb0 a9 c6 h=>?_;refine B4 w_.length C0 ?_;obtain⟨b9,h⟩:=J0 h;refine S7 (0:Int) (w_.length:Int) b0.O cI<|B4 (List.map cI (List.take w_.length b0.O)) dS ?_;exact B2 h
def zrm(f_:List A8)(w_:A2)(r:Bool)(h:wH f_ w_=some r):Sp Tryz.prog 67 [.im (nL C4 f_),.im (nL cI w_)] (.im (nB r)):=by
 refine C2 [] λhk=>?_;have hz:=C3 hk;unfold wH at h;refine B1 h (LY f_ w_) λa2 a3 h=>?_;exact B2 h
def LB(w_:A2)(p1_:B8)(p2_:List A8)(p3_ r:A3)(h:Ok (nL cI w_)->Ok (.ref (G5 p1_))->Ok (.ref (cL C4 p2_))->fQ [.ow (zr0_ p3_)]->gM w_ p1_ p2_ p3_=some r):Sp Tryz.prog 66 [.im (nL cI w_),.im (.ref (G5 p1_)),.im (.ref (cL C4 p2_)),.box 22 [.ow (zr0_ p3_)]] (.mk true [] [.box 22 [.ow (zr0_ r)]]):=by
 refine C2 [] λhk=>?_;have hz:=C3 hk;replace h:=h hk.1 hk.2.1 hk.2.2.1 hk.2.2.2.1;unfold gM at h;refine B4 p1_.X.length C0 ?_;obtain⟨b0,h,a4⟩:=B0 h;refine zzUx ([(3,.own 3 0 0)],[(3,.box 22 1),(65,zr0_ b0)],[(3,0,.osl 65 1)]) ?_ λhp=>?_;refine zzLx h (λ(a2,a6)=>([(0,A9 cI w_),(2,B9 (cL C4 p2_)),(3,.own 3 0 0),(9,A9 (cL cI) p1_.X),(10,A7 (p1_.X.length:Int)),(11,C1 a6)],[(3,.box 22 1),(65,zr0_ a2)],[(3,0,.osl 65 1)])) (eA (J1 [3,3,65,2192])) ?_;rintro k ⟨a2,a6⟩ o hp h a3;change gM.s2 w_ p1_ p2_ a2 a6=_ at h;unfold gM.s2 at h;have hp:=zq hp;refine B3 h (λb2 h a7=>?_) λb2 h a7=>?_;refine E0 h λb3 b7 h=>?_;obtain⟨a8,a5,h⟩:=B0 h;refine⟨_,(iT [w_,b3] a8 a5),?_⟩;refine B1 h (zrm p2_ a8) λb5 a9 h=>?_;refine D9 h (λb4 h=>?_) λb4 h=>?_;refine A4 rfl<|N4 a2 a8 (cL cI) h λb6 h=>?_;refine A4 rfl<|E4 ?_;exact D5 h a3;refine E4 ?_;exact D5 h a3;cases h;cases D1 a3;exact H5 eZ;replace h:=a4;have hp:=zq hp;cases h;exact A4 ⟨rfl,rfl,trivial⟩ ⟨rfl,rfl⟩
def zq38(t_:B8)(o_:A6)(r:A3×Int)(h:bN t_ o_=some r):Sp Tryz.prog 33 [.im (.agg (G5 t_)),.im (.agg (E6 o_))] (.tup [nL (cL cI) r.1,nI r.2]):=by
 refine sp_of rfl [32003,42003,700002,700003,800007,31937*1000000000+46*100+1] rfl rfl rfl (AS rfl) rfl λhk=>?_;have z1:lZ t_.P:=dN (iC hk.1 1 rfl);have z2:lZ t_.X:=dN (iC hk.1 2 rfl);have z3:lZ o_.T:=dN (iC hk.2.1 1 rfl);unfold bN at h;refine B1 h (FY t_ o_) λd1 d8 h=>?_;refine B3 h (λc8 h b6=>?_) λc8 h b6=>?_;exact B2 h;obtain⟨b2,d4,h⟩:=B0 h;refine⟨_,(FF o_ b2 d4).im,?_⟩;refine A4 rfl<|A4 ⟨rfl,trivial⟩<|B4 t_.P.length C0 ?_;obtain⟨b3,h,d3⟩:=B0 h;refine zzUx ([(8,.own 64 1 0)],[(64,.box 22 1),(65,zr0_ b3)],[(64,0,.osl 65 1)]) ?_ λhp=>?_;refine zzLx h (λ(a6,a2)=>([(2,B9 (G5 t_)),(8,.own 64 1 0),(9,.fn 66 [.im (.ref (G5 t_)),B9 (cL C4 b2),.own 64 1 0]),(23,A9 (cL cI) t_.P),(24,A7 (t_.P.length:Int)),(25,C1 a2)],[(64,.box 22 1),(65,zr0_ a6)],[(64,0,.osl 65 1)])) (Ent.mk [(64,some 8),(65,none)] rfl ⟨eI rfl rfl,⟨.own 8 _ 0,rfl,.own rfl rfl rfl⟩,⟨.fn _ [.im _,.im _,.own 8 _ 0],rfl,.fn (.cons (.im (Sub.rfl' rfl)) (.cons (.im (Sub.rfl' rfl)) (.cons (.own rfl rfl rfl) (.nil))))⟩,eI rfl rfl,eI rfl rfl,eI rfl rfl,trivial⟩ ⟨.inl ⟨8,rfl,rfl,trivial⟩,.inr ⟨rfl,rfl,.inl ⟨_,_,rfl,by decide⟩⟩,trivial⟩ ⟨⟨8,.im (.val (.slice none 0 0)),rfl,rfl,.made rfl rfl⟩,trivial⟩) ?_;rintro k ⟨a6,a2⟩ o hp h a3;change bN.s14 t_ b2 a6 a2=_ at h;unfold bN.s14 at h;have hp:=zq hp;refine B3 h (λb7 h b4=>?_) λb7 h b4=>?_;refine E0 h λa7 d6 h=>?_;refine A4 ⟨rfl,rfl,trivial⟩ ?_;obtain⟨b8,a5,h⟩:=B0 h;refine⟨_,LB a7 t_ b2 a6 b8 (λ_ _ _ _=>a5),?_⟩;obtain⟨b9,h,a9⟩:=B0 h;refine zzUx ([(2,B9 (G5 t_)),(8,.own 64 1 0),(9,.fn 66 [.im (.ref (G5 t_)),B9 (cL C4 b2),.own 64 1 0]),(23,A9 (cL cI) t_.P),(24,A7 (t_.P.length:Int)),(25,C1 a2)],[(64,.box 22 1),(65,zr0_ b9)],[(64,0,.osl 65 1)]) ?_ λhp=>?_;refine zzLx h (λ(a8,b0)=>([(2,B9 (G5 t_)),(8,.own 64 1 0),(9,.fn 66 [.im (.ref (G5 t_)),B9 (cL C4 b2),.own 64 1 0]),(11,A9 cI a7),(23,A9 (cL cI) t_.P),(24,A7 (t_.P.length:Int)),(25,C1 a2),(33,A7 t_.I),(34,C1 b0)],[(64,.box 22 1),(65,zr0_ a8)],[(64,0,.osl 65 1)])) (Ent.mk [(64,some 64),(65,some 65)] rfl ⟨eI rfl rfl,⟨.own 64 _ 0,rfl,.own rfl rfl rfl⟩,⟨.fn _ [.im _,.im _,.own 64 _ 0],rfl,.fn (.cons (.im (Sub.rfl' rfl)) (.cons (.im (Sub.rfl' rfl)) (.cons (.own rfl rfl rfl) (.nil))))⟩,eI rfl rfl,eI rfl rfl,eI rfl rfl,eI rfl rfl,eI rfl rfl,eI rfl rfl,trivial⟩ ⟨.inl ⟨64,rfl,rfl,trivial⟩,.inl ⟨65,rfl,rfl,trivial⟩,trivial⟩ ⟨⟨64,.osl 65 _,rfl,rfl,.osl rfl rfl rfl⟩,trivial⟩) ?_;rintro k ⟨a8,b0⟩ o hp h a4;change bN.s13 t_ b2 a7 a8 b0=_ at h;unfold bN.s13 at h;have hp:=zq hp;refine B3 h (λc0 h b5=>?_) λc0 h b5=>?_;refine B1 h (GE a7 (b0:Int)) λc6 d5 h=>?_;refine A4 ⟨rfl,rfl,trivial⟩ ?_;obtain⟨c7,d2,h⟩:=B0 h;refine⟨_,LB c6 t_ b2 a8 c7 (λ_ _ _ _=>d2),?_⟩;refine K6 h λh c9=>?_;cases h;exact oV _ a4 (Ent.mk [(64,some 64),(65,some 65)] rfl ⟨eI rfl rfl,⟨.own 64 _ 0,rfl,.own rfl rfl rfl⟩,⟨.fn _ [.im _,.im _,.own 64 _ 0],rfl,.fn (.cons (.im (Sub.rfl' rfl)) (.cons (.im (Sub.rfl' rfl)) (.cons (.own rfl rfl rfl) (.nil))))⟩,eI rfl rfl,eI rfl rfl,eI rfl rfl,eI rfl rfl,eI rfl rfl,eI rfl rfl,trivial⟩ ⟨.inl ⟨64,rfl,rfl,trivial⟩,.inl ⟨65,rfl,rfl,trivial⟩,trivial⟩ ⟨⟨64,.osl 65 _,rfl,rfl,.osl rfl rfl rfl⟩,trivial⟩);cases h;cases D1 a4;exact H5 (Ent.mk [(64,some 64),(65,some 65)] rfl ⟨eI rfl rfl,⟨.own 64 _ 0,rfl,.own rfl rfl rfl⟩,⟨.fn _ [.im _,.im _,.own 64 _ 0],rfl,.fn (.cons (.im (Sub.rfl' rfl)) (.cons (.im (Sub.rfl' rfl)) (.cons (.own rfl rfl rfl) (.nil))))⟩,eI rfl rfl,eI rfl rfl,eI rfl rfl,trivial⟩ ⟨.inl ⟨64,rfl,rfl,trivial⟩,.inl ⟨65,rfl,rfl,trivial⟩,trivial⟩ ⟨⟨64,.osl 65 _,rfl,rfl,.osl rfl rfl rfl⟩,trivial⟩);replace h:=a9;have hp:=zq hp;refine E4 ?_;cases h;exact oV _ a3 (Ent.mk [(64,some 64),(65,some 65)] rfl ⟨eI rfl rfl,⟨.own 64 _ 0,rfl,.own rfl rfl rfl⟩,⟨.fn _ [.im _,.im _,.own 64 _ 0],rfl,.fn (.cons (.im (Sub.rfl' rfl)) (.cons (.im (Sub.rfl' rfl)) (.cons (.own rfl rfl rfl) (.nil))))⟩,eI rfl rfl,eI rfl rfl,eI rfl rfl,trivial⟩ ⟨.inl ⟨64,rfl,rfl,trivial⟩,.inl ⟨65,rfl,rfl,trivial⟩,trivial⟩ ⟨⟨64,.osl 65 _,rfl,rfl,.osl rfl rfl rfl⟩,trivial⟩);cases h;cases D1 a3;exact H5 eZ;replace h:=d3;have hp:=zq hp;refine A4 rfl<|A4 ⟨rfl,trivial⟩<|B1 h (LF b3) λd0 d7 h=>?_;exact B2 h
def GJ(f_:List A8)(t_:B8)(w_:A2)(r:A3×Bool)(h:fI f_ t_ w_=some r):Sp Tryz.prog 124 [.im (nL C4 f_),.im (.agg (G5 t_)),.im (nL cI w_)] (.tup [nL (cL cI) r.1,nB r.2]):=by
 refine C2 [700004] λhk=>?_;have hz:=C3 hk;unfold fI at h;refine B4 t_.X.length C0 ?_;obtain⟨b7,h⟩:=J0 h;refine A4 b7<|B4 (List.map (cL cI) []) rfl<|B4 t_.X.length C0 ?_;obtain⟨oc,h,a4⟩:=B0 h;refine zzVx oc (Y:=A3) (λb6=>([(8,.osl 64 1)],[(64,zr0_ b6)],[])) ?_ ?_;refine zzLx h (λ(b0,b2)=>([(0,A9 C4 f_),(2,A9 cI w_),(8,.osl 64 1),(18,A9 (cL cI) t_.X),(19,A7 (t_.X.length:Int)),(20,C1 b2)],[(64,zr0_ b0)],[])) (eA (J1 [64,16])) ?_;rintro k ⟨b0,b2⟩ o hp h a3;change fI.s2 f_ t_ w_ b0 b2=_ at h;unfold fI.s2 at h;have hp:=zq hp;refine B3 h (λb3 h a6=>?_) λb3 h a6=>?_;refine E0 h λb4 c0 h=>?_;obtain⟨a7,a9,h⟩:=B0 h;refine⟨_,(iT [w_,b4] a7 a9),?_⟩;refine B1 h (LY f_ a7) λa2 c6 h=>?_;refine D9 h (λb5 h=>?_) λb5 h=>?_;cases h;cases D1 a3;exact B2 a4;refine B4 w_.length C0 ?_;obtain⟨b8,h⟩:=J0 h;refine S7 (w_.length:Int) (↑(List.length (List.map cI a2.1)):Int) a2.1 cI<|B4 (List.map cI (List.drop w_.length a2.1)) bL ?_;obtain⟨a8,a5,h⟩:=B0 h;refine⟨_,(iZ (List.drop w_.length a2.1) a8 (a5)).im,?_⟩;refine N4 b0 a8 (cL cI) h λb9 h=>?_;refine E4 ?_;exact D5 h a3;exact zzN_ h a3;rintro b6 rfl hp;replace h:=I9 a4;have hp:=zq hp;cases h;exact A4 ⟨rfl,trivial⟩ ⟨rfl,rfl⟩
def LE(v_:M6)(row_:A3)(v0_1 v0_2:Value)(r:Int×M6)(h:fQ [.ow (zr2_ v_.rows),.im (.ex v0_1),.im (.ex v0_2),.ow (.map (mapV wS wI v_.number))]->Ok (nL (cL cI) row_)->cM v_ row_=some r):Sp Tryz.prog 125 [.box 135 [.ow (zr2_ v_.rows),.im (.ex v0_1),.im (.ex v0_2),.ow (.map (mapV wS wI v_.number))],.im (nL (cL cI) row_)] (.mk false [.im (nI r.1)] [.box 135 [.ow (zr2_ r.2.rows),.im (.ex v0_1),.im (.ex v0_2),.ow (.map (mapV wS wI r.2.number))]]):=by
 refine C2 [] λhk=>?_;have hz:=C3 hk;replace h:=h hk.1 hk.2.1;unfold cM at h;refine B4 row_.length C0 ?_;obtain⟨a7,h,a4⟩:=B0 h;refine zzUx ([(0,.own 0 0 0),(1,A9 (cL cI) row_),(5,.im (nS a7))],[(0,.box 135 4),(65,zr2_ v_.rows),(66,.map (mapV wS wI v_.number))],[(0,0,.osl 65 1),(0,1,.im (.ex v0_1)),(0,2,.im (.ex v0_2)),(0,3,.osl 66 1)]) ?_ λhp=>?_;refine zzLx h (λ(a8,b0)=>([(0,.own 0 0 0),(1,A9 (cL cI) row_),(5,.im (nS a8)),(10,A9 (cL cI) row_),(11,A7 (row_.length:Int)),(12,C1 b0)],[(0,.box 135 4),(65,zr2_ v_.rows),(66,.map (mapV wS wI v_.number))],[(0,0,.osl 65 1),(0,1,.im (.ex v0_1)),(0,2,.im (.ex v0_2)),(0,3,.osl 66 1)])) (eA (J1 [0,0,65,2000,66,2003])) ?_;rintro k ⟨a8,b0⟩ o hp h a3;change cM.s2 row_ a8 b0=_ at h;unfold cM.s2 at h;have hp:=zq hp;refine B3 h (λb5 h b2=>?_) λb5 h b2=>?_;refine E0 h λb6 c6 h=>?_;obtain⟨b7,a9,h⟩:=B0 h;refine⟨_,EX b6 b7 (a9),?_⟩;obtain⟨b8,h⟩:=J0 h;refine A4 b8 ?_;obtain⟨b9,h⟩:=J0 h;refine A4 b9<|E4 ?_;exact D5 h a3;cases h;cases D1 a3;exact H5 eZ;replace h:=a4;have hp:=zq hp;refine A4 rfl<|A4 rfl<|A4 rfl<|A4 rfl<|⟨_,find_str _ wI _,?_⟩;refine B4 (wI ((mget a7 v_.number).getD 0)) (getD_map rfl _)<|B4 (mget a7 v_.number).isSome (isSome_map _) ?_;obtain⟨⟨b4,a2,a6⟩,h,a5⟩:=B0 h;refine zzUx ([(0,.own 0 0 0),(8,A7 a6)],[(0,.box 135 4),(65,zr2_ b4),(66,.map (mapV wS wI a2))],[(0,0,.osl 65 1),(0,1,.im (.ex v0_1)),(0,2,.im (.ex v0_2)),(0,3,.osl 66 1)]) ?_ λhp=>?_;refine D9 h (λb3 h=>?_) λb3 h=>?_;refine A4 rfl<|A4 rfl<|A4 rfl<|A4 rfl<|B4 v_.rows.length C0<|A4 rfl<|A4 rfl<|A4 rfl<|A4 rfl ?_;refine⟨_,set_str _ (v_.rows.length:Int) wI _,?_⟩;refine A4 rfl<|A4 rfl<|A4 rfl<|N4 v_.rows row_ (cL (cL cI)) h λc0 h=>?_;refine A4 rfl<|A4 rfl<|A4 rfl ?_;exact zzJn h;exact zzJn h;replace h:cM.k3 v_ b4 a2 a6=some _:=a5;unfold cM.k3 at h;have hp:=zq hp;cases h;exact A4 ⟨rfl,rfl,rfl,trivial⟩ ⟨rfl,rfl⟩
def FL(t_:B8)(o_:A6)(r:M6×Int)(h:N8 t_ o_=some r):Sp Tryz.prog 69 [.im (.agg (G5 t_)),.im (.agg (E6 o_))] (.tup [.agg (dB r.1),nI r.2]):=by
 refine sp_of rfl [51000,82000,700002,700003,900050,900081,1000000000000051201,1000000000000051202,1000000000000082945,1000000000000082946,51201*1000000000+22*100+1] rfl rfl rfl (AS rfl) rfl λhk=>?_;have z1:lZ t_.P:=dN (iC hk.1 1 rfl);have z2:lZ t_.X:=dN (iC hk.1 2 rfl);have z3:lZ o_.T:=dN (iC hk.2.1 1 rfl);unfold N8 at h;refine B1 h (FY t_ o_) λf9 h7 h=>?_;refine B3 h (λf3 h d7=>?_) λf3 h d7=>?_;refine A4 rfl ?_;exact G7 h;obtain⟨a7,g5,h⟩:=B0 h;refine⟨_,(FF o_ a7 g5).im,?_⟩;refine A4 rfl<|B4 t_.P.length C0 ?_;obtain⟨oc,h,g2⟩:=B0 h;refine zzVx oc (Y:=List (A3)×A2×(List (ByteArray×Int))) (λ(d8,a8,d9)=>([(2,B9 (G5 t_)),(4,.own 93 1 0),(7,A9 C4 a7),(8,.own 94 1 0)],[(93,.box 135 4),(94,.box 135 4),(95,zr2_ d8),(96,zr1_ a8),(97,.map (mapV wS wI d9))],[(93,0,C8),(93,1,C8),(93,2,C8),(93,3,.im (.val (.map none))),(94,0,.osl 95 1),(94,1,.osl 96 1),(94,2,C8),(94,3,.osl 97 1)])) ?_ ?_;refine zzLx h (λ(d5,d1,d6,e0)=>([(2,B9 (G5 t_)),(4,.own 93 1 0),(7,A9 C4 a7),(8,.own 94 1 0),(31,A9 (cL cI) t_.P),(32,A7 (t_.P.length:Int)),(33,C1 e0)],[(93,.box 135 4),(94,.box 135 4),(95,zr2_ d5),(96,zr1_ d1),(97,.map (mapV wS wI d6))],[(93,0,C8),(93,1,C8),(93,2,C8),(93,3,.im (.val (.map none))),(94,0,.osl 95 1),(94,1,.osl 96 1),(94,2,C8),(94,3,.osl 97 1)])) (eA [(93,some 4),(94,some 8),(95,none),(96,none),(97,some 28)]) ?_;rintro k ⟨d5,d1,d6,e0⟩ o hp h a9;change N8.s2 t_ a7 d5 d1 d6 e0=_ at h;unfold N8.s2 at h;have hp:=zq hp;refine B3 h (λe1 h d2=>?_) λe1 h d2=>?_;refine E0 h λe2 g7 h=>?_;refine B1 h (GJ a7 t_ e2) λe3 g6 h=>?_;refine D9 h (λe4 h=>?_) λe4 h=>?_;refine A4 rfl ?_;cases h;cases D1 a9;replace h:some _=some _:=g2;exact G7 h;refine A4 rfl<|A4 rfl<|A4 ⟨rfl,rfl,rfl,trivial⟩ ?_;obtain⟨b0,g4,h⟩:=B0 h;refine⟨false,[.im (nI b0.1)],[.box 135 [.ow (zr2_ b0.2.rows),.im .any,.im .any,.ow (.map (mapV wS wI b0.2.number))]],λV=>(LE (⟨d5,d1,[],d6⟩:M6) e3.1 (V 0 1) (V 0 2) b0 (λ_ _=>g4)),?_⟩;refine N4 d1 b0.1 cI h λf4 h=>?_;refine A4 rfl<|A4 rfl<|E4 ?_;exact D5 h a9;exact zzN_ h a9;rintro⟨d8,a8,d9⟩ rfl hp;have a3:=I9 g2;replace h:N8.k24 t_ a7 d8 a8 d9=some _:=a3;clear a3;unfold N8.k24 at h;have hp:=zq hp;refine B4 t_.P.length C0 ?_;obtain⟨oc,h,f6⟩:=B0 h;refine zzVx oc (Y:=List (A3)×A3×(List (ByteArray×Int))) (λ(b8,b9,c0)=>([(4,.own 93 1 0),(8,.own 94 1 0)],[(93,.box 135 4),(94,.box 135 4),(95,zr2_ b8),(96,zr1_ a8),(97,zr0_ b9),(98,.map (mapV wS wI c0))],[(93,0,C8),(93,1,C8),(93,2,C8),(93,3,.im (.val (.map none))),(94,0,.osl 95 1),(94,1,.osl 96 1),(94,2,.osl 97 1),(94,3,.osl 98 1)])) ?_ ?_;refine zzLx h (λ(c6,a2,c7,a6)=>([(2,B9 (G5 t_)),(4,.own 93 1 0),(7,A9 C4 a7),(8,.own 94 1 0),(56,A9 (cL cI) t_.P),(57,A7 (t_.P.length:Int)),(58,C1 a6)],[(93,.box 135 4),(94,.box 135 4),(95,zr2_ c6),(96,zr1_ a8),(97,zr0_ a2),(98,.map (mapV wS wI c7))],[(93,0,C8),(93,1,C8),(93,2,C8),(93,3,.im (.val (.map none))),(94,0,.osl 95 1),(94,1,.osl 96 1),(94,2,.osl 97 1),(94,3,.osl 98 1)])) (eA [(93,some 93),(94,some 94),(95,some 95),(96,some 96),(97,none),(98,some 97)]) ?_;rintro k ⟨c6,a2,c7,a6⟩ o hp h a5;change N8.s22 t_ a7 a8 c6 a2 c7 a6=_ at h;unfold N8.s22 at h;have hp:=zq hp;refine B3 h (λe5 h d3=>?_) λe5 h d3=>?_;refine E0 h λc8 g8 h=>?_;obtain⟨oc,h,g1⟩:=B0 h;refine zzVx oc (Y:=List (A3)×(List (ByteArray×Int))×A2) (λ(c9,d0,b3)=>([(2,B9 (G5 t_)),(4,.own 93 1 0),(7,A9 C4 a7),(8,.own 94 1 0),(15,.osl 99 1),(56,A9 (cL cI) t_.P),(57,A7 (t_.P.length:Int)),(58,C1 a6)],[(93,.box 135 4),(94,.box 135 4),(95,zr2_ c9),(96,zr1_ a8),(97,zr0_ a2),(98,.map (mapV wS wI d0)),(99,zr1_ b3)],[(93,0,C8),(93,1,C8),(93,2,C8),(93,3,.im (.val (.map none))),(94,0,.osl 95 1),(94,1,.osl 96 1),(94,2,.osl 97 1),(94,3,.osl 98 1)])) ?_ ?_;refine zzLx h (λ(b4,b5,b6,b7)=>([(2,B9 (G5 t_)),(4,.own 93 1 0),(7,A9 C4 a7),(8,.own 94 1 0),(14,A9 cI c8),(15,.osl 99 1),(56,A9 (cL cI) t_.P),(57,A7 (t_.P.length:Int)),(58,C1 a6),(63,A7 t_.I),(64,C1 b7)],[(93,.box 135 4),(94,.box 135 4),(95,zr2_ b4),(96,zr1_ a8),(97,zr0_ a2),(98,.map (mapV wS wI b5)),(99,zr1_ b6)],[(93,0,C8),(93,1,C8),(93,2,C8),(93,3,.im (.val (.map none))),(94,0,.osl 95 1),(94,1,.osl 96 1),(94,2,.osl 97 1),(94,3,.osl 98 1)])) (eA [(93,some 93),(94,some 94),(95,some 95),(96,some 96),(97,some 97),(98,some 98),(99,none)]) ?_;rintro k ⟨b4,b5,b6,b7⟩ o hp h a4;change N8.s20 t_ a7 a8 a2 c8 b4 b5 b6 b7=_ at h;unfold N8.s20 at h;have hp:=zq hp;refine B3 h (λe6 h d4=>?_) λe6 h d4=>?_;refine B1 h (GE c8 (b7:Int)) λe7 h6 h=>?_;refine B1 h (GJ a7 t_ e7) λe8 g9 h=>?_;refine D9 h (λe9 h=>?_) λe9 h=>?_;refine A4 rfl ?_;cases h;cases D1 a4;replace h:some _=some _:=g1;cases h;cases D1 a5;replace h:some _=some _:=f6;exact G7 h;refine A4 ⟨rfl,rfl,rfl,trivial⟩ ?_;obtain⟨b2,g3,h⟩:=B0 h;refine⟨false,[.im (nI b2.1)],[.box 135 [.ow (zr2_ b2.2.rows),.im .any,.im .any,.ow (.map (mapV wS wI b2.2.number))]],λV=>(LE (⟨b4,a8,a2,b5⟩:M6) e8.1 (V 0 1) (V 0 2) b2 (λ_ _=>g3)),?_⟩;refine N4 b6 b2.1 cI h λf5 h=>?_;refine K6 h λh f7=>?_;exact D5 h a4;exact zzN_ h a4;rintro⟨c9,d0,b3⟩ rfl hp;have a3:=I9 g1;replace h:N8.k21 a2 a6 c9 d0 b3=some _:=a3;clear a3;unfold N8.k21 at h;have hp:=zq hp;refine A4 rfl<|A4 rfl<|A4 ⟨rfl,trivial⟩<|N4 a2 b3 (cL cI) h λf8 h=>?_;refine A4 rfl<|A4 rfl<|E4 ?_;exact D5 h a5;exact zzN_ h a5;rintro⟨b8,b9,c0⟩ rfl hp;have a3:=I9 f6;replace h:N8.k23 a8 b8 b9 c0=some _:=a3;clear a3;unfold N8.k23 at h;have hp:=zq hp;refine A4 rfl<|A4 rfl ?_;cases h;refine A4 ⟨rfl,trivial⟩ ?_;exact A4 ⟨rfl,rfl,rfl,rfl,trivial⟩ ⟨rfl,rfl⟩
def zph(s_:A2)(v_ r:Int)(h:lY s_ v_=some r):Sp Tryz.prog 185 [.im (nL cI s_),.im (nI v_)] (.im (nI r)):=by
 refine C2 [] λhk=>?_;have hz:=C3 hk;unfold lY at h;refine B4 s_.length C0 ?_;obtain⟨oc,h,a4⟩:=B0 h;refine zzVx oc (λ(_:Unit)=>([],[],[])) ?_ ?_;refine zzLx h (λa7=>([(0,A9 cI s_),(1,A7 v_),(7,A7 (s_.length:Int)),(8,C1 a7)],[],[])) eZ ?_;rintro k a7 o hp h a3;unfold lY.s2 at h;have hp:=zq hp;refine B3 h (λa8 h a2=>?_) λa8 h a2=>?_;refine E0 h λb2 a5 h=>?_;refine B3 h (λb0 h a6=>?_) λb0 h a6=>?_;cases h;cases D1 a3;exact B2 a4;refine E4 ?_;exact D5 h a3;exact zzN_ h a3;rintro⟨⟩ rfl hp;replace h:=I9 a4;exact B2 h
def zne(s_:A2)(v_:Int)(r:Bool)(h:wO s_ v_=some r):Sp Tryz.prog 126 [.im (nL cI s_),.im (nI v_)] (.im (nB r)):=by
 refine C2 [] λhk=>?_;have hz:=C3 hk;unfold wO at h;refine B1 h (zph s_ v_) λa2 a3 h=>?_;exact B2 h
def LX(v_:M6)(r:Int×Int×Bool)(h:cK v_=some r):Sp Tryz.prog 70 [.im (.agg (dB v_))] (.tup [nI r.1,nI r.2.1,nB r.2.2]):=by
 refine C2 [700001] λhk=>?_;have hz:=C3 hk;unfold cK at h;refine B4 v_.next.length C0 ?_;obtain⟨oc,h,a9⟩:=B0 h;refine zzVx oc (λ(_:Unit)=>([],[],[])) ?_ ?_;refine zzLx h (λa2=>([(1,B9 (dB v_)),(10,A9 (cL cI) v_.next),(11,A7 (v_.next.length:Int)),(12,C1 a2)],[],[])) eZ ?_;rintro k a2 o hp h a3;unfold cK.s14 at h;have hp:=zq hp;refine B3 h (λb2 h a7=>?_) λb2 h a7=>?_;refine E0 h λa6 b8 h=>?_;refine B4 a6.length C0 ?_;obtain⟨oc,h,a5⟩:=B0 h;refine zzVx oc (Y:=Unit) (λ(_:Unit)=>([(1,B9 (dB v_)),(10,A9 (cL cI) v_.next),(11,A7 (v_.next.length:Int)),(12,C1 a2)],[],[])) ?_ ?_;refine zzLx h (λa8=>([(1,B9 (dB v_)),(5,C1 a2),(10,A9 (cL cI) v_.next),(11,A7 (v_.next.length:Int)),(12,C1 a2),(17,A9 cI a6),(18,A7 (a6.length:Int)),(19,C1 a8)],[],[])) eZ ?_;rintro k a8 o hp h a4;unfold cK.s13 at h;have hp:=zq hp;refine B3 h (λb3 h b0=>?_) λb3 h b0=>?_;refine E0 h λb4 b7 h=>?_;refine B1 h (zne v_.prefixes b4) λb6 b9 h=>?_;refine D9 h (λb5 h=>?_) λb5 h=>?_;cases h;cases D1 a4;replace h:some _=some _:=a5;cases h;cases D1 a3;exact B2 a9;refine E4 ?_;exact D5 h a4;exact zzN_ h a4;rintro⟨⟩ rfl hp;replace h:=I9 a5;have hp:=zq hp;refine E4 ?_;exact D5 h a3;exact zzN_ h a3;rintro⟨⟩ rfl hp;replace h:=I9 a9;exact B2 h
def zxn(t_:B8)(o_:A6)(r:A2×Bool×Int)(h:vR t_ o_=some r):Sp Tryz.prog 34 [.im (.agg (G5 t_)),.im (.agg (E6 o_))] (.tup [nL cI r.1,nB r.2.1,nI r.2.2]):=by
 refine C2 [700002,700003] λhk=>?_;have hz:=C3 hk;unfold vR at h;refine B1 h (FL t_ o_) λa6 b4 h=>?_;refine A4 rfl<|B3 h (λa7 h a2=>?_) λa7 h a2=>?_;exact B2 h;refine A4 rfl<|B1 h (LX a6.1) λa8 a4 h=>?_;refine D9 h (λb0 h=>?_) λb0 h=>?_;exact B2 h;refine J7 h λb2 a3 a5 h=>?_;refine B1 h (GE b2 a8.2.1) λb3 a9 h=>?_;exact B2 h
def MA(v_:M6)(r:Int×Int×Bool)(h:R9 v_=some r):Sp Tryz.prog 74 [.im (.agg (dB v_))] (.tup [nI r.1,nI r.2.1,nB r.2.2]):=by
 refine C2 [700001] λhk=>?_;have hz:=C3 hk;unfold R9 at h;refine B4 v_.prefixes.length C0 ?_;obtain⟨oc,h,e4⟩:=B0 h;refine zzVx oc (λ(_:Unit)=>([],[],[])) ?_ ?_;refine zzLx h (λa2=>([(1,B9 (dB v_)),(13,A9 cI v_.prefixes),(14,A7 (v_.prefixes.length:Int)),(15,C1 a2)],[],[])) eZ ?_;rintro k a2 o hp h a4;unfold R9.s1022 at h;have hp:=zq hp;refine B3 h (λb9 h b4=>?_) λb9 h b4=>?_;refine E0 h λa7 f4 h=>?_;refine E4 ?_;obtain⟨oc,h,e1⟩:=B0 h;refine zzVx oc (Y:=Unit) (λ(_:Unit)=>([(1,B9 (dB v_)),(13,A9 cI v_.prefixes),(14,A7 (v_.prefixes.length:Int)),(15,C1 a2)],[],[])) ?_ ?_;refine zzLx h (λa6=>([(1,B9 (dB v_)),(5,C1 a2),(6,A7 a7),(7,C1 a6),(13,A9 cI v_.prefixes),(14,A7 (v_.prefixes.length:Int)),(15,C1 a2)],[],[])) eZ ?_;rintro k a6 o hp h a3;unfold R9.s1021 at h;have hp:=zq hp;refine B4 v_.prefixes.length C0<|B3 h (λc0 h b5=>?_) λc0 h b5=>?_;obtain⟨oc,h,e0⟩:=B0 h;refine zzVx oc (Y:=Unit) (λ(_:Unit)=>([(1,B9 (dB v_)),(5,C1 a2),(6,A7 a7),(7,C1 a6),(13,A9 cI v_.prefixes),(14,A7 (v_.prefixes.length:Int)),(15,C1 a2)],[],[])) ?_ ?_;refine E0 h λd3 f7 h=>?_;refine B3 h (λc6 h b6=>?_) λc6 h b6=>?_;cases h;exact X8.mk' _ rfl eZ;refine E0 h λb0 g1 h=>?_;refine B4 b0.length C0 ?_;obtain⟨oc,h,e2⟩:=B0 h;refine zzVx oc (Y:=Unit) (λ(_:Unit)=>([(1,B9 (dB v_)),(5,C1 a2),(6,A7 a7),(7,C1 a6),(13,A9 cI v_.prefixes),(14,A7 (v_.prefixes.length:Int)),(15,C1 a2)],[],[])) ?_ ?_;refine zzLx h (λa8=>([(1,B9 (dB v_)),(5,C1 a2),(6,A7 a7),(7,C1 a6),(13,A9 cI v_.prefixes),(14,A7 (v_.prefixes.length:Int)),(15,C1 a2),(41,A7 (b0.length:Int)),(42,C1 a8)],[],[])) eZ ?_;rintro k a8 o hp h a9;unfold R9.s1020 at h;have hp:=zq hp;refine B3 h (λc7 h b7=>?_) λc7 h b7=>?_;refine E0 h λd4 e7 h=>?_;refine E0 h λd5 f6 h=>?_;refine J7 h λb2 e6 g2 h=>?_;refine E0 h λd6 f5 h=>?_;refine E0 h λd7 e9 h=>?_;refine J7 h λc8 e5 f3 h=>?_;refine B4 b2.length C0 ?_;obtain⟨oc,h,e3⟩:=B0 h;refine zzVx oc (Y:=Unit) (λ(_:Unit)=>([(1,B9 (dB v_)),(5,C1 a2),(6,A7 a7),(7,C1 a6),(13,A9 cI v_.prefixes),(14,A7 (v_.prefixes.length:Int)),(15,C1 a2),(41,A7 (b0.length:Int)),(42,C1 a8)],[],[])) ?_ ?_;refine zzLx h (λb3=>([(1,B9 (dB v_)),(5,C1 a2),(6,A7 a7),(7,C1 a6),(8,C1 a8),(9,A9 (cL cI) b2),(10,A9 (cL cI) c8),(13,A9 cI v_.prefixes),(14,A7 (v_.prefixes.length:Int)),(15,C1 a2),(41,A7 (b0.length:Int)),(42,C1 a8),(70,A7 (b2.length:Int)),(71,C1 b3)],[],[])) eZ ?_;rintro k b3 o hp h a5;unfold R9.s1019 at h;have hp:=zq hp;refine B3 h (λc9 h b8=>?_) λc9 h b8=>?_;refine E0 h λd0 f8 h=>?_;refine E0 h λd1 f9 h=>?_;refine B1 h (pS d0 d1) λd8 e8 h=>?_;refine D9 h (λd2 h=>?_) λd2 h=>?_;cases h;cases D1 a5;replace h:some _=some _:=e3;cases h;cases D1 a9;replace h:some _=some _:=e2;cases h;replace h:some _=some _:=e0;cases h;cases D1 a3;replace h:some _=some _:=e1;cases h;cases D1 a4;exact B2 e4;refine E4 ?_;exact D5 h a5;exact zzN_ h a5;rintro⟨⟩ rfl hp;replace h:=I9 e3;have hp:=zq hp;refine K6 h λh d9=>?_;exact D5 h a9;exact zzN_ h a9;rintro⟨⟩ rfl hp;replace h:=I9 e2;have hp:=zq hp;cases h;exact X8.mk' _ rfl eZ;rintro⟨⟩ rfl hp;replace h:=I9 e0;have hp:=zq hp;refine E4 ?_;exact D5 h a3;exact zzN_ h a3;rintro⟨⟩ rfl hp;replace h:=I9 e1;have hp:=zq hp;refine E4 ?_;exact D5 h a4;exact zzN_ h a4;rintro⟨⟩ rfl hp;replace h:=I9 e4;exact B2 h
def zrb(t_:B8)(o_:A6)(r:A2×Bool×Int)(h:wJ t_ o_=some r):Sp Tryz.prog 36 [.im (.agg (G5 t_)),.im (.agg (E6 o_))] (.tup [nL cI r.1,nB r.2.1,nI r.2.2]):=by
 refine C2 [700002,700003] λhk=>?_;have hz:=C3 hk;unfold wJ at h;refine B1 h (FL t_ o_) λa6 b4 h=>?_;refine A4 rfl<|B3 h (λa7 h a2=>?_) λa7 h a2=>?_;exact B2 h;refine A4 rfl<|B1 h (MA a6.1) λa8 a5 h=>?_;refine D9 h (λb0 h=>?_) λb0 h=>?_;exact B2 h;refine J7 h λb2 a4 a9 h=>?_;obtain⟨b3,a3,h⟩:=B0 h;refine⟨_,(iT [[a8.1],b2] b3 a3),?_⟩;exact B2 h
def JY(l_ r:A3)(h:iO l_=some r):Sp Tryz.prog 77 [.im (nL (cL cI) l_)] (.row 46 1 (List.map (cL cI) r)):=by
 refine C2 [] λhk=>?_;have hz:=C3 hk;unfold iO at h;refine B4 l_.length C0 ?_;obtain⟨b0,h,a4⟩:=B0 h;refine zzUx ([(3,.osl 64 1)],[(64,zr0_ b0)],[]) ?_ λhp=>?_;refine zzLx h (λ(a2,a6)=>([(3,.osl 64 1),(6,A9 (cL cI) l_),(7,A7 (l_.length:Int)),(8,C1 a6)],[(64,zr0_ a2)],[])) (eA [(64,none)]) ?_;rintro k ⟨a2,a6⟩ o hp h a3;change iO.s2 l_ a2 a6=_ at h;unfold iO.s2 at h;have hp:=zq hp;refine B3 h (λb2 h a7=>?_) λb2 h a7=>?_;refine E0 h λb3 a9 h=>?_;obtain⟨a8,a5,h⟩:=B0 h;refine⟨_,(iZ b3 a8 (a5)).im,?_⟩;refine N4 a2 a8 (cL cI) h λb4 h=>?_;refine E4 ?_;exact D5 h a3;cases h;cases D1 a3;exact H5 eZ;replace h:=a4;have hp:=zq hp;cases h;exact A4 ⟨rfl,trivial⟩ ⟨rfl,rfl⟩
def JL(l_ r:C7)(h:rJ l_=some r):Sp Tryz.prog 38 [.im (.agg (L3 l_))] (.im (.agg (L3 r))):=by
 refine C2 [700001] λhk=>?_;have hz:=C3 hk;unfold rJ at h;obtain⟨a2,a4,h⟩:=B0 h;refine⟨_,(JY l_.Short a2 a4).im,?_⟩;obtain⟨a6,a3,h⟩:=B0 h;refine⟨_,(JY l_.X a6 a3).im,?_⟩;refine A4 rfl ?_;exact G7 h
def JC(l_:C7)(o_:A6)(r:C7×A3×Bool×Int)(h:eX l_ o_=some r):Sp Tryz.prog 11 [.im (.agg (L3 l_)),.im (.agg (E6 o_))] (.tup [.agg (L3 r.1),nL (cL cI) r.2.1,nB r.2.2.1,nI r.2.2.2]):=by
 refine C2 [700002,700003] λhk=>?_;have hz:=C3 hk;unfold eX at h;refine B1 h (FE l_ o_) λd2 e3 h=>?_;refine B3 h (λb7 h b0=>?_) λb7 h b0=>?_;refine A4 rfl ?_;exact G7 h;refine B1 h (AG l_) λa2 e2 h=>?_;refine A4 rfl<|A4 rfl<|B1 h (zq38 a2 o_) λb2 d9 h=>?_;obtain⟨b8,h,a5⟩:=B0 h;refine zzUx ([(2,B9 (L3 l_)),(3,B9 (E6 o_)),(4,.own 90 1 0),(9,.own 91 1 0),(10,A9 (cL cI) b2.1),(11,A7 b2.2),(41,G8 b8)],[(90,.box 40 3),(91,.box 79 3)],[(90,0,A7 0),(90,1,C8),(90,2,C8),(91,0,A7 a2.I),(91,1,A9 (cL cI) a2.P),(91,2,A9 (cL cI) a2.X)]) ?_ λhp=>?_;refine U2 h (λa6 h b3=>?_) λa6 h b3=>?_;refine B6 (I3 a6)<|B4 b2.1.length C0<|B6 (I3 a6)<|C5 a6 ?_;cases h;exact H5 (eA (J1 [90,4,91,9]))
 iterate 2 (refine C5 (R6 a6) ?_)
 refine B6 a6 ?_;cases h;exact H5 (eA (J1 [90,4,91,9]));replace h:=a5;have hp:=zq hp;refine D9 h (λb9 h=>?_) λb9 h=>?_;refine A4 rfl ?_;exact G7 h;refine A4 rfl ?_;obtain⟨oc,h,a3⟩:=B0 h;refine zzVx oc (Y:=A3×A3) (λ(a7,a8)=>([(2,B9 (L3 l_)),(4,.own 90 1 0),(12,.own 91 1 0)],[(90,.box 40 3),(91,.box 40 3)],[(90,0,A7 0),(90,1,C8),(90,2,C8),(91,0,A7 l_.I),(91,1,A9 (cL cI) a7),(91,2,A9 (cL cI) a8)])) ?_ ?_;refine A4 rfl<|B1 h (zxn a2 o_) λc0 a9 h=>?_;refine B3 h (λc6 h b4=>?_) λc6 h b4=>?_;refine A4 rfl ?_;cases h;replace h:some _=some _:=a3;exact G7 h;refine D9 h (λc7 h=>?_) λc7 h=>?_;refine B1 h (EQ l_.Short c0.1) λd3 e1 h=>?_;refine A4 rfl<|A4 rfl ?_;cases h;exact X8.mk' _ rfl (eA (J1 [90,90,91,12]));refine A4 rfl<|B1 h (zrb a2 o_) λc8 d8 h=>?_;refine B3 h (λc9 h b5=>?_) λc9 h b5=>?_;refine A4 rfl ?_;cases h;replace h:some _=some _:=a3;exact G7 h;refine D9 h (λd0 h=>?_) λd0 h=>?_;refine A4 rfl ?_;cases h;replace h:some _=some _:=a3;exact G7 h;refine B1 h (EQ l_.X c8.1) λd4 d7 h=>?_;refine A4 rfl<|A4 rfl ?_;cases h;exact X8.mk' _ rfl (eA (J1 [90,90,91,12]));rintro⟨a7,a8⟩ rfl hp;have a4:=I9 a3;replace h:eX.k1 l_ a7 a8=some _:=a4;clear a4;unfold eX.k1 at h;have hp:=zq hp;refine A4 rfl<|B1 h (FC (⟨l_.I,a7,a8⟩:C7)) λd5 e0 h=>?_;refine B3 h (λd1 h b6=>?_) λd1 h b6=>?_;refine A4 rfl ?_;exact G7 h;refine A4 rfl<|B1 h (JL (⟨l_.I,a7,a8⟩:C7)) λd6 e4 h=>?_;refine A4 rfl ?_;exact G7 h
def zt8(t_:A8)(p1_:A2)(r:Bool)(h:sE t_ p1_=some r):Sp Tryz.prog 190 [.im (.agg (C4 t_)),.im (.ref (cL cI p1_))] (.im (nB r)):=by
 refine C2 [700002] λhk=>?_;have hz:=C3 hk;unfold sE at h;refine B1 h (wF t_.In p1_) λa2 a3 h=>?_;exact B2 h
def MB(s_:List A8)(f_:A8->Option Bool)(f1_:FuncId)(k1_0:IV)(hk1_0:nz k1_0=k1_0)(hf1:∀x0 r,f_ x0=some r->Sp Tryz.prog f1_ [.im (.agg (C4 x0)),.im k1_0] (.im (nB r)))(r:Int)(h:cN s_ f_=some r):Sp Tryz.prog 189 [.im (nL C4 s_),.im (.fn f1_ [k1_0])] (.im (nI r)):=by
 refine C2 [] λhk=>?_;have hz:=C3 hk;unfold cN at h;refine B4 s_.length C0 ?_;obtain⟨oc,h,a4⟩:=B0 h;refine zzVx oc (λ(_:Unit)=>([],[],[])) ?_ ?_;refine zzLx h (λa6=>([(0,A9 C4 s_),(1,.im (.fn f1_ [k1_0])),(7,A7 (s_.length:Int)),(8,C1 a6)],[],[])) eZ ?_;rintro k a6 o hp h a3;unfold cN.s2 at h;have hp:=zq hp;refine B3 h (λa7 h a2=>?_) λa7 h a2=>?_;refine E0 h λa8 a9 h=>?_;obtain⟨b0,a5,h⟩:=B0 h;refine⟨_,Sp.args (hf1 a8 b0 a5) (by rw[hk1_0];try rfl),?_⟩;refine D9 h (λb2 h=>?_) λb2 h=>?_;cases h;cases D1 a3;exact B2 a4;refine E4 ?_;exact D5 h a3;exact zzN_ h a3;rintro⟨⟩ rfl hp;replace h:=I9 a4;exact B2 h
def AW(o_:A6)(w_:A2)(r:A2×Bool)(h:kM o_ w_=some r):Sp Tryz.prog 137 [.im (.agg (E6 o_)),.im (nL cI w_)] (.tup [nL cI r.1,nB r.2]):=by
 refine C2 [700002,700003] λhk=>?_;have hz:=C3 hk;unfold kM at h;refine B4 w_.length C0<|B3 h (λa8 h a6=>?_) λa8 h a6=>?_;exact B2 h;refine B1 h (MB o_.T (λu0=>sE u0 w_) 190 (.ref (cL cI w_)) rfl (λu0 r h=>(zt8 u0 w_ r h))) λb3 a9 h=>?_;refine B3 h (λb0 h a7=>?_) λb0 h a7=>?_;exact B2 h;refine J7 h λa2 a4 a5 h=>?_;refine B4 w_.length C0<|B4 a2.O.length C0 ?_;obtain⟨b4,h⟩:=J0 h;refine S7 (0:Int) (min (w_.length:Int) (a2.O.length:Int)) a2.O cI<|B4 (List.map cI (List.take (Int.toNat (min (w_.length:Int) (a2.O.length:Int))) a2.O)) dS ?_;obtain⟨b2,a3,h⟩:=B0 h;refine⟨_,(iZ (List.take (Int.toNat (min (w_.length:Int) (a2.O.length:Int))) a2.O) b2 (a3)).im,?_⟩;exact B2 h
def wL(r_:J2)(w_ v_:A2)(v0_0 v0_1 v0_2:Value)(r:A2×J2)(h:fQ [.im (.ex v0_0),.im (.ex v0_1),.im (.ex v0_2),.im (nI r_.o.I),.im (nL C4 r_.o.T),.ow (zr0_ r_.missing),.im (nB r_.long)]->Ok (nL cI w_)->Ok (nL cI v_)->lW r_ w_ v_=some r):Sp Tryz.prog 84 [.box 93 [.im (.ex v0_0),.im (.ex v0_1),.im (.ex v0_2),.im (nI r_.o.I),.im (nL C4 r_.o.T),.ow (zr0_ r_.missing),.im (nB r_.long)],.im (nL cI w_),.im (nL cI v_)] (.mk false [.im (nL cI r.1)] [.box 93 [.im (.ex v0_0),.im (.ex v0_1),.im (.ex v0_2),.im (nI r.2.o.I),.im (nL C4 r.2.o.T),.ow (zr0_ r.2.missing),.im (nB r.2.long)]]):=by
 refine C2 [] λhk=>?_;have hz:=C3 hk;replace h:=h hk.1 hk.2.1 hk.2.2.1;unfold lW at h;obtain⟨a2,a3,h⟩:=B0 h;refine⟨_,(iT [w_,v_] a2 a3),?_⟩;refine B4 a2.length C0<|B3 h (λa8 h a6=>?_) λa8 h a6=>?_;refine A4 rfl<|A4 rfl<|A4 rfl ?_;cases h;exact A4 ⟨rfl,rfl,trivial⟩ ⟨rfl,rfl⟩;refine A4 rfl<|A4 rfl<|A4 rfl<|B1 h (AW r_.o a2) λa7 a4 h=>?_;refine D9 h (λb0 h=>?_) λb0 h=>?_;refine A4 rfl<|A4 rfl<|A4 rfl<|N4 r_.missing a2 (cL cI) h λb2 h=>?_;refine A4 rfl<|A4 rfl<|A4 rfl ?_;cases h;exact A4 ⟨rfl,rfl,trivial⟩ ⟨rfl,rfl⟩;refine B4 w_.length C0 ?_;obtain⟨b3,h⟩:=J0 h;refine S7 (w_.length:Int) (↑(List.length (List.map cI a7.1)):Int) a7.1 cI<|B4 (List.map cI (List.drop w_.length a7.1)) bL ?_;cases h;exact A4 ⟨rfl,rfl,trivial⟩ ⟨rfl,rfl⟩
def GH(r_:J2)(w_:A2)(v0_0 v0_1:Value)(r:A3×J2)(h:fQ [.im (.ex v0_0),.im (.ex v0_1),.im (nL (cL cI) r_.l.X),.im (nI r_.o.I),.im (nL C4 r_.o.T),.ow (zr0_ r_.missing),.im (nB r_.long)]->Ok (nL cI w_)->bP r_ w_=some r):Sp Tryz.prog 81 [.box 93 [.im (.ex v0_0),.im (.ex v0_1),.im (nL (cL cI) r_.l.X),.im (nI r_.o.I),.im (nL C4 r_.o.T),.ow (zr0_ r_.missing),.im (nB r_.long)],.im (nL cI w_)] (.mk false [.im (nL (cL cI) r.1)] [.box 93 [.im (.ex v0_0),.im (.ex v0_1),.im (nL (cL cI) r.2.l.X),.im (nI r.2.o.I),.im (nL C4 r.2.o.T),.ow (zr0_ r.2.missing),.im (nB r.2.long)]]):=by
 refine C2 [23000,900022,1000000000000022528,1000000000000022529,1000000000000022530] λhk=>?_;have hz:=C3 hk;replace h:=h hk.1 hk.2.1;unfold bP at h;refine A4 rfl<|A4 rfl<|A4 rfl<|A4 rfl<|B4 r_.l.X.length C0 ?_;obtain⟨⟨b5,b6,b7,b8,b9⟩,h,a4⟩:=B0 h;refine zzUx ([(0,.own 0 0 0),(5,.osl 66 1)],[(0,.box 93 7),(65,zr0_ b7),(66,zr0_ b9)],[(0,0,.im (.ex v0_0)),(0,1,.im (.ex v0_1)),(0,2,A9 (cL cI) r_.l.X),(0,3,A7 b5),(0,4,A9 C4 b6),(0,5,.osl 65 1),(0,6,G8 b8)]) ?_ λhp=>?_;refine zzLx h (λ(a6,a7,a8,b0,b2,b3)=>([(0,.own 0 0 0),(1,A9 cI w_),(5,.osl 66 1),(12,A9 (cL cI) r_.l.X),(13,A7 (r_.l.X.length:Int)),(14,C1 b3)],[(0,.box 93 7),(65,zr0_ a8),(66,zr0_ b2)],[(0,0,.im (.ex v0_0)),(0,1,.im (.ex v0_1)),(0,2,A9 (cL cI) r_.l.X),(0,3,A7 a6),(0,4,A9 C4 a7),(0,5,.osl 65 1),(0,6,G8 b0)])) (eA [(0,some 0),(65,some 2005),(66,none)]) ?_;rintro k ⟨a6,a7,a8,b0,b2,b3⟩ o hp h a3;change bP.s2 r_ w_ a6 a7 a8 b0 b2 b3=_ at h;unfold bP.s2 at h;have hp:=zq hp;refine B3 h (λc0 h b4=>?_) λc0 h b4=>?_;refine E0 h λc6 a9 h=>?_;refine A4 ⟨rfl,rfl,trivial⟩ ?_;obtain⟨a2,a5,h⟩:=B0 h;refine⟨false,[.im (nL cI a2.1)],[.box 93 [.im .any,.im .any,.im .any,.im (nI a2.2.o.I),.im (nL C4 a2.2.o.T),.ow (zr0_ a2.2.missing),.im (nB a2.2.long)]],λV=>(wL (⟨r_.l,(⟨a6,a7⟩:A6),a8,b0⟩:J2) w_ c6 (V 0 0) (V 0 1) (V 0 2) a2 (λ_ _ _=>a5)),?_⟩;refine N4 b2 a2.1 (cL cI) h λc7 h=>?_;refine E4 ?_;exact D5 h a3;cases h;cases D1 a3;exact H5 eZ;replace h:bP.k3 r_ b5 b6 b7 b8 b9=some _:=a4;unfold bP.k3 at h;have hp:=zq hp;cases h;exact A4 ⟨rfl,rfl,rfl,trivial⟩ ⟨rfl,rfl⟩
def sp_table_Row(t_:B8)(o_:A6)(w_:A2)(r:A3×Bool)(h:uB t_ o_ w_=some r):Sp Tryz.prog 136 [.im (.agg (G5 t_)),.im (.agg (E6 o_)),.im (nL cI w_)] (.tup [nL (cL cI) r.1,nB r.2]):=by
 refine C2 [700003,700004] λhk=>?_;have hz:=C3 hk;unfold uB at h;refine B1 h (FY t_ o_) λa8 a5 h=>?_;refine B3 h (λa7 h a2=>?_) λa7 h a2=>?_;exact B2 h;obtain⟨a6,a3,h⟩:=B0 h;refine⟨_,(FF o_ a6 a3).im,?_⟩;refine B1 h (GJ a6 t_ w_) λb0 a4 h=>?_;exact B2 h
def zh1(s1_ s2_:A3)(eq_:(A2)->(A2)->Option Bool)(f2_:FuncId)(hf2:∀x0 x1 r,eq_ x0 x1=some r->Sp Tryz.prog f2_ [.im (nL cI x0),.im (nL cI x1)] (.im (nB r)))(r:Bool)(h:kU s1_ s2_ eq_=some r):Sp Tryz.prog 138 [.im (nL (cL cI) s1_),.im (nL (cL cI) s2_),.im (.fn f2_ [])] (.im (nB r)):=by
 refine C2 [] λhk=>?_;have hz:=C3 hk;unfold kU at h;refine B4 s1_.length C0<|B4 s2_.length C0<|B3 h (λa8 h a2=>?_) λa8 h a2=>?_;exact B2 h;refine B4 s1_.length C0 ?_;obtain⟨oc,h,a4⟩:=B0 h;refine zzVx oc (λ(_:Unit)=>([],[],[])) ?_ ?_;refine zzLx h (λa7=>([(1,A9 (cL cI) s2_),(2,.im (.fn f2_ [])),(15,A9 (cL cI) s1_),(16,A7 (s1_.length:Int)),(17,C1 a7)],[],[])) eZ ?_;rintro k a7 o hp h a3;unfold kU.s2 at h;have hp:=zq hp;refine B3 h (λb0 h a6=>?_) λb0 h a6=>?_;refine E0 h λb2 b6 h=>?_;refine E0 h λb3 a9 h=>?_;obtain⟨b4,a5,h⟩:=B0 h;refine⟨_,hf2 b2 b3 b4 a5,?_⟩;refine D9 h (λb5 h=>?_) λb5 h=>?_;cases h;cases D1 a3;exact B2 a4;refine E4 ?_;exact D5 h a3;exact zzN_ h a3;rintro⟨⟩ rfl hp;replace h:=I9 a4;exact B2 h
def sp_lazy_same_1(x_ y_:A2)(r:Bool)(h:rW x_ y_=some r):Sp Tryz.prog 139 [.im (nL cI x_),.im (nL cI y_)] (.im (nB r)):=by
 refine C2 [] λhk=>?_;have hz:=C3 hk;unfold rW at h;refine B1 h (pS x_ y_) λa2 a3 h=>?_;exact B2 h
def JD(a_ b_:A3)(r:Bool)(h:qY a_ b_=some r):Sp Tryz.prog 86 [.im (nL (cL cI) a_),.im (nL (cL cI) b_)] (.im (nB r)):=by
 refine C2 [] λhk=>?_;have hz:=C3 hk;unfold qY at h;refine B1 h (zh1 a_ b_ (λu0 u1=>rW u0 u1) 139 (λu0 u1 r h=>(sp_lazy_same_1 u0 u1 r h))) λa2 a3 h=>?_;exact B2 h
def LO(r_:J2)(row_:A3)(v0_5 v0_6:Value)(r:A2×Bool×J2)(h:fQ [.im (nI r_.l.I),.im (nL (cL cI) r_.l.Short),.im (nL (cL cI) r_.l.X),.im (nI r_.o.I),.im (nL C4 r_.o.T),.im (.ex v0_5),.im (.ex v0_6)]->Ok (nL (cL cI) row_)->gO r_ row_=some r):Sp Tryz.prog 83 [.box 93 [.im (nI r_.l.I),.im (nL (cL cI) r_.l.Short),.im (nL (cL cI) r_.l.X),.im (nI r_.o.I),.im (nL C4 r_.o.T),.im (.ex v0_5),.im (.ex v0_6)],.im (nL (cL cI) row_)] (.mk true [.im (nL cI r.1),.im (nB r.2.1)] [.box 93 [.im (nI r.2.2.l.I),.im (nL (cL cI) r.2.2.l.Short),.im (nL (cL cI) r.2.2.l.X),.im (nI r.2.2.o.I),.im (nL C4 r.2.2.o.T),.im (.ex v0_5),.im (.ex v0_6)]]):=by
 refine C2 [] λhk=>?_;have hz:=C3 hk;replace h:=h hk.1 hk.2.1;unfold gO at h;refine A4 rfl<|A4 rfl<|A4 rfl<|A4 rfl<|B4 r_.l.Short.length C0 ?_;obtain⟨oc,h,a4⟩:=B0 h;refine zzVx oc (Y:=Unit) (λ(_:Unit)=>([(0,.own 0 0 0)],[(0,.box 93 7)],[(0,0,A7 r_.l.I),(0,1,A9 (cL cI) r_.l.Short),(0,2,A9 (cL cI) r_.l.X),(0,3,A7 r_.o.I),(0,4,A9 C4 r_.o.T),(0,5,.im (.ex v0_5)),(0,6,.im (.ex v0_6))])) ?_ ?_;refine zzLx h (λa6=>([(0,.own 0 0 0),(1,A9 (cL cI) row_),(14,A9 (cL cI) r_.l.Short),(15,A7 (r_.l.Short.length:Int)),(16,C1 a6)],[(0,.box 93 7)],[(0,0,A7 r_.l.I),(0,1,A9 (cL cI) r_.l.Short),(0,2,A9 (cL cI) r_.l.X),(0,3,A7 r_.o.I),(0,4,A9 C4 r_.o.T),(0,5,.im (.ex v0_5)),(0,6,.im (.ex v0_6))])) eZ ?_;rintro k a6 o hp h a3;unfold gO.s2 at h;have hp:=zq hp;refine B3 h (λb0 h a7=>?_) λb0 h a7=>?_;refine E0 h λa8 b7 h=>?_;refine A4 rfl<|A4 rfl<|A4 rfl<|B1 h (AG r_.l) λb2 b9 h=>?_;refine A4 rfl<|A4 rfl<|A4 rfl<|B1 h (sp_table_Row b2 r_.o a8) λb3 b8 h=>?_;obtain⟨b4,h,a5⟩:=B0 h;refine zzUx ([(0,.own 0 0 0),(1,A9 (cL cI) row_),(7,A9 cI a8),(14,A9 (cL cI) r_.l.Short),(15,A7 (r_.l.Short.length:Int)),(16,C1 a6),(39,G8 b4)],[(0,.box 93 7)],[(0,0,A7 r_.l.I),(0,1,A9 (cL cI) r_.l.Short),(0,2,A9 (cL cI) r_.l.X),(0,3,A7 r_.o.I),(0,4,A9 C4 r_.o.T),(0,5,.im (.ex v0_5)),(0,6,.im (.ex v0_6))]) ?_ λhp=>?_;refine eH h (λa2 h=>?_) λa2 h=>?_
 iterate 2 (refine B6 (G9 a2) ?_)
 refine B1 h (JD b3.1 row_) λb6 a9 h=>?_;refine B6 a2 ?_;exact zzJn h
 iterate 2 (refine C5 (R0 a2) ?_)
 refine C5 a2 ?_;exact zzJn h;replace h:=a5;have hp:=zq hp;refine D9 h (λb5 h=>?_) λb5 h=>?_;cases h;cases D1 a3;replace h:some _=some _:=a4;cases h;exact A4 ⟨rfl,trivial⟩ ⟨rfl,rfl⟩;refine E4 ?_;exact D5 h a3;exact zzN_ h a3;rintro⟨⟩ rfl hp;replace h:=I9 a4;have hp:=zq hp;cases h;exact A4 ⟨rfl,trivial⟩ ⟨rfl,rfl⟩
def BB(r_:J2)(v0_0 v0_1 v0_2 v0_3 v0_4:Value)(r:Bool×J2)(h:fQ [.im (.ex v0_0),.im (.ex v0_1),.im (.ex v0_2),.im (.ex v0_3),.im (.ex v0_4),.ow (zr0_ r_.missing),.im (nB r_.long)]->nK r_=some r):Sp Tryz.prog 82 [.box 93 [.im (.ex v0_0),.im (.ex v0_1),.im (.ex v0_2),.im (.ex v0_3),.im (.ex v0_4),.ow (zr0_ r_.missing),.im (nB r_.long)]] (.mk false [.im (nB r.1)] [.box 93 [.im (.ex v0_0),.im (.ex v0_1),.im (.ex v0_2),.im (.ex v0_3),.im (.ex v0_4),.ow (zr0_ r.2.missing),.im (nB r.2.long)]]):=by
 refine C2 [] λhk=>?_;have hz:=C3 hk;replace h:=h hk.1;unfold nK at h;obtain⟨a6,h,a3⟩:=B0 h;refine zzUx ([(0,.own 0 0 0),(2,G8 a6)],[(0,.box 93 7),(65,zr0_ r_.missing)],[(0,0,.im (.ex v0_0)),(0,1,.im (.ex v0_1)),(0,2,.im (.ex v0_2)),(0,3,.im (.ex v0_3)),(0,4,.im (.ex v0_4)),(0,5,.osl 65 1),(0,6,G8 r_.long)]) ?_ λhp=>?_;refine A4 rfl<|A4 rfl<|A4 rfl<|gV h (λa2 h=>?_) λa2 h=>?_;refine B6 (I3 a2)<|A4 rfl<|B6 (I3 a2)<|A4 rfl<|B6 (I3 a2)<|A4 rfl<|B6 (I3 a2)<|A4 rfl<|B4 r_.missing.length C0 ?_;refine B6 (I3 a2)<|C5 a2 ?_;cases h;exact H5 (eA (J1 [0,0,65,2005]))
 iterate 5 (refine C5 (R6 a2) ?_)
 refine B6 a2 ?_;cases h;exact H5 (eA (J1 [0,0,65,2005]));replace h:=a3;have hp:=zq hp;cases h;exact A4 ⟨rfl,rfl,trivial⟩ ⟨rfl,rfl⟩
def zr5(r_:J2)(u_ v_:A2)(r:A3×Int×J2)(h:fQ [.im (nI r_.l.I),.im (nL (cL cI) r_.l.Short),.im (nL (cL cI) r_.l.X),.im (nI r_.o.I),.im (nL C4 r_.o.T),.ow (zr0_ r_.missing),.im (nB r_.long)]->Ok (nL cI u_)->Ok (nL cI v_)->bR r_ u_ v_=some r):Sp Tryz.prog 40 [.box 93 [.im (nI r_.l.I),.im (nL (cL cI) r_.l.Short),.im (nL (cL cI) r_.l.X),.im (nI r_.o.I),.im (nL C4 r_.o.T),.ow (zr0_ r_.missing),.im (nB r_.long)],.im (nL cI u_),.im (nL cI v_)] (.mk true [.im (nL (cL cI) r.1),.im (nI r.2.1)] [.box 93 [.im (nI r.2.2.l.I),.im (nL (cL cI) r.2.2.l.Short),.im (nL (cL cI) r.2.2.l.X),.im (nI r.2.2.o.I),.im (nL C4 r.2.2.o.T),.ow (zr0_ r.2.2.missing),.im (nB r.2.2.long)]]):=by
 refine C2 [50,26000,28000,32000,40000,44000,46000,69000,72000,74000,83000,91000,95000,97000,900025,900027,900031,900039,900043,900045,900068,900071,900073,900082,900090,900094,900096,1000000000000025600,1000000000000025601,1000000000000027648,1000000000000027649,1000000000000027650,1000000000000027651,1000000000000027652,1000000000000031749,1000000000000031750,1000000000000039936,1000000000000039937,1000000000000039938,1000000000000044032,1000000000000044033,1000000000000044034,1000000000000046080,1000000000000046081,1000000000000046082,1000000000000046083,1000000000000046084,1000000000000069632,1000000000000069633,1000000000000072704,1000000000000072705,1000000000000074752,1000000000000074753,1000000000000074754,1000000000000074755,1000000000000074756,1000000000000083973,1000000000000083974,1000000000000092160,1000000000000092161,1000000000000092162,1000000000000096256,1000000000000096257,1000000000000096258,1000000000000098304,1000000000000098305,1000000000000098306,1000000000000098307,1000000000000098308] λhk=>?_;have hz:=C3 hk;replace h:=h hk.1 hk.2.1 hk.2.2.1;unfold bR at h;refine A4 ⟨rfl,rfl,trivial⟩ ?_;obtain⟨b6,j1,h⟩:=B0 h;refine⟨false,[.im (nL (cL cI) b6.1)],[.box 93 [.im .any,.im .any,.im (nL (cL cI) b6.2.l.X),.im (nI b6.2.o.I),.im (nL C4 b6.2.o.T),.ow (zr0_ b6.2.missing),.im (nB b6.2.long)]],λV=>(GH r_ u_ (V 0 0) (V 0 1) b6 (λ_ _=>j1)),?_⟩;refine A4 ⟨rfl,rfl,trivial⟩ ?_;obtain⟨d4,j2,h⟩:=B0 h;refine⟨false,[.im (nB d4.1)],[.box 93 [.im .any,.im .any,.im .any,.im .any,.im .any,.ow (zr0_ d4.2.missing),.im (nB d4.2.long)]],λV=>(BB (⟨(⟨r_.l.I,r_.l.Short,b6.2.l.X⟩:C7),b6.2.o,b6.2.missing,b6.2.long⟩:J2) (V 0 0) (V 0 1) (V 0 2) (V 0 3) (V 0 4) d4 (λ_=>j2)),?_⟩;refine D9 h (λf8 h=>?_) λf8 h=>?_;cases h;exact A4 ⟨rfl,rfl,trivial⟩ ⟨rfl,rfl⟩;refine A4 ⟨rfl,trivial⟩ ?_;obtain⟨b7,i8,h⟩:=B0 h;refine⟨true,[.im (nL cI b7.1),.im (nB b7.2.1)],[.box 93 [.im (nI b7.2.2.l.I),.im (nL (cL cI) b7.2.2.l.Short),.im (nL (cL cI) b7.2.2.l.X),.im (nI b7.2.2.o.I),.im (nL C4 b7.2.2.o.T),.im .any,.im .any]],λV=>(LO (⟨(⟨r_.l.I,r_.l.Short,b6.2.l.X⟩:C7),b6.2.o,d4.2.missing,d4.2.long⟩:J2) b6.1 (V 0 5) (V 0 6) b7 (λ_ _=>i8)),?_⟩;refine D9 h (λf9 h=>?_) λf9 h=>?_;cases h;exact A4 ⟨rfl,rfl,trivial⟩ ⟨rfl,rfl⟩;refine A4 ⟨rfl,rfl,trivial⟩ ?_;obtain⟨c0,j0,h⟩:=B0 h;refine⟨false,[.im (nL cI c0.1)],[.box 93 [.im .any,.im .any,.im .any,.im (nI c0.2.o.I),.im (nL C4 c0.2.o.T),.ow (zr0_ c0.2.missing),.im (nB c0.2.long)]],λV=>(wL (⟨b7.2.2.l,b7.2.2.o,d4.2.missing,d4.2.long⟩:J2) u_ v_ (V 0 0) (V 0 1) (V 0 2) c0 (λ_ _ _=>j0)),?_⟩;refine A4 ⟨rfl,rfl,trivial⟩ ?_;obtain⟨c6,i7,h⟩:=B0 h;refine⟨false,[.im (nL cI c6.1)],[.box 93 [.im .any,.im .any,.im .any,.im (nI c6.2.o.I),.im (nL C4 c6.2.o.T),.ow (zr0_ c6.2.missing),.im (nB c6.2.long)]],λV=>(wL (⟨b7.2.2.l,c0.2.o,c0.2.missing,c0.2.long⟩:J2) b7.1 v_ (V 0 0) (V 0 1) (V 0 2) c6 (λ_ _ _=>i7)),?_⟩;refine A4 ⟨rfl,rfl,trivial⟩ ?_;obtain⟨e7,i6,h⟩:=B0 h;refine⟨false,[.im (nB e7.1)],[.box 93 [.im .any,.im .any,.im .any,.im .any,.im .any,.ow (zr0_ e7.2.missing),.im (nB e7.2.long)]],λV=>(BB (⟨b7.2.2.l,c6.2.o,c6.2.missing,c6.2.long⟩:J2) (V 0 0) (V 0 1) (V 0 2) (V 0 3) (V 0 4) e7 (λ_=>i6)),?_⟩;refine D9 h (λg1 h=>?_) λg1 h=>?_;cases h;exact A4 ⟨rfl,rfl,trivial⟩ ⟨rfl,rfl⟩;refine B1 h (pS c0.1 c6.1) λg9 j5 h=>?_;refine D9 h (λg2 h=>?_) λg2 h=>?_;cases h;exact A4 ⟨rfl,rfl,trivial⟩ ⟨rfl,rfl⟩;obtain⟨oc,h,a4⟩:=B0 h;refine zzVx oc (Y:=Int×A3×A3×Int×List A8×A3×Bool×A3) (λ(d5,d6,d7,d8,d9,e0,e1,e2)=>([(0,.own 0 0 0),(13,.osl 112 1)],[(0,.box 93 7),(111,zr0_ e0),(112,zr0_ e2)],[(0,0,A7 d5),(0,1,A9 (cL cI) d6),(0,2,A9 (cL cI) d7),(0,3,A7 d8),(0,4,A9 C4 d9),(0,5,.osl 111 1),(0,6,G8 e1)])) ?_ ?_;refine zzLx h (λ(b4,b5,c7,c8,c9,d0,d1,d2,a6,d3,b9)=>([(0,.own 0 0 0),(1,A9 cI d2),(2,A9 cI a6),(9,A9 cI d3),(13,.osl 112 1)],[(0,.box 93 7),(111,zr0_ d0),(112,zr0_ b9)],[(0,0,A7 b4),(0,1,A9 (cL cI) b5),(0,2,A9 (cL cI) c7),(0,3,A7 c8),(0,4,A9 C4 c9),(0,5,.osl 111 1),(0,6,G8 d1)])) (eA (J1 [0,0,111,2005,112,50])) ?_;rintro k ⟨b4,b5,c7,c8,c9,d0,d1,d2,a6,d3,b9⟩ o hp h a3;change bR.s2 b4 b5 c7 c8 c9 d0 d1 d2 a6 d3 b9=_ at h;unfold bR.s2 at h;have hp:=zq hp;refine B4 a6.length C0<|B3 h (λe8 h e4=>?_) λe8 h e4=>?_;obtain⟨g3,h⟩:=J0 h;refine S7 (0:Int) 1 a6 cI<|B4 (List.map cI (List.take 1 a6)) dS ?_;obtain⟨e3,a5,h⟩:=B0 h;refine⟨_,(iT [d2,(List.take 1 a6)] e3 a5),?_⟩;obtain⟨g4,h⟩:=J0 h;refine S7 (0:Int) 1 a6 cI<|B4 (List.map cI (List.take 1 a6)) dS ?_;obtain⟨e5,i3,h⟩:=B0 h;refine⟨_,(iT [d3,(List.take 1 a6)] e5 i3),?_⟩;obtain⟨g5,h⟩:=J0 h;refine S7 1 (↑(List.length (List.map cI a6)):Int) a6 cI<|B4 (List.map cI (List.drop 1 a6)) bL<|A4 ⟨rfl,rfl,trivial⟩ ?_;obtain⟨a8,h8,h⟩:=B0 h;refine⟨false,[.im (nL (cL cI) a8.1)],[.box 93 [.im .any,.im .any,.im (nL (cL cI) a8.2.l.X),.im (nI a8.2.o.I),.im (nL C4 a8.2.o.T),.ow (zr0_ a8.2.missing),.im (nB a8.2.long)]],λV=>(GH (⟨(⟨b4,b5,c7⟩:C7),(⟨c8,c9⟩:A6),d0,d1⟩:J2) e3 (V 0 0) (V 0 1) a8 (λ_ _=>h8)),?_⟩;refine A4 ⟨rfl,rfl,trivial⟩ ?_;obtain⟨a7,h9,h⟩:=B0 h;refine⟨false,[.im (nL (cL cI) a7.1)],[.box 93 [.im .any,.im .any,.im (nL (cL cI) a7.2.l.X),.im (nI a7.2.o.I),.im (nL C4 a7.2.o.T),.ow (zr0_ a7.2.missing),.im (nB a7.2.long)]],λV=>(GH (⟨(⟨b4,b5,a8.2.l.X⟩:C7),a8.2.o,a8.2.missing,a8.2.long⟩:J2) e5 (V 0 0) (V 0 1) a7 (λ_ _=>h9)),?_⟩;refine A4 ⟨rfl,rfl,trivial⟩ ?_;obtain⟨b3,f6,h⟩:=B0 h;refine⟨false,[.im (nB b3.1)],[.box 93 [.im .any,.im .any,.im .any,.im .any,.im .any,.ow (zr0_ b3.2.missing),.im (nB b3.2.long)]],λV=>(BB (⟨(⟨b4,b5,a7.2.l.X⟩:C7),a7.2.o,a7.2.missing,a7.2.long⟩:J2) (V 0 0) (V 0 1) (V 0 2) (V 0 3) (V 0 4) b3 (λ_=>f6)),?_⟩;refine D9 h (λe9 h=>?_) λe9 h=>?_;cases h;cases D1 a3;replace h:some _=some _:=a4;cases h;exact A4 ⟨rfl,rfl,trivial⟩ ⟨rfl,rfl⟩;refine B1 h (JD a8.1 a7.1) λg6 j3 h=>?_;refine D9 h (λf3 h=>?_) λf3 h=>?_;cases h;cases D1 a3;replace h:some _=some _:=a4;cases h;exact A4 ⟨rfl,rfl,rfl,trivial⟩ ⟨rfl,rfl⟩;refine A4 ⟨rfl,trivial⟩ ?_;obtain⟨a2,h6,h⟩:=B0 h;refine⟨true,[.im (nL cI a2.1),.im (nB a2.2.1)],[.box 93 [.im (nI a2.2.2.l.I),.im (nL (cL cI) a2.2.2.l.Short),.im (nL (cL cI) a2.2.2.l.X),.im (nI a2.2.2.o.I),.im (nL C4 a2.2.2.o.T),.im .any,.im .any]],λV=>(LO (⟨(⟨b4,b5,a7.2.l.X⟩:C7),a7.2.o,b3.2.missing,b3.2.long⟩:J2) a8.1 (V 0 5) (V 0 6) a2 (λ_ _=>h6)),?_⟩;refine D9 h (λf4 h=>?_) λf4 h=>?_;cases h;cases D1 a3;replace h:some _=some _:=a4;cases h;exact A4 ⟨rfl,rfl,trivial⟩ ⟨rfl,rfl⟩;refine A4 ⟨rfl,rfl,trivial⟩ ?_;obtain⟨b2,a9,h⟩:=B0 h;refine⟨false,[.im (nL cI b2.1)],[.box 93 [.im .any,.im .any,.im .any,.im (nI b2.2.o.I),.im (nL C4 b2.2.o.T),.ow (zr0_ b2.2.missing),.im (nB b2.2.long)]],λV=>(wL (⟨a2.2.2.l,a2.2.2.o,b3.2.missing,b3.2.long⟩:J2) e3 (List.drop 1 a6) (V 0 0) (V 0 1) (V 0 2) b2 (λ_ _ _=>a9)),?_⟩;refine A4 ⟨rfl,rfl,trivial⟩ ?_;obtain⟨b0,i4,h⟩:=B0 h;refine⟨false,[.im (nL cI b0.1)],[.box 93 [.im .any,.im .any,.im .any,.im (nI b0.2.o.I),.im (nL C4 b0.2.o.T),.ow (zr0_ b0.2.missing),.im (nB b0.2.long)]],λV=>(wL (⟨a2.2.2.l,b2.2.o,b2.2.missing,b2.2.long⟩:J2) a2.1 (List.drop 1 a6) (V 0 0) (V 0 1) (V 0 2) b0 (λ_ _ _=>i4)),?_⟩;refine A4 ⟨rfl,rfl,trivial⟩ ?_;obtain⟨b8,h7,h⟩:=B0 h;refine⟨false,[.im (nB b8.1)],[.box 93 [.im .any,.im .any,.im .any,.im .any,.im .any,.ow (zr0_ b8.2.missing),.im (nB b8.2.long)]],λV=>(BB (⟨a2.2.2.l,b0.2.o,b0.2.missing,b0.2.long⟩:J2) (V 0 0) (V 0 1) (V 0 2) (V 0 3) (V 0 4) b8 (λ_=>h7)),?_⟩;refine D9 h (λf5 h=>?_) λf5 h=>?_;cases h;cases D1 a3;replace h:some _=some _:=a4;cases h;exact A4 ⟨rfl,rfl,trivial⟩ ⟨rfl,rfl⟩;obtain⟨e6,h,i5⟩:=B0 h;refine zzUx ([(0,.own 0 0 0),(1,A9 cI e6),(13,.osl 112 1),(16,A9 cI (List.drop 1 a6)),(19,A9 cI a2.1)],[(0,.box 93 7),(111,zr0_ b8.2.missing),(112,zr0_ b9)],[(0,0,A7 a2.2.2.l.I),(0,1,A9 (cL cI) a2.2.2.l.Short),(0,2,A9 (cL cI) a2.2.2.l.X),(0,3,A7 b0.2.o.I),(0,4,A9 C4 b0.2.o.T),(0,5,.osl 111 1),(0,6,G8 b8.2.long)]) ?_ λhp=>?_;refine B1 h (pS b2.1 b0.1) λg7 j4 h=>?_;refine D9 h (λf7 h=>?_) λf7 h=>?_;exact zzJn h;exact zzJn h;replace h:=i5;have hp:=zq hp;refine N4 b9 e6 (cL cI) h λg8 h=>?_;exact D5 h a3;exact zzN_ h a3;rintro⟨d5,d6,d7,d8,d9,e0,e1,e2⟩ rfl hp;have i9:=I9 a4;replace h:bR.k3 d5 d6 d7 d8 d9 e0 e1 e2=some _:=i9;clear i9;unfold bR.k3 at h;have hp:=zq hp;cases h;exact A4 ⟨rfl,rfl,rfl,trivial⟩ ⟨rfl,rfl⟩
def JV(l_:C7)(o_:A6)(s_:J8)(r:C7×A3×Int)(h:gF l_ o_ s_=some r):Sp Tryz.prog 13 [.im (.agg (L3 l_)),.im (.agg (E6 o_)),.im (.agg (dX s_))] (.tup [.agg (L3 r.1),nL (cL cI) r.2.1,nI r.2.2]):=by
 refine sp_of rfl [76000,700003,700004,700005,76806*1000000000+46*100+1] rfl rfl rfl (AS rfl) rfl λhk=>?_;have z1:lZ l_.Short:=dN (iC hk.1 1 rfl);have z2:lZ l_.X:=dN (iC hk.1 2 rfl);have z3:lZ o_.T:=dN (iC hk.2.1 1 rfl);have z4:lZ s_.Prefix:=dN (iC hk.2.2.1 0 rfl);have z5:lZ s_.Suffix:=dN (iC hk.2.2.1 2 rfl);unfold gF at h;refine B1 h (FE l_ o_) λe1 f7 h=>?_;refine B3 h (λc8 h b0=>?_) λc8 h b0=>?_;refine A4 rfl ?_;exact G7 h;refine B1 h (pL s_.Prefix l_.I) λe2 f5 h=>?_;refine B3 h (λc9 h b2=>?_) λc9 h b2=>?_;refine A4 rfl ?_;exact G7 h;obtain⟨d0,h,a4⟩:=B0 h;refine zzUx ([(3,B9 (L3 l_)),(4,B9 (E6 o_)),(5,B9 (dX s_)),(6,.own 123 1 0),(44,G8 d0)],[(123,.box 40 3)],[(123,0,A7 0),(123,1,C8),(123,2,C8)]) ?_ λhp=>?_;refine U2 h (λa6 h b3=>?_) λa6 h b3=>?_
 iterate 4 (refine B6 (I3 a6) ?_)
 refine C5 a6 ?_;cases h;exact H5 (eA (J1 [123,6]))
 iterate 4 (refine C5 (R6 a6) ?_)
 refine B6 a6 ?_;cases h;exact H5 (eA (J1 [123,6]));replace h:=a4;refine D9 h (λd1 h=>?_) λd1 h=>?_;refine A4 rfl ?_;exact G7 h;refine B4 s_.Suffix.length C0<|B3 h (λd2 h b4=>?_) λd2 h b4=>?_;refine A4 rfl ?_;exact G7 h;refine B1 h (pL s_.Suffix l_.I) λe3 f6 h=>?_;refine B3 h (λd3 h b5=>?_) λd3 h b5=>?_;refine A4 rfl ?_;exact G7 h;obtain⟨c7,a9,h⟩:=B0 h;refine⟨_,(iT [s_.Prefix,[s_.Symbol]] c7 a9),?_⟩;refine A4 ⟨rfl,trivial⟩ ?_;obtain⟨a2,e6,h⟩:=B0 h;refine⟨_,zr5 (⟨l_,o_,[],false⟩:J2) c7 s_.Suffix a2 (λ_ _ _=>e6),?_⟩;refine A4 rfl<|A4 rfl<|A4 rfl<|D9 h (λd4 h=>?_) λd4 h=>?_;refine A4 rfl ?_;exact G7 h;refine B3 h (λd5 h b6=>?_) λd5 h b6=>?_;refine A4 rfl ?_;exact G7 h;refine A4 rfl<|A4 rfl<|A4 rfl<|A4 rfl<|B4 a2.2.2.missing.length C0<|B3 h (λd6 h b7=>?_) λd6 h b7=>?_;refine A4 rfl<|A4 rfl<|A4 rfl<|A4 ⟨rfl,trivial⟩<|B1 h (LF a2.2.2.missing) λe4 f4 h=>?_;refine A4 rfl ?_;exact G7 h;refine A4 rfl<|B4 a2.1.length C0 ?_;obtain⟨b8,h,a5⟩:=B0 h;refine zzUx ([(3,B9 (L3 l_)),(6,.own 123 1 0),(15,.own 124 1 0)],[(123,.box 40 3),(124,.box 40 3)],[(123,0,A7 0),(123,1,C8),(123,2,C8),(124,0,A7 l_.I),(124,1,A9 (cL cI) b8),(124,2,A9 (cL cI) l_.X)]) ?_ λhp=>?_;refine zzLx h (λ(a8,b9)=>([(3,B9 (L3 l_)),(6,.own 123 1 0),(15,.own 124 1 0),(103,A9 (cL cI) a2.1),(104,A7 (a2.1.length:Int)),(105,C1 b9)],[(123,.box 40 3),(124,.box 40 3)],[(123,0,A7 0),(123,1,C8),(123,2,C8),(124,0,A7 l_.I),(124,1,A9 (cL cI) a8),(124,2,A9 (cL cI) l_.X)])) (eA (J1 [123,123,124,15])) ?_;rintro k ⟨a8,b9⟩ o hp h a3;change gF.s2 a2 a8 b9=_ at h;unfold gF.s2 at h;have hp:=zq hp;refine B3 h (λd7 h c0=>?_) λd7 h c0=>?_;refine E0 h λd8 f3 h=>?_;refine A4 rfl<|A4 rfl<|B1 h (EQ a8 d8) λe5 e9 h=>?_;refine A4 rfl<|A4 rfl<|E4 ?_;exact D5 h a3;cases h;cases D1 a3;exact H5 eZ;replace h:=a5;have hp:=zq hp;refine A4 rfl<|B1 h (FC (⟨l_.I,b8,l_.X⟩:C7)) λd9 e7 h=>?_;refine B3 h (λc6 h a7=>?_) λc6 h a7=>?_;refine A4 rfl ?_;exact G7 h;refine A4 rfl<|B1 h (JL (⟨l_.I,b8,l_.X⟩:C7)) λe0 e8 h=>?_;refine A4 rfl ?_;exact G7 h
def zt5(t_:B8)(o_:A6)(r:E3×Int)(h:U6 t_ o_=some r):Sp Tryz.prog 43 [.im (.agg (G5 t_)),.im (.agg (E6 o_))] (.tup [.agg (Q0 r.1),nI r.2]):=by
 refine C2 [700002,700003] λhk=>?_;have hz:=C3 hk;unfold U6 at h;refine B1 h (FL t_ o_) λa2 h7 h=>?_;refine A4 rfl<|B3 h (λe1 h d2=>?_) λe1 h d2=>?_;refine A4 rfl ?_;exact G7 h;refine A4 rfl<|B1 h (LX a2.1) λf5 h6 h=>?_;refine A4 rfl<|B1 h (MA a2.1) λf7 g9 h=>?_;obtain⟨e2,h,g1⟩:=B0 h;refine zzUx ([(2,B9 (G5 t_)),(4,.own 121 1 0),(6,.own 122 1 0),(44,G8 e2)],[(121,.box 28 5),(122,.box 135 4)],[(121,0,A7 0),(121,1,A7 0),(121,2,C8),(121,3,C8),(121,4,C8),(122,0,A9 (cL (cL cI)) a2.1.rows),(122,1,A9 cI a2.1.prefixes),(122,2,A9 (cL cI) a2.1.next),(122,3,.im (.any))]) ?_ λhp=>?_;refine gV h (λd3 h=>?_) λd3 h=>?_;refine C5 d3 ?_;cases h;exact H5 (eA (J1 [121,4,122,6]));refine B6 d3 ?_;cases h;exact H5 (eA (J1 [121,4,122,6]));replace h:=g1;have hp:=zq hp;refine D9 h (λe3 h=>?_) λe3 h=>?_;refine A4 rfl ?_;exact G7 h;refine A4 rfl<|A4 rfl<|B4 a2.1.rows.length C0<|B3 h (λe4 h d4=>?_) λe4 h d4=>?_;refine A4 rfl ?_;exact G7 h;refine A4 rfl<|A4 rfl<|A4 rfl<|B4 a2.1.prefixes.length C0 ?_;obtain⟨⟨b4,b5,b6⟩,h,f9⟩:=B0 h;refine zzUx ([(4,.own 121 1 0),(14,.own 122 1 0)],[(121,.box 28 5),(122,.box 28 5),(123,zr0_ b4),(124,zr0_ b5),(125,zr0_ b6)],[(121,0,A7 0),(121,1,A7 0),(121,2,C8),(121,3,C8),(121,4,C8),(122,0,A7 t_.I),(122,1,A7 0),(122,2,.osl 123 1),(122,3,.osl 124 1),(122,4,.osl 125 1)]) ?_ λhp=>?_;refine zzLx h (λ(a8,b0,a7,a6)=>([(2,B9 (G5 t_)),(4,.own 121 1 0),(6,.own 122 1 0),(14,.own 123 1 0),(56,A9 cI a2.1.prefixes),(57,A7 (a2.1.prefixes.length:Int)),(58,C1 a6)],[(121,.box 28 5),(122,.box 135 4),(123,.box 28 5),(124,zr0_ a8),(125,zr0_ b0),(126,zr0_ a7)],[(121,0,A7 0),(121,1,A7 0),(121,2,C8),(121,3,C8),(121,4,C8),(122,0,A9 (cL (cL cI)) a2.1.rows),(122,1,A9 cI a2.1.prefixes),(122,2,A9 (cL cI) a2.1.next),(122,3,.im (.any)),(123,0,A7 t_.I),(123,1,A7 0),(123,2,.osl 124 1),(123,3,.osl 125 1),(123,4,.osl 126 1)])) (eA [(121,some 121),(122,some 122),(123,some 14),(124,none),(125,none),(126,none)]) ?_;rintro k ⟨a8,b0,a7,a6⟩ o hp h a3;change U6.s32 t_ a2 a8 b0 a7 a6=_ at h;unfold U6.s32 at h;have hp:=zq hp;refine B3 h (λd5 h b7=>?_) λd5 h b7=>?_;obtain⟨⟨b8,b9,c0⟩,h,a9⟩:=B0 h;refine zzUx ([(2,B9 (G5 t_)),(4,.own 121 1 0),(6,.own 122 1 0),(14,.own 123 1 0),(56,A9 cI a2.1.prefixes),(57,A7 (a2.1.prefixes.length:Int)),(58,C1 a6)],[(121,.box 28 5),(122,.box 135 4),(123,.box 28 5),(124,zr0_ b8),(125,zr0_ b9),(126,zr0_ c0)],[(121,0,A7 0),(121,1,A7 0),(121,2,C8),(121,3,C8),(121,4,C8),(122,0,A9 (cL (cL cI)) a2.1.rows),(122,1,A9 cI a2.1.prefixes),(122,2,A9 (cL cI) a2.1.next),(122,3,.im (.any)),(123,0,A7 t_.I),(123,1,A7 0),(123,2,.osl 124 1),(123,3,.osl 125 1),(123,4,.osl 126 1)]) ?_ λhp=>?_;refine E0 h λc6 g4 h=>?_;refine A4 rfl<|A4 rfl<|A4 rfl<|B4 a7.length C0<|B3 h (λd6 h c7=>?_) λd6 h c7=>?_;exact zzJn h;obtain⟨c8,h,a5⟩:=B0 h;refine zzUx ([(2,B9 (G5 t_)),(4,.own 121 1 0),(6,.own 122 1 0),(14,.own 123 1 0),(15,C1 a6),(17,.osl 127 1),(56,A9 cI a2.1.prefixes),(57,A7 (a2.1.prefixes.length:Int)),(58,C1 a6)],[(121,.box 28 5),(122,.box 135 4),(123,.box 28 5),(124,zr0_ a8),(125,zr0_ b0),(126,zr0_ a7),(127,zr1_ c8)],[(121,0,A7 0),(121,1,A7 0),(121,2,C8),(121,3,C8),(121,4,C8),(122,0,A9 (cL (cL cI)) a2.1.rows),(122,1,A9 cI a2.1.prefixes),(122,2,A9 (cL cI) a2.1.next),(122,3,.im (.any)),(123,0,A7 t_.I),(123,1,A7 0),(123,2,.osl 124 1),(123,3,.osl 125 1),(123,4,.osl 126 1)]) ?_ λhp=>?_;refine zzLx h (λ(b2,b3)=>([(2,B9 (G5 t_)),(4,.own 121 1 0),(6,.own 122 1 0),(14,.own 123 1 0),(15,C1 a6),(16,A7 c6),(17,.osl 127 1),(56,A9 cI a2.1.prefixes),(57,A7 (a2.1.prefixes.length:Int)),(58,C1 a6),(69,A7 t_.I),(70,C1 b3)],[(121,.box 28 5),(122,.box 135 4),(123,.box 28 5),(124,zr0_ a8),(125,zr0_ b0),(126,zr0_ a7),(127,zr1_ b2)],[(121,0,A7 0),(121,1,A7 0),(121,2,C8),(121,3,C8),(121,4,C8),(122,0,A9 (cL (cL cI)) a2.1.rows),(122,1,A9 cI a2.1.prefixes),(122,2,A9 (cL cI) a2.1.next),(122,3,.im (.any)),(123,0,A7 t_.I),(123,1,A7 0),(123,2,.osl 124 1),(123,3,.osl 125 1),(123,4,.osl 126 1)])) (eA [(121,some 121),(122,some 122),(123,some 123),(124,some 124),(125,some 125),(126,some 126),(127,none)]) ?_;rintro k ⟨b2,b3⟩ o hp h a4;change U6.s30 t_ a2 c6 b2 b3=_ at h;unfold U6.s30 at h;have hp:=zq hp;refine B3 h (λd7 h c9=>?_) λd7 h c9=>?_;refine A4 rfl<|A4 rfl<|J7 h λe5 g2 g7 h=>?_;refine E0 h λe6 g5 h=>?_;refine E0 h λd8 g6 h=>?_;refine N4 b2 d8 cI h λe7 h=>?_;refine K6 h λh e8=>?_;exact D5 h a4;cases h;cases D1 a4;exact H5 eZ;replace h:=a5;have hp:=zq hp;refine A4 rfl<|A4 rfl<|A4 rfl<|A4 rfl<|A4 rfl<|E0 h λd9 g3 h=>?_;obtain⟨d0,f8,h⟩:=B0 h;refine⟨_,(iZ d9 d0 (f8)).im,?_⟩;refine N4 a8 d0 (cL cI) h λe9 h=>?_;refine A4 rfl<|A4 rfl<|A4 rfl<|A4 rfl<|A4 rfl<|A4 rfl<|A4 ⟨rfl,trivial⟩<|N4 b0 c8 (cL cI) h λf3 h=>?_;refine A4 rfl<|A4 rfl<|A4 rfl<|A4 rfl<|A4 rfl<|E0 h λe0 g8 h=>?_;obtain⟨d1,f6,h⟩:=B0 h;refine⟨_,(iZ e0 d1 (f6)).im,?_⟩;refine N4 a7 d1 (cL cI) h λf4 h=>?_;refine A4 rfl<|A4 rfl ?_;exact zzJn h;replace h:U6.k31 a6 b8 b9 c0=some _:=a9;unfold U6.k31 at h;have hp:=zq hp;refine E4 ?_;exact D5 h a3;cases h;cases D1 a3;exact H5 (eA (J1 [121,121,122,123,123,124,124,125,125,126]));replace h:U6.k33 t_ b4 b5 b6=some _:=f9;unfold U6.k33 at h;have hp:=zq hp;refine A4 rfl<|A4 rfl ?_;cases h;refine A4 ⟨rfl,trivial⟩ ?_;exact A4 ⟨rfl,rfl,rfl,trivial⟩ ⟨rfl,rfl⟩
def LL(l_:C7)(o_:A6)(r:E3×Int)(h:nJ l_ o_=some r):Sp Tryz.prog 14 [.im (.agg (L3 l_)),.im (.agg (E6 o_))] (.tup [.agg (Q0 r.1),nI r.2]):=by
 refine C2 [700002,700003] λhk=>?_;have hz:=C3 hk;unfold nJ at h;refine B1 h (FE l_ o_) λa8 a5 h=>?_;refine B3 h (λa6 h a2=>?_) λa6 h a2=>?_;refine A4 rfl ?_;exact G7 h;refine B1 h (AG l_) λa7 a3 h=>?_;refine B1 h (zt5 a7 o_) λb0 a4 h=>?_;refine A4 rfl ?_;exact G7 h
def IS(r:Bool)(h:tW=some r):Sp Tryz.prog 5 [] (.im (nB r)):=by
 refine C2 [] λhk=>?_;unfold tW at h;refine B1 h (DV 2) λd3 e6 h=>?_;refine A4 rfl<|A4 rfl ?_;obtain⟨d1,e1,h⟩:=B0 h;refine⟨_,(sp_L23_Gate  d1 (e1)),?_⟩;refine B1 h (JC d3.1 d1) λb4 e4 h=>?_;refine A4 rfl<|B1 h (DV 1) λd2 e2 h=>?_;refine A4 rfl<|A4 rfl<|A4 rfl<|A4 rfl<|B1 h (JV d2.1 (⟨1,[(⟨[0,0,0],[0,0,1]⟩:A8)]⟩:A6) (⟨[],0,[0,0]⟩:J8)) λa6 e3 h=>?_;refine A4 rfl<|A4 rfl<|A4 rfl<|B1 h (LL d2.1 (⟨1,[(⟨[0,0,0],[0,0,1]⟩:A8)]⟩:A6)) λa7 e5 h=>?_;refine A4 rfl ?_;obtain⟨d4,h,a4⟩:=B0 h;refine zzUx ([(3,.own 110 1 0),(10,.own 111 1 0),(13,.own 112 1 0),(81,G8 d4)],[(110,.box 40 3),(111,.box 40 3),(112,.box 28 5)],[(110,0,A7 b4.1.I),(110,1,A9 (cL cI) b4.1.Short),(110,2,A9 (cL cI) b4.1.X),(111,0,A7 a6.1.I),(111,1,A9 (cL cI) a6.1.Short),(111,2,A9 (cL cI) a6.1.X),(112,0,A7 a7.1.M.I),(112,1,A7 a7.1.M.S),(112,2,A9 (cL cI) a7.1.M.N),(112,3,A9 (cL cI) a7.1.M.O),(112,4,A9 (cL cI) a7.1.Access)]) ?_ λhp=>?_;refine U2 h (λb5 h b9=>?_) λb5 h b9=>?_;refine B6 (I3 b5)<|C5 b5<|U2 h (λb6 h c0=>?_) λb6 h c0=>?_;refine B6 (I3 b6)<|C5 b6<|U2 h (λb7 h c6=>?_) λb7 h c6=>?_;refine B6 (I3 b7)<|C5 b7<|U2 h (λb8 h c7=>?_) λb8 h c7=>?_;refine B6 (I3 b8)<|C5 b8<|U2 h (λc8 h c9=>?_) λc8 h c9=>?_;refine C5 c8<|gV h (λa8 h=>?_) λa8 h=>?_;refine B6 (I3 a8)<|B4 b4.2.1.length C0<|B6 (I3 a8)<|C5 a8<|U2 h (λb0 h d0=>?_) λb0 h d0=>?_;refine B6 (I3 b0)<|B4 a6.2.1.length C0<|B6 (I3 b0)<|C5 b0 ?_;cases h;exact H5 (eA (J1 [110,3,111,10,112,13]))
 iterate 2 (refine C5 (R6 b0) ?_)
 refine B6 b0 ?_;cases h;exact H5 (eA (J1 [110,3,111,10,112,13]))
 iterate 2 (refine C5 (R6 a8) ?_)
 refine B6 a8 ?_
 iterate 3 (refine C5 rfl ?_)
 refine B6 rfl ?_;cases h;exact H5 (eA (J1 [110,3,111,10,112,13]));refine B6 c8 ?_
 iterate 3 (refine C5 rfl ?_)
 refine B6 rfl ?_
 iterate 3 (refine C5 rfl ?_)
 refine B6 rfl ?_;cases h;exact H5 (eA (J1 [110,3,111,10,112,13]));refine C5 (R6 b8)<|B6 b8<|C5 rfl<|B6 rfl ?_
 iterate 3 (refine C5 rfl ?_)
 refine B6 rfl ?_
 iterate 3 (refine C5 rfl ?_)
 refine B6 rfl ?_;cases h;exact H5 (eA (J1 [110,3,111,10,112,13]));refine C5 (R6 b7)<|B6 b7 ?_
 iterate 2 (refine C5 rfl ?_)
 refine B6 rfl<|C5 rfl<|B6 rfl ?_
 iterate 3 (refine C5 rfl ?_)
 refine B6 rfl ?_
 iterate 3 (refine C5 rfl ?_)
 refine B6 rfl ?_;cases h;exact H5 (eA (J1 [110,3,111,10,112,13]));refine C5 (R6 b6)<|B6 b6 ?_
 iterate 2 (refine C5 rfl ?_)
 refine B6 rfl ?_
 iterate 2 (refine C5 rfl ?_)
 refine B6 rfl<|C5 rfl<|B6 rfl ?_
 iterate 3 (refine C5 rfl ?_)
 refine B6 rfl ?_
 iterate 3 (refine C5 rfl ?_)
 refine B6 rfl ?_;cases h;exact H5 (eA (J1 [110,3,111,10,112,13]));refine C5 (R6 b5)<|B6 b5 ?_
 iterate 2 (refine C5 rfl ?_)
 refine B6 rfl ?_
 iterate 2 (refine C5 rfl ?_)
 refine B6 rfl ?_
 iterate 2 (refine C5 rfl ?_)
 refine B6 rfl<|C5 rfl<|B6 rfl ?_
 iterate 3 (refine C5 rfl ?_)
 refine B6 rfl ?_
 iterate 3 (refine C5 rfl ?_)
 refine B6 rfl ?_;cases h;exact H5 (eA (J1 [110,3,111,10,112,13]));replace h:=a4;have hp:=zq hp;refine D9 h (λd5 h=>?_) λd5 h=>?_;exact B2 h;obtain⟨d6,h,a5⟩:=B0 h;refine zzUx ([(0,G8 d6)],[],[]) ?_ λhp=>?_;refine A4 rfl<|A4 rfl ?_;obtain⟨d7,e0,h⟩:=B0 h;refine⟨_,(GF b4.1.Short [[],[0]] d7 e0),?_⟩;refine eH h (λb2 h=>?_) λb2 h=>?_;refine A4 rfl<|B6 (G9 b2)<|A4 rfl ?_
 iterate 4 (refine B6 (G9 b2) ?_)
 obtain⟨d8,a9,h⟩:=B0 h;refine⟨_,(GF a6.1.Short [[],[0]] d8 a9),?_⟩;refine B6 b2<|eH h (λb3 h=>?_) λb3 h=>?_;refine A4 rfl<|B6 (G9 b3)<|A4 rfl ?_
 iterate 3 (refine B6 (G9 b3) ?_)
 obtain⟨d9,a3,h⟩:=B0 h;refine⟨_,(GF a6.1.X [[0]] d9 a3),?_⟩;refine B6 b3<|eH h (λa2 h=>?_) λa2 h=>?_;refine A4 rfl<|B6 (G9 a2)<|A4 rfl<|B6 (G9 a2)<|A4 rfl<|B6 (G9 a2)<|B4 a7.1.M.N.length C0<|B6 (G9 a2)<|B6 a2 ?_;exact zzJn h
 iterate 4 (refine C5 (R0 a2) ?_)
 refine C5 a2 ?_;exact zzJn h
 iterate 4 (refine C5 (R0 b3) ?_)
 refine C5 b3 ?_
 iterate 6 (refine C5 rfl ?_)
 exact zzJn h
 iterate 5 (refine C5 (R0 b2) ?_)
 refine C5 b2 ?_
 iterate 12 (refine C5 rfl ?_)
 exact zzJn h;replace h:=a5;exact B2 h
def zso(m_:lV)(s_ a_:Int)(r:Int×Int)(h:AY m_ s_ a_=some r):Sp Tryz.prog 192 [.im (.agg (KJ m_)),.im (nI s_),.im (nI a_)] (.tup [nI r.1,nI r.2]):=by
 refine C2 [700003] λhk=>?_;have hz:=C3 hk;unfold AY at h;refine J7 h λa2 a3 b4 h=>?_;refine J7 h λa6 a4 b3 h=>?_;refine J7 h λa7 a9 b2 h=>?_;refine J7 h λa8 a5 b0 h=>?_;exact B2 h
def zuq(r_:fG)(w_:A2)(r:A2×fG)(h:fQ [.im (nI r_.machine.Mealy.I),.im (nI r_.machine.Mealy.S),.im (nL (cL cI) r_.machine.Mealy.N),.im (nL (cL cI) r_.machine.Mealy.O),.im (nI r_.at_)]->Ok (nL cI w_)->dD r_ w_=some r):Sp Tryz.prog 147 [.box 216 [.im (nI r_.machine.Mealy.I),.im (nI r_.machine.Mealy.S),.im (nL (cL cI) r_.machine.Mealy.N),.im (nL (cL cI) r_.machine.Mealy.O),.im (nI r_.at_)],.im (nL cI w_)] (.mk false [.im (nL cI r.1)] [.box 216 [.im (nI r.2.machine.Mealy.I),.im (nI r.2.machine.Mealy.S),.im (nL (cL cI) r.2.machine.Mealy.N),.im (nL (cL cI) r.2.machine.Mealy.O),.im (nI r.2.at_)]]):=by
 refine C2 [] λhk=>?_;have hz:=C3 hk;replace h:=h hk.1 hk.2.1;unfold dD at h;refine B4 w_.length C0 ?_;obtain⟨⟨b0,b2⟩,h,a4⟩:=B0 h;refine zzUx ([(0,.own 0 0 0),(5,.osl 65 1)],[(0,.box 216 5),(65,zr1_ b2)],[(0,0,A7 r_.machine.Mealy.I),(0,1,A7 r_.machine.Mealy.S),(0,2,A9 (cL cI) r_.machine.Mealy.N),(0,3,A9 (cL cI) r_.machine.Mealy.O),(0,4,A7 b0)]) ?_ λhp=>?_;refine zzLx h (λ(a2,a6,a7)=>([(0,.own 0 0 0),(5,.osl 65 1),(10,A9 cI w_),(11,A7 (w_.length:Int)),(12,C1 a7)],[(0,.box 216 5),(65,zr1_ a6)],[(0,0,A7 r_.machine.Mealy.I),(0,1,A7 r_.machine.Mealy.S),(0,2,A9 (cL cI) r_.machine.Mealy.N),(0,3,A9 (cL cI) r_.machine.Mealy.O),(0,4,A7 a2)])) (eA [(0,some 0),(65,none)]) ?_;rintro k ⟨a2,a6,a7⟩ o hp h a3;change dD.s2 r_ w_ a2 a6 a7=_ at h;unfold dD.s2 at h;have hp:=zq hp;refine B3 h (λb3 h a8=>?_) λb3 h a8=>?_;refine E0 h λb4 a9 h=>?_;refine A4 rfl<|A4 rfl<|A4 rfl<|A4 rfl<|A4 rfl<|A4 rfl<|B1 h (zso r_.machine a2 b4) λb5 a5 h=>?_;refine A4 rfl<|A4 rfl<|A4 rfl<|N4 a6 b5.2 cI h λb6 h=>?_;refine E4 ?_;exact D5 h a3;cases h;cases D1 a3;exact H5 eZ;replace h:dD.k3 r_ b0 b2=some _:=a4;unfold dD.k3 at h;have hp:=zq hp;cases h;exact A4 ⟨rfl,rfl,trivial⟩ ⟨rfl,rfl⟩
def vY(m_:B7)(r:Int)(h:aD m_=some r):Sp Tryz.prog 16 [.im (.agg (H0 m_))] (.im (nI r)):=by
 refine C2 [700001] λhk=>?_;have hz:=C3 hk;unfold aD at h;refine B4 m_.N.length C0<|R4 h (λc0=>mkSt [(1,B9 (H0 m_)),(3,A7 (m_.N.length:Int)),(11,G8 c0)] [] []) (λ_=>hT) λc0 h hp=>?_;refine D9 h (λc7 h=>?_) λc7 h=>?_;exact B2 h;refine B3 h (λc8 h b3=>?_) λc8 h b3=>?_;exact B2 h;refine B3 h (λc9 h b4=>?_) λc9 h b4=>?_;exact B2 h;refine R4 h (λc6=>mkSt [(1,B9 (H0 m_)),(3,A7 (m_.N.length:Int)),(26,G8 c6)] [] []) (λ_=>hT) λc6 h hp=>?_;refine D9 h (λd0 h=>?_) λd0 h=>?_;exact B2 h;refine B4 m_.O.length C0<|B3 h (λd1 h b5=>?_) λd1 h b5=>?_;exact B2 h;obtain⟨oc,h,a5⟩:=B0 h;refine zzVx oc (λ(_:Unit)=>([],[],[])) ?_ ?_;refine zzLx h (λa2=>([(1,B9 (H0 m_)),(3,A7 (m_.N.length:Int)),(42,A7 (m_.N.length:Int)),(43,C1 a2)],[],[])) eZ ?_;rintro k a2 o hp h a3;unfold aD.s14 at h;refine B3 h (λb6 h a7=>?_) λb6 h a7=>?_;refine R4 h (λa8=>mkSt [(1,B9 (H0 m_)),(3,A7 (m_.N.length:Int)),(4,C1 a2),(42,A7 (m_.N.length:Int)),(43,C1 a2),(65,G8 a8)] [] []) (λ_=>hT) λa8 h hp=>?_;refine D9 h (λb7 h=>?_) λb7 h=>?_;cases h;cases D1 a3;exact B2 a5;obtain⟨oc,h,a9⟩:=B0 h;refine zzVx oc (λ(_:Unit)=>([(1,B9 (H0 m_)),(3,A7 (m_.N.length:Int)),(42,A7 (m_.N.length:Int)),(43,C1 a2)],[],[])) ?_ ?_;refine zzLx h (λa6=>([(1,B9 (H0 m_)),(3,A7 (m_.N.length:Int)),(4,C1 a2),(42,A7 (m_.N.length:Int)),(43,C1 a2),(67,A7 m_.I),(68,C1 a6)],[],[])) eZ ?_;rintro k a6 o hp h a4;unfold aD.s13 at h;refine B3 h (λb8 h b0=>?_) λb8 h b0=>?_;refine E0 h λd2 e0 h=>?_;refine E0 h λd3 d8 h=>?_;refine E0 h λd4 d9 h=>?_;refine E0 h λd5 d7 h=>?_;refine R4 h (λb2=>mkSt [(1,B9 (H0 m_)),(3,A7 (m_.N.length:Int)),(4,C1 a2),(42,A7 (m_.N.length:Int)),(43,C1 a2),(67,A7 m_.I),(68,C1 a6),(101,G8 b2)] [] []) (λ_=>hT) λb2 h hp=>?_;refine D9 h (λb9 h=>?_) λb9 h=>?_;cases h;cases D1 a4;replace h:some _=some _:=a9;cases h;cases D1 a3;exact B2 a5;refine K6 h λh d6=>?_;exact D5 h a4;exact zzN_ h a4;rintro⟨⟩ rfl hp;replace h:=I9 a9;refine E4 ?_;exact D5 h a3;exact zzN_ h a3;rintro⟨⟩ rfl hp;replace h:=I9 a5;exact B2 h
def sp_mealy_state(m_:B7)(s_ r:Int)(h:zQ m_ s_=some r):Sp Tryz.prog 146 [.im (.agg (H0 m_)),.im (nI s_)] (.im (nI r)):=by
 refine C2 [700002] λhk=>?_;have hz:=C3 hk;unfold zQ at h;refine B1 h (vY m_) λb0 a3 h=>?_;refine B3 h (λa7 h a2=>?_) λa7 h a2=>?_;exact B2 h;refine R4 h (λa6=>mkSt [(19,G8 a6)] [] []) (λ_=>hT) λa6 h hp=>?_;refine D9 h (λa8 h=>?_) λa8 h=>?_;exact B2 h;exact B2 h
def JK(m_:B7)(s_:Int)(w_:A2)(r:A2×Int×Int)(h:rK m_ s_ w_=some r):Sp Tryz.prog 93 [.im (.agg (H0 m_)),.im (nI s_),.im (nL cI w_)] (.tup [nL cI r.1,nI r.2.1,nI r.2.2]):=by
 refine C2 [34000,700003] λhk=>?_;have hz:=C3 hk;unfold rK at h;refine B1 h (sp_mealy_state m_ s_) λb2 a5 h=>?_;refine B3 h (λa7 h a2=>?_) λa7 h a2=>?_;exact B2 h;refine B1 h (pL w_ m_.I) λb3 a4 h=>?_;refine B3 h (λa8 h a6=>?_) λa8 h a6=>?_;exact B2 h;refine A4 ⟨rfl,trivial⟩ ?_;obtain⟨b0,a3,h⟩:=B0 h;refine⟨_,zuq (⟨(⟨m_⟩:lV),s_⟩:fG) w_ b0 (λ_ _=>a3),?_⟩;refine A4 rfl<|A4 rfl<|A4 rfl ?_;exact B2 h
def sp_mealy_Run(m_:B7)(w_:A2)(r:A2×Int)(h:uA m_ w_=some r):Sp Tryz.prog 45 [.im (.agg (H0 m_)),.im (nL cI w_)] (.tup [nL cI r.1,nI r.2]):=by
 refine C2 [700002] λhk=>?_;have hz:=C3 hk;unfold uA at h;refine B1 h (JK m_ m_.S w_) λa2 a3 h=>?_;exact B2 h
def KX(t_ r:A8)(h:sD t_=some r):Sp Tryz.prog 193 [.im (.agg (C4 t_))] (.im (.agg (C4 r))):=by
 refine C2 [700001] λhk=>?_;have hz:=C3 hk;unfold sD at h;obtain⟨a2,a4,h⟩:=B0 h;refine⟨_,(iZ t_.In a2 (a4)).im,?_⟩;obtain⟨a6,a3,h⟩:=B0 h;refine⟨_,(iZ t_.O a6 (a3)).im,?_⟩;refine A4 rfl ?_;exact G7 h
def zys(l_ r:List A8)(h:iS l_=some r):Sp Tryz.prog 148 [.im (nL C4 l_)] (.row 48 2 (List.map C4 r)):=by
 refine C2 [] λhk=>?_;have hz:=C3 hk;unfold iS at h;refine B4 l_.length C0<|E4 ?_;obtain⟨a8,h⟩:=J0 h;refine A4 a8<|B4 (List.map C4 []) rfl<|B4 l_.length C0 ?_;obtain⟨b0,h,a4⟩:=B0 h;refine zzUx ([(3,.osl 64 1)],[(64,.row 48 2 (List.map C4 b0))],[]) ?_ λhp=>?_;refine zzLx h (λ(a2,a6)=>([(3,.osl 64 1),(10,A9 C4 l_),(11,A7 (l_.length:Int)),(12,C1 a6)],[(64,.row 48 2 (List.map C4 a2))],[])) (eA (J1 [64,9])) ?_;rintro k ⟨a2,a6⟩ o hp h a3;change iS.s2 l_ a2 a6=_ at h;unfold iS.s2 at h;have hp:=zq hp;refine B3 h (λb2 h a7=>?_) λb2 h a7=>?_;refine E0 h λb3 a5 h=>?_;refine A4 rfl<|A4 rfl<|B1 h (KX b3) λb4 a9 h=>?_;refine N4 a2 b4 C4 h λb5 h=>?_;refine E4 ?_;exact D5 h a3;cases h;cases D1 a3;exact H5 eZ;replace h:=a4;have hp:=zq hp;cases h;exact A4 ⟨rfl,trivial⟩ ⟨rfl,rfl⟩
def ze7(x_:List A8)(target_:A8)(cmp_:A8->A8->Option Int)(f2_:FuncId)(hf2:∀x0 x1 r,cmp_ x0 x1=some r->Sp Tryz.prog f2_ [.im (.agg (C4 x0)),.im (.agg (C4 x1))] (.im (nI r)))(r:Int×Bool)(h:jD x_ target_ cmp_=some r):Sp Tryz.prog 198 [.im (nL C4 x_),.im (.agg (C4 target_)),.im (.fn f2_ [])] (.tup [nI r.1,nB r.2]):=by
 refine C2 [700004] λhk=>?_;have hz:=C3 hk;unfold jD at h;refine B4 x_.length C0 ?_;obtain⟨c8,h,d1⟩:=B0 h;refine zzUx ([(0,A9 C4 x_),(2,.im (.fn f2_ [])),(4,B9 (C4 target_)),(8,A7 (x_.length:Int)),(9,A7 c8)],[],[]) ?_ λhp=>?_;refine zzLx h (λ(a6,a7)=>([(0,A9 C4 x_),(2,.im (.fn f2_ [])),(4,B9 (C4 target_)),(8,A7 (x_.length:Int)),(9,A7 a6),(10,A7 a7)],[],[])) eZ ?_;rintro k ⟨a6,a7⟩ o hp h a3;change jD.s2 x_ target_ cmp_ a6 a7=_ at h;unfold jD.s2 at h;have hp:=zq hp;refine B3 h (λb3 h a8=>?_) λb3 h a8=>?_;refine K6 h λh c9=>?_;obtain⟨b4,h⟩:=J0 h;refine A4 b4 ?_;obtain⟨b5,h⟩:=J0 h;refine A4 ⟨⟨by show(0:Int)<=(a6+a7) / 2^1;omega,by show(a6+a7) / 2^1<=(18446744073709551615:Int);omega⟩,b5.1,by decide,by decide⟩ ?_;obtain⟨b6,h⟩:=J0 h;refine A4 b6<|J7 h λb7 d3 d4 h=>?_;obtain⟨b8,a4,h⟩:=B0 h;refine⟨_,hf2 b7 target_ b8 a4,?_⟩;refine B3 h (λb9 h b0=>?_) λb9 h b0=>?_;refine K6 h λh d0=>?_;exact D5 h a3;exact D5 h a3;cases h;cases D1 a3;exact H5 eZ;replace h:=d1;have hp:=zq hp;obtain⟨c0,h,a9⟩:=B0 h;refine zzUx ([(6,A7 c8),(7,G8 c0)],[],[]) ?_ λhp=>?_;refine W8 h (λa2 h b2=>?_) λa2 h b2=>?_
 iterate 3 (refine B6 (G9 a2) ?_)
 refine J7 h λc6 d2 d5 h=>?_
 iterate 3 (refine B6 (G9 a2) ?_)
 obtain⟨c7,a5,h⟩:=B0 h;refine⟨_,hf2 c6 target_ c7 a5,?_⟩;refine B6 (G9 a2)<|B6 a2 ?_;exact zzJn h
 iterate 7 (refine C5 (R0 a2) ?_)
 refine C5 a2 ?_;exact zzJn h;replace h:=a9;exact B2 h
def zw6(a_ b_:A8)(r:Int)(h:vW a_ b_=some r):Sp Tryz.prog 195 [.im (.agg (C4 a_)),.im (.agg (C4 b_))] (.im (nI r)):=by
 refine C2 [700002,700003] λhk=>?_;have hz:=C3 hk;unfold vW at h;refine B1 h (FU a_.In b_.In) λa2 a4 h=>?_;refine B4 a_.O.length C0<|B4 b_.O.length C0 ?_;obtain⟨b0,h⟩:=J0 h;refine S7 (0:Int) (min (min a2 (a_.O.length:Int)) (b_.O.length:Int)) a_.O cI<|B4 (List.map cI (List.take (Int.toNat (min (min a2 (a_.O.length:Int)) (b_.O.length:Int))) a_.O)) dS ?_;obtain⟨b2,h⟩:=J0 h;refine S7 (0:Int) (min (min a2 (a_.O.length:Int)) (b_.O.length:Int)) b_.O cI<|B4 (List.map cI (List.take (Int.toNat (min (min a2 (a_.O.length:Int)) (b_.O.length:Int))) b_.O)) dS ?_;obtain⟨a7,a3,h⟩:=B0 h;refine⟨_,(FU (List.take (Int.toNat (min (min a2 (a_.O.length:Int)) (b_.O.length:Int))) a_.O) (List.take (Int.toNat (min (min a2 (a_.O.length:Int)) (b_.O.length:Int))) b_.O) a7 a3),?_⟩;refine B3 h (λa8 h a6=>?_) λa8 h a6=>?_;exact B2 h;exact B2 h
def zy3(u_ p1_:A8)(r:Bool)(h:vL u_ p1_=some r):Sp Tryz.prog 197 [.im (.agg (C4 u_)),.im (.ref (C4 p1_))] (.im (nB r)):=by
 refine C2 [700002] λhk=>?_;have hz:=C3 hk;unfold vL at h;refine B1 h (wF p1_.In u_.In) λa2 a3 h=>?_;exact B2 h
def zhh(s_:List A8)(del_:A8->Option Bool)(f1_:FuncId)(k1_0:IV)(hk1_0:nz k1_0=k1_0)(hf1:∀x0 r,del_ x0=some r->Sp Tryz.prog f1_ [.im (.agg (C4 x0)),.im k1_0] (.im (nB r)))(r:List A8)(h:OkL (List.map C4 s_)->Ok (.fn f1_ [k1_0])->cO s_ del_=some r):Sp Tryz.prog 196 [.row 48 2 (List.map C4 s_),.im (.fn f1_ [k1_0])] (.row 48 2 (List.map C4 r)):=by
 refine C2 [500010] λhk=>?_;have hz:=C3 hk;replace h:=h hk.1 hk.2.1;unfold cO at h;refine A4 ⟨rfl,trivial⟩<|B1 h (MB s_ del_ f1_ k1_0 hk1_0 hf1) λd1 d7 h=>?_;refine A4 flat_one<|B3 h (λc6 h b5=>?_) λc6 h b5=>?_;cases h;exact A4 ⟨rfl,trivial⟩ ⟨rfl,rfl⟩;refine K6 h λh d2=>?_;obtain⟨⟨a8,a2⟩,h,d6⟩:=B0 h;refine zzUx ([(0,.osl 64 1),(5,A7 a2)],[(64,.row 48 2 (List.map C4 a8))],[]) ?_ λhp=>?_;refine zzLx h (λ(b0,b4,b6)=>([(0,.osl 64 1),(1,.im (.fn f1_ [k1_0])),(5,A7 b4),(6,A7 b6)],[(64,.row 48 2 (List.map C4 b0))],[])) (eA (J1 [64,0])) ?_;rintro k ⟨b0,b4,b6⟩ o hp h a3;change cO.s2 del_ b0 b4 b6=_ at h;unfold cO.s2 at h;have hp:=zq hp;refine A4 rfl<|B4 b0.length C0<|B3 h (λb7 h b2=>?_) λb7 h b2=>?_;obtain⟨b3,d4,a5,h⟩:=dR h;refine A4 ⟨d4,rfl,P6 a5⟩<|⟨_,⟨rfl,P7 a5,of_decide_eq_true rfl,rfl⟩,?_⟩;refine A4 rfl<|A4 rfl ?_;obtain⟨b8,d5,h⟩:=B0 h;refine⟨_,Sp.args (hf1 b3 b8 d5) (by rw[hk1_0];try rfl),?_⟩;refine D9 h (λb9 h=>?_) λb9 h=>?_;refine A4 rfl ?_;obtain⟨c7,d3,a4,h⟩:=dR h;refine A4 ⟨d3,rfl,P6 a4⟩<|A4 ⟨rfl,trivial⟩<|⟨_,P7 a4,?_⟩;refine B4 (List.map C4 (List.set b0 b4.toNat b3)) (set_map rfl)<|K6 h λh c8=>?_;refine K6 h λh c9=>?_;exact D5 h a3;refine K6 h λh d0=>?_;exact D5 h a3;cases h;cases D1 a3;exact H5 eZ;replace h:cO.k3 a8 a2=some _:=d6;unfold cO.k3 at h;have hp:=zq hp;obtain⟨a6,h⟩:=J0 h;refine A4 ⟨rfl,a6.1,by have a9:=a6;simp only[E1];omega,by have a9:=a6;simp only[E1];omega⟩ ?_;obtain⟨c0,h⟩:=J0 h;refine A4 ⟨rfl,by have a9:=c0;simp only[E1];omega⟩ ?_;refine B4 (List.map C4 (List.take (Int.toNat a2) a8++List.replicate (List.length a8-(Int.toNat a2)) (⟨[],[]⟩:A8))) (clr_map (z:=(⟨[],[]⟩:A8)) rfl) ?_;obtain⟨a7,h⟩:=J0 h;refine A4 ⟨rfl,a7.1,by have a9:=a7;simp only[E1];omega,by have a9:=a7;simp only[E1];omega⟩ ?_;refine B4 (List.map C4 (List.take (Int.toNat a2) (List.take (Int.toNat a2) a8++List.replicate (List.length a8-(Int.toNat a2)) (⟨[],[]⟩:A8)))) cut_own ?_;cases h;exact A4 ⟨rfl,trivial⟩ ⟨rfl,rfl⟩
def zy2(a_ b_:A8)(r:Int)(h:lU a_ b_=some r):Sp Tryz.prog 199 [.im (.agg (C4 a_)),.im (.agg (C4 b_))] (.im (nI r)):=by
 refine C2 [700002,700003] λhk=>?_;have hz:=C3 hk;unfold lU at h;refine B1 h (AP a_.In b_.In) λa2 a3 h=>?_;exact B2 h
def sp_observe_add(l_:List A8)(t_:A8)(r:List A8×Int)(h:OkL (List.map C4 l_)->Ok (.agg (C4 t_))->iM l_ t_=some r):Sp Tryz.prog 150 [.row 48 2 (List.map C4 l_),.im (.agg (C4 t_))] (.mk true [.ow (.row 48 2 (List.map C4 r.1)),.im (nI r.2)] []):=by
 refine C2 [54,41000,56000,56002,500047,700003] λhk=>?_;have hz:=C3 hk;replace h:=h hk.1 hk.2.1;unfold iM at h;refine A4 rfl<|B4 l_.length C0 ?_;obtain⟨oc,h,a9⟩:=B0 h;refine zzVx oc (Y:=Bool) (λa4=>([(0,.osl 64 1),(3,B9 (C4 t_)),(6,G8 a4)],[(64,.row 48 2 (List.map C4 l_))],[])) ?_ ?_;refine zzLx h (λ(a3,a8)=>([(0,.osl 64 1),(3,B9 (C4 t_)),(6,G8 a3),(11,.osl 64 1),(12,A7 (l_.length:Int)),(13,C1 a8)],[(64,.row 48 2 (List.map C4 l_))],[])) (eA (J1 [64,0])) ?_;rintro k ⟨a3,a8⟩ o hp h a5;change iM.s2 l_ t_ a3 a8=_ at h;unfold iM.s2 at h;have hp:=zq hp;refine B3 h (λc0 h b0=>?_) λc0 h b0=>?_;obtain⟨b8,c9,h⟩:=Z8 h;refine A4 ⟨(by omega),rfl,P6 c9⟩<|⟨_,⟨rfl,P7 c9,of_decide_eq_true rfl,rfl⟩,?_⟩;refine A4 rfl<|A4 rfl<|B1 h (zw6 b8 t_) λc7 d5 h=>?_;refine B3 h (λc6 h b2=>?_) λc6 h b2=>?_;cases h;cases D1 a5;exact B2 a9;refine gV h (λa6 h=>?_) λa6 h=>?_;refine A4 rfl<|B6 (I3 a6)<|A4 rfl ?_
 iterate 3 (refine B6 (I3 a6) ?_)
 refine B1 h (wF b8.In t_.In) λc8 d4 h=>?_;refine C5 a6<|E4 ?_;exact D5 h a5
 iterate 4 (refine C5 (R6 a6) ?_)
 refine B6 a6<|E4 ?_;exact D5 h a5;exact zzN_ h a5;rintro a4 rfl hp;replace h:=I9 a9;have hp:=zq hp;refine R4 h (λb9=>mkSt [(0,.osl 64 1),(3,B9 (C4 t_)),(36,G8 b9)] [(64,.row 48 2 (List.map C4 l_))] []) (λ_=>((Holds.kdl 64 rfl).and hT)) λb9 h hp=>?_;have hp:=zq hp;refine D9 h (λb3 h=>?_) λb3 h=>?_;cases h;exact A4 ⟨rfl,trivial⟩ ⟨rfl,rfl⟩;refine A4 ⟨rfl,trivial⟩ ?_;obtain⟨a2,d0,h⟩:=B0 h;refine⟨_,zhh l_ (λu0=>vL u0 t_) 197 (.ref (C4 t_)) rfl (λu0 r h=>(zy3 u0 t_ r h)) a2 (λ_ _=>d0),?_⟩;refine A4 rfl<|B4 a2.length C0<|B3 h (λb4 h a7=>?_) λb4 h a7=>?_;exact B2 h;refine A4 ⟨rfl,trivial⟩<|B1 h (ze7 a2 t_ (λu0 u1=>lU u0 u1) 199 (λu0 u1 r h=>(zy2 u0 u1 r h))) λb5 d3 h=>?_;refine A4 (by simp[flatRs,flatOc])<|B1 h (KX t_) λb6 d2 h=>?_;refine A4 ⟨rfl,rfl,trivial⟩ ?_;obtain⟨b7,d1,h⟩:=B0 h;refine⟨_,(ztn a2 b5.1 [b6] b7 (d1)),?_⟩;cases h;exact A4 ⟨rfl,trivial⟩ ⟨rfl,rfl⟩
def zut(o_:Int)(r:Bool)(h:wE o_=some r):Sp Tryz.prog 194 [.im (nI o_)] (.im (nB r)):=by
 refine C2 [] λhk=>?_;unfold wE at h;refine R4 h (λa2=>mkSt [(2,G8 a2)] [] []) (λ_=>hT) λa2 h hp=>?_;exact B2 h
def zwt(t_:A8)(inputs_ r:Int)(h:vU t_ inputs_=some r):Sp Tryz.prog 149 [.im (.agg (C4 t_)),.im (nI inputs_)] (.im (nI r)):=by
 refine C2 [700002] λhk=>?_;have hz:=C3 hk;unfold vU at h;refine B1 h (pL t_.In inputs_) λb2 a4 h=>?_;refine B3 h (λa7 h a2=>?_) λa7 h a2=>?_;exact B2 h;refine B4 t_.O.length C0<|B4 t_.In.length C0<|B3 h (λa8 h a6=>?_) λa8 h a6=>?_;exact B2 h;refine B1 h (zlj t_.O (λu0=>wE u0) 194 (λu0 r h=>(zut u0 r h))) λb3 a3 h=>?_;refine D9 h (λb0 h=>?_) λb0 h=>?_;exact B2 h;exact B2 h
def sp_observe_all(o_:A6)(l_:List A8)(r:A6×Int)(h:gI o_ l_=some r):Sp Tryz.prog 94 [.im (.agg (E6 o_)),.im (nL C4 l_)] (.tup [.agg (E6 r.1),nI r.2]):=by
 refine C2 [33000,700002] λhk=>?_;have hz:=C3 hk;unfold gI at h;refine B1 h (zys o_.T) λb8 a9 h=>?_;refine B4 l_.length C0 ?_;obtain⟨oc,h,a4⟩:=B0 h;refine zzVx oc (Y:=List A8) (λb2=>([(2,B9 (E6 o_)),(4,.own 64 1 0),(6,.osl 65 1)],[(64,.box 31 2),(65,.row 48 2 (List.map C4 b2))],[(64,0,A7 0),(64,1,C8)])) ?_ ?_;refine zzLx h (λ(a2,a6)=>([(2,B9 (E6 o_)),(4,.own 64 1 0),(6,.osl 65 1),(15,A9 C4 l_),(16,A7 (l_.length:Int)),(17,C1 a6)],[(64,.box 31 2),(65,.row 48 2 (List.map C4 a2))],[(64,0,A7 0),(64,1,C8)])) (eA (J1 [64,4,65,14])) ?_;rintro k ⟨a2,a6⟩ o hp h a3;change gI.s2 o_ l_ a2 a6=_ at h;unfold gI.s2 at h;have hp:=zq hp;refine B3 h (λb4 h a7=>?_) λb4 h a7=>?_;refine E0 h λb3 c0 h=>?_;refine A4 rfl<|A4 rfl<|B1 h (zwt b3 o_.I) λb9 c6 h=>?_;refine B3 h (λb5 h a8=>?_) λb5 h a8=>?_;refine A4 rfl ?_;cases h;cases D1 a3;replace h:some _=some _:=a4;exact G7 h;refine A4 rfl<|A4 ⟨rfl,trivial⟩ ?_;obtain⟨b6,a5,h⟩:=B0 h;refine⟨_,sp_observe_add a2 b3 b6 (λ_ _=>a5),?_⟩;refine B3 h (λb7 h b0=>?_) λb7 h b0=>?_;refine A4 rfl ?_;cases h;cases D1 a3;replace h:some _=some _:=a4;exact G7 h;refine E4 ?_;exact D5 h a3 (eA (J1 [64,64,65,3228]));exact zzN_ h a3;rintro b2 rfl hp;replace h:=I9 a4;have hp:=zq hp;refine A4 rfl ?_;cases h;refine A4 ⟨rfl,trivial⟩ ?_;exact A4 ⟨rfl,trivial⟩ ⟨rfl,rfl⟩
def sp_observe_Add(o_:A6)(t_:A8)(r:A6×Int)(h:uY o_ t_=some r):Sp Tryz.prog 46 [.im (.agg (E6 o_)),.im (.agg (C4 t_))] (.tup [.agg (E6 r.1),nI r.2]):=by
 refine C2 [700002,700003] λhk=>?_;have hz:=C3 hk;unfold uY at h;obtain⟨a2,a3,h⟩:=B0 h;refine⟨_,(sp_observe_all o_ [t_] a2 a3),?_⟩;refine A4 rfl ?_;exact G7 h
def AH(m_:B7)(o_:A6)(words_:A3)(r:A6×Int)(h:W3 m_ o_ words_=some r):Sp Tryz.prog 17 [.im (.agg (H0 m_)),.im (.agg (E6 o_)),.im (nL (cL cI) words_)] (.tup [.agg (E6 r.1),nI r.2]):=by
 refine C2 [700003] λhk=>?_;have hz:=C3 hk;unfold W3 at h;refine B4 words_.length C0 ?_;obtain⟨oc,h,a4⟩:=B0 h;refine zzVx oc (Y:=Int×List A8) (λ(a7,a8)=>([(4,.own 64 1 0),(6,.own 65 1 0)],[(64,.box 31 2),(65,.box 31 2)],[(64,0,A7 a7),(64,1,A9 C4 a8),(65,0,A7 0),(65,1,C8)])) ?_ ?_;refine zzLx h (λ(a2,a6,b0)=>([(3,B9 (H0 m_)),(4,.own 64 1 0),(6,.own 65 1 0),(12,A9 (cL cI) words_),(13,A7 (words_.length:Int)),(14,C1 b0)],[(64,.box 31 2),(65,.box 31 2)],[(64,0,A7 a2),(64,1,A9 C4 a6),(65,0,A7 0),(65,1,C8)])) (eA (J1 [64,4,65,6])) ?_;rintro k ⟨a2,a6,b0⟩ o hp h a3;change W3.s2 m_ words_ a2 a6 b0=_ at h;unfold W3.s2 at h;have hp:=zq hp;refine B3 h (λb6 h b2=>?_) λb6 h b2=>?_;refine E0 h λb5 c7 h=>?_;refine B1 h (sp_mealy_Run m_ b5) λb7 c6 h=>?_;refine B3 h (λb8 h b3=>?_) λb8 h b3=>?_;refine A4 rfl<|A4 rfl ?_;cases h;cases D1 a3;replace h:some _=some _:=a4;exact G7 h;refine A4 rfl<|B1 h (sp_observe_Add (⟨a2,a6⟩:A6) (⟨b5,b7.1⟩:A8)) λc0 a9 h=>?_;refine A4 rfl<|B3 h (λb9 h b4=>?_) λb9 h b4=>?_;refine A4 rfl<|A4 rfl ?_;cases h;cases D1 a3;replace h:some _=some _:=a4;exact G7 h;refine E4 ?_;exact D5 h a3;exact zzN_ h a3;rintro⟨a7,a8⟩ rfl hp;have a5:=I9 a4;replace h:W3.k3 a7 a8=some _:=a5;clear a5;unfold W3.k3 at h;have hp:=zq hp;refine A4 rfl<|A4 rfl ?_;exact G7 h
def zu0(h_:E3)(r:Int)(h:fH h_=some r):Sp Tryz.prog 151 [.im (.agg (Q0 h_))] (.im (nI r)):=by
 refine C2 [700001] λhk=>?_;have hz:=C3 hk;unfold fH at h;refine B1 h (vY h_.M) λc7 a9 h=>?_;refine B3 h (λb4 h a2=>?_) λb4 h a2=>?_;exact B2 h;refine B4 h_.Access.length C0<|B4 h_.M.N.length C0<|B3 h (λb5 h a6=>?_) λb5 h a6=>?_;exact B2 h;refine B4 h_.Access.length C0 ?_;obtain⟨oc,h,a4⟩:=B0 h;refine zzVx oc (λ(_:Unit)=>([(1,B9 (Q0 h_))],[],[])) ?_ ?_;refine zzLx h (λb3=>([(1,B9 (Q0 h_)),(24,A9 (cL cI) h_.Access),(25,A7 (h_.Access.length:Int)),(26,C1 b3)],[],[])) eZ ?_;rintro k b3 o hp h a3;unfold fH.s2 at h;have hp:=zq hp;refine B3 h (λb6 h a7=>?_) λb6 h a7=>?_;refine E0 h λb7 d0 h=>?_;refine B1 h (JK h_.M h_.M.S b7) λc8 c9 h=>?_;refine B3 h (λb8 h a8=>?_) λb8 h a8=>?_;cases h;cases D1 a3;exact B2 a4;refine B3 h (λb9 h b0=>?_) λb9 h b0=>?_;cases h;cases D1 a3;exact B2 a4;refine E4 ?_;exact D5 h a3;exact zzN_ h a3;rintro⟨⟩ rfl hp;replace h:=I9 a4;refine J7 h λc0 a5 d1 h=>?_;refine B4 c0.length C0<|B3 h (λc6 h b2=>?_) λc6 h b2=>?_;exact B2 h;exact B2 h
def zyz(h_:E3)(o_:A6)(w_:A2)(r:Option bQ×Int)(h:cG h_ o_ w_=some r):Sp Tryz.prog 95 [.im (.agg (Q0 h_)),.im (.agg (E6 o_)),.im (nL cI w_)] (.tup [oP kP r.1,nI r.2]):=by
 refine C2 [48,500103,700003,700004,8000006] λhk=>?_;have hz:=C3 hk;unfold cG at h;refine B1 h (zu0 h_) λd7 e9 h=>?_;refine B3 h (λc7 h b3=>?_) λc7 h b3=>?_;exact B2 h;refine B3 h (λc8 h b4=>?_) λc8 h b4=>?_;exact B2 h;refine B1 h (pL w_ o_.I) λd8 e7 h=>?_;refine B3 h (λc9 h b5=>?_) λc9 h b5=>?_;exact B2 h;refine B1 h (AW o_ w_) λb2 e8 h=>?_;refine D9 h (λd0 h=>?_) λd0 h=>?_;exact B2 h;refine B4 w_.length C0 ?_;obtain⟨⟨c6,b6⟩,h,a4⟩:=B0 h;refine zzUx ([(10,A9 cI b2.1),(12,.own 105 1 0)],[(105,.box 222 10),(106,zr1_ c6),(107,zr1_ b6)],[(105,0,A7 h_.M.I),(105,1,A7 h_.M.S),(105,2,A9 (cL cI) h_.M.N),(105,3,A9 (cL cI) h_.M.O),(105,4,A9 (cL cI) h_.Access),(105,5,A7 o_.I),(105,6,A9 C4 o_.T),(105,7,A9 cI w_),(105,8,.osl 106 1),(105,9,.osl 107 1)]) ?_ λhp=>?_;refine zzLx h (λ(a2,a6,a7,a8)=>([(3,B9 (Q0 h_)),(10,A9 cI b2.1),(12,.own 105 1 0),(13,A7 a7),(54,A9 cI w_),(55,A7 (w_.length:Int)),(56,C1 a8)],[(105,.box 222 10),(106,zr1_ a2),(107,zr1_ a6)],[(105,0,A7 h_.M.I),(105,1,A7 h_.M.S),(105,2,A9 (cL cI) h_.M.N),(105,3,A9 (cL cI) h_.M.O),(105,4,A9 (cL cI) h_.Access),(105,5,A7 o_.I),(105,6,A9 C4 o_.T),(105,7,A9 cI w_),(105,8,.osl 106 1),(105,9,.osl 107 1)])) (eA [(105,some 50),(106,some 48),(107,none)]) ?_;rintro k ⟨a2,a6,a7,a8⟩ o hp h a3;change cG.s2 h_ w_ a2 a6 a7 a8=_ at h;unfold cG.s2 at h;have hp:=zq hp;refine B3 h (λb7 h b0=>?_) λb7 h b0=>?_;refine E0 h λd1 e2 h=>?_;refine A4 rfl<|A4 rfl<|A4 rfl<|J7 h λd2 e0 e5 h=>?_;refine J7 h λb8 d9 e6 h=>?_;refine N4 a6 b8 cI h λd3 h=>?_;refine A4 rfl<|A4 rfl<|A4 rfl<|J7 h λd4 a5 e1 h=>?_;refine J7 h λb9 a9 e3 h=>?_;refine A4 rfl<|A4 rfl<|A4 rfl<|N4 a2 b9 cI h λd5 h=>?_;refine A4 rfl<|A4 rfl<|A4 rfl<|E4 ?_;exact D5 h a3;cases h;cases D1 a3;exact H5 eZ;replace h:cG.k3 h_ o_ w_ b2 c6 b6=some _:=a4;unfold cG.k3 at h;have hp:=zq hp;refine A4 rfl<|A4 rfl<|A4 rfl<|A4 ⟨rfl,trivial⟩<|B1 h (pS b2.1 b6) λd6 e4 h=>?_;refine A4 flat_one<|D9 h (λc0 h=>?_) λc0 h=>?_;exact B2 h;refine A4 ⟨rfl,rfl,rfl,trivial⟩ ?_;exact B2 h
def LW(x_:bQ)(i_:Int)(r:A2)(h:sK x_ i_=some r):Sp Tryz.prog 154 [.im (.ref (kP x_)),.im (nI i_)] (.im (nL cI r)):=by
 refine C2 [] λhk=>?_;have hz:=C3 hk;unfold sK at h;refine J7 h λa7 a4 b0 h=>?_;refine J7 h λa2 a5 a9 h=>?_;obtain⟨a8,h⟩:=J0 h;refine S7 i_ (↑(List.length (List.map cI x_.w)):Int) x_.w cI<|B4 (List.map cI (List.drop (Int.toNat i_) x_.w)) bL ?_;obtain⟨a6,a3,h⟩:=B0 h;refine⟨_,(iT [a2,(List.drop (Int.toNat i_) x_.w)] a6 a3),?_⟩;exact B2 h
def LV(x_:bQ)(i_:Int)(r:A2)(h:sJ x_ i_=some r):Sp Tryz.prog 153 [.im (.ref (kP x_)),.im (nI i_)] (.im (nL cI r)):=by
 refine C2 [] λhk=>?_;have hz:=C3 hk;unfold sJ at h;refine B1 h (LW x_ i_) λa6 a3 h=>?_;refine B1 h (AW x_.o a6) λa2 a4 h=>?_;refine B4 a2.1.length C0<|B4 x_.w.length C0<|K6 h λh a7=>?_;refine K6 h λh a8=>?_;obtain⟨b0,h⟩:=J0 h;refine S7 ((a2.1.length:Int)-((x_.w.length:Int)-i_)) (↑(List.length (List.map cI a2.1)):Int) a2.1 cI<|B4 (List.map cI (List.drop (Int.toNat ((a2.1.length:Int)-((x_.w.length:Int)-i_))) a2.1)) bL ?_;exact B2 h
def zm0(i_:Int)(p1_:bQ)(r:Bool)(h:wP i_ p1_=some r):Sp Tryz.prog 152 [.im (nI i_),.im (.ref [.ref (kP p1_)])] (.im (nB r)):=by
 refine C2 [] λhk=>?_;unfold wP at h;refine B1 h (LV p1_ i_) λa2 a4 h=>?_;obtain⟨a6,h⟩:=J0 h;refine S7 i_ (↑(List.length (List.map cI p1_.outs)):Int) p1_.outs cI<|B4 (List.map cI (List.drop (Int.toNat i_) p1_.outs)) bL<|B1 h (pS a2 (List.drop (Int.toNat i_) p1_.outs)) λa7 a3 h=>?_;exact B2 h
def zov(x_:bQ)(i_:Int)(r:J8×A2×Int)(h:wN x_ i_=some r):Sp Tryz.prog 155 [.im (.ref (kP x_)),.im (nI i_)] (.tup [.agg (dX r.1),nL cI r.2.1,nI r.2.2]):=by
 refine C2 [] λhk=>?_;have hz:=C3 hk;unfold wN at h;refine B1 h (LV x_ i_) λb2 c7 h=>?_;refine E0 h λb3 d1 h=>?_;refine J7 h λb4 a5 d0 h=>?_;refine B3 h (λa6 h a2=>?_) λa6 h a2=>?_;refine A4 rfl ?_;exact G7 h;refine J7 h λb5 b9 c6 h=>?_;refine J7 h λa7 a9 c9 h=>?_;obtain⟨a8,a4,h⟩:=B0 h;refine⟨_,(iZ a7 a8 (a4)).im,?_⟩;refine J7 h λb6 c0 c8 h=>?_;refine K6 h λh b7=>?_;obtain⟨b8,h⟩:=J0 h;refine S7 (i_+1) (↑(List.length (List.map cI x_.w)):Int) x_.w cI<|B4 (List.map cI (List.drop (Int.toNat (i_+1)) x_.w)) bL ?_;obtain⟨b0,a3,h⟩:=B0 h;refine⟨_,(iZ (List.drop (Int.toNat (i_+1)) x_.w) b0 (a3)).im,?_⟩;refine A4 rfl ?_;exact G7 h
end Go.Proofs.YtjmcbfbjajlbhaaGreatDoor.Sym

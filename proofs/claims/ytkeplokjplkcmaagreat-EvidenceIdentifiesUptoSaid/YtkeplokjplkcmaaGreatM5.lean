/- Parts of the proof. -/
import Derived.Test.YtkeplokjplkcmaaGreatM4
set_option linter.all false
set_option maxRecDepth 100000
set_option maxHeartbeats 4000000
open Go.RowKit
namespace Go.Proofs.YtkeplokjplkcmaaGreat.Sym
section
def uO{V:Type}[DecidableEq V]{l l':List V}(h:l.Nodup)(hs:∀x∈l,x∈l')(hl:l'.length<=l.length):∀x∈l',x∈l:=λx hx=>Q9 λhn=>by
 have:=jT (l:=x::l) (l':=l') (aR.2 ⟨hn,h⟩) λy hy=>by
  rcases M4.1 hy with rfl|hy
  ·exact hx
  ·exact hs y hy
 simp only[G8]at this;omega
section
variable {m M:A8}
def I8.two(H:I8 m):Two m m:=⟨H,H,rfl⟩
open Classical in
noncomputable def sepR(m:A8)(s t:Nat):A2×Bool:=if h:∃res,Fst m m (s,t) res then Classical.choose h else([],false)
noncomputable def sepW(m:A8)(s t:Nat):A2:=(sepR m s t).1
noncomputable def sepB(m:A8)(s t:Nat):Bool:=(sepR m s t).2
def sepR_of{s t:Nat}{res:A2×Bool}(h:Fst m m (s,t) res):Fst m m (s,t) (sepW m s t,sepB m s t):=by
 have h':∃res,Fst m m (s,t) res:=⟨res,h⟩;have:sepR m s t=Classical.choose h':=dif_pos h';show Fst m m (s,t) (sepR m s t);rw[this];exact uL h'
def sep_fst(H:I8 m){s t:Nat}(hs:s<m.N.length)(ht:t<m.N.length):Fst m m (s,t) (sepW m s t,sepB m s t):=by
 obtain⟨res,_,h⟩:=CX H.two (p0:=(s,t)) hs ht;exact sepR_of h
def States_prog(hv:P9 m=0){s t:Nat}(hs:s<m.N.length)(ht:t<m.N.length):qH m (s:Int) (t:Int)=some (sepW m s t,sepB m s t,0):=by
 have H:=aY hv;have hK:0<m.I.toNat:=by have:=H.i1;omega
 obtain⟨res,h1,h2⟩:=CX H.two (p0:=(s,t)) hs ht;have:=fst_uniq hK h2 (sepR_of h2);unfold qH;rw[lP,A5,hv,B1 (by decide),B1,B1,B1,I3 (by omega),A5,G5,h1,A5,this]
def States_ref(hv:P9 m=0){s t:Nat}(hs:s<m.N.length)(ht:t<m.N.length):pV m (s:Int) (t:Int)=some (sepW m s t,sepB m s t,0):=by
 have H:=aY hv;have hK:0<m.I.toNat:=by have:=H.i1;omega
 obtain⟨res,h1,h2⟩:=R09_first_eq H.two (p0:=(s,t)) hs ht;have:=fst_uniq hK h2 (sepR_of h2);unfold pV;rw[iX,A5,hv,B1 (by decide),B1,B1,B1,I3 (by omega),A5,G5,h1,A5,this]
def sepW_sm(H:I8 m){s t:Nat}(hs:s<m.N.length)(ht:t<m.N.length):WOk m.I (sepW m s t)/\(sepW m s t).length<=m.N.length*m.N.length*m.I.toNat:=by
 have h:=sep_fst H hs ht;rcases h with⟨i,c,x,g1,g2,g3,g4,g5⟩|⟨L,_,_,g⟩
 ·injection g5 with g5 _
  have hr:=iN H.two (p0:=(s,t)) hs ht _ x (G6 g2);have a2:=mA H.two (p0:=(s,t)) hs ht (i*m.I.toNat+c);have hi:=(E0.1 g2).1;have:=eO (show i<m.N.length*m.N.length by omega) g1;refine⟨?_,?_⟩
  ·rw[g5];refine WOk.append hr.2.2.2.2.2 λz hz=>?_;have:z=(c:Int):=by simpa using hz
   omega
  ·rw[g5];simp;omega
 ·injection g with g _
  rw[g];exact⟨λa ha=>(by cases ha),D8 _⟩
structure bI(m:A8):Prop where
 reach:∀s,s<m.N.length->∃w,WOk m.I w/\dest m m.S.toNat w=s
 apart:∀i j,i<m.N.length->j<m.N.length->Eqv m i m j->i=j
def sepB_of(H:I8 m)(P:bI m){s t:Nat}(hs:s<m.N.length)(ht:t<m.N.length)(hne:s≠t):sepB m s t=true:=by
 cases e:sepB m s t with
 |true=>rfl
 |false =>
  have h:=sep_fst H hs ht;rw[e]at h;exact absurd (P.apart s t hs ht (fst_none h)) hne
def sepW_sep(H:I8 m)(P:bI m){s t:Nat}(hs:s<m.N.length)(ht:t<m.N.length)(hne:s≠t):outs m s (sepW m s t)≠outs m t (sepW m s t):=by
 have h:=sep_fst H hs ht;rw[sepB_of H P hs ht hne]at h;exact fst_ne H.two (p0:=(s,t)) hs ht h
def can_reach(K:Can M)(hK:0<M.I.toNat):∀u,u<M.N.length->∃w,WOk M.I w/\dest M 0 w=u:=by
 intro u
 induction u using Nat.strongRecOn with
 |ind u ih =>
  intro hu;by_cases hz:u=0
  ·subst hz;exact⟨[],λa ha=>(by cases ha),rfl⟩
  ·obtain⟨i,a,h1,h2,h3⟩:=K.c5 u (by omega) hu;obtain⟨w,w1,w2⟩:=ih i h1 (by omega);refine⟨w++[(a:Int)],w1.append λz hz=>?_,?_⟩
   ·have:z=(a:Int):=by simpa using hz
    omega
   ·rw[iV,w2];show nx M i (Int.toNat ↑a)=u;rw[H6,h3]
def tB(S:aW m M):bI M:=⟨λs hs=>by
 have hK:0<M.I.toNat:=by have:=S.ok.i1;omega
 rw[S.start]
 exact can_reach S.can hK s hs,S.min⟩
def sem_le(H:I8 m)(S:aW m M):M.N.length<=m.N.length/\(M.N.length=m.N.length↔bI m):=by
 have hK:0<M.I.toNat:=by have:=S.ok.i1;omega
 have a8:=H.st;have a4:=can_reach S.can hK
 have hf:∀u,∃s,u<M.N.length->s<m.N.length/\Eqv M u m s/\∃w,WOk m.I w/\dest m m.S.toNat w=s:=λu=>by
  by_cases hu:u<M.N.length
  ·obtain⟨w,w1,w2⟩:=a4 u hu;have hw:WOk m.I w:=by rw[<- S.inp];exact w1
   refine⟨dest m m.S.toNat w,λ_=>⟨H.dest hw (by omega),?_,w,hw,rfl⟩⟩;have:=S.eqv.dest S.inp w1
   rwa [w2]at this
  ·exact⟨0,λh=>absurd h hu⟩
 obtain⟨f,hf⟩:=ED hf
 have a2:((List.range M.N.length).map f).Nodup:=by
  refine lR.2 (List.Pairwise.imp_of_mem (λ{a b} ha hb hne he=>hne ?_) (oS (n:=M.N.length)));have h1:=hf a (K6.1 ha);have h2:=hf b (K6.1 hb);rw[<- he]at h2;exact S.min a b (K6.1 ha) (K6.1 hb) (h1.2.1.trans S.inp (h2.2.1.symm S.inp))
 have a3:∀x∈(List.range M.N.length).map f,x∈List.range m.N.length:=λx hx=>by
  obtain⟨u,hu,rfl⟩:=H0.1 hx;exact K6.2 (hf u (K6.1 hu)).1
 have a5:=jT a2 a3;rw[B7,M5,M5]at a5;refine⟨a5,λhe=>⟨λs hs=>?_,λi j hi hj a7=>?_⟩,λP=>?_⟩
 ·have:=uO a2 a3 (by simp[he]) s (K6.2 hs);obtain⟨u,hu,rfl⟩:=H0.1 this;exact(hf u (K6.1 hu)).2.2
 ·obtain⟨u,hu,rfl⟩:=H0.1 (uO a2 a3 (by simp[he]) i (K6.2 hi));obtain⟨v,hv,rfl⟩:=H0.1 (uO a2 a3 (by simp[he]) j (K6.2 hj));have h1:=hf u (K6.1 hu);have h2:=hf v (K6.1 hv);have:=S.min u v (K6.1 hu) (K6.1 hv) ((h1.2.1.trans S.inp a7).trans S.inp (h2.2.1.symm S.inp));rw[this]
 ·have hg:∀s,∃u,s<m.N.length->u<M.N.length/\Eqv M u m s:=λs=>by
   by_cases hs:s<m.N.length
   ·obtain⟨w,w1,w2⟩:=P.reach s hs;have hw:WOk M.I w:=by rw[S.inp];exact w1
    refine⟨dest M 0 w,λ_=>⟨S.ok.dest hw S.ok.n1,?_⟩⟩;have:=S.eqv.dest S.inp hw
    rwa [w2]at this
   ·exact⟨0,λh=>absurd h hs⟩
  obtain⟨g,hg⟩:=ED hg
  have a6:((List.range m.N.length).map g).Nodup:=by
   refine lR.2 (List.Pairwise.imp_of_mem (λ{a b} ha hb hne he=>hne ?_) (oS (n:=m.N.length)));have h1:=hg a (K6.1 ha);have h2:=hg b (K6.1 hb);rw[<- he]at h2;exact P.apart a b (K6.1 ha) (K6.1 hb) ((h1.2.symm S.inp).trans S.inp.symm h2.2)
  have:=jT a6 (l':=List.range M.N.length) λx hx=>by
   obtain⟨u,hu,rfl⟩:=H0.1 hx;exact K6.2 (hg u (K6.1 hu)).1
  rw[B7,M5,M5]at this;omega
def reach_all{L:List (Nat×A2)}{s0:Nat}(hE:MEnd m s0 L):∀(w:A2) (i:Nat) (x:Nat×A2),L[i]?=some x->WOk m.I w->∃(j:Nat) (y:Nat×A2),L[j]?=some y/\y.1=dest m x.1 w
 |[],i,x,hx,_=>⟨i,x,hx,rfl⟩
 |z::w,i,x,hx,hw=>by
  have hz:=hw.head;obtain⟨j,y,h1,h2,_⟩:=hE.closed hx (a:=z.toNat) (by omega);obtain⟨k,v,g1,g2⟩:=reach_all hE w j y h1 hw.tail;exact⟨k,v,g1,by rw[g2,h2];rfl⟩
def minimal_prog(hv:P9 m=0):∃b,qR m=some b/\(b=true↔bI m):=by
 have H:=aY hv;have a3:=H.st;obtain⟨M,h1,S⟩:=xO hv;obtain⟨a4,a2⟩:=sem_le H S;obtain⟨L,hE,hR⟩:=CW hv;obtain⟨a5,a6⟩:=mEnd_rng H (by omega) hE;refine⟨decide (M.N.length=m.N.length),?_,by rw[decide_eq_true_iff];exact a2⟩;unfold qR;rw[lP,A5,hv,B1 (by decide),hR,A5,A5];by_cases hl:L.length=m.N.length
 ·rw[B1 (by rw[bH,B7];omega),h1,A5,C2 rfl,A5];show some (decide ((M.N.length:Int)=(m.N.length:Int)))=_;congr 1;exact decide_eq_decide.2 (by omega)
 ·rw[C2 (by rw[bH,B7];omega),I3];intro he;have P:=a2.1 he
  have:=jT (l:=List.range m.N.length) (l':=L.map Prod.fst) oS λs hs=>by
   obtain⟨w,w1,w2⟩:=P.reach s (K6.1 hs);obtain⟨j,y,g1,g2⟩:=reach_all hE w 0 _ hE.first w1;exact H0.2 ⟨y,G6 g1,by rw[g2];exact w2⟩
  rw[M5,B7]at this;omega
def minimal_ref(hv:P9 m=0):∃b,qA m=some b/\(b=true↔bI m):=by
 obtain⟨M,h2,S⟩:=BM hv;obtain⟨a3,a2⟩:=sem_le (aY hv) S;refine⟨decide (M.N.length=m.N.length),?_,by rw[decide_eq_true_iff];exact a2⟩;unfold qA;rw[h2,A5,C2 rfl,A5];show some (decide ((M.N.length:Int)=(m.N.length:Int)))=_;congr 1;exact decide_eq_decide.2 (by omega)
open Classical in
noncomputable def chkM(m:A8):Int:=if P9 m≠0 then P9 m else if bI m then 0 else 1
open Classical in
def check_prog(m:A8):qP m=some (chkM m):=by
 unfold chkM qP;rw[lP,A5];by_cases hv:P9 m=0
 ·obtain⟨b,h1,h3⟩:=minimal_prog hv;rw[B1,h1,A5,if_neg (λh=>h hv)];cases b with
  |true=>rw[if_pos (h3.1 rfl)];rfl
  |false=>rw[if_neg (λq=>by have:=h3.2 q;cases this)];rfl
 ·rw[C2 hv,if_pos hv]
open Classical in
def check_ref(m:A8):pS m=some (chkM m):=by
 unfold chkM pS;rw[iX,A5];by_cases hv:P9 m=0
 ·obtain⟨b,h1,h3⟩:=minimal_ref hv;rw[B1,h1,A5,if_neg (λh=>h hv)];cases b with
  |true=>rw[if_pos (h3.1 rfl)];rfl
  |false=>rw[if_neg (λq=>by have:=h3.2 q;cases this)];rfl
 ·rw[C2 hv,if_pos hv]
end
end

section
section
variable {m M:A8}{ids:List (A4)}{front middle:A4}
structure Parts(M:A8)(front middle:A4)(ids:List (A4)):Prop where
 ok:P9 M=0
 il:ids.length=M.N.length
 is_:∀l∈ids,l.length<=200/\∀x∈l,x.length<=600
 f1:front.length<=200
 f2:∀u∈front,WOk M.I u/\u.length<=200
 m1:middle.length<=200
 m2:∀v∈middle,WOk M.I v/\v.length<=200
def check_of{w:A2}(H:I8 M)(h:WOk M.I w)(hl:w.length<=1024):R8 w M.I=0:=by
 have:=H.i1;have:=H.i2;unfold R8;rw[if_pos (by omega),if_neg (by omega),if_pos]
 exact R3.2 λa ha=>by
  have:=h a ha;simp;omega
end
end
section
section
variable {M I:A8}{sM sI k:Nat}{U:A4}{T:Nat->A4}
structure Pass(M I:A8)(sM sI k:Nat)(U:A4)(T:Nat->A4):Prop where
 two:Two M I
 hM:sM<M.N.length
 hI:sI<I.N.length
 nil:[]∈U
 ok:∀u∈U,WOk M.I u
 cov:∀s,s<M.N.length->∃u∈U,dest M sM u=s
 tne:∀s,s<M.N.length->∃x,x∈T s
 tok:∀s,∀x∈T s,WOk M.I x
 sep:∀s s',s<M.N.length->s'<M.N.length->s≠s'->∃x,x∈T s/\x∈T s'/\outs M s x≠outs M s' x
 pass:∀u∈U,∀v,WOk M.I v->v.length<=k+1->∀x∈T (dest M sM (u++v)),outs M sM (u++v++x)=outs I sI (u++v++x)
 few:∀l:List Nat,l.Nodup->(∀q∈l,∃w,WOk M.I w/\dest I sI w=q)->l.length<=M.N.length+k
variable (P:Pass M I sM sI k U T)
include P
end
end
section
section
variable {m b M:A8}
def tE(x:A2):F8 x x=x.length:=by
 induction x with
 |nil=>rfl
 |cons u x ih=>simp[F8,ih]
end
end
section
section
variable {m b M:A8}
end
end

section
def wC{R:Type}{F:Nat->R}:∀(a b:A2) (j:Nat) (B:Nat->Option Int),(∀i,B (j+i)=b[i]?)->a.length=b.length->scan (λk x=>if B k=some x then none else some (F k)) j a=if a=b then none else some (F (j+F8 a b))
 |[],[],_,_,_,_=>rfl
 |[],_::_,_,_,_,h=>by cases h
 |_::_,[],_,_,_,h=>by cases h
 |x::a,y::b,j,B,hB,h=>by
  have h0:B j=some y:=by have:=hB 0;simpa using this
  unfold scan;by_cases e:y=x
  ·subst e;rw[if_pos h0];show scan _ (j+1) a=_;rw[wC a b (j+1) B (λi=>by have:=hB (i+1);rw[show j+1+i=j+(i+1) by omega];simpa using this) (by simpa using h)];by_cases e2:a=b
   ·subst e2;rw[if_pos rfl,if_pos rfl]
   ·rw[if_neg e2,if_neg (λq=>e2 (by injection q))];rw[show j+1+F8 a b=j+F8 (y::a) (y::b) by simp[F8];omega]
  ·rw[if_neg (λq=>e (by rw[h0]at q;injection q)),if_neg (λq=>e (by injection q with q1;exact q1.symm))];rw[show F8 (x::a) (y::b)=0 by simp[F8,Ne.symm e]];rfl
def R08_Equal_eq{a b:A2}(h:SmW a):gU a b=some (decide (a=b)):=by
 unfold gU;by_cases a2:a.length=b.length
 ·rw[B1,aJ (l:=a) (λk x=>if b[k]?=some x then none else some false) (λk x hx=>?_) ?_ (by unfold SmW at h;omega),A5,wC (F:=λ_=>false) a b 0 (λk=>b[k]?) (λi=>by rw[E8]) a2]
  ·by_cases e:a=b
   ·rw[if_pos e,E9 e];rfl
   ·rw[if_neg e,I3 e];rfl
  ·simp only[gU.s2];rw[B1]
  ·have hk:=(E0.1 hx).1;have hy:=get_at (show k<b.length by omega);simp only[gU.s2];rw[C2,B8 hx,B8 hy,hy];by_cases e:x=b[k]'(by omega)
   ·rw[B1 (λh=>h e),if_pos (by rw[e])]
   ·rw[C2 e,if_neg (λq=>e (by injection q with q;exact q.symm))]
 ·rw[C2,I3 (λe=>a2 (by rw[e]))]
section
variable {m b:A8}
end
end
section
section
variable {m:A8}
def fromM_ok(hv:P9 m=0){s:Nat}(hs:s<m.N.length){w:A2}(hw:R8 w m.I=0):fromM m (s:Int) w=(outs m s w,(↑(dest m s w):Int),0):=by
 unfold fromM;rw[if_neg (λh=>h hv),if_neg (by omega),if_neg (λh=>h hw),H6]
open Classical in
end
end
section
def slices_EqualD{a b:A2}(h:SmW a):iF a b=some (decide (a=b)):=by
 unfold iF;by_cases a2:a.length=b.length
 ·rw[B1,aJ (l:=a) (λk x=>if b[k]?=some x then none else some false) (λk x hx=>?_) ?_ (by unfold SmW at h;omega),A5,wC (F:=λ_=>false) a b 0 (λk=>b[k]?) (λi=>by rw[E8]) a2]
  ·by_cases e:a=b
   ·rw[if_pos e,E9 e];rfl
   ·rw[if_neg e,I3 e];rfl
  ·simp only[iF.s2];rw[B1]
  ·have hk:=(E0.1 hx).1;have hy:=get_at (show k<b.length by omega);simp only[iF.s2];rw[C2,B8 hx,B8 hy,hy];by_cases e:x=b[k]'(by omega)
   ·rw[B1 (λh=>h e),if_pos (by rw[e])]
   ·rw[C2 e,if_neg (λq=>e (by injection q with q;exact q.symm))]
 ·rw[C2,I3 (λe=>a2 (by rw[e]))]
section
variable {m:A8}
def sepd(m:A8)(s t:Nat)(acc:A4):Bool:=acc.any λw=>decide (outs m s w≠outs m t w)
noncomputable def chStep(m:A8)(s:Nat)(acc:A4)(t:Nat):A4:=if sepd m s t acc=true then acc else acc++[sepW m s t]
noncomputable def chRow(m:A8)(s:Nat)(acc:A4)(t:Nat):A4:=(List.range' (s+1) (t-(s+1))).foldl (chStep m s) acc
noncomputable def chTo(m:A8)(s:Nat):A4:=(List.range s).foldl (λacc s=>chRow m s acc m.N.length) []
noncomputable def chS(m:A8):A4:=sortW (chTo m m.N.length)
def nM{s t:Nat}{acc:A4}(h:s<t):chRow m s acc (t+1)=chStep m s (chRow m s acc t) t:=by
 unfold chRow;rw[show t+1-(s+1)=(t-(s+1))+1 by omega,List.range'_concat,oJ,show s+1+1*(t-(s+1))=t by omega];rfl
def kY(s:Nat):chTo m (s+1)=chRow m s (chTo m s) m.N.length:=by
 unfold chTo;rw[eD,oJ];rfl
def DG(H:I8 m){s:Nat}(hs:s<m.N.length){w:A2}(hw:WOk m.I w)(hl:w.length<=100000000):eY m (s:Int) w=some (outs m s w):=by
 unfold eY
 have key:=U2 (step:=λ(q:Int×A2×Nat)=>eY.s2 m w q.1 q.2.1 q.2.2) (r:=outs m s w) (λq=>q.2.2<=w.length/\q.1=(↑(dest m s (w.take q.2.2)):Int)/\q.2.1=outs m s (w.take q.2.2)) (λq=>w.length-q.2.2) (λq ⟨g1,g2,g3⟩=>by
  obtain⟨st,y,k⟩:=q
  simp only at g1 g2 g3
  subst g2
  subst g3
  simp only[eY.s2]
  by_cases g4:k<w.length
  ·left
   have hx:=get_at g4
   obtain⟨x0,x1⟩:=hw _ (M8 g4)
   have ha:w[k].toNat<m.I.toNat:=by omega
   have hd:Sym.dest m s (w.take k)<m.N.length:=H.dest (hw.take k) hs
   obtain⟨_,_,_,x,y,e1,e2,e3,e4⟩:=H.at hd ha
   refine⟨((↑(Sym.dest m s (w.take (k+1))):Int),outs m s (w.take (k+1)),k+1),?_,⟨g4,rfl,rfl⟩,by simp only;omega⟩
   rw[M6 hx,F7,B8 hx,D7 rfl e2,D7 (i:=w[k].toNat) (by omega) e4,H9 (by unfold B4;rw[fP,M3];omega),D7 rfl e1,D7 (i:=w[k].toNat) (by omega) e3,W4 hx,iV,lH]
   rfl
  ·right
   have e:k=w.length:=by omega
   subst e
   rw[B1,R5]) (n:=fuel) (s:=((s:Int),[],0)) ⟨D8 _,rfl,rfl⟩
 rw[H9 ⟨eF 0,by omega,by unfold B4;omega⟩,key,A5]
def SepS(m:A8):Prop:=∀s t,s<t->t<m.N.length->(sepW m s t).length<=1024
def SepS.of(H:I8 m)(hb:m.N.length*m.N.length*m.I.toNat<=1024):SepS m:=λs t h ht=>by
 obtain⟨_,h2⟩:=sepW_sm H (s:=s) (t:=t) (by omega) ht;omega
def ChOk(m:A8)(acc:A4):Prop:=∀w∈acc,WOk m.I w/\w.length<=1024
def separated_eq(H:I8 m){s t:Nat}(hs:s<m.N.length)(ht:t<m.N.length){acc:A4}(hA:ChOk m acc)(hl:acc.length<=1000000):qV m acc (s:Int) (t:Int)=some (sepd m s t acc):=by
 unfold qV jB;rw[aJ (l:=acc) (λ_ w=>if decide (outs m s w≠outs m t w)=true then some true else none) (λi w hw=>?_) ?_ (by omega),A5]
 ·unfold sepd;cases e:scan (λ_ w=>if decide (outs m s w≠outs m t w)=true then some true else none) 0 acc with
  |some r =>
   obtain⟨i,x,hx,hg⟩:=pF e;split at hg
   ·rename_i h;injection hg with hg
    rw[eE.2 ⟨x,G6 hx,h⟩,<- hg];rfl
   ·cases hg
  |none =>
   rw[yL.2 λx hx=>by
    obtain⟨i,hi,rfl⟩:=cQ.1 hx
    have:=dD.1 e i _ (get_at hi)
    split at this
    ·cases this
    ·assumption]
   rfl
 ·simp only[jB.s2];rw[B1]
 ·have hi:=(E0.1 hw).1;obtain⟨h1,h2⟩:=hA w (G6 hw);simp only[jB.s2];rw[C2,B8 hw];unfold qY;rw[DG H hs h1 (by omega),A5,DG H ht h1 (by omega),A5,slices_EqualD (by unfold SmW;rw[fP];omega),A5,A5];by_cases e:outs m s w=outs m t w
  ·rw[E9 e,Z9,G5,if_neg (by simp[e])]
  ·rw[I3 e,cN,F7,if_pos (by simp[e])]
def R11_some_eq(hv:P9 m=0){s t:Nat}(hs:s<m.N.length)(ht:t<m.N.length){acc:A4}(hA:ChOk m acc)(hl:acc.length<=1000000):gR m (s:Int) (t:Int) acc=some (sepd m s t acc):=by
 have H:=aY hv;unfold gR;rw[aJ (l:=acc) (λ_ w=>if decide (outs m s w≠outs m t w)=true then some true else none) (λi w hw=>?_) ?_ (by omega),A5]
 ·unfold sepd;cases e:scan (λ_ w=>if decide (outs m s w≠outs m t w)=true then some true else none) 0 acc with
  |some r =>
   obtain⟨i,x,hx,hg⟩:=pF e;split at hg
   ·rename_i h;injection hg with hg
    rw[eE.2 ⟨x,G6 hx,h⟩,<- hg];rfl
   ·cases hg
  |none =>
   rw[yL.2 λx hx=>by
    obtain⟨i,hi,rfl⟩:=cQ.1 hx
    have:=dD.1 e i _ (get_at hi)
    split at this
    ·cases this
    ·assumption]
   rfl
 ·simp only[gR.s2];rw[B1]
 ·have hi:=(E0.1 hw).1;obtain⟨h1,h2⟩:=hA w (G6 hw);have a2:=check_of H h1 h2;simp only[gR.s2];rw[C2,B8 hw];unfold tO pJ;rw[BB (by unfold SmW;omega),A5,A5,BB (by unfold SmW;omega),A5,A5,fromM_ok hv hs a2,fromM_ok hv ht a2,R08_Equal_eq (by unfold SmW;rw[fP];omega),A5,A5];by_cases e:outs m s w=outs m t w
  ·rw[E9 e,Z9,G5,if_neg (by simp[e])]
  ·rw[I3 e,cN,F7,if_pos (by simp[e])]
def chStep_okS(H:I8 m)(hb:SepS m){s t:Nat}(hs:s<m.N.length)(ht:t<m.N.length)(hst:s<t){acc:A4}(hA:ChOk m acc):ChOk m (chStep m s acc t)/\(chStep m s acc t).length<=acc.length+1:=by
 unfold chStep;split
 ·exact⟨hA,by omega⟩
 ·refine⟨λw hw=>?_,by simp⟩;rcases I2.1 hw with h|h
  ·exact hA w h
  ·have:w=sepW m s t:=by simpa using h
   subst this;obtain⟨h1,h2⟩:=sepW_sm H hs ht;exact⟨h1,hb s t hst ht⟩
def sQ(H:I8 m)(hb:SepS m){s:Nat}(hs:s<m.N.length){acc:A4}(hA:ChOk m acc):∀t,t<=m.N.length->ChOk m (chRow m s acc t)/\(chRow m s acc t).length<=acc.length+t
 |0,_=>by
  unfold chRow;rw[Nat.zero_sub];exact⟨hA,by simp⟩
 |t+1,ht=>by
  obtain⟨h1,h2⟩:=sQ H hb hs hA t (by omega);by_cases g:s<t
  ·rw[nM g];obtain⟨h3,h4⟩:=chStep_okS H hb hs (t:=t) (by omega) g h1;exact⟨h3,by omega⟩
  ·unfold chRow;rw[show t+1-(s+1)=0 by omega];exact⟨hA,by simp⟩
def kW(H:I8 m)(hb:SepS m):∀s,s<=m.N.length->ChOk m (chTo m s)/\(chTo m s).length<=s*m.N.length
 |0,_=>⟨λw hw=>(by cases hw),by simp[chTo]⟩
 |s+1,hs=>by
  obtain⟨h1,h2⟩:=kW H hb s (by omega);rw[kY];obtain⟨h3,h4⟩:=sQ H hb (s:=s) (by omega) h1 m.N.length (F9 _);exact⟨h3,by rw[cM];omega⟩
def pR(H:I8 m)(hb:SepS m){s:Nat}(hs:s<=m.N.length):(chTo m s).length<=128*128:=by
 have h1:=(kW H hb s hs).2;have hn:=H.n2;have h2:s*m.N.length<=128*128:=dH (by omega) hn;omega
def zna(hv:P9 m=0)(P:bI m)(hb:SepS m):bO m=some (chS m,0):=by
 have H:=aY hv;have hn:=H.n2
 have hc:chkM m=0:=by
  unfold chkM;rw[if_neg (λh=>h hv),if_pos P]
 unfold bO;rw[check_prog m,A5,hc,B1 (by decide)]
 have a2:∀s,s<m.N.length->iter (λ(q:A4×Nat)=>bO.s13 m s q.1 q.2) fuel (chTo m s,s+1)=some (.inl (chRow m s (chTo m s) m.N.length)):=λs hs=>by
  obtain⟨c1,_⟩:=kW H hb s (oC hs);have c2:=pR H hb (oC hs);refine U2 (λq=>s<q.2/\q.2<=m.N.length/\q.1=chRow m s (chTo m s) q.2) (λq=>m.N.length-q.2) (λq ⟨q1,q2,q3⟩=>?_) ⟨jG _,hs,by unfold chRow;rw[T7];rfl⟩;obtain⟨y,t⟩:=q;simp only at q1 q2 q3;subst q3;obtain⟨d1,d2⟩:=sQ H hb hs c1 t q2;simp only[bO.s13];by_cases g:t<m.N.length
  ·left;refine⟨(chRow m s (chTo m s) (t+1),t+1),?_,⟨by simp only;omega,g,rfl⟩,by simp only;omega⟩;rw[C2,separated_eq H hs g d1 (by omega),A5,nM q1];unfold chStep;cases e:sepd m s t (chRow m s (chTo m s) t) with
   |true =>
    rw[F7,A5,if_pos rfl];rfl
   |false =>
    rw[G5,States_prog hv hs g,A5];simp only;rw[B1 (λh=>h rfl),O6,A5,if_neg (by decide)];rfl
  ·right;have:t=m.N.length:=by omega
   subst this;rw[B1]
 have a3:=U2 (step:=λ(q:A4×Nat)=>bO.s14 m q.1 q.2) (r:=.inl (chTo m m.N.length)) (λq=>q.2<=m.N.length/\q.1=chTo m q.2) (λq=>m.N.length-q.2) (λq ⟨q1,q2⟩=>by
  obtain⟨y,s⟩:=q
  simp only at q1 q2
  subst q2
  simp only[bO.s14]
  by_cases g:s<m.N.length
  ·left
   refine⟨(chTo m (s+1),s+1),?_,⟨g,rfl⟩,by simp only;omega⟩
   rw[C2,a2 s g,A5,kY]
   rfl
  ·right
   have:s=m.N.length:=by omega
   subst this
   rw[B1]) (n:=fuel) (s:=([],0)) ⟨D8 _,rfl⟩
 rw[a3,A5];have c2:=pR H hb (F9 m.N.length);show(kB (chTo m m.N.length)).bind _=_
 rw[xS ⟨by omega,λw hw=>by
  have:=((kW H hb m.N.length (F9 _)).1 w hw).2
  unfold SmW
  omega⟩,A5]
 rfl
def CZ(hv:P9 m=0)(P:bI m)(hb:SepS m):aL m=some (chS m,0):=by
 have H:=aY hv;have hn:=H.n2
 have hc:chkM m=0:=by
  unfold chkM;rw[if_neg (λh=>h hv),if_pos P]
 unfold aL;rw[check_ref m,A5,hc,B1 (by decide)]
 have a2:∀s,s<m.N.length->iter (λ(q:A4×Nat)=>aL.s13 m s q.1 q.2) fuel (chTo m s,s+1)=some (chRow m s (chTo m s) m.N.length):=λs hs=>by
  obtain⟨c1,_⟩:=kW H hb s (oC hs);have c2:=pR H hb (oC hs);refine U2 (λq=>s<q.2/\q.2<=m.N.length/\q.1=chRow m s (chTo m s) q.2) (λq=>m.N.length-q.2) (λq ⟨q1,q2,q3⟩=>?_) ⟨jG _,hs,by unfold chRow;rw[T7];rfl⟩;obtain⟨y,t⟩:=q;simp only at q1 q2 q3;subst q3;obtain⟨d1,d2⟩:=sQ H hb hs c1 t q2;simp only[aL.s13];by_cases g:t<m.N.length
  ·left;refine⟨(chRow m s (chTo m s) (t+1),t+1),?_,⟨by simp only;omega,g,rfl⟩,by simp only;omega⟩;rw[C2,R11_some_eq hv hs g d1 (by omega),A5,nM q1];unfold chStep;cases e:sepd m s t (chRow m s (chTo m s) t) with
   |true =>
    rw[Z9,G5,if_pos rfl]
   |false =>
    rw[cN,F7,States_ref hv hs g,A5,O6,if_neg (by decide)]
  ·right;have:t=m.N.length:=by omega
   subst this;rw[B1]
 have a3:=U2 (step:=λ(q:A4×Nat)=>aL.s14 m q.1 q.2) (r:=chTo m m.N.length) (λq=>q.2<=m.N.length/\q.1=chTo m q.2) (λq=>m.N.length-q.2) (λq ⟨q1,q2⟩=>by
  obtain⟨y,s⟩:=q
  simp only at q1 q2
  subst q2
  simp only[aL.s14]
  by_cases g:s<m.N.length
  ·left
   refine⟨(chTo m (s+1),s+1),?_,⟨g,rfl⟩,by simp only;omega⟩
   rw[C2,a2 s g,A5,kY]
  ·right
   have:s=m.N.length:=by omega
   subst this
   rw[B1]) (n:=fuel) (s:=([],0)) ⟨D8 _,rfl⟩
 rw[a3,A5];have c2:=pR H hb (F9 m.N.length)
 rw[nP ⟨by omega,λw hw=>by
  have:=((kW H hb m.N.length (F9 _)).1 w hw).2
  unfold SmW
  omega⟩,A5]
 rfl
def zus(hv:P9 m=0)(P:bI m)(hb:m.N.length*m.N.length*m.I.toNat<=1024):aL m=some (chS m,0):=CZ hv P (SepS.of (aY hv) hb)
end
end
section
structure Known(mp:List (ByteArray×Bool))(out:A4):Prop where
 nd:out.Nodup
 le:out.length<=10000
 get:∀w:A2,(mget (⟨(keyL w).toArray⟩:ByteArray) mp).getD false=decide (w∈out)
section
variable {p q:A4}
end
end
section
def zZ{V:Type}[DecidableEq V]:∀{a b:List V},a.Nodup->(∀x∈a,x∈b)->a.length<=b.length
 |[],_,_,_=>D8 _
 |x::a,b,hn,h=>by
  obtain⟨h1,h2⟩:=aR.1 hn;have hx:=h x U9;have:=zZ (a:=a) (b:=b.erase x) h2 λy hy=>(yZ (λe=>h1 (by rw[<- e];exact hy))).2 (h y (M7 _ hy));rw[yX hx]at this;have hp:=uM hx;rw[G8];omega
def aE(a b:A4):A4:=a.flatMap λu=>b.map λv=>u++v
def pN{a b:A4}{x:A2}:x∈aE a b↔∃u∈a,∃v∈b,x=u++v:=by
 unfold aE;simp only[fE,H0];constructor
 ·rintro⟨u,hu,v,hv,rfl⟩;exact⟨u,hu,v,hv,rfl⟩
 ·rintro⟨u,hu,v,hv,rfl⟩;exact⟨u,hu,v,hv,rfl⟩
def prodL_len(a b:A4):(aE a b).length=a.length*b.length:=by
 unfold aE
 induction a with
 |nil=>simp
 |cons u a ih=>rw[S6,H4,B7,ih,G8,Nat.add_mul];omega
section
variable {p q:A4}
end
def CY(l:A4)(hl:SmL l):cH l=some (↑(jV l):Int):=by
 unfold cH
 have h:=iter_fold (step:=λ(s:Int×Nat)=>cH.s2 l s.1 s.2) (l:=l) (λa _ x=>max a (x.length:Int)) (λa=>a) (λ_ _=>True) (λa i x _ hx=>by
  refine⟨?_,trivial⟩
  simp only[cH.s2]
  rw[M6 hx,F7,B8 hx]) (λa _=>by
  simp only[cH.s2]
  rw[X6]
  rfl) (by have:=hl.1;omega) (a0:=0) trivial
 rw[h.1,foldi_eq];have:=longest_fold l 0;simp only[Int.natCast_zero]at this;show some _=some _;rw[this];rfl
def zuh{a b:A4}(ha:SmL a)(hb:SmL b)(hab:a.length*b.length<10000)(hl:jV a+jV b<=1024)(hR:∀u∈a,∀v∈b,u.length+v.length<=1024):bA a b=some (sortW (aE a b),0):=by
 unfold bA
 have hc:(cond (decide (0<(a.length:Int))) (cond (decide (0<(b.length:Int))) ((cH a).bind λa2=>(cH b).bind λa6=>chk (inR (a2+a6)) (some (decide (1024<(a2+a6))))) (some false)) (some false):Option Bool)=some false:=by
  rw[CY a ha,A5,CY b hb,A5,L3,I3 (show ¬(1024:Int)<(↑(jV a):Int)+↑(jV b) by omega)];cases decide (0<(a.length:Int))<;>cases decide (0<(b.length:Int))<;>rfl
 rw[hc,A5,G5,nP ha,A5,nP hb,A5];have s1:=jY a;have s2:=jY b;have a7:∀u∈sortW a,∀v∈sortW b,u.length+v.length<=1024:=λu hu v hv=>hR u ((Q3 a u).1 hu) v ((Q3 b v).1 hv);have b6:(sortW a).length*(sortW b).length<=a.length*b.length:=dH s1 s2
 have a8:sortW (aE (sortW a) (sortW b))=sortW (aE a b):=sortW_ext λx=>by
  rw[pN,pN];constructor
  ·rintro⟨u,hu,v,hv,e⟩;exact⟨u,(Q3 a u).1 hu,v,(Q3 b v).1 hv,e⟩
  ·rintro⟨u,hu,v,hv,e⟩;exact⟨u,(Q3 a u).2 hu,v,(Q3 b v).2 hv,e⟩
 rw[<- a8];generalize sortW a=p at *;generalize sortW b=q at *;have small:∀(X:A4),X.length<10000->(∀x∈X,x.length<=1024)->SmL (sortW X):=λX h1 h2=>sml_sort ⟨by omega,λx hx=>by have:=h2 x hx;unfold SmW;omega⟩
 have a5:∀i u,p[i]?=some u->∀y:A4,y.length+q.length<10000->(∀x∈y,x.length<=1024)->iter (λ(s:A4×Nat)=>bA.s13 p q i s.1 s.2) fuel (sortW y,0)=some (.inl (sortW (y++q.map λv=>u++v))):=λi u hu y hy b3=>by
  have a9:∀k,(q.take k).length<=q.length:=λk=>by rw[M3];omega
  have key:=aZ (step:=λ(s:A4×Nat)=>bA.s13 p q i s.1 s.2) (λs=>s.2<=q.length/\s.1=sortW (y++(q.take s.2).map λv=>u++v)) (λs=>q.length-s.2) (λr=>r=.inl (sortW (y++q.map λv=>u++v))) (λ⟨z,k⟩ ⟨g1,g2⟩=>by
   simp only at g1 g2
   subst g2
   simp only[bA.s13]
   by_cases h:k<q.length
   ·left
    have hx:=get_at h
    have b2:=M8 h
    generalize q[k]=v at hx b2
    have b7:=a7 u (G6 hu) v b2
    have hw:∀x∈y++(q.take k).map (λv=>u++v),x.length<=1024:=λx hx=>by
     rcases I2.1 hx with hx|hx
     ·exact b3 x hx
     ·obtain⟨v',b4,rfl⟩:=H0.1 hx
      rw[H4]
      exact a7 u (G6 hu) v' (aD b4)
    have b5:(y++(q.take k).map (λv=>u++v)).length<10000:=by
     have:=a9 k
     rw[H4,B7]
     omega
    have a3:sortW (y++(q.take (k+1)).map λv=>u++v)=insW (sortW (y++(q.take k).map λv=>u++v)) (u++v):=by
     rw[W4 hx,L1,<- aS]
     exact zK _ _
    have a4:=jY (y++(q.take (k+1)).map λv=>u++v)
    have:=a9 (k+1)
    rw[H4,B7]at a4
    refine⟨(sortW (y++(q.take (k+1)).map λv=>u++v),k+1),?_,⟨h,rfl⟩,by simp only;omega⟩
    rw[M6 hx,F7,B8 hu,B8 hx,qC [u,v] (by simp) (by simp;omega),A5]
    simp only[V4,oG,W8]
    rw[AN (dC _) (small _ b5 hw) (by unfold SmW;rw[H4];omega),A5,<- a3,B1]
   ·right
    have e:k=q.length:=by omega
    subst e
    exact⟨_,by rw[X6,G5],by rw[R5]⟩) fuel (sortW y,0) ⟨D8 _,by simp⟩ (by have:=Y0;have:=ha.1;have:=hb.1;simp only;omega)
  obtain⟨r,e,rfl⟩:=key;exact e
 have key:=aZ (step:=λ(s:A4×Nat)=>bA.s14 p q s.1 s.2) (λs=>s.2<=p.length/\s.1=sortW (aE (p.take s.2) q)) (λs=>p.length-s.2) (λr=>r=.inl (sortW (aE p q))) (λ⟨z,i⟩ ⟨g1,g2⟩=>by
  simp only at g1 g2
  subst g2
  simp only[bA.s14]
  by_cases h:i<p.length
  ·left
   have hx:=get_at h
   have a3:aE (p.take (i+1)) q=aE (p.take i) q++q.map λv=>p[i]++v:=by
    unfold aE
    rw[W4 hx,lU]
    simp
   refine⟨(sortW (aE (p.take (i+1)) q),i+1),?_,⟨h,rfl⟩,by simp only;omega⟩
   have a4:(aE (p.take i) q).length+q.length<=p.length*q.length:=by
    rw[prodL_len,M3]
    have:(min i p.length+1)*q.length<=p.length*q.length:=bC _ (by omega)
    rw[Nat.add_mul]at this
    omega
   rw[M6 hx,F7,a5 i _ hx _ (by omega) (λx hx=>by
    obtain⟨u,hu,v,hv,rfl⟩:=pN.1 hx
    rw[H4]
    exact a7 u (aD hu) v hv),A5,a3]
   rfl
  ·right
   have e:i=p.length:=by omega
   subst e
   exact⟨_,by rw[X6,G5],by rw[R5]⟩) fuel ([],0) ⟨D8 _,rfl⟩ (by have:=Y0;have:=ha.1;simp only;omega)
 obtain⟨r,e,rfl⟩:=key;rw[e,A5];rfl
end
section
def aV(k:Nat)(P:A4):A4:=P.flatMap λw=>(List.range k).map λ(a:Nat)=>w++[(a:Int)]
def tranL_len(k:Nat)(P:A4):(aV k P).length=P.length*k:=by
 unfold aV
 induction P with
 |nil=>simp
 |cons u a ih=>rw[S6,H4,B7,M5,ih,G8,Nat.add_mul];omega
def vK{k:Nat}{P:A4}{x:A2}:x∈aV k P↔∃w∈P,∃a,a<k/\x=w++[(a:Int)]:=by
 unfold aV;simp only[fE,H0,K6];constructor
 ·rintro⟨u,hu,v,hv,rfl⟩;exact⟨u,hu,v,hv,rfl⟩
 ·rintro⟨u,hu,v,hv,rfl⟩;exact⟨u,hu,v,hv,rfl⟩
def range_step(k:Nat)(w:A2):((List.range (k+1)).map λ(a:Nat)=>w++[(a:Int)])=((List.range k).map λ(a:Nat)=>w++[(a:Int)])++[w++[(k:Int)]]:=by
 rw[eD,L1];rfl
section
variable {M:A8}{P:A4}
def tran_ref(hk:1<=M.I/\M.I<=64)(hP:P.length<=1000)(hw:∀w∈P,w.length<=1000)(e1 e2:Int):iter (λ(s:A4×Nat)=>aM.s14 (M,e1) (P,e2) s.1 s.2) fuel ([],0)=some (aV M.I.toNat P):=by
 have a2:∀i (w:A2),P[i]?=some w->∀y:A4,y.length<=100000->iter (λ(s:A4×Nat)=>aM.s13 (M,e1) (P,e2) i s.1 s.2) fuel (y,0)=some (y++(List.range M.I.toNat).map λ(a:Nat)=>w++[(a:Int)]):=λi w hi y hy=>by
  have hw:=hw w (G6 hi)
  have key:=J2 (step:=λ(s:A4×Nat)=>aM.s13 (M,e1) (P,e2) i s.1 s.2) (λs=>s.2<=M.I.toNat/\s.1=y++(List.range s.2).map λ(a:Nat)=>w++[(a:Int)]) (λs=>M.I.toNat-s.2) (λr=>r=y++(List.range M.I.toNat).map λ(a:Nat)=>w++[(a:Int)]) (λ⟨z,a⟩ ⟨g1,g2⟩=>by
   simp only at g1 g2
   subst g2
   simp only[aM.s13]
   by_cases h:a<M.I.toNat
   ·left
    refine⟨(y++(List.range (a+1)).map λ(a:Nat)=>w++[(a:Int)],a+1),?_,⟨h,rfl⟩,by simp only;omega⟩
    rw[C2,B8 hi,qC [w,[(a:Int)]] (by simp) (by simp;omega),A5]
    simp only[V4,oG,W8]
    rw[H9 (by unfold B4;rw[H4,B7,M5];omega),L3,range_step,aS]
   ·right
    have e:a=M.I.toNat:=by omega
    subst e
    exact⟨_,by rw[B1],rfl⟩) (y,0) ⟨D8 _,by simp⟩
  obtain⟨r,e,rfl⟩:=key;exact e
 have key:=J2 (step:=λ(s:A4×Nat)=>aM.s14 (M,e1) (P,e2) s.1 s.2) (λs=>s.2<=P.length/\s.1=aV M.I.toNat (P.take s.2)) (λs=>P.length-s.2) (λr=>r=aV M.I.toNat P) (λ⟨z,i⟩ ⟨g1,g2⟩=>by
  simp only at g1 g2
  subst g2
  simp only[aM.s14]
  by_cases h:i<P.length
  ·left
   have hx:=get_at h
   refine⟨(aV M.I.toNat (P.take (i+1)),i+1),?_,⟨h,rfl⟩,by simp only;omega⟩
   have a3:(aV M.I.toNat (P.take i)).length<=100000:=by
    rw[tranL_len,M3]
    have:min i P.length*M.I.toNat<=1000*64:=dH (by omega) (by omega)
    omega
   rw[M6 hx,F7,a2 i _ hx _ a3,A5]
   have:aV M.I.toNat (P.take (i+1))=aV M.I.toNat (P.take i)++(List.range M.I.toNat).map λ(a:Nat)=>P[i]++[(a:Int)]:=by
    unfold aV
    rw[W4 hx,lU]
    simp
   rw[this]
  ·right
   have e:i=P.length:=by omega
   subst e
   exact⟨_,by rw[X6,G5],by rw[R5]⟩) ([],0) ⟨D8 _,rfl⟩
 obtain⟨r,e,rfl⟩:=key;exact e
end
def BD{l:A4}{B:Nat}(h:∀x∈l,x.length<=B):jV l<=B:=(longestL_le l B).2 h
end
section
section
variable {front middle last:A4}
end
end
section
section
variable {m M:A8}
end
end
section
section
variable {m b M:A8}
def sepd_mono{s t:Nat}{a c:A4}(h:∀x∈a,x∈c)(hs:sepd m s t a=true):sepd m s t c=true:=by
 obtain⟨x,hx,h1⟩:=eE.1 hs;exact eE.2 ⟨x,h x hx,h1⟩
def zH{s t:Nat}{acc:A4}:∀x∈acc,x∈chStep m s acc t:=λx hx=>by
 unfold chStep;split
 ·exact hx
 ·exact K9 _ hx
def chRow_sub{s:Nat}{acc:A4}:∀t,∀x∈acc,x∈chRow m s acc t
 |0,x,hx=>by
  unfold chRow;rw[Nat.zero_sub];exact hx
 |t+1,x,hx=>by
  by_cases g:s<t
  ·rw[nM g];exact zH x (chRow_sub t x hx)
  ·unfold chRow;rw[show t+1-(s+1)=0 by omega];exact hx
def AG{s:Nat}{acc:A4}:∀t d,s<t->∀x∈chRow m s acc t,x∈chRow m s acc (t+d)
 |_,0,_,_,hx=>hx
 |t,d+1,g,x,hx=>by
  rw[show t+(d+1)=(t+d)+1 by omega,nM (by omega)];exact zH x (AG t d g x hx)
def chTo_more:∀s d,∀x∈chTo m s,x∈chTo m (s+d)
 |_,0,_,hx=>hx
 |s,d+1,x,hx=>by
  rw[show s+(d+1)=(s+d)+1 by omega,kY];exact chRow_sub _ x (chTo_more s d x hx)
def chTo_sep(H:I8 m)(P:bI m){s t:Nat}(hs:s<t)(ht:t<m.N.length):sepd m s t (chTo m m.N.length)=true:=by
 have h1:sepd m s t (chRow m s (chTo m s) (t+1))=true:=by
  rw[nM hs];unfold chStep;split
  ·assumption
  ·exact eE.2 ⟨sepW m s t,L2 _ (by simp),E9 (sepW_sep H P (by omega) ht (by omega))⟩
 have h2:sepd m s t (chTo m (s+1))=true:=sepd_mono (λx hx=>by
  rw[kY]
  have:=AG (m:=m) (acc:=chTo m s) (t+1) (m.N.length-(t+1)) (by omega) x hx
  rwa [show t+1+(m.N.length-(t+1))=m.N.length by omega]at this) h1
 exact sepd_mono (λx hx=>by
  have:=chTo_more (m:=m) (s+1) (m.N.length-(s+1)) x hx
  rwa [show s+1+(m.N.length-(s+1))=m.N.length by omega]at this) h2
end
end
section
section
variable {A:Type}[DecidableEq A]{e:A->Nat->A}{K:Nat}{s0:A}
def bfs_mono:∀(r:Nat) {u v:Nat} {x y:A×A2},u<=v->(bfsB e K s0 r)[u]?=some x->(bfsB e K s0 r)[v]?=some y->x.2.length<=y.2.length
 |0,u,v,x,y,huv,hx,hy=>by
  have h1:=(E0.1 hx).1;have h2:=(E0.1 hy).1;have hl:(bfsB e K s0 0).length=1:=rfl;have e1:u=0:=by omega
  have e2:v=0:=by omega
  subst e1;subst e2;rw[hx]at hy;injection hy with hy
  rw[hy];exact F9 _
 |r+1,u,v,x,y,huv,hx,hy=>by
  have ih:=λ{u v x y}=>bfs_mono r (u:=u) (v:=v) (x:=x) (y:=y);rw[bfsB]at hx hy;cases hp:(bfsB e K s0 r)[r / K]? with
  |none =>
   rw[hp]at hx hy;exact ih huv hx hy
  |some p =>
   rw[hp]at hx hy;simp only at hx hy;split at hx
   ·rename_i g;rw[if_pos g]at hy;exact ih huv hx hy
   ·rename_i g;rw[if_neg g]at hy;have hv:=(E0.1 hy).1;rw[H4,O8]at hv;rcases J3 v (bfsB e K s0 r).length with h|h
    ·rw[N6 h]at hy;rw[N6 (by omega)]at hx;exact ih huv hx hy
    ·have ev:v=(bfsB e K s0 r).length:=by omega
     subst ev;rw[S7 (F9 _),T7]at hy;injection hy with hy
     subst hy;simp only[H4,O8];rcases J3 u (bfsB e K s0 r).length with h2|h2
     ·rw[N6 h2]at hx;rcases mQ hx with q|⟨r',z,q1,q2,q3,q4⟩
      ·subst q;rw[mH]at hx;injection hx with hx
       subst hx;simp
      ·have:=ih (uG (c:=K) (oC q1)) q3 hp;rw[q4];simp only[H4,O8];omega
     ·have eu:u=(bfsB e K s0 r).length:=by omega
      subst eu;rw[S7 (F9 _),T7]at hx;injection hx with hx
      subst hx;simp
def bfs_early{N j r:Nat}{y:A×A2}(hK:0<K)(hy:(bfsB e K s0 N)[j]?=some y)(hr:j*K<=r)(hN:r<=N):(bfsB e K s0 r)[j]?=some y:=by
 have a2:=cE (e:=e) (K:=K) (s0:=s0) hN;rcases J3 j (bfsB e K s0 r).length with g|g
 ·have:=aX a2 (K8 g);rw[hy]at this;rw[K8 g,this]
 ·exfalso
  have a3:∀d,bfsB e K s0 (r+d)=bfsB e K s0 r:=by
   intro d
   induction d with
   |zero=>rfl
   |succ d ih =>
    show bfsB e K s0 (r+d+1)=_;rw[bfsB,ih,L0 ?_];have h1:j<=(r+d) / K:=(Nat.le_div_iff_mul_le hK).2 (by omega);omega
  have h2:=a3 (N-r);rw[show r+(N-r)=N by omega]at h2;rw[h2]at hy;have:=(E0.1 hy).1;omega
def bfs_reach{f:A->A2->A}(f0:∀a,f a []=a)(f1:∀a w (c:Nat),f a (w++[(c:Int)])=e (f a w) c){i:Nat}{x:A×A2}{N:Nat}(hx:(bfsB e K s0 N)[i]?=some x)(hN:i*K<=N) :
  ∀(n:Nat) (w:A2),w.length=n->(∀z∈w,0<=z/\z<(K:Int))->n<x.2.length->∃j y,j<i/\(bfsB e K s0 (i*K))[j]?=some y/\y.1=f s0 w/\y.2.length<=n:=by
 intro n
 induction n with
 |zero =>
  intro w hw _ a6;have:w=[]:=V0 hw;subst this;refine⟨0,(s0,[]),Nat.pos_of_ne_zero λh=>?_,mH _,(f0 s0).symm,F9 _⟩;subst h;rw[mH]at hx;injection hx with hx
  subst hx;exact absurd a6 (by simp)
 |succ n ih =>
  intro w hw hz a6;rcases zB w with rfl|⟨v,c,rfl⟩
  ·simp at hw
  rw[zA]at hw hz ⊢;obtain⟨c0,c1⟩:=hz c (L2 _ (I7.2 rfl));obtain⟨a,rfl⟩:=yT c0;have hK:0<K:=by omega
  have ha:a<K:=by omega
  obtain⟨j,y,j1,j2,j3,j4⟩:=ih v (by simpa using hw) (λz h=>hz z (K9 _ h)) (by omega);have a4:j*K+a+1<=i*K:=by have:=eO j1 ha;omega
  have hy:=bfs_early hK j2 (r:=j*K+a) (by omega) (by omega);have a5:=bfs_to (e:=e) (K:=K) (s0:=s0) (r:=j*K+a) (x:=y) (by rw[dR ha];exact hy);rw[kK ha]at a5;obtain⟨z,b3,b2⟩:=H0.1 a5;obtain⟨l,hl,ez⟩:=cQ.1 b3;have a2:(bfsB e K s0 (j*K+a+1))[l]?=some z:=by rw[K8 hl,ez]
  have a8:z.2.length<=n+1:=by
   rcases mQ a2 with q|⟨r',u,q1,q2,q3,q4⟩
   ·subst q;rw[mH]at a2;injection a2 with a2
    subst a2;simp
   ·have hd:r' / K<=j:=by
     have:=uG (c:=K) (show r'<=j*K+a by omega)
     rwa [dR ha]at this
    have a9:=aX (sB (e:=e) (K:=K) (s0:=s0) (j*K+a)) hy;have:=bfs_mono _ hd q3 a9;rw[q4];simp only[H4,O8];omega
  have a3:=aX (cE (e:=e) (K:=K) (s0:=s0) a4) a2;refine⟨l,z,yG λa7=>?_,a3,by rw[b2,f1,j3],a8⟩;have h3:=aX (cE (e:=e) (K:=K) (s0:=s0) hN) a3;have:=bfs_mono _ a7 hx h3;omega
end
section
variable {m:A8}
def zN:∀{v:A2} {s t:Nat},WOk m.I v->outs m s v≠outs m t v->∃(u:A2) (c:Nat) (z:A2),v=u++(c:Int)::z/\c<m.I.toNat/\ot m (dest m s u) c≠ot m (dest m t u) c
 |[],s,t,_,h=>absurd rfl h
 |a::v,s,t,hw,h=>by
  have ha:=hw.head;obtain⟨c,rfl⟩:=yT ha.1;by_cases g:ot m s c=ot m t c
  ·obtain⟨u,d,z,h1,h2,h3⟩:=zN (v:=v) (s:=nx m s c) (t:=nx m t c) hw.tail λhv=>h (by
    show ot m s (Int.toNat (c:Int))::outs m (nx m s (Int.toNat (c:Int))) v=ot m t (Int.toNat (c:Int))::outs m (nx m t (Int.toNat (c:Int))) v
    rw[H6,g,hv])
   exact⟨(c:Int)::u,d,z,by rw[h1];rfl,h2,h3⟩
  ·exact⟨[],c,v,rfl,by omega,g⟩
def moore(H:I8 m)(P:bI m){s t:Nat}(hs:s<m.N.length)(ht:t<m.N.length)(hne:s≠t):∃v,v.length<=m.N.length/\WOk m.I v/\outs m s v≠outs m t v:=by
 refine Q9 λg=>hne (P.apart s t hs ht λw hw=>?_);have hE:E m m.N.length s t:=pK λw hl hw=>Q9 λh=>g ⟨w,hl,hw,h⟩;exact E_outs (E_all H hs ht hE w.length) hw
def AI(H:I8 m)(P:bI m){s t:Nat}(hs:s<m.N.length)(ht:t<m.N.length)(hne:s≠t):(sepW m s t).length<=m.N.length:=by
 have hF:=sep_fst H hs ht;rw[sepB_of H P hs ht hne]at hF;rcases hF with⟨i,c,x,h1,h2,h3,h4,h5⟩|⟨L,_,_,h5⟩
 ·injection h5 with h5 _
  rw[h5,H4,O8];obtain⟨v,v1,v2,v3⟩:=moore H P hs ht hne;obtain⟨u,d,z,rfl,u2,u3⟩:=zN v2 v3;simp only[H4,G8]at v1;refine oH λa3=>?_
  have hu:∀q∈u,0<=q/\q<(m.I.toNat:Int):=λq hq=>by
   have:=v2 q (K9 _ hq);omega
  have fd:∀(st:Nat) (w:A2) (c:Nat),dest m st (w++[(c:Int)])=nx m (dest m st w) c:=λst w c=>by
   rw[iV];show nx m (dest m st w) (Int.toNat (c:Int))=_;rw[H6]
  obtain⟨j,y,j1,j2,j3,j4⟩:=bfs_reach (e:=pE m m) (K:=m.I.toNat) (s0:=(s,t)) (f:=λp w=>(dest m p.1 w,dest m p.2 w)) (λa=>rfl) (λa w c=>by
   simp only[fd]
   rfl) (N:=i*m.I.toNat+c) h2 (by omega) u.length u rfl hu (by omega)
  have hK:0<m.I.toNat:=by omega
  have a2:=eO j1 u2;have hy:=bfs_early hK j2 (r:=j*m.I.toNat+d) (by omega) (by omega);have:=h4 (j*m.I.toNat+d) (by omega);rw[kQ u2 hy,j3,E9 u3]at this;cases this
 ·injection h5 with _ h5
  cases h5
def zQ{s:Nat}:∀(l:List Nat) (acc:A4) (w:A2),w∈l.foldl (chStep m s) acc->w∈acc\/∃t∈l,w=sepW m s t
 |[],acc,w,h=>.inl h
 |t::l,acc,w,h=>by
  rcases zQ l _ w h with g|⟨u,h1,h2⟩
  ·unfold chStep at g;split at g
   ·exact .inl g
   ·rcases I2.1 g with g|g
    ·exact .inl g
    ·exact .inr ⟨t,U9,I7.1 g⟩
  ·exact .inr ⟨u,M7 _ h1,h2⟩
def chRow_len{s:Nat}:∀(l:List Nat) (acc:A4),(l.foldl (chStep m s) acc).length<=acc.length+l.length
 |[],acc=>F9 _
 |t::l,acc=>by
  have h1:=chRow_len (s:=s) l (chStep m s acc t)
  have h2:(chStep m s acc t).length<=acc.length+1:=by
   unfold chStep;split
   ·omega
   ·rw[H4,O8];exact F9 _
  rw[gA,G8];omega
def chTo_from:∀(s:Nat) (w:A2),w∈chTo m s->∃a b,a<s/\a<b/\b<m.N.length/\w=sepW m a b
 |0,w,h=>by
  unfold chTo at h;cases h
 |s+1,w,h=>by
  rw[kY]at h;unfold chRow at h;rcases zQ _ _ w h with g|⟨t,h1,h2⟩
  ·obtain⟨a,b,k1,k2⟩:=chTo_from s w g;exact⟨a,b,by omega,k2⟩
  ·rw[List.mem_range'_1]at h1;exact⟨s,t,by omega,by omega,by omega,h2⟩
def chTo_lens(h6:m.N.length<=6):(chTo m m.N.length).length<=15:=by
 have a2:∀s,(chTo m (s+1)).length<=(chTo m s).length+(m.N.length-(s+1)):=λs=>by
  rw[kY];unfold chRow;refine aP (chRow_len _ _) ?_;rw[List.length_range'];exact F9 _
 have h0:(chTo m 0).length=0:=rfl;have h1:=a2 0;have h2:=a2 1;have h3:=a2 2;have h4:=a2 3;have h5:=a2 4;have a3:=a2 5;have:m.N.length=0\/m.N.length=1\/m.N.length=2\/m.N.length=3\/m.N.length=4\/m.N.length=5\/m.N.length=6:=by omega
 generalize m.N.length=n at *;rcases this with rfl|rfl|rfl|rfl|rfl|rfl|rfl<;>simp only[E8,Nat.reduceAdd]at*<;> omega
end
noncomputable def endsM(M:A8):A4:=if(chS M).length=0 then [[]] else chS M
def endsM_ok{M:A8}(H:I8 M)(P:bI M)(h6:M.N.length<=6):(endsM M).length<=15/\(∀w∈endsM M,w.length<=6/\WOk M.I w)/\∀s t,s<M.N.length->t<M.N.length->s≠t->∃w∈endsM M,WOk M.I w/\outs M s w≠outs M t w:=by
 have a5:=chTo_lens h6;have a6:=jY (chTo M M.N.length)
 have hw:∀w∈chS M,w.length<=6/\WOk M.I w:=λw hw=>by
  obtain⟨a,b,h1,h2,h3,rfl⟩:=chTo_from _ w ((Q3 _ _).1 hw);have:=AI H P (s:=a) (t:=b) (by omega) h3 (by omega);exact⟨by omega,(sepW_sm H (by omega) h3).1⟩
 have a3:∀s t,s<t->t<M.N.length->∃w∈chS M,WOk M.I w/\outs M s w≠outs M t w:=λs t h1 h2=>by
  have:=chTo_sep H P h1 h2;unfold sepd at this;obtain⟨w,w1,w2⟩:=eE.1 this;have hm:=(Q3 _ w).2 w1;exact⟨w,hm,(hw w hm).2,of_decide_eq_true w2⟩
 have a2:∀s t,s<M.N.length->t<M.N.length->s≠t->∃w∈chS M,WOk M.I w/\outs M s w≠outs M t w:=λs t h1 h2 a4=>by
  rcases J3 s t with g|g
  ·exact a3 s t g h2
  ·obtain⟨w,w1,w2,w3⟩:=a3 t s (by omega) h1;exact⟨w,w1,w2,λh=>w3 h.symm⟩
 unfold endsM;by_cases hz:(chS M).length=0
 ·rw[if_pos hz];refine⟨by simp,λw hw=>by rw[I7.1 hw];exact⟨by simp,λa ha=>by cases ha⟩,λs t h1 h2 a4=>?_⟩;obtain⟨w,w1,_⟩:=a2 s t h1 h2 a4;have:=uM w1;omega
 ·rw[if_neg hz];exact⟨by unfold chS;omega,hw,a2⟩
end
section
def sortW_len(l:A4):(sortW l).length<=l.length:=by
 refine eV (List.Pairwise.imp (λ{a b} h e=>?_) (dC l)) λx hx=>(Q3 l x).1 hx;rw[e,eQ]at h;cases h
def red0_get{P:A9}(h:0<P.N.length):(red0 P)[0]?=some true:=by
 unfold red0;rw[P5 (by rw[K7];exact h)]
section
variable {p:A9}
def compl_ok(H:H7 p)(hn:p.N.length<=128):∃M,kO p 0=(M,0)/\I8 M/\M.I=p.I/\M.N.length=p.N.length:=by
 refine⟨⟨p.I,p.S,(List.range p.N.length).map (cS p),(List.range p.N.length).map (cT p 0)⟩,?_,⟨H.i1,H.i2,?_,?_,?_,?_,λs hs=>?_⟩,rfl,?_⟩
 ·unfold kO;rw[if_neg (λh=>h H.valid),if_neg (by omega),if_neg (by omega)]
 ·rw[B7,M5];exact H.n1
 ·rw[B7,M5];exact hn
 ·simp only[B7,M5];exact H.st
 ·simp only[B7,M5]
 ·simp only[B7,M5]at hs ⊢;refine⟨cS p s,cT p 0 s,by rw[H1,P4 hs];rfl,by rw[H1,P4 hs];rfl,?_,?_,λu hu=>?_,λv hv=>?_⟩
  ·unfold cS;rw[B7,M5];have:=H.i1;omega
  ·unfold cT;rw[B7,M5];have:=H.i1;omega
  ·unfold cS at hu;obtain⟨a,ha,rfl⟩:=H0.1 hu;obtain⟨n1,n2,n3,n4,n5,x,y,hx,hy,a2,a3,_⟩:=H.at hs (K6.1 ha);unfold compN;rw[hx,E7,a2,E7];split<;>omega
  ·unfold cT at hv;obtain⟨a,ha,rfl⟩:=H0.1 hv;obtain⟨n1,n2,n3,n4,n5,x,y,hx,hy,a2,a3,_⟩:=H.at hs (K6.1 ha);unfold compO;rw[hx,E7,a2,E7,hy,E7,a3,E7];split<;>omega
 ·simp only[B7,M5]
end
section
variable {p:A9}{M:A8}
def sngL(n:Nat):A4:=(List.range n).map λ(a:Nat)=>[(a:Int)]
def sngL_succ(n:Nat):sngL (n+1)=sngL n++[[(n:Int)]]:=by unfold sngL;rw[eD,L1];rfl
def ev_singles{o:G7}(h:o.I<=64):iter (λ(s:A4×Nat)=>dE.s2 o s.1 s.2) fuel ([],0)=some (sngL o.I.toNat):=by
 refine U2 (λs=>s.2<=o.I.toNat/\s.1=sngL s.2) (λs=>o.I.toNat-s.2) (λ⟨y,a⟩ ⟨g1,g2⟩=>?_) ⟨D8 _,rfl⟩;simp only at g1 g2;subst g2;have hl:(sngL a).length=a:=by unfold sngL;rw[B7,M5]
 simp only[dE.s2];by_cases ha:a<o.I.toNat
 ·left;exact⟨(sngL (a+1),a+1),by rw[C2,O6,L3,sngL_succ],⟨ha,rfl⟩,by simp only;omega⟩
 ·right;have e1:a=o.I.toNat:=by omega
  subst e1;rw[B1]
def seps(H:I8 M)(P:bI M):SepS M:=λs t h ht=>by
 have:=AI H P (s:=s) (t:=t) (by omega) ht (by omega);have:=H.n2;omega
noncomputable def sufE(I:Nat)(M:A8):A4:=sortW (sngL I++chS M)
def suf_sm(H:I8 M)(P:bI M){I:Nat}(hI:I<=64):SmL (sngL I++chS M):=by
 have hc:=(kW H (seps H P) M.N.length (F9 _)).1;have hl:=pR H (seps H P) (F9 M.N.length);have a2:=sortW_len (chTo M M.N.length);refine⟨?_,λw hw=>?_⟩
 ·rw[H4];unfold sngL chS;rw[B7,M5];omega
 ·rcases I2.1 hw with hw|hw
  ·obtain⟨a,_,rfl⟩:=H0.1 hw;unfold SmW;simp
  ·have:=(hc w ((Q3 _ _).1 hw)).2;unfold SmW;omega
def suf_sml(H:I8 M)(P:bI M){I:Nat}(hI:I<=64):SmL (sufE I M):=by
 obtain⟨h1,h2⟩:=suf_sm H P hI;have:=sortW_len (sngL I++chS M);exact⟨by unfold sufE;omega,λw hw=>h2 w ((Q3 _ _).1 hw)⟩
def acc_sml(H:H7 p):SmL (accW p):=by
 have hn:=H.n2;obtain⟨j,K,_⟩:=mG H;have:=K.few;exact⟨by unfold accW;rw[B7];omega,λw hw=>by have:=zG H hw;unfold SmW;omega⟩
end
end
section
structure IdE(M:A8)(S0:A2->Prop)(p:A9)(red:List Bool)(k:Nat)(f g:Nat->Nat):Prop where
 inp:p.I=M.I
 st:p.S=0
 can:CanP p
 kpos:0<k
 ps:∀q (a u:Nat),pnx p q a=(u:Int)->f u=nx M (f q) a/\pot p q a=ot M (f q) a
 lt:∀q,q<p.N.length->f q<M.N.length
 kn:∀w,S0 w->∃y c,Goes p 0 w y c
 lb:∀j,j<k->∃x,(accL (M9 M))[j]?=some x/\(∃y,Goes p 0 x.2 y (g j))/\f (g j)=j
 rd:∀i,red[i]?=some true↔∃j,j<k/\g j=i
section
variable {M m:A8}{W:A4}{S0:A2->Prop}{p:A9}{red:List Bool}{k:Nat}{f g:Nat->Nat}
def IdE.noc(J:IdE M S0 p red k f g)(H:H7 p){r b:Nat}(hr:r<p.N.length)(hb:b<p.N.length)(h:f r=f b):¬P8 p r b:=λ⟨q,q',a,hc,h1,h2,h3⟩=>by
 obtain⟨u,hu⟩:=pnx_nat H h1;obtain⟨v,hv⟩:=pnx_nat H h2;exact h3 (by rw[(J.ps q a u hu).2,(J.ps q' a v hv).2,no_confl H J.ps hr hb h hc])
def IdE.gl(J:IdE M S0 p red k f g)(H:H7 p){j:Nat}(hj:j<k):g j<p.N.length:=by
 obtain⟨x,_,⟨y,hy⟩,_⟩:=J.lb j hj;exact hy.lt H H.n1
def IdE.all(J:IdE M S0 p red k f g)(S:iO M (accL (M9 M)) W S0){j a:Nat}(hj:j<k)(ha:a<M.I.toNat):∃u:Nat,pnx p (g j) a=(u:Int):=by
 obtain⟨x,x1,⟨y,x3⟩,_⟩:=J.lb j hj;obtain⟨y',c,g0⟩:=J.kn _ (S.t1 x (G6 x1) a ha);obtain⟨d,z1,z2,_,g1,g2⟩:=g0.split;obtain⟨_,rfl⟩:=x3.det g1;obtain⟨b,u,_,e,hu,_⟩:=g2;have e:b=a:=by omega
 subst e;exact⟨u,hu⟩
def IdE.same(J:IdE M S0 p red k f g)(S:iO M (accL (M9 M)) W S0)(H:H7 p){r i a b:Nat}(hr:r<k)(hi:i<k)(hb:pnx p (g i) a=(b:Int))(hn:¬P8 p (g r) b):f (g r)=f b:=by
 obtain⟨b1,b2,b3⟩:=Q4 H hb;rw[J.inp]at b2;refine Q9 λa3=>hn ?_;have a5:=J.gl H hr;obtain⟨w,hw,a6,hd⟩:=S.sep (f (g r)) (f b) (J.lt _ a5) (J.lt b b3) a3;obtain⟨x,x1,⟨y,x3⟩,_⟩:=J.lb r hr;obtain⟨x',a4,⟨y',a2⟩,_⟩:=J.lb i hi;obtain⟨y1,c1,g1⟩:=J.kn _ (S.t2 x (G6 x1) w hw);obtain⟨y2,c2,g2⟩:=J.kn _ (S.t3 x' (G6 a4) a b2 w hw);obtain⟨d1,_,z1,_,g3,g4⟩:=g1.split;obtain⟨d2,_,z2,_,g5,g6⟩:=g2.split;obtain⟨_,rfl⟩:=x3.det g3;obtain⟨_,rfl⟩:=(a2.snoc hb).det g5;refine confl_of .base g4 g6 ?_;rw[(goes_psi J.ps g4).2,(goes_psi J.ps g6).2];exact hd
def goes_map(D:aW m M)(H:H7 p)(hinp:p.I=M.I)(hps:∀q (a u:Nat),pnx p q a=(u:Int)->f u=nx M (f q) a/\pot p q a=ot M (f q) a)(hlt:∀q,q<p.N.length->f q<M.N.length):∀{w y:A2} {q c:Nat},Goes p q w y c->∃y',Goes (M9 M) (f q) w y' (f c)
 |[],y,q,c,h=>by
  obtain⟨rfl,rfl⟩:=h;exact⟨[],rfl,rfl⟩
 |x::w,y,q,c,h=>by
  obtain⟨a,u,y',rfl,h2,rfl,h4⟩:=h;obtain⟨r1,r2,r3⟩:=Q4 H h2;obtain⟨e1,e2⟩:=hps q a u h2;obtain⟨z,hz⟩:=goes_map D H hinp hps hlt h4;obtain⟨m1,m2,_⟩:=mM D.ok (hlt q r1) (a:=a) (by rw[<- hinp];exact r2);exact⟨_,a,f u,z,rfl,by rw[m1,e1],rfl,hz⟩
def IdE.f0(J:IdE M S0 p red k f g)(D:aW m M):g 0=0/\f 0=0:=by
 obtain⟨x,x1,⟨y,x3⟩,x4⟩:=J.lb 0 J.kpos;obtain⟨j,C,_⟩:=pI (iR D.ok) (uU D) D.start;have h0:=C.K.st;rw[h0]at x1;injection x1 with x1
 rw[<- x1]at x3;have:=x3.2;rw[this]at x4;exact⟨this,x4⟩
def IdE.promote(J:IdE M S0 p red k f g)(D:aW m M)(S:iO M (accL (M9 M)) W S0)(H:H7 p)(hr:red.length=p.N.length){b:Nat}(hb:BlueE p red b)(hc:∀r:Nat,red[r]?=some true->P8 p r b)(hmin:∀c,(∃r a,bG p red r a c)->(∀r:Nat,red[r]?=some true->P8 p r c)->b<=c):IdE M S0 p (red.set b true) (k+1) f λj=>if j=k then b else g j:=by
 have HM:=iR D.ok;have PM:=uU D;obtain⟨a6,a2⟩:=J.f0 D;obtain⟨jM,CM,c8⟩:=pI HM PM D.start;obtain⟨jp,Cp,d0⟩:=pI H J.can J.st;have b3:(accL (M9 M)).length=M.N.length:=accL_len HM (partM_conn D);have b4:k<=f b:=oH λh=>J.noc H (J.gl H h) hb.lt (J.lb _ h).choose_spec.2.2 (hc _ ((J.rd _).2 ⟨_,h,rfl⟩));have c7:=J.lt b hb.lt;have c0:k<(accL (M9 M)).length:=by omega
 have hz:=get_at c0;generalize (accL (M9 M))[k]=z at hz
 -- the parent of the next access word
 rcases CM.K.pre z (G6 hz) with h|⟨i',y,c,h1,h2,_⟩
 ·exfalso;have h3:=CM.lt CM.K.st hz J.kpos;rw[h]at h3;simp only at h3;rw[eQ]at h3;cases h3
 have a3:i'<k:=yG λb6=>by
  have:=CM.le hz h1 b6;rw[h2]at this;rcases this with h|h
  ·have:=congrArg List.length h;simp at this
  ·unfold cmpW at h;rw[if_neg (by simp)]at h;rw[if_pos (by simp)]at h;cases h
 have b9:y.1=i':=CM.fst h1;obtain⟨x,x1,⟨yx,x3⟩,x4⟩:=J.lb i' a3;rw[h1]at x1;injection x1 with x1
 subst x1
 -- its link in the machine
 have d1:z.1=k:=CM.fst hz
 have a8:c<M.I.toNat/\nx M i' c=k:=by
  obtain⟨yz,gz⟩:=CM.K.go z (G6 hz);obtain⟨yy,gy⟩:=CM.K.go y (G6 h1);rw[h2]at gz;obtain⟨d,w1,w2,_,g1,g2⟩:=gz.split;obtain⟨_,rfl⟩:=gy.det g1;obtain⟨a,u,y',e,hu,_,g3⟩:=g2;have ea:a=c:=by omega
  subst ea;have hq:=g3.2;obtain⟨r1,r2,r3⟩:=Q4 HM hu;have r2:a<M.I.toNat:=r2;have r1:y.1<M.N.length:=r1;obtain⟨m1,_,_⟩:=mM D.ok r1 r2;rw[hu]at m1;rw[<- b9];exact⟨r2,by omega⟩
 obtain⟨u,hu⟩:=J.all S a3 a8.1;have c6:=(Q4 H hu).2.2;have b2:f u=k:=by rw[(J.ps _ _ _ hu).1,x4,a8.2]
 have a5:red[u]?=some false:=by
  have hx:=get_at (l:=red) (i:=u) (by omega);cases he:red[u]with
  |false=>rw[hx,he]
  |true =>
   obtain⟨j,j1,j2⟩:=(J.rd u).1 (by rw[hx,he]);obtain⟨_,_,_,q⟩:=J.lb j j1;rw[j2,b2]at q;omega
 have b8:b<=u:=hmin u ⟨g i',c,(J.rd _).2 ⟨i',a3,rfl⟩,hu,a5⟩ λr b5=>by
  obtain⟨j,j1,rfl⟩:=(J.rd r).1 b5;refine Q9 λhn=>?_;have:=J.same S H j1 a3 hu hn;obtain⟨_,_,_,q⟩:=J.lb j j1;rw[q,b2]at this;omega
 -- the words
 obtain⟨zu,a9,lu⟩:=acc_min H J.can J.st _ rfl (x3.snoc hu);have b7:b<(accL p).length:=by have:=(E0.1 a9).1;omega
 have a4:=get_at b7;generalize (accL p)[b]=zb at a4;have l1:LeW zb.2 z.2:=by rw[h2];exact(Cp.le a4 a9 b8).trans lu
 obtain⟨yb,gb⟩:=Cp.K.go zb (G6 a4);rw[J.st,Cp.fst a4]at gb;have gb:Goes p 0 zb.2 yb b:=gb;obtain⟨yf,gf⟩:=goes_map D H J.inp J.ps J.lt gb;rw[a2]at gf;obtain⟨zf,a7,lf⟩:=acc_min HM PM D.start _ rfl gf;have l2:LeW z.2 zf.2:=CM.le hz a7 b4;have e1:zb.2=z.2:=l1.anti (l2.trans lf)
 have e2:f b=k:=by
  rcases J3 k (f b) with h|h
  ·exfalso;have h3:=CM.lt hz a7 h;have h4:LeW zf.2 z.2:=by rw[<- e1];exact lf
   rcases h4 with h4|h4
   ·rw[h4,eQ]at h3;cases h3
   ·have:=jX _ _ _ h3 h4;rw[eQ]at this;cases this
  ·omega
 have c9:∀j,j<k->g j≠b:=λj hj e=>by
  have:=(J.rd b).2 ⟨j,hj,e⟩;rw[hb.wh]at this;cases this
 refine⟨J.inp,J.st,J.can,by omega,J.ps,J.lt,J.kn,λj hj=>?_,λi=>?_⟩
 ·by_cases e:j=k
  ·rw[if_pos e,e];exact⟨z,hz,⟨yb,by rw[<- e1];exact gb⟩,e2⟩
  ·rw[if_neg e];exact J.lb j (by omega)
 ·by_cases e:i=b
  ·rw[e,P5 (by have:=hb.lt;omega)];exact⟨λ_=>⟨k,by omega,by rw[if_pos rfl]⟩,λ_=>rfl⟩
  ·rw[O3 (λh=>e h.symm),J.rd i];constructor
   ·rintro⟨j,j1,j2⟩;exact⟨j,by omega,by rw[if_neg (by omega)];exact j2⟩
   ·rintro⟨j,j1,j2⟩;by_cases ej:j=k
    ·rw[if_pos ej]at j2;exact absurd j2.symm e
    ·rw[if_neg ej]at j2;exact⟨j,by omega,j2⟩
def IdE.fold(J:IdE M S0 p red k f g)(S:iO M (accL (M9 M)) W S0)(K:LrnI p red){b r0:Nat}{Q:A9}{cl:Nat->Nat}{red':List Bool}(hb:BlueE p red b)(hF:FoldB p red r0 b Q cl red') :
  IdE M S0 (renP Q) red' k (λi=>f (((ordP Q)[i]?).getD 0)) λj=>(ordP Q).idxOf (cl (g j)):=by
 obtain⟨H,G,hr⟩:=K;have b6:=J.inp;obtain⟨j0,b7,a7⟩:=(J.rd r0).1 hF.rd0;have b3:r0<p.N.length:=by rw[<- a7];exact J.gl H b7
 obtain⟨r,a,d1,c7,d6⟩:=hb.ex;obtain⟨j1,d2,d5⟩:=(J.rd r).1 d1
 have d4:f r0=f b:=by
  rw[<- a7];exact J.same S H b7 d2 (by rw[d5];exact c7) (by rw[a7];exact hF.no)
 have hO:=hF.quo.ord H
 have b2:∀q,q<p.N.length->f (cl q)=f q:=λq hq=>by
  rw[hF.cls q hq];exact(no_confl H J.ps b3 hb.lt d4 (sU q).2.1).symm
 have b4:∀q,q<p.N.length->cl q∈ordP Q:=λq hq=>hF.quo.mem H (G q hq)
 have b8:∀q,q<p.N.length->(ordP Q)[(ordP Q).idxOf (cl q)]?=some (cl q):=λq hq=>by
  have hl:=cP (b4 q hq);rw[get_at hl,iG hl]
 have c8:∀q,q<p.N.length->f (((ordP Q)[(ordP Q).idxOf (cl q)]?).getD 0)=f q:=λq hq=>by rw[b8 q hq,E7,b2 q hq]
 have a8:=fold_hom H hF.quo;have a6:(renP Q).N.length=(ordP Q).length:=by unfold renP;simp only[B7]
 have a5:Q.I=p.I:=hF.quo.inp;have b9:(renP Q).I=p.I:=a5;have C':=renP_can hF.quo.ren (by rw[a5];exact H.i1)
 have a2:(ordP Q).idxOf (cl 0)=0:=by
  have:=a8.st;rw[J.st]at this;exact this.symm
 have b5:∀(i a u:Nat),pnx (renP Q) i a=(u:Int)->∃r v:Nat,r<p.N.length/\pnx p r a=(v:Int)/\v<p.N.length/\(ordP Q)[i]?=some (cl r)/\(ordP Q)[u]?=some (cl v)/\pot (renP Q) i a=pot p r a:=λi a u hu=>by
  obtain⟨g1,g2,g3⟩:=Q4 hF.ok.ok hu;rw[a6]at g1;rw[b9]at g2;have a3:=get_at g1;have a9:(ordP Q)[i]∈ordP Q:=M8 g1;generalize (ordP Q)[i]=c at a3 a9;have d0:=idx_at_nodup hO.nd a3;obtain⟨c6,c9⟩:=hO.lt c a9
  have c0:gx Q.N c a≠-1:=λe=>by
   unfold pnx renP at hu;simp only at hu;rw[H1,a3,J4,E7]at hu;unfold U0 at hu;rw[H1,P4 (by rw[a5];exact g2),J4,E7]at hu;unfold numT at hu;rw[if_neg λh=>h.1 e]at hu;omega
  obtain⟨l1,l2⟩:=renP_at hF.quo.ren a9 (by rw[a5];exact g2) c0;rw[d0]at l1 l2;obtain⟨⟨r,r1,r2,r3⟩,h3⟩:=(hF.quo.row c a c6 g2 c9).2 c0;obtain⟨h4,h5⟩:=h3 r r1 r2 r3;obtain⟨v,hv⟩:=pnx_nat H r3;have a4:=(Q4 H hv).2.2;rw[hv,H6]at h4;rw[h4,H6,hu]at l1;have eu:u=(ordP Q).idxOf (cl v):=by omega
  refine⟨r,v,r1,hv,a4,by rw[r2];exact a3,by rw[eu];exact b8 v a4,by rw[l2,h5]⟩
 refine⟨b9.trans b6,rfl,C',J.kpos,λi a u hu=>?_,λi hi=>?_,λw hw=>?_,λj hj=>?_,λi=>?_⟩
 ·obtain⟨r,v,r1,hv,a4,h1,h2,h3⟩:=b5 i a u hu;obtain⟨e1,e2⟩:=J.ps r a v hv;rw[h1,h2,E7,E7,b2 r r1,b2 v a4,h3];exact⟨e1,e2⟩
 ·rw[a6]at hi;have a3:=get_at hi;rw[a3,E7];exact J.lt _ (hO.lt _ (M8 hi)).1
 ·obtain⟨y,c,g0⟩:=J.kn w hw;have:=a8.goes (G 0 (by omega)) g0;rw[a2]at this;exact⟨y,_,this⟩
 ·obtain⟨x,x1,⟨y,x3⟩,x4⟩:=J.lb j hj;have d3:=J.gl H hj;refine⟨x,x1,⟨y,?_⟩,?_⟩
  ·have:=a8.goes (G 0 (by omega)) x3;rw[a2]at this;exact this
  ·rw[c8 _ d3,x4]
 ·rw[hF.rds i];constructor
  ·rintro⟨q,q1,q2⟩;obtain⟨j,j1,rfl⟩:=(J.rd q).1 q1;exact⟨j,j1,q2⟩
  ·rintro⟨j,j1,j2⟩;exact⟨g j,(J.rd _).2 ⟨j,j1,rfl⟩,j2⟩
end
end
section
section
variable {p:A9}
def evp_step{red:List Bool}(K:LrnE p red) :
  (U7.s4 p.I p.S p.N p.O red=some (.inr (p,0))/\∀r a b,¬bG p red r a b) \/
  ∃b,BlueE p red b/\((((∀r:Nat,red[r]?=some true->P8 p r b)/\∀c,(∃r a,bG p red r a c)->(∀r:Nat,red[r]?=some true->P8 p r c)->b<=c)/\LrnE p (red.set b true)/\U7.s4 p.I p.S p.N p.O red=some (.inl (p.I,p.S,p.N,p.O,red.set b true))) \/
   ∃r0 Q cl red',FoldB p red r0 b Q cl red'/\LrnE (renP Q) red'/\U7.s4 p.I p.S p.N p.O red=some (.inl ((renP Q).I,(renP Q).S,(renP Q).N,(renP Q).O,red'))):=by
 obtain⟨⟨H,G,hr⟩,a9,a5⟩:=K;have hn:=H.n2;obtain⟨M,b1,b3,b4,b5⟩:=ev_bluesP H hr;have b1:V3 (⟨p.I,p.S,p.N,p.O⟩:A9) red=some (I0 M):=b1;have b9:(I0 M).length=M.length:=by unfold I0;rw[B7]
 have hM:∀b,b∈M->b<p.N.length/\red[b]?=some false/\b≠0:=λb hb=>by
  obtain⟨r,a,hc⟩:=(b3 b).1 hb;have hw:=hc.2.2;have:=(E0.1 hw).1;exact⟨by omega,hw,λe=>by rw[e,a5]at hw;cases hw⟩
 have c6:∀r,red[r]?=some true->r<p.N.length:=λr h=>by have:=(E0.1 h).1;omega
 have c1:bB (⟨p.I,p.S,p.N,p.O⟩:A9) red (I0 M)=some (outCh (chF p red none M)):=ev_choose H hr (λb hb=>⟨(hM b hb).1,(hM b hb).2.2⟩) (by omega);by_cases hz:M=[]
 ·left;subst hz;refine⟨?_,λr a b hc=>by have:=(b3 b).2 ⟨r,a,hc⟩;cases this⟩;unfold U7.s4;rw[b1,A5,C2 (by simp[I0]),A5,eC]
 ·right;have c9:0<M.length:=List.length_pos_iff.2 hz
  have s4:∀cc,bB (⟨p.I,p.S,p.N,p.O⟩:A9) red (I0 M)=some cc->U7.s4 p.I p.S p.N p.O red=(cond (decide (cc.2≠(-1:Int))) (idx red cc.2 λa7=>some (.inl (p.I,p.S,p.N,p.O,(List.set red cc.2.toNat true)))) ((nJ p cc.1.red cc.1.blue).bind λa2=>(R2 p a2.1 red).bind λa6=>some (.inl (a2.1.I,a2.1.S,a2.1.N,a2.1.O,a6))):Option ((Int×Int×A4×A4×List Bool)⊕((Int×Int×A4×A4×List Bool)⊕(A9×Int)))).bind (Sum.elim (λ(s:Int×Int×A4×A4×List Bool)=>U7.k3 s.1 s.2.1 s.2.2.1 s.2.2.2.1 s.2.2.2.2) some):=λcc b8=>by
   unfold U7.s4;rw[b1,A5,B1,b8,A5]
  cases f1:chF p red none M with
  |inl b =>
   obtain⟨g1,g2⟩:=chF_inl f1;obtain⟨h1,h2,h3⟩:=hM b g1;have c0:(red.set b true).length=p.N.length:=by rw[P2];exact hr
   refine⟨b,⟨h1,h2,(b3 b).1 g1⟩,.inl ⟨⟨λr a3=>zO g2 r (c6 r a3) a3,λc hc b2=>chF_least b5 f1 ((b3 c).2 hc) (bestF_all b2 _)⟩,⟨⟨H,G,c0⟩,a9,by rw[O3 h3];exact a5⟩,?_⟩⟩
   ·rw[s4 ((⟨0,0,0⟩:X7),(b:Int)) (by rw[c1,f1];rfl),C2 (show((⟨0,0,0⟩:X7),(b:Int)).2≠-1 by simp only;omega),D7 (i:=b) rfl h2,A5,T6];simp only;rw[H6];rfl
  |inr acc =>
   rcases chF_inr f1 with⟨_,h|h⟩|⟨n,b,r,rfl,g1,g2⟩
   ·exact absurd h hz
   ·exact absurd rfl h
   ·obtain⟨h1,h2,h3⟩:=hM b g1;obtain⟨k1,k2,k3,_⟩:=zX g2;simp only at k1 k2 k3;rcases zr3 H k1 h1 with⟨q1,_⟩|⟨_,Q,cl,KQ,q2,q3⟩
    ·exact absurd q1 k3
    ·have d0:clsL p r b=(List.range p.N.length).map λq=>(↑(cl q):Int):=oP λq hq=>by rw[q2 q (K6.1 hq)]
     obtain⟨e1,hO⟩:=R35_Folded_eq H KQ;obtain⟨c8,l3,m2,m3⟩:=reds_ref H G KQ hr;obtain⟨p1,p2,p3⟩:=quo_part H KQ;have a8:(renP Q).N.length=(ordP Q).length:=by unfold renP;simp only[B7]
     have a4:=fold_hom H KQ;obtain⟨out,u1,u2,u3⟩:=ev_follow H p1 a4 G (λv hv=>by rw[a8];exact cP (KQ.mem H (G v hv))) hr;have c7:r≠b:=λe=>by rw[e,h2]at k2;cases k2
     have b7:cl r=cl b:=by rw[q2 r k1,q2 b h1];exact zF.1 .base
     have hx:∃x,x<p.N.length/\cl x≠x:=by
      by_cases k:cl r=r
      ·exact⟨b,h1,λe=>c7 (by rw[<- k,b7,e])⟩
      ·exact⟨r,k1,k⟩
     have hI:LrnI (renP Q) out:=⟨p1,renP_conn KQ.ren,u2⟩;have b6:out[0]?=some true:=(u3 0).2 ⟨0,a5,by have:=a4.st;rw[a9]at this;exact this.symm⟩;refine⟨b,⟨h1,h2,(b3 b).1 g1⟩,.inr ⟨r,Q,cl,out,⟨k2,k3,KQ,q2,u3,hI,p3 hx⟩,⟨hI,rfl,b6⟩,?_⟩⟩
     ·rw[s4 ((⟨(n:Int),(b:Int),(r:Int)⟩:X7),-1) (by rw[c1,f1];rfl),I3 (show ¬((⟨(n:Int),(b:Int),(r:Int)⟩:X7),(-1:Int)).2≠-1 from λh=>h rfl),G5];simp only;rw[merge_Fold_ok H k1 h1 q3,A5,u1,A5,A5,T6];rfl
end
def evp_loop{J:A9->List Bool->Prop}
  (h1:∀p red b,LrnE p red->J p red->BlueE p red b->((∀r:Nat,red[r]?=some true->P8 p r b)/\∀c,(∃r a,bG p red r a c)->(∀r:Nat,red[r]?=some true->P8 p r c)->b<=c)->J p (red.set b true))
  (h2:∀p red b r0 Q cl red',LrnE p red->J p red->BlueE p red b->FoldB p red r0 b Q cl red'->J (renP Q) red') {p:A9} {red:List Bool} (K:LrnE p red) (j:J p red) :
  ∃p' red',iter (λ(s:Int×Int×A4×A4×List Bool)=>U7.s4 s.1 s.2.1 s.2.2.1 s.2.2.2.1 s.2.2.2.2) fuel (p.I,p.S,p.N,p.O,red)=some (p',0)/\LrnE p' red'/\J p' red'/\∀r a b,¬bG p' red' r a b:=by
 have a2:∀{q:A9} {rd:List Bool},LrnI q rd->kP rd<=4096:=λ{q rd} K=>by
  have:=K.ok.n2;unfold kP;refine aP zC ?_;rw[K.len];exact this
 have hw:=a2 K.l;have hn:=K.l.ok.n2
 have key:=J2 (step:=λ(s:Int×Int×A4×A4×List Bool)=>U7.s4 s.1 s.2.1 s.2.2.1 s.2.2.2.1 s.2.2.2.2) (λs=>LrnE ⟨s.1,s.2.1,s.2.2.1,s.2.2.2.1⟩ s.2.2.2.2/\J ⟨s.1,s.2.1,s.2.2.1,s.2.2.2.1⟩ s.2.2.2.2) (λs=>5000*s.2.2.1.length+kP s.2.2.2.2) (λr=>∃p' red',r=(p',0)/\LrnE p' red'/\J p' red'/\∀r a b,¬bG p' red' r a b) (λ⟨y1,y2,y3,y4,rd⟩ ⟨k1,k2⟩=>by
  simp only at k1 k2 ⊢
  rcases evp_step k1 with⟨e,hc⟩|⟨b,hb,⟨hc,kk,e⟩|⟨r0,Q,cl,red',hF,kk,e⟩⟩
  ·exact .inr ⟨_,e,_,rd,rfl,k1,k2,hc⟩
  ·refine .inl ⟨_,e,⟨kk,h1 _ _ b k1 k2 hb hc⟩,?_⟩
   have:=whites_set hb.wh
   simp only
   omega
  ·refine .inl ⟨_,e,⟨kk,h2 _ _ b r0 Q cl red' k1 k2 hb hF⟩,?_⟩
   have a3:=hF.lt
   have:=a2 hF.ok
   simp only at this a3 ⊢
   omega) (p.I,p.S,p.N,p.O,red) ⟨K,j⟩
 obtain⟨r,e,p',red',rfl,q⟩:=key;exact⟨p',red',e,q⟩
def learn_ep{o:G7}{P:A9}{J:A9->List Bool->Prop}(e1:P3 o=some (P,0))(H:H7 P)(G:Conn P)(h0:P.S=0)
  (h1:∀p red b,LrnE p red->J p red->BlueE p red b->((∀r:Nat,red[r]?=some true->P8 p r b)/\∀c,(∃r a,bG p red r a c)->(∀r:Nat,red[r]?=some true->P8 p r c)->b<=c)->J p (red.set b true))
  (h2:∀p red b r0 Q cl red',LrnE p red->J p red->BlueE p red b->FoldB p red r0 b Q cl red'->J (renP Q) red') (j:J P (red0 P)) :
  ∃p' red',U7 o=some (p',0)/\LrnE p' red'/\J p' red'/\∀r a b,¬bG p' red' r a b:=by
 have hn:=H.n2;have hp:=H.n1;obtain⟨p',red',l1,a2⟩:=evp_loop h1 h2 ⟨learn_start H G,h0,red0_get hp⟩ j;refine⟨p',red',?_,a2⟩;unfold U7;rw[e1,A5,B1 (λh=>h rfl),H9 ⟨by omega,eF _,by unfold B4;simp only[H6];omega⟩];simp only;rw[D7 (i:=0) (x:=false) h0 (by rw[Y8,if_pos hp])];have:List.set (List.replicate P.N.length false) P.S.toNat true=red0 P:=by rw[h0];rfl
 rw[this];exact l1
def seed_prog{p:A9}{o:G7}(h1:o.I<=64)(e1:U7 o=some (p,0))(H:H7 p)(hn:p.N.length<=128):∃m M,kO p 0=(m,0)/\I8 m/\m.I=p.I/\m.N.length=p.N.length/\aW m M/\dE o=some (⟨o.I,accW p,sufE o.I.toNat M⟩,0):=by
 obtain⟨m,c1,Hm,c2,c3⟩:=compl_ok H hn;obtain⟨M,m1,S⟩:=xO (pL Hm);have PM:=tB S;have hM:=pL S.ok;have hS:=seps S.ok PM;have a3:=suf_sm S.ok PM (I:=o.I.toNat) (by omega);have a2:[sngL o.I.toNat,chS M].flatten=sngL o.I.toNat++chS M:=by simp
 refine⟨m,M,c1,Hm,c2,c3,S,?_⟩;unfold dE;rw[e1,A5,B1 (λh=>h rfl)];simp only;rw[zqa (by omega),c1,A5,B1 (λh=>h rfl)];simp only;rw[m1,A5];simp only;rw[zna hM PM hS,A5,ev_singles h1,A5,ev_access H,A5];simp only;rw[zrd (by simp) (by rw[a2];exact a3),A5,a2];rfl
end
section
section
variable {M m:A8}{W:A4}{S0:A2->Prop}{p:A9}{red:List Bool}{k:Nat}{f g:Nat->Nat}
def IdE.start{o:G7}(hv:X0 o){P:A9}(H:H7 P)(h0:P.S=0)(hi:P.I=o.I)(T:V9 (sortW (allP o)) o.I.toNat (λv=>v∈sortW (allP o)) (ovT o.T) P.N P.O)(C:CanP P)(S:iO M (accL (M9 M)) W λw=>w∈allP o)(hM:o.I=M.I)(hout:∀t∈o.T,t.O=outs M 0 t.In) :
  IdE M (λw=>w∈allP o) P (red0 P) 1 (λq=>dest M 0 (((sortW (allP o))[q]?).getD [])) λ_=>0:=by
 have J:=IdI.start hv H h0 hi T C S hM hout;refine⟨J.inp,J.st,J.can,J.kpos,J.ps,J.lt,J.kn,λj hj=>?_,λi=>?_⟩
 ·obtain⟨x,x1,x2,y,x3⟩:=J.lb j hj;have e:j=0:=by omega
  subst e;have hx:=S.bfs.first;rw[x1]at hx;injection hx with hx
  exact⟨x,x1,⟨y,x3⟩,by rw[x2,hx]⟩
 ·rw[J.rd i];exact⟨λh=>⟨0,Nat.one_pos,by omega⟩,λ⟨j,_,h⟩=>by omega⟩
def IdE.done(J:IdE M S0 p red k f g)(S:iO M (accL (M9 M)) W S0)(K:LrnI p red)(hno:∀r a b,¬bG p red r a b)(D:aW m M):p=M9 M:=by
 obtain⟨H,G,hr⟩:=K;have a4:=J.inp
 have a7:∀q,RS p q->∃j,j<k/\g j=q:=λq h=>by
  induction h with
  |st=>exact⟨0,J.kpos,by rw[J.st];exact(J.f0 D).1⟩
  |step a u h hu ih =>
   rename_i q;obtain⟨h1,h2,h3⟩:=Q4 H hu;refine(J.rd u).1 (Q9 λa9=>hno q a u ⟨(J.rd q).2 ih,hu,?_⟩);have hx:=get_at (l:=red) (i:=u) (by omega);cases hc:red[u]with
   |false=>rw[hx,hc]
   |true=>exact absurd (by rw[hx,hc]) a9
 have a5:∀q,q<p.N.length->g (f q)=q:=λq hq=>by
  obtain⟨j,j1,rfl⟩:=a7 q (G q hq);obtain⟨_,_,_,e⟩:=J.lb j j1;rw[e]
 have a6:∀q a,q<p.N.length->a<p.I.toNat->∃u:Nat,pnx p q a=(u:Int)/\u<p.N.length:=λq a hq ha=>by
  obtain⟨j,j1,rfl⟩:=a7 q (G q hq);obtain⟨u,hu⟩:=J.all S j1 (by rw[<- a4];exact ha);exact⟨u,hu,(Q4 H hu).2.2⟩
 have b9:p.N.length<=M.N.length:=by
  have b5:((List.range p.N.length).map f).Nodup:=by
   rw[yY,lR];refine List.Pairwise.imp_of_mem (λ{a b} ha hb a9 e=>a9 ?_) (yY.1 oS);rw[<- a5 a (K6.1 ha),<- a5 b (K6.1 hb),e]
  have:=eV (b:=List.range M.N.length) b5 λx hx=>by
   obtain⟨q,hq,rfl⟩:=H0.1 hx;exact K6.2 (J.lt q (K6.1 hq))
  rw[B7,M5,M5]at this;exact this
 have b8:=S.mac.n2
 have a2:∀q a,q<p.N.length->a<p.I.toNat->∃u:Nat,pnx p q a=(u:Int)/\nx (macP p) q a=u/\ot (macP p) q a=pot p q a:=λq a hq ha=>by
  obtain⟨u,hu,_⟩:=a6 q a hq ha;obtain⟨_,_,_,_,_,x,y,x1,x2,x3,x4,_⟩:=H.at hq ha;refine⟨u,hu,?_,?_⟩
  ·unfold nx macP;rw[x1,E7,x3,E7,hu,H6]
  ·unfold ot macP;rw[x2,E7,x4,E7]
 have b2:I8 (macP p):=by
  refine⟨H.i1,H.i2,H.n1,?_,H.st,H.ol,λs hs=>?_⟩
  ·show p.N.length<=128;omega
  ·obtain⟨x,y,h1,h2,h3,h4,h5⟩:=H.row s hs
   have hc:∀a (u v:Int),x[a]?=some u->y[a]?=some v->0<=u/\u<(p.N.length:Int)/\0<=v/\v<=1048576:=λa u v hu hv=>by
    obtain⟨c1,c2,c3,c4,c5⟩:=h5 a u v hu hv;have c0:=(E0.1 hu).1;obtain⟨w,hw,_⟩:=a6 s a hs (by omega);unfold pnx at hw;rw[h1,E7,hu,E7]at hw;exact⟨by omega,c2,by omega,c4⟩
   refine⟨x,y,h1,h2,h3,h4,λu hu=>?_,λv hv=>?_⟩
   ·obtain⟨a,ha,e⟩:=aQ hu;obtain⟨q1,q2,_⟩:=hc a u _ (by rw[get_at ha,e]) (get_at (l:=y) (i:=a) (by omega));exact⟨q1,q2⟩
   ·obtain⟨a,ha,e⟩:=aQ hv;exact(hc a _ v (get_at (l:=x) (i:=a) (by omega)) (by rw[get_at ha,e])).2.2
 have a3:∀(w:A2) (i:Nat),i<p.N.length->WOk M.I w->outs (macP p) i w=outs M (f i) w:=by
  intro w
  induction w with
  |nil=>intro i _ _;rfl
  |cons a w ih =>
   intro i hi hw;have ha:=hw.head;obtain⟨u,hu,e1,e2⟩:=a2 i a.toNat hi (by omega);obtain⟨g1,g2⟩:=J.ps i a.toNat u hu;have a8:=(Q4 H hu).2.2;show ot (macP p) i a.toNat::outs (macP p) (nx (macP p) i a.toNat) w=ot M (f i) a.toNat::outs M (nx M (f i) a.toNat) w;rw[e1,e2,ih u a8 hw.tail,g1,g2]
 have D':aW m (macP p):=by
  refine⟨b2,a4.trans D.inp,J.st,λw hw=>?_,λi j hi hj h=>?_,⟨λi a u hi ha hu b7=>?_,λu hu a8=>?_⟩⟩
  ·have b3:WOk M.I w:=by rw[<- a4];exact hw
   rw[a3 w 0 H.n1 b3,(J.f0 D).2];exact D.eqv w b3
  ·have:=D.min _ _ (J.lt i hi) (J.lt j hj) λw hw=>by
    rw[<- a3 w i hi hw,<- a3 w j hj hw];exact h w (by show WOk p.I w;rw[a4];exact hw)
   rw[<- a5 i hi,<- a5 j hj,this]
  ·obtain⟨v,hv,e1,_⟩:=a2 i a hi ha;obtain⟨i',a',c1,c2,c3,c4⟩:=J.can.c4 i a u v hi ha hu (by omega) hv;obtain⟨v',b6,b4,_⟩:=a2 i' a' (Q4 H c4).1 c1;exact⟨i',a',c1,c2,c3,by omega⟩
  ·obtain⟨i,a,c1,c2,c3⟩:=J.can.c5 u hu a8;obtain⟨v',b6,b4,_⟩:=a2 i a (Q4 H c3).1 c2;exact⟨i,a,c1,c2,by omega⟩
 have e:=wN D' D;rw[<- e];rfl
end
def compl_partM{M:A8}(H:I8 M):kO (M9 M) 0=(M,0):=by
 have hn:=H.n2;unfold kO;rw[if_neg (λh=>h (iR H).valid),if_neg (by omega),if_neg (show ¬128<(M9 M).N.length from Nat.not_lt.2 hn)]
 have a2:∀s,s<M.N.length->M.N[s]?=some (cS (M9 M) s)/\M.O[s]?=some (cT (M9 M) 0 s):=λs hs=>by
  obtain⟨x,y,h1,h2,h3,h4,h5,h6⟩:=H.row s hs
  have hc:∀a,a<M.I.toNat->x[a]?=some (compN s x a)/\y[a]?=some (compO 0 x y a):=λa ha=>by
   have hx:=get_at (l:=x) (i:=a) (by omega);have hy:=get_at (l:=y) (i:=a) (by omega);have:=h5 _ (M8 (l:=x) (n:=a) (by omega));unfold compN compO;rw[hx,hy,E7,E7,if_neg (by omega),if_neg (by omega)];exact⟨rfl,rfl⟩
  have h7:(((M9 M).N[s]?).getD [])=x:=by show((M.N[s]?).getD [])=x;rw[h1];rfl
  have h8:(((M9 M).O[s]?).getD [])=y:=by show((M.O[s]?).getD [])=y;rw[h2];rfl
  unfold cS cT;rw[h1,h2,h7,h8];refine⟨congrArg some (aA λa=>?_),congrArg some (aA λa=>?_)⟩
  all_goals
   show _=((List.range M.I.toNat).map _)[a]?;by_cases ha:a<M.I.toNat
  ·rw[H1,P4 ha,(hc a ha).1];rfl
  ·rw[L0 (by omega),L0 (by rw[B7,M5];omega)]
  ·rw[H1,P4 ha,(hc a ha).2];rfl
  ·rw[L0 (by omega),L0 (by rw[B7,M5];omega)]
 have a3:=H.ol
 have e1:(List.range M.N.length).map (cS (M9 M))=M.N:=aA λs=>by
  by_cases hs:s<M.N.length
  ·rw[H1,P4 hs,(a2 s hs).1];rfl
  ·rw[L0 (by rw[B7,M5];omega),L0 (by omega)]
 have e2:(List.range M.N.length).map (cT (M9 M) 0)=M.O:=aA λs=>by
  by_cases hs:s<M.N.length
  ·rw[H1,P4 hs,(a2 s hs).2];rfl
  ·rw[L0 (by rw[B7,M5];omega),L0 (by omega)]
 show((⟨M.I,M.S,(List.range M.N.length).map (cS (M9 M)),(List.range M.N.length).map (cT (M9 M) 0)⟩:A8),(0:Int))=(M,0);rw[e1,e2]
def learn_minE{o:G7}(ho:SmO o)(hv:X0 o)(hP:(allP o).length<=4090){m M:A8}{L:List (Nat×A2)}{W:A4}(S:iO M L W λw=>w∈allP o)(D:aW m M)(hM:o.I=M.I)(hout:∀t∈o.T,t.O=outs M 0 t.In) :
  U7 o=some (M9 M,0)/\dE o=some (⟨o.I,L.map Prod.snd,sufE o.I.toNat M⟩,0):=by
 obtain⟨P,e1,H,G,h0,hi,T,Q,hQ,R⟩:=tree_prog ho hv hP;have eL:=accL_bfs S.mac D.start S.bfs
 have C:CanP P:=by
  rw[hQ];refine renP_can R ?_;have:(renP Q).I=o.I:=by rw[<- hQ];exact hi
  have h2:Q.I=o.I:=this;rw[h2];exact hv.inp.1
 rw[<- eL]at S;obtain⟨p',red',l1,K,⟨k,f,g,J⟩,a3⟩:=learn_ep (J:=λp red=>∃k f g,IdE M (λw=>w∈allP o) p red k f g) e1 H G h0 (λp red b K ⟨k,f,g,J⟩ hb hc=>⟨k+1,f,_,J.promote D S K.l.ok K.l.len hb hc.1 hc.2⟩) (λp red b r0 Q cl red' K ⟨k,f,g,J⟩ hb hF=>⟨k,_,_,J.fold S K.l hb hF⟩) ⟨1,_,_,IdE.start hv H h0 hi T C S hM hout⟩;have hp:=J.done S K.l a3 D;subst hp;refine⟨l1,?_⟩;obtain⟨m',M',c1,_,_,_,S',s1⟩:=seed_prog (by rw[hM];exact S.mac.i2) l1 (iR S.mac) S.mac.n2;rw[compl_partM S.mac]at c1;injection c1 with c1 _
 subst c1;have a2:M'=M:=wN S' ⟨S.mac,rfl,D.start,λw _=>by rw[D.start];rfl,D.min,D.can⟩;subst a2;rw[s1];unfold accW;rw[eL]
end
def maxR_over{l:A4}{B:Nat}(hB:∀x∈l,x.length<=B):∀(n:Nat) (u:A2),B<=u.length+n->u∈l->∃x∈maxR l,u <+: x
 |0,u,hn,hu=>⟨u,(BP l u).2 ⟨hu,λy hy=>by
   by_cases e:y=u
   ·exact .inl e
   ·refine .inr λhp=>e ?_
    have:=hB y hy
    exact(hp.eq_of_length_le (by omega)).symm⟩,W9 _⟩
 |n+1,u,hn,hu=>by
  by_cases g:∃y∈l,y≠u/\u <+: y
  ·obtain⟨y,hy,hne,hp⟩:=g;have hlt:u.length<y.length:=yG λh=>hne (hp.eq_of_length_le h).symm;obtain⟨x,hx,hyx⟩:=maxR_over hB n y (by omega) hy;exact⟨x,hx,hp.trans hyx⟩
  ·refine⟨u,(BP l u).2 ⟨hu,λy hy=>?_⟩,W9 _⟩;by_cases e:y=u
   ·exact .inl e
   ·exact .inr λhp=>g ⟨y,hy,e,hp⟩
def bfs_len{A:Type}[DecidableEq A]{e:A->Nat->A}{K:Nat}{s0:A}{r:Nat}:∀(u:Nat) (x:A×A2),(bfsB e K s0 r)[u]?=some x->x.2.length<=u:=by
 intro u
 induction u using Nat.strongRecOn with
 |ind u ih =>
  intro x hx;rcases mQ hx with q|⟨r',y,q1,q2,q3,q4⟩
  ·subst q;rw[mH]at hx;injection hx with hx
   subst hx;exact F9 _
  ·have:=ih _ q2 y q3;rw[q4];simp only[H4,O8];omega
structure SampL(M:A8)(L:List (Nat×A2))(l:A4):Prop where
 len:l.length<=303
 wd:∀w∈l,w.length<=12/\WOk M.I w
 tr:∀x∈L,∀a:Nat,a<M.I.toNat->∃w∈l,x.2++[(a:Int)] <+: w
 ac:∀x∈L,∀v∈endsM M,∃w∈l,x.2++v <+: w
 ta:∀x∈L,∀a:Nat,a<M.I.toNat->∀v∈endsM M,∃w∈l,x.2++[(a:Int)]++v <+: w
def R02_Great_r{l:A4}{a c:Nat}(ha:a<=1000):∃b,dZ l (a:Int) (c:Int)=some b/\(b=false->l.length<=a/\∀w∈l,w.length<=c)/\(l.length<=a->(∀w∈l,w.length<=c)->b=false):=by
 unfold dZ
 have key:=aZ (step:=λ(s:Nat)=>dZ.s2 l (a:Int) (c:Int) s) (λi=>i<=l.length/\i<=a+1/\∀j w,j<i->l[j]?=some w->w.length<=c) (λi=>l.length-i) (λr=>(r=.inl ()/\(l.length<=a->∀w∈l,w.length<=c))\/(r=.inr true/\∃w∈l,c<w.length)) (λi ⟨g1,g2,g3⟩=>by
  simp only[dZ.s2]
  by_cases h:i<l.length
  ·have hx:=get_at h
   rw[M6 hx,F7,A5]
   by_cases h2:i<=a
   ·rw[C2,B8 hx]
    by_cases h3:c<l[i].length
    ·rw[C2]
     exact .inr ⟨_,rfl,.inr ⟨rfl,_,M8 h,h3⟩⟩
    ·rw[B1,L3]
     refine .inl ⟨_,rfl,⟨h,by omega,λj w hj hw=>?_⟩,by omega⟩
     rcases J3 j i with q|q
     ·exact g3 j w q hw
     ·have ej:j=i:=by omega
      subst ej
      rw[hx]at hw
      injection hw with hw
      rw[<- hw]
      omega
   ·rw[B1]
    exact .inr ⟨_,rfl,.inl ⟨rfl,λh=>by omega⟩⟩
  ·rw[B1,A5,G5]
   refine .inr ⟨_,rfl,.inl ⟨rfl,λ_ w hw=>?_⟩⟩
   obtain⟨j,hj,e⟩:=aQ hw
   exact g3 j w (by omega) (by rw[get_at hj,e])) fuel 0 ⟨D8 _,D8 _,λj w hj=>absurd hj (O4 _)⟩
 by_cases hl:l.length<100000000000000
 ·obtain⟨r,e,hq⟩:=key (by have:=Y0;omega);rw[e,A5];rcases hq with⟨rfl,h⟩|⟨rfl,w,h1,h2⟩
  ·rw[T6];refine⟨_,rfl,λhb=>?_,λh1 _=>I3 (by omega)⟩;have:=of_decide_eq_false hb;have a3:l.length<=a:=by omega
   exact⟨a3,h a3⟩
  ·rw[eC];exact⟨true,rfl,(λh=>by cases h),λ_ h=>by have:=h w h1;omega⟩
 ·have a2:=J2 (step:=λ(s:Nat)=>dZ.s2 l (a:Int) (c:Int) s) (λi=>i<=a+1) (λi=>a+2-i) (λr=>r=.inl ()\/r=.inr true) (λi g=>by
   simp only[dZ.s2]
   have h:i<l.length:=by omega
   have hx:=get_at h
   rw[M6 hx,F7,A5]
   by_cases h2:i<=a
   ·rw[C2,B8 hx]
    by_cases h3:c<l[i].length
    ·rw[C2]
     exact .inr ⟨_,rfl,.inr rfl⟩
    ·rw[B1,L3]
     exact .inl ⟨_,rfl,by omega,by omega⟩
   ·rw[B1]
    exact .inr ⟨_,rfl,.inl rfl⟩) 0 (D8 _)
  obtain⟨r,e,hq⟩:=a2;rw[e,A5];rcases hq with rfl|rfl
  ·rw[T6,E9 (by omega)];exact⟨true,rfl,(λh=>by cases h),λh=>by omega⟩
  ·rw[eC];exact⟨true,rfl,(λh=>by cases h),λh=>by omega⟩
def trM(m:A8)(w:A2):C7:=⟨w,outs m m.S.toNat w⟩
def wok_of{w:A2}{n:Int}(h:R8 w n=0):WOk n w:=(lG h).2
def R06_Traces_r{m:A8}(hv:P9 m=0){l:A4}(hl:l.length<=10000)(hw:∀w∈l,w.length<=1000):∃r,fS m l=some r/\(r.2=0->r.1=l.map (trM m)/\∀w∈l,R8 w m.I=0):=by
 have H:=aY hv;have a3:=H.st;have a2:(m.S.toNat:Int)=m.S:=oO a3.1;unfold fS;rw[iX,A5,hv,B1 (λh=>h rfl),B1]
 have key:=J2 (step:=λ(s:List C7×Nat)=>fS.s2 m l s.1 s.2) (λs=>s.2<=l.length/\s.1=(l.take s.2).map (trM m)/\∀j w,j<s.2->l[j]?=some w->R8 w m.I=0) (λs=>l.length-s.2) (λr=>(r=.inl (l.map (trM m))/\∀w∈l,R8 w m.I=0)\/∃e:Int,r=.inr ([],e)/\e≠0) (λ⟨y,i⟩ ⟨g1,g2,g3⟩=>by
  simp only at g1 g2 g3
  subst g2
  simp only[fS.s2]
  by_cases h:i<l.length
  ·have hx:=get_at h
   have a4:=hw _ (M8 h)
   rw[M6 hx,F7,B8 hx,wT _ _ (by unfold SmW;omega),A5]
   by_cases hc:R8 l[i] m.I=0
   ·rw[B1 (λh=>h hc),B8 hx]
    have ho:=AM H (s:=m.S.toNat) (by omega) (wok_of hc) (by omega)
    rw[a2]at ho
    rw[ho,A5,B8 hx,qC _ (by simp) (by simp;omega),A5,H9 (by simp only[B7,M3];unfold B4;omega)]
    refine .inl ⟨_,rfl,⟨h,?_,λj w hj hw=>?_⟩,by simp only;omega⟩
    ·simp only[V4,oG,W8]
     rw[W4 hx,L1]
     rfl
    ·rcases J3 j i with q|q
     ·exact g3 j w q hw
     ·have ej:j=i:=by simp only at hj;omega
      subst ej
      rw[hx]at hw
      injection hw with hw
      rw[<- hw]
      exact hc
   ·rw[C2 hc]
    exact .inr ⟨_,rfl,.inr ⟨_,rfl,hc⟩⟩
  ·rw[B1,fG (by omega)]
   refine .inr ⟨_,rfl,.inl ⟨rfl,λw hw=>?_⟩⟩
   obtain⟨j,hj,e⟩:=aQ hw
   exact g3 j w (by omega) (by rw[get_at hj,e])) ([],0) ⟨D8 _,rfl,λj w hj=>absurd hj (O4 _)⟩
 obtain⟨r,e,hq⟩:=key;rw[e,A5];rcases hq with⟨rfl,h⟩|⟨e,rfl,h⟩
 ·exact⟨_,rfl,λ_=>⟨rfl,h⟩⟩
 ·exact⟨_,rfl,λh2=>absurd h2 h⟩
def addQ_cover{l:List C7}{t:C7}:(t.In=[]\/∃x∈addL l t,t.In <+: x.In)/\(∀y∈l,∃x∈addL l t,y.In <+: x.In)/\∀x∈addL l t,x=t\/x∈l:=by
 unfold addL;by_cases h:bT l t.In=true\/t.In=[]
 ·rw[if_pos h];refine⟨h.elim (λh=>?_) .inl,λy hy=>⟨y,hy,W9 _⟩,λx hx=>.inr hx⟩;obtain⟨u,hu,hp⟩:=eE.1 h;exact .inr ⟨u,hu,of_decide_eq_true hp⟩
 ·rw[if_neg h];refine⟨.inr ⟨t,kV.2 (.inl rfl),W9 _⟩,λy hy=>?_,λx hx=>?_⟩
  ·by_cases e:y.In <+: t.In
   ·exact⟨t,kV.2 (.inl rfl),e⟩
   ·exact⟨y,kV.2 (.inr (yE.2 ⟨hy,by simp[e]⟩)),W9 _⟩
  ·exact(kV.1 hx).imp id λh=>(yE.1 h).1
structure ObsC(n:Int)(l:List C7)(o:G7):Prop where
 sm:SmTr o.T
 ok:X0 o
 inp:o.I=n
 mem:∀t∈o.T,t∈l
 cov:∀t∈l,t.In=[]\/∃x∈o.T,t.In <+: x.In
def ObsC.add{n:Int}{l:List C7}{o:G7}(C:ObsC n l o){t:C7}(ht:SmX t)(h:(addO o t).2=0):ObsC n (l++[t]) (addO o t).1:=by
 have a3:=addO_ok (t:=t) C.ok;have a2:=a3.num;obtain⟨c1,c2,c3⟩:=addQ_cover (l:=o.T) (t:=t)
 have he:(addO o t).1=⟨o.I,addL o.T t⟩:=by
  unfold addO at h ⊢;split
  ·rename_i g;rw[if_pos g]at h;exact absurd h g
  ·rename_i g;rw[if_neg g]at h;split
   ·rename_i g2;rw[if_pos g2]at h;cases h
   ·rename_i g2;rw[if_neg g2]at h;split
    ·rename_i g3;rw[if_pos g3]at h;cases h
    ·rfl
 rw[he]at a3 a2 ⊢;refine⟨⟨by simp only at a2 ⊢;omega,λx hx=>?_⟩,a3,C.inp,λx hx=>?_,λx hx=>?_⟩
 ·rcases c3 x hx with e|e
  ·rw[e];exact ht
  ·exact C.sm.2 x e
 ·rcases c3 x hx with e|e
  ·rw[e];exact L2 _ (I7.2 rfl)
  ·exact K9 _ (C.mem x e)
 ·rcases I2.1 hx with e|e
  ·rcases C.cov x e with q|⟨y,y1,y2⟩
   ·exact .inl q
   ·obtain⟨z,z1,z2⟩:=c2 y y1;exact .inr ⟨z,z1,y2.trans z2⟩
  ·rw[I7.1 e];exact c1
def R16_All_r{n:Int}{l:List C7}(hn:ObsC n [] ⟨n,[]⟩)(hs:∀t∈l,SmX t)(hl:l.length<=100000):∃r,cF ⟨n,[]⟩ l=some r/\(r.2=0->ObsC n l r.1):=by
 unfold cF
 have key:=J2 (step:=λ(s:Int×List C7×Nat)=>cF.s2 ⟨n,[]⟩ l s.1 s.2.1 s.2.2) (λs=>s.2.2<=l.length/\ObsC n (l.take s.2.2) ⟨s.1,s.2.1⟩) (λs=>l.length-s.2.2) (λr=>(∃s,r=.inl s/\ObsC n l ⟨s.1,s.2⟩)\/∃q:G7×Int,r=.inr q/\q.2≠0) (λ⟨y,z,i⟩ ⟨g1,g2⟩=>by
  simp only at g1 g2
  simp only[cF.s2]
  by_cases h:i<l.length
  ·have hx:=get_at h
   have ht:=hs _ (M8 h)
   rw[M6 hx,F7,B8 hx,R16_Add_eq (o:=⟨y,z⟩) g2.sm g2.ok ht,A5]
   by_cases e:(addO ⟨y,z⟩ l[i]).2=0
   ·rw[B1 (λh=>h e)]
    refine .inl ⟨_,rfl,⟨h,?_⟩,by simp only;omega⟩
    simp only
    rw[W4 hx]
    exact g2.add ht e
   ·rw[C2 e]
    exact .inr ⟨_,rfl,.inr ⟨_,rfl,e⟩⟩
  ·rw[B1]
   rw[fG (by omega)]at g2
   exact .inr ⟨_,rfl,.inl ⟨_,rfl,g2⟩⟩) (n,[],0) ⟨D8 _,hn⟩
 obtain⟨r,e,hq⟩:=key;simp only;rw[e,A5];rcases hq with⟨s,rfl,h⟩|⟨q,rfl,h⟩
 ·exact⟨_,rfl,λ_=>h⟩
 ·exact⟨_,rfl,λh2=>absurd h2 h⟩
def R16_Of_r{m:A8}(hv:P9 m=0){l:A4}(hl:l.length<=10000)(hw:∀w∈l,w.length<=1000):∃o f,R16_Of m l=some (o,f)/\(f=0->ObsC m.I (l.map (trM m)) o/\∀w∈l,R8 w m.I=0):=by
 have H:=aY hv;have a4:=H.i1;have a3:=H.i2;obtain⟨⟨y,f⟩,e1,h1⟩:=R06_Traces_r hv hl hw;unfold R16_Of;rw[e1,A5];by_cases hf:f=0
 ·obtain⟨h2,h3⟩:=h1 hf;simp only at h2;subst h2;rw[B1 (λh=>h hf)]
  obtain⟨⟨o,g⟩,e2,h4⟩:=R16_All_r (n:=m.I) (l:=l.map (trM m)) ⟨⟨by simp,λt ht=>by simp at ht⟩,obsOk_of ⟨by simp only;omega,by simp only;omega⟩ (by simp) (λt ht=>by simp at ht) List.Pairwise.nil List.Pairwise.nil,rfl,λt ht=>by simp at ht,λt ht=>by cases ht⟩ (λt ht=>by
   obtain⟨w,a2,rfl⟩:=H0.1 ht
   have:=hw w a2
   unfold SmX trM SmW
   simp only[fP]
   omega) (by rw[B7];omega)
  rw[e2,A5];by_cases hg:g=0
  ·rw[B1 (λh=>h hg)];exact⟨_,_,rfl,λ_=>⟨h4 hg,h3⟩⟩
  ·rw[C2 hg];exact⟨_,_,rfl,λh=>absurd h hg⟩
 ·rw[C2 hf];exact⟨_,_,rfl,λh=>absurd h hf⟩
def flatQ_le{V:Type}{f:V->A4}{B:Nat}:∀(l:List V),(∀x∈l,(f x).length<=B)->(l.flatMap f).length<=l.length*B
 |[],_=>by simp
 |x::l,h=>by
  have:=flatQ_le l λy hy=>h y (M7 _ hy);have:=h x U9;rw[S6,H4,G8,Nat.add_mul,lQ];omega
def great36_r(m:A8):∃b,bJ m=some b/\(b=false->m.N.length<=6/\∀x∈m.N,x.length<=3):=by
 unfold bJ
 have key:=aZ (step:=λs=>bJ.s2 m s) (λk=>k<=m.N.length/\k<=7/\∀x∈m.N.take k,x.length<=3) (λk=>8-k)
  (λr=>match r with|.inl ()=>m.N.length<=6->∀x∈m.N,x.length<=3|.inr b=>b=true) (λk ⟨g1,g2,g3⟩=>by
   simp only[bJ.s2]
   by_cases h:k<m.N.length
   ·have hx:=get_at h
    rw[M6 hx,F7,A5]
    by_cases h2:k<7
    ·rw[C2 (by omega:(k:Int)<7),B8 hx]
     by_cases h3:3<m.N[k].length
     ·right
      exact⟨.inr true,by rw[C2],rfl⟩
     ·left
      refine⟨k+1,by rw[B1,L3],⟨h,by omega,λx a2=>?_⟩,by omega⟩
      rw[W4 hx]at a2
      rcases I2.1 a2 with a2|a2
      ·exact g3 x a2
      ·rw[I7.1 a2];omega
    ·right
     exact⟨.inl (),by rw[B1 (by omega:¬(k:Int)<7)],λh4=>by omega⟩
   ·right
    have e:k=m.N.length:=by omega
    subst e
    refine⟨.inl (),by rw[X6,G5,A5,G5],λ_ x hx=>g3 x (by rw[R5];exact hx)⟩) fuel 0 ⟨D8 _,by omega,by simp⟩
 obtain⟨r,e,hq⟩:=key (by have:=Y0;omega);rw[e,A5];cases r with
 |inr b =>
  have hq:b=true:=hq;exact⟨_,rfl,λhb=>by rw[hq]at hb;cases hb⟩
 |inl u =>
  have hq:m.N.length<=6->∀x∈m.N,x.length<=3:=hq;simp only[T6]
  have key:=aZ (step:=λs=>bJ.s4 m s) (λk=>k<=m.O.length) (λk=>m.O.length-k) (λr=>r=.inl ()\/r=.inr true) (λk g1=>by
   simp only[bJ.s4]
   by_cases h:k<m.O.length
   ·have hx:=get_at h
    rw[M6 hx,F7,A5]
    by_cases h2:k<11
    ·rw[C2 (by omega:(k:Int)<11),B8 hx]
     by_cases h3:3<m.O[k].length
     ·right
      exact⟨.inr true,by rw[C2],.inr rfl⟩
     ·left
      exact⟨k+1,by rw[B1,L3],h,by omega⟩
    ·right
     exact⟨.inl (),by rw[B1 (by omega:¬(k:Int)<11)],.inl rfl⟩
   ·right
    exact⟨.inl (),by rw[B1,A5,G5],.inl rfl⟩)
  by_cases ho:m.O.length<=100000000
  ·obtain⟨r,e,hr⟩:=key fuel 0 (D8 _) (by have:=Y0;omega);rw[e,A5];rcases hr with rfl|rfl
   ·simp only[T6];by_cases h6:6<m.N.length
    ·rw[C2,A5];exact⟨_,rfl,λhb=>by cases hb⟩
    ·rw[B1,A5];exact⟨_,rfl,λ_=>⟨by omega,hq (by omega)⟩⟩
   ·exact⟨_,rfl,λhb=>by cases hb⟩
  ·have key:=J2 (step:=λs=>bJ.s4 m s) (λk=>k<=11) (λk=>12-k) (λr=>r=.inl ()\/r=.inr true) (λk g1=>by
    simp only[bJ.s4]
    have h:k<m.O.length:=by omega
    have hx:=get_at h
    rw[M6 hx,F7,A5]
    by_cases h2:k<11
    ·rw[C2 (by omega:(k:Int)<11),B8 hx]
     by_cases h3:3<m.O[k].length
     ·right
      exact⟨.inr true,by rw[C2],.inr rfl⟩
     ·left
      exact⟨k+1,by rw[B1,L3],by omega,by omega⟩
    ·right
     exact⟨.inl (),by rw[B1 (by omega:¬(k:Int)<11)],.inl rfl⟩) 0 (by omega)
   obtain⟨r,e,hr⟩:=key;rw[e,A5];rcases hr with rfl|rfl
   ·simp only[T6];by_cases h6:6<m.N.length
    ·rw[C2,A5];exact⟨_,rfl,λhb=>by cases hb⟩
    ·rw[B1,A5];exact⟨_,rfl,λ_=>⟨by omega,hq (by omega)⟩⟩
   ·exact⟨_,rfl,λhb=>by cases hb⟩
def sample_ref{m:A8}(hv:P9 m=0)(h6:m.N.length<=6)(h3:m.I<=3):∃M L l,aW m M/\M.N.length<=6/\MEnd M 0 L/\N4 m=some (M,0)/\aM m=some (l,0)/\SampL M L l:=by
 have H:=aY hv;obtain⟨M,e1,e2,S⟩:=min_same hv;have hM:=pL S.ok;have PM:=tB S;obtain⟨d6,_⟩:=sem_le H S;have hi:=S.inp;have d2:=S.ok.i1;obtain⟨L,hE,c3⟩:=CJ hM;have hc:kA M=some (L.map Prod.snd,0):=by unfold kA;rw[c3,A5]
 have c0:M.S.toNat=0:=by rw[S.start];rfl
 rw[c0]at hE;have c7:=mEnd_rng S.ok S.ok.n1 hE;have d0:M.N.length*M.N.length<=6*6:=dH (by omega) (by omega);have e0:M.N.length*M.N.length*M.I.toNat<=6*6*3:=dH d0 (by omega);have d5:(L.map Prod.snd).length<=6:=by rw[B7];omega
 have a6:∀w∈L.map Prod.snd,w.length<=5/\WOk M.I w:=λu hu=>by
  obtain⟨x,hx,rfl⟩:=H0.1 hu;refine⟨?_,(c7.2 x hx).2.2⟩;obtain⟨i,b4,e⟩:=aQ hx;have a3:=get_at b4;rw[e,hE.eq]at a3;have:=bfs_len i x a3;omega
 have d1:∀w∈L.map Prod.snd,w=[]\/w∈aV M.I.toNat (L.map Prod.snd):=λu hu=>by
  obtain⟨x,hx,rfl⟩:=H0.1 hu;obtain⟨i,b4,e⟩:=aQ hx;have a3:=get_at b4;rw[e]at a3;rcases hE.from (by omega) a3 with q|⟨i',a,y,q1,q2,q3,q4⟩
  ·subst q;rw[hE.first]at a3;injection a3 with a3
   exact .inl (by rw[<- a3])
  ·refine .inr (vK.2 ⟨y.2,H0.2 ⟨y,G6 q3,rfl⟩,a,q2,?_⟩);rw[q4]
 have b3:∀x∈L,x.2∈L.map Prod.snd:=λx hx=>H0.2 ⟨x,hx,rfl⟩;obtain⟨d4,a9,_⟩:=endsM_ok S.ok PM (by omega)
 have hW:(cond (decide ((↑(List.length (chS M)):Int)=0)) (some [[]]) (some (chS M)):Option (A4))=some (endsM M):=by
  unfold endsM;by_cases h:(chS M).length=0
  ·rw[C2,if_pos h]
  ·rw[B1,if_neg h]
 generalize hP:L.map Prod.snd=P at *
 have hT:(aV M.I.toNat P).length<=18:=by
  rw[tranL_len];have:P.length*M.I.toNat<=6*3:=dH d5 (by omega);omega
 have a5:∀w∈aV M.I.toNat P,w.length<=6/\WOk M.I w:=λx hx=>by
  obtain⟨w,hw,a,ha,rfl⟩:=vK.1 hx;obtain⟨q1,q2⟩:=a6 w hw;refine⟨by rw[H4];simp;omega,λz hz=>?_⟩;rcases I2.1 hz with hz|hz
  ·exact q2 z hz
  ·rw[I7.1 hz];omega
 have b6:∀x∈L,∀a:Nat,a<M.I.toNat->x.2++[(a:Int)]∈aV M.I.toNat P:=λx hx a ha=>vK.2 ⟨x.2,b3 x hx,a,ha,rfl⟩;have d7:SmL (aV M.I.toNat P):=⟨by omega,λx hx=>by have:=(a5 x hx).1;unfold SmW;omega⟩;have t1:=tran_ref (M:=M) (P:=P) ⟨d2,by omega⟩ (by omega) (λw hw=>by have:=(a6 w hw).1;omega) 0 0;generalize aV M.I.toNat P=Tr at *
 have u1:SmL [P,Tr].flatten:=⟨by simp;omega,λx hx=>by
  simp only[V4,oG,W8]at hx
  rcases I2.1 hx with hx|hx
  ·have:=(a6 x hx).1;unfold SmW;omega
  ·have:=(a5 x hx).1;unfold SmW;omega⟩
 have a7:∀x,x∈sortW [P,Tr].flatten↔x∈P\/x∈Tr:=λx=>by
  simp only[Q3,V4,oG,W8,I2]
 have c6:∀l:A4,(sortW l).Nodup:=λl=>(dC l).imp λ{a b} h e=>by
  rw[e,eQ]at h;exact absurd h (by decide)
 have d3:(sortW [P,Tr].flatten).length<=19:=by
  have:=zZ (b:=[]::Tr) (c6 [P,Tr].flatten) λx hx=>by
   rcases (a7 x).1 hx with h|h
   ·rcases d1 x h with rfl|h
    ·exact U9
    ·exact M7 _ h
   ·exact M7 _ h
  rw[G8]at this;omega
 have a8:∀w∈sortW [P,Tr].flatten,w.length<=6/\WOk M.I w:=λx hx=>by
  rcases (a7 x).1 hx with h|h
  ·obtain⟨q1,q2⟩:=a6 x h;exact⟨by omega,q2⟩
  ·exact a5 x h
 generalize hU:sortW [P,Tr].flatten=U at *;have c8:SmL U:=⟨by omega,λx hx=>by have:=(a8 x hx).1;unfold SmW;omega⟩;have c9:SmL (endsM M):=⟨by omega,λx hx=>by have:=(a9 x hx).1;unfold SmW;omega⟩;have d8:U.length*(endsM M).length<=19*15:=dH d3 d4;have d9:=BD (l:=U) (B:=6) λx hx=>(a8 x hx).1;have e3:=BD (l:=endsM M) (B:=6) λx hx=>(a9 x hx).1
 have p1:=zuh c8 c9 (by omega) (by omega) λu hu v hv=>by
  have h1:=(a8 u hu).1;have h2:=(a9 v hv).1;omega
 have hX:(sortW (aE U (endsM M))).length<=19*15:=by
  have h1:=jY (aE U (endsM M));rw[prodL_len]at h1;omega
 have b9:∀w∈sortW (aE U (endsM M)),w.length<=12/\WOk M.I w:=λx hx=>by
  obtain⟨u,hu,v,hv,rfl⟩:=pN.1 ((Q3 _ _).1 hx);obtain⟨a1,a2⟩:=a8 u hu;obtain⟨b1,b2⟩:=a9 v hv;refine⟨by rw[H4];omega,λz hz=>(I2.1 hz).elim (a2 z) (b2 z)⟩
 have b5:∀u∈U,∀v∈endsM M,u++v∈sortW (aE U (endsM M)):=λu hu v hv=>(Q3 _ _).2 (pN.2 ⟨u,hu,v,hv,rfl⟩);generalize sortW (aE U (endsM M))=X at *
 have v3:SmL (X++Tr):=⟨by rw[H4];omega,λx hx=>by
  rcases I2.1 hx with hx|hx
  ·have:=(b9 x hx).1;unfold SmW;omega
  ·have:=(a5 x hx).1;unfold SmW;omega⟩
 have b8:∀x,x∈X++Tr↔x∈Tr\/x∈X:=λx=>by rw[I2];exact Or.comm
 have b7:∀w∈X++Tr,w.length<=12/\WOk M.I w:=λx hx=>by
  rcases (b8 x).1 hx with h|h
  ·obtain⟨q1,q2⟩:=a5 x h;exact⟨by omega,q2⟩
  ·exact b9 x h
 have a4:∀u,u∈Tr\/u∈X->∃w∈maxR (X++Tr),u <+: w:=λu hu=>maxR_over (B:=12) (λx hx=>(b7 x hx).1) 12 u (by omega) ((b8 u).2 hu);refine⟨M,L,maxR (X++Tr),S,by omega,hE,e2,?_,aP (maxR_length _) (by rw[H4];omega),λw hw=>b7 w (mem_maxR hw),λx hx a ha=>a4 _ (.inl (b6 x hx a ha)),λx hx v hv=>a4 _ (.inr (b5 _ ((a7 _).2 (.inl (b3 x hx))) v hv)),λx hx a ha v hv=>a4 _ (.inr (b5 _ ((a7 _).2 (.inr (b6 x hx a ha))) v hv))⟩;unfold aM;rw[iX,A5,hv,B1 (by decide),e2,A5];simp only;rw[hc,A5,t1,A5,zus hM PM (by omega),A5,hW,A5];simp only;rw[R02_Union_eq (by simp) u1,hU,A5,p1,A5];simp only[ne_eq,not_true_eq_false,decide_false,G5];rw[O6,zub v3,A5]
def zqp(m:A8)(more:A4):fX m more=some true:=by
 unfold fX;have a3:∀k:Option Bool,((some true:Option Bool).bind λy=>cond y ((lA).bind λc=>some c) k)=some true:=λk=>by rw[A5,F7,wS,A5]
 obtain⟨b,e,hb⟩:=great36_r m;rw[e,A5];cases b with
 |true=>rw[F7];exact a3 _
 |false =>
  obtain⟨h6,b6⟩:=hb rfl;rw[G5,iX,A5];by_cases hv:P9 m=0
  ·have H:=aY hv
   have h3:m.I<=3:=by
    obtain⟨x,y,q1,_,q3,_⟩:=H.row 0 H.n1;have:=b6 x (G6 q1);omega
   rw[B1 (λh=>h hv)];obtain⟨b,eg,hg,_⟩:=R02_Great_r (l:=more) (a:=6) (c:=6) (by omega);have d1:dZ more 6 6=some b:=eg;rw[d1,A5];cases b with
   |true=>exact a3 _
   |false =>
    obtain⟨g1,g2⟩:=hg rfl;rw[A5,G5];obtain⟨M,L,l,S,b2,hE,em,es,A⟩:=sample_ref hv h6 h3;have d4:=A.len;rw[es,A5];simp only;rw[H9 (by simp only[K3];unfold B4;omega),dI,O6];have a6:∀w∈l++more,w.length<=12:=λw hw=>(I2.1 hw).elim (λh=>(A.wd w h).1) λh=>by have:=g2 w h;omega
    obtain⟨o,f,eo,ho⟩:=R16_Of_r hv (l:=l++more) (by rw[H4];omega) λw hw=>by have:=a6 w hw;omega
    rw[eo,A5];simp only;by_cases hf:f=0
    ·obtain⟨C,d0⟩:=ho hf;have d2:=C.ok.num
     have a4:∀t∈o.T,∃w∈l++more,t=trM m w:=λt ht=>by
      obtain⟨w,hw,e⟩:=H0.1 (C.mem t ht);exact⟨w,hw,e.symm⟩
     have b7:SmO o:=⟨by omega,λt ht=>by
      obtain⟨w,hw,rfl⟩:=a4 t ht
      have:=a6 w hw
      unfold trM
      simp only[fP]
      omega⟩
     have d3:o.T.length<=309:=by
      have c7:(o.T.map λt=>t.In).Nodup:=by
       rw[yY,lR]
       exact C.ok.pw.1.imp λ{a b} h e=>by
        rw[e,eQ]at h;exact absurd h (by decide)
      have:=eV (b:=l++more) c7 λx hx=>by
       obtain⟨t,ht,rfl⟩:=H0.1 hx;obtain⟨w,hw,rfl⟩:=a4 t ht;exact hw
      rw[B7,H4]at this;omega
     have hP:(allP o).length<=4090:=by
      unfold allP preL;rw[S6,H4,DJ]
      have:=flatQ_le (f:=gP) (B:=13) (o.T.map λt=>t.In) λx hx=>by
       obtain⟨t,ht,rfl⟩:=H0.1 hx;obtain⟨w,hw,rfl⟩:=a4 t ht;have:=a6 w hw;rw[DJ];unfold trM;simp only;omega
      rw[B7]at this;simp only[K3];omega
     have a2:∀u w,w∈l->u <+: w->u∈allP o:=λu w hw hp=>by
      rcases C.cov (trM m w) (H0.2 ⟨w,K9 _ hw,rfl⟩) with h|⟨t,t1,t2⟩
      ·have h:w=[]:=h;rw[h]at hp;exact dX.2 (.inl (yD.1 hp))
      ·exact dX.2 (.inr ⟨t,t1,hp.trans t2⟩)
     have a5:o.I=M.I:=C.inp.trans S.inp.symm
     have SO:iO M L (endsM M) λw=>w∈allP o:=by
      refine⟨S.ok,hE,λx hx a ha=>?_,λx hx v hv=>?_,λx hx a ha v hv=>?_,(endsM_ok S.ok (tB S) b2).2.2⟩
      ·obtain⟨w,w1,w2⟩:=A.tr x hx a ha;exact a2 _ w w1 w2
      ·obtain⟨w,w1,w2⟩:=A.ac x hx v hv;exact a2 _ w w1 w2
      ·obtain⟨w,w1,w2⟩:=A.ta x hx a ha v hv;exact a2 _ w w1 w2
     obtain⟨el,eS⟩:=learn_minE b7 C.ok hP SO S a5 λt ht=>by
      obtain⟨w,hw,rfl⟩:=a4 t ht;exact(S.eqv w (by rw[S.inp];exact wok_of (d0 w hw))).symm
     have d6:=S.ok.n2;have d7:=S.ok.ol;have d5:=S.ok.i2
     have c9:SmL M.N:=⟨by omega,λx hx=>by
      obtain⟨q,hq,e⟩:=aQ hx
      obtain⟨x',y,k1,k2,k3,k4,_⟩:=S.ok.row q hq
      rw[get_at hq,e]at k1
      injection k1 with k1
      subst k1
      unfold SmW
      omega⟩
     have b4:SmL M.O:=⟨by omega,λx hx=>by
      obtain⟨q,hq,e⟩:=aQ hx
      obtain⟨x',y,k1,k2,k3,k4,_⟩:=S.ok.row q (by omega)
      rw[get_at hq,e]at k2
      injection k2 with k2
      subst k2
      unfold SmW
      omega⟩
     have PM:=tB S;have hM:=pL S.ok;have b3:M.S.toNat=0:=by rw[S.start];rfl
     obtain⟨L',a9,c3⟩:=CJ hM;rw[b3]at a9;have b5:=V1.uniq (by have:=S.ok.i1;omega) a9 hE;subst b5;have hc:kA M=some (L'.map Prod.snd,0):=by unfold kA;rw[c3,A5]
     have a7:=suf_sm S.ok PM (I:=M.I.toNat) (by have:=S.ok.i2;omega);have d8:=chTo_lens b2;have b9:=jY (chTo M M.N.length);have b9:(chS M).length<=15:=by unfold chS;omega
     have c6:iter (λ(s:A4×Nat)=>fX.s2 (M,0) s.1 s.2) fuel (chS M,0)=some (chS M++sngL M.I.toNat):=by
      refine U2 (λs=>s.2<=M.I.toNat/\s.1=chS M++sngL s.2) (λs=>M.I.toNat-s.2) (λ⟨y,a⟩ ⟨q1,q2⟩=>?_) ⟨D8 _,(W8 _).symm⟩ (by have:=Y0;have:=S.ok.i2;simp only;omega);simp only at q1 q2;subst q2;have hl:(chS M++sngL a).length<=15+a:=by unfold sngL;rw[H4,B7,M5];omega
      have:=S.ok.i2;simp only[fX.s2];by_cases ha:a<M.I.toNat
      ·left;exact⟨(chS M++sngL (a+1),a+1),by rw[C2,O6,L3,sngL_succ,aS],⟨ha,rfl⟩,by simp only;omega⟩
      ·right;have e1:a=M.I.toNat:=by omega
       subst e1;rw[B1]
     have a8:SmL (chS M++sngL M.I.toNat):=⟨by have:=a7.1;rw[H4]at this ⊢;omega,λw hw=>a7.2 w (I2.2 (I2.1 hw).symm)⟩;have c8:sortW (chS M++sngL M.I.toNat)=sufE M.I.toNat M:=sortW_ext λx=>by rw[I2,I2];exact Or.comm
     have b8:=suf_sml S.ok PM (I:=M.I.toNat) (by have:=S.ok.i2;omega)
     have c0:SmL (L'.map Prod.snd):=by
      have:=acc_sml (iR S.ok);unfold accW at this
      rwa [accL_bfs S.ok S.start hE]at this
     rw[B1 (λh=>h hf),el,A5,eS,A5,em,A5];simp only;rw[hc,A5,CZ hM PM (seps S.ok PM),A5];simp only;rw[c6,A5]
     have w1:aO (M9 M).N M.N=some true:=by
      show aO M.N M.N=_;rw[tQ _ _ c9,E9 rfl]
     have w2:aO (M9 M).O M.O=some true:=by
      show aO M.O M.O=_;rw[tQ _ _ b4,E9 rfl]
     rw[w1,w2,nP a8,c8,a5,E9 (show(M9 M).I=M.I from rfl),E9 (show(M9 M).S=M.S from rfl)];simp only[decide_true,F7,T5];unfold nX;simp only[decide_true,F7];rw[tQ _ _ c0,A5,C2 rfl,tQ _ _ b8,A5,E9 rfl];simp only[F7,T5];rw[wS];rfl
    ·rw[C2 hf,wS,A5]
  ·rw[C2 hv];exact a3 _
def zi9(x0:A8)(x1:A4)(_:BV x0)(_:BR x0<=1048576)(_:okL (okL inR) x1)(_:szL (szL sz1) x1<=1048576):fX x0 x1=some true :=
 zqp x0 x1
def eI{X:St}{src:List (Nat×Option Nat)}{E:Nat->Nat}{t:Nat}{y b:IV}(h1:X.av t=.im y)(h2:AV.im y=.im b):∃x,X.av t=x/\SubR X src E x (.im b):=⟨.im y,h1,.im (Sub.rfl' h2)⟩
def odt{p:Prop}[Decidable p](h:decide p=true):p:=of_decide_eq_true h
def odf{p:Prop}[Decidable p](h:decide p=false):¬p:=of_decide_eq_false h
def ctd{V:Type}{p:Prop}[Decidable p]{x y z:V}(hb:decide p=true)(h:cond (decide p) x y=z):x=z/\p:=⟨cond_t hb h,odt hb⟩
def cfd{V:Type}{p:Prop}[Decidable p]{x y z:V}(hb:decide p=false)(h:cond (decide p) x y=z):y=z/\¬p:=⟨cond_f hb h,odf hb⟩
def hT{X:St}:Holds X True:=Holds.true_ _
abbrev lZ{V:Type}(l:List V):Prop:=List.length l<=17592186044416
def eA{X:St}{avs:List (Nat×AV)}{kds:List (Nat×Kd)}{cels:List (Nat×Nat×AV)}(src:List (Nat×Option Nat))(hn:ndB (srcs src) []=true:=by exact rfl)(ha:SubL X src (gnM kds) avs:=by repeat' (first|exact trivial|refine⟨eI rfl rfl,?_⟩|refine⟨⟨.own _ _ _,rfl,.own rfl rfl rfl⟩,?_⟩|refine⟨⟨.osl _ _,rfl,.osl rfl rfl rfl⟩,?_⟩|refine⟨⟨.im (.val (.slice none 0 0)),rfl,.made rfl rfl⟩,?_⟩|refine⟨⟨.sub _ _ _,rfl,.sub rfl rfl⟩,?_⟩|refine⟨⟨.osv _ _ _ _,rfl,.osv rfl rfl rfl⟩,?_⟩|refine⟨⟨.agg [.osl _ _],rfl,.agg (.cons (.osl rfl rfl rfl) (.nil))⟩,?_⟩))(hk:KdL X src kds:=by repeat' (first|exact trivial|refine⟨.inl ⟨_,rfl,rfl,trivial⟩,?_⟩|refine⟨.inl ⟨_,rfl,rfl,⟨rfl,rfl⟩⟩,?_⟩|refine⟨.inr ⟨rfl,rfl,.inl ⟨_,_,rfl,by decide⟩⟩,?_⟩|refine⟨.inr ⟨rfl,rfl,.inr (.inl ⟨_,_,_,rfl⟩)⟩,?_⟩))(hc:CeL X src (gnM kds) cels:=by repeat' (first|exact trivial|refine⟨⟨_,.im _,rfl,rfl,.im (Sub.rfl' rfl)⟩,?_⟩|refine⟨⟨_,.own _ _ _,rfl,rfl,.own rfl rfl rfl⟩,?_⟩|refine⟨⟨_,.osl _ _,rfl,rfl,.osl rfl rfl rfl⟩,?_⟩|refine⟨⟨_,.im (.val (.slice none 0 0)),rfl,rfl,.made rfl rfl⟩,?_⟩)):Ent X (mkSt avs kds cels):=Ent.mk src hn ha hk hc
def C4{S R:Type}{step:S->Option (S⊕R)}{r:R}{k:Nat}{x:R}(h:Fin step r k (.inr x)):x=r:=h
def B9{V:Type}{p:Prop}[Decidable p]{x y z:V}{A B:Prop}(h:cond (decide p) x y=z)(k:decide p=true->x=z->p->A)(l:decide p=false->y=z->¬p->B):Both (decide p) A B:=.mk (λe=>k e (ctd e h).1 (ctd e h).2) λe=>l e (cfd e h).1 (cfd e h).2
def T8{V:Type}{p:Prop}[Decidable p]{x y z:V}{A B:Prop}(h:cond (decide p) x y=z)(k:decide p=true->x=z->p->A)(l:decide p=false->y=z->¬p->B):Both (decide p==true) A B:=.mk (λe=>k (beq_tt e) (ctd (beq_tt e) h).1 (ctd (beq_tt e) h).2) λe=>l (beq_tf e) (cfd (beq_tf e) h).1 (cfd (beq_tf e) h).2
def lV{V:Type}{p:Prop}[Decidable p]{x y z:V}{A B:Prop}(h:cond (decide p) x y=z)(k:decide p=false->y=z->¬p->A)(l:decide p=true->x=z->p->B):Both (decide p==false) A B:=.mk (λe=>k (beq_ff e) (cfd (beq_ff e) h).1 (cfd (beq_ff e) h).2) λe=>l (beq_ft e) (ctd (beq_ft e) h).1 (ctd (beq_ft e) h).2
def I5{V:Type}{b:Bool}{x y z:V}{A B:Prop}(h:cond b x y=z)(k:b=true->x=z->A)(l:b=false->y=z->B):Both b A B:=.mk (λe=>k e (cond_t e h)) λe=>l e (cond_f e h)
def bQ{V:Type}{b:Bool}{x y z:V}{A B:Prop}(h:cond b x y=z)(k:b=true->x=z->A)(l:b=false->y=z->B):Both (b==true) A B:=.mk (λe=>k (beq_tt e) (cond_t (beq_tt e) h)) λe=>l (beq_tf e) (cond_f (beq_tf e) h)
def jI{V:Type}{b:Bool}{x y z:V}{A B:Prop}(h:cond b x y=z)(k:b=false->y=z->A)(l:b=true->x=z->B):Both (b==false) A B:=.mk (λe=>k (beq_ff e) (cond_f (beq_ff e) h)) λe=>l (beq_ft e) (cond_t (beq_ft e) h)
def E3{V G:Type}{l:List V}{c:V->List IV}{i:Nat}{F:V->Option G}{r:G}{Z:Option Nat}{K:List IV->Prop}(h:idxn l i F=some r)(k:∀x,l[i]?=some x->F x=some r->K (c x))(hz:∀x,Z=some (c x).length:=by exact λ_=>rfl):∃e,(0<=(i:Int)/\(l.map c)[(i:Int).toNat]?=some e/\Z=some e.length)/\K e:=by
 obtain⟨x,hx,h⟩:=J7 h;exact⟨c x,⟨by omega,D5 hx,hz x⟩,k x hx h⟩
def L8{V G:Type}{l:List V}{c:V->List IV}{i:Int}{F:V->Option G}{r:G}{Z:Option Nat}{K:List IV->Prop}(h:idx l i F=some r)(k:∀x,0<=i->l[i.toNat]?=some x->F x=some r->K (c x))(hz:∀x,Z=some (c x).length:=by exact λ_=>rfl):∃e,(0<=i/\(l.map c)[i.toNat]?=some e/\Z=some e.length)/\K e:=by
 obtain⟨x,h0,hx,h⟩:=J5 h;exact⟨c x,⟨h0,D5 hx,hz x⟩,k x h0 hx h⟩
def E2{S R:Type}{step:S->Option (S⊕R)}{n:Nat}{s0:S}{r:R}(h:Sym.iter step n s0=some r)(st:S->St)(J:S->Prop){body:(Exit->St->Prop)->St->Prop}{K:Exit->St->Prop}{X:St}(e0:Ent X (st s0))(hJ:∀s,Holds (st s) (J s))
 (hb:∀k s o,J s->step s=some o->Fin step r k o->body (λe X'=>match e with|.normal=>Nxt step r st k X'|e=>K e X') (st s)):fL body K X:=fL.iter step st J h e0 hJ hb
def E4{P:Program}{f:FuncId}{fn:Func}{c:Code}{xs:List Arg}{r:Rs}(own:List Nat)(h:OkAs xs->frcW (entW xs) 0 sig0 λ_ X=>X8 P (SpX P) fn.ntmps own c (retK P fn.results.toList xs r) X)(hm:P.follows .mixedOrders=true:=by exact rfl)(hf:P.funcs[f]?=some fn:=by exact rfl)(hname:(fn.name=="runtime.NumGoroutine")=false:=by exact rfl)(hb:fn.body=some c:=by exact rfl)
 (hn:xs.length<=fn.ntmps:=by exact nD rfl) (hok:gF xs=true:=by exact rfl):Sp P f xs r:=sp_of hm own hf hname hb hn hok h
def R6{J:Prop}{Z:Type}(oc:Unit⊕Z)(st:St){body:(St->Prop)->Prop}{rest:St->Prop}(hJ:Holds st J)(h:body (J6 oc λ_=>st))(k:∀y:Unit,oc=.inl y->J->rest st):Cut body rest:=S8 oc (λ_=>st) (λ_=>J) (λ_=>hJ) h k
def zzR_{x:Int}(h:-9223372036854775808<=x/\x<=9223372036854775807):inR x:=h
abbrev B6(x:Int):AV:=.im (nI x)
abbrev B3(x:Nat):AV:=.im (nI (x:Int))
abbrev I9(x:Bool):AV:=.im (nB x)
abbrev C0(x:List IV):AV:=.im (.ref x)
abbrev C5{V:Type}(c:V->List IV)(l:List V):AV:=.im (nL c l)
def zid:List Nat->List (Nat×Option Nat)
 |[]=>[]
 |a::l=>(a,some a)::zid l
def J1:List Nat->List (Nat×Option Nat)
 |a::b::l=>(a,some b)::J1 l
 |_=>[]
def idk:List (Nat×Kd)->List (Nat×Option Nat)
 |[]=>[]
 |a::l=>(a.1,some a.1)::idk l
def eZ{X:St}{avs:List (Nat×AV)}{kds:List (Nat×Kd)}{cels:List (Nat×Nat×AV)}(hn:ndB (srcs (idk kds)) []=true:=by exact rfl)(ha:SubL X (idk kds) (gnM kds) avs:=by repeat' (first|exact trivial|refine⟨eI rfl rfl,?_⟩|refine⟨⟨.own _ _ _,rfl,.own rfl rfl rfl⟩,?_⟩|refine⟨⟨.osl _ _,rfl,.osl rfl rfl rfl⟩,?_⟩|refine⟨⟨.im (.val (.slice none 0 0)),rfl,.made rfl rfl⟩,?_⟩|refine⟨⟨.sub _ _ _,rfl,.sub rfl rfl⟩,?_⟩|refine⟨⟨.osv _ _ _ _,rfl,.osv rfl rfl rfl⟩,?_⟩|refine⟨⟨.agg [.osl _ _],rfl,.agg (.cons (.osl rfl rfl rfl) (.nil))⟩,?_⟩))(hk:KdL X (idk kds) kds:=by repeat' (first|exact trivial|refine⟨.inl ⟨_,rfl,rfl,trivial⟩,?_⟩|refine⟨.inl ⟨_,rfl,rfl,⟨rfl,rfl⟩⟩,?_⟩))(hc:CeL X (idk kds) (gnM kds) cels:=by repeat' (first|exact trivial|refine⟨⟨_,.im _,rfl,rfl,.im (Sub.rfl' rfl)⟩,?_⟩|refine⟨⟨_,.own _ _ _,rfl,rfl,.own rfl rfl rfl⟩,?_⟩|refine⟨⟨_,.osl _ _,rfl,rfl,.osl rfl rfl rfl⟩,?_⟩|refine⟨⟨_,.im (.val (.slice none 0 0)),rfl,rfl,.made rfl rfl⟩,?_⟩)):Ent X (mkSt avs kds cels):=Ent.mk (idk kds) hn ha hk hc
def P6{V G:Type}{X:Option V}{F:V->Option G}{r:G}{J:V->Prop}(h:X.bind F=some r)(st:V->St){body:(St->Prop)->Prop}{rest:St->Prop}(hJ:∀y,Holds (st y) (J y))(k:∀y,F y=some r->J y->rest (st y))(hb:∀y,X=some y->body (Join (st y)):=by intro y h;repeat' ((try conv=>whnf);first|refine C1 (by assumption) ?_|refine E1 (by assumption) ?_|refine C1 (N8 (by assumption)) ?_|refine E1 (dS (by assumption)) ?_|refine C1 (G0 (by assumption)) ?_|refine E1 (O9 (by assumption)) ?_|refine C1 rfl ?_|refine E1 rfl ?_|refine B9 h (λ_ h _=>?_) λ_ h _=>?_|refine lV h (λ_ h _=>?_) λ_ h _=>?_|refine T8 h (λ_ h _=>?_) λ_ h _=>?_|refine I5 h (λ_ h=>?_) λ_ h=>?_|refine jI h (λ_ h=>?_) λ_ h=>?_|refine bQ h (λ_ h=>?_) λ_ h=>?_|refine E3 h λ_ _ h=>?_|refine L8 h λ_ _ _ h=>?_|refine A7 _ C3 ?_|refine A3 rfl ?_|(cases h;exact C8 eZ))):Cut body rest:=by
 obtain⟨y,hc,h⟩:=A6 h;exact Cut.mk (st y) (J y) (hJ y) (hb y hc) (k y h)
def F5{J:Prop}(s:St){body:(St->Prop)->Prop}{rest:St->Prop}(hJ:Holds s J)(h:body (Join s))(k:J->rest s):Cut body rest:=Cut.mk s J hJ h k
def sp_R02_Great(l_:A4)(words_ symbols_:Int)(r:Bool)(h:dZ l_ words_ symbols_=some r):Sp Tryz.prog 22 [.im (nL (cL cI) l_),.im (nI words_),.im (nI symbols_)] (.im (nB r)):=by
 refine E4 [] λhk=>?_;have z1:lZ l_:=B5 hk.1;unfold dZ at h;obtain⟨oc,h,a4⟩:=A6 h;refine S8 oc (Y:=Unit) (λ(_:Unit)=>mkSt [(0,C5 (cL cI) l_),(1,B6 words_)] [] []) (λ(_:Unit)=>lZ l_/\True) (by rintro⟨⟩;exact((C9 0 rfl).and hT)) ?_ ?_;refine E2 h (λa2=>mkSt [(0,C5 (cL cI) l_),(1,B6 words_),(2,B6 symbols_),(7,B3 a2)] [] []) (λa2=>lZ l_/\True) eZ (λa2=>((C9 0 rfl).and hT)) ?_;rintro k a2 o hp h a3;unfold dZ.s2 at h;obtain⟨b5,_⟩:=hp;refine P6 h (λa6=>mkSt [(0,C5 (cL cI) l_),(1,B6 words_),(2,B6 symbols_),(7,B3 a2),(16,I9 a6)] [] []) (λ_=>((C9 0 rfl).and hT)) λa6 h hp=>?_;obtain⟨b6,_⟩:=hp;refine I5 h (λa8 h=>?_) λa8 h=>?_;refine E3 h λb2 a5 h=>?_;refine A7 b2.length C3<|B9 h (λb3 h a7=>?_) λb3 h a7=>?_;cases h;cases C4 a3;replace h:some _=some _:=a4;cases h;exact⟨rfl,rfl⟩;obtain⟨b4,h⟩:=D1 h;refine C6.mk b4 ?_;cases h;exact D2 _ a3 eZ;cases h;cases C4 a3;exact J6.mk' _ rfl eZ;rintro⟨⟩ rfl hp;replace h:=L4 a4;obtain⟨b7,_⟩:=hp;refine A7 l_.length C3 ?_;cases h;exact⟨rfl,rfl⟩
def sp_R01_Size(inputs_:Int)(r:Bool)(h:pH inputs_=some r):Sp Tryz.prog 80 [.im (nI inputs_)] (.im (nB r)):=by
 refine E4 [] λhk=>?_;unfold pH at h;refine P6 h (λa2=>mkSt [(2,I9 a2)] [] []) (λ_=>hT) λa2 h hp=>?_;cases h;exact⟨rfl,rfl⟩
def xC(w_:A2)(inputs_ r:Int)(h:dY w_ inputs_=some r):Sp Tryz.prog 42 [.im (nL cI w_),.im (nI inputs_)] (.im (nI r)):=by
 refine E4 [] λhk=>?_;have z1:lZ w_:=B5 hk.1;unfold dY at h;obtain⟨b4,a5,h⟩:=A6 h;refine⟨_,sp_R01_Size inputs_ b4 a5,?_⟩;refine I5 h (λb5 h=>?_) λb5 h=>?_;cases h;exact⟨rfl,rfl⟩;refine A7 w_.length C3<|B9 h (λb6 h a8=>?_) λb6 h a8=>?_;cases h;exact⟨rfl,rfl⟩;obtain⟨oc,h,a4⟩:=A6 h;refine R6 oc (mkSt [] [] []) hT ?_ ?_;refine E2 h (λa2=>mkSt [(0,C5 cI w_),(1,B6 inputs_),(5,B3 a2)] [] []) (λa2=>lZ w_/\True) eZ (λa2=>((C9 0 rfl).and hT)) ?_;rintro k a2 o hp h a3;unfold dY.s2 at h;obtain⟨b7,_⟩:=hp;refine A7 w_.length C3<|B9 h (λb2 h a6=>?_) λb2 h a6=>?_;refine P6 h (λa7=>mkSt [(0,C5 cI w_),(1,B6 inputs_),(5,B3 a2),(30,I9 a7)] [] []) (λ_=>((C9 0 rfl).and hT)) λa7 h hp=>?_;obtain⟨b8,_⟩:=hp;refine I5 h (λb3 h=>?_) λb3 h=>?_;cases h;cases C4 a3;replace h:some _=some _:=a4;cases h;exact⟨rfl,rfl⟩;refine C6.mk (zzR_ (by omega)) ?_;cases h;exact D2 _ a3 eZ;cases h;cases C4 a3;exact J6.mk' _ rfl eZ;rintro⟨⟩ rfl hp;replace h:=L4 a4;cases h;exact⟨rfl,rfl⟩
def BJ(m_:A8)(s_:Int)(w_:A2)(r:A2×Int)(h:bU m_ s_ w_=some r):Sp Tryz.prog 97 [.im (.agg (D9 m_)),.im (nI s_),.im (nL cI w_)] (.tup [nL cI r.1,nI r.2]):=by
 refine E4 [700003] λhk=>?_;have z1:lZ m_.N:=B5 (D4 hk.1 2 rfl);have z2:lZ m_.O:=B5 (D4 hk.1 3 rfl);have z3:lZ w_:=B5 hk.2.2.1;unfold bU at h;obtain⟨⟨b4,b5⟩,h,a4⟩:=A6 h;refine F5 (mkSt [(1,B6 b4),(8,.osl 64 1)] [(64,.row 3 1 (List.map cI b5))] []) ((Holds.kdl 64 rfl).and hT) ?_ λhp=>?_;refine E2 h (λ(s90,a2,a7)=>mkSt [(1,B6 s90),(2,C5 cI w_),(3,C0 (D9 m_)),(8,.osl 64 1),(9,B3 a7)] [(64,.row 3 1 (List.map cI a2))] []) (λ(s90,a2,a7)=>lZ w_/\lZ a2/\True) (eA [(64,none)]) (λ⟨s90,a2,a7⟩=>((C9 2 rfl).and ((Holds.kdl 64 rfl).and hT))) ?_;rintro k ⟨s90,a2,a7⟩ o hp h a3;change bU.s2 m_ w_ s90 a2 a7=_ at h;unfold bU.s2 at h;obtain⟨b6,b7,_⟩:=hp;refine A7 w_.length C3<|B9 h (λb2 h a8=>?_) λb2 h a8=>?_;refine L8 h λb8 a9 d3 h=>?_;refine E3 h λb9 d2 h=>?_;refine L8 h λa6 a5 d1 h=>?_;obtain⟨b3,h⟩:=D1 h;refine A3 ⟨rfl,J8 (l:=[a6]) (c:=cI) λ_=>rfl,show B4 _ 8 by simpa only[B7,G8,K3,E8]using b3⟩ ?_;refine A7 (List.map cI (a2++[a6])) (J9 (l:=a2) (m:=[a6]) (c:=cI))<|L8 h λc0 c9 d4 h=>?_;refine E3 h λc6 d6 h=>?_;refine L8 h λc7 d0 d5 h=>?_;refine C6.mk (zzR_ (by omega)) ?_;cases h;exact D2 _ a3 eZ;cases h;cases C4 a3;exact C8 eZ;replace h:bU.k3 b4 b5=some _:=a4;unfold bU.k3 at h;obtain⟨c8,_⟩:=hp;cases h;exact A3 ⟨rfl,trivial⟩ ⟨rfl,rfl⟩
def qD(parts_:A4)(r:A2)(h:dB parts_=some r):Sp Tryz.prog 62 [.im (nL (cL cI) parts_)] (.row 3 1 (List.map cI r)):=by
 refine E4 [] λhk=>?_;have z1:lZ parts_:=B5 hk.1;unfold dB at h;obtain⟨b2,h,a4⟩:=A6 h;refine F5 (mkSt [(3,.osl 64 1)] [(64,.row 3 1 (List.map cI b2))] []) ((Holds.kdl 64 rfl).and hT) ?_ λhp=>?_;refine E2 h (λ(a2,a6)=>mkSt [(0,C5 (cL cI) parts_),(3,.osl 64 1),(4,B3 a6)] [(64,.row 3 1 (List.map cI a2))] []) (λ(a2,a6)=>lZ parts_/\lZ a2/\True) (eA [(64,none)]) (λ⟨a2,a6⟩=>((C9 0 rfl).and ((Holds.kdl 64 rfl).and hT))) ?_;rintro k ⟨a2,a6⟩ o hp h a3;change dB.s2 parts_ a2 a6=_ at h;unfold dB.s2 at h;obtain⟨b5,b6,_⟩:=hp;refine A7 parts_.length C3<|B9 h (λb3 h a7=>?_) λb3 h a7=>?_;refine E3 h λa8 a5 h=>?_;obtain⟨b4,h⟩:=D1 h;refine A3 ⟨rfl,J8 (l:=a8) (c:=cI) λ_=>rfl,show B4 _ 8 by simpa only[B7,G8,K3,E8]using b4⟩ ?_;refine A7 (List.map cI (a2++a8)) (J9 (l:=a2) (m:=a8) (c:=cI))<|C6.mk (zzR_ (by omega)) ?_;cases h;exact D2 _ a3 eZ;cases h;cases C4 a3;exact C8 eZ;replace h:=a4;obtain⟨b7,_⟩:=hp;cases h;exact A3 ⟨rfl,trivial⟩ ⟨rfl,rfl⟩
def sp_R06_row(m_:A8)(s_ r:Int)(h:dA m_ s_=some r):Sp Tryz.prog 61 [.im (.agg (D9 m_)),.im (nI s_)] (.im (nI r)):=by
 refine E4 [700002] λhk=>?_;have z1:lZ m_.N:=B5 (D4 hk.1 2 rfl);have z2:lZ m_.O:=B5 (D4 hk.1 3 rfl);unfold dA at h;refine P6 h (λb4=>mkSt [(1,B6 s_),(2,C0 (D9 m_)),(25,I9 b4)] [] []) (λ_=>hT) λb4 h hp=>?_;refine I5 h (λb5 h=>?_) λb5 h=>?_;cases h;exact⟨rfl,rfl⟩;obtain⟨oc,h,a4⟩:=A6 h;refine R6 oc (mkSt [] [] []) hT ?_ ?_;refine E2 h (λa2=>mkSt [(1,B6 s_),(2,C0 (D9 m_)),(5,B3 a2)] [] []) (λa2=>True) eZ (λ_=>hT) ?_;rintro k a2 o hp h a3;unfold dA.s2 at h;refine B9 h (λa8 h a6=>?_) λa8 h a6=>?_;refine P6 h (λa7=>mkSt [(1,B6 s_),(2,C0 (D9 m_)),(5,B3 a2),(76,I9 a7)] [] []) (λ_=>hT) λa7 h hp=>?_;refine I5 h (λb2 h=>?_) λb2 h=>?_;cases h;cases C4 a3;replace h:some _=some _:=a4;cases h;exact⟨rfl,rfl⟩;obtain⟨b3,h⟩:=D1 h;refine C6.mk b3 ?_;cases h;exact D2 _ a3 eZ;cases h;cases C4 a3;exact J6.mk' _ rfl eZ;rintro⟨⟩ rfl hp;replace h:=L4 a4;cases h;exact⟨rfl,rfl⟩
def iY(m_:A8)(r:Int)(h:U3 m_=some r):Sp Tryz.prog 21 [.im (.agg (D9 m_))] (.im (nI r)):=by
 refine E4 [700001] λhk=>?_;have z1:lZ m_.N:=B5 (D4 hk.1 2 rfl);have z2:lZ m_.O:=B5 (D4 hk.1 3 rfl);unfold U3 at h;refine P6 h (λb4=>mkSt [(1,C0 (D9 m_)),(12,I9 b4)] [] []) (λ_=>hT) λb4 h hp=>?_;refine I5 h (λb6 h=>?_) λb6 h=>?_;cases h;exact⟨rfl,rfl⟩;refine A7 m_.N.length C3<|B9 h (λb7 h a6=>?_) λb7 h a6=>?_;cases h;exact⟨rfl,rfl⟩;refine A7 m_.N.length C3<|B9 h (λb8 h a7=>?_) λb8 h a7=>?_;cases h;exact⟨rfl,rfl⟩;refine P6 h (λb5=>mkSt [(1,C0 (D9 m_)),(31,I9 b5)] [] []) (λ_=>hT) λb5 h hp=>?_;refine I5 h (λb9 h=>?_) λb9 h=>?_;cases h;exact⟨rfl,rfl⟩;refine A7 m_.O.length C3<|A7 m_.N.length C3<|B9 h (λc0 h a8=>?_) λc0 h a8=>?_;cases h;exact⟨rfl,rfl⟩;obtain⟨oc,h,a4⟩:=A6 h;refine R6 oc (mkSt [] [] []) hT ?_ ?_;refine E2 h (λa2=>mkSt [(1,C0 (D9 m_)),(3,B3 a2)] [] []) (λa2=>True) eZ (λ_=>hT) ?_;rintro k a2 o hp h a3;unfold U3.s2 at h;refine A7 m_.N.length C3<|B9 h (λc6 h b2=>?_) λc6 h b2=>?_;obtain⟨c7,a5,h⟩:=A6 h;refine⟨_,sp_R06_row m_ (a2:Int) c7 a5,?_⟩;refine B9 h (λc8 h b3=>?_) λc8 h b3=>?_;cases h;cases C4 a3;replace h:some _=some _:=a4;cases h;exact⟨rfl,rfl⟩;refine C6.mk (zzR_ (by omega)) ?_;cases h;exact D2 _ a3 eZ;cases h;cases C4 a3;exact J6.mk' _ rfl eZ;rintro⟨⟩ rfl hp;replace h:=L4 a4;cases h;exact⟨rfl,rfl⟩
def sp_R06_Traces(m_:A8)(words_:A4)(r:List C7×Int)(h:fS m_ words_=some r):Sp Tryz.prog 65 [.im (.agg (D9 m_)),.im (nL (cL cI) words_)] (.tup [nL I6 r.1,nI r.2]):=by
 refine E4 [700002] λhk=>?_;have z1:lZ m_.N:=B5 (D4 hk.1 2 rfl);have z2:lZ m_.O:=B5 (D4 hk.1 3 rfl);have z3:lZ words_:=B5 hk.2.1;unfold fS at h;obtain⟨c9,d6,h⟩:=A6 h;refine⟨_,iY m_ c9 d6,?_⟩;refine B9 h (λd0 h b5=>?_) λd0 h b5=>?_;cases h;exact⟨rfl,rfl⟩;refine A7 words_.length C3<|B9 h (λd1 h b6=>?_) λd1 h b6=>?_;cases h;exact⟨rfl,rfl⟩;obtain⟨oc,h,a4⟩:=A6 h;refine S8 oc (Y:=List C7) (λa8=>mkSt [(7,.osl 64 1)] [(64,.row 70 2 (List.map I6 a8))] []) (λa8=>lZ a8/\True) (by rintro a8;exact((Holds.kdl 64 rfl).and hT)) ?_ ?_;refine E2 h (λ(a7,b2)=>mkSt [(1,C5 (cL cI) words_),(2,C0 (D9 m_)),(7,.osl 64 1),(8,B3 b2)] [(64,.row 70 2 (List.map I6 a7))] []) (λ(a7,b2)=>lZ words_/\lZ a7/\True) (eA [(64,none)]) (λ⟨a7,b2⟩=>((C9 1 rfl).and ((Holds.kdl 64 rfl).and hT))) ?_;rintro k ⟨a7,b2⟩ o hp h a3;change fS.s2 m_ words_ a7 b2=_ at h;unfold fS.s2 at h;obtain⟨d2,d3,_⟩:=hp;refine A7 words_.length C3<|B9 h (λb7 h b3=>?_) λb7 h b3=>?_;refine E3 h λb8 d8 h=>?_;obtain⟨b9,a5,h⟩:=A6 h;refine⟨_,xC b8 m_.I b9 a5,?_⟩;refine B9 h (λc0 h b4=>?_) λc0 h b4=>?_;cases h;cases C4 a3;replace h:some _=some _:=a4;cases h;exact⟨rfl,rfl⟩;refine E3 h λc6 d7 h=>?_;obtain⟨a2,d5,h⟩:=A6 h;refine⟨_,BJ m_ m_.S c6 a2 d5,?_⟩;refine E3 h λc7 d9 h=>?_;obtain⟨a6,a9,h⟩:=A6 h;refine⟨_,(qD [c7] a6 a9).im,?_⟩;obtain⟨c8,h⟩:=D1 h;refine A3 ⟨rfl,J8 (l:=[(⟨a6,a2.1⟩:C7)]) (c:=I6) λ_=>rfl,show B4 _ 48 by simpa only[B7,G8,K3,E8]using c8⟩ ?_;refine A7 (List.map I6 (a7++[(⟨a6,a2.1⟩:C7)])) (J9 (l:=a7) (m:=[(⟨a6,a2.1⟩:C7)]) (c:=I6)) ?_;refine C6.mk (zzR_ (by omega)) ?_;cases h;exact D2 _ a3 eZ;cases h;cases C4 a3;exact J6.mk' _ rfl eZ;rintro a8 rfl hp;replace h:=L4 a4;obtain⟨d4,_⟩:=hp;cases h;exact A3 ⟨rfl,trivial⟩ ⟨rfl,rfl⟩
def sp_R16_Proper(t_:C7)(inputs_ r:Int)(h:fR t_ inputs_=some r):Sp Tryz.prog 43 [.im (.agg (I6 t_)),.im (nI inputs_)] (.im (nI r)):=by
 refine E4 [700002] λhk=>?_;have z1:lZ t_.In:=B5 (D4 hk.1 0 rfl);have z2:lZ t_.O:=B5 (D4 hk.1 1 rfl);unfold fR at h;obtain⟨b5,a5,h⟩:=A6 h;refine⟨_,xC t_.In inputs_ b5 a5,?_⟩;refine B9 h (λb6 h a8=>?_) λb6 h a8=>?_;cases h;exact⟨rfl,rfl⟩;refine A7 t_.O.length C3<|A7 t_.In.length C3<|B9 h (λb7 h b2=>?_) λb7 h b2=>?_;cases h;exact⟨rfl,rfl⟩;obtain⟨oc,h,a4⟩:=A6 h;refine R6 oc (mkSt [] [] []) hT ?_ ?_;refine E2 h (λa2=>mkSt [(2,C0 (I6 t_)),(6,B3 a2)] [] []) (λa2=>True) eZ (λ_=>hT) ?_;rintro k a2 o hp h a3;unfold fR.s2 at h;refine A7 t_.O.length C3<|B9 h (λb3 h a6=>?_) λb3 h a6=>?_;refine P6 h (λa7=>mkSt [(2,C0 (I6 t_)),(6,B3 a2),(41,I9 a7)] [] []) (λ_=>hT) λa7 h hp=>?_;refine I5 h (λb4 h=>?_) λb4 h=>?_;cases h;cases C4 a3;replace h:some _=some _:=a4;cases h;exact⟨rfl,rfl⟩;refine C6.mk (zzR_ (by omega)) ?_;cases h;exact D2 _ a3 eZ;cases h;cases C4 a3;exact J6.mk' _ rfl eZ;rintro⟨⟩ rfl hp;replace h:=L4 a4;cases h;exact⟨rfl,rfl⟩
def tL(a_ b_:A2)(r:Int)(h:eT a_ b_=some r):Sp Tryz.prog 74 [.im (nL cI a_),.im (nL cI b_)] (.im (nI r)):=by
 refine E4 [] λhk=>?_;have z1:lZ a_:=B5 hk.1;have z2:lZ b_:=B5 hk.2.1;unfold eT at h;obtain⟨a7,h,a4⟩:=A6 h;refine F5 (mkSt [(5,B3 a7)] [] []) hT ?_ λhp=>?_;refine E2 h (λa2=>mkSt [(0,C5 cI a_),(1,C5 cI b_),(5,B3 a2)] [] []) (λa2=>lZ a_/\lZ b_/\True) eZ (λa2=>((C9 0 rfl).and ((C9 1 rfl).and hT))) ?_;rintro k a2 o hp h a3;unfold eT.s2 at h;obtain⟨b3,b4,_⟩:=hp;refine P6 h (λa6=>mkSt [(0,C5 cI a_),(1,C5 cI b_),(5,B3 a2),(26,I9 a6)] [] []) (λ_=>((C9 0 rfl).and ((C9 1 rfl).and hT))) λa6 h hp=>?_;obtain⟨b5,b6,_⟩:=hp;refine I5 h (λa8 h=>?_) λa8 h=>?_;obtain⟨b2,h⟩:=D1 h;refine C6.mk b2 ?_;cases h;exact D2 _ a3 eZ;cases h;cases C4 a3;exact C8 eZ;replace h:=a4;cases h;exact⟨rfl,rfl⟩
def sp_R16_Differ(a_ b_:C7)(r:Int)(h:gX a_ b_=some r):Sp Tryz.prog 82 [.im (.agg (I6 a_)),.im (.agg (I6 b_))] (.im (nI r)):=by
 refine E4 [700002,700003] λhk=>?_;have z1:lZ a_.In:=B5 (D4 hk.1 0 rfl);have z2:lZ a_.O:=B5 (D4 hk.1 1 rfl);have z3:lZ b_.In:=B5 (D4 hk.2.1 0 rfl);have z4:lZ b_.O:=B5 (D4 hk.2.1 1 rfl);unfold gX at h;obtain⟨a8,a5,h⟩:=A6 h;refine⟨_,tL a_.In b_.In a8 a5,?_⟩;obtain⟨oc,h,a4⟩:=A6 h;refine R6 oc (mkSt [] [] []) hT ?_ ?_;refine E2 h (λa2=>mkSt [(2,C0 (I6 a_)),(3,C0 (I6 b_)),(5,B6 a8),(6,B3 a2)] [] []) (λa2=>True) eZ (λ_=>hT) ?_;rintro k a2 o hp h a3;unfold gX.s2 at h;refine B9 h (λb2 h a6=>?_) λb2 h a6=>?_;refine E3 h λb5 b7 h=>?_;refine E3 h λb6 a9 h=>?_;refine B9 h (λb3 h a7=>?_) λb3 h a7=>?_;cases h;cases C4 a3;replace h:some _=some _:=a4;cases h;exact⟨rfl,rfl⟩;obtain⟨b4,h⟩:=D1 h;refine C6.mk b4 ?_;cases h;exact D2 _ a3 eZ;cases h;cases C4 a3;exact J6.mk' _ rfl eZ;rintro⟨⟩ rfl hp;replace h:=L4 a4;cases h;exact⟨rfl,rfl⟩
def xU(w_ p_:A2)(r:Bool)(h:jZ w_ p_=some r):Sp Tryz.prog 81 [.im (nL cI w_),.im (nL cI p_)] (.im (nB r)):=by
 refine E4 [] λhk=>?_;have z1:lZ w_:=B5 hk.1;have z2:lZ p_:=B5 hk.2.1;unfold jZ at h;obtain⟨a2,a3,h⟩:=A6 h;refine⟨_,tL w_ p_ a2 a3,?_⟩;refine A7 p_.length C3 ?_;cases h;exact⟨rfl,rfl⟩
def sp_R01_Lex(a_ b_:A2)(r:Int)(h:oV a_ b_=some r):Sp Tryz.prog 75 [.im (nL cI a_),.im (nL cI b_)] (.im (nI r)):=by
 refine E4 [] λhk=>?_;have z1:lZ a_:=B5 hk.1;have z2:lZ b_:=B5 hk.2.1;unfold oV at h;obtain⟨a2,a3,h⟩:=A6 h;refine⟨_,tL a_ b_ a2 a3,?_⟩;refine P6 h (λa6=>mkSt [(0,C5 cI a_),(1,C5 cI b_),(5,B6 a2),(9,I9 a6)] [] []) (λ_=>((C9 0 rfl).and ((C9 1 rfl).and hT))) λa6 h hp=>?_;obtain⟨b3,b4,_⟩:=hp;refine I5 h (λa8 h=>?_) λa8 h=>?_;cases h;exact⟨rfl,rfl⟩;refine P6 h (λa7=>mkSt [(20,I9 a7)] [] []) (λ_=>hT) λa7 h hp=>?_;refine I5 h (λb2 h=>?_) λb2 h=>?_;cases h;exact⟨rfl,rfl⟩;cases h;exact⟨rfl,rfl⟩
def CO(a_ b_:A2)(r:Int)(h:lE a_ b_=some r):Sp Tryz.prog 34 [.im (nL cI a_),.im (nL cI b_)] (.im (nI r)):=by
 refine E4 [] λhk=>?_;have z1:lZ a_:=B5 hk.1;have z2:lZ b_:=B5 hk.2.1;unfold lE at h;refine A7 a_.length C3<|A7 b_.length C3<|B9 h (λa7 h a2=>?_) λa7 h a2=>?_;cases h;exact⟨rfl,rfl⟩;refine A7 a_.length C3<|A7 b_.length C3<|B9 h (λa8 h a6=>?_) λa8 h a6=>?_;cases h;exact⟨rfl,rfl⟩;obtain⟨b2,a3,h⟩:=A6 h;refine⟨_,sp_R01_Lex a_ b_ b2 a3,?_⟩;cases h;exact⟨rfl,rfl⟩
def xA(t_ r:C7)(h:lB t_=some r):Sp Tryz.prog 155 [.im (.agg (I6 t_))] (.im (.agg (I6 r))):=by
 refine E4 [700001] λhk=>?_;have z1:lZ t_.In:=B5 (D4 hk.1 0 rfl);have z2:lZ t_.O:=B5 (D4 hk.1 1 rfl);unfold lB at h;obtain⟨a2,a4,h⟩:=A6 h;refine⟨_,(qD [t_.In] a2 a4).im,?_⟩;obtain⟨a6,a3,h⟩:=A6 h;refine⟨_,(qD [t_.O] a6 a3).im,?_⟩;refine A3 rfl ?_;cases h;refine A3 ⟨rfl,trivial⟩ ?_;exact⟨rfl,rfl⟩
def sp_R16_add(o_:G7)(t_:C7)(r:G7)(h:S1 o_ t_=some r):Sp Tryz.prog 132 [.im (.agg (P1 o_)),.im (.agg (I6 t_))] (.im (.agg (P1 r))):=by
 refine E4 [700002,700003] λhk=>?_;have z1:lZ o_.T:=B5 (D4 hk.1 1 rfl);have z2:lZ t_.In:=B5 (D4 hk.2.1 0 rfl);have z3:lZ t_.O:=B5 (D4 hk.2.1 1 rfl);unfold S1 at h;refine A3 rfl<|A7 t_.In.length C3 ?_;obtain⟨f9,h,h3⟩:=A6 h;refine F5 (mkSt [(2,C0 (P1 o_)),(3,C0 (I6 t_)),(4,.own 97 1 0),(5,.own 98 1 0),(6,I9 f9)] [(97,.box 35 2),(98,.box 35 2)] [(97,0,.im (nI 0)),(97,1,.im (.val (.slice none 0 0))),(98,0,.im (nI o_.I)),(98,1,.im (.val (.slice none 0 0)))]) hT ?_ λhp=>?_;refine E2 h (λ(a4,b9)=>mkSt [(2,C0 (P1 o_)),(3,C0 (I6 t_)),(4,.own 97 1 0),(5,.own 98 1 0),(6,I9 a4),(7,B3 b9)] [(97,.box 35 2),(98,.box 35 2)] [(97,0,.im (nI 0)),(97,1,.im (.val (.slice none 0 0))),(98,0,.im (nI o_.I)),(98,1,.im (.val (.slice none 0 0)))]) (λ(a4,b9)=>True) (eA (J1 [97,4,98,5])) (λ⟨a4,b9⟩=>hT) ?_;rintro k ⟨a4,b9⟩ o hp h f8;change S1.s2 o_ t_ a4 b9=_ at h;unfold S1.s2 at h;refine A7 o_.T.length C3<|B9 h (λd9 h c6=>?_) λd9 h c6=>?_;refine jI h (λb8 h=>?_) λb8 h=>?_
 iterate 3 (refine C1 (N8 b8) ?_)
 refine E3 h λe0 h5 h=>?_
 iterate 5 (refine C1 (N8 b8) ?_)
 obtain⟨e1,h2,h⟩:=A6 h;refine⟨_,xU e0.In t_.In e1 h2,?_⟩;refine E1 b8<|C6.mk (zzR_ (by omega)) ?_;cases h;exact D2 _ f8 eZ
 iterate 8 (refine E1 (dS b8) ?_)
 refine C1 b8<|C6.mk (zzR_ (by omega)) ?_;cases h;exact D2 _ f8 eZ;cases h;cases C4 f8;exact C8 eZ;replace h:=h3;obtain⟨⟨b4,a9⟩,h,h0⟩:=A6 h;refine F5 (mkSt [(3,C0 (I6 t_)),(4,.own 97 1 0),(5,.own 98 1 0),(6,I9 a9)] [(97,.box 35 2),(98,.box 35 2),(99,.row 70 2 (List.map I6 b4))] [(97,0,.im (nI 0)),(97,1,.im (.val (.slice none 0 0))),(98,0,.im (nI o_.I)),(98,1,.osl 99 1)]) ((Holds.kdl 99 rfl).and hT) ?_ λhp=>?_;refine E2 h (λ(a6,a3,a7)=>mkSt [(2,C0 (P1 o_)),(3,C0 (I6 t_)),(4,.own 97 1 0),(5,.own 98 1 0),(6,I9 a3),(8,B3 a7)] [(97,.box 35 2),(98,.box 35 2),(99,.row 70 2 (List.map I6 a6))] [(97,0,.im (nI 0)),(97,1,.im (.val (.slice none 0 0))),(98,0,.im (nI o_.I)),(98,1,.osl 99 1)]) (λ(a6,a3,a7)=>lZ a6/\True) (eA [(97,some 97),(98,some 98),(99,none)]) (λ⟨a6,a3,a7⟩=>((Holds.kdl 99 rfl).and hT)) ?_;rintro k ⟨a6,a3,a7⟩ o hp h f6;change S1.s10 o_ t_ a6 a3 a7=_ at h;unfold S1.s10 at h;obtain⟨e2,_⟩:=hp;refine A7 o_.T.length C3<|B9 h (λc7 h c0=>?_) λc7 h c0=>?_;refine E3 h λa2 h4 h=>?_;refine A3 rfl ?_;obtain⟨⟨b3,a5⟩,h,g5⟩:=A6 h;refine F5 (mkSt [(2,C0 (P1 o_)),(3,C0 (I6 t_)),(4,.own 97 1 0),(5,.own 98 1 0),(6,I9 a5),(8,B3 a7),(9,.own 100 1 0)] [(97,.box 35 2),(98,.box 35 2),(99,.row 70 2 (List.map I6 b3)),(100,.box 70 2)] [(97,0,.im (nI 0)),(97,1,.im (.val (.slice none 0 0))),(98,0,.im (nI o_.I)),(98,1,.osl 99 1),(100,0,.im (nL cI a2.In)),(100,1,.im (nL cI a2.O))]) ((Holds.kdl 99 rfl).and ((Holds.cel 100 0 rfl (by decide) rfl).and ((Holds.cel 100 1 rfl (by decide) rfl).and hT))) ?_ λhp=>?_;obtain⟨c8,h,g8⟩:=A6 h;refine F5 (mkSt [(2,C0 (P1 o_)),(3,C0 (I6 t_)),(4,.own 97 1 0),(5,.own 98 1 0),(6,I9 a3),(8,B3 a7),(9,.own 100 1 0),(57,I9 c8)] [(97,.box 35 2),(98,.box 35 2),(99,.row 70 2 (List.map I6 a6)),(100,.box 70 2)] [(97,0,.im (nI 0)),(97,1,.im (.val (.slice none 0 0))),(98,0,.im (nI o_.I)),(98,1,.osl 99 1),(100,0,.im (nL cI a2.In)),(100,1,.im (nL cI a2.O))]) ((Holds.kdl 99 rfl).and ((Holds.cel 100 0 rfl (by decide) rfl).and ((Holds.cel 100 1 rfl (by decide) rfl).and hT))) ?_ λhp=>?_;refine bQ h (λb2 h=>?_) λb2 h=>?_
 iterate 2 (refine C1 (G0 b2) ?_)
 refine A3 rfl<|C1 (G0 b2)<|A3 rfl<|C1 (G0 b2) ?_;obtain⟨c9,g2,h⟩:=A6 h;refine⟨_,CO t_.In a2.In c9 g2,?_⟩;refine C1 (G0 b2)<|C1 b2 ?_;cases h;exact C8 (eA (J1 [97,97,98,98,99,99,100,9]))
 iterate 5 (refine E1 (O9 b2) ?_)
 refine E1 b2 ?_;cases h;exact C8 (eA (J1 [97,97,98,98,99,99,100,9]));replace h:=g8;obtain⟨e3,e4,e5,_⟩:=hp;refine I5 h (λd0 h=>?_) λd0 h=>?_;refine A3 rfl<|A3 rfl ?_;obtain⟨b5,g9,h⟩:=A6 h;refine⟨_,xA t_ b5 g9,?_⟩;obtain⟨d1,h⟩:=D1 h;refine A3 ⟨rfl,J8 (l:=[b5]) (c:=I6) λ_=>rfl,show B4 _ 48 by simpa only[B7,G8,K3,E8]using d1⟩ ?_;refine A7 (List.map I6 (a6++[b5])) (J9 (l:=a6) (m:=[b5]) (c:=I6))<|A3 rfl<|A3 rfl ?_;cases h;exact C8 eZ;cases h;exact C8 eZ;replace h:S1.k9 t_ a7 a2 b3 a5=some _:=g5;unfold S1.k9 at h;obtain⟨e6,e7,e8,_⟩:=hp;obtain⟨d2,h,g3⟩:=A6 h;refine F5 (mkSt [(2,C0 (P1 o_)),(3,C0 (I6 t_)),(4,.own 97 1 0),(5,.own 98 1 0),(6,I9 a5),(8,B3 a7),(9,.own 100 1 0),(79,I9 d2)] [(97,.box 35 2),(98,.box 35 2),(99,.row 70 2 (List.map I6 b3)),(100,.box 70 2)] [(97,0,.im (nI 0)),(97,1,.im (.val (.slice none 0 0))),(98,0,.im (nI o_.I)),(98,1,.osl 99 1),(100,0,.im (nL cI a2.In)),(100,1,.im (nL cI a2.O))]) ((Holds.kdl 99 rfl).and ((Holds.cel 100 0 rfl (by decide) rfl).and ((Holds.cel 100 1 rfl (by decide) rfl).and hT))) ?_ λhp=>?_;refine A3 rfl<|A3 rfl ?_;obtain⟨d3,g1,h⟩:=A6 h;refine⟨_,xU t_.In a2.In d3 g1,?_⟩;refine jI h (λa8 h=>?_) λa8 h=>?_
 iterate 2 (refine C1 (N8 a8) ?_)
 refine A7 t_.In.length C3<|C1 (N8 a8)<|A3 rfl<|C1 (N8 a8)<|A3 rfl<|C1 (N8 a8)<|A7 a2.In.length C3<|C1 (N8 a8)<|E1 a8 ?_;cases h;exact C8 eZ
 iterate 6 (refine E1 (dS a8) ?_)
 refine C1 a8 ?_;cases h;exact C8 eZ;replace h:=g3;obtain⟨e9,f3,f4,_⟩:=hp;refine I5 h (λd4 h=>?_) λd4 h=>?_;refine A3 rfl<|A3 rfl<|A3 rfl ?_;obtain⟨b6,g7,h⟩:=A6 h;refine⟨_,xA a2 b6 g7,?_⟩;obtain⟨d5,h⟩:=D1 h;refine A3 ⟨rfl,J8 (l:=[b6]) (c:=I6) λ_=>rfl,show B4 _ 48 by simpa only[B7,G8,K3,E8]using d5⟩ ?_;refine A7 (List.map I6 (b3++[b6])) (J9 (l:=b3) (m:=[b6]) (c:=I6))<|A3 rfl<|A3 rfl<|C6.mk (zzR_ (by omega)) ?_;cases h;exact D2 _ f6 eZ;refine C6.mk (zzR_ (by omega)) ?_;cases h;exact D2 _ f6 eZ;cases h;cases C4 f6;exact C8 eZ;replace h:S1.k11 o_ t_ b4 a9=some _:=h0;unfold S1.k11 at h;obtain⟨f5,_⟩:=hp;obtain⟨d6,h,g6⟩:=A6 h;refine F5 (mkSt [(4,.own 97 1 0),(5,.own 98 1 0)] [(97,.box 35 2),(98,.box 35 2),(99,.row 70 2 (List.map I6 d6))] [(97,0,.im (nI 0)),(97,1,.im (.val (.slice none 0 0))),(98,0,.im (nI o_.I)),(98,1,.osl 99 1)]) ((Holds.kdl 99 rfl).and hT) ?_ λhp=>?_;refine I5 h (λd7 h=>?_) λd7 h=>?_;refine A3 rfl<|A3 rfl ?_;obtain⟨b7,g4,h⟩:=A6 h;refine⟨_,xA t_ b7 g4,?_⟩;obtain⟨d8,h⟩:=D1 h;refine A3 ⟨rfl,J8 (l:=[b7]) (c:=I6) λ_=>rfl,show B4 _ 48 by simpa only[B7,G8,K3,E8]using d8⟩ ?_;refine A7 (List.map I6 (b4++[b7])) (J9 (l:=b4) (m:=[b7]) (c:=I6))<|A3 rfl<|A3 rfl ?_;cases h;exact C8 eZ;cases h;exact C8 eZ;replace h:=g6;obtain⟨f7,_⟩:=hp;refine A3 rfl<|A3 rfl ?_;cases h;refine A3 ⟨rfl,trivial⟩ ?_;exact A3 ⟨rfl,trivial⟩ ⟨rfl,rfl⟩
def sp_R16_Add(o_:G7)(t_:C7)(r:G7×Int)(h:gN o_ t_=some r):Sp Tryz.prog 98 [.im (.agg (P1 o_)),.im (.agg (I6 t_))] (.tup [.agg (P1 r.1),nI r.2]):=by
 refine E4 [700002,700003] λhk=>?_;have z1:lZ o_.T:=B5 (D4 hk.1 1 rfl);have z2:lZ t_.In:=B5 (D4 hk.2.1 0 rfl);have z3:lZ t_.O:=B5 (D4 hk.2.1 1 rfl);unfold gN at h;obtain⟨b4,a9,h⟩:=A6 h;refine⟨_,sp_R16_Proper t_ o_.I b4 a9,?_⟩;refine B9 h (λb5 h a2=>?_) λb5 h a2=>?_;refine A3 rfl ?_;cases h;refine A3 ⟨rfl,trivial⟩ ?_;exact⟨rfl,rfl⟩;obtain⟨oc,h,a4⟩:=A6 h;refine R6 oc (mkSt [(2,C0 (P1 o_)),(3,C0 (I6 t_)),(4,.own 64 1 0)] [(64,.box 35 2)] [(64,0,.im (nI 0)),(64,1,.im (.val (.slice none 0 0)))]) hT ?_ ?_;refine E2 h (λa6=>mkSt [(2,C0 (P1 o_)),(3,C0 (I6 t_)),(4,.own 64 1 0),(7,B3 a6)] [(64,.box 35 2)] [(64,0,.im (nI 0)),(64,1,.im (.val (.slice none 0 0)))]) (λa6=>True) (eA (J1 [64,4])) (λ_=>hT) ?_;rintro k a6 o hp h a3;unfold gN.s2 at h;refine A7 o_.T.length C3<|B9 h (λb6 h a7=>?_) λb6 h a7=>?_;refine E3 h λb7 c7 h=>?_;obtain⟨b8,a5,h⟩:=A6 h;refine⟨_,sp_R16_Differ b7 t_ b8 a5,?_⟩;refine B9 h (λb9 h a8=>?_) λb9 h a8=>?_;refine A3 rfl ?_;cases h;cases C4 a3;replace h:some _=some _:=a4;cases h;refine A3 ⟨rfl,trivial⟩ ?_;exact⟨rfl,rfl⟩;refine C6.mk (zzR_ (by omega)) ?_;cases h;exact D2 _ a3 eZ;cases h;cases C4 a3;exact J6.mk' _ rfl eZ;rintro⟨⟩ rfl hp;replace h:=L4 a4;obtain⟨b3,c6,h⟩:=A6 h;refine⟨_,sp_R16_add o_ t_ b3 c6,?_⟩;refine A3 rfl<|A3 rfl<|A3 rfl<|A7 b3.T.length C3<|B9 h (λc0 h b2=>?_) λc0 h b2=>?_;refine A3 rfl ?_;cases h;refine A3 ⟨rfl,trivial⟩ ?_;exact⟨rfl,rfl⟩;refine A3 rfl<|A3 rfl ?_;cases h;refine A3 ⟨rfl,trivial⟩ ?_;exact⟨rfl,rfl⟩
def sp_R16_All(o_:G7)(l_:List C7)(r:G7×Int)(h:cF o_ l_=some r):Sp Tryz.prog 66 [.im (.agg (P1 o_)),.im (nL I6 l_)] (.tup [.agg (P1 r.1),nI r.2]):=by
 refine E4 [700002] λhk=>?_;have z1:lZ o_.T:=B5 (D4 hk.1 1 rfl);have z2:lZ l_:=B5 hk.2.1;unfold cF at h;refine A3 rfl ?_;obtain⟨oc,h,a4⟩:=A6 h;refine S8 oc (Y:=Int×List C7) (λ(a8,a6)=>mkSt [(4,.own 64 1 0),(6,.own 65 1 0)] [(64,.box 35 2),(65,.box 35 2)] [(64,0,.im (nI 0)),(64,1,.im (.val (.slice none 0 0))),(65,0,.im (nI a8)),(65,1,.im (nL I6 a6))]) (λ(a8,a6)=>lZ a6/\True) (by rintro⟨a8,a6⟩;exact((Holds.cel 65 1 rfl (by decide) rfl).and hT)) ?_ ?_;refine E2 h (λ(a7,a2,b2)=>mkSt [(1,C5 I6 l_),(2,C0 (P1 o_)),(4,.own 64 1 0),(6,.own 65 1 0),(7,B3 b2)] [(64,.box 35 2),(65,.box 35 2)] [(64,0,.im (nI 0)),(64,1,.im (.val (.slice none 0 0))),(65,0,.im (nI a7)),(65,1,.im (nL I6 a2))]) (λ(a7,a2,b2)=>lZ l_/\lZ a2/\True) (eA (J1 [64,4,65,6])) (λ⟨a7,a2,b2⟩=>((C9 1 rfl).and ((Holds.cel 65 1 rfl (by decide) rfl).and hT))) ?_;rintro k ⟨a7,a2,b2⟩ o hp h a3;change cF.s2 o_ l_ a7 a2 b2=_ at h;unfold cF.s2 at h;obtain⟨b9,c0,_⟩:=hp;refine A7 l_.length C3<|B9 h (λb5 h b3=>?_) λb5 h b3=>?_;refine A3 rfl<|E3 h λb6 c7 h=>?_;obtain⟨b7,a5,h⟩:=A6 h;refine⟨_,sp_R16_Add (⟨a7,a2⟩:G7) b6 b7 a5,?_⟩;refine A3 rfl<|B9 h (λb8 h b4=>?_) λb8 h b4=>?_;refine A3 rfl ?_;cases h;cases C4 a3;replace h:some _=some _:=a4;cases h;refine A3 ⟨rfl,trivial⟩ ?_;exact⟨rfl,rfl⟩;refine A3 rfl<|A3 rfl<|C6.mk (zzR_ (by omega)) ?_;cases h;exact D2 _ a3 eZ;cases h;cases C4 a3;exact J6.mk' _ rfl eZ;rintro⟨a8,a6⟩ rfl hp;have a9:=L4 a4;replace h:cF.k3 a8 a6=some _:=a9;clear a9;unfold cF.k3 at h;obtain⟨c6,_⟩:=hp;refine A3 rfl<|A3 rfl ?_;cases h;refine A3 ⟨rfl,trivial⟩ ?_;exact⟨rfl,rfl⟩
def sp_R16_Of(m_:A8)(words_:A4)(r:G7×Int)(h:R16_Of m_ words_=some r):Sp Tryz.prog 24 [.im (.agg (D9 m_)),.im (nL (cL cI) words_)] (.tup [.agg (P1 r.1),nI r.2]):=by
 refine E4 [700002] λhk=>?_;have z1:lZ m_.N:=B5 (D4 hk.1 2 rfl);have z2:lZ m_.O:=B5 (D4 hk.1 3 rfl);have z3:lZ words_:=B5 hk.2.1;unfold R16_Of at h;obtain⟨a7,a4,h⟩:=A6 h;refine⟨_,sp_R06_Traces m_ words_ a7 a4,?_⟩;refine B9 h (λa8 h a2=>?_) λa8 h a2=>?_;refine A3 rfl ?_;cases h;refine A3 ⟨rfl,trivial⟩ ?_;exact⟨rfl,rfl⟩;obtain⟨b2,a3,h⟩:=A6 h;refine⟨_,sp_R16_All (⟨m_.I,[]⟩:G7) a7.1 b2 a3,?_⟩;refine A3 rfl<|B9 h (λb3 h a6=>?_) λb3 h a6=>?_;refine A3 rfl ?_;cases h;refine A3 ⟨rfl,trivial⟩ ?_;exact⟨rfl,rfl⟩;refine A3 rfl<|A3 rfl ?_;cases h;refine A3 ⟨rfl,trivial⟩ ?_;exact⟨rfl,rfl⟩
def wP(a_ b_:A2)(r:Bool)(h:jU a_ b_=some r):Sp Tryz.prog 33 [.im (nL cI a_),.im (nL cI b_)] (.im (nB r)):=by
 refine E4 [] λhk=>?_;have z1:lZ a_:=B5 hk.1;have z2:lZ b_:=B5 hk.2.1;unfold jU at h;obtain⟨a7,h,a4⟩:=A6 h;refine F5 (mkSt [(4,I9 a7)] [] []) hT ?_ λhp=>?_;refine A7 a_.length C3<|A7 b_.length C3<|T8 h (λa2 h a6=>?_) λa2 h a6=>?_
 iterate 2 (refine C1 (G0 a2) ?_)
 obtain⟨a8,a3,h⟩:=A6 h;refine⟨_,tL a_ b_ a8 a3,?_⟩
 iterate 2 (refine C1 (G0 a2) ?_)
 refine A7 a_.length C3<|C1 (G0 a2)<|C1 a2 ?_;cases h;exact C8 eZ
 iterate 5 (refine E1 (O9 a2) ?_)
 refine E1 a2 ?_;cases h;exact C8 eZ;replace h:=a4;cases h;exact⟨rfl,rfl⟩
def oA(a_ b_:A4)(r:Bool)(h:aO a_ b_=some r):Sp Tryz.prog 28 [.im (nL (cL cI) a_),.im (nL (cL cI) b_)] (.im (nB r)):=by
 refine E4 [] λhk=>?_;have z1:lZ a_:=B5 hk.1;have z2:lZ b_:=B5 hk.2.1;unfold aO at h;refine A7 a_.length C3<|A7 b_.length C3<|B9 h (λa8 h a6=>?_) λa8 h a6=>?_;cases h;exact⟨rfl,rfl⟩;obtain⟨oc,h,a4⟩:=A6 h;refine R6 oc (mkSt [] [] []) hT ?_ ?_;refine E2 h (λa2=>mkSt [(0,C5 (cL cI) a_),(1,C5 (cL cI) b_),(5,B3 a2)] [] []) (λa2=>lZ a_/\lZ b_/\True) eZ (λa2=>((C9 0 rfl).and ((C9 1 rfl).and hT))) ?_;rintro k a2 o hp h a3;unfold aO.s2 at h;obtain⟨b7,b8,_⟩:=hp;refine A7 a_.length C3<|B9 h (λb2 h a7=>?_) λb2 h a7=>?_;refine E3 h λb3 b9 h=>?_;refine E3 h λb4 a9 h=>?_;obtain⟨b5,a5,h⟩:=A6 h;refine⟨_,wP b3 b4 b5 a5,?_⟩;refine I5 h (λb6 h=>?_) λb6 h=>?_;cases h;cases C4 a3;replace h:some _=some _:=a4;cases h;exact⟨rfl,rfl⟩;refine C6.mk (zzR_ (by omega)) ?_;cases h;exact D2 _ a3 eZ;cases h;cases C4 a3;exact J6.mk' _ rfl eZ;rintro⟨⟩ rfl hp;replace h:=L4 a4;cases h;exact⟨rfl,rfl⟩
def sp_R02_place(l_:A4)(w_:A2)(r:Int)(h:gW l_ w_=some r):Sp Tryz.prog 105 [.im (nL (cL cI) l_),.im (nL cI w_)] (.im (nI r)):=by
 refine E4 [] λhk=>?_;have z1:lZ l_:=B5 hk.1;have z2:lZ w_:=B5 hk.2.1;unfold gW at h;refine A7 l_.length C3 ?_;obtain⟨a9,h,c0⟩:=A6 h;refine F5 (mkSt [(5,B3 a9)] [] []) hT ?_ λhp=>?_;refine E2 h (λ(a4,a3)=>mkSt [(0,C5 (cL cI) l_),(1,C5 cI w_),(5,B3 a4),(6,B3 a3)] [] []) (λ(a4,a3)=>lZ l_/\lZ w_/\True) eZ (λ⟨a4,a3⟩=>((C9 0 rfl).and ((C9 1 rfl).and hT))) ?_;rintro k ⟨a4,a3⟩ o hp h a5;change gW.s2 l_ w_ a4 a3=_ at h;unfold gW.s2 at h;obtain⟨a8,b2,_⟩:=hp;refine B9 h (λb3 h a2=>?_) λb3 h a2=>?_;obtain⟨b4,h⟩:=D1 h;refine C6.mk b4 ?_;obtain⟨b5,h⟩:=D1 h;refine A3 b5<|E3 h λb6 c6 h=>?_;obtain⟨b7,b9,h⟩:=A6 h;refine⟨_,CO b6 w_ b7 b9,?_⟩;refine B9 h (λb8 h a6=>?_) λb8 h a6=>?_;obtain⟨a7,h⟩:=D1 h;refine C6.mk a7 ?_;cases h;exact D2 _ a5 eZ;cases h;exact D2 _ a5 eZ;cases h;cases C4 a5;exact C8 eZ;replace h:=c0;cases h;exact⟨rfl,rfl⟩
def wM(l_:A4)(w_:A2)(r:A4)(h:OkL (List.map (cL cI) l_)->Ok (nL cI w_)->dW l_ w_=some r):Sp Tryz.prog 72 [.row 60 1 (List.map (cL cI) l_),.im (nL cI w_)] (.row 60 1 (List.map (cL cI) r)):=by
 refine E4 [44,500009] λhk=>?_;replace h:=h hk.1 hk.2.1;have z1:lZ l_:=okl_len hk.1;have z2:lZ w_:=B5 hk.2.1;unfold dW at h;refine A3 ⟨rfl,trivial⟩ ?_;obtain⟨a7,e6,h⟩:=A6 h;refine⟨_,sp_R02_place l_ w_ a7 e6,?_⟩;refine A3 fO ?_;obtain⟨c0,h,e7⟩:=A6 h;refine F5 (mkSt [(0,.osl 64 1),(1,C5 cI w_),(5,B6 a7),(21,I9 c0)] [(64,.row 60 1 (List.map (cL cI) l_))] []) ((C9 1 rfl).and ((Holds.kdl 64 rfl).and hT)) ?_ λhp=>?_;refine A3 rfl<|A7 l_.length C3<|T8 h (λa2 h b3=>?_) λa2 h b3=>?_
 iterate 2 (refine C1 (G0 a2) ?_)
 obtain⟨c6,e3,e2,h⟩:=J5 h;refine A3 ⟨e3,rfl,D3 e2⟩<|C1 (G0 a2)<|⟨_,_,⟨rfl,D5 e2,rfl,rfl⟩,?_⟩
 iterate 2 (refine C1 (G0 a2) ?_)
 obtain⟨c7,e4,h⟩:=A6 h;refine⟨_,wP c6 w_ c7 e4,?_⟩;refine C1 a2 ?_;cases h;exact C8 (eA (J1 [64,0]))
 iterate 5 (refine E1 (O9 a2) ?_)
 refine E1 a2 ?_;cases h;exact C8 (eA (J1 [64,0]));replace h:=e7;obtain⟨d7,d8,_⟩:=hp;refine I5 h (λc8 h=>?_) λc8 h=>?_;cases h;exact A3 ⟨rfl,trivial⟩ ⟨rfl,rfl⟩;obtain⟨c9,h⟩:=D1 h;refine A3 ⟨rfl,J8 (l:=[[]]) (c:=cL cI) λ_=>rfl,show B4 _ 24 by simpa only[B7,G8,K3,E8]using c9⟩ ?_;refine A7 (List.map (cL cI) (l_++[[]])) (J9 (l:=l_) (m:=[[]]) (c:=cL cI))<|A3 rfl<|A7 (List.length (l_++[[]])) C3 ?_;obtain⟨d0,h⟩:=D1 h;refine C6.mk d0 ?_;obtain⟨b9,h,e5⟩:=A6 h;refine F5 (mkSt [(0,.osl 64 1),(1,C5 cI w_),(5,B6 a7)] [(64,.row 60 1 (List.map (cL cI) b9))] []) ((C9 1 rfl).and ((Holds.kdl 64 rfl).and hT)) ?_ λhp=>?_;refine E2 h (λ(a6,a8)=>mkSt [(0,.osl 64 1),(1,C5 cI w_),(5,B6 a7),(6,B6 a8)] [(64,.row 60 1 (List.map (cL cI) a6))] []) (λ(a6,a8)=>lZ w_/\lZ a6/\True) eZ (λ⟨a6,a8⟩=>((C9 1 rfl).and ((Holds.kdl 64 rfl).and hT))) ?_;rintro k ⟨a6,a8⟩ o hp h a4;change dW.s2 a7 a6 a8=_ at h;unfold dW.s2 at h;obtain⟨d1,d2,_⟩:=hp;refine B9 h (λb4 h b2=>?_) λb4 h b2=>?_;obtain⟨b5,h⟩:=D1 h;refine C6.mk b5 ?_;obtain⟨b6,d9,a5,h⟩:=J5 h;refine A3 ⟨d9,rfl,D3 a5⟩<|⟨_,_,⟨rfl,D5 a5,rfl,rfl⟩,?_⟩;obtain⟨d3,e1,a3,h⟩:=J5 h;refine A3 ⟨e1,rfl,D3 a3⟩<|A3 ⟨rfl,trivial⟩<|⟨_,D5 a3,?_⟩;refine A7 (List.map (cL cI) (List.set a6 a8.toNat b6)) (P7 rfl) ?_;obtain⟨b7,h⟩:=D1 h;refine C6.mk b7 ?_;cases h;exact D2 _ a4 eZ;cases h;cases C4 a4;exact C8 eZ;replace h:=e5;obtain⟨d4,d5,_⟩:=hp;obtain⟨b8,h⟩:=D1 h;refine A3 ⟨rfl,J8 (l:=w_) (c:=cI) λ_=>rfl,show B4 _ 8 by simpa only[B7,G8,K3,E8]using b8⟩ ?_;refine A7 (List.map cI ([]++w_)) (J9 (l:=[]) (m:=w_) (c:=cI)) ?_;obtain⟨d6,e0,a9,h⟩:=J5 h;refine A3 ⟨e0,rfl,D3 a9⟩<|A3 ⟨rfl,rfl,trivial⟩<|⟨_,D5 a9,?_⟩;refine A7 (List.map (cL cI) (List.set b9 a7.toNat ([]++w_))) (P7 rfl) ?_;cases h;exact A3 ⟨rfl,trivial⟩ ⟨rfl,rfl⟩
def nZ(l_ r:A4)(h:cG l_=some r):Sp Tryz.prog 29 [.im (nL (cL cI) l_)] (.row 60 1 (List.map (cL cI) r)):=by
 refine E4 [17000] λhk=>?_;have z1:lZ l_:=B5 hk.1;unfold cG at h;obtain⟨a8,h,a5⟩:=A6 h;refine F5 (mkSt [(3,.osl 64 1)] [(64,.row 60 1 (List.map (cL cI) a8))] []) ((Holds.kdl 64 rfl).and hT) ?_ λhp=>?_;refine E2 h (λ(a2,a6)=>mkSt [(0,C5 (cL cI) l_),(3,.osl 64 1),(4,B3 a6)] [(64,.row 60 1 (List.map (cL cI) a2))] []) (λ(a2,a6)=>lZ l_/\lZ a2/\True) (eA [(64,none)]) (λ⟨a2,a6⟩=>((C9 0 rfl).and ((Holds.kdl 64 rfl).and hT))) ?_;rintro k ⟨a2,a6⟩ o hp h a3;change cG.s2 l_ a2 a6=_ at h;unfold cG.s2 at h;obtain⟨b5,b6,_⟩:=hp;refine A7 l_.length C3<|B9 h (λb2 h a7=>?_) λb2 h a7=>?_;refine E3 h λb3 a9 h=>?_;refine A3 ⟨rfl,trivial⟩ ?_;obtain⟨b4,a4,h⟩:=A6 h;refine⟨_,wM a2 b3 b4 (λ_ _=>a4),?_⟩;refine C6.mk (zzR_ (by omega)) ?_;cases h;exact D2 _ a3 (eA (J1 [64,16]));cases h;cases C4 a3;exact C8 eZ;replace h:=a5;obtain⟨b7,_⟩:=hp;cases h;exact A3 ⟨rfl,trivial⟩ ⟨rfl,rfl⟩
def sp_L36_great(m_:A8)(r:Bool)(h:bJ m_=some r):Sp Tryz.prog 20 [.im (.agg (D9 m_))] (.im (nB r)):=by
 refine E4 [700001] λhk=>?_;have z1:lZ m_.N:=B5 (D4 hk.1 2 rfl);have z2:lZ m_.O:=B5 (D4 hk.1 3 rfl);unfold bJ at h;obtain⟨oc,h,a9⟩:=A6 h;refine R6 oc (mkSt [(1,C0 (D9 m_))] [] []) hT ?_ ?_;refine E2 h (λb4=>mkSt [(1,C0 (D9 m_)),(3,B3 b4)] [] []) (λb4=>True) eZ (λ_=>hT) ?_;rintro k b4 o hp h a4;unfold bJ.s2 at h;refine P6 h (λa6=>mkSt [(1,C0 (D9 m_)),(3,B3 b4),(13,I9 a6)] [] []) (λ_=>hT) λa6 h hp=>?_;refine I5 h (λb5 h=>?_) λb5 h=>?_;refine E3 h λb6 c8 h=>?_;refine A7 b6.length C3<|B9 h (λb7 h a7=>?_) λb7 h a7=>?_;cases h;cases C4 a4;replace h:some _=some _:=a9;cases h;exact⟨rfl,rfl⟩;obtain⟨b8,h⟩:=D1 h;refine C6.mk b8 ?_;cases h;exact D2 _ a4 eZ;cases h;cases C4 a4;exact J6.mk' _ rfl eZ;rintro⟨⟩ rfl hp;replace h:=L4 a9;obtain⟨oc,h,a5⟩:=A6 h;refine R6 oc (mkSt [(1,C0 (D9 m_))] [] []) hT ?_ ?_;refine E2 h (λa2=>mkSt [(1,C0 (D9 m_)),(4,B3 a2)] [] []) (λa2=>True) eZ (λ_=>hT) ?_;rintro k a2 o hp h a3;unfold bJ.s4 at h;refine P6 h (λa8=>mkSt [(1,C0 (D9 m_)),(4,B3 a2),(31,I9 a8)] [] []) (λ_=>hT) λa8 h hp=>?_;refine I5 h (λb9 h=>?_) λb9 h=>?_;refine E3 h λc0 c9 h=>?_;refine A7 c0.length C3<|B9 h (λc6 h b2=>?_) λc6 h b2=>?_;cases h;cases C4 a3;replace h:some _=some _:=a5;cases h;exact⟨rfl,rfl⟩;obtain⟨c7,h⟩:=D1 h;refine C6.mk c7 ?_;cases h;exact D2 _ a3 eZ;cases h;cases C4 a3;exact J6.mk' _ rfl eZ;rintro⟨⟩ rfl hp;replace h:=L4 a5;refine P6 h (λb3=>mkSt [(2,I9 b3)] [] []) (λ_=>hT) λb3 h hp=>?_;cases h;exact⟨rfl,rfl⟩
def zsc(l_ r:A4)(h:fU l_=some r):Sp Tryz.prog 36 [.im (nL (cL cI) l_)] (.row 60 1 (List.map (cL cI) r)):=by
 refine E4 [29000] λhk=>?_;have z1:lZ l_:=B5 hk.1;unfold fU at h;obtain⟨b5,h,d5⟩:=A6 h;refine F5 (mkSt [(3,.osl 64 1)] [(64,.row 60 1 (List.map (cL cI) b5))] []) ((Holds.kdl 64 rfl).and hT) ?_ λhp=>?_;refine E2 h (λ(a8,a6)=>mkSt [(0,C5 (cL cI) l_),(3,.osl 64 1),(4,B3 a6)] [(64,.row 60 1 (List.map (cL cI) a8))] []) (λ(a8,a6)=>lZ l_/\lZ a8/\True) (eA [(64,none)]) (λ⟨a8,a6⟩=>((C9 0 rfl).and ((Holds.kdl 64 rfl).and hT))) ?_;rintro k ⟨a8,a6⟩ o hp h a3;change fU.s14 l_ a8 a6=_ at h;unfold fU.s14 at h;obtain⟨c7,c8,_⟩:=hp;refine A7 l_.length C3<|B9 h (λb6 h b3=>?_) λb6 h b3=>?_;obtain⟨b7,h,a9⟩:=A6 h;refine F5 (mkSt [(0,C5 (cL cI) l_),(3,.osl 64 1),(4,B3 a6)] [(64,.row 60 1 (List.map (cL cI) b7))] []) ((C9 0 rfl).and ((Holds.kdl 64 rfl).and hT)) ?_ λhp=>?_;refine E2 h (λ(a7,a2)=>mkSt [(0,C5 (cL cI) l_),(3,.osl 64 1),(4,B3 a6),(5,B3 a2)] [(64,.row 60 1 (List.map (cL cI) a7))] []) (λ(a7,a2)=>lZ l_/\lZ a7/\True) eZ (λ⟨a7,a2⟩=>((C9 0 rfl).and ((Holds.kdl 64 rfl).and hT))) ?_;rintro k ⟨a7,a2⟩ o hp h a4;change fU.s13 l_ a6 a7 a2=_ at h;unfold fU.s13 at h;obtain⟨c9,d0,_⟩:=hp;refine E3 h λb8 d7 h=>?_;refine A7 b8.length C3<|B9 h (λb9 h b4=>?_) λb9 h b4=>?_;refine E3 h λb2 d6 h=>?_;obtain⟨d1,h⟩:=D1 h;refine A3 (show(0:Int)<=(0:Int)/\(0:Int)<=(a2:Int)/\(a2:Int)<=(↑(List.length (List.map cI b2)):Int)/\(∀e∈List.map cI b2,List.length e=1) from⟨by omega,by first|omega|(simp only[B7];omega),by first|omega|(simp only[B7];omega),J8 λ_=>rfl⟩) ?_
 refine A7 (List.map cI (List.take a2 b2)) pD<|A3 ⟨rfl,trivial⟩ ?_;obtain⟨c0,a5,h⟩:=A6 h;refine⟨_,wM a7 (List.take a2 b2) c0 (λ_ _=>a5),?_⟩;obtain⟨c6,h⟩:=D1 h;refine C6.mk c6 ?_;cases h;exact D2 _ a4 (eA (J1 [64,28]));cases h;cases C4 a4;exact C8 eZ;replace h:=a9;obtain⟨d2,d3,_⟩:=hp;refine C6.mk (zzR_ (by omega)) ?_;cases h;exact D2 _ a3 eZ;cases h;cases C4 a3;exact C8 eZ;replace h:=d5;obtain⟨d4,_⟩:=hp;cases h;exact A3 ⟨rfl,trivial⟩ ⟨rfl,rfl⟩
def AW(l_:A4)(w_:A2)(r:Int)(h:kT l_ w_=some r):Sp Tryz.prog 77 [.im (nL (cL cI) l_),.im (nL cI w_)] (.im (nI r)):=by
 refine E4 [] λhk=>?_;have z1:lZ l_:=B5 hk.1;have z2:lZ w_:=B5 hk.2.1;unfold kT at h;obtain⟨b6,h,a9⟩:=A6 h;refine F5 (mkSt [(5,B3 b6)] [] []) hT ?_ λhp=>?_;refine E2 h (λa6=>mkSt [(0,C5 (cL cI) l_),(1,C5 cI w_),(5,B3 a6)] [] []) (λa6=>lZ l_/\lZ w_/\True) eZ (λa6=>((C9 0 rfl).and ((C9 1 rfl).and hT))) ?_;rintro k a6 o hp h a3;unfold kT.s2 at h;obtain⟨b7,b8,_⟩:=hp;obtain⟨a8,h,a5⟩:=A6 h;refine F5 (mkSt [(0,C5 (cL cI) l_),(1,C5 cI w_),(5,B3 a6),(18,I9 a8)] [] []) ((C9 0 rfl).and ((C9 1 rfl).and hT)) ?_ λhp=>?_;refine A7 l_.length C3<|T8 h (λa2 h a7=>?_) λa2 h a7=>?_
 iterate 2 (refine C1 (G0 a2) ?_)
 refine E3 h λb2 c6 h=>?_
 iterate 3 (refine C1 (G0 a2) ?_)
 obtain⟨b3,a4,h⟩:=A6 h;refine⟨_,wP b2 w_ b3 a4,?_⟩;refine C1 (G0 a2)<|C1 a2 ?_;cases h;exact C8 eZ
 iterate 6 (refine E1 (O9 a2) ?_)
 refine E1 a2 ?_;cases h;exact C8 eZ;replace h:=a5;obtain⟨b9,c0,_⟩:=hp;refine I5 h (λb4 h=>?_) λb4 h=>?_;obtain⟨b5,h⟩:=D1 h;refine C6.mk b5 ?_;cases h;exact D2 _ a3 eZ;cases h;cases C4 a3;exact C8 eZ;replace h:=a9;cases h;exact⟨rfl,rfl⟩
def sp_R35_blank(inputs_ states_:Int)(r:A9)(h:aI inputs_ states_=some r):SpX Tryz.prog 76 (.lent .dead::.ow .dead::[.im (nI inputs_),.im (nI states_)]) (.mk true [.im (nI r.I),.im (nI r.S),.ow (.grid 60 3 1 (List.map (cL cI) r.N) none),.ow (.grid 60 3 1 (List.map (cL cI) r.O) none)] []):=by
 refine sp_ofT rfl [9000031,9000037] rfl rfl rfl (nD rfl) rfl λhk=>?_;unfold aI at h;refine A3 rfl ?_;obtain⟨⟨b6,b7⟩,h,e5⟩:=A6 h;refine F5 (mkSt [(4,.own 64 1 0),(5,.own 65 1 0)] [(64,.box 24 4),(65,.box 24 4),(66,.grid 60 3 1 (List.map (cL cI) b6) none),(67,.grid 60 3 1 (List.map (cL cI) b7) none)] [(64,0,.im (nI 0)),(64,1,.im (nI 0)),(64,2,.im (.val (.slice none 0 0))),(64,3,.im (.val (.slice none 0 0))),(65,0,.im (nI inputs_)),(65,1,.im (nI 0)),(65,2,.osl 66 1),(65,3,.osl 67 1)]) ((Holds.kdg 66 rfl).and ((Holds.kdg 67 rfl).and hT)) ?_ λhp=>?_;refine E2 h (λ(a2,a6,a7)=>mkSt [(0,B6 inputs_),(1,B6 states_),(4,.own 64 1 0),(5,.own 65 1 0),(6,B3 a7)] [(64,.box 24 4),(65,.box 24 4),(66,.grid 60 3 1 (List.map (cL cI) a2) none),(67,.grid 60 3 1 (List.map (cL cI) a6) none)] [(64,0,.im (nI 0)),(64,1,.im (nI 0)),(64,2,.im (.val (.slice none 0 0))),(64,3,.im (.val (.slice none 0 0))),(65,0,.im (nI inputs_)),(65,1,.im (nI 0)),(65,2,.osl 66 1),(65,3,.osl 67 1)]) (λ(a2,a6,a7)=>lZ a2/\lZ a6/\True) (eA [(64,some 4),(65,some 5),(66,none),(67,none)]) (λ⟨a2,a6,a7⟩=>((Holds.kdg 66 rfl).and ((Holds.kdg 67 rfl).and hT))) ?_;rintro k ⟨a2,a6,a7⟩ o hp h a3;change aI.s20 inputs_ states_ a2 a6 a7=_ at h;unfold aI.s20 at h;obtain⟨d3,d4,_⟩:=hp;refine B9 h (λc0 h b8=>?_) λc0 h b8=>?_;obtain⟨⟨b3,b4⟩,h,a5⟩:=A6 h;refine F5 (mkSt [(0,B6 inputs_),(1,B6 states_),(4,.own 64 1 0),(5,.own 65 1 0),(6,B3 a7),(7,.osl 68 1),(8,.osl 69 1)] [(64,.box 24 4),(65,.box 24 4),(66,.grid 60 3 1 (List.map (cL cI) a2) none),(67,.grid 60 3 1 (List.map (cL cI) a6) none),(68,.row 3 1 (List.map cI b3)),(69,.row 3 1 (List.map cI b4))] [(64,0,.im (nI 0)),(64,1,.im (nI 0)),(64,2,.im (.val (.slice none 0 0))),(64,3,.im (.val (.slice none 0 0))),(65,0,.im (nI inputs_)),(65,1,.im (nI 0)),(65,2,.osl 66 1),(65,3,.osl 67 1)]) ((Holds.kdg 66 rfl).and ((Holds.kdg 67 rfl).and ((Holds.kdl 68 rfl).and ((Holds.kdl 69 rfl).and hT)))) ?_ λhp=>?_;refine E2 h (λ(a8,b2,b5)=>mkSt [(0,B6 inputs_),(1,B6 states_),(4,.own 64 1 0),(5,.own 65 1 0),(6,B3 a7),(7,.osl 68 1),(8,.osl 69 1),(9,B3 b5)] [(64,.box 24 4),(65,.box 24 4),(66,.grid 60 3 1 (List.map (cL cI) a2) none),(67,.grid 60 3 1 (List.map (cL cI) a6) none),(68,.row 3 1 (List.map cI a8)),(69,.row 3 1 (List.map cI b2))] [(64,0,.im (nI 0)),(64,1,.im (nI 0)),(64,2,.im (.val (.slice none 0 0))),(64,3,.im (.val (.slice none 0 0))),(65,0,.im (nI inputs_)),(65,1,.im (nI 0)),(65,2,.osl 66 1),(65,3,.osl 67 1)]) (λ(a8,b2,b5)=>lZ a2/\lZ a6/\lZ a8/\lZ b2/\True) (eA [(64,some 64),(65,some 65),(66,some 66),(67,some 67),(68,none),(69,none)]) (λ⟨a8,b2,b5⟩=>((Holds.kdg 66 rfl).and ((Holds.kdg 67 rfl).and ((Holds.kdl 68 rfl).and ((Holds.kdl 69 rfl).and hT))))) ?_;rintro k ⟨a8,b2,b5⟩ o hp h a4;change aI.s18 inputs_ a8 b2 b5=_ at h;unfold aI.s18 at h;obtain⟨d5,d6,d7,d8,_⟩:=hp;refine B9 h (λc6 h b9=>?_) λc6 h b9=>?_;obtain⟨c7,h⟩:=D1 h;refine A3 ⟨rfl,J8 (l:=[(-1:Int)]) (c:=cI) λ_=>rfl,show B4 _ 8 by simpa only[B7,G8,K3,E8]using c7⟩ ?_;refine A7 (List.map cI (a8++[(-1:Int)])) (J9 (l:=a8) (m:=[(-1:Int)]) (c:=cI)) ?_;obtain⟨c8,h⟩:=D1 h;refine A3 ⟨rfl,J8 (l:=[(-1:Int)]) (c:=cI) λ_=>rfl,show B4 _ 8 by simpa only[B7,G8,K3,E8]using c8⟩ ?_;refine A7 (List.map cI (b2++[(-1:Int)])) (J9 (l:=b2) (m:=[(-1:Int)]) (c:=cI)) ?_;obtain⟨c9,h⟩:=D1 h;refine C6.mk c9 ?_;cases h;exact D2 _ a4 eZ;cases h;cases C4 a4;exact C8 eZ;replace h:aI.k19 a2 a6 a7 b3 b4=some _:=a5;unfold aI.k19 at h;obtain⟨d9,e0,e1,e2,_⟩:=hp;refine A3 rfl<|A3 rfl<|A3 ⟨rfl,trivial⟩<|A7 (List.map (cL cI) [b3]) rfl ?_;obtain⟨d0,h⟩:=D1 h;refine A3 ⟨rfl,rfl,trivial⟩<|A3 (show B4 _ 24 by have a9:=d0;simpa only[B7]using a9)<|A7 (List.map (cL cI) (a2++[b3])) (J9 (l:=a2) (m:=[b3]) (c:=cL cI))<|A3 rfl<|A3 rfl<|A3 rfl<|A3 rfl<|A3 ⟨rfl,trivial⟩<|A7 (List.map (cL cI) [b4]) rfl ?_;obtain⟨d1,h⟩:=D1 h;refine A3 ⟨rfl,rfl,trivial⟩<|A3 (show B4 _ 24 by have a9:=d1;simpa only[B7]using a9)<|A7 (List.map (cL cI) (a6++[b4])) (J9 (l:=a6) (m:=[b4]) (c:=cL cI))<|A3 rfl<|A3 rfl ?_;obtain⟨d2,h⟩:=D1 h;refine C6.mk d2 ?_;cases h;exact D2 _ a3 (eA (J1 [64,64,65,65,66,32,67,38]));cases h;cases C4 a3;exact C8 eZ;replace h:aI.k21 inputs_ b6 b7=some _:=e5;unfold aI.k21 at h;obtain⟨e3,e4,_⟩:=hp;refine A3 rfl<|A3 rfl ?_;cases h;refine A3 ⟨rfl,trivial⟩ ?_;exact A3 ⟨rfl,rfl,trivial⟩ ⟨rfl,rfl⟩
def sp_R35_Tree(o_:G7)(r:A9×Int)(h:W3 o_=some r):Sp Tryz.prog 37 [.im (.agg (P1 o_))] (.tup [.agg (G9 r.1),nI r.2]):=by
 refine E4 [11,500063,500080,700001,8000038,8700038] λhk=>?_;have z1:lZ o_.T:=B5 (D4 hk.1 1 rfl);unfold W3 at h;obtain⟨e2,h,i0⟩:=A6 h;refine F5 (mkSt [(1,C0 (P1 o_)),(2,.own 99 1 0),(4,.osl 100 1)] [(99,.box 24 4),(100,.row 60 1 (List.map (cL cI) e2))] [(99,0,.im (nI 0)),(99,1,.im (nI 0)),(99,2,.im (.val (.slice none 0 0))),(99,3,.im (.val (.slice none 0 0)))]) ((Holds.kdl 100 rfl).and hT) ?_ λhp=>?_;refine E2 h (λ(b7,b9)=>mkSt [(1,C0 (P1 o_)),(2,.own 99 1 0),(4,.osl 100 1),(5,B3 b9)] [(99,.box 24 4),(100,.row 60 1 (List.map (cL cI) b7))] [(99,0,.im (nI 0)),(99,1,.im (nI 0)),(99,2,.im (.val (.slice none 0 0))),(99,3,.im (.val (.slice none 0 0)))]) (λ(b7,b9)=>lZ b7/\True) (eA (J1 [99,2,100,11])) (λ⟨b7,b9⟩=>((Holds.kdl 100 rfl).and hT)) ?_;rintro k ⟨b7,b9⟩ o hp h h6;change W3.s2 o_ b7 b9=_ at h;unfold W3.s2 at h;obtain⟨g8,_⟩:=hp;refine A7 o_.T.length C3<|B9 h (λe3 h d2=>?_) λe3 h d2=>?_;refine E3 h λd3 j0 h=>?_;obtain⟨e4,h⟩:=D1 h;refine A3 ⟨rfl,J8 (l:=[d3.In]) (c:=cL cI) λ_=>rfl,show B4 _ 24 by simpa only[B7,G8,K3,E8]using e4⟩ ?_;refine A7 (List.map (cL cI) (b7++[d3.In])) (J9 (l:=b7) (m:=[d3.In]) (c:=cL cI))<|C6.mk (zzR_ (by omega)) ?_;cases h;exact D2 _ h6 eZ;cases h;cases C4 h6;exact C8 eZ;replace h:=i0;obtain⟨g9,_⟩:=hp;refine A3 ⟨rfl,trivial⟩ ?_;obtain⟨b3,i4,h⟩:=A6 h;refine⟨_,zsc e2 b3 i4,?_⟩;refine A3 rfl<|A7 b3.length C3<|B9 h (λe5 h d4=>?_) λe5 h d4=>?_;refine A3 rfl ?_;cases h;refine A3 ⟨rfl,trivial⟩ ?_;exact⟨rfl,rfl⟩;refine A3 rfl<|A7 b3.length C3 ?_;obtain⟨b6,i5,h⟩:=A6 h;refine⟨_,sp_R35_blank o_.I (b3.length:Int) b6 i5,?_⟩;refine A3 rfl ?_;obtain⟨⟨c0,c6⟩,h,i3⟩:=A6 h;refine F5 (mkSt [(2,.own 99 1 0),(6,.own 100 1 0)] [(99,.box 24 4),(100,.box 24 4),(101,.grid 60 3 1 (List.map (cL cI) c0) none),(102,.grid 60 3 1 (List.map (cL cI) c6) none)] [(99,0,.im (nI 0)),(99,1,.im (nI 0)),(99,2,.im (.val (.slice none 0 0))),(99,3,.im (.val (.slice none 0 0))),(100,0,.im (nI b6.I)),(100,1,.im (nI b6.S)),(100,2,.osl 101 1),(100,3,.osl 102 1)]) ((Holds.kdg 101 rfl).and ((Holds.kdg 102 rfl).and hT)) ?_ λhp=>?_;refine E2 h (λ(b4,b5,a7)=>mkSt [(1,C0 (P1 o_)),(2,.own 99 1 0),(4,.osl 100 1),(6,.own 101 1 0),(7,B3 a7)] [(99,.box 24 4),(100,.row 60 1 (List.map (cL cI) b3)),(101,.box 24 4),(102,.grid 60 3 1 (List.map (cL cI) b4) none),(103,.grid 60 3 1 (List.map (cL cI) b5) none)] [(99,0,.im (nI 0)),(99,1,.im (nI 0)),(99,2,.im (.val (.slice none 0 0))),(99,3,.im (.val (.slice none 0 0))),(101,0,.im (nI b6.I)),(101,1,.im (nI b6.S)),(101,2,.osl 102 1),(101,3,.osl 103 1)]) (λ(b4,b5,a7)=>lZ b3/\lZ b4/\lZ b5/\True) (eA (J1 [99,99,100,29,101,6,102,3254,103,3255])) (λ⟨b4,b5,a7⟩=>((Holds.kdl 100 rfl).and ((Holds.kdg 102 rfl).and ((Holds.kdg 103 rfl).and hT)))) ?_;rintro k ⟨b4,b5,a7⟩ o hp h a5;change W3.s22 o_ b3 b4 b5 a7=_ at h;unfold W3.s22 at h;obtain⟨e6,e7,e8,_⟩:=hp;refine A7 o_.T.length C3<|B9 h (λd5 h c7=>?_) λd5 h c7=>?_;refine E3 h λa2 i7 h=>?_;refine A3 rfl ?_;obtain⟨⟨c8,c9⟩,h,h9⟩:=A6 h;refine F5 (mkSt [(1,C0 (P1 o_)),(2,.own 99 1 0),(4,.osl 100 1),(6,.own 101 1 0),(7,B3 a7)] [(99,.box 24 4),(100,.row 60 1 (List.map (cL cI) b3)),(101,.box 24 4),(102,.grid 60 3 1 (List.map (cL cI) c8) none),(103,.grid 60 3 1 (List.map (cL cI) c9) none)] [(99,0,.im (nI 0)),(99,1,.im (nI 0)),(99,2,.im (.val (.slice none 0 0))),(99,3,.im (.val (.slice none 0 0))),(101,0,.im (nI b6.I)),(101,1,.im (nI b6.S)),(101,2,.osl 102 1),(101,3,.osl 103 1)]) ((Holds.kdl 100 rfl).and ((Holds.kdg 102 rfl).and ((Holds.kdg 103 rfl).and hT))) ?_ λhp=>?_;refine E2 h (λ(a8,b2,a6)=>mkSt [(1,C0 (P1 o_)),(2,.own 99 1 0),(4,.osl 100 1),(6,.own 101 1 0),(7,B3 a7),(8,.own 104 1 0),(9,B3 a6)] [(99,.box 24 4),(100,.row 60 1 (List.map (cL cI) b3)),(101,.box 24 4),(102,.grid 60 3 1 (List.map (cL cI) a8) none),(103,.grid 60 3 1 (List.map (cL cI) b2) none),(104,.box 70 2)] [(99,0,.im (nI 0)),(99,1,.im (nI 0)),(99,2,.im (.val (.slice none 0 0))),(99,3,.im (.val (.slice none 0 0))),(101,0,.im (nI b6.I)),(101,1,.im (nI b6.S)),(101,2,.osl 102 1),(101,3,.osl 103 1),(104,0,.im (nL cI a2.In)),(104,1,.im (nL cI a2.O))]) (λ(a8,b2,a6)=>lZ b3/\lZ a8/\lZ b2/\lZ a2.In/\lZ a2.O/\True) (eA (J1 [99,99,100,100,101,101,102,102,103,103,104,8])) (λ⟨a8,b2,a6⟩=>((Holds.kdl 100 rfl).and ((Holds.kdg 102 rfl).and ((Holds.kdg 103 rfl).and ((Holds.cel 104 0 rfl (by decide) rfl).and ((Holds.cel 104 1 rfl (by decide) rfl).and hT)))))) ?_;rintro k ⟨a8,b2,a6⟩ o hp h f6;change W3.s20 b3 a2 a8 b2 a6=_ at h;unfold W3.s20 at h;obtain⟨e9,f3,f4,f5,f7,_⟩:=hp;refine A3 rfl<|A3 rfl<|A7 a2.In.length C3<|B9 h (λd6 h d0=>?_) λd6 h d0=>?_;refine A3 rfl<|A3 rfl ?_;obtain⟨f8,h⟩:=D1 h;refine A3 (show(0:Int)<=(0:Int)/\(0:Int)<=(a6:Int)/\(a6:Int)<=(↑(List.length (List.map cI a2.In)):Int)/\(∀e∈List.map cI a2.In,List.length e=1) from⟨by omega,by first|omega|(simp only[B7];omega),by first|omega|(simp only[B7];omega),J8 λ_=>rfl⟩) ?_
 refine A7 (List.map cI (List.take a6 a2.In)) pD<|A3 ⟨rfl,trivial⟩ ?_;obtain⟨b8,h7,h⟩:=A6 h;refine⟨_,AW b3 (List.take a6 a2.In) b8 h7,?_⟩;refine A3 fO<|A3 rfl<|A3 rfl ?_;obtain⟨d7,h3,a3,h⟩:=J5 h;refine A3 ⟨h3,rfl,D3 a3⟩<|A3 ⟨rfl,D3 a3⟩<|A3 rfl<|A3 rfl<|E3 h λd8 i8 h=>?_;refine A3 rfl<|A3 rfl<|C6.mk (zzR_ (by omega)) ?_;obtain⟨f9,h⟩:=D1 h;refine A3 (show(0:Int)<=(0:Int)/\(0:Int)<=((a6:Int)+1)/\((a6:Int)+1)<=(↑(List.length (List.map cI a2.In)):Int)/\(∀e∈List.map cI a2.In,List.length e=1) from⟨by omega,by first|omega|(simp only[B7];omega),by first|omega|(simp only[B7];omega),J8 λ_=>rfl⟩) ?_
 refine A7 (List.map cI (List.take (a6+1) a2.In)) pD<|A3 ⟨rfl,trivial⟩ ?_;obtain⟨d1,h8,h⟩:=A6 h;refine⟨_,AW b3 (List.take (a6+1) a2.In) d1 h8,?_⟩;refine A3 fO ?_;obtain⟨g1,h2,h0,h⟩:=J5 h;refine⟨_,⟨h2,rfl,D5 a3,D3 h0⟩,?_⟩;refine⟨_,_,⟨rfl,D5 a3,D5 h0⟩,?_⟩;refine A7 (List.map (cL cI) (List.set a8 (Int.toNat b8) (List.set d7 (Int.toNat d8) d1))) (iT rfl)<|A3 rfl<|A3 rfl ?_;obtain⟨d9,h4,a4,h⟩:=J5 h;refine A3 ⟨h4,rfl,D3 a4⟩<|A3 ⟨rfl,D3 a4⟩<|A3 rfl<|A3 rfl<|E3 h λe0 i9 h=>?_;refine A3 rfl<|A3 rfl<|E3 h λe1 i6 h=>?_;obtain⟨g2,h5,a9,h⟩:=J5 h;refine⟨_,⟨h5,rfl,D5 a4,D3 a9⟩,?_⟩;refine⟨_,_,⟨rfl,D5 a4,D5 a9⟩,?_⟩;refine A7 (List.map (cL cI) (List.set b2 (Int.toNat b8) (List.set d9 (Int.toNat e0) e1))) (iT rfl)<|C6.mk (zzR_ (by omega)) ?_;cases h;exact D2 _ f6 eZ;cases h;cases C4 f6;exact C8 eZ;replace h:W3.k21 a7 c8 c9=some _:=h9;unfold W3.k21 at h;obtain⟨g3,g4,g5,_⟩:=hp;refine C6.mk (zzR_ (by omega)) ?_;cases h;exact D2 _ a5 eZ;cases h;cases C4 a5;exact C8 (eA (J1 [99,99,100,101,101,102,102,103]));replace h:W3.k23 b6 c0 c6=some _:=i3;unfold W3.k23 at h;obtain⟨g6,g7,_⟩:=hp;refine A3 rfl<|A3 rfl ?_;cases h;refine A3 ⟨rfl,trivial⟩ ?_;exact A3 ⟨rfl,rfl,trivial⟩ ⟨rfl,rfl⟩
def xH(p_:A9)(r:Int)(h:bM p_=some r):Sp Tryz.prog 31 [.im (.agg (G9 p_))] (.im (nI r)):=by
 refine E4 [700001] λhk=>?_;have z1:lZ p_.N:=B5 (D4 hk.1 2 rfl);have z2:lZ p_.O:=B5 (D4 hk.1 3 rfl);unfold bM at h;refine A7 p_.N.length C3<|P6 h (λd0=>mkSt [(1,C0 (G9 p_)),(3,B6 (p_.N.length:Int)),(11,I9 d0)] [] []) (λ_=>hT) λd0 h hp=>?_;refine I5 h (λd2 h=>?_) λd2 h=>?_;cases h;exact⟨rfl,rfl⟩;refine B9 h (λd3 h b5=>?_) λd3 h b5=>?_;cases h;exact⟨rfl,rfl⟩;refine B9 h (λd4 h b6=>?_) λd4 h b6=>?_;cases h;exact⟨rfl,rfl⟩;refine P6 h (λd1=>mkSt [(1,C0 (G9 p_)),(3,B6 (p_.N.length:Int)),(26,I9 d1)] [] []) (λ_=>hT) λd1 h hp=>?_;refine I5 h (λd5 h=>?_) λd5 h=>?_;cases h;exact⟨rfl,rfl⟩;refine A7 p_.O.length C3<|B9 h (λd6 h b7=>?_) λd6 h b7=>?_;cases h;exact⟨rfl,rfl⟩;obtain⟨oc,h,a9⟩:=A6 h;refine R6 oc (mkSt [] [] []) hT ?_ ?_;refine E2 h (λa2=>mkSt [(1,C0 (G9 p_)),(3,B6 (p_.N.length:Int)),(42,B6 (p_.N.length:Int)),(43,B3 a2)] [] []) (λa2=>True) eZ (λ_=>hT) ?_;rintro k a2 o hp h a3;unfold bM.s14 at h;refine B9 h (λb8 h a8=>?_) λb8 h a8=>?_;refine P6 h (λb2=>mkSt [(1,C0 (G9 p_)),(3,B6 (p_.N.length:Int)),(4,B3 a2),(42,B6 (p_.N.length:Int)),(43,B3 a2),(65,I9 b2)] [] []) (λ_=>hT) λb2 h hp=>?_;refine I5 h (λb9 h=>?_) λb9 h=>?_;cases h;cases C4 a3;replace h:some _=some _:=a9;cases h;exact⟨rfl,rfl⟩;refine E3 h λa6 e3 h=>?_;refine A7 a6.length C3 ?_;obtain⟨oc,h,a5⟩:=A6 h;refine R6 oc (mkSt [(1,C0 (G9 p_)),(3,B6 (p_.N.length:Int)),(42,B6 (p_.N.length:Int)),(43,B3 a2)] [] []) hT ?_ ?_;refine E2 h (λa7=>mkSt [(1,C0 (G9 p_)),(3,B6 (p_.N.length:Int)),(4,B3 a2),(42,B6 (p_.N.length:Int)),(43,B3 a2),(70,C5 cI a6),(71,B6 (a6.length:Int)),(72,B3 a7)] [] []) (λa7=>lZ a6/\True) eZ (λa7=>((C9 70 rfl).and hT)) ?_;rintro k a7 o hp h a4;unfold bM.s13 at h;obtain⟨d7,_⟩:=hp;refine B9 h (λc0 h b3=>?_) λc0 h b3=>?_;refine E3 h λc6 e2 h=>?_;refine E3 h λd8 e1 h=>?_;refine E3 h λc7 e0 h=>?_;refine P6 h (λb4=>mkSt [(1,C0 (G9 p_)),(3,B6 (p_.N.length:Int)),(4,B3 a2),(6,B6 c6),(7,B6 c7),(42,B6 (p_.N.length:Int)),(43,B3 a2),(70,C5 cI a6),(71,B6 (a6.length:Int)),(72,B3 a7),(99,I9 b4)] [] []) (λ_=>((C9 70 rfl).and hT)) λb4 h hp=>?_;obtain⟨d9,_⟩:=hp;refine I5 h (λc8 h=>?_) λc8 h=>?_;cases h;cases C4 a4;replace h:some _=some _:=a5;cases h;cases C4 a3;replace h:some _=some _:=a9;cases h;exact⟨rfl,rfl⟩;refine I5 h (λc9 h=>?_) λc9 h=>?_;cases h;cases C4 a4;replace h:some _=some _:=a5;cases h;cases C4 a3;replace h:some _=some _:=a9;cases h;exact⟨rfl,rfl⟩;refine C6.mk (zzR_ (by omega)) ?_;cases h;exact D2 _ a4 eZ;cases h;cases C4 a4;exact J6.mk' _ rfl eZ;rintro⟨⟩ rfl hp;replace h:=L4 a5;refine C6.mk (zzR_ (by omega)) ?_;cases h;exact D2 _ a3 eZ;cases h;cases C4 a3;exact J6.mk' _ rfl eZ;rintro⟨⟩ rfl hp;replace h:=L4 a9;cases h;exact⟨rfl,rfl⟩
def xN(up_:A2)(s_ r:Int)(h:eX up_ s_=some r):Sp Tryz.prog 108 [.im (nL cI up_),.im (nI s_)] (.im (nI r)):=by
 refine E4 [] λhk=>?_;have z1:lZ up_:=B5 hk.1;unfold eX at h;obtain⟨s64,h,a4⟩:=A6 h;refine F5 (mkSt [(1,B6 s64)] [] []) hT ?_ λhp=>?_;refine E2 h (λs68=>mkSt [(0,C5 cI up_),(1,B6 s68)] [] []) (λs68=>lZ up_/\True) eZ (λs68=>((C9 0 rfl).and hT)) ?_;rintro k s68 o hp h a3;unfold eX.s2 at h;obtain⟨b4,_⟩:=hp;refine L8 h λa7 a9 b2 h=>?_;refine B9 h (λa6 h a2=>?_) λa6 h a2=>?_;refine L8 h λa8 a5 b3 h=>?_;cases h;exact D2 _ a3 eZ;cases h;cases C4 a3;exact C8 eZ;replace h:=a4;cases h;exact⟨rfl,rfl⟩
def DX(p_:A9)(class_:A2)(a_ r:Int)(h:fW p_ class_ a_=some r):Sp Tryz.prog 109 [.im (.agg (G9 p_)),.im (nL cI class_),.im (nI a_)] (.im (nI r)):=by
 refine E4 [700003] λhk=>?_;have z1:lZ p_.N:=B5 (D4 hk.1 2 rfl);have z2:lZ p_.O:=B5 (D4 hk.1 3 rfl);have z3:lZ class_:=B5 hk.2.1;unfold fW at h;refine A7 class_.length C3 ?_;obtain⟨oc,h,a4⟩:=A6 h;refine R6 oc (mkSt [] [] []) hT ?_ ?_;refine E2 h (λa2=>mkSt [(2,B6 a_),(3,C0 (G9 p_)),(9,C5 cI class_),(10,B6 (class_.length:Int)),(11,B3 a2)] [] []) (λa2=>lZ class_/\True) eZ (λa2=>((C9 9 rfl).and hT)) ?_;rintro k a2 o hp h a3;unfold fW.s2 at h;obtain⟨b3,_⟩:=hp;refine B9 h (λa8 h a6=>?_) λa8 h a6=>?_;refine E3 h λb4 b7 h=>?_;refine L8 h λb5 a9 b8 h=>?_;refine L8 h λb6 a5 b9 h=>?_;refine B9 h (λb2 h a7=>?_) λb2 h a7=>?_;cases h;cases C4 a3;replace h:some _=some _:=a4;cases h;exact⟨rfl,rfl⟩;refine C6.mk (zzR_ (by omega)) ?_;cases h;exact D2 _ a3 eZ;cases h;cases C4 a3;exact J6.mk' _ rfl eZ;rintro⟨⟩ rfl hp;replace h:=L4 a4;cases h;exact⟨rfl,rfl⟩
def zre(p_:A9)(s_ t_:Int)(r:A2×Bool)(h:L6 p_ s_ t_=some r):Sp Tryz.prog 78 [.im (.agg (G9 p_)),.im (nI s_),.im (nI t_)] (.tup [nL cI r.1,nB r.2]):=by
 refine E4 [37,44,500055,500061,500076,500083,500153,600025,700003] λhk=>?_;have z1:lZ p_.N:=B5 (D4 hk.1 2 rfl);have z2:lZ p_.O:=B5 (D4 hk.1 3 rfl);unfold L6 at h;refine A7 p_.N.length C3 ?_;obtain⟨k0,h⟩:=D1 h;refine A3 k0<|A7 (List.map cI (List.replicate p_.N.length (0:Int))) (Z6 (c:=cI) (z:=0) (n:=p_.N.length) rfl rfl)<|A7 p_.N.length C3 ?_;obtain⟨k1,h⟩:=D1 h;refine A3 k1<|A7 (List.map (cL cI) (List.replicate p_.N.length ([]:A2))) (Z6 (c:=(cL cI)) (z:=([]:A2)) (n:=p_.N.length) rfl rfl) ?_;refine A3 rfl<|A7 (List.length (List.replicate p_.N.length (0:Int))) C3 ?_;obtain⟨⟨g5,g6⟩,h,o9⟩:=A6 h;refine F5 (mkSt [(1,B6 s_),(2,B6 t_),(3,C0 (G9 p_)),(8,.osl 157 1),(9,.osl 158 1)] [(157,.row 3 1 (List.map cI g5)),(158,.grid 60 3 1 (List.map (cL cI) g6) none)] []) ((Holds.kdl 157 rfl).and ((Holds.kdg 158 rfl).and hT)) ?_ λhp=>?_;refine E2 h (λ(d7,d8,d2)=>mkSt [(1,B6 s_),(2,B6 t_),(3,C0 (G9 p_)),(8,.osl 157 1),(9,.osl 158 1),(27,B6 (↑(List.length (List.replicate p_.N.length (0:Int))):Int)),(28,B3 d2)] [(157,.row 3 1 (List.map cI d7)),(158,.grid 60 3 1 (List.map (cL cI) d8) none)] []) (λ(d7,d8,d2)=>lZ d7/\lZ d8/\True) (eA (J1 [157,21,158,25])) (λ⟨d7,d8,d2⟩=>((Holds.kdl 157 rfl).and ((Holds.kdg 158 rfl).and hT))) ?_;rintro k ⟨d7,d8,d2⟩ o hp h o3;change L6.s2 p_ d7 d8 d2=_ at h;unfold L6.s2 at h;obtain⟨k5,k6,_⟩:=hp;refine B9 h (λk2 h g4=>?_) λk2 h g4=>?_;obtain⟨k7,o4,h⟩:=J7 h;refine A3 ⟨(by omega),rfl,D3 o4⟩<|A3 ⟨rfl,trivial⟩<|⟨_,D5 o4,?_⟩;refine A7 (List.map cI (List.set d7 d2 (d2:Int))) (P7 rfl) ?_;obtain⟨k8,o5,h⟩:=J7 h;refine A3 ⟨(by omega),rfl,D3 o5⟩<|A3 ⟨rfl,rfl,D3 o5,trivial⟩<|A7 (List.map (cL cI) (List.set d8 d2 [(d2:Int)])) uR ?_;obtain⟨k4,h⟩:=D1 h;refine C6.mk k4 ?_;cases h;exact D2 _ o3 eZ;cases h;cases C4 o3;exact C8 eZ;replace h:L6.k37 p_ s_ t_ g5 g6=some _:=o9;unfold L6.k37 at h;obtain⟨l0,l3,_⟩:=hp;obtain⟨oc,h,o6⟩:=A6 h;refine S8 oc (Y:=A2) (λb2=>mkSt [(8,.osl 157 1)] [(157,.row 3 1 (List.map cI b2))] []) (λb2=>lZ b2/\True) (by rintro b2;exact((Holds.kdl 157 rfl).and hT)) ?_ ?_;refine E2 h (λ(a2,a6,b5)=>mkSt [(3,C0 (G9 p_)),(8,.osl 157 1),(9,.osl 158 1),(11,.osl 159 1)] [(157,.row 3 1 (List.map cI a2)),(158,.grid 60 3 1 (List.map (cL cI) a6) none),(159,.que 121 2 (List.map c_A2 b5))] []) (λ(a2,a6,b5)=>lZ a2/\lZ a6/\lZ b5/\True) ((Ent.que 44 rfl).trans (eA (J1 [157,157,158,158,159,44]))) (λ⟨a2,a6,b5⟩=>((Holds.kdl 157 rfl).and ((Holds.kdg 158 rfl).and ((Holds.kdql 159 rfl).and hT)))) ?_;rintro k ⟨a2,a6,b5⟩ o hp h a5;change L6.s34 p_ a2 a6 b5=_ at h;unfold L6.s34 at h;obtain⟨g7,g8,g9,_⟩:=hp;refine A3 rfl<|A7 b5.length C3<|B9 h (λe4 h d9=>?_) λe4 h d9=>?_;obtain⟨oc,h,m4⟩:=A6 h;refine S8 oc (Y:=A2×A4×List T_A2) (λ(b9,c0,b6)=>mkSt [(3,C0 (G9 p_)),(8,.osl 157 1),(9,.osl 158 1),(11,.osl 159 1)] [(157,.row 3 1 (List.map cI b9)),(158,.grid 60 3 1 (List.map (cL cI) c0) none),(159,.que 121 2 (List.map c_A2 b6))] []) (λ(b9,c0,b6)=>lZ b9/\lZ c0/\lZ b6/\True) (by rintro⟨b9,c0,b6⟩;exact((Holds.kdl 157 rfl).and ((Holds.kdg 158 rfl).and ((Holds.kdql 159 rfl).and hT)))) ?_ ?_;obtain⟨e5,m5,h⟩:=J7 h;refine A3 ⟨(by omega),rfl,D3 m5⟩<|A3 ⟨by decide,by decide,rfl⟩<|⟨_,_,⟨rfl,D5 m5,rfl,rfl⟩,?_⟩;refine A3 ⟨rfl,trivial⟩ ?_;obtain⟨b3,n7,h⟩:=A6 h;refine⟨_,xN a2 e5.f0 b3 n7,?_⟩;refine A3 fO ?_;obtain⟨e6,l7,h⟩:=J7 h;refine A3 ⟨(by omega),rfl,D3 l7⟩<|A3 ⟨by decide,by decide,rfl⟩<|⟨_,_,⟨rfl,D5 l7,rfl,rfl⟩,?_⟩;refine A3 ⟨rfl,trivial⟩ ?_;obtain⟨b7,n8,h⟩:=A6 h;refine⟨_,xN a2 e6.f1 b7 n8,?_⟩;refine A3 fO<|B9 h (λe7 h e0=>?_) λe7 h e0=>?_;cases h;exact J6.mk' _ rfl eZ;obtain⟨oc,h,m0⟩:=A6 h;refine S8 oc (Y:=List T_A2) (λc6=>mkSt [(3,C0 (G9 p_)),(8,.osl 157 1),(9,.osl 158 1),(11,.osl 159 1),(12,B6 b3),(13,B6 b7)] [(157,.row 3 1 (List.map cI a2)),(158,.grid 60 3 1 (List.map (cL cI) a6) none),(159,.que 121 2 (List.map c_A2 c6))] []) (λc6=>lZ a2/\lZ a6/\lZ c6/\True) (by rintro c6;exact((Holds.kdl 157 rfl).and ((Holds.kdg 158 rfl).and ((Holds.kdql 159 rfl).and hT)))) ?_ ?_;refine E2 h (λ(a8,a7)=>mkSt [(3,C0 (G9 p_)),(8,.osl 157 1),(9,.osl 158 1),(11,.osl 159 1),(12,B6 b3),(13,B6 b7),(66,B6 p_.I),(67,B3 a7)] [(157,.row 3 1 (List.map cI a2)),(158,.grid 60 3 1 (List.map (cL cI) a6) none),(159,.que 121 2 (List.map c_A2 a8))] []) (λ(a8,a7)=>lZ a2/\lZ a6/\lZ a8/\True) eZ (λ⟨a8,a7⟩=>((Holds.kdl 157 rfl).and ((Holds.kdg 158 rfl).and ((Holds.kdql 159 rfl).and hT)))) ?_;rintro k ⟨a8,a7⟩ o hp h l4;change L6.s32 p_ a6 b3 b7 a8 a7=_ at h;unfold L6.s32 at h;obtain⟨h0,h2,h3,_⟩:=hp;refine B9 h (λe8 h e1=>?_) λe8 h e1=>?_;obtain⟨oc,h,l8⟩:=A6 h;refine S8 oc (Y:=List T_A2) (λc7=>mkSt [(3,C0 (G9 p_)),(8,.osl 157 1),(9,.osl 158 1),(11,.osl 159 1),(12,B6 b3),(13,B6 b7),(66,B6 p_.I),(67,B3 a7)] [(157,.row 3 1 (List.map cI a2)),(158,.grid 60 3 1 (List.map (cL cI) a6) none),(159,.que 121 2 (List.map c_A2 c7))] []) (λc7=>lZ a2/\lZ a6/\lZ c7/\True) (by rintro c7;exact((Holds.kdl 157 rfl).and ((Holds.kdg 158 rfl).and ((Holds.kdql 159 rfl).and hT)))) ?_ ?_;obtain⟨e9,n3,f6,h⟩:=J5 h;refine A3 ⟨n3,rfl,D3 f6⟩<|A3 ⟨rfl,D3 f6⟩<|A3 ⟨rfl,trivial⟩ ?_;obtain⟨d3,n9,h⟩:=A6 h;refine⟨_,sp_cast (by rw[rowAt_map f6];try rfl) (DX p_ e9 (a7:Int) d3 n9),?_⟩;refine A3 fO ?_;obtain⟨f3,m9,a3,h⟩:=J5 h;refine A3 ⟨m9,rfl,D3 a3⟩<|A3 ⟨rfl,D3 a3⟩<|A3 ⟨rfl,trivial⟩ ?_;obtain⟨d4,o2,h⟩:=A6 h;refine⟨_,sp_cast (by rw[rowAt_map a3];try rfl) (DX p_ f3 (a7:Int) d4 o2),?_⟩;refine A3 fO<|P6 h (λd5=>mkSt [(3,C0 (G9 p_)),(8,.osl 157 1),(9,.osl 158 1),(11,.osl 159 1),(12,B6 b3),(13,B6 b7),(14,B3 a7),(15,B6 d3),(16,B6 d4),(66,B6 p_.I),(67,B3 a7),(89,I9 d5)] [(157,.row 3 1 (List.map cI a2)),(158,.grid 60 3 1 (List.map (cL cI) a6) none),(159,.que 121 2 (List.map c_A2 a8))] []) (λ_=>((Holds.kdl 157 rfl).and ((Holds.kdg 158 rfl).and ((Holds.kdql 159 rfl).and hT)))) λd5 h hp=>?_;obtain⟨h4,h5,h6,_⟩:=hp;refine I5 h (λf4 h=>?_) λf4 h=>?_;cases h;exact J6.mk' _ rfl eZ;refine L8 h λh7 o8 q2 h=>?_;refine E3 h λh8 q0 h=>?_;refine L8 h λh9 p1 q1 h=>?_;refine E3 h λi0 p8 h=>?_;refine B9 h (λf5 h e2=>?_) λf5 h e2=>?_;cases h;replace h:some _=some _:=l8;cases h;cases C4 l4;replace h:some _=some _:=m0;cases h;replace h:some _=some _:=m4;cases h;cases C4 a5;replace h:some _=some _:=o6;cases h;exact⟨rfl,rfl⟩;refine L8 h λi3 p5 p6 h=>?_;refine E3 h λc8 q3 h=>?_;refine L8 h λi4 p4 p7 h=>?_;refine E3 h λc9 p9 h=>?_;obtain⟨f7,h⟩:=D1 h;refine A3 ⟨rfl,tV _,J8 (l:=[(⟨c8,c9⟩:T_A2)]) (c:=c_A2) λ_=>rfl,show B4 _ 16 by simpa only[B7,G8,K3,E8]using f7⟩ ?_;refine A7 (List.map c_A2 (a8++[(⟨c8,c9⟩:T_A2)])) (J9 (l:=a8) (m:=[(⟨c8,c9⟩:T_A2)]) (c:=c_A2)) ?_;cases h;exact J6.mk' _ rfl eZ;rintro c7 rfl hp;replace h:=L4 l8;obtain⟨i5,i6,i7,_⟩:=hp;obtain⟨f8,h⟩:=D1 h;refine C6.mk f8 ?_;cases h;exact D2 _ l4 eZ;cases h;cases C4 l4;exact J6.mk' _ rfl eZ;rintro c6 rfl hp;replace h:=L4 m0;obtain⟨i8,i9,j0,_⟩:=hp;obtain⟨j1,n4,l9,h⟩:=J5 h;refine A3 ⟨n4,rfl,D3 l9⟩<|A3 ⟨rfl,trivial⟩<|⟨_,D5 l9,?_⟩;refine A7 (List.map cI (List.set a2 b7.toNat b3)) (P7 rfl) ?_;obtain⟨d0,m6,a9,h⟩:=J5 h;refine A3 ⟨m6,rfl,D3 a9⟩<|A3 ⟨rfl,D3 a9⟩ ?_;obtain⟨d1,m8,a4,h⟩:=J5 h;refine A3 ⟨m8,rfl,D3 a4⟩<|A3 ⟨rfl,D3 a4⟩ ?_;obtain⟨f9,h⟩:=D1 h;refine⟨_,_,⟨rfl,rfl,by omega,D5 a9,D5 a4,(show B4 _ 8 by have o7:=f9;simpa only[B7]using o7)⟩,?_⟩;refine A7 (List.map cI (d0++d1)) (J9 (l:=d0) (m:=d1) (c:=cI)) ?_;obtain⟨j2,m7,m3,h⟩:=J5 h;refine A3 ⟨m7,rfl,D3 m3⟩<|A3 ⟨rfl,rfl,D3 m3,rfl⟩<|A7 (List.map (cL cI) (List.set a6 (Int.toNat b3) (d0++d1))) uR ?_;cases h;exact J6.mk' _ rfl eZ;rintro⟨b9,c0,b6⟩ rfl hp;have p3:=L4 m4;replace h:L6.k33 b9 c0 b6=some _:=p3;clear p3;unfold L6.k33 at h;obtain⟨j3,j4,j5,_⟩:=hp;obtain⟨g1,h⟩:=D1 h;refine A3 ⟨rfl,by decide,by have o7:=g1;simp only[B7];exact o7⟩ ?_;refine A7 (List.map c_A2 (List.drop 1 b6)) oD ?_;cases h;exact D2 _ a5 eZ;cases h;cases C4 a5;exact J6.mk' _ rfl eZ;rintro b2 rfl hp;replace h:=L4 o6;obtain⟨j6,_⟩:=hp;refine A3 rfl<|A7 b2.length C3 ?_;obtain⟨g2,h,n5⟩:=A6 h;refine F5 (mkSt [(8,.osl 157 1)] [(157,.row 3 1 (List.map cI g2))] []) ((Holds.kdl 157 rfl).and hT) ?_ λhp=>?_;refine E2 h (λ(b4,b8)=>mkSt [(8,.osl 157 1),(145,B6 (b2.length:Int)),(146,B3 b8)] [(157,.row 3 1 (List.map cI b4))] []) (λ(b4,b8)=>lZ b4/\True) eZ (λ⟨b4,b8⟩=>((Holds.kdl 157 rfl).and hT)) ?_;rintro k ⟨b4,b8⟩ o hp h l6;change L6.s36 b2 b4 b8=_ at h;unfold L6.s36 at h;obtain⟨j7,_⟩:=hp;refine B9 h (λg3 h e3=>?_) λg3 h e3=>?_;refine A3 ⟨rfl,trivial⟩ ?_;obtain⟨d6,o1,h⟩:=A6 h;refine⟨_,xN b4 (b8:Int) d6 o1,?_⟩;refine A3 fO ?_;obtain⟨j8,l5,h⟩:=J7 h;refine A3 ⟨(by omega),rfl,D3 l5⟩<|A3 ⟨rfl,trivial⟩<|⟨_,D5 l5,?_⟩;refine A7 (List.map cI (List.set b4 b8 d6)) (P7 rfl)<|C6.mk (zzR_ (by omega)) ?_;cases h;exact D2 _ l6 eZ;cases h;cases C4 l6;exact C8 eZ;replace h:=n5;obtain⟨j9,_⟩:=hp;cases h;exact A3 ⟨rfl,trivial⟩ ⟨rfl,rfl⟩
def DY(p_:A9)(s_ t_:Int)(r:Int×Bool)(h:Q5 p_ s_ t_=some r):Sp Tryz.prog 38 [.im (.agg (G9 p_)),.im (nI s_),.im (nI t_)] (.tup [nI r.1,nB r.2]):=by
 refine E4 [700003] λhk=>?_;have z1:lZ p_.N:=B5 (D4 hk.1 2 rfl);have z2:lZ p_.O:=B5 (D4 hk.1 3 rfl);unfold Q5 at h;obtain⟨b5,f4,h⟩:=A6 h;refine⟨_,zre p_ s_ t_ b5 f4,?_⟩;refine I5 h (λe8 h=>?_) λe8 h=>?_;cases h;exact⟨rfl,rfl⟩;refine A7 p_.N.length C3 ?_;obtain⟨d8,h,f3⟩:=A6 h;refine F5 (mkSt [(10,B3 d8)] [] []) hT ?_ λhp=>?_;refine E2 h (λ(b2,b3,a2)=>mkSt [(3,C0 (G9 p_)),(8,C5 cI b5.1),(10,B3 b2),(11,.osl 64 1),(27,B6 (p_.N.length:Int)),(28,B3 a2)] [(64,.map (mapV wA wB b3))] []) (λ(b2,b3,a2)=>lZ b5.1/\True) (eA (J1 [64,24])) (λ⟨b2,b3,a2⟩=>((C9 8 rfl).and hT)) ?_;rintro k ⟨b2,b3,a2⟩ o hp h a4;change Q5.s56 p_ b5 b2 b3 a2=_ at h;unfold Q5.s56 at h;obtain⟨d9,_⟩:=hp;refine B9 h (λd0 h c7=>?_) λd0 h c7=>?_;refine E3 h λa7 f5 h=>?_;refine A7 a7.length C3 ?_;obtain⟨⟨b6,b7⟩,h,a9⟩:=A6 h;refine F5 (mkSt [(3,C0 (G9 p_)),(8,C5 cI b5.1),(10,B3 b6),(11,.osl 64 1),(27,B6 (p_.N.length:Int)),(28,B3 a2)] [(64,.map (mapV wA wB b7))] []) ((C9 8 rfl).and hT) ?_ λhp=>?_;refine E2 h (λ(b4,a8,a6)=>mkSt [(3,C0 (G9 p_)),(8,C5 cI b5.1),(10,B3 b4),(11,.osl 64 1),(12,B3 a2),(27,B6 (p_.N.length:Int)),(28,B3 a2),(35,C5 cI a7),(36,B6 (a7.length:Int)),(37,B3 a6)] [(64,.map (mapV wA wB a8))] []) (λ(b4,a8,a6)=>lZ b5.1/\lZ a7/\True) eZ (λ⟨b4,a8,a6⟩=>((C9 8 rfl).and ((C9 35 rfl).and hT))) ?_;rintro k ⟨b4,a8,a6⟩ o hp h a3;change Q5.s54 b5 a2 a7 b4 a8 a6=_ at h;unfold Q5.s54 at h;obtain⟨e0,e1,_⟩:=hp;refine B9 h (λd1 h c8=>?_) λd1 h c8=>?_;obtain⟨⟨b8,b9⟩,h,e9⟩:=A6 h;refine F5 (mkSt [(3,C0 (G9 p_)),(8,C5 cI b5.1),(10,B3 b8),(11,.osl 64 1),(12,B3 a2),(27,B6 (p_.N.length:Int)),(28,B3 a2),(35,C5 cI a7),(36,B6 (a7.length:Int)),(37,B3 a6)] [(64,.map (mapV wA wB b9))] []) ((C9 8 rfl).and ((C9 35 rfl).and hT)) ?_ λhp=>?_;refine E3 h λe2 f6 h=>?_;refine B9 h (λd2 h c9=>?_) λd2 h c9=>?_;cases h;exact C8 eZ;obtain⟨d3,h,a5⟩:=A6 h;refine F5 (mkSt [(3,C0 (G9 p_)),(8,C5 cI b5.1),(10,B3 d3),(11,.osl 64 1),(12,B3 a2),(13,B3 a6),(27,B6 (p_.N.length:Int)),(28,B3 a2),(35,C5 cI a7),(36,B6 (a7.length:Int)),(37,B3 a6)] [(64,.map (mapV wA wB a8))] []) ((C9 8 rfl).and ((C9 35 rfl).and hT)) ?_ λhp=>?_;refine E3 h λc0 f8 h=>?_;obtain⟨d4,h⟩:=D1 h;refine A3 rfl<|⟨[c0,(a6:Int)],_,rT (g:=wB) rfl ⟨rfl,d4⟩,?_⟩;refine A7 (wB ((mget [c0,(a6:Int)] a8).getD false)) ((getD_map rfl _).trans (congrArg (Option.getD · _) (get_arr _ _ _).symm))<|I5 h (λd5 h=>?_) λd5 h=>?_;obtain⟨d6,h⟩:=D1 h;refine C6.mk d6 ?_;cases h;exact C8 eZ;cases h;exact C8 eZ;replace h:=a5;obtain⟨e3,e4,_⟩:=hp;refine E3 h λc6 f7 h=>?_;obtain⟨d7,h⟩:=D1 h;refine A3 rfl<|⟨[c6,(a6:Int)],_,rT (g:=wB) rfl ⟨rfl,d7⟩,?_⟩;refine A7 (mapV wA wB (mset [c6,(a6:Int)] true a8)) (by rw[set_arr];exact mapA_set _ _) ?_;cases h;exact C8 eZ;replace h:Q5.k53 a6 b8 b9=some _:=e9;unfold Q5.k53 at h;obtain⟨e5,e6,_⟩:=hp;refine C6.mk (zzR_ (by omega)) ?_;cases h;exact D2 _ a3 eZ;cases h;cases C4 a3;exact C8 eZ;replace h:Q5.k55 a2 b6 b7=some _:=a9;unfold Q5.k55 at h;obtain⟨e7,_⟩:=hp;refine C6.mk (zzR_ (by omega)) ?_;cases h;exact D2 _ a4 eZ;cases h;cases C4 a4;exact C8 eZ;replace h:=f3;cases h;exact⟨rfl,rfl⟩
def xQ(p_:A9)(s_ t_:Int)(r:Int×Bool×Int)(h:qM p_ s_ t_=some r):Sp Tryz.prog 10 [.im (.agg (G9 p_)),.im (nI s_),.im (nI t_)] (.tup [nI r.1,nB r.2.1,nI r.2.2]):=by
 refine E4 [700003] λhk=>?_;have z1:lZ p_.N:=B5 (D4 hk.1 2 rfl);have z2:lZ p_.O:=B5 (D4 hk.1 3 rfl);unfold qM at h;obtain⟨a7,a4,h⟩:=A6 h;refine⟨_,xH p_ a7 a4,?_⟩;refine B9 h (λa8 h a2=>?_) λa8 h a2=>?_;cases h;exact⟨rfl,rfl⟩;refine P6 h (λa6=>mkSt [(1,B6 s_),(2,B6 t_),(3,C0 (G9 p_)),(29,I9 a6)] [] []) (λ_=>hT) λa6 h hp=>?_;refine I5 h (λb2 h=>?_) λb2 h=>?_;cases h;exact⟨rfl,rfl⟩;obtain⟨b3,a3,h⟩:=A6 h;refine⟨_,DY p_ s_ t_ b3 a3,?_⟩;cases h;exact⟨rfl,rfl⟩
def zp0(p_:A9)(red_:List Bool)(r:A2)(h:V3 p_ red_=some r):Sp Tryz.prog 46 [.im (.agg (G9 p_)),.im (nL cB red_)] (.row 3 1 (List.map cI r)):=by
 refine E4 [700002] λhk=>?_;have z1:lZ p_.N:=B5 (D4 hk.1 2 rfl);have z2:lZ p_.O:=B5 (D4 hk.1 3 rfl);have z3:lZ red_:=B5 hk.2.1;unfold V3 at h;refine A7 red_.length C3 ?_;obtain⟨d5,h⟩:=D1 h;refine A3 d5<|A7 (List.map cB (List.replicate red_.length false)) (Z6 (c:=cB) (z:=false) (n:=red_.length) rfl rfl)<|A7 red_.length C3 ?_;obtain⟨b3,h,f9⟩:=A6 h;refine F5 (mkSt [(5,.osl 64 1)] [(64,.row 4 1 (List.map cB b3))] []) ((Holds.kdl 64 rfl).and hT) ?_ λhp=>?_;refine E2 h (λ(b4,a2)=>mkSt [(1,C5 cB red_),(2,C0 (G9 p_)),(5,.osl 64 1),(16,C5 cB red_),(17,B6 (red_.length:Int)),(18,B3 a2)] [(64,.row 4 1 (List.map cB b4))] []) (λ(b4,a2)=>lZ red_/\lZ b4/\True) (eA (J1 [64,15])) (λ⟨b4,a2⟩=>((C9 1 rfl).and ((Holds.kdl 64 rfl).and hT))) ?_;rintro k ⟨b4,a2⟩ o hp h a5;change V3.s14 p_ red_ b4 a2=_ at h;unfold V3.s14 at h;obtain⟨d6,d7,_⟩:=hp;refine B9 h (λc7 h b7=>?_) λc7 h b7=>?_;refine E3 h λb6 g1 h=>?_;refine E3 h λb2 g2 h=>?_;refine A7 b2.length C3 ?_;obtain⟨c8,h,f7⟩:=A6 h;refine F5 (mkSt [(1,C5 cB red_),(2,C0 (G9 p_)),(5,.osl 64 1),(16,C5 cB red_),(17,B6 (red_.length:Int)),(18,B3 a2)] [(64,.row 4 1 (List.map cB c8))] []) ((C9 1 rfl).and ((Holds.kdl 64 rfl).and hT)) ?_ λhp=>?_;refine E2 h (λ(a6,b5)=>mkSt [(1,C5 cB red_),(2,C0 (G9 p_)),(5,.osl 64 1),(7,I9 b6),(16,C5 cB red_),(17,B6 (red_.length:Int)),(18,B3 a2),(27,C5 cI b2),(28,B6 (b2.length:Int)),(29,B3 b5)] [(64,.row 4 1 (List.map cB a6))] []) (λ(a6,b5)=>lZ red_/\lZ b2/\lZ a6/\True) eZ (λ⟨a6,b5⟩=>((C9 1 rfl).and ((C9 27 rfl).and ((Holds.kdl 64 rfl).and hT)))) ?_;rintro k ⟨a6,b5⟩ o hp h a3;change V3.s13 red_ b6 b2 a6 b5=_ at h;unfold V3.s13 at h;obtain⟨d8,d9,e0,_⟩:=hp;refine B9 h (λc9 h b8=>?_) λc9 h b8=>?_;refine E3 h λb9 g3 h=>?_;refine P6 h (λc0=>mkSt [(1,C5 cB red_),(2,C0 (G9 p_)),(5,.osl 64 1),(7,I9 b6),(9,B6 b9),(16,C5 cB red_),(17,B6 (red_.length:Int)),(18,B3 a2),(27,C5 cI b2),(28,B6 (b2.length:Int)),(29,B3 b5),(44,I9 c0)] [(64,.row 4 1 (List.map cB a6))] []) (λ_=>((C9 1 rfl).and ((C9 27 rfl).and ((Holds.kdl 64 rfl).and hT)))) λc0 h hp=>?_;obtain⟨e1,e2,e3,_⟩:=hp;refine I5 h (λd0 h=>?_) λd0 h=>?_;obtain⟨e4,f6,a9,h⟩:=J5 h;refine A3 ⟨f6,rfl,D3 a9⟩<|A3 ⟨rfl,trivial⟩<|⟨_,D5 a9,?_⟩;refine A7 (List.map cB (List.set a6 b9.toNat true)) (P7 rfl)<|C6.mk (zzR_ (by omega)) ?_;cases h;exact D2 _ a3 eZ;refine C6.mk (zzR_ (by omega)) ?_;cases h;exact D2 _ a3 eZ;cases h;cases C4 a3;exact C8 eZ;replace h:=f7;obtain⟨e5,e6,_⟩:=hp;refine C6.mk (zzR_ (by omega)) ?_;cases h;exact D2 _ a5 eZ;cases h;cases C4 a5;exact C8 eZ;replace h:=f9;obtain⟨e7,_⟩:=hp;refine A3 rfl<|A7 b3.length C3 ?_;obtain⟨d1,h,f8⟩:=A6 h;refine F5 (mkSt [(10,.osl 64 1)] [(64,.row 3 1 (List.map cI d1))] []) ((Holds.kdl 64 rfl).and hT) ?_ λhp=>?_;refine E2 h (λ(a7,a8)=>mkSt [(10,.osl 64 1),(50,.osl 65 1),(51,B6 (b3.length:Int)),(52,B3 a8)] [(64,.row 3 1 (List.map cI a7)),(65,.row 4 1 (List.map cB b3))] []) (λ(a7,a8)=>lZ a7/\lZ b3/\True) (eA [(64,none),(65,some 64)]) (λ⟨a7,a8⟩=>((Holds.kdl 64 rfl).and ((Holds.kdl 65 rfl).and hT))) ?_;rintro k ⟨a7,a8⟩ o hp h a4;change V3.s16 b3 a7 a8=_ at h;unfold V3.s16 at h;obtain⟨e8,e9,_⟩:=hp;refine B9 h (λd2 h c6=>?_) λd2 h c6=>?_;obtain⟨f3,f5,h⟩:=J7 h;refine A3 ⟨(by omega),rfl,D3 f5⟩<|⟨_,_,⟨rfl,D5 f5,rfl,rfl⟩,?_⟩;refine I5 h (λd3 h=>?_) λd3 h=>?_;obtain⟨d4,h⟩:=D1 h;refine A3 ⟨rfl,J8 (l:=[(a8:Int)]) (c:=cI) λ_=>rfl,show B4 _ 8 by simpa only[B7,G8,K3,E8]using d4⟩ ?_;refine A7 (List.map cI (a7++[(a8:Int)])) (J9 (l:=a7) (m:=[(a8:Int)]) (c:=cI)) ?_;refine C6.mk (zzR_ (by omega)) ?_;cases h;exact D2 _ a4 eZ;refine C6.mk (zzR_ (by omega)) ?_;cases h;exact D2 _ a4 eZ;cases h;cases C4 a4;exact C8 eZ;replace h:=f8;obtain⟨f4,_⟩:=hp;cases h;exact A3 ⟨rfl,trivial⟩ ⟨rfl,rfl⟩
def zrh(p_:A9)(red_:List Bool)(blue_:Int)(r:X7)(h:aN p_ red_ blue_=some r):Sp Tryz.prog 86 [.im (.agg (G9 p_)),.im (nL cB red_),.im (nI blue_)] (.im (.agg (xY r))):=by
 refine E4 [700003] λhk=>?_;have z1:lZ p_.N:=B5 (D4 hk.1 2 rfl);have z2:lZ p_.O:=B5 (D4 hk.1 3 rfl);have z3:lZ red_:=B5 hk.2.1;unfold aN at h;refine A7 red_.length C3 ?_;obtain⟨⟨b4,b5,b6⟩,h,d5⟩:=A6 h;refine F5 (mkSt [(6,.own 64 1 0),(7,.own 65 1 0)] [(64,.box 84 3),(65,.box 84 3)] [(64,0,.im (nI 0)),(64,1,.im (nI 0)),(64,2,.im (nI 0)),(65,0,.im (nI b4)),(65,1,.im (nI b5)),(65,2,.im (nI (b6:Int)))]) hT ?_ λhp=>?_;refine E2 h (λ(a7,a8,b2,a2)=>mkSt [(2,B6 blue_),(3,C0 (G9 p_)),(6,.own 64 1 0),(7,.own 65 1 0),(12,C5 cB red_),(13,B6 (red_.length:Int)),(14,B3 a2)] [(64,.box 84 3),(65,.box 84 3)] [(64,0,.im (nI 0)),(64,1,.im (nI 0)),(64,2,.im (nI 0)),(65,0,.im (nI a7)),(65,1,.im (nI a8)),(65,2,.im (nI (b2:Int)))]) (λ(a7,a8,b2,a2)=>lZ red_/\True) (eA (J1 [64,6,65,7])) (λ⟨a7,a8,b2,a2⟩=>((C9 12 rfl).and hT)) ?_;rintro k ⟨a7,a8,b2,a2⟩ o hp h a3;change aN.s10 p_ red_ blue_ a7 a8 b2 a2=_ at h;unfold aN.s10 at h;obtain⟨d1,_⟩:=hp;refine B9 h (λc7 h b7=>?_) λc7 h b7=>?_;obtain⟨⟨b8,b9,c0⟩,h,a5⟩:=A6 h;refine F5 (mkSt [(2,B6 blue_),(3,C0 (G9 p_)),(6,.own 64 1 0),(7,.own 65 1 0),(12,C5 cB red_),(13,B6 (red_.length:Int)),(14,B3 a2)] [(64,.box 84 3),(65,.box 84 3)] [(64,0,.im (nI 0)),(64,1,.im (nI 0)),(64,2,.im (nI 0)),(65,0,.im (nI b8)),(65,1,.im (nI b9)),(65,2,.im (nI (c0:Int)))]) ((C9 12 rfl).and hT) ?_ λhp=>?_;refine E3 h λd2 d6 h=>?_;refine I5 h (λc8 h=>?_) λc8 h=>?_;cases h;exact C8 eZ;obtain⟨c6,a4,h⟩:=A6 h;refine⟨_,DY p_ (a2:Int) blue_ c6 a4,?_⟩;obtain⟨c9,h,a9⟩:=A6 h;refine F5 (mkSt [(2,B6 blue_),(3,C0 (G9 p_)),(6,.own 64 1 0),(7,.own 65 1 0),(8,B3 a2),(10,B6 c6.1),(12,C5 cB red_),(13,B6 (red_.length:Int)),(14,B3 a2),(39,I9 c9)] [(64,.box 84 3),(65,.box 84 3)] [(64,0,.im (nI 0)),(64,1,.im (nI 0)),(64,2,.im (nI 0)),(65,0,.im (nI a7)),(65,1,.im (nI a8)),(65,2,.im (nI (b2:Int)))]) ((C9 12 rfl).and hT) ?_ λhp=>?_;refine bQ h (λa6 h=>?_) λa6 h=>?_;refine A3 rfl ?_
 iterate 2 (refine C1 (G0 a6) ?_)
 refine A3 (by kernel_rfl)<|A7 (decide (a7=0)&&(decide (a8=0)&&(decide ((b2:Int)=0)&&true))) rfl<|C1 (G0 a6)<|jI h (λb3 h=>?_) λb3 h=>?_;refine C1 (N8 b3)<|A3 rfl<|C1 (N8 b3)<|A3 rfl<|C1 (N8 b3)<|C1 (G0 a6)<|E1 b3<|C1 a6 ?_;cases h;exact C8 eZ
 iterate 3 (refine E1 (dS b3) ?_)
 refine C1 (G0 a6)<|C1 b3<|C1 a6 ?_;cases h;exact C8 eZ
 iterate 4 (refine E1 (O9 a6) ?_)
 refine E1 a6 ?_;cases h;exact C8 eZ;replace h:=a9;obtain⟨d3,_⟩:=hp;refine I5 h (λd0 h=>?_) λd0 h=>?_;refine A3 rfl ?_;cases h;exact C8 eZ;cases h;exact C8 eZ;replace h:aN.k9 a2 b8 b9 c0=some _:=a5;unfold aN.k9 at h;obtain⟨d4,_⟩:=hp;refine C6.mk (zzR_ (by omega)) ?_;cases h;exact D2 _ a3 eZ;cases h;cases C4 a3;exact C8 eZ;replace h:aN.k11 b4 b5 b6=some _:=d5;unfold aN.k11 at h;refine A3 rfl<|A3 rfl ?_;cases h;refine A3 ⟨rfl,trivial⟩ ?_;exact⟨rfl,rfl⟩
def zoo(p_:A9)(red_:List Bool)(l_:A2)(r:X7×Int)(h:bB p_ red_ l_=some r):Sp Tryz.prog 47 [.im (.agg (G9 p_)),.im (nL cB red_),.im (nL cI l_)] (.tup [.agg (xY r.1),nI r.2]):=by
 refine E4 [700003] λhk=>?_;have z1:lZ p_.N:=B5 (D4 hk.1 2 rfl);have z2:lZ p_.O:=B5 (D4 hk.1 3 rfl);have z3:lZ red_:=B5 hk.2.1;have z4:lZ l_:=B5 hk.2.2.1;unfold bB at h;refine A7 l_.length C3 ?_;obtain⟨oc,h,a4⟩:=A6 h;refine S8 oc (Y:=Int×Int×Int) (λ(b4,b5,b6)=>mkSt [(6,.own 64 1 0),(8,.own 65 1 0)] [(64,.box 84 3),(65,.box 84 3)] [(64,0,.im (nI 0)),(64,1,.im (nI 0)),(64,2,.im (nI 0)),(65,0,.im (nI b4)),(65,1,.im (nI b5)),(65,2,.im (nI b6))]) (λ(b4,b5,b6)=>True) (by rintro⟨b4,b5,b6⟩;exact hT) ?_ ?_;refine E2 h (λ(a6,a7,a8,b3)=>mkSt [(1,C5 cB red_),(3,C0 (G9 p_)),(6,.own 64 1 0),(8,.own 65 1 0),(12,C5 cI l_),(13,B6 (l_.length:Int)),(14,B3 b3)] [(64,.box 84 3),(65,.box 84 3)] [(64,0,.im (nI 0)),(64,1,.im (nI 0)),(64,2,.im (nI 0)),(65,0,.im (nI a6)),(65,1,.im (nI a7)),(65,2,.im (nI a8))]) (λ(a6,a7,a8,b3)=>lZ red_/\lZ l_/\True) (eA (J1 [64,6,65,8])) (λ⟨a6,a7,a8,b3⟩=>((C9 1 rfl).and ((C9 12 rfl).and hT))) ?_;rintro k ⟨a6,a7,a8,b3⟩ o hp h a3;change bB.s2 p_ red_ l_ a6 a7 a8 b3=_ at h;unfold bB.s2 at h;obtain⟨c8,c9,_⟩:=hp;refine B9 h (λb8 h b7=>?_) λb8 h b7=>?_;refine E3 h λb9 d3 h=>?_;obtain⟨b2,a5,h⟩:=A6 h;refine⟨_,zrh p_ red_ b9 b2 a5,?_⟩;refine A3 rfl<|A3 rfl<|A3 (by kernel_rfl)<|A7 (decide (b2.score=0)&&(decide (b2.blue=0)&&(decide (b2.red=0)&&true))) rfl<|I5 h (λc0 h=>?_) λc0 h=>?_;refine A3 rfl<|A3 rfl ?_;cases h;cases C4 a3;replace h:some _=some _:=a4;cases h;refine A3 ⟨rfl,trivial⟩ ?_;exact⟨rfl,rfl⟩;obtain⟨c6,h,a9⟩:=A6 h;refine F5 (mkSt [(1,C5 cB red_),(3,C0 (G9 p_)),(6,.own 64 1 0),(8,.own 65 1 0),(11,.own 66 1 0),(12,C5 cI l_),(13,B6 (l_.length:Int)),(14,B3 b3),(36,I9 c6)] [(64,.box 84 3),(65,.box 84 3),(66,.box 84 3)] [(64,0,.im (nI 0)),(64,1,.im (nI 0)),(64,2,.im (nI 0)),(65,0,.im (nI a6)),(65,1,.im (nI a7)),(65,2,.im (nI a8)),(66,0,.im (nI b2.score)),(66,1,.im (nI b2.blue)),(66,2,.im (nI b2.red))]) ((C9 1 rfl).and ((C9 12 rfl).and hT)) ?_ λhp=>?_;refine A3 rfl<|A3 (by kernel_rfl)<|A7 (decide (a6=0)&&(decide (a7=0)&&(decide (a8=0)&&true))) rfl<|jI h (λa2 h=>?_) λa2 h=>?_;refine A3 rfl<|C1 (N8 a2)<|A3 rfl<|C1 (N8 a2)<|A3 rfl<|C1 (N8 a2)<|A3 rfl<|C1 (N8 a2)<|E1 a2 ?_;cases h;exact C8 (eA (J1 [64,64,65,65,66,11]))
 iterate 4 (refine E1 (dS a2) ?_)
 refine C1 a2 ?_;cases h;exact C8 (eA (J1 [64,64,65,65,66,11]));replace h:=a9;obtain⟨d0,d1,_⟩:=hp;refine I5 h (λc7 h=>?_) λc7 h=>?_;refine A3 rfl<|A3 rfl<|C6.mk (zzR_ (by omega)) ?_;cases h;exact D2 _ a3 eZ;refine C6.mk (zzR_ (by omega)) ?_;cases h;exact D2 _ a3 eZ;cases h;cases C4 a3;exact J6.mk' _ rfl eZ;rintro⟨b4,b5,b6⟩ rfl hp;have d2:=L4 a4;replace h:bB.k3 b4 b5 b6=some _:=d2;clear d2;unfold bB.k3 at h;refine A3 rfl<|A3 rfl ?_;cases h;refine A3 ⟨rfl,trivial⟩ ?_;exact⟨rfl,rfl⟩
def zo8(p_ q_:A9)(red_ r:List Bool)(h:R2 p_ q_ red_=some r):Sp Tryz.prog 48 [.im (.agg (G9 p_)),.im (.agg (G9 q_)),.im (nL cB red_)] (.row 4 1 (List.map cB r)):=by
 refine E4 [39,700003,700004] λhk=>?_;have z1:lZ p_.N:=B5 (D4 hk.1 2 rfl);have z2:lZ p_.O:=B5 (D4 hk.1 3 rfl);have z3:lZ q_.N:=B5 (D4 hk.2.1 2 rfl);have z4:lZ q_.O:=B5 (D4 hk.2.1 3 rfl);have z5:lZ red_:=B5 hk.2.2.1;unfold R2 at h;refine A7 p_.N.length C3 ?_;obtain⟨h2,h⟩:=D1 h;refine A3 h2<|A7 (List.map cI (List.replicate p_.N.length (0:Int))) (Z6 (c:=cI) (z:=0) (n:=p_.N.length) rfl rfl)<|A3 rfl<|A7 (List.length (List.replicate p_.N.length (0:Int))) C3 ?_;obtain⟨e2,h,k8⟩:=A6 h;refine F5 (mkSt [(2,C5 cB red_),(3,C0 (G9 p_)),(4,C0 (G9 q_)),(7,.osl 98 1)] [(98,.row 3 1 (List.map cI e2))] []) ((C9 2 rfl).and ((Holds.kdl 98 rfl).and hT)) ?_ λhp=>?_;refine E2 h (λ(c6,c9)=>mkSt [(2,C5 cB red_),(3,C0 (G9 p_)),(4,C0 (G9 q_)),(7,.osl 98 1),(19,B6 (↑(List.length (List.replicate p_.N.length (0:Int))):Int)),(20,B3 c9)] [(98,.row 3 1 (List.map cI c6))] []) (λ(c6,c9)=>lZ red_/\lZ c6/\True) (eA (J1 [98,17])) (λ⟨c6,c9⟩=>((C9 2 rfl).and ((Holds.kdl 98 rfl).and hT))) ?_;rintro k ⟨c6,c9⟩ o hp h j9;change R2.s2 p_ c6 c9=_ at h;unfold R2.s2 at h;obtain⟨i4,i5,_⟩:=hp;refine B9 h (λh3 h d7=>?_) λh3 h d7=>?_;obtain⟨i6,k1,h⟩:=J7 h;refine A3 ⟨(by omega),rfl,D3 k1⟩<|A3 ⟨rfl,trivial⟩<|⟨_,D5 k1,?_⟩;refine A7 (List.map cI (List.set c6 c9 (-1:Int))) (P7 rfl) ?_;obtain⟨h4,h⟩:=D1 h;refine C6.mk h4 ?_;cases h;exact D2 _ j9 eZ;cases h;cases C4 j9;exact C8 eZ;replace h:=k8;obtain⟨i7,i8,_⟩:=hp;obtain⟨i9,k5,k0,h⟩:=J5 h;refine A3 ⟨k5,rfl,D3 k0⟩<|A3 ⟨rfl,trivial⟩<|⟨_,D5 k0,?_⟩;refine A7 (List.map cI (List.set e2 p_.S.toNat q_.S)) (P7 rfl)<|A7 q_.N.length C3 ?_;obtain⟨h5,h⟩:=D1 h;refine A3 h5<|A7 (List.map cB (List.replicate q_.N.length false)) (Z6 (c:=cB) (z:=false) (n:=q_.N.length) rfl rfl) ?_;obtain⟨d8,h,k7⟩:=A6 h;refine F5 (mkSt [(9,.osl 98 1)] [(98,.row 4 1 (List.map cB d8))] []) ((Holds.kdl 98 rfl).and hT) ?_ λhp=>?_;refine E2 h (λ(b4,b5,b2)=>mkSt [(2,C5 cB red_),(3,C0 (G9 p_)),(4,C0 (G9 q_)),(7,.osl 98 1),(9,.osl 99 1),(10,.osl 100 1)] [(98,.row 3 1 (List.map cI b4)),(99,.row 4 1 (List.map cB b5)),(100,.que 3 1 (List.map cI b2))] []) (λ(b4,b5,b2)=>lZ red_/\lZ b4/\lZ b5/\lZ b2/\True) ((Ent.que 39 rfl).trans (eA (J1 [98,98,99,36,100,39]))) (λ⟨b4,b5,b2⟩=>((C9 2 rfl).and ((Holds.kdl 98 rfl).and ((Holds.kdl 99 rfl).and ((Holds.kdql 100 rfl).and hT))))) ?_;rintro k ⟨b4,b5,b2⟩ o hp h j0;change R2.s22 p_ q_ red_ b4 b5 b2=_ at h;unfold R2.s22 at h;obtain⟨e3,e4,e5,e6,_⟩:=hp;refine A3 rfl<|A7 b2.length C3<|B9 h (λd9 h d0=>?_) λd9 h d0=>?_;obtain⟨b9,j1,h⟩:=J7 h;refine A3 ⟨(by omega),rfl,D3 j1⟩<|⟨_,_,⟨rfl,D5 j1,rfl,rfl⟩,?_⟩;obtain⟨b7,h,k4⟩:=A6 h;refine F5 (mkSt [(2,C5 cB red_),(3,C0 (G9 p_)),(4,C0 (G9 q_)),(7,.osl 98 1),(9,.osl 99 1),(10,.osl 100 1),(11,B6 b9)] [(98,.row 3 1 (List.map cI b4)),(99,.row 4 1 (List.map cB b7)),(100,.que 3 1 (List.map cI b2))] []) ((C9 2 rfl).and ((Holds.kdl 98 rfl).and ((Holds.kdl 99 rfl).and ((Holds.kdql 100 rfl).and hT)))) ?_ λhp=>?_;refine L8 h λh6 l6 l8 h=>?_;refine I5 h (λe0 h=>?_) λe0 h=>?_;obtain⟨e1,j6,j5,h⟩:=J5 h;refine A3 ⟨j6,rfl,D3 j5⟩<|⟨_,_,⟨rfl,D5 j5,rfl,rfl⟩,?_⟩;obtain⟨h7,j8,j4,h⟩:=J5 h;refine A3 ⟨j8,rfl,D3 j4⟩<|A3 ⟨rfl,trivial⟩<|⟨_,D5 j4,?_⟩;refine A7 (List.map cB (List.set b5 e1.toNat true)) (P7 rfl) ?_;cases h;exact C8 eZ;cases h;exact C8 eZ;replace h:=k4;obtain⟨h8,h9,i0,i3,_⟩:=hp;refine L8 h λb6 l0 l9 h=>?_;refine A7 b6.length C3 ?_;obtain⟨⟨c0,b8⟩,h,k2⟩:=A6 h;refine F5 (mkSt [(2,C5 cB red_),(3,C0 (G9 p_)),(4,C0 (G9 q_)),(7,.osl 98 1),(9,.osl 99 1),(10,.osl 100 1)] [(98,.row 3 1 (List.map cI c0)),(99,.row 4 1 (List.map cB b7)),(100,.que 3 1 (List.map cI b8))] []) ((C9 2 rfl).and ((Holds.kdl 98 rfl).and ((Holds.kdl 99 rfl).and ((Holds.kdql 100 rfl).and hT)))) ?_ λhp=>?_;refine E2 h (λ(a6,a2,a7)=>mkSt [(2,C5 cB red_),(3,C0 (G9 p_)),(4,C0 (G9 q_)),(7,.osl 98 1),(9,.osl 99 1),(10,.osl 100 1),(11,B6 b9),(62,C5 cI b6),(63,B6 (b6.length:Int)),(64,B3 a7)] [(98,.row 3 1 (List.map cI a6)),(99,.row 4 1 (List.map cB b7)),(100,.que 3 1 (List.map cI a2))] []) (λ(a6,a2,a7)=>lZ red_/\lZ b6/\lZ a6/\lZ b7/\lZ a2/\True) eZ (λ⟨a6,a2,a7⟩=>((C9 2 rfl).and ((C9 62 rfl).and ((Holds.kdl 98 rfl).and ((Holds.kdl 99 rfl).and ((Holds.kdql 100 rfl).and hT)))))) ?_;rintro k ⟨a6,a2,a7⟩ o hp h a3;change R2.s20 q_ b9 b6 a6 a2 a7=_ at h;unfold R2.s20 at h;obtain⟨e7,e8,e9,f3,f4,_⟩:=hp;refine B9 h (λd1 h c7=>?_) λd1 h c7=>?_;refine E3 h λb3 l4 h=>?_;obtain⟨d2,h,j7⟩:=A6 h;refine F5 (mkSt [(2,C5 cB red_),(3,C0 (G9 p_)),(4,C0 (G9 q_)),(7,.osl 98 1),(9,.osl 99 1),(10,.osl 100 1),(11,B6 b9),(12,B3 a7),(13,B6 b3),(62,C5 cI b6),(63,B6 (b6.length:Int)),(64,B3 a7),(77,I9 d2)] [(98,.row 3 1 (List.map cI a6)),(99,.row 4 1 (List.map cB b7)),(100,.que 3 1 (List.map cI a2))] []) ((C9 2 rfl).and ((C9 62 rfl).and ((Holds.kdl 98 rfl).and ((Holds.kdl 99 rfl).and ((Holds.kdql 100 rfl).and hT))))) ?_ λhp=>?_;refine T8 h (λa8 h c8=>?_) λa8 h c8=>?_
 iterate 2 (refine C1 (G0 a8) ?_)
 obtain⟨f5,j2,a5,h⟩:=J5 h;refine A3 ⟨j2,rfl,D3 a5⟩<|C1 (G0 a8)<|⟨_,_,⟨rfl,D5 a5,rfl,rfl⟩,?_⟩;refine C1 (G0 a8)<|C1 a8 ?_;cases h;exact C8 eZ
 iterate 4 (refine E1 (O9 a8) ?_)
 refine E1 a8 ?_;cases h;exact C8 eZ;replace h:=j7;obtain⟨f7,f8,f9,g1,g2,_⟩:=hp;refine I5 h (λd3 h=>?_) λd3 h=>?_;obtain⟨g3,j3,a4,h⟩:=J5 h;refine A3 ⟨j3,rfl,D3 a4⟩<|⟨_,_,⟨rfl,D5 a4,rfl,rfl⟩,?_⟩;refine L8 h λg4 k6 l3 h=>?_;refine E3 h λd4 l5 h=>?_;obtain⟨g5,f6,a9,h⟩:=J5 h;refine A3 ⟨f6,rfl,D3 a9⟩<|A3 ⟨rfl,trivial⟩<|⟨_,D5 a9,?_⟩;refine A7 (List.map cI (List.set a6 b3.toNat d4)) (P7 rfl) ?_;obtain⟨d5,h⟩:=D1 h;refine A3 ⟨rfl,tV _,J8 (l:=[b3]) (c:=cI) λ_=>rfl,show B4 _ 8 by simpa only[B7,G8,K3,E8]using d5⟩ ?_;refine A7 (List.map cI (a2++[b3])) (J9 (l:=a2) (m:=[b3]) (c:=cI))<|C6.mk (zzR_ (by omega)) ?_;cases h;exact D2 _ a3 eZ;refine C6.mk (zzR_ (by omega)) ?_;cases h;exact D2 _ a3 eZ;cases h;cases C4 a3;exact C8 eZ;replace h:R2.k21 b7 c0 b8=some _:=k2;unfold R2.k21 at h;obtain⟨g6,g7,g8,g9,_⟩:=hp;obtain⟨d6,h⟩:=D1 h;refine A3 ⟨rfl,by decide,by have l7:=d6;simp only[B7];exact l7⟩ ?_;refine A7 (List.map cI (List.drop 1 b8)) oD ?_;cases h;exact D2 _ j0 eZ;cases h;cases C4 j0;exact C8 (eA (J1 [98,99]));replace h:=k7;obtain⟨h0,_⟩:=hp;cases h;exact A3 ⟨rfl,trivial⟩ ⟨rfl,rfl⟩
def zig(s_:A2)(f_:Int->Option Bool)(f1_:FuncId)(hf1:∀x0 r,f_ x0=some r->Sp Tryz.prog f1_ [.im (nI x0)] (.im (nB r)))(r:Int)(h:iD s_ f_=some r):Sp Tryz.prog 157 [.im (nL cI s_),.im (.fn f1_ [])] (.im (nI r)):=by
 refine E4 [] λhk=>?_;have z1:lZ s_:=B5 hk.1;unfold iD at h;refine A7 s_.length C3 ?_;obtain⟨oc,h,a4⟩:=A6 h;refine R6 oc (mkSt [] [] []) hT ?_ ?_;refine E2 h (λa2=>mkSt [(0,C5 cI s_),(1,.im (.fn f1_ [])),(7,B6 (s_.length:Int)),(8,B3 a2)] [] []) (λa2=>lZ s_/\True) eZ (λa2=>((C9 0 rfl).and hT)) ?_;rintro k a2 o hp h a3;unfold iD.s2 at h;obtain⟨b4,_⟩:=hp;refine B9 h (λa7 h a6=>?_) λa7 h a6=>?_;refine E3 h λa8 a9 h=>?_;obtain⟨b2,a5,h⟩:=A6 h;refine⟨_,hf1 a8 b2 a5,?_⟩;refine I5 h (λb3 h=>?_) λb3 h=>?_;cases h;cases C4 a3;replace h:some _=some _:=a4;cases h;exact⟨rfl,rfl⟩;refine C6.mk (zzR_ (by omega)) ?_;cases h;exact D2 _ a3 eZ;cases h;cases C4 a3;exact J6.mk' _ rfl eZ;rintro⟨⟩ rfl hp;replace h:=L4 a4;cases h;exact⟨rfl,rfl⟩
def zhi(s_:A2)(f_:Int->Option Bool)(f1_:FuncId)(hf1:∀x0 r,f_ x0=some r->Sp Tryz.prog f1_ [.im (nI x0)] (.im (nB r)))(r:Bool)(h:rA s_ f_=some r):Sp Tryz.prog 137 [.im (nL cI s_),.im (.fn f1_ [])] (.im (nB r)):=by
 refine E4 [] λhk=>?_;have z1:lZ s_:=B5 hk.1;unfold rA at h;obtain⟨a2,a3,h⟩:=A6 h;refine⟨_,zig s_ f_ f1_ hf1 a2 a3,?_⟩;cases h;exact⟨rfl,rfl⟩
def zpv(inputs_:Int)(r:Bool)(h:qL inputs_=some r):Sp Tryz.prog 136 [.im (nI inputs_)] (.im (nB r)):=by
 refine E4 [] λhk=>?_;unfold qL at h;refine P6 h (λa2=>mkSt [(2,I9 a2)] [] []) (λ_=>hT) λa2 h hp=>?_;cases h;exact⟨rfl,rfl⟩
def zr7(a_ p1_:Int)(r:Bool)(h:nR a_ p1_=some r):Sp Tryz.prog 138 [.im (nI a_),.im (.ref (cI p1_))] (.im (nB r)):=by
 refine E4 [] λhk=>?_;unfold nR at h;refine P6 h (λa2=>mkSt [(3,I9 a2)] [] []) (λ_=>hT) λa2 h hp=>?_;cases h;exact⟨rfl,rfl⟩
def zhs(s_:A2)(f_:Int->Option Bool)(f1_:FuncId)(k1_0:IV)(hk1_0:nz k1_0=k1_0)(hf1:∀x0 r,f_ x0=some r->Sp Tryz.prog f1_ [.im (nI x0),.im k1_0] (.im (nB r)))(r:Int)(h:iE s_ f_=some r):Sp Tryz.prog 157 [.im (nL cI s_),.im (.fn f1_ [k1_0])] (.im (nI r)):=by
 refine E4 [] λhk=>?_;have z1:lZ s_:=B5 hk.1;unfold iE at h;refine A7 s_.length C3 ?_;obtain⟨oc,h,a4⟩:=A6 h;refine R6 oc (mkSt [] [] []) hT ?_ ?_;refine E2 h (λa2=>mkSt [(0,C5 cI s_),(1,.im (.fn f1_ [k1_0])),(7,B6 (s_.length:Int)),(8,B3 a2)] [] []) (λa2=>lZ s_/\True) eZ (λa2=>((C9 0 rfl).and hT)) ?_;rintro k a2 o hp h a3;unfold iE.s2 at h;obtain⟨b4,_⟩:=hp;refine B9 h (λa7 h a6=>?_) λa7 h a6=>?_;refine E3 h λa8 a9 h=>?_;obtain⟨b2,a5,h⟩:=A6 h;refine⟨_,Sp.args (hf1 a8 b2 a5) (by rw[hk1_0];try rfl),?_⟩;refine I5 h (λb3 h=>?_) λb3 h=>?_;cases h;cases C4 a3;replace h:some _=some _:=a4;cases h;exact⟨rfl,rfl⟩;refine C6.mk (zzR_ (by omega)) ?_;cases h;exact D2 _ a3 eZ;cases h;cases C4 a3;exact J6.mk' _ rfl eZ;rintro⟨⟩ rfl hp;replace h:=L4 a4;cases h;exact⟨rfl,rfl⟩
def zg2(s_:A2)(f_:Int->Option Bool)(f1_:FuncId)(k1_0:IV)(hk1_0:nz k1_0=k1_0)(hf1:∀x0 r,f_ x0=some r->Sp Tryz.prog f1_ [.im (nI x0),.im k1_0] (.im (nB r)))(r:Bool)(h:tT s_ f_=some r):Sp Tryz.prog 137 [.im (nL cI s_),.im (.fn f1_ [k1_0])] (.im (nB r)):=by
 refine E4 [] λhk=>?_;have z1:lZ s_:=B5 hk.1;unfold tT at h;obtain⟨a2,a3,h⟩:=A6 h;refine⟨_,zhs s_ f_ f1_ k1_0 hk1_0 hf1 a2 a3,?_⟩;cases h;exact⟨rfl,rfl⟩
def CF(w_:A2)(inputs_ r:Int)(h:nK w_ inputs_=some r):Sp Tryz.prog 110 [.im (nL cI w_),.im (nI inputs_)] (.im (nI r)):=by
 refine E4 [700003] λhk=>?_;have z1:lZ w_:=B5 hk.1;unfold nK at h;obtain⟨a6,a4,h⟩:=A6 h;refine⟨_,zpv inputs_ a6 a4,?_⟩;refine I5 h (λa7 h=>?_) λa7 h=>?_;cases h;exact⟨rfl,rfl⟩;refine A7 w_.length C3<|B9 h (λa8 h a2=>?_) λa8 h a2=>?_;cases h;exact⟨rfl,rfl⟩;obtain⟨b2,a3,h⟩:=A6 h;refine⟨_,zg2 w_ (λu0=>nR u0 inputs_) 138 (.ref (cI inputs_)) rfl (λu0 r h=>(zr7 u0 inputs_ r h)) b2 a3,?_⟩;refine I5 h (λb3 h=>?_) λb3 h=>?_;cases h;exact⟨rfl,rfl⟩;cases h;exact⟨rfl,rfl⟩
def xF(a_ b_:A2)(r:Int)(h:fB a_ b_=some r):Sp Tryz.prog 145 [.im (nL cI a_),.im (nL cI b_)] (.im (nI r)):=by
 refine E4 [] λhk=>?_;have z1:lZ a_:=B5 hk.1;have z2:lZ b_:=B5 hk.2.1;unfold fB at h;refine A7 a_.length C3<|A7 b_.length C3 ?_;obtain⟨oc,h,a4⟩:=A6 h;refine S8 oc (Y:=Unit) (λ(_:Unit)=>mkSt [(0,C5 cI a_),(1,C5 cI b_)] [] []) (λ(_:Unit)=>lZ a_/\lZ b_/\True) (by rintro⟨⟩;exact((C9 0 rfl).and ((C9 1 rfl).and hT))) ?_ ?_;refine E2 h (λa2=>mkSt [(0,C5 cI a_),(1,C5 cI b_),(10,B6 (min (a_.length:Int) (b_.length:Int))),(11,B3 a2)] [] []) (λa2=>lZ a_/\lZ b_/\True) eZ (λa2=>((C9 0 rfl).and ((C9 1 rfl).and hT))) ?_;rintro k a2 o hp h a3;unfold fB.s2 at h;obtain⟨b3,b4,_⟩:=hp;refine B9 h (λa8 h a6=>?_) λa8 h a6=>?_;refine E3 h λb5 a9 h=>?_;refine E3 h λb6 a5 h=>?_;refine B9 h (λb2 h a7=>?_) λb2 h a7=>?_;cases h;cases C4 a3;replace h:some _=some _:=a4;cases h;exact⟨rfl,rfl⟩;refine C6.mk (zzR_ (by omega)) ?_;cases h;exact D2 _ a3 eZ;cases h;cases C4 a3;exact J6.mk' _ rfl eZ;rintro⟨⟩ rfl hp;replace h:=L4 a4;obtain⟨b7,b8,_⟩:=hp;refine A7 a_.length C3<|A7 b_.length C3 ?_;cases h;exact⟨rfl,rfl⟩
def DT(w_ p_:A2)(r:Bool)(h:nU w_ p_=some r):Sp Tryz.prog 116 [.im (nL cI w_),.im (nL cI p_)] (.im (nB r)):=by
 refine E4 [] λhk=>?_;have z1:lZ w_:=B5 hk.1;have z2:lZ p_:=B5 hk.2.1;unfold nU at h;obtain⟨a2,a3,h⟩:=A6 h;refine⟨_,xF w_ p_ a2 a3,?_⟩;refine A7 p_.length C3 ?_;cases h;exact⟨rfl,rfl⟩
def DN(a_ b_:C7)(r:Int)(h:nV a_ b_=some r):Sp Tryz.prog 118 [.im (.agg (I6 a_)),.im (.agg (I6 b_))] (.im (nI r)):=by
 refine E4 [700002,700003] λhk=>?_;have z1:lZ a_.In:=B5 (D4 hk.1 0 rfl);have z2:lZ a_.O:=B5 (D4 hk.1 1 rfl);have z3:lZ b_.In:=B5 (D4 hk.2.1 0 rfl);have z4:lZ b_.O:=B5 (D4 hk.2.1 1 rfl);unfold nV at h;obtain⟨a2,a4,h⟩:=A6 h;refine⟨_,xF a_.In b_.In a2 a4,?_⟩;refine A7 a_.O.length C3<|A7 b_.O.length C3 ?_;obtain⟨b2,h⟩:=D1 h;refine A3 (show(0:Int)<=(0:Int)/\(0:Int)<=(min (min a2 (a_.O.length:Int)) (b_.O.length:Int))/\(min (min a2 (a_.O.length:Int)) (b_.O.length:Int))<=(↑(List.length (List.map cI a_.O)):Int)/\(∀e∈List.map cI a_.O,List.length e=1) from⟨by omega,by first|omega|(simp only[B7];omega),by first|omega|(simp only[B7];omega),J8 λ_=>rfl⟩) ?_
 refine A7 (List.map cI (List.take (Int.toNat (min (min a2 (a_.O.length:Int)) (b_.O.length:Int))) a_.O)) pD ?_;obtain⟨b3,h⟩:=D1 h;refine A3 (show(0:Int)<=(0:Int)/\(0:Int)<=(min (min a2 (a_.O.length:Int)) (b_.O.length:Int))/\(min (min a2 (a_.O.length:Int)) (b_.O.length:Int))<=(↑(List.length (List.map cI b_.O)):Int)/\(∀e∈List.map cI b_.O,List.length e=1) from⟨by omega,by first|omega|(simp only[B7];omega),by first|omega|(simp only[B7];omega),J8 λ_=>rfl⟩) ?_
 refine A7 (List.map cI (List.take (Int.toNat (min (min a2 (a_.O.length:Int)) (b_.O.length:Int))) b_.O)) pD ?_;obtain⟨a7,a3,h⟩:=A6 h;refine⟨_,(xF (List.take (Int.toNat (min (min a2 (a_.O.length:Int)) (b_.O.length:Int))) a_.O) (List.take (Int.toNat (min (min a2 (a_.O.length:Int)) (b_.O.length:Int))) b_.O) a7 a3),?_⟩;refine B9 h (λa8 h a6=>?_) λa8 h a6=>?_;cases h;exact⟨rfl,rfl⟩;cases h;exact⟨rfl,rfl⟩
def DI(x_:Int)(r:Bool)(h:cmp_isNaN_int x_=some r):Sp Tryz.prog 163 [.im (nI x_)] (.im (nB r)):=by
 refine E4 [] λhk=>?_;unfold cmp_isNaN_int at h;cases h;exact⟨rfl,rfl⟩
def DW(x_ y_ r:Int)(h:cmp_Compare_int x_ y_=some r):Sp Tryz.prog 153 [.im (nI x_),.im (nI y_)] (.im (nI r)):=by
 refine E4 [] λhk=>?_;unfold cmp_Compare_int at h;obtain⟨a7,a4,h⟩:=A6 h;refine⟨_,DI x_ a7 a4,?_⟩;obtain⟨a8,a3,h⟩:=A6 h;refine⟨_,DI y_ a8 a3,?_⟩;refine I5 h (λb2 h=>?_) λb2 h=>?_;refine I5 h (λb3 h=>?_) λb3 h=>?_;cases h;exact⟨rfl,rfl⟩;cases h;exact⟨rfl,rfl⟩;refine I5 h (λb4 h=>?_) λb4 h=>?_;cases h;exact⟨rfl,rfl⟩;refine B9 h (λb5 h a2=>?_) λb5 h a2=>?_;cases h;exact⟨rfl,rfl⟩;refine B9 h (λb6 h a6=>?_) λb6 h a6=>?_;cases h;exact⟨rfl,rfl⟩;cases h;exact⟨rfl,rfl⟩
def zjb(s1_ s2_:A2)(r:Int)(h:fY s1_ s2_=some r):Sp Tryz.prog 154 [.im (nL cI s1_),.im (nL cI s2_)] (.im (nI r)):=by
 refine E4 [] λhk=>?_;have z1:lZ s1_:=B5 hk.1;have z2:lZ s2_:=B5 hk.2.1;unfold fY at h;refine A7 s1_.length C3 ?_;obtain⟨oc,h,a4⟩:=A6 h;refine S8 oc (Y:=Unit) (λ(_:Unit)=>mkSt [(0,C5 cI s1_),(1,C5 cI s2_)] [] []) (λ(_:Unit)=>lZ s1_/\lZ s2_/\True) (by rintro⟨⟩;exact((C9 0 rfl).and ((C9 1 rfl).and hT))) ?_ ?_;refine E2 h (λa2=>mkSt [(0,C5 cI s1_),(1,C5 cI s2_),(9,C5 cI s1_),(10,B6 (s1_.length:Int)),(11,B3 a2)] [] []) (λa2=>lZ s1_/\lZ s2_/\True) eZ (λa2=>((C9 0 rfl).and ((C9 1 rfl).and hT))) ?_;rintro k a2 o hp h a3;unfold fY.s2 at h;obtain⟨c0,c6,_⟩:=hp;refine B9 h (λb3 h a6=>?_) λb3 h a6=>?_;refine E3 h λb4 c9 h=>?_;refine A7 s2_.length C3<|B9 h (λb5 h a7=>?_) λb5 h a7=>?_;cases h;cases C4 a3;replace h:some _=some _:=a4;cases h;exact⟨rfl,rfl⟩;refine E3 h λb6 a9 h=>?_;obtain⟨b7,a5,h⟩:=A6 h;refine⟨_,DW b4 b6 b7 a5,?_⟩;refine B9 h (λb8 h a8=>?_) λb8 h a8=>?_;cases h;cases C4 a3;replace h:some _=some _:=a4;cases h;exact⟨rfl,rfl⟩;refine C6.mk (zzR_ (by omega)) ?_;cases h;exact D2 _ a3 eZ;cases h;cases C4 a3;exact J6.mk' _ rfl eZ;rintro⟨⟩ rfl hp;replace h:=L4 a4;obtain⟨c7,c8,_⟩:=hp;refine A7 s1_.length C3<|A7 s2_.length C3<|B9 h (λb9 h b2=>?_) λb9 h b2=>?_;cases h;exact⟨rfl,rfl⟩;cases h;exact⟨rfl,rfl⟩
def zsf(l_:List C7)(r:Bool)(h:iA l_=some r):Sp Tryz.prog 113 [.im (nL I6 l_)] (.im (nB r)):=by
 refine E4 [8000,2008000] λhk=>?_;have z1:lZ l_:=B5 hk.1;unfold iA at h;obtain⟨c6,d7,h⟩:=A6 h;refine⟨_,zn6 l_ c6 (d7),?_⟩;refine A3 ⟨rfl,trivial⟩ ?_;obtain⟨a7,d6,h⟩:=A6 h;refine⟨_,zlp c6 (λu0 u1=>iB u0 u1) 142 zn0 a7 (d6),?_⟩;obtain⟨oc,h,d2⟩:=A6 h;refine R6 oc (mkSt [] [] []) hT ?_ ?_;refine E2 h (λa6=>mkSt [(0,.osl 64 1),(3,B3 a6)] [(64,.row 70 2 (List.map I6 a7))] []) (λa6=>lZ a7/\True) (eA (J1 [64,5])) (λa6=>((Holds.kdl 64 rfl).and hT)) ?_;rintro k a6 o hp h a3;unfold iA.s2 at h;obtain⟨c7,_⟩:=hp;refine A3 rfl<|A7 a7.length C3<|B9 h (λb2 h a8=>?_) λb2 h a8=>?_;obtain⟨b3,h,d5⟩:=A6 h;refine F5 (mkSt [(0,.osl 64 1),(3,B3 a6),(38,I9 b3)] [(64,.row 70 2 (List.map I6 a7))] []) ((Holds.kdl 64 rfl).and hT) ?_ λhp=>?_;obtain⟨b4,a4,h⟩:=J7 h;refine A3 ⟨(by omega),rfl,D3 a4⟩<|A3 rfl<|⟨_,_,⟨rfl,D5 a4,rfl,rfl⟩,?_⟩;refine C6.mk (zzR_ (by omega)) ?_;obtain⟨b5,d0,a5,h⟩:=J5 h;refine A3 ⟨d0,rfl,D3 a5⟩<|A3 rfl<|⟨_,_,⟨rfl,D5 a5,rfl,rfl⟩,?_⟩;obtain⟨b6,d4,h⟩:=A6 h;refine⟨_,DT b4.In b5.In b6 d4,?_⟩;refine jI h (λa2 h=>?_) λa2 h=>?_
 iterate 2 (refine C1 (N8 a2) ?_)
 refine C6.mk (zzR_ (by omega))<|C1 (N8 a2) ?_;obtain⟨b7,d1,c9,h⟩:=J5 h;refine A3 ⟨d1,rfl,D3 c9⟩<|C1 (N8 a2)<|⟨_,⟨rfl,D5 c9,of_decide_eq_true rfl,rfl⟩,?_⟩
 iterate 3 (refine C1 (N8 a2) ?_)
 obtain⟨b8,a9,h⟩:=J7 h;refine A3 ⟨(by omega),rfl,D3 a9⟩<|C1 (N8 a2)<|⟨_,⟨rfl,D5 a9,of_decide_eq_true rfl,rfl⟩,?_⟩;refine C1 (N8 a2) ?_;obtain⟨b9,d3,h⟩:=A6 h;refine⟨_,DN b7 b8 b9 d3,?_⟩;refine C1 (N8 a2)<|E1 a2 ?_;cases h;exact C8 eZ
 iterate 10 (refine E1 (dS a2) ?_)
 refine C1 a2 ?_;cases h;exact C8 eZ;replace h:=d5;obtain⟨c8,_⟩:=hp;refine I5 h (λc0 h=>?_) λc0 h=>?_;cases h;cases C4 a3;replace h:some _=some _:=d2;cases h;exact⟨rfl,rfl⟩;refine C6.mk (zzR_ (by omega)) ?_;cases h;exact D2 _ a3 eZ;cases h;cases C4 a3;exact J6.mk' _ rfl eZ;rintro⟨⟩ rfl hp;replace h:=L4 d2;cases h;exact⟨rfl,rfl⟩
def zoa(o_:Int)(r:Bool)(h:qS o_=some r):Sp Tryz.prog 139 [.im (nI o_)] (.im (nB r)):=by
 refine E4 [] λhk=>?_;unfold qS at h;refine P6 h (λa2=>mkSt [(2,I9 a2)] [] []) (λ_=>hT) λa2 h hp=>?_;cases h;exact⟨rfl,rfl⟩
def zp3(t_:C7)(inputs_ r:Int)(h:qN t_ inputs_=some r):Sp Tryz.prog 111 [.im (.agg (I6 t_)),.im (nI inputs_)] (.im (nI r)):=by
 refine E4 [700002] λhk=>?_;have z1:lZ t_.In:=B5 (D4 hk.1 0 rfl);have z2:lZ t_.O:=B5 (D4 hk.1 1 rfl);unfold qN at h;obtain⟨a7,a4,h⟩:=A6 h;refine⟨_,CF t_.In inputs_ a7 a4,?_⟩;refine B9 h (λa8 h a2=>?_) λa8 h a2=>?_;cases h;exact⟨rfl,rfl⟩;refine A7 t_.O.length C3<|A7 t_.In.length C3<|B9 h (λb2 h a6=>?_) λb2 h a6=>?_;cases h;exact⟨rfl,rfl⟩;obtain⟨b3,a3,h⟩:=A6 h;refine⟨_,zhi t_.O (λu0=>qS u0) 139 (λu0 r h=>(zoa u0 r h)) b3 a3,?_⟩;refine I5 h (λb4 h=>?_) λb4 h=>?_;cases h;exact⟨rfl,rfl⟩;cases h;exact⟨rfl,rfl⟩
def sp_cmp_Or_int(vals_:A2)(r:Int)(h:eU vals_=some r):Sp Tryz.prog 152 [.im (nL cI vals_)] (.im (nI r)):=by
 refine E4 [] λhk=>?_;have z1:lZ vals_:=B5 hk.1;unfold eU at h;refine A7 vals_.length C3 ?_;obtain⟨oc,h,a4⟩:=A6 h;refine R6 oc (mkSt [(3,B6 0)] [] []) hT ?_ ?_;refine E2 h (λa2=>mkSt [(3,B6 0),(6,C5 cI vals_),(7,B6 (vals_.length:Int)),(8,B3 a2)] [] []) (λa2=>lZ vals_/\True) eZ (λa2=>((C9 6 rfl).and hT)) ?_;rintro k a2 o hp h a3;unfold eU.s2 at h;obtain⟨b3,_⟩:=hp;refine B9 h (λa8 h a6=>?_) λa8 h a6=>?_;refine E3 h λb4 a5 h=>?_;refine B9 h (λb2 h a7=>?_) λb2 h a7=>?_;cases h;cases C4 a3;replace h:some _=some _:=a4;cases h;exact⟨rfl,rfl⟩;refine C6.mk (zzR_ (by omega)) ?_;cases h;exact D2 _ a3 eZ;cases h;cases C4 a3;exact J6.mk' _ rfl eZ;rintro⟨⟩ rfl hp;replace h:=L4 a4;cases h;exact⟨rfl,rfl⟩
def DC(a_ b_:A2)(r:Int)(h:iW a_ b_=some r):Sp Tryz.prog 130 [.im (nL cI a_),.im (nL cI b_)] (.im (nI r)):=by
 refine E4 [] λhk=>?_;have z1:lZ a_:=B5 hk.1;have z2:lZ b_:=B5 hk.2.1;unfold iW at h;refine A7 a_.length C3<|A7 b_.length C3 ?_;obtain⟨a2,a5,h⟩:=A6 h;refine⟨_,DW (a_.length:Int) (b_.length:Int) a2 a5,?_⟩;obtain⟨a6,a4,h⟩:=A6 h;refine⟨_,zjb a_ b_ a6 a4,?_⟩;obtain⟨a7,a3,h⟩:=A6 h;refine⟨_,(sp_cmp_Or_int [a2,a6] a7 a3),?_⟩;cases h;exact⟨rfl,rfl⟩
def zrf(a_ b_:C7)(r:Int)(h:tN a_ b_=some r):Sp Tryz.prog 112 [.im (.agg (I6 a_)),.im (.agg (I6 b_))] (.im (nI r)):=by
 refine E4 [700002,700003] λhk=>?_;have z1:lZ a_.In:=B5 (D4 hk.1 0 rfl);have z2:lZ a_.O:=B5 (D4 hk.1 1 rfl);have z3:lZ b_.In:=B5 (D4 hk.2.1 0 rfl);have z4:lZ b_.O:=B5 (D4 hk.2.1 1 rfl);unfold tN at h;obtain⟨a2,a3,h⟩:=A6 h;refine⟨_,DC a_.In b_.In a2 a3,?_⟩;cases h;exact⟨rfl,rfl⟩
def zot(u_ p1_:C7)(r:Bool)(h:qT u_ p1_=some r):Sp Tryz.prog 115 [.im (.agg (I6 u_)),.im (.ref (I6 p1_))] (.im (nB r)):=by
 refine E4 [700002] λhk=>?_;have z1:lZ u_.In:=B5 (D4 hk.1 0 rfl);have z2:lZ u_.O:=B5 (D4 hk.1 1 rfl);have z3:lZ p1_.In:=B5 (Ok.ref_at hk.2.1 0 rfl);have z4:lZ p1_.O:=B5 (Ok.ref_at hk.2.1 1 rfl);unfold qT at h;obtain⟨a2,a3,h⟩:=A6 h;refine⟨_,DT u_.In p1_.In a2 a3,?_⟩;cases h;exact⟨rfl,rfl⟩
def zow(u_ p1_:C7)(r:Bool)(h:qU u_ p1_=some r):Sp Tryz.prog 117 [.im (.agg (I6 u_)),.im (.ref (I6 p1_))] (.im (nB r)):=by
 refine E4 [700002] λhk=>?_;have z1:lZ u_.In:=B5 (D4 hk.1 0 rfl);have z2:lZ u_.O:=B5 (D4 hk.1 1 rfl);have z3:lZ p1_.In:=B5 (Ok.ref_at hk.2.1 0 rfl);have z4:lZ p1_.O:=B5 (Ok.ref_at hk.2.1 1 rfl);unfold qU at h;obtain⟨a2,a3,h⟩:=A6 h;refine⟨_,DN p1_ u_ a2 a3,?_⟩;cases h;exact⟨rfl,rfl⟩
def zfe(s_:List C7)(f_:C7->Option Bool)(f1_:FuncId)(k1_0:IV)(hk1_0:nz k1_0=k1_0)(hf1:∀x0 r,f_ x0=some r->Sp Tryz.prog f1_ [.im (.agg (I6 x0)),.im k1_0] (.im (nB r)))(r:Int)(h:fZ s_ f_=some r):Sp Tryz.prog 144 [.im (nL I6 s_),.im (.fn f1_ [k1_0])] (.im (nI r)):=by
 refine E4 [] λhk=>?_;have z1:lZ s_:=B5 hk.1;unfold fZ at h;refine A7 s_.length C3 ?_;obtain⟨oc,h,a4⟩:=A6 h;refine R6 oc (mkSt [] [] []) hT ?_ ?_;refine E2 h (λa2=>mkSt [(0,C5 I6 s_),(1,.im (.fn f1_ [k1_0])),(7,B6 (s_.length:Int)),(8,B3 a2)] [] []) (λa2=>lZ s_/\True) eZ (λa2=>((C9 0 rfl).and hT)) ?_;rintro k a2 o hp h a3;unfold fZ.s2 at h;obtain⟨b4,_⟩:=hp;refine B9 h (λa7 h a6=>?_) λa7 h a6=>?_;refine E3 h λa8 a9 h=>?_;obtain⟨b2,a5,h⟩:=A6 h;refine⟨_,Sp.args (hf1 a8 b2 a5) (by rw[hk1_0];try rfl),?_⟩;refine I5 h (λb3 h=>?_) λb3 h=>?_;cases h;cases C4 a3;replace h:some _=some _:=a4;cases h;exact⟨rfl,rfl⟩;refine C6.mk (zzR_ (by omega)) ?_;cases h;exact D2 _ a3 eZ;cases h;cases C4 a3;exact J6.mk' _ rfl eZ;rintro⟨⟩ rfl hp;replace h:=L4 a4;cases h;exact⟨rfl,rfl⟩
def EC(s_:List C7)(f_:C7->Option Bool)(f1_:FuncId)(k1_0:IV)(hk1_0:nz k1_0=k1_0)(hf1:∀x0 r,f_ x0=some r->Sp Tryz.prog f1_ [.im (.agg (I6 x0)),.im k1_0] (.im (nB r)))(r:Bool)(h:oB s_ f_=some r):Sp Tryz.prog 114 [.im (nL I6 s_),.im (.fn f1_ [k1_0])] (.im (nB r)):=by
 refine E4 [] λhk=>?_;have z1:lZ s_:=B5 hk.1;unfold oB at h;obtain⟨a2,a3,h⟩:=A6 h;refine⟨_,zfe s_ f_ f1_ k1_0 hk1_0 hf1 a2 a3,?_⟩;cases h;exact⟨rfl,rfl⟩
def zrc(o_:G7)(r:Int)(h:bN o_=some r):Sp Tryz.prog 83 [.im (.agg (P1 o_))] (.im (nI r)):=by
 refine E4 [700001,800008] λhk=>?_;have z1:lZ o_.T:=B5 (D4 hk.1 1 rfl);unfold bN at h;refine P6 h (λe2=>mkSt [(1,C0 (P1 o_)),(17,I9 e2)] [] []) (λ_=>hT) λe2 h hp=>?_;refine I5 h (λe3 h=>?_) λe3 h=>?_;cases h;exact⟨rfl,rfl⟩;refine A7 o_.T.length C3<|B9 h (λe4 h b9=>?_) λe4 h b9=>?_;cases h;exact⟨rfl,rfl⟩;refine A7 o_.T.length C3 ?_;obtain⟨oc,h,a5⟩:=A6 h;refine R6 oc (mkSt [(1,C0 (P1 o_))] [] []) hT ?_ ?_;refine E2 h (λa8=>mkSt [(1,C0 (P1 o_)),(23,C5 I6 o_.T),(24,B6 (o_.T.length:Int)),(25,B3 a8)] [] []) (λa8=>lZ o_.T/\True) eZ (λa8=>((C9 23 rfl).and hT)) ?_;rintro k a8 o hp h a3;unfold bN.s2 at h;obtain⟨e5,_⟩:=hp;refine B9 h (λc0 h b3=>?_) λc0 h b3=>?_;refine E3 h λb2 g1 h=>?_;refine A3 rfl<|A3 rfl<|A3 rfl ?_;obtain⟨c6,f7,h⟩:=A6 h;refine⟨_,CF b2.In o_.I c6 f7,?_⟩;refine B9 h (λc7 h b4=>?_) λc7 h b4=>?_;cases h;cases C4 a3;replace h:some _=some _:=a5;cases h;exact⟨rfl,rfl⟩;refine A3 rfl<|A3 rfl<|A7 b2.In.length C3<|B9 h (λc8 h b5=>?_) λc8 h b5=>?_;cases h;cases C4 a3;replace h:some _=some _:=a5;cases h;exact⟨rfl,rfl⟩;refine A3 rfl ?_;obtain⟨c9,f5,h⟩:=A6 h;refine⟨_,zp3 b2 o_.I c9 f5,?_⟩;refine B9 h (λd0 h b6=>?_) λd0 h b6=>?_;cases h;cases C4 a3;replace h:some _=some _:=a5;cases h;exact⟨rfl,rfl⟩;obtain⟨d1,h,f8⟩:=A6 h;refine F5 (mkSt [(1,C0 (P1 o_)),(23,C5 I6 o_.T),(24,B6 (o_.T.length:Int)),(25,B3 a8),(61,I9 d1)] [] []) ((C9 23 rfl).and hT) ?_ λhp=>?_;refine T8 h (λa2 h b7=>?_) λa2 h b7=>?_
 iterate 3 (refine C1 (G0 a2) ?_)
 refine C6.mk (zzR_ (by omega))<|C1 (G0 a2)<|L8 h λd2 f9 g2 h=>?_
 iterate 2 (refine C1 (G0 a2) ?_)
 refine A3 rfl<|C1 (G0 a2) ?_;obtain⟨d3,f6,h⟩:=A6 h;refine⟨_,zrf d2 b2 d3 f6,?_⟩;refine C1 (G0 a2)<|C1 a2 ?_;cases h;exact C8 eZ
 iterate 8 (refine E1 (O9 a2) ?_)
 refine E1 a2 ?_;cases h;exact C8 eZ;replace h:=f8;obtain⟨e6,_⟩:=hp;refine I5 h (λd4 h=>?_) λd4 h=>?_;cases h;cases C4 a3;replace h:some _=some _:=a5;cases h;exact⟨rfl,rfl⟩;refine C6.mk (zzR_ (by omega)) ?_;cases h;exact D2 _ a3 eZ;cases h;cases C4 a3;exact J6.mk' _ rfl eZ;rintro⟨⟩ rfl hp;replace h:=L4 a5;obtain⟨d5,f3,h⟩:=A6 h;refine⟨_,zsf o_.T d5 f3,?_⟩;refine I5 h (λd6 h=>?_) λd6 h=>?_;cases h;exact⟨rfl,rfl⟩;refine A7 o_.T.length C3 ?_;obtain⟨oc,h,a9⟩:=A6 h;refine R6 oc (mkSt [] [] []) hT ?_ ?_;refine E2 h (λa6=>mkSt [(1,C0 (P1 o_)),(67,C5 I6 o_.T),(68,B6 (o_.T.length:Int)),(69,B3 a6)] [] []) (λa6=>lZ o_.T/\True) eZ (λa6=>((C9 67 rfl).and hT)) ?_;rintro k a6 o hp h a4;unfold bN.s4 at h;obtain⟨e7,_⟩:=hp;refine B9 h (λd7 h b8=>?_) λd7 h b8=>?_;refine E3 h λa7 g3 h=>?_;refine A3 rfl<|C6.mk (zzR_ (by omega)) ?_;obtain⟨e8,h⟩:=D1 h;refine A3 (show(0:Int)<=((a6:Int)+1)/\((a6:Int)+1)<=(↑(List.length (List.map I6 o_.T)):Int)/\(↑(List.length (List.map I6 o_.T)):Int)<=(↑(List.length (List.map I6 o_.T)):Int)/\(∀e∈List.map I6 o_.T,List.length e=2) from⟨by omega,by first|omega|(simp only[B7];omega),by first|omega|(simp only[B7];omega),J8 λ_=>rfl⟩) ?_
 refine A7 (List.map I6 (List.drop (a6+1) o_.T)) drop_map<|A3 ⟨rfl,trivial⟩ ?_;obtain⟨d8,e9,h⟩:=A6 h;refine⟨_,EC (List.drop (a6+1) o_.T) (λu0=>qT u0 a7) 115 (.ref (I6 a7)) rfl (λu0 r h=>(zot u0 a7 r h)) d8 e9,?_⟩;refine I5 h (λd9 h=>?_) λd9 h=>?_;cases h;cases C4 a4;replace h:some _=some _:=a9;cases h;exact⟨rfl,rfl⟩;obtain⟨e0,f4,h⟩:=A6 h;refine⟨_,EC (List.drop (a6+1) o_.T) (λu0=>qU u0 a7) 117 (.ref (I6 a7)) rfl (λu0 r h=>(zow u0 a7 r h)) e0 f4,?_⟩;refine I5 h (λe1 h=>?_) λe1 h=>?_;cases h;cases C4 a4;replace h:some _=some _:=a9;cases h;exact⟨rfl,rfl⟩;refine C6.mk (zzR_ (by omega)) ?_;cases h;exact D2 _ a4 eZ;cases h;cases C4 a4;exact J6.mk' _ rfl eZ;rintro⟨⟩ rfl hp;replace h:=L4 a9;cases h;exact⟨rfl,rfl⟩
def lK(inputs_:Int)(r:A2)(h:Z7 inputs_=some r):Sp Tryz.prog 84 [.im (nI inputs_)] (.row 3 1 (List.map cI r)):=by
 refine E4 [] λhk=>?_;unfold Z7 at h;obtain⟨a8,h⟩:=D1 h;refine A3 a8<|A7 (List.map cI (List.replicate (Int.toNat inputs_) (0:Int))) (Z6 (c:=cI) (z:=0) (n:=(Int.toNat inputs_)) rfl rfl) ?_;refine A3 rfl<|A7 (List.length (List.replicate (Int.toNat inputs_) (0:Int))) C3 ?_;obtain⟨b2,h,a5⟩:=A6 h;refine F5 (mkSt [(3,.osl 64 1)] [(64,.row 3 1 (List.map cI b2))] []) ((Holds.kdl 64 rfl).and hT) ?_ λhp=>?_;refine E2 h (λ(a2,a6)=>mkSt [(3,.osl 64 1),(8,B6 (↑(List.length (List.replicate (Int.toNat inputs_) (0:Int))):Int)),(9,B3 a6)] [(64,.row 3 1 (List.map cI a2))] []) (λ(a2,a6)=>lZ a2/\True) (eA (J1 [64,6])) (λ⟨a2,a6⟩=>((Holds.kdl 64 rfl).and hT)) ?_;rintro k ⟨a2,a6⟩ o hp h a3;change Z7.s2 inputs_ a2 a6=_ at h;unfold Z7.s2 at h;obtain⟨a9,_⟩:=hp;refine B9 h (λb3 h a7=>?_) λb3 h a7=>?_;obtain⟨b5,a4,h⟩:=J7 h;refine A3 ⟨(by omega),rfl,D3 a4⟩<|A3 ⟨rfl,trivial⟩<|⟨_,D5 a4,?_⟩;refine A7 (List.map cI (List.set a2 a6 (-1:Int))) (P7 rfl) ?_;obtain⟨b4,h⟩:=D1 h;refine C6.mk b4 ?_;cases h;exact D2 _ a3 eZ;cases h;cases C4 a3;exact C8 eZ;replace h:=a5;obtain⟨b6,_⟩:=hp;cases h;exact A3 ⟨rfl,trivial⟩ ⟨rfl,rfl⟩
def EB(p_:A9)(r:A9×A2)(h:M0 p_=some r):Sp Tryz.prog 85 [.im (.agg (G9 p_))] (.tup [.agg (G9 r.1),nL cI r.2]):=by
 refine E4 [26,700001] λhk=>?_;have z1:lZ p_.N:=B5 (D4 hk.1 2 rfl);have z2:lZ p_.O:=B5 (D4 hk.1 3 rfl);unfold M0 at h;refine A7 p_.N.length C3 ?_;obtain⟨g3,n5,h⟩:=A6 h;refine⟨_,lK (p_.N.length:Int) g3 n5,?_⟩;obtain⟨k7,m8,m5,h⟩:=J5 h;refine A3 ⟨m8,rfl,D3 m5⟩<|A3 ⟨rfl,trivial⟩<|⟨_,D5 m5,?_⟩;refine A7 (List.map cI (List.set g3 p_.S.toNat 0)) (P7 rfl) ?_;obtain⟨⟨b2,a8⟩,h,n3⟩:=A6 h;refine F5 (mkSt [(1,C0 (G9 p_)),(2,.own 127 1 0),(4,.osl 128 1),(5,.osl 129 1)] [(127,.box 24 4),(128,.row 3 1 (List.map cI b2)),(129,.row 3 1 (List.map cI a8))] [(127,0,.im (nI 0)),(127,1,.im (nI 0)),(127,2,.im (.val (.slice none 0 0))),(127,3,.im (.val (.slice none 0 0)))]) ((Holds.kdl 128 rfl).and ((Holds.kdl 129 rfl).and hT)) ?_ λhp=>?_;refine E2 h (λ(d0,c7,b7)=>mkSt [(1,C0 (G9 p_)),(2,.own 127 1 0),(4,.osl 128 1),(5,.osl 129 1),(6,B3 b7)] [(127,.box 24 4),(128,.row 3 1 (List.map cI d0)),(129,.row 3 1 (List.map cI c7))] [(127,0,.im (nI 0)),(127,1,.im (nI 0)),(127,2,.im (.val (.slice none 0 0))),(127,3,.im (.val (.slice none 0 0)))]) (λ(d0,c7,b7)=>lZ d0/\lZ c7/\True) (eA (J1 [127,2,128,19,129,26])) (λ⟨d0,c7,b7⟩=>((Holds.kdl 128 rfl).and ((Holds.kdl 129 rfl).and hT))) ?_;rintro k ⟨d0,c7,b7⟩ o hp h l6;change M0.s20 p_ d0 c7 b7=_ at h;unfold M0.s20 at h;obtain⟨j1,j2,_⟩:=hp;refine A3 rfl<|A7 c7.length C3<|B9 h (λf7 h d9=>?_) λf7 h d9=>?_;obtain⟨j3,l4,h⟩:=J7 h;refine A3 ⟨(by omega),rfl,D3 l4⟩<|⟨_,_,⟨rfl,D5 l4,rfl,rfl⟩,?_⟩;refine L8 h λc8 n9 o5 h=>?_;refine A7 c8.length C3 ?_;obtain⟨⟨e0,e1⟩,h,m6⟩:=A6 h;refine F5 (mkSt [(1,C0 (G9 p_)),(2,.own 127 1 0),(4,.osl 128 1),(5,.osl 129 1),(6,B3 b7)] [(127,.box 24 4),(128,.row 3 1 (List.map cI e0)),(129,.row 3 1 (List.map cI e1))] [(127,0,.im (nI 0)),(127,1,.im (nI 0)),(127,2,.im (.val (.slice none 0 0))),(127,3,.im (.val (.slice none 0 0)))]) ((Holds.kdl 128 rfl).and ((Holds.kdl 129 rfl).and hT)) ?_ λhp=>?_;refine E2 h (λ(b8,b3,d1)=>mkSt [(1,C0 (G9 p_)),(2,.own 127 1 0),(4,.osl 128 1),(5,.osl 129 1),(6,B3 b7),(40,C5 cI c8),(41,B6 (c8.length:Int)),(42,B3 d1)] [(127,.box 24 4),(128,.row 3 1 (List.map cI b8)),(129,.row 3 1 (List.map cI b3))] [(127,0,.im (nI 0)),(127,1,.im (nI 0)),(127,2,.im (.val (.slice none 0 0))),(127,3,.im (.val (.slice none 0 0)))]) (λ(b8,b3,d1)=>lZ c8/\lZ b8/\lZ b3/\True) eZ (λ⟨b8,b3,d1⟩=>((C9 40 rfl).and ((Holds.kdl 128 rfl).and ((Holds.kdl 129 rfl).and hT)))) ?_;rintro k ⟨b8,b3,d1⟩ o hp h a4;change M0.s18 c8 b8 b3 d1=_ at h;unfold M0.s18 at h;obtain⟨j4,j5,j6,_⟩:=hp;refine B9 h (λf8 h e2=>?_) λf8 h e2=>?_;refine E3 h λd2 o4 h=>?_;obtain⟨f9,h,m7⟩:=A6 h;refine F5 (mkSt [(1,C0 (G9 p_)),(2,.own 127 1 0),(4,.osl 128 1),(5,.osl 129 1),(6,B3 b7),(8,B6 d2),(40,C5 cI c8),(41,B6 (c8.length:Int)),(42,B3 d1),(54,I9 f9)] [(127,.box 24 4),(128,.row 3 1 (List.map cI b8)),(129,.row 3 1 (List.map cI b3))] [(127,0,.im (nI 0)),(127,1,.im (nI 0)),(127,2,.im (.val (.slice none 0 0))),(127,3,.im (.val (.slice none 0 0)))]) ((C9 40 rfl).and ((Holds.kdl 128 rfl).and ((Holds.kdl 129 rfl).and hT))) ?_ λhp=>?_;refine T8 h (λc9 h e3=>?_) λc9 h e3=>?_
 iterate 2 (refine C1 (G0 c9) ?_)
 obtain⟨j7,m3,l5,h⟩:=J5 h;refine A3 ⟨m3,rfl,D3 l5⟩<|C1 (G0 c9)<|⟨_,_,⟨rfl,D5 l5,rfl,rfl⟩,?_⟩;refine C1 (G0 c9)<|C1 c9 ?_;cases h;exact C8 eZ
 iterate 4 (refine E1 (O9 c9) ?_)
 refine E1 c9 ?_;cases h;exact C8 eZ;replace h:=m7;obtain⟨j8,j9,k0,_⟩:=hp;refine I5 h (λg1 h=>?_) λg1 h=>?_;refine A3 rfl<|A7 b3.length C3 ?_;obtain⟨k1,m4,l3,h⟩:=J5 h;refine A3 ⟨m4,rfl,D3 l3⟩<|A3 ⟨rfl,trivial⟩<|⟨_,D5 l3,?_⟩;refine A7 (List.map cI (List.set b8 d2.toNat (b3.length:Int))) (P7 rfl) ?_;obtain⟨g2,h⟩:=D1 h;refine A3 ⟨rfl,J8 (l:=[d2]) (c:=cI) λ_=>rfl,show B4 _ 8 by simpa only[B7,G8,K3,E8]using g2⟩ ?_;refine A7 (List.map cI (b3++[d2])) (J9 (l:=b3) (m:=[d2]) (c:=cI))<|C6.mk (zzR_ (by omega)) ?_;cases h;exact D2 _ a4 eZ;refine C6.mk (zzR_ (by omega)) ?_;cases h;exact D2 _ a4 eZ;cases h;cases C4 a4;exact C8 eZ;replace h:M0.k19 b7 e0 e1=some _:=m6;unfold M0.k19 at h;obtain⟨k2,k4,_⟩:=hp;refine C6.mk (zzR_ (by omega)) ?_;cases h;exact D2 _ l6 eZ;cases h;cases C4 l6;exact C8 eZ;replace h:M0.k42 p_ b2 a8=some _:=n3;unfold M0.k42 at h;obtain⟨k5,k6,_⟩:=hp;refine A3 rfl<|A3 rfl<|A7 a8.length C3 ?_;obtain⟨⟨d3,d4⟩,h,m9⟩:=A6 h;refine F5 (mkSt [(2,.own 127 1 0),(4,.osl 128 1),(9,.own 129 1 0)] [(127,.box 24 4),(128,.row 3 1 (List.map cI b2)),(129,.box 24 4),(130,.row 60 1 (List.map (cL cI) d3)),(131,.row 60 1 (List.map (cL cI) d4))] [(127,0,.im (nI 0)),(127,1,.im (nI 0)),(127,2,.im (.val (.slice none 0 0))),(127,3,.im (.val (.slice none 0 0))),(129,0,.im (nI p_.I)),(129,1,.im (nI 0)),(129,2,.osl 130 1),(129,3,.osl 131 1)]) ((Holds.kdl 128 rfl).and ((Holds.kdl 130 rfl).and ((Holds.kdl 131 rfl).and hT))) ?_ λhp=>?_;refine E2 h (λ(a2,a6,a7)=>mkSt [(1,C0 (G9 p_)),(2,.own 127 1 0),(4,.osl 128 1),(9,.own 129 1 0),(68,.osl 132 1),(69,B6 (a8.length:Int)),(70,B3 a7)] [(127,.box 24 4),(128,.row 3 1 (List.map cI b2)),(129,.box 24 4),(130,.row 60 1 (List.map (cL cI) a2)),(131,.row 60 1 (List.map (cL cI) a6)),(132,.row 3 1 (List.map cI a8))] [(127,0,.im (nI 0)),(127,1,.im (nI 0)),(127,2,.im (.val (.slice none 0 0))),(127,3,.im (.val (.slice none 0 0))),(129,0,.im (nI p_.I)),(129,1,.im (nI 0)),(129,2,.osl 130 1),(129,3,.osl 131 1)]) (λ(a2,a6,a7)=>lZ b2/\lZ a2/\lZ a6/\lZ a8/\True) (eA [(127,some 127),(128,some 128),(129,some 9),(130,none),(131,none),(132,some 129)]) (λ⟨a2,a6,a7⟩=>((Holds.kdl 128 rfl).and ((Holds.kdl 130 rfl).and ((Holds.kdl 131 rfl).and ((Holds.kdl 132 rfl).and hT))))) ?_;rintro k ⟨a2,a6,a7⟩ o hp h a9;change M0.s40 p_ b2 a8 a2 a6 a7=_ at h;unfold M0.s40 at h;obtain⟨g4,g5,g6,g7,_⟩:=hp;refine B9 h (λe4 h d6=>?_) λe4 h d6=>?_;obtain⟨d5,a5,h⟩:=J7 h;refine A3 ⟨(by omega),rfl,D3 a5⟩<|⟨_,_,⟨rfl,D5 a5,rfl,rfl⟩,?_⟩;obtain⟨e5,l8,h⟩:=A6 h;refine⟨_,lK p_.I e5 l8,?_⟩;obtain⟨e6,m0,h⟩:=A6 h;refine⟨_,lK p_.I e6 m0,?_⟩;refine L8 h λb9 n7 o3 h=>?_;refine A7 b9.length C3 ?_;obtain⟨⟨c0,c6⟩,h,l9⟩:=A6 h;refine F5 (mkSt [(1,C0 (G9 p_)),(2,.own 127 1 0),(4,.osl 128 1),(9,.own 129 1 0),(12,.osl 132 1),(13,.osl 133 1),(68,.osl 134 1),(69,B6 (a8.length:Int)),(70,B3 a7)] [(127,.box 24 4),(128,.row 3 1 (List.map cI b2)),(129,.box 24 4),(130,.row 60 1 (List.map (cL cI) a2)),(131,.row 60 1 (List.map (cL cI) a6)),(132,.row 3 1 (List.map cI c0)),(133,.row 3 1 (List.map cI c6)),(134,.row 3 1 (List.map cI a8))] [(127,0,.im (nI 0)),(127,1,.im (nI 0)),(127,2,.im (.val (.slice none 0 0))),(127,3,.im (.val (.slice none 0 0))),(129,0,.im (nI p_.I)),(129,1,.im (nI 0)),(129,2,.osl 130 1),(129,3,.osl 131 1)]) ((Holds.kdl 128 rfl).and ((Holds.kdl 130 rfl).and ((Holds.kdl 131 rfl).and ((Holds.kdl 132 rfl).and ((Holds.kdl 133 rfl).and ((Holds.kdl 134 rfl).and hT)))))) ?_ λhp=>?_;refine E2 h (λ(b4,b5,b6)=>mkSt [(1,C0 (G9 p_)),(2,.own 127 1 0),(4,.osl 128 1),(9,.own 129 1 0),(11,B6 d5),(12,.osl 132 1),(13,.osl 133 1),(68,.osl 134 1),(69,B6 (a8.length:Int)),(70,B3 a7),(84,C5 cI b9),(85,B6 (b9.length:Int)),(86,B3 b6)] [(127,.box 24 4),(128,.row 3 1 (List.map cI b2)),(129,.box 24 4),(130,.row 60 1 (List.map (cL cI) a2)),(131,.row 60 1 (List.map (cL cI) a6)),(132,.row 3 1 (List.map cI b4)),(133,.row 3 1 (List.map cI b5)),(134,.row 3 1 (List.map cI a8))] [(127,0,.im (nI 0)),(127,1,.im (nI 0)),(127,2,.im (.val (.slice none 0 0))),(127,3,.im (.val (.slice none 0 0))),(129,0,.im (nI p_.I)),(129,1,.im (nI 0)),(129,2,.osl 130 1),(129,3,.osl 131 1)]) (λ(b4,b5,b6)=>lZ b9/\lZ b2/\lZ a2/\lZ a6/\lZ b4/\lZ b5/\lZ a8/\True) (eA (J1 [127,127,128,128,129,129,130,130,131,131,132,76,133,79,134,132])) (λ⟨b4,b5,b6⟩=>((C9 84 rfl).and ((Holds.kdl 128 rfl).and ((Holds.kdl 130 rfl).and ((Holds.kdl 131 rfl).and ((Holds.kdl 132 rfl).and ((Holds.kdl 133 rfl).and ((Holds.kdl 134 rfl).and hT)))))))) ?_;rintro k ⟨b4,b5,b6⟩ o hp h a3;change M0.s38 p_ b2 d5 b9 b4 b5 b6=_ at h;unfold M0.s38 at h;obtain⟨g8,g9,h0,h2,h3,h4,h5,_⟩:=hp;refine B9 h (λe7 h d7=>?_) λe7 h d7=>?_;refine E3 h λh6 o2 h=>?_;refine B9 h (λe8 h d8=>?_) λe8 h d8=>?_;obtain⟨e9,l7,l0,h⟩:=J5 h;refine A3 ⟨l7,rfl,D3 l0⟩<|⟨_,_,⟨rfl,D5 l0,rfl,rfl⟩,?_⟩;refine L8 h λh7 n4 n8 h=>?_;refine E3 h λf3 o1 h=>?_;obtain⟨h8,k8,h⟩:=J7 h;refine A3 ⟨(by omega),rfl,D3 k8⟩<|A3 ⟨rfl,trivial⟩<|⟨_,D5 k8,?_⟩;refine A7 (List.map cI (List.set b4 b6 e9)) (P7 rfl) ?_;obtain⟨h9,f6,h⟩:=J7 h;refine A3 ⟨(by omega),rfl,D3 f6⟩<|A3 ⟨rfl,trivial⟩<|⟨_,D5 f6,?_⟩;refine A7 (List.map cI (List.set b5 b6 f3)) (P7 rfl)<|C6.mk (zzR_ (by omega)) ?_;cases h;exact D2 _ a3 eZ;refine C6.mk (zzR_ (by omega)) ?_;cases h;exact D2 _ a3 eZ;cases h;cases C4 a3;exact C8 eZ;replace h:M0.k39 a2 a6 a7 c0 c6=some _:=l9;unfold M0.k39 at h;obtain⟨i0,i3,i4,i5,i6,i7,_⟩:=hp;refine A3 rfl<|A3 rfl<|A3 ⟨rfl,trivial⟩ ?_;obtain⟨f4,h⟩:=D1 h;refine A3 ⟨rfl,J8 (l:=[c0]) (c:=cL cI) λ_=>rfl,show B4 _ 24 by simpa only[B7,G8,K3,E8]using f4⟩ ?_;refine A7 (List.map (cL cI) (a2++[c0])) (J9 (l:=a2) (m:=[c0]) (c:=cL cI))<|A3 rfl<|A3 rfl<|A3 ⟨rfl,trivial⟩ ?_;obtain⟨f5,h⟩:=D1 h;refine A3 ⟨rfl,J8 (l:=[c6]) (c:=cL cI) λ_=>rfl,show B4 _ 24 by simpa only[B7,G8,K3,E8]using f5⟩ ?_;refine A7 (List.map (cL cI) (a6++[c6])) (J9 (l:=a6) (m:=[c6]) (c:=cL cI))<|A3 rfl<|A3 rfl<|A3 rfl<|A3 rfl<|C6.mk (zzR_ (by omega)) ?_;cases h;exact D2 _ a9 (eA (J1 [127,127,128,128,129,129,130,130,131,131,132,134]));cases h;cases C4 a9;exact C8 eZ;replace h:M0.k41 p_ b2 d3 d4=some _:=m9;unfold M0.k41 at h;obtain⟨i8,i9,j0,_⟩:=hp;refine A3 rfl<|A3 rfl ?_;cases h;refine A3 ⟨rfl,trivial⟩ ?_;exact A3 ⟨rfl,rfl,rfl,trivial⟩ ⟨rfl,rfl⟩
def sp_merge_Tree(o_:G7)(r:A9×Int)(h:P3 o_=some r):Sp Tryz.prog 45 [.im (.agg (P1 o_))] (.tup [.agg (G9 r.1),nI r.2]):=by
 refine E4 [700001,9000023,9000027,9000078,9000084] λhk=>?_;have z1:lZ o_.T:=B5 (D4 hk.1 1 rfl);unfold P3 at h;obtain⟨h7,k5,h⟩:=A6 h;refine⟨_,zrc o_ h7 k5,?_⟩;refine B9 h (λh8 h e4=>?_) λh8 h e4=>?_;refine A3 rfl ?_;cases h;refine A3 ⟨rfl,trivial⟩ ?_;exact⟨rfl,rfl⟩;obtain⟨e5,k2,h⟩:=A6 h;refine⟨_,lK o_.I e5 k2,?_⟩;refine A3 ⟨rfl,trivial⟩<|A7 (List.map (cL cI) [e5]) rfl ?_;obtain⟨e6,k4,h⟩:=A6 h;refine⟨_,lK o_.I e6 k4,?_⟩;refine A3 ⟨rfl,trivial⟩<|A7 (List.map (cL cI) [e6]) rfl<|A7 o_.T.length C3 ?_;obtain⟨oc,h,k0⟩:=A6 h;refine S8 oc (Y:=A4×A4) (λ(c6,c7)=>mkSt [(1,C0 (P1 o_)),(2,.own 105 1 0),(5,.osl 106 1),(6,.osl 107 1)] [(105,.box 24 4),(106,.grid 60 3 1 (List.map (cL cI) c6) none),(107,.grid 60 3 1 (List.map (cL cI) c7) none)] [(105,0,.im (nI 0)),(105,1,.im (nI 0)),(105,2,.im (.val (.slice none 0 0))),(105,3,.im (.val (.slice none 0 0)))]) (λ(c6,c7)=>lZ c6/\lZ c7/\True) (by rintro⟨c6,c7⟩;exact((Holds.kdg 106 rfl).and ((Holds.kdg 107 rfl).and hT))) ?_ ?_;refine E2 h (λ(b5,b6,a8)=>mkSt [(1,C0 (P1 o_)),(2,.own 105 1 0),(5,.osl 106 1),(6,.osl 107 1),(29,C5 I6 o_.T),(30,B6 (o_.T.length:Int)),(31,B3 a8)] [(105,.box 24 4),(106,.grid 60 3 1 (List.map (cL cI) b5) none),(107,.grid 60 3 1 (List.map (cL cI) b6) none)] [(105,0,.im (nI 0)),(105,1,.im (nI 0)),(105,2,.im (.val (.slice none 0 0))),(105,3,.im (.val (.slice none 0 0)))]) (λ(b5,b6,a8)=>lZ o_.T/\lZ b5/\lZ b6/\True) (eA (J1 [105,2,106,23,107,27])) (λ⟨b5,b6,a8⟩=>((C9 29 rfl).and ((Holds.kdg 106 rfl).and ((Holds.kdg 107 rfl).and hT)))) ?_;rintro k ⟨b5,b6,a8⟩ o hp h h9;change P3.s56 o_ b5 b6 a8=_ at h;unfold P3.s56 at h;obtain⟨e7,e8,e9,_⟩:=hp;refine B9 h (λd7 h d3=>?_) λd7 h d3=>?_;refine E3 h λa2 k7 h=>?_;refine A3 rfl<|A3 rfl<|A3 rfl<|A7 a2.In.length C3 ?_;obtain⟨oc,h,i3⟩:=A6 h;refine S8 oc (Y:=A4×A4) (λ(b7,b8)=>mkSt [(1,C0 (P1 o_)),(2,.own 105 1 0),(5,.osl 106 1),(6,.osl 107 1),(29,C5 I6 o_.T),(30,B6 (o_.T.length:Int)),(31,B3 a8)] [(105,.box 24 4),(106,.grid 60 3 1 (List.map (cL cI) b7) none),(107,.grid 60 3 1 (List.map (cL cI) b8) none)] [(105,0,.im (nI 0)),(105,1,.im (nI 0)),(105,2,.im (.val (.slice none 0 0))),(105,3,.im (.val (.slice none 0 0)))]) (λ(b7,b8)=>lZ o_.T/\lZ b7/\lZ b8/\True) (by rintro⟨b7,b8⟩;exact((C9 29 rfl).and ((Holds.kdg 106 rfl).and ((Holds.kdg 107 rfl).and hT)))) ?_ ?_;refine E2 h (λ(a6,b2,a7,b4)=>mkSt [(1,C0 (P1 o_)),(2,.own 105 1 0),(5,.osl 106 1),(6,.osl 107 1),(8,.own 108 1 0),(9,B6 a7),(29,C5 I6 o_.T),(30,B6 (o_.T.length:Int)),(31,B3 a8),(36,C5 cI a2.In),(37,B6 (a2.In.length:Int)),(38,B3 b4)] [(105,.box 24 4),(106,.grid 60 3 1 (List.map (cL cI) a6) none),(107,.grid 60 3 1 (List.map (cL cI) b2) none),(108,.box 70 2)] [(105,0,.im (nI 0)),(105,1,.im (nI 0)),(105,2,.im (.val (.slice none 0 0))),(105,3,.im (.val (.slice none 0 0))),(108,0,.im (nL cI a2.In)),(108,1,.im (nL cI a2.O))]) (λ(a6,b2,a7,b4)=>lZ o_.T/\lZ a2.In/\lZ a6/\lZ b2/\lZ a2.O/\True) (eA (J1 [105,105,106,106,107,107,108,8])) (λ⟨a6,b2,a7,b4⟩=>((C9 29 rfl).and ((C9 36 rfl).and ((Holds.kdg 106 rfl).and ((Holds.kdg 107 rfl).and ((Holds.cel 108 1 rfl (by decide) rfl).and hT)))))) ?_;rintro k ⟨a6,b2,a7,b4⟩ o hp h f6;change P3.s54 o_ a2 a6 b2 a7 b4=_ at h;unfold P3.s54 at h;obtain⟨f3,f4,f5,f7,f8,_⟩:=hp;refine B9 h (λd8 h d4=>?_) λd8 h d4=>?_;refine E3 h λb3 k8 h=>?_;obtain⟨oc,h,i5⟩:=A6 h;refine S8 oc (Y:=A4×A4) (λ(b9,c0)=>mkSt [(1,C0 (P1 o_)),(2,.own 105 1 0),(5,.osl 106 1),(6,.osl 107 1),(8,.own 108 1 0),(9,B6 a7),(11,B6 b3),(29,C5 I6 o_.T),(30,B6 (o_.T.length:Int)),(31,B3 a8),(36,C5 cI a2.In),(37,B6 (a2.In.length:Int)),(38,B3 b4)] [(105,.box 24 4),(106,.grid 60 3 1 (List.map (cL cI) b9) none),(107,.grid 60 3 1 (List.map (cL cI) c0) none),(108,.box 70 2)] [(105,0,.im (nI 0)),(105,1,.im (nI 0)),(105,2,.im (.val (.slice none 0 0))),(105,3,.im (.val (.slice none 0 0))),(108,0,.im (nL cI a2.In)),(108,1,.im (nL cI a2.O))]) (λ(b9,c0)=>lZ o_.T/\lZ a2.In/\lZ b9/\lZ c0/\lZ a2.O/\True) (by rintro⟨b9,c0⟩;exact((C9 29 rfl).and ((C9 36 rfl).and ((Holds.kdg 106 rfl).and ((Holds.kdg 107 rfl).and ((Holds.cel 108 1 rfl (by decide) rfl).and hT)))))) ?_ ?_;obtain⟨f9,j6,a4,h⟩:=J5 h;refine A3 ⟨j6,rfl,D3 a4⟩<|A3 ⟨rfl,D3 a4⟩ ?_;obtain⟨g1,i9,i4,h⟩:=J5 h;refine⟨_,⟨i9,rfl,D5 a4,D3 i4⟩,?_⟩;refine⟨_,_,_,⟨rfl,D5 a4,D5 i4,rfl⟩,?_⟩;refine B9 h (λd9 h d5=>?_) λd9 h d5=>?_;refine A3 rfl<|A7 a6.length C3<|B9 h (λe0 h d6=>?_) λe0 h d6=>?_;refine A3 rfl ?_;cases h;replace h:some _=some _:=i5;cases h;cases C4 f6;replace h:some _=some _:=i3;cases h;cases C4 h9;replace h:some _=some _:=k0;cases h;refine A3 ⟨rfl,trivial⟩ ?_;exact⟨rfl,rfl⟩;obtain⟨d0,j5,a5,h⟩:=J5 h;refine A3 ⟨j5,rfl,D3 a5⟩<|A3 ⟨rfl,D3 a5⟩ ?_;obtain⟨d1,j0,a9,h⟩:=J5 h;refine A3 ⟨j0,rfl,D3 a9⟩<|A3 ⟨rfl,D3 a9⟩<|A3 rfl<|A7 a6.length C3<|A3 rfl<|A3 rfl<|E3 h λd2 k6 h=>?_;obtain⟨g2,j1,i7,h⟩:=J5 h;refine⟨_,⟨j1,rfl,D5 a5,D3 i7⟩,?_⟩;refine⟨_,_,⟨rfl,D5 a5,D5 i7⟩,?_⟩;refine A7 (List.map (cL cI) (List.set a6 (Int.toNat a7) (List.set d0 (Int.toNat b3) (a6.length:Int)))) (iT rfl) ?_;obtain⟨g3,j2,i8,h⟩:=J5 h;refine⟨_,⟨j2,rfl,D5 a9,D3 i8⟩,?_⟩;refine⟨_,_,⟨rfl,D5 a9,D5 i8⟩,?_⟩;refine A7 (List.map (cL cI) (List.set b2 (Int.toNat a7) (List.set d1 (Int.toNat b3) d2))) (iT rfl) ?_;obtain⟨c8,j7,h⟩:=A6 h;refine⟨_,lK o_.I c8 j7,?_⟩;refine A3 ⟨rfl,trivial⟩<|A7 (List.map (cL cI) [c8]) rfl ?_;obtain⟨e1,h⟩:=D1 h;refine A3 ⟨rfl,rfl,trivial⟩<|A3 (show B4 _ 24 by have k1:=e1;simpa only[B7]using k1)<|A7 (List.map (cL cI) ((List.set a6 (Int.toNat a7) (List.set d0 (Int.toNat b3) (a6.length:Int)))++[c8])) (J9 (l:=(List.set a6 (Int.toNat a7) (List.set d0 (Int.toNat b3) (a6.length:Int)))) (m:=[c8]) (c:=cL cI)) ?_;obtain⟨c9,j9,h⟩:=A6 h;refine⟨_,lK o_.I c9 j9,?_⟩;refine A3 ⟨rfl,trivial⟩<|A7 (List.map (cL cI) [c9]) rfl ?_;obtain⟨e2,h⟩:=D1 h;refine A3 ⟨rfl,rfl,trivial⟩<|A3 (show B4 _ 24 by have k1:=e2;simpa only[B7]using k1)<|A7 (List.map (cL cI) ((List.set b2 (Int.toNat a7) (List.set d1 (Int.toNat b3) d2))++[c9])) (J9 (l:=(List.set b2 (Int.toNat a7) (List.set d1 (Int.toNat b3) d2))) (m:=[c9]) (c:=cL cI)) ?_;cases h;exact J6.mk' _ rfl (eA (J1 [105,105,106,79,107,85,108,108]));cases h;exact J6.mk' _ rfl eZ;rintro⟨b9,c0⟩ rfl hp;have i0:=L4 i5;replace h:P3.k53 a7 b4 b3 b9 c0=some _:=i0;clear i0;unfold P3.k53 at h;obtain⟨g4,g5,g6,g7,g8,_⟩:=hp;obtain⟨g9,j4,a3,h⟩:=J5 h;refine A3 ⟨j4,rfl,D3 a3⟩<|A3 ⟨rfl,D3 a3⟩ ?_;obtain⟨h0,j3,i6,h⟩:=J5 h;refine⟨_,⟨j3,rfl,D5 a3,D3 i6⟩,?_⟩;refine⟨_,_,_,⟨rfl,D5 a3,D5 i6,rfl⟩,?_⟩;refine C6.mk (zzR_ (by omega)) ?_;cases h;exact D2 _ f6 eZ;cases h;cases C4 f6;exact J6.mk' _ rfl eZ;rintro⟨b7,b8⟩ rfl hp;have i0:=L4 i3;replace h:P3.k55 a8 b7 b8=some _:=i0;clear i0;unfold P3.k55 at h;obtain⟨h2,h3,h4,_⟩:=hp;refine C6.mk (zzR_ (by omega)) ?_;cases h;exact D2 _ h9 eZ;cases h;cases C4 h9;exact J6.mk' _ rfl eZ;rintro⟨c6,c7⟩ rfl hp;have i0:=L4 k0;replace h:P3.k57 o_ c6 c7=some _:=i0;clear i0;unfold P3.k57 at h;obtain⟨h5,h6,_⟩:=hp;refine A3 ⟨rfl,rfl,trivial⟩ ?_;obtain⟨e3,j8,h⟩:=A6 h;refine⟨_,EB (⟨o_.I,0,c6,c7⟩:A9) e3 j8,?_⟩;refine A3 rfl<|A3 rfl<|A3 rfl ?_;cases h;refine A3 ⟨rfl,trivial⟩ ?_;exact⟨rfl,rfl⟩
def qX(b_:bP)(x_:Int)(r:Int×(List (Int×Int)))(h:OkA (.lent (.map (mapV wI wI b_.up)))->Ok (nI x_)->dF b_ x_=some r):SpX Tryz.prog 106 (.lent .dead::.box 0 [.im .any]::[.lent (.map (mapV wI wI b_.up)),.im (nI x_)]) (.mk false [.im (nI r.1)] [.lent (.map (mapV wI wI r.2))]):=by
 refine sp_ofA rfl [] 0 [.im .any] 1 rfl rfl rfl rfl (nD rfl) (nD rfl) rfl λhk=>?_;replace h:=h hk.1 hk.2.1;unfold dF at h;refine E2 h (λa2=>mkSt [(0,.agg [.osl 0 0]),(1,B6 a2),(2,.own 65 1 0)] [(0,.map (mapV wI wI b_.up)),(65,.box 146 1)] [(65,0,.osl 0 0)]) (λa2=>True) (eA (J1 [0,0,65,2])) (λ_=>hT) ?_;rintro k a2 o hp h a3;unfold dF.s1 at h;refine A3 rfl<|A3 rfl<|A3 rfl<|⟨_,find_int _ wI _,?_⟩;refine A7 (wI ((mget a2 b_.up).getD 0)) (getD_map rfl _)<|A7 (mget a2 b_.up).isSome (zW _)<|I5 h (λa6 h=>?_) λa6 h=>?_;cases h;cases C4 a3;exact A3 ⟨rfl,trivial⟩ ⟨rfl,rfl⟩;cases h;exact D2 _ a3 eZ
def zkc(b_:bP)(x_ y_:Int)(r:List (Int×Int))(h:OkA (.lent (.map (mapV wI wI b_.up)))->Ok (nI x_)->Ok (nI y_)->qZ b_ x_ y_=some r):SpX Tryz.prog 107 (.lent .dead::.box 0 [.im .any]::[.lent (.map (mapV wI wI b_.up)),.im (nI x_),.im (nI y_)]) (.mk true [] [.lent (.map (mapV wI wI r))]):=by
 refine sp_ofA rfl [] 0 [.im .any] 2 rfl rfl rfl rfl (nD rfl) (nD rfl) rfl λhk=>?_;replace h:=h hk.1 hk.2.1 hk.2.2.1;unfold qZ at h;refine A3 rfl<|A3 rfl<|A3 rfl<|⟨_,set_int _ x_ wI _,?_⟩;cases h;exact A3 ⟨rfl,trivial⟩ ⟨rfl,rfl⟩
def ztq(p_:A9)(s_ t_:Int)(r:A9×A2×Bool)(h:I4 p_ s_ t_=some r):Sp Tryz.prog 73 [.im (.agg (G9 p_)),.im (nI s_),.im (nI t_)] (.tup [.agg (G9 r.1),nL cI r.2.1,nB r.2.2]):=by
 refine E4 [35,47,63,73000,79000,94000,202000,209000,229000,700003,2073000,2079000,2094000,2202000,2209000,2229000,8000072,8000078,8000093,8000201,8000208,8000228,9000042,9000054] λhk=>?_;have z1:lZ p_.N:=B5 (D4 hk.1 2 rfl);have z2:lZ p_.O:=B5 (D4 hk.1 3 rfl);unfold I4 at h;refine A3 rfl<|A7 p_.N.length C3 ?_;obtain⟨⟨l3,l4⟩,h,x8⟩:=A6 h;refine F5 (mkSt [(1,B6 s_),(2,B6 t_),(3,C0 (G9 p_)),(6,.own 235 1 0),(9,.own 236 1 0)] [(235,.box 24 4),(236,.box 24 4),(237,.grid 60 3 1 (List.map (cL cI) l3) none),(238,.grid 60 3 1 (List.map (cL cI) l4) none)] [(235,0,.im (nI 0)),(235,1,.im (nI 0)),(235,2,.im (.val (.slice none 0 0))),(235,3,.im (.val (.slice none 0 0))),(236,0,.im (nI p_.I)),(236,1,.im (nI 0)),(236,2,.osl 237 1),(236,3,.osl 238 1)]) ((Holds.kdg 237 rfl).and ((Holds.kdg 238 rfl).and hT)) ?_ λhp=>?_;refine E2 h (λ(f3,f4,h4)=>mkSt [(1,B6 s_),(2,B6 t_),(3,C0 (G9 p_)),(6,.own 235 1 0),(9,.own 236 1 0),(29,B6 (p_.N.length:Int)),(30,B3 h4)] [(235,.box 24 4),(236,.box 24 4),(237,.grid 60 3 1 (List.map (cL cI) f3) none),(238,.grid 60 3 1 (List.map (cL cI) f4) none)] [(235,0,.im (nI 0)),(235,1,.im (nI 0)),(235,2,.im (.val (.slice none 0 0))),(235,3,.im (.val (.slice none 0 0))),(236,0,.im (nI p_.I)),(236,1,.im (nI 0)),(236,2,.osl 237 1),(236,3,.osl 238 1)]) (λ(f3,f4,h4)=>lZ f3/\lZ f4/\True) (eA [(235,some 6),(236,some 9),(237,none),(238,none)]) (λ⟨f3,f4,h4⟩=>((Holds.kdg 237 rfl).and ((Holds.kdg 238 rfl).and hT))) ?_;rintro k ⟨f3,f4,h4⟩ o hp h x6;change I4.s2 p_ f3 f4 h4=_ at h;unfold I4.s2 at h;obtain⟨q7,q8,_⟩:=hp;refine B9 h (λq9 h k7=>?_) λq9 h k7=>?_;refine A3 rfl<|A3 rfl<|E3 h λh2 y0 h=>?_;obtain⟨r1,h⟩:=D1 h;refine A3 ⟨rfl,J8 (l:=h2) (c:=cI) λ_=>rfl,show B4 _ 8 by simpa only[B7,G8,K3,E8]using r1⟩ ?_;refine A7 (List.map cI ([]++h2)) (J9 (l:=[]) (m:=h2) (c:=cI))<|A3 ⟨rfl,trivial⟩<|A7 (List.map (cL cI) [([]++h2)]) rfl ?_;obtain⟨r2,h⟩:=D1 h;refine A3 ⟨rfl,rfl,trivial⟩<|A3 (show B4 _ 24 by have w3:=r2;simpa only[B7]using w3)<|A7 (List.map (cL cI) (f3++[([]++h2)])) (J9 (l:=f3) (m:=[([]++h2)]) (c:=cL cI)) ?_;refine A3 rfl<|A3 rfl<|A3 rfl<|A3 rfl<|E3 h λh3 y1 h=>?_;obtain⟨k8,h⟩:=D1 h;refine A3 ⟨rfl,J8 (l:=h3) (c:=cI) λ_=>rfl,show B4 _ 8 by simpa only[B7,G8,K3,E8]using k8⟩ ?_;refine A7 (List.map cI ([]++h3)) (J9 (l:=[]) (m:=h3) (c:=cI))<|A3 ⟨rfl,trivial⟩<|A7 (List.map (cL cI) [([]++h3)]) rfl ?_;obtain⟨l0,h⟩:=D1 h;refine A3 ⟨rfl,rfl,trivial⟩<|A3 (show B4 _ 24 by have w3:=l0;simpa only[B7]using w3)<|A7 (List.map (cL cI) (f4++[([]++h3)])) (J9 (l:=f4) (m:=[([]++h3)]) (c:=cL cI)) ?_;refine A3 rfl<|A3 rfl<|C6.mk (zzR_ (by omega)) ?_;cases h;exact D2 _ x6 (eA (J1 [235,235,236,236,237,43,238,55]));cases h;cases C4 x6;exact C8 eZ;replace h:I4.k71 p_ s_ t_ l3 l4=some _:=x8;unfold I4.k71 at h;obtain⟨r3,r4,_⟩:=hp;refine A3 rfl ?_;obtain⟨oc,h,w2⟩:=A6 h;refine S8 oc (Y:=A4×A4×(List (Int×Int))) (λ(a8,a6,e0)=>mkSt [(3,C0 (G9 p_)),(6,.own 235 1 0),(9,.own 236 1 0),(11,.own 239 1 0)] [(235,.box 24 4),(236,.box 24 4),(237,.grid 60 3 1 (List.map (cL cI) a8) none),(238,.grid 60 3 1 (List.map (cL cI) a6) none),(239,.box 146 1),(240,.map (mapV wI wI e0))] [(235,0,.im (nI 0)),(235,1,.im (nI 0)),(235,2,.im (.val (.slice none 0 0))),(235,3,.im (.val (.slice none 0 0))),(236,0,.im (nI p_.I)),(236,1,.im (nI 0)),(236,2,.osl 237 1),(236,3,.osl 238 1),(239,0,.osl 240 1)]) (λ(a8,a6,e0)=>lZ a8/\lZ a6/\True) (by rintro⟨a8,a6,e0⟩;exact((Holds.kdg 237 rfl).and ((Holds.kdg 238 rfl).and hT))) ?_ ?_;refine E2 h (λ(c7,c8,c9,b4)=>mkSt [(3,C0 (G9 p_)),(6,.own 235 1 0),(9,.own 236 1 0),(11,.own 239 1 0),(12,.osl 241 1)] [(235,.box 24 4),(236,.box 24 4),(237,.grid 60 3 1 (List.map (cL cI) c7) none),(238,.grid 60 3 1 (List.map (cL cI) c8) none),(239,.box 146 1),(240,.map (mapV wI wI c9)),(241,.que 121 2 (List.map c_A2 b4))] [(235,0,.im (nI 0)),(235,1,.im (nI 0)),(235,2,.im (.val (.slice none 0 0))),(235,3,.im (.val (.slice none 0 0))),(236,0,.im (nI p_.I)),(236,1,.im (nI 0)),(236,2,.osl 237 1),(236,3,.osl 238 1),(239,0,.osl 240 1)]) (λ(c7,c8,c9,b4)=>lZ c7/\lZ c8/\lZ b4/\True) ((Ent.que 63 rfl).trans (eA (J1 [235,235,236,236,237,237,238,238,239,11,240,58,241,63]))) (λ⟨c7,c8,c9,b4⟩=>((Holds.kdg 237 rfl).and ((Holds.kdg 238 rfl).and ((Holds.kdql 241 rfl).and hT)))) ?_;rintro k ⟨c7,c8,c9,b4⟩ o hp h s6;change I4.s46 c7 c8 c9 b4=_ at h;unfold I4.s46 at h;obtain⟨l5,l6,l7,_⟩:=hp;refine A3 rfl<|A7 b4.length C3<|B9 h (λh5 h g1=>?_) λh5 h g1=>?_;obtain⟨oc,h,u2⟩:=A6 h;refine S8 oc (Y:=A4×A4×(List (Int×Int))×List T_A2) (λ(d0,d1,e1,d2)=>mkSt [(3,C0 (G9 p_)),(6,.own 235 1 0),(9,.own 236 1 0),(11,.own 239 1 0),(12,.osl 241 1)] [(235,.box 24 4),(236,.box 24 4),(237,.grid 60 3 1 (List.map (cL cI) d0) none),(238,.grid 60 3 1 (List.map (cL cI) d1) none),(239,.box 146 1),(240,.map (mapV wI wI e1)),(241,.que 121 2 (List.map c_A2 d2))] [(235,0,.im (nI 0)),(235,1,.im (nI 0)),(235,2,.im (.val (.slice none 0 0))),(235,3,.im (.val (.slice none 0 0))),(236,0,.im (nI p_.I)),(236,1,.im (nI 0)),(236,2,.osl 237 1),(236,3,.osl 238 1),(239,0,.osl 240 1)]) (λ(d0,d1,e1,d2)=>lZ d0/\lZ d1/\lZ d2/\True) (by rintro⟨d0,d1,e1,d2⟩;exact((Holds.kdg 237 rfl).and ((Holds.kdg 238 rfl).and ((Holds.kdql 241 rfl).and hT)))) ?_ ?_;refine A3 rfl ?_;obtain⟨h6,t4,h⟩:=J7 h;refine A3 ⟨(by omega),rfl,D3 t4⟩<|A3 ⟨by decide,by decide,rfl⟩<|⟨_,_,⟨rfl,D5 t4,rfl,rfl⟩,?_⟩;refine A3 ⟨rfl,trivial⟩ ?_;obtain⟨b2,x0,h⟩:=A6 h;refine⟨_,qX (⟨c9⟩:bP) h6.f0 b2 (λ_ _=>x0),?_⟩;refine A3 rfl ?_;obtain⟨h7,t8,h⟩:=J7 h;refine A3 ⟨(by omega),rfl,D3 t8⟩<|A3 ⟨by decide,by decide,rfl⟩<|⟨_,_,⟨rfl,D5 t8,rfl,rfl⟩,?_⟩;refine A3 ⟨rfl,trivial⟩ ?_;obtain⟨b3,x5,h⟩:=A6 h;refine⟨_,qX (⟨b2.2⟩:bP) h7.f1 b3 (λ_ _=>x5),?_⟩;obtain⟨h8,h⟩:=D1 h;refine A3 ⟨rfl,by decide,by have w3:=h8;simp only[B7];exact w3⟩ ?_;refine A7 (List.map c_A2 (List.drop 1 b4)) oD<|B9 h (λh9 h g2=>?_) λh9 h g2=>?_;cases h;exact J6.mk' _ rfl eZ;refine A3 rfl<|A3 ⟨rfl,trivial⟩ ?_;obtain⟨e3,x1,h⟩:=A6 h;refine⟨_,zkc (⟨b3.2⟩:bP) (min b2.1 b3.1) (max b2.1 b3.1) e3 (λ_ _ _=>x1),?_⟩;refine A3 rfl<|A3 rfl ?_;obtain⟨e5,v3,r9,h⟩:=J5 h;refine A3 ⟨v3,rfl,D3 r9⟩<|A3 ⟨rfl,D3 r9⟩<|⟨_,⟨rfl,D5 r9⟩,?_⟩;refine A7 e5.length C3 ?_;obtain⟨oc,h,u9⟩:=A6 h;refine S8 oc (Y:=A4×A4×List T_A2) (λ(d3,d4,d5)=>mkSt [(3,C0 (G9 p_)),(6,.own 235 1 0),(9,.own 236 1 0),(11,.own 239 1 0),(12,.osl 241 1)] [(235,.box 24 4),(236,.box 24 4),(237,.grid 60 3 1 (List.map (cL cI) d3) none),(238,.grid 60 3 1 (List.map (cL cI) d4) none),(239,.box 146 1),(240,.map (mapV wI wI e3)),(241,.que 121 2 (List.map c_A2 d5))] [(235,0,.im (nI 0)),(235,1,.im (nI 0)),(235,2,.im (.val (.slice none 0 0))),(235,3,.im (.val (.slice none 0 0))),(236,0,.im (nI p_.I)),(236,1,.im (nI 0)),(236,2,.osl 237 1),(236,3,.osl 238 1),(239,0,.osl 240 1)]) (λ(d3,d4,d5)=>lZ d3/\lZ d4/\lZ d5/\True) (by rintro⟨d3,d4,d5⟩;exact((Holds.kdg 237 rfl).and ((Holds.kdg 238 rfl).and ((Holds.kdql 241 rfl).and hT)))) ?_ ?_;refine E2 h (λ(b6,b7,b5,b8)=>mkSt [(3,C0 (G9 p_)),(6,.own 235 1 0),(9,.own 236 1 0),(11,.own 239 1 0),(12,.osl 241 1),(13,B6 (min b2.1 b3.1)),(14,B6 (max b2.1 b3.1)),(98,.sub 237 0 (Int.toNat (max b2.1 b3.1))),(99,B6 (e5.length:Int)),(100,B3 b8)] [(235,.box 24 4),(236,.box 24 4),(237,.grid 60 3 1 (List.map (cL cI) b6) none),(238,.grid 60 3 1 (List.map (cL cI) b7) none),(239,.box 146 1),(240,.map (mapV wI wI e3)),(241,.que 121 2 (List.map c_A2 b5))] [(235,0,.im (nI 0)),(235,1,.im (nI 0)),(235,2,.im (.val (.slice none 0 0))),(235,3,.im (.val (.slice none 0 0))),(236,0,.im (nI p_.I)),(236,1,.im (nI 0)),(236,2,.osl 237 1),(236,3,.osl 238 1),(239,0,.osl 240 1)]) (λ(b6,b7,b5,b8)=>lZ b6/\lZ b7/\lZ b5/\True) eZ (λ⟨b6,b7,b5,b8⟩=>((Holds.kdg 237 rfl).and ((Holds.kdg 238 rfl).and ((Holds.kdql 241 rfl).and hT)))) ?_;rintro k ⟨b6,b7,b5,b8⟩ o hp h a3;change I4.s43 b2 b3 e5 b6 b7 b5 b8=_ at h;unfold I4.s43 at h;obtain⟨l8,l9,m0,_⟩:=hp;refine B9 h (λi0 h g3=>?_) λi0 h g3=>?_;obtain⟨m3,t5,h⟩:=J7 h;obtain⟨e4,t7,h⟩:=J7 h;refine⟨_,⟨(by omega),rfl,D5 t5,D3 t7⟩,?_⟩;refine⟨_,_,_,⟨rfl,D5 t5,D5 t7,rfl⟩,?_⟩;refine B9 h (λi3 h g4=>?_) λi3 h g4=>?_;obtain⟨i4,h⟩:=D1 h;refine C6.mk i4 ?_;cases h;exact D2 _ a3 eZ;refine A3 rfl<|A3 rfl ?_;obtain⟨m4,w4,a5,h⟩:=J5 h;refine A3 ⟨w4,rfl,D3 a5⟩<|A3 ⟨rfl,D3 a5⟩ ?_;obtain⟨m5,v2,h⟩:=J7 h;refine⟨_,⟨(by omega),rfl,D5 a5,D3 v2⟩,?_⟩;refine⟨_,_,_,⟨rfl,D5 a5,D5 v2,rfl⟩,?_⟩;refine B9 h (λi5 h g5=>?_) λi5 h g5=>?_;refine A3 rfl<|A3 rfl ?_;obtain⟨i6,w5,a4,h⟩:=J5 h;refine A3 ⟨w5,rfl,D3 a4⟩<|A3 ⟨rfl,D3 a4⟩<|A3 rfl<|A3 rfl ?_;obtain⟨i7,v5,r5,h⟩:=J5 h;refine A3 ⟨v5,rfl,D3 r5⟩<|A3 ⟨rfl,D3 r5⟩<|A3 rfl<|A3 rfl ?_;obtain⟨m6,v8,a9,h⟩:=J5 h;refine A3 ⟨v8,rfl,D3 a9⟩<|A3 ⟨rfl,D3 a9⟩ ?_;obtain⟨i8,t6,h⟩:=J7 h;refine⟨_,⟨(by omega),rfl,D5 a9,D3 t6⟩,?_⟩;refine⟨_,_,_,⟨rfl,D5 a9,D5 t6,rfl⟩,?_⟩;obtain⟨m7,u5,h⟩:=J7 h;refine⟨_,⟨(by omega),rfl,D5 a4,D3 u5⟩,?_⟩;refine⟨_,_,⟨rfl,D5 a4,D5 u5⟩,?_⟩;refine A7 (List.map (cL cI) (List.set b6 (Int.toNat (min b2.1 b3.1)) (List.set i6 b8 e4))) (iT rfl) ?_;obtain⟨m8,t0,h⟩:=J7 h;refine⟨_,⟨(by omega),rfl,D5 r5,D3 t0⟩,?_⟩;refine⟨_,_,⟨rfl,D5 r5,D5 t0⟩,?_⟩;refine A7 (List.map (cL cI) (List.set b7 (Int.toNat (min b2.1 b3.1)) (List.set i7 b8 i8))) (iT rfl) ?_;obtain⟨i9,h⟩:=D1 h;refine C6.mk i9 ?_;cases h;exact D2 _ a3 eZ;refine A3 rfl<|A3 rfl ?_;obtain⟨m9,v9,r6,h⟩:=J5 h;refine A3 ⟨v9,rfl,D3 r6⟩<|A3 ⟨rfl,D3 r6⟩ ?_;obtain⟨n3,u7,h⟩:=J7 h;refine⟨_,⟨(by omega),rfl,D5 r6,D3 u7⟩,?_⟩;refine⟨_,_,_,⟨rfl,D5 r6,D5 u7,rfl⟩,?_⟩;refine A3 rfl<|A3 rfl ?_;obtain⟨n4,v7,r7,h⟩:=J5 h;refine A3 ⟨v7,rfl,D3 r7⟩<|A3 ⟨rfl,D3 r7⟩ ?_;obtain⟨n5,u3,h⟩:=J7 h;refine⟨_,⟨(by omega),rfl,D5 r7,D3 u3⟩,?_⟩;refine⟨_,_,_,⟨rfl,D5 r7,D5 u3,rfl⟩,?_⟩;refine B9 h (λj0 h g6=>?_) λj0 h g6=>?_;refine A3 rfl ?_;cases h;cases C4 a3;replace h:some _=some _:=u9;cases h;replace h:some _=some _:=u2;cases h;cases C4 s6;replace h:some _=some _:=w2;cases h;refine A3 ⟨rfl,trivial⟩ ?_;exact⟨rfl,rfl⟩;refine A3 rfl<|A3 rfl ?_;obtain⟨n7,v4,r8,h⟩:=J5 h;refine A3 ⟨v4,rfl,D3 r8⟩<|A3 ⟨rfl,D3 r8⟩ ?_;obtain⟨e6,t9,h⟩:=J7 h;refine⟨_,⟨(by omega),rfl,D5 r8,D3 t9⟩,?_⟩;refine⟨_,_,_,⟨rfl,D5 r8,D5 t9,rfl⟩,?_⟩;obtain⟨j1,h⟩:=D1 h;refine A3 ⟨rfl,tV _,J8 (l:=[(⟨e6,e4⟩:T_A2)]) (c:=c_A2) λ_=>rfl,show B4 _ 16 by simpa only[B7,G8,K3,E8]using j1⟩ ?_;refine A7 (List.map c_A2 (b5++[(⟨e6,e4⟩:T_A2)])) (J9 (l:=b5) (m:=[(⟨e6,e4⟩:T_A2)]) (c:=c_A2)) ?_;obtain⟨j2,h⟩:=D1 h;refine C6.mk j2 ?_;cases h;exact D2 _ a3 eZ;cases h;cases C4 a3;exact J6.mk' _ rfl eZ;rintro⟨d3,d4,d5⟩ rfl hp;have s7:=L4 u9;replace h:I4.k44 e3 d3 d4 d5=some _:=s7;clear s7;unfold I4.k44 at h;obtain⟨n8,n9,o1,_⟩:=hp;cases h;exact J6.mk' _ rfl eZ;rintro⟨d0,d1,e1,d2⟩ rfl hp;have s7:=L4 u2;replace h:I4.k45 d0 d1 e1 d2=some _:=s7;clear s7;unfold I4.k45 at h;obtain⟨o2,o3,o4,_⟩:=hp;cases h;exact D2 _ s6 eZ;cases h;cases C4 s6;exact J6.mk' _ rfl eZ;rintro⟨a8,a6,e0⟩ rfl hp;have s7:=L4 w2;replace h:I4.k70 p_ a8 a6 e0=some _:=s7;clear s7;unfold I4.k70 at h;obtain⟨o5,o6,_⟩:=hp;refine A3 rfl<|A3 rfl<|A3 rfl<|A7 a8.length C3 ?_;obtain⟨⟨e7,e8⟩,h,x3⟩:=A6 h;refine F5 (mkSt [(3,C0 (G9 p_)),(6,.own 235 1 0),(9,.own 236 1 0),(11,.own 239 1 0)] [(235,.box 24 4),(236,.box 24 4),(237,.grid 60 3 1 (List.map (cL cI) e7) none),(238,.grid 60 3 1 (List.map (cL cI) a6) none),(239,.box 146 1),(240,.map (mapV wI wI e8))] [(235,0,.im (nI 0)),(235,1,.im (nI 0)),(235,2,.im (.val (.slice none 0 0))),(235,3,.im (.val (.slice none 0 0))),(236,0,.im (nI p_.I)),(236,1,.im (nI 0)),(236,2,.osl 237 1),(236,3,.osl 238 1),(239,0,.osl 240 1)]) ((Holds.kdg 237 rfl).and ((Holds.kdg 238 rfl).and hT)) ?_ λhp=>?_;refine E2 h (λ(d6,e2,a7)=>mkSt [(3,C0 (G9 p_)),(6,.own 235 1 0),(9,.own 236 1 0),(11,.own 239 1 0),(176,B6 (a8.length:Int)),(177,B3 a7)] [(235,.box 24 4),(236,.box 24 4),(237,.grid 60 3 1 (List.map (cL cI) d6) none),(238,.grid 60 3 1 (List.map (cL cI) a6) none),(239,.box 146 1),(240,.map (mapV wI wI e2))] [(235,0,.im (nI 0)),(235,1,.im (nI 0)),(235,2,.im (.val (.slice none 0 0))),(235,3,.im (.val (.slice none 0 0))),(236,0,.im (nI p_.I)),(236,1,.im (nI 0)),(236,2,.osl 237 1),(236,3,.osl 238 1),(239,0,.osl 240 1)]) (λ(d6,e2,a7)=>lZ d6/\lZ a6/\True) eZ (λ⟨d6,e2,a7⟩=>((Holds.kdg 237 rfl).and ((Holds.kdg 238 rfl).and hT))) ?_;rintro k ⟨d6,e2,a7⟩ o hp h v0;change I4.s66 a8 d6 e2 a7=_ at h;unfold I4.s66 at h;obtain⟨o7,o8,_⟩:=hp;refine B9 h (λj3 h g7=>?_) λj3 h g7=>?_;refine A3 rfl<|A3 rfl ?_;obtain⟨e9,s3,h⟩:=J7 h;refine A3 ⟨(by omega),rfl,D3 s3⟩<|A3 ⟨rfl,D3 s3⟩<|⟨_,⟨rfl,D5 s3⟩,?_⟩;refine A7 e9.length C3 ?_;obtain⟨⟨f5,f7⟩,h,w8⟩:=A6 h;refine F5 (mkSt [(3,C0 (G9 p_)),(6,.own 235 1 0),(9,.own 236 1 0),(11,.own 239 1 0),(176,B6 (a8.length:Int)),(177,B3 a7)] [(235,.box 24 4),(236,.box 24 4),(237,.grid 60 3 1 (List.map (cL cI) f5) none),(238,.grid 60 3 1 (List.map (cL cI) a6) none),(239,.box 146 1),(240,.map (mapV wI wI f7))] [(235,0,.im (nI 0)),(235,1,.im (nI 0)),(235,2,.im (.val (.slice none 0 0))),(235,3,.im (.val (.slice none 0 0))),(236,0,.im (nI p_.I)),(236,1,.im (nI 0)),(236,2,.osl 237 1),(236,3,.osl 238 1),(239,0,.osl 240 1)]) ((Holds.kdg 237 rfl).and ((Holds.kdg 238 rfl).and hT)) ?_ λhp=>?_;refine E2 h (λ(b9,d7,d8)=>mkSt [(3,C0 (G9 p_)),(6,.own 235 1 0),(9,.own 236 1 0),(11,.own 239 1 0),(17,B3 a7),(176,B6 (a8.length:Int)),(177,B3 a7),(184,.sub 237 0 a7),(185,B6 (e9.length:Int)),(186,B3 d8)] [(235,.box 24 4),(236,.box 24 4),(237,.grid 60 3 1 (List.map (cL cI) b9) none),(238,.grid 60 3 1 (List.map (cL cI) a6) none),(239,.box 146 1),(240,.map (mapV wI wI d7))] [(235,0,.im (nI 0)),(235,1,.im (nI 0)),(235,2,.im (.val (.slice none 0 0))),(235,3,.im (.val (.slice none 0 0))),(236,0,.im (nI p_.I)),(236,1,.im (nI 0)),(236,2,.osl 237 1),(236,3,.osl 238 1),(239,0,.osl 240 1)]) (λ(b9,d7,d8)=>lZ b9/\lZ a6/\True) eZ (λ⟨b9,d7,d8⟩=>((Holds.kdg 237 rfl).and ((Holds.kdg 238 rfl).and hT))) ?_;rintro k ⟨b9,d7,d8⟩ o hp h s5;change I4.s64 a7 e9 b9 d7 d8=_ at h;unfold I4.s64 at h;obtain⟨o9,p1,_⟩:=hp;refine B9 h (λj4 h g8=>?_) λj4 h g8=>?_;obtain⟨p3,u6,h⟩:=J7 h;obtain⟨j5,v1,h⟩:=J7 h;refine⟨_,⟨(by omega),rfl,D5 u6,D3 v1⟩,?_⟩;refine⟨_,_,_,⟨rfl,D5 u6,D5 v1,rfl⟩,?_⟩;refine B9 h (λj6 h g9=>?_) λj6 h g9=>?_;refine A3 rfl<|A3 rfl ?_;obtain⟨j7,f6,h⟩:=J7 h;refine A3 ⟨(by omega),rfl,D3 f6⟩<|A3 ⟨rfl,D3 f6⟩<|A3 rfl<|A3 ⟨rfl,trivial⟩ ?_;obtain⟨f8,x2,h⟩:=A6 h;refine⟨_,qX (⟨d7⟩:bP) j5 f8 (λ_ _=>x2),?_⟩;obtain⟨p4,s8,h⟩:=J7 h;refine⟨_,⟨(by omega),rfl,D5 f6,D3 s8⟩,?_⟩;refine⟨_,_,⟨rfl,D5 f6,D5 s8⟩,?_⟩;refine A7 (List.map (cL cI) (List.set b9 a7 (List.set j7 d8 f8.1))) (iT rfl) ?_;obtain⟨j8,h⟩:=D1 h;refine C6.mk j8 ?_;cases h;exact D2 _ s5 eZ;obtain⟨j9,h⟩:=D1 h;refine C6.mk j9 ?_;cases h;exact D2 _ s5 eZ;cases h;cases C4 s5;exact C8 eZ;replace h:I4.k65 a7 f5 f7=some _:=w8;unfold I4.k65 at h;obtain⟨p5,p6,_⟩:=hp;refine C6.mk (zzR_ (by omega)) ?_;cases h;exact D2 _ v0 eZ;cases h;cases C4 v0;exact C8 eZ;replace h:I4.k69 p_ a6 e7 e8=some _:=x3;unfold I4.k69 at h;obtain⟨p7,p8,_⟩:=hp;refine A3 rfl<|A3 ⟨rfl,trivial⟩ ?_;obtain⟨f9,w6,h⟩:=A6 h;refine⟨_,qX (⟨e8⟩:bP) p_.S f9 (λ_ _=>w6),?_⟩;refine A3 rfl<|A3 rfl<|A3 rfl<|A3 ⟨rfl,rfl,trivial⟩ ?_;obtain⟨a2,w7,h⟩:=A6 h;refine⟨_,EB (⟨p_.I,f9.1,e7,a6⟩:A9) a2 w7,?_⟩;refine A3 rfl<|A7 a2.2.length C3 ?_;obtain⟨k0,h⟩:=D1 h;refine A3 k0<|A7 (List.map cI (List.replicate a2.2.length (0:Int))) (Z6 (c:=cI) (z:=0) (n:=a2.2.length) rfl rfl)<|A3 rfl<|A7 (List.length (List.replicate a2.2.length (0:Int))) C3 ?_;obtain⟨k1,h,x4⟩:=A6 h;refine F5 (mkSt [(6,.own 235 1 0),(20,.own 236 1 0),(22,.osl 237 1)] [(235,.box 24 4),(236,.box 24 4),(237,.row 3 1 (List.map cI k1))] [(235,0,.im (nI 0)),(235,1,.im (nI 0)),(235,2,.im (.val (.slice none 0 0))),(235,3,.im (.val (.slice none 0 0))),(236,0,.im (nI a2.1.I)),(236,1,.im (nI a2.1.S)),(236,2,.im (nL (cL cI) a2.1.N)),(236,3,.im (nL (cL cI) a2.1.O))]) ((Holds.cel 236 2 rfl (by decide) rfl).and ((Holds.cel 236 3 rfl (by decide) rfl).and ((Holds.kdl 237 rfl).and hT))) ?_ λhp=>?_;refine E2 h (λ(d9,c0,c6)=>mkSt [(6,.own 235 1 0),(11,.own 236 1 0),(20,.own 238 1 0),(21,C5 cI a2.2),(22,.osl 239 1),(219,B6 (↑(List.length (List.replicate a2.2.length (0:Int))):Int)),(220,B3 c6)] [(235,.box 24 4),(236,.box 146 1),(237,.map (mapV wI wI d9)),(238,.box 24 4),(239,.row 3 1 (List.map cI c0))] [(235,0,.im (nI 0)),(235,1,.im (nI 0)),(235,2,.im (.val (.slice none 0 0))),(235,3,.im (.val (.slice none 0 0))),(236,0,.osl 237 1),(238,0,.im (nI a2.1.I)),(238,1,.im (nI a2.1.S)),(238,2,.im (nL (cL cI) a2.1.N)),(238,3,.im (nL (cL cI) a2.1.O))]) (λ(d9,c0,c6)=>lZ a2.2/\lZ a2.1.N/\lZ a2.1.O/\lZ c0/\True) (eA (J1 [235,235,236,239,237,240,238,20,239,217])) (λ⟨d9,c0,c6⟩=>((C9 21 rfl).and ((Holds.cel 238 2 rfl (by decide) rfl).and ((Holds.cel 238 3 rfl (by decide) rfl).and ((Holds.kdl 239 rfl).and hT))))) ?_;rintro k ⟨d9,c0,c6⟩ o hp h s9;change I4.s68 a2 d9 c0 c6=_ at h;unfold I4.s68 at h;obtain⟨p9,q0,q1,q2,_⟩:=hp;refine B9 h (λk2 h h0=>?_) λk2 h h0=>?_;refine A3 rfl<|A3 ⟨rfl,trivial⟩ ?_;obtain⟨k4,w9,h⟩:=A6 h;refine⟨_,qX (⟨d9⟩:bP) (c6:Int) k4 (λ_ _=>w9),?_⟩;refine L8 h λk5 x7 x9 h=>?_;obtain⟨q3,u4,h⟩:=J7 h;refine A3 ⟨(by omega),rfl,D3 u4⟩<|A3 ⟨rfl,trivial⟩<|⟨_,D5 u4,?_⟩;refine A7 (List.map cI (List.set c0 c6 k5)) (P7 rfl) ?_;obtain⟨k6,h⟩:=D1 h;refine C6.mk k6 ?_;cases h;exact D2 _ s9 eZ;cases h;cases C4 s9;exact C8 (eA (J1 [235,235,236,238,237,239]));replace h:=x4;obtain⟨q4,q5,q6,_⟩:=hp;refine A3 rfl<|A3 rfl ?_;cases h;refine A3 ⟨rfl,trivial⟩ ?_;exact A3 ⟨rfl,trivial⟩ ⟨rfl,rfl⟩
end Go.Proofs.YtkeplokjplkcmaaGreat.Sym

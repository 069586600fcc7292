/- Parts of the proof. -/
import Derived.Test.YtjmcbfbjajlbhaaGreatDoorM3
set_option linter.all false
set_option maxRecDepth 100000
set_option maxHeartbeats 4000000
open Go.RowKit
namespace Go.Proofs.YtjmcbfbjajlbhaaGreatDoor.Sym
section
structure OrOk(q:vF):Prop where
 dev:DevOk q.Device
 seed:SeedOk q.Device
 obs:I6 q.Obs
 tr:SmTr q.Obs.T
 inp:q.Obs.I=q.Device.M.I
 v1:1<=q.Votes
 v2:q.Votes<=9
 t1:q.Votes<=q.Tries
 t2:q.Tries<=64
structure TryOk(q:vF)(w:A2)(d:nC)(ys:A3)(i:Int):Prop where
 dev:DevOk d
 seed:SeedOk d
 mac:d.M=q.Device.M
 i0:0<=i
 i1:i<=q.Tries
 len:(ys.length:Int)<=i
 wrd:∀y∈ys,WrdOk y
 few:Few q.Votes ys
section
variable {q:vF}{w:A2}{d:nC}{ys:A3}{i n:Int}
end
end
def zum{l:List A8}(h:SmTr l):iW l l=some true:=by
 have hl:=h.1;unfold iW
 have key:=Q2 (step:=λs=>iW.s2 l l s) (l:=l) (λ_ _=>(none:Option Bool)) (λi x hx=>by
  have hs:=h.2 x (H8 hx)
  have h1:=hs.1
  have h2:=hs.2
  unfold SmW at h1 h2
  simp only[iW.s2]
  rw[I8 hx,D2,C6 hx,C6 hx,oY _ _ (by omega),A5,D3 rfl,N2,D6,C6 hx,C6 hx,oY _ _ (by omega),A5,D3 rfl]
  rfl) (by
  simp only[iW.s2]
  rw[N7]
  rfl) (by omega)
 have hn:∀(m:List A8) (j:Nat),scan (λ_ _=>(none:Option Bool)) j m=none:=by
  intro m
  induction m with
  |nil=>intro j;rfl
  |cons x m ih =>
   intro j;unfold scan;exact ih _
 rw[key,hn,B5 (by simp)];rfl
def R16_Same_self{o:A6}(h:SmTr o.T):tH o o=some true:=by
 unfold tH;rw[C9 rfl,zum h];rfl

section
structure SmQ(q:vF):Prop where
 n:q.Device.M.N.length<=2000000
 s:q.Device.Latency.Step.length<=2000000
 o:SmO q.Obs
 seed:SeedOk q.Device
def addO_len{o:A6}{t:A8}:(addO o t).1.T.length<=o.T.length+1:=by
 unfold addO;split
 ·simp only;omega
 ·split
  ·simp only;omega
  ·split
   ·simp only;omega
   ·exact zq14 _ _
def addO_tr{o:A6}{t:A8}(h:SmTr o.T)(hn:o.T.length<=1000000)(ht:SmX t):SmTr (addO o t).1.T:=by
 refine⟨by have:=addO_len (o:=o) (t:=t);omega,?_⟩;unfold addO;split
 ·exact h.2
 ·split
  ·exact h.2
  ·split
   ·exact h.2
   ·intro x hx;have hx:x∈addL o.T t:=hx;unfold addL at hx;split at hx
    ·exact h.2 x hx
    ·rcases lI.1 hx with e|e
     ·rw[e];exact ht
     ·exact h.2 x (xJ.subset e)
section
variable {q:vF}{w:A2}
end
end
section
def yP{m:B7}:∀(w:A2) (s k:Nat),(outs m s w).take k=outs m s (w.take k)
 |[],s,k=>by simp[outs]
 |a::w,s,0=>by simp[outs]
 |a::w,s,k+1=>by
  show(ot m s a.toNat::outs m (nx m s a.toNat) w).take (k+1)=ot m s a.toNat::outs m (nx m s a.toNat) (w.take k);rw[wZ,yP w]
def IC:∀(a b:A2),a.take (E9 a b)=b.take (E9 a b)
 |[],b=>by simp[E9]
 |x::a,[]=>by simp[E9]
 |x::a,y::b=>by
  unfold E9;by_cases h:x=y
  ·rw[if_pos h,h,wZ,wZ,IC a b]
  ·rw[if_neg h];rfl
def Expl(m:B7)(o:A6):Prop:=∀t∈o.T,t.O=outs m m.S.toNat t.In
def Kn(o:A6)(w:A2):Prop:=w=[]\/∃t∈o.T,w <+: t.In
section
variable {m:B7}{o:A6}{w:A2}
def expl_agree{a b:A8}(ha:a.O=outs m m.S.toNat a.In)(hb:b.O=outs m m.S.toNat b.In):Agree a b:=by
 unfold Agree;rw[ha,hb,yP,yP,IC]
def lH(hE:Expl m o):(Kn o w->ansO o w=some (outs m m.S.toNat w))/\(¬Kn o w->ansO o w=none):=by
 unfold ansO Kn;by_cases h0:w=[]
 ·rw[if_pos h0,h0];exact⟨λ_=>rfl,λh=>absurd (.inl rfl) h⟩
 ·rw[if_neg h0];cases hf:o.T.find? λt=>decide (w <+: t.In) with
  |none =>
   refine⟨λh=>?_,λ_=>rfl⟩;rcases h with h|⟨t,ht,hp⟩
   ·exact absurd h h0
   ·exact absurd (D3 hp) (pX.1 hf t ht)
  |some t =>
   have ht:=dE hf;have hp:decide (w <+: t.In)=true:=mE (p:=λ(t:A8)=>decide (w <+: t.In)) hf;have hp:=of_decide_eq_true hp;refine⟨λ_=>?_,λh=>absurd (.inr ⟨t,ht,hp⟩) h⟩;show some (t.O.take w.length)=_;rw[hE t ht,yP,<- List.prefix_iff_eq_take.1 hp]
def tr(m:B7)(w:A2):A8:=⟨w,outs m m.S.toNat w⟩
def prop_tr(H:N0 m){n:Int}(hn:n=m.I)(hw:H1 w n=0):gT n (tr m w):=by
 refine⟨hw,by simp only[tr];rw[cX],λy hy=>?_⟩;have a2:WOk m.I w:=by rw[<- hn];exact aB hw
 have a3:=H.st
 have key:∀(w:A2) (s:Nat),s<m.N.length->WOk m.I w->∀y∈outs m s w,0<=y/\y<=1048576:=by
  intro w
  induction w with
  |nil=>intro s _ _ y hy;simp[outs]at hy
  |cons a w ih =>
   intro s hs a2 y hy;have ha:=a2.head;obtain⟨h1,h2,h3,_⟩:=H.at hs (a:=a.toNat) (by omega);have hy:y∈ot m s a.toNat::outs m (nx m s a.toNat) w:=hy;rcases I2.1 hy with e|e
   ·rw[e];exact⟨h2,h3⟩
   ·exact ih _ h1 a2.tail y e
 exact key w _ (by omega) a2 y hy
def mem_addL{l:List A8}{t x:A8}(h:x∈addL l t):x=t\/x∈l:=by
 unfold addL at h;split at h
 ·exact .inr h
 ·rcases lI.1 h with e|e
  ·exact .inl e
  ·exact .inr (xJ.subset e)
def expl_add(hE:Expl m o){n:Int}:Expl m ⟨n,addL o.T (tr m w)⟩:=λx hx=>by
 rcases mem_addL hx with e|e
 ·rw[e];rfl
 ·exact hE x e
def kn_add{n:Int}{v:A2}:Kn ⟨n,addL o.T (tr m w)⟩ v↔Kn o v\/v <+: w:=by
 unfold Kn;simp only;constructor
 ·rintro (h|⟨x,hx,hp⟩)
  ·exact .inl (.inl h)
  ·rcases mem_addL hx with e|e
   ·exact .inr (by rw[e]at hp;exact hp)
   ·exact .inl (.inr ⟨x,e,hp⟩)
 ·unfold addL;by_cases g:T9 o.T (tr m w).In=true\/(tr m w).In=[]
  ·rw[if_pos g];rintro (h|h)
   ·exact h
   ·rcases g with g|g
    ·obtain⟨u,hu,hp⟩:=gQ.1 g;exact .inr ⟨u,hu,h.trans (of_decide_eq_true hp)⟩
    ·have g:w=[]:=g;rw[g]at h;exact .inl (List.prefix_nil.1 h)
  ·rw[if_neg g];rintro ((h|⟨x,hx,hp⟩)|h)
   ·exact .inl h
   ·by_cases hk:x.In <+: w
    ·exact .inr ⟨tr m w,lI.2 (.inl rfl),hp.trans hk⟩
    ·refine .inr ⟨x,lI.2 (.inr (fK.2 ⟨hx,?_⟩)),hp⟩;rw[E2 (show ¬x.In <+: (tr m w).In from hk)];rfl
   ·exact .inr ⟨tr m w,lI.2 (.inl rfl),h⟩
def K4(m:B7):A6->A3->A6
 |o,[]=>o
 |o,w::r=>K4 m ⟨o.I,addL o.T (tr m w)⟩ r
def oI{v:A2}:∀(ws:A3) (o:A6),Kn (K4 m o ws) v↔Kn o v\/∃w∈ws,v <+: w
 |[],o=>by simp[K4]
 |w::ws,o=>by
  unfold K4;rw[oI ws,kn_add];constructor
  ·rintro ((h|h)|⟨x,hx,h⟩)
   ·exact .inl h
   ·exact .inr ⟨w,by simp,h⟩
   ·exact .inr ⟨x,by simp[hx],h⟩
  ·rintro (h|⟨x,hx,h⟩)
   ·exact .inl (.inl h)
   ·rcases I2.1 hx with e|e
    ·exact .inl (.inr (by rw[<- e];exact h))
    ·exact .inr ⟨x,e,h⟩
def rF{x:A8}:∀(ws:A3) (o:A6),x∈(K4 m o ws).T->x∈o.T\/x.In∈ws
 |[],_,h=>.inl h
 |w::ws,o,h=>by
  unfold K4 at h;rcases rF ws _ h with e|e
  ·rcases mem_addL e with e|e
   ·exact .inr (by rw[e];simp[tr])
   ·exact .inl e
  ·exact .inr (by simp[e])
structure P5(m:B7)(o:A6):Prop where
 ok:I6 o
 tr:SmTr o.T
 ex:Expl m o
 inp:o.I=m.I
def R06_Run_eq(H:N0 m)(hv:S4 m=some 0)(hw:H1 w m.I=0):R06_Run m w=some (outs m m.S.toNat w,0):=by
 have a2:=H.st;have a3:=H.i1;have a4:=H.i2
 have a5:w.length<=1024:=by
  unfold H1 at hw;rw[if_pos (by omega)]at hw;split at hw
  ·cases hw
  ·omega
 have hS:m.S=(m.S.toNat:Int):=by omega
 have hO:=zI H (s:=m.S.toNat) (by omega) (w:=w) (aB hw) (by omega);rw[<- hS]at hO;unfold R06_Run xU;rw[hv,A5,B5 (by decide),B5,E2 (by omega),A5,D6,kJ _ _ (by unfold SmW;omega),A5,hw,B5 (by decide),hO,A5,A5]
end
end
section
def scan_map{V R R':Type}{g:Nat->V->Option R}{f:R->R'}:∀(l:List V) (j:Nat),scan (λi x=>(g i x).map f) j l=(scan g j l).map f
 |[],_=>rfl
 |x::l,j=>by
  unfold scan;cases g j x with
  |some r=>rfl
  |none=>exact scan_map l (j+1)
def scan_mem{V R:Type}{g:Nat->V->Option R}{r:R}:∀{l:List V} {j:Nat},scan g j l=some r->∃i x,l[i]?=some x/\g (j+i) x=some r
 |[],_,h=>by cases h
 |x::l,j,h=>by
  unfold scan at h;cases e:g j x with
  |some q =>
   rw[e]at h;exact⟨0,x,rfl,by rw[W7,e];exact h⟩
  |none =>
   rw[e]at h;obtain⟨i,y,h1,h2⟩:=scan_mem (j:=j+1) h;exact⟨i+1,y,by simpa using h1,by rw[show j+(i+1)=j+1+i by omega,h2]⟩
def celE(n:Nat)(u v:Int):Option Int:=if u<0\/(n:Int)<=u\/v<0\/1048576<v then some 2 else none
def rowE(m:B7)(s:Nat)(x:A2):Option Int :=
 if(x.length:Int)≠m.I\/(↑((m.O[s]?).getD []).length:Int)≠m.I then some 1 else scan (λa u=>celE m.N.length u ((((m.O[s]?).getD [])[a]?).getD 0)) 0 x
def Q9(m:B7):Int :=
 if m.I<1\/64<m.I then 2 else if m.N.length=0 then 19 else if 128<m.N.length then 11 else if m.S<0\/(m.N.length:Int)<=m.S then 2 else if m.O.length≠m.N.length then 1
 else match scan (rowE m) 0 m.N with|some e=>e|none=>0
section
variable {m:B7}
def rowE_ne{s:Nat}{x:A2}{e:Int}(h:rowE m s x=some e):e≠0:=by
 unfold rowE at h;split at h
 ·injection h with h
  omega
 ·obtain⟨i,u,_,h2⟩:=scan_mem h;unfold celE at h2;split at h2
  ·injection h2 with h2
   omega
  ·cases h2
def cel_cond{n:Nat}{u v:Int}:(cond (decide (u<0)) (some true) (cond (decide ((n:Int)<=u)) (some true) (cond (decide (v<0)) (some true) (some (decide (1048576<v))))):Option Bool)=some (celE n u v).isSome:=by
 unfold celE;by_cases h1:u<0<;>by_cases h2:(n:Int)<=u<;>by_cases h3:v<0<;>by_cases h4:1048576<v<;>simp[h1,h2,h3,h4]
def celE_two{n:Nat}{u v:Int}:celE n u v=if(celE n u v).isSome=true then some 2 else none:=by
 unfold celE;split<;>rfl
def row_len{s:Nat}{x y:A2}(hx:m.N[s]?=some x)(hy:m.O[s]?=some y) :
  (idxn m.N s λa2=>cond (decide ((a2.length:Int)≠m.I)) (some true) (idxn m.O s λa6=>some (decide ((a6.length:Int)≠m.I))):Option Bool)=some (decide ((x.length:Int)≠m.I\/(y.length:Int)≠m.I)):=by
 rw[C6 hx];by_cases h:(x.length:Int)=m.I
 ·rw[B5 (λk=>k h),C6 hy];simp[h]
 ·rw[C9 h];simp[h]
def idx_nat{V G:Type}{l:List V}{i:Nat}{k:V->Option G}:idx l (i:Int) k=idxn l i k:=by
 cases h:l[i]? with
 |some x=>rw[F9 rfl h,C6 h]
 |none =>
  unfold idx idxn;rw[h,if_pos (by omega),P0,h]
def R06_row_eq(hi:m.I<=64){s:Nat}{x y:A2}(hx:m.N[s]?=some x)(hy:m.O[s]?=some y):aU m (s:Int)=some (match rowE m s x with|some e=>e|none=>0):=by
 unfold aU;rw[idx_nat];simp only[idx_nat];rw[row_len hx hy,A5];unfold rowE;rw[hy,Q3];by_cases h:(x.length:Int)≠m.I\/(y.length:Int)≠m.I
 ·rw[C9 h,if_pos h]
 ·rw[B5 h,if_neg h];have h1:(x.length:Int)=m.I:=Q5 λq=>h (Or.inl q);have h2:(y.length:Int)=m.I:=Q5 λq=>h (Or.inr q);rw[Q2 (l:=x) (λa u=>celE m.N.length u ((y[a]?).getD 0)) (λa u hu=>?_) ?_ (by omega),A5]
  ·cases scan (λa u=>celE m.N.length u ((y[a]?).getD 0)) 0 x<;>rfl
  ·simp only[aU.s2];rw[B5]
  ·have ha:=(G4.1 hu).1;have hv:y[a]?=some y[a]:=get_at (by omega);rw[hv,Q3];simp only[aU.s2,idx_nat];rw[C9];simp only[C6 hx,C6 hy,C6 hu,C6 hv];rw[cel_cond,A5];cases e:celE m.N.length u y[a]with
   |none =>
    rw[xF,D6,K1]
   |some r =>
    have:=celE_two (n:=m.N.length) (u:=u) (v:=y[a]);rw[e]at this;injection this with this
    rw[this,xE,D2]
def mealy_row_eq(hi:m.I<=64){s:Nat}{x y:A2}(hx:m.N[s]?=some x)(hy:m.O[s]?=some y):aD.s14 m s=some (match rowE m s x with|some e=>.inr (.inr e)|none=>.inl (s+1)):=by
 have hs:=(G4.1 hx).1;simp only[aD.s14];rw[C9,row_len hx hy,A5];unfold rowE;rw[hy,Q3];by_cases h:(x.length:Int)≠m.I\/(y.length:Int)≠m.I
 ·rw[C9 h,if_pos h]
 ·rw[B5 h,if_neg h];have h1:(x.length:Int)=m.I:=Q5 λq=>h (Or.inl q);have h2:(y.length:Int)=m.I:=Q5 λq=>h (Or.inr q);rw[Q2 (l:=x) (λa u=>(celE m.N.length u ((y[a]?).getD 0)).map λr=>(.inr (.inr r):Nat⊕(Unit⊕Int))) (λa u hu=>?_) ?_ (by omega),A5,scan_map]
  ·cases scan (λa u=>celE m.N.length u ((y[a]?).getD 0)) 0 x<;>rfl
  ·simp only[aD.s13];rw[B5]
  ·have ha:=(G4.1 hu).1;have hv:y[a]?=some y[a]:=get_at (by omega);rw[hv,Q3];simp only[aD.s13];rw[C9];simp only[C6 hx,C6 hy,C6 hu,C6 hv];rw[cel_cond,A5];cases e:celE m.N.length u y[a]with
   |none =>
    rw[xF,D6,K1];rfl
   |some r =>
    have:=celE_two (n:=m.N.length) (u:=u) (v:=y[a]);rw[e]at this;injection this with this
    rw[this,xE,D2];rfl
def rS(m:B7):S4 m=some (Q9 m):=by
 unfold S4 Q9;by_cases c1:m.I<1
 ·rw[D3 c1,if_pos (Or.inl c1)];rfl
 rw[B5 c1];by_cases c2:64<m.I
 ·rw[D3 c2,if_pos (Or.inr c2)];rfl
 rw[E2 c2,A5,D6,if_neg (by omega)];by_cases c3:m.N.length=0
 ·rw[D3 (by omega),if_pos c3];rfl
 rw[B5,if_neg c3];by_cases c4:128<m.N.length
 ·rw[D3 (by omega),if_pos c4];rfl
 rw[B5,if_neg c4];by_cases c5:m.S<0
 ·rw[D3 c5,if_pos (Or.inl c5)];rfl
 rw[B5 c5];by_cases c6:(m.N.length:Int)<=m.S
 ·rw[D3 c6,if_pos (Or.inr c6)];rfl
 rw[E2 c6,A5,D6,if_neg (by omega)];by_cases c7:m.O.length=m.N.length
 ·rw[B5,if_neg (by omega),Q2 (l:=m.N) (rowE m) (λs x hx=>?_) ?_ (by omega),A5]
  ·cases scan (rowE m) 0 m.N<;>rfl
  ·simp only[S4.s2];rw[B5]
  ·have hs:=(G4.1 hx).1;simp only[S4.s2];rw[C9,R06_row_eq (by omega) hx (get_at (l:=m.O) (by omega)),A5];cases e:rowE m s x with
   |none=>rfl
   |some r=>rw[C9 (rowE_ne e)]
 ·rw[D3 (by omega),if_pos c7];rfl
def vT(m:B7):aD m=some (Q9 m):=by
 unfold aD Q9;by_cases c1:m.I<1
 ·rw[D3 c1,if_pos (Or.inl c1)];rfl
 rw[B5 c1];by_cases c2:64<m.I
 ·rw[D3 c2,if_pos (Or.inr c2)];rfl
 rw[E2 c2,A5,D6,if_neg (by omega)];by_cases c3:m.N.length=0
 ·rw[D3 (by omega),if_pos c3];rfl
 rw[B5,if_neg c3];by_cases c4:128<m.N.length
 ·rw[D3 (by omega),if_pos c4];rfl
 rw[B5,if_neg c4];by_cases c5:m.S<0
 ·rw[D3 c5,if_pos (Or.inl c5)];rfl
 rw[B5 c5];by_cases c6:(m.N.length:Int)<=m.S
 ·rw[D3 c6,if_pos (Or.inr c6)];rfl
 rw[E2 c6,A5,D6,if_neg (by omega)];by_cases c7:m.O.length=m.N.length
 ·rw[B5,if_neg (by omega),Q2 (l:=m.N) (rowE m) (λs x hx=>?_) ?_ (by omega),A5]
  ·cases scan (rowE m) 0 m.N<;>rfl
  ·simp only[aD.s14];rw[B5]
  ·have hs:=(G4.1 hx).1;rw[mealy_row_eq (by omega) hx (get_at (l:=m.O) (by omega))];cases rowE m s x<;>rfl
 ·rw[D3 (by omega),if_pos c7];rfl
def fW(h:Q9 m=0):N0 m:=macOk_of (by rw[rS,h])
def fromM(m:B7)(s:Int)(w:A2):A2×Int×Int :=
 if Q9 m≠0 then([],0,Q9 m) else if s<0\/(m.N.length:Int)<=s then([],0,2) else if H1 w m.I≠0 then([],0,H1 w m.I) else(outs m s.toNat w,(↑(dest m s.toNat w):Int),0)
def yT{w:A2}{n:Int}(h:H1 w n=0):w.length<=1024:=by
 unfold H1 at h;split at h
 ·split at h
  ·cases h
  ·omega
 ·cases h
def runner_eq(H:N0 m){s:Nat}(hs:s<m.N.length){w:A2}(hw:WOk m.I w)(hl:w.length<=100000000):dD (⟨(⟨m⟩:lV),(s:Int)⟩:fG) w=some (outs m s w,(⟨(⟨m⟩:lV),(↑(dest m s w):Int)⟩:fG)):=by
 unfold dD
 have key:=O4 (step:=λ(q:Int×A2×Nat)=>dD.s2 (⟨(⟨m⟩:lV),(s:Int)⟩:fG) w q.1 q.2.1 q.2.2) (r:=((↑(dest m s w):Int),outs m s w)) (λq=>q.2.2<=w.length/\q.1=(↑(dest m s (w.take q.2.2)):Int)/\q.2.1=outs m s (w.take q.2.2)) (λq=>w.length-q.2.2) (λq ⟨g1,g2,g3⟩=>by
  obtain⟨st,y,k⟩:=q
  simp only at g1 g2 g3
  subst g2
  subst g3
  simp only[dD.s2,AY]
  by_cases g4:k<w.length
  ·left
   have hx:=get_at g4
   obtain⟨x0,x1⟩:=hw _ (H9 g4)
   have ha:w[k].toNat<m.I.toNat:=by omega
   have hd:Sym.dest m s (w.take k)<m.N.length:=H.dest (hw.take k) hs
   obtain⟨_,_,_,x,y,e1,e2,e3,e4⟩:=H.at hd ha
   refine⟨((↑(Sym.dest m s (w.take (k+1))):Int),outs m s (w.take (k+1)),k+1),?_,⟨g4,rfl,rfl⟩,by simp only;omega⟩
   rw[I8 hx,D2,C6 hx,F9 rfl e1,F9 (i:=w[k].toNat) (by omega) e3,F9 rfl e2,F9 (i:=w[k].toNat) (by omega) e4,A5,F0 (by unfold E5;rw[cX,H6];omega),L9 hx,kG,iL]
   rfl
  ·right
   have e:k=w.length:=by omega
   subst e
   rw[B5,M4]) (n:=fuel) (s:=((s:Int),[],0)) ⟨F8 _,rfl,rfl⟩
 rw[key,A5];rfl
def JI{s:Int}{w:A2}(hw:SmW w):rK m s w=some (fromM m s w):=by
 unfold rK zQ fromM;rw[vT,A5];by_cases c1:Q9 m=0
 ·rw[B5,if_neg (by omega)];by_cases c2:s<0
  ·rw[D3 c2,if_pos (Or.inl c2)];rfl
  rw[B5 c2];by_cases c3:(m.N.length:Int)<=s
  ·rw[D3 c3,if_pos (Or.inr c3)];rfl
  rw[E2 c3,A5,D6,if_neg (by omega),A5,B5,nH _ _ hw,A5];by_cases c4:H1 w m.I=0
  ·have:=yT c4;have hO:=runner_eq (fW c1) (s:=s.toNat) (by omega) (w:=w) (aB c4) (by omega);rw[show(s.toNat:Int)=s by omega]at hO;rw[B5,if_neg (by omega),hO,A5]
  ·rw[C9 c4,if_pos c4]
 ·rw[C9 c1,if_pos c1,A5,C9 c1]
end
end
section
section
variable {m:B7}{ids:List (A3)}{w:A2}
def fromM_start(hw:SmW w)(h:Q9 m=0):fromM m m.S w=if H1 w m.I≠0 then([],0,H1 w m.I) else(outs m m.S.toNat w,(↑(dest m m.S.toNat w):Int),0):=by
 have H:=fW h;have:=H.st;unfold fromM;rw[if_neg (by omega),if_neg (by omega)]
end
end
section
section
variable {A:Type}[DecidableEq A]
def bfsB(e:A->Nat->A)(K:Nat)(s0:A):Nat->List (A×A2)
 |0=>[(s0,[])]
 |r+1=>match (bfsB e K s0 r)[r / K]? with
  |none=>bfsB e K s0 r
  |some x=>if e x.1 (r%K)∈(bfsB e K s0 r).map Prod.fst then bfsB e K s0 r else bfsB e K s0 r++[(e x.1 (r%K),x.2++[(↑(r%K):Int)])]
def jM{K i a:Nat}(h:a<K):(i*K+a) / K=i:=by
 rw[cP,Nat.add_mul_div_right _ _ (by omega),Nat.div_eq_of_lt h,J9]
def dm_mod{K i a:Nat}(h:a<K):(i*K+a)%K=a:=by
 rw[cP,Nat.add_mul_mod_self_right,Nat.mod_eq_of_lt h]
def mK{i n a K:Nat}(hi:i<n)(ha:a<K):i*K+a<n*K:=by
 have:(i+1)*K<=n*K:=bD K hi;rw[mC]at this;omega
variable {e:A->Nat->A}{K:Nat}{s0:A}
def bfs_step{i a:Nat}{x:A×A2}(ha:a<K)(hx:(bfsB e K s0 (i*K+a))[i]?=some x) :
  bfsB e K s0 (i*K+(a+1))=if e x.1 a∈(bfsB e K s0 (i*K+a)).map Prod.fst then bfsB e K s0 (i*K+a) else bfsB e K s0 (i*K+a)++[(e x.1 a,x.2++[(a:Int)])]:=by
 show bfsB e K s0 ((i*K+a)+1)=_;rw[bfsB,jM ha,hx,dm_mod ha]
def xP(r:Nat):bfsB e K s0 r <+: bfsB e K s0 (r+1):=by
 rw[bfsB];split
 ·exact eC _
 ·split
  ·exact eC _
  ·exact HP _ _
def lC{r:Nat}:∀{r':Nat},r<=r'->bfsB e K s0 r <+: bfsB e K s0 r'
 |0,h=>by
  have:r=0:=by omega
  subst this;exact eC _
 |r'+1,h=>by
  rcases L8 r (r'+1) with g|g
  ·exact(lC (r':=r') (by omega)).trans (xP r')
  ·have:r=r'+1:=by omega
   subst this;exact eC _
def fV{V:Type}{l l':List V}(h:l <+: l'){i:Nat}{x:V}(hx:l[i]?=some x):l'[i]?=some x:=by
 obtain⟨t,rfl⟩:=h;rw[jI (G4.1 hx).1,hx]
def bfs_pos(r:Nat):(bfsB e K s0 r)[0]?=some (s0,[]):=fV (lC (F8 r)) rfl
def bfs_nodup:∀r:Nat,((bfsB e K s0 r).map Prod.fst).Nodup
 |0=>by simp[bfsB]
 |r+1=>by
  have ih:=bfs_nodup r;rw[bfsB];split
  ·exact ih
  ·split
   ·exact ih
   ·rename_i x _ hn;rw[N3,aF];refine⟨ih,by simp,λa ha b hb hab=>hn ?_⟩;have:b=e x.1 (r%K):=by simpa using hb
    rw[<- this,<- hab];exact ha
def xQ:∀{r u:Nat} {x:A×A2},(bfsB e K s0 r)[u]?=some x->u=0\/∃r' y,r'<r/\r' / K<u/\(bfsB e K s0 r)[r' / K]?=some y/\x=(e y.1 (r'%K),y.2++[(↑(r'%K):Int)])
 |0,u,x,h=>by
  left;have:=(G4.1 h).1;simp[bfsB]at this;exact this
 |r+1,u,x,h=>by
  have old:(bfsB e K s0 r)[u]?=some x->u=0\/∃r' y,r'<r+1/\r' / K<u/\(bfsB e K s0 (r+1))[r' / K]?=some y/\x=(e y.1 (r'%K),y.2++[(↑(r'%K):Int)]):=λh=>by
   rcases xQ h with h|⟨r',y,h1,h2,h3,h4⟩
   ·exact Or.inl h
   ·exact Or.inr ⟨r',y,by omega,h2,fV (xP r) h3,h4⟩
  have hh:=h;rw[bfsB]at h;split at h
  ·exact old h
  ·rename_i y hy;split at h
   ·exact old h
   ·rename_i hn;rcases L8 u (bfsB e K s0 r).length with g|g
    ·rw[jI g]at h;exact old h
    ·right;rw[lB g]at h
     have hu:u-(bfsB e K s0 r).length=0:=by
      have:=(G4.1 h).1;simpa using this
     rw[hu]at h
     have hx:x=(e y.1 (r%K),y.2++[(↑(r%K):Int)]):=by
      simp at h;exact h.symm
     have hk:=(G4.1 hy).1;exact⟨r,y,by omega,by omega,fV (xP r) hy,hx⟩
def bfs_to{r:Nat}{x:A×A2}(hx:(bfsB e K s0 r)[r / K]?=some x):e x.1 (r%K)∈(bfsB e K s0 (r+1)).map Prod.fst:=by
 rw[bfsB,hx];simp only;split
 ·assumption
 ·simp
structure gY(e:A->Nat->A)(K:Nat)(s0:A)(L:List (A×A2)):Prop where
 eq:L=bfsB e K s0 (L.length*K)
variable {L:List (A×A2)}
def gY.at(h:gY e K s0 L){r:Nat}(hr:r<=L.length*K):bfsB e K s0 r <+: L:=by
 have:=lC (e:=e) (K:=K) (s0:=s0) hr;rw[<- h.eq]at this;exact this
def gY.first(h:gY e K s0 L):L[0]?=some (s0,[]):=by
 rw[h.eq];exact bfs_pos _
def gY.long(h:gY e K s0 L){i a:Nat}(hi:i<L.length)(ha:a<K):∃x,L[i]?=some x/\(bfsB e K s0 (i*K+a))[i]?=some x:=by
 refine⟨_,L4 hi,?_⟩;have a2:=h.at (r:=i*K+a) (by have:=mK hi ha;omega);rcases L8 i (bfsB e K s0 (i*K+a)).length with g|g
 ·have:=fV a2 (L4 g);rw[L4 hi]at this;rw[L4 g,this]
 ·exfalso
  have a3:∀d,bfsB e K s0 (i*K+a+d)=bfsB e K s0 (i*K+a):=by
   intro d
   induction d with
   |zero=>rfl
   |succ d ih =>
    show bfsB e K s0 (i*K+a+d+1)=_;rw[bfsB,ih,fM ?_];have h1:(i*K+a) / K<=(i*K+a+d) / K:=BS (by omega);rw[jM ha]at h1;omega
  have h2:=a3 (L.length*K-(i*K+a));rw[show i*K+a+(L.length*K-(i*K+a))=L.length*K by have:=mK hi ha;omega,<- h.eq]at h2;rw[<- h2]at g;omega
def gY.closed(h:gY e K s0 L){i a:Nat}{x:A×A2}(hx:L[i]?=some x)(ha:a<K):∃j y,L[j]?=some y/\y.1=e x.1 a/\∀u,0<u->u<=j->∃i' a' z w,a'<K/\i'*K+a'<=i*K+a/\i'<u/\L[i']?=some z/\L[u]?=some w/\w.1=e z.1 a':=by
 have hi:=(G4.1 hx).1;obtain⟨x',h1,h2⟩:=h.long hi ha;rw[hx]at h1;injection h1 with h1
 subst h1;have a8:=mK hi ha;have a2:=h.at (r:=i*K+a+1) (by omega);have h3:=bfs_to (e:=e) (K:=K) (s0:=s0) (r:=i*K+a) (x:=x) (by rw[jM ha];exact h2);rw[dm_mod ha]at h3;obtain⟨y,hy,a6⟩:=D8.1 h3;obtain⟨j,hj,a5⟩:=Q4.1 hy;have a3:(bfsB e K s0 (i*K+a+1))[j]?=some y:=by rw[L4 hj,a5]
 refine⟨j,y,fV a2 a3,a6,λu hu a7=>?_⟩;have a4:u<(bfsB e K s0 (i*K+a+1)).length:=by omega
 have hw:=L4 a4;rcases xQ hw with q|⟨r',z,q1,q2,q3,q4⟩
 ·omega
 ·have hK:0<K:=by omega
  refine⟨r' / K,r'%K,z,_,wR _ hK,?_,q2,fV a2 q3,fV a2 hw,by rw[q4]⟩;have:=CE r' K;rw[sL]at this;omega
end
end
section
def E(m:B7):Nat->Nat->Nat->Prop
 |0,_,_=>True
 |k+1,s,t=>E m k s t/\∀a,a<m.I.toNat->ot m s a=ot m t a/\E m k (nx m s a) (nx m t a)
section
variable {m:B7}
def E_refl:∀(k s:Nat),E m k s s
 |0,_=>trivial
 |k+1,s=>⟨E_refl k s,λ_ _=>⟨rfl,E_refl k _⟩⟩
def E_symm:∀{k s t:Nat},E m k s t->E m k t s
 |0,_,_,_=>trivial
 |_+1,_,_,h=>⟨E_symm h.1,λa ha=>⟨(h.2 a ha).1.symm,E_symm (h.2 a ha).2⟩⟩
def qH:∀{k s t u:Nat},E m k s t->E m k t u->E m k s u
 |0,_,_,_,_,_=>trivial
 |_+1,_,_,_,h,g=>⟨qH h.1 g.1,λa ha=>⟨(h.2 a ha).1.trans (g.2 a ha).1,qH (h.2 a ha).2 (g.2 a ha).2⟩⟩
def E_mono{k j s t:Nat}(hk:k<=j)(h:E m j s t):E m k s t:=by
 induction j with
 |zero =>
  have e:k=0:=by omega
  subst e;exact h
 |succ j ih =>
  rcases L8 k (j+1) with h1|h1
  ·exact ih (by omega) h.1
  ·have e:k=j+1:=by omega
   subst e;exact h
def E_outs:∀{w:A2} {s t:Nat},E m w.length s t->WOk m.I w->outs m s w=outs m t w
 |[],_,_,_,_=>rfl
 |a::w,s,t,h,hw=>by
  have ha:=hw.head;obtain⟨h1,h2⟩:=h.2 a.toNat (by omega);show ot m s a.toNat::outs m _ w=ot m t a.toNat::outs m _ w;rw[h1,E_outs (w:=w) h2 hw.tail]
def E_of_outs:∀{k s t:Nat},(∀w,w.length<=k->WOk m.I w->outs m s w=outs m t w)->E m k s t
 |0,_,_,_=>trivial
 |k+1,s,t,h=>⟨E_of_outs λw hl hw=>h w (by omega) hw,λa ha=>by
  have hx:∀w,w.length<=k->WOk m.I w->ot m s a=ot m t a/\outs m (nx m s a) w=outs m (nx m t a) w:=λw hl hw=>by
   have h1:=h ((a:Int)::w) (by simp;omega) (λx hx=>by
    rcases I2.1 hx with rfl|hx
    ·exact⟨by omega,by omega⟩
    ·exact hw x hx)
   have h2:ot m s a::outs m (nx m s a) w=ot m t a::outs m (nx m t a) w:=h1
   injection h2 with h3 h4
   exact⟨h3,h4⟩
  exact⟨(hx [] (F8 _) (λx hx=>by cases hx)).1,E_of_outs λw hl hw=>(hx w hl hw).2⟩⟩
structure ClsOk(m:B7)(k:Nat)(c:A2):Prop where
 len:c.length=m.N.length
 rng:∀s,s<m.N.length->∃x:Nat,c[s]?=some (x:Int)/\x<m.N.length
 cls:∀s t,s<m.N.length->t<m.N.length->(c[s]?=c[t]?↔E m k s t)
structure FinOk(m:B7)(k:Nat)(y:A2)(n s:Nat):Prop where
 ls:s<=m.N.length
 len:y.length=s
 cnt:n<=s
 rng:∀i,i<s->∃x:Nat,y[i]?=some (x:Int)/\x<n
 cls:∀i j,i<s->j<s->(y[i]?=y[j]?↔E m k i j)
def IG{V:Type}{p q:V->Bool}:∀{l:List V},(∀x∈l,p x=true->q x=true)->l.countP q<=l.countP p->∀x∈l,q x=true->p x=true
 |[],_,_,x,hx,_=>by cases hx
 |y::l,h,hc,x,hx,hq=>by
  have h1:l.countP p<=l.countP q:=List.countP_mono_left λx hx=>h x (K3 _ hx);rw[List.countP_cons,List.countP_cons]at hc;have h2:=h y (aP ..)
  have h3:l.countP q<=l.countP p/\(q y=true->p y=true):=by
   cases e1:q y<;>cases e2:p y<;>simp[e1,e2]at hc h2 ⊢<;>omega
  rcases I2.1 hx with rfl|hx
  ·exact h3.2 hq
  ·exact IG (λx hx=>h x (K3 _ hx)) h3.1 x hx hq
def Rep(m:B7)(k s:Nat):Prop:=∀t,t<s->¬E m k s t
open Classical in
noncomputable def nreps(m:B7)(k:Nat):Nat:=(List.range m.N.length).countP λs=>decide (Rep m k s)
def rep_exists(k:Nat):∀(s:Nat),∃r,r<=s/\Rep m k r/\E m k s r:=by
 intro s
 induction s using Nat.strongRecOn with
 |ind s ih =>
  by_cases h:Rep m k s
  ·exact⟨s,H4 _,h,E_refl _ _⟩
  ·have⟨t,h1⟩:=Classical.not_forall.1 h;obtain⟨h2,h3⟩:=Classical.not_imp.1 h1;have h3:=jF.1 h3;obtain⟨r,r1,r2,r3⟩:=ih t h2;exact⟨r,by omega,r2,qH h3 r3⟩
def Stab(m:B7)(k:Nat):Prop:=∀s t,s<m.N.length->t<m.N.length->E m k s t->E m (k+1) s t
def rep_succ{k s:Nat}(h:Rep m k s):Rep m (k+1) s:=λt ht hE=>h t ht hE.1
open Classical in
open Classical in
def stab_of{k:Nat}(h:nreps m (k+1)<=nreps m k):Stab m k:=by
 intro s t hs ht hE;unfold nreps at h;have key:=IG (l:=List.range m.N.length) (λs _ h=>D3 (rep_succ (of_decide_eq_true h))) h;obtain⟨r,r1,r2,r3⟩:=rep_exists (m:=m) (k+1) s;obtain⟨u,u1,u2,u3⟩:=rep_exists (m:=m) (k+1) t;have r4:Rep m k r:=of_decide_eq_true (key r (M8.2 (by omega)) (D3 r2));have u4:Rep m k u:=of_decide_eq_true (key u (M8.2 (by omega)) (D3 u2));have a2:E m k r u:=qH (E_symm r3.1) (qH hE u3.1)
 have e:r=u:=by
  rcases eE r u with h1|h1|h1
  ·exact absurd (E_symm a2) (u4 r h1)
  ·exact h1
  ·exact absurd a2 (r4 u h1)
 subst e;exact qH r3 (E_symm u3)
def stab_succ(H:N0 m){k:Nat}(h:Stab m k):Stab m (k+1):=λs t hs ht hE =>
 ⟨hE,λa ha=>⟨(hE.2 a ha).1,h _ _ (H.at hs ha).1 (H.at ht ha).1 (hE.2 a ha).2⟩⟩
def stab_add(H:N0 m){k:Nat}(h:Stab m k):∀j,Stab m (k+j)
 |0=>h
 |j+1=>stab_succ H (stab_add H h j)
open Classical in
def stab_exists(H:N0 m):∃k,k<m.N.length/\Stab m k:=by
 refine Q5 λa3=>?_
 have a2:∀k,k<=m.N.length->k+1<=nreps m k:=by
  intro k
  induction k with
  |zero =>
   intro _;unfold nreps;have:0<(List.range m.N.length).countP λs=>@decide (Rep m 0 s) (Classical.propDecidable _):=List.countP_pos_iff.2 ⟨0,M8.2 H.n1,D3 λt ht=>absurd ht (CC _)⟩;exact this
  |succ k ih =>
   intro hk;have h1:=ih (by omega);rcases L8 (nreps m k) (nreps m (k+1)) with h2|h2
   ·omega
   ·exact absurd ⟨k,by omega,stab_of h2⟩ a3
 have h1:=a2 _ (H4 _);have h2:nreps m m.N.length<=(List.range m.N.length).length:=List.countP_le_length;rw[aE]at h2;omega
def E_all(H:N0 m){s t:Nat}(hs:s<m.N.length)(ht:t<m.N.length)(h:E m m.N.length s t)(j:Nat):E m j s t:=by
 obtain⟨k,hk,hS⟩:=stab_exists H
 have key:∀i,E m (k+i) s t:=by
  intro i
  induction i with
  |zero=>exact E_mono (by omega) h
  |succ i ih=>exact stab_add H hS i s t hs ht ih
 exact E_mono (by omega) (key j)
end
end
section
def nodup_le{V:Type}[DecidableEq V]:∀{l l':List V},l.Nodup->(∀x∈l,x∈l')->l.length<=l'.length
 |[],_,_,_=>F8 _
 |x::l,l',h,hs=>by
  have h1:=dZ.1 h;have hx:=hs x (by simp);have ih:=nodup_le (l:=l) (l':=l'.erase x) h1.2 (λy hy=>(List.mem_erase_of_ne (λe=>h1.1 (by rw[<- e];exact hy))).2 (hs y (K3 _ hy)));rw[MK hx]at ih;have:=HI hx;simp only[H7];omega
structure Num(m:B7)(c:A2)(ord:List Nat)(num:A2):Prop where
 rng:∀u∈ord,u<m.N.length
 start:ord[0]?=some m.S.toNat
 len:num.length=m.N.length
 n1:∀j u x:Nat,ord[j]?=some u->c[u]?=some (x:Int)->num[x]?=some (j:Int)
 n2:∀x:Nat,x<m.N.length->num[x]?=some (-1:Int)\/∃j u:Nat,num[x]?=some (j:Int)/\ord[j]?=some u/\c[u]?=some (x:Int)
 reach:∀j u:Nat,ord[j]?=some u->j=0\/∃i v a:Nat,i<j/\ord[i]?=some v/\a<m.I.toNat/\u=nx m v a
section
variable {m:B7}{c num:A2}{ord:List Nat}{k:Nat}
structure RowAt(m:B7)(c:A2)(ord:List Nat)(v:Nat)(row out:A2)(a:Nat):Prop where
 l1:row.length=a
 l2:out.length=a
 cell:∀b,b<a->∃j u:Nat,row[b]?=some (j:Int)/\ord[j]?=some u/\c[u]?=c[nx m v b]?/\out[b]?=some (ot m v b)
structure MinOk(m M:B7)(c:A2)(ord:List Nat)(num:A2):Prop where
 cls:ClsOk m m.N.length c
 num:Num m c ord num
 inp:M.I=m.I
 start:M.S=0
 l1:M.N.length=ord.length
 l2:M.O.length=ord.length
 row:∀i v:Nat,ord[i]?=some v->∃row out,M.N[i]?=some row/\M.O[i]?=some out/\RowAt m c ord v row out m.I.toNat
end
end
section
section
variable {m:B7}
abbrev MEnd(m:B7)(s0:Nat)(L:List (Nat×A2)):Prop:=gY (nx m) m.I.toNat s0 L
structure SeenOk(n:Nat)(y:List Bool)(l:List Nat):Prop where
 len:y.length=n
 at_:∀t,t<n->y[t]?=some (decide (t∈l))
end
end
section
section
variable {m:B7}
end
end
section
def bfs_stay{A:Type}[DecidableEq A]{e:A->Nat->A}{K:Nat}{s0:A}{L:List (A×A2)}(h:gY e K s0 L)(hK:0<K):∀d,bfsB e K s0 (L.length*K+d)=L
 |0=>h.eq.symm
 |d+1=>by
  have ih:=bfs_stay h hK d;show bfsB e K s0 (L.length*K+d+1)=L;rw[bfsB,ih,fM ?_];have h1:(L.length*K) / K<=(L.length*K+d) / K:=BS (by omega);rw[Nat.mul_div_cancel _ hK]at h1;exact h1
section
variable {a b:B7}
def pE(a b:B7)(p:Nat×Nat)(x:Nat):Nat×Nat:=(nx a p.1 x,nx b p.2 x)
def pB(a b:B7)(p0:Nat×Nat)(r:Nat):List ((Nat×Nat)×A2):=bfsB (pE a b) a.I.toNat p0 r
abbrev PEnd(a b:B7)(p0:Nat×Nat)(L:List ((Nat×Nat)×A2)):Prop:=gY (pE a b) a.I.toNat p0 L
def difB(a b:B7)(p0:Nat×Nat)(r:Nat):Bool:=match (pB a b p0 r)[r / a.I.toNat]? with
 |some x=>decide (ot a x.1.1 (r%a.I.toNat)≠ot b x.1.2 (r%a.I.toNat))
 |none=>false
def nW{p0:Nat×Nat}{i c:Nat}{x:(Nat×Nat)×A2}(hc:c<a.I.toNat)(hx:(pB a b p0 (i*a.I.toNat+c))[i]?=some x):difB a b p0 (i*a.I.toNat+c)=decide (ot a x.1.1 c≠ot b x.1.2 c):=by
 unfold difB;rw[jM hc,hx,dm_mod hc]
structure Two(a b:B7):Prop where
 a1:N0 a
 b1:N0 b
 inp:a.I=b.I
def mN(T:Two a b){p0:Nat×Nat}(h1:p0.1<a.N.length)(h2:p0.2<b.N.length):∀(r:Nat),∀x∈pB a b p0 r,x.1.1<a.N.length/\x.1.2<b.N.length/\x.2.length<=r/\dest a p0.1 x.2=x.1.1/\dest b p0.2 x.2=x.1.2/\WOk a.I x.2
 |0,x,hx=>by
  have:x=(p0,[]):=by simpa[pB,bfsB]using hx
  subst this;exact⟨h1,h2,H4 _,rfl,rfl,λa ha=>by cases ha⟩
 |r+1,x,hx=>by
  have ih:=mN T h1 h2 r
  have a3:x∈pB a b p0 r->x.1.1<a.N.length/\x.1.2<b.N.length/\x.2.length<=r+1/\dest a p0.1 x.2=x.1.1/\dest b p0.2 x.2=x.1.2/\WOk a.I x.2:=λh=>by
   have:=ih x h;exact⟨this.1,this.2.1,by omega,this.2.2.2⟩
  unfold pB at hx;rw[bfsB]at hx;split at hx
  ·exact a3 hx
  ·rename_i y hy;split at hx
   ·exact a3 hx
   ·rcases K0.1 hx with h|h
    ·exact a3 h
    ·have hK:0<a.I.toNat:=by have:=T.a1.i1;omega
     have a2:=ih y (H8 hy);have ha:=wR r hK;have a5:x=(pE a b y.1 (r%a.I.toNat),y.2++[(↑(r%a.I.toNat):Int)]):=by simpa using h
     subst a5;refine⟨(T.a1.at a2.1 ha).1,(T.b1.at a2.2.1 (by rw[<- T.inp];exact ha)).1,by simp;omega,?_,?_,?_⟩
     ·simp only;rw[kG,a2.2.2.2.1];show nx a y.1.1 (Int.toNat _)=_;rw[P0];rfl
     ·simp only;rw[kG,a2.2.2.2.2.1];show nx b y.1.2 (Int.toNat _)=_;rw[P0];rfl
     ·refine WOk.append a2.2.2.2.2.2 λz a4=>?_;have:z=(↑(r%a.I.toNat):Int):=by simpa using a4
      subst this;omega
def pB_len(T:Two a b){p0:Nat×Nat}(h1:p0.1<a.N.length)(h2:p0.2<b.N.length)(r:Nat):(pB a b p0 r).length<=a.N.length*b.N.length:=by
 have hn:=bfs_nodup (e:=pE a b) (K:=a.I.toNat) (s0:=p0) r;have:=nodup_le (l:=(((pB a b p0 r).map Prod.fst).map λp=>p.1*b.N.length+p.2)) (l':=List.range (a.N.length*b.N.length)) ?_ λx hx=>?_
 ·rwa [E1,E1,aE]at this
 ·refine List.Pairwise.map _ (R:=λp q=>p∈(pB a b p0 r).map Prod.fst/\q∈(pB a b p0 r).map Prod.fst/\p≠q) (λp q ⟨hp,hq,a2⟩ he=>?_) (List.Pairwise.imp_of_mem (λ{p q} hp hq a2=>⟨hp,hq,a2⟩) hn);obtain⟨x,hx,rfl⟩:=D8.1 hp;obtain⟨y,hy,rfl⟩:=D8.1 hq;have a4:=(mN T h1 h2 r x hx).2.1;have a3:=(mN T h1 h2 r y hy).2.1;have he:x.1.1*b.N.length+x.1.2=y.1.1*b.N.length+y.1.2:=he;have e1:=jM (i:=x.1.1) a4;have e2:=jM (i:=y.1.1) a3;have e3:=dm_mod (i:=x.1.1) a4;have e4:=dm_mod (i:=y.1.1) a3;rw[he]at e1 e3;exact a2 (Prod.ext (by rw[<- e1,e2]) (by rw[<- e3,e4]))
 ·obtain⟨p,hp,rfl⟩:=D8.1 hx;obtain⟨y,hy,rfl⟩:=D8.1 hp;exact M8.2 (mK (mN T h1 h2 r y hy).1 (mN T h1 h2 r y hy).2.1)
def pB_step{p0:Nat×Nat}{i c:Nat}{x:(Nat×Nat)×A2}(hc:c<a.I.toNat)(hx:(pB a b p0 (i*a.I.toNat+c))[i]?=some x) :
  pB a b p0 (i*a.I.toNat+(c+1))=if pE a b x.1 c∈(pB a b p0 (i*a.I.toNat+c)).map Prod.fst then pB a b p0 (i*a.I.toNat+c) else pB a b p0 (i*a.I.toNat+c)++[(pE a b x.1 c,x.2++[(c:Int)])]:=by
 have h:=bfs_step (e:=pE a b) (s0:=p0) hc hx;by_cases g:pE a b x.1 c∈(pB a b p0 (i*a.I.toNat+c)).map Prod.fst
 ·rw[if_pos g];exact h.trans (if_pos g)
 ·rw[if_neg g];exact h.trans (if_neg g)
def pB_next{p0:Nat×Nat}{i:Nat}:pB a b p0 (i*a.I.toNat+a.I.toNat)=pB a b p0 ((i+1)*a.I.toNat):=by rw[mC]
def pB_get{p0:Nat×Nat}{i r:Nat}{x:(Nat×Nat)×A2}(hx:(pB a b p0 (i*a.I.toNat))[i]?=some x)(hr:i*a.I.toNat<=r):(pB a b p0 r)[i]?=some x:=fV (lC hr) hx
def Fst(a b:B7)(p0:Nat×Nat)(res:A2×Bool):Prop :=
 (∃i c x,c<a.I.toNat/\(pB a b p0 (i*a.I.toNat+c))[i]?=some x/\ot a x.1.1 c≠ot b x.1.2 c/\(∀r,r<i*a.I.toNat+c->difB a b p0 r=false)/\res=(x.2++[(c:Int)],true)) \/
 (∃L,PEnd a b p0 L/\(∀r,r<L.length*a.I.toNat->difB a b p0 r=false)/\res=([],false))
def fst_uniq(hK:0<a.I.toNat){p0:Nat×Nat}{u v:A2×Bool}(hu:Fst a b p0 u)(hv:Fst a b p0 v):u=v:=by
 have a2:∀{u v:A2×Bool},(∃i c x,c<a.I.toNat/\(pB a b p0 (i*a.I.toNat+c))[i]?=some x/\ot a x.1.1 c≠ot b x.1.2 c/\(∀r,r<i*a.I.toNat+c->difB a b p0 r=false)/\u=(x.2++[(c:Int)],true))->(∃L,PEnd a b p0 L/\(∀r,r<L.length*a.I.toNat->difB a b p0 r=false)/\v=([],false))->False:=by
  rintro u v ⟨i,c,x,h1,h2,h3,h4,_⟩ ⟨L,h6,h7,_⟩;rcases L8 (i*a.I.toNat+c) (L.length*a.I.toNat) with g|g
  ·have:=h7 _ g;rw[nW h1 h2,D3 h3]at this;cases this
  ·have hs:=bfs_stay h6 hK (i*a.I.toNat+c-L.length*a.I.toNat);rw[show L.length*a.I.toNat+(i*a.I.toNat+c-L.length*a.I.toNat)=i*a.I.toNat+c by omega]at hs;have a3:(bfsB (pE a b) a.I.toNat p0 (i*a.I.toNat+c))[i]?=some x:=h2;rw[hs]at a3;have hi:=(G4.1 a3).1;have:=mK hi h1;omega
 rcases hu with hu|hu<;>rcases hv with hv|hv
 ·obtain⟨i,c,x,h1,h2,h3,h4,rfl⟩:=hu;obtain⟨i',c',x',g1,g2,g3,g4,rfl⟩:=hv
  have hr:i*a.I.toNat+c=i'*a.I.toNat+c':=by
   rcases eE (i*a.I.toNat+c) (i'*a.I.toNat+c') with q|q|q
   ·have:=g4 _ q;rw[nW h1 h2,D3 h3]at this;cases this
   ·exact q
   ·have:=h4 _ q;rw[nW g1 g2,D3 g3]at this;cases this
  have e1:i=i':=by rw[<- jM (i:=i) h1,hr,jM g1]
  subst e1;have e2:c=c':=by omega
  subst e2;rw[h2]at g2;injection g2 with g2
  rw[g2]
 ·exact(a2 hu hv).elim
 ·exact(a2 hv hu).elim
 ·obtain⟨_,_,_,rfl⟩:=hu;obtain⟨_,_,_,rfl⟩:=hv;rfl
end
end
section
section
variable {a b:B7}
def plC(x:(Nat×Nat)×A2):Y7:=⟨⟨(x.1.1:Int),(x.1.2:Int)⟩,x.2⟩
def prC(x:(Nat×Nat)×A2):aN:=⟨(x.1.1:Int),(x.1.2:Int),x.2⟩
def jQ{V G:Type}{f:V->G}{l:List V}{i:Nat}{x:V}(h:l[i]?=some x):(l.map f)[i]?=some (f x):=by rw[K5,h];rfl
structure SeenG(n k:Nat)(y:List (List Bool))(l:E7):Prop where
 len:y.length=n
 at_:∀s t,s<n->t<k->∃row,y[s]?=some row/\row.length=k/\row[t]?=some (decide ((s,t)∈l))
def pair_mem{l:E7}{p q:Nat×Nat}(h:p≠q):p∈l↔p∈l++[q]:=by
 rw[K0,K2];exact⟨Or.inl,λz=>z.elim id λe=>absurd e h⟩
def SeenG.push{n k s t:Nat}{y:List (List Bool)}{l:E7}{row:List Bool}(S:SeenG n k y l)(hs:s<n)(ht:t<k)(hr:y[s]?=some row):SeenG n k (y.set s (row.set t true)) (l++[(s,t)]):=by
 refine⟨by simp[S.len],λu v hu hv=>?_⟩;obtain⟨a2,h1,h2,h3⟩:=S.at_ u v hu hv;by_cases h:s=u
 ·subst h;rw[hr]at h1;injection h1 with h1
  subst h1;refine⟨row.set t true,by rw[pY (by rw[S.len];exact hs)],by simp[h2],?_⟩;by_cases g:t=v
  ·subst g;rw[pY (by omega)];simp
  ·rw[qA g,h3];congr 1;apply decide_eq_decide.2;exact pair_mem λe=>g (congrArg Prod.snd e).symm
 ·refine⟨a2,by rw[qA h,h1],h2,?_⟩;rw[h3];congr 1;apply decide_eq_decide.2;exact pair_mem λe=>h (congrArg Prod.fst e).symm
def seenG_nil(n k:Nat):SeenG n k (List.replicate n (List.replicate k false)) []:=⟨by simp,λs t hs ht=>⟨List.replicate k false,by simp[hs],by simp,by simp[ht]⟩⟩
def big_sum{i c n k K:Nat}(hi:i<=n*k)(hn:n<=128)(hk:k<=128)(hK:K<=64)(hc:c<=64):i*K+c<=1048640:=by
 have h1:n*k<=128*128:=jH hn hk;have h2:i*K<=(128*128)*64:=jH (by omega) hK;omega
def search_row(T:Two a b){p0:Nat×Nat}(h1:p0.1<a.N.length)(h2:p0.2<b.N.length){i:Nat}{x:(Nat×Nat)×A2}{y:List (List Bool)}(hi:i<=a.N.length*b.N.length)
  (hx:(pB a b p0 (i*a.I.toNat))[i]?=some x) (S:SeenG a.N.length b.N.length y ((pB a b p0 (i*a.I.toNat)).map Prod.fst)) (hd:∀r,r<i*a.I.toNat->difB a b p0 r=false) :
  ∃r,iter (λ(s:List (List Bool)×List Y7×Nat)=>T6.s20 a b i (plC x) s.1 s.2.1 s.2.2) fuel (y,(pB a b p0 (i*a.I.toNat)).map plC,0)=some r /\
   ((∃y',r=.inl (y',(pB a b p0 ((i+1)*a.I.toNat)).map plC)/\SeenG a.N.length b.N.length y' ((pB a b p0 ((i+1)*a.I.toNat)).map Prod.fst)/\∀r,r<(i+1)*a.I.toNat->difB a b p0 r=false) \/
   (∃res,r=.inr (.inr (.inr res))/\Fst a b p0 res)):=by
 have b2:=T.a1.n2;have b0:=T.b1.n2;have hI:=T.a1.i2;have a9:=mN T h1 h2 _ x (H8 hx)
 obtain⟨r,hr,hq⟩:=cW (step:=λ(s:List (List Bool)×List Y7×Nat)=>T6.s20 a b i (plC x) s.1 s.2.1 s.2.2) (λs=>s.2.2<=a.I.toNat/\s.2.1=(pB a b p0 (i*a.I.toNat+s.2.2)).map plC/\SeenG a.N.length b.N.length s.1 ((pB a b p0 (i*a.I.toNat+s.2.2)).map Prod.fst)/\∀r,r<i*a.I.toNat+s.2.2->difB a b p0 r=false) (λs=>a.I.toNat-s.2.2) (λr=>(∃y',r=.inl (y',(pB a b p0 ((i+1)*a.I.toNat)).map plC)/\SeenG a.N.length b.N.length y' ((pB a b p0 ((i+1)*a.I.toNat)).map Prod.fst)/\∀r,r<(i+1)*a.I.toNat->difB a b p0 r=false)\/(∃res,r=.inr (.inr (.inr res))/\Fst a b p0 res)) (λs ⟨q1,q2,q3,q4⟩=>by
  obtain⟨y,l,c⟩:=s
  simp only at q1 q2 q3 q4
  subst q2
  simp only[T6.s20]
  by_cases g:c<a.I.toNat
  ·have a4:=pB_get hx (r:=i*a.I.toNat+c) (by omega)
   obtain⟨g1,_,_,ra,oa,e1,e2,e3,e4⟩:=T.a1.at a9.1 g
   obtain⟨f1,_,_,rb,ob,d1,d2,d3,d4⟩:=T.b1.at a9.2.1 (a:=c) (by rw[<- T.inp];exact g)
   have b4:=big_sum (c:=c) hi b2 b0 (K:=a.I.toNat) (by omega) (by omega)
   have b5:=pB_len T h1 h2 (i*a.I.toNat+c)
   have b6:a.N.length*b.N.length<=128*128:=jH b2 b0
   rw[C9,F9 (n:=(plC x).at_.s) (i:=x.1.1) rfl e2,C6 e4,F9 (n:=(plC x).at_.t) (i:=x.1.2) rfl d2,C6 d4]
   by_cases a5:ot a x.1.1 c≠ot b x.1.2 c
   ·right
    rw[C9 a5,C6 (jQ a4)]
    show ∃r,((aW [x.2,[(c:Int)]]).bind _:Option _)=_/\_
    rw[iU _ (by simp) (by simp;omega),A5]
    refine⟨_,rfl,Or.inr ⟨_,rfl,Or.inl ⟨i,c,x,g,a4,a5,q4,?_⟩⟩⟩
    simp
   ·left
    have b7:ot a x.1.1 c=ot b x.1.2 c:=Q5 a5
    have a8:∀r,r<i*a.I.toNat+(c+1)->difB a b p0 r=false:=λr hr=>by
     rcases L8 r (i*a.I.toNat+c) with q|q
     ·exact q4 r q
     ·have:r=i*a.I.toNat+c:=by omega
      rw[this,nW g a4,E2 a5]
    have a3:=pB_step g a4
    obtain⟨row,r1,r2,r3⟩:=q3.at_ _ _ g1 f1
    have b3:x.1∈(pB a b p0 (i*a.I.toNat+c)).map Prod.fst:=D8.2 ⟨x,H8 a4,rfl⟩
    have a7:((cond (!(decide ((↑(nx a x.1.1 c):Int)=(plC x).at_.s)&&(decide ((↑(nx b x.1.2 c):Int)=(plC x).at_.t)&&true))) (idx y (↑(nx a x.1.1 c):Int) λa2=>idx a2 (↑(nx b x.1.2 c):Int) λa6=>some (!a6)) (some false):Option Bool))=some (!decide (pE a b x.1 c∈(pB a b p0 (i*a.I.toNat+c)).map Prod.fst)):=by
     by_cases z:pE a b x.1 c=x.1
     ·have z1:nx a x.1.1 c=x.1.1:=congrArg Prod.fst z
      have z2:nx b x.1.2 c=x.1.2:=congrArg Prod.snd z
      rw[D3 (show(↑(nx a x.1.1 c):Int)=(plC x).at_.s by rw[z1];rfl),D3 (show(↑(nx b x.1.2 c):Int)=(plC x).at_.t by rw[z2];rfl),z,D3 b3]
      rfl
     ·have:(!(decide ((↑(nx a x.1.1 c):Int)=(plC x).at_.s)&&(decide ((↑(nx b x.1.2 c):Int)=(plC x).at_.t)&&true)))=true:=by
       by_cases z1:nx a x.1.1 c=x.1.1
       ·have z2:nx b x.1.2 c≠x.1.2:=λq=>z (Prod.ext z1 q)
        rw[E2 (show ¬(↑(nx b x.1.2 c):Int)=(plC x).at_.t from λq=>z2 (Int.ofNat_inj.1 q))]
        simp
       ·rw[E2 (show ¬(↑(nx a x.1.1 c):Int)=(plC x).at_.s from λq=>z1 (Int.ofNat_inj.1 q))]
        rfl
      rw[this,D2,F9 rfl r1,F9 rfl r3]
      rfl
    rw[B5 a5,F9 (n:=(plC x).at_.s) (i:=x.1.1) rfl e1,C6 e3,F9 (n:=(plC x).at_.t) (i:=x.1.2) rfl d1,C6 d3,a7,A5]
    by_cases hm:pE a b x.1 c∈(pB a b p0 (i*a.I.toNat+c)).map Prod.fst
    ·rw[if_pos hm]at a3
     refine⟨(y,(pB a b p0 (i*a.I.toNat+c)).map plC,c+1),by rw[D3 hm,N2,D6,K1],⟨g,by simp only;rw[a3],by simp only;rw[a3];exact q3,a8⟩,by simp only;omega⟩
    ·rw[if_neg hm]at a3
     refine⟨(y.set (nx a x.1.1 c) (row.set (nx b x.1.2 c) true),(pB a b p0 (i*a.I.toNat+c)).map plC++[plC (pE a b x.1 c,x.2++[(c:Int)])],c+1),?_,⟨g,by simp only;rw[a3,N3];rfl,by simp only;rw[a3,N3];exact q3.push g1 f1 r1,a8⟩,by simp only;omega⟩
     rw[E2 hm,aG,D2,F9 rfl r1,F9 rfl r3,C6 (jQ a4)]
     show(aW [x.2,[(c:Int)]]).bind _=_
     rw[iU _ (by simp) (by simp;omega),A5,F0 (by unfold E5;rw[E1];omega),K1,P0,P0]
     simp[plC,pE]
  ·right
   have e':c=a.I.toNat:=by omega
   subst e'
   rw[pB_next]at q3 ⊢
   exact⟨_,by rw[B5],Or.inl ⟨_,rfl,q3,by rw[mC];exact q4⟩⟩) (y,(pB a b p0 (i*a.I.toNat)).map plC,0) ⟨F8 _,rfl,S,hd⟩
 exact⟨r,hr,hq⟩
def KO(T:Two a b){p0:Nat×Nat}(h1:p0.1<a.N.length)(h2:p0.2<b.N.length):∃res,T6 a b (⟨(p0.1:Int),(p0.2:Int)⟩:kI)=some res/\Fst a b p0 res:=by
 have a2:=T.a1.n2;have a3:=T.b1.n2;have hI:=T.a1.i2;have a6:a.N.length*b.N.length<=128*128:=jH a2 a3;unfold T6
 have grid:=O4 (step:=λ(s:List (List Bool)×Nat)=>T6.s2 a b s.1 s.2) (r:=List.replicate a.N.length (List.replicate b.N.length false)) (λs=>s.2<=a.N.length/\s.1=List.replicate s.2 (List.replicate b.N.length false)++List.replicate (a.N.length-s.2) []) (λs=>a.N.length-s.2) (λs ⟨q1,q2⟩=>by
  obtain⟨y,k⟩:=s
  simp only at q1 q2
  subst q2
  simp only[T6.s2]
  by_cases g:k<a.N.length
  ·left
   refine⟨(List.replicate (k+1) (List.replicate b.N.length false)++List.replicate (a.N.length-(k+1)) [],k+1),?_,⟨g,rfl⟩,by simp only;omega⟩
   have hk:(List.replicate k (List.replicate b.N.length false)++List.replicate (a.N.length-k) [])[k]?=some []:=by
    rw[lB (by simp),dG,sO,CJ,if_pos (by omega)]
   rw[dG,C9,F0 ⟨by omega,by omega,by unfold E5;omega⟩,C6 hk,K1]
   congr 4
   rw[List.set_append_right _ _ (by simp),dG,sO,show a.N.length-k=(a.N.length-(k+1))+1 by omega,List.replicate_succ,List.set_cons_zero,List.replicate_succ' (n:=k)]
   simp
  ·right
   have:k=a.N.length:=by omega
   subst this
   rw[dG,B5]
   simp) (n:=fuel) (s:=(List.replicate a.N.length [],0)) ⟨F8 _,by simp⟩
 obtain⟨row,r1,r2,r3⟩:=(seenG_nil a.N.length b.N.length).at_ _ _ h1 h2;have hS:=(seenG_nil a.N.length b.N.length).push h1 h2 r1;rw[F0 ⟨by omega,by omega,by unfold E5;omega⟩,grid,A5];simp only;rw[F9 rfl r1,F9 rfl r3,P0,P0]
 obtain⟨r,hr,hq⟩:=cW (step:=λ(s:List (List Bool)×List Y7×Nat)=>T6.s22 a b s.1 s.2.1 s.2.2) (λs=>s.2.2<=(pB a b p0 (s.2.2*a.I.toNat)).length/\s.2.1=(pB a b p0 (s.2.2*a.I.toNat)).map plC/\SeenG a.N.length b.N.length s.1 ((pB a b p0 (s.2.2*a.I.toNat)).map Prod.fst)/\∀r,r<s.2.2*a.I.toNat->difB a b p0 r=false) (λs=>a.N.length*b.N.length+1-s.2.2) (λr=>(r=.inl ()/\Fst a b p0 ([],false))\/∃res,r=.inr res/\Fst a b p0 res) (λs ⟨q1,q2,q3,q4⟩=>by
  obtain⟨y,l,i⟩:=s
  simp only at q1 q2 q3 q4
  subst q2
  simp only[T6.s22]
  have a5:=pB_len T h1 h2 (i*a.I.toNat)
  by_cases g:i<(pB a b p0 (i*a.I.toNat)).length
  ·have hx:=get_at g
   generalize (pB a b p0 (i*a.I.toNat))[i]=x at hx
   obtain⟨r,z1,z2⟩:=search_row T h1 h2 (by omega) hx q3 q4
   rw[C9 (by rw[E1];omega),C6 (jQ hx),z1,A5]
   rcases z2 with⟨y',rfl,z3,z4⟩|⟨res,rfl,z3⟩
   ·left
    have a4:=(lC (e:=pE a b) (K:=a.I.toNat) (s0:=p0) (show i*a.I.toNat<=(i+1)*a.I.toNat by rw[mC];omega)).length_le
    exact⟨(y',(pB a b p0 ((i+1)*a.I.toNat)).map plC,i+1),rfl,⟨by simp only;unfold pB at g ⊢;omega,rfl,z3,z4⟩,by simp only;omega⟩
   ·right
    exact⟨.inr res,rfl,Or.inr ⟨res,rfl,z3⟩⟩
  ·right
   refine⟨.inl (),by rw[B5 (by rw[E1];omega)],Or.inl ⟨rfl,Or.inr ⟨pB a b p0 (i*a.I.toNat),⟨?_⟩,?_,rfl⟩⟩⟩
   ·rw[show(pB a b p0 (i*a.I.toNat)).length=i by omega]
    rfl
   ·rw[show(pB a b p0 (i*a.I.toNat)).length=i by omega]
    exact q4) ((List.replicate a.N.length (List.replicate b.N.length false)).set p0.1 (row.set p0.2 true),[(⟨(⟨(p0.1:Int),(p0.2:Int)⟩:kI),[]⟩:Y7)],0) ⟨F8 _,by simp only;rw[pU];simp[pB,bfsB,plC],by
    simp only
    rw[pU]
    exact hS,λr hr=>by simp only at hr;omega⟩
 rw[hr,A5];rcases hq with⟨rfl,hq⟩|⟨res,rfl,hq⟩
 ·exact⟨_,rfl,hq⟩
 ·exact⟨_,rfl,hq⟩
end
end
section
section
variable {a b:B7}
def known_eq{l:List ((Nat×Nat)×A2)}{p q:Nat}(hl:l.length<=1000000):iter (λ(s:Bool×Nat)=>V4.s84 (l.map prC) (p:Int) (q:Int) s.1 s.2) fuel (false,0)=some (decide ((p,q)∈l.map Prod.fst)):=by
 refine O4 (λs=>s.2<=l.length/\(s.1=true↔(p,q)∈(l.take s.2).map Prod.fst)) (λs=>l.length-s.2) (λs hs=>?_) ⟨F8 _,by simp⟩;obtain⟨kn,k⟩:=s;obtain⟨q1,q2⟩:=hs;simp only at q1 q2;simp only[V4.s84];by_cases g:k<l.length
 ·left;have hx:=get_at g;generalize l[k]=x at hx
  have ht:(l.take (k+1)).map Prod.fst=(l.take k).map Prod.fst++[x.1]:=by
   rw[L9 hx,N3];rfl
  rw[C9 (by rw[E1];omega)];cases kn with
  |true =>
   exact⟨(true,k+1),by rw[D2],⟨g,by simp only;rw[ht];exact⟨λ_=>M1 _ (q2.1 rfl),λ_=>trivial⟩⟩,by simp only;omega⟩
  |false =>
   have hn:¬(p,q)∈(l.take k).map Prod.fst:=λz=>by have:=q2.2 z;cases this
   have e1:((p,q)∈(l.take (k+1)).map Prod.fst)↔x.1.1=p/\x.1.2=q:=by
    rw[ht,K0];constructor
    ·rintro (z|z)
     ·exact absurd z hn
     ·have z:(p,q)=x.1:=by simpa using z
      rw[<- z];exact⟨rfl,rfl⟩
    ·rintro⟨z1,z2⟩;right;simp[<- z1,<- z2]
   rw[D6,C6 (jQ hx),C6 (jQ hx)];have hS:(prC x).S=(x.1.1:Int):=rfl;have hT:(prC x).T=(x.1.2:Int):=rfl;by_cases z1:x.1.1=p
   ·refine⟨(decide ((prC x).T=(q:Int)),k+1),by rw[C9 (show(prC x).S=(p:Int) by omega)],⟨g,?_⟩,by simp only;omega⟩;show decide ((prC x).T=(q:Int))=true↔_;rw[e1,decide_eq_true_iff];constructor
    ·exact λz=>⟨z1,by omega⟩
    ·exact λz=>by have:=z.2;omega
   ·refine⟨(false,k+1),by rw[B5 (show ¬(prC x).S=(p:Int) by omega)],⟨g,?_⟩,by simp only;omega⟩;show false=true↔_;rw[e1];exact⟨λz=>(by cases z),λz=>absurd z.1 z1⟩
 ·right;have:k=l.length:=by omega
  subst this;rw[M4]at q2;rw[B5 (by rw[E1];omega)];cases kn with
  |true=>rw[D3 (q2.1 rfl)]
  |false=>rw[E2 (λz=>by have:=q2.2 z;cases this)]
def first_row(T:Two a b){p0:Nat×Nat}(h1:p0.1<a.N.length)(h2:p0.2<b.N.length){i:Nat}{x:(Nat×Nat)×A2}(hi:i<=a.N.length*b.N.length)
  (hx:(pB a b p0 (i*a.I.toNat))[i]?=some x) (hd:∀r,r<i*a.I.toNat->difB a b p0 r=false) :
  ∃r,iter (λ(s:List aN×Nat)=>V4.s85 a b i s.1 s.2) fuel ((pB a b p0 (i*a.I.toNat)).map prC,0)=some r /\
   ((r=.inl ((pB a b p0 ((i+1)*a.I.toNat)).map prC)/\∀r,r<(i+1)*a.I.toNat->difB a b p0 r=false) \/
   (∃res,r=.inr (.inr (.inr res))/\Fst a b p0 res)):=by
 have a7:=T.a1.n2;have a9:=T.b1.n2;have hI:=T.a1.i2;have a8:=mN T h1 h2 _ x (H8 hx)
 obtain⟨r,hr,hq⟩:=cW (step:=λ(s:List aN×Nat)=>V4.s85 a b i s.1 s.2) (λs=>s.2<=a.I.toNat/\s.1=(pB a b p0 (i*a.I.toNat+s.2)).map prC/\∀r,r<i*a.I.toNat+s.2->difB a b p0 r=false) (λs=>a.I.toNat-s.2) (λr=>(r=.inl ((pB a b p0 ((i+1)*a.I.toNat)).map prC)/\∀r,r<(i+1)*a.I.toNat->difB a b p0 r=false)\/(∃res,r=.inr (.inr (.inr res))/\Fst a b p0 res)) (λs ⟨q1,q2,q4⟩=>by
  obtain⟨l,c⟩:=s
  simp only at q1 q2 q4
  subst q2
  simp only[V4.s85]
  by_cases g:c<a.I.toNat
  ·have a3:=pB_get hx (r:=i*a.I.toNat+c) (by omega)
   obtain⟨g1,_,_,ra,oa,e1,e2,e3,e4⟩:=T.a1.at a8.1 g
   obtain⟨f1,_,_,rb,ob,d1,d2,d3,d4⟩:=T.b1.at a8.2.1 (a:=c) (by rw[<- T.inp];exact g)
   have b2:=big_sum (c:=c) hi a7 a9 (K:=a.I.toNat) (by omega) (by omega)
   have b0:=pB_len T h1 h2 (i*a.I.toNat+c)
   have b3:a.N.length*b.N.length<=128*128:=jH a7 a9
   have a6:vG (prC x).Word (c:Int)=some (x.2++[(c:Int)]):=by
    unfold vG
    show chk (E5 x.2.length 8) (chk (E5 (x.2.length+1) 8) _)=_
    rw[eN,eN]
    rfl
   rw[C9,C6 (jQ a3),a6,A5,C6 (jQ a3),F9 (n:=(prC x).S) (i:=x.1.1) rfl e2,C6 e4,C6 (jQ a3),F9 (n:=(prC x).T) (i:=x.1.2) rfl d2,C6 d4]
   by_cases a4:ot a x.1.1 c≠ot b x.1.2 c
   ·right
    rw[C9 a4]
    exact⟨_,rfl,Or.inr ⟨_,rfl,Or.inl ⟨i,c,x,g,a3,a4,q4,rfl⟩⟩⟩
   ·left
    have a5:∀r,r<i*a.I.toNat+(c+1)->difB a b p0 r=false:=λr hr=>by
     rcases L8 r (i*a.I.toNat+c) with q|q
     ·exact q4 r q
     ·have:r=i*a.I.toNat+c:=by omega
      rw[this,nW g a3,E2 a4]
    have a2:=pB_step g a3
    rw[B5 a4,C6 (jQ a3),F9 (n:=(prC x).S) (i:=x.1.1) rfl e1,C6 e3,C6 (jQ a3),F9 (n:=(prC x).T) (i:=x.1.2) rfl d1,C6 d3,known_eq (by omega),A5]
    by_cases hm:pE a b x.1 c∈(pB a b p0 (i*a.I.toNat+c)).map Prod.fst
    ·rw[if_pos hm]at a2
     refine⟨((pB a b p0 (i*a.I.toNat+c)).map prC,c+1),by rw[D3 (show(nx a x.1.1 c,nx b x.1.2 c)∈_ from hm),N2,D6,K1],⟨g,by simp only;rw[a2],a5⟩,by simp only;omega⟩
    ·rw[if_neg hm]at a2
     refine⟨((pB a b p0 (i*a.I.toNat+c)).map prC++[prC (pE a b x.1 c,x.2++[(c:Int)])],c+1),?_,⟨g,by simp only;rw[a2,N3];rfl,a5⟩,by simp only;omega⟩
     rw[E2 (show ¬(nx a x.1.1 c,nx b x.1.2 c)∈_ from hm),aG,D2,F0 (by unfold E5;rw[E1];omega),K1]
     rfl
  ·right
   have e':c=a.I.toNat:=by omega
   subst e'
   rw[pB_next]
   exact⟨_,by rw[B5],Or.inl ⟨rfl,by rw[mC];exact q4⟩⟩) ((pB a b p0 (i*a.I.toNat)).map prC,0) ⟨F8 _,rfl,hd⟩
 exact⟨r,hr,hq⟩
def R09_first_eq(T:Two a b){p0:Nat×Nat}(h1:p0.1<a.N.length)(h2:p0.2<b.N.length):∃res,V4 a b (p0.1:Int) (p0.2:Int)=some res/\Fst a b p0 res:=by
 have a2:=T.a1.n2;have a3:=T.b1.n2;have a6:a.N.length*b.N.length<=128*128:=jH a2 a3;unfold V4
 obtain⟨r,hr,hq⟩:=cW (step:=λ(s:List aN×Nat)=>V4.s86 a b s.1 s.2) (λs=>s.2<=(pB a b p0 (s.2*a.I.toNat)).length/\s.1=(pB a b p0 (s.2*a.I.toNat)).map prC/\∀r,r<s.2*a.I.toNat->difB a b p0 r=false) (λs=>a.N.length*b.N.length+1-s.2) (λr=>(r=.inl ()/\Fst a b p0 ([],false))\/∃res,r=.inr res/\Fst a b p0 res) (λs ⟨q1,q2,q4⟩=>by
  obtain⟨l,i⟩:=s
  simp only at q1 q2 q4
  subst q2
  simp only[V4.s86]
  have a5:=pB_len T h1 h2 (i*a.I.toNat)
  by_cases g:i<(pB a b p0 (i*a.I.toNat)).length
  ·have hx:=get_at g
   generalize (pB a b p0 (i*a.I.toNat))[i]=x at hx
   obtain⟨r,z1,z2⟩:=first_row T h1 h2 (by omega) hx q4
   rw[C9 (by rw[E1];omega),z1,A5]
   rcases z2 with⟨rfl,z4⟩|⟨res,rfl,z3⟩
   ·left
    have a4:=(lC (e:=pE a b) (K:=a.I.toNat) (s0:=p0) (show i*a.I.toNat<=(i+1)*a.I.toNat by rw[mC];omega)).length_le
    exact⟨((pB a b p0 ((i+1)*a.I.toNat)).map prC,i+1),rfl,⟨by simp only;unfold pB at g ⊢;omega,rfl,z4⟩,by simp only;omega⟩
   ·right
    exact⟨.inr res,rfl,Or.inr ⟨res,rfl,z3⟩⟩
  ·right
   refine⟨.inl (),by rw[B5 (by rw[E1];omega)],Or.inl ⟨rfl,Or.inr ⟨pB a b p0 (i*a.I.toNat),⟨?_⟩,?_,rfl⟩⟩⟩
   ·rw[show(pB a b p0 (i*a.I.toNat)).length=i by omega]
    rfl
   ·rw[show(pB a b p0 (i*a.I.toNat)).length=i by omega]
    exact q4) ([(⟨(p0.1:Int),(p0.2:Int),[]⟩:aN)],0) ⟨F8 _,by simp only;rw[pU];simp[pB,bfsB,prC],λr hr=>by simp only at hr;omega⟩
 rw[hr,A5];rcases hq with⟨rfl,hq⟩|⟨res,rfl,hq⟩
 ·exact⟨_,rfl,hq⟩
 ·exact⟨_,rfl,hq⟩
def fst_word(T:Two a b){p0:Nat×Nat}(h1:p0.1<a.N.length)(h2:p0.2<b.N.length){w:A2}(h:Fst a b p0 (w,true)):WOk a.I w/\w.length<=1048640/\∃(v:A2) (c:Nat),w=v++[(c:Int)]/\c<a.I.toNat/\ot a (dest a p0.1 v) c≠ot b (dest b p0.2 v) c:=by
 rcases h with⟨i,c,x,g1,g2,g3,g4,g5⟩|⟨L,_,_,g⟩
 ·injection g5 with g5 _
  have hr:=mN T h1 h2 _ x (H8 g2);have a2:=pB_len T h1 h2 (i*a.I.toNat+c);have hi:=(G4.1 g2).1;have:=big_sum (c:=c+1) (i:=i) (by omega) T.a1.n2 T.b1.n2 (K:=a.I.toNat) (by have:=T.a1.i2;omega) (by have:=T.a1.i2;omega);refine⟨?_,?_,x.2,c,g5,g1,by rw[hr.2.2.2.1,hr.2.2.2.2.1];exact g3⟩
  ·rw[g5];refine WOk.append hr.2.2.2.2.2 λz hz=>?_;have:z=(c:Int):=by simpa using hz
   omega
  ·rw[g5];simp;omega
 ·injection g with _ g
  cases g
def outs_snoc{m:B7}{v:A2}{c s:Nat}:outs m s (v++[(c:Int)])=outs m s v++[ot m (dest m s v) c]:=by
 rw[iL];show _++[ot m (dest m s v) (Int.toNat ↑c)]=_;rw[P0]
def fst_ne(T:Two a b){p0:Nat×Nat}(h1:p0.1<a.N.length)(h2:p0.2<b.N.length){w:A2}(h:Fst a b p0 (w,true)):outs a p0.1 w≠outs b p0.2 w:=by
 obtain⟨_,_,v,c,rfl,_,h3⟩:=fst_word T h1 h2 h;intro he;rw[outs_snoc,outs_snoc]at he;have:=List.append_inj_right' he rfl;injection this with this _
 exact h3 this
def fst_none{p0:Nat×Nat}{w0:A2}(h:Fst a b p0 (w0,false)):∀w,WOk a.I w->outs a p0.1 w=outs b p0.2 w:=by
 rcases h with⟨i,c,x,_,_,_,_,g⟩|⟨L,g1,g2,_⟩
 ·injection g with _ g
  cases g
 ·have key:∀(w:A2) (i:Nat) (x:(Nat×Nat)×A2),L[i]?=some x->WOk a.I w->outs a x.1.1 w=outs b x.1.2 w:=by
   intro w
   induction w with
   |nil=>intro _ _ _ _;rfl
   |cons z w ih =>
    intro i x hx hw;have hz:=hw.head;have hc:z.toNat<a.I.toNat:=by omega
    have hi:=(G4.1 hx).1;obtain⟨x',e1,e2⟩:=g1.long hi hc;rw[hx]at e1;injection e1 with e1
    subst e1;have hd:=g2 (i*a.I.toNat+z.toNat) (mK hi hc);rw[nW hc e2]at hd
    have a2:ot a x.1.1 z.toNat=ot b x.1.2 z.toNat:=Q5 λq=>by
     rw[D3 q]at hd;cases hd
    obtain⟨j,y,f1,f2,_⟩:=g1.closed hx hc;have:=ih j y f1 hw.tail;rw[f2]at this;show ot a x.1.1 z.toNat::outs a (nx a x.1.1 z.toNat) w=ot b x.1.2 z.toNat::outs b (nx b x.1.2 z.toNat) w;rw[a2];congr 1
  exact λw hw=>key w 0 _ g1.first hw
end
end
section
structure Can(M:B7):Prop where
 c4:∀i a u,i<M.N.length->a<M.I.toNat->0<u->u<=nx M i a->∃i' a',a'<M.I.toNat/\i'*M.I.toNat+a'<=i*M.I.toNat+a/\i'<u/\nx M i' a'=u
 c5:∀u,0<u->u<M.N.length->∃i a,i<u/\a<M.I.toNat/\nx M i a=u
def Eqv(a:B7)(s:Nat)(b:B7)(t:Nat):Prop:=∀w,WOk a.I w->outs a s w=outs b t w
structure MinSem(m M:B7):Prop where
 ok:N0 M
 inp:M.I=m.I
 start:M.S=0
 eqv:Eqv M 0 m m.S.toNat
 min:∀i j,i<M.N.length->j<M.N.length->Eqv M i M j->i=j
 can:Can M
section
variable {M M':B7}
end
structure Shape{A:Type}[DecidableEq A](e:A->Nat->A)(o:A->Nat->Int)(L:List (A×A2))(M:B7):Prop where
 len:M.N.length=L.length
 row:∀i x a,L[i]?=some x->a<M.I.toNat->∃y,L[nx M i a]?=some y/\y.1=e x.1 a/\ot M i a=o x.1 a
end
section
section
variable {m:B7}
structure TrimOk(m t:B7)(L:List (Nat×A2)):Prop where
 end_:MEnd m m.S.toNat L
 inp:t.I=m.I
 start:t.S=0
 ok:N0 t
 shape:Shape (nx m) (ot m) L t
end
end
section
section
variable {O Z:Type}[BEq O]
end
section
variable {m:B7}{c:A2}
def sigV(m:B7)(c:A2)(s a p:Nat):Int:=if p<a then ot m s p else if 64<=p/\p-64<a then(c[nx m s (p-64)]?).getD 0 else 0
def sigA(m:B7)(c:A2)(s:Nat):A2:=(List.range 128).map (sigV m c s m.I.toNat)
def FirstOcc(o:A2):Prop:=∀(s x:Nat),o[s]?=some (x:Int)->∀u:Nat,u<x->∃s',s'<s/\o[s']?=some (u:Int)
structure ClsF(m:B7)(k:Nat)(c:A2):Prop where
 cls:ClsOk m k c
 first:FirstOcc c
structure Giv(m:B7)(c:A2)(mp:List (A2×Int))(o:A2)(s:Nat):Prop where
 len:o.length=m.N.length
 keys:∀p∈mp,p.1.length=128
 le:mp.length<=s
 get:∀s',s'<s->∃x:Nat,x<mp.length/\o[s']?=some (x:Int)/\mget (sigA m c s') mp=some (x:Int)
 org:∀k v,mget k mp=some v->∃s',s'<s/\sigA m c s'=k
 inj:∀s' s'',s'<s->s''<s->o[s']?=o[s'']?->sigA m c s'=sigA m c s''
 first:∀(s' x:Nat),s'<s->o[s']?=some (x:Int)->∀u:Nat,u<x->∃s'',s''<s'/\o[s'']?=some (u:Int)
 all:∀u:Nat,u<mp.length->∃s',s'<s/\o[s']?=some (u:Int)
open Classical in
open Classical in
end
end
section
section
variable {m t:B7}{c:A2}
def IsFirst(c:A2)(s u:Nat):Prop:=c[s]?=some (u:Int)/\∀s',s'<s->c[s']?≠some (u:Int)
structure Quo(t M:B7)(c:A2):Prop where
 inp:M.I=t.I
 start:M.S=0
 len:M.O.length=M.N.length
 ub:∀s,s<t.N.length->∃x:Nat,c[s]?=some (x:Int)/\x<M.N.length
 row:∀u,u<M.N.length->∃s r o,s<t.N.length/\IsFirst c s u/\M.N[u]?=some r/\M.O[u]?=some o/\r.length=t.I.toNat/\(∀a,a<t.I.toNat->r[a]?=c[nx t s a]?)/\t.O[s]?=some o
 le:M.N.length<=t.N.length
variable {M:B7}
end
end
section
section
variable {m:B7}{c:A2}
def clN(c:A2)(s:Nat):Nat:=((c[s]?).getD 0).toNat
open Classical in
structure Nums(m:B7)(c:A2)(ord:List Nat)(num:A2)(B:List (Nat×A2)):Prop where
 ol:ord.length=B.length
 oc:∀(j u:Nat) (x:Nat×A2),ord[j]?=some u->B[j]?=some x->u<m.N.length/\clN c u=x.1
 nl:num.length=m.N.length
 n1:∀(j:Nat) (x:Nat×A2),B[j]?=some x->num[x.1]?=some (j:Int)
 n2:∀x:Nat,x<m.N.length->x∉B.map Prod.fst->num[x]?=some (-1:Int)
end
end
section
section
variable {m M:B7}
open Classical in
structure MinimalP(m:B7):Prop where
 reach:∀s,s<m.N.length->∃w,WOk m.I w/\dest m m.S.toNat w=s
 apart:∀i j,i<m.N.length->j<m.N.length->Eqv m i m j->i=j
open Classical in
open Classical in
open Classical in
end
end

section
section
variable {m M:B7}{ids:List (A3)}{front middle:A3}
structure Parts(M:B7)(front middle:A3)(ids:List (A3)):Prop where
 ok:Q9 M=0
 il:ids.length=M.N.length
 is_:∀l∈ids,l.length<=200/\∀x∈l,x.length<=600
 f1:front.length<=200
 f2:∀u∈front,WOk M.I u/\u.length<=200
 m1:middle.length<=200
 m2:∀v∈middle,WOk M.I v/\v.length<=200
end
end
section
section
variable {M I:B7}{sM sI k:Nat}{U:A3}{T:Nat->A3}
structure Pass(M I:B7)(sM sI k:Nat)(U:A3)(T:Nat->A3):Prop where
 two:Two M I
 hM:sM<M.N.length
 hI:sI<I.N.length
 nil:[]∈U
 ok:∀u∈U,WOk M.I u
 cov:∀s,s<M.N.length->∃u∈U,dest M sM u=s
 tne:∀s,s<M.N.length->∃x,x∈T s
 tok:∀s,∀x∈T s,WOk M.I x
 sep:∀s s',s<M.N.length->s'<M.N.length->s≠s'->∃x,x∈T s/\x∈T s'/\outs M s x≠outs M s' x
 pass:∀u∈U,∀v,WOk M.I v->v.length<=k+1->∀x∈T (dest M sM (u++v)),outs M sM (u++v++x)=outs I sI (u++v++x)
 few:∀l:List Nat,l.Nodup->(∀q∈l,∃w,WOk M.I w/\dest I sI w=q)->l.length<=M.N.length+k
variable (P:Pass M I sM sI k U T)
include P
end
end
section
section
variable {m b M:B7}
def zL(x:A2):E9 x x=x.length:=by
 induction x with
 |nil=>rfl
 |cons u x ih=>simp[E9,ih]
abbrev outS(m:B7)(w:A2):A2:=outs m m.S.toNat w
def mealy_Run_ok(hv:Q9 m=0){w:A2}(hw:H1 w m.I=0):uA m w=some (outS m w,0):=by
 have hl:=yT hw;have a2:=(fW hv).st;unfold uA;rw[JI (by unfold SmW;omega),A5,fromM_start (by unfold SmW;omega) hv,if_neg (λh=>h hw)]
def KE(c1:Q9 m=0)(c2:Q9 b=0)(c3:m.I=b.I):kF m b=some 0:=by
 unfold kF
 have key:=O4 (step:=λ(s:Nat)=>kF.s2 m b s) (r:=(.inl ():Unit⊕Int)) (λs=>s<=2) (λs=>2-s) (λs hs=>by
  simp only[kF.s2]
  rcases L8 s 2 with h|h
  ·left
   rcases L8 s 1 with g|g
   ·have:s=0:=by omega
    subst this
    exact⟨1,by rw[C9,C9,vT,A5,c1];rfl,by omega,by omega⟩
   ·have:s=1:=by omega
    subst this
    exact⟨2,by rw[C9,B5,F0 (by omega),vT,A5,c2];rfl,by omega,by omega⟩
  ·right
   rw[B5]) (n:=fuel) (s:=0) (by omega)
 rw[key,A5];show(cond (decide (m.I≠b.I)) (some 15) (some 0):Option Int)=_;rw[B5 (λh=>h c3)]
end
end
section
structure eK(l:List A8):Prop where
 ne:∀t∈l,t.In≠[]
 asc:l.Pairwise (λa b=>cmpW a.In b.In=-1)
 ap:l.Pairwise (λa b=>¬a.In <+: b.In)
def I6.trs{o:A6}(h:I6 o):eK o.T:=⟨λt ht=>(h.prop t ht).2,h.pw.1,h.pw.2.imp λh=>h.1⟩
def eK.one{l:List A8}(h:eK l){a b:A8}(ha:a∈l)(hb:b∈l)(hp:a.In <+: b.In):a=b:=by
 obtain⟨i,hi,rfl⟩:=xH ha;obtain⟨j,hj,rfl⟩:=xH hb;rcases eE i j with g|g|g
 ·exact absurd hp (V8.1 h.ap i j hi hj g)
 ·subst g;rfl
 ·exfalso;have hc:=V8.1 h.asc j i hj hi g;have hl:=hp.length_le;unfold cmpW at hc;rcases Nat.lt_or_eq_of_le hl with q|q
  ·rw[if_neg (by omega),if_pos (by omega)]at hc;cases hc
  ·have e:=hp.eq_of_length q;rw[e]at hc;have:=cA l[j].In;unfold cmpW at this;rw[this]at hc;cases hc
def eK.add{l:List A8}(h:eK l)(t:A8):eK (addL l t):=by
 unfold addL;by_cases g:T9 l t.In=true\/t.In=[]
 ·rw[if_pos g];exact h
 ·rw[if_neg g];have h1:=JO λe=>g (.inl e);have h2:t.In≠[]:=λe=>g (.inr e);have a3:(bU l t).Sublist l:=xJ
  have a2:∀x∈bU l t,x∈l/\¬x.In <+: t.In:=λx hx=>by
   have:=fK.1 hx;refine⟨this.1,λe=>?_⟩;rw[D3 e]at this;exact W5 this.2
  refine⟨λx hx=>?_,insT_asc (h.asc.sublist a3) λx hx e=>(a2 x hx).2 (e ▸ eC _),insT_pair (h.ap.sublist a3) λx hx=>⟨(a2 x hx).2,h1 x (a2 x hx).1⟩⟩;rcases lI.1 hx with e|e
  ·rw[e];exact h2
  ·exact h.ne x (a2 x e).1
def filter_few{V:Type}{p:V->Bool}:∀{l:List V},(∀(i j:Nat) (hi:i<l.length) (hj:j<l.length),p l[i]=false->p l[j]=false->i=j)->l.length<=(l.filter p).length+1
 |[],_=>by simp
 |x::l,h=>by
  have ih:l.length<=(l.filter p).length+1:=filter_few λi j hi hj h1 h2=>by
   have:=h (i+1) (j+1) (by simp;omega) (by simp;omega) h1 h2;omega
  cases hx:p x with
  |true=>rw[xB hx,H7,H7];omega
  |false =>
   have:l.filter p=l:=xI.2 λy hy=>by
    obtain⟨j,hj,rfl⟩:=xH hy;cases e:p l[j]with
    |true=>rfl
    |false =>
     have:=h 0 (j+1) (by simp) (by simp;omega) hx e;omega
   rw[CI (by rw[hx];exact W5),this,H7];omega
def addL_up{l:List A8}(h:eK l)(t:A8):l.length<=(addL l t).length:=by
 unfold addL;split
 ·exact H4 _
 ·rw[EB];refine filter_few λi j hi hj h1 h2=>?_;have p1:l[i].In <+: t.In:=Q5 λe=>by rw[E2 e]at h1;cases h1
  have p2:l[j].In <+: t.In:=Q5 λe=>by rw[E2 e]at h2;cases h2
  rcases eE i j with g|g|g
  ·exfalso;rcases MN p1 p2 with q|q
   ·exact V8.1 h.ap i j hi hj g q
   ·have e:=h.one (H9 hj) (H9 hi) q;have:=V8.1 h.asc i j hi hj g;rw[e,cA]at this;cases this
  ·exact g
  ·exfalso;rcases MN p2 p1 with q|q
   ·exact V8.1 h.ap j i hj hi g q
   ·have e:=h.one (H9 hi) (H9 hj) q;have:=V8.1 h.asc j i hj hi g;rw[e,cA]at this;cases this
section
variable {m:B7}
def yB:∀(ws:A3) (o:A6),eK o.T->eK (K4 m o ws).T
 |[],_,h=>h
 |w::ws,o,h=>yB ws ⟨o.I,addL o.T (tr m w)⟩ (h.add _)
def told_up:∀(ws:A3) (o:A6),eK o.T->o.T.length<=(K4 m o ws).T.length
 |[],_,_=>H4 _
 |w::ws,o,h=>S1 (addL_up h (tr m w)) (told_up ws ⟨o.I,addL o.T (tr m w)⟩ (h.add _))
end
end
section
section
variable {m:B7}{o:A6}{w:A2}
def add_any(H:N0 m)(T:P5 m o)(hw:H1 w m.I=0):addO o (tr m w)=if 10000<(addL o.T (tr m w)).length then(o,11) else(⟨o.I,addL o.T (tr m w)⟩,0):=by
 have hp:dK (tr m w) o.I=0:=zD.2 (prop_tr H T.inp (by rw[T.inp];exact hw));have hc:¬gZ o.T (tr m w):=λ⟨u,hu,h⟩=>h (expl_agree (m:=m) (T.ex u hu) rfl);unfold addO;rw[if_neg (by simpa using hp),if_neg hc]
def tr_sm(hw:H1 w m.I=0):SmX (tr m w):=by
 have:=yT hw;exact⟨show SmW w by unfold SmW;omega,show SmW (outs m m.S.toNat w) by unfold SmW;rw[cX];omega⟩
def EA(H:N0 m)(T:P5 m o)(hw:H1 w m.I=0)(hl:(addL o.T (tr m w)).length<=10000):P5 m ⟨o.I,addL o.T (tr m w)⟩:=by
 have a2:=add_any H T hw;rw[if_neg (by omega)]at a2;have h1:=addO_ok (t:=Sym.tr m w) T.ok;have a3:=T.ok.num;have h2:=addO_tr (t:=Sym.tr m w) T.tr (by omega) (tr_sm hw);rw[a2]at h1 h2;exact⟨h1,h2,expl_add T.ex,T.inp⟩
def uC(H:N0 m):∀(ws:A3) (o:A6),P5 m o->(∀w∈ws,H1 w m.I=0)->(K4 m o ws).T.length<=10000->P5 m (K4 m o ws)
 |[],_,T,_,_=>T
 |w::ws,o,T,hw,hl=>by
  have h1:=told_up (m:=m) ws ⟨o.I,addL o.T (tr m w)⟩ (T.ok.trs.add _);have hl:(K4 m ⟨o.I,addL o.T (tr m w)⟩ ws).T.length<=10000:=hl;exact uC H ws _ (EA H T (hw w (by simp)) (by simp only at h1;omega)) (λx hx=>hw x (by simp[hx])) hl
def vH(H:N0 m)(hv:S4 m=some 0){ws:A3}(T:P5 m o)(hw:∀w∈ws,H1 w m.I=0)(hl:ws.length<=2000000) :
  ((K4 m o ws).T.length<=10000->Y4 o m ws=some (K4 m o ws,0))/\(10000<(K4 m o ws).T.length->∃q,Y4 o m ws=some (q,11)):=by
 have key:∀(n i:Nat) (o:A6),P5 m o->i<=ws.length->ws.length-i<n->∃r,iter (λ(s:Int×List A8×Nat)=>Y4.s2 m ws s.1 s.2.1 s.2.2) n (o.I,o.T,i)=some r/\((K4 m o (ws.drop i)).T.length<=10000->r=.inl ((K4 m o (ws.drop i)).I,(K4 m o (ws.drop i)).T))/\(10000<(K4 m o (ws.drop i)).T.length->∃q,r=.inr (q,11)):=by
  intro n
  induction n with
  |zero=>intro i o _ _ h;omega
  |succ n ih =>
   intro i o T hi hn;unfold iter;simp only[Y4.s2];rcases L8 i ws.length with h|h
   ·have hx:=get_at h;have hc:=hw _ (H9 h);have ho:(⟨o.I,o.T⟩:A6)=o:=rfl;rw[I8 hx,D2,C6 hx,R06_Run_eq H hv hc,A5];simp only;rw[B5 (by decide),C6 hx,ho,show(⟨ws[i],outs m m.S.toNat ws[i]⟩:A8)=Sym.tr m ws[i] from rfl,R16_Add_eq T.tr T.ok (tr_sm hc),A5,add_any H T hc,cR h];unfold K4;by_cases g:10000<(addL o.T (Sym.tr m ws[i])).length
    ·rw[if_pos g];simp only;rw[C9 (by decide)];have h1:=told_up (m:=m) (ws.drop (i+1)) ⟨o.I,addL o.T (Sym.tr m ws[i])⟩ (T.ok.trs.add _);simp only at h1;exact⟨_,rfl,λh2=>by omega,λ_=>⟨_,rfl⟩⟩
    ·rw[if_neg g];simp only;rw[B5 (by decide)];exact ih (i+1) ⟨o.I,addL o.T (Sym.tr m ws[i])⟩ (EA H T hc (by omega)) h (by omega)
   ·have e:i=ws.length:=by omega
    subst e;have a2:=T.ok.num;rw[N7,D6,kV];exact⟨_,rfl,λ_=>rfl,λh2=>by unfold K4 at h2;omega⟩
 obtain⟨r,e,h1,h2⟩:=key fuel 0 o T (F8 _) (by have:=O9;omega);unfold Y4;rw[e,A5];refine⟨λh=>?_,λh=>?_⟩
 ·rw[h1 h];rfl
 ·obtain⟨q,rfl⟩:=h2 h;exact⟨q,rfl⟩
def none_told(hi:1<=m.I/\m.I<=64):P5 m ⟨m.I,[]⟩:=⟨obsOk_of hi (by simp) (λt ht=>by simp at ht) List.Pairwise.nil List.Pairwise.nil,⟨by simp,λt ht=>by cases ht⟩,λt ht=>by simp at ht,rfl⟩
end
end
section
section
variable {m b M:B7}
def R09_Check_eq(m b:B7):tS m b=some (if Q9 m≠0 then Q9 m else if Q9 b≠0 then Q9 b else if m.I≠b.I then 15 else 0):=by
 unfold tS;rw[rS,A5];by_cases c1:Q9 m=0
 ·rw[B5 (λh=>h c1),if_neg (λh=>h c1),rS,A5];by_cases c2:Q9 b=0
  ·rw[B5 (λh=>h c2),if_neg (λh=>h c2)];by_cases c3:m.I=b.I
   ·rw[B5 (λh=>h c3),if_neg (λh=>h c3)]
   ·rw[C9 c3,if_pos c3]
  ·rw[C9 c2,if_pos c2]
 ·rw[C9 c1,if_pos c1]
end
end

section
section
variable {m b:B7}
end
end
section
section
variable {m:B7}
open Classical in
end
end
section
section
variable {m:B7}
end
end
section
structure Known(mp:List (ByteArray×Bool))(out:A3):Prop where
 nd:out.Nodup
 le:out.length<=10000
 get:∀w:A2,(mget (⟨(keyL w).toArray⟩:ByteArray) mp).getD false=decide (w∈out)
section
variable {p q:A3}
end
end
section
section
variable {p q:A3}
end
end
def J5(o:A6)(w:A2)(S:A3):A3:=(S.map λe=>w++e).filter λv=>(ansO o v).isNone
def CZ{o:A6}{w e:A2}{S:A3}{k:Nat}(h:S[k]?=some e):J5 o w (S.take (k+1))=J5 o w (S.take k)++(if(ansO o (w++e)).isNone=true then [w++e] else []):=by
 unfold J5;rw[L9 h,N3,pW];simp only[L0,mD,nN,List.filter_nil]
def jW(o:A6)(w:A2)(S:A3):(J5 o w S).length<=S.length:=by
 unfold J5;have:=nR (λv=>(ansO o v).isNone) (S.map λe=>w++e);rw[E1]at this;exact this
def cY{o:A6}{w v:A2}{S:A3}:v∈J5 o w S↔(∃e∈S,v=w++e)/\ansO o v=none:=by
 unfold J5;rw[fK,D8,Option.isNone_iff_eq_none];constructor
 ·rintro⟨⟨e,he,rfl⟩,h⟩;exact⟨⟨e,he,rfl⟩,h⟩
 ·rintro⟨⟨e,he,rfl⟩,h⟩;exact⟨⟨e,he,rfl⟩,h⟩
def zq28{o:A6}{F:List A8}{w:A2}(ho:SmO o)(hv:I6 o)(hF:mI o F):wH F w=some (ansO o w).isSome:=by
 unfold wH;rw[KR ho hv hF,A5];cases ansO o w<;>rfl
def zq52{o:A6}{F:List A8}{t:B8}{w:A2}{y:A3}(ho:SmO o)(hv:I6 o)(hF:mI o F)(hS:SmL t.X)(hw:SmW w)(hy:y.length+t.X.length<=3000000):gM w t F y=some (y++J5 o w t.X):=by
 have a5:t.X.length<=2000000:=hS.1;have a4:w.length<=2000000:=hw;unfold gM
 have key:=O4 (step:=λ(s:A3×Nat)=>gM.s2 w t F s.1 s.2) (r:=y++J5 o w t.X) (λs=>s.2<=t.X.length/\s.1=y++J5 o w (t.X.take s.2)) (λs=>t.X.length-s.2) (λs ⟨g1,g2⟩=>by
  obtain⟨z,k⟩:=s
  simp only at g1 g2
  subst g2
  simp only[gM.s2]
  by_cases g4:k<t.X.length
  ·left
   have hx:=get_at g4
   have a6:t.X[k].length<=2000000:=hS.2 _ (H9 _)
   have a2:=CZ (o:=o) (w:=w) hx
   have a3:=jW o w (t.X.take k)
   rw[H6]at a3
   refine⟨(y++J5 o w (t.X.take (k+1)),k+1),?_,⟨by simp only;omega,rfl⟩,by simp only;omega⟩
   rw[I8 hx,D2,C6 hx,iU _ (by simp) (by simp;omega),A5,a2]
   simp only[V6,GW,S5]
   rw[zq28 ho hv hF,A5]
   cases ha:ansO o (w++t.X[k]) with
   |none =>
    simp only[xF,aG,D2,BP,if_true]
    rw[F0 (by rw[D7];unfold E5;omega),U8]
   |some r=>simp
  ·right
   have e:k=t.X.length:=by omega
   subst e
   rw[B5,M4]) (n:=fuel) (s:=(y,0)) ⟨F8 _,by simp[J5]⟩
 rw[key,A5]
def GD{w:A2}{a:Int}(hw:SmW w):pN w a=some (w++[a]):=by
 have a2:w.length<=2000000:=hw;unfold pN;rw[iU _ (by simp) (by simp;omega),A5];simp
structure K7(t:B8):Prop where
 sm:SmT t
 n:t.I<=4
 p:t.P.length<=600
 s:t.X.length<=600
 pw:∀x∈t.P,x.length<=400
 sw:∀x∈t.X,x.length<=80
def N6(n:Nat)(p:A2):A3:=p::(List.range n).map λ(a:Nat)=>p++[(a:Int)]
def L1(o:A6)(t:B8)(P:A3):A3:=P.flatMap λp=>(N6 t.I.toNat p).flatMap λw=>J5 o w t.X
def zq34{t:B8}{o:A6}(ht:K7 t)(ho:SmO o)(hv:I6 o):bN t o=some (if chkT t o≠0 then([],chkT t o) else(maxR (L1 o t t.P),0)):=by
 obtain⟨F,a9,hF⟩:=FJ ho hv;have hn:=ht.n;have hp:=ht.p;have hs:=ht.s;have hS:=ht.sm.2.2.1;unfold bN;rw[FV ht.sm,A5];by_cases h:chkT t o=0
 ·rw[B5 (by simpa using h),if_neg (by simpa using h),a9,A5]
  have a3:∀(p:A2) (y:A3),SmW p->p.length<=1000000->y.length<=2500000->iter (λ(s:A3×Nat)=>bN.s13 t F p s.1 s.2) fuel (y,0)=some (y++((List.range t.I.toNat).map λ(a:Nat)=>p++[(a:Int)]).flatMap λw=>J5 o w t.X) /\
    (((List.range t.I.toNat).map λ(a:Nat)=>p++[(a:Int)]).flatMap λw=>J5 o w t.X).length<=2400:=by
   intro p y a7 b2 hy
   have a2:∀k,k<=t.I.toNat->(((List.range k).map λ(a:Nat)=>p++[(a:Int)]).flatMap λw=>J5 o w t.X).length<=600*k:=by
    intro k
    induction k with
    |zero=>intro _;simp
    |succ k ih =>
     intro hk;rw[jE,N3,eF,D7];have:=ih (by omega);have:=jW o (p++[(k:Int)]) t.X;simp only[L0,mD,P1,sQ,S5];omega
   refine⟨O4 (λs=>s.2<=t.I.toNat/\s.1=y++((List.range s.2).map λ(a:Nat)=>p++[(a:Int)]).flatMap λw=>J5 o w t.X) (λs=>t.I.toNat-s.2) (λs ⟨g1,g2⟩=>?_) ⟨F8 _,by simp⟩,by have:=a2 t.I.toNat (H4 _);omega⟩;obtain⟨z,k⟩:=s;simp only at g1 g2;subst g2;simp only[bN.s13];by_cases g4:k<t.I.toNat
   ·left;have hl:=a2 k (by omega);refine⟨(y++((List.range (k+1)).map λ(a:Nat)=>p++[(a:Int)]).flatMap λw=>J5 o w t.X,k+1),?_,⟨g4,rfl⟩,by simp only;omega⟩;rw[C9,GD a7,A5,zq52 ho hv hF hS (by show(p++[(k:Int)]).length<=2000000;simp;omega) (by rw[D7];omega),A5,K1];rw[jE,N3,eF];simp
   ·right;have e:k=t.I.toNat:=by omega
    subst e;rw[B5]
  have key:=O4 (step:=λ(s:A3×Nat)=>bN.s14 t F s.1 s.2) (r:=L1 o t t.P) (λs=>s.2<=t.P.length/\s.1.length<=3000*s.2/\s.1=L1 o t (t.P.take s.2)) (λs=>t.P.length-s.2) (λs ⟨g1,g0,g2⟩=>by
   obtain⟨z,k⟩:=s
   simp only at g1 g0 g2
   subst g2
   simp only[bN.s14]
   by_cases g4:k<t.P.length
   ·left
    have hx:=get_at g4
    have a4:SmW t.P[k]:=ht.sm.2.1.2 _ (H9 _)
    have b3:=ht.pw _ (H9 g4)
    have b4:=jW o t.P[k] t.X
    obtain⟨i1,i2⟩:=a3 t.P[k] (L1 o t (t.P.take k)++J5 o t.P[k] t.X) a4 (by omega) (by rw[D7];omega)
    have a6:L1 o t (t.P.take (k+1))=L1 o t (t.P.take k)++J5 o t.P[k] t.X++((List.range t.I.toNat).map λ(a:Nat)=>t.P[k]++[(a:Int)]).flatMap λw=>J5 o w t.X:=by
     unfold L1 N6
     rw[L9 hx,eF]
     simp[U8]
    refine⟨(L1 o t (t.P.take (k+1)),k+1),?_,⟨g4,?_,rfl⟩,by simp only;omega⟩
    ·rw[I8 hx,D2,C6 hx,zq52 ho hv hF hS a4 (by omega),A5,i1,A5,a6]
    ·simp only
     rw[a6,D7,D7]
     omega
   ·right
    have e:k=t.P.length:=by omega
    subst e
    rw[B5,M4]) (n:=fuel) (s:=([],0)) ⟨F8 _,by simp,by simp[L1]⟩
  have hN:SmL (L1 o t t.P):=by
   refine⟨?_,λv a5=>?_⟩
   ·have hb:∀P:A3,(L1 o t P).length<=3000*P.length:=by
     intro P
     induction P with
     |nil=>simp[L1]
     |cons p P ih =>
      unfold L1 at ih ⊢;rw[P1,D7,H7]
      have hw:((N6 t.I.toNat p).flatMap λw=>J5 o w t.X).length<=600*(N6 t.I.toNat p).length:=by
       generalize N6 t.I.toNat p=X
       induction X with
       |nil=>simp
       |cons w X ih2 =>
        have:=jW o w t.X;rw[P1,D7,H7];omega
      have a8:(N6 t.I.toNat p).length=t.I.toNat+1:=by simp[N6]
      rw[a8]at hw;omega
    have:=hb t.P;omega
   ·unfold L1 at a5;obtain⟨p,b0,h2⟩:=L6.1 a5;obtain⟨w,hw,h3⟩:=L6.1 h2;obtain⟨⟨e,he,rfl⟩,_⟩:=cY.1 h3;have h4:=ht.pw p b0;have h5:=ht.sw e he
    have h6:w.length<=401:=by
     unfold N6 at hw;rcases I2.1 hw with rfl|hw
     ·omega
     ·obtain⟨a,_,rfl⟩:=D8.1 hw;simp;omega
    unfold SmW;rw[D7];omega
  rw[key,A5,LM hN,A5]
 ·rw[C9 h,if_pos h]
def extL(t:B8):A3:=t.P.flatMap λp=>(List.range t.I.toNat).map λ(a:Nat)=>p++[(a:Int)]
def LA{t:B8}(ht:K7 t):bC t=some (sortW (extL t))/\SmL (extL t):=by
 have hn:=ht.n;have hp:=ht.p
 have a2:∀P:A3,(P.flatMap λp=>(List.range t.I.toNat).map λ(a:Nat)=>p++[(a:Int)]).length<=4*P.length:=by
  intro P
  induction P with
  |nil=>simp
  |cons p P ih =>
   rw[P1,D7,H7,E1,aE];omega
 have hE:SmL (extL t):=by
  refine⟨by have:=a2 t.P;unfold extL;omega,λv hv=>?_⟩;obtain⟨p,a5,h2⟩:=L6.1 hv;obtain⟨a,_,rfl⟩:=D8.1 h2;have:=ht.pw p a5;unfold SmW;simp;omega
 refine⟨?_,hE⟩;unfold bC
 have key:=O4 (step:=λ(s:A3×Nat)=>bC.s14 t s.1 s.2) (r:=extL t) (λs=>s.2<=t.P.length/\s.1=(t.P.take s.2).flatMap λp=>(List.range t.I.toNat).map λ(a:Nat)=>p++[(a:Int)]) (λs=>t.P.length-s.2) (λs ⟨g1,g2⟩=>by
  obtain⟨z,k⟩:=s
  simp only at g1 g2
  subst g2
  simp only[bC.s14]
  by_cases g4:k<t.P.length
  ·left
   have hx:=get_at g4
   have a4:SmW t.P[k]:=ht.sm.2.1.2 _ (H9 _)
   have hl:=a2 (t.P.take k)
   rw[H6]at hl
   generalize hz:((t.P.take k).flatMap λp=>(List.range t.I.toNat).map λ(a:Nat)=>p++[(a:Int)])=z at hl
   have a3:=O4 (step:=λ(s:A3×Nat)=>bC.s13 t k s.1 s.2) (r:=z++(List.range t.I.toNat).map λ(a:Nat)=>t.P[k]++[(a:Int)]) (λs=>s.2<=t.I.toNat/\s.1=z++(List.range s.2).map λ(a:Nat)=>t.P[k]++[(a:Int)]) (λs=>t.I.toNat-s.2) (λs ⟨q1,q2⟩=>by
    obtain⟨u,j⟩:=s
    simp only at q1 q2
    subst q2
    simp only[bC.s13]
    by_cases q4:j<t.I.toNat
    ·left
     refine⟨(z++(List.range (j+1)).map λ(a:Nat)=>t.P[k]++[(a:Int)],j+1),?_,⟨q4,rfl⟩,by simp only;omega⟩
     rw[C9,C6 hx,lR a4 (by simp[SmW]),A5,F0 (by rw[D7,E1,aE];unfold E5;omega),K1,jE,N3]
     simp
    ·right
     have e:j=t.I.toNat:=by omega
     subst e
     rw[B5]) (n:=fuel) (s:=(z,0)) ⟨F8 _,by simp⟩
   refine⟨(z++(List.range t.I.toNat).map λ(a:Nat)=>t.P[k]++[(a:Int)],k+1),?_,⟨g4,?_⟩,by simp only;omega⟩
   ·rw[I8 hx,D2,a3,A5]
   ·simp only
    rw[L9 hx,eF,hz]
    simp
  ·right
   have e:k=t.P.length:=by omega
   subst e
   rw[B5,M4]
   rfl) (n:=fuel) (s:=([],0)) ⟨F8 _,by simp⟩
 rw[key,A5,FO hE,A5]
def JH{t:B8}{o:A6}(ht:K7 t)(ho:SmO o)(hv:I6 o):aX t o=some (if chkT t o≠0 then([],chkT t o) else(maxR (L1 o t t.P),0)):=by
 have hn:=ht.n;have hp:=ht.p;have hs:=ht.s;have hS:=ht.sm.2.2.1;obtain⟨b3,a5⟩:=LA ht;unfold aX;rw[IZ ht.sm,A5];by_cases h:chkT t o=0
 ·rw[B5 (by simpa using h),if_neg (by simpa using h),b3,A5];have a8:=mT a5
  have b6:(sortW (extL t)).length<=2400:=by
   have h1:=pI (extL t)
   have:(extL t).length<=4*t.P.length:=by
    unfold extL;generalize t.P=P
    induction P with
    |nil=>simp
    |cons p P ih =>
     rw[P1,D7,H7,E1,aE];omega
   omega
  rw[EP (by simp) (by rw[qQ];exact rN (by omega) ht.sm.2.1 a8),qQ,A5]
  have a2:∀x,x∈sortW (t.P++sortW (extL t))↔∃p∈t.P,x∈N6 t.I.toNat p:=λx=>by
   rw[aC,K0,aC];unfold extL N6;constructor
   ·rintro (h|h)
    ·exact⟨x,h,by simp⟩
    ·obtain⟨p,hp,h2⟩:=L6.1 h;exact⟨p,hp,K3 _ h2⟩
   ·rintro⟨p,hp,h⟩;rcases I2.1 h with rfl|h
    ·exact Or.inl hp
    ·exact Or.inr (L6.2 ⟨p,hp,h⟩)
  have a6:(sortW (t.P++sortW (extL t))).length<=3000:=by
   have:=pI (t.P++sortW (extL t));rw[D7]at this;omega
  have a4:∀x∈sortW (t.P++sortW (extL t)),x.length<=401:=λx hx=>by
   obtain⟨p,b2,h2⟩:=(a2 x).1 hx;have:=ht.pw p b2;unfold N6 at h2;rcases I2.1 h2 with rfl|h2
   ·omega
   ·obtain⟨a,_,rfl⟩:=D8.1 h2;simp;omega
  generalize sortW (t.P++sortW (extL t))=U at a2 a6 a4
  have hb:∀k,((U.take k).flatMap λw=>J5 o w t.X).length<=600*k:=by
   intro k
   induction k with
   |zero=>simp
   |succ k ih =>
    by_cases hk:k<U.length
    ·have hx:=get_at hk;have:=jW o U[k] t.X;rw[L9 hx,eF,D7];simp only[P1,sQ,S5];omega
    ·rw[X6 (by omega)];rw[X6 (by omega)]at ih;omega
  have key:=O4 (step:=λ(s:A3×Nat)=>aX.s14 t o U s.1 s.2) (r:=U.flatMap λw=>J5 o w t.X) (λs=>s.2<=U.length/\s.1=(U.take s.2).flatMap λw=>J5 o w t.X) (λs=>U.length-s.2) (λs ⟨g1,g2⟩=>by
   obtain⟨z,i⟩:=s
   simp only at g1 g2
   subst g2
   simp only[aX.s14]
   by_cases g4:i<U.length
   ·left
    have hx:=get_at g4
    have b7:=a4 _ (H9 g4)
    have hl:=hb i
    generalize hz:((U.take i).flatMap λw=>J5 o w t.X)=z at hl
    have a3:=O4 (step:=λ(s:A3×Nat)=>aX.s13 t o U i s.1 s.2) (r:=z++J5 o U[i] t.X) (λs=>s.2<=t.X.length/\s.1=z++J5 o U[i] (t.X.take s.2)) (λs=>t.X.length-s.2) (λs ⟨q1,q2⟩=>by
     obtain⟨u,k⟩:=s
     simp only at q1 q2
     subst q2
     simp only[aX.s13]
     by_cases q4:k<t.X.length
     ·left
      have hy:=get_at q4
      have b5:SmW t.X[k]:=hS.2 _ (H9 _)
      have b0:=CZ (o:=o) (w:=U[i]) hy
      have b4:=jW o U[i] (t.X.take k)
      rw[H6]at b4
      refine⟨(z++J5 o U[i] (t.X.take (k+1)),k+1),?_,⟨q4,rfl⟩,by simp only;omega⟩
      rw[I8 hy,D2,C6 hx,C6 hy,lR (by unfold SmW;omega) b5,A5,sC ho hv,A5,b0]
      cases ha:ansO o (U[i]++t.X[k]) with
      |none =>
       simp only[tw,aG,D2,BP,if_true]
       rw[F0 (by rw[D7];unfold E5;omega),U8]
      |some r=>simp[tw]
     ·right
      have e:k=t.X.length:=by omega
      subst e
      rw[B5,M4]) (n:=fuel) (s:=(z,0)) ⟨F8 _,by simp[J5]⟩
    refine⟨(z++J5 o U[i] t.X,i+1),?_,⟨g4,?_⟩,by simp only;omega⟩
    ·rw[I8 hx,D2,a3,A5]
    ·simp only
     rw[L9 hx,eF,hz]
     simp
   ·right
    have e:i=U.length:=by omega
    subst e
    rw[B5,M4]) (n:=fuel) (s:=([],0)) ⟨F8 _,by simp⟩
  have a7:=hb U.length;rw[M4]at a7
  rw[key,A5,JW ⟨by omega,λv a9=>by
   obtain⟨w,hw,h3⟩:=L6.1 a9
   obtain⟨⟨e,he,rfl⟩,_⟩:=cY.1 h3
   have h5:=ht.sw e he
   have h6:=a4 w hw
   unfold SmW
   rw[D7]
   omega⟩,A5]
  congr 2;refine maxR_ext λv=>?_;unfold L1;rw[L6,L6];constructor
  ·rintro⟨w,hw,hm⟩;obtain⟨p,hp,h2⟩:=(a2 w).1 hw;exact⟨p,hp,L6.2 ⟨w,h2,hm⟩⟩
  ·rintro⟨p,hp,h2⟩;obtain⟨w,hw,hm⟩:=L6.1 h2;exact⟨w,(a2 w).2 ⟨p,hp,hw⟩,hm⟩
 ·rw[C9 h,if_pos h]
def iE{o:A6}(hv:I6 o){w:A2}:∀{S:A3} {l:A3},rowO o w S=some l->l.length=S.length/\∀x∈l,∃e∈S,x.length=e.length
 |[],l,h=>by
  injection h with h
  subst h;exact⟨rfl,λx hx=>by cases hx⟩
 |e::S,l,h=>by
  unfold rowO at h;cases ha:ansO o (w++e) with
  |none=>rw[ha]at h;cases h
  |some r =>
   rw[ha]at h;obtain⟨l',h1,rfl⟩:=eG.1 h;obtain⟨h2,h3⟩:=iE hv h1;have hrl:=iF hv ha;rw[D7]at hrl;refine⟨by simp[h2],λx hx=>?_⟩;rcases I2.1 hx with rfl|hx
   ·exact⟨e,by simp,by rw[O5];omega⟩
   ·obtain⟨e',he',hl'⟩:=h3 x hx;exact⟨e',K3 _ he',hl'⟩
def rowT_sml{t:B8}{o:A6}(hv:I6 o)(ht:SmT t)(w:A2):SmL (rowT t o w).1:=by
 unfold rowT;split
 ·exact U4
 ·cases h:rowO o w t.X with
  |none=>exact U4
  |some l =>
   obtain⟨h1,h2⟩:=iE hv h;refine⟨by show l.length<=2000000;rw[h1];exact ht.2.2.1.1,λx hx=>?_⟩;obtain⟨e,he,hl⟩:=h2 x hx;have:SmW e:=ht.2.2.1.2 e he;unfold SmW at this ⊢;omega

section
section
variable {M:B7}{P:A3}
end
end
section
section
variable {front middle last:A3}
end
end
section
section
variable {m M:B7}
end
end
section
section
variable {m b M:B7}
end
end
section
section
variable {A:Type}[DecidableEq A]{e:A->Nat->A}{K:Nat}{s0:A}
def bfs_mono:∀(r:Nat) {u v:Nat} {x y:A×A2},u<=v->(bfsB e K s0 r)[u]?=some x->(bfsB e K s0 r)[v]?=some y->x.2.length<=y.2.length
 |0,u,v,x,y,huv,hx,hy=>by
  have h1:=(G4.1 hx).1;have h2:=(G4.1 hy).1;have hl:(bfsB e K s0 0).length=1:=rfl;have e1:u=0:=by omega
  have e2:v=0:=by omega
  subst e1;subst e2;rw[hx]at hy;injection hy with hy
  rw[hy];exact H4 _
 |r+1,u,v,x,y,huv,hx,hy=>by
  have ih:=λ{u v x y}=>bfs_mono r (u:=u) (v:=v) (x:=x) (y:=y);rw[bfsB]at hx hy;cases hp:(bfsB e K s0 r)[r / K]? with
  |none =>
   rw[hp]at hx hy;exact ih huv hx hy
  |some p =>
   rw[hp]at hx hy;simp only at hx hy;split at hx
   ·rename_i g;rw[if_pos g]at hy;exact ih huv hx hy
   ·rename_i g;rw[if_neg g]at hy;have hv:=(G4.1 hy).1;rw[D7,S6]at hv;rcases L8 v (bfsB e K s0 r).length with h|h
    ·rw[jI h]at hy;rw[jI (by omega)]at hx;exact ih huv hx hy
    ·have ev:v=(bfsB e K s0 r).length:=by omega
     subst ev;rw[lB (H4 _),sO]at hy;injection hy with hy
     subst hy;simp only[D7,S6];rcases L8 u (bfsB e K s0 r).length with h2|h2
     ·rw[jI h2]at hx;rcases xQ hx with q|⟨r',z,q1,q2,q3,q4⟩
      ·subst q;rw[bfs_pos]at hx;injection hx with hx
       subst hx;simp
      ·have:=ih (BS (c:=K) (Nat.le_of_lt q1)) q3 hp;rw[q4];simp only[D7,S6];omega
     ·have eu:u=(bfsB e K s0 r).length:=by omega
      subst eu;rw[lB (H4 _),sO]at hx;injection hx with hx
      subst hx;simp
def bfs_early{N j r:Nat}{y:A×A2}(hK:0<K)(hy:(bfsB e K s0 N)[j]?=some y)(hr:j*K<=r)(hN:r<=N):(bfsB e K s0 r)[j]?=some y:=by
 have a2:=lC (e:=e) (K:=K) (s0:=s0) hN;rcases L8 j (bfsB e K s0 r).length with g|g
 ·have:=fV a2 (L4 g);rw[hy]at this;rw[L4 g,this]
 ·exfalso
  have a3:∀d,bfsB e K s0 (r+d)=bfsB e K s0 r:=by
   intro d
   induction d with
   |zero=>rfl
   |succ d ih =>
    show bfsB e K s0 (r+d+1)=_;rw[bfsB,ih,fM ?_];have h1:j<=(r+d) / K:=(Nat.le_div_iff_mul_le hK).2 (by omega);omega
  have h2:=a3 (N-r);rw[show r+(N-r)=N by omega]at h2;rw[h2]at hy;have:=(G4.1 hy).1;omega
def bfs_reach{f:A->A2->A}(f0:∀a,f a []=a)(f1:∀a w (c:Nat),f a (w++[(c:Int)])=e (f a w) c){i:Nat}{x:A×A2}{N:Nat}(hx:(bfsB e K s0 N)[i]?=some x)(hN:i*K<=N) :
  ∀(n:Nat) (w:A2),w.length=n->(∀z∈w,0<=z/\z<(K:Int))->n<x.2.length->∃j y,j<i/\(bfsB e K s0 (i*K))[j]?=some y/\y.1=f s0 w/\y.2.length<=n:=by
 intro n
 induction n with
 |zero =>
  intro w hw _ a6;have:w=[]:=S9 hw;subst this;refine⟨0,(s0,[]),Nat.pos_of_ne_zero λh=>?_,bfs_pos _,(f0 s0).symm,H4 _⟩;subst h;rw[bfs_pos]at hx;injection hx with hx
  subst hx;exact absurd a6 (by simp)
 |succ n ih =>
  intro w hw hz a6;rcases BU w with rfl|⟨v,c,rfl⟩
  ·simp at hw
  rw[HA]at hw hz ⊢;obtain⟨c0,c1⟩:=hz c (M2 _ (K2.2 rfl));obtain⟨a,rfl⟩:=pZ c0;have hK:0<K:=by omega
  have ha:a<K:=by omega
  obtain⟨j,y,j1,j2,j3,j4⟩:=ih v (by simpa using hw) (λz h=>hz z (M1 _ h)) (by omega);have a4:j*K+a+1<=i*K:=by have:=mK j1 ha;omega
  have hy:=bfs_early hK j2 (r:=j*K+a) (by omega) (by omega);have a5:=bfs_to (e:=e) (K:=K) (s0:=s0) (r:=j*K+a) (x:=y) (by rw[jM ha];exact hy);rw[dm_mod ha]at a5;obtain⟨z,a9,a8⟩:=D8.1 a5;obtain⟨l,hl,ez⟩:=Q4.1 a9;have a2:(bfsB e K s0 (j*K+a+1))[l]?=some z:=by rw[L4 hl,ez]
  have b0:z.2.length<=n+1:=by
   rcases xQ a2 with q|⟨r',u,q1,q2,q3,q4⟩
   ·subst q;rw[bfs_pos]at a2;injection a2 with a2
    subst a2;simp
   ·have hd:r' / K<=j:=by
     have:=BS (c:=K) (show r'<=j*K+a by omega)
     rwa [jM ha]at this
    have b2:=fV (xP (e:=e) (K:=K) (s0:=s0) (j*K+a)) hy;have:=bfs_mono _ hd q3 b2;rw[q4];simp only[D7,S6];omega
  have a3:=fV (lC (e:=e) (K:=K) (s0:=s0) a4) a2;refine⟨l,z,Nat.lt_of_not_le λa7=>?_,a3,by rw[a8,f1,j3],b0⟩;have h3:=fV (lC (e:=e) (K:=K) (s0:=s0) hN) a3;have:=bfs_mono _ a7 hx h3;omega
end
section
variable {m:B7}
end
end
section
def uniM(a b:B7):B7:=⟨a.I,a.S,a.N++b.N.map (λx=>x.map (λu=>u+(a.N.length:Int))),a.O++b.O⟩
section
variable {a b:B7}
def mP:(uniM a b).N.length=a.N.length+b.N.length:=by unfold uniM;simp
def uni_ok(T:Two a b)(h:a.N.length+b.N.length<=128):N0 (uniM a b):=by
 have h1:=T.a1.ol;have h2:=T.b1.ol;have a2:=T.a1.st;have hn:=T.a1.n1;refine⟨T.a1.i1,T.a1.i2,by rw[mP];omega,by rw[mP];exact h,by rw[mP];show 0<=a.S/\a.S<_;omega,by rw[mP];unfold uniM;simp only[D7];omega,λs hs=>?_⟩;rw[mP]at hs ⊢;rcases L8 s a.N.length with g|g
 ·obtain⟨x,y,k1,k2,k3,k4,k5,k6⟩:=T.a1.row s g;exact⟨x,y,by show(a.N++_)[s]?=_;rw[jI g,k1],by show(a.O++_)[s]?=_;rw[jI (by omega),k2],k3,k4,λu hu=>by have:=k5 u hu;omega,k6⟩
 ·obtain⟨x,y,k1,k2,k3,k4,k5,k6⟩:=T.b1.row (s-a.N.length) (by omega);refine⟨x.map (λu=>u+(a.N.length:Int)),y,?_,?_,?_,?_,λu hu=>?_,k6⟩
  ·show(a.N++_)[s]?=_;rw[lB g,K5,k1];rfl
  ·show(a.O++_)[s]?=_;rw[lB (by omega),h1,k2]
  ·rw[E1,k3];exact T.inp.symm
  ·rw[k4];exact T.inp.symm
  ·obtain⟨v,hv,rfl⟩:=D8.1 hu;have:=k5 v hv;omega
def uni_l{s c:Nat}(T:Two a b)(hs:s<a.N.length):nx (uniM a b) s c=nx a s c/\ot (uniM a b) s c=ot a s c:=by
 have h1:=T.a1.ol;unfold nx ot uniM;simp only;rw[jI hs,jI (by omega)];exact⟨rfl,rfl⟩
def uni_r{t c:Nat}(T:Two a b)(ht:t<b.N.length)(hc:c<b.I.toNat):nx (uniM a b) (a.N.length+t) c=a.N.length+nx b t c/\ot (uniM a b) (a.N.length+t) c=ot b t c:=by
 have h1:=T.a1.ol;obtain⟨_,_,_,x,y,k1,k2,k3,k4⟩:=T.b1.at ht hc
 have e1:(uniM a b).N[a.N.length+t]?=some (x.map λu=>u+(a.N.length:Int)):=by
  show(a.N++_)[_]?=_;rw[lB (sP _ _),xC,K5,k1];rfl
 have e2:(uniM a b).O[a.N.length+t]?=some y:=by
  show(a.O++_)[_]?=_;rw[lB (by omega),h1,xC,k2]
 constructor
 ·have e3:nx (uniM a b) (a.N.length+t) c=((↑(nx b t c):Int)+(a.N.length:Int)).toNat:=by
   show((((uniM a b).N[a.N.length+t]?).getD [])[c]?.getD 0).toNat=_;rw[e1,Q3,K5,k3];rfl
  omega
 ·show((((uniM a b).O[a.N.length+t]?).getD [])[c]?).getD 0=_;rw[e2,Q3,k4];rfl
def CW(T:Two a b):∀(w:A2) (s:Nat),s<a.N.length->WOk a.I w->outs (uniM a b) s w=outs a s w
 |[],_,_,_=>rfl
 |x::w,s,hs,hw=>by
  obtain⟨e1,e2⟩:=uni_l (c:=x.toNat) T hs;have hx:=hw.head;have:=(T.a1.at hs (a:=x.toNat) (by omega)).1;show ot (uniM a b) s x.toNat::outs (uniM a b) (nx (uniM a b) s x.toNat) w=ot a s x.toNat::outs a (nx a s x.toNat) w;rw[e1,e2,CW T w _ this hw.tail]
def DJ(T:Two a b):∀(w:A2) (t:Nat),t<b.N.length->WOk a.I w->outs (uniM a b) (a.N.length+t) w=outs b t w
 |[],_,_,_=>rfl
 |x::w,t,ht,hw=>by
  have hx:=hw.head;have hi:=T.inp;obtain⟨e1,e2⟩:=uni_r (c:=x.toNat) T ht (by omega);have:=(T.b1.at ht (a:=x.toNat) (by omega)).1;show ot (uniM a b) _ x.toNat::outs (uniM a b) (nx (uniM a b) _ x.toNat) w=ot b t x.toNat::outs b (nx b t x.toNat) w;rw[e1,e2,DJ T w _ this hw.tail]
def two_short(T:Two a b)(h:a.N.length+b.N.length<=128){s t:Nat}(hs:s<a.N.length)(ht:t<b.N.length){w:A2}(hw:WOk a.I w)(hne:outs a s w≠outs b t w):∃v,v.length<=a.N.length+b.N.length/\WOk a.I v/\outs a s v≠outs b t v:=by
 refine Q5 λg=>hne ?_;have U:=uni_ok T h
 have hE:E (uniM a b) (uniM a b).N.length s (a.N.length+t):=E_of_outs λv hl hv=>by
  rw[mP]at hl;have hv:WOk a.I v:=hv;rw[CW T v s hs hv,DJ T v t ht hv];exact Q5 λh=>g ⟨v,hl,hv,h⟩
 have:=E_outs (w:=w) (E_all U (by rw[mP];omega) (by rw[mP];omega) hE w.length) hw
 rwa [CW T w s hs hw,DJ T w t ht hw]at this
def zq30:∀{v:A2} {s t:Nat},WOk a.I v->outs a s v≠outs b t v->∃(u:A2) (c:Nat) (z:A2),v=u++(c:Int)::z/\c<a.I.toNat/\ot a (dest a s u) c≠ot b (dest b t u) c
 |[],s,t,_,h=>absurd rfl h
 |x::v,s,t,hw,h=>by
  have hx:=hw.head;obtain⟨c,rfl⟩:=pZ hx.1;by_cases g:ot a s c=ot b t c
  ·obtain⟨u,d,z,h1,h2,h3⟩:=zq30 (v:=v) (s:=nx a s c) (t:=nx b t c) hw.tail λhv=>h (by
    show ot a s (Int.toNat (c:Int))::outs a (nx a s (Int.toNat (c:Int))) v=ot b t (Int.toNat (c:Int))::outs b (nx b t (Int.toNat (c:Int))) v
    rw[P0,g,hv])
   exact⟨(c:Int)::u,d,z,by rw[h1];rfl,h2,h3⟩
  ·exact⟨[],c,v,rfl,by omega,g⟩
def fst_short{s t:Nat}{w:A2}(hF:Fst a b (s,t) (w,true)){v:A2}(v2:WOk a.I v)(v3:outs a s v≠outs b t v):w.length<=v.length:=by
 rcases hF with⟨i,c,x,h1,h2,h3,h4,h5⟩|⟨L,_,_,h5⟩
 ·injection h5 with h5 _
  rw[h5,D7,S6];obtain⟨u,d,z,rfl,u2,u3⟩:=zq30 v2 v3;simp only[D7,H7];refine Nat.le_of_not_lt λa3=>?_
  have hu:∀q∈u,0<=q/\q<(a.I.toNat:Int):=λq hq=>by
   have:=v2 q (M1 _ hq);omega
  have fd:∀(m:B7) (st:Nat) (w:A2) (c:Nat),dest m st (w++[(c:Int)])=nx m (dest m st w) c:=λm st w c=>by
   rw[kG];show nx m (dest m st w) (Int.toNat (c:Int))=_;rw[P0]
  obtain⟨j,y,j1,j2,j3,j4⟩:=bfs_reach (e:=pE a b) (K:=a.I.toNat) (s0:=(s,t)) (f:=λp w=>(dest a p.1 w,dest b p.2 w)) (λa=>rfl) (λp w c=>by
   simp only[fd]
   rfl) (N:=i*a.I.toNat+c) h2 (by omega) u.length u rfl hu (by omega)
  have hK:0<a.I.toNat:=by omega
  have a2:=mK j1 u2;have hy:=bfs_early hK j2 (r:=j*a.I.toNat+d) (by omega) (by omega);have:=h4 (j*a.I.toNat+d) (by omega);rw[nW u2 hy,j3,D3 u3]at this;cases this
 ·injection h5 with _ h5
  cases h5
def dist_both(c1:Q9 a=0)(c2:Q9 b=0)(c3:a.I=b.I)(h:a.N.length+b.N.length<=128) :
  (fJ a b=some ([],false,0)/\lX a b=some ([],false,0)/\∀w,WOk a.I w->outs a a.S.toNat w=outs b b.S.toNat w) \/
  ∃w,fJ a b=some (w,true,0)/\lX a b=some (w,true,0)/\WOk a.I w/\w.length<=a.N.length+b.N.length/\outs a a.S.toNat w≠outs b b.S.toNat w:=by
 have T:Two a b:=⟨fW c1,fW c2,c3⟩;have h1:=T.a1.st;have h2:=T.b1.st;have hi:=T.a1.i1;obtain⟨⟨w,f⟩,h3,h4⟩:=KO T (p0:=(a.S.toNat,b.S.toNat)) (by simp only;omega) (by simp only;omega);obtain⟨r,h5,h6⟩:=R09_first_eq T (p0:=(a.S.toNat,b.S.toNat)) (by simp only;omega) (by simp only;omega);have:=fst_uniq (by omega) h4 h6;subst this;simp only at h3 h5;rw[show(a.S.toNat:Int)=a.S by omega,show(b.S.toNat:Int)=b.S by omega]at h3 h5
 have e1:fJ a b=some (w,f,0):=by
  unfold fJ;rw[KE c1 c2 c3,A5,B5 (by decide),h3,A5]
 have e2:lX a b=some (w,f,0):=by
  unfold lX;rw[R09_Check_eq,A5,if_neg (λh=>h c1),if_neg (λh=>h c2),if_neg (λh=>h c3),B5 (by decide),h5,A5]
 cases f with
 |false =>
  left
  have hw:w=[]:=by
   rcases h4 with⟨_,_,_,_,_,_,_,h⟩|⟨_,_,_,h⟩
   ·injection h with _ h;cases h
   ·injection h
  subst hw;exact⟨e1,e2,fst_none h4⟩
 |true =>
  right;have hw:=(fst_word T (p0:=(a.S.toNat,b.S.toNat)) (by simp only;omega) (by simp only;omega) h4).1;have a2:=fst_ne T (p0:=(a.S.toNat,b.S.toNat)) (by simp only;omega) (by simp only;omega) h4;obtain⟨v,v1,v2,v3⟩:=two_short T h (s:=a.S.toNat) (t:=b.S.toNat) (by omega) (by omega) hw a2;have:=fst_short h4 v2 v3;exact⟨w,e1,e2,hw,by omega,a2⟩
end
end
section
section
variable {V:Type}[DecidableEq V]
def pos(r:V):List V->Nat
 |[]=>0
 |x::l=>if x=r then 0 else pos r l+1
def jR{r:V}:∀{l:List V},r∈l->l[pos r l]?=some r
 |x::l,h=>by
  unfold pos;by_cases e:x=r
  ·simp[e]
  ·rw[if_neg e];rcases I2.1 h with h|h
   ·exact absurd h.symm e
   ·simpa using jR h
def pos_lt{r:V}{l:List V}(h:r∈l):pos r l<l.length:=(G4.1 (jR h)).1
def CS{r:V}:∀{l m:List V},r∈l->pos r (l++m)=pos r l
 |x::l,m,h=>by
  rw[eD];unfold pos;by_cases e:x=r
  ·simp[e]
  ·rw[if_neg e,if_neg e];rcases I2.1 h with h|h
   ·exact absurd h.symm e
   ·rw[CS h]
def pos_new{r:V}:∀{l:List V},r∉l->pos r (l++[r])=l.length
 |[],_=>by simp[pos]
 |x::l,h=>by
  rw[eD];unfold pos;have h1:¬x=r:=λe=>h (by simp[e]);have h2:r∉l:=λe=>h (by simp[e]);rw[if_neg h1,pos_new h2];rfl
def pos_inj{r s:V}{l:List V}(hr:r∈l)(hs:s∈l)(h:pos r l=pos s l):r=s:=by
 have h1:=jR hr;rw[h,jR hs]at h1;injection h1 with h1
 exact h1.symm
def addR(R:List V)(r:V):List V:=if r∈R then R else R++[r]
def yD{R:List V}{r x:V}:x∈addR R r↔x∈R\/x=r:=by
 unfold addR;split
 ·constructor
  ·exact Or.inl
  ·rintro (h|rfl)
   ·exact h
   ·assumption
 ·simp
def pos_addR{R:List V}{r x:V}(h:x∈R):pos x (addR R r)=pos x R:=by
 unfold addR;split
 ·rfl
 ·exact CS h
def addR_len(R:List V)(r:V):(addR R r).length<=R.length+1:=by
 unfold addR;split
 ·omega
 ·simp
end
def cT:A3->List UInt8
 |[]=>[]
 |o::r=>keyL o++47::cT r
def rkeyL_append(a b:A3):cT (a++b)=cT a++cT b:=by
 induction a with
 |nil=>rfl
 |cons o a ih=>simp[cT,ih]
def CL:∀(w:A2),∀c∈keyL w,c≠47
 |[],c,h=>by cases h
 |a::w,c,h=>by
  simp only[keyL]at h;rcases K0.1 h with h|h
  ·intro e;subst e;unfold aS at h;split at h
   ·rcases I2.1 h with h|h
    ·cases h
    ·have:=tY _ _ h
     revert this
     decide
   ·have:=tY _ _ h
    revert this
    decide
  ·rcases I2.1 h with h|h
   ·subst h;decide
   ·exact CL w c h
def rkeyL_inj:∀{a b:A3},cT a=cT b->a=b
 |[],[],_=>rfl
 |[],o::b,h=>by
  simp only[cT]at h;have:=congrArg List.length h;simp at this
 |o::a,[],h=>by
  simp only[cT]at h;have:=congrArg List.length h;simp at this
 |o::a,u::b,h=>by
  simp only[cT]at h;obtain⟨h1,h2⟩:=split_at (CL o) (CL u) h;rw[keyL_inj h1,rkeyL_inj h2]
def rkey(r:A3):ByteArray:=⟨(cT r).toArray⟩
def rkey_inj{a b:A3}(h:rkey a=rkey b):a=b:=rkeyL_inj (by
 unfold rkey at h
 injection h with h
 injection h)
def RowSm(r:A3):Prop:=r.length<=1000/\∀x∈r,x.length<=1000/\∀a∈x,inR a
def rkeyL_len{r:A3}(h:∀x∈r,x.length<=1000/\∀a∈x,inR a):(cT r).length<=15001*r.length:=by
 induction r with
 |nil=>simp[cT]
 |cons o r ih =>
  have h1:=h o (by simp);have h2:=xN (xs:=o) h1.2;have h3:=ih λx hx=>h x (by simp[hx]);simp only[cT,D7,H7];omega
def bytes_append(a b:List UInt8):((⟨a.toArray⟩:ByteArray)++⟨b.toArray⟩)=⟨(a++b).toArray⟩:=by
 apply ByteArray.ext;simp
def DR(a:List UInt8):(⟨a.toArray⟩:ByteArray).size=a.length:=by simp[ByteArray.size]
def row_key_eq{r:A3}(h:RowSm r):iter (λ(s:ByteArray×Nat)=>cM.s2 r s.1 s.2) fuel ((⟨#[]⟩:ByteArray),0)=some (rkey r):=by
 obtain⟨hl,hr⟩:=h;refine O4 (λs=>s.2<=r.length/\s.1=rkey (r.take s.2)) (λs=>r.length-s.2) (λs ⟨g1,g2⟩=>?_) ⟨F8 _,rfl⟩;obtain⟨z,k⟩:=s;simp only at g1 g2;subst g2;simp only[cM.s2];by_cases g4:k<r.length
 ·left;have hx:=get_at g4;have a2:=hr _ (H9 g4);have a4:=xN (xs:=r[k]) a2.2;have a3:=rkeyL_len (r:=r.take k) λx hx=>hr x (Q1 hx);rw[H6]at a3;have e1:((⟨(keyL r[k]).toArray⟩:ByteArray)++⟨#[47]⟩)=⟨(keyL r[k]++[47]).toArray⟩:=bytes_append (keyL r[k]) [47];refine⟨(rkey (r.take (k+1)),k+1),?_,⟨by simp only;omega,rfl⟩,by simp only;omega⟩;rw[I8 hx,D2,C6 hx,EZ (by unfold SmW;omega) a2.2,A5,e1];have e2:(⟨#[47]⟩:ByteArray).size=1:=rfl
  rw[F0 (by rw[DR,e2];omega),F0 (by
   unfold rkey
   rw[DR,DR,D7,S6]
   omega)]
  unfold rkey;rw[bytes_append,L9 hx,rkeyL_append];simp[cT]
 ·right;have e:k=r.length:=by omega
  subst e;rw[B5,M4]
def NumOk(R:List (A3))(m:List (ByteArray×Int)):Prop:=∀r,mget (rkey r) m=if r∈R then some (↑(pos r R):Int) else none
def HV{v:M6}{r:A3}(h:RowSm r)(hn:NumOk v.rows v.number)(hl:v.rows.length<=100000) :
  ∃m,cM v r=some ((↑(pos r (addR v.rows r)):Int),⟨addR v.rows r,v.prefixes,v.next,m⟩)/\NumOk (addR v.rows r) m:=by
 unfold cM;rw[row_key_eq h,A5];have hr:=hn r;by_cases hm:r∈v.rows
 ·rw[if_pos hm]at hr;refine⟨v.number,?_,?_⟩
  ·rw[hr];simp only[xE,N2,D6,Q3];unfold addR;rw[if_pos hm];rfl
  ·unfold addR;rw[if_pos hm];exact hn
 ·rw[if_neg hm]at hr;refine⟨mset (rkey r) (v.rows.length:Int) v.number,?_,λx=>?_⟩
  ·rw[hr];simp only[xF,aG,D2];rw[eN,A5];unfold addR;rw[if_neg hm,pos_new hm];rfl
  ·unfold addR;rw[if_neg hm];by_cases hx:x=r
   ·subst hx;rw[FS ba_beq,if_pos (by simp),pos_new hm]
   ·rw[EM ba_beq (λe=>hx (rkey_inj e)),hn x];by_cases a2:x∈v.rows
    ·rw[if_pos a2,if_pos (by simp[a2]),CS a2]
    ·rw[if_neg a2,if_neg (by simp[a2,hx])]
end
def Q7(o:A6)(S:A3):A3->Option (List (A3))
 |[]=>some []
 |w::ws=>match rowO o w S with
  |none=>none
  |some r=>(Q7 o S ws).map λl=>r::l
def jY{o:A6}{S:A3}:∀{ws:A3} {rs:List (A3)},Q7 o S ws=some rs->rs.length=ws.length/\∀(i:Nat) w,ws[i]?=some w->∃r,rs[i]?=some r/\rowO o w S=some r
 |[],rs,h=>by
  injection h with h
  subst h;exact⟨rfl,λi w hw=>by simp at hw⟩
 |w::ws,rs,h=>by
  unfold Q7 at h;cases hr:rowO o w S with
  |none=>rw[hr]at h;cases h
  |some r =>
   rw[hr]at h;obtain⟨rs',h1,rfl⟩:=eG.1 h;obtain⟨h2,h3⟩:=jY h1;refine⟨by simp[h2],λi u hu=>?_⟩;cases i with
   |zero =>
    simp at hu;subst hu;exact⟨r,rfl,hr⟩
   |succ i=>simpa using h3 i u (by simpa using hu)
def rowsO_none{o:A6}{S ws:A3}{w:A2}(hw:w∈ws)(h:rowO o w S=none):Q7 o S ws=none:=by
 cases hr:Q7 o S ws with
 |none=>rfl
 |some rs =>
  obtain⟨i,hi,rfl⟩:=Q4.1 hw;obtain⟨r,_,h2⟩:=(jY hr).2 i _ (get_at hi);rw[h]at h2;cases h2
def DL{o:A6}{S:A3}{w:A2}{r:A3}(h:rowO o w S=some r):∀{ws:A3} {rs:List (A3)},Q7 o S ws=some rs->Q7 o S (ws++[w])=some (rs++[r])
 |[],rs,h1=>by
  injection h1 with h1
  subst h1;simp[Q7,h]
 |u::ws,rs,h1=>by
  rw[eD];unfold Q7 at h1 ⊢;cases hr:rowO o u S with
  |none=>rw[hr]at h1;cases h1
  |some r' =>
   rw[hr]at h1;obtain⟨rs',h2,rfl⟩:=eG.1 h1;simp only[DL h h2];rfl
def ansO_rng{o:A6}(hv:I6 o){w r:A2}(h:ansO o w=some r):∀a∈r,inR a:=by
 unfold ansO at h;split at h
 ·injection h with h
  subst h;intro a ha;cases ha
 ·obtain⟨t,ht,rfl⟩:=eG.1 h;intro a ha;have hm:=dE ht;have:=(hv.prop t hm).1.2.2 a (Q1 ha);unfold inR;omega
def rowO_rng{o:A6}(hv:I6 o){w:A2}:∀{S:A3} {l:A3},rowO o w S=some l->∀x∈l,∀a∈x,inR a
 |[],l,h=>by
  injection h with h
  subst h;intro x hx;cases hx
 |e::S,l,h=>by
  unfold rowO at h;cases ha:ansO o (w++e) with
  |none=>rw[ha]at h;cases h
  |some r =>
   rw[ha]at h;obtain⟨l',h1,rfl⟩:=eG.1 h;intro x hx a hax;rcases I2.1 hx with rfl|hx
   ·exact ansO_rng hv ha a (V7 hax)
   ·exact rowO_rng hv h1 x hx a hax
def oG{o:A6}{t:B8}(hv:I6 o)(ht:K7 t){w:A2}{r:A3}(h:rowO o w t.X=some r):RowSm r:=by
 obtain⟨h1,h2⟩:=iE hv h;refine⟨by have:=ht.s;omega,λx hx=>⟨?_,rowO_rng hv h x hx⟩⟩;obtain⟨e,he,hl⟩:=h2 x hx;have:=ht.sw e he;omega
abbrev v0:M6:=⟨[],[],[],[]⟩
abbrev Row:Type:=A3
def G6(R rs:List Row):List Row:=rs.foldl addR R
def uU(R rs:List Row)(r:Row):G6 R (rs++[r])=addR (G6 R rs) r:=by simp[G6]
def FD(R a b:List Row):G6 R (a++b)=G6 (G6 R a) b:=by simp[G6]
def cZ{R:List Row}{x:Row}:∀{rs:List Row},x∈G6 R rs↔x∈R\/x∈rs:=by
 intro rs
 induction rs generalizing R with
 |nil=>simp[G6]
 |cons r rs ih =>
  show x∈G6 (addR R r) rs↔_;rw[ih,yD,I2];constructor
  ·rintro ((h|h)|h)
   ·exact Or.inl h
   ·exact Or.inr (Or.inl h)
   ·exact Or.inr (Or.inr h)
  ·rintro (h|h|h)
   ·exact Or.inl (Or.inl h)
   ·exact Or.inl (Or.inr h)
   ·exact Or.inr h
def yU{R:List Row}{x:Row}(h:x∈R):∀rs:List Row,pos x (G6 R rs)=pos x R:=by
 intro rs
 induction rs generalizing R with
 |nil=>rfl
 |cons r rs ih =>
  show pos x (G6 (addR R r) rs)=_;rw[ih (yD.2 (Or.inl h)),pos_addR h]
def rQ(R rs:List Row):(G6 R rs).length<=R.length+rs.length:=by
 induction rs generalizing R with
 |nil=>simp[G6]
 |cons r rs ih =>
  have h1:=ih (R:=addR R r);have h2:=addR_len R r;show(G6 (addR R r) rs).length<=_;rw[H7];omega
def nums(R rs:List Row):A2:=rs.map λr=>(↑(pos r R):Int)
def xX{R rs:List Row}(h:∀x∈rs,x∈R)(X:List Row):nums (G6 R X) rs=nums R rs:=by
 unfold nums;refine nV λx hx=>?_;rw[yU (h x hx)]
def look_first{o:A6}{t:B8}{F:List A8}(ht:K7 t)(ho:SmO o)(hv:I6 o)(hF:mI o F) :
  ∃res,iter (λ(s:List (A3)×A2×(List (ByteArray×Int))×Nat)=>N8.s2 t F s.1 s.2.1 s.2.2.1 s.2.2.2) fuel ([],[],([]:List (ByteArray×Int)),0)=some res /\
   match Q7 o t.X t.P with
   |none=>res=.inr (v0,12)
   |some rs=>∃m,res=.inl (G6 [] rs,nums (G6 [] rs) rs,m)/\NumOk (G6 [] rs) m:=by
 have hp:=ht.p;have hS:=ht.sm.2.2.1
 refine V3 (step:=λ(s:List (A3)×A2×(List (ByteArray×Int))×Nat)=>N8.s2 t F s.1 s.2.1 s.2.2.1 s.2.2.2)
  (λs=>s.2.2.2<=t.P.length/\∃rs,Q7 o t.X (t.P.take s.2.2.2)=some rs/\s.1=G6 [] rs/\s.2.1=nums (G6 [] rs) rs/\NumOk (G6 [] rs) s.2.2.1) (λs=>t.P.length-s.2.2.2) _ (λs ⟨g1,rs,g2,g3,g4,g5⟩=>?_) fuel _ ⟨F8 _,[],rfl,rfl,rfl,λr=>by simp[G6,mget]⟩ (by have:=O9;simp only;omega)
 obtain⟨R,N,m,k⟩:=s;simp only at g1 g2 g3 g4 g5;subst g3 g4
 have a6:rs.length=k:=by
  have:=(jY g2).1;rw[H6]at this;omega
 have a4:=rQ [] rs;simp only[V5]at a4;simp only[N8.s2];by_cases h:k<t.P.length
 ·have hx:=get_at h;have a5:SmW t.P[k]:=ht.sm.2.1.2 _ (H9 _);rw[I8 hx,D2,C6 hx,FK ho hv hF hS a5,A5];cases hr:rowO o t.P[k] t.X with
  |none =>
   right;refine⟨.inr (v0,12),rfl,?_⟩;rw[rowsO_none (H9 h) hr]
  |some r =>
   left;have a3:=oG hv ht hr;obtain⟨m',e,a2⟩:=HV (v:=⟨G6 [] rs,nums (G6 [] rs) rs,[],m⟩) a3 g5 (by simp only;omega);simp only at e a2;refine⟨(G6 [] (rs++[r]),nums (G6 [] (rs++[r])) (rs++[r]),m',k+1),?_,⟨h,rs++[r],?_,rfl,rfl,?_⟩,by simp only;omega⟩
   ·simp only[tw,N2,D6];rw[e,A5,F0 (by unfold nums E5;rw[E1];omega),uU]
    have h1:nums (addR (G6 [] rs) r) (rs++[r])=nums (G6 [] rs) rs++[(↑(pos r (addR (G6 [] rs) r)):Int)]:=by
     have h2:=xX (R:=G6 [] rs) (rs:=rs) (λx hx=>cZ.2 (Or.inr hx)) [r];have h3:G6 (G6 [] rs) [r]=addR (G6 [] rs) r:=rfl;rw[h3]at h2;rw[<- h2];simp[nums]
    rw[h1]
   ·simp only;rw[L9 hx];exact DL hr g2
   ·simp only;rw[uU];exact a2
 ·right;have e:k=t.P.length:=by omega
  subst e;rw[M4]at g2;refine⟨.inl (G6 [] rs,nums (G6 [] rs) rs,m),by rw[B5],?_⟩;rw[g2];exact⟨m,rfl,g5⟩
def exts(n:Nat)(p:A2):A3:=(List.range n).map λ(a:Nat)=>p++[(a:Int)]
def look_inner{o:A6}{t:B8}{F:List A8}(ht:K7 t)(ho:SmO o)(hv:I6 o)(hF:mI o F)(P:A2)(Q:A3){p:A2}(hp:SmW p)(hp1:p.length<=1000000){R:List Row}{m:List (ByteArray×Int)}(hm:NumOk R m)(hR:R.length<=10000) :
  ∃res,iter (λ(s:List (A3)×(List (ByteArray×Int))×A2×Nat)=>N8.s20 t F P Q p s.1 s.2.1 s.2.2.1 s.2.2.2) fuel (R,m,[],0)=some res /\
   match Q7 o t.X (exts t.I.toNat p) with
   |none=>res=.inr (.inr (.inr (v0,12)))
   |some rs=>∃m',res=.inl (G6 R rs,m',nums (G6 R rs) rs)/\NumOk (G6 R rs) m':=by
 have hn:=ht.n;have hS:=ht.sm.2.2.1
 refine V3 (step:=λ(s:List (A3)×(List (ByteArray×Int))×A2×Nat)=>N8.s20 t F P Q p s.1 s.2.1 s.2.2.1 s.2.2.2)
  (λs=>s.2.2.2<=t.I.toNat/\∃rs,Q7 o t.X (exts s.2.2.2 p)=some rs/\s.1=G6 R rs/\s.2.2.1=nums (G6 R rs) rs/\NumOk (G6 R rs) s.2.1) (λs=>t.I.toNat-s.2.2.2) _ (λs ⟨g1,rs,g2,g3,g4,g5⟩=>?_) fuel _ ⟨F8 _,[],rfl,rfl,rfl,hm⟩ (by have:=O9;simp only;omega)
 obtain⟨R',m1,N,k⟩:=s;simp only at g1 g2 g3 g4 g5;subst g3 g4
 have a6:rs.length=k:=by
  have:=(jY g2).1;unfold exts at this;simpa using this
 have a7:=rQ R rs;simp only[N8.s20];by_cases h:k<t.I.toNat
 ·have a5:SmW (p++[(k:Int)]):=by
   show(p++[(k:Int)]).length<=2000000;simp;omega
  have a4:exts (k+1) p=exts k p++[p++[(k:Int)]]:=by simp[exts,jE]
  rw[C9,GD hp,A5,FK ho hv hF hS a5,A5];cases hr:rowO o (p++[(k:Int)]) t.X with
  |none =>
   right;refine⟨.inr (.inr (.inr (v0,12))),rfl,?_⟩;rw[rowsO_none (ws:=exts t.I.toNat p) (w:=p++[(k:Int)]) (D8.2 ⟨k,M8.2 h,rfl⟩) hr]
  |some r =>
   left;have a3:=oG hv ht hr;obtain⟨m',e,a2⟩:=HV (v:=⟨G6 R rs,P,Q,m1⟩) a3 g5 (by simp only;omega);simp only at e a2;refine⟨(G6 R (rs++[r]),m',nums (G6 R (rs++[r])) (rs++[r]),k+1),?_,⟨h,rs++[r],?_,rfl,rfl,?_⟩,by simp only;omega⟩
   ·simp only[tw,N2,D6];rw[e,A5,F0 (by unfold nums E5;rw[E1];omega),K1,uU]
    have h1:nums (addR (G6 R rs) r) (rs++[r])=nums (G6 R rs) rs++[(↑(pos r (addR (G6 R rs) r)):Int)]:=by
     have h2:=xX (R:=G6 R rs) (rs:=rs) (λx hx=>cZ.2 (Or.inr hx)) [r];have h3:G6 (G6 R rs) [r]=addR (G6 R rs) r:=rfl;rw[h3]at h2;rw[<- h2];simp[nums]
    rw[h1]
   ·simp only;rw[a4];exact DL hr g2
   ·simp only;rw[uU];exact a2
 ·right;have e:k=t.I.toNat:=by omega
  subst e;refine⟨.inl (G6 R rs,m1,nums (G6 R rs) rs),by rw[B5],?_⟩;rw[g2];exact⟨m1,rfl,g5⟩
def bI(o:A6)(S:A3)(n:Nat):A3->Option (List (List Row))
 |[]=>some []
 |p::ps=>match Q7 o S (exts n p) with
  |none=>none
  |some rs=>(bI o S n ps).map λl=>rs::l
def uX{o:A6}{S:A3}{n:Nat}:∀{ps:A3} {rss:List (List Row)},bI o S n ps=some rss->rss.length=ps.length/\∀(i:Nat) p,ps[i]?=some p->∃rs,rss[i]?=some rs/\Q7 o S (exts n p)=some rs
 |[],rss,h=>by
  injection h with h
  subst h;exact⟨rfl,λi w hw=>by simp at hw⟩
 |p::ps,rss,h=>by
  unfold bI at h;cases hr:Q7 o S (exts n p) with
  |none=>rw[hr]at h;cases h
  |some r =>
   rw[hr]at h;obtain⟨rs',h1,rfl⟩:=eG.1 h;obtain⟨h2,h3⟩:=uX h1;refine⟨by simp[h2],λi u hu=>?_⟩;cases i with
   |zero =>
    simp at hu;subst hu;exact⟨r,rfl,hr⟩
   |succ i=>simpa using h3 i u (by simpa using hu)
def extRows_none{o:A6}{S:A3}{n:Nat}{ps:A3}{p:A2}(hw:p∈ps)(h:Q7 o S (exts n p)=none):bI o S n ps=none:=by
 cases hr:bI o S n ps with
 |none=>rfl
 |some rs =>
  obtain⟨i,hi,rfl⟩:=Q4.1 hw;obtain⟨r,_,h2⟩:=(uX hr).2 i _ (get_at hi);rw[h]at h2;cases h2
def IU{o:A6}{S:A3}{n:Nat}{p:A2}{r:List Row}(h:Q7 o S (exts n p)=some r):∀{ps:A3} {rs:List (List Row)},bI o S n ps=some rs->bI o S n (ps++[p])=some (rs++[r])
 |[],rs,h1=>by
  injection h1 with h1
  subst h1;simp[bI,h]
 |u::ps,rs,h1=>by
  rw[eD];unfold bI at h1 ⊢;cases hr:Q7 o S (exts n u) with
  |none=>rw[hr]at h1;cases h1
  |some r' =>
   rw[hr]at h1;obtain⟨rs',h2,rfl⟩:=eG.1 h1;simp only[IU h h2];rfl
def look_second{o:A6}{t:B8}{F:List A8}(ht:K7 t)(ho:SmO o)(hv:I6 o)(hF:mI o F)(P:A2){R:List Row}{m:List (ByteArray×Int)}(hm:NumOk R m)(hR:R.length<=1000) :
  ∃res,iter (λ(s:List (A3)×A3×(List (ByteArray×Int))×Nat)=>N8.s22 t F P s.1 s.2.1 s.2.2.1 s.2.2.2) fuel (R,[],m,0)=some res /\
   match bI o t.X t.I.toNat t.P with
   |none=>res=.inr (v0,12)
   |some rss=>∃m',res=.inl (G6 R rss.flatten,rss.map (nums (G6 R rss.flatten)),m'):=by
 have hn:=ht.n;have hp:=ht.p
 refine V3 (step:=λ(s:List (A3)×A3×(List (ByteArray×Int))×Nat)=>N8.s22 t F P s.1 s.2.1 s.2.2.1 s.2.2.2)
  (λs=>s.2.2.2<=t.P.length/\∃rss,bI o t.X t.I.toNat (t.P.take s.2.2.2)=some rss/\rss.flatten.length<=4*s.2.2.2/\s.1=G6 R rss.flatten/\s.2.1=rss.map (nums (G6 R rss.flatten))/\NumOk (G6 R rss.flatten) s.2.2.1) (λs=>t.P.length-s.2.2.2) _ (λs ⟨g1,rss,g2,g6,g3,g4,g5⟩=>?_) fuel _ ⟨F8 _,[],rfl,by simp,rfl,rfl,hm⟩ (by have:=O9;simp only;omega)
 obtain⟨R',N,m1,k⟩:=s;simp only at g1 g2 g3 g4 g5 g6;subst g3 g4
 have a6:rss.length=k:=by
  have:=(uX g2).1;rw[H6]at this;omega
 have a5:=rQ R rss.flatten;simp only[N8.s22];by_cases h:k<t.P.length
 ·have hx:=get_at h;have a4:SmW t.P[k]:=ht.sm.2.1.2 _ (H9 _);have a8:=ht.pw _ (H9 h);obtain⟨res,e,a2⟩:=look_inner ht ho hv hF P (rss.map (nums (G6 R rss.flatten))) a4 (by omega) g5 (by omega);rw[I8 hx,D2,C6 hx,e,A5];cases hr:Q7 o t.X (exts t.I.toNat t.P[k]) with
  |none =>
   rw[hr]at a2;right;refine⟨.inr (v0,12),by rw[a2];rfl,?_⟩;rw[extRows_none (H9 h) hr]
  |some rs =>
   rw[hr]at a2;obtain⟨m',h1,h2⟩:=a2;left
   have a7:rs.length=t.I.toNat:=by
    have:=(jY hr).1;unfold exts at this;simpa using this
   have a3:(rss++[rs]).flatten=rss.flatten++rs:=by simp
   refine⟨(G6 R (rss++[rs]).flatten,(rss++[rs]).map (nums (G6 R (rss++[rs]).flatten)),m',k+1),?_,⟨h,rss++[rs],?_,?_,rfl,rfl,?_⟩,by simp only;omega⟩
   ·rw[h1];simp only[aO,N8.k21];rw[F0 (by rw[E1];unfold E5;omega),a3,FD]
    have h3:rss.map (nums (G6 (G6 R rss.flatten) rs))=rss.map (nums (G6 R rss.flatten)):=by
     refine nV λx hx=>?_;exact xX (λy hy=>cZ.2 (Or.inr (nO.2 ⟨x,hx,hy⟩))) rs
    rw[N3,h3];rfl
   ·simp only;rw[L9 hx];exact IU hr g2
   ·simp only;rw[a3,D7];omega
   ·simp only;rw[a3,FD];exact h2
 ·right;have e:k=t.P.length:=by omega
  subst e;rw[M4]at g2;refine⟨.inl (G6 R rss.flatten,rss.map (nums (G6 R rss.flatten)),m1),by rw[B5],?_⟩;rw[g2];exact⟨m1,rfl⟩
def LookSpec(t:B8)(o:A6)(v:M6)(e:Int):Prop :=
 (chkT t o≠0/\e=chkT t o) \/
 (chkT t o=0/\e=12/\(Q7 o t.X t.P=none\/bI o t.X t.I.toNat t.P=none)) \/
 (chkT t o=0/\e=0/\∃rs rss,Q7 o t.X t.P=some rs/\bI o t.X t.I.toNat t.P=some rss /\
  v.rows=G6 (G6 [] rs) rss.flatten/\v.prefixes=nums v.rows rs/\v.next=rss.map (nums v.rows))
def FR{t:B8}{o:A6}(ht:K7 t)(ho:SmO o)(hv:I6 o):∃v e,N8 t o=some (v,e)/\LookSpec t o v e:=by
 obtain⟨F,a5,hF⟩:=FJ ho hv;have hp:=ht.p;unfold N8;rw[FV ht.sm,A5];by_cases h:chkT t o=0
 ·rw[B5 (by simpa using h),a5,A5];obtain⟨res,e,a3⟩:=look_first ht ho hv hF;rw[e,A5];cases hr:Q7 o t.X t.P with
  |none =>
   rw[hr]at a3;subst a3;exact⟨v0,12,rfl,.inr (.inl ⟨h,rfl,.inl hr⟩)⟩
  |some rs =>
   rw[hr]at a3;obtain⟨m,h1,h2⟩:=a3;subst h1;have a7:=(jY hr).1;have a4:=rQ [] rs;simp only[V5]at a4;simp only[aO,N8.k24];obtain⟨a6,e2,a2⟩:=look_second ht ho hv hF (nums (G6 [] rs) rs) h2 (by omega);rw[e2,A5];cases hr2:bI o t.X t.I.toNat t.P with
   |none =>
    rw[hr2]at a2;subst a2;exact⟨v0,12,rfl,.inr (.inl ⟨h,rfl,.inr hr2⟩)⟩
   |some rss =>
    rw[hr2]at a2;obtain⟨m',h3⟩:=a2;subst h3;refine⟨_,0,rfl,.inr (.inr ⟨h,rfl,rs,rss,hr,hr2,rfl,?_,rfl⟩)⟩;exact(xX (λx hx=>cZ.2 (Or.inr hx)) rss.flatten).symm
 ·rw[C9 h];exact⟨_,_,rfl,.inl ⟨h,rfl⟩⟩
def yO{o:A6}{w:A2}:∀{S:A3},(∀e∈S,ansO o (w++e)≠none)->∃r,rowO o w S=some r
 |[],_=>⟨[],rfl⟩
 |e::S,h=>by
  obtain⟨l,hl⟩:=yO (S:=S) λe he=>h e (K3 _ he);unfold rowO;cases ha:ansO o (w++e) with
  |none=>exact absurd ha (h e (by simp))
  |some r =>
   rw[hl];exact⟨_,rfl⟩
def rowO_ans{o:A6}{w:A2}:∀{S:A3} {r:Row},rowO o w S=some r->∀e∈S,ansO o (w++e)≠none
 |[],_,_,e,he=>by cases he
 |u::S,r,h,e,he=>by
  unfold rowO at h;cases ha:ansO o (w++u) with
  |none=>rw[ha]at h;cases h
  |some x =>
   rw[ha]at h;obtain⟨l,h1,_⟩:=eG.1 h;rcases I2.1 he with rfl|he
   ·rw[ha];simp
   ·exact rowO_ans h1 e he
def dQ(t:B8)(o:A6):Prop:=∀p∈t.P,∀w∈N6 t.I.toNat p,∃r,rowO o w t.X=some r
def tN{t:B8}{o:A6}:L1 o t t.P=[]↔dQ t o:=by
 constructor
 ·intro h p hp w hw;refine yO λe he hn=>?_;have:w++e∈L1 o t t.P:=L6.2 ⟨p,hp,L6.2 ⟨w,hw,cY.2 ⟨⟨e,he,rfl⟩,hn⟩⟩⟩;rw[h]at this;cases this
 ·intro h;refine xL.2 λv hv=>?_;obtain⟨p,hp,h2⟩:=L6.1 hv;obtain⟨w,hw,h3⟩:=L6.1 h2;obtain⟨⟨e,he,rfl⟩,hn⟩:=cY.1 h3;obtain⟨r,hr⟩:=h p hp w hw;exact rowO_ans hr e he hn
def IJ:∀{l:A3},l≠[]->∃y∈l,∀z∈l,z.length<=y.length
 |[x],_=>⟨x,by simp,λz hz=>by rw[K2.1 hz];exact H4 _⟩
 |x::u::l,_=>by
  obtain⟨y,hy,h⟩:=IJ (l:=u::l) (by simp);by_cases h1:y.length<=x.length
  ·refine⟨x,by simp,λz hz=>?_⟩;rcases I2.1 hz with rfl|hz
   ·exact H4 _
   ·exact S1 (h z hz) h1
  ·refine⟨y,K3 _ hy,λz hz=>?_⟩;rcases I2.1 hz with rfl|hz
   ·omega
   ·exact h z hz
def mX{l:A3}:maxR l=[]↔l=[]:=by
 constructor
 ·intro h;refine Q5 λa3=>?_;obtain⟨y,hy,a2⟩:=IJ a3
  have:y∈maxR l:=(ER l y).2 ⟨hy,λz hz=>by
   by_cases hp:y <+: z
   ·left
    have h1:=a2 z hz
    have h2:=hp.length_le
    exact(hp.eq_of_length (by omega)).symm
   ·exact Or.inr hp⟩
  rw[h]at this;cases this
 ·rintro rfl;rfl
def Q8(t:B8)(o:A6):Int:=if chkT t o≠0 then chkT t o else if L1 o t t.P=[] then 0 else 12
def KH{t:B8}{o:A6}(ht:K7 t)(ho:SmO o)(hv:I6 o):rV t o=some (Q8 t o):=by
 unfold rV Q8;rw[JH ht ho hv,A5];by_cases h:chkT t o=0
 ·rw[if_neg (by simpa using h),if_neg (by simpa using h)];by_cases hn:L1 o t t.P=[]
  ·rw[if_pos hn,hn];rfl
  ·rw[if_neg hn];have:maxR (L1 o t t.P)≠[]:=λe=>hn (mX.1 e);have hl:0<(maxR (L1 o t t.P)).length:=sV.2 this;rw[B5 (by simp),C9 (by simp only;omega)]
 ·rw[if_pos h,if_pos h,C9 h]
structure ViewOk(t:B8)(o:A6)(v:M6):Prop where
 pl:v.prefixes.length=t.P.length
 nl:v.next.length=t.P.length
 pre:∀(i:Nat) p,t.P[i]?=some p->∃r,rowO o p t.X=some r/\r∈v.rows/\v.prefixes[i]?=some (↑(pos r v.rows):Int)
 nxt:∀(i:Nat) p,t.P[i]?=some p->∃l,v.next[i]?=some l/\l.length=t.I.toNat/\∀a,a<t.I.toNat->∃r,rowO o (p++[(a:Int)]) t.X=some r/\r∈v.rows/\l[a]?=some (↑(pos r v.rows):Int)
def look_view{t:B8}{o:A6}{v:M6}{e:Int}(h:LookSpec t o v e):e=Q8 t o/\(e=0->ViewOk t o v/\dQ t o/\chkT t o=0):=by
 unfold Q8;rcases h with⟨h1,rfl⟩|⟨h1,rfl,h2⟩|⟨h1,rfl,rs,a8,h2,h3,h4,h5,h6⟩
 ·exact⟨by rw[if_pos h1],λh=>absurd h h1⟩
 ·have hn:L1 o t t.P≠[]:=λhn=>by
   have hA:=tN.1 hn;rcases h2 with h2|h2
   ·have:∀(ps:A3),(∀p∈ps,∃r,rowO o p t.X=some r)->Q7 o t.X ps≠none:=by
     intro ps
     induction ps with
     |nil=>intro _ h;cases h
     |cons p ps ih =>
      intro hp h;obtain⟨r,hr⟩:=hp p (by simp);unfold Q7 at h;rw[hr]at h;exact ih (λq hq=>hp q (K3 _ hq)) (by simpa using h)
    exact this _ (λp hp=>hA p hp p (by simp[N6])) h2
   ·have a6:∀p∈t.P,Q7 o t.X (exts t.I.toNat p)≠none:=λp hp=>by
     have:∀(ps:A3),(∀p∈ps,∃r,rowO o p t.X=some r)->Q7 o t.X ps≠none:=by
      intro ps
      induction ps with
      |nil=>intro _ h;cases h
      |cons p ps ih =>
       intro hp h;obtain⟨r,hr⟩:=hp p (by simp);unfold Q7 at h;rw[hr]at h;exact ih (λq hq=>hp q (K3 _ hq)) (by simpa using h)
     exact this _ λw hw=>hA p hp w (K3 _ hw)
    have:∀(ps:A3),(∀p∈ps,Q7 o t.X (exts t.I.toNat p)≠none)->bI o t.X t.I.toNat ps≠none:=by
     intro ps
     induction ps with
     |nil=>intro _ h;cases h
     |cons p ps ih =>
      intro hp h;unfold bI at h;cases hr:Q7 o t.X (exts t.I.toNat p) with
      |none=>exact hp p (by simp) hr
      |some r =>
       rw[hr]at h;exact ih (λq hq=>hp q (K3 _ hq)) (by simpa using h)
    exact this _ a6 h2
  exact⟨by rw[if_neg (by simpa using h1),if_neg hn],λh=>by cases h⟩
 ·have hP:=jY h2;have hE:=uX h3;have a4:∀r∈rs,r∈v.rows:=λr hr=>by rw[h4];exact cZ.2 (Or.inl (cZ.2 (Or.inr hr)))
  have a3:∀l∈a8,∀r∈l,r∈v.rows:=λl hl r hr=>by rw[h4];exact cZ.2 (Or.inr (nO.2 ⟨l,hl,hr⟩))
  have hV:ViewOk t o v:=by
   refine⟨by rw[h5];unfold nums;rw[E1,hP.1],by rw[h6,E1,hE.1],λi p hp=>?_,λi p hp=>?_⟩
   ·obtain⟨r,a2,a5⟩:=hP.2 i p hp;refine⟨r,a5,a4 r (H8 a2),?_⟩;rw[h5];unfold nums;rw[K5,a2];rfl
   ·obtain⟨l,a7,a9⟩:=hE.2 i p hp;have hL:=jY a9;refine⟨nums v.rows l,by rw[h6,K5,a7];rfl,by unfold nums;rw[E1,hL.1];simp[exts],λa ha=>?_⟩
    have hx:(exts t.I.toNat p)[a]?=some (p++[(a:Int)]):=by
     unfold exts;rw[K5,bT ha];rfl
    obtain⟨r,a2,a5⟩:=hL.2 a _ hx;refine⟨r,a5,a3 l (H8 a7) r (H8 a2),?_⟩;unfold nums;rw[K5,a2];rfl
  have hA:dQ t o:=λp hp w hw=>by
   obtain⟨i,hi,rfl⟩:=Q4.1 hp;unfold N6 at hw;rcases I2.1 hw with rfl|hw
   ·obtain⟨r,hr,_⟩:=hV.pre i _ (get_at hi);exact⟨r,hr⟩
   ·obtain⟨a,ha,rfl⟩:=D8.1 hw;obtain⟨l,_,_,h7⟩:=hV.nxt i _ (get_at hi);obtain⟨r,hr,_⟩:=h7 a (M8.1 ha);exact⟨r,hr⟩
  exact⟨by rw[if_neg (by simpa using h1),if_pos (tN.2 hA)],λ_=>⟨hV,hA,h1⟩⟩
def Z9{t:B8}(h:M5 t=0):1<=t.I/\t.I<=64/\Asc t.P/\Asc t.X/\(∀a∈List.range t.I.toNat,[(a:Int)]∈t.X)/\scan (preG t λw=>decide (w∈t.P)) 0 t.P=none/\scan (sufG t) 0 t.X=none/\t.P≠[]:=by
 unfold M5 at h;split at h
 ·cases h
 ·rename_i h1;split at h
  ·cases h
  ·rename_i h2;split at h
   ·cases h
   ·cases e1:scan (preG t λw=>decide (w∈t.P)) 0 t.P with
    |some e =>
     exfalso;rw[e1]at h;simp only at h;subst h
     have key:∀(l:A3) (j:Nat),scan (preG t λw=>decide (w∈t.P)) j l≠some 0:=by
      intro l
      induction l with
      |nil=>intro j h;cases h
      |cons x l ih =>
       intro j h;unfold scan at h;split at h
       ·rename_i r' h3;injection h with h
        subst h;unfold preG at h3;split at h3
        ·rename_i h4;injection h3 with h3
         exact h4 h3
        ·split at h3
         ·cases h3
         ·split at h3
          ·cases h3
          ·cases h3
       ·exact ih _ h
     exact key _ _ e1
    |none =>
     rw[e1]at h;cases e2:scan (sufG t) 0 t.X with
     |some e =>
      exfalso;rw[e2]at h;simp only at h;subst h
      have key:∀(l:A3) (j:Nat),scan (sufG t) j l≠some 0:=by
       intro l
       induction l with
       |nil=>intro j h;cases h
       |cons x l ih =>
        intro j h;unfold scan at h;split at h
        ·rename_i r' h3;injection h with h
         subst h;unfold sufG at h3;split at h3
         ·rename_i h4;injection h3 with h3
          exact h4 h3
         ·split at h3
          ·cases h3
          ·split at h3
           ·cases h3
           ·cases h3
        ·exact ih _ h
      exact key _ _ e2
     |none =>
      rw[e2]at h;simp only at h;split at h
      ·rename_i h5;refine⟨by omega,by omega,zq15 λi w hw=>?_,(sufG_none e2).1,h5,rfl,rfl,λe=>h2 (by rw[e];rfl)⟩;have:=aK.1 e1 i w hw;rw[J9]at this;unfold preG at this;split at this
       ·cases this
       ·split at this
        ·cases this
        ·rename_i h6;cases hpv:U3 t.P i w with
         |true=>rfl
         |false=>exact absurd (Or.inr hpv) h6
      ·cases h
def lex_snoc{a b:Int}:∀{p q:A2},p.length=q.length->lexI p q=-1->lexI (p++[a]) (q++[b])=-1
 |[],[],_,h=>by simp[lexI]at h
 |[],_::_,h,_=>by simp at h
 |_::_,[],h,_=>by simp at h
 |x::p,y::q,hl,h=>by
  simp only[lexI,eD]at h ⊢;by_cases h1:x<y
  ·rw[if_pos h1]
  ·rw[if_neg h1]at h ⊢;by_cases h2:y<x
   ·rw[if_pos h2]at h;cases h
   ·rw[if_neg h2]at h ⊢;exact lex_snoc (by simpa using hl) h
def cmp_snoc{p q:A2}{a b:Int}(h:cmpW p q=-1):cmpW (p++[a]) (q++[b])=-1:=by
 unfold cmpW at h ⊢;rw[D7,D7];simp only[S6];by_cases h1:p.length<q.length
 ·rw[if_pos (by omega)]
 ·rw[if_neg h1]at h;by_cases h2:q.length<p.length
  ·rw[if_pos h2]at h;cases h
  ·rw[if_neg h2]at h;rw[if_neg (by omega),if_neg (by omega)];exact lex_snoc (by omega) h
def cmp_same{p:A2}{a b:Int}(h:a<b):cmpW (p++[a]) (p++[b])=-1:=by
 unfold cmpW;rw[D7,D7];simp only[S6,Nat.lt_irrefl,if_false]
 induction p with
 |nil=>simp[lexI,h]
 |cons x p ih =>
  simp only[eD,lexI,BX,if_false];exact ih
def extL_asc{t:B8}(h:Asc t.P):Asc (extL t):=by
 unfold extL Asc at *;rw[List.pairwise_flatMap];refine⟨λp _=>?_,h.imp λ{p q} hpq x hx y hy=>?_⟩
 ·rw[sS];exact(HK (n:=t.I.toNat)).imp λ{a b} hab=>cmp_same (by omega)
 ·obtain⟨a,_,rfl⟩:=D8.1 hx;obtain⟨b,_,rfl⟩:=D8.1 hy;exact cmp_snoc hpq
def nE{l:A3}(h:Asc l):sortW l=l:=oA (cC l) h λx=>aC l x
def newRow(t:B8)(o:A6)(w:A2):Bool:=decide (rowO o w t.X∉t.P.map λp=>rowO o p t.X)
def unclT(t:B8)(o:A6):A2×Bool×Int:=if Q8 t o≠0 then([],false,Q8 t o) else match (extL t).find? (newRow t o) with|none=>([],false,0)|some w=>(w,true,0)
def contains_eq{l:A2}{x:Int}(hl:l.length<=2000000):wO l x=some (decide (x∈l)):=by
 unfold wO lY
 have key:=cW (step:=λs=>lY.s2 l x s) (λk=>k<=l.length/\x∉l.take k) (λk=>l.length-k) (λr=>match r with|.inl ()=>x∉l|.inr n=>0<=n/\x∈l) (λk ⟨g1,g2⟩=>by
  simp only[lY.s2]
  by_cases g3:k<l.length
  ·have hx:=get_at g3
   rw[I8 hx,D2,C6 hx]
   by_cases e:x=l[k]
   ·right
    exact⟨.inr (k:Int),by rw[C9 e],by omega,by rw[e];exact H9 _⟩
   ·left
    refine⟨k+1,by rw[B5 e],⟨g3,?_⟩,by omega⟩
    rw[L9 hx]
    exact λh=>(K0.1 h).elim g2 λh=>e (K2.1 h)
  ·right
   rw[X6 (by omega)]at g2
   exact⟨.inl (),by rw[B5],g2⟩) 0 ⟨F8 _,by simp⟩
 obtain⟨r,e,hq⟩:=key;rw[e,A5];cases r with
 |inl u =>
  have hq:x∉l:=hq;simp only[aO];rw[A5,E2 hq];rfl
 |inr n =>
  have hq:0<=n/\x∈l:=hq;simp only[BK];rw[A5,D3 hq.1,D3 hq.2]
def view_has{t:B8}{o:A6}{v:M6}(hV:ViewOk t o v){r:Row}{w:A2}(hr:rowO o w t.X=some r)(hm:r∈v.rows):((↑(pos r v.rows):Int)∈v.prefixes)↔newRow t o w=false:=by
 unfold newRow;rw[decide_eq_false_iff_not,jF,hr,D8];constructor
 ·intro h;obtain⟨i,hi,e⟩:=Q4.1 h;have hp:=get_at (l:=t.P) (i:=i) (by rw[<- hV.pl];exact hi);obtain⟨r',h1,h2,h3⟩:=hV.pre i _ hp;rw[get_at hi,e]at h3;injection h3 with h3
  have h4:=pos_inj hm h2 (by omega);exact⟨_,H9 _,by rw[h1,h4]⟩
 ·rintro⟨p,hp,h⟩;obtain⟨i,hi,rfl⟩:=Q4.1 hp;obtain⟨r',h1,h2,h3⟩:=hV.pre i _ (get_at hi);rw[h1]at h;injection h with h
  subst h;exact H8 h3
def KS{t:B8}{o:A6}{v:M6}(ht:K7 t)(hV:ViewOk t o v):∃i a b,cK v=some (i,a,b) /\
  match (extL t).find? (newRow t o) with
  |none=>b=false
  |some w=>b=true/\∃(k:Nat) (p:A2),i=(k:Int)/\t.P[k]?=some p/\w=p++[a]:=by
 have hn:=ht.n;have hp:=ht.p;unfold cK
 have key:=V3 (step:=λs=>cK.s14 v s) (λk=>k<=t.P.length/\((t.P.take k).flatMap (exts t.I.toNat)).find? (newRow t o)=none) (λk=>t.P.length-k)
  (λr=>match r with|.inl ()=>(extL t).find? (newRow t o)=none|.inr x=>x.2.2=true/\∃w,(extL t).find? (newRow t o)=some w/\∃(k:Nat) (p:A2),x.1=(k:Int)/\t.P[k]?=some p/\w=p++[x.2.1]) (λk ⟨g1,g2⟩=>by
   simp only[cK.s14]
   rw[hV.nl]
   by_cases g3:k<t.P.length
   ·have hx:=get_at g3
    obtain⟨l,a8,b0,a6⟩:=hV.nxt k _ hx
    rw[C9,C6 a8]
    have a2:extL t=(t.P.take k).flatMap (exts t.I.toNat)++(exts t.I.toNat t.P[k]++(t.P.drop (k+1)).flatMap (exts t.I.toNat)):=by
     have h1:t.P=t.P.take k++t.P[k]::t.P.drop (k+1):=by
      rw[<- cR g3,sX]
     have h2:extL t=t.P.flatMap (exts t.I.toNat):=rfl
     rw[h2]
     conv=>lhs;rw[h1]
     rw[eF,P1]
    have a4:=V3 (step:=λs=>cK.s13 v k l s) (λa=>a<=t.I.toNat/\(exts a t.P[k]).find? (newRow t o)=none) (λa=>t.I.toNat-a)
     (λr=>match r with|.inl ()=>(exts t.I.toNat t.P[k]).find? (newRow t o)=none|.inr x=>∃a:Nat,x=.inr (.inr ((k:Int),(a:Int),true))/\(exts t.I.toNat t.P[k]).find? (newRow t o)=some (t.P[k]++[(a:Int)])) (λa ⟨q1,q2⟩=>by
      simp only[cK.s13]
      rw[b0]
      by_cases q3:a<t.I.toNat
      ·obtain⟨r,b3,b2,b4⟩:=a6 a q3
       have a9:exts (a+1) t.P[k]=exts a t.P[k]++[t.P[k]++[(a:Int)]]:=by simp[exts,jE]
       have a3:=view_has hV b3 b2
       rw[C9,C6 b4,contains_eq (by rw[hV.pl];omega),A5]
       cases hnw:newRow t o (t.P[k]++[(a:Int)]) with
       |true =>
        right
        have a7:¬(↑(pos r v.rows):Int)∈v.prefixes:=λh=>by
         have:=a3.1 h
         rw[hnw]at this
         cases this
        refine⟨.inr (.inr (.inr ((k:Int),(a:Int),true))),by rw[E2 a7];rfl,a,rfl,?_⟩
        have a5:exts t.I.toNat t.P[k]=exts a t.P[k]++((t.P[k]++[(a:Int)])::((List.range' (a+1) (t.I.toNat-(a+1))).map λ(b:Nat)=>t.P[k]++[(b:Int)])):=by
         have h1:List.range t.I.toNat=List.range a++a::List.range' (a+1) (t.I.toNat-(a+1)):=by
          rw[HQ,HQ,<- List.range'_succ,show t.I.toNat-(a+1)+1=t.I.toNat-a by omega]
          have:=List.range'_append_1 (s:=0) (m:=a) (n:=t.I.toNat-a)
          rw[J9,show a+(t.I.toNat-a)=t.I.toNat by omega]at this
          exact this.symm
         unfold exts
         rw[h1,N3,L0]
        rw[a5,wY,q2,BW (by rw[hnw])]
        rfl
       |false =>
        left
        refine⟨a+1,by rw[D3 (a3.2 hnw)];rfl,⟨q3,?_⟩,by omega⟩
        rw[a9,wY,q2,xA (by rw[hnw];simp)]
        rfl
      ·right
       have e:a=t.I.toNat:=by omega
       subst e
       exact⟨.inl (),by rw[B5],q2⟩) fuel 0 ⟨F8 _,rfl⟩ (by have:=O9;omega)
    obtain⟨r,e,hq⟩:=a4
    rw[e,A5]
    cases r with
    |inl u =>
     have hq:(exts t.I.toNat t.P[k]).find? (newRow t o)=none:=hq
     left
     refine⟨k+1,rfl,⟨g3,?_⟩,by omega⟩
     rw[L9 hx,eF,wY,g2]
     simp[hq]
    |inr x =>
     right
     obtain⟨a,rfl,h2⟩:=hq
     refine⟨.inr ((k:Int),(a:Int),true),rfl,rfl,t.P[k]++[(a:Int)],?_,k,_,rfl,hx,rfl⟩
     rw[a2,wY,g2,wY,h2]
     rfl
   ·right
    have e:k=t.P.length:=by omega
    subst e
    rw[M4]at g2
    exact⟨.inl (),by rw[B5],g2⟩) fuel 0 ⟨F8 _,rfl⟩ (by have:=O9;omega)
 obtain⟨r,e,hq⟩:=key;rw[e,A5];cases r with
 |inl u =>
  have hq:(extL t).find? (newRow t o)=none:=hq;refine⟨0,0,false,rfl,?_⟩;rw[hq]
 |inr x =>
  obtain⟨h1,w,h2,h3⟩:=hq;obtain⟨i,a,b⟩:=x;refine⟨i,a,b,rfl,?_⟩;rw[h2];exact⟨h1,h3⟩
def zwo{t:B8}{o:A6}(ht:K7 t)(ho:SmO o)(hv:I6 o):vR t o=some (unclT t o):=by
 obtain⟨v,e,h1,h2⟩:=FR ht ho hv;obtain⟨h3,h4⟩:=look_view h2;unfold vR unclT;rw[h1,A5];simp only;rw[h3]at h4 ⊢;by_cases h:Q8 t o=0
 ·obtain⟨hV,_,_⟩:=h4 h;obtain⟨i,a,b,h5,h6⟩:=KS ht hV;rw[B5 (by simpa using h),if_neg (by simpa using h),h5,A5];cases hf:(extL t).find? (newRow t o) with
  |none =>
   rw[hf]at h6;subst h6;rfl
  |some w =>
   rw[hf]at h6;obtain⟨rfl,k,p,rfl,hp,rfl⟩:=h6;simp only[N2,D6];rw[F9 rfl hp,GD (ht.sm.2.1.2 p (H8 hp)),A5]
 ·rw[C9 h,if_pos h]
def EI{t:B8}{o:A6}{w:A2}(ht:K7 t)(ho:SmO o)(hv:I6 o)(hA:dQ t o){r:Row}(hw:SmW w)(hr:rowO o w t.X=some r) :
  ∃n,eV t o w=some n/\((n<0↔newRow t o w=true)/\∀k:Nat,n=(k:Int)->(∃p,t.P[k]?=some p/\rowO o p t.X=some r)/\∀j p,j<k->t.P[j]?=some p->rowO o p t.X≠some r):=by
 have hS:=ht.sm.2.2.1;have hp:=ht.p;unfold eV;rw[oS ho hv hS hw,A5,hr]
 have key:=V3 (step:=λs=>eV.s2 t o (tw (some r)) s) (λk=>k<=t.P.length/\∀j p,j<k->t.P[j]?=some p->rowO o p t.X≠some r) (λk=>t.P.length-k)
  (λx=>match x with|.inl ()=>∀p∈t.P,rowO o p t.X≠some r|.inr n=>∃k:Nat,n=(k:Int)/\(∃p,t.P[k]?=some p/\rowO o p t.X=some r)/\∀j p,j<k->t.P[j]?=some p->rowO o p t.X≠some r) (λk ⟨g1,g2⟩=>by
   simp only[eV.s2]
   by_cases g3:k<t.P.length
   ·have hx:=get_at g3
    have a6:SmW t.P[k]:=ht.sm.2.1.2 _ (H9 _)
    obtain⟨q,hq⟩:=hA _ (H9 g3) _ (by simp[N6]:t.P[k]∈N6 t.I.toNat t.P[k])
    have a4:=oG hv ht hq
    rw[I8 hx,D2,C6 hx,oS ho hv hS a6,A5,hq]
    simp only[tw]
    rw[nD q r (by have:=a4.1;omega) (λx hx=>by have:=(a4.2 x hx).1;omega),A5]
    by_cases e:q=r
    ·right
     subst e
     refine⟨.inr (k:Int),by rw[C9 rfl],k,rfl,⟨_,hx,hq⟩,g2⟩
    ·left
     refine⟨k+1,by rw[B5 e],⟨g3,λj p hj a2=>?_⟩,by omega⟩
     rcases L8 j k with h|h
     ·exact g2 j p h a2
     ·have ej:j=k:=by omega
      subst ej
      rw[hx]at a2
      injection a2 with a2
      subst a2
      rw[hq]
      simpa using e
   ·right
    refine⟨.inl (),by rw[B5],λp a7=>?_⟩
    obtain⟨j,hj,rfl⟩:=Q4.1 a7
    exact g2 j _ (by omega) (get_at hj)) fuel 0 ⟨F8 _,λj p h=>by omega⟩ (by have:=O9;omega)
 obtain⟨x,e,hq⟩:=key;rw[e,A5];cases x with
 |inl u =>
  have hq:∀p∈t.P,rowO o p t.X≠some r:=hq;refine⟨-1,rfl,⟨λ_=>?_,λ_=>by decide⟩,λk hk=>by omega⟩;unfold newRow;rw[hr]
  exact D3 λh=>by
   obtain⟨p,hp,h2⟩:=D8.1 h;exact hq p hp h2
 |inr n =>
  obtain⟨k,rfl,⟨p,a5,a3⟩,h3⟩:=hq;refine⟨k,rfl,⟨λh=>by omega,λh=>?_⟩,λk' hk=>?_⟩
  ·unfold newRow at h;rw[hr]at h;exact absurd (D8.2 ⟨p,H8 a5,a3⟩) (of_decide_eq_true h)
  ·have:k'=k:=by omega
   subst this;exact⟨⟨p,a5,a3⟩,h3⟩
def KG{t:B8}{o:A6}(ht:K7 t)(ho:SmO o)(hv:I6 o):gK t o=some (unclT t o):=by
 unfold gK unclT;rw[KH ht ho hv,A5];by_cases h:Q8 t o=0
 ·rw[B5 (by simpa using h),if_neg (by simpa using h)]
  have hc:chkT t o=0/\dQ t o:=by
   unfold Q8 at h;split at h
   ·rename_i h1;exact absurd h h1
   ·rename_i h1;split at h
    ·rename_i h2;exact⟨by simpa using h1,tN.1 h2⟩
    ·cases h
  have a4:M5 t=0:=by
   have:=hc.1;unfold chkT at this;split at this
   ·rename_i h1;exact absurd this h1
   ·rename_i h1;simpa using h1
  obtain⟨_,_,a8,_⟩:=Z9 a4;obtain⟨a7,a2⟩:=LA ht;have a9:(extL t).length<=2000000:=a2.1;rw[a7,A5,nE (extL_asc a8)]
  have key:=Q2 (step:=λs=>gK.s2 t o (extL t) s) (l:=extL t) (λ_ w=>if newRow t o w=true then some (w,true,(0:Int)) else none) (λi w hw=>by
   have a3:=H8 hw
   obtain⟨p,a6,h2⟩:=L6.1 a3
   obtain⟨r,hr⟩:=hc.2 p a6 w (K3 _ h2)
   obtain⟨n,h3,h4,_⟩:=EI ht ho hv hc.2 (a2.2 w a3) hr
   simp only[gK.s2]
   rw[I8 hw,D2,C6 hw,h3,A5]
   by_cases hn:n<0
   ·rw[C9 hn,C6 hw,if_pos (h4.1 hn)]
   ·rw[B5 hn,if_neg (λh=>hn (h4.2 h))]) (by
   simp only[gK.s2]
   rw[N7]
   rfl) (by omega)
  rw[key,A5]
  have a5:∀(l:A3) (j:Nat),scan (λ_ w=>if newRow t o w=true then some (w,true,(0:Int)) else none) j l=(l.find? (newRow t o)).map λw=>(w,true,(0:Int)):=by
   intro l
   induction l with
   |nil=>intro j;rfl
   |cons w l ih =>
    intro j;unfold scan;by_cases h:newRow t o w=true
    ·rw[if_pos h,BW h];rfl
    ·rw[if_neg h,xA h];exact ih _
  rw[a5];cases (extL t).find? (newRow t o)<;>rfl
 ·rw[C9 h,if_pos h]
section
section
variable {V R T:Type}
def mY{g:Nat->V->Option R}{f:R->T}:∀(l:List V) (j:Nat),scan (λi x=>(g i x).map f) j l=(scan g j l).map f
 |[],_=>rfl
 |x::l,j=>by
  unfold scan;cases g j x with
  |some r=>rfl
  |none=>exact mY l (j+1)
def elim_l{V G E:Type}{f:V->E}{g:G->E}{a:V}:Sum.elim f g (Sum.inl a)=f a:=(aO f g a).trans (Eq.trans rfl rfl)
def IT{step:Nat->Option (Nat⊕(Unit⊕R))}{l:List V}(g:Nat->V->Option R)(j:Nat)(hj:j<=l.length)(h1:∀i x,j<=i->l[i]?=some x->step i=some (match g i x with|some r=>.inr (.inr r)|none=>.inl (i+1)))(h2:step l.length=some (.inr (.inl ())))(hl:l.length<=100000000000000) :
  iter step fuel j=some (match scan g j (l.drop j) with|some r=>.inr r|none=>.inl ()):=by
 have key:∀(n i:Nat),j<=i->i<=l.length->l.length-i<n->iter step n i=some (match scan g i (l.drop i) with|some r=>.inr r|none=>.inl ()):=by
  intro n
  induction n with
  |zero=>intro i _ _ h;omega
  |succ n ih =>
   intro i a2 hi hn;rcases L8 i l.length with h|h
   ·rw[cR h];unfold iter scan;rw[h1 i _ a2 (L4 h)];cases g i l[i]with
    |some r=>rfl
    |none=>exact ih (i+1) (by omega) h (by omega)
   ·have e:i=l.length:=by omega
    subst e;rw[kV];unfold iter scan;rw[h2]
 exact key fuel j (H4 _) hj (by have:=O9;omega)
end
def rowG(t:B8)(o:A6)(w:A2):Row:=(rowO o w t.X).getD []
def dP(a:Nat)(x y:Row):Option (Int×Int×Bool):=scan (λe u=>if y[e]?=some u then none else some ((a:Int),(e:Int),true)) 0 x
def pP(t:B8)(o:A6)(p q:A2):Option (Int×Int×Bool):=scan (λ_ (a:Nat)=>dP a (rowG t o (p++[(a:Int)])) (rowG t o (q++[(a:Int)]))) 0 (List.range t.I.toNat)
def iP(t:B8)(o:A6):Option (Int×Int×Bool):=scan (λi p=>scan (λ_ q=>if rowO o p t.X=rowO o q t.X then pP t o p q else none) (i+1) (t.P.drop (i+1))) 0 t.P
def toW(t:B8)(x:Int×Int×Bool):A2:=x.1::(t.X[x.2.1.toNat]?).getD []
def incT(t:B8)(o:A6):A2×Bool×Int:=if Q8 t o≠0 then([],false,Q8 t o) else match iP t o with|none=>([],false,0)|some x=>(toW t x,true,0)
def pQ(a b:A2)(hl:a.length<=100000000000000):bS a b=some (decide (a=b)):=by
 unfold bS;by_cases a2:a.length=b.length
 ·rw[B5];refine yR a2 (λi x y hx hy=>?_) ?_ hl
  ·simp only[bS.s2];rw[I8 hx,D2,C6 hx,C6 hy];by_cases h:x=y<;>simp[h]
  ·simp only[bS.s2];rw[N7];rfl
 ·rw[C9];have:a≠b:=λh=>a2 (by rw[h]);simp[this]
def jU{V R:Type}{g:Nat->V->Option R}{Q:R->Prop}:∀{l:List V} {j:Nat} {r:R},scan g j l=some r->(∀i x r,l[i]?=some x->g (j+i) x=some r->Q r)->Q r
 |[],_,_,h,_=>by cases h
 |x::l,j,r,h,hQ=>by
  unfold scan at h;cases e:g j x with
  |some r' =>
   rw[e]at h;injection h with h
   subst h;exact hQ 0 x _ rfl (by simpa using e)
  |none =>
   rw[e]at h;exact jU h λi y r hy hg=>hQ (i+1) y r (by simpa using hy) (by rw[show j+(i+1)=j+1+i by omega];exact hg)
def CN(x y:Row):Prop:=x.length=y.length/\RowSm x/\RowSm y
def dP_prog{a:Nat}{x y:Row}(h:CN x y):iter (λs=>R9.s1019 a x y s) fuel 0=some (match (dP a x y).map λr=>(.inr (.inr (.inr (.inr (.inr (.inr (.inr r)))))):Nat⊕(Unit⊕(Unit⊕(Nat⊕(Unit⊕(Nat⊕(Unit⊕(Int×Int×Bool)))))))) with|some r=>.inr r|none=>.inl ()):=by
 obtain⟨h1,h2,h3⟩:=h;have a3:=h2.1
 have key:=Q2 (step:=λs=>R9.s1019 a x y s) (l:=x) (λe u=>(if y[e]?=some u then none else some ((a:Int),(e:Int),true)).map λr=>(.inr (.inr (.inr (.inr (.inr (.inr (.inr r)))))):Nat⊕(Unit⊕(Unit⊕(Nat⊕(Unit⊕(Nat⊕(Unit⊕(Int×Int×Bool))))))))) (λe u hu=>by
  have he:=(G4.1 hu).1
  have hw:=get_at (l:=y) (i:=e) (by omega)
  have a2:=(h2.2 u (H8 hu)).1
  simp only[R9.s1019]
  rw[I8 hu,D2,C6 hu,C6 hw,pQ _ _ (by omega),A5]
  by_cases h4:u=y[e]'(by omega)
  ·rw[D3 h4,if_pos (by rw[hw,h4])]
   rfl
  ·rw[E2 h4,if_neg (λh=>h4 (by rw[hw]at h;injection h with h;exact h.symm))]
   rfl) (by
  simp only[R9.s1019]
  rw[N7]
  rfl) (by omega)
 rw[key,mY];unfold dP;cases scan (λe u=>if y[e]?=some u then none else some ((a:Int),(e:Int),true)) 0 x<;>rfl
def aV{t:B8}{o:A6}{w:A2}{r:Row}(h:rowO o w t.X=some r):rowG t o w=r:=by unfold rowG;rw[h];rfl
def rows_alike{t:B8}{o:A6}(ht:K7 t)(hv:I6 o){u w:A2}{x y:Row}(hx:rowO o u t.X=some x)(hy:rowO o w t.X=some y):CN x y :=
 ⟨by rw[(iE hv hx).1,(iE hv hy).1],oG hv ht hx,oG hv ht hy⟩
def pP_prog{t:B8}{o:A6}{v:M6}(ht:K7 t)(hv:I6 o)(hV:ViewOk t o v){i k:Nat}{p q:A2}(hp:t.P[i]?=some p)(hq:t.P[k]?=some q){l:A2}(hl:v.next[i]?=some l) :
  iter (λs=>R9.s1020 v i k l s) fuel 0=some (match (pP t o p q).map λr=>(.inr (.inr (.inr (.inr (.inr r)))):Unit⊕(Nat⊕(Unit⊕(Nat⊕(Unit⊕(Int×Int×Bool)))))) with|some r=>.inr r|none=>.inl ()):=by
 have hn:=ht.n;obtain⟨l1,g1,g2,g3⟩:=hV.nxt i p hp;rw[hl]at g1;injection g1 with g1
 subst g1;obtain⟨l2,f1,f2,f3⟩:=hV.nxt k q hq
 have key:=Q2 (step:=λs=>R9.s1020 v i k l s) (l:=List.range t.I.toNat) (λ_ (a:Nat)=>(dP a (rowG t o (p++[(a:Int)])) (rowG t o (q++[(a:Int)]))).map λr=>(.inr (.inr (.inr (.inr (.inr r)))):Unit⊕(Nat⊕(Unit⊕(Nat⊕(Unit⊕(Int×Int×Bool))))))) (λa a' ha=>by
  have a2:a<t.I.toNat:=by
   have:=(G4.1 ha).1
   simpa using this
  rw[bT a2]at ha
  injection ha with ha
  subst ha
  obtain⟨x,x1,x2,x3⟩:=g3 a a2
  obtain⟨y,y1,y2,y3⟩:=f3 a a2
  simp only[R9.s1020]
  rw[g2,C9,C6 hl,C6 x3,F9 rfl (jR x2),C6 f1,C6 y3,F9 rfl (jR y2),dP_prog (rows_alike ht hv x1 y1),A5,aV x1,aV y1]
  cases dP a x y with
  |some r=>rfl
  |none =>
   show Sum.elim _ _ (Sum.inl ())=_
   rw[elim_l,K1]
   rfl) (by
  simp only[R9.s1020]
  rw[g2,aE,E2 (by omega)]
  rfl) (by simp;omega)
 rw[key,mY];unfold pP;cases scan (λ_ (a:Nat)=>dP a (rowG t o (p++[(a:Int)])) (rowG t o (q++[(a:Int)]))) 0 (List.range t.I.toNat)<;>rfl
def iP_prog{t:B8}{o:A6}{v:M6}(ht:K7 t)(hv:I6 o)(hV:ViewOk t o v):R9 v=some (match iP t o with|some r=>r|none=>(0,0,false)):=by
 have a4:=ht.p;unfold R9
 have a3:=Q2 (step:=λs=>R9.s1022 v s) (l:=t.P) (λi p=>scan (λ_ q=>if rowO o p t.X=rowO o q t.X then pP t o p q else none) (i+1) (t.P.drop (i+1))) (λi p hp=>by
  have hi:=(G4.1 hp).1
  obtain⟨r,r1,r2,r3⟩:=hV.pre i p hp
  obtain⟨l,l1,l2,l3⟩:=hV.nxt i p hp
  have a2:=IT (step:=λs=>R9.s1021 v i (↑(pos r v.rows):Int) s) (l:=t.P) (λ_ q=>(if rowO o p t.X=rowO o q t.X then pP t o p q else none).map λr=>(.inr (.inr r):Nat⊕(Unit⊕(Int×Int×Bool)))) (i+1) (by omega) (λk q _ hq=>by
   have hk:=(G4.1 hq).1
   obtain⟨s,s1,s2,s3⟩:=hV.pre k q hq
   simp only[R9.s1021]
   rw[hV.pl,C9,C6 s3]
   by_cases h:r=s
   ·subst h
    rw[B5 (by simp),C6 l1,pP_prog ht hv hV hp hq l1,A5,if_pos (by rw[r1,s1])]
    cases pP t o p q<;>rfl
   ·have h2:¬(↑(pos s v.rows):Int)=↑(pos r v.rows):=λe=>h (pos_inj r2 s2 (by omega))
    rw[C9 h2,if_neg (by rw[r1,s1];simpa using h)]
    rfl) (by
   simp only[R9.s1021]
   rw[hV.pl,B5]) (by omega)
  simp only[R9.s1022]
  rw[hV.pl,C9,C6 r3,a2,A5,mY]
  cases scan (λ_ q=>if rowO o p t.X=rowO o q t.X then pP t o p q else none) (i+1) (t.P.drop (i+1))<;>rfl) (by
  simp only[R9.s1022]
  rw[hV.pl,B5]) (by omega)
 rw[a3,A5];unfold iP;cases scan (λi p=>scan (λ_ q=>if rowO o p t.X=rowO o q t.X then pP t o p q else none) (i+1) (t.P.drop (i+1))) 0 t.P<;>rfl
def iP_range{t:B8}{o:A6}(hv:I6 o)(hA:dQ t o){x:Int×Int×Bool}(h:iP t o=some x):x.2.2=true/\∃a e:Nat,x.1=(a:Int)/\x.2.1=(e:Int)/\a<t.I.toNat/\e<t.X.length:=by
 refine jU (Q:=λx=>x.2.2=true/\∃a e:Nat,x.1=(a:Int)/\x.2.1=(e:Int)/\a<t.I.toNat/\e<t.X.length) h λi p r hp hr=>?_;refine jU (Q:=λx=>x.2.2=true/\∃a e:Nat,x.1=(a:Int)/\x.2.1=(e:Int)/\a<t.I.toNat/\e<t.X.length) hr λk q r hq hr=>?_;split at hr
 ·refine jU (Q:=λx=>x.2.2=true/\∃a e:Nat,x.1=(a:Int)/\x.2.1=(e:Int)/\a<t.I.toNat/\e<t.X.length) hr λa a' r ha hr=>?_
  have a2:a<t.I.toNat:=by
   have:=(G4.1 ha).1;simpa using this
  rw[bT a2]at ha;injection ha with ha
  subst ha;refine jU (Q:=λx=>x.2.2=true/\∃a e:Nat,x.1=(a:Int)/\x.2.1=(e:Int)/\a<t.I.toNat/\e<t.X.length) hr λe u r hu hr=>?_;split at hr
  ·cases hr
  ·injection hr with hr
   subst hr;refine⟨rfl,a,0+e,rfl,rfl,a2,?_⟩;obtain⟨z,hz⟩:=hA p (H8 hp) (p++[(a:Int)]) (K3 _ (D8.2 ⟨a,M8.2 a2,rfl⟩));rw[aV hz]at hu;have h1:=(G4.1 hu).1;have h2:=(iE hv hz).1;omega
 ·cases hr
def zst{t:B8}{o:A6}(ht:K7 t)(ho:SmO o)(hv:I6 o):wJ t o=some (incT t o):=by
 obtain⟨v,e,h1,h2⟩:=FR ht ho hv;obtain⟨h3,h4⟩:=look_view h2;unfold wJ incT;rw[h1,A5];simp only;rw[h3]at h4 ⊢;by_cases h:Q8 t o=0
 ·obtain⟨hV,hA,_⟩:=h4 h;rw[B5 (by simpa using h),if_neg (by simpa using h),iP_prog ht hv hV,A5];cases hi:iP t o with
  |none=>rfl
  |some x =>
   obtain⟨hb,a,e,ha,he,_,a2⟩:=iP_range hv hA hi;obtain⟨x1,x2,x3⟩:=x;simp only at hb ha he;subst hb ha he;have hx:=get_at a2;have a3:=ht.sw _ (H9 a2);simp only[N2,D6];rw[F9 rfl hx,iU _ (by simp) (by simp;omega),A5];unfold toW;simp[hx]
 ·rw[C9 h,if_pos h]
def dP_ref{t:B8}{a:Nat}{x y:Row}(ht:K7 t)(h:CN x y)(hx:x.length=t.X.length):iter (λs=>aZ.s13 t a (x,true) (y,true) s) fuel 0=some (match (dP a x y).map λr=>(.inr (.inr (toW t r,true)):Nat⊕(Unit⊕(A2×Bool))) with|some r=>.inr r|none=>.inl ()):=by
 obtain⟨h1,h2,h3⟩:=h;have a4:=h2.1
 have key:=Q2 (step:=λs=>aZ.s13 t a (x,true) (y,true) s) (l:=x) (λe u=>(if y[e]?=some u then none else some ((a:Int),(e:Int),true)).map λr=>(.inr (.inr (toW t r,true)):Nat⊕(Unit⊕(A2×Bool)))) (λe u hu=>by
  have he:=(G4.1 hu).1
  have hw:=get_at (l:=y) (i:=e) (by omega)
  have a2:=get_at (l:=t.X) (i:=e) (by omega)
  have a3:=(h2.2 u (H8 hu)).1
  simp only[aZ.s13]
  rw[I8 hu,D2,C6 hu,C6 hw,oY _ _ (by omega),A5]
  by_cases h4:u=y[e]'(by omega)
  ·rw[D3 h4,if_pos (by rw[hw,h4])]
   rfl
  ·rw[E2 h4,if_neg (λh=>h4 (by rw[hw]at h;injection h with h;exact h.symm))]
   simp only[aG,D2]
   rw[C6 a2,lR (by simp[SmW]) (ht.sm.2.2.1.2 _ (H9 _)),A5]
   simp[toW,a2]) (by
  simp only[aZ.s13]
  rw[N7]
  rfl) (by omega)
 rw[key,mY];unfold dP;cases scan (λe u=>if y[e]?=some u then none else some ((a:Int),(e:Int),true)) 0 x<;>rfl
def pP_ref{t:B8}{o:A6}(ht:K7 t)(ho:SmO o)(hv:I6 o)(hA:dQ t o){p q:A2}(hp:p∈t.P)(hq:q∈t.P):aZ t o p q=some (match pP t o p q with|some r=>(toW t r,true)|none=>([],false)):=by
 have hn:=ht.n;have hS:=ht.sm.2.2.1;have a5:=ht.pw p hp;have a6:=ht.pw q hq;unfold aZ
 have key:=Q2 (step:=λs=>aZ.s14 t o p q s) (l:=List.range t.I.toNat) (λ_ (a:Nat)=>(dP a (rowG t o (p++[(a:Int)])) (rowG t o (q++[(a:Int)]))).map λr=>(toW t r,true)) (λa a' ha=>by
  have a2:a<t.I.toNat:=by
   have:=(G4.1 ha).1
   simpa using this
  rw[bT a2]at ha
  injection ha with ha
  subst ha
  obtain⟨x,hx⟩:=hA p hp (p++[(a:Int)]) (K3 _ (D8.2 ⟨a,M8.2 a2,rfl⟩))
  obtain⟨y,hy⟩:=hA q hq (q++[(a:Int)]) (K3 _ (D8.2 ⟨a,M8.2 a2,rfl⟩))
  have a3:SmW (p++[(a:Int)]):=by unfold SmW;simp;omega
  have a4:SmW (q++[(a:Int)]):=by unfold SmW;simp;omega
  simp only[aZ.s14]
  rw[C9,lR (by unfold SmW;omega) (by simp[SmW]),A5,oS ho hv hS a3,A5,lR (by unfold SmW;omega) (by simp[SmW]),A5,oS ho hv hS a4,A5,hx,hy,dP_ref ht (rows_alike ht hv hx hy) (iE hv hx).1,A5,aV hx,aV hy]
  cases dP a x y with
  |some r=>rfl
  |none =>
   show Sum.elim _ _ (Sum.inl ())=_
   rw[elim_l,K1]
   rfl) (by
  simp only[aZ.s14]
  rw[aE,E2 (by omega)]
  rfl) (by simp;omega)
 rw[key,A5,mY];unfold pP;cases scan (λ_ (a:Nat)=>dP a (rowG t o (p++[(a:Int)])) (rowG t o (q++[(a:Int)]))) 0 (List.range t.I.toNat)<;>rfl
def LJ{t:B8}{o:A6}(ht:K7 t)(ho:SmO o)(hv:I6 o):bB t o=some (incT t o):=by
 have a8:=ht.p;have hS:=ht.sm.2.2.1;unfold bB incT;rw[KH ht ho hv,A5];by_cases h:Q8 t o=0
 ·rw[B5 (by simpa using h),if_neg (by simpa using h)]
  have hA:dQ t o:=by
   unfold Q8 at h;split at h
   ·rename_i h1;exact absurd h h1
   ·split at h
    ·rename_i h2;exact tN.1 h2
    ·cases h
  have a2:∀p∈t.P,∃r,rowO o p t.X=some r:=λp hp=>hA p hp p (by simp[N6])
  have a5:=Q2 (step:=λs=>bB.s14 t o s) (l:=t.P) (λi p=>(scan (λ_ q=>if rowO o p t.X=rowO o q t.X then pP t o p q else none) (i+1) (t.P.drop (i+1))).map λr=>(toW t r,true,(0:Int))) (λi p hp=>by
   have hi:=(G4.1 hp).1
   have a4:=H8 hp
   obtain⟨r,hr⟩:=a2 p a4
   have a3:=IT (step:=λs=>bB.s13 t o i s) (l:=t.P) (λ_ q=>(if rowO o p t.X=rowO o q t.X then pP t o p q else none).map λr=>(.inr (.inr (toW t r,true,(0:Int))):Nat⊕(Unit⊕(A2×Bool×Int)))) (i+1) (by omega) (λk q _ hq=>by
    have a6:=H8 hq
    obtain⟨s,hs⟩:=a2 q a6
    have a7:=oG hv ht hr
    simp only[bB.s13]
    rw[I8 hq,D2,C6 hp,oS ho hv hS (ht.sm.2.1.2 p a4),A5,C6 hq,oS ho hv hS (ht.sm.2.1.2 q a6),A5,hr,hs]
    simp only[tw]
    rw[nD r s (by have:=a7.1;omega) (λx hx=>by have:=(a7.2 x hx).1;omega),A5]
    by_cases h:r=s
    ·subst h
     rw[D3 rfl,if_pos rfl]
     simp only[N2,D6]
     rw[C6 hp,C6 hq,pP_ref ht ho hv hA a4 a6,A5]
     cases pP t o p q<;>rfl
    ·rw[E2 h,if_neg (by simpa using h)]
     rfl) (by
    simp only[bB.s13]
    rw[N7]
    rfl) (by omega)
   simp only[bB.s14]
   rw[I8 hp,D2,a3,A5,mY]
   cases scan (λ_ q=>if rowO o p t.X=rowO o q t.X then pP t o p q else none) (i+1) (t.P.drop (i+1))<;>rfl) (by
   simp only[bB.s14]
   rw[N7]
   rfl) (by omega)
  rw[a5,A5,mY];unfold iP;cases scan (λi p=>scan (λ_ q=>if rowO o p t.X=rowO o q t.X then pP t o p q else none) (i+1) (t.P.drop (i+1))) 0 t.P<;>rfl
 ·rw[C9 h,if_pos h]
end
def X5{t:B8}{o:A6}(h:Q8 t o=0):M5 t=0/\t.I=o.I/\dQ t o:=by
 unfold Q8 at h;split at h
 ·rename_i h1;exact absurd h h1
 ·rename_i h1;split at h
  ·rename_i h2;have h1:chkT t o=0:=by simpa using h1
   unfold chkT at h1;split at h1
   ·rename_i h3;exact absurd h1 h3
   ·rename_i h3;split at h1
    ·cases h1
    ·rename_i h4;exact⟨by simpa using h3,by simpa using h4,tN.1 h2⟩
  ·cases h
def JN{l:A3}(h:Asc l){i:Nat}{w:A2}(hw:l[i]?=some w):U3 l i w=true:=by
 unfold U3;cases i with
 |zero=>rfl
 |succ i =>
  have hi:=(G4.1 hw).1;have hp:=get_at (l:=l) (i:=i) (by omega);simp only[hp];have:=h.get (wX i) hp hw;exact D3 (by omega)
def zJ{t:B8}(h1:1<=t.I)(h2:t.I<=4)(hp0:t.P≠[])(hp:t.P.length<=601)(hs:t.X.length<=601)(hb:t.P.length*5*t.X.length<=160000)(hA:Asc t.P)(hB:Asc t.X)
  (hc:∀w∈t.P,H1 w t.I=0/\w.length<=401) (hd:∀w∈t.X,H1 w t.I=0/\w.length≠0/\w.length<=81) (he:∀w∈t.P,0<w.length->w.take (w.length-1)∈t.P) (h0:[]∈t.P)
  (hf:∀a∈List.range t.I.toNat,[(a:Int)]∈t.X):M5 t=0:=by
 unfold M5;have a7:0<t.P.length:=sV.2 hp0
 have a5:¬160000<(t.P.length:Int)*(t.I+1)*↑t.X.length:=by
  have a1:(t.P.length:Int)*(t.I+1)<=(t.P.length:Int)*5:=Int.mul_le_mul_of_nonneg_left (by omega) (by omega);have a2:(t.P.length:Int)*(t.I+1)*↑t.X.length<=(t.P.length:Int)*5*↑t.X.length:=Int.mul_le_mul_of_nonneg_right a1 (by omega);have a3:(↑(t.P.length*5*t.X.length):Int)=(t.P.length:Int)*5*↑t.X.length:=by rw[GU,GU];rfl
  omega
 rw[if_neg (by omega),if_neg (by omega),if_neg (by rintro (h|h|h);omega;omega;exact a5 h)]
 have e1:scan (preG t λw=>decide (w∈t.P)) 0 t.P=none:=aK.2 λi w hw=>by
  have a4:=H8 hw;rw[J9];unfold preG;rw[if_neg (by simpa using (hc w a4).1)]
  have hz:¬((i=0/\0<w.length)\/U3 t.P i w=false):=by
   rintro (⟨rfl,h⟩|h)
   ·obtain⟨j,hj,e⟩:=Q4.1 h0;have ej:=get_at hj;rw[e]at ej;rcases gR j with rfl|a6
    ·rw[hw]at ej;injection ej with ej
     subst ej;simp at h
    ·have:=hA.get a6 hw ej;have:=cmp_len this;simp at this;rw[this]at h;simp at h
   ·rw[JN hA hw]at h;cases h
  rw[if_neg hz,if_neg];rintro⟨h,h'⟩;exact of_decide_eq_false h' (he w a4 h)
 have e2:scan (sufG t) 0 t.X=none:=aK.2 λi w hw=>by
  have a4:=H8 hw;rw[J9];unfold sufG;rw[if_neg (by simpa using (hd w a4).1),if_neg (hd w a4).2.1,if_neg (by rw[JN hB hw];simp)]
 rw[e1,e2];simp only;rw[if_pos hf];have l1:=(EG t.P 401).2 λx hx=>(hc x hx).2;have l2:=(EG t.X 81).2 λx hx=>(hd x hx).2.2;rw[if_neg (by omega)]
def aL{t:B8}(h:M5 t=0):(∀w∈t.P,H1 w t.I=0)/\(∀w∈t.P,0<w.length->w.take (w.length-1)∈t.P)/\[]∈t.P/\∀w∈t.X,H1 w t.I=0/\w.length≠0:=by
 obtain⟨_,_,_,_,_,e1,e2,a2⟩:=Z9 h
 have key:∀(i:Nat) w,t.P[i]?=some w->H1 w t.I=0/\¬(i=0/\0<w.length)/\(0<w.length->w.take (w.length-1)∈t.P):=λi w hw=>by
  have:=aK.1 e1 i w hw;rw[J9]at this;unfold preG at this;split at this
  ·cases this
  ·rename_i h1;split at this
   ·cases this
   ·rename_i h2;split at this
    ·cases this
    ·rename_i h3;refine⟨by simpa using h1,λh4=>h2 (Or.inl h4),λh4=>?_⟩;refine Q5 λh5=>h3 ⟨h4,E2 h5⟩
 refine⟨λw hw=>?_,λw hw=>?_,?_,(sufG_none e2).2⟩
 ·obtain⟨i,hi,rfl⟩:=Q4.1 hw;exact(key i _ (get_at hi)).1
 ·obtain⟨i,hi,rfl⟩:=Q4.1 hw;exact(key i _ (get_at hi)).2.2
 ·have hl:0<t.P.length:=sV.2 a2;have:=(key 0 _ (get_at hl)).2.1
  have he:t.P[0].length=0:=by
   rcases gR t.P[0].length with h|h
   ·exact h
   ·exact absurd ⟨rfl,h⟩ this
  have:=S9 he;rw[<- this];exact H9 _
def uL{t:B8}(h:M5 t=0):∀(n:Nat) (p:A2),p∈t.P->∀k,p.length-k=n->k<=p.length->p.take k∈t.P:=by
 obtain⟨_,hc,_,_⟩:=aL h;intro n
 induction n with
 |zero=>intro p hp k hk a2;rw[X6 (by omega)];exact hp
 |succ n ih =>
  intro p hp k hk a2;have h1:=hc p hp (by omega);have h2:=ih _ h1 k (by rw[H6];omega) (by rw[H6];omega);rw[lA,mF (by omega)]at h2;exact h2
def check_snoc{p:A2}{n:Int}{a:Nat}(hp:H1 p n=0)(hl:p.length<=500)(ha:(a:Int)<n):H1 (p++[(a:Int)]) n=0:=by
 have hm:=aB hp;unfold H1 at hp ⊢;split at hp
 ·rename_i h1;rw[if_pos h1,if_neg (by simp;omega),if_pos];refine O0.2 λx hx=>D3 ?_;rcases K0.1 hx with hx|hx
  ·exact hm x hx
  ·rw[K2.1 hx];omega
 ·cases hp
def check_cons{p:A2}{n:Int}{a:Nat}(hp:H1 p n=0)(hl:p.length<=100)(ha:(a:Int)<n):H1 ((a:Int)::p) n=0:=by
 have hm:=aB hp;unfold H1 at hp ⊢;split at hp
 ·rename_i h1;rw[if_pos h1,if_neg (by simp;omega),if_pos];refine O0.2 λx hx=>D3 ?_;rcases I2.1 hx with rfl|hx
  ·omega
  ·exact hm x hx
 ·cases hp
def sort_more{l m:A3}{w:A2}(h:Asc l)(hw:w∉l)(hm:∀x,x∈m↔x∈l\/x=w):(sortW m).length=l.length+1/\∀x,x∈sortW m↔x∈l\/x=w:=by
 have a2:∀x,x∈sortW m↔x∈l\/x=w:=λx=>by rw[aC,hm]
 have e:sortW m=insW l w:=oA (cC m) (h.insW w) λx=>by rw[a2,bV]
 refine⟨?_,a2⟩;rw[e];unfold insW;rw[if_neg hw];have:=yL l w;simp[D7,H6,O5];omega
def uncl_progress{t:B8}{o:A6}{w:A2}(ht:K7 t)(hb:(t.P.length+1)*5*t.X.length<=160000)(hz:Q8 t o=0)(hf:(extL t).find? (newRow t o)=some w) :
  (eT t w).2=0/\w∉t.P/\w∈(eT t w).1.P/\(eT t w).1.P.length=t.P.length+1/\(eT t w).1.X.length=t.X.length:=by
 obtain⟨a4,_,hA⟩:=X5 hz;obtain⟨b8,_,c0,b7,a7,_,_,c7⟩:=Z9 a4;obtain⟨a8,b6,a9,b2⟩:=aL a4;have b0:newRow t o w=true:=mE hf;have b5:=dE hf;obtain⟨p,hp,h2⟩:=L6.1 b5;obtain⟨a,ha,rfl⟩:=D8.1 h2;have ha:=M8.1 ha;have c6:=ht.pw p hp;have a6:p++[(a:Int)]∉t.P:=λhm=>of_decide_eq_true b0 (D8.2 ⟨_,hm,rfl⟩);have b3:=check_snoc (a8 p hp) (by omega) (show(a:Int)<t.I by omega)
 have b4:∀x,x∈t.P++sortW (preL [p++[(a:Int)]])↔x∈t.P\/x=p++[(a:Int)]:=λx=>by
  rw[K0,aC,qT];unfold prefixes;constructor
  ·rintro (h|h)
   ·exact Or.inl h
   ·obtain⟨k,hk,rfl⟩:=D8.1 h;have hk:=M8.1 hk;rw[D7,S6]at hk;rcases L8 p.length k with h3|h3
    ·right;rw[X6 (by rw[D7,S6];omega)]
    ·left;rw[gS h3];exact uL a4 _ p hp k rfl h3
  ·rintro (h|rfl)
   ·exact Or.inl h
   ·exact Or.inr (D8.2 ⟨p.length+1,by simp,by rw[X6 (by simp)]⟩)
 obtain⟨a5,a2⟩:=sort_more c0 a6 b4;have a3:sortW (t.X++[])=t.X:=by rw[S5,nE b7]
 have b9:M5 ⟨t.I,sortW (t.P++sortW (preL [p++[(a:Int)]])),sortW (t.X++[])⟩=0:=by
  refine zJ b8 ht.n (λe=>?_) ?_ ?_ (by show(sortW (t.P++sortW (preL [p++[(a:Int)]]))).length*5*(sortW (t.X++[])).length<=160000;rw[a5,a3];exact hb) (cC _) (cC _) (λu hu=>?_) (λu hu=>?_) (λu hu h0=>?_) ((a2 _).2 (Or.inl a9)) ?_
  ·have:p++[(a:Int)]∈sortW (t.P++sortW (preL [p++[(a:Int)]])):=(a2 _).2 (Or.inr rfl);rw[show sortW (t.P++sortW (preL [p++[(a:Int)]]))=[] from e]at this;cases this
  ·show(sortW (t.P++sortW (preL [p++[(a:Int)]]))).length<=601;rw[a5];have:=ht.p;omega
  ·show(sortW (t.X++[])).length<=601;rw[a3];have:=ht.s;omega
  ·rcases (a2 u).1 hu with h|rfl
   ·exact⟨a8 u h,by have:=ht.pw u h;omega⟩
   ·exact⟨b3,by simp;omega⟩
  ·have hu:u∈sortW (t.X++[]):=hu;rw[a3]at hu;exact⟨(b2 u hu).1,(b2 u hu).2,by have:=ht.sw u hu;omega⟩
  ·refine(a2 _).2 (Or.inl ?_);rcases (a2 u).1 hu with h|rfl
   ·exact b6 u h h0
   ·rw[D7,S6,xG,gS (H4 _),M4];exact hp
  ·show ∀a∈List.range t.I.toNat,[(a:Int)]∈sortW (t.X++[]);rw[a3];exact a7
 have hP:eT t (p++[(a:Int)])=(⟨t.I,sortW (t.P++sortW (preL [p++[(a:Int)]])),sortW (t.X++[])⟩,0):=by
  unfold eT growT;rw[if_neg (by simpa using a4),if_neg (by simpa using b3),if_neg (by simpa using b9)]
 rw[hP];exact⟨rfl,a6,(a2 _).2 (Or.inr rfl),a5,by show(sortW (t.X++[])).length=_;rw[a3]⟩
def oF{o:A6}{w:A2}:∀{S:A3} {r:Row},rowO o w S=some r->∀(i:Nat) e,S[i]?=some e->∃x,ansO o (w++e)=some x/\r[i]?=some (x.drop w.length)
 |[],_,_,i,e,he=>by simp at he
 |u::S,r,h,i,e,he=>by
  unfold rowO at h;cases ha:ansO o (w++u) with
  |none=>rw[ha]at h;cases h
  |some x =>
   rw[ha]at h;obtain⟨l,h1,rfl⟩:=eG.1 h;cases i with
   |zero =>
    simp at he;subst he;exact⟨x,ha,rfl⟩
   |succ i =>
    obtain⟨y,h2,h3⟩:=oF h1 i e (by simpa using he);exact⟨y,h2,by simpa using h3⟩
def iP_parts{t:B8}{o:A6}(hA:dQ t o){x:Int×Int×Bool}(h:iP t o=some x) :
  ∃p q,p∈t.P/\q∈t.P/\rowO o p t.X=rowO o q t.X/\∃a e:Nat,x=((a:Int),(e:Int),true)/\a<t.I.toNat/\∃X Y u,rowO o (p++[(a:Int)]) t.X=some X/\rowO o (q++[(a:Int)]) t.X=some Y/\X[e]?=some u/\Y[e]?≠some u:=by
 refine jU (Q:=λx=>∃p q,p∈t.P/\q∈t.P/\rowO o p t.X=rowO o q t.X/\∃a e:Nat,x=((a:Int),(e:Int),true)/\a<t.I.toNat/\∃X Y u,rowO o (p++[(a:Int)]) t.X=some X/\rowO o (q++[(a:Int)]) t.X=some Y/\X[e]?=some u/\Y[e]?≠some u) h λi p r hp hr=>?_;refine jU (Q:=λx=>∃p q,p∈t.P/\q∈t.P/\rowO o p t.X=rowO o q t.X/\∃a e:Nat,x=((a:Int),(e:Int),true)/\a<t.I.toNat/\∃X Y u,rowO o (p++[(a:Int)]) t.X=some X/\rowO o (q++[(a:Int)]) t.X=some Y/\X[e]?=some u/\Y[e]?≠some u) hr λk q r hq hr=>?_;have a3:=H8 hp;have a4:q∈t.P:=V7 (H8 hq);split at hr
 ·rename_i a6;refine jU (Q:=λx=>∃p q,p∈t.P/\q∈t.P/\rowO o p t.X=rowO o q t.X/\∃a e:Nat,x=((a:Int),(e:Int),true)/\a<t.I.toNat/\∃X Y u,rowO o (p++[(a:Int)]) t.X=some X/\rowO o (q++[(a:Int)]) t.X=some Y/\X[e]?=some u/\Y[e]?≠some u) hr λa a' r ha hr=>?_
  have a2:a<t.I.toNat:=by
   have:=(G4.1 ha).1;simpa using this
  rw[bT a2]at ha;injection ha with ha
  subst ha;obtain⟨X,hX⟩:=hA p a3 (p++[(a:Int)]) (K3 _ (D8.2 ⟨a,M8.2 a2,rfl⟩));obtain⟨Y,hY⟩:=hA q a4 (q++[(a:Int)]) (K3 _ (D8.2 ⟨a,M8.2 a2,rfl⟩));rw[aV hX,aV hY]at hr;refine jU (Q:=λx=>∃p q,p∈t.P/\q∈t.P/\rowO o p t.X=rowO o q t.X/\∃a e:Nat,x=((a:Int),(e:Int),true)/\a<t.I.toNat/\∃X Y u,rowO o (p++[(a:Int)]) t.X=some X/\rowO o (q++[(a:Int)]) t.X=some Y/\X[e]?=some u/\Y[e]?≠some u) hr λe u r hu hr=>?_;split at hr
  ·cases hr
  ·rename_i a5;injection hr with hr
   subst hr;rw[J9]at a5 ⊢;exact⟨p,q,a3,a4,a6,a,e,rfl,a2,X,Y,u,hX,hY,hu,a5⟩
 ·cases hr
def inc_progress{t:B8}{o:A6}{x:Int×Int×Bool}(ht:K7 t)(hb:t.P.length*5*(t.X.length+1)<=160000)(hv:I6 o)(hz:Q8 t o=0)(hf:iP t o=some x) :
  (eQ t (toW t x)).2=0/\toW t x∉t.X/\toW t x∈(eQ t (toW t x)).1.X/\(eQ t (toW t x)).1.X.length=t.X.length+1/\(eQ t (toW t x)).1.P.length=t.P.length:=by
 obtain⟨a5,_,hA⟩:=X5 hz;obtain⟨c0,_,c8,b9,b0,_,_,c9⟩:=Z9 a5;obtain⟨b6,b7,b3,a7⟩:=aL a5;obtain⟨p,q,hp,hq,b8,a,e,rfl,ha,X,Y,u,hX,hY,hu,b4⟩:=iP_parts hA hf
 have he:e<t.X.length:=by
  have h1:=(G4.1 hu).1;rw[(iE hv hX).1]at h1;exact h1
 have a8:=get_at he
 have hW:toW t ((a:Int),(e:Int),true)=(a:Int)::t.X[e]:=by
  unfold toW;simp[a8]
 rw[hW];have d0:=ht.sw _ (H9 he);have b2:=check_cons (a7 _ (H9 he)).1 (by omega) (show(a:Int)<t.I by omega)
 have a6:(a:Int)::t.X[e]∉t.X:=λhm=>by
  obtain⟨j,hj,ej⟩:=Q4.1 hm;have a9:=get_at hj;rw[ej]at a9;obtain⟨r,hr⟩:=hA p hp p (by simp[N6]);have c6:rowO o q t.X=some r:=by rw[<- b8];exact hr
  obtain⟨z1,h1,h2⟩:=oF hr j _ a9;obtain⟨z2,h3,h4⟩:=oF c6 j _ a9;obtain⟨y1,k1,k2⟩:=oF hX e _ a8;obtain⟨y2,k3,k4⟩:=oF hY e _ a8;rw[U8]at k1 k3;have e1:p++(a:Int)::t.X[e]=p++([(a:Int)]++t.X[e]):=rfl;have e2:q++(a:Int)::t.X[e]=q++([(a:Int)]++t.X[e]):=rfl;rw[e1,k1]at h1;rw[e2,k3]at h3;injection h1 with h1
  injection h3 with h3
  subst h1 h3;rw[h2]at h4;injection h4 with h4
  have h5:=congrArg (List.drop 1) h4;rw[wU,wU]at h5;rw[hu]at k2;injection k2 with k2
  apply b4;rw[k4,k2];congr 1;rw[D7,D7,S6];exact h5.symm
 have b5:∀x,x∈t.X++[(a:Int)::t.X[e]]↔x∈t.X\/x=(a:Int)::t.X[e]:=λx=>by
  rw[K0,K2]
 obtain⟨a4,a3⟩:=sort_more b9 a6 b5;have a2:sortW (t.P++[])=t.P:=by rw[S5,nE c8]
 have c7:M5 ⟨t.I,sortW (t.P++[]),sortW (t.X++[(a:Int)::t.X[e]])⟩=0:=by
  refine zJ c0 ht.n ?_ ?_ ?_ (by show(sortW (t.P++[])).length*5*(sortW (t.X++[(a:Int)::t.X[e]])).length<=160000;rw[a4,a2];exact hb) (cC _) (cC _) (λu hu=>?_) (λu hu=>?_) (λu hu h0=>?_) ?_ (λb hb=>(a3 _).2 (Or.inl (b0 b hb)))
  ·show sortW (t.P++[])≠[];rw[a2];exact c9
  ·show(sortW (t.P++[])).length<=601;rw[a2];have:=ht.p;omega
  ·show(sortW (t.X++[(a:Int)::t.X[e]])).length<=601;rw[a4];have:=ht.s;omega
  ·have hu:u∈sortW (t.P++[]):=hu;rw[a2]at hu;exact⟨b6 u hu,by have:=ht.pw u hu;omega⟩
  ·rcases (a3 u).1 hu with h|rfl
   ·exact⟨(a7 u h).1,(a7 u h).2,by have:=ht.sw u h;omega⟩
   ·exact⟨b2,by simp,by simp;omega⟩
  ·have hu:u∈sortW (t.P++[]):=hu;show u.take (u.length-1)∈sortW (t.P++[]);rw[a2]at hu ⊢;exact b7 u hu h0
  ·show []∈sortW (t.P++[]);rw[a2];exact b3
 have hP:eQ t ((a:Int)::t.X[e])=(⟨t.I,sortW (t.P++[]),sortW (t.X++[(a:Int)::t.X[e]])⟩,0):=by
  unfold eQ growT;rw[if_neg (by simpa using a5),if_neg (by simp),if_neg (by simpa using b2),if_neg (by simpa using c7)]
 rw[hP];exact⟨rfl,a6,(a3 _).2 (Or.inr rfl),a4,by show(sortW (t.P++[])).length=_;rw[a2]⟩
def zq45{t:B8}(ht:K7 t){w:A2}(h:w∈extL t):w.length<=401/\∀a∈w,inR a:=by
 obtain⟨p,hp,h2⟩:=L6.1 h;obtain⟨a,ha,rfl⟩:=D8.1 h2;have ha:=M8.1 ha;have:=ht.pw p hp;have hn:=ht.n;refine⟨by simp;omega,λb hb=>?_⟩;rcases K0.1 hb with hb|hb
 ·exact ht.sm.2.2.2 p hp b hb
 ·rw[K2.1 hb];unfold inR;omega
def yX{l:A3}{n:Int}(hA:Asc l)(hc:∀w∈l,H1 w n=0/\w.length≠0)(h:∀a∈List.range n.toNat,[(a:Int)]∈l):∀a,a<n.toNat->l[a]?=some [(a:Int)]:=by
 intro a
 induction a using Nat.strongRecOn with
 |_ a ih =>
  intro ha;obtain⟨j,hj,e⟩:=Q4.1 (h a (M8.2 ha));have ej:l[j]?=some [(a:Int)]:=by rw[get_at hj,e]
  rcases eE j a with a6|a5|a7
  ·have:=ih j a6 (by omega);rw[ej]at this;injection this with this
   injection this with this
   omega
  ·rw[<- a5,ej,a5]
  ·have hx:=get_at (l:=l) (i:=a) (by omega);have a2:=hA.get a7 hx ej;have a3:=H8 hx;obtain⟨b,hb⟩:=one_of (hc _ a3).2 (cmp_len a2);rw[hb]at a2 hx;have a6:=zB.1 a2;have hr:=aB (hc _ a3).1 b (by rw[hb];simp);have a4:=ih b.toNat (by omega) (by omega);rw[show((b.toNat:Nat):Int)=b by omega]at a4;have:=hA.get (show b.toNat<a by omega) a4 hx;rw[cA]at this;cases this
def newAt(rs:List Row)(i:Nat):Bool:=match rs[i]? with|some r=>decide (r∉rs.take i)|none=>false
def fstI(rs:List Row)(k:Nat):List Nat:=(List.range k).filter (newAt rs)
def yK(rs:List Row)(k:Nat):fstI rs (k+1)=fstI rs k++if newAt rs k=true then [k] else []:=by
 unfold fstI;rw[jE,pW];simp only[nN,List.filter_nil]
def yW(rs:List Row):∀k,k<=rs.length->G6 [] (rs.take k)=(fstI rs k).map λi=>(rs[i]?).getD []:=by
 intro k
 induction k with
 |zero=>intro _;rfl
 |succ k ih =>
  intro hk;have hx:=get_at (l:=rs) (i:=k) (by omega);rw[L9 hx,uU,ih (by omega),yK,N3]
  have a2:newAt rs k=true↔rs[k]∉G6 [] (rs.take k):=by
   unfold newAt;rw[hx];simp only;rw[decide_eq_true_iff,cZ];simp
  rw[ih (by omega)]at a2;unfold addR;by_cases h:newAt rs k=true
  ·rw[if_neg (a2.1 h),if_pos h];simp[hx]
  ·rw[if_pos (Q5 λh2=>h (a2.2 h2)),if_neg h];simp
def tI(rs:List Row)(k:Nat):(fstI rs k).length<=k:=by
 unfold fstI;have:=nR (newAt rs) (List.range k);rw[aE]at this;exact this
def tP{rs:List Row}{k i:Nat}:i∈fstI rs k↔i<k/\newAt rs i=true:=by
 unfold fstI;rw[fK,M8]
def pos_map{V G:Type}[DecidableEq V][DecidableEq G]{f:V->G}{x:V}:∀{l:List V},x∈l->(∀y∈l,f y=f x->y=x)->pos (f x) (l.map f)=pos x l
 |y::l,h,hi=>by
  rw[L0];unfold pos;by_cases e:y=x
  ·subst e;simp
  ·have h2:¬f y=f x:=λe2=>e (hi y (by simp) e2);rw[if_neg e,if_neg h2];rcases I2.1 h with h|h
   ·exact absurd h.symm e
   ·rw[pos_map h λz hz=>hi z (K3 _ hz)]
def J4(t:B8)(o:A6):List Row:=t.P.map (rowG t o)
def K8(t:B8)(o:A6):List Row:=G6 [] (J4 t o)
def X7(t:B8)(o:A6)(p:A2):A2:=(List.range t.I.toNat).map λ(a:Nat)=>(↑(pos (rowG t o (p++[(a:Int)])) (K8 t o)):Int)
def outT(t:B8)(o:A6)(p:A2):A2:=(List.range t.I.toNat).map λ(a:Nat)=>(((rowG t o p)[a]?).getD []).headD 0
def M0(t:B8)(i:Nat):A2:=(t.P[i]?).getD []
def hypT(t:B8)(o:A6):E3 :=
 ⟨⟨t.I,0,(fstI (J4 t o) t.P.length).map λi=>X7 t o (M0 t i),(fstI (J4 t o) t.P.length).map λi=>outT t o (M0 t i)⟩,(fstI (J4 t o) t.P.length).map (M0 t)⟩
abbrev h0:E3:=⟨⟨0,0,[],[]⟩,[]⟩
def hypR(t:B8)(o:A6):E3×Int :=
 if Q8 t o≠0 then(h0,Q8 t o) else if(extL t).find? (newRow t o)≠none\/iP t o≠none then(h0,10) else(hypT t o,0)
def rowsO_eq{t:B8}{o:A6}:∀{ps:A3} {rs:List Row},Q7 o t.X ps=some rs->rs=ps.map (rowG t o)
 |[],rs,h=>by
  injection h with h
  exact h.symm
 |w::ws,rs,h=>by
  unfold Q7 at h;cases hr:rowO o w t.X with
  |none=>rw[hr]at h;cases h
  |some r =>
   rw[hr]at h;obtain⟨rs',h1,rfl⟩:=eG.1 h;rw[rowsO_eq h1,L0,aV hr]
def row_out{t:B8}{o:A6}(hv:I6 o){p:A2}{r:Row}(hr:rowO o p t.X=some r){a:Nat}(hs:t.X[a]?=some [(a:Int)]):∃y z,r[a]?=some [y]/\ansO o (p++[(a:Int)])=some z/\z.drop p.length=[y]:=by
 obtain⟨z,h1,h2⟩:=oF hr a _ hs;have hl:=iF hv h1;rw[D7,S6]at hl;have hd:(z.drop p.length).length=1:=by rw[O5];omega
 match hq:z.drop p.length,hd with
 |[y],_=>exact⟨y,z,by rw[h2,hq],h1,hq⟩
def fst_few{t:B8}{o:A6}(h:(K8 t o).length<=128):(fstI (J4 t o) t.P.length).length<=128:=by
 have h2:(J4 t o).length=t.P.length:=by unfold J4;rw[E1]
 have h1:=yW (J4 t o) t.P.length (by omega);rw[X6 (by omega)]at h1;have h3:=congrArg List.length h1;rw[E1]at h3;unfold K8 at h;omega
def zup{t:B8}{o:A6}(ht:K7 t)(ho:SmO o)(hv:I6 o)(hr:(K8 t o).length<=128):U6 t o=some (hypR t o):=by
 have hn:=ht.n;have e0:=ht.p;obtain⟨v,e,h1,h2⟩:=FR ht ho hv;obtain⟨h3,h4⟩:=look_view h2;unfold U6 hypR;rw[h1,A5];simp only;rw[h3]at h4 ⊢;by_cases hz:Q8 t o=0
 ·obtain⟨hV,hA,c9⟩:=h4 hz;obtain⟨b3,_,_⟩:=X5 hz;obtain⟨e4,_,e7,d8,b5,_,_,e2⟩:=Z9 b3;obtain⟨_,_,_,d2⟩:=aL b3;have c7:=yX d8 d2 b5;obtain⟨i,a,b,h5,h6⟩:=KS ht hV;rw[B5 (by simpa using hz),if_neg (by simpa using hz),h5,A5,iP_prog ht hv hV,A5];simp only;cases hf:(extL t).find? (newRow t o) with
  |some w =>
   rw[hf]at h6;obtain⟨rfl,_⟩:=h6;rw[if_pos (Or.inl (by simp))];rfl
  |none =>
   rw[hf]at h6;subst h6;cases hi:iP t o with
   |some x =>
    obtain⟨hb,_⟩:=iP_range hv hA hi;rw[if_pos (Or.inr (by simp))];simp only[D6,hb];rfl
   |none =>
    rw[if_neg (by simp)]
    -- closed: there are no other rows than the prefixes'
    have b6:∃rs a3,Q7 o t.X t.P=some rs/\bI o t.X t.I.toNat t.P=some a3/\v.rows=G6 (G6 [] rs) a3.flatten/\v.prefixes=nums v.rows rs/\v.next=a3.map (nums v.rows):=by
     rcases h2 with⟨q1,q2⟩|⟨_,q2,_⟩|⟨_,_,q⟩
     ·exact absurd c9 q1
     ·rw[h3,hz]at q2;cases q2
     ·exact q
    obtain⟨rs,a3,q1,q2,q3,q4,q5⟩:=b6;have a4:rs=J4 t o:=rowsO_eq q1;have e6:rs.length=t.P.length:=(jY q1).1;have hE:=uX q2
    have a6:∀x∈a3.flatten,x∈rs:=λx hx=>by
     obtain⟨l,hl,hx⟩:=nO.1 hx;obtain⟨k,hk,rfl⟩:=Q4.1 hl;have d5:=get_at (l:=t.P) (i:=k) (by rw[<- hE.1];exact hk);obtain⟨l',a7,d0⟩:=hE.2 k _ d5;rw[get_at hk]at a7;injection a7 with a7
     subst a7;obtain⟨j,hj,rfl⟩:=Q4.1 hx;have hL:=jY d0
     have b9:j<t.I.toNat:=by
      have:=hL.1;simp[exts]at this;omega
     have hw:(exts t.I.toNat t.P[k])[j]?=some (t.P[k]++[(j:Int)]):=by
      unfold exts;rw[K5,bT b9];rfl
     obtain⟨r,a9,d1⟩:=hL.2 j _ hw;rw[get_at hj]at a9;injection a9 with a9
     subst a9
     have a8:newRow t o (t.P[k]++[(j:Int)])=false:=by
      have:=pX.1 hf (t.P[k]++[(j:Int)]) (L6.2 ⟨_,H9 _,D8.2 ⟨j,M8.2 b9,rfl⟩⟩);simpa using this
     unfold newRow at a8;have a8:=jF.1 (of_decide_eq_false a8);obtain⟨p,hp,c8⟩:=D8.1 a8;rw[a4];refine D8.2 ⟨p,hp,?_⟩;rw[d1]at c8;exact aV c8
    have hR:v.rows=K8 t o:=by
     rw[q3];unfold K8;rw[<- a4]
     have:∀(xs R:List Row),(∀x∈xs,x∈R)->G6 R xs=R:=by
      intro xs
      induction xs with
      |nil=>intro R _;rfl
      |cons x xs ih =>
       intro R h;show G6 (addR R x) xs=R
       have e1:addR R x=R:=by
        unfold addR;rw[if_pos (h x (by simp))]
       rw[e1];exact ih R λy hy=>h y (K3 _ hy)
     exact this _ _ λx hx=>cZ.2 (Or.inr (a6 x hx))
    have d6:=rQ [] rs;simp only[V5]at d6
    have d7:v.rows.length<=128:=by
     rw[hR];exact hr
    simp only[D6,A5];rw[B5]
    have key:=O4 (step:=λ(s:A3×A3×A3×Nat)=>U6.s32 t (v,Q8 t o) s.1 s.2.1 s.2.2.1 s.2.2.2) (r:=((fstI rs t.P.length).map λi=>X7 t o (M0 t i),(fstI rs t.P.length).map λi=>outT t o (M0 t i),(fstI rs t.P.length).map (M0 t)))
     (λs=>s.2.2.2<=t.P.length/\s.1=(fstI rs s.2.2.2).map (λi=>X7 t o (M0 t i))/\s.2.1=(fstI rs s.2.2.2).map (λi=>outT t o (M0 t i))/\s.2.2.1=(fstI rs s.2.2.2).map (M0 t)) (λs=>t.P.length-s.2.2.2) (λs ⟨g1,g2,g3,g4⟩=>by
      obtain⟨N,O,A,k⟩:=s
      simp only at g1 g2 g3 g4
      subst g2 g3 g4
      have e3:=tI rs k
      simp only[U6.s32]
      rw[hV.pl]
      by_cases g5:k<t.P.length
      ·left
       have hp:=get_at g5
       have d9:=H9 g5
       have e5:=ht.pw _ d9
       obtain⟨r,r1,r2,r3⟩:=hV.pre k _ hp
       obtain⟨l,l1,l2,l3⟩:=hV.nxt k _ hp
       have c6:rs[k]?=some r:=by
        rw[a4]
        unfold J4
        rw[K5,hp]
        show some (rowG t o t.P[k])=_
        rw[aV r1]
       have d4:M0 t k=t.P[k]:=by unfold M0;rw[hp];rfl
       have b2:newAt rs k=true↔r∉rs.take k:=by
        unfold newAt
        rw[c6]
        simp
       have b4:((fstI rs k).map (M0 t)).length=(G6 [] (rs.take k)).length:=by
        rw[yW rs k (by omega),E1,E1]
       have b7:v.rows=G6 (G6 [] (rs.take k)) (rs.drop k):=by
        rw[hR]
        unfold K8
        rw[<- a4,<- FD,sX]
       rw[C9,C6 r3,b4]
       by_cases g6:newAt rs k=true
       ·have b0:=b2.1 g6
        have a2:r∉G6 [] (rs.take k):=λh=>by
         rcases cZ.1 h with h|h
         ·cases h
         ·exact b0 h
        have a5:pos r v.rows=(G6 [] (rs.take k)).length:=by
         rw[b7,cR (by omega)]
         have e1:rs[k]'(by omega)=r:=by
          have:=get_at (l:=rs) (i:=k) (by omega)
          rw[c6]at this
          injection this with this
          exact this.symm
         rw[e1]
         show pos r (G6 (addR (G6 [] (rs.take k)) r) _)=_
         rw[yU (yD.2 (Or.inr rfl))]
         unfold addR
         rw[if_neg a2,pos_new a2]
        rw[a5,B5]
        have outs:=O4 (step:=λ(s:A2×Nat)=>U6.s30 t (v,Q8 t o) (↑(G6 [] (rs.take k)).length:Int) s.1 s.2) (r:=outT t o t.P[k]) (λs=>s.2<=t.I.toNat/\s.1=(List.range s.2).map λ(a:Nat)=>(((rowG t o t.P[k])[a]?).getD []).headD 0) (λs=>t.I.toNat-s.2) (λs ⟨m1,m2⟩=>by
         obtain⟨y,a⟩:=s
         simp only at m1 m2
         subst m2
         simp only[U6.s30]
         by_cases m3:a<t.I.toNat
         ·left
          obtain⟨y,z,y1,_,_⟩:=row_out hv r1 (c7 a m3)
          have b8:v.rows[(G6 [] (rs.take k)).length]?=some r:=by rw[<- a5];exact jR r2
          refine⟨((List.range (a+1)).map λ(a:Nat)=>(((rowG t o t.P[k])[a]?).getD []).headD 0,a+1),?_,⟨m3,rfl⟩,by simp only;omega⟩
          rw[C9,F9 rfl b8,C6 y1,C6 (x:=y) rfl,F0 (by rw[E1,aE];unfold E5;omega),K1,jE,N3]
          simp[aV r1,y1]
         ·right
          have e:a=t.I.toNat:=by omega
          subst e
          rw[B5]
          rfl) (n:=fuel) (s:=([],0)) ⟨F8 _,rfl⟩
        have d3:l=X7 t o t.P[k]:=by
         unfold X7
         apply nP
         intro a
         by_cases ha:a<t.I.toNat
         ·obtain⟨x,x1,x2,x3⟩:=l3 a ha
          rw[x3,K5,bT ha,<- hR]
          show some (↑(pos x v.rows):Int)=some (↑(pos (rowG t o (t.P[k]++[(a:Int)])) v.rows):Int)
          rw[aV x1]
         ·rw[fM (by omega),fM (by simp;omega)]
        refine⟨((fstI rs (k+1)).map (λi=>X7 t o (M0 t i)),(fstI rs (k+1)).map (λi=>outT t o (M0 t i)),(fstI rs (k+1)).map (M0 t),k+1),?_,⟨g5,rfl,rfl,rfl⟩,by simp only;omega⟩
        rw[outs,A5,C6 l1,iR (by unfold SmW;omega),A5,F0 (by rw[E1];unfold E5;omega),F0 (by rw[E1];unfold E5;omega),C6 hp,iR (by unfold SmW;omega),A5,F0 (by
         have h9:=rQ [] (rs.take k)
         rw[H6]at h9
         simp only[V5]at h9
         unfold E5
         omega),A5]
        rw[yK,if_pos g6]
        simp only[N3,L0,mD,d4,<- d3]
        rfl
       ·have c0:r∈rs.take k:=Q5 λh=>g6 (b2.2 h)
        have a5:pos r v.rows<(G6 [] (rs.take k)).length:=by
         rw[b7,yU (cZ.2 (Or.inr c0))]
         exact pos_lt (cZ.2 (Or.inr c0))
        refine⟨((fstI rs (k+1)).map (λi=>X7 t o (M0 t i)),(fstI rs (k+1)).map (λi=>outT t o (M0 t i)),(fstI rs (k+1)).map (M0 t),k+1),?_,⟨g5,rfl,rfl,rfl⟩,by simp only;omega⟩
        rw[C9,A5,yK,if_neg g6,S5]
        rfl
      ·right
       have e:k=t.P.length:=by omega
       subst e
       rw[B5]) (n:=fuel) (s:=([],[],[],0)) ⟨F8 _,rfl,rfl,rfl⟩ (by have:=O9;simp only;omega)
    rw[key,A5];unfold hypT;rw[<- a4];rfl
 ·rw[C9 hz,if_pos hz]
def nZ{t:B8}{o:A6}{p:A2}(h:∃r,rowO o p t.X=some r):rowO o p t.X=some (rowG t o p):=by
 obtain⟨r,hr⟩:=h;rw[hr,aV hr]
def R23_firsts_eq{t:B8}{o:A6}(ht:K7 t)(ho:SmO o)(hv:I6 o)(hA:dQ t o):iQ t o=some ((fstI (J4 t o) t.P.length).map λ(i:Nat)=>(i:Int)):=by
 have b6:=ht.p;unfold iQ
 have key:=O4 (step:=λ(s:A2×Nat)=>iQ.s2 t o s.1 s.2) (r:=(fstI (J4 t o) t.P.length).map λ(i:Nat)=>(i:Int)) (λs=>s.2<=t.P.length/\s.1=(fstI (J4 t o) s.2).map λ(i:Nat)=>(i:Int)) (λs=>t.P.length-s.2) (λs ⟨g1,g2⟩=>by
  obtain⟨y,k⟩:=s
  simp only at g1 g2
  subst g2
  have b4:=tI (J4 t o) k
  simp only[iQ.s2]
  by_cases g3:k<t.P.length
  ·left
   have hp:=get_at g3
   have a3:=H9 g3
   have hr:=nZ (hA _ a3 _ (by simp[N6]:t.P[k]∈N6 t.I.toNat t.P[k]))
   obtain⟨n,h1,h2,h3⟩:=EI ht ho hv hA (ht.sm.2.1.2 _ a3) hr
   have b5:¬n<0:=λh=>by
    have:=h2.1 h
    unfold newRow at this
    exact of_decide_eq_true this (D8.2 ⟨_,a3,rfl⟩)
   obtain⟨⟨p,a9,a6⟩,h4⟩:=h3 n.toNat (by omega)
   have b2:(J4 t o)[k]?=some (rowG t o t.P[k]):=by
    unfold J4
    rw[K5,hp]
    rfl
   have a2:newAt (J4 t o) k=true↔n=(k:Int):=by
    unfold newAt
    rw[b2]
    simp only
    rw[decide_eq_true_iff]
    constructor
    ·intro b0
     rcases eE n.toNat k with b3|b7|a7
     ·exfalso
      apply b0
      rw[sW]
      refine⟨n.toNat,?_⟩
      rw[R3,if_pos b3]
      unfold J4
      rw[K5,a9]
      show some (rowG t o p)=_
      rw[aV a6]
     ·omega
     ·exact absurd hr (h4 k _ a7 hp)
    ·intro hn a8
     obtain⟨j,hj⟩:=sW.1 a8
     rw[R3]at hj
     split at hj
     ·rename_i b8
      unfold J4 at hj
      have a5:=get_at (l:=t.P) (i:=j) (by omega)
      rw[K5,a5]at hj
      have hj:some (rowG t o t.P[j])=some (rowG t o t.P[k]):=hj
      have a4:=nZ (hA _ (H9 (show j<t.P.length by omega)) _ (by simp[N6]:t.P[j]∈N6 t.I.toNat t.P[j]))
      rw[hj]at a4
      exact h4 j _ (by omega) a5 a4
     ·cases hj
   refine⟨((fstI (J4 t o) (k+1)).map λ(i:Nat)=>(i:Int),k+1),?_,⟨g3,rfl⟩,by simp only;omega⟩
   rw[I8 hp,D2,C6 hp,h1,A5,yK]
   by_cases hn:n=(k:Int)
   ·rw[C9 hn,F0 (by rw[E1];unfold E5;omega),if_pos (a2.2 hn),N3]
    rfl
   ·rw[B5 hn,if_neg (λh=>hn (a2.1 h)),S5]
  ·right
   have e:k=t.P.length:=by omega
   subst e
   rw[B5]) (n:=fuel) (s:=([],0)) ⟨F8 _,rfl⟩
 rw[key,A5]
def R23_place_eq{l:A2}{n:Int}(hl:l.length<=1000)(hm:n∈l):iH l n=some (↑(pos n l):Int):=by
 unfold iH
 have key:=O4 (step:=λs=>iH.s2 l n s) (r:=.inr (↑(pos n l):Int)) (λk=>k<=pos n l) (λk=>l.length-k) (λk g1=>by
  have a4:=pos_lt hm
  have hg:=jR hm
  simp only[iH.s2]
  have hx:=get_at (l:=l) (i:=k) (by omega)
  rw[I8 hx,D2,C6 hx]
  have a2:∀(l:A2) (k:Nat),k<pos n l->∀x,l[k]?=some x->x≠n:=by
   intro l
   induction l with
   |nil=>intro k h;simp[pos]at h
   |cons y l ih =>
    intro k h x hx
    unfold pos at h
    split at h
    ·omega
    ·rename_i hy
     cases k with
     |zero =>
      simp at hx
      rw[<- hx]
      exact hy
     |succ k=>exact ih k (by omega) x (by simpa using hx)
  by_cases e:k=pos n l
  ·right
   have h2:l[k]?=some n:=by
    rw[e]
    exact hg
   rw[hx]at h2
   injection h2 with this
   rw[C9 this,e]
  ·left
   have a3:=a2 l k (by omega) _ hx
   exact⟨k+1,by rw[B5 a3],by omega,by omega⟩) (n:=fuel) (s:=0) (F8 _)
 rw[key,A5];rfl
def R23_built_eq{t:B8}{o:A6}(ht:K7 t)(ho:SmO o)(hv:I6 o)(hz:Q8 t o=0)(hf:(extL t).find? (newRow t o)=none) :
  U0 t o ((fstI (J4 t o) t.P.length).map λ(i:Nat)=>(i:Int))=some (hypT t o):=by
 have hn:=ht.n;have e7:=ht.p;obtain⟨a5,_,hA⟩:=X5 hz;obtain⟨f4,_,f5,e5,a7,_,_,e8⟩:=Z9 a5;obtain⟨_,_,_,d6⟩:=aL a5;have c8:=yX e5 d6 a7;have d7:=tI (J4 t o) t.P.length
 have a9:K8 t o=(fstI (J4 t o) t.P.length).map λi=>((J4 t o)[i]?).getD []:=by
  have:=yW (J4 t o) t.P.length (by simp[J4]);rw[X6 (by simp[J4])]at this;exact this
 have a4:∀(k:Nat) (hk:k<t.P.length),(J4 t o)[k]?=some (rowG t o t.P[k]):=λk hk=>by
  unfold J4;rw[K5,get_at hk];rfl
 -- the place of a row's first prefix is the row's number
 have a3:∀p∈t.P,∀a:Nat,a<t.I.toNat->∃n,eV t o (p++[(a:Int)])=some n/\iH ((fstI (J4 t o) t.P.length).map λ(i:Nat)=>(i:Int)) n=some (↑(pos (rowG t o (p++[(a:Int)])) (K8 t o)):Int):=by
  intro p hp a ha;have d9:=ht.pw p hp;have hr:=nZ (hA p hp (p++[(a:Int)]) (K3 _ (D8.2 ⟨a,M8.2 ha,rfl⟩)));obtain⟨n,h1,h2,h3⟩:=EI ht ho hv hA (by unfold SmW;simp;omega) hr
  have c9:newRow t o (p++[(a:Int)])=false:=by
   have:=pX.1 hf (p++[(a:Int)]) (L6.2 ⟨p,hp,D8.2 ⟨a,M8.2 ha,rfl⟩⟩);simpa using this
  have e9:¬n<0:=λh=>by
   have:=h2.1 h;rw[c9]at this;cases this
  obtain⟨⟨q,b5,e4⟩,h4⟩:=h3 n.toNat (by omega);have a8:=(G4.1 b5).1
  have c0:(J4 t o)[n.toNat]?=some (rowG t o (p++[(a:Int)])):=by
   rw[a4 _ a8]
   have e1:t.P[n.toNat]=q:=by
    rw[get_at a8]at b5;injection b5
   rw[e1,aV e4]
  have a2:n.toNat∈fstI (J4 t o) t.P.length:=by
   refine tP.2 ⟨a8,?_⟩;unfold newAt;rw[c0];simp only;refine D3 λe0=>?_;obtain⟨j,hj⟩:=sW.1 e0;rw[R3]at hj;split at hj
   ·rename_i e6;have d3:=get_at (l:=t.P) (i:=j) (by omega);rw[a4 j (by omega)]at hj;have c6:=nZ (hA _ (H9 (show j<t.P.length by omega)) _ (by simp[N6]:t.P[j]∈N6 t.I.toNat t.P[j]));rw[hj]at c6;exact h4 j _ e6 d3 c6
   ·cases hj
  have c7:n=((n.toNat:Nat):Int):=by omega
  refine⟨n,h1,?_⟩;rw[R23_place_eq (by rw[E1];omega) (D8.2 ⟨n.toNat,a2,c7.symm⟩)];congr 2
  have e1:pos n ((fstI (J4 t o) t.P.length).map λ(i:Nat)=>(i:Int))=pos n.toNat (fstI (J4 t o) t.P.length):=by
   have this:pos ((n.toNat:Nat):Int) ((fstI (J4 t o) t.P.length).map λ(i:Nat)=>(i:Int))=pos n.toNat (fstI (J4 t o) t.P.length):=pos_map (f:=λ(i:Nat)=>(i:Int)) (x:=n.toNat) a2 λy _ h=>by
    have h:(y:Int)=↑n.toNat:=h;omega
   rw[<- c7]at this;exact this
  rw[e1,a9]
  have e3:rowG t o (p++[(a:Int)])=(λi=>((J4 t o)[i]?).getD []) n.toNat:=by
   show _=((J4 t o)[n.toNat]?).getD [];rw[c0];rfl
  rw[e3];refine(pos_map (f:=λi=>((J4 t o)[i]?).getD []) a2 λy hy h=>?_).symm
  -- two places of first rows with one row f3 one
  have b9:=tP.1 hy;have b8:=tP.1 a2;have b0:=a4 y b9.1;have b6:=a4 n.toNat b8.1;have h:((J4 t o)[y]?).getD []=((J4 t o)[n.toNat]?).getD []:=h;rw[b0,b6]at h;have h:rowG t o t.P[y]=rowG t o t.P[n.toNat]:=h;rcases eE y n.toNat with d8|d2|d1
  ·exfalso;have:=b8.2;unfold newAt at this;rw[b6]at this;simp only at this;refine of_decide_eq_true this (sW.2 ⟨y,?_⟩);rw[R3,if_pos d8,b0,h]
  ·exact d2
  ·exfalso;have:=b9.2;unfold newAt at this;rw[b0]at this;simp only at this;refine of_decide_eq_true this (sW.2 ⟨n.toNat,?_⟩);rw[R3,if_pos d1,b6,h]
 unfold U0;generalize hL:(fstI (J4 t o) t.P.length)=L at d7 a3
 have d5:∀i∈L,i<t.P.length:=λi hi=>by
  rw[<- hL]at hi;exact(tP.1 hi).1
 have key:=O4 (step:=λ(s:A3×A3×A3×Nat)=>U0.s20 t o (L.map λ(i:Nat)=>(i:Int)) s.1 s.2.1 s.2.2.1 s.2.2.2) (r:=(L.map λi=>X7 t o (M0 t i),L.map λi=>outT t o (M0 t i),L.map (M0 t)))
  (λs=>s.2.2.2<=L.length/\s.1=(L.take s.2.2.2).map (λi=>X7 t o (M0 t i))/\s.2.1=(L.take s.2.2.2).map (λi=>outT t o (M0 t i))/\s.2.2.1=(L.take s.2.2.2).map (M0 t)) (λs=>L.length-s.2.2.2) (λs ⟨g1,g2,g3,g4⟩=>by
   obtain⟨N,O,A,k⟩:=s
   simp only at g1 g2 g3 g4
   subst g2 g3 g4
   simp only[U0.s20]
   by_cases g5:k<L.length
   ·left
    have hx:=get_at g5
    have d0:=d5 _ (H9 g5)
    have d4:(L.map λ(i:Nat)=>(i:Int))[k]?=some (↑L[k]:Int):=by rw[K5,hx];rfl
    have hp:=get_at d0
    have b7:=H9 d0
    have d9:=ht.pw _ b7
    have a6:SmW t.P[L[k]]:=by unfold SmW;omega
    have e2:M0 t L[k]=t.P[L[k]]:=by unfold M0;rw[hp];rfl
    have hr:=nZ (hA _ b7 _ (by simp[N6]:t.P[L[k]]∈N6 t.I.toNat t.P[L[k]]))
    have b4:=O4 (step:=λ(s:A2×A2×Nat)=>U0.s18 t o (L.map λ(i:Nat)=>(i:Int)) t.P[L[k]] s.1 s.2.1 s.2.2) (r:=(X7 t o t.P[L[k]],outT t o t.P[L[k]])) (λs=>s.2.2<=t.I.toNat/\s.1=((List.range s.2.2).map λ(a:Nat)=>(↑(pos (rowG t o (t.P[L[k]]++[(a:Int)])) (K8 t o)):Int))/\s.2.1=(List.range s.2.2).map λ(a:Nat)=>(((rowG t o t.P[L[k]])[a]?).getD []).headD 0) (λs=>t.I.toNat-s.2.2) (λs ⟨m1,m2,m3⟩=>by
     obtain⟨y,z,a⟩:=s
     simp only at m1 m2 m3
     subst m2 m3
     simp only[U0.s18]
     by_cases m4:a<t.I.toNat
     ·left
      obtain⟨n,n1,n2⟩:=a3 _ b7 a m4
      obtain⟨b,w,b1,b2,b3⟩:=row_out hv hr (c8 a m4)
      refine⟨((List.range (a+1)).map λ(a:Nat)=>(↑(pos (rowG t o (t.P[L[k]]++[(a:Int)])) (K8 t o)):Int),(List.range (a+1)).map λ(a:Nat)=>(((rowG t o t.P[L[k]])[a]?).getD []).headD 0,a+1),?_,⟨m4,rfl,rfl⟩,by simp only;omega⟩
      rw[C9,EU ho hv a6 (by simp[SmW]),A5,b2,lR a6 (by simp[SmW]),A5,n1,A5,n2,A5,F0 (by rw[E1,aE];unfold E5;omega)]
      simp only
      rw[b3,C6 (x:=b) rfl,F0 (by rw[E1,aE];unfold E5;omega),K1,jE,N3,N3]
      simp[b1]
     ·right
      have e:a=t.I.toNat:=by omega
      subst e
      rw[B5]
      rfl) (n:=fuel) (s:=([],[],0)) ⟨F8 _,rfl,rfl⟩
    refine⟨((L.take (k+1)).map (λi=>X7 t o (M0 t i)),(L.take (k+1)).map (λi=>outT t o (M0 t i)),(L.take (k+1)).map (M0 t),k+1),?_,⟨g5,rfl,rfl,rfl⟩,by simp only;omega⟩
    rw[E1,C9,C6 d4,F9 rfl hp,b4,A5]
    simp only[U0.k19]
    rw[F0 (by rw[E1,H6];unfold E5;omega),F0 (by rw[E1,H6];unfold E5;omega),lR a6 (by simp[SmW]),A5,F0 (by rw[E1,H6];unfold E5;omega),L9 hx]
    simp only[N3,L0,mD,e2,S5]
   ·right
    have e:k=L.length:=by omega
    subst e
    rw[E1,B5,M4]) (n:=fuel) (s:=([],[],[],0)) ⟨F8 _,rfl,rfl,rfl⟩ (by have:=O9;simp only;omega)
 rw[key,A5];unfold hypT;rw[hL];rfl
def zxr{t:B8}{o:A6}(ht:K7 t)(ho:SmO o)(hv:I6 o)(hr:(K8 t o).length<=128):vQ t o=some (hypR t o):=by
 have a3:=ht.p;unfold vQ hypR;rw[KG ht ho hv,A5];unfold unclT;by_cases hz:Q8 t o=0
 ·obtain⟨_,_,hA⟩:=X5 hz;rw[if_neg (by simpa using hz),if_neg (by simpa using hz),LJ ht ho hv];unfold incT;rw[if_neg (by simpa using hz)];cases hf:(extL t).find? (newRow t o) with
  |some w =>
   rw[if_pos (Or.inl (by simp))];rfl
  |none =>
   cases hi:iP t o with
   |some x =>
    rw[if_pos (Or.inr (by simp))];rfl
   |none =>
    rw[if_neg (by simp)];have a2:=fst_few hr;simp only[ne_eq,not_true_eq_false,decide_false,D6,A5];rw[R23_firsts_eq ht ho hv hA,A5,E1,B5,R23_built_eq ht ho hv hz hf,A5]
 ·rw[if_pos hz,if_pos hz,C9 hz]
def R06_Same_eq(a b:B7)(h1:SmL a.N)(h2:SmL a.O):tL a b=some (decide (a=b)):=by
 unfold tL;rw[nD _ _ (by have:=h1.1;omega) (λx hx=>by have:x.length<=2000000:=h1.2 x hx;omega),nD _ _ (by have:=h2.1;omega) (λx hx=>by have:x.length<=2000000:=h2.2 x hx;omega)];obtain⟨a1,a2,a3,a4⟩:=a;obtain⟨b1,b2,b3,b4⟩:=b;simp only[B7.mk.injEq];by_cases e1:a1=b1<;>by_cases e2:a2=b2<;>by_cases e3:a3=b3<;>by_cases e4:a4=b4<;>simp[e1,e2,e3,e4]
def R22_Same_self(a:E3)(h1:SmL a.M.N)(h2:SmL a.M.O)(h3:SmL a.Access):tG a a=some true:=by
 unfold tG;rw[R06_Same_eq _ _ h1 h2,nD _ _ (by have:=h3.1;omega) (λx hx=>by have:x.length<=2000000:=h3.2 x hx;omega)];simp
def hypR_sml{t:B8}{o:A6}(ht:K7 t):SmL (hypR t o).1.M.N/\SmL (hypR t o).1.M.O/\SmL (hypR t o).1.Access:=by
 have hn:=ht.n;have a3:=ht.p;unfold hypR;split
 ·exact⟨U4,U4,U4⟩
 ·split
  ·exact⟨U4,U4,U4⟩
  ·have a2:=tI (J4 t o) t.P.length;unfold hypT;refine⟨⟨by show(List.map _ _).length<=_;rw[E1];omega,λx hx=>?_⟩,⟨by show(List.map _ _).length<=_;rw[E1];omega,λx hx=>?_⟩,⟨by show(List.map _ _).length<=_;rw[E1];omega,λx hx=>?_⟩⟩
   ·obtain⟨i,_,rfl⟩:=D8.1 hx;unfold SmW X7;simp;omega
   ·obtain⟨i,_,rfl⟩:=D8.1 hx;unfold SmW outT;simp;omega
   ·obtain⟨i,_,rfl⟩:=D8.1 hx;unfold SmW M0;cases h:t.P[i]? with
    |none=>simp
    |some p =>
     have:=ht.pw p (H8 h);simp;omega
section
structure I7(t:B8)(o:A6):Prop where
 ht:K7 t
 h128:(K8 t o).length<=128
 ho:SmO o
 hv:I6 o
 hz:Q8 t o=0
 hf:(extL t).find? (newRow t o)=none
 hi:iP t o=none
section
variable {t:B8}{o:A6}
def I7.all(H:I7 t o):dQ t o:=(X5 H.hz).2.2
def I7.row(H:I7 t o){p:A2}(hp:p∈t.P):rowO o p t.X=some (rowG t o p):=nZ (H.all p hp p (by simp[N6]))
def I7.ext(H:I7 t o){p:A2}(hp:p∈t.P){a:Nat}(ha:a<t.I.toNat):rowO o (p++[(a:Int)]) t.X=some (rowG t o (p++[(a:Int)])) :=
 nZ (H.all p hp _ (K3 _ (D8.2 ⟨a,M8.2 ha,rfl⟩)))
def I7.closed(H:I7 t o){p:A2}(hp:p∈t.P){a:Nat}(ha:a<t.I.toNat):rowG t o (p++[(a:Int)])∈K8 t o:=by
 have h1:=pX.1 H.hf (p++[(a:Int)]) (L6.2 ⟨p,hp,D8.2 ⟨a,M8.2 ha,rfl⟩⟩);have h2:newRow t o (p++[(a:Int)])=false:=by simpa using h1
 unfold newRow at h2;obtain⟨q,hq,h3⟩:=D8.1 (jF.1 (of_decide_eq_false h2));rw[H.ext hp ha]at h3;unfold K8;exact cZ.2 (Or.inr (D8.2 ⟨q,hq,aV h3⟩))
def I7.mem(H:I7 t o){p:A2}(hp:p∈t.P):rowG t o p∈K8 t o:=by
 unfold K8;exact cZ.2 (Or.inr (D8.2 ⟨p,hp,rfl⟩))
def dP_none{a:Nat}{x y:Row}(hl:x.length=y.length)(h:dP a x y=none):x=y:=by
 have h1:=aK.1 h;apply nP;intro e;rcases L8 e x.length with he|he
 ·have hx:=get_at he;have:=h1 e _ hx;rw[J9]at this;split at this
  ·rename_i h2;rw[hx,h2]
  ·cases this
 ·rw[fM he,fM (by omega)]
def I7.cons(H:I7 t o){p q:A2}(hp:p∈t.P)(hq:q∈t.P)(h:rowG t o p=rowG t o q){a:Nat}(ha:a<t.I.toNat):rowG t o (p++[(a:Int)])=rowG t o (q++[(a:Int)]):=by
 have key:∀(i k:Nat) p q,i<k->t.P[i]?=some p->t.P[k]?=some q->rowG t o p=rowG t o q->rowG t o (p++[(a:Int)])=rowG t o (q++[(a:Int)]):=by
  intro i k p q a8 hp hq h;have a2:=H8 hp;have a3:=H8 hq;have h1:=aK.1 H.hi i p hp;rw[J9]at h1
  have a4:(t.P.drop (i+1))[k-(i+1)]?=some q:=by
   rw[W6,show i+1+(k-(i+1))=k by omega];exact hq
  have h2:=aK.1 h1 _ q a4;rw[if_pos (by rw[H.row a2,H.row a3,h])]at h2;have h3:=aK.1 h2 a a (bT ha);refine dP_none ?_ h3;rw[(iE H.hv (H.ext a2 ha)).1,(iE H.hv (H.ext a3 ha)).1]
 obtain⟨i,hi,rfl⟩:=Q4.1 hp;obtain⟨k,hk,rfl⟩:=Q4.1 hq;rcases eE i k with a7|a6|a5
 ·exact key i k _ _ a7 (get_at hi) (get_at hk) h
 ·subst a6;rfl
 ·exact(key k i _ _ a5 (get_at hk) (get_at hi) h.symm).symm
def stt(t:B8)(o:A6)(w:A2):Nat:=pos (rowG t o w) (K8 t o)
def rowsA_map:K8 t o=(fstI (J4 t o) t.P.length).map λi=>((J4 t o)[i]?).getD []:=by
 have:=yW (J4 t o) t.P.length (by simp[J4]);rw[X6 (by simp[J4])]at this;exact this
def rep_of{r:Row}(h:r∈K8 t o):∃i,(fstI (J4 t o) t.P.length)[pos r (K8 t o)]?=some i/\i<t.P.length/\M0 t i∈t.P/\rowG t o (M0 t i)=r:=by
 have h1:=jR h;have h2:=@rowsA_map t o;rw[h2,K5]at h1;rw[<- h2]at h1;obtain⟨i,hi,h3⟩:=eG.1 h1;have hm:=tP.1 (H8 hi);have hp:=get_at hm.1;have a2:M0 t i=t.P[i]:=by unfold M0;rw[hp];rfl
 refine⟨i,hi,hm.1,by rw[a2];exact H9 _,?_⟩;rw[a2,<- h3];unfold J4;rw[K5,hp];rfl
def I7.at(H:I7 t o){r:Row}(h:r∈K8 t o):∃q∈t.P,rowG t o q=r/\(hypT t o).M.N[pos r (K8 t o)]?=some (X7 t o q)/\(hypT t o).M.O[pos r (K8 t o)]?=some (outT t o q)/\(hypT t o).Access[pos r (K8 t o)]?=some q:=by
 obtain⟨i,hi,_,h2,h3⟩:=rep_of h;refine⟨M0 t i,h2,h3,?_,?_,?_⟩
 ·show((fstI (J4 t o) t.P.length).map λi=>X7 t o (M0 t i))[_]?=_;rw[K5,hi];rfl
 ·show((fstI (J4 t o) t.P.length).map λi=>outT t o (M0 t i))[_]?=_;rw[K5,hi];rfl
 ·show((fstI (J4 t o) t.P.length).map (M0 t))[_]?=_;rw[K5,hi];rfl
def yC{q:A2}{a:Nat}(ha:a<t.I.toNat):(X7 t o q)[a]?=some (↑(stt t o (q++[(a:Int)])):Int):=by
 unfold X7 stt;rw[K5,bT ha];rfl
def outT_at{q:A2}{a:Nat}(ha:a<t.I.toNat):(outT t o q)[a]?=some ((((rowG t o q)[a]?).getD []).headD 0):=by
 unfold outT;rw[K5,bT ha];rfl
def I7.sym(H:I7 t o){p:A2}(hp:p∈t.P){k:Nat}{x:Int}(hx:p[k]?=some x):0<=x/\x<t.I :=
 aB ((aL (X5 H.hz).1).1 p hp) x (H8 hx)
def I7.nil(H:I7 t o):t.P[0]?=some []:=by
 obtain⟨a2,_,_⟩:=X5 H.hz;obtain⟨_,_,hA,_,_,_,_,a4⟩:=Z9 a2;obtain⟨_,_,h0,_⟩:=aL a2;have hl:0<t.P.length:=sV.2 a4;obtain⟨j,hj,e⟩:=Q4.1 h0;rcases gR j with rfl|a3
 ·rw[get_at hj,e]
 ·have:=cmp_len (hA.get a3 (get_at hl) (get_at hj));rw[e]at this;have h2:=S9 (Nat.le_zero.1 this);rw[get_at hl,h2]
def I7.start(H:I7 t o):stt t o []=0:=by
 have h0:=H.nil;unfold stt K8
 have hp:J4 t o=rowG t o []::(J4 t o).drop 1:=by
  unfold J4;cases hP:t.P with
  |nil=>rw[hP]at h0;cases h0
  |cons p ps =>
   rw[hP]at h0;injection h0 with h0
   subst h0;rfl
 rw[hp];show pos (rowG t o []) (G6 (addR [] (rowG t o [])) _)=0;rw[yU (yD.2 (Or.inr rfl))];simp[addR,pos]
def I7.outs(H:I7 t o){p:A2}(hp:p∈t.P):∃ys,W2 (hypT t o).M 0 p=some (ys,(↑(stt t o p):Int)):=by
 have a9:=H.ht.pw p hp;have a3:=(X5 H.hz).1;unfold W2
 have key:=cW (step:=λ(s:Int×A2×Nat)=>W2.s2 (hypT t o).M p s.1 s.2.1 s.2.2) (λs=>s.2.2<=p.length/\s.1=(↑(stt t o (p.take s.2.2)):Int)/\s.2.1.length=s.2.2) (λs=>p.length-s.2.2) (λr=>r.1=(↑(stt t o p):Int)) (λs ⟨g1,g2,g3⟩=>by
  obtain⟨st,y,k⟩:=s
  simp only at g1 g2 g3
  subst g2
  simp only[W2.s2]
  by_cases g4:k<p.length
  ·left
   have hx:=get_at g4
   obtain⟨b0,b2⟩:=H.sym hp hx
   have a2:=uL a3 _ p hp k rfl (by omega)
   have a8:=uL a3 _ p hp (k+1) rfl (by omega)
   have a4:p[k]=((p[k].toNat:Nat):Int):=by omega
   have a6:p[k].toNat<t.I.toNat:=by omega
   obtain⟨q,hq,q1,q2,q3,_⟩:=H.at (H.mem a2)
   have q2:(hypT t o).M.N[stt t o (p.take k)]?=some (X7 t o q):=q2
   have q3:(hypT t o).M.O[stt t o (p.take k)]?=some (outT t o q):=q3
   have a5:=H.cons hq a2 q1 a6
   have a7:stt t o (q++[((p[k].toNat:Nat):Int)])=stt t o (p.take (k+1)):=by
    unfold stt
    rw[a5,L9 hx,<- a4]
   refine⟨((↑(stt t o (p.take (k+1))):Int),y++[(((rowG t o q)[p[k].toNat]?).getD []).headD 0],k+1),?_,⟨g4,rfl,by simp[g3]⟩,by simp only;omega⟩
   rw[I8 hx,D2,F9 rfl q3,C6 hx,F9 a4 (outT_at a6),eN,F9 rfl q2,C6 hx,F9 a4 (yC a6),a7]
  ·right
   have e:k=p.length:=by omega
   subst e
   rw[M4]
   exact⟨_,by rw[B5],rfl⟩) ((0:Int),[],0) ⟨F8 _,by simp[H.start],rfl⟩
 obtain⟨⟨st,ys⟩,e,hq⟩:=key;rw[e,A5];simp only at hq;subst hq;exact⟨ys,rfl⟩
def I7.num(H:I7 t o):(K8 t o).length=(fstI (J4 t o) t.P.length).length/\0<(K8 t o).length/\(K8 t o).length<=128:=by
 have h1:=@rowsA_map t o;have h2:=tI (J4 t o) t.P.length;have h3:=H.h128;have h4:(K8 t o).length=(fstI (J4 t o) t.P.length).length:=by rw[h1,E1]
 have h5:rowG t o []∈K8 t o:=H.mem (H8 H.nil);have h6:=HI h5;omega
def I7.nlen(H:I7 t o):(hypT t o).M.N.length=(K8 t o).length/\(hypT t o).M.O.length=(K8 t o).length/\(hypT t o).Access.length=(K8 t o).length:=by
 have:=H.num.1;unfold hypT;simp only[E1];omega
def I7.state(H:I7 t o){s:Nat}(hs:s<(K8 t o).length):∃q∈t.P,stt t o q=s/\(hypT t o).M.N[s]?=some (X7 t o q)/\(hypT t o).M.O[s]?=some (outT t o q)/\(hypT t o).Access[s]?=some q:=by
 have hm:=H9 hs
 have a2:pos (K8 t o)[s] (K8 t o)=s:=by
  -- the rows are all different
  have a4:∀(rs R:List Row),R.Nodup->(G6 R rs).Nodup:=by
   intro rs
   induction rs with
   |nil=>intro R h;exact h
   |cons r rs ih =>
    intro R h;show(G6 (addR R r) rs).Nodup;refine ih _ ?_;unfold addR;split
    ·exact h
    ·rename_i hn;rw[aF]
     exact⟨h,by simp,λx hx y hy=>by
      rw[K2.1 hy]
      exact λe=>hn (e ▸ hx)⟩
  have hN:(K8 t o).Nodup:=a4 _ _ gP;have h1:=jR hm;have h2:=pos_lt hm;have h3:=get_at h2;rw[h1]at h3;injection h3 with h3
  rcases eE (pos (K8 t o)[s] (K8 t o)) s with a6|a5|a3
  ·exact absurd h3.symm (V8.1 hN _ _ h2 hs a6)
  ·exact a5
  ·exact absurd h3 (V8.1 hN _ _ hs h2 a3)
 obtain⟨q,hq,q1,q2,q3,q4⟩:=H.at hm;rw[a2]at q2 q3 q4;exact⟨q,hq,by unfold stt;rw[q1,a2],q2,q3,q4⟩
def I7.out_rng(H:I7 t o){q:A2}(hq:q∈t.P){a:Nat}(ha:a<t.I.toNat):0<=((((rowG t o q)[a]?).getD []).headD 0)/\((((rowG t o q)[a]?).getD []).headD 0)<=1048576:=by
 obtain⟨a2,_,_⟩:=X5 H.hz;obtain⟨_,_,_,a4,a3,_⟩:=Z9 a2;obtain⟨_,_,_,a6⟩:=aL a2;obtain⟨y,z,y1,y2,y3⟩:=row_out H.hv (H.row hq) (yX a4 a6 a3 a ha);rw[y1];show 0<=y/\y<=1048576;have hy:y∈z:=V7 (by rw[y3];simp);unfold ansO at y2;split at y2
 ·injection y2 with y2
  subst y2;cases hy
 ·obtain⟨tr,a5,rfl⟩:=eG.1 y2;exact(H.hv.prop tr (dE a5)).1.2.2 y (Q1 hy)
def I7.row_valid(H:I7 t o){s:Nat}(hs:s<(K8 t o).length):aU (hypT t o).M (s:Int)=some 0:=by
 have hn:=H.ht.n;have a4:1<=t.I:=(Z9 (X5 H.hz).1).1;obtain⟨q,hq,_,q2,q3,_⟩:=H.state hs;have a5:(X7 t o q).length=t.I.toNat:=by simp[X7]
 have a3:(outT t o q).length=t.I.toNat:=by simp[outT]
 have hI:(hypT t o).M.I=t.I:=rfl;have a2:=H.num;unfold aU;rw[hI,F9 rfl q2,B5,F9 rfl q3,E2 (by omega),A5,D6]
 have key:=O4 (step:=λa=>aU.s2 (hypT t o).M (s:Int) a) (r:=.inl ()) (λa=>a<=t.I.toNat) (λa=>t.I.toNat-a) (λa g1=>by
  simp only[aU.s2]
  rw[hI]
  by_cases g2:a<t.I.toNat
  ·left
   have a6:stt t o (q++[(a:Int)])<(K8 t o).length:=pos_lt (H.closed hq g2)
   obtain⟨o1,o2⟩:=H.out_rng hq g2
   refine⟨a+1,?_,by omega,by omega⟩
   rw[C9,F9 rfl q2,C6 (yC g2),B5,F9 rfl q2,C6 (yC g2),H.nlen.1,B5,F9 rfl q3,C6 (outT_at g2),B5,F9 rfl q3,C6 (outT_at g2),E2 (by omega),A5,D6,K1]
  ·right
   have e:a=t.I.toNat:=by omega
   subst e
   rw[B5]) (n:=fuel) (s:=0) (F8 _)
 rw[key,A5];rfl
def I7.valid6(H:I7 t o):S4 (hypT t o).M=some 0:=by
 have hn:=H.ht.n;have a2:1<=t.I:=(Z9 (X5 H.hz).1).1;have hI:(hypT t o).M.I=t.I:=rfl;have hS:(hypT t o).M.S=0:=rfl;obtain⟨l1,l2,l3⟩:=H.nlen;obtain⟨_,n1,n2⟩:=H.num;unfold S4;rw[hI,hS,l1,l2,B5,E2 (by omega),A5,D6,B5,B5,B5,E2 (by omega),A5,D6,B5]
 have key:=Q2 (step:=λs=>S4.s2 (hypT t o).M s) (l:=(hypT t o).M.N) (λ_ _=>(none:Option Int)) (λi x hx=>by
  have hi:=(G4.1 hx).1
  simp only[S4.s2]
  rw[I8 hx,D2,H.row_valid (by omega),A5]
  rfl) (by
  simp only[S4.s2]
  rw[N7]
  rfl) (by omega)
 rw[key,A5,aK.2 λi x _=>rfl];rfl
def I7.valid22(H:I7 t o):eY (hypT t o)=some 0:=by
 have hn:=H.ht.n;have hI:(hypT t o).M.I=t.I:=rfl;have hS:(hypT t o).M.S=0:=rfl;obtain⟨l1,l2,l3⟩:=H.nlen;obtain⟨_,n1,n2⟩:=H.num;have a2:=(X5 H.hz).1;unfold eY;rw[H.valid6,A5,B5 (by simp),l1,l3,B5]
 have key:=Q2 (step:=λs=>eY.s2 (hypT t o) s) (l:=(hypT t o).Access) (λ_ _=>(none:Option Int)) (λi x hx=>by
  have hi:=(G4.1 hx).1
  obtain⟨q,hq,q1,_,_,q4⟩:=H.state (s:=i) (by omega)
  rw[hx]at q4
  injection q4 with q4
  subst q4
  have a6:=H.ht.pw x hq
  obtain⟨ys,a5⟩:=H.outs hq
  simp only[eY.s2]
  rw[I8 hx,D2,C6 hx,kJ _ _ (by unfold SmW;omega),hI,(aL a2).1 x hq,A5,hS,a5]
  simp[q1]) (by
  simp only[eY.s2]
  rw[N7]
  rfl) (by omega)
 obtain⟨q,hq,q1,_,_,q4⟩:=H.state (s:=0) n1
 have a4:(hypT t o).Access[0]?=some []:=by
  have h5:rowG t o []∈K8 t o:=H.mem (H8 H.nil)
  -- the first state's prefix is the first prefix
  have a3:(fstI (J4 t o) t.P.length)[0]?=some 0:=by
   have hl:0<t.P.length:=(G4.1 H.nil).1
   have h1:newAt (J4 t o) 0=true:=by
    unfold newAt J4;rw[K5,H.nil];simp
   unfold fstI;obtain⟨k,hk⟩:∃k,t.P.length=k+1:=⟨t.P.length-1,by omega⟩;rw[hk,List.range_succ_eq_map,xB h1];rfl
  show((fstI (J4 t o) t.P.length).map (M0 t))[0]?=_;rw[K5,a3];show some (M0 t 0)=_;unfold M0;rw[H.nil];rfl
 rw[key,A5,aK.2 λi x _=>rfl];simp only[aO];rw[hS,F9 (n:=0) (i:=0) rfl a4];rfl
end
end
section
def CP:∀{u a b:A2},u <+: a->u <+: b->u.length<=E9 a b
 |[],_,_,_,_=>F8 _
 |x::u,a,b,⟨v,hv⟩,⟨w,hw⟩=>by
  subst hv;subst hw;have:=CP (u:=u) (a:=u++v) (b:=u++w) ⟨v,rfl⟩ ⟨w,rfl⟩;show u.length+1<=E9 (x::(u++v)) (x::(u++w));simp only[E9,if_true];omega
def vE{V:Type}{l:List V}{i j:Nat}(h:i<=j):(l.take j).take i=l.take i:=by
 rw[lA,mF h]
def agree_all{o:A6}(hv:I6 o){a b:A8}(ha:a∈o.T)(hb:b∈o.T):Agree a b\/Agree b a:=by
 obtain⟨i,hi,rfl⟩:=Q4.1 ha;obtain⟨j,hj,rfl⟩:=Q4.1 hb;rcases eE i j with h|h|h
 ·exact Or.inl (hv.apart i j _ _ h (get_at hi) (get_at hj)).2
 ·subst h;exact Or.inl rfl
 ·exact Or.inr (hv.apart j i _ _ h (get_at hj) (get_at hi)).2
def ansO_pre{o:A6}(hv:I6 o){u v r:A2}(h:ansO o (u++v)=some r):ansO o u=some (r.take u.length):=by
 unfold ansO at h ⊢;by_cases h0:u=[]
 ·subst h0;simp
 ·rw[if_neg (by simp[h0])]at h;rw[if_neg h0];obtain⟨a,ha,rfl⟩:=eG.1 h;have a3:=dE ha;have a5:u++v <+: a.In:=by simpa using mE ha
  have a2:u <+: a.In:=(HP u v).trans a5;cases hb:o.T.find? λt=>decide (u <+: t.In) with
  |none =>
   have:=pX.1 hb a a3;simp[a2]at this
  |some b =>
   have a6:=dE hb;have a4:u <+: b.In:=by simpa using mE hb
   show some (b.O.take u.length)=some ((a.O.take (u++v).length).take u.length);rw[vE (by rw[D7];omega)];congr 1;rcases agree_all hv a3 a6 with h1|h1
   ·have h2:=CP a2 a4;unfold Agree at h1;rw[<- vE h2,<- h1,vE h2]
   ·have h2:=CP a4 a2;unfold Agree at h1;rw[<- vE h2,h1,vE h2]
def tailA(o:A6)(w e:A2):A2:=((ansO o (w++e)).getD []).drop w.length
def tailA_nil{o:A6}(hv:I6 o)(w:A2):tailA o w []=[]:=by
 unfold tailA;rw[S5];cases h:ansO o w with
 |none=>simp
 |some r =>
  rw[Q3,CH (by rw[iF hv h];exact H4 _)]
def rowO_at{o:A6}{w:A2}{S:A3}{r:Row}(h:rowO o w S=some r){i:Nat}{e:A2}(he:S[i]?=some e):r[i]?=some (tailA o w e):=by
 obtain⟨x,x1,x2⟩:=oF h i e he;rw[x2];unfold tailA;rw[x1];rfl
def ans_split{o:A6}(hv:I6 o){w e r:A2}(hw:ansO o w=some r)(h:ansO o (w++e)≠none):ansO o (w++e)=some (r++tailA o w e):=by
 cases hr:ansO o (w++e) with
 |none=>exact absurd hr h
 |some z =>
  have h1:=ansO_pre hv hr;rw[hw]at h1;injection h1 with h1
  unfold tailA;rw[hr,h1,Q3,sX]
section
variable {t:B8}{o:A6}
def I7.mac(H:I7 t o):N0 (hypT t o).M:=macOk_of H.valid6
def I7.sing(H:I7 t o){a:Nat}(ha:a<t.I.toNat):t.X[a]?=some [(a:Int)]:=by
 have a2:=(X5 H.hz).1;obtain⟨_,_,_,a4,a3,_⟩:=Z9 a2;obtain⟨_,_,_,a5⟩:=aL a2;exact yX a4 a5 a3 a ha
def I7.nx_ot(H:I7 t o){p:A2}(hp:p∈t.P){a:Nat}(ha:a<t.I.toNat):nx (hypT t o).M (stt t o p) a=stt t o (p++[(a:Int)])/\tailA o p [(a:Int)]=[ot (hypT t o).M (stt t o p) a]:=by
 obtain⟨q,hq,q1,q2,q3,_⟩:=H.at (H.mem hp);have q2:(hypT t o).M.N[stt t o p]?=some (X7 t o q):=q2;have q3:(hypT t o).M.O[stt t o p]?=some (outT t o q):=q3;constructor
 ·unfold nx;rw[q2,Q3,yC ha,Q3,P0];unfold stt;rw[H.cons hq hp q1 ha]
 ·obtain⟨y,z,y1,y2,y3⟩:=row_out H.hv (H.row hp) (H.sing ha);unfold ot;rw[q3,Q3,outT_at ha,Q3,q1,y1];unfold tailA;rw[y2,Q3,y3];rfl
def I7.rep(H:I7 t o){p:A2}(hp:p∈t.P){a:Nat}(ha:a<t.I.toNat):∃q∈t.P,rowG t o q=rowG t o (p++[(a:Int)])/\stt t o q=stt t o (p++[(a:Int)]):=by
 obtain⟨q,hq,q1,_⟩:=H.at (H.closed hp ha);exact⟨q,hq,q1,by unfold stt;rw[q1]⟩
def I7.walk(H:I7 t o):∀(k:Nat) (p:A2),p.length=k->p∈t.P->ansO o p=some (Sym.outs (hypT t o).M 0 p)/\dest (hypT t o).M 0 p=stt t o p:=by
 intro k
 induction k with
 |zero =>
  intro p hl _;have e:=S9 hl;subst e;exact⟨rfl,H.start.symm⟩
 |succ k ih =>
  intro p hl hp;have a7:=(X5 H.hz).1;have a2:=uL a7 _ p hp k rfl (by omega);have hx:=get_at (l:=p) (i:=k) (by omega);obtain⟨x0,x1⟩:=H.sym hp hx
  have a3:p=p.take k++[p[k]'(by omega)]:=by
   rw[<- L9 hx,<- hl,M4]
  have a6:(p[k]'(by omega)).toNat<t.I.toNat:=by omega
  have a5:(p[k]'(by omega))=(((p[k]'(by omega)).toNat:Nat):Int):=by omega
  obtain⟨i1,i2⟩:=ih (p.take k) (by rw[H6];omega) a2;obtain⟨n1,n2⟩:=H.nx_ot a2 a6;rw[<- a5,<- a3]at n1;rw[<- a5]at n2;have a4:=H8 (H.sing a6);rw[<- a5]at a4;have hs:=ans_split H.hv i1 (rowO_ans (H.row a2) _ a4);rw[n2,<- a3]at hs;constructor
  ·rw[hs]
   conv=>rhs;rw[a3,iL,i2]
   rfl
  ·conv=>lhs;rw[a3,kG,i2]
   show nx (hypT t o).M (stt t o (p.take k)) _=_;rw[n1]
def dV(a b:A2):[a,b].flatten=a++b:=by simp
end
end

section
def stepT(t:B8)(o:A6):B8×A3×Bool×Int :=
 if chkT t o≠0 then(t,[],false,chkT t o)
 else if L1 o t t.P≠[] then(t,maxR (L1 o t t.P),false,0)
 else match (extL t).find? (newRow t o) with
  |some w=>((eT t w).1,[],false,(eT t w).2)
  |none=>match iP t o with
   |some x=>((eQ t (toW t x)).1,[],false,(eQ t (toW t x)).2)
   |none=>(t,[],true,0)
section
variable {t:B8}{o:A6}
def compT_of(h1:chkT t o=0)(h2:L1 o t t.P=[]):Q8 t o=0:=by
 unfold Q8;rw[if_neg (by simpa using h1),if_pos h2]
def toW_len(ht:K7 t)(x:Int×Int×Bool):(toW t x).length<=81:=by
 unfold toW;cases h2:t.X[x.2.1.toNat]? with
 |none=>simp
 |some e =>
  have:=ht.sw e (H8 h2);simp;omega
def qI{l:A3}(h:l≠[]):(0:Int)<(l.length:Int):=by
 have:=sV.2 h;omega
def R24_Step_eq(ht:K7 t)(ho:SmO o)(hv:I6 o):tM t o=some (stepT t o):=by
 have hp:=ht.p;have hs:=ht.s;unfold tM;rw[JH ht ho hv,A5];unfold stepT;by_cases h1:chkT t o=0
 ·rw[if_neg (by simpa using h1),if_neg (by simpa using h1)];by_cases h2:L1 o t t.P=[]
  ·rw[if_neg (by simpa using h2),mX.2 h2];have hz:=compT_of h1 h2;simp only[ne_eq,not_true_eq_false,decide_false,D6,V5,GO,wW,BX];rw[A5,D6,KG ht ho hv];unfold unclT;rw[if_neg (by simpa using hz)];cases hf:(extL t).find? (newRow t o) with
   |some w =>
    obtain⟨w1,w2⟩:=zq45 ht (dE hf);simp only[A5,D2];rw[R23_Prefix_eq ht.sm (by omega) w2 (by omega)];rfl
   |none =>
    simp only[A5,D6];rw[LJ ht ho hv];unfold incT;rw[if_neg (by simpa using hz)];cases hi:iP t o with
    |some x =>
     have:=toW_len ht x;simp only[A5,D2];rw[R23_Suffix_eq ht.sm (by omega) (by omega)];rfl
    |none=>rfl
  ·rw[if_pos h2,B5 (by simp),D3 (qI λh=>h2 (mX.1 h))];rfl
 ·rw[if_pos h1,if_pos h1,D3 h1];rfl
structure Kept(t u:B8):Prop where
 p:∀x∈t.P,x∈u.P
 s:∀x∈t.X,x∈u.X
 i:t.I=u.I
def maxR_need_sml(hT:K7 t):SmL (maxR (L1 o t t.P)):=by
 refine⟨?_,λx hx=>?_⟩
 ·have h4:=zq16 (L1 o t t.P)
  have hb:∀P:A3,(L1 o t P).length<=3000*P.length:=by
   intro P
   induction P with
   |nil=>simp[L1]
   |cons p P ih =>
    unfold L1 at ih ⊢;rw[P1,D7,H7]
    have hw:((N6 t.I.toNat p).flatMap λw=>J5 o w t.X).length<=600*(N6 t.I.toNat p).length:=by
     generalize N6 t.I.toNat p=X
     induction X with
     |nil=>simp
     |cons w X ih2 =>
      have:=jW o w t.X;have:=hT.s;rw[P1,D7,H7];omega
    have a2:(N6 t.I.toNat p).length=t.I.toNat+1:=by simp[N6]
    have:=hT.n;rw[a2]at hw;omega
  have:=hb t.P;have:=hT.p;omega
 ·have hx:=yF hx;unfold L1 at hx;obtain⟨p,a3,h2⟩:=L6.1 hx;obtain⟨u,hu,h3⟩:=L6.1 h2;obtain⟨⟨e,he,rfl⟩,_⟩:=cY.1 h3;have h4:=hT.pw p a3;have h5:=hT.sw e he
  have h6:u.length<=401:=by
   unfold N6 at hu;rcases I2.1 hu with rfl|hu
   ·omega
   ·obtain⟨a,_,rfl⟩:=D8.1 hu;simp;omega
  unfold SmW;rw[D7];omega
structure StepSm(r:B8×A3×Bool×Int):Prop where
 p:SmL r.1.P
 s:SmL r.1.X
 w:SmL r.2.1
structure StepOk(t:B8)(o:A6)(r:B8×A3×Bool×Int):Prop where
 p:SmL r.1.P
 s:SmL r.1.X
 w:SmL r.2.1
 k:Kept t r.1
 n:t.P.length+t.X.length<=r.1.P.length+r.1.X.length
 d:r.2.2.1=true->r.2.2.2=0/\(hypR t o).2=0
end
end
section
def trow(m:B7)(S:A3)(w:A2):Row:=S.map λe=>outs m (dest m m.S.toNat w) e
def KnS(o:A6)(S:A3)(w:A2):Prop:=∀e∈S,Kn o (w++e)
section
variable {m:B7}{o:A6}{S:A3}{w:A2}
def rZ(hE:Expl m o){e:A2}(h:Kn o (w++e)):tailA o w e=outs m (dest m m.S.toNat w) e:=by
 unfold tailA;rw[(lH hE).1 h,Q3,iL,xK (by rw[cX];exact H4 _),jG (by rw[cX];exact H4 _),Y9]
def nA(hE:Expl m o):∀(S:A3),(KnS o S w->rowO o w S=some (trow m S w))/\(∀R,rowO o w S=some R->KnS o S w)
 |[]=>⟨λ_=>rfl,λR _ e he=>by cases he⟩
 |e::S=>by
  obtain⟨h1,h2⟩:=nA hE S;constructor
  ·intro h;have hk:=h e (by simp);unfold rowO;rw[(lH hE).1 hk,h1 λx hx=>h x (by simp[hx])];simp only[L5,trow,L0];congr 2;rw[iL,xK (by rw[cX];exact H4 _),jG (by rw[cX];exact H4 _),Y9]
  ·intro R hR x hx;unfold rowO at hR;by_cases hk:Kn o (w++e)
   ·rw[(lH hE).1 hk]at hR;simp only at hR;cases hr:rowO o w S with
    |none=>rw[hr]at hR;cases hR
    |some R' =>
     rcases I2.1 hx with g|g
     ·rw[g];exact hk
     ·exact h2 R' hr x g
   ·rw[(lH hE).2 hk]at hR;cases hR
def rowO_is(hE:Expl m o){R:Row}(h:rowO o w S=some R):R=trow m S w:=by
 have:=(nA hE S).1 ((nA hE S).2 R h);rw[this]at h;injection h with h
 exact h.symm
def oC(hE:Expl m o)(h:J5 o w S=[]):KnS o S w:=λe he=>Q5 λg=>by
 have h1:=(lH hE).2 g;have:w++e∈J5 o w S:=cY.2 ⟨⟨e,he,rfl⟩,h1⟩;rw[h]at this;cases this
def kn_miss(hE:Expl m o)(h:KnS o S w):J5 o w S=[]:=by
 unfold J5;refine List.filter_eq_nil_iff.2 λv hv hn=>?_;obtain⟨e,he,rfl⟩:=D8.1 hv;rw[(lH hE).1 (h e he)]at hn;cases hn
def Split2(m:B7)(S P:A3):Prop:=∃p∈P,∃q∈P,trow m S p=trow m S q/\∃a:Nat,(a:Int)<m.I/\trow m S (p++[(a:Int)])≠trow m S (q++[(a:Int)])
def Split2.mono{P Q:A3}(h:Split2 m S P)(hs:∀x∈P,x∈Q):Split2 m S Q:=by
 obtain⟨p,hp,q,hq,h1,h2⟩:=h;exact⟨p,hs p hp,q,hs q hq,h1,h2⟩
def oB{p q:A2}(h:trow m S p=trow m S q){e:A2}(he:e∈S):outs m (dest m m.S.toNat p) e=outs m (dest m m.S.toNat q) e:=by
 unfold trow at h;exact List.map_inj_left.1 h e he
def lM(w:A2)(a:Int):dest m m.S.toNat (w++[a])=nx m (dest m m.S.toNat w) a.toNat:=by
 rw[kG];rfl
def eW(s:Nat)(a:Int)(w:A2):outs m s (a::w)=ot m s a.toNat::outs m (nx m s a.toNat) w:=rfl
end
def qV{V:Type}[DecidableEq V]:∀{l k:List V},l.Nodup->(∀x∈l,x∈k)->l.length<=k.length
 |[],_,_,_=>F8 _
 |x::l,k,h,hs=>by
  have hx:=hs x (by simp);have hn:=dZ.1 h;have:=qV (l:=l) (k:=k.erase x) hn.2 λy hy=>(List.mem_erase_of_ne (λe=>hn.1 (by rw[<- e];exact hy))).2 (hs y (by simp[hy]));rw[MK hx]at this;have hp:0<k.length:=HI hx;simp only[H7];omega
def EK{V:Type}{P Q:V->Bool}:∀{l:List V},(∀x∈l,P x=true->Q x=true)->(l.filter P).length<=(l.filter Q).length/\((∃x∈l,Q x=true/\P x=false)->(l.filter P).length+1<=(l.filter Q).length)
 |[],_=>⟨H4 _,λ⟨x,hx,_⟩=>by cases hx⟩
 |y::l,h=>by
  obtain⟨h1,h2⟩:=EK (l:=l) λx hx=>h x (by simp[hx]);have hy:=h y (by simp);constructor
  ·rw[nN,nN];cases hP:P y with
   |true =>
    rw[hy hP];simp only[if_true,H7];omega
   |false =>
    rw[if_neg W5];split
    ·simp only[H7];omega
    ·exact h1
  ·rintro⟨x,hx,hq,hp⟩;rw[nN,nN];rcases I2.1 hx with e|e
   ·subst e;rw[hp,hq];simp only[if_true,H7,if_neg W5];omega
   ·have h3:=h2 ⟨x,e,hq,hp⟩;cases hP:P y with
    |true =>
     rw[hy hP];simp only[if_true,H7];omega
    |false =>
     rw[if_neg W5];split
     ·simp only[H7];omega
     ·exact h3
def bG(n:Nat)(S P:A3):A3:=P.flatMap λp=>(N6 n p).flatMap λw=>S.map λe=>w++e
def dW{n:Nat}{S P:A3}{v:A2}:v∈bG n S P↔∃p∈P,∃w∈N6 n p,∃e∈S,w++e=v:=by
 unfold bG;simp only[L6,D8]
def mem_needL{o:A6}{t:B8}{P:A3}{v:A2}:v∈L1 o t P↔v∈bG t.I.toNat t.X P/\ansO o v=none:=by
 unfold L1;rw[dW];constructor
 ·intro h;obtain⟨p,hp,h⟩:=L6.1 h;obtain⟨w,hw,h⟩:=L6.1 h;obtain⟨⟨e,he,h1⟩,h2⟩:=cY.1 h;exact⟨⟨p,hp,w,hw,e,he,h1.symm⟩,h2⟩
 ·rintro⟨⟨p,hp,w,hw,e,he,h1⟩,h2⟩;exact L6.2 ⟨p,hp,L6.2 ⟨w,hw,cY.2 ⟨⟨e,he,h1.symm⟩,h2⟩⟩⟩
def maxR_up{l:A3}(L:Nat)(hL:∀x∈l,x.length<=L):∀(k:Nat) (v:A2),v∈l->L-v.length<=k->∃y∈maxR l,v <+: y
 |k,v,hv,hk=>by
  by_cases h:∀y∈l,y=v\/¬v <+: y
  ·exact⟨v,(ER l v).2 ⟨hv,h⟩,eC _⟩
  ·have:∃y∈l,y≠v/\v <+: y:=Q5 λhn=>h λy hy=>Q5 λhn2=>hn ⟨y,hy,λe=>hn2 (.inl e),Q5 λe=>hn2 (.inr e)⟩;obtain⟨y,hy,hne,hp⟩:=this
   have hlt:v.length<y.length:=by
    rcases L8 v.length y.length with g|g
    ·exact g
    ·have:=hp.length_le;exact absurd (hp.eq_of_length (by omega)).symm hne
   have:=hL y hy;cases k with
   |zero=>omega
   |succ k =>
    obtain⟨z,hz,a2⟩:=maxR_up L hL k y hy (by omega);exact⟨z,hz,hp.trans a2⟩
def kA{w:A2}{n:Int}(hn:1<=n/\n<=1024)(hw:WOk n w)(hl:w.length<=1024):H1 w n=0:=by
 unfold H1;rw[if_pos hn,if_neg (by omega),if_pos (O0.2 λx hx=>D3 (hw x hx))]
end
section
def addR_nodup{R:List Row}(h:R.Nodup)(r:Row):(addR R r).Nodup:=by
 unfold addR;split
 ·exact h
 ·rename_i g;rw[aF];exact⟨h,by simp,λa ha b hb e=>g (by rw[K2.1 hb]at e;rw[<- e];exact ha)⟩
def EN:∀(rs R:List Row),R.Nodup->(G6 R rs).Nodup
 |[],_,h=>h
 |r::rs,R,h=>EN rs (addR R r) (addR_nodup h r)
def mem_all{rs:List Row}{x:Row}:x∈G6 [] rs↔x∈rs:=by rw[cZ];simp
def kN(m:B7)(S P:A3):Nat:=(G6 [] (P.map (trow m S))).length
def map_reps{V G:Type}{f:V->G}{P:List V}:∀(L:List G),(∀r∈L,r∈P.map f)->∃Q:List V,(∀q∈Q,q∈P)/\Q.map f=L
 |[],_=>⟨[],λ_ h=>(by cases h),rfl⟩
 |r::L,h=>by
  obtain⟨Q,h1,h2⟩:=map_reps L λx hx=>h x (K3 _ hx);obtain⟨p,hp,e⟩:=D8.1 (h r aP);refine⟨p::Q,λq hq=>?_,by rw[L0,e,h2]⟩;rcases I2.1 hq with rfl|hq
  ·exact hp
  ·exact h1 q hq
section
variable {m:B7}{S S' P P':A3}
def kN_reps(m:B7)(S P:A3):∃Q:A3,(∀q∈Q,q∈P)/\(Q.map (trow m S)).Nodup/\Q.length=kN m S P/\∀p∈P,∃q∈Q,trow m S q=trow m S p:=by
 obtain⟨Q,h1,h2⟩:=map_reps (f:=trow m S) (P:=P) (G6 [] (P.map (trow m S))) λr hr=>mem_all.1 hr;refine⟨Q,h1,by rw[h2];exact EN _ _ gP,by unfold kN;rw[<- h2,E1],λp hp=>?_⟩;have:trow m S p∈Q.map (trow m S):=by rw[h2];exact mem_all.2 (D8.2 ⟨p,hp,rfl⟩)
 obtain⟨q,hq,e⟩:=D8.1 this;exact⟨q,hq,e⟩
def kN_ge{Q:A3}(h1:(Q.map (trow m S)).Nodup)(h2:∀q∈Q,q∈P):Q.length<=kN m S P:=by
 have:=qV (k:=G6 [] (P.map (trow m S))) h1 λx hx=>by
  obtain⟨q,hq,rfl⟩:=D8.1 hx;exact mem_all.2 (D8.2 ⟨q,h2 q hq,rfl⟩)
 rw[E1]at this;exact this
def kN_le(H:N0 m)(hP:∀p∈P,WOk m.I p):kN m S P<=m.N.length:=by
 have a2:=H.st
 have:=qV (l:=G6 [] (P.map (trow m S))) (k:=(List.range m.N.length).map λs=>S.map λe=>outs m s e) (EN _ _ gP) λx hx=>by
  obtain⟨p,hp,rfl⟩:=D8.1 (mem_all.1 hx);exact D8.2 ⟨dest m m.S.toNat p,M8.2 (H.dest (hP p hp) (by omega)),rfl⟩
 rw[E1,aE]at this;exact this
def trow_sub{p q:A2}(hs:∀e∈S,e∈S')(h:trow m S' p=trow m S' q):trow m S p=trow m S q:=nV λe he=>oB h (hs e he)
def zq33{Q:A3}(hs:∀e∈S,e∈S')(h:(Q.map (trow m S)).Nodup):(Q.map (trow m S')).Nodup:=by
 rw[List.nodup_iff_pairwise_ne,sS]at h ⊢;exact h.imp λ{a b} hne e=>hne (trow_sub hs e)
def kN_mono(hP:∀p∈P,p∈P')(hs:∀e∈S,e∈S'):kN m S P<=kN m S' P':=by
 obtain⟨Q,h1,h2,h3,_⟩:=kN_reps m S P;rw[<- h3];exact kN_ge (zq33 hs h2) λq hq=>hP q (h1 q hq)
def kN_new{w:A2}(hP:∀p∈P,p∈P')(hw:w∈P')(hn:∀p∈P,trow m S p≠trow m S w):kN m S P+1<=kN m S P':=by
 obtain⟨Q,h1,h2,h3,_⟩:=kN_reps m S P
 have:=kN_ge (m:=m) (S:=S) (P:=P') (Q:=w::Q) (by
  rw[L0,dZ]
  exact⟨λh=>by
   obtain⟨q,hq,e⟩:=D8.1 h
   exact hn q (h1 q hq) e,h2⟩) λq hq=>by
  rcases I2.1 hq with rfl|hq
  ·exact hw
  ·exact hP q (h1 q hq)
 rw[H7,h3]at this;exact this
def kN_split{p q:A2}(hp:p∈P)(hq:q∈P)(hs:∀e∈S,e∈S')(he:trow m S p=trow m S q)(hn:trow m S' p≠trow m S' q):kN m S P+1<=kN m S' P:=by
 obtain⟨Q,h1,h2,h3,h4⟩:=kN_reps m S P;obtain⟨r,hr,er⟩:=h4 p hp
 have key:∀x∈P,trow m S x=trow m S r->trow m S' x≠trow m S' r->kN m S P+1<=kN m S' P:=λx hx ex nx=>by
  have:=kN_ge (m:=m) (S:=S') (P:=P) (Q:=x::Q) (by
   rw[L0,dZ]
   refine⟨λh=>?_,zq33 hs h2⟩
   obtain⟨y,hy,e⟩:=D8.1 h
   have e2:=trow_sub hs e
   obtain⟨i,hi,rfl⟩:=xH hy
   obtain⟨j,hj,rfl⟩:=xH hr
   have a2:i=j:=by
    have:=(List.getElem_inj (h₀:=by rw[E1];exact hi) (h₁:=by rw[E1];exact hj) h2).1 (by rw[GV,GV,e2,ex])
    exact this
   subst a2
   exact nx e.symm) λy hy=>by
   rcases I2.1 hy with rfl|hy
   ·exact hx
   ·exact h1 y hy
  rw[H7,h3]at this;exact this
 by_cases g:trow m S' p=trow m S' r
 ·exact key q hq (he.symm.trans er.symm) λh=>hn (g.trans h.symm)
 ·exact key p hp er.symm g
def rows_old(hP:∀p∈P,p∈P')(hk:kN m S P'<=kN m S P){w:A2}(hw:w∈P'):∃p∈P,trow m S p=trow m S w:=Q5 λg=>by
 have:=kN_new (m:=m) (S:=S) hP hw λp hp e=>g ⟨p,hp,e⟩;omega
end
section
variable {m:B7}{t:B8}{o:A6}
def I7.true_(H:I7 t o)(T:P5 m o){w:A2}(h:∃r,rowO o w t.X=some r):rowG t o w=trow m t.X w:=by
 obtain⟨r,hr⟩:=h;have:=rowO_is T.ex hr;rw[<- this];exact aV hr
def I7.row_t(H:I7 t o)(T:P5 m o){p:A2}(hp:p∈t.P):rowG t o p=trow m t.X p:=H.true_ T ⟨_,H.row hp⟩
def I7.ext_t(H:I7 t o)(T:P5 m o){p:A2}(hp:p∈t.P){a:Nat}(ha:a<t.I.toNat):rowG t o (p++[(a:Int)])=trow m t.X (p++[(a:Int)]):=H.true_ T ⟨_,H.ext hp ha⟩
def I7.stt_row(H:I7 t o)(T:P5 m o){p:A2}(hp:p∈t.P):stt t o p=pos (trow m t.X p) (K8 t o):=by unfold stt;rw[H.row_t T hp]
def I7.ot_t(H:I7 t o)(T:P5 m o){p:A2}(hp:p∈t.P){a:Nat}(ha:a<t.I.toNat):ot (hypT t o).M (stt t o p) a=ot m (dest m m.S.toNat p) a:=by
 have h1:=(H.nx_ot hp ha).2;have hs:[(a:Int)]∈t.X:=H8 (H.sing ha);have hk:Kn o (p++[(a:Int)]):=(nA T.ex t.X).2 _ (H.row hp) _ hs;rw[rZ T.ex hk]at h1
 have h2:Sym.outs m (dest m m.S.toNat p) [(a:Int)]=[ot m (dest m m.S.toNat p) a]:=by
  show [ot m (dest m m.S.toNat p) (Int.toNat (a:Int))]=_;rw[P0]
 rw[h2]at h1;injection h1 with h1
 exact h1.symm
def I7.nx_t(H:I7 t o)(T:P5 m o){p:A2}(hp:p∈t.P){a:Nat}(ha:a<t.I.toNat):nx (hypT t o).M (stt t o p) a=pos (trow m t.X (p++[(a:Int)])) (K8 t o):=by
 rw[(H.nx_ot hp ha).1];unfold stt;rw[H.ext_t T hp ha]
def ctx_pre(H:I7 t o)(T:P5 m o)(hi:t.I=m.I){P':A3}(hP:∀p∈t.P,p∈P')(hk:kN m t.X P'<=kN m t.X t.P)
  (hc:∀p∈P',∀q∈P',trow m t.X p=trow m t.X q->∀a:Nat,a<m.I.toNat->trow m t.X (p++[(a:Int)])=trow m t.X (q++[(a:Int)])) :
  ∀(n:Nat) {w:A2},w.length=n->WOk m.I w->(∀k,w.take k∈P')->outs (hypT t o).M 0 w=outs m m.S.toNat w/\dest (hypT t o).M 0 w=pos (trow m t.X w) (K8 t o)
 |0,w,hn,_,_=>by
  have e:w=[]:=List.length_eq_zero_iff.1 hn;subst e;have h0:[]∈t.P:=H8 H.nil;refine⟨rfl,?_⟩;show 0=_;rw[<- H.stt_row T h0];exact H.start.symm
 |n+1,w,hn,hw,hp=>by
  obtain⟨v,x,rfl⟩:∃v x,w=v++[x]:=by
   rcases BU w with h|⟨v,x,h⟩
   ·rw[h]at hn;cases hn
   ·exact⟨v,x,by rw[h,HA]⟩
  have a4:v.length=n:=by rw[D7,S6]at hn;omega
  have hx:=hw x (by simp);obtain⟨a,rfl⟩:=pZ hx.1;have ha:a<m.I.toNat:=by omega
  have a5:WOk m.I v:=λy hy=>hw y (M1 _ hy)
  have a2:∀k,v.take k∈P':=λk=>by
   rcases L8 v.length k with g|g
   ·have:=hp v.length;rw[List.take_left' rfl]at this;rw[X6 (by omega)];exact this
   ·have:=hp k;rw[gS g]at this;exact this
  obtain⟨i1,i2⟩:=ctx_pre H T hi hP hk hc n a4 a5 a2;have a3:v∈P':=by have:=a2 v.length;rwa [M4]at this
  obtain⟨q,hq,eq⟩:=rows_old hP hk a3;have hd:dest (hypT t o).M 0 v=stt t o q:=by rw[i2,H.stt_row T hq,eq]
  have hs:[(a:Int)]∈t.X:=H8 (H.sing (by rw[hi];exact ha));have ho:=oB eq hs
  have a6:ot m (dest m m.S.toNat q) a=ot m (dest m m.S.toNat v) a:=by
   have:[ot m (dest m m.S.toNat q) (Int.toNat (a:Int))]=[ot m (dest m m.S.toNat v) (Int.toNat (a:Int))]:=ho;injection this
  have h1:=H.ot_t T hq (a:=a) (by rw[hi];exact ha);have h2:=H.nx_t T hq (a:=a) (by rw[hi];exact ha);have h3:=hc q (hP q hq) v a3 eq a ha;constructor
  ·rw[iL,iL,i1,hd];show _++[ot (hypT t o).M (stt t o q) (Int.toNat (a:Int))]=_++[ot m _ (Int.toNat (a:Int))];rw[P0,h1,a6]
  ·rw[kG,hd];show nx (hypT t o).M (stt t o q) (Int.toNat (a:Int))=_;rw[P0,h2,h3]
end
end
section
def failR(e:Int):E3×A6×Int×Int:=((⟨(⟨0,0,[],[]⟩:B7),[]⟩:E3),(⟨0,[]⟩:A6),0,e)
section
variable {m:B7}{mode:Int}{t u v:B8}{o p:A6}{W:A3}{h:E3}{w:A2}{n:Nat}
end
end
section
def Ghost(m:B7)(t:B8):Prop:=∃t0 o0 w,I7 t0 o0/\P5 m o0/\t0.I=m.I/\WOk m.I w/\Sym.outs (hypT t0 o0).M 0 w≠Sym.outs m m.S.toNat w /\
 ((t.X=t0.X/\(∀p∈t0.P,p∈t.P)/\(∀k,w.take k∈t.P)/\kN m t.X t.P<=kN m t.X t0.P) \/
 (t.P=t0.P/\(∀e∈t0.X,e∈t.X)/\∀k,w.drop k∈t.X\/w.drop k=[]))
abbrev kT(m:B7)(t:B8):Nat:=kN m t.X t.P
structure RunI(m:B7)(t:B8)(o:A6)(c x:Nat)(g:Bool):Prop where
 told:P5 m o
 val:M5 t=0
 inp:t.I=m.I
 suf:∀e∈t.X,e.drop 1∈t.X\/e.drop 1=[]
 pl:t.P.length<=1+x+25*c
 sl:t.X.length<=4+x+25*c
 pw:∀p∈t.P,p.length<=25+x
 sw:∀e∈t.X,e.length<=25+x
 k1:1+x<=kT m t
 k2:c+(if g=true then 0 else 1)<=kT m t
 gh:g=true->Ghost m t
section
variable {m:B7}{t:B8}{o:A6}{c x:Nat}{g:Bool}
def oL(T:P5 m o)(hA:dQ t o){p w:A2}(hp:p∈t.P)(hw:w∈N6 t.I.toNat p):rowO o w t.X=some (trow m t.X w):=by
 obtain⟨r,hr⟩:=hA p hp w hw;rw[hr,rowO_is T.ex hr]
def rI(n:Nat)(p:A2):p∈N6 n p:=by unfold N6;simp
def oK{n a:Nat}(ha:a<n)(p:A2):p++[(a:Int)]∈N6 n p:=K3 _ (D8.2 ⟨a,M8.2 ha,rfl⟩)
def yE(T:P5 m o)(hA:dQ t o):(K8 t o).length=kT m t:=by
 unfold K8 J4 kT kN;congr 2;refine nV λp hp=>?_;exact aV (oL T hA hp (rI _ p))
end
end
section
section
variable {m:B7}{t:B8}{o:A6}{c x:Nat}{g:Bool}
def P5.smR(T:P5 m o):SmO o:=by
 refine⟨by have:=T.ok.num;omega,λt ht=>?_⟩;have h1:=yT (T.ok.prop t ht).1.1;have h2:=(T.tr.2 t ht).2;unfold SmW at h2;exact⟨by omega,h2⟩
def jL(T:P5 m o){v:A2}:ansO o v=none↔¬Kn o v :=
 ⟨λh hk=>(by rw[(lH T.ex).1 hk]at h;cases h),λh=>(lH T.ex).2 h⟩
def mu(m:B7)(t:B8)(o:A6)(g:Bool):Nat:=10*(12-kT m t)+(if g=true then 0 else 2)+(if L1 o t t.P=[] then 0 else 1)
structure ResR(r:E3×A6×Int×Int):Prop where
 h1:SmL r.1.M.N
 h2:SmL r.1.M.O
 h3:SmL r.1.Access
 h4:SmTr r.2.1.T
def fail_ok(e:Int):ResR (failR e):=⟨U4,U4,U4,⟨by simp[failR],λt ht=>by cases ht⟩⟩
def mS{S R:Type}{step:S->Option (S⊕R)}{s:S}{r:R}{n:Nat}(h:step s=some (.inr r)):iter step (n+1) s=some r:=by unfold iter;rw[h]
def mR{S R:Type}{step:S->Option (S⊕R)}{s s':S}{n:Nat}(h:step s=some (.inl s')):iter step (n+1) s=iter step n s':=by
 show(match step s with|none=>none|some (.inl s')=>iter step n s'|some (.inr r)=>some r)=_
 rw[h]
end
end
section
section
variable {m:B7}
def new_valid(H:N0 m)(hi:m.I<=4):M5 ⟨m.I,[[]],T1 m.I.toNat⟩=0:=by
 have a2:=H.i1;have a4:=vX m.I.toNat;have a3:H1 [] m.I=0:=kA ⟨a2,by omega⟩ (λy hy=>by cases hy) (by simp)
 have hs:∀w∈T1 m.I.toNat,∃a:Nat,a<m.I.toNat/\w=[(a:Int)]:=λw hw=>by
  unfold T1 at hw;obtain⟨a,ha,rfl⟩:=D8.1 hw;exact⟨a,M8.1 ha,rfl⟩
 refine zJ a2 hi (by simp) (by simp) (by simp only;omega) (by simp only[S6];omega) (MH _ _) ?_ (λw hw=>?_) (λw hw=>?_) (λw hw h0=>?_) (by simp) (λa ha=>D8.2 ⟨a,ha,rfl⟩)
 ·unfold T1;refine sS.2 (List.Pairwise.imp (λ{a b} h=>?_) HK);unfold cmpW;simp only[S6,Nat.lt_irrefl,if_false];unfold lexI;rw[if_pos (by omega)]
 ·rw[K2.1 hw];exact⟨a3,by simp⟩
 ·obtain⟨a,ha,rfl⟩:=hs w hw;exact⟨kA ⟨a2,by show m.I<=1024;omega⟩ (λy hy=>by rw[K2.1 hy];show 0<=(a:Int)/\(a:Int)<m.I;omega) (by simp),by simp,by simp⟩
 ·rw[K2.1 hw]at h0;cases h0
def run_start(H:N0 m)(hi:m.I<=4):RunI m ⟨m.I,[[]],T1 m.I.toNat⟩ ⟨m.I,[]⟩ 0 0 false:=by
 have hk:1<=kT m ⟨m.I,[[]],T1 m.I.toNat⟩:=kN_ge (m:=m) (S:=T1 m.I.toNat) (P:=[[]]) (Q:=[[]]) (by simp) (λq hq=>hq);refine⟨none_told ⟨H.i1,H.i2⟩,new_valid H hi,rfl,λe he=>?_,by simp,by simp only[vX];omega,λp hp=>?_,λe he=>?_,hk,by rw[if_neg W5];exact hk,λh=>by cases h⟩
 ·unfold T1 at he;obtain⟨a,_,rfl⟩:=D8.1 he;exact .inr rfl
 ·rw[K2.1 hp];simp
 ·unfold T1 at he;obtain⟨a,_,rfl⟩:=D8.1 he;simp
end
end
section
def lL{n:Nat}(h:n<=3000000):E5 n 24:=by unfold E5;omega
def wsearch_eq{l:A3}{w:A2}(hs:Asc l)(hl:SmL l):jB l w (λu0 u1=>cJ u0 u1)=some ((↑(L2 l w):Int),decide (w∈l)):=by
 have hc:∀x∈l,cJ x w=some (cmpW x w):=λx hx=>wA _ _ (by have:=hl.2 x hx;unfold SmW at this;omega);have a5:=hl.1
 have key:=V3 (step:=λ(s:Int×Int)=>jB.s2 l w (λu0 u1=>cJ u0 u1) s.1 s.2)
  (λs=>∃i j:Nat,s.1=(i:Int)/\s.2=(j:Int)/\i<=j/\j<=l.length/\(∀k t,k<i->l[k]?=some t->cmpW t w=-1)/\∀k t,j<=k->l[k]?=some t->cmpW t w≠-1) (λs=>(s.2-s.1).toNat)
  (λr=>∃k:Nat,r=(k:Int)/\k<=l.length/\(∀j t,j<k->l[j]?=some t->cmpW t w=-1)/\∀t,l[k]?=some t->cmpW t w≠-1) (λs ⟨i,j,g1,g2,g3,g4,g5,g6⟩=>by
   obtain⟨si,sj⟩:=s
   simp only at g1 g2
   subst g1 g2
   simp only[jB.s2]
   by_cases g7:i<j
   ·left
    have a3:((i:Int)+↑j) / 2^1=((i+j) / 2:Nat):=by omega
    have hx:=get_at (l:=l) (i:=(i+j) / 2) (by omega)
    rw[C9,K1,F0 (by omega),F0 (by omega),K1,F9 a3 hx,hc _ (H9 _),A5]
    have r:=lO (l[(i+j) / 2]'(by omega)) w
    by_cases g8:cmpW (l[(i+j) / 2]'(by omega)) w<0
    ·refine⟨(((i+j) / 2+1:Nat),(j:Int)),?_,⟨(i+j) / 2+1,j,rfl,rfl,by omega,g4,λk t hk ht=>?_,g6⟩,by simp only;omega⟩
     ·rw[C9 g8,K1,a3]
      simp
     ·rcases L8 k ((i+j) / 2) with h|h
      ·exact kD _ _ _ (hs.get h ht hx) (by omega)
      ·have e:k=(i+j) / 2:=by omega
       subst e
       rw[hx]at ht
       injection ht with ht
       subst ht
       omega
    ·refine⟨((i:Int),(((i+j) / 2:Nat):Int)),?_,⟨i,(i+j) / 2,rfl,rfl,by omega,by omega,g5,λk t hk ht=>?_⟩,by simp only;omega⟩
     ·rw[B5 g8,a3]
     ·intro h9
      rcases L8 ((i+j) / 2) k with h|h
      ·have:=kD _ _ _ (hs.get h hx ht) h9
       omega
      ·have e:k=(i+j) / 2:=by omega
       subst e
       rw[hx]at ht
       injection ht with ht
       subst ht
       omega
   ·right
    have e:i=j:=by omega
    subst e
    refine⟨(i:Int),by rw[B5],i,rfl,g4,g5,λt ht=>g6 i t (H4 _) ht⟩) fuel (0,(l.length:Int)) ⟨0,l.length,rfl,rfl,F8 _,H4 _,λk t h=>by omega,λk t h ht=>by
    have:=(G4.1 ht).1
    omega⟩ (by have:=O9;simp only;omega)
 obtain⟨r,e,k,hk,h1,h2,h3⟩:=key;subst hk;have a4:=placeL_of h1 (λi x hi hx=>h2 i x hi hx) h3;have a2:=hs.mem_place w;rw[a4]at a2 ⊢;unfold jB;rw[e,A5];by_cases h4:k<l.length
 ·have hx:=get_at h4;rw[C9,F9 rfl hx,show(λ(u0:A2) (u1:A2)=>cJ u0 u1) l[k] w=some (cmpW l[k] w) from hc _ (H9 _),A5,A5];rw[hx]at a2;by_cases h5:w∈l
  ·have:=a2.1 h5;injection this with this
   rw[D3 h5,this,D3 (cA w)]
  ·rw[E2 h5,E2 λh6=>h5 (a2.2 (by rw[(rB _ _).1 h6]))]
 ·have h5:¬w∈l:=λh=>by
   have:=a2.1 h;exact h4 (G4.1 this).1
  rw[B5,A5,E2 h5]
def EV{l:A3}{w:A2}(hs:Asc l)(hl:SmL l)(hw:SmW w):oN l w=some (insW l w):=by
 have a2:=hl.1;have hp:=yL l w;unfold oN;rw[wsearch_eq hs hl,A5];unfold insW;by_cases h:w∈l
 ·rw[if_pos h,C9 h]
 ·rw[if_neg h,B5 h,F0 (by omega),iR hw,A5];simp only[P0];rw[F0 (lL (by rw[H6];omega)),F0 (by omega),F0 (lL (by simp only[D7,H6,O5,H7,V5];omega)),U8];rfl
def wordset_Has_eq(l:A3)(w:A2)(hl:SmL l):vA l w=some (decide (w∈l)):=by
 unfold vA BH kS
 have key:=Q2 (step:=λs=>kS.s2 l (λu0=>rY u0 w) s) (l:=l) (λi x=>if x=w then some (i:Int) else none) (λi x hx=>by
  simp only[kS.s2,rY]
  rw[I8 hx,D2,C6 hx,pQ _ _ (by have:=hl.2 x (H8 hx);unfold SmW at this;omega),A5,A5]
  by_cases h:x=w
  ·rw[C9 h,if_pos h]
  ·rw[B5 h,if_neg h]) (by
  simp only[kS.s2]
  rw[N7]
  rfl) (by have:=hl.1;omega)
 rw[key];cases e:scan (λi x=>if x=w then some (i:Int) else none) 0 l with
 |none =>
  have h3:=aK.1 e
  have h:w∉l:=λhm=>by
   obtain⟨i,hi⟩:=sW.1 hm;have:=h3 i w hi;simp at this
  rw[E2 h];rfl
 |some r =>
  have h:w∈l/\0<=r:=jU (Q:=λr=>w∈l/\0<=r) e λi x r hx hr=>by
   split at hr
   ·rename_i he;injection hr with hr
    subst he;exact⟨H8 hx,by omega⟩
   ·cases hr
  rw[D3 h.1];simp only[A5,BK];rw[D3 h.2]
def lazT(l:C7):B8:=⟨l.I,l.Short,l.X⟩
def ofT(t:B8):C7:=⟨t.I,t.P,t.X⟩
def sufB(S:A3):Bool:=S.all λe=>decide (e.length<=1)||decide (e.drop 1∈S)
def V0(l:C7):Int:=if M5 (lazT l)≠0 then M5 (lazT l) else if sufB l.X=true then 0 else 1
def chkL(l:C7)(o:A6):Int:=if V0 l≠0 then V0 l else if l.I≠o.I then 15 else 0
def suf_step{S:A3}{R:Type}{f:Bool}(e:A2)(k:Bool->Option R):((cond (decide (1<(e.length:Int))) (chk ((0:Int)<=1/\1<=(e.length:Int)) ((some (decide (e.drop 1∈S))).bind λc=>some (!c))) (some false):Option Bool)).bind k=k (!(decide (e.length<=1)||decide (e.drop 1∈S))):=by
 by_cases h:1<e.length
 ·rw[C9,F0 (by omega),A5,A5,show decide (e.length<=1)=false from E2 (by omega),cQ]
 ·rw[show decide (1<(e.length:Int))=false from E2 (by omega),D6,A5,show decide (e.length<=1)=true from D3 (by omega)];rfl
def AF{l:C7}(ht:SmT (lazT l)):fD l=some (V0 l):=by
 have hs:SmL l.X:=ht.2.2.1;have a2:=hs.1;unfold fD kC V0;rw[A5,show(⟨l.I,l.Short,l.X⟩:B8)=lazT l from rfl,KB _ ht,A5];by_cases h:M5 (lazT l)=0
 ·rw[B5 (by simpa using h),if_neg (by simpa using h)]
  have key:=Q2 (step:=λs=>fD.s2 l s) (l:=l.X) (λ_ e=>if(decide (e.length<=1)||decide (e.drop 1∈l.X))=true then none else some (1:Int)) (λi x hx=>by
   simp only[fD.s2]
   rw[I8 hx,D2,C6 hx,wordset_Has_eq _ _ hs,suf_step (f:=true)]
   cases (decide (x.length<=1)||decide (x.drop 1∈l.X))<;>rfl) (by
   simp only[fD.s2]
   rw[N7]
   rfl) (by omega)
  rw[key,oJ (p:=λ(e:A2)=>decide (e.length<=1)||decide (e.drop 1∈l.X))]
  unfold sufB;cases (l.X.all λe=>decide (e.length<=1)||decide (e.drop 1∈l.X))<;>rfl
 ·rw[C9 h,if_pos h]
def JE{l:C7}(ht:SmT (lazT l)):fZ l=some (V0 l):=by
 have hs:SmL l.X:=ht.2.2.1;have a2:=hs.1;unfold fZ bM V0;rw[A5,show(⟨l.I,l.Short,l.X⟩:B8)=lazT l from rfl,rX _ ht,A5];by_cases h:M5 (lazT l)=0
 ·rw[B5 (by simpa using h),if_neg (by simpa using h)]
  have key:=Q2 (step:=λs=>fZ.s2 l s) (l:=l.X) (λ_ e=>if(decide (e.length<=1)||decide (e.drop 1∈l.X))=true then none else some (1:Int)) (λi x hx=>by
   simp only[fZ.s2]
   rw[I8 hx,D2,C6 hx,CR _ _ hs,suf_step (f:=true)]
   cases (decide (x.length<=1)||decide (x.drop 1∈l.X))<;>rfl) (by
   simp only[fZ.s2]
   rw[N7]
   rfl) (by omega)
  rw[key,oJ (p:=λ(e:A2)=>decide (e.length<=1)||decide (e.drop 1∈l.X))]
  unfold sufB;cases (l.X.all λe=>decide (e.length<=1)||decide (e.drop 1∈l.X))<;>rfl
 ·rw[C9 h,if_pos h]
def FQ{l:C7}{o:A6}(ht:SmT (lazT l)):oW l o=some (chkL l o):=by
 unfold oW chkL;rw[AF ht,A5];by_cases h:V0 l=0
 ·rw[B5 (by simpa using h),if_neg (by simpa using h)];by_cases h2:l.I=o.I
  ·rw[E2 (by simpa using h2),if_neg (by simpa using h2)];rfl
  ·rw[D3 h2,if_pos h2];rfl
 ·rw[C9 h,if_pos h]
def FX{l:C7}{o:A6}(ht:SmT (lazT l)):pC l o=some (chkL l o):=by
 unfold pC chkL;rw[JE ht,A5];by_cases h:V0 l=0
 ·rw[B5 (by simpa using h),if_neg (by simpa using h)];by_cases h2:l.I=o.I
  ·rw[E2 (by simpa using h2),if_neg (by simpa using h2)];rfl
  ·rw[D3 h2,if_pos h2];rfl
 ·rw[C9 h,if_pos h]
def JZ{l:A3}(hl:SmL l):iO l=some l:=by
 have a2:l.length<=2000000:=hl.1;unfold iO
 rw[O4 (r:=l) (λs=>s.2<=l.length/\s.1=l.take s.2) (λs=>l.length-s.2) (λs ⟨h1,h2⟩=>by
  simp only[iO.s2]
  by_cases h3:s.2<l.length
  ·left
   have hx:=get_at h3
   refine⟨(l.take (s.2+1),s.2+1),?_,⟨by omega,rfl⟩,by simp only;omega⟩
   rw[I8 hx,D2,C6 hx,iR (hl.2 _ (H9 _))]
   simp only[A5]
   rw[F0 (by rw[h2,H6];unfold E5;omega),L9 hx,h2]
  ·right
   have e:s.2=l.length:=by omega
   rw[B5,h2,e,M4]) (s:=([],0)) ⟨F8 _,by simp⟩]
 rfl
def FG{l:C7}(h1:SmL l.Short)(h2:SmL l.X):rJ l=some l:=by
 unfold rJ;rw[JZ h1,JZ h2];rfl
def lazy_New_eq(n:Int):oE n=some (ofT (newT n).1,(newT n).2):=by
 unfold oE;rw[table_New_eq,A5];unfold newT;split<;>rfl
def R28_New_eq(n:Int):R28_New n=some (ofT (newT n).1,(newT n).2):=by
 unfold R28_New;rw[R23_New_eq];rfl
def hb1{p s:Nat}(h:(p+1)*5*(s+1)<=160000):(p+1)*5*s<=160000:=S1 (Nat.mul_le_mul_left _ (Nat.le_succ s)) h
def hb2{p s:Nat}(h:(p+1)*5*(s+1)<=160000):p*5*(s+1)<=160000:=S1 (bD _ (bD 5 (Nat.le_succ p))) h
abbrev RoomT(t:B8):Prop:=(t.P.length+1)*5*(t.X.length+1)<=160000
def uncl_ins{t:B8}{o:A6}{w:A2}(ht:K7 t)(hb:RoomT t)(hz:Q8 t o=0)(hf:(extL t).find? (newRow t o)=some w) :
  eT t w=(⟨t.I,insW t.P w,t.X⟩,0)/\M5 ⟨t.I,insW t.P w,t.X⟩=0:=by
 obtain⟨a2,_,hA⟩:=X5 hz;obtain⟨b0,_,a8,a3,a7,_,_,b4⟩:=Z9 a2;obtain⟨a6,b3,a9,b5⟩:=aL a2;obtain⟨g1,g2,_⟩:=uncl_progress ht (hb1 hb) hz hf;have a5:=dE hf;obtain⟨p,hp,h2⟩:=L6.1 a5;obtain⟨a,ha,rfl⟩:=D8.1 h2;have ha:=M8.1 ha;have b2:=ht.pw p hp;have a4:=check_snoc (a6 p hp) (by omega) (show(a:Int)<t.I by omega)
 have e1:sortW (t.P++sortW (preL [p++[(a:Int)]]))=insW t.P (p++[(a:Int)]):=oA (cC _) (a8.insW _) λx=>by
  rw[aC,K0,aC,qT,bV];unfold prefixes;constructor
  ·rintro (h|h)
   ·exact Or.inl h
   ·obtain⟨k,hk,rfl⟩:=D8.1 h;have hk:=M8.1 hk;rw[D7,S6]at hk;rcases L8 p.length k with h3|h3
    ·right;rw[X6 (by rw[D7,S6];omega)]
    ·left;rw[gS h3];exact uL a2 _ p hp k rfl h3
  ·rintro (h|rfl)
   ·exact Or.inl h
   ·exact Or.inr (D8.2 ⟨p.length+1,by simp,by rw[X6 (by simp)]⟩)
 have e2:sortW (t.X++[])=t.X:=by rw[S5,nE a3]
 have hP:eT t (p++[(a:Int)])=growT t (sortW (preL [p++[(a:Int)]])) []:=by
  unfold eT;rw[if_neg (by simpa using a2),if_neg (by simpa using a4)]
 rw[hP]at g1 ⊢;unfold growT at g1 ⊢;rw[e1,e2]at g1 ⊢;by_cases h:M5 ⟨t.I,insW t.P (p++[(a:Int)]),t.X⟩=0
 ·rw[if_neg (by simpa using h)];exact⟨rfl,h⟩
 ·rw[if_pos h]at g1;exact absurd g1 h
def inc_ins{t:B8}{o:A6}{x:Int×Int×Bool}(ht:K7 t)(hb:RoomT t)(hv:I6 o)(hz:Q8 t o=0)(hf:iP t o=some x) :
  eQ t (toW t x)=(⟨t.I,t.P,insW t.X (toW t x)⟩,0)/\M5 ⟨t.I,t.P,insW t.X (toW t x)⟩=0/\(toW t x).drop 1∈t.X:=by
 obtain⟨a2,_,hA⟩:=X5 hz;obtain⟨b0,_,a7,a3,a6,_,_,b4⟩:=Z9 a2;obtain⟨b2,b3,a9,a8⟩:=aL a2;obtain⟨g1,g2,_⟩:=inc_progress ht (hb2 hb) hv hz hf;obtain⟨_,a,e,h1,h2,ha,he⟩:=iP_range hv hA hf;have a5:=get_at he
 have hW:toW t x=(a:Int)::t.X[e]:=by
  unfold toW;rw[h1,h2];simp[a5]
 have hm:=H9 he;have b5:=ht.sw _ hm;have a4:=check_cons (a8 _ hm).1 (by omega) (show(a:Int)<t.I by omega);have e1:sortW (t.P++[])=t.P:=by rw[S5,nE a7]
 have e2:sortW (t.X++[toW t x])=insW t.X (toW t x):=by rw[DK,nE a3]
 have hP:eQ t (toW t x)=growT t [] [toW t x]:=by
  unfold eQ;rw[if_neg (by simpa using a2),if_neg (by rw[hW];simp),if_neg (by rw[hW];simpa using a4)]
 rw[hP]at g1 ⊢;unfold growT at g1 ⊢;rw[e1,e2]at g1 ⊢;by_cases h:M5 ⟨t.I,t.P,insW t.X (toW t x)⟩=0
 ·rw[if_neg (by simpa using h)];exact⟨rfl,h,by rw[hW];simpa using hm⟩
 ·rw[if_pos h]at g1;exact absurd g1 h
def sufB_ins{S:A3}{w:A2}(h:sufB S=true)(hw:w.drop 1∈S):sufB (insW S w)=true:=by
 unfold sufB at h ⊢;refine O0.2 λe he=>?_;rw[pV,decide_eq_true_eq,decide_eq_true_eq];rcases (bV S w e).1 he with he|rfl
 ·have:=O0.1 h e he;rw[pV,decide_eq_true_eq,decide_eq_true_eq]at this;exact this.imp_right λh=>(bV S w _).2 (Or.inl h)
 ·exact Or.inr ((bV S _ _).2 (Or.inl hw))
def cS(l:C7)(o:A6):C7×A3×Bool×Int :=
 if chkL l o≠0 then(l,[],false,chkL l o) else(ofT (stepT (lazT l) o).1,(stepT (lazT l) o).2)
section
variable {l:C7}{o:A6}
def oD(h:chkL l o=0):chkT (lazT l) o=0/\V0 l=0/\sufB l.X=true/\M5 (lazT l)=0:=by
 unfold chkL at h;split at h
 ·rename_i h1;exact absurd h h1
 ·rename_i h1;have h1:V0 l=0:=jF.1 h1;have h2:=h1;unfold V0 at h2;split at h2
  ·rename_i h3;exact absurd h2 h3
  ·rename_i h3;have h3:M5 (lazT l)=0:=jF.1 h3;split at h2
   ·rename_i h4;refine⟨?_,h1,h4,h3⟩;unfold chkT;rw[if_neg (by simpa using h3)];exact h
   ·cases h2
def rC{n:Int}{p s:A3}(h:M5 ⟨n,p,s⟩=0)(h2:sufB s=true):V0 ⟨n,p,s⟩=0:=by
 unfold V0 lazT;rw[if_neg (by simpa using h),if_pos h2]
def R28_Step_eq(ht:K7 (lazT l))(ho:SmO o)(hv:I6 o):qM l o=some (cS l o):=by
 unfold qM cS bM R28_Of;rw[FX ht.sm,A5];by_cases h:chkL l o=0
 ·rw[B5 (by simpa using h),if_neg (by simpa using h),A5,show(⟨l.I,l.Short,l.X⟩:B8)=lazT l from rfl,R24_Step_eq ht ho hv];rfl
 ·rw[C9 h,if_pos h]
def lazy_Step_eq(ht:K7 (lazT l))(hb:RoomT (lazT l))(ho:SmO o)(hv:I6 o):eX l o=some (cS l o):=by
 have hp:=ht.p;have hs:=ht.s;have hT:(⟨l.I,l.Short,l.X⟩:B8)=lazT l:=rfl;unfold eX cS kC;rw[FQ ht.sm,A5];by_cases h:chkL l o=0
 ·obtain⟨h1,h3,h4,h5⟩:=oD h;rw[B5 (by simpa using h),if_neg (by simpa using h),A5,hT,zq34 ht ho hv,A5,if_neg (by simpa using h1)];unfold stepT;rw[if_neg (by simpa using h1)];by_cases h2:L1 o (lazT l) (lazT l).P=[]
  ·rw[if_neg (by simpa using h2),mX.2 h2];have hz:=compT_of h1 h2;obtain⟨_,_,a5,a4,_⟩:=Z9 h5;simp only[ne_eq,not_true_eq_false,decide_false,D6,V5,GO,wW,BX];rw[A5,D6,zwo ht ho hv];unfold unclT;rw[if_neg (by simpa using hz)];cases hf:(extL (lazT l)).find? (newRow (lazT l) o) with
   |some w =>
    obtain⟨w1,w2⟩:=zq45 ht (dE hf);obtain⟨u1,u2⟩:=uncl_ins ht hb hz hf;have a2:SmL (insW l.Short w):=sml_ins ⟨by have:l.Short.length<=600:=hp;omega,ht.sm.2.1.2⟩ (by unfold SmW;omega)
    have a3:SmT (lazT ⟨l.I,insW l.Short w,l.X⟩):=⟨ht.sm.1,a2,ht.sm.2.2.1,λx hx a ha=>by
     rcases (bV _ _ _).1 hx with hx|rfl
     ·exact ht.sm.2.2.2 x hx a ha
     ·exact w2 a ha⟩
    simp only[A5,ne_eq,not_true_eq_false,decide_false,D6,D2];rw[EV (l:=l.Short) a5 ht.sm.2.1 (by unfold SmW;omega),A5];simp only[aO,eX.k1,A5];rw[AF a3,A5,rC (n:=l.I) (p:=insW l.Short w) (s:=l.X) u2 h4];simp only[ne_eq,not_true_eq_false,decide_false,D6];rw[FG (l:=⟨l.I,insW l.Short w,l.X⟩) a2 ht.sm.2.2.1,A5,u1];rfl
   |none =>
    simp only[A5,ne_eq,not_true_eq_false,decide_false,D6];rw[zst ht ho hv];unfold incT;rw[if_neg (by simpa using hz)];cases hi:iP (lazT l) o with
    |some x =>
     have a6:=toW_len ht x;obtain⟨u1,u2,u3⟩:=inc_ins ht hb hv hz hi;have a2:SmL (insW l.X (toW (lazT l) x)):=sml_ins ⟨by have:l.X.length<=600:=hs;omega,ht.sm.2.2.1.2⟩ (by unfold SmW;omega);have a3:SmT (lazT ⟨l.I,l.Short,insW l.X (toW (lazT l) x)⟩):=⟨ht.sm.1,ht.sm.2.1,a2,ht.sm.2.2.2⟩;simp only[A5,ne_eq,not_true_eq_false,decide_false,D6,N2];rw[EV (l:=l.X) a4 ht.sm.2.2.1 (by unfold SmW;omega),A5,A5];simp only[aO,eX.k1,A5];rw[AF a3,A5,rC (n:=l.I) (p:=l.Short) (s:=insW l.X (toW (lazT l) x)) u2 (sufB_ins h4 u3)];simp only[ne_eq,not_true_eq_false,decide_false,D6];rw[FG (l:=⟨l.I,l.Short,insW l.X (toW (lazT l) x)⟩) ht.sm.2.1 a2,A5,u1];rfl
    |none=>rfl
  ·rw[if_pos h2,B5 (by simp),D3 (qI λh=>h2 (mX.1 h))];rfl
 ·rw[C9 h,if_pos h]
def hypL(l:C7)(o:A6):E3×Int:=if chkL l o≠0 then(h0,chkL l o) else hypR (lazT l) o
def LN(ht:K7 (lazT l))(ho:SmO o)(hv:I6 o)(h128:(K8 (lazT l) o).length<=128):nJ l o=some (hypL l o):=by
 unfold nJ hypL kC;rw[FQ ht.sm,A5];by_cases h:chkL l o=0
 ·rw[B5 (by simpa using h),if_neg (by simpa using h),A5,show(⟨l.I,l.Short,l.X⟩:B8)=lazT l from rfl,zup ht ho hv h128];rfl
 ·rw[C9 h,if_pos h]
def KZ(ht:K7 (lazT l))(ho:SmO o)(hv:I6 o)(h128:(K8 (lazT l) o).length<=128):pM l o=some (hypL l o):=by
 unfold pM hypL bM;rw[FX ht.sm,A5];by_cases h:chkL l o=0
 ·rw[B5 (by simpa using h),if_neg (by simpa using h),A5,show(⟨l.I,l.Short,l.X⟩:B8)=lazT l from rfl,zxr ht ho hv h128];rfl
 ·rw[C9 h,if_pos h]
end
end
section
def scan_find{V:Type}{p:V->Bool}:∀(L:List V) (j:Nat),(scan (λi x=>if p x=true then some (i:Int) else none) j L=none/\L.find? p=none)\/∃i f,scan (λi x=>if p x=true then some (i:Int) else none) j L=some (↑(j+i):Int)/\L[i]?=some f/\L.find? p=some f/\p f=true
 |[],_=>.inl ⟨rfl,rfl⟩
 |x::L,j=>by
  unfold scan;cases h:p x with
  |true=>exact .inr ⟨0,x,by simp,rfl,by simp[h],h⟩
  |false =>
   rw[xA (by simp[h])];simp only[nT,if_false];rcases scan_find L (j+1) with⟨h1,h2⟩|⟨i,f,h1,h2,h3,h4⟩
   ·exact .inl ⟨h1,h2⟩
   ·exact .inr ⟨i+1,f,by rw[h1];congr 2;omega,h2,h3,h4⟩
def AX{o:A6}{w:A2}(ho:SmO o)(hv:I6 o):kM o w=some (tw (ansO o w)):=by
 have hl:=ho.1;unfold kM ansO;by_cases h0:w=[]
 ·subst h0;rfl
 ·rw[if_neg h0,E2 (by
   intro h
   exact h0 (S9 (by omega))),D6]
  unfold cN
  have key:=Q2 (step:=λs=>cN.s2 o.T (λu0=>sE u0 w) s) (l:=o.T) (λi t=>if(λt:A8=>decide (w <+: t.In)) t=true then some (i:Int) else none) (λi t ht=>by
   have a2:=H8 ht
   simp only[cN.s2,sE]
   rw[I8 ht,D2,C6 ht,sG _ _ (smo_in ho a2),A5,A5]
   by_cases h:w <+: t.In<;>simp[h]) (by
   simp only[cN.s2]
   rw[N7]
   rfl) (by omega)
  rw[key];rcases scan_find (p:=λt:A8=>decide (w <+: t.In)) o.T 0 with⟨h1,h2⟩|⟨i,t,h1,h2,h3,h4⟩
  ·rw[h1,h2];simp only[A5,aO];rfl
  ·rw[h1,h3];have a2:=H8 h2;have hP:=(hv.prop t a2).1;have a4:=pre_len (of_decide_eq_true h4);have a5:=hP.2.1;have h5:=(ho.2 t a2).1;have a3:min (w.length:Int) (t.O.length:Int)=(w.length:Int):=by omega
   simp only[A5,BK,J9,L5];rw[B5,F9 rfl h2,a3,F0 (by omega),P0,iR (by unfold SmW;rw[H6];omega),A5]
def EW{o:A6}{w e:A2}(h:ansO o (w++e)=none):tailA o w e=[]:=by unfold tailA;rw[h];exact List.drop_nil
def yG{o:A6}{w e r:A2}(h:ansO o (w++e)=some r):tailA o w e=r.drop w.length:=by unfold tailA;rw[h];rfl
def M3(w:A2)(S:A3):Bool:=S.any λe=>decide (1024<(w++e).length)
def P2(o:A6)(w:A2)(S:A3):A3:=((S.filter λe=>!decide (1024<(w++e).length)).map λe=>w++e).filter λv=>(ansO o v).isNone
def tX(o:A6)(w:A2)(S:A3):(P2 o w S).length<=S.length:=by
 unfold P2;refine S1 (nR _ _) ?_;rw[E1];exact nR _ _
def zU{o:A6}{w:A2}{S:A3}(h:M3 w S=false):P2 o w S=J5 o w S:=by
 unfold P2 J5
 have:(S.filter λe=>!decide (1024<(w++e).length))=S:=xI.2 λe he=>by
  have:=sR.1 h e he;simpa using this
 rw[this]
def missB_mem{o:A6}{w:A2}{S:A3}{v:A2}(h:v∈P2 o w S):v.length<=1024:=by
 unfold P2 at h;obtain⟨e,he,rfl⟩:=D8.1 (fK.1 h).1;have:=(fK.1 he).2;simp only[sU,decide_eq_false_iff_not]at this;omega
section
variable {l:C7}{o:A6}
def outR(o:A6)(w v:A2)(M:A3)(b:Bool):A2×A3×Bool :=
 if 1024<(w++v).length then([],M,true) else if(ansO o (w++v)).isNone=true then([],M++[w++v],b) else(tailA o w v,M,b)
def vP(ho:SmO o)(hv:I6 o){w v:A2}{M:A3}{b:Bool}(hw:SmW w)(hvl:SmW v)(hM:M.length<=100000) :
  lW ⟨l,o,M,b⟩ w v=some ((outR o w v M b).1,⟨l,o,(outR o w v M b).2.1,(outR o w v M b).2.2⟩):=by
 have a3:w.length<=2000000:=hw;have a4:v.length<=2000000:=hvl;unfold lW outR;rw[iU _ (by simp) (by simp;omega),A5,dV];by_cases h:1024<(w++v).length
 ·rw[if_pos h,C9]
 ·rw[if_neg h,B5,AX ho hv,A5];cases ha:ansO o (w++v) with
  |none =>
   simp only[tw,aG,D2,BP,if_true];rw[F0 (lL (by omega))]
  |some r =>
   have a2:=iF hv ha;rw[D7]at a2;simp only[tw,N2,D6,Option.isNone_some,nT,if_false];rw[F0 (by omega),yG ha]
def uI(w v:A2)(M:A3)(b:Bool):(outR o w v M b).2.1=M++P2 o w [v]/\(outR o w v M b).2.2=(b||M3 w [v])/\(M3 w [v]=false->J5 o w [v]=[]->(outR o w v M b).1=tailA o w v):=by
 unfold outR;by_cases h:1024<(w++v).length
 ·rw[if_pos h];refine⟨?_,?_,λhf=>?_⟩
  ·have:P2 o w [v]=[]:=by
    unfold P2;rw[CI (by simpa using h)];rfl
   rw[this,S5]
  ·have:M3 w [v]=true:=by unfold M3;simpa using h
   rw[this,BM]
  ·unfold M3 at hf;simp at hf h;omega
 ·have hl:M3 w [v]=false:=by unfold M3;simp at h ⊢;omega
  rw[if_neg h,zU hl,hl,BY];unfold J5;cases ha:ansO o (w++v) with
  |none=>simp[ha]
  |some r=>simp[ha]
def longB_step{w e:A2}{S:A3}{k:Nat}(h:S[k]?=some e):M3 w (S.take (k+1))=(M3 w (S.take k)||M3 w [e]):=by
 unfold M3;rw[L9 h,CB]
def missB_step{w e:A2}{S:A3}{k:Nat}(h:S[k]?=some e):P2 o w (S.take (k+1))=P2 o w (S.take k)++P2 o w [e]:=by
 unfold P2;rw[L9 h,pW,N3,pW]
def FP(ho:SmO o)(hv:I6 o)(ht:K7 (lazT l)){w:A2}{M:A3}{b:Bool}(hw:SmW w)(hM:M.length<=90000) :
  ∃rows,bP ⟨l,o,M,b⟩ w=some (rows,⟨l,o,M++P2 o w l.X,b||M3 w l.X⟩)/\(M3 w l.X=false->J5 o w l.X=[]->rowO o w l.X=some rows):=by
 have hs:l.X.length<=600:=ht.s;have hS:SmL l.X:=ht.sm.2.2.1
 have key:=V3 (step:=λ(s:Int×List A8×A3×Bool×A3×Nat)=>bP.s2 ⟨l,o,M,b⟩ w s.1 s.2.1 s.2.2.1 s.2.2.2.1 s.2.2.2.2.1 s.2.2.2.2.2)
  (λs=>∃k:Nat,s.2.2.2.2.2=k/\k<=l.X.length/\s.1=o.I/\s.2.1=o.T/\s.2.2.1=M++P2 o w (l.X.take k)/\s.2.2.2.1=(b||M3 w (l.X.take k))/\s.2.2.2.2.1.length=k /\
   (M3 w l.X=false->J5 o w l.X=[]->s.2.2.2.2.1=(l.X.take k).map λe=>tailA o w e)) (λs=>l.X.length-s.2.2.2.2.2)
  (λr=>∃rows,r=(o.I,o.T,M++P2 o w l.X,(b||M3 w l.X),rows)/\(M3 w l.X=false->J5 o w l.X=[]->rows=l.X.map λe=>tailA o w e)) (λs ⟨k,g1,g2,g3,g4,g5,g6,g7,g8⟩=>by
   obtain⟨s1,s2,s3,s4,s5,s6⟩:=s
   simp only at g1 g3 g4 g5 g6 g7 g8
   subst g1 g3 g4 g5 g6
   simp only[bP.s2]
   by_cases g9:s6<l.X.length
   ·left
    have hx:=get_at g9
    have a5:SmW l.X[s6]:=hS.2 _ (H9 _)
    have a4:=tX o w (l.X.take s6)
    rw[H6]at a4
    obtain⟨q1,q2,q3⟩:=uI (o:=o) w l.X[s6] (M++P2 o w (l.X.take s6)) (b||M3 w (l.X.take s6))
    refine⟨(o.I,o.T,M++P2 o w (l.X.take (s6+1)),(b||M3 w (l.X.take (s6+1))),s5++[(outR o w l.X[s6] (M++P2 o w (l.X.take s6)) (b||M3 w (l.X.take s6))).1],s6+1),?_,⟨s6+1,rfl,g9,rfl,rfl,rfl,rfl,by simp[g7],λz1 z2=>?_⟩,by simp only;omega⟩
    ·rw[I8 hx,D2,C6 hx]
     have:=vP (l:=l) ho hv hw a5 (M:=M++P2 o w (l.X.take s6)) (b:=b||M3 w (l.X.take s6)) (by rw[D7];omega)
     rw[show(⟨o.I,o.T⟩:A6)=o from rfl,this,A5,F0 (lL (by omega)),q1,q2,missB_step hx,longB_step hx,U8,Bool.or_assoc]
    ·simp only
     rw[L9 hx,N3,<- g8 z1 z2]
     have hm:=H9 g9
     rw[q3 (by
      have:=sR.1 z1 _ hm
      unfold M3
      simpa using this) (by
      have a2:∀v,v∈J5 o w [l.X[s6]]->v∈J5 o w l.X:=λv hv=>by
       obtain⟨⟨e,he,h1⟩,h2⟩:=cY.1 hv
       exact cY.2 ⟨⟨e,by rw[K2.1 he];exact hm,h1⟩,h2⟩
      rw[z2]at a2
      exact xL.2 λv hv=>by cases a2 v hv)]
     rfl
   ·right
    have e:s6=l.X.length:=by omega
    subst e
    rw[B5]
    refine⟨_,rfl,s5,by rw[M4],λz1 z2=>by rw[g8 z1 z2,M4]⟩) fuel (o.I,o.T,M,b,[],0) ⟨0,rfl,F8 _,rfl,rfl,by simp[P2],by simp[M3],rfl,λ_ _=>rfl⟩ (by have:=O9;simp only;omega)
 obtain⟨r,e,rows,rfl,h2⟩:=key;refine⟨rows,?_,λz1 z2=>?_⟩
 ·unfold bP;rw[e,A5];rfl
 ·rw[h2 z1 z2]
  have a3:∀e∈l.X,ansO o (w++e)≠none:=λe he h=>by
   have:w++e∈J5 o w l.X:=cY.2 ⟨⟨e,he,rfl⟩,h⟩;rw[z2]at this;cases this
  obtain⟨R,hR⟩:=yO a3;rw[hR];congr 1;apply nP;intro i;rw[K5];cases hi:l.X[i]? with
  |none =>
   rw[sY,fM];rw[(iE hv hR).1];exact List.getElem?_eq_none_iff.1 hi
  |some e'=>rw[L5,rowO_at hR hi]
def AQ(M:A3)(b:Bool):nK ⟨l,o,M,b⟩=some (b||decide (M≠[]),⟨l,o,M,b⟩):=by
 unfold nK;cases b with
 |true=>rfl
 |false =>
  cases M with
  |nil=>rfl
  |cons x M =>
   simp only[D6];rw[D3 (qI (by simp)),A5];rfl
def IY(a b:A3)(ha:SmL a):qY a b=some (decide (a=b)):=by
 have h1:=ha.1;unfold qY kU;by_cases a2:a.length=b.length
 ·rw[show decide ((a.length:Int)≠(b.length:Int))=false by simp[a2],D6]
  have key:=yR (a:=a) (b:=b) (step:=λs=>kU.s2 a b (λu0 u1=>rW u0 u1) s) a2 (λi x y hx hy=>by
   simp only[kU.s2,rW]
   rw[I8 hx,D2,C6 hx,C6 hy,pQ x y (by have:=ha.2 x (H8 hx);unfold SmW at this;omega)]
   by_cases h:x=y<;>simp[h]) (by
   simp only[kU.s2]
   rw[N7]
   rfl) (by omega)
  rw[key,A5]
 ·rw[show decide ((a.length:Int)≠(b.length:Int))=true by simp;omega,D2,A5];have:a≠b:=λh=>a2 (by rw[h]);simp[this]
def clsW(l:C7)(o:A6)(R:Row):Option (A2):=l.Short.find? λs=>decide (rowO o s l.X=some R)
def KI(ho:SmO o)(hv:I6 o)(ht:K7 (lazT l))(hc:chkL l o=0){R:Row}(hR:SmL R){M:A3}{b:Bool} :
  gO ⟨l,o,M,b⟩ R=some ((clsW l o R).getD [],(clsW l o R).isSome,⟨l,o,M,b⟩):=by
 have hp:l.Short.length<=600:=ht.p;obtain⟨h1,_,_,_⟩:=oD hc;unfold gO
 have key:=Q2 (step:=λs=>gO.s2 ⟨l,o,M,b⟩ R s) (l:=l.Short) (λ_ s=>if rowO o s l.X=some R then some (s,true,(⟨l,o,M,b⟩:J2)) else none) (λi s hs=>by
  have a3:=H8 hs
  have a4:=ht.pw s a3
  simp only[gO.s2,kC]
  rw[I8 hs,D2,C6 hs,A5,show(⟨l.I,l.Short,l.X⟩:B8)=lazT l from rfl,table_Row_eq ht.sm ho hv (by unfold SmW;omega),A5]
  unfold rowT
  rw[if_neg (by simpa using h1),show(lazT l).X=l.X from rfl]
  cases hr:rowO o s l.X with
  |none=>simp
  |some Q =>
   have hQ:SmL Q:=by
    have:=rowT_sml hv ht.sm s
    unfold rowT at this
    rw[if_neg (by simpa using h1),show(lazT l).X=l.X from rfl,hr]at this
    exact this
   simp only[tw,D2]
   rw[IY _ _ hQ,A5,A5]
   by_cases h:Q=R
   ·rw[C9 h,if_pos (by rw[h])]
   ·rw[B5 h,if_neg (by simpa using h)]) (by
  simp only[gO.s2]
  rw[N7]
  rfl) (by omega)
 rw[key]
 have a2:∀(L:A3) (j:Nat),scan (λ_ s=>if rowO o s l.X=some R then some (s,true,(⟨l,o,M,b⟩:J2)) else none) j L=(L.find? λs=>decide (rowO o s l.X=some R)).map λs=>(s,true,⟨l,o,M,b⟩):=by
  intro L
  induction L with
  |nil=>intro j;rfl
  |cons s L ih =>
   intro j;unfold scan;by_cases h:rowO o s l.X=some R
   ·rw[if_pos h,BW (by simpa using h)];rfl
   ·rw[if_neg h,xA (by simpa using h)];exact ih _
 rw[a2];unfold clsW;cases l.Short.find? λs=>decide (rowO o s l.X=some R)<;>rfl
def IQ(ho:SmO o)(hv:I6 o)(ht:K7 (lazT l))(hc:chkL l o=0){w:A2}(hw:SmW w){R:Row}(hR:rowO o w l.X=some R) :
  (fA l o w=some (-1)/\clsW l o R=none)\/∃(i:Nat) (f:A2),fA l o w=some (i:Int)/\l.Short[i]?=some f/\clsW l o R=some f/\rowO o f l.X=some R:=by
 have hp:l.Short.length<=600:=ht.p;obtain⟨h1,_,_,_⟩:=oD hc;have hT:(⟨l.I,l.Short,l.X⟩:B8)=lazT l:=rfl
 have a3:∀s,SmW s->jP (lazT l) o s=some (tw (rowO o s l.X)):=λs hs=>by
  rw[R23_Row_eq ht.sm ho hv hs];unfold rowT;rw[if_neg (by simpa using h1)];rfl
 unfold fA bM;rw[A5,hT,a3 w hw,hR,A5];obtain⟨p,a2⟩:∃p:A2->Bool,p=λs=>decide (rowO o s l.X=some R):=⟨_,rfl⟩
 have key:=Q2 (step:=λs=>fA.s2 l o (tw (some R)) s) (l:=l.Short) (λi s=>if p s=true then some (i:Int) else none) (λi s hs=>by
  have a4:=H8 hs
  have a6:=ht.pw s a4
  simp only[fA.s2,bM]
  rw[I8 hs,D2,A5,C6 hs,hT,a3 s (by unfold SmW;omega),A5]
  by_cases hq:rowO o s l.X=some R
  ·rw[if_pos (by rw[a2];simpa using hq),hq]
   simp only[tw,D2]
   have hQ:SmL R:=by
    have:=rowT_sml hv ht.sm s
    unfold rowT at this
    rw[if_neg (by simpa using h1),show(lazT l).X=l.X from rfl,hq]at this
    exact this
   have a5:=hQ.1
   rw[nD _ _ (by omega) (λx hx=>by have:=hQ.2 x hx;unfold SmW at this;omega),A5,A5]
   simp
  rw[if_neg (by rw[a2];simpa using hq)]
  cases hr:rowO o s l.X with
  |none=>simp
  |some Q =>
   have hQ:SmL Q:=by
    have:=rowT_sml hv ht.sm s
    unfold rowT at this
    rw[if_neg (by simpa using h1),show(lazT l).X=l.X from rfl,hr]at this
    exact this
   have a5:=hQ.1
   simp only[tw,D2]
   rw[nD _ _ (by omega) (λx hx=>by have:=hQ.2 x hx;unfold SmW at this;omega),A5,A5]
   rw[B5 (λh=>hq (by rw[hr,h]))]) (by
  simp only[fA.s2]
  rw[N7]
  rfl) (by omega)
 rw[key];unfold clsW;rw[<- a2];rcases scan_find (p:=p) l.Short 0 with⟨q1,q2⟩|⟨i,f,q1,q2,q3,q4⟩
 ·left;rw[q1];exact⟨rfl,q2⟩
 ·right;rw[q1];exact⟨i,f,by simp,q2,q3,by rw[a2]at q4;exact of_decide_eq_true q4⟩
def JM(ho:SmO o)(hv:I6 o){u r v:A2}(hu:SmW u)(hr:SmW r)(hvl:SmW v)(hul:u.length+v.length<=2000000):rL o u r v=some (!decide (tailA o u v=tailA o r v)):=by
 have after:∀w,SmW w->∃x,lJ o w v=some x/\x.1=tailA o w v:=λw hw=>by
  rw[EU ho hv hw hvl];cases ha:ansO o (w++v) with
  |none=>exact⟨_,rfl,(EW ha).symm⟩
  |some q=>exact⟨_,rfl,(yG ha).symm⟩
 obtain⟨x,hx,a2⟩:=after u hu;obtain⟨y,hy,a3⟩:=after r hr;unfold rL
 rw[hx,hy,A5,A5,oY _ _ (by
  rw[a2]
  cases ha:ansO o (u++v) with
  |none=>rw[EW ha];simp
  |some q =>
   have:=iF hv ha
   rw[yG ha,O5,this,D7]
   omega),A5,a2,a3]
def anyL(ws S:A3):Bool:=ws.any λw=>M3 w S
def N5(o:A6)(ws S:A3):A3×Int:=if anyL ws S=true then([],3) else(maxR (ws.flatMap λw=>J5 o w S),0)
def AM(ho:SmO o)(hv:I6 o){ws S:A3}(hws:SmL ws)(h1:ws.length<=100)(h2:S.length<=700)(hS:SmL S):Y6 o ws S=some (N5 o ws S):=by
 have a3:∀(i:Nat) (w:A2) (M:A3),ws[i]?=some w->M.length<=100000->iter (λ(s:A3×Nat)=>Y6.s13 o ws S i s.1 s.2) fuel (M,0)=some (if M3 w S=true then .inr (.inr (.inr ([],3))) else .inl (M++J5 o w S)):=λi w M hi hM=>by
  have a6:=hws.2 w (H8 hi);have a7:w.length<=2000000:=a6
  have key:=V3 (step:=λ(s:A3×Nat)=>Y6.s13 o ws S i s.1 s.2) (λs=>s.2<=S.length/\s.1=M++J5 o w (S.take s.2)/\M3 w (S.take s.2)=false) (λs=>S.length-s.2)
   (λr=>r=if M3 w S=true then .inr (.inr (.inr ([],3))) else .inl (M++J5 o w S)) (λs ⟨g1,g2,g3⟩=>by
    obtain⟨y,k⟩:=s
    simp only at g1 g2 g3
    subst g2
    simp only[Y6.s13]
    by_cases g4:k<S.length
    ·have hx:=get_at g4
     have a8:S[k].length<=2000000:=hS.2 _ (H9 _)
     have a4:=jW o w (S.take k)
     rw[H6]at a4
     rw[I8 hx,D2,C6 hi,C6 hx,gH _ (by simp) (by simp;omega),A5,dV]
     by_cases h:1024<(w++S[k]).length
     ·right
      refine⟨_,by rw[C9],?_⟩
      have hL:M3 w S=true:=gQ.2 ⟨_,H9 g4,by simpa using h⟩
      rw[if_pos hL]
     ·left
      rw[B5,sC ho hv,A5]
      refine⟨(M++J5 o w (S.take (k+1)),k+1),?_,⟨g4,rfl,?_⟩,by simp only;omega⟩
      ·rw[CZ hx]
       cases ha:ansO o (w++S[k]) with
       |none =>
        simp only[tw,aG,D2,BP,if_true]
        rw[F0 (lL (by rw[D7];omega)),U8]
       |some r=>simp[tw]
      ·rw[longB_step hx,g3,cQ]
       unfold M3
       simpa using h
    ·right
     have e:k=S.length:=by omega
     subst e
     rw[M4]at g3 ⊢
     refine⟨_,by rw[B5],?_⟩
     rw[g3]
     rfl) fuel (M,0) ⟨F8 _,by simp[J5],by simp[M3]⟩ (by have:=O9;simp only;omega)
  obtain⟨r,e,rfl⟩:=key;exact e
 have a2:∀W:A3,(W.flatMap λw=>J5 o w S).length<=700*W.length:=λW=>by
  induction W with
  |nil=>simp
  |cons w W ih =>
   have:=jW o w S;rw[P1,D7,H7];omega
 have key:=V3 (step:=λ(s:A3×Nat)=>Y6.s14 o ws S s.1 s.2) (λs=>s.2<=ws.length/\s.1=(ws.take s.2).flatMap (λw=>J5 o w S)/\anyL (ws.take s.2) S=false) (λs=>ws.length-s.2)
  (λr=>r=if anyL ws S=true then .inr ([],3) else .inl (ws.flatMap λw=>J5 o w S)) (λs ⟨g1,g2,g3⟩=>by
   obtain⟨y,k⟩:=s
   simp only at g1 g2 g3
   subst g2
   simp only[Y6.s14]
   by_cases g4:k<ws.length
   ·have hx:=get_at g4
    have a4:=a2 (ws.take k)
    rw[H6]at a4
    rw[I8 hx,D2,a3 k _ _ hx (by omega),A5]
    cases h:M3 ws[k] S with
    |true =>
     right
     refine⟨_,rfl,?_⟩
     have hL:anyL ws S=true:=gQ.2 ⟨_,H9 g4,h⟩
     rw[if_pos hL]
    |false =>
     left
     refine⟨((ws.take (k+1)).flatMap (λw=>J5 o w S),k+1),?_,⟨g4,rfl,?_⟩,by simp only;omega⟩
     ·simp only[nT,if_false,aO]
      rw[L9 hx,eF]
      simp
     ·unfold anyL at g3 ⊢
      rw[L9 hx,CB,g3]
      simp[h]
   ·right
    have e:k=ws.length:=by omega
    subst e
    rw[M4]at g3 ⊢
    refine⟨_,by rw[B5],?_⟩
    rw[g3]
    rfl) fuel ([],0) ⟨F8 _,by simp,by simp[anyL]⟩ (by have:=O9;simp only;omega)
 obtain⟨r,e,rfl⟩:=key;unfold Y6 N5;rw[e,A5];cases hany:anyL ws S with
 |true=>rfl
 |false =>
  simp only[nT,if_false,aO]
  have a5:SmL (ws.flatMap λw=>J5 o w S):=by
   refine⟨by have:=a2 ws;omega,λx hx=>?_⟩;obtain⟨w,hw,hx⟩:=L6.1 hx
   have hf:M3 w S=false:=by
    cases hb:M3 w S with
    |false=>rfl
    |true=>rw[show anyL ws S=true from gQ.2 ⟨w,hw,hb⟩]at hany;cases hany
   rw[<- zU hf]at hx;have:=missB_mem hx;unfold SmW;omega
  rw[JW a5,A5]
end
end
section
def P9(x:A3×Int):Bool:=decide (x.2≠0)||decide (x.1≠[])
def uM{R:Type}(x:A3×Int)(k:Bool->Option R):((cond (decide (x.2≠0)) (some true) (some (decide (0<(x.1.length:Int)))):Option Bool)).bind k=k (P9 x):=by
 unfold P9;cases decide (x.2≠0) with
 |true=>rfl
 |false =>
  rw[D6,A5,cQ];congr 1;cases x.1<;>simp
section
variable {l:C7}{o:A6}
def gX{ws S:A3}(h:P9 (N5 o ws S)=false):∀w∈ws,M3 w S=false/\J5 o w S=[]:=by
 unfold P9 N5 at h;cases ha:anyL ws S with
 |true=>rw[ha]at h;simp at h
 |false =>
  rw[ha]at h;simp only[nT,if_false,ne_eq,not_true_eq_false,decide_false,cQ,decide_eq_false_iff_not,jF]at h;have h:=mX.1 h;intro w hw;refine⟨?_,?_⟩
  ·cases hb:M3 w S with
   |false=>rfl
   |true=>rw[show anyL ws S=true from gQ.2 ⟨w,hw,hb⟩]at ha;cases ha
  ·refine xL.2 λv hv=>?_;have:v∈ws.flatMap λw=>J5 o w S:=L6.2 ⟨w,hw,hv⟩;rw[h]at this;cases this
def miss_row{w:A2}{S:A3}(h:J5 o w S=[]):∃R,rowO o w S=some R :=
 yO λe he h2=>by
  have:w++e∈J5 o w S:=cY.2 ⟨⟨e,he,rfl⟩,h2⟩;rw[h]at this;cases this
def ProgOk(res:A3×A3×Int)(added:A3)(err:Int)(M:A3)(b:Bool):Prop :=
 (b=true/\res.2=([],3))\/(b=false/\err≠0/\res.2=([],err))\/(b=false/\err=0/\M≠[]/\SmL M/\res.2=(maxR M,0))\/(b=false/\err=0/\M=[]/\res=(added,[],0))
def uH{ws S:A3}(h1:ws.length<=100)(h2:S.length<=700)(added:A3) :
  P9 (N5 o ws S)=(anyL ws S||decide (ws.flatMap (λw=>P2 o w S)≠[]))/\(P9 (N5 o ws S)=true->ProgOk ([],N5 o ws S) added 0 (ws.flatMap λw=>P2 o w S) (anyL ws S)):=by
 have a2:∀W:A3,(W.flatMap λw=>P2 o w S).length<=700*W.length:=λW=>by
  induction W with
  |nil=>simp
  |cons w W ih =>
   have:=tX o w S;rw[P1,D7,H7];omega
 unfold P9 N5 ProgOk;cases ha:anyL ws S with
 |true=>exact⟨by simp,λ_=>.inl ⟨rfl,rfl⟩⟩
 |false =>
  have he:(ws.flatMap λw=>J5 o w S)=ws.flatMap λw=>P2 o w S:=by
   rw[BN,BN];congr 1;refine nV λw hw=>(zU ?_).symm;cases hb:M3 w S with
   |false=>rfl
   |true=>rw[show anyL ws S=true from gQ.2 ⟨w,hw,hb⟩]at ha;cases ha
  simp only[nT,if_false,ne_eq,not_true_eq_false,decide_false,cQ];rw[he];refine⟨?_,λh=>?_⟩
  ·by_cases hm:(ws.flatMap λw=>P2 o w S)=[]
   ·rw[hm];rfl
   ·have a3:maxR (ws.flatMap λw=>P2 o w S)≠[]:=λh=>hm (mX.1 h);simp only[hm,a3,not_false_eq_true,decide_true]
  ·have h:=of_decide_eq_true h;refine .inr (.inr (.inl ⟨trivial,trivial,λh3=>h (by rw[h3];rfl),⟨by have:=a2 ws;omega,λx hx=>?_⟩,rfl⟩));obtain⟨w,hw,hx⟩:=L6.1 hx;have:=missB_mem hx;unfold SmW;omega
def cV(l:C7)(o:A6):A2->A2->A2->A3->A3×A3×Int
 |a::b::v,u,r,A =>
  if P9 (N5 o [u++[a],r++[a]] l.X)=true then([],N5 o [u++[a],r++[a]] l.X)
  else if rowO o (u++[a]) l.X≠rowO o (r++[a]) l.X then(A,[],0)
  else match clsW l o ((rowO o (u++[a]) l.X).getD []) with
   |none=>([],[],10)
   |some f=>if P9 (N5 o [u++[a],f] [b::v])=true then([],N5 o [u++[a],f] [b::v])
    else cV l o (b::v) (if tailA o (u++[a]) (b::v)=tailA o f (b::v) then r++[a] else u++[a]) f (A++[if tailA o (u++[a]) (b::v)=tailA o f (b::v) then r++[a] else u++[a]])
 |_,_,_,A=>(A,[],0)
def uP{a b:Int}{v u r:A2}{A:A3}:cV l o (a::b::v) u r A =
  if P9 (N5 o [u++[a],r++[a]] l.X)=true then([],N5 o [u++[a],r++[a]] l.X)
  else if rowO o (u++[a]) l.X≠rowO o (r++[a]) l.X then(A,[],0)
  else match clsW l o ((rowO o (u++[a]) l.X).getD []) with
   |none=>([],[],10)
   |some f=>if P9 (N5 o [u++[a],f] [b::v])=true then([],N5 o [u++[a],f] [b::v])
    else cV l o (b::v) (if tailA o (u++[a]) (b::v)=tailA o f (b::v) then r++[a] else u++[a]) f (A++[if tailA o (u++[a]) (b::v)=tailA o f (b::v) then r++[a] else u++[a]]):=rfl
def RngW(w:A2):Prop:=∀a∈w,inR a
structure ChnOk(l:C7)(v u r:A2)(A:A3):Prop where
 h1:u.length+v.length<=2100
 h2:r.length<=400
 h3:A.length+v.length<=1200
 h4:RngW v/\RngW u/\RngW r
 h5:∀x∈A,x.length<=2100/\RngW x
def RngW.snoc{w:A2}{a:Int}(h:RngW w)(ha:inR a):RngW (w++[a]):=λx hx=>by
 rcases K0.1 hx with hx|hx
 ·exact h x hx
 ·rw[K2.1 hx];exact ha
def qU{R:Row}{f:A2}(h:clsW l o R=some f):f∈l.Short:=dE h
def ChnOk.next{a b:Int}{v u r f:A2}{A:A3}(H:ChnOk l (a::b::v) u r A)(ht:K7 (lazT l))(hf:f∈l.Short)(c:Prop)[Decidable c]:ChnOk l (b::v) (if c then r++[a] else u++[a]) f (A++[if c then r++[a] else u++[a]]):=by
 obtain⟨h1,h2,h3,⟨h4,h5,h6⟩,h7⟩:=H;simp only[H7]at h1 h3;have ha:=h4 a (by simp)
 have hl:(if c then r++[a] else u++[a]).length<=401\/(if c then r++[a] else u++[a]).length=u.length+1:=by
  split
  ·left;simp;omega
  ·right;simp
 have hr:RngW (if c then r++[a] else u++[a]):=by
  split
  ·exact h6.snoc ha
  ·exact h5.snoc ha
 refine⟨by simp only[H7];omega,ht.pw f hf,by simp only[D7,H7,V5];omega,⟨λx hx=>h4 x (K3 _ hx),hr,ht.sm.2.2.2 f hf⟩,λx hx=>?_⟩;rcases K0.1 hx with hx|hx
 ·exact h7 x hx
 ·rw[K2.1 hx];exact⟨by omega,hr⟩
def sml_two{a b:A2}(ha:SmW a)(hb:SmW b):SmL [a,b]:=⟨by simp,λx hx=>by
 rcases I2.1 hx with rfl|hx
 ·exact ha
 ·rw[K2.1 hx];exact hb⟩
def row_sml(hv:I6 o)(ht:K7 (lazT l)){w:A2}{R:Row}(h:rowO o w l.X=some R):SmL R:=by
 have h1:=oG hv ht h;exact⟨by have:=h1.1;omega,λx hx=>by have:=(h1.2 x hx).1;unfold SmW;omega⟩
def R28_chain_eq(ho:SmO o)(hv:I6 o)(ht:K7 (lazT l))(hc:chkL l o=0){v u r:A2}{A:A3}(H:ChnOk l v u r A)(hA:A=[u]):iI l o u r v=some (cV l o v u r A):=by
 have hs:l.X.length<=600:=ht.s;have hS:SmL l.X:=ht.sm.2.2.1;have hT:(⟨l.I,l.Short,l.X⟩:B8)=lazT l:=rfl;obtain⟨b3,_⟩:=oD hc
 have a7:∀s,SmW s->jP (lazT l) o s=some (tw (rowO o s l.X)):=λs hs=>by
  rw[R23_Row_eq ht.sm ho hv hs];unfold rowT;rw[if_neg (by simpa using b3)];rfl
 generalize a2:cV l o v u r A=res
 have key:=V3 (step:=λ(s:A2×A2×A2×A3)=>iI.s2 l o s.1 s.2.1 s.2.2.1 s.2.2.2) (λs=>ChnOk l s.2.2.1 s.1 s.2.1 s.2.2.2/\cV l o s.2.2.1 s.1 s.2.1 s.2.2.2=res) (λs=>s.2.2.1.length)
  (λq=>Sum.elim (λy=>(y,[],0)) id q=res) (λs ⟨H,a2⟩=>by
   obtain⟨u,r,v,A⟩:=s
   simp only at H a2
   have h1:=H.h1
   have h2:=H.h2
   simp only[iI.s2]
   match v,H,a2 with
   |[],_,a2=>exact .inr ⟨_,rfl,a2⟩
   |[_],_,a2=>exact .inr ⟨_,rfl,a2⟩
   |a::b::v,H,a2 =>
    have h1:=H.h1
    have h3:=H.h3
    simp only[H7]at h1 h3
    have a3:SmW (u++[a]):=by unfold SmW;simp;omega
    have b0:SmW (r++[a]):=by unfold SmW;simp;omega
    have b2:SmW (b::v):=by unfold SmW;simp;omega
    rw[C9 (by simp only[H7];omega),F0 (by simp only[H7];omega),show List.take 1 (a::b::v)=[a] from rfl,show List.drop 1 (a::b::v)=b::v from rfl]
    rw[gH _ (by simp) (by simp;omega),A5,F0 (by simp only[H7];omega),gH _ (by simp) (by simp;omega),A5,dV,dV]
    rw[AM ho hv (sml_two a3 b0) (by simp) (by omega) hS,A5,uM]
    rw[uP]at a2
    cases hst:P9 (N5 o [u++[a],r++[a]] l.X) with
    |true =>
     right
     rw[hst,if_pos rfl]at a2
     exact⟨_,rfl,a2⟩
    |false =>
     rw[hst,if_neg (by simp)]at a2
     obtain⟨_,m1⟩:=gX hst (u++[a]) (by simp)
     obtain⟨_,m2⟩:=gX hst (r++[a]) (by simp)
     obtain⟨R1,a5⟩:=miss_row m1
     obtain⟨R2,a8⟩:=miss_row m2
     have a6:=row_sml hv ht a5
     simp only[D6,bM,A5,hT]
     rw[a7 _ a3,a7 _ b0,a5,a8,A5,A5]
     simp only[tw]
     rw[nD R1 R2 (by have:=a6.1;omega) (λx hx=>by have:=a6.2 x hx;unfold SmW at this;omega),A5]
     rw[a5,a8]at a2
     by_cases hR:R1=R2
     ·subst hR
      rw[D3 rfl]
      rw[if_neg (by simp)]at a2
      simp only[Q3]at a2
      rw[N2,D6]
      rcases IQ ho hv ht hc a3 a5 with⟨q1,q2⟩|⟨i,f,q1,q2,q3,q4⟩
      ·right
       rw[q1,A5]
       rw[q2]at a2
       exact⟨_,rfl,a2⟩
      ·have hf:=qU q3
       have b4:f.length<=400:=ht.pw f hf
       have a9:SmW f:=by unfold SmW;omega
       rw[q1,A5,B5,F0 (by simp only[H7];omega),F9 rfl q2]
       rw[AM ho hv (sml_two a3 a9) (by simp) (by simp) (⟨by simp,λx hx=>by rw[K2.1 hx];exact b2⟩),A5,uM]
       rw[q3]at a2
       simp only at a2
       cases hst2:P9 (N5 o [u++[a],f] [b::v]) with
       |true =>
        right
        rw[hst2,if_pos rfl]at a2
        exact⟨_,rfl,a2⟩
       |false =>
        left
        rw[hst2,if_neg (by simp)]at a2
        refine⟨((if tailA o (u++[a]) (b::v)=tailA o f (b::v) then r++[a] else u++[a]),f,b::v,A++[if tailA o (u++[a]) (b::v)=tailA o f (b::v) then r++[a] else u++[a]]),?_,⟨H.next ht hf _,a2⟩,by simp⟩
        rw[D6,F9 rfl q2,JM ho hv a3 a9 b2 (by simp;omega),A5]
        by_cases a4:tailA o (u++[a]) (b::v)=tailA o f (b::v)
        ·rw[D3 a4,N2,D6,A5,F9 rfl q2,F0 (lL (by omega)),if_pos a4]
        ·rw[E2 a4,aG,D2,A5,F9 rfl q2,F0 (lL (by omega)),if_neg a4]
     ·right
      rw[E2 hR]
      rw[if_pos (by simpa using hR)]at a2
      exact⟨_,rfl,a2⟩) fuel (u,r,v,[u]) ⟨hA ▸ H,hA ▸ a2⟩ (by have:=O9;have:=H.h3;simp only;omega)
 obtain⟨q,e,hq⟩:=key;unfold iI;rw[e,A5];cases q with
 |inl y=>simp only[aO]at hq ⊢;rw[hq]
 |inr y=>simp only[BK,id]at hq ⊢;rw[hq]
def refR(l:C7)(o:A6)(u v:A2):A3×A3×Int :=
 if P9 (N5 o [u] l.X)=true then([],N5 o [u] l.X)
 else match clsW l o ((rowO o u l.X).getD []) with
  |none=>([],[],10)
  |some f=>if P9 (N5 o [u,f] [v])=true then([],N5 o [u,f] [v])
   else if tailA o u v=tailA o f v then([],[],15)
   else cV l o v u f [u]
def laz_eta:(⟨l.I,l.Short,l.X⟩:C7)=l:=rfl
def obs_eta:(⟨o.I,o.T⟩:A6)=o:=rfl
def flat2(a b:A2)(S:A3):([a,b].flatMap λw=>P2 o w S)=P2 o a S++P2 o b S:=by simp
def any2(a b:A2)(S:A3):anyL [a,b] S=(M3 a S||M3 b S):=by simp[anyL]
def flat1(a:A2)(S:A3):([a].flatMap λw=>P2 o w S)=P2 o a S:=by simp
def any1(a:A2)(S:A3):anyL [a] S=M3 a S:=by simp[anyL]
def tailA_len(hv:I6 o)(w e:A2):(tailA o w e).length<=e.length:=by
 cases ha:ansO o (w++e) with
 |none=>rw[EW ha];simp
 |some q =>
  have:=iF hv ha;rw[yG ha,O5,this,D7];omega
def yZ{w S:A3}(h:P9 (N5 o w S)=false)(h1:w.length<=100)(h2:S.length<=700):anyL w S=false/\(w.flatMap λw=>P2 o w S)=[]:=by
 have:=(uH (o:=o) h1 h2 []).1;rw[h]at this;have:=this.symm;rw[Bool.or_eq_false_iff]at this;exact⟨this.1,jF.1 (of_decide_eq_false this.2)⟩
def zq53(ho:SmO o)(hv:I6 o)(ht:K7 (lazT l))(hc:chkL l o=0){v u r:A2}{A:A3}(H:ChnOk l v u r A)(hA:A=[u]) :
  ∃added err M b,(iter (λ(s:Int×A3×A3×Int×List A8×A3×Bool×A2×A2×A2×A3)=>bR.s2 s.1 s.2.1 s.2.2.1 s.2.2.2.1 s.2.2.2.2.1 s.2.2.2.2.2.1 s.2.2.2.2.2.2.1 s.2.2.2.2.2.2.2.1 s.2.2.2.2.2.2.2.2.1 s.2.2.2.2.2.2.2.2.2.1 s.2.2.2.2.2.2.2.2.2.2) fuel (l.I,l.Short,l.X,o.I,o.T,[],false,u,v,r,[u])).bind
   (Sum.elim (λ(s:Int×A3×A3×Int×List A8×A3×Bool×A3)=>bR.k3 s.1 s.2.1 s.2.2.1 s.2.2.2.1 s.2.2.2.2.1 s.2.2.2.2.2.1 s.2.2.2.2.2.2.1 s.2.2.2.2.2.2.2) some)=some (added,err,⟨l,o,M,b⟩)/\ProgOk (cV l o v u r A) added err M b:=by
 have hs:l.X.length<=600:=ht.s;have hS:SmL l.X:=ht.sm.2.2.1;generalize a2:cV l o v u r A=res
 have key:=V3 (step:=λ(s:Int×A3×A3×Int×List A8×A3×Bool×A2×A2×A2×A3)=>bR.s2 s.1 s.2.1 s.2.2.1 s.2.2.2.1 s.2.2.2.2.1 s.2.2.2.2.2.1 s.2.2.2.2.2.2.1 s.2.2.2.2.2.2.2.1 s.2.2.2.2.2.2.2.2.1 s.2.2.2.2.2.2.2.2.2.1 s.2.2.2.2.2.2.2.2.2.2)
  (λs=>∃u v r A,s=(l.I,l.Short,l.X,o.I,o.T,[],false,u,v,r,A)/\ChnOk l v u r A/\cV l o v u r A=res) (λs=>s.2.2.2.2.2.2.2.2.1.length)
  (λq=>∃added err M b,ProgOk res added err M b/\((q=.inl (l.I,l.Short,l.X,o.I,o.T,M,b,added)/\err=0)\/q=.inr (added,err,⟨l,o,M,b⟩))) (λs ⟨u,v,r,A,b0,H,a2⟩=>by
   subst b0
   have h1:=H.h1
   have h2:=H.h2
   simp only[bR.s2]
   have fin:v.length<=1->(cond (decide (1<(v.length:Int))))=λ(_:Option ((Int×A3×A3×Int×List A8×A3×Bool×A2×A2×A2×A3)⊕((Int×A3×A3×Int×List A8×A3×Bool×A3)⊕(A3×Int×J2)))) x=>x:=λh=>by
    funext x y
    rw[E2 (by omega)]
    rfl
   match v,H,a2,fin with
   |[],_,a2,_=>exact .inr ⟨_,rfl,A,0,[],false,.inr (.inr (.inr ⟨rfl,rfl,rfl,a2.symm⟩)),.inl ⟨rfl,rfl⟩⟩
   |[_],_,a2,_=>exact .inr ⟨_,rfl,A,0,[],false,.inr (.inr (.inr ⟨rfl,rfl,rfl,a2.symm⟩)),.inl ⟨rfl,rfl⟩⟩
   |a::b::v,H,a2,_ =>
    have h1:=H.h1
    have h3:=H.h3
    simp only[H7]at h1 h3
    have a8:SmW (u++[a]):=by unfold SmW;simp;omega
    have b4:SmW (r++[a]):=by unfold SmW;simp;omega
    have a7:SmW (b::v):=by unfold SmW;simp;omega
    rw[C9 (by simp only[H7];omega),F0 (by simp only[H7];omega),show List.take 1 (a::b::v)=[a] from rfl,show List.drop 1 (a::b::v)=b::v from rfl]
    rw[iU _ (by simp) (by simp;omega),A5,F0 (by simp only[H7];omega),iU _ (by simp) (by simp;omega),A5,dV,dV,F0 (by simp only[H7];omega)]
    have b6:=tX o (u++[a]) l.X
    obtain⟨R1,e1,f1⟩:=FP (l:=l) (M:=[]) (b:=false) ho hv ht a8 (by simp)
    obtain⟨R2,e2,f2⟩:=FP (l:=l) (M:=[]++P2 o (u++[a]) l.X) (b:=false||M3 (u++[a]) l.X) ho hv ht b4 (by simp;omega)
    simp only[laz_eta,obs_eta]
    rw[e1,A5]
    simp only[laz_eta,obs_eta]
    rw[e2,A5]
    simp only[laz_eta,obs_eta]
    rw[AQ,A5]
    simp only[Y9,cQ]
    obtain⟨p1,p2⟩:=uH (o:=o) (ws:=[u++[a],r++[a]]) (S:=l.X) (by simp) (by omega) []
    rw[flat2,any2]at p1 p2
    rw[<- p1]
    rw[uP]at a2
    cases hst:P9 (N5 o [u++[a],r++[a]] l.X) with
    |true =>
     right
     rw[hst,if_pos rfl]at a2
     exact⟨_,rfl,[],0,_,_,a2 ▸ p2 hst,.inr rfl⟩
    |false =>
     rw[hst,if_neg (by simp)]at a2
     obtain⟨z1,z2⟩:=yZ hst (by simp) (by omega)
     rw[any2]at z1
     rw[flat2]at z2
     rw[z1,z2]
     obtain⟨l1,m1⟩:=gX hst (u++[a]) (by simp)
     obtain⟨l2,m2⟩:=gX hst (r++[a]) (by simp)
     have a5:=f1 l1 m1
     have a9:=f2 l2 m2
     have a4:=row_sml hv ht a5
     simp only[D6]
     rw[IY _ _ a4,A5]
     rw[a5,a9]at a2
     by_cases hR:R1=R2
     ·subst hR
      rw[D3 rfl]
      rw[if_neg (by simp)]at a2
      simp only[Q3]at a2
      rw[N2,D6]
      rw[KI ho hv ht hc a4,A5]
      cases hcl:clsW l o R1 with
      |none =>
       right
       rw[hcl]at a2
       exact⟨_,rfl,[],10,[],false,.inr (.inl ⟨rfl,by decide,a2 ▸ rfl⟩),.inr rfl⟩
      |some f =>
       have hf:=qU hcl
       have b5:f.length<=400:=ht.pw f hf
       have b2:SmW f:=by unfold SmW;omega
       rw[hcl]at a2
       simp only[xE,N2,D6,Q3]at a2 ⊢
       obtain⟨s1,s2,s3⟩:=uI (o:=o) (u++[a]) (b::v) [] false
       have a6:=tX o (u++[a]) [b::v]
       simp only[S6]at a6
       obtain⟨t1,t2,t3⟩:=uI (o:=o) f (b::v) ([]++P2 o (u++[a]) [b::v]) (false||M3 (u++[a]) [b::v])
       rw[vP ho hv a8 a7 (by simp),A5]
       simp only[s1,s2]
       rw[vP ho hv b2 a7 (by simp;omega),A5]
       simp only[t1,t2]
       rw[AQ,A5]
       simp only[Y9,cQ]
       obtain⟨p1,p2⟩:=uH (o:=o) (ws:=[u++[a],f]) (S:=[b::v]) (by simp) (by simp) []
       rw[flat2,any2]at p1 p2
       rw[<- p1]
       cases hst2:P9 (N5 o [u++[a],f] [b::v]) with
       |true =>
        right
        rw[hst2,if_pos rfl]at a2
        exact⟨_,rfl,[],0,_,_,a2 ▸ p2 hst2,.inr rfl⟩
       |false =>
        left
        rw[hst2,if_neg (by simp)]at a2
        obtain⟨z1,z2⟩:=yZ hst2 (by simp) (by simp)
        rw[any2]at z1
        rw[flat2]at z2
        obtain⟨l3,m3⟩:=gX hst2 (u++[a]) (by simp)
        obtain⟨l4,m4⟩:=gX hst2 f (by simp)
        simp only[Y9,cQ]at t3
        refine⟨_,?_,⟨_,_,_,_,rfl,H.next ht hf _,a2⟩,by simp⟩
        have b3:=tailA_len hv (u++[a]) (b::v)
        simp only[H7]at b3
        rw[D6,s3 l3 m3,t3 l4 m4,pQ _ _ (by omega),A5,z1,z2]
        by_cases a3:tailA o (u++[a]) (b::v)=tailA o f (b::v)
        ·rw[D3 a3,N2,D6,A5,F0 (lL (by omega)),if_pos a3]
        ·rw[E2 a3,aG,D2,A5,F0 (lL (by omega)),if_neg a3]
     ·right
      rw[E2 hR]
      rw[if_pos (by simpa using hR)]at a2
      exact⟨_,rfl,A,0,[],false,.inr (.inr (.inr ⟨rfl,rfl,rfl,a2.symm⟩)),.inr rfl⟩) fuel (l.I,l.Short,l.X,o.I,o.T,[],false,u,v,r,[u]) ⟨u,v,r,[u],rfl,hA ▸ H,hA ▸ a2⟩ (by have:=O9;have:=H.h3;simp only;omega)
 obtain⟨q,e,added,err,M,b,hp,hq⟩:=key;refine⟨added,err,M,b,?_,hp⟩;rw[e,A5];rcases hq with⟨rfl,rfl⟩|rfl
 ·rfl
 ·rfl
end
end
def IX:tW=some true:=by decide +kernel
section
section
variable {l:C7}{o:A6}
def HW(ht:K7 (lazT l)):∀(v u r:A2) (A:A3),ChnOk l v u r A->(cV l o v u r A).1.length<=1200/\∀x∈(cV l o v u r A).1,x.length<=2100/\RngW x
 |[],u,r,A,H=>⟨by have:=H.h3;exact S1 (sP _ _) this,H.h5⟩
 |[_],u,r,A,H=>⟨by have:=H.h3;exact S1 (sP _ _) this,H.h5⟩
 |a::b::v,u,r,A,H=>by
  have h0:∀x:A3×Int,(([]:A3),x).1.length<=1200/\∀y∈(([]:A3),x).1,y.length<=2100/\RngW y:=λx=>⟨by simp,λy hy=>by cases hy⟩;rw[uP];split
  ·exact h0 _
  ·split
   ·exact⟨by have:=H.h3;exact S1 (sP _ _) this,H.h5⟩
   ·cases hcl:clsW l o ((rowO o (u++[a]) l.X).getD []) with
    |none=>exact h0 _
    |some f =>
     simp only;split
     ·exact h0 _
     ·exact HW ht (b::v) _ _ _ (H.next ht (qU hcl) _)
def yI{ws S:A3}(h1:ws.length<=100)(h2:S.length<=700):SmL (N5 o ws S).1:=by
 have a2:∀W:A3,(W.flatMap λw=>J5 o w S).length<=700*W.length:=λW=>by
  induction W with
  |nil=>simp
  |cons w W ih =>
   have:=jW o w S;rw[P1,D7,H7];omega
 unfold N5;cases ha:anyL ws S with
 |true=>exact U4
 |false =>
  rw[if_neg (by simp)];refine⟨by have:=zq16 (ws.flatMap λw=>J5 o w S);have:=a2 ws;simp only;omega,λx hx=>?_⟩;obtain⟨w,hw,hx⟩:=L6.1 (yF hx)
  have hf:M3 w S=false:=by
   cases hb:M3 w S with
   |false=>rfl
   |true=>rw[show anyL ws S=true from gQ.2 ⟨w,hw,hb⟩]at ha;cases ha
  rw[<- zU hf]at hx;have:=missB_mem hx;unfold SmW;omega
def chain_ask(ht:K7 (lazT l)):∀(v u r:A2) (A:A3),SmL (cV l o v u r A).2.1
 |[],_,_,_=>U4
 |[_],_,_,_=>U4
 |a::b::v,u,r,A=>by
  have hs:l.X.length<=600:=ht.s;rw[uP];split
  ·exact yI (by simp) (by omega)
  ·split
   ·exact U4
   ·cases hcl:clsW l o ((rowO o (u++[a]) l.X).getD []) with
    |none=>exact U4
    |some f =>
     simp only;split
     ·exact yI (by simp) (by simp)
     ·exact chain_ask ht (b::v) _ _ _
def refR_ask(ht:K7 (lazT l))(u v:A2):SmL (refR l o u v).2.1:=by
 have hs:l.X.length<=600:=ht.s;unfold refR;split
 ·exact yI (by simp) (by omega)
 ·cases hcl:clsW l o ((rowO o u l.X).getD []) with
  |none=>exact U4
  |some f =>
   simp only;split
   ·exact yI (by simp) (by simp)
   ·split
    ·exact U4
    ·exact chain_ask ht _ _ _ _
structure RefIn(u v:A2):Prop where
 h1:u.length<=1025
 h2:v.length<=1024
 h3:RngW u
 h4:RngW v
def RefIn.ch{u v f:A2}(H:RefIn u v)(ht:K7 (lazT l))(hf:f∈l.Short):ChnOk l v u f [u] :=
 ⟨by have:=H.h1;have:=H.h2;omega,ht.pw f hf,by have:=H.h2;simp;omega,⟨H.h4,H.h3,ht.sm.2.2.2 f hf⟩,λx hx=>by rw[K2.1 hx];exact⟨by have:=H.h1;omega,H.h3⟩⟩
def DT(ht:K7 (lazT l)){u v:A2}(H:RefIn u v):(refR l o u v).1.length<=1200/\∀x∈(refR l o u v).1,x.length<=2100/\RngW x:=by
 have h0:∀x:A3×Int,(([]:A3),x).1.length<=1200/\∀y∈(([]:A3),x).1,y.length<=2100/\RngW y:=λx=>⟨by simp,λy hy=>by cases hy⟩;unfold refR;split
 ·exact h0 _
 ·cases hcl:clsW l o ((rowO o u l.X).getD []) with
  |none=>exact h0 _
  |some f =>
   simp only;split
   ·exact h0 _
   ·split
    ·exact h0 _
    ·exact HW ht _ _ _ _ (H.ch ht (qU hcl))
def zyt(ho:SmO o)(hv:I6 o)(ht:K7 (lazT l))(hc:chkL l o=0){u v:A2}(H:RefIn u v) :
  ∃added err M b,bR ⟨l,o,[],false⟩ u v=some (added,err,⟨l,o,M,b⟩)/\ProgOk (refR l o u v) added err M b:=by
 have hs:l.X.length<=600:=ht.s;have h1:=H.h1;have h2:=H.h2;have hu:SmW u:=by unfold SmW;omega
 have a4:SmW v:=by unfold SmW;omega
 obtain⟨R1,e1,f1⟩:=FP (l:=l) (M:=[]) (b:=false) ho hv ht hu (by simp);unfold bR refR;rw[e1,A5];simp only[laz_eta,obs_eta];rw[AQ,A5];simp only[Y9,cQ];obtain⟨p1,p2⟩:=uH (o:=o) (ws:=[u]) (S:=l.X) (by simp) (by omega) [];rw[flat1,any1]at p1 p2;rw[<- p1];cases hst:P9 (N5 o [u] l.X) with
 |true=>exact⟨[],0,_,_,rfl,by rw[if_pos rfl];exact p2 hst⟩
 |false =>
  rw[if_neg (by simp)];obtain⟨z1,z2⟩:=yZ hst (by simp) (by omega);rw[any1]at z1;rw[flat1]at z2;rw[z1,z2];obtain⟨l1,m1⟩:=gX hst u (by simp);have a6:=f1 l1 m1;have a5:=row_sml hv ht a6;simp only[D6];rw[KI ho hv ht hc a5,A5,a6,Q3];cases hcl:clsW l o R1 with
  |none=>exact⟨[],10,[],false,rfl,.inr (.inl ⟨rfl,by decide,rfl⟩)⟩
  |some f =>
   have hf:=qU hcl;have a8:f.length<=400:=ht.pw f hf;have a7:SmW f:=by unfold SmW;omega
   simp only[xE,N2,D6,Q3];obtain⟨s1,s2,s3⟩:=uI (o:=o) u v [] false;have a3:=tX o u [v];simp only[S6]at a3;obtain⟨t1,t2,t3⟩:=uI (o:=o) f v ([]++P2 o u [v]) (false||M3 u [v]);rw[vP ho hv hu a4 (by simp),A5];simp only[s1,s2];rw[vP ho hv a7 a4 (by simp;omega),A5];simp only[t1,t2];rw[AQ,A5];simp only[Y9,cQ];obtain⟨p1,p2⟩:=uH (o:=o) (ws:=[u,f]) (S:=[v]) (by simp) (by simp) [];rw[flat2,any2]at p1 p2;rw[<- p1];cases hst2:P9 (N5 o [u,f] [v]) with
   |true=>exact⟨[],0,_,_,rfl,by rw[if_pos rfl];exact p2 hst2⟩
   |false =>
    rw[if_neg (by simp)];obtain⟨z1,z2⟩:=yZ hst2 (by simp) (by simp);rw[any2]at z1;rw[flat2]at z2;obtain⟨l3,m3⟩:=gX hst2 u (by simp);obtain⟨l4,m4⟩:=gX hst2 f (by simp);simp only[Y9,cQ]at t3;have a9:=tailA_len hv u v;rw[D6,s3 l3 m3,t3 l4 m4,pQ _ _ (by omega),A5,z1,z2];by_cases a2:tailA o u v=tailA o f v
    ·rw[C9 a2,if_pos a2];exact⟨[],15,[],false,rfl,.inr (.inl ⟨rfl,by decide,rfl⟩)⟩
    ·rw[B5 a2,if_neg a2];exact zq53 ho hv ht hc (H.ch ht hf) rfl
def iB(s:J8)(n:Int):Int:=if H1 s.Prefix n≠0 then H1 s.Prefix n else if s.Symbol<0\/n<=s.Symbol then 2 else if s.Suffix=[] then 19 else H1 s.Suffix n
def check_len{w:A2}{n:Int}(h:H1 w n=0):w.length<=1024:=by
 unfold H1 at h;split at h
 ·split at h
  ·cases h
  ·omega
 ·cases h
def or_step{R:Type}(a b:Prop)[Decidable a][Decidable b](k:Bool->Option R):((cond (decide a) (some true) (some (decide b)):Option Bool)).bind k=k (decide (a\/b)):=by
 by_cases h:a
 ·rw[D3 h,D3 (Or.inl h)];rfl
 ·rw[B5 h,A5];congr 1;simp[h]
def R27_Proper_eq{s:J8}{n:Int}(h1:SmW s.Prefix)(h2:SmW s.Suffix):uK s n=some (iB s n):=by
 unfold uK iB;rw[kJ _ _ h1,A5];by_cases c1:H1 s.Prefix n=0
 ·rw[B5 (by simpa using c1),if_neg (by simpa using c1),or_step];by_cases c2:s.Symbol<0\/n<=s.Symbol
  ·rw[C9 c2,if_pos c2]
  ·rw[B5 c2,if_neg c2];by_cases c3:s.Suffix=[]
   ·rw[if_pos c3,c3];rfl
   ·rw[if_neg c3,B5 (λh=>c3 (S9 (by omega))),kJ _ _ h2,A5]
 ·rw[C9 c1,if_pos c1]
def proper_in{s:J8}{n:Int}(h:iB s n=0)(hn:n<=1024):RefIn (s.Prefix++[s.Symbol]) s.Suffix/\H1 s.Prefix n=0/\H1 s.Suffix n=0/\0<=s.Symbol/\s.Symbol<n/\s.Suffix≠[]:=by
 unfold iB at h;split at h
 ·rename_i c;exact absurd h c
 ·rename_i c1;have c1:H1 s.Prefix n=0:=jF.1 c1;split at h
  ·cases h
  ·rename_i c2;split at h
   ·cases h
   ·rename_i c3;have r1:RngW s.Prefix:=λa ha=>by have:=aB c1 a ha;unfold inR;omega
    have r2:RngW s.Suffix:=λa ha=>by have:=aB h a ha;unfold inR;omega
    have l1:=check_len c1;have l2:=check_len h;exact⟨⟨by simp;omega,l2,r1.snoc (by unfold inR;omega),r2⟩,c1,h,by omega,by omega,c3⟩
def X9(l:C7)(A:A3):C7:=⟨l.I,sortW (l.Short++A),l.X⟩
def eS(l:C7)(o:A6)(s:J8):C7×A3×Int :=
 if chkL l o≠0 then(l,[],chkL l o) else if iB s l.I≠0 then(l,[],iB s l.I)
 else if P9 (refR l o (s.Prefix++[s.Symbol]) s.Suffix).2=true then(l,(refR l o (s.Prefix++[s.Symbol]) s.Suffix).2)
 else if V0 (X9 l (refR l o (s.Prefix++[s.Symbol]) s.Suffix).1)≠0 then(l,[],V0 (X9 l (refR l o (s.Prefix++[s.Symbol]) s.Suffix).1))
 else(X9 l (refR l o (s.Prefix++[s.Symbol]) s.Suffix).1,[],0)
def grownL_sm(ht:K7 (lazT l)){A:A3}(h1:A.length<=1200)(h2:∀x∈A,x.length<=2100/\RngW x):SmT (lazT (X9 l A)):=by
 have hp:l.Short.length<=600:=ht.p;refine⟨ht.sm.1,mT (rN (by omega) ht.sm.2.1 ⟨by omega,λx hx=>by have:=(h2 x hx).1;unfold SmW;omega⟩),ht.sm.2.2.1,λx hx a ha=>?_⟩;rcases K0.1 ((aC _ _).1 hx) with hx|hx
 ·exact ht.sm.2.2.2 x hx a ha
 ·exact(h2 x hx).2 a ha
def R28_Refine_eq(ho:SmO o)(hv:I6 o)(ht:K7 (lazT l)){s:J8}(h1:SmW s.Prefix)(h2:SmW s.Suffix):uS l o s=some (eS l o s):=by
 have hs:l.X.length<=600:=ht.s;have hS:SmL l.X:=ht.sm.2.2.1;have hn:l.I<=4:=ht.n;have hp:l.Short.length<=600:=ht.p;unfold uS eS;rw[FX ht.sm,A5];by_cases hc:chkL l o=0
 ·obtain⟨_,_,_,a8⟩:=oD hc;obtain⟨_,_,b5,b0,_⟩:=Z9 a8;rw[B5 (by simpa using hc),if_neg (by simpa using hc),R27_Proper_eq h1 h2,A5];by_cases a3:iB s l.I=0
  ·rw[B5 (by simpa using a3),if_neg (by simpa using a3)];obtain⟨H,_⟩:=proper_in a3 (by omega);have a9:=H.h1;have b4:=H.h2;rw[gH _ (by simp) (by unfold SmW at h1;simp;omega),A5,dV];generalize hu:s.Prefix++[s.Symbol]=u at H a9 ⊢;have a5:SmW u:=by unfold SmW;omega
   have hA:=DT (o:=o) ht H;rw[AM ho hv (ws:=[u]) ⟨by simp,λx hx=>by rw[K2.1 hx];exact a5⟩ (by simp) (by omega) hS,A5,uM];generalize a2:refR l o u s.Suffix=res at hA ⊢;unfold refR at a2;cases hst:P9 (N5 o [u] l.X) with
   |true =>
    rw[hst,if_pos rfl]at a2;rw[D2,<- a2,if_pos hst]
   |false =>
    rw[hst,if_neg (by simp)]at a2;obtain⟨_,m1⟩:=gX hst u (by simp);obtain⟨R1,a7⟩:=miss_row m1;rw[a7,Q3]at a2;rw[D6];rcases IQ ho hv ht hc a5 a7 with⟨q1,q2⟩|⟨i,f,q1,q2,q3,q4⟩
    ·rw[q2]at a2;rw[q1,A5,<- a2];rfl
    ·have hf:=qU q3;have b3:f.length<=400:=ht.pw f hf;have a6:SmW f:=by unfold SmW;omega
     rw[q3]at a2;simp only at a2;rw[q1,A5,B5,F9 rfl q2,AM ho hv (sml_two a5 a6) (by simp) (by simp) (⟨by simp,λx hx=>by rw[K2.1 hx];exact h2⟩),A5,uM];cases hst2:P9 (N5 o [u,f] [s.Suffix]) with
     |true =>
      rw[hst2,if_pos rfl]at a2;rw[D2,<- a2,if_pos hst2]
     |false =>
      rw[hst2,if_neg (by simp)]at a2;rw[D6,F9 rfl q2,JM ho hv a5 a6 h2 (by omega),A5];by_cases a4:tailA o u s.Suffix=tailA o f s.Suffix
      ·rw[if_pos a4]at a2;rw[D3 a4,N2,aG,D2,<- a2];rfl
      ·rw[if_neg a4]at a2;rw[E2 a4,aG,N2,D6,F9 rfl q2,R28_chain_eq ho hv ht hc (H.ch ht hf) rfl,a2,A5,uM];cases hst3:P9 res.2 with
       |true=>rw[D2,if_pos rfl]
       |false =>
        have b2:=grownL_sm ht hA.1 hA.2;rw[D6,if_neg (by simp)]
        have hW:mU ⟨l.I,l.Short,l.X⟩ res.1 []=some ⟨l.I,sortW (l.Short++res.1),l.X⟩:=by
         have h:=DZ (t:=lazT l) (p:=res.1) (s:=[]) ht.sm.2.1 hS ⟨by omega,λx hx=>by have:=(hA.2 x hx).1;unfold SmW;omega⟩ U4 (by have:(lazT l).P.length<=600:=hp;omega) (by have:(lazT l).X.length<=600:=hs;simp;omega);rw[show(⟨l.I,l.Short,l.X⟩:B8)=lazT l from rfl,h];show some (⟨l.I,sortW (l.Short++res.1),sortW (l.X++[])⟩:B8)=_;rw[S5,nE (l:=l.X) b0]
        unfold bM R28_Of;rw[A5,hW,A5,A5];simp only;rw[show(⟨l.I,sortW (l.Short++res.1),l.X⟩:C7)=X9 l res.1 from rfl,JE b2,A5];by_cases c5:V0 (X9 l res.1)=0
        ·rw[B5 (by simpa using c5),if_neg (by simpa using c5)]
        ·rw[C9 c5,if_pos c5]
  ·rw[C9 a3,if_pos a3]
 ·rw[C9 hc,if_pos hc]
def with_all(ht:K7 (lazT l))(hAp:Asc l.Short){A:A3}(h1:A.length<=1200)(h2:∀x∈A,x.length<=2100/\RngW x)(c:A3×Int×J2)(hcA:c.1=A) :
  iter (λ(s:A3×Nat)=>gF.s2 c s.1 s.2) fuel (l.Short,0)=some (sortW (l.Short++A)):=by
 have hp:l.Short.length<=600:=ht.p;have a2:∀i x,x∈(A.take i).foldl insW l.Short->x∈l.Short\/x∈A:=λi x hx=>((rM (A.take i) l.Short hAp).2.1 x).1 hx |>.imp_right Q1
 refine O4 (λs=>s.2<=A.length/\s.1=(A.take s.2).foldl insW l.Short) (λs=>A.length-s.2) (λs ⟨g1,g2⟩=>?_) ⟨F8 _,rfl⟩;obtain⟨y,i⟩:=s;simp only at g1 g2;subst g2;obtain⟨q1,q2,q3⟩:=rM (A.take i) l.Short hAp;simp only[gF.s2];rw[hcA];by_cases g3:i<A.length
 ·left;have hx:=get_at g3;have a3:=h2 _ (H9 g3);refine⟨((A.take (i+1)).foldl insW l.Short,i+1),?_,⟨g3,rfl⟩,by simp only;omega⟩;rw[I8 hx,D2,C6 hx,EV q1 ⟨by rw[H6]at q3;omega,λx hx=>?_⟩ (by unfold SmW;omega),A5,L9 hx,List.foldl_append]
  ·rfl
  ·rcases a2 i x hx with h|h
   ·exact ht.sm.2.1.2 x h
   ·have:=(h2 x h).1;unfold SmW;omega
 ·right;have e:i=A.length:=by omega
  subst e;rw[B5,M4,sortW_append,nE hAp]
def lazy_Refine_eq(ho:SmO o)(hv:I6 o)(ht:K7 (lazT l)){s:J8}(h1:SmW s.Prefix)(h2:SmW s.Suffix):gF l o s=some (eS l o s):=by
 have hS:SmL l.X:=ht.sm.2.2.1;have hn:l.I<=4:=ht.n;unfold gF eS;rw[FQ ht.sm,A5];by_cases hc:chkL l o=0
 ·obtain⟨_,_,_,a5⟩:=oD hc;obtain⟨_,_,a8,a9,_⟩:=Z9 a5;rw[B5 (by simpa using hc),if_neg (by simpa using hc),nH _ _ h1,A5];by_cases a2:iB s l.I=0
  ·rw[if_neg (by simpa using a2)];obtain⟨H,c1,c2,c3,c4,c5⟩:=proper_in a2 (by omega);rw[B5 (by simpa using c1),or_step,B5,B5 (λh=>c5 (S9 (by omega))),nH _ _ h2,A5,B5 (by simpa using c2)];rw[iU _ (by simp) (by unfold SmW at h1;simp;omega),A5,dV];obtain⟨a3,b0,M,b,e,P⟩:=zyt ho hv ht hc H;have hA:=DT (o:=o) ht H;rw[e,A5];generalize refR l o (s.Prefix++[s.Symbol]) s.Suffix=res at P hA ⊢;rcases P with⟨rfl,p⟩|⟨rfl,p1,p2⟩|⟨rfl,rfl,p1,p2,p3⟩|⟨rfl,rfl,rfl,rfl⟩
   ·simp only[D2];rw[p];rfl
   ·simp only[D6];rw[C9 p1,p2];unfold P9;rw[D3 p1];rfl
   ·simp only[D6,ne_eq,not_true_eq_false,decide_false];rw[C9 (qI p1),LM p2,A5,p3];have a7:maxR M≠[]:=λh=>p1 (mX.1 h);rw[if_pos (by unfold P9;simp[a7])]
   ·have a4:=grownL_sm ht hA.1 hA.2;simp only[D6,ne_eq,not_true_eq_false,decide_false,V5,wW,GO,BX];rw[with_all ht a8 hA.1 hA.2 _ rfl,A5,show(⟨l.I,sortW (l.Short++a3),l.X⟩:C7)=X9 l a3 from rfl,AF a4,A5];have a6:P9 (([]:A3),(0:Int))=false:=rfl;rw[a6,if_neg (by simp)];by_cases c5:V0 (X9 l a3)=0
    ·rw[B5 (by simpa using c5),if_neg (by simpa using c5),FG a4.2.1 hS,A5]
    ·rw[C9 c5,if_pos c5]
  ·rw[if_pos a2];unfold iB at a2 ⊢;by_cases c1:H1 s.Prefix l.I=0
   ·rw[if_neg (by simpa using c1)]at a2 ⊢;rw[B5 (by simpa using c1),or_step];by_cases c2:s.Symbol<0\/l.I<=s.Symbol
    ·rw[if_pos c2,D3 c2];rfl
    ·rw[if_neg c2]at a2 ⊢;rw[B5 c2];by_cases c3:s.Suffix=[]
     ·rw[if_pos c3,c3];rfl
     ·rw[if_neg c3]at a2 ⊢;rw[B5 (λh=>c3 (S9 (by omega))),nH _ _ h2,A5,C9 a2]
   ·rw[if_pos c1,C9 c1]
 ·rw[C9 hc,if_pos hc]
def refineL_ok(ht:K7 (lazT l)){s:J8}:SmL (eS l o s).1.Short/\SmL (eS l o s).1.X/\SmL (eS l o s).2.1:=by
 have h0:∀x:Int,SmL (l,([]:A3),x).1.Short/\SmL (l,([]:A3),x).1.X/\SmL (l,([]:A3),x).2.1:=λx=>⟨ht.sm.2.1,ht.sm.2.2.1,U4⟩;have hn:l.I<=4:=ht.n;unfold eS;split
 ·exact h0 _
 ·split
  ·exact h0 _
  ·rename_i a2;obtain⟨H,_⟩:=proper_in (jF.1 a2) (by omega);have hA:=DT (o:=o) ht H;split
   ·exact⟨ht.sm.2.1,ht.sm.2.2.1,refR_ask ht _ _⟩
   ·split
    ·exact h0 _
    ·have:=grownL_sm ht hA.1 hA.2;exact⟨this.2.1,this.2.2.1,U4⟩
end
end
section
structure GrowOk(l u:C7):Prop where
 v:V0 u=0
 sm:SmT (lazT u)
 p:∀x∈l.Short,x∈u.Short
 s:∀x∈l.X,x∈u.X
section
variable {l u:C7}{o:A6}
def pG(h:V0 u=0):M5 (lazT u)=0/\sufB u.X=true:=by
 unfold V0 at h;split at h
 ·rename_i h1;exact absurd h h1
 ·rename_i h1;split at h
  ·rename_i h2;exact⟨jF.1 h1,h2⟩
  ·cases h
end
end
section
section
variable {t:B8}{o:A6}
def I7.validM0(H:I7 t o):Q9 (hypT t o).M=0:=by
 have:=H.valid6;rw[rS]at this;injection this
def I7.acc(H:I7 t o){s:Nat}(hs:s<(hypT t o).M.N.length):∃q,q∈t.P/\(hypT t o).Access[s]?=some q/\dest (hypT t o).M 0 q=s/\WOk t.I q/\H1 q t.I=0/\q.length<=400:=by
 have a2:=(X5 H.hz).1;rw[H.nlen.1]at hs;obtain⟨q,hq,q1,_,_,q4⟩:=H.state hs;have hc:=(aL a2).1 q hq;exact⟨q,hq,q4,by rw[(H.walk _ q rfl hq).2,q1],aB hc,hc,H.ht.pw q hq⟩
def I7.acc0(H:I7 t o):(hypT t o).Access[0]?=some []:=by
 have a2:(fstI (J4 t o) t.P.length)[0]?=some 0:=by
  have hl:0<t.P.length:=(G4.1 H.nil).1
  have h1:newAt (J4 t o) 0=true:=by
   unfold newAt J4;rw[K5,H.nil];simp
  unfold fstI;obtain⟨k,hk⟩:∃k,t.P.length=k+1:=⟨t.P.length-1,by omega⟩;rw[hk,List.range_succ_eq_map,xB h1];rfl
 show((fstI (J4 t o) t.P.length).map (M0 t))[0]?=_;rw[K5,a2];show some (M0 t 0)=_;unfold M0;rw[H.nil];rfl
def I7.valid_prog(H:I7 t o):fH (hypT t o)=some 0:=by
 have hI:(hypT t o).M.I=t.I:=rfl;have hS:(hypT t o).M.S=0:=rfl;obtain⟨l1,l2,l3⟩:=H.nlen;have hm:=H.mac;have hn:=hm.n1;have a2:=hm.n2;unfold fH;rw[vT,H.validM0,A5,B5 (by simp),l1,l3,B5]
 have key:=Q2 (step:=λs=>fH.s2 (hypT t o) s) (l:=(hypT t o).Access) (λ_ _=>(none:Option Int)) (λi x hx=>by
  have hi:=(G4.1 hx).1
  obtain⟨q,_,q1,q2,_,q4,q5⟩:=H.acc (s:=i) (by omega)
  rw[hx]at q1
  injection q1 with q1
  subst q1
  simp only[fH.s2]
  rw[I8 hx,D2,C6 hx,JI (by unfold SmW;omega),A5]
  unfold fromM
  rw[if_neg (λh=>h H.validM0),hS,if_neg (by omega),if_neg (λh=>h q4)]
  simp[q2]) (by
  simp only[fH.s2]
  rw[N7]
  rfl) (by omega)
 rw[key,A5,aK.2 λi x _=>rfl];simp only[aO];rw[hS,F9 (n:=0) (i:=0) rfl H.acc0];rfl
end
def stW(h:E3)(w:A2)(i:Nat):Nat:=dest h.M h.M.S.toNat (w.take i)
def acW(h:E3)(w:A2)(i:Nat):A2:=(h.Access[stW h w i]?).getD []
def qW(h:E3)(w:A2)(i:Nat):A2:=acW h w i++w.drop i
def badW(h:E3)(o:A6)(w:A2)(i:Nat):Bool:=!decide (tailA o (acW h w i) (w.drop i)=outs h.M (stW h w i) (w.drop i))
def locW(h:E3)(o:A6)(w:A2):Nat->Nat->Nat->Nat⊕(J8×A2×Int)
 |0,lo,_=>.inl lo
 |n+1,lo,hi=>if 1<hi-lo then
   (if ansO o (qW h w ((lo+hi) / 2))=none then .inr (⟨[],0,[]⟩,qW h w ((lo+hi) / 2),0) else if badW h o w ((lo+hi) / 2)=true then locW h o w n ((lo+hi) / 2) hi else locW h o w n lo ((lo+hi) / 2))
  else .inl lo
def splW(h:E3)(o:A6)(w:A2)(i:Nat):J8×Int :=
 if(tailA o (acW h w i) (w.drop i)).head?≠some (ot h.M (stW h w i) ((w[i]?).getD 0).toNat) then(⟨[],0,[]⟩,15) else(⟨acW h w i,(w[i]?).getD 0,w.drop (i+1)⟩,0)
def O7(h:E3)(o:A6)(w:A2):J8×A2×Int :=
 match locW h o w w.length 0 w.length with
 | .inl lo=>((splW h o w lo).1,[],(splW h o w lo).2)
 | .inr r=>r
structure P3(h:E3)(o:A6)(w:A2):Prop where
 mac:N0 h.M
 st:h.M.S=0
 acc:∀s,s<h.M.N.length->∃q,h.Access[s]?=some q/\q.length<=400
 ac0:h.Access[0]?=some []
 vp:fH h=some 0
 vr:eY h=some 0
 inp:h.M.I=o.I
 chk:H1 w h.M.I=0
 wl:w.length<=24
 ho:SmO o
 hv:I6 o
 kn:∃r,ansO o w=some r/\r≠outs h.M 0 w
section
variable {h:E3}{o:A6}{w:A2}
def P3.w0(F:P3 h o w):0<w.length:=by
 rcases BU w with e|⟨v,x,e⟩
 ·obtain⟨r,h1,h2⟩:=F.kn;subst e;have h1:some []=some r:=h1;injection h1 with h1
  exact absurd h1.symm h2
 ·rw[e];simp
def P3.stl(F:P3 h o w)(i:Nat):stW h w i<h.M.N.length:=F.mac.dest (λy hy=>aB F.chk y (Q1 hy)) (by have:=F.mac.st;omega)
def P3.ac(F:P3 h o w)(i:Nat):h.Access[stW h w i]?=some (acW h w i)/\(acW h w i).length<=400:=by
 obtain⟨q,h1,h2⟩:=F.acc _ (F.stl i);unfold acW;rw[h1];exact⟨rfl,h2⟩
def P3.ql(F:P3 h o w)(i:Nat):(qW h w i).length<=424:=by
 have h1:=(F.ac i).2;have h2:=F.wl;unfold qW;rw[D7,O5];omega
def st_zero(w:A2):stW h w 0=h.M.S.toNat:=by unfold stW;rw[GQ];rfl
def P3.q0(F:P3 h o w):qW h w 0=w:=by
 unfold qW acW;rw[st_zero,F.st,show(Int.toNat 0)=0 from rfl,F.ac0];rfl
def P3.k0(F:P3 h o w):ansO o (qW h w 0)≠none:=by
 obtain⟨r,h1,_⟩:=F.kn;rw[F.q0,h1];exact λh=>by cases h
def outs_drop(i:Nat):(outs h.M h.M.S.toNat w).drop i=outs h.M (stW h w i) (w.drop i):=by
 unfold stW
 conv=>lhs;rw[<- sX i w,iL]
 rcases L8 w.length i with g|g
 ·rw[jG (l:=w) (by omega)];rw[jG (by rw[D7,cX,cX,H6,V5];omega)];rfl
 ·rw[xK (by rw[cX,H6];omega),jG (by rw[cX,H6];omega),Y9]
end
end
end Go.Proofs.YtjmcbfbjajlbhaaGreatDoor.Sym

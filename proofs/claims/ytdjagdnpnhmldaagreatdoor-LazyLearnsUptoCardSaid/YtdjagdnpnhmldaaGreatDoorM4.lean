/- Parts of the proof. -/
import Derived.Test.YtdjagdnpnhmldaaGreatDoorM3
set_option linter.all false
set_option maxRecDepth 100000
set_option maxHeartbeats 4000000
open Go.RowKit
namespace Go.Proofs.YtdjagdnpnhmldaaGreatDoor.Sym
section
structure J6(m:A9):Prop where
 i1:1<=m.I
 i2:m.I<=64
 n1:0<m.N.length
 n2:m.N.length<=128
 st:0<=m.S/\m.S<(m.N.length:Int)
 ol:m.O.length=m.N.length
 row:∀s,s<m.N.length->∃x y,m.N[s]?=some x/\m.O[s]?=some y/\(x.length:Int)=m.I/\(y.length:Int)=m.I/\(∀u∈x,0<=u/\u<(m.N.length:Int))/\∀v∈y,0<=v/\v<=1048576
def nx(m:A9)(s a:Nat):Nat:=((((m.N[s]?).getD [])[a]?).getD 0).toNat
def ot(m:A9)(s a:Nat):Int:=(((m.O[s]?).getD [])[a]?).getD 0
section
variable {m:A9}
def J6.at(H:J6 m){s a:Nat}(hs:s<m.N.length)(ha:a<m.I.toNat):nx m s a<m.N.length/\0<=ot m s a/\ot m s a<=1048576/\∃x y,m.N[s]?=some x/\m.O[s]?=some y/\x[a]?=some (↑(nx m s a):Int)/\y[a]?=some (ot m s a):=by
 obtain⟨x,y,h1,h2,h3,h4,h5,h6⟩:=H.row s hs;have hx:=get_at (l:=x) (i:=a) (by omega);have hy:=get_at (l:=y) (i:=a) (by omega)
 have e1:nx m s a=(x[a]'(by omega)).toNat:=by
  unfold nx;rw[h1,N1,hx,N1]
 have e2:ot m s a=y[a]'(by omega):=by
  unfold ot;rw[h2,N1,hy,N1]
 have g1:=h5 _ (J3 (by omega:a<x.length));have g2:=h6 _ (J3 (by omega:a<y.length));refine⟨by rw[e1];omega,by rw[e2];exact g2.1,by rw[e2];exact g2.2,x,y,h1,h2,?_,by rw[e2];exact hy⟩;rw[hx,e1];congr 1;omega
def outs(m:A9):Nat->A2->A2
 |_,[]=>[]
 |s,a::w=>ot m s a.toNat::outs m (nx m s a.toNat) w
def dest(m:A9):Nat->A2->Nat
 |s,[]=>s
 |s,a::w=>dest m (nx m s a.toNat) w
def WOk(n:Int)(w:A2):Prop:=∀a∈w,0<=a/\a<n
def gR:∀(w v:A2) (s:Nat),outs m s (w++v)=outs m s w++outs m (dest m s w) v
 |[],_,_=>rfl
 |a::w,v,s=>by
  show ot m s a.toNat::outs m (nx m s a.toNat) (w++v)=_;rw[gR w v];rfl
def fM:∀(w v:A2) (s:Nat),dest m s (w++v)=dest m (dest m s w) v
 |[],_,_=>rfl
 |_::w,v,_=>fM w v _
def bU:∀(w:A2) (s:Nat),(outs m s w).length=w.length
 |[],_=>rfl
 |a::w,s=>by
  show(outs m (nx m s a.toNat) w).length+1=w.length+1;rw[bU w]
def WOk.tail{n a:Int}{w:A2}(h:WOk n (a::w)):WOk n w:=λx hx=>h x (K7 _ hx)
def WOk.head{n a:Int}{w:A2}(h:WOk n (a::w)):0<=a/\a<n:=h a (by simp)
def WOk.take{n:Int}{w:A2}(h:WOk n w)(k:Nat):WOk n (w.take k):=λx hx=>h x (Q4 hx)
def WOk.append{n:Int}{w v:A2}(h:WOk n w)(g:WOk n v):WOk n (w++v):=λx hx=>(I8.1 hx).elim (h x) (g x)
def J6.dest(H:J6 m):∀{w:A2} {s:Nat},WOk m.I w->s<m.N.length->dest m s w<m.N.length
 |[],_,_,hs=>hs
 |a::w,s,hw,hs=>by
  have:=hw.head;exact H.dest (w:=w) hw.tail (H.at hs (a:=a.toNat) (by omega)).1
def R06_Outs_eq(H:J6 m){s:Nat}(hs:s<m.N.length){w:A2}(hw:WOk m.I w)(hl:w.length<=100000000):aH m (s:Int) w=some (outs m s w,(↑(dest m s w):Int)):=by
 unfold aH
 have key:=V3 (step:=λ(q:Int×A2×Nat)=>aH.s2 m w q.1 q.2.1 q.2.2) (r:=((↑(dest m s w):Int),outs m s w)) (λq=>q.2.2<=w.length/\q.1=(↑(dest m s (w.take q.2.2)):Int)/\q.2.1=outs m s (w.take q.2.2)) (λq=>w.length-q.2.2) (λq ⟨g1,g2,g3⟩=>by
  obtain⟨st,y,k⟩:=q
  simp only at g1 g2 g3
  subst g2
  subst g3
  simp only[aH.s2]
  by_cases g4:k<w.length
  ·left
   have hx:=get_at g4
   obtain⟨x0,x1⟩:=hw _ (J3 g4)
   have ha:w[k].toNat<m.I.toNat:=by omega
   have hd:Sym.dest m s (w.take k)<m.N.length:=H.dest (hw.take k) hs
   obtain⟨_,_,_,x,y,e1,e2,e3,e4⟩:=H.at hd ha
   refine⟨((↑(Sym.dest m s (w.take (k+1))):Int),outs m s (w.take (k+1)),k+1),?_,⟨g4,rfl,rfl⟩,by simp only;omega⟩
   rw[K8 hx,G5,E8 rfl e2,C8 hx,E8 (i:=w[k].toNat) (by omega) e4,H7 (by unfold E0;rw[bU,H6];omega),E8 rfl e1,C8 hx,E8 (i:=w[k].toNat) (by omega) e3,Q2 hx,fM,gR]
   rfl
  ·right
   have e:k=w.length:=by omega
   subst e
   rw[B4,T0]) (n:=fuel) (s:=((s:Int),[],0)) ⟨F7 _,rfl,rfl⟩
 rw[key,A6];rfl
def RowRng(n:Nat)(u v:Int):Prop:=(0<=u/\u<(n:Int))/\0<=v/\v<=1048576
def R06_row_tot(h1:m.I<=64){s:Nat}(hs:s<m.N.length)(ho:m.O.length=m.N.length):∃e,aW m (s:Int)=some e/\(e=0->∃x y,m.N[s]?=some x/\m.O[s]?=some y/\(x.length:Int)=m.I/\(y.length:Int)=m.I/\(∀u∈x,0<=u/\u<(m.N.length:Int))/\∀v∈y,0<=v/\v<=1048576):=by
 obtain⟨x,hx⟩:∃x,m.N[s]?=some x:=⟨_,get_at hs⟩;obtain⟨y,hy⟩:∃y,m.O[s]?=some y:=⟨_,get_at (l:=m.O) (i:=s) (by omega)⟩;unfold aW;rw[E8 rfl hx];by_cases g1:(x.length:Int)=m.I
 ·by_cases g2:(y.length:Int)=m.I
  ·rw[B4 (λh=>h g1),E8 rfl hy,I3 (λh=>h g2),A6,G0]
   obtain⟨r,hr,hq⟩:=aG (step:=λa=>aW.s2 m (s:Int) a) (λa=>a<=x.length/\∀b u v,b<a->x[b]?=some u->y[b]?=some v->RowRng m.N.length u v) (λa=>x.length-a) (λr=>r=.inr 2\/(r=.inl ()/\∀b u v,b<x.length->x[b]?=some u->y[b]?=some v->RowRng m.N.length u v)) (λa ⟨q1,q2⟩=>by
    simp only[aW.s2]
    by_cases q3:a<x.length
    ·obtain⟨u,ha⟩:∃u,x[a]?=some u:=⟨_,get_at q3⟩
     obtain⟨v,hb⟩:∃v,y[a]?=some v:=⟨_,get_at (l:=y) (i:=a) (by omega)⟩
     rw[E2,E8 rfl hx,C8 ha]
     by_cases z1:u<0
     ·right
      exact⟨.inr 2,by rw[E6 z1];rfl,Or.inl rfl⟩
     rw[B4 z1,E8 rfl hx,C8 ha]
     by_cases z2:(m.N.length:Int)<=u
     ·right
      exact⟨.inr 2,by rw[E6 z2];rfl,Or.inl rfl⟩
     rw[B4 z2,E8 rfl hy,C8 hb]
     by_cases z3:v<0
     ·right
      exact⟨.inr 2,by rw[E6 z3];rfl,Or.inl rfl⟩
     rw[B4 z3,E8 rfl hy,C8 hb]
     by_cases z4:1048576<v
     ·right
      exact⟨.inr 2,by rw[E6 z4];rfl,Or.inl rfl⟩
     left
     refine⟨a+1,by rw[I3 z4,A6,G0,L0],⟨q3,λb u' v' a2 hu hv=>?_⟩,by omega⟩
     rcases J0 b a with h|h
     ·exact q2 b u' v' h hu hv
     ·have e:b=a:=by omega
      subst e
      rw[ha]at hu
      rw[hb]at hv
      injection hu with hu
      injection hv with hv
      subst hu
      subst hv
      exact⟨⟨by omega,by omega⟩,by omega,by omega⟩
    ·right
     have e:a=x.length:=by omega
     subst e
     exact⟨.inl (),by rw[B4],Or.inr ⟨rfl,q2⟩⟩) 0 ⟨F7 _,λb _ _ h=>absurd h (eP _)⟩
   rw[hr,A6];rcases hq with rfl|⟨rfl,hq⟩
   ·exact⟨2,rfl,λh=>by cases h⟩
   ·refine⟨0,rfl,λ_=>⟨x,y,hx,hy,g1,g2,λu hu=>?_,λv hv=>?_⟩⟩
    ·obtain⟨b,hb,rfl⟩:=P1.1 hu;exact(hq b _ _ hb (get_at hb) (get_at (l:=y) (by omega))).1
    ·obtain⟨b,hb,rfl⟩:=P1.1 hv;exact(hq b _ _ (by omega) (get_at (l:=x) (by omega)) (get_at hb)).2
  ·exact⟨1,by rw[B4 (λh=>h g1),E8 rfl hy,E6 g2];rfl,λh=>by cases h⟩
 ·exact⟨1,by rw[E6 g1];rfl,λh=>by cases h⟩
def R06_Valid_tot(m:A9):∃e,S6 m=some e/\(e=0->J6 m):=by
 unfold S6;by_cases c1:m.I<1
 ·exact⟨2,by rw[E6 c1];rfl,λh=>by cases h⟩
 rw[B4 c1];by_cases c2:64<m.I
 ·exact⟨2,by rw[E6 c2];rfl,λh=>by cases h⟩
 rw[I3 c2,A6,G0];by_cases c3:(m.N.length:Int)=0
 ·exact⟨19,by rw[E6 c3];rfl,λh=>by cases h⟩
 rw[B4 c3];by_cases c4:128<(m.N.length:Int)
 ·exact⟨11,by rw[E6 c4];rfl,λh=>by cases h⟩
 rw[B4 c4];by_cases c5:m.S<0
 ·exact⟨2,by rw[E6 c5];rfl,λh=>by cases h⟩
 rw[B4 c5];by_cases c6:(m.N.length:Int)<=m.S
 ·exact⟨2,by rw[E6 c6];rfl,λh=>by cases h⟩
 rw[I3 c6,A6,G0];by_cases c7:(m.O.length:Int)=(m.N.length:Int)
 ·rw[B4 (λh=>h c7)];have ho:m.O.length=m.N.length:=by omega
  obtain⟨r,hr,hq⟩:=aG (step:=λs=>S6.s2 m s) (λa=>a<=m.N.length/\∀s,s<a->∃x y,m.N[s]?=some x/\m.O[s]?=some y/\(x.length:Int)=m.I/\(y.length:Int)=m.I/\(∀u∈x,0<=u/\u<(m.N.length:Int))/\∀v∈y,0<=v/\v<=1048576) (λa=>m.N.length-a) (λr=>(∃e,r=.inr e/\e≠0)\/(r=.inl ()/\∀s,s<m.N.length->∃x y,m.N[s]?=some x/\m.O[s]?=some y/\(x.length:Int)=m.I/\(y.length:Int)=m.I/\(∀u∈x,0<=u/\u<(m.N.length:Int))/\∀v∈y,0<=v/\v<=1048576)) (λa ⟨q1,q2⟩=>by
   simp only[S6.s2]
   by_cases q3:a<m.N.length
   ·obtain⟨e,he,hz⟩:=R06_row_tot (m:=m) (by omega) q3 ho
    rw[E2,he,A6]
    by_cases z:e=0
    ·left
     refine⟨a+1,by rw[B4 (λh=>h z)],⟨q3,λs hs=>?_⟩,by omega⟩
     rcases J0 s a with h|h
     ·exact q2 s h
     ·have e2:s=a:=by omega
      subst e2
      exact hz z
    ·right
     exact⟨.inr e,by rw[E2 z],Or.inl ⟨e,rfl,z⟩⟩
   ·right
    have e:a=m.N.length:=by omega
    subst e
    exact⟨.inl (),by rw[B4],Or.inr ⟨rfl,q2⟩⟩) 0 ⟨F7 _,λs h=>absurd h (eP _)⟩
  rw[hr,A6];rcases hq with⟨e,rfl,hz⟩|⟨rfl,hq⟩
  ·exact⟨e,rfl,λh=>absurd h hz⟩
  ·exact⟨0,rfl,λ_=>⟨by omega,by omega,by omega,by omega,⟨by omega,by omega⟩,ho,hq⟩⟩
 ·exact⟨1,by rw[E6 c7];rfl,λh=>by cases h⟩
def sB(h:S6 m=some 0):J6 m:=by
 obtain⟨e,he,hz⟩:=R06_Valid_tot m;rw[h]at he;injection he with he
 exact hz he.symm
end
end
section
abbrev costOk(l:HS):Prop:=(∀c∈l.Step,0<=c/\c<=1048576)/\0<=l.Reset/\l.Reset<=1048576
abbrev cntOk(n:Int):Prop:=0<=n/\n<=1125899906842624
abbrev faultOk(f:GV):Prop:=(0<=f.Lost/\f.Lost<=10000)/\(0<=f.Wrong/\f.Wrong<=10000)/\(0<=f.Crash/\f.Crash<=10000)/\f.Lost+f.Wrong+f.Crash<=10000
structure DevOk(d:lS):Prop where
 v6:S6 d.M=some 0
 st:0<=d.State/\d.State<(d.M.N.length:Int)
 ll:(d.Latency.Step.length:Int)=d.M.I
 lc:costOk d.Latency
 fl:faultOk d.Faults
 c1:cntOk d.Steps
 c2:cntOk d.Resets
 c3:cntOk d.Time
section
variable {d:lS}
end
end
def WrdOk(w:A2):Prop:=w.length<=100000/\∀x∈w,inR x
def Few(need:Int)(l:A4):Prop:=∀w,(↑(l.count w):Int)<need
section
def J6.sml{m:A9}(H:J6 m):SmL m.N/\SmL m.O:=by
 have n2:=H.n2;have ol:=H.ol;have i2:=H.i2;refine⟨⟨by omega,λx hx=>?_⟩,⟨by omega,λx hx=>?_⟩⟩
 all_goals
  obtain⟨s,hs,rfl⟩:=P1.1 hx;obtain⟨x,y,h1,h2,h3,h4,_⟩:=H.row s (by omega);unfold SmW
 ·rw[get_at hs]at h1;injection h1 with h1
  rw[h1];omega
 ·rw[get_at hs]at h2;injection h2 with h2
  rw[h2];omega
abbrev SeedOk(d:lS):Prop:=0<=d.Seed/\d.Seed<18446744073709551616
section
variable {d:lS}{w ys:A2}
end
end
section
structure OrOk(q:tQ):Prop where
 dev:DevOk q.Device
 seed:SeedOk q.Device
 obs:J9 q.Obs
 tr:SmTr q.Obs.T
 inp:q.Obs.I=q.Device.M.I
 v1:1<=q.Votes
 v2:q.Votes<=9
 t1:q.Votes<=q.Tries
 t2:q.Tries<=64
structure TryOk(q:tQ)(w:A2)(d:lS)(ys:A4)(i:Int):Prop where
 dev:DevOk d
 seed:SeedOk d
 mac:d.M=q.Device.M
 i0:0<=i
 i1:i<=q.Tries
 len:(ys.length:Int)<=i
 wrd:∀y∈ys,WrdOk y
 few:Few q.Votes ys
section
variable {q:tQ}{w:A2}{d:lS}{ys:A4}{i n:Int}
end
end


section
structure SmQ(q:tQ):Prop where
 n:q.Device.M.N.length<=2000000
 s:q.Device.Latency.Step.length<=2000000
 o:SmO q.Obs
 seed:SeedOk q.Device
def R06_Same_self{m:A9}(H:J6 m):rT m m=some true:=by
 have h1:=H.sml.1;have h2:=H.sml.2;have l1:=h1.1;have l2:=h2.1;unfold rT;rw[GZ _ _ (by omega) λx hx=>by have:=h1.2 x hx;unfold SmW at this;omega,GZ _ _ (by omega) λx hx=>by have:=h2.2 x hx;unfold SmW at this;omega];simp
def addO_len{o:A7}{t:B0}:(addO o t).1.T.length<=o.T.length+1:=by
 unfold addO;split
 ·simp only;omega
 ·split
  ·simp only;omega
  ·split
   ·simp only;omega
   ·exact FJ _ _
def addO_tr{o:A7}{t:B0}(h:SmTr o.T)(hn:o.T.length<=1000000)(ht:SmX t):SmTr (addO o t).1.T:=by
 refine⟨by have:=addO_len (o:=o) (t:=t);omega,?_⟩;unfold addO;split
 ·exact h.2
 ·split
  ·exact h.2
  ·split
   ·exact h.2
   ·intro x hx;have hx:x∈addL o.T t:=hx;unfold addL at hx;split at hx
    ·exact h.2 x hx
    ·rcases kK.1 hx with e|e
     ·rw[e];exact ht
     ·exact h.2 x (vG.subset e)
section
variable {q:tQ}{w:A2}
end
end
section
def wV{m:A9}:∀(w:A2) (s k:Nat),(outs m s w).take k=outs m s (w.take k)
 |[],s,k=>by simp[outs]
 |a::w,s,0=>by simp[outs]
 |a::w,s,k+1=>by
  show(ot m s a.toNat::outs m (nx m s a.toNat) w).take (k+1)=ot m s a.toNat::outs m (nx m s a.toNat) (w.take k);rw[vJ,wV w]
def GI:∀(a b:A2),a.take (G6 a b)=b.take (G6 a b)
 |[],b=>by simp[G6]
 |x::a,[]=>by simp[G6]
 |x::a,y::b=>by
  unfold G6;by_cases h:x=y
  ·rw[if_pos h,h,vJ,vJ,GI a b]
  ·rw[if_neg h];rfl
def Expl(m:A9)(o:A7):Prop:=∀t∈o.T,t.O=outs m m.S.toNat t.In
def Kn(o:A7)(w:A2):Prop:=w=[]\/∃t∈o.T,w <+: t.In
section
variable {m:A9}{o:A7}{w:A2}
def expl_agree{a b:B0}(ha:a.O=outs m m.S.toNat a.In)(hb:b.O=outs m m.S.toNat b.In):Agree a b:=by
 unfold Agree;rw[ha,hb,wV,wV,GI]
def kM(hE:Expl m o):(Kn o w->ansO o w=some (outs m m.S.toNat w))/\(¬Kn o w->ansO o w=none):=by
 unfold ansO Kn;by_cases h0:w=[]
 ·rw[if_pos h0,h0];exact⟨λ_=>rfl,λh=>absurd (.inl rfl) h⟩
 ·rw[if_neg h0];cases hf:o.T.find? λt=>decide (w <+: t.In) with
  |none =>
   refine⟨λh=>?_,λ_=>rfl⟩;rcases h with h|⟨t,ht,hp⟩
   ·exact absurd h h0
   ·exact absurd (E6 hp) (qZ.1 hf t ht)
  |some t =>
   have ht:=dR hf;have hp:decide (w <+: t.In)=true:=lC (p:=λ(t:B0)=>decide (w <+: t.In)) hf;have hp:=of_decide_eq_true hp;refine⟨λ_=>?_,λh=>absurd (.inr ⟨t,ht,hp⟩) h⟩;show some (t.O.take w.length)=_;rw[hE t ht,wV,<- List.prefix_iff_eq_take.1 hp]
def tr(m:A9)(w:A2):B0:=⟨w,outs m m.S.toNat w⟩
def prop_tr(H:J6 m){n:Int}(hn:n=m.I)(hw:I2 w n=0):eY n (tr m w):=by
 refine⟨hw,by simp only[tr];rw[bU],λy hy=>?_⟩;have a2:WOk m.I w:=by rw[<- hn];exact W5 hw
 have a3:=H.st
 have key:∀(w:A2) (s:Nat),s<m.N.length->WOk m.I w->∀y∈outs m s w,0<=y/\y<=1048576:=by
  intro w
  induction w with
  |nil=>intro s _ _ y hy;simp[outs]at hy
  |cons a w ih =>
   intro s hs a2 y hy;have ha:=a2.head;obtain⟨h1,h2,h3,_⟩:=H.at hs (a:=a.toNat) (by omega);have hy:y∈ot m s a.toNat::outs m (nx m s a.toNat) w:=hy;rcases H8.1 hy with e|e
   ·rw[e];exact⟨h2,h3⟩
   ·exact ih _ h1 a2.tail y e
 exact key w _ (by omega) a2 y hy
def mem_addL{l:List B0}{t x:B0}(h:x∈addL l t):x=t\/x∈l:=by
 unfold addL at h;split at h
 ·exact .inr h
 ·rcases kK.1 h with e|e
  ·exact .inl e
  ·exact .inr (vG.subset e)
def expl_add(hE:Expl m o){n:Int}:Expl m ⟨n,addL o.T (tr m w)⟩:=λx hx=>by
 rcases mem_addL hx with e|e
 ·rw[e];rfl
 ·exact hE x e
def kn_add{n:Int}{v:A2}:Kn ⟨n,addL o.T (tr m w)⟩ v↔Kn o v\/v <+: w:=by
 unfold Kn;simp only;constructor
 ·rintro (h|⟨x,hx,hp⟩)
  ·exact .inl (.inl h)
  ·rcases mem_addL hx with e|e
   ·exact .inr (by rw[e]at hp;exact hp)
   ·exact .inl (.inr ⟨x,e,hp⟩)
 ·unfold addL;by_cases g:dF o.T (tr m w).In=true\/(tr m w).In=[]
  ·rw[if_pos g];rintro (h|h)
   ·exact h
   ·rcases g with g|g
    ·obtain⟨u,hu,hp⟩:=oC.1 g;exact .inr ⟨u,hu,h.trans (of_decide_eq_true hp)⟩
    ·have g:w=[]:=g;rw[g]at h;exact .inl (List.prefix_nil.1 h)
  ·rw[if_neg g];rintro ((h|⟨x,hx,hp⟩)|h)
   ·exact .inl h
   ·by_cases hk:x.In <+: w
    ·exact .inr ⟨tr m w,kK.2 (.inl rfl),hp.trans hk⟩
    ·refine .inr ⟨x,kK.2 (.inr (eO.2 ⟨hx,?_⟩)),hp⟩;rw[I3 (show ¬x.In <+: (tr m w).In from hk)];rfl
   ·exact .inr ⟨tr m w,kK.2 (.inl rfl),h⟩
def M5(m:A9):A7->A4->A7
 |o,[]=>o
 |o,w::r=>M5 m ⟨o.I,addL o.T (tr m w)⟩ r
def mQ{v:A2}:∀(ws:A4) (o:A7),Kn (M5 m o ws) v↔Kn o v\/∃w∈ws,v <+: w
 |[],o=>by simp[M5]
 |w::ws,o=>by
  unfold M5;rw[mQ ws,kn_add];constructor
  ·rintro ((h|h)|⟨x,hx,h⟩)
   ·exact .inl h
   ·exact .inr ⟨w,by simp,h⟩
   ·exact .inr ⟨x,by simp[hx],h⟩
  ·rintro (h|⟨x,hx,h⟩)
   ·exact .inl (.inl h)
   ·rcases H8.1 hx with e|e
    ·exact .inl (.inr (by rw[<- e];exact h))
    ·exact .inr ⟨x,e,h⟩
def pW{x:B0}:∀(ws:A4) (o:A7),x∈(M5 m o ws).T->x∈o.T\/x.In∈ws
 |[],_,h=>.inl h
 |w::ws,o,h=>by
  unfold M5 at h;rcases pW ws _ h with e|e
  ·rcases mem_addL e with e|e
   ·exact .inr (by rw[e];simp[tr])
   ·exact .inl e
  ·exact .inr (by simp[e])
structure Q9(m:A9)(o:A7):Prop where
 ok:J9 o
 tr:SmTr o.T
 ex:Expl m o
 inp:o.I=m.I
end
end
section
def scan_map{V R R':Type}{g:Nat->V->Option R}{f:R->R'}:∀(l:List V) (j:Nat),scan (λi x=>(g i x).map f) j l=(scan g j l).map f
 |[],_=>rfl
 |x::l,j=>by
  unfold scan;cases g j x with
  |some r=>rfl
  |none=>exact scan_map l (j+1)
def wJ{V R:Type}{g:Nat->V->Option R}{r:R}:∀{l:List V} {j:Nat},scan g j l=some r->∃i x,l[i]?=some x/\g (j+i) x=some r
 |[],_,h=>by cases h
 |x::l,j,h=>by
  unfold scan at h;cases e:g j x with
  |some q =>
   rw[e]at h;exact⟨0,x,rfl,by rw[X5,e];exact h⟩
  |none =>
   rw[e]at h;obtain⟨i,y,h1,h2⟩:=wJ (j:=j+1) h;exact⟨i+1,y,by simpa using h1,by rw[show j+(i+1)=j+1+i by omega,h2]⟩
def celE(n:Nat)(u v:Int):Option Int:=if u<0\/(n:Int)<=u\/v<0\/1048576<v then some 2 else none
def rowE(m:A9)(s:Nat)(x:A2):Option Int :=
 if(x.length:Int)≠m.I\/(↑((m.O[s]?).getD []).length:Int)≠m.I then some 1 else scan (λa u=>celE m.N.length u ((((m.O[s]?).getD [])[a]?).getD 0)) 0 x
def S4(m:A9):Int :=
 if m.I<1\/64<m.I then 2 else if m.N.length=0 then 19 else if 128<m.N.length then 11 else if m.S<0\/(m.N.length:Int)<=m.S then 2 else if m.O.length≠m.N.length then 1
 else match scan (rowE m) 0 m.N with|some e=>e|none=>0
section
variable {m:A9}
def rowE_ne{s:Nat}{x:A2}{e:Int}(h:rowE m s x=some e):e≠0:=by
 unfold rowE at h;split at h
 ·injection h with h
  omega
 ·obtain⟨i,u,_,h2⟩:=wJ h;unfold celE at h2;split at h2
  ·injection h2 with h2
   omega
  ·cases h2
def cel_cond{n:Nat}{u v:Int}:(cond (decide (u<0)) (some true) (cond (decide ((n:Int)<=u)) (some true) (cond (decide (v<0)) (some true) (some (decide (1048576<v))))):Option Bool)=some (celE n u v).isSome:=by
 unfold celE;by_cases h1:u<0<;>by_cases h2:(n:Int)<=u<;>by_cases h3:v<0<;>by_cases h4:1048576<v<;>simp[h1,h2,h3,h4]
def celE_two{n:Nat}{u v:Int}:celE n u v=if(celE n u v).isSome=true then some 2 else none:=by
 unfold celE;split<;>rfl
def row_len{s:Nat}{x y:A2}(hx:m.N[s]?=some x)(hy:m.O[s]?=some y) :
  (idxn m.N s λa2=>cond (decide ((a2.length:Int)≠m.I)) (some true) (idxn m.O s λa6=>some (decide ((a6.length:Int)≠m.I))):Option Bool)=some (decide ((x.length:Int)≠m.I\/(y.length:Int)≠m.I)):=by
 rw[C8 hx];by_cases h:(x.length:Int)=m.I
 ·rw[B4 (λk=>k h),C8 hy];simp[h]
 ·rw[E2 h];simp[h]
def idx_nat{V G:Type}{l:List V}{i:Nat}{k:V->Option G}:idx l (i:Int) k=idxn l i k:=by
 cases h:l[i]? with
 |some x=>rw[E8 rfl h,C8 h]
 |none =>
  unfold idx idxn;rw[h,if_pos (by omega),O3,h]
def R06_row_eq(hi:m.I<=64){s:Nat}{x y:A2}(hx:m.N[s]?=some x)(hy:m.O[s]?=some y):aW m (s:Int)=some (match rowE m s x with|some e=>e|none=>0):=by
 unfold aW;rw[idx_nat];simp only[idx_nat];rw[row_len hx hy,A6];unfold rowE;rw[hy,N1];by_cases h:(x.length:Int)≠m.I\/(y.length:Int)≠m.I
 ·rw[E2 h,if_pos h]
 ·rw[B4 h,if_neg h];have h1:(x.length:Int)=m.I:=S1 λq=>h (Or.inl q);have h2:(y.length:Int)=m.I:=S1 λq=>h (Or.inr q);rw[V4 (l:=x) (λa u=>celE m.N.length u ((y[a]?).getD 0)) (λa u hu=>?_) ?_ (by omega),A6]
  ·cases scan (λa u=>celE m.N.length u ((y[a]?).getD 0)) 0 x<;>rfl
  ·simp only[aW.s2];rw[B4]
  ·have ha:=(E4.1 hu).1;have hv:y[a]?=some y[a]:=get_at (by omega);rw[hv,N1];simp only[aW.s2,idx_nat];rw[E2];simp only[C8 hx,C8 hy,C8 hu,C8 hv];rw[cel_cond,A6];cases e:celE m.N.length u y[a]with
   |none =>
    rw[uX,G0,L0]
   |some r =>
    have:=celE_two (n:=m.N.length) (u:=u) (v:=y[a]);rw[e]at this;injection this with this
    rw[this,uW,G5]
def mealy_row_eq(hi:m.I<=64){s:Nat}{x y:A2}(hx:m.N[s]?=some x)(hy:m.O[s]?=some y):aI.s14 m s=some (match rowE m s x with|some e=>.inr (.inr e)|none=>.inl (s+1)):=by
 have hs:=(E4.1 hx).1;simp only[aI.s14];rw[E2,row_len hx hy,A6];unfold rowE;rw[hy,N1];by_cases h:(x.length:Int)≠m.I\/(y.length:Int)≠m.I
 ·rw[E2 h,if_pos h]
 ·rw[B4 h,if_neg h];have h1:(x.length:Int)=m.I:=S1 λq=>h (Or.inl q);have h2:(y.length:Int)=m.I:=S1 λq=>h (Or.inr q);rw[V4 (l:=x) (λa u=>(celE m.N.length u ((y[a]?).getD 0)).map λr=>(.inr (.inr r):Nat⊕(Unit⊕Int))) (λa u hu=>?_) ?_ (by omega),A6,scan_map]
  ·cases scan (λa u=>celE m.N.length u ((y[a]?).getD 0)) 0 x<;>rfl
  ·simp only[aI.s13];rw[B4]
  ·have ha:=(E4.1 hu).1;have hv:y[a]?=some y[a]:=get_at (by omega);rw[hv,N1];simp only[aI.s13];rw[E2];simp only[C8 hx,C8 hy,C8 hu,C8 hv];rw[cel_cond,A6];cases e:celE m.N.length u y[a]with
   |none =>
    rw[uX,G0,L0];rfl
   |some r =>
    have:=celE_two (n:=m.N.length) (u:=u) (v:=y[a]);rw[e]at this;injection this with this
    rw[this,uW,G5];rfl
def nN(m:A9):S6 m=some (S4 m):=by
 unfold S6 S4;by_cases c1:m.I<1
 ·rw[E6 c1,if_pos (Or.inl c1)];rfl
 rw[B4 c1];by_cases c2:64<m.I
 ·rw[E6 c2,if_pos (Or.inr c2)];rfl
 rw[I3 c2,A6,G0,if_neg (by omega)];by_cases c3:m.N.length=0
 ·rw[E6 (by omega),if_pos c3];rfl
 rw[B4,if_neg c3];by_cases c4:128<m.N.length
 ·rw[E6 (by omega),if_pos c4];rfl
 rw[B4,if_neg c4];by_cases c5:m.S<0
 ·rw[E6 c5,if_pos (Or.inl c5)];rfl
 rw[B4 c5];by_cases c6:(m.N.length:Int)<=m.S
 ·rw[E6 c6,if_pos (Or.inr c6)];rfl
 rw[I3 c6,A6,G0,if_neg (by omega)];by_cases c7:m.O.length=m.N.length
 ·rw[B4,if_neg (by omega),V4 (l:=m.N) (rowE m) (λs x hx=>?_) ?_ (by omega),A6]
  ·cases scan (rowE m) 0 m.N<;>rfl
  ·simp only[S6.s2];rw[B4]
  ·have hs:=(E4.1 hx).1;simp only[S6.s2];rw[E2,R06_row_eq (by omega) hx (get_at (l:=m.O) (by omega)),A6];cases e:rowE m s x with
   |none=>rfl
   |some r=>rw[E2 (rowE_ne e)]
 ·rw[E6 (by omega),if_pos c7];rfl
def uD(m:A9):aI m=some (S4 m):=by
 unfold aI S4;by_cases c1:m.I<1
 ·rw[E6 c1,if_pos (Or.inl c1)];rfl
 rw[B4 c1];by_cases c2:64<m.I
 ·rw[E6 c2,if_pos (Or.inr c2)];rfl
 rw[I3 c2,A6,G0,if_neg (by omega)];by_cases c3:m.N.length=0
 ·rw[E6 (by omega),if_pos c3];rfl
 rw[B4,if_neg c3];by_cases c4:128<m.N.length
 ·rw[E6 (by omega),if_pos c4];rfl
 rw[B4,if_neg c4];by_cases c5:m.S<0
 ·rw[E6 c5,if_pos (Or.inl c5)];rfl
 rw[B4 c5];by_cases c6:(m.N.length:Int)<=m.S
 ·rw[E6 c6,if_pos (Or.inr c6)];rfl
 rw[I3 c6,A6,G0,if_neg (by omega)];by_cases c7:m.O.length=m.N.length
 ·rw[B4,if_neg (by omega),V4 (l:=m.N) (rowE m) (λs x hx=>?_) ?_ (by omega),A6]
  ·cases scan (rowE m) 0 m.N<;>rfl
  ·simp only[aI.s14];rw[B4]
  ·have hs:=(E4.1 hx).1;rw[mealy_row_eq (by omega) hx (get_at (l:=m.O) (by omega))];cases rowE m s x<;>rfl
 ·rw[E6 (by omega),if_pos c7];rfl
def dG(h:S4 m=0):J6 m:=sB (by rw[nN,h])
def fromM(m:A9)(s:Int)(w:A2):A2×Int×Int :=
 if S4 m≠0 then([],0,S4 m) else if s<0\/(m.N.length:Int)<=s then([],0,2) else if I2 w m.I≠0 then([],0,I2 w m.I) else(outs m s.toNat w,(↑(dest m s.toNat w):Int),0)
def tD{w:A2}{n:Int}(h:I2 w n=0):w.length<=1024:=by
 unfold I2 at h;split at h
 ·split at h
  ·cases h
  ·omega
 ·cases h
def runner_eq(H:J6 m){s:Nat}(hs:s<m.N.length){w:A2}(hw:WOk m.I w)(hl:w.length<=100000000):cQ (⟨(⟨m⟩:kV),(s:Int)⟩:eJ) w=some (outs m s w,(⟨(⟨m⟩:kV),(↑(dest m s w):Int)⟩:eJ)):=by
 unfold cQ
 have key:=V3 (step:=λ(q:Int×A2×Nat)=>cQ.s2 (⟨(⟨m⟩:kV),(s:Int)⟩:eJ) w q.1 q.2.1 q.2.2) (r:=((↑(dest m s w):Int),outs m s w)) (λq=>q.2.2<=w.length/\q.1=(↑(dest m s (w.take q.2.2)):Int)/\q.2.1=outs m s (w.take q.2.2)) (λq=>w.length-q.2.2) (λq ⟨g1,g2,g3⟩=>by
  obtain⟨st,y,k⟩:=q
  simp only at g1 g2 g3
  subst g2
  subst g3
  simp only[cQ.s2,yB]
  by_cases g4:k<w.length
  ·left
   have hx:=get_at g4
   obtain⟨x0,x1⟩:=hw _ (J3 g4)
   have ha:w[k].toNat<m.I.toNat:=by omega
   have hd:Sym.dest m s (w.take k)<m.N.length:=H.dest (hw.take k) hs
   obtain⟨_,_,_,x,y,e1,e2,e3,e4⟩:=H.at hd ha
   refine⟨((↑(Sym.dest m s (w.take (k+1))):Int),outs m s (w.take (k+1)),k+1),?_,⟨g4,rfl,rfl⟩,by simp only;omega⟩
   rw[K8 hx,G5,C8 hx,E8 rfl e1,E8 (i:=w[k].toNat) (by omega) e3,E8 rfl e2,E8 (i:=w[k].toNat) (by omega) e4,A6,H7 (by unfold E0;rw[bU,H6];omega),Q2 hx,fM,gR]
   rfl
  ·right
   have e:k=w.length:=by omega
   subst e
   rw[B4,T0]) (n:=fuel) (s:=((s:Int),[],0)) ⟨F7 _,rfl,rfl⟩
 rw[key,A6];rfl
def ID{s:Int}{w:A2}(hw:SmW w):qD m s w=some (fromM m s w):=by
 unfold qD xI fromM;rw[uD,A6];by_cases c1:S4 m=0
 ·rw[B4,if_neg (by omega)];by_cases c2:s<0
  ·rw[E6 c2,if_pos (Or.inl c2)];rfl
  rw[B4 c2];by_cases c3:(m.N.length:Int)<=s
  ·rw[E6 c3,if_pos (Or.inr c3)];rfl
  rw[I3 c3,A6,G0,if_neg (by omega),A6,B4,lU _ _ hw,A6];by_cases c4:I2 w m.I=0
  ·have:=tD c4;have hO:=runner_eq (dG c1) (s:=s.toNat) (by omega) (w:=w) (W5 c4) (by omega);rw[show(s.toNat:Int)=s by omega]at hO;rw[B4,if_neg (by omega),hO,A6]
  ·rw[E2 c4,if_pos c4]
 ·rw[E2 c1,if_pos c1,A6,E2 c1]
end
end
section
section
variable {m:A9}{ids:List (A4)}{w:A2}
def fromM_start(hw:SmW w)(h:S4 m=0):fromM m m.S w=if I2 w m.I≠0 then([],0,I2 w m.I) else(outs m m.S.toNat w,(↑(dest m m.S.toNat w):Int),0):=by
 have H:=dG h;have:=H.st;unfold fromM;rw[if_neg (by omega),if_neg (by omega)]
end
end
section
section
variable {A:Type}[DecidableEq A]
def bfsB(e:A->Nat->A)(K:Nat)(s0:A):Nat->List (A×A2)
 |0=>[(s0,[])]
 |r+1=>match (bfsB e K s0 r)[r / K]? with
  |none=>bfsB e K s0 r
  |some x=>if e x.1 (r%K)∈(bfsB e K s0 r).map Prod.fst then bfsB e K s0 r else bfsB e K s0 r++[(e x.1 (r%K),x.2++[(↑(r%K):Int)])]
def iU{K i a:Nat}(h:a<K):(i*K+a) / K=i:=by
 rw[bB,Nat.add_mul_div_right _ _ (by omega),Nat.div_eq_of_lt h,F9]
def oJ{K i a:Nat}(h:a<K):(i*K+a)%K=a:=by
 rw[bB,Nat.add_mul_mod_self_right,Nat.mod_eq_of_lt h]
def lI{i n a K:Nat}(hi:i<n)(ha:a<K):i*K+a<n*K:=by
 have:(i+1)*K<=n*K:=W7 K hi;rw[iG]at this;omega
variable {e:A->Nat->A}{K:Nat}{s0:A}
def bfs_step{i a:Nat}{x:A×A2}(ha:a<K)(hx:(bfsB e K s0 (i*K+a))[i]?=some x) :
  bfsB e K s0 (i*K+(a+1))=if e x.1 a∈(bfsB e K s0 (i*K+a)).map Prod.fst then bfsB e K s0 (i*K+a) else bfsB e K s0 (i*K+a)++[(e x.1 a,x.2++[(a:Int)])]:=by
 show bfsB e K s0 ((i*K+a)+1)=_;rw[bfsB,iU ha,hx,oJ ha]
def vP(r:Nat):bfsB e K s0 r <+: bfsB e K s0 (r+1):=by
 rw[bfsB];split
 ·exact eQ _
 ·split
  ·exact eQ _
  ·exact DL _ _
def fE{r:Nat}:∀{r':Nat},r<=r'->bfsB e K s0 r <+: bfsB e K s0 r'
 |0,h=>by
  have:r=0:=by omega
  subst this;exact eQ _
 |r'+1,h=>by
  rcases J0 r (r'+1) with g|g
  ·exact(fE (r':=r') (by omega)).trans (vP r')
  ·have:r=r'+1:=by omega
   subst this;exact eQ _
def bG{V:Type}{l l':List V}(h:l <+: l'){i:Nat}{x:V}(hx:l[i]?=some x):l'[i]?=some x:=by
 obtain⟨t,rfl⟩:=h;rw[Q3 (E4.1 hx).1,hx]
def rN(r:Nat):(bfsB e K s0 r)[0]?=some (s0,[]):=bG (fE (F7 r)) rfl
def pV:∀r:Nat,((bfsB e K s0 r).map Prod.fst).Nodup
 |0=>by simp[bfsB]
 |r+1=>by
  have ih:=pV r;rw[bfsB];split
  ·exact ih
  ·split
   ·exact ih
   ·rename_i x _ hn;rw[N6,Y7];refine⟨ih,by simp,λa ha b hb hab=>hn ?_⟩;have:b=e x.1 (r%K):=by simpa using hb
    rw[<- this,<- hab];exact ha
def rY:∀{r u:Nat} {x:A×A2},(bfsB e K s0 r)[u]?=some x->u=0\/∃r' y,r'<r/\r' / K<u/\(bfsB e K s0 r)[r' / K]?=some y/\x=(e y.1 (r'%K),y.2++[(↑(r'%K):Int)])
 |0,u,x,h=>by
  left;have:=(E4.1 h).1;simp[bfsB]at this;exact this
 |r+1,u,x,h=>by
  have old:(bfsB e K s0 r)[u]?=some x->u=0\/∃r' y,r'<r+1/\r' / K<u/\(bfsB e K s0 (r+1))[r' / K]?=some y/\x=(e y.1 (r'%K),y.2++[(↑(r'%K):Int)]):=λh=>by
   rcases rY h with h|⟨r',y,h1,h2,h3,h4⟩
   ·exact Or.inl h
   ·exact Or.inr ⟨r',y,by omega,h2,bG (vP r) h3,h4⟩
  have hh:=h;rw[bfsB]at h;split at h
  ·exact old h
  ·rename_i y hy;split at h
   ·exact old h
   ·rename_i hn;rcases J0 u (bfsB e K s0 r).length with g|g
    ·rw[Q3 g]at h;exact old h
    ·right;rw[U4 g]at h
     have hu:u-(bfsB e K s0 r).length=0:=by
      have:=(E4.1 h).1;simpa using this
     rw[hu]at h
     have hx:x=(e y.1 (r%K),y.2++[(↑(r%K):Int)]):=by
      simp at h;exact h.symm
     have hk:=(E4.1 hy).1;exact⟨r,y,by omega,by omega,bG (vP r) hy,hx⟩
def bfs_to{r:Nat}{x:A×A2}(hx:(bfsB e K s0 r)[r / K]?=some x):e x.1 (r%K)∈(bfsB e K s0 (r+1)).map Prod.fst:=by
 rw[bfsB,hx];simp only;split
 ·assumption
 ·simp
structure bS(e:A->Nat->A)(K:Nat)(s0:A)(L:List (A×A2)):Prop where
 eq:L=bfsB e K s0 (L.length*K)
variable {L:List (A×A2)}
def bS.at(h:bS e K s0 L){r:Nat}(hr:r<=L.length*K):bfsB e K s0 r <+: L:=by
 have:=fE (e:=e) (K:=K) (s0:=s0) hr;rw[<- h.eq]at this;exact this
def bS.first(h:bS e K s0 L):L[0]?=some (s0,[]):=by
 rw[h.eq];exact rN _
def bS.nodup(h:bS e K s0 L):(L.map Prod.fst).Nodup:=by
 rw[h.eq];exact pV _
def bS.long(h:bS e K s0 L){i a:Nat}(hi:i<L.length)(ha:a<K):∃x,L[i]?=some x/\(bfsB e K s0 (i*K+a))[i]?=some x:=by
 refine⟨_,J8 hi,?_⟩;have a2:=h.at (r:=i*K+a) (by have:=lI hi ha;omega);rcases J0 i (bfsB e K s0 (i*K+a)).length with g|g
 ·have:=bG a2 (J8 g);rw[J8 hi]at this;rw[J8 g,this]
 ·exfalso
  have a3:∀d,bfsB e K s0 (i*K+a+d)=bfsB e K s0 (i*K+a):=by
   intro d
   induction d with
   |zero=>rfl
   |succ d ih =>
    show bfsB e K s0 (i*K+a+d+1)=_;rw[bfsB,ih,W8 ?_];have h1:(i*K+a) / K<=(i*K+a+d) / K:=DU (by omega);rw[iU ha]at h1;omega
  have h2:=a3 (L.length*K-(i*K+a));rw[show i*K+a+(L.length*K-(i*K+a))=L.length*K by have:=lI hi ha;omega,<- h.eq]at h2;rw[<- h2]at g;omega
def bS.closed(h:bS e K s0 L){i a:Nat}{x:A×A2}(hx:L[i]?=some x)(ha:a<K):∃j y,L[j]?=some y/\y.1=e x.1 a/\∀u,0<u->u<=j->∃i' a' z w,a'<K/\i'*K+a'<=i*K+a/\i'<u/\L[i']?=some z/\L[u]?=some w/\w.1=e z.1 a':=by
 have hi:=(E4.1 hx).1;obtain⟨x',h1,h2⟩:=h.long hi ha;rw[hx]at h1;injection h1 with h1
 subst h1;have a8:=lI hi ha;have a2:=h.at (r:=i*K+a+1) (by omega);have h3:=bfs_to (e:=e) (K:=K) (s0:=s0) (r:=i*K+a) (x:=x) (by rw[iU ha];exact h2);rw[oJ ha]at h3;obtain⟨y,hy,a5⟩:=D7.1 h3;obtain⟨j,hj,a4⟩:=P1.1 hy;have a3:(bfsB e K s0 (i*K+a+1))[j]?=some y:=by rw[J8 hj,a4]
 refine⟨j,y,bG a2 a3,a5,λu hu a7=>?_⟩;have a6:u<(bfsB e K s0 (i*K+a+1)).length:=by omega
 have hw:=J8 a6;rcases rY hw with q|⟨r',z,q1,q2,q3,q4⟩
 ·omega
 ·have hK:0<K:=by omega
  refine⟨r' / K,r'%K,z,_,lX _ hK,?_,q2,bG a2 q3,bG a2 hw,by rw[q4]⟩;have:=yU r' K;rw[qY]at this;omega
def bS.from(h:bS e K s0 L)(hK:0<K){u:Nat}{x:A×A2}(hx:L[u]?=some x):u=0\/∃i a y,i<u/\a<K/\L[i]?=some y/\x=(e y.1 a,y.2++[(a:Int)]):=by
 have a2:=hx;rw[h.eq]at a2;rcases rY a2 with q|⟨r',z,q1,q2,q3,q4⟩
 ·exact Or.inl q
 ·rw[<- h.eq]at q3;exact Or.inr ⟨r' / K,r'%K,z,q2,lX _ hK,q3,q4⟩
end
end
section
def E(m:A9):Nat->Nat->Nat->Prop
 |0,_,_=>True
 |k+1,s,t=>E m k s t/\∀a,a<m.I.toNat->ot m s a=ot m t a/\E m k (nx m s a) (nx m t a)
section
variable {m:A9}
def E_refl:∀(k s:Nat),E m k s s
 |0,_=>trivial
 |k+1,s=>⟨E_refl k s,λ_ _=>⟨rfl,E_refl k _⟩⟩
def lH:∀{k s t:Nat},E m k s t->E m k t s
 |0,_,_,_=>trivial
 |_+1,_,_,h=>⟨lH h.1,λa ha=>⟨(h.2 a ha).1.symm,lH (h.2 a ha).2⟩⟩
def iV:∀{k s t u:Nat},E m k s t->E m k t u->E m k s u
 |0,_,_,_,_,_=>trivial
 |_+1,_,_,_,h,g=>⟨iV h.1 g.1,λa ha=>⟨(h.2 a ha).1.trans (g.2 a ha).1,iV (h.2 a ha).2 (g.2 a ha).2⟩⟩
def E_mono{k j s t:Nat}(hk:k<=j)(h:E m j s t):E m k s t:=by
 induction j with
 |zero =>
  have e:k=0:=by omega
  subst e;exact h
 |succ j ih =>
  rcases J0 k (j+1) with h1|h1
  ·exact ih (by omega) h.1
  ·have e:k=j+1:=by omega
   subst e;exact h
def E_outs:∀{w:A2} {s t:Nat},E m w.length s t->WOk m.I w->outs m s w=outs m t w
 |[],_,_,_,_=>rfl
 |a::w,s,t,h,hw=>by
  have ha:=hw.head;obtain⟨h1,h2⟩:=h.2 a.toNat (by omega);show ot m s a.toNat::outs m _ w=ot m t a.toNat::outs m _ w;rw[h1,E_outs (w:=w) h2 hw.tail]
def wX:∀{k s t:Nat},(∀w,w.length<=k->WOk m.I w->outs m s w=outs m t w)->E m k s t
 |0,_,_,_=>trivial
 |k+1,s,t,h=>⟨wX λw hl hw=>h w (by omega) hw,λa ha=>by
  have hx:∀w,w.length<=k->WOk m.I w->ot m s a=ot m t a/\outs m (nx m s a) w=outs m (nx m t a) w:=λw hl hw=>by
   have h1:=h ((a:Int)::w) (by simp;omega) (λx hx=>by
    rcases H8.1 hx with rfl|hx
    ·exact⟨by omega,by omega⟩
    ·exact hw x hx)
   have h2:ot m s a::outs m (nx m s a) w=ot m t a::outs m (nx m t a) w:=h1
   injection h2 with h3 h4
   exact⟨h3,h4⟩
  exact⟨(hx [] (F7 _) (λx hx=>by cases hx)).1,wX λw hl hw=>(hx w hl hw).2⟩⟩
structure X6(m:A9)(k:Nat)(c:A2):Prop where
 len:c.length=m.N.length
 rng:∀s,s<m.N.length->∃x:Nat,c[s]?=some (x:Int)/\x<m.N.length
 cls:∀s t,s<m.N.length->t<m.N.length->(c[s]?=c[t]?↔E m k s t)
def Alike(m:A9)(c:A2)(s t a:Nat):Prop:=c[s]?=c[t]?/\∀b,b<a->ot m s b=ot m t b/\c[nx m s b]?=c[nx m t b]?
def alike_iff(H:J6 m){k:Nat}{c:A2}(C:X6 m k c){s t:Nat}(hs:s<m.N.length)(ht:t<m.N.length):Alike m c s t m.I.toNat↔E m (k+1) s t:=by
 constructor
 ·rintro⟨h1,h2⟩;exact⟨(C.cls s t hs ht).1 h1,λa ha=>⟨(h2 a ha).1,(C.cls _ _ (H.at hs ha).1 (H.at ht ha).1).1 (h2 a ha).2⟩⟩
 ·rintro⟨h1,h2⟩;exact⟨(C.cls s t hs ht).2 h1,λa ha=>⟨(h2 a ha).1,(C.cls _ _ (H.at hs ha).1 (H.at ht ha).1).2 (h2 a ha).2⟩⟩
def finer_same(H:J6 m){k:Nat}{c:A2}(C:X6 m k c){s t:Nat}(hs:s<m.N.length)(ht:t<m.N.length){b0:Bool}(hb:b0=true↔c[s]?=c[t]?) :
  ∃r:Bool,iter (λ(q:Bool×Nat)=>R8.s89 m c s (t:Int) q.1 q.2) fuel (b0,0)=some r/\(r=true↔E m (k+1) s t):=by
 have hI:=H.i2
 obtain⟨r,hr,hq⟩:=aG (step:=λ(q:Bool×Nat)=>R8.s89 m c s (t:Int) q.1 q.2) (λq=>q.2<=m.I.toNat/\(q.1=true↔Alike m c s t q.2)) (λq=>m.I.toNat-q.2) (λr=>r=true↔Alike m c s t m.I.toNat) (λq ⟨g1,g2⟩=>by
  obtain⟨b,a⟩:=q
  simp only at g1 g2
  simp only[R8.s89]
  by_cases g3:a<m.I.toNat
  ·rw[E2,A6]
   cases b with
   |false =>
    right
    rw[G0]
    exact⟨false,rfl,⟨λh=>(by cases h),λh=>absurd (g2.2 ⟨h.1,λb hb=>h.2 b (by omega)⟩) (by simp)⟩⟩
   |true =>
    left
    obtain⟨s1,_,_,x,y,e1,e2,e3,e4⟩:=H.at hs g3
    obtain⟨t1,_,_,x',y',f1,f2,f3,f4⟩:=H.at ht g3
    obtain⟨u,u1,u2⟩:=C.rng _ s1
    obtain⟨v,v1,v2⟩:=C.rng _ t1
    have g2:=g2.1 rfl
    rw[G5,C8 e2,C8 e4,E8 rfl f2,C8 f4]
    by_cases g4:ot m s a=ot m t a
    ·refine⟨(decide ((u:Int)=(v:Int)),a+1),?_,⟨g3,?_⟩,by simp only;omega⟩
     ·rw[E2 g4,C8 e1,C8 e3,E8 rfl u1,E8 rfl f1,C8 f3,E8 rfl v1,L0]
     ·simp only[decide_eq_true_eq]
      constructor
      ·intro h
       refine⟨g2.1,λb hb=>?_⟩
       rcases J0 b a with h1|h1
       ·exact g2.2 b h1
       ·have e:b=a:=by omega
        subst e
        exact⟨g4,by rw[u1,v1,h]⟩
      ·intro h
       have h1:=(h.2 a (by omega)).2
       rw[u1,v1]at h1
       injection h1
    ·refine⟨(false,a+1),?_,⟨g3,?_⟩,by simp only;omega⟩
     ·rw[B4 g4,L0]
     ·exact⟨λh=>(by cases h),λh=>absurd (h.2 a (by omega)).1 g4⟩
  ·right
   have e:a=m.I.toNat:=by omega
   subst e
   exact⟨b,by rw[B4,A6,G0],g2⟩) (b0,0) ⟨F7 _,by rw[hb];exact⟨λh=>⟨h,λb hb=>absurd hb (eP _)⟩,λh=>h.1⟩⟩
 exact⟨r,hr,hq.trans (alike_iff H C hs ht)⟩
def finer_found(H:J6 m){k:Nat}{c:A2}(C:X6 m k c){s:Nat}(hs:s<m.N.length){y:A2}(hy:y.length=s) :
  ∃r:Int,iter (λ(q:Int×Int)=>R8.s90 m c y s q.1 q.2) fuel ((-1:Int),(s:Int)-1)=some r/\((r=-1/\∀t,t<s->¬E m (k+1) s t)\/∃t,t<s/\E m (k+1) s t/\y[t]?=some r):=by
 have hn:=H.n2
 obtain⟨r,hr,hq⟩:=aG (step:=λ(q:Int×Int)=>R8.s90 m c y s q.1 q.2) (λq=>-1<=q.2/\q.2<(s:Int)/\((q.1=-1/\∀t:Nat,q.2<(t:Int)->t<s->¬E m (k+1) s t)\/∃t,t<s/\E m (k+1) s t/\y[t]?=some q.1)) (λq=>(q.2+1).toNat) (λr=>(r=-1/\∀t,t<s->¬E m (k+1) s t)\/∃t,t<s/\E m (k+1) s t/\y[t]?=some r) (λq ⟨g1,g2,g3⟩=>by
  obtain⟨f,t⟩:=q
  simp only at g1 g2 g3
  simp only[R8.s90]
  by_cases g4:0<=t
  ·left
   obtain⟨t,rfl⟩:∃t':Nat,t=(t':Int):=⟨t.toNat,by omega⟩
   have a3:t<s:=by omega
   have ht:t<m.N.length:=by omega
   obtain⟨u,u1,u2⟩:=C.rng s hs
   obtain⟨v,v1,v2⟩:=C.rng t ht
   obtain⟨b,b1,b2⟩:=finer_same H C hs ht (b0:=decide ((u:Int)=(v:Int))) (by
    rw[u1,v1,decide_eq_true_eq]
    exact⟨λh=>by rw[h],λh=>by injection h⟩)
   have a2:=get_at (l:=y) (i:=t) (by omega)
   rw[E2 g4,C8 u1,E8 rfl v1,b1,A6]
   cases b with
   |true =>
    refine⟨(y[t]'(by omega),(t:Int)-1),by rw[G5,E8 rfl a2,L0],⟨by simp only;omega,by simp only;omega,Or.inr ⟨t,a3,b2.1 rfl,a2⟩⟩,by simp only;omega⟩
   |false =>
    refine⟨(f,(t:Int)-1),by rw[G0,L0],⟨by simp only;omega,by simp only;omega,?_⟩,by simp only;omega⟩
    rcases g3 with⟨h1,h2⟩|h
    ·refine Or.inl ⟨h1,λt' h3 h4=>?_⟩
     simp only at h3
     by_cases e:t'=t
     ·subst e
      exact λh=>absurd (b2.2 h) (by simp)
     ·exact h2 t' (by omega) h4
    ·exact Or.inr h
  ·right
   have e:t=-1:=by omega
   subst e
   refine⟨f,by rw[B4],?_⟩
   rcases g3 with⟨h1,h2⟩|h
   ·exact Or.inl ⟨h1,λt' h4=>h2 t' (by omega) h4⟩
   ·exact Or.inr h) ((-1:Int),(s:Int)-1) ⟨by simp only;omega,by simp only;omega,Or.inl ⟨rfl,λt h1 h2=>by simp only at h1;omega⟩⟩
 exact⟨r,hr,hq⟩
structure FinOk(m:A9)(k:Nat)(y:A2)(n s:Nat):Prop where
 ls:s<=m.N.length
 len:y.length=s
 cnt:n<=s
 rng:∀i,i<s->∃x:Nat,y[i]?=some (x:Int)/\x<n
 cls:∀i j,i<s->j<s->(y[i]?=y[j]?↔E m k i j)
def R08_finer_eq(H:J6 m){k:Nat}{c:A2}(C:X6 m k c):∃c',R8 m c=some c'/\X6 m (k+1) c':=by
 have hn:=H.n2;unfold R8
 obtain⟨r,hr,n,hq⟩:=aG (step:=λ(q:A2×Nat×Nat)=>R8.s92 m c q.1 q.2.1 q.2.2) (λq=>FinOk m (k+1) q.1 q.2.1 q.2.2) (λq=>m.N.length-q.2.2) (λr=>∃n,FinOk m (k+1) r n m.N.length) (λq Q=>by
  obtain⟨y,n,s⟩:=q
  simp only at Q
  have hc:=Q.cnt
  have hl:=Q.len
  have a3:=Q.ls
  simp only[R8.s92]
  rw[C.len]
  by_cases g1:s<m.N.length
  ·left
   obtain⟨f,f1,f2⟩:=finer_found H C g1 Q.len
   rw[E2,f1,A6]
   rcases f2 with⟨rfl,f2⟩|⟨t,ht,hE,f2⟩
   ·-- a class of its own
    rw[E2,L0,A6]
    refine⟨(y++[(n:Int)],n+1,s+1),by simp only[R8.k91];rw[aK],(show FinOk m (k+1) (y++[(n:Int)]) (n+1) (s+1) from⟨g1,by simp[Q.len],by omega,λi hi=>?_,λi j hi hj=>?_⟩),by simp only;omega⟩
    ·rcases J0 i s with h|h
     ·obtain⟨x,x1,x2⟩:=Q.rng i h
      exact⟨x,by rw[Q3 (by omega),x1],by omega⟩
     ·have e:i=y.length:=by omega
      subst e
      exact⟨n,by simp,by omega⟩
    ·have a2:∀i,i<s->(y++[(n:Int)])[i]?=y[i]?:=λi hi=>Q3 (by omega)
     have new:(y++[(n:Int)])[s]?=some (n:Int):=by rw[U4 (by omega),hl,Y5];rfl
     have ne:∀i,i<s->y[i]?≠some (n:Int):=λi hi h=>by
      obtain⟨x,x1,x2⟩:=Q.rng i hi
      rw[x1]at h
      injection h with h
      omega
     rcases J0 i s with h|h<;>rcases J0 j s with h'|h'
     ·rw[a2 i h,a2 j h']
      exact Q.cls i j h h'
     ·have e:j=s:=by omega
      subst e
      rw[a2 i h,new]
      exact⟨λh2=>absurd h2 (ne i h),λh2=>absurd (lH h2) (f2 i h)⟩
     ·have e:i=s:=by omega
      subst e
      rw[a2 j h',new]
      exact⟨λh2=>absurd h2.symm (ne j h'),λh2=>absurd h2 (f2 j h')⟩
     ·have e:i=s:=by omega
      have e':j=s:=by omega
      subst e
      subst e'
      exact⟨λ_=>E_refl _ _,λ_=>rfl⟩
   ·obtain⟨x,x1,x2⟩:=Q.rng t ht
    rw[f2]at x1
    injection x1 with x1
    subst x1
    rw[B4,A6]
    refine⟨(y++[(x:Int)],n,s+1),by simp only[R8.k91];rw[aK],(show FinOk m (k+1) (y++[(x:Int)]) n (s+1) from⟨g1,by simp[Q.len],by omega,λi hi=>?_,λi j hi hj=>?_⟩),by simp only;omega⟩
    ·rcases J0 i s with h|h
     ·obtain⟨z,z1,z2⟩:=Q.rng i h
      exact⟨z,by rw[Q3 (by omega),z1],z2⟩
     ·have e:i=y.length:=by omega
      subst e
      exact⟨x,by simp,x2⟩
    ·have a2:∀i,i<s->(y++[(x:Int)])[i]?=y[i]?:=λi hi=>Q3 (by omega)
     have new:(y++[(x:Int)])[s]?=y[t]?:=by rw[U4 (by omega),hl,Y5,f2];rfl
     rcases J0 i s with h|h<;>rcases J0 j s with h'|h'
     ·rw[a2 i h,a2 j h']
      exact Q.cls i j h h'
     ·have e:j=s:=by omega
      subst e
      rw[a2 i h,new,Q.cls i t h ht]
      exact⟨λh2=>iV h2 (lH hE),λh2=>iV h2 hE⟩
     ·have e:i=s:=by omega
      subst e
      rw[a2 j h',new,Q.cls t j ht h']
      exact⟨λh2=>iV hE h2,λh2=>iV (lH hE) h2⟩
     ·have e:i=s:=by omega
      have e':j=s:=by omega
      subst e
      subst e'
      exact⟨λ_=>E_refl _ _,λ_=>rfl⟩
  ·right
   have e:s=m.N.length:=by omega
   subst e
   exact⟨y,by rw[B4],n,Q⟩) ([],0,0) ⟨F7 _,rfl,G4 _,λi h=>absurd h (eP _),λi j h=>absurd h (eP _)⟩
 refine⟨r,by rw[hr,A6],hq.len,λs hs=>?_,λs t hs ht=>hq.cls s t hs ht⟩;obtain⟨x,x1,x2⟩:=hq.rng s hs;have:=hq.cnt;exact⟨x,x1,by omega⟩
def IU(hv:S6 m=some 0)(k:Nat):∃c,gX m (k:Int)=some (c,0)/\X6 m (min k m.N.length) c:=by
 have H:=sB hv;have hn:=H.n2;unfold gX;rw[hv,A6,B4 (by simp),H7 ⟨by omega,by omega,by unfold E0;omega⟩]
 obtain⟨r,hr,hq⟩:=aG (step:=λ(q:A2×Nat)=>gX.s2 m (k:Int) q.1 q.2) (λq=>q.2<=min k m.N.length/\X6 m q.2 q.1) (λq=>min k m.N.length-q.2) (λr=>X6 m (min k m.N.length) r) (λq ⟨g1,g2⟩=>by
  obtain⟨y,i⟩:=q
  simp only at g1 g2
  simp only[gX.s2]
  by_cases g3:i<min k m.N.length
  ·left
   obtain⟨c',e1,e2⟩:=R08_finer_eq H g2
   refine⟨(c',i+1),?_,⟨g3,e2⟩,by simp only;omega⟩
   rw[E2,A6,E2,e1,A6,L0]
  ·right
   have e:i=min k m.N.length:=by omega
   refine⟨y,?_,e ▸ g2⟩
   by_cases h:i<k
   ·rw[E2,A6,B4]
   ·rw[B4,A6,G0]) ((List.replicate m.N.length 0),0) ⟨F7 _,⟨by simp,λs hs=>⟨0,by simp[hs],H.n1⟩,λs t hs ht=>⟨λ_=>trivial,λ_=>by simp[hs,ht]⟩⟩⟩
 exact⟨r,by rw[hr,A6],hq⟩
def HJ{V:Type}{p q:V->Bool}:∀{l:List V},(∀x∈l,p x=true->q x=true)->l.countP q<=l.countP p->∀x∈l,q x=true->p x=true
 |[],_,_,x,hx,_=>by cases hx
 |y::l,h,hc,x,hx,hq=>by
  have h1:l.countP p<=l.countP q:=List.countP_mono_left λx hx=>h x (K7 _ hx);rw[List.countP_cons,List.countP_cons]at hc;have h2:=h y (aR ..)
  have h3:l.countP q<=l.countP p/\(q y=true->p y=true):=by
   cases e1:q y<;>cases e2:p y<;>simp[e1,e2]at hc h2 ⊢<;>omega
  rcases H8.1 hx with rfl|hx
  ·exact h3.2 hq
  ·exact HJ (λx hx=>h x (K7 _ hx)) h3.1 x hx hq
def Rep(m:A9)(k s:Nat):Prop:=∀t,t<s->¬E m k s t
open Classical in
noncomputable def nreps(m:A9)(k:Nat):Nat:=(List.range m.N.length).countP λs=>decide (Rep m k s)
def EG(k:Nat):∀(s:Nat),∃r,r<=s/\Rep m k r/\E m k s r:=by
 intro s
 induction s using Nat.strongRecOn with
 |ind s ih =>
  by_cases h:Rep m k s
  ·exact⟨s,G4 _,h,E_refl _ _⟩
  ·have⟨t,h1⟩:=Classical.not_forall.1 h;obtain⟨h2,h3⟩:=Classical.not_imp.1 h1;have h3:=iH.1 h3;obtain⟨r,r1,r2,r3⟩:=ih t h2;exact⟨r,by omega,r2,iV h3 r3⟩
def Stab(m:A9)(k:Nat):Prop:=∀s t,s<m.N.length->t<m.N.length->E m k s t->E m (k+1) s t
def rep_succ{k s:Nat}(h:Rep m k s):Rep m (k+1) s:=λt ht hE=>h t ht hE.1
open Classical in
open Classical in
def stab_of{k:Nat}(h:nreps m (k+1)<=nreps m k):Stab m k:=by
 intro s t hs ht hE;unfold nreps at h;have key:=HJ (l:=List.range m.N.length) (λs _ h=>E6 (rep_succ (of_decide_eq_true h))) h;obtain⟨r,r1,r2,r3⟩:=EG (m:=m) (k+1) s;obtain⟨u,u1,u2,u3⟩:=EG (m:=m) (k+1) t;have r4:Rep m k r:=of_decide_eq_true (key r (M1.2 (by omega)) (E6 r2));have u4:Rep m k u:=of_decide_eq_true (key u (M1.2 (by omega)) (E6 u2));have a2:E m k r u:=iV (lH r3.1) (iV hE u3.1)
 have e:r=u:=by
  rcases fY r u with h1|h1|h1
  ·exact absurd (lH a2) (u4 r h1)
  ·exact h1
  ·exact absurd a2 (r4 u h1)
 subst e;exact iV r3 (lH u3)
def stab_succ(H:J6 m){k:Nat}(h:Stab m k):Stab m (k+1):=λs t hs ht hE =>
 ⟨hE,λa ha=>⟨(hE.2 a ha).1,h _ _ (H.at hs ha).1 (H.at ht ha).1 (hE.2 a ha).2⟩⟩
def stab_add(H:J6 m){k:Nat}(h:Stab m k):∀j,Stab m (k+j)
 |0=>h
 |j+1=>stab_succ H (stab_add H h j)
open Classical in
def stab_exists(H:J6 m):∃k,k<m.N.length/\Stab m k:=by
 refine S1 λa3=>?_
 have a2:∀k,k<=m.N.length->k+1<=nreps m k:=by
  intro k
  induction k with
  |zero =>
   intro _;unfold nreps;have:0<(List.range m.N.length).countP λs=>@decide (Rep m 0 s) (Classical.propDecidable _):=List.countP_pos_iff.2 ⟨0,M1.2 H.n1,E6 λt ht=>absurd ht (eP _)⟩;exact this
  |succ k ih =>
   intro hk;have h1:=ih (by omega);rcases J0 (nreps m k) (nreps m (k+1)) with h2|h2
   ·omega
   ·exact absurd ⟨k,by omega,stab_of h2⟩ a3
 have h1:=a2 _ (G4 _);have h2:nreps m m.N.length<=(List.range m.N.length).length:=List.countP_le_length;rw[Y6]at h2;omega
def E_all(H:J6 m){s t:Nat}(hs:s<m.N.length)(ht:t<m.N.length)(h:E m m.N.length s t)(j:Nat):E m j s t:=by
 obtain⟨k,hk,hS⟩:=stab_exists H
 have key:∀i,E m (k+i) s t:=by
  intro i
  induction i with
  |zero=>exact E_mono (by omega) h
  |succ i ih=>exact stab_add H hS i s t hs ht ih
 exact E_mono (by omega) (key j)
end
end
section
def oY{V:Type}[DecidableEq V]:∀{l l':List V},l.Nodup->(∀x∈l,x∈l')->l.length<=l'.length
 |[],_,_,_=>F7 _
 |x::l,l',h,hs=>by
  have h1:=aQ.1 h;have hx:=hs x (by simp);have ih:=oY (l:=l) (l':=l'.erase x) h1.2 (λy hy=>(List.mem_erase_of_ne (λe=>h1.1 (by rw[<- e];exact hy))).2 (hs y (K7 _ hy)));rw[KC hx]at ih;have:=DN hx;simp only[E9];omega
def natI(l:List Nat):A2:=l.map λ(x:Nat)=>(x:Int)
def mN{l:List Nat}{i u:Nat}(h:l[i]?=some u):(natI l)[i]?=some (u:Int):=by
 unfold natI;rw[I9,h];rfl
def zE(l:List Nat)(t:Nat):natI l++[(t:Int)]=natI (l++[t]):=by simp[natI]
def dI(l:List Nat):(natI l).length=l.length:=by simp[natI]
def Ext(l l':List Nat):Prop:=∀j u:Nat,l[j]?=some u->l'[j]?=some u
def Ext.rfl'{l:List Nat}:Ext l l:=λ_ _ h=>h
def Ext.trans{l l' l'':List Nat}(h:Ext l l')(g:Ext l' l''):Ext l l'':=λj u e=>g j u (h j u e)
def Ext.push(l:List Nat)(t:Nat):Ext l (l++[t]):=λj u h=>by
 have:=(E4.1 h).1;rw[Q3 this,h]
structure Num(m:A9)(c:A2)(ord:List Nat)(num:A2):Prop where
 rng:∀u∈ord,u<m.N.length
 start:ord[0]?=some m.S.toNat
 len:num.length=m.N.length
 n1:∀j u x:Nat,ord[j]?=some u->c[u]?=some (x:Int)->num[x]?=some (j:Int)
 n2:∀x:Nat,x<m.N.length->num[x]?=some (-1:Int)\/∃j u:Nat,num[x]?=some (j:Int)/\ord[j]?=some u/\c[u]?=some (x:Int)
 reach:∀j u:Nat,ord[j]?=some u->j=0\/∃i v a:Nat,i<j/\ord[i]?=some v/\a<m.I.toNat/\u=nx m v a
section
variable {m:A9}{c num:A2}{ord:List Nat}{k:Nat}
def Num.inj(N:Num m c ord num)(C:X6 m k c){i j u v:Nat}(hi:ord[i]?=some u)(hj:ord[j]?=some v)(h:c[u]?=c[v]?):i=j:=by
 obtain⟨x,x1,_⟩:=C.rng u (N.rng u (H0 hi));have h1:=N.n1 i u x hi x1;have h2:=N.n1 j v x hj (by rw[<- h,x1]);rw[h1]at h2;injection h2 with h2
 omega
def Num.nodup(N:Num m c ord num)(C:X6 m k c):ord.Nodup:=by
 refine V1.2 λi j hi hj a2 h=>?_;have:=N.inj C (get_at hi) (get_at hj) (by rw[h]);omega
def Num.le(N:Num m c ord num)(C:X6 m k c):ord.length<=m.N.length:=by
 have:=oY (N.nodup C) (l':=List.range m.N.length) λx hx=>M1.2 (N.rng x hx)
 rwa [Y6]at this
def Num.push(N:Num m c ord num){i v a t x:Nat}(hi:ord[i]?=some v)(ha:a<m.I.toNat)(ht:t=nx m v a)(htn:t<m.N.length)(hx:c[t]?=some (x:Int))(hxn:x<m.N.length)(hn:num[x]?=some (-1:Int)):Num m c (ord++[t]) (num.set x (ord.length:Int)) where
 rng:=λu hu=>by
  rcases I8.1 hu with h|h
  ·exact N.rng u h
  ·rw[K4.1 h];exact htn
 start:=Ext.push ord t 0 _ N.start
 len:=by rw[bO,N.len]
 n1:=λj u y hj hc=>by
  rcases J0 j ord.length with h|h
  ·rw[Q3 h]at hj;have h1:=N.n1 j u y hj hc
   have a2:x≠y:=λe=>by
    subst e;rw[hn]at h1;injection h1 with h1
    omega
   rw[cW a2];exact h1
  ·have h2:=(E4.1 hj).1;rw[D4,P3]at h2;have e:j=ord.length:=by omega
   subst e;rw[U4 (G4 _),Y5]at hj;injection hj with hj
   subst hj;rw[hx]at hc;injection hc with hc
   have e:x=y:=by omega
   subst e;rw[cG (by rw[N.len];exact hxn)]
 n2:=λy hy=>by
  by_cases e:x=y
  ·subst e;exact Or.inr ⟨ord.length,t,by rw[cG (by rw[N.len];exact hxn)],by simp,hx⟩
  ·rw[cW e];rcases N.n2 y hy with h|⟨j,u,h1,h2,h3⟩
   ·exact Or.inl h
   ·exact Or.inr ⟨j,u,h1,Ext.push ord t j u h2,h3⟩
 reach:=λj u hj=>by
  rcases J0 j ord.length with h|h
  ·rw[Q3 h]at hj;rcases N.reach j u hj with h1|⟨i',v',a',h1,h2,h3,h4⟩
   ·exact Or.inl h1
   ·exact Or.inr ⟨i',v',a',h1,Ext.push ord t i' v' h2,h3,h4⟩
  ·have h2:=(E4.1 hj).1;rw[D4,P3]at h2;have e:j=ord.length:=by omega
   subst e;rw[U4 (G4 _),Y5]at hj;injection hj with hj
   exact Or.inr ⟨i,v,a,(E4.1 hi).1,Ext.push ord t i v hi,ha,by rw[<- hj,ht]⟩
structure iO(m:A9)(c:A2)(ord:List Nat)(v:Nat)(row out:A2)(a:Nat):Prop where
 l1:row.length=a
 l2:out.length=a
 cell:∀b,b<a->∃j u:Nat,row[b]?=some (j:Int)/\ord[j]?=some u/\c[u]?=c[nx m v b]?/\out[b]?=some (ot m v b)
def iO.mono{v:Nat}{row out:A2}{a:Nat}{ord':List Nat}(h:Ext ord ord')(R:iO m c ord v row out a):iO m c ord' v row out a :=
 ⟨R.l1,R.l2,λb hb=>by
  obtain⟨j,u,h1,h2,h3⟩:=R.cell b hb
  exact⟨j,u,h1,h j u h2,h3⟩⟩
def min_number(H:J6 m)(C:X6 m k c)(N:Num m c ord num){i v a:Nat}(hi:ord[i]?=some v)(ha:a<m.I.toNat){e:Int} :
  ∃(ord':List Nat) (num':A2) (x j u:Nat),(idx (c,e).1 (↑(nx m v a):Int) λa6=>idx num a6 λa7=>cond (decide (a7<0)) (idx (c,e).1 (↑(nx m v a):Int) λa2=>idx num a2 λa8=>chk (E0 (List.length (natI ord)+1) 8) (some ((natI ord++[(↑(nx m v a):Int)]),(List.set num a2.toNat (↑(List.length (natI ord)):Int))))) (some (natI ord,num)):Option (A2×A2))=some (natI ord',num')/\Num m c ord' num'/\Ext ord ord'/\c[nx m v a]?=some (x:Int)/\num'[x]?=some (j:Int)/\ord'[j]?=some u/\c[u]?=some (x:Int):=by
 have hn:=H.n2;have hv:=N.rng v (H0 hi);have a3:=(H.at hv ha).1;obtain⟨x,x1,x2⟩:=C.rng _ a3;have a4:=N.le C;rcases N.n2 x x2 with h|⟨j,u,h1,h2,h3⟩
 ·refine⟨ord++[nx m v a],num.set x (ord.length:Int),x,ord.length,nx m v a,?_,N.push hi ha rfl a3 x1 x2 h,Ext.push _ _,x1,by rw[cG (by rw[N.len];exact x2)],by simp,x1⟩;rw[E8 rfl x1,E8 rfl h,E2,E8 rfl x1,E8 rfl h,dI,aK,zE,O3]
 ·exact⟨ord,num,x,j,u,by rw[E8 rfl x1,E8 rfl h1,B4],N,Ext.rfl',x1,h1,h2,h3⟩
def min_row(H:J6 m)(C:X6 m k c)(N:Num m c ord num){i v:Nat}(hi:ord[i]?=some v){e:Int} :
  ∃(ord':List Nat) (num' row out:A2),iter (λ(s:A2×A2×A2×A2×Nat)=>L1.s56 m (c,e) i s.1 s.2.1 s.2.2.1 s.2.2.2.1 s.2.2.2.2) fuel (natI ord,num,[],[],0)=some (natI ord',num',row,out)/\Num m c ord' num'/\Ext ord ord'/\iO m c ord' v row out m.I.toNat:=by
 have hI:=H.i2;have hv:=N.rng v (H0 hi)
 obtain⟨r,hr,ord',num',row,out,rfl,h1,h2,h3⟩:=aG (step:=λ(s:A2×A2×A2×A2×Nat)=>L1.s56 m (c,e) i s.1 s.2.1 s.2.2.1 s.2.2.2.1 s.2.2.2.2) (λs=>∃ord':List Nat,s.1=natI ord'/\Num m c ord' s.2.1/\Ext ord ord'/\s.2.2.2.2<=m.I.toNat/\iO m c ord' v s.2.2.1 s.2.2.2.1 s.2.2.2.2) (λs=>m.I.toNat-s.2.2.2.2) (λr=>∃(ord':List Nat) (num' row out:A2),r=(natI ord',num',row,out)/\Num m c ord' num'/\Ext ord ord'/\iO m c ord' v row out m.I.toNat) (λs ⟨ord',q1,q2,q3,q4,q5⟩=>by
  obtain⟨o,num',row,out,a⟩:=s
  simp only at q1 q2 q4 q5
  subst q1
  simp only[L1.s56]
  by_cases g:a<m.I.toNat
  ·left
   have a3:=q3 i v hi
   obtain⟨_,_,_,x,y,e1,e2,e3,e4⟩:=H.at hv g
   obtain⟨a2,a4,z,j,u,f1,f2,f3,f4,f5,f6,f7⟩:=min_number H C q2 a3 g (e:=e)
   have l1:=q5.l1
   have l2:=q5.l2
   refine⟨(natI a2,a4,row++[(j:Int)],out++[ot m v a],a+1),?_,⟨a2,rfl,f2,q3.trans f3,g,(show iO m c a2 v (row++[(j:Int)]) (out++[ot m v a]) (a+1) from⟨by simp[l1],by simp[l2],λb hb=>?_⟩)⟩,by simp only;omega⟩
   ·rw[E2,C8 (mN a3),E8 rfl e1,C8 e3,f1,A6]
    simp only[L1.k55]
    rw[E8 rfl f4,E8 rfl f5,aK,C8 (mN (f3 i v a3)),E8 rfl e2,C8 e4,aK,L0]
   ·rcases J0 b a with h|h
    ·obtain⟨j',u',c1,c2,c3,c4⟩:=q5.cell b h
     exact⟨j',u',by rw[Q3 (by omega),c1],f3 _ _ c2,c3,by rw[Q3 (by omega),c4]⟩
    ·have e':b=a:=by omega
     subst e'
     exact⟨j,u,by rw[U4 (by omega),l1,Y5];rfl,f6,by rw[f7,f4],by rw[U4 (by omega),l2,Y5];rfl⟩
  ·right
   have e':a=m.I.toNat:=by omega
   subst e'
   exact⟨_,by rw[B4],ord',num',row,out,rfl,q2,q3,q5⟩) (natI ord,num,[],[],0) ⟨ord,rfl,N,Ext.rfl',F7 _,rfl,rfl,λb hb=>absurd hb (eP _)⟩
 exact⟨ord',num',row,out,hr,h1,h2,h3⟩
structure MinOk(m M:A9)(c:A2)(ord:List Nat)(num:A2):Prop where
 cls:X6 m m.N.length c
 num:Num m c ord num
 inp:M.I=m.I
 start:M.S=0
 l1:M.N.length=ord.length
 l2:M.O.length=ord.length
 row:∀i v:Nat,ord[i]?=some v->∃row out,M.N[i]?=some row/\M.O[i]?=some out/\iO m c ord v row out m.I.toNat
def R08_Min_eq(hv:S6 m=some 0):∃M c ord num,L1 m=some (M,0)/\MinOk m M c ord num:=by
 have H:=sB hv;have hn:=H.n2;have b3:=H.st;obtain⟨c,c1,C⟩:=IU hv m.N.length;rw[yH]at C
 have b6:nJ m=some (c,0):=by
  unfold nJ;rw[c1,A6]
 unfold L1;rw[b6,A6,B4 (by simp),H7 ⟨by omega,by omega,by unfold E0;omega⟩]
 obtain⟨y,hy,y1,y2⟩:=aG (step:=λ(s:A2×Nat)=>L1.s2 s.1 s.2) (λs=>s.1.length=m.N.length/\s.2<=m.N.length/\∀x,x<s.2->s.1[x]?=some (-1:Int)) (λs=>m.N.length-s.2) (λr=>r.length=m.N.length/\∀x,x<m.N.length->r[x]?=some (-1:Int)) (λs ⟨g1,g2,g3⟩=>by
  obtain⟨y,i⟩:=s
  simp only at g1 g2 g3
  simp only[L1.s2]
  by_cases g:i<y.length
  ·left
   have hx:=get_at g
   refine⟨(y.set i (-1),i+1),by rw[K8 hx,G5,C8 hx],⟨by simp[g1],by simp only;omega,λx b5=>?_⟩,by simp only;omega⟩
   simp only
   by_cases e:i=x
   ·subst e
    rw[cG g]
   ·rw[cW e]
    exact g3 x (by simp only at b5;omega)
  ·right
   exact⟨y,by rw[B4],g1,λx hx=>g3 x (by omega)⟩) ((List.replicate m.N.length 0),0) ⟨by simp,F7 _,λx h=>absurd h (eP _)⟩
 have hs:m.S.toNat<m.N.length:=by omega
 obtain⟨x0,x1,x2⟩:=C.rng _ hs;rw[hy,A6,E8 (i:=m.S.toNat) (by omega) x1,E8 rfl (y2 x0 x2)]
 have N0:Num m c [m.S.toNat] (y.set x0 0):=⟨λu hu=>by rw[K4.1 hu];exact hs,rfl,by rw[bO,y1],λj u x hj hc=>by
  have a5:=(E4.1 hj).1
  rw[P3]at a5
  have e:j=0:=by omega
  subst e
  injection hj with hj
  subst hj
  rw[x1]at hc
  injection hc with hc
  have e:x0=x:=by omega
  subst e
  rw[cG (by omega)]
  rfl,λx hx=>by
  by_cases e:x0=x
  ·subst e
   exact Or.inr ⟨0,_,by rw[cG (by omega)];rfl,rfl,x1⟩
  ·rw[cW e]
   exact Or.inl (y2 x hx),λj u hj=>by
  have a5:=(E4.1 hj).1
  rw[P3]at a5
  exact Or.inl (by omega)⟩
 obtain⟨r,hr,ord,num,q1,q2,q3,q4⟩:=aG (step:=λ(s:A2×A2×A4×A4×Nat)=>L1.s58 m (c,0) s.1 s.2.1 s.2.2.1 s.2.2.2.1 s.2.2.2.2) (λs=>∃ord:List Nat,s.1=natI ord/\Num m c ord s.2.1/\s.2.2.2.2<=ord.length/\s.2.2.1.length=s.2.2.2.2/\s.2.2.2.1.length=s.2.2.2.2/\∀i v:Nat,i<s.2.2.2.2->ord[i]?=some v->∃row out,s.2.2.1[i]?=some row/\s.2.2.2.1[i]?=some out/\iO m c ord v row out m.I.toNat) (λs=>m.N.length-s.2.2.2.2) (λr=>∃(ord:List Nat) (num:A2),Num m c ord num/\r.1.length=ord.length/\r.2.length=ord.length/\∀i v:Nat,ord[i]?=some v->∃row out,r.1[i]?=some row/\r.2[i]?=some out/\iO m c ord v row out m.I.toNat) (λs ⟨ord,g1,g2,g3,g4,g5,g6⟩=>by
  obtain⟨o,num,next,os,i⟩:=s
  simp only at g1 g2 g3 g4 g5 g6
  subst g1
  have b8:=g2.le C
  simp only[L1.s58]
  by_cases g:i<ord.length
  ·left
   have hi:=get_at g
   obtain⟨a4,a9,row,out,f1,f2,f3,f4⟩:=min_row H C g2 hi (e:=0)
   have a8:=f3 _ _ hi
   have b4:=(E4.1 a8).1
   refine⟨(natI a4,a9,next++[row],os++[out],i+1),?_,⟨a4,rfl,f2,b4,by simp[g4],by simp[g5],λi' v' b7 a2=>?_⟩,by simp only;omega⟩
   ·rw[dI,E2,f1,A6]
    simp only[L1.k57]
    rw[aK,aK]
   ·simp only at b7 ⊢
    rcases J0 i' i with h|h
    ·obtain⟨w,hw⟩:∃w,ord[i']?=some w:=⟨_,get_at (l:=ord) (i:=i') (by omega)⟩
     have a3:=f3 _ _ hw
     rw[a2]at a3
     injection a3 with a3
     subst a3
     obtain⟨a7,b2,z1,z2,z3⟩:=g6 i' v' h hw
     exact⟨a7,b2,by rw[Q3 (by omega),z1],by rw[Q3 (by omega),z2],z3.mono f3⟩
    ·have e:i'=i:=by omega
     subst e
     rw[a8]at a2
     injection a2 with a2
     subst a2
     exact⟨row,out,by rw[U4 (by omega),g4,Y5];rfl,by rw[U4 (by omega),g5,Y5];rfl,f4⟩
  ·right
   have e:i=ord.length:=by omega
   subst e
   exact⟨(next,os),by rw[dI,B4],ord,num,g2,g4,g5,λi' v' a6=>g6 i' v' (E4.1 a6).1 a6⟩) ([m.S],(y.set x0 0),[],[],0) ⟨[m.S.toNat],by simp only[natI,J7,eS];rw[DT b3.1],N0,F7 _,rfl,rfl,λi v h=>absurd h (eP _)⟩
 refine⟨⟨m.I,0,r.1,r.2⟩,c,ord,num,?_,C,q1,rfl,rfl,q2,q3,q4⟩;rw[O3,hr,A6];rfl
def zyt(hv:S6 m=some 0):∃M c ord num,L1 m=some (M,0)/\MinOk m M c ord num/\nM m=some (decide (ord.length=m.N.length)):=by
 obtain⟨M,c,ord,num,h1,h2⟩:=R08_Min_eq hv;refine⟨M,c,ord,num,h1,h2,?_⟩;unfold nM;rw[h1,A6,E2 rfl,A6,h2.l1];congr 1;by_cases h:ord.length=m.N.length
 ·rw[E6 h,E6 (by omega)]
 ·rw[I3 h,I3 (by omega)]
def zyo(hv:S6 m=some 0)(h1:∀s,s<m.N.length->∃w,WOk m.I w/\dest m m.S.toNat w=s)(h2:∀s t,s<m.N.length->t<m.N.length->E m m.N.length s t->s=t):nM m=some true:=by
 have H:=sB hv;obtain⟨M,c,ord,num,_,K,hk⟩:=zyt hv;rw[hk,E6];have a6:=K.num.le K.cls;have a7:=H.st
 -- every state that is reached has a number
 have key:∀(w:A2) (v i:Nat),ord[i]?=some v->WOk m.I w->dest m v w∈ord:=by
  intro w
  induction w with
  |nil=>intro v i hi _;exact H0 hi
  |cons a w ih =>
   intro v i hi hw;have ha:=hw.head;obtain⟨row,out,r1,r2,R⟩:=K.row i v hi;obtain⟨j,u,j1,j2,j3,j4⟩:=R.cell a.toNat (by omega);have a5:=K.num.rng v (H0 hi);have a3:=K.num.rng u (H0 j2);have a2:=(H.at a5 (a:=a.toNat) (by omega)).1;have e:u=nx m v a.toNat:=h2 _ _ a3 a2 ((K.cls.cls _ _ a3 a2).1 j3);subst e;exact ih _ j j2 hw.tail
 have a4:∀s∈List.range m.N.length,s∈ord:=λs hs=>by
  obtain⟨w,w1,w2⟩:=h1 s (M1.1 hs);rw[<- w2];exact key w _ 0 K.num.start w1
 have:=oY (List.nodup_range (n:=m.N.length)) a4;rw[Y6]at this;omega
end
end
section
section
variable {m:A9}
def mB(m:A9)(s0 r:Nat):List (Nat×A2):=bfsB (nx m) m.I.toNat s0 r
abbrev MEnd(m:A9)(s0:Nat)(L:List (Nat×A2)):Prop:=bS (nx m) m.I.toNat s0 L
def mB_rng(H:J6 m){s0:Nat}(hs:s0<m.N.length):∀(r:Nat),∀x∈mB m s0 r,x.1<m.N.length/\x.2.length<=r/\dest m s0 x.2=x.1/\WOk m.I x.2
 |0,x,hx=>by
  have:x=(s0,[]):=by simpa[mB,bfsB]using hx
  subst this;exact⟨hs,G4 _,rfl,λa ha=>by cases ha⟩
 |r+1,x,hx=>by
  have ih:=mB_rng H hs r
  have a2:x∈mB m s0 r->x.1<m.N.length/\x.2.length<=r+1/\dest m s0 x.2=x.1/\WOk m.I x.2:=λh=>by
   have:=ih x h;exact⟨this.1,by omega,this.2.2⟩
  unfold mB at hx;rw[bfsB]at hx;split at hx
  ·exact a2 hx
  ·rename_i y hy;split at hx
   ·exact a2 hx
   ·rcases I8.1 hx with h|h
    ·exact a2 h
    ·have hK:0<m.I.toNat:=by have:=H.i1;omega
     have a3:=ih y (H0 hy);have ha:=lX r hK;have a5:x=(nx m y.1 (r%m.I.toNat),y.2++[(↑(r%m.I.toNat):Int)]):=by simpa using h
     subst a5;refine⟨(H.at a3.1 ha).1,by simp;omega,?_,?_⟩
     ·simp only;rw[fM,a3.2.2.1];show nx m y.1 (Int.toNat _)=_;rw[O3]
     ·refine WOk.append a3.2.2.2 λa a4=>?_;have:a=(↑(r%m.I.toNat):Int):=by simpa using a4
      subst this;omega
def mB_len(H:J6 m){s0:Nat}(hs:s0<m.N.length)(r:Nat):(mB m s0 r).length<=m.N.length:=by
 have:=oY (pV (e:=nx m) (K:=m.I.toNat) (s0:=s0) r) (l':=List.range m.N.length) λx hx=>by
  obtain⟨y,hy,rfl⟩:=D7.1 hx;exact M1.2 (mB_rng H hs r y hy).1
 rwa [B6,Y6]at this
def mB_step{s0 i a:Nat}{x:Nat×A2}(ha:a<m.I.toNat)(hx:(mB m s0 (i*m.I.toNat+a))[i]?=some x) :
  mB m s0 (i*m.I.toNat+(a+1))=if nx m x.1 a∈(mB m s0 (i*m.I.toNat+a)).map Prod.fst then mB m s0 (i*m.I.toNat+a) else mB m s0 (i*m.I.toNat+a)++[(nx m x.1 a,x.2++[(a:Int)])]:=bfs_step ha hx
def mB_next{s0 i:Nat}:mB m s0 (i*m.I.toNat+m.I.toNat)=mB m s0 ((i+1)*m.I.toNat):=by rw[iG]
def mB_get{s0 i r:Nat}{x:Nat×A2}(hx:(mB m s0 (i*m.I.toNat))[i]?=some x)(hr:i*m.I.toNat<=r):(mB m s0 r)[i]?=some x:=bG (fE hr) hx
structure SeenOk(n:Nat)(y:List Bool)(l:List Nat):Prop where
 len:y.length=n
 at_:∀t,t<n->y[t]?=some (decide (t∈l))
end
end
section
section
variable {m:A9}
def mem_natI{l:List Nat}{t:Nat}:(t:Int)∈natI l↔t∈l:=by
 unfold natI;rw[D7];constructor
 ·rintro⟨u,hu,he⟩;have:u=t:=by omega
  rw[<- this];exact hu
 ·exact λh=>⟨t,h,rfl⟩
end
end
section
section
variable {a b:A9}
def pE(a b:A9)(p:Nat×Nat)(x:Nat):Nat×Nat:=(nx a p.1 x,nx b p.2 x)
def pB(a b:A9)(p0:Nat×Nat)(r:Nat):List ((Nat×Nat)×A2):=bfsB (pE a b) a.I.toNat p0 r
abbrev PEnd(a b:A9)(p0:Nat×Nat)(L:List ((Nat×Nat)×A2)):Prop:=bS (pE a b) a.I.toNat p0 L
def difB(a b:A9)(p0:Nat×Nat)(r:Nat):Bool:=match (pB a b p0 r)[r / a.I.toNat]? with
 |some x=>decide (ot a x.1.1 (r%a.I.toNat)≠ot b x.1.2 (r%a.I.toNat))
 |none=>false
def difB_at{p0:Nat×Nat}{i c:Nat}{x:(Nat×Nat)×A2}(hc:c<a.I.toNat)(hx:(pB a b p0 (i*a.I.toNat+c))[i]?=some x):difB a b p0 (i*a.I.toNat+c)=decide (ot a x.1.1 c≠ot b x.1.2 c):=by
 unfold difB;rw[iU hc,hx,oJ hc]
structure Two(a b:A9):Prop where
 a1:J6 a
 b1:J6 b
 inp:a.I=b.I
def mF(T:Two a b){p0:Nat×Nat}(h1:p0.1<a.N.length)(h2:p0.2<b.N.length):∀(r:Nat),∀x∈pB a b p0 r,x.1.1<a.N.length/\x.1.2<b.N.length/\x.2.length<=r/\dest a p0.1 x.2=x.1.1/\dest b p0.2 x.2=x.1.2/\WOk a.I x.2
 |0,x,hx=>by
  have:x=(p0,[]):=by simpa[pB,bfsB]using hx
  subst this;exact⟨h1,h2,G4 _,rfl,rfl,λa ha=>by cases ha⟩
 |r+1,x,hx=>by
  have ih:=mF T h1 h2 r
  have a3:x∈pB a b p0 r->x.1.1<a.N.length/\x.1.2<b.N.length/\x.2.length<=r+1/\dest a p0.1 x.2=x.1.1/\dest b p0.2 x.2=x.1.2/\WOk a.I x.2:=λh=>by
   have:=ih x h;exact⟨this.1,this.2.1,by omega,this.2.2.2⟩
  unfold pB at hx;rw[bfsB]at hx;split at hx
  ·exact a3 hx
  ·rename_i y hy;split at hx
   ·exact a3 hx
   ·rcases I8.1 hx with h|h
    ·exact a3 h
    ·have hK:0<a.I.toNat:=by have:=T.a1.i1;omega
     have a2:=ih y (H0 hy);have ha:=lX r hK;have a5:x=(pE a b y.1 (r%a.I.toNat),y.2++[(↑(r%a.I.toNat):Int)]):=by simpa using h
     subst a5;refine⟨(T.a1.at a2.1 ha).1,(T.b1.at a2.2.1 (by rw[<- T.inp];exact ha)).1,by simp;omega,?_,?_,?_⟩
     ·simp only;rw[fM,a2.2.2.2.1];show nx a y.1.1 (Int.toNat _)=_;rw[O3];rfl
     ·simp only;rw[fM,a2.2.2.2.2.1];show nx b y.1.2 (Int.toNat _)=_;rw[O3];rfl
     ·refine WOk.append a2.2.2.2.2.2 λz a4=>?_;have:z=(↑(r%a.I.toNat):Int):=by simpa using a4
      subst this;omega
def pB_len(T:Two a b){p0:Nat×Nat}(h1:p0.1<a.N.length)(h2:p0.2<b.N.length)(r:Nat):(pB a b p0 r).length<=a.N.length*b.N.length:=by
 have hn:=pV (e:=pE a b) (K:=a.I.toNat) (s0:=p0) r;have:=oY (l:=(((pB a b p0 r).map Prod.fst).map λp=>p.1*b.N.length+p.2)) (l':=List.range (a.N.length*b.N.length)) ?_ λx hx=>?_
 ·rwa [B6,B6,Y6]at this
 ·refine List.Pairwise.map _ (R:=λp q=>p∈(pB a b p0 r).map Prod.fst/\q∈(pB a b p0 r).map Prod.fst/\p≠q) (λp q ⟨hp,hq,a2⟩ he=>?_) (List.Pairwise.imp_of_mem (λ{p q} hp hq a2=>⟨hp,hq,a2⟩) hn);obtain⟨x,hx,rfl⟩:=D7.1 hp;obtain⟨y,hy,rfl⟩:=D7.1 hq;have a3:=(mF T h1 h2 r x hx).2.1;have a4:=(mF T h1 h2 r y hy).2.1;have he:x.1.1*b.N.length+x.1.2=y.1.1*b.N.length+y.1.2:=he;have e1:=iU (i:=x.1.1) a3;have e2:=iU (i:=y.1.1) a4;have e3:=oJ (i:=x.1.1) a3;have e4:=oJ (i:=y.1.1) a4;rw[he]at e1 e3;exact a2 (Prod.ext (by rw[<- e1,e2]) (by rw[<- e3,e4]))
 ·obtain⟨p,hp,rfl⟩:=D7.1 hx;obtain⟨y,hy,rfl⟩:=D7.1 hp;exact M1.2 (lI (mF T h1 h2 r y hy).1 (mF T h1 h2 r y hy).2.1)
def pB_step{p0:Nat×Nat}{i c:Nat}{x:(Nat×Nat)×A2}(hc:c<a.I.toNat)(hx:(pB a b p0 (i*a.I.toNat+c))[i]?=some x) :
  pB a b p0 (i*a.I.toNat+(c+1))=if pE a b x.1 c∈(pB a b p0 (i*a.I.toNat+c)).map Prod.fst then pB a b p0 (i*a.I.toNat+c) else pB a b p0 (i*a.I.toNat+c)++[(pE a b x.1 c,x.2++[(c:Int)])]:=by
 have h:=bfs_step (e:=pE a b) (s0:=p0) hc hx;by_cases g:pE a b x.1 c∈(pB a b p0 (i*a.I.toNat+c)).map Prod.fst
 ·rw[if_pos g];exact h.trans (if_pos g)
 ·rw[if_neg g];exact h.trans (if_neg g)
def pB_next{p0:Nat×Nat}{i:Nat}:pB a b p0 (i*a.I.toNat+a.I.toNat)=pB a b p0 ((i+1)*a.I.toNat):=by rw[iG]
def pB_get{p0:Nat×Nat}{i r:Nat}{x:(Nat×Nat)×A2}(hx:(pB a b p0 (i*a.I.toNat))[i]?=some x)(hr:i*a.I.toNat<=r):(pB a b p0 r)[i]?=some x:=bG (fE hr) hx
def Fst(a b:A9)(p0:Nat×Nat)(res:A2×Bool):Prop :=
 (∃i c x,c<a.I.toNat/\(pB a b p0 (i*a.I.toNat+c))[i]?=some x/\ot a x.1.1 c≠ot b x.1.2 c/\(∀r,r<i*a.I.toNat+c->difB a b p0 r=false)/\res=(x.2++[(c:Int)],true)) \/
 (∃L,PEnd a b p0 L/\(∀r,r<L.length*a.I.toNat->difB a b p0 r=false)/\res=([],false))
end
end
section
section
variable {a b:A9}
def plC(x:(Nat×Nat)×A2):X4:=⟨⟨(x.1.1:Int),(x.1.2:Int)⟩,x.2⟩
def map_get{V G:Type}{f:V->G}{l:List V}{i:Nat}{x:V}(h:l[i]?=some x):(l.map f)[i]?=some (f x):=by rw[I9,h];rfl
structure SeenG(n k:Nat)(y:List (List Bool))(l:E5):Prop where
 len:y.length=n
 at_:∀s t,s<n->t<k->∃row,y[s]?=some row/\row.length=k/\row[t]?=some (decide ((s,t)∈l))
def pair_mem{l:E5}{p q:Nat×Nat}(h:p≠q):p∈l↔p∈l++[q]:=by
 rw[I8,K4];exact⟨Or.inl,λz=>z.elim id λe=>absurd e h⟩
def SeenG.push{n k s t:Nat}{y:List (List Bool)}{l:E5}{row:List Bool}(S:SeenG n k y l)(hs:s<n)(ht:t<k)(hr:y[s]?=some row):SeenG n k (y.set s (row.set t true)) (l++[(s,t)]):=by
 refine⟨by simp[S.len],λu v hu hv=>?_⟩;obtain⟨a2,h1,h2,h3⟩:=S.at_ u v hu hv;by_cases h:s=u
 ·subst h;rw[hr]at h1;injection h1 with h1
  subst h1;refine⟨row.set t true,by rw[cG (by rw[S.len];exact hs)],by simp[h2],?_⟩;by_cases g:t=v
  ·subst g;rw[cG (by omega)];simp
  ·rw[cW g,h3];congr 1;apply decide_eq_decide.2;exact pair_mem λe=>g (congrArg Prod.snd e).symm
 ·refine⟨a2,by rw[cW h,h1],h2,?_⟩;rw[h3];congr 1;apply decide_eq_decide.2;exact pair_mem λe=>h (congrArg Prod.fst e).symm
def seenG_nil(n k:Nat):SeenG n k (List.replicate n (List.replicate k false)) []:=⟨by simp,λs t hs ht=>⟨List.replicate k false,by simp[hs],by simp,by simp[ht]⟩⟩
def big_sum{i c n k K:Nat}(hi:i<=n*k)(hn:n<=128)(hk:k<=128)(hK:K<=64)(hc:c<=64):i*K+c<=1048640:=by
 have h1:n*k<=128*128:=jT hn hk;have h2:i*K<=(128*128)*64:=jT (by omega) hK;omega
def search_row(T:Two a b){p0:Nat×Nat}(h1:p0.1<a.N.length)(h2:p0.2<b.N.length){i:Nat}{x:(Nat×Nat)×A2}{y:List (List Bool)}(hi:i<=a.N.length*b.N.length)
  (hx:(pB a b p0 (i*a.I.toNat))[i]?=some x) (S:SeenG a.N.length b.N.length y ((pB a b p0 (i*a.I.toNat)).map Prod.fst)) (hd:∀r,r<i*a.I.toNat->difB a b p0 r=false) :
  ∃r,iter (λ(s:List (List Bool)×List X4×Nat)=>T9.s20 a b i (plC x) s.1 s.2.1 s.2.2) fuel (y,(pB a b p0 (i*a.I.toNat)).map plC,0)=some r /\
   ((∃y',r=.inl (y',(pB a b p0 ((i+1)*a.I.toNat)).map plC)/\SeenG a.N.length b.N.length y' ((pB a b p0 ((i+1)*a.I.toNat)).map Prod.fst)/\∀r,r<(i+1)*a.I.toNat->difB a b p0 r=false) \/
   (∃res,r=.inr (.inr (.inr res))/\Fst a b p0 res)):=by
 have b3:=T.a1.n2;have a8:=T.b1.n2;have hI:=T.a1.i2;have a9:=mF T h1 h2 _ x (H0 hx)
 obtain⟨r,hr,hq⟩:=aG (step:=λ(s:List (List Bool)×List X4×Nat)=>T9.s20 a b i (plC x) s.1 s.2.1 s.2.2) (λs=>s.2.2<=a.I.toNat/\s.2.1=(pB a b p0 (i*a.I.toNat+s.2.2)).map plC/\SeenG a.N.length b.N.length s.1 ((pB a b p0 (i*a.I.toNat+s.2.2)).map Prod.fst)/\∀r,r<i*a.I.toNat+s.2.2->difB a b p0 r=false) (λs=>a.I.toNat-s.2.2) (λr=>(∃y',r=.inl (y',(pB a b p0 ((i+1)*a.I.toNat)).map plC)/\SeenG a.N.length b.N.length y' ((pB a b p0 ((i+1)*a.I.toNat)).map Prod.fst)/\∀r,r<(i+1)*a.I.toNat->difB a b p0 r=false)\/(∃res,r=.inr (.inr (.inr res))/\Fst a b p0 res)) (λs ⟨q1,q2,q3,q4⟩=>by
  obtain⟨y,l,c⟩:=s
  simp only at q1 q2 q3 q4
  subst q2
  simp only[T9.s20]
  by_cases g:c<a.I.toNat
  ·have a4:=pB_get hx (r:=i*a.I.toNat+c) (by omega)
   obtain⟨g1,_,_,ra,oa,e1,e2,e3,e4⟩:=T.a1.at a9.1 g
   obtain⟨f1,_,_,rb,ob,d1,d2,d3,d4⟩:=T.b1.at a9.2.1 (a:=c) (by rw[<- T.inp];exact g)
   have b6:=big_sum (c:=c) hi b3 a8 (K:=a.I.toNat) (by omega) (by omega)
   have b5:=pB_len T h1 h2 (i*a.I.toNat+c)
   have b7:a.N.length*b.N.length<=128*128:=jT b3 a8
   rw[E2,E8 (n:=(plC x).at_.s) (i:=x.1.1) rfl e2,C8 e4,E8 (n:=(plC x).at_.t) (i:=x.1.2) rfl d2,C8 d4]
   by_cases a5:ot a x.1.1 c≠ot b x.1.2 c
   ·right
    rw[E2 a5,C8 (map_get a4)]
    show ∃r,((aX [x.2,[(c:Int)]]).bind _:Option _)=_/\_
    rw[gT _ (by simp) (by simp;omega),A6]
    refine⟨_,rfl,Or.inr ⟨_,rfl,Or.inl ⟨i,c,x,g,a4,a5,q4,?_⟩⟩⟩
    simp
   ·left
    have b8:ot a x.1.1 c=ot b x.1.2 c:=S1 a5
    have b2:∀r,r<i*a.I.toNat+(c+1)->difB a b p0 r=false:=λr hr=>by
     rcases J0 r (i*a.I.toNat+c) with q|q
     ·exact q4 r q
     ·have:r=i*a.I.toNat+c:=by omega
      rw[this,difB_at g a4,I3 a5]
    have a3:=pB_step g a4
    obtain⟨row,r1,r2,r3⟩:=q3.at_ _ _ g1 f1
    have b4:x.1∈(pB a b p0 (i*a.I.toNat+c)).map Prod.fst:=D7.2 ⟨x,H0 a4,rfl⟩
    have a7:((cond (!(decide ((↑(nx a x.1.1 c):Int)=(plC x).at_.s)&&(decide ((↑(nx b x.1.2 c):Int)=(plC x).at_.t)&&true))) (idx y (↑(nx a x.1.1 c):Int) λa2=>idx a2 (↑(nx b x.1.2 c):Int) λa6=>some (!a6)) (some false):Option Bool))=some (!decide (pE a b x.1 c∈(pB a b p0 (i*a.I.toNat+c)).map Prod.fst)):=by
     by_cases z:pE a b x.1 c=x.1
     ·have z1:nx a x.1.1 c=x.1.1:=congrArg Prod.fst z
      have z2:nx b x.1.2 c=x.1.2:=congrArg Prod.snd z
      rw[E6 (show(↑(nx a x.1.1 c):Int)=(plC x).at_.s by rw[z1];rfl),E6 (show(↑(nx b x.1.2 c):Int)=(plC x).at_.t by rw[z2];rfl),z,E6 b4]
      rfl
     ·have:(!(decide ((↑(nx a x.1.1 c):Int)=(plC x).at_.s)&&(decide ((↑(nx b x.1.2 c):Int)=(plC x).at_.t)&&true)))=true:=by
       by_cases z1:nx a x.1.1 c=x.1.1
       ·have z2:nx b x.1.2 c≠x.1.2:=λq=>z (Prod.ext z1 q)
        rw[I3 (show ¬(↑(nx b x.1.2 c):Int)=(plC x).at_.t from λq=>z2 (Int.ofNat_inj.1 q))]
        simp
       ·rw[I3 (show ¬(↑(nx a x.1.1 c):Int)=(plC x).at_.s from λq=>z1 (Int.ofNat_inj.1 q))]
        rfl
      rw[this,G5,E8 rfl r1,E8 rfl r3]
      rfl
    rw[B4 a5,E8 (n:=(plC x).at_.s) (i:=x.1.1) rfl e1,C8 e3,E8 (n:=(plC x).at_.t) (i:=x.1.2) rfl d1,C8 d3,a7,A6]
    by_cases hm:pE a b x.1 c∈(pB a b p0 (i*a.I.toNat+c)).map Prod.fst
    ·rw[if_pos hm]at a3
     refine⟨(y,(pB a b p0 (i*a.I.toNat+c)).map plC,c+1),by rw[E6 hm,U0,G0,L0],⟨g,by simp only;rw[a3],by simp only;rw[a3];exact q3,b2⟩,by simp only;omega⟩
    ·rw[if_neg hm]at a3
     refine⟨(y.set (nx a x.1.1 c) (row.set (nx b x.1.2 c) true),(pB a b p0 (i*a.I.toNat+c)).map plC++[plC (pE a b x.1 c,x.2++[(c:Int)])],c+1),?_,⟨g,by simp only;rw[a3,N6];rfl,by simp only;rw[a3,N6];exact q3.push g1 f1 r1,b2⟩,by simp only;omega⟩
     rw[I3 hm,jU,G5,E8 rfl r1,E8 rfl r3,C8 (map_get a4)]
     show(aX [x.2,[(c:Int)]]).bind _=_
     rw[gT _ (by simp) (by simp;omega),A6,H7 (by unfold E0;rw[B6];omega),L0,O3,O3]
     simp[plC,pE]
  ·right
   have e':c=a.I.toNat:=by omega
   subst e'
   rw[pB_next]at q3 ⊢
   exact⟨_,by rw[B4],Or.inl ⟨_,rfl,q3,by rw[iG];exact q4⟩⟩) (y,(pB a b p0 (i*a.I.toNat)).map plC,0) ⟨F7 _,rfl,S,hd⟩
 exact⟨r,hr,hq⟩
def zx2(T:Two a b){p0:Nat×Nat}(h1:p0.1<a.N.length)(h2:p0.2<b.N.length):∃res,T9 a b (⟨(p0.1:Int),(p0.2:Int)⟩:fP)=some res/\Fst a b p0 res:=by
 have a3:=T.a1.n2;have a4:=T.b1.n2;have hI:=T.a1.i2;have a6:a.N.length*b.N.length<=128*128:=jT a3 a4;unfold T9
 have grid:=V3 (step:=λ(s:List (List Bool)×Nat)=>T9.s2 a b s.1 s.2) (r:=List.replicate a.N.length (List.replicate b.N.length false)) (λs=>s.2<=a.N.length/\s.1=List.replicate s.2 (List.replicate b.N.length false)++List.replicate (a.N.length-s.2) []) (λs=>a.N.length-s.2) (λs ⟨q1,q2⟩=>by
  obtain⟨y,k⟩:=s
  simp only at q1 q2
  subst q2
  simp only[T9.s2]
  by_cases g:k<a.N.length
  ·left
   refine⟨(List.replicate (k+1) (List.replicate b.N.length false)++List.replicate (a.N.length-(k+1)) [],k+1),?_,⟨g,rfl⟩,by simp only;omega⟩
   have hk:(List.replicate k (List.replicate b.N.length false)++List.replicate (a.N.length-k) [])[k]?=some []:=by
    rw[U4 (by simp),cX,Y5,yR,if_pos (by omega)]
   rw[cX,E2,H7 ⟨by omega,by omega,by unfold E0;omega⟩,C8 hk,L0]
   congr 4
   rw[List.set_append_right _ _ (by simp),cX,Y5,show a.N.length-k=(a.N.length-(k+1))+1 by omega,List.replicate_succ,List.set_cons_zero,List.replicate_succ' (n:=k)]
   simp
  ·right
   have:k=a.N.length:=by omega
   subst this
   rw[cX,B4]
   simp) (n:=fuel) (s:=(List.replicate a.N.length [],0)) ⟨F7 _,by simp⟩
 obtain⟨row,r1,r2,r3⟩:=(seenG_nil a.N.length b.N.length).at_ _ _ h1 h2;have hS:=(seenG_nil a.N.length b.N.length).push h1 h2 r1;rw[H7 ⟨by omega,by omega,by unfold E0;omega⟩,grid,A6];simp only;rw[E8 rfl r1,E8 rfl r3,O3,O3]
 obtain⟨r,hr,hq⟩:=aG (step:=λ(s:List (List Bool)×List X4×Nat)=>T9.s22 a b s.1 s.2.1 s.2.2) (λs=>s.2.2<=(pB a b p0 (s.2.2*a.I.toNat)).length/\s.2.1=(pB a b p0 (s.2.2*a.I.toNat)).map plC/\SeenG a.N.length b.N.length s.1 ((pB a b p0 (s.2.2*a.I.toNat)).map Prod.fst)/\∀r,r<s.2.2*a.I.toNat->difB a b p0 r=false) (λs=>a.N.length*b.N.length+1-s.2.2) (λr=>(r=.inl ()/\Fst a b p0 ([],false))\/∃res,r=.inr res/\Fst a b p0 res) (λs ⟨q1,q2,q3,q4⟩=>by
  obtain⟨y,l,i⟩:=s
  simp only at q1 q2 q3 q4
  subst q2
  simp only[T9.s22]
  have a5:=pB_len T h1 h2 (i*a.I.toNat)
  by_cases g:i<(pB a b p0 (i*a.I.toNat)).length
  ·have hx:=get_at g
   generalize (pB a b p0 (i*a.I.toNat))[i]=x at hx
   obtain⟨r,z1,z2⟩:=search_row T h1 h2 (by omega) hx q3 q4
   rw[E2 (by rw[B6];omega),C8 (map_get hx),z1,A6]
   rcases z2 with⟨y',rfl,z3,z4⟩|⟨res,rfl,z3⟩
   ·left
    have a2:=(fE (e:=pE a b) (K:=a.I.toNat) (s0:=p0) (show i*a.I.toNat<=(i+1)*a.I.toNat by rw[iG];omega)).length_le
    exact⟨(y',(pB a b p0 ((i+1)*a.I.toNat)).map plC,i+1),rfl,⟨by simp only;unfold pB at g ⊢;omega,rfl,z3,z4⟩,by simp only;omega⟩
   ·right
    exact⟨.inr res,rfl,Or.inr ⟨res,rfl,z3⟩⟩
  ·right
   refine⟨.inl (),by rw[B4 (by rw[B6];omega)],Or.inl ⟨rfl,Or.inr ⟨pB a b p0 (i*a.I.toNat),⟨?_⟩,?_,rfl⟩⟩⟩
   ·rw[show(pB a b p0 (i*a.I.toNat)).length=i by omega]
    rfl
   ·rw[show(pB a b p0 (i*a.I.toNat)).length=i by omega]
    exact q4) ((List.replicate a.N.length (List.replicate b.N.length false)).set p0.1 (row.set p0.2 true),[(⟨(⟨(p0.1:Int),(p0.2:Int)⟩:fP),[]⟩:X4)],0) ⟨F7 _,by simp only;rw[lB];simp[pB,bfsB,plC],by
    simp only
    rw[lB]
    exact hS,λr hr=>by simp only at hr;omega⟩
 rw[hr,A6];rcases hq with⟨rfl,hq⟩|⟨res,rfl,hq⟩
 ·exact⟨_,rfl,hq⟩
 ·exact⟨_,rfl,hq⟩
end
end
section
section
variable {a b:A9}
def fst_word(T:Two a b){p0:Nat×Nat}(h1:p0.1<a.N.length)(h2:p0.2<b.N.length){w:A2}(h:Fst a b p0 (w,true)):WOk a.I w/\w.length<=1048640/\∃(v:A2) (c:Nat),w=v++[(c:Int)]/\c<a.I.toNat/\ot a (dest a p0.1 v) c≠ot b (dest b p0.2 v) c:=by
 rcases h with⟨i,c,x,g1,g2,g3,g4,g5⟩|⟨L,_,_,g⟩
 ·injection g5 with g5 _
  have hr:=mF T h1 h2 _ x (H0 g2);have a2:=pB_len T h1 h2 (i*a.I.toNat+c);have hi:=(E4.1 g2).1;have:=big_sum (c:=c+1) (i:=i) (by omega) T.a1.n2 T.b1.n2 (K:=a.I.toNat) (by have:=T.a1.i2;omega) (by have:=T.a1.i2;omega);refine⟨?_,?_,x.2,c,g5,g1,by rw[hr.2.2.2.1,hr.2.2.2.2.1];exact g3⟩
  ·rw[g5];refine WOk.append hr.2.2.2.2.2 λz hz=>?_;have:z=(c:Int):=by simpa using hz
   omega
  ·rw[g5];simp;omega
 ·injection g with _ g
  cases g
def outs_snoc{m:A9}{v:A2}{c s:Nat}:outs m s (v++[(c:Int)])=outs m s v++[ot m (dest m s v) c]:=by
 rw[gR];show _++[ot m (dest m s v) (Int.toNat ↑c)]=_;rw[O3]
def fst_ne(T:Two a b){p0:Nat×Nat}(h1:p0.1<a.N.length)(h2:p0.2<b.N.length){w:A2}(h:Fst a b p0 (w,true)):outs a p0.1 w≠outs b p0.2 w:=by
 obtain⟨_,_,v,c,rfl,_,h3⟩:=fst_word T h1 h2 h;intro he;rw[outs_snoc,outs_snoc]at he;have:=List.append_inj_right' he rfl;injection this with this _
 exact h3 this
def fst_none{p0:Nat×Nat}{w0:A2}(h:Fst a b p0 (w0,false)):∀w,WOk a.I w->outs a p0.1 w=outs b p0.2 w:=by
 rcases h with⟨i,c,x,_,_,_,_,g⟩|⟨L,g1,g2,_⟩
 ·injection g with _ g
  cases g
 ·have key:∀(w:A2) (i:Nat) (x:(Nat×Nat)×A2),L[i]?=some x->WOk a.I w->outs a x.1.1 w=outs b x.1.2 w:=by
   intro w
   induction w with
   |nil=>intro _ _ _ _;rfl
   |cons z w ih =>
    intro i x hx hw;have hz:=hw.head;have hc:z.toNat<a.I.toNat:=by omega
    have hi:=(E4.1 hx).1;obtain⟨x',e1,e2⟩:=g1.long hi hc;rw[hx]at e1;injection e1 with e1
    subst e1;have hd:=g2 (i*a.I.toNat+z.toNat) (lI hi hc);rw[difB_at hc e2]at hd
    have a2:ot a x.1.1 z.toNat=ot b x.1.2 z.toNat:=S1 λq=>by
     rw[E6 q]at hd;cases hd
    obtain⟨j,y,f1,f2,_⟩:=g1.closed hx hc;have:=ih j y f1 hw.tail;rw[f2]at this;show ot a x.1.1 z.toNat::outs a (nx a x.1.1 z.toNat) w=ot b x.1.2 z.toNat::outs b (nx b x.1.2 z.toNat) w;rw[a2];congr 1
  exact λw hw=>key w 0 _ g1.first hw
end
end
section
def leastR{p:Nat->Prop}:∀{r:Nat},p r->∃q,p q/\∀q',q'<q->¬p q':=λ{r} h=>by
 induction r using Nat.strongRecOn with
 |ind r ih =>
  by_cases g:∃q,q<r/\p q
  ·obtain⟨q,h1,h2⟩:=g;exact ih q h1 h2
  ·exact⟨r,h,λq' hq hp=>g ⟨q',hq,hp⟩⟩
structure Can(M:A9):Prop where
 c4:∀i a u,i<M.N.length->a<M.I.toNat->0<u->u<=nx M i a->∃i' a',a'<M.I.toNat/\i'*M.I.toNat+a'<=i*M.I.toNat+a/\i'<u/\nx M i' a'=u
 c5:∀u,0<u->u<M.N.length->∃i a,i<u/\a<M.I.toNat/\nx M i a=u
def Eqv(a:A9)(s:Nat)(b:A9)(t:Nat):Prop:=∀w,WOk a.I w->outs a s w=outs b t w
structure MinSem(m M:A9):Prop where
 ok:J6 M
 inp:M.I=m.I
 start:M.S=0
 eqv:Eqv M 0 m m.S.toNat
 min:∀i j,i<M.N.length->j<M.N.length->Eqv M i M j->i=j
 can:Can M
def Eqv.step{a b:A9}(hi:a.I=b.I){s t c:Nat}(h:Eqv a s b t)(hc:c<a.I.toNat):ot a s c=ot b t c/\Eqv a (nx a s c) b (nx b t c):=by
 have key:∀w,WOk a.I w->ot a s c::outs a (nx a s c) w=ot b t c::outs b (nx b t c) w:=λw hw=>by
  have:=h ((c:Int)::w) (λx hx=>by
   rcases H8.1 hx with rfl|hx
   ·omega
   ·exact hw x hx)
  exact this
 have h0:=key [] (λx hx=>by cases hx);injection h0 with h0 _
 refine⟨h0,λw hw=>?_⟩;have:=key w hw;injection this with _ this
def Eqv.symm{a b:A9}(hi:a.I=b.I){s t:Nat}(h:Eqv a s b t):Eqv b t a s:=λw hw=>(h w (by rw[hi];exact hw)).symm
def Eqv.trans{a b c:A9}(hi:a.I=b.I){s t u:Nat}(h:Eqv a s b t)(g:Eqv b t c u):Eqv a s c u:=λw hw=>(h w hw).trans (g w (by rw[<- hi];exact hw))
section
variable {M M':A9}
def can_match(HM:J6 M)(HM':J6 M')(hi:M.I=M'.I)(hmin:∀i j,i<M.N.length->j<M.N.length->Eqv M i M j->i=j)(hmin':∀i j,i<M'.N.length->j<M'.N.length->Eqv M' i M' j->i=j)(C:Can M)(C':Can M')(h0:Eqv M 0 M' 0) :
  ∀u,u<M.N.length->u<M'.N.length/\Eqv M u M' u:=by
 intro u
 induction u using Nat.strongRecOn with
 |ind u ih =>
  intro hu;by_cases hz:u=0
  ·subst hz;exact⟨HM'.n1,h0⟩
  obtain⟨i0,a0,b1,b2,b3⟩:=C.c5 u (by omega) hu;have hK:0<M.I.toNat:=by omega
  obtain⟨r,⟨⟨i,a,p1,p2,p3,p4⟩,a3⟩⟩:∃r,(∃i a,i<M.N.length/\a<M.I.toNat/\r=i*M.I.toNat+a/\nx M i a=u)/\∀r',r'<r->¬ ∃i a,i<M.N.length/\a<M.I.toNat/\r'=i*M.I.toNat+a/\nx M i a=u :=
   leastR (p:=λr=>∃i a,i<M.N.length/\a<M.I.toNat/\r=i*M.I.toNat+a/\nx M i a=u) (r:=i0*M.I.toNat+a0) ⟨i0,a0,by omega,b2,rfl,b3⟩
  have a9:i<u:=by
   rcases J0 i u with q|q
   ·exact q
   ·exfalso;refine a3 (i0*M.I.toNat+a0) ?_ ⟨i0,a0,by omega,b2,rfl,b3⟩;have:=lI (show i0<i by omega) b2;omega
  obtain⟨a7,hR⟩:=ih i a9 p1;obtain⟨_,a4⟩:=hR.step hi p2;rw[p4]at a4;have a8:a<M'.I.toNat:=by rw[<- hi];exact p2
  have a5:=(HM'.at a7 a8).1
  have a6:∀i' a',i'<M.N.length->a'<M.I.toNat->i'*M.I.toNat+a'<r->nx M i' a'<u:=λi' a' g1 g2 g3=>by
   rcases J0 (nx M i' a') u with q|q
   ·exact q
   ·exfalso;obtain⟨i2,a2,z1,z2,z3,z4⟩:=C.c4 i' a' u g1 g2 (by omega) q;exact a3 (i2*M.I.toNat+a2) (by omega) ⟨i2,a2,by omega,z1,rfl,z4⟩
  rcases fY (nx M' i a) u with q|q|q
  ·exfalso;obtain⟨_,hv⟩:=ih _ q (by omega);have:=hmin u (nx M' i a) hu (by omega) (a4.trans hi (hv.symm hi));omega
  ·rw[q]at a4 a5;exact⟨a5,a4⟩
  ·exfalso;obtain⟨i2,a2,z1,z2,z3,z4⟩:=C'.c4 i a u a7 a8 (by omega) (by omega);rw[<- hi]at z1 z2;obtain⟨w1,w2⟩:=ih i2 z3 (by omega);obtain⟨_,w3⟩:=w2.step hi z1;rw[z4]at w3
   have b4:i2*M.I.toNat+a2<r:=by
    rcases J0 (i2*M.I.toNat+a2) r with g|g
    ·exact g
    ·exfalso;have he:i2*M.I.toNat+a2=i*M.I.toNat+a:=by omega
     have e1:i2=i:=by rw[<- iU (i:=i2) z1,he,iU p2]
     subst e1;have e2:a2=a:=by omega
     subst e2;omega
   have hv:=a6 i2 a2 (by omega) z1 b4;obtain⟨v1,v2⟩:=ih _ hv (by omega);have b5:u<M'.N.length:=by omega
   have:=hmin' (nx M i2 a2) u v1 b5 ((v2.symm hi).trans hi.symm w3);omega
def row_ext{l l':A4}{n k:Nat}{g:Nat->Nat->Int}(h1:l.length=n)(h2:l'.length=n)(h:∀i,i<n->∃x y,l[i]?=some x/\l'[i]?=some y/\x.length=k/\y.length=k/\∀a,a<k->x[a]?=some (g i a)/\y[a]?=some (g i a)):l=l':=by
 refine cT λi=>?_;rcases J0 i n with g1|g1
 ·obtain⟨x,y,e1,e2,e3,e4,e5⟩:=h i g1;rw[e1,e2];congr 1;refine cT λa=>?_;rcases J0 a k with g2|g2
  ·rw[(e5 a g2).1,(e5 a g2).2]
  ·rw[W8 (by omega),W8 (by omega)]
 ·rw[W8 (by omega),W8 (by omega)]
def minsem_uniq{m:A9}(S:MinSem m M)(S':MinSem m M'):M=M':=by
 have hi:M.I=M'.I:=S.inp.trans S'.inp.symm;have h0:Eqv M 0 M' 0:=S.eqv.trans S.inp (S'.eqv.symm S'.inp);have A:=can_match S.ok S'.ok hi S.min S'.min S.can S'.can h0;have B:=can_match S'.ok S.ok hi.symm S'.min S.min S'.can S.can (h0.symm hi)
 have hn:M.N.length=M'.N.length:=by
  have p1:=S.ok.n1;have p2:=S'.ok.n1;have a1:=(A (M.N.length-1) (by omega)).1;have b1:=(B (M'.N.length-1) (by omega)).1;omega
 have hx:∀i a,i<M.N.length->a<M.I.toNat->nx M i a=nx M' i a/\ot M i a=ot M' i a:=λi a h1 h2=>by
  obtain⟨e1,e2⟩:=(A i h1).2.step hi h2;refine⟨?_,e1⟩;have g1:=(S.ok.at h1 h2).1;have g2:=(S'.ok.at (show i<M'.N.length by omega) (a:=a) (by rw[<- hi];exact h2)).1;have e3:=(A _ g1).2;exact S'.min _ _ (by omega) g2 ((e3.symm hi).trans hi.symm e2)
 have hN:M.N=M'.N:=row_ext (n:=M.N.length) (k:=M.I.toNat) (g:=λi a=>(↑(nx M i a):Int)) rfl hn.symm λi h=>by
  obtain⟨x,y,e1,e2,e3,e4,_⟩:=S.ok.row i h;obtain⟨x',y',f1,f2,f3,f4,_⟩:=S'.ok.row i (by omega);refine⟨x,x',e1,f1,by omega,by omega,λa ha=>?_⟩;obtain⟨_,_,_,z,z',g1,_,g2,_⟩:=S.ok.at h ha;obtain⟨_,_,_,v,v',k1,_,k2,_⟩:=S'.ok.at (show i<M'.N.length by omega) (a:=a) (by rw[<- hi];exact ha);rw[e1]at g1;rw[f1]at k1;injection g1 with g1
  injection k1 with k1
  subst g1;subst k1;exact⟨g2,by rw[k2,(hx i a h ha).1]⟩
 have hO:M.O=M'.O:=row_ext (n:=M.N.length) (k:=M.I.toNat) (g:=λi a=>ot M i a) S.ok.ol (S'.ok.ol.trans hn.symm) λi h=>by
  obtain⟨x,y,e1,e2,e3,e4,_⟩:=S.ok.row i h;obtain⟨x',y',f1,f2,f3,f4,_⟩:=S'.ok.row i (by omega);refine⟨y,y',e2,f2,by omega,by omega,λa ha=>?_⟩;obtain⟨_,_,_,z,z',_,g1,_,g2⟩:=S.ok.at h ha;obtain⟨_,_,_,v,v',_,k1,_,k2⟩:=S'.ok.at (show i<M'.N.length by omega) (a:=a) (by rw[<- hi];exact ha);rw[e2]at g1;rw[f2]at k1;injection g1 with g1
  injection k1 with k1
  subst g1;subst k1;exact⟨g2,by rw[k2,(hx i a h ha).2]⟩
 have hs:M.S=M'.S:=S.start.trans S'.start.symm;obtain⟨a1,a2,a3,a4⟩:=M;obtain⟨b1,b2,b3,b4⟩:=M';simp only at hi hs hN hO;rw[hi,hs,hN,hO]
end
structure Shape{A:Type}[DecidableEq A](e:A->Nat->A)(o:A->Nat->Int)(L:List (A×A2))(M:A9):Prop where
 len:M.N.length=L.length
 row:∀i x a,L[i]?=some x->a<M.I.toNat->∃y,L[nx M i a]?=some y/\y.1=e x.1 a/\ot M i a=o x.1 a
def vX{A:Type}{l:List A}(h:l.Nodup){i j:Nat}{x:A}(hi:l[i]?=some x)(hj:l[j]?=some x):i=j:=by
 have h1:=(E4.1 hi);have h2:=(E4.1 hj);obtain⟨a1,a2⟩:=h1;obtain⟨b1,b2⟩:=h2;rcases fY i j with q|q|q
 ·exact absurd (a2.trans b2.symm) (V1.1 h i j a1 b1 q)
 ·exact q
 ·exact absurd (b2.trans a2.symm) (V1.1 h j i b1 a1 q)
def shape_can{A:Type}[DecidableEq A]{e:A->Nat->A}{o:A->Nat->Int}{s0:A}{L:List (A×A2)}{M:A9}(hE:bS e M.I.toNat s0 L)(S:Shape e o L M)(hK:0<M.I.toNat):Can M:=by
 have at_:∀i a x y j,L[i]?=some x->a<M.I.toNat->L[j]?=some y->y.1=e x.1 a->nx M i a=j:=λi a x y j hx ha hj he=>by
  obtain⟨y',h1,h2,_⟩:=S.row i x a hx ha;exact vX hE.nodup (x:=e x.1 a) (by rw[I9,h1,<- h2];rfl) (by rw[I9,hj,<- he];rfl)
 refine⟨λi a u hi ha hu a2=>?_,λu hu a3=>?_⟩
 ·have hx:=get_at (l:=L) (i:=i) (by rw[<- S.len];exact hi);obtain⟨j,y,h1,h2,h3⟩:=hE.closed hx ha;rw[at_ i a _ y j hx ha h1 h2]at a2;obtain⟨i',a',z,w,g1,g2,g3,g4,g5,g6⟩:=h3 u hu a2;exact⟨i',a',g1,g2,g3,at_ i' a' z w u g4 g1 g5 g6⟩
 ·have hx:=get_at (l:=L) (i:=u) (by rw[<- S.len];exact a3);rcases hE.from hK hx with q|⟨i,a,y,g1,g2,g3,g4⟩
  ·omega
  ·exact⟨i,a,g1,g2,at_ i a y _ u g3 g2 hx (by rw[g4])⟩
end
section
section
variable {m:A9}
structure TrimOk(m t:A9)(L:List (Nat×A2)):Prop where
 end_:MEnd m m.S.toNat L
 inp:t.I=m.I
 start:t.S=0
 ok:J6 t
 shape:Shape (nx m) (ot m) L t
def mEnd_rng(H:J6 m){s0:Nat}{L:List (Nat×A2)}(hs:s0<m.N.length)(hE:MEnd m s0 L):L.length<=m.N.length/\∀x∈L,x.1<m.N.length/\dest m s0 x.2=x.1/\WOk m.I x.2:=by
 refine⟨?_,λx hx=>?_⟩
 ·rw[hE.eq];exact mB_len H hs _
 ·rw[hE.eq]at hx;have:=mB_rng H hs _ x hx;exact⟨this.1,this.2.2⟩
def wR{t:A9}{L:List (Nat×A2)}(T:TrimOk m t L):∀(w:A2) (i:Nat) (x:Nat×A2),L[i]?=some x->WOk m.I w->outs t i w=outs m x.1 w
 |[],_,_,_,_=>rfl
 |z::w,i,x,hx,hw=>by
  have hz:=hw.head;obtain⟨y,h1,h2,h3⟩:=T.shape.row i x z.toNat hx (by rw[T.inp];omega);have:=wR T w _ y h1 hw.tail;show ot t i z.toNat::outs t (nx t i z.toNat) w=ot m x.1 z.toNat::outs m (nx m x.1 z.toNat) w;rw[h3,this,h2]
end
end
section
section
variable {O Z:Type}[BEq O]
end
section
variable {m:A9}{c:A2}
def sigV(m:A9)(c:A2)(s a p:Nat):Int:=if p<a then ot m s p else if 64<=p/\p-64<a then(c[nx m s (p-64)]?).getD 0 else 0
def sigA(m:A9)(c:A2)(s:Nat):A2:=(List.range 128).map (sigV m c s m.I.toNat)
def FirstOcc(o:A2):Prop:=∀(s x:Nat),o[s]?=some (x:Int)->∀u:Nat,u<x->∃s',s'<s/\o[s']?=some (u:Int)
structure ClsF(m:A9)(k:Nat)(c:A2):Prop where
 cls:X6 m k c
 first:FirstOcc c
structure Giv(m:A9)(c:A2)(mp:List (A2×Int))(o:A2)(s:Nat):Prop where
 len:o.length=m.N.length
 keys:∀p∈mp,p.1.length=128
 le:mp.length<=s
 get:∀s',s'<s->∃x:Nat,x<mp.length/\o[s']?=some (x:Int)/\mget (sigA m c s') mp=some (x:Int)
 org:∀k v,mget k mp=some v->∃s',s'<s/\sigA m c s'=k
 inj:∀s' s'',s'<s->s''<s->o[s']?=o[s'']?->sigA m c s'=sigA m c s''
 first:∀(s' x:Nat),s'<s->o[s']?=some (x:Int)->∀u:Nat,u<x->∃s'',s''<s'/\o[s'']?=some (u:Int)
 all:∀u:Nat,u<mp.length->∃s',s'<s/\o[s']?=some (u:Int)
open Classical in
open Classical in
end
end
section
section
variable {m t:A9}{c:A2}
def IsFirst(c:A2)(s u:Nat):Prop:=c[s]?=some (u:Int)/\∀s',s'<s->c[s']?≠some (u:Int)
structure Quo(t M:A9)(c:A2):Prop where
 inp:M.I=t.I
 start:M.S=0
 len:M.O.length=M.N.length
 ub:∀s,s<t.N.length->∃x:Nat,c[s]?=some (x:Int)/\x<M.N.length
 row:∀u,u<M.N.length->∃s r o,s<t.N.length/\IsFirst c s u/\M.N[u]?=some r/\M.O[u]?=some o/\r.length=t.I.toNat/\(∀a,a<t.I.toNat->r[a]?=c[nx t s a]?)/\t.O[s]?=some o
 le:M.N.length<=t.N.length
variable {M:A9}
end
end
section
section
variable {m:A9}{c:A2}
def clN(c:A2)(s:Nat):Nat:=((c[s]?).getD 0).toNat
open Classical in
noncomputable def rpN(m:A9)(c:A2)(x:Nat):Nat:=if h:∃s,s<m.N.length/\clN c s=x then Classical.choose h else 0
noncomputable def qE(m:A9)(c:A2)(x a:Nat):Nat:=clN c (nx m (rpN m c x) a)
noncomputable def qO(m:A9)(c:A2)(x a:Nat):Int:=ot m (rpN m c x) a
def oO(C:X6 m m.N.length c){s:Nat}(hs:s<m.N.length):c[s]?=some (↑(clN c s):Int)/\clN c s<m.N.length:=by
 obtain⟨x,x1,x2⟩:=C.rng s hs;unfold clN;rw[x1,N1,O3];exact⟨rfl,x2⟩
def clN_iff(C:X6 m m.N.length c){s t:Nat}(hs:s<m.N.length)(ht:t<m.N.length):clN c s=clN c t↔E m m.N.length s t:=by
 rw[<- C.cls s t hs ht,(oO C hs).1,(oO C ht).1];exact⟨λh=>by rw[h],λh=>by injection h with h;omega⟩
def rpN_spec{s:Nat}(hs:s<m.N.length):rpN m c (clN c s)<m.N.length/\clN c (rpN m c (clN c s))=clN c s:=by
 have h:∃s',s'<m.N.length/\clN c s'=clN c s:=⟨s,hs,rfl⟩;unfold rpN;rw[dif_pos h];exact yO h
def qE_eq(H:J6 m)(C:X6 m m.N.length c){s a:Nat}(hs:s<m.N.length)(ha:a<m.I.toNat):qE m c (clN c s) a=clN c (nx m s a)/\qO m c (clN c s) a=ot m s a:=by
 obtain⟨h1,h2⟩:=rpN_spec (c:=c) hs;have h3:=E_all H h1 hs ((clN_iff C h1 hs).1 h2) (m.N.length+1);exact⟨(clN_iff C (H.at h1 ha).1 (H.at hs ha).1).2 (h3.2 a ha).2,(h3.2 a ha).1⟩
noncomputable def qB(m:A9)(c:A2)(r:Nat):List (Nat×A2):=bfsB (qE m c) m.I.toNat (clN c m.S.toNat) r
def qB_rng(H:J6 m)(C:X6 m m.N.length c):∀(r:Nat),∀x∈qB m c r,∃s,s<m.N.length/\clN c s=x.1
 |0,x,hx=>by
  have:x=(clN c m.S.toNat,[]):=by simpa[qB,bfsB]using hx
  subst this;exact⟨m.S.toNat,by have:=H.st;omega,rfl⟩
 |r+1,x,hx=>by
  have ih:=qB_rng H C r;unfold qB at hx;rw[bfsB]at hx;split at hx
  ·exact ih x hx
  ·rename_i y hy;split at hx
   ·exact ih x hx
   ·rcases I8.1 hx with h|h
    ·exact ih x h
    ·have hK:0<m.I.toNat:=by have:=H.i1;omega
     obtain⟨s,s1,s2⟩:=ih y (H0 hy);have ha:=lX r hK;have a2:x=(qE m c y.1 (r%m.I.toNat),y.2++[(↑(r%m.I.toNat):Int)]):=by simpa using h
     subst a2;exact⟨nx m s (r%m.I.toNat),(H.at s1 ha).1,by rw[<- s2,(qE_eq H C s1 ha).1]⟩
def qB_len(H:J6 m)(C:X6 m m.N.length c)(r:Nat):(qB m c r).length<=m.N.length:=by
 have:=oY (pV (e:=qE m c) (K:=m.I.toNat) (s0:=clN c m.S.toNat) r) (l':=List.range m.N.length) λx hx=>by
  obtain⟨y,hy,rfl⟩:=D7.1 hx;obtain⟨s,s1,s2⟩:=qB_rng H C r y hy;rw[<- s2];exact M1.2 (oO C s1).2
 rwa [B6,Y6]at this
def qB_step{i a:Nat}{x:Nat×A2}(ha:a<m.I.toNat)(hx:(qB m c (i*m.I.toNat+a))[i]?=some x) :
  qB m c (i*m.I.toNat+(a+1))=if qE m c x.1 a∈(qB m c (i*m.I.toNat+a)).map Prod.fst then qB m c (i*m.I.toNat+a) else qB m c (i*m.I.toNat+a)++[(qE m c x.1 a,x.2++[(a:Int)])]:=bfs_step ha hx
def qB_next{i:Nat}:qB m c (i*m.I.toNat+m.I.toNat)=qB m c ((i+1)*m.I.toNat):=by rw[iG]
def qB_get{i r:Nat}{x:Nat×A2}(hx:(qB m c (i*m.I.toNat))[i]?=some x)(hr:i*m.I.toNat<=r):(qB m c r)[i]?=some x:=bG (fE hr) hx
structure Nums(m:A9)(c:A2)(ord:List Nat)(num:A2)(B:List (Nat×A2)):Prop where
 ol:ord.length=B.length
 oc:∀(j u:Nat) (x:Nat×A2),ord[j]?=some u->B[j]?=some x->u<m.N.length/\clN c u=x.1
 nl:num.length=m.N.length
 n1:∀(j:Nat) (x:Nat×A2),B[j]?=some x->num[x.1]?=some (j:Int)
 n2:∀x:Nat,x<m.N.length->x∉B.map Prod.fst->num[x]?=some (-1:Int)
def Nums.push{ord:List Nat}{num:A2}{B:List (Nat×A2)}{u:Nat}{w:A2}(N:Nums m c ord num B)(C:X6 m m.N.length c)(hu:u<m.N.length)(hn:clN c u∉B.map Prod.fst)(hB:(B.map Prod.fst).Nodup):Nums m c (ord++[u]) (num.set (clN c u) (B.length:Int)) (B++[(clN c u,w)]):=by
 have a2:=(oO C hu).2;refine⟨by simp[N.ol],λj v x hj hx=>?_,by simp[N.nl],λj x hx=>?_,λx hx hm=>?_⟩
 ·rcases J0 j B.length with h|h
  ·rw[Q3 (by rw[N.ol];exact h)]at hj;rw[Q3 h]at hx;exact N.oc j v x hj hx
  ·have hl:=(E4.1 hx).1;rw[D4,P3]at hl;have:j=B.length:=by omega
   subst this;rw[U4 (by rw[N.ol];exact G4 _),N.ol,Y5]at hj;rw[U4 (G4 _),Y5]at hx;injection hj with hj
   injection hx with hx
   subst hj;subst hx;exact⟨hu,rfl⟩
 ·rcases J0 j B.length with h|h
  ·rw[Q3 h]at hx;rw[cW (λq=>hn (by rw[q];exact D7.2 ⟨x,H0 hx,rfl⟩)),N.n1 j x hx]
  ·have hl:=(E4.1 hx).1;rw[D4,P3]at hl;have:j=B.length:=by omega
   subst this;rw[U4 (G4 _),Y5]at hx;injection hx with hx
   subst hx;rw[cG (by rw[N.nl];exact a2)]
 ·rw[N6,I8,not_or]at hm;have h1:clN c u≠x:=λq=>hm.2 (by simp[q]);rw[cW h1];exact N.n2 x hx hm.1
def rmin_row(H:J6 m)(C:X6 m m.N.length c){e:Int}{i:Nat}{x:Nat×A2}{ord:List Nat}{num:A2}(hx:(qB m c (i*m.I.toNat))[i]?=some x)(N:Nums m c ord num (qB m c (i*m.I.toNat))) :
  ∃(ord':List Nat) (num' row out:A2),iter (λ(s:A2×A2×A2×A2×Nat)=>L1.s56 m (c,e) i s.1 s.2.1 s.2.2.1 s.2.2.2.1 s.2.2.2.2) fuel (natI ord,num,[],[],0)=some (natI ord',num',row,out)/\Nums m c ord' num' (qB m c ((i+1)*m.I.toNat))/\row.length=m.I.toNat/\out.length=m.I.toNat /\
   ∀a,a<m.I.toNat->∃(j:Nat) (z:Nat×A2),(qB m c ((i+1)*m.I.toNat))[j]?=some z/\z.1=qE m c x.1 a/\row[a]?=some (j:Int)/\out[a]?=some (qO m c x.1 a):=by
 have hI:=H.i2;have hn:=H.n2
 obtain⟨r,hr,ord',num',row,out,rfl,g1,g2,g3,g4⟩:=aG (step:=λ(s:A2×A2×A2×A2×Nat)=>L1.s56 m (c,e) i s.1 s.2.1 s.2.2.1 s.2.2.2.1 s.2.2.2.2) (λs=>∃ord':List Nat,s.1=natI ord'/\s.2.2.2.2<=m.I.toNat/\Nums m c ord' s.2.1 (qB m c (i*m.I.toNat+s.2.2.2.2))/\s.2.2.1.length=s.2.2.2.2/\s.2.2.2.1.length=s.2.2.2.2 /\
   ∀a,a<s.2.2.2.2->∃(j:Nat) (z:Nat×A2),(qB m c (i*m.I.toNat+s.2.2.2.2))[j]?=some z/\z.1=qE m c x.1 a/\s.2.2.1[a]?=some (j:Int)/\s.2.2.2.1[a]?=some (qO m c x.1 a)) (λs=>m.I.toNat-s.2.2.2.2) (λr=>∃(ord':List Nat) (num' row out:A2),r=(natI ord',num',row,out)/\Nums m c ord' num' (qB m c ((i+1)*m.I.toNat))/\row.length=m.I.toNat/\out.length=m.I.toNat /\
   ∀a,a<m.I.toNat->∃(j:Nat) (z:Nat×A2),(qB m c ((i+1)*m.I.toNat))[j]?=some z/\z.1=qE m c x.1 a/\row[a]?=some (j:Int)/\out[a]?=some (qO m c x.1 a)) (λs ⟨ord',q1,q2,q3,q4,q5,q6⟩=>by
  obtain⟨o,num',row,out,a⟩:=s
  simp only at q1 q2 q3 q4 q5 q6
  subst q1
  simp only[L1.s56]
  by_cases g:a<m.I.toNat
  ·left
   have b2:=qB_get hx (r:=i*m.I.toNat+a) (by omega)
   have b8:=qB_len H C (i*m.I.toNat+a)
   have b4:=(E4.1 b2).1
   have hv:=get_at (l:=ord') (i:=i) (by rw[q3.ol];exact b4)
   generalize ord'[i]'(by rw[q3.ol];exact b4)=v at hv
   obtain⟨b3,b6⟩:=q3.oc i v x hv b2
   obtain⟨t1,_,_,xr,yr,e1,e2,e3,e4⟩:=H.at b3 g
   have a8:=qE_eq H C b3 g
   rw[b6]at a8
   have a6:=oO C t1
   have a3:=qB_step g b2
   rw[a8.1]at a3
   have b5:=q3.ol
   rw[E2,C8 (mN hv),E8 rfl e1,C8 e3]
   have fin:∀{a2:List Nat} {a5:A2} {B2:List (Nat×A2)} {j:Nat} {z:Nat×A2},qB m c (i*m.I.toNat+(a+1))=B2->Nums m c a2 a5 B2->B2[j]?=some z->z.1=clN c (nx m v a)->a2[i]?=some v->(∀(j:Nat) (z:Nat×A2),(qB m c (i*m.I.toNat+a))[j]?=some z->B2[j]?=some z) ->
     L1.k55 m (c,e) i row out a (↑(nx m v a):Int) (natI a2) a5=some (.inl (natI a2,a5,row++[(j:Int)],out++[ot m v a],a+1)) /\
     (∃ord'':List Nat,natI a2=natI ord''/\a+1<=m.I.toNat/\Nums m c ord'' a5 (qB m c (i*m.I.toNat+(a+1)))/\(row++[(j:Int)]).length=a+1/\(out++[ot m v a]).length=a+1/\∀b,b<a+1->∃(j':Nat) (z:Nat×A2),(qB m c (i*m.I.toNat+(a+1)))[j']?=some z/\z.1=qE m c x.1 b/\(row++[(j:Int)])[b]?=some (j':Int)/\(out++[ot m v a])[b]?=some (qO m c x.1 b)):=by
    intro a2 a5 B2 j z hB N2 hz a7 b7 a9
    refine⟨?_,a2,rfl,g,by rw[hB];exact N2,by simp[q4],by simp[q5],λb hb=>?_⟩
    ·simp only[L1.k55]
     have:=N2.n1 j z hz
     rw[a7]at this
     rw[E8 rfl a6.1,E8 rfl this,aK,C8 (mN b7),E8 rfl e2,C8 e4,aK,L0]
    ·rw[hB]
     rcases J0 b a with h|h
     ·obtain⟨j',z',w1,w2,w3,w4⟩:=q6 b h
      exact⟨j',z',a9 _ _ w1,w2,by rw[Q3 (by omega),w3],by rw[Q3 (by omega),w4]⟩
     ·have:b=a:=by omega
      subst this
      exact⟨j,z,hz,by rw[a7,a8.1],by rw[U4 (by omega),q4,Y5];rfl,by rw[U4 (by omega),q5,Y5,a8.2];rfl⟩
   by_cases hm:clN c (nx m v a)∈(qB m c (i*m.I.toNat+a)).map Prod.fst
   ·rw[if_pos hm]at a3
    obtain⟨z,hz,a7⟩:=D7.1 hm
    obtain⟨j,hj⟩:=yN.1 hz
    have a4:=q3.n1 j z hj
    rw[a7]at a4
    obtain⟨f1,f2⟩:=fin a3 q3 hj a7 hv (λ_ _ h=>h)
    refine⟨(natI ord',num',row++[(j:Int)],out++[ot m v a],a+1),?_,f2,by simp only;omega⟩
    rw[E8 rfl a6.1,E8 rfl a4,B4,A6]
    exact f1
   ·rw[if_neg hm]at a3
    have a4:=q3.n2 _ a6.2 hm
    have N2:=q3.push (w:=x.2++[(a:Int)]) C t1 hm (pV _)
    obtain⟨f1,f2⟩:=fin (j:=(qB m c (i*m.I.toNat+a)).length) (z:=(clN c (nx m v a),x.2++[(a:Int)])) a3 N2 (by simp) rfl (by rw[Q3 (by omega),hv]) (λj z h=>by rw[Q3 (E4.1 h).1,h])
    refine⟨(natI (ord'++[nx m v a]),num'.set (clN c (nx m v a)) (↑(qB m c (i*m.I.toNat+a)).length:Int),row++[(↑(qB m c (i*m.I.toNat+a)).length:Int)],out++[ot m v a],a+1),?_,f2,by simp only;omega⟩
    rw[E8 rfl a6.1,E8 rfl a4,E2,E8 rfl a6.1,E8 rfl a4,H7 (by unfold E0;rw[dI];omega),zE,dI,A6,b5]
    exact f1
  ·right
   have:a=m.I.toNat:=by omega
   subst this
   rw[qB_next]at q3 q6
   exact⟨_,by rw[B4],ord',num',row,out,rfl,q3,q4,q5,q6⟩) (natI ord,num,[],[],0) ⟨ord,rfl,F7 _,N,rfl,rfl,λa h=>absurd h (eP _)⟩
 exact⟨ord',num',row,out,hr,g1,g2,g3,g4⟩
def R08_Min_sem(hv:S4 m=0):∃M,L1 m=some (M,0)/\MinSem m M:=by
 have c6:S6 m=some 0:=by rw[nN,hv]
 have H:=dG hv;have hn:=H.n2;have d0:=H.st;have c7:=H.i1;have b8:=H.i2;obtain⟨c,c1,C⟩:=IU c6 m.N.length;rw[yH]at C
 have c8:nJ m=some (c,0):=by
  unfold nJ;rw[c1,A6]
 unfold L1;rw[c8,A6,B4 (by simp),H7 ⟨by omega,by omega,by unfold E0;omega⟩]
 obtain⟨y,hy,y1,y2⟩:=aG (step:=λ(s:A2×Nat)=>L1.s2 s.1 s.2) (λs=>s.1.length=m.N.length/\s.2<=m.N.length/\∀x,x<s.2->s.1[x]?=some (-1:Int)) (λs=>m.N.length-s.2) (λr=>r.length=m.N.length/\∀x,x<m.N.length->r[x]?=some (-1:Int)) (λs ⟨g1,g2,g3⟩=>by
  obtain⟨y,i⟩:=s
  simp only at g1 g2 g3
  simp only[L1.s2]
  by_cases g:i<y.length
  ·left
   have hx:=get_at g
   refine⟨(y.set i (-1),i+1),by rw[K8 hx,G5,C8 hx],⟨by simp[g1],by simp only;omega,λx a4=>?_⟩,by simp only;omega⟩
   simp only
   by_cases e:i=x
   ·subst e
    rw[cG g]
   ·rw[cW e]
    exact g3 x (by simp only at a4;omega)
  ·right
   exact⟨y,by rw[B4],g1,λx hx=>g3 x (by omega)⟩) ((List.replicate m.N.length 0),0) ⟨by simp,F7 _,λx h=>absurd h (eP _)⟩
 have hs:m.S.toNat<m.N.length:=by omega
 obtain⟨x1,x2⟩:=oO C hs;rw[hy,A6,E8 (i:=m.S.toNat) (by omega) x1,E8 rfl (y2 _ x2)]
 have N0:Nums m c [m.S.toNat] (y.set (clN c m.S.toNat) 0) (qB m c 0):=by
  have b3:qB m c 0=[(clN c m.S.toNat,[])]:=rfl;refine⟨rfl,λj u x hj hx=>?_,by simp[y1],λj x hx=>?_,λx hx hm=>?_⟩
  ·have hl:=(E4.1 hj).1;rw[P3]at hl;have:j=0:=by omega
   subst this;rw[b3]at hx;injection hj with hj
   injection hx with hx
   subst hj;subst hx;exact⟨hs,rfl⟩
  ·rw[b3]at hx;have hl:=(E4.1 hx).1;rw[P3]at hl;have:j=0:=by omega
   subst this;injection hx with hx
   subst hx;rw[cG (by omega)];rfl
  ·rw[b3]at hm;rw[cW (λq=>hm (by simp[q])),y2 x hx]
 obtain⟨r,hr,L,P,R,rfl,hE,p1,p2,p3⟩:=aG (step:=λ(s:A2×A2×A4×A4×Nat)=>L1.s58 m (c,0) s.1 s.2.1 s.2.2.1 s.2.2.2.1 s.2.2.2.2) (λs=>∃ord:List Nat,s.1=natI ord/\Nums m c ord s.2.1 (qB m c (s.2.2.2.2*m.I.toNat))/\s.2.2.2.2<=(qB m c (s.2.2.2.2*m.I.toNat)).length/\s.2.2.1.length=s.2.2.2.2/\s.2.2.2.1.length=s.2.2.2.2 /\
   ∀(i:Nat) (x:Nat×A2),i<s.2.2.2.2->(qB m c (s.2.2.2.2*m.I.toNat))[i]?=some x->∃row out,s.2.2.1[i]?=some row/\s.2.2.2.1[i]?=some out/\row.length=m.I.toNat/\out.length=m.I.toNat/\∀a,a<m.I.toNat->∃(j:Nat) (z:Nat×A2),(qB m c (s.2.2.2.2*m.I.toNat))[j]?=some z/\z.1=qE m c x.1 a/\row[a]?=some (j:Int)/\out[a]?=some (qO m c x.1 a)) (λs=>m.N.length+1-s.2.2.2.2) (λr=>∃L P R,r=(P,R)/\bS (qE m c) m.I.toNat (clN c m.S.toNat) L/\P.length=L.length/\R.length=L.length /\
   ∀(i:Nat) (x:Nat×A2),L[i]?=some x->∃row out,P[i]?=some row/\R[i]?=some out/\row.length=m.I.toNat/\out.length=m.I.toNat/\∀a,a<m.I.toNat->∃(j:Nat) (z:Nat×A2),L[j]?=some z/\z.1=qE m c x.1 a/\row[a]?=some (j:Int)/\out[a]?=some (qO m c x.1 a)) (λs ⟨ord,q1,q2,q3,q4,q5,q6⟩=>by
  obtain⟨o,num,P,R,i⟩:=s
  simp only at q1 q2 q3 q4 q5 q6
  subst q1
  have c9:=qB_len H C (i*m.I.toNat)
  have d1:=q2.ol
  simp only[L1.s58]
  by_cases g:i<(qB m c (i*m.I.toNat)).length
  ·left
   have hx:=get_at g
   generalize (qB m c (i*m.I.toNat))[i]=x at hx
   obtain⟨a6,b4,row,out,f1,f2,f3,f4,f5⟩:=rmin_row H C (e:=0) hx q2
   have a3:qB m c (i*m.I.toNat) <+: qB m c ((i+1)*m.I.toNat):=fE (by rw[iG];omega)
   have b9:=a3.length_le
   refine⟨(natI a6,b4,P++[row],R++[out],i+1),?_,⟨a6,rfl,f2,by simp only;omega,by simp[q4],by simp[q5],λk z hk hz=>?_⟩,by simp only;omega⟩
   ·rw[dI,E2,f1,A6]
    simp only[L1.k57]
    rw[aK,aK]
   ·simp only at hk hz ⊢
    rcases J0 k i with h|h
    ·have a7:=get_at (l:=qB m c (i*m.I.toNat)) (i:=k) (by omega)
     have a5:=bG a3 a7
     rw[hz]at a5
     injection a5 with a5
     rw[<- a5]at a7
     obtain⟨b7,b6,w1,w2,w3,w4,w5⟩:=q6 k z h a7
     refine⟨b7,b6,by rw[Q3 (by omega),w1],by rw[Q3 (by omega),w2],w3,w4,λa ha=>?_⟩
     obtain⟨j,z',v1,v2⟩:=w5 a ha
     exact⟨j,z',bG a3 v1,v2⟩
    ·have:k=i:=by omega
     subst this
     have a4:=bG a3 hx
     rw[hz]at a4
     injection a4 with a4
     subst a4
     exact⟨row,out,by rw[U4 (by omega),q4,Y5];rfl,by rw[U4 (by omega),q5,Y5];rfl,f3,f4,f5⟩
  ·right
   have he:(qB m c (i*m.I.toNat)).length=i:=by omega
   refine⟨(P,R),by rw[dI,B4],qB m c (i*m.I.toNat),P,R,rfl,⟨?_⟩,by omega,by omega,λk x hx=>q6 k x (by have:=(E4.1 hx).1;omega) hx⟩
   rw[he]
   rfl) ([m.S],y.set (clN c m.S.toNat) 0,[],[],0) ⟨[m.S.toNat],by simp[natI];omega,by simp only;rw[lB];exact N0,F7 _,rfl,rfl,λi x h=>absurd h (eP _)⟩
 have d2:L.length<=m.N.length:=by
  rw[hE.eq];exact qB_len H C _
 have b2:∀x∈L,∃s,s<m.N.length/\clN c s=x.1:=by
  rw[hE.eq];exact qB_rng H C _
 have d3:0<L.length:=(E4.1 hE.first).1
 have b5:Shape (qE m c) (qO m c) L (⟨m.I,0,P,R⟩:A9):=⟨p1,λi x a hx ha=>by
  obtain⟨row,out,w1,w2,w3,w4,w5⟩:=p3 i x hx
  obtain⟨j,z,z1,z2,z3,z4⟩:=w5 a ha
  have e1:nx (⟨m.I,0,P,R⟩:A9) i a=j:=by
   unfold nx
   simp only
   rw[w1,N1,z3,N1,O3]
  refine⟨z,by rw[e1];exact z1,z2,?_⟩
  unfold ot
  simp only
  rw[w2,N1,z4,N1]⟩
 have c0:J6 (⟨m.I,0,P,R⟩:A9):=by
  refine⟨c7,b8,by simp only;omega,by simp only;omega,⟨Int.le_refl 0,by simp only;omega⟩,by simp only;omega,λi hi=>?_⟩;simp only at hi ⊢;have hx:=get_at (l:=L) (i:=i) (by omega);obtain⟨row,out,w1,w2,w3,w4,w5⟩:=p3 i _ hx;refine⟨row,out,w1,w2,by omega,by omega,λu hu=>?_,λv hv=>?_⟩
  ·obtain⟨a,ha,rfl⟩:=P1.1 hu;obtain⟨j,z,z1,_,z3,_⟩:=w5 a (by omega);rw[get_at ha]at z3;injection z3 with z3
   have:=(E4.1 z1).1;omega
  ·obtain⟨a,ha,rfl⟩:=P1.1 hv;obtain⟨j,z,_,_,_,z4⟩:=w5 a (by omega);rw[get_at ha]at z4;injection z4 with z4
   obtain⟨s,s1,s2⟩:=b2 _ (H0 hx);have h:=H.at s1 (a:=a) (by omega);rw[<- s2,(qE_eq H C s1 (a:=a) (by omega)).2]at z4;omega
 have a2:∀(w:A2) (i:Nat) (x:Nat×A2) (s:Nat),L[i]?=some x->s<m.N.length->clN c s=x.1->WOk m.I w->outs (⟨m.I,0,P,R⟩:A9) i w=outs m s w:=by
  intro w
  induction w with
  |nil=>intro _ _ _ _ _ _ _;rfl
  |cons z w ih =>
   intro i x s hx hs hc hw;have hz:=hw.head;have ha:z.toNat<m.I.toNat:=by omega
   obtain⟨y,g1,g2,g3⟩:=b5.row i x z.toNat hx ha;have a8:=qE_eq H C hs ha;rw[hc]at a8;have:=ih _ y (nx m s z.toNat) g1 (H.at hs ha).1 (by rw[g2,a8.1]) hw.tail;show ot (⟨m.I,0,P,R⟩:A9) i z.toNat::outs _ (nx (⟨m.I,0,P,R⟩:A9) i z.toNat) w=ot m s z.toNat::outs m (nx m s z.toNat) w;rw[this,g3,a8.2]
 refine⟨⟨m.I,0,P,R⟩,by rw[O3,hr,A6];rfl,⟨c0,rfl,rfl,λw hw=>a2 w 0 _ _ hE.first hs rfl hw,λi j hi hj h=>?_,shape_can (M:=(⟨m.I,0,P,R⟩:A9)) hE b5 (by simp only;omega)⟩⟩;simp only at hi hj;have hx:=get_at (l:=L) (i:=i) (by omega);have a9:=get_at (l:=L) (i:=j) (by omega);obtain⟨s,s1,s2⟩:=b2 _ (H0 hx);obtain⟨t,t1,t2⟩:=b2 _ (H0 a9)
 have he:E m m.N.length s t:=wX λw _ hw=>by
  rw[<- a2 w i _ s hx s1 s2 hw,<- a2 w j _ t a9 t1 t2 hw];exact h w hw
 have hc:=(clN_iff C s1 t1).2 he;exact vX hE.nodup (x:=clN c s) (by rw[I9,hx,s2];rfl) (by rw[I9,a9,hc,t2];rfl)
end
end
section
section
variable {m M:A9}
open Classical in
structure MinimalP(m:A9):Prop where
 reach:∀s,s<m.N.length->∃w,WOk m.I w/\dest m m.S.toNat w=s
 apart:∀i j,i<m.N.length->j<m.N.length->Eqv m i m j->i=j
open Classical in
open Classical in
open Classical in
end
end

section
section
variable {m M:A9}{ids:List (A4)}{front middle:A4}
structure Parts(M:A9)(front middle:A4)(ids:List (A4)):Prop where
 ok:S4 M=0
 il:ids.length=M.N.length
 is_:∀l∈ids,l.length<=200/\∀x∈l,x.length<=600
 f1:front.length<=200
 f2:∀u∈front,WOk M.I u/\u.length<=200
 m1:middle.length<=200
 m2:∀v∈middle,WOk M.I v/\v.length<=200
end
end
section
section
variable {M I:A9}{sM sI k:Nat}{U:A4}{T:Nat->A4}
structure Pass(M I:A9)(sM sI k:Nat)(U:A4)(T:Nat->A4):Prop where
 two:Two M I
 hM:sM<M.N.length
 hI:sI<I.N.length
 nil:[]∈U
 ok:∀u∈U,WOk M.I u
 cov:∀s,s<M.N.length->∃u∈U,dest M sM u=s
 tne:∀s,s<M.N.length->∃x,x∈T s
 tok:∀s,∀x∈T s,WOk M.I x
 sep:∀s s',s<M.N.length->s'<M.N.length->s≠s'->∃x,x∈T s/\x∈T s'/\outs M s x≠outs M s' x
 pass:∀u∈U,∀v,WOk M.I v->v.length<=k+1->∀x∈T (dest M sM (u++v)),outs M sM (u++v++x)=outs I sI (u++v++x)
 few:∀l:List Nat,l.Nodup->(∀q∈l,∃w,WOk M.I w/\dest I sI w=q)->l.length<=M.N.length+k
variable (P:Pass M I sM sI k U T)
include P
end
end
section
section
variable {m b M:A9}
abbrev outS(m:A9)(w:A2):A2:=outs m m.S.toNat w
def mealy_Run_ok(hv:S4 m=0){w:A2}(hw:I2 w m.I=0):sD m w=some (outS m w,0):=by
 have hl:=tD hw;have a2:=(dG hv).st;unfold sD;rw[ID (by unfold SmW;omega),A6,fromM_start (by unfold SmW;omega) hv,if_neg (λh=>h hw)]
def zyp(c1:S4 m=0)(c2:S4 b=0)(c3:m.I=b.I):jL m b=some 0:=by
 unfold jL
 have key:=V3 (step:=λ(s:Nat)=>jL.s2 m b s) (r:=(.inl ():Unit⊕Int)) (λs=>s<=2) (λs=>2-s) (λs hs=>by
  simp only[jL.s2]
  rcases J0 s 2 with h|h
  ·left
   rcases J0 s 1 with g|g
   ·have:s=0:=by omega
    subst this
    exact⟨1,by rw[E2,E2,uD,A6,c1];rfl,by omega,by omega⟩
   ·have:s=1:=by omega
    subst this
    exact⟨2,by rw[E2,B4,H7 (by omega),uD,A6,c2];rfl,by omega,by omega⟩
  ·right
   rw[B4]) (n:=fuel) (s:=0) (by omega)
 rw[key,A6];show(cond (decide (m.I≠b.I)) (some 15) (some 0):Option Int)=_;rw[B4 (λh=>h c3)]
end
end
section
structure dX(l:List B0):Prop where
 ne:∀t∈l,t.In≠[]
 asc:l.Pairwise (λa b=>cmpW a.In b.In=-1)
 ap:l.Pairwise (λa b=>¬a.In <+: b.In)
def J9.trs{o:A7}(h:J9 o):dX o.T:=⟨λt ht=>(h.prop t ht).2,h.pw.1,h.pw.2.imp λh=>h.1⟩
def dX.one{l:List B0}(h:dX l){a b:B0}(ha:a∈l)(hb:b∈l)(hp:a.In <+: b.In):a=b:=by
 obtain⟨i,hi,rfl⟩:=vF ha;obtain⟨j,hj,rfl⟩:=vF hb;rcases fY i j with g|g|g
 ·exact absurd hp (V1.1 h.ap i j hi hj g)
 ·subst g;rfl
 ·exfalso;have hc:=V1.1 h.asc j i hj hi g;have hl:=hp.length_le;unfold cmpW at hc;rcases Nat.lt_or_eq_of_le hl with q|q
  ·rw[if_neg (by omega),if_pos (by omega)]at hc;cases hc
  ·have e:=hp.eq_of_length q;rw[e]at hc;have:=dJ l[j].In;unfold cmpW at this;rw[this]at hc;cases hc
def dX.add{l:List B0}(h:dX l)(t:B0):dX (addL l t):=by
 unfold addL;by_cases g:dF l t.In=true\/t.In=[]
 ·rw[if_pos g];exact h
 ·rw[if_neg g];have h1:=IA λe=>g (.inl e);have h2:t.In≠[]:=λe=>g (.inr e);have a3:(eX l t).Sublist l:=vG
  have a2:∀x∈eX l t,x∈l/\¬x.In <+: t.In:=λx hx=>by
   have:=eO.1 hx;refine⟨this.1,λe=>?_⟩;rw[E6 e]at this;exact aA this.2
  refine⟨λx hx=>?_,insT_asc (h.asc.sublist a3) λx hx e=>(a2 x hx).2 (e ▸ eQ _),zP (h.ap.sublist a3) λx hx=>⟨(a2 x hx).2,h1 x (a2 x hx).1⟩⟩;rcases kK.1 hx with e|e
  ·rw[e];exact h2
  ·exact h.ne x (a2 x e).1
def EQ{V:Type}{p:V->Bool}:∀{l:List V},(∀(i j:Nat) (hi:i<l.length) (hj:j<l.length),p l[i]=false->p l[j]=false->i=j)->l.length<=(l.filter p).length+1
 |[],_=>by simp
 |x::l,h=>by
  have ih:l.length<=(l.filter p).length+1:=EQ λi j hi hj h1 h2=>by
   have:=h (i+1) (j+1) (by simp;omega) (by simp;omega) h1 h2;omega
  cases hx:p x with
  |true=>rw[vC hx,E9,E9];omega
  |false =>
   have:l.filter p=l:=yK.2 λy hy=>by
    obtain⟨j,hj,rfl⟩:=vF hy;cases e:p l[j]with
    |true=>rfl
    |false =>
     have:=h 0 (j+1) (by simp) (by simp;omega) hx e;omega
   rw[yQ (by rw[hx];exact aA),this,E9];omega
def addL_up{l:List B0}(h:dX l)(t:B0):l.length<=(addL l t).length:=by
 unfold addL;split
 ·exact G4 _
 ·rw[AL];refine EQ λi j hi hj h1 h2=>?_;have p1:l[i].In <+: t.In:=S1 λe=>by rw[I3 e]at h1;cases h1
  have p2:l[j].In <+: t.In:=S1 λe=>by rw[I3 e]at h2;cases h2
  rcases fY i j with g|g|g
  ·exfalso;rcases KF p1 p2 with q|q
   ·exact V1.1 h.ap i j hi hj g q
   ·have e:=h.one (J3 hj) (J3 hi) q;have:=V1.1 h.asc i j hi hj g;rw[e,dJ]at this;cases this
  ·exact g
  ·exfalso;rcases KF p2 p1 with q|q
   ·exact V1.1 h.ap j i hj hi g q
   ·have e:=h.one (J3 hi) (J3 hj) q;have:=V1.1 h.asc j i hj hi g;rw[e,dJ]at this;cases this
section
variable {m:A9}
def wE:∀(ws:A4) (o:A7),dX o.T->dX (M5 m o ws).T
 |[],_,h=>h
 |w::ws,o,h=>wE ws ⟨o.I,addL o.T (tr m w)⟩ (h.add _)
def told_up:∀(ws:A4) (o:A7),dX o.T->o.T.length<=(M5 m o ws).T.length
 |[],_,_=>G4 _
 |w::ws,o,h=>R9 (addL_up h (tr m w)) (told_up ws ⟨o.I,addL o.T (tr m w)⟩ (h.add _))
end
end
section
section
variable {m:A9}{o:A7}{w:A2}
def add_any(H:J6 m)(T:Q9 m o)(hw:I2 w m.I=0):addO o (tr m w)=if 10000<(addL o.T (tr m w)).length then(o,11) else(⟨o.I,addL o.T (tr m w)⟩,0):=by
 have hp:gG (tr m w) o.I=0:=AH.2 (prop_tr H T.inp (by rw[T.inp];exact hw));have hc:¬kA o.T (tr m w):=λ⟨u,hu,h⟩=>h (expl_agree (m:=m) (T.ex u hu) rfl);unfold addO;rw[if_neg (by simpa using hp),if_neg hc]
def tr_sm(hw:I2 w m.I=0):SmX (tr m w):=by
 have:=tD hw;exact⟨show SmW w by unfold SmW;omega,show SmW (outs m m.S.toNat w) by unfold SmW;rw[bU];omega⟩
def GB(H:J6 m)(T:Q9 m o)(hw:I2 w m.I=0)(hl:(addL o.T (tr m w)).length<=10000):Q9 m ⟨o.I,addL o.T (tr m w)⟩:=by
 have a2:=add_any H T hw;rw[if_neg (by omega)]at a2;have h1:=addO_ok (t:=Sym.tr m w) T.ok;have a3:=T.ok.num;have h2:=addO_tr (t:=Sym.tr m w) T.tr (by omega) (tr_sm hw);rw[a2]at h1 h2;exact⟨h1,h2,expl_add T.ex,T.inp⟩
def sR(H:J6 m):∀(ws:A4) (o:A7),Q9 m o->(∀w∈ws,I2 w m.I=0)->(M5 m o ws).T.length<=10000->Q9 m (M5 m o ws)
 |[],_,T,_,_=>T
 |w::ws,o,T,hw,hl=>by
  have h1:=told_up (m:=m) ws ⟨o.I,addL o.T (tr m w)⟩ (T.ok.trs.add _);have hl:(M5 m ⟨o.I,addL o.T (tr m w)⟩ ws).T.length<=10000:=hl;exact sR H ws _ (GB H T (hw w (by simp)) (by simp only at h1;omega)) (λx hx=>hw x (by simp[hx])) hl
def none_told(hi:1<=m.I/\m.I<=64):Q9 m ⟨m.I,[]⟩:=⟨obsOk_of hi (by simp) (λt ht=>by simp at ht) List.Pairwise.nil List.Pairwise.nil,⟨by simp,λt ht=>by cases ht⟩,λt ht=>by simp at ht,rfl⟩
end
end
section
section
variable {m b M:A9}
end
end

section
section
variable {m b:A9}
end
end
section
section
variable {m:A9}
open Classical in
end
end
section
section
variable {m:A9}
end
end
section
structure Known(mp:List (ByteArray×Bool))(out:A4):Prop where
 nd:out.Nodup
 le:out.length<=10000
 get:∀w:A2,(mget (⟨(keyL w).toArray⟩:ByteArray) mp).getD false=decide (w∈out)
section
variable {p q:A4}
end
end
section
section
variable {p q:A4}
end
end
def L9(o:A7)(w:A2)(S:A4):A4:=(S.map λe=>w++e).filter λv=>(ansO o v).isNone
def missO_step{o:A7}{w e:A2}{S:A4}{k:Nat}(h:S[k]?=some e):L9 o w (S.take (k+1))=L9 o w (S.take k)++(if(ansO o (w++e)).isNone=true then [w++e] else []):=by
 unfold L9;rw[Q2 h,N6,oG];simp only[J7,eS,rE,List.filter_nil]
def pK(o:A7)(w:A2)(S:A4):(L9 o w S).length<=S.length:=by
 unfold L9;have:=oH (λv=>(ansO o v).isNone) (S.map λe=>w++e);rw[B6]at this;exact this
def eD{o:A7}{w v:A2}{S:A4}:v∈L9 o w S↔(∃e∈S,v=w++e)/\ansO o v=none:=by
 unfold L9;rw[eO,D7,Option.isNone_iff_eq_none];constructor
 ·rintro⟨⟨e,he,rfl⟩,h⟩;exact⟨⟨e,he,rfl⟩,h⟩
 ·rintro⟨⟨e,he,rfl⟩,h⟩;exact⟨⟨e,he,rfl⟩,h⟩
def zwu{o:A7}{F:List B0}{w:A2}(ho:SmO o)(hv:J9 o)(hF:lE o F):uI F w=some (ansO o w).isSome:=by
 unfold uI;rw[IY ho hv hF,A6];cases ansO o w<;>rfl
def FO{o:A7}{F:List B0}{t:C6}{w:A2}{y:A4}(ho:SmO o)(hv:J9 o)(hF:lE o F)(hS:SmL t.X)(hw:SmW w)(hy:y.length+t.X.length<=3000000):fR w t F y=some (y++L9 o w t.X):=by
 have a5:t.X.length<=2000000:=hS.1;have a4:w.length<=2000000:=hw;unfold fR
 have key:=V3 (step:=λ(s:A4×Nat)=>fR.s2 w t F s.1 s.2) (r:=y++L9 o w t.X) (λs=>s.2<=t.X.length/\s.1=y++L9 o w (t.X.take s.2)) (λs=>t.X.length-s.2) (λs ⟨g1,g2⟩=>by
  obtain⟨z,k⟩:=s
  simp only at g1 g2
  subst g2
  simp only[fR.s2]
  by_cases g4:k<t.X.length
  ·left
   have hx:=get_at g4
   have a6:t.X[k].length<=2000000:=hS.2 _ (J3 _)
   have a3:=missO_step (o:=o) (w:=w) hx
   have a2:=pK o w (t.X.take k)
   rw[H6]at a2
   refine⟨(y++L9 o w (t.X.take (k+1)),k+1),?_,⟨by simp only;omega,rfl⟩,by simp only;omega⟩
   rw[K8 hx,G5,C8 hx,gT _ (by simp) (by simp;omega),A6,a3]
   simp only[W6,DF,V0]
   rw[zwu ho hv hF,A6]
   cases ha:ansO o (w++t.X[k]) with
   |none =>
    simp only[uX,jU,G5,Option.isNone_none,if_true]
    rw[H7 (by rw[D4];unfold E0;omega),Z9]
   |some r=>simp
  ·right
   have e:k=t.X.length:=by omega
   subst e
   rw[B4,T0]) (n:=fuel) (s:=(y,0)) ⟨F7 _,by simp[L9]⟩
 rw[key,A6]
def CK{w:A2}{a:Int}(hw:SmW w):nW w a=some (w++[a]):=by
 have a2:w.length<=2000000:=hw;unfold nW;rw[gT _ (by simp) (by simp;omega),A6];simp
structure N7(t:C6):Prop where
 sm:SmT t
 n:t.I<=4
 p:t.P.length<=600
 s:t.X.length<=600
 pw:∀x∈t.P,x.length<=400
 sw:∀x∈t.X,x.length<=80
def T1(n:Nat)(p:A2):A4:=p::(List.range n).map λ(a:Nat)=>p++[(a:Int)]
def L6(o:A7)(t:C6)(P:A4):A4:=P.flatMap λp=>(T1 t.I.toNat p).flatMap λw=>L9 o w t.X
def zxn{t:C6}{o:A7}(ht:N7 t)(ho:SmO o)(hv:J9 o):bJ t o=some (if chkT t o≠0 then([],chkT t o) else(maxR (L6 o t t.P),0)):=by
 obtain⟨F,a9,hF⟩:=BX ho hv;have hn:=ht.n;have hp:=ht.p;have hs:=ht.s;have hS:=ht.sm.2.2.1;unfold bJ;rw[CE ht.sm,A6];by_cases h:chkT t o=0
 ·rw[B4 (by simpa using h),if_neg (by simpa using h),a9,A6]
  have a3:∀(p:A2) (y:A4),SmW p->p.length<=1000000->y.length<=2500000->iter (λ(s:A4×Nat)=>bJ.s13 t F p s.1 s.2) fuel (y,0)=some (y++((List.range t.I.toNat).map λ(a:Nat)=>p++[(a:Int)]).flatMap λw=>L9 o w t.X) /\
    (((List.range t.I.toNat).map λ(a:Nat)=>p++[(a:Int)]).flatMap λw=>L9 o w t.X).length<=2400:=by
   intro p y a7 b4 hy
   have a2:∀k,k<=t.I.toNat->(((List.range k).map λ(a:Nat)=>p++[(a:Int)]).flatMap λw=>L9 o w t.X).length<=600*k:=by
    intro k
    induction k with
    |zero=>intro _;simp
    |succ k ih =>
     intro hk;rw[jZ,N6,jX,D4];have:=ih (by omega);have:=pK o (p++[(k:Int)]) t.X;simp only[J7,eS,P0,oE,V0];omega
   refine⟨V3 (λs=>s.2<=t.I.toNat/\s.1=y++((List.range s.2).map λ(a:Nat)=>p++[(a:Int)]).flatMap λw=>L9 o w t.X) (λs=>t.I.toNat-s.2) (λs ⟨g1,g2⟩=>?_) ⟨F7 _,by simp⟩,by have:=a2 t.I.toNat (G4 _);omega⟩;obtain⟨z,k⟩:=s;simp only at g1 g2;subst g2;simp only[bJ.s13];by_cases g4:k<t.I.toNat
   ·left;have hl:=a2 k (by omega);refine⟨(y++((List.range (k+1)).map λ(a:Nat)=>p++[(a:Int)]).flatMap λw=>L9 o w t.X,k+1),?_,⟨g4,rfl⟩,by simp only;omega⟩;rw[E2,CK a7,A6,FO ho hv hF hS (by show(p++[(k:Int)]).length<=2000000;simp;omega) (by rw[D4];omega),A6,L0];rw[jZ,N6,jX];simp
   ·right;have e:k=t.I.toNat:=by omega
    subst e;rw[B4]
  have key:=V3 (step:=λ(s:A4×Nat)=>bJ.s14 t F s.1 s.2) (r:=L6 o t t.P) (λs=>s.2<=t.P.length/\s.1.length<=3000*s.2/\s.1=L6 o t (t.P.take s.2)) (λs=>t.P.length-s.2) (λs ⟨g1,g0,g2⟩=>by
   obtain⟨z,k⟩:=s
   simp only at g1 g0 g2
   subst g2
   simp only[bJ.s14]
   by_cases g4:k<t.P.length
   ·left
    have hx:=get_at g4
    have a5:SmW t.P[k]:=ht.sm.2.1.2 _ (J3 _)
    have b3:=ht.pw _ (J3 g4)
    have b5:=pK o t.P[k] t.X
    obtain⟨i1,i2⟩:=a3 t.P[k] (L6 o t (t.P.take k)++L9 o t.P[k] t.X) a5 (by omega) (by rw[D4];omega)
    have a4:L6 o t (t.P.take (k+1))=L6 o t (t.P.take k)++L9 o t.P[k] t.X++((List.range t.I.toNat).map λ(a:Nat)=>t.P[k]++[(a:Int)]).flatMap λw=>L9 o w t.X:=by
     unfold L6 T1
     rw[Q2 hx,jX]
     simp[Z9]
    refine⟨(L6 o t (t.P.take (k+1)),k+1),?_,⟨g4,?_,rfl⟩,by simp only;omega⟩
    ·rw[K8 hx,G5,C8 hx,FO ho hv hF hS a5 (by omega),A6,i1,A6,a4]
    ·simp only
     rw[a4,D4,D4]
     omega
   ·right
    have e:k=t.P.length:=by omega
    subst e
    rw[B4,T0]) (n:=fuel) (s:=([],0)) ⟨F7 _,by simp,by simp[L6]⟩
  have hN:SmL (L6 o t t.P):=by
   refine⟨?_,λv a6=>?_⟩
   ·have hb:∀P:A4,(L6 o t P).length<=3000*P.length:=by
     intro P
     induction P with
     |nil=>simp[L6]
     |cons p P ih =>
      unfold L6 at ih ⊢;rw[P0,D4,E9]
      have hw:((T1 t.I.toNat p).flatMap λw=>L9 o w t.X).length<=600*(T1 t.I.toNat p).length:=by
       generalize T1 t.I.toNat p=X
       induction X with
       |nil=>simp
       |cons w X ih2 =>
        have:=pK o w t.X;rw[P0,D4,E9];omega
      have a8:(T1 t.I.toNat p).length=t.I.toNat+1:=by simp[T1]
      rw[a8]at hw;omega
    have:=hb t.P;omega
   ·unfold L6 at a6;obtain⟨p,b2,h2⟩:=O0.1 a6;obtain⟨w,hw,h3⟩:=O0.1 h2;obtain⟨⟨e,he,rfl⟩,_⟩:=eD.1 h3;have h4:=ht.pw p b2;have h5:=ht.sw e he
    have h6:w.length<=401:=by
     unfold T1 at hw;rcases H8.1 hw with rfl|hw
     ·omega
     ·obtain⟨a,_,rfl⟩:=D7.1 hw;simp;omega
    unfold SmW;rw[D4];omega
  rw[key,A6,JK hN,A6]
 ·rw[E2 h,if_pos h]
def extL(t:C6):A4:=t.P.flatMap λp=>(List.range t.I.toNat).map λ(a:Nat)=>p++[(a:Int)]
def dH{o:A7}(hv:J9 o){w:A2}:∀{S:A4} {l:A4},rowO o w S=some l->l.length=S.length/\∀x∈l,∃e∈S,x.length=e.length
 |[],l,h=>by
  injection h with h
  subst h;exact⟨rfl,λx hx=>by cases hx⟩
 |e::S,l,h=>by
  unfold rowO at h;cases ha:ansO o (w++e) with
  |none=>rw[ha]at h;cases h
  |some r =>
   rw[ha]at h;obtain⟨l',h1,rfl⟩:=dS.1 h;obtain⟨h2,h3⟩:=dH hv h1;have hrl:=kG hv ha;rw[D4]at hrl;refine⟨by simp[h2],λx hx=>?_⟩;rcases H8.1 hx with rfl|hx
   ·exact⟨e,by simp,by rw[M0];omega⟩
   ·obtain⟨e',he',hl'⟩:=h3 x hx;exact⟨e',K7 _ he',hl'⟩
def rowT_sml{t:C6}{o:A7}(hv:J9 o)(ht:SmT t)(w:A2):SmL (rowT t o w).1:=by
 unfold rowT;split
 ·exact gH
 ·cases h:rowO o w t.X with
  |none=>exact gH
  |some l =>
   obtain⟨h1,h2⟩:=dH hv h;refine⟨by show l.length<=2000000;rw[h1];exact ht.2.2.1.1,λx hx=>?_⟩;obtain⟨e,he,hl⟩:=h2 x hx;have:SmW e:=ht.2.2.1.2 e he;unfold SmW at this ⊢;omega

section
section
variable {M:A9}{P:A4}
end
end
section
section
variable {front middle last:A4}
end
end
section
section
variable {m M:A9}
end
end
section
section
variable {m b M:A9}
end
end
section
section
variable {A:Type}[DecidableEq A]{e:A->Nat->A}{K:Nat}{s0:A}
def bfs_mono:∀(r:Nat) {u v:Nat} {x y:A×A2},u<=v->(bfsB e K s0 r)[u]?=some x->(bfsB e K s0 r)[v]?=some y->x.2.length<=y.2.length
 |0,u,v,x,y,huv,hx,hy=>by
  have h1:=(E4.1 hx).1;have h2:=(E4.1 hy).1;have hl:(bfsB e K s0 0).length=1:=rfl;have e1:u=0:=by omega
  have e2:v=0:=by omega
  subst e1;subst e2;rw[hx]at hy;injection hy with hy
  rw[hy];exact G4 _
 |r+1,u,v,x,y,huv,hx,hy=>by
  have ih:=λ{u v x y}=>bfs_mono r (u:=u) (v:=v) (x:=x) (y:=y);rw[bfsB]at hx hy;cases hp:(bfsB e K s0 r)[r / K]? with
  |none =>
   rw[hp]at hx hy;exact ih huv hx hy
  |some p =>
   rw[hp]at hx hy;simp only at hx hy;split at hx
   ·rename_i g;rw[if_pos g]at hy;exact ih huv hx hy
   ·rename_i g;rw[if_neg g]at hy;have hv:=(E4.1 hy).1;rw[D4,P3]at hv;rcases J0 v (bfsB e K s0 r).length with h|h
    ·rw[Q3 h]at hy;rw[Q3 (by omega)]at hx;exact ih huv hx hy
    ·have ev:v=(bfsB e K s0 r).length:=by omega
     subst ev;rw[U4 (G4 _),Y5]at hy;injection hy with hy
     subst hy;simp only[D4,P3];rcases J0 u (bfsB e K s0 r).length with h2|h2
     ·rw[Q3 h2]at hx;rcases rY hx with q|⟨r',z,q1,q2,q3,q4⟩
      ·subst q;rw[rN]at hx;injection hx with hx
       subst hx;simp
      ·have:=ih (DU (c:=K) (Nat.le_of_lt q1)) q3 hp;rw[q4];simp only[D4,P3];omega
     ·have eu:u=(bfsB e K s0 r).length:=by omega
      subst eu;rw[U4 (G4 _),Y5]at hx;injection hx with hx
      subst hx;simp
def bfs_early{N j r:Nat}{y:A×A2}(hK:0<K)(hy:(bfsB e K s0 N)[j]?=some y)(hr:j*K<=r)(hN:r<=N):(bfsB e K s0 r)[j]?=some y:=by
 have a2:=fE (e:=e) (K:=K) (s0:=s0) hN;rcases J0 j (bfsB e K s0 r).length with g|g
 ·have:=bG a2 (J8 g);rw[hy]at this;rw[J8 g,this]
 ·exfalso
  have a3:∀d,bfsB e K s0 (r+d)=bfsB e K s0 r:=by
   intro d
   induction d with
   |zero=>rfl
   |succ d ih =>
    show bfsB e K s0 (r+d+1)=_;rw[bfsB,ih,W8 ?_];have h1:j<=(r+d) / K:=(Nat.le_div_iff_mul_le hK).2 (by omega);omega
  have h2:=a3 (N-r);rw[show r+(N-r)=N by omega]at h2;rw[h2]at hy;have:=(E4.1 hy).1;omega
def bfs_reach{f:A->A2->A}(f0:∀a,f a []=a)(f1:∀a w (c:Nat),f a (w++[(c:Int)])=e (f a w) c){i:Nat}{x:A×A2}{N:Nat}(hx:(bfsB e K s0 N)[i]?=some x)(hN:i*K<=N) :
  ∀(n:Nat) (w:A2),w.length=n->(∀z∈w,0<=z/\z<(K:Int))->n<x.2.length->∃j y,j<i/\(bfsB e K s0 (i*K))[j]?=some y/\y.1=f s0 w/\y.2.length<=n:=by
 intro n
 induction n with
 |zero =>
  intro w hw _ a5;have:w=[]:=S7 hw;subst this;refine⟨0,(s0,[]),Nat.pos_of_ne_zero λh=>?_,rN _,(f0 s0).symm,G4 _⟩;subst h;rw[rN]at hx;injection hx with hx
  subst hx;exact absurd a5 (by simp)
 |succ n ih =>
  intro w hw hz a5;rcases uZ w with rfl|⟨v,c,rfl⟩
  ·simp at hw
  rw[yM]at hw hz ⊢;obtain⟨c0,c1⟩:=hz c (L3 _ (K4.2 rfl));obtain⟨a,rfl⟩:=oI c0;have hK:0<K:=by omega
  have ha:a<K:=by omega
  obtain⟨j,y,j1,j2,j3,j4⟩:=ih v (by simpa using hw) (λz h=>hz z (L5 _ h)) (by omega);have a4:j*K+a+1<=i*K:=by have:=lI j1 ha;omega
  have hy:=bfs_early hK j2 (r:=j*K+a) (by omega) (by omega);have a6:=bfs_to (e:=e) (K:=K) (s0:=s0) (r:=j*K+a) (x:=y) (by rw[iU ha];exact hy);rw[oJ ha]at a6;obtain⟨z,b3,a7⟩:=D7.1 a6;obtain⟨l,hl,ez⟩:=P1.1 b3;have a2:(bfsB e K s0 (j*K+a+1))[l]?=some z:=by rw[J8 hl,ez]
  have a8:z.2.length<=n+1:=by
   rcases rY a2 with q|⟨r',u,q1,q2,q3,q4⟩
   ·subst q;rw[rN]at a2;injection a2 with a2
    subst a2;simp
   ·have hd:r' / K<=j:=by
     have:=DU (c:=K) (show r'<=j*K+a by omega)
     rwa [iU ha]at this
    have a9:=bG (vP (e:=e) (K:=K) (s0:=s0) (j*K+a)) hy;have:=bfs_mono _ hd q3 a9;rw[q4];simp only[D4,P3];omega
  have a3:=bG (fE (e:=e) (K:=K) (s0:=s0) a4) a2;refine⟨l,z,Nat.lt_of_not_le λb2=>?_,a3,by rw[a7,f1,j3],a8⟩;have h3:=bG (fE (e:=e) (K:=K) (s0:=s0) hN) a3;have:=bfs_mono _ b2 hx h3;omega
end
section
variable {m:A9}
end
end
section
def uniM(a b:A9):A9:=⟨a.I,a.S,a.N++b.N.map (λx=>x.map (λu=>u+(a.N.length:Int))),a.O++b.O⟩
section
variable {a b:A9}
def lL:(uniM a b).N.length=a.N.length+b.N.length:=by unfold uniM;simp
def uni_ok(T:Two a b)(h:a.N.length+b.N.length<=128):J6 (uniM a b):=by
 have h1:=T.a1.ol;have h2:=T.b1.ol;have a2:=T.a1.st;have hn:=T.a1.n1;refine⟨T.a1.i1,T.a1.i2,by rw[lL];omega,by rw[lL];exact h,by rw[lL];show 0<=a.S/\a.S<_;omega,by rw[lL];unfold uniM;simp only[D4];omega,λs hs=>?_⟩;rw[lL]at hs ⊢;rcases J0 s a.N.length with g|g
 ·obtain⟨x,y,k1,k2,k3,k4,k5,k6⟩:=T.a1.row s g;exact⟨x,y,by show(a.N++_)[s]?=_;rw[Q3 g,k1],by show(a.O++_)[s]?=_;rw[Q3 (by omega),k2],k3,k4,λu hu=>by have:=k5 u hu;omega,k6⟩
 ·obtain⟨x,y,k1,k2,k3,k4,k5,k6⟩:=T.b1.row (s-a.N.length) (by omega);refine⟨x.map (λu=>u+(a.N.length:Int)),y,?_,?_,?_,?_,λu hu=>?_,k6⟩
  ·show(a.N++_)[s]?=_;rw[U4 g,I9,k1];rfl
  ·show(a.O++_)[s]?=_;rw[U4 (by omega),h1,k2]
  ·rw[B6,k3];exact T.inp.symm
  ·rw[k4];exact T.inp.symm
  ·obtain⟨v,hv,rfl⟩:=D7.1 hu;have:=k5 v hv;omega
def uni_l{s c:Nat}(T:Two a b)(hs:s<a.N.length):nx (uniM a b) s c=nx a s c/\ot (uniM a b) s c=ot a s c:=by
 have h1:=T.a1.ol;unfold nx ot uniM;simp only;rw[Q3 hs,Q3 (by omega)];exact⟨rfl,rfl⟩
def uni_r{t c:Nat}(T:Two a b)(ht:t<b.N.length)(hc:c<b.I.toNat):nx (uniM a b) (a.N.length+t) c=a.N.length+nx b t c/\ot (uniM a b) (a.N.length+t) c=ot b t c:=by
 have h1:=T.a1.ol;obtain⟨_,_,_,x,y,k1,k2,k3,k4⟩:=T.b1.at ht hc
 have e1:(uniM a b).N[a.N.length+t]?=some (x.map λu=>u+(a.N.length:Int)):=by
  show(a.N++_)[_]?=_;rw[U4 (rD _ _),vD,I9,k1];rfl
 have e2:(uniM a b).O[a.N.length+t]?=some y:=by
  show(a.O++_)[_]?=_;rw[U4 (by omega),h1,vD,k2]
 constructor
 ·have e3:nx (uniM a b) (a.N.length+t) c=((↑(nx b t c):Int)+(a.N.length:Int)).toNat:=by
   show((((uniM a b).N[a.N.length+t]?).getD [])[c]?.getD 0).toNat=_;rw[e1,N1,I9,k3];rfl
  omega
 ·show((((uniM a b).O[a.N.length+t]?).getD [])[c]?).getD 0=_;rw[e2,N1,k4];rfl
def zV(T:Two a b):∀(w:A2) (s:Nat),s<a.N.length->WOk a.I w->outs (uniM a b) s w=outs a s w
 |[],_,_,_=>rfl
 |x::w,s,hs,hw=>by
  obtain⟨e1,e2⟩:=uni_l (c:=x.toNat) T hs;have hx:=hw.head;have:=(T.a1.at hs (a:=x.toNat) (by omega)).1;show ot (uniM a b) s x.toNat::outs (uniM a b) (nx (uniM a b) s x.toNat) w=ot a s x.toNat::outs a (nx a s x.toNat) w;rw[e1,e2,zV T w _ this hw.tail]
def AD(T:Two a b):∀(w:A2) (t:Nat),t<b.N.length->WOk a.I w->outs (uniM a b) (a.N.length+t) w=outs b t w
 |[],_,_,_=>rfl
 |x::w,t,ht,hw=>by
  have hx:=hw.head;have hi:=T.inp;obtain⟨e1,e2⟩:=uni_r (c:=x.toNat) T ht (by omega);have:=(T.b1.at ht (a:=x.toNat) (by omega)).1;show ot (uniM a b) _ x.toNat::outs (uniM a b) (nx (uniM a b) _ x.toNat) w=ot b t x.toNat::outs b (nx b t x.toNat) w;rw[e1,e2,AD T w _ this hw.tail]
def two_short(T:Two a b)(h:a.N.length+b.N.length<=128){s t:Nat}(hs:s<a.N.length)(ht:t<b.N.length){w:A2}(hw:WOk a.I w)(hne:outs a s w≠outs b t w):∃v,v.length<=a.N.length+b.N.length/\WOk a.I v/\outs a s v≠outs b t v:=by
 refine S1 λg=>hne ?_;have U:=uni_ok T h
 have hE:E (uniM a b) (uniM a b).N.length s (a.N.length+t):=wX λv hl hv=>by
  rw[lL]at hl;have hv:WOk a.I v:=hv;rw[zV T v s hs hv,AD T v t ht hv];exact S1 λh=>g ⟨v,hl,hv,h⟩
 have:=E_outs (w:=w) (E_all U (by rw[lL];omega) (by rw[lL];omega) hE w.length) hw
 rwa [zV T w s hs hw,AD T w t ht hw]at this
def FM:∀{v:A2} {s t:Nat},WOk a.I v->outs a s v≠outs b t v->∃(u:A2) (c:Nat) (z:A2),v=u++(c:Int)::z/\c<a.I.toNat/\ot a (dest a s u) c≠ot b (dest b t u) c
 |[],s,t,_,h=>absurd rfl h
 |x::v,s,t,hw,h=>by
  have hx:=hw.head;obtain⟨c,rfl⟩:=oI hx.1;by_cases g:ot a s c=ot b t c
  ·obtain⟨u,d,z,h1,h2,h3⟩:=FM (v:=v) (s:=nx a s c) (t:=nx b t c) hw.tail λhv=>h (by
    show ot a s (Int.toNat (c:Int))::outs a (nx a s (Int.toNat (c:Int))) v=ot b t (Int.toNat (c:Int))::outs b (nx b t (Int.toNat (c:Int))) v
    rw[O3,g,hv])
   exact⟨(c:Int)::u,d,z,by rw[h1];rfl,h2,h3⟩
  ·exact⟨[],c,v,rfl,by omega,g⟩
def fst_short{s t:Nat}{w:A2}(hF:Fst a b (s,t) (w,true)){v:A2}(v2:WOk a.I v)(v3:outs a s v≠outs b t v):w.length<=v.length:=by
 rcases hF with⟨i,c,x,h1,h2,h3,h4,h5⟩|⟨L,_,_,h5⟩
 ·injection h5 with h5 _
  rw[h5,D4,P3];obtain⟨u,d,z,rfl,u2,u3⟩:=FM v2 v3;simp only[D4,E9];refine DG λa3=>?_
  have hu:∀q∈u,0<=q/\q<(a.I.toNat:Int):=λq hq=>by
   have:=v2 q (L5 _ hq);omega
  have fd:∀(m:A9) (st:Nat) (w:A2) (c:Nat),dest m st (w++[(c:Int)])=nx m (dest m st w) c:=λm st w c=>by
   rw[fM];show nx m (dest m st w) (Int.toNat (c:Int))=_;rw[O3]
  obtain⟨j,y,j1,j2,j3,j4⟩:=bfs_reach (e:=pE a b) (K:=a.I.toNat) (s0:=(s,t)) (f:=λp w=>(dest a p.1 w,dest b p.2 w)) (λa=>rfl) (λp w c=>by
   simp only[fd]
   rfl) (N:=i*a.I.toNat+c) h2 (by omega) u.length u rfl hu (by omega)
  have hK:0<a.I.toNat:=by omega
  have a2:=lI j1 u2;have hy:=bfs_early hK j2 (r:=j*a.I.toNat+d) (by omega) (by omega);have:=h4 (j*a.I.toNat+d) (by omega);rw[difB_at u2 hy,j3,E6 u3]at this;cases this
 ·injection h5 with _ h5
  cases h5
end
end
section
section
variable {V:Type}[DecidableEq V]
def pos(r:V):List V->Nat
 |[]=>0
 |x::l=>if x=r then 0 else pos r l+1
def kD{r:V}:∀{l:List V},r∈l->l[pos r l]?=some r
 |x::l,h=>by
  unfold pos;by_cases e:x=r
  ·simp[e]
  ·rw[if_neg e];rcases H8.1 h with h|h
   ·exact absurd h.symm e
   ·simpa using kD h
def pos_lt{r:V}{l:List V}(h:r∈l):pos r l<l.length:=(E4.1 (kD h)).1
def zT{r:V}:∀{l m:List V},r∈l->pos r (l++m)=pos r l
 |x::l,m,h=>by
  rw[fW];unfold pos;by_cases e:x=r
  ·simp[e]
  ·rw[if_neg e,if_neg e];rcases H8.1 h with h|h
   ·exact absurd h.symm e
   ·rw[zT h]
def pos_new{r:V}:∀{l:List V},r∉l->pos r (l++[r])=l.length
 |[],_=>by simp[pos]
 |x::l,h=>by
  rw[fW];unfold pos;have h1:¬x=r:=λe=>h (by simp[e]);have h2:r∉l:=λe=>h (by simp[e]);rw[if_neg h1,pos_new h2];rfl
def pos_inj{r s:V}{l:List V}(hr:r∈l)(hs:s∈l)(h:pos r l=pos s l):r=s:=by
 have h1:=kD hr;rw[h,kD hs]at h1;injection h1 with h1
 exact h1.symm
def addR(R:List V)(r:V):List V:=if r∈R then R else R++[r]
def vQ{R:List V}{r x:V}:x∈addR R r↔x∈R\/x=r:=by
 unfold addR;split
 ·constructor
  ·exact Or.inl
  ·rintro (h|rfl)
   ·exact h
   ·assumption
 ·simp
def pos_addR{R:List V}{r x:V}(h:x∈R):pos x (addR R r)=pos x R:=by
 unfold addR;split
 ·rfl
 ·exact zT h
def addR_len(R:List V)(r:V):(addR R r).length<=R.length+1:=by
 unfold addR;split
 ·omega
 ·simp
end
def cM:A4->List UInt8
 |[]=>[]
 |o::r=>keyL o++47::cM r
def rkeyL_append(a b:A4):cM (a++b)=cM a++cM b:=by
 induction a with
 |nil=>rfl
 |cons o a ih=>simp[cM,ih]
def zK:∀(w:A2),∀c∈keyL w,c≠47
 |[],c,h=>by cases h
 |a::w,c,h=>by
  simp only[keyL]at h;rcases I8.1 h with h|h
  ·intro e;subst e;unfold aV at h;split at h
   ·rcases H8.1 h with h|h
    ·cases h
    ·have:=sC _ _ h
     revert this
     decide
   ·have:=sC _ _ h
    revert this
    decide
  ·rcases H8.1 h with h|h
   ·subst h;decide
   ·exact zK w c h
def rkeyL_inj:∀{a b:A4},cM a=cM b->a=b
 |[],[],_=>rfl
 |[],o::b,h=>by
  simp only[cM]at h;have:=congrArg List.length h;simp at this
 |o::a,[],h=>by
  simp only[cM]at h;have:=congrArg List.length h;simp at this
 |o::a,u::b,h=>by
  simp only[cM]at h;obtain⟨h1,h2⟩:=split_at (zK o) (zK u) h;rw[keyL_inj h1,rkeyL_inj h2]
def rkey(r:A4):ByteArray:=⟨(cM r).toArray⟩
def rkey_inj{a b:A4}(h:rkey a=rkey b):a=b:=rkeyL_inj (by
 unfold rkey at h
 injection h with h
 injection h)
def RowSm(r:A4):Prop:=r.length<=1000/\∀x∈r,x.length<=1000/\∀a∈x,inR a
def rkeyL_len{r:A4}(h:∀x∈r,x.length<=1000/\∀a∈x,inR a):(cM r).length<=15001*r.length:=by
 induction r with
 |nil=>simp[cM]
 |cons o r ih =>
  have h1:=h o (by simp);have h2:=wD (xs:=o) h1.2;have h3:=ih λx hx=>h x (by simp[hx]);simp only[cM,D4,E9];omega
def bytes_append(a b:List UInt8):((⟨a.toArray⟩:ByteArray)++⟨b.toArray⟩)=⟨(a++b).toArray⟩:=by
 apply ByteArray.ext;simp
def AC(a:List UInt8):(⟨a.toArray⟩:ByteArray).size=a.length:=by simp[ByteArray.size]
def row_key_eq{r:A4}(h:RowSm r):iter (λ(s:ByteArray×Nat)=>cD.s2 r s.1 s.2) fuel ((⟨#[]⟩:ByteArray),0)=some (rkey r):=by
 obtain⟨hl,hr⟩:=h;refine V3 (λs=>s.2<=r.length/\s.1=rkey (r.take s.2)) (λs=>r.length-s.2) (λs ⟨g1,g2⟩=>?_) ⟨F7 _,rfl⟩;obtain⟨z,k⟩:=s;simp only at g1 g2;subst g2;simp only[cD.s2];by_cases g4:k<r.length
 ·left;have hx:=get_at g4;have a2:=hr _ (J3 g4);have a4:=wD (xs:=r[k]) a2.2;have a3:=rkeyL_len (r:=r.take k) λx hx=>hr x (Q4 hx);rw[H6]at a3;have e1:((⟨(keyL r[k]).toArray⟩:ByteArray)++⟨#[47]⟩)=⟨(keyL r[k]++[47]).toArray⟩:=bytes_append (keyL r[k]) [47];refine⟨(rkey (r.take (k+1)),k+1),?_,⟨by simp only;omega,rfl⟩,by simp only;omega⟩;rw[K8 hx,G5,C8 hx,BB (by unfold SmW;omega) a2.2,A6,e1];have e2:(⟨#[47]⟩:ByteArray).size=1:=rfl
  rw[H7 (by rw[AC,e2];omega),H7 (by
   unfold rkey
   rw[AC,AC,D4,P3]
   omega)]
  unfold rkey;rw[bytes_append,Q2 hx,rkeyL_append];simp[cM]
 ·right;have e:k=r.length:=by omega
  subst e;rw[B4,T0]
def NumOk(R:List (A4))(m:List (ByteArray×Int)):Prop:=∀r,mget (rkey r) m=if r∈R then some (↑(pos r R):Int) else none
def FH{v:M7}{r:A4}(h:RowSm r)(hn:NumOk v.rows v.number)(hl:v.rows.length<=100000) :
  ∃m,cD v r=some ((↑(pos r (addR v.rows r)):Int),⟨addR v.rows r,v.prefixes,v.next,m⟩)/\NumOk (addR v.rows r) m:=by
 unfold cD;rw[row_key_eq h,A6];have hr:=hn r;by_cases hm:r∈v.rows
 ·rw[if_pos hm]at hr;refine⟨v.number,?_,?_⟩
  ·rw[hr];simp only[uW,U0,G0,N1];unfold addR;rw[if_pos hm];rfl
  ·unfold addR;rw[if_pos hm];exact hn
 ·rw[if_neg hm]at hr;refine⟨mset (rkey r) (v.rows.length:Int) v.number,?_,λx=>?_⟩
  ·rw[hr];simp only[uX,jU,G5];rw[aK,A6];unfold addR;rw[if_neg hm,pos_new hm];rfl
  ·unfold addR;rw[if_neg hm];by_cases hx:x=r
   ·subst hx;rw[CH ba_beq,if_pos (by simp),pos_new hm]
   ·rw[BE ba_beq (λe=>hx (rkey_inj e)),hn x];by_cases a2:x∈v.rows
    ·rw[if_pos a2,if_pos (by simp[a2]),zT a2]
    ·rw[if_neg a2,if_neg (by simp[a2,hx])]
end
def Q5(o:A7)(S:A4):A4->Option (List (A4))
 |[]=>some []
 |w::ws=>match rowO o w S with
  |none=>none
  |some r=>(Q5 o S ws).map λl=>r::l
def jE{o:A7}{S:A4}:∀{ws:A4} {rs:List (A4)},Q5 o S ws=some rs->rs.length=ws.length/\∀(i:Nat) w,ws[i]?=some w->∃r,rs[i]?=some r/\rowO o w S=some r
 |[],rs,h=>by
  injection h with h
  subst h;exact⟨rfl,λi w hw=>by simp at hw⟩
 |w::ws,rs,h=>by
  unfold Q5 at h;cases hr:rowO o w S with
  |none=>rw[hr]at h;cases h
  |some r =>
   rw[hr]at h;obtain⟨rs',h1,rfl⟩:=dS.1 h;obtain⟨h2,h3⟩:=jE h1;refine⟨by simp[h2],λi u hu=>?_⟩;cases i with
   |zero =>
    simp at hu;subst hu;exact⟨r,rfl,hr⟩
   |succ i=>simpa using h3 i u (by simpa using hu)
def EO{o:A7}{S ws:A4}{w:A2}(hw:w∈ws)(h:rowO o w S=none):Q5 o S ws=none:=by
 cases hr:Q5 o S ws with
 |none=>rfl
 |some rs =>
  obtain⟨i,hi,rfl⟩:=P1.1 hw;obtain⟨r,_,h2⟩:=(jE hr).2 i _ (get_at hi);rw[h]at h2;cases h2
def AJ{o:A7}{S:A4}{w:A2}{r:A4}(h:rowO o w S=some r):∀{ws:A4} {rs:List (A4)},Q5 o S ws=some rs->Q5 o S (ws++[w])=some (rs++[r])
 |[],rs,h1=>by
  injection h1 with h1
  subst h1;simp[Q5,h]
 |u::ws,rs,h1=>by
  rw[fW];unfold Q5 at h1 ⊢;cases hr:rowO o u S with
  |none=>rw[hr]at h1;cases h1
  |some r' =>
   rw[hr]at h1;obtain⟨rs',h2,rfl⟩:=dS.1 h1;simp only[AJ h h2];rfl
def ansO_rng{o:A7}(hv:J9 o){w r:A2}(h:ansO o w=some r):∀a∈r,inR a:=by
 unfold ansO at h;split at h
 ·injection h with h
  subst h;intro a ha;cases ha
 ·obtain⟨t,ht,rfl⟩:=dS.1 h;intro a ha;have hm:=dR ht;have:=(hv.prop t hm).1.2.2 a (Q4 ha);unfold inR;omega
def rowO_rng{o:A7}(hv:J9 o){w:A2}:∀{S:A4} {l:A4},rowO o w S=some l->∀x∈l,∀a∈x,inR a
 |[],l,h=>by
  injection h with h
  subst h;intro x hx;cases hx
 |e::S,l,h=>by
  unfold rowO at h;cases ha:ansO o (w++e) with
  |none=>rw[ha]at h;cases h
  |some r =>
   rw[ha]at h;obtain⟨l',h1,rfl⟩:=dS.1 h;intro x hx a hax;rcases H8.1 hx with rfl|hx
   ·exact ansO_rng hv ha a (U3 hax)
   ·exact rowO_rng hv h1 x hx a hax
def rP{o:A7}{t:C6}(hv:J9 o)(ht:N7 t){w:A2}{r:A4}(h:rowO o w t.X=some r):RowSm r:=by
 obtain⟨h1,h2⟩:=dH hv h;refine⟨by have:=ht.s;omega,λx hx=>⟨?_,rowO_rng hv h x hx⟩⟩;obtain⟨e,he,hl⟩:=h2 x hx;have:=ht.sw e he;omega
abbrev v0:M7:=⟨[],[],[],[]⟩
abbrev Row:Type:=A4
def G8(R rs:List Row):List Row:=rs.foldl addR R
def tL(R rs:List Row)(r:Row):G8 R (rs++[r])=addR (G8 R rs) r:=by simp[G8]
def BY(R a b:List Row):G8 R (a++b)=G8 (G8 R a) b:=by simp[G8]
def cP{R:List Row}{x:Row}:∀{rs:List Row},x∈G8 R rs↔x∈R\/x∈rs:=by
 intro rs
 induction rs generalizing R with
 |nil=>simp[G8]
 |cons r rs ih =>
  show x∈G8 (addR R r) rs↔_;rw[ih,vQ,H8];constructor
  ·rintro ((h|h)|h)
   ·exact Or.inl h
   ·exact Or.inr (Or.inl h)
   ·exact Or.inr (Or.inr h)
  ·rintro (h|h|h)
   ·exact Or.inl (Or.inl h)
   ·exact Or.inl (Or.inr h)
   ·exact Or.inr h
def xD{R:List Row}{x:Row}(h:x∈R):∀rs:List Row,pos x (G8 R rs)=pos x R:=by
 intro rs
 induction rs generalizing R with
 |nil=>rfl
 |cons r rs ih =>
  show pos x (G8 (addR R r) rs)=_;rw[ih (vQ.2 (Or.inl h)),pos_addR h]
def qG(R rs:List Row):(G8 R rs).length<=R.length+rs.length:=by
 induction rs generalizing R with
 |nil=>simp[G8]
 |cons r rs ih =>
  have h1:=ih (R:=addR R r);have h2:=addR_len R r;show(G8 (addR R r) rs).length<=_;rw[E9];omega
def nums(R rs:List Row):A2:=rs.map λr=>(↑(pos r R):Int)
def vU{R rs:List Row}(h:∀x∈rs,x∈R)(X:List Row):nums (G8 R X) rs=nums R rs:=by
 unfold nums;refine mD λx hx=>?_;rw[xD (h x hx)]
def look_first{o:A7}{t:C6}{F:List B0}(ht:N7 t)(ho:SmO o)(hv:J9 o)(hF:lE o F) :
  ∃res,iter (λ(s:List (A4)×A2×(List (ByteArray×Int))×Nat)=>M9.s2 t F s.1 s.2.1 s.2.2.1 s.2.2.2) fuel ([],[],([]:List (ByteArray×Int)),0)=some res /\
   match Q5 o t.X t.P with
   |none=>res=.inr (v0,12)
   |some rs=>∃m,res=.inl (G8 [] rs,nums (G8 [] rs) rs,m)/\NumOk (G8 [] rs) m:=by
 have hp:=ht.p;have hS:=ht.sm.2.2.1
 refine bA (step:=λ(s:List (A4)×A2×(List (ByteArray×Int))×Nat)=>M9.s2 t F s.1 s.2.1 s.2.2.1 s.2.2.2)
  (λs=>s.2.2.2<=t.P.length/\∃rs,Q5 o t.X (t.P.take s.2.2.2)=some rs/\s.1=G8 [] rs/\s.2.1=nums (G8 [] rs) rs/\NumOk (G8 [] rs) s.2.2.1) (λs=>t.P.length-s.2.2.2) _ (λs ⟨g1,rs,g2,g3,g4,g5⟩=>?_) fuel _ ⟨F7 _,[],rfl,rfl,rfl,λr=>by simp[G8,mget]⟩ (by have:=U7;simp only;omega)
 obtain⟨R,N,m,k⟩:=s;simp only at g1 g2 g3 g4 g5;subst g3 g4
 have a6:rs.length=k:=by
  have:=(jE g2).1;rw[H6]at this;omega
 have a3:=qG [] rs;simp only[L2]at a3;simp only[M9.s2];by_cases h:k<t.P.length
 ·have hx:=get_at h;have a5:SmW t.P[k]:=ht.sm.2.1.2 _ (J3 _);rw[K8 hx,G5,C8 hx,BZ ho hv hF hS a5,A6];cases hr:rowO o t.P[k] t.X with
  |none =>
   right;refine⟨.inr (v0,12),rfl,?_⟩;rw[EO (J3 h) hr]
  |some r =>
   left;have a4:=rP hv ht hr;obtain⟨m',e,a2⟩:=FH (v:=⟨G8 [] rs,nums (G8 [] rs) rs,[],m⟩) a4 g5 (by simp only;omega);simp only at e a2;refine⟨(G8 [] (rs++[r]),nums (G8 [] (rs++[r])) (rs++[r]),m',k+1),?_,⟨h,rs++[r],?_,rfl,rfl,?_⟩,by simp only;omega⟩
   ·simp only[tw,U0,G0];rw[e,A6,H7 (by unfold nums E0;rw[B6];omega),tL]
    have h1:nums (addR (G8 [] rs) r) (rs++[r])=nums (G8 [] rs) rs++[(↑(pos r (addR (G8 [] rs) r)):Int)]:=by
     have h2:=vU (R:=G8 [] rs) (rs:=rs) (λx hx=>cP.2 (Or.inr hx)) [r];have h3:G8 (G8 [] rs) [r]=addR (G8 [] rs) r:=rfl;rw[h3]at h2;rw[<- h2];simp[nums]
    rw[h1]
   ·simp only;rw[Q2 hx];exact AJ hr g2
   ·simp only;rw[tL];exact a2
 ·right;have e:k=t.P.length:=by omega
  subst e;rw[T0]at g2;refine⟨.inl (G8 [] rs,nums (G8 [] rs) rs,m),by rw[B4],?_⟩;rw[g2];exact⟨m,rfl,g5⟩
def exts(n:Nat)(p:A2):A4:=(List.range n).map λ(a:Nat)=>p++[(a:Int)]
def look_inner{o:A7}{t:C6}{F:List B0}(ht:N7 t)(ho:SmO o)(hv:J9 o)(hF:lE o F)(P:A2)(Q:A4){p:A2}(hp:SmW p)(hp1:p.length<=1000000){R:List Row}{m:List (ByteArray×Int)}(hm:NumOk R m)(hR:R.length<=10000) :
  ∃res,iter (λ(s:List (A4)×(List (ByteArray×Int))×A2×Nat)=>M9.s20 t F P Q p s.1 s.2.1 s.2.2.1 s.2.2.2) fuel (R,m,[],0)=some res /\
   match Q5 o t.X (exts t.I.toNat p) with
   |none=>res=.inr (.inr (.inr (v0,12)))
   |some rs=>∃m',res=.inl (G8 R rs,m',nums (G8 R rs) rs)/\NumOk (G8 R rs) m':=by
 have hn:=ht.n;have hS:=ht.sm.2.2.1
 refine bA (step:=λ(s:List (A4)×(List (ByteArray×Int))×A2×Nat)=>M9.s20 t F P Q p s.1 s.2.1 s.2.2.1 s.2.2.2)
  (λs=>s.2.2.2<=t.I.toNat/\∃rs,Q5 o t.X (exts s.2.2.2 p)=some rs/\s.1=G8 R rs/\s.2.2.1=nums (G8 R rs) rs/\NumOk (G8 R rs) s.2.1) (λs=>t.I.toNat-s.2.2.2) _ (λs ⟨g1,rs,g2,g3,g4,g5⟩=>?_) fuel _ ⟨F7 _,[],rfl,rfl,rfl,hm⟩ (by have:=U7;simp only;omega)
 obtain⟨R',m1,N,k⟩:=s;simp only at g1 g2 g3 g4 g5;subst g3 g4
 have a7:rs.length=k:=by
  have:=(jE g2).1;unfold exts at this;simpa using this
 have a6:=qG R rs;simp only[M9.s20];by_cases h:k<t.I.toNat
 ·have a5:SmW (p++[(k:Int)]):=by
   show(p++[(k:Int)]).length<=2000000;simp;omega
  have a3:exts (k+1) p=exts k p++[p++[(k:Int)]]:=by simp[exts,jZ]
  rw[E2,CK hp,A6,BZ ho hv hF hS a5,A6];cases hr:rowO o (p++[(k:Int)]) t.X with
  |none =>
   right;refine⟨.inr (.inr (.inr (v0,12))),rfl,?_⟩;rw[EO (ws:=exts t.I.toNat p) (w:=p++[(k:Int)]) (D7.2 ⟨k,M1.2 h,rfl⟩) hr]
  |some r =>
   left;have a4:=rP hv ht hr;obtain⟨m',e,a2⟩:=FH (v:=⟨G8 R rs,P,Q,m1⟩) a4 g5 (by simp only;omega);simp only at e a2;refine⟨(G8 R (rs++[r]),m',nums (G8 R (rs++[r])) (rs++[r]),k+1),?_,⟨h,rs++[r],?_,rfl,rfl,?_⟩,by simp only;omega⟩
   ·simp only[tw,U0,G0];rw[e,A6,H7 (by unfold nums E0;rw[B6];omega),L0,tL]
    have h1:nums (addR (G8 R rs) r) (rs++[r])=nums (G8 R rs) rs++[(↑(pos r (addR (G8 R rs) r)):Int)]:=by
     have h2:=vU (R:=G8 R rs) (rs:=rs) (λx hx=>cP.2 (Or.inr hx)) [r];have h3:G8 (G8 R rs) [r]=addR (G8 R rs) r:=rfl;rw[h3]at h2;rw[<- h2];simp[nums]
    rw[h1]
   ·simp only;rw[a3];exact AJ hr g2
   ·simp only;rw[tL];exact a2
 ·right;have e:k=t.I.toNat:=by omega
  subst e;refine⟨.inl (G8 R rs,m1,nums (G8 R rs) rs),by rw[B4],?_⟩;rw[g2];exact⟨m1,rfl,g5⟩
def bH(o:A7)(S:A4)(n:Nat):A4->Option (List (List Row))
 |[]=>some []
 |p::ps=>match Q5 o S (exts n p) with
  |none=>none
  |some rs=>(bH o S n ps).map λl=>rs::l
def tH{o:A7}{S:A4}{n:Nat}:∀{ps:A4} {rss:List (List Row)},bH o S n ps=some rss->rss.length=ps.length/\∀(i:Nat) p,ps[i]?=some p->∃rs,rss[i]?=some rs/\Q5 o S (exts n p)=some rs
 |[],rss,h=>by
  injection h with h
  subst h;exact⟨rfl,λi w hw=>by simp at hw⟩
 |p::ps,rss,h=>by
  unfold bH at h;cases hr:Q5 o S (exts n p) with
  |none=>rw[hr]at h;cases h
  |some r =>
   rw[hr]at h;obtain⟨rs',h1,rfl⟩:=dS.1 h;obtain⟨h2,h3⟩:=tH h1;refine⟨by simp[h2],λi u hu=>?_⟩;cases i with
   |zero =>
    simp at hu;subst hu;exact⟨r,rfl,hr⟩
   |succ i=>simpa using h3 i u (by simpa using hu)
def extRows_none{o:A7}{S:A4}{n:Nat}{ps:A4}{p:A2}(hw:p∈ps)(h:Q5 o S (exts n p)=none):bH o S n ps=none:=by
 cases hr:bH o S n ps with
 |none=>rfl
 |some rs =>
  obtain⟨i,hi,rfl⟩:=P1.1 hw;obtain⟨r,_,h2⟩:=(tH hr).2 i _ (get_at hi);rw[h]at h2;cases h2
def GL{o:A7}{S:A4}{n:Nat}{p:A2}{r:List Row}(h:Q5 o S (exts n p)=some r):∀{ps:A4} {rs:List (List Row)},bH o S n ps=some rs->bH o S n (ps++[p])=some (rs++[r])
 |[],rs,h1=>by
  injection h1 with h1
  subst h1;simp[bH,h]
 |u::ps,rs,h1=>by
  rw[fW];unfold bH at h1 ⊢;cases hr:Q5 o S (exts n u) with
  |none=>rw[hr]at h1;cases h1
  |some r' =>
   rw[hr]at h1;obtain⟨rs',h2,rfl⟩:=dS.1 h1;simp only[GL h h2];rfl
def look_second{o:A7}{t:C6}{F:List B0}(ht:N7 t)(ho:SmO o)(hv:J9 o)(hF:lE o F)(P:A2){R:List Row}{m:List (ByteArray×Int)}(hm:NumOk R m)(hR:R.length<=1000) :
  ∃res,iter (λ(s:List (A4)×A4×(List (ByteArray×Int))×Nat)=>M9.s22 t F P s.1 s.2.1 s.2.2.1 s.2.2.2) fuel (R,[],m,0)=some res /\
   match bH o t.X t.I.toNat t.P with
   |none=>res=.inr (v0,12)
   |some rss=>∃m',res=.inl (G8 R rss.flatten,rss.map (nums (G8 R rss.flatten)),m'):=by
 have hn:=ht.n;have hp:=ht.p
 refine bA (step:=λ(s:List (A4)×A4×(List (ByteArray×Int))×Nat)=>M9.s22 t F P s.1 s.2.1 s.2.2.1 s.2.2.2)
  (λs=>s.2.2.2<=t.P.length/\∃rss,bH o t.X t.I.toNat (t.P.take s.2.2.2)=some rss/\rss.flatten.length<=4*s.2.2.2/\s.1=G8 R rss.flatten/\s.2.1=rss.map (nums (G8 R rss.flatten))/\NumOk (G8 R rss.flatten) s.2.2.1) (λs=>t.P.length-s.2.2.2) _ (λs ⟨g1,rss,g2,g6,g3,g4,g5⟩=>?_) fuel _ ⟨F7 _,[],rfl,by simp,rfl,rfl,hm⟩ (by have:=U7;simp only;omega)
 obtain⟨R',N,m1,k⟩:=s;simp only at g1 g2 g3 g4 g5 g6;subst g3 g4
 have a8:rss.length=k:=by
  have:=(tH g2).1;rw[H6]at this;omega
 have a5:=qG R rss.flatten;simp only[M9.s22];by_cases h:k<t.P.length
 ·have hx:=get_at h;have a4:SmW t.P[k]:=ht.sm.2.1.2 _ (J3 _);have a6:=ht.pw _ (J3 h);obtain⟨res,e,a2⟩:=look_inner ht ho hv hF P (rss.map (nums (G8 R rss.flatten))) a4 (by omega) g5 (by omega);rw[K8 hx,G5,C8 hx,e,A6];cases hr:Q5 o t.X (exts t.I.toNat t.P[k]) with
  |none =>
   rw[hr]at a2;right;refine⟨.inr (v0,12),by rw[a2];rfl,?_⟩;rw[extRows_none (J3 h) hr]
  |some rs =>
   rw[hr]at a2;obtain⟨m',h1,h2⟩:=a2;left
   have a7:rs.length=t.I.toNat:=by
    have:=(jE hr).1;unfold exts at this;simpa using this
   have a3:(rss++[rs]).flatten=rss.flatten++rs:=by simp
   refine⟨(G8 R (rss++[rs]).flatten,(rss++[rs]).map (nums (G8 R (rss++[rs]).flatten)),m',k+1),?_,⟨h,rss++[rs],?_,?_,rfl,rfl,?_⟩,by simp only;omega⟩
   ·rw[h1];simp only[cS,M9.k21];rw[H7 (by rw[B6];unfold E0;omega),a3,BY]
    have h3:rss.map (nums (G8 (G8 R rss.flatten) rs))=rss.map (nums (G8 R rss.flatten)):=by
     refine mD λx hx=>?_;exact vU (λy hy=>cP.2 (Or.inr (mA.2 ⟨x,hx,hy⟩))) rs
    rw[N6,h3];rfl
   ·simp only;rw[Q2 hx];exact GL hr g2
   ·simp only;rw[a3,D4];omega
   ·simp only;rw[a3,BY];exact h2
 ·right;have e:k=t.P.length:=by omega
  subst e;rw[T0]at g2;refine⟨.inl (G8 R rss.flatten,rss.map (nums (G8 R rss.flatten)),m1),by rw[B4],?_⟩;rw[g2];exact⟨m1,rfl⟩
def LookSpec(t:C6)(o:A7)(v:M7)(e:Int):Prop :=
 (chkT t o≠0/\e=chkT t o) \/
 (chkT t o=0/\e=12/\(Q5 o t.X t.P=none\/bH o t.X t.I.toNat t.P=none)) \/
 (chkT t o=0/\e=0/\∃rs rss,Q5 o t.X t.P=some rs/\bH o t.X t.I.toNat t.P=some rss /\
  v.rows=G8 (G8 [] rs) rss.flatten/\v.prefixes=nums v.rows rs/\v.next=rss.map (nums v.rows))
def BS{t:C6}{o:A7}(ht:N7 t)(ho:SmO o)(hv:J9 o):∃v e,M9 t o=some (v,e)/\LookSpec t o v e:=by
 obtain⟨F,a5,hF⟩:=BX ho hv;have hp:=ht.p;unfold M9;rw[CE ht.sm,A6];by_cases h:chkT t o=0
 ·rw[B4 (by simpa using h),a5,A6];obtain⟨res,e,a3⟩:=look_first ht ho hv hF;rw[e,A6];cases hr:Q5 o t.X t.P with
  |none =>
   rw[hr]at a3;subst a3;exact⟨v0,12,rfl,.inr (.inl ⟨h,rfl,.inl hr⟩)⟩
  |some rs =>
   rw[hr]at a3;obtain⟨m,h1,h2⟩:=a3;subst h1;have a7:=(jE hr).1;have a4:=qG [] rs;simp only[L2]at a4;simp only[cS,M9.k24];obtain⟨a6,e2,a2⟩:=look_second ht ho hv hF (nums (G8 [] rs) rs) h2 (by omega);rw[e2,A6];cases hr2:bH o t.X t.I.toNat t.P with
   |none =>
    rw[hr2]at a2;subst a2;exact⟨v0,12,rfl,.inr (.inl ⟨h,rfl,.inr hr2⟩)⟩
   |some rss =>
    rw[hr2]at a2;obtain⟨m',h3⟩:=a2;subst h3;refine⟨_,0,rfl,.inr (.inr ⟨h,rfl,rs,rss,hr,hr2,rfl,?_,rfl⟩)⟩;exact(vU (λx hx=>cP.2 (Or.inr hx)) rss.flatten).symm
 ·rw[E2 h];exact⟨_,_,rfl,.inl ⟨h,rfl⟩⟩
def zD{o:A7}{w:A2}:∀{S:A4},(∀e∈S,ansO o (w++e)≠none)->∃r,rowO o w S=some r
 |[],_=>⟨[],rfl⟩
 |e::S,h=>by
  obtain⟨l,hl⟩:=zD (S:=S) λe he=>h e (K7 _ he);unfold rowO;cases ha:ansO o (w++e) with
  |none=>exact absurd ha (h e (by simp))
  |some r =>
   rw[hl];exact⟨_,rfl⟩
def vV{o:A7}{w:A2}:∀{S:A4} {r:Row},rowO o w S=some r->∀e∈S,ansO o (w++e)≠none
 |[],_,_,e,he=>by cases he
 |u::S,r,h,e,he=>by
  unfold rowO at h;cases ha:ansO o (w++u) with
  |none=>rw[ha]at h;cases h
  |some x =>
   rw[ha]at h;obtain⟨l,h1,_⟩:=dS.1 h;rcases H8.1 he with rfl|he
   ·rw[ha];simp
   ·exact vV h1 e he
def kC(t:C6)(o:A7):Prop:=∀p∈t.P,∀w∈T1 t.I.toNat p,∃r,rowO o w t.X=some r
def need_nil{t:C6}{o:A7}:L6 o t t.P=[]↔kC t o:=by
 constructor
 ·intro h p hp w hw;refine zD λe he hn=>?_;have:w++e∈L6 o t t.P:=O0.2 ⟨p,hp,O0.2 ⟨w,hw,eD.2 ⟨⟨e,he,rfl⟩,hn⟩⟩⟩;rw[h]at this;cases this
 ·intro h;refine vL.2 λv hv=>?_;obtain⟨p,hp,h2⟩:=O0.1 hv;obtain⟨w,hw,h3⟩:=O0.1 h2;obtain⟨⟨e,he,rfl⟩,hn⟩:=eD.1 h3;obtain⟨r,hr⟩:=h p hp w hw;exact vV hr e he hn
def GO:∀{l:A4},l≠[]->∃y∈l,∀z∈l,z.length<=y.length
 |[x],_=>⟨x,by simp,λz hz=>by rw[K4.1 hz];exact G4 _⟩
 |x::u::l,_=>by
  obtain⟨y,hy,h⟩:=GO (l:=u::l) (by simp);by_cases h1:y.length<=x.length
  ·refine⟨x,by simp,λz hz=>?_⟩;rcases H8.1 hz with rfl|hz
   ·exact G4 _
   ·exact R9 (h z hz) h1
  ·refine⟨y,K7 _ hy,λz hz=>?_⟩;rcases H8.1 hz with rfl|hz
   ·omega
   ·exact h z hz
def rU{l:A4}:maxR l=[]↔l=[]:=by
 constructor
 ·intro h;refine S1 λa3=>?_;obtain⟨y,hy,a2⟩:=GO a3
  have:y∈maxR l:=(AZ l y).2 ⟨hy,λz hz=>by
   by_cases hp:y <+: z
   ·left
    have h1:=a2 z hz
    have h2:=hp.length_le
    exact(hp.eq_of_length (by omega)).symm
   ·exact Or.inr hp⟩
  rw[h]at this;cases this
 ·rintro rfl;rfl
def V8(t:C6)(o:A7):Int:=if chkT t o≠0 then chkT t o else if L6 o t t.P=[] then 0 else 12
structure oL(t:C6)(o:A7)(v:M7):Prop where
 pl:v.prefixes.length=t.P.length
 nl:v.next.length=t.P.length
 pre:∀(i:Nat) p,t.P[i]?=some p->∃r,rowO o p t.X=some r/\r∈v.rows/\v.prefixes[i]?=some (↑(pos r v.rows):Int)
 nxt:∀(i:Nat) p,t.P[i]?=some p->∃l,v.next[i]?=some l/\l.length=t.I.toNat/\∀a,a<t.I.toNat->∃r,rowO o (p++[(a:Int)]) t.X=some r/\r∈v.rows/\l[a]?=some (↑(pos r v.rows):Int)
def zB{t:C6}{o:A7}{v:M7}{e:Int}(h:LookSpec t o v e):e=V8 t o/\(e=0->oL t o v/\kC t o/\chkT t o=0):=by
 unfold V8;rcases h with⟨h1,rfl⟩|⟨h1,rfl,h2⟩|⟨h1,rfl,rs,a9,h2,h3,h4,h5,h6⟩
 ·exact⟨by rw[if_pos h1],λh=>absurd h h1⟩
 ·have hn:L6 o t t.P≠[]:=λhn=>by
   have hA:=need_nil.1 hn;rcases h2 with h2|h2
   ·have:∀(ps:A4),(∀p∈ps,∃r,rowO o p t.X=some r)->Q5 o t.X ps≠none:=by
     intro ps
     induction ps with
     |nil=>intro _ h;cases h
     |cons p ps ih =>
      intro hp h;obtain⟨r,hr⟩:=hp p (by simp);unfold Q5 at h;rw[hr]at h;exact ih (λq hq=>hp q (K7 _ hq)) (by simpa using h)
    exact this _ (λp hp=>hA p hp p (by simp[T1])) h2
   ·have a7:∀p∈t.P,Q5 o t.X (exts t.I.toNat p)≠none:=λp hp=>by
     have:∀(ps:A4),(∀p∈ps,∃r,rowO o p t.X=some r)->Q5 o t.X ps≠none:=by
      intro ps
      induction ps with
      |nil=>intro _ h;cases h
      |cons p ps ih =>
       intro hp h;obtain⟨r,hr⟩:=hp p (by simp);unfold Q5 at h;rw[hr]at h;exact ih (λq hq=>hp q (K7 _ hq)) (by simpa using h)
     exact this _ λw hw=>hA p hp w (K7 _ hw)
    have:∀(ps:A4),(∀p∈ps,Q5 o t.X (exts t.I.toNat p)≠none)->bH o t.X t.I.toNat ps≠none:=by
     intro ps
     induction ps with
     |nil=>intro _ h;cases h
     |cons p ps ih =>
      intro hp h;unfold bH at h;cases hr:Q5 o t.X (exts t.I.toNat p) with
      |none=>exact hp p (by simp) hr
      |some r =>
       rw[hr]at h;exact ih (λq hq=>hp q (K7 _ hq)) (by simpa using h)
    exact this _ a7 h2
  exact⟨by rw[if_neg (by simpa using h1),if_neg hn],λh=>by cases h⟩
 ·have hP:=jE h2;have hE:=tH h3;have a4:∀r∈rs,r∈v.rows:=λr hr=>by rw[h4];exact cP.2 (Or.inl (cP.2 (Or.inr hr)))
  have a5:∀l∈a9,∀r∈l,r∈v.rows:=λl hl r hr=>by rw[h4];exact cP.2 (Or.inr (mA.2 ⟨l,hl,hr⟩))
  have hV:oL t o v:=by
   refine⟨by rw[h5];unfold nums;rw[B6,hP.1],by rw[h6,B6,hE.1],λi p hp=>?_,λi p hp=>?_⟩
   ·obtain⟨r,a2,a3⟩:=hP.2 i p hp;refine⟨r,a3,a4 r (H0 a2),?_⟩;rw[h5];unfold nums;rw[I9,a2];rfl
   ·obtain⟨l,a6,a8⟩:=hE.2 i p hp;have hL:=jE a8;refine⟨nums v.rows l,by rw[h6,I9,a6];rfl,by unfold nums;rw[B6,hL.1];simp[exts],λa ha=>?_⟩
    have hx:(exts t.I.toNat p)[a]?=some (p++[(a:Int)]):=by
     unfold exts;rw[I9,cH ha];rfl
    obtain⟨r,a2,a3⟩:=hL.2 a _ hx;refine⟨r,a3,a5 l (H0 a6) r (H0 a2),?_⟩;unfold nums;rw[I9,a2];rfl
  have hA:kC t o:=λp hp w hw=>by
   obtain⟨i,hi,rfl⟩:=P1.1 hp;unfold T1 at hw;rcases H8.1 hw with rfl|hw
   ·obtain⟨r,hr,_⟩:=hV.pre i _ (get_at hi);exact⟨r,hr⟩
   ·obtain⟨a,ha,rfl⟩:=D7.1 hw;obtain⟨l,_,_,h7⟩:=hV.nxt i _ (get_at hi);obtain⟨r,hr,_⟩:=h7 a (M1.1 ha);exact⟨r,hr⟩
  exact⟨by rw[if_neg (by simpa using h1),if_pos (need_nil.2 hA)],λ_=>⟨hV,hA,h1⟩⟩
def bI{t:C6}(h:P5 t=0):1<=t.I/\t.I<=64/\Asc t.P/\Asc t.X/\(∀a∈List.range t.I.toNat,[(a:Int)]∈t.X)/\scan (preG t λw=>decide (w∈t.P)) 0 t.P=none/\scan (sufG t) 0 t.X=none/\t.P≠[]:=by
 unfold P5 at h;split at h
 ·cases h
 ·rename_i h1;split at h
  ·cases h
  ·rename_i h2;split at h
   ·cases h
   ·cases e1:scan (preG t λw=>decide (w∈t.P)) 0 t.P with
    |some e =>
     exfalso;rw[e1]at h;simp only at h;subst h
     have key:∀(l:A4) (j:Nat),scan (preG t λw=>decide (w∈t.P)) j l≠some 0:=by
      intro l
      induction l with
      |nil=>intro j h;cases h
      |cons x l ih =>
       intro j h;unfold scan at h;split at h
       ·rename_i r' h3;injection h with h
        subst h;unfold preG at h3;split at h3
        ·rename_i h4;injection h3 with h3
         exact h4 h3
        ·split at h3
         ·cases h3
         ·split at h3
          ·cases h3
          ·cases h3
       ·exact ih _ h
     exact key _ _ e1
    |none =>
     rw[e1]at h;cases e2:scan (sufG t) 0 t.X with
     |some e =>
      exfalso;rw[e2]at h;simp only at h;subst h
      have key:∀(l:A4) (j:Nat),scan (sufG t) j l≠some 0:=by
       intro l
       induction l with
       |nil=>intro j h;cases h
       |cons x l ih =>
        intro j h;unfold scan at h;split at h
        ·rename_i r' h3;injection h with h
         subst h;unfold sufG at h3;split at h3
         ·rename_i h4;injection h3 with h3
          exact h4 h3
         ·split at h3
          ·cases h3
          ·split at h3
           ·cases h3
           ·cases h3
        ·exact ih _ h
      exact key _ _ e2
     |none =>
      rw[e2]at h;simp only at h;split at h
      ·rename_i h5;refine⟨by omega,by omega,FK λi w hw=>?_,(zQ e2).1,h5,rfl,rfl,λe=>h2 (by rw[e];rfl)⟩;have:=V9.1 e1 i w hw;rw[F9]at this;unfold preG at this;split at this
       ·cases this
       ·split at this
        ·cases this
        ·rename_i h6;cases hpv:aM t.P i w with
         |true=>rfl
         |false=>exact absurd (Or.inr hpv) h6
      ·cases h
def qM{l:A4}(h:Asc l):sortW l=l:=oW (gO l) h λx=>dL l x
def newRow(t:C6)(o:A7)(w:A2):Bool:=decide (rowO o w t.X∉t.P.map λp=>rowO o p t.X)
def unclT(t:C6)(o:A7):A2×Bool×Int:=if V8 t o≠0 then([],false,V8 t o) else match (extL t).find? (newRow t o) with|none=>([],false,0)|some w=>(w,true,0)
def contains_eq{l:A2}{x:Int}(hl:l.length<=2000000):uM l x=some (decide (x∈l)):=by
 unfold uM kX
 have key:=aG (step:=λs=>kX.s2 l x s) (λk=>k<=l.length/\x∉l.take k) (λk=>l.length-k) (λr=>match r with|.inl ()=>x∉l|.inr n=>0<=n/\x∈l) (λk ⟨g1,g2⟩=>by
  simp only[kX.s2]
  by_cases g3:k<l.length
  ·have hx:=get_at g3
   rw[K8 hx,G5,C8 hx]
   by_cases e:x=l[k]
   ·right
    exact⟨.inr (k:Int),by rw[E2 e],by omega,by rw[e];exact J3 _⟩
   ·left
    refine⟨k+1,by rw[B4 e],⟨g3,?_⟩,by omega⟩
    rw[Q2 hx]
    exact λh=>(I8.1 h).elim g2 λh=>e (K4.1 h)
  ·right
   rw[aP (by omega)]at g2
   exact⟨.inl (),by rw[B4],g2⟩) 0 ⟨F7 _,by simp⟩
 obtain⟨r,e,hq⟩:=key;rw[e,A6];cases r with
 |inl u =>
  have hq:x∉l:=hq;simp only[cS];rw[A6,I3 hq];rfl
 |inr n =>
  have hq:0<=n/\x∈l:=hq;simp only[Sum.elim_inr];rw[A6,E6 hq.1,E6 hq.2]
def view_has{t:C6}{o:A7}{v:M7}(hV:oL t o v){r:Row}{w:A2}(hr:rowO o w t.X=some r)(hm:r∈v.rows):((↑(pos r v.rows):Int)∈v.prefixes)↔newRow t o w=false:=by
 unfold newRow;rw[decide_eq_false_iff_not,iH,hr,D7];constructor
 ·intro h;obtain⟨i,hi,e⟩:=P1.1 h;have hp:=get_at (l:=t.P) (i:=i) (by rw[<- hV.pl];exact hi);obtain⟨r',h1,h2,h3⟩:=hV.pre i _ hp;rw[get_at hi,e]at h3;injection h3 with h3
  have h4:=pos_inj hm h2 (by omega);exact⟨_,J3 _,by rw[h1,h4]⟩
 ·rintro⟨p,hp,h⟩;obtain⟨i,hi,rfl⟩:=P1.1 hp;obtain⟨r',h1,h2,h3⟩:=hV.pre i _ (get_at hi);rw[h1]at h;injection h with h
  subst h;exact H0 h3
def JA{t:C6}{o:A7}{v:M7}(ht:N7 t)(hV:oL t o v):∃i a b,cC v=some (i,a,b) /\
  match (extL t).find? (newRow t o) with
  |none=>b=false
  |some w=>b=true/\∃(k:Nat) (p:A2),i=(k:Int)/\t.P[k]?=some p/\w=p++[a]:=by
 have hn:=ht.n;have hp:=ht.p;unfold cC
 have key:=bA (step:=λs=>cC.s14 v s) (λk=>k<=t.P.length/\((t.P.take k).flatMap (exts t.I.toNat)).find? (newRow t o)=none) (λk=>t.P.length-k)
  (λr=>match r with|.inl ()=>(extL t).find? (newRow t o)=none|.inr x=>x.2.2=true/\∃w,(extL t).find? (newRow t o)=some w/\∃(k:Nat) (p:A2),x.1=(k:Int)/\t.P[k]?=some p/\w=p++[x.2.1]) (λk ⟨g1,g2⟩=>by
   simp only[cC.s14]
   rw[hV.nl]
   by_cases g3:k<t.P.length
   ·have hx:=get_at g3
    obtain⟨l,a8,a9,b3⟩:=hV.nxt k _ hx
    rw[E2,C8 a8]
    have a2:extL t=(t.P.take k).flatMap (exts t.I.toNat)++(exts t.I.toNat t.P[k]++(t.P.drop (k+1)).flatMap (exts t.I.toNat)):=by
     have h1:t.P=t.P.take k++t.P[k]::t.P.drop (k+1):=by
      rw[<- cV g3,rB]
     have h2:extL t=t.P.flatMap (exts t.I.toNat):=rfl
     rw[h2]
     conv=>lhs;rw[h1]
     rw[jX,P0]
    have a4:=bA (step:=λs=>cC.s13 v k l s) (λa=>a<=t.I.toNat/\(exts a t.P[k]).find? (newRow t o)=none) (λa=>t.I.toNat-a)
     (λr=>match r with|.inl ()=>(exts t.I.toNat t.P[k]).find? (newRow t o)=none|.inr x=>∃a:Nat,x=.inr (.inr ((k:Int),(a:Int),true))/\(exts t.I.toNat t.P[k]).find? (newRow t o)=some (t.P[k]++[(a:Int)])) (λa ⟨q1,q2⟩=>by
      simp only[cC.s13]
      rw[a9]
      by_cases q3:a<t.I.toNat
      ·obtain⟨r,b5,a7,a6⟩:=b3 a q3
       have b2:exts (a+1) t.P[k]=exts a t.P[k]++[t.P[k]++[(a:Int)]]:=by simp[exts,jZ]
       have a3:=view_has hV b5 a7
       rw[E2,C8 a6,contains_eq (by rw[hV.pl];omega),A6]
       cases hnw:newRow t o (t.P[k]++[(a:Int)]) with
       |true =>
        right
        have b4:¬(↑(pos r v.rows):Int)∈v.prefixes:=λh=>by
         have:=a3.1 h
         rw[hnw]at this
         cases this
        refine⟨.inr (.inr (.inr ((k:Int),(a:Int),true))),by rw[I3 b4];rfl,a,rfl,?_⟩
        have a5:exts t.I.toNat t.P[k]=exts a t.P[k]++((t.P[k]++[(a:Int)])::((List.range' (a+1) (t.I.toNat-(a+1))).map λ(b:Nat)=>t.P[k]++[(b:Int)])):=by
         have h1:List.range t.I.toNat=List.range a++a::List.range' (a+1) (t.I.toNat-(a+1)):=by
          rw[DV,DV,<- List.range'_succ,show t.I.toNat-(a+1)+1=t.I.toNat-a by omega]
          have:=List.range'_append_1 (s:=0) (m:=a) (n:=t.I.toNat-a)
          rw[F9,show a+(t.I.toNat-a)=t.I.toNat by omega]at this
          exact this.symm
         unfold exts
         rw[h1,N6,J7]
        rw[a5,uV,q2,List.find?_cons_of_pos (by rw[hnw])]
        rfl
       |false =>
        left
        refine⟨a+1,by rw[E6 (a3.2 hnw)];rfl,⟨q3,?_⟩,by omega⟩
        rw[b2,uV,q2,DZ (by rw[hnw];simp)]
        rfl
      ·right
       have e:a=t.I.toNat:=by omega
       subst e
       exact⟨.inl (),by rw[B4],q2⟩) fuel 0 ⟨F7 _,rfl⟩ (by have:=U7;omega)
    obtain⟨r,e,hq⟩:=a4
    rw[e,A6]
    cases r with
    |inl u =>
     have hq:(exts t.I.toNat t.P[k]).find? (newRow t o)=none:=hq
     left
     refine⟨k+1,rfl,⟨g3,?_⟩,by omega⟩
     rw[Q2 hx,jX,uV,g2]
     simp[hq]
    |inr x =>
     right
     obtain⟨a,rfl,h2⟩:=hq
     refine⟨.inr ((k:Int),(a:Int),true),rfl,rfl,t.P[k]++[(a:Int)],?_,k,_,rfl,hx,rfl⟩
     rw[a2,uV,g2,uV,h2]
     rfl
   ·right
    have e:k=t.P.length:=by omega
    subst e
    rw[T0]at g2
    exact⟨.inl (),by rw[B4],g2⟩) fuel 0 ⟨F7 _,rfl⟩ (by have:=U7;omega)
 obtain⟨r,e,hq⟩:=key;rw[e,A6];cases r with
 |inl u =>
  have hq:(extL t).find? (newRow t o)=none:=hq;refine⟨0,0,false,rfl,?_⟩;rw[hq]
 |inr x =>
  obtain⟨h1,w,h2,h3⟩:=hq;obtain⟨i,a,b⟩:=x;refine⟨i,a,b,rfl,?_⟩;rw[h2];exact⟨h1,h3⟩
def zto{t:C6}{o:A7}(ht:N7 t)(ho:SmO o)(hv:J9 o):uC t o=some (unclT t o):=by
 obtain⟨v,e,h1,h2⟩:=BS ht ho hv;obtain⟨h3,h4⟩:=zB h2;unfold uC unclT;rw[h1,A6];simp only;rw[h3]at h4 ⊢;by_cases h:V8 t o=0
 ·obtain⟨hV,_,_⟩:=h4 h;obtain⟨i,a,b,h5,h6⟩:=JA ht hV;rw[B4 (by simpa using h),if_neg (by simpa using h),h5,A6];cases hf:(extL t).find? (newRow t o) with
  |none =>
   rw[hf]at h6;subst h6;rfl
  |some w =>
   rw[hf]at h6;obtain⟨rfl,k,p,rfl,hp,rfl⟩:=h6;simp only[U0,G0];rw[E8 rfl hp,CK (ht.sm.2.1.2 p (H0 hp)),A6]
 ·rw[E2 h,if_pos h]
section
section
variable {V R T:Type}
def wN{g:Nat->V->Option R}{f:R->T}:∀(l:List V) (j:Nat),scan (λi x=>(g i x).map f) j l=(scan g j l).map f
 |[],_=>rfl
 |x::l,j=>by
  unfold scan;cases g j x with
  |some r=>rfl
  |none=>exact wN l (j+1)
def elim_l{V G E:Type}{f:V->E}{g:G->E}{a:V}:Sum.elim f g (Sum.inl a)=f a:=(cS f g a).trans (Eq.trans rfl rfl)
def iter_scan_at{step:Nat->Option (Nat⊕(Unit⊕R))}{l:List V}(g:Nat->V->Option R)(j:Nat)(hj:j<=l.length)(h1:∀i x,j<=i->l[i]?=some x->step i=some (match g i x with|some r=>.inr (.inr r)|none=>.inl (i+1)))(h2:step l.length=some (.inr (.inl ())))(hl:l.length<=100000000000000) :
  iter step fuel j=some (match scan g j (l.drop j) with|some r=>.inr r|none=>.inl ()):=by
 have key:∀(n i:Nat),j<=i->i<=l.length->l.length-i<n->iter step n i=some (match scan g i (l.drop i) with|some r=>.inr r|none=>.inl ()):=by
  intro n
  induction n with
  |zero=>intro i _ _ h;omega
  |succ n ih =>
   intro i a2 hi hn;rcases J0 i l.length with h|h
   ·rw[cV h];unfold iter scan;rw[h1 i _ a2 (J8 h)];cases g i l[i]with
    |some r=>rfl
    |none=>exact ih (i+1) (by omega) h (by omega)
   ·have e:i=l.length:=by omega
    subst e;rw[oD];unfold iter scan;rw[h2]
 exact key fuel j (G4 _) hj (by have:=U7;omega)
end
def rowG(t:C6)(o:A7)(w:A2):Row:=(rowO o w t.X).getD []
def dP(a:Nat)(x y:Row):Option (Int×Int×Bool):=scan (λe u=>if y[e]?=some u then none else some ((a:Int),(e:Int),true)) 0 x
def pP(t:C6)(o:A7)(p q:A2):Option (Int×Int×Bool):=scan (λ_ (a:Nat)=>dP a (rowG t o (p++[(a:Int)])) (rowG t o (q++[(a:Int)]))) 0 (List.range t.I.toNat)
def iP(t:C6)(o:A7):Option (Int×Int×Bool):=scan (λi p=>scan (λ_ q=>if rowO o p t.X=rowO o q t.X then pP t o p q else none) (i+1) (t.P.drop (i+1))) 0 t.P
def toW(t:C6)(x:Int×Int×Bool):A2:=x.1::(t.X[x.2.1.toNat]?).getD []
def incT(t:C6)(o:A7):A2×Bool×Int:=if V8 t o≠0 then([],false,V8 t o) else match iP t o with|none=>([],false,0)|some x=>(toW t x,true,0)
def nX(a b:A2)(hl:a.length<=100000000000000):bN a b=some (decide (a=b)):=by
 unfold bN;by_cases a2:a.length=b.length
 ·rw[B4];refine wQ a2 (λi x y hx hy=>?_) ?_ hl
  ·simp only[bN.s2];rw[K8 hx,G5,C8 hx,C8 hy];by_cases h:x=y<;>simp[h]
  ·simp only[bN.s2];rw[T7];rfl
 ·rw[E2];have:a≠b:=λh=>a2 (by rw[h]);simp[this]
def jD{V R:Type}{g:Nat->V->Option R}{Q:R->Prop}:∀{l:List V} {j:Nat} {r:R},scan g j l=some r->(∀i x r,l[i]?=some x->g (j+i) x=some r->Q r)->Q r
 |[],_,_,h,_=>by cases h
 |x::l,j,r,h,hQ=>by
  unfold scan at h;cases e:g j x with
  |some r' =>
   rw[e]at h;injection h with h
   subst h;exact hQ 0 x _ rfl (by simpa using e)
  |none =>
   rw[e]at h;exact jD h λi y r hy hg=>hQ (i+1) y r (by simpa using hy) (by rw[show j+(i+1)=j+1+i by omega];exact hg)
def RowsAlike(x y:Row):Prop:=x.length=y.length/\RowSm x/\RowSm y
def dP_prog{a:Nat}{x y:Row}(h:RowsAlike x y):iter (λs=>R4.s1019 a x y s) fuel 0=some (match (dP a x y).map λr=>(.inr (.inr (.inr (.inr (.inr (.inr (.inr r)))))):Nat⊕(Unit⊕(Unit⊕(Nat⊕(Unit⊕(Nat⊕(Unit⊕(Int×Int×Bool)))))))) with|some r=>.inr r|none=>.inl ()):=by
 obtain⟨h1,h2,h3⟩:=h;have a2:=h2.1
 have key:=V4 (step:=λs=>R4.s1019 a x y s) (l:=x) (λe u=>(if y[e]?=some u then none else some ((a:Int),(e:Int),true)).map λr=>(.inr (.inr (.inr (.inr (.inr (.inr (.inr r)))))):Nat⊕(Unit⊕(Unit⊕(Nat⊕(Unit⊕(Nat⊕(Unit⊕(Int×Int×Bool))))))))) (λe u hu=>by
  have he:=(E4.1 hu).1
  have hw:=get_at (l:=y) (i:=e) (by omega)
  have a3:=(h2.2 u (H0 hu)).1
  simp only[R4.s1019]
  rw[K8 hu,G5,C8 hu,C8 hw,nX _ _ (by omega),A6]
  by_cases h4:u=y[e]'(by omega)
  ·rw[E6 h4,if_pos (by rw[hw,h4])]
   rfl
  ·rw[I3 h4,if_neg (λh=>h4 (by rw[hw]at h;injection h with h;exact h.symm))]
   rfl) (by
  simp only[R4.s1019]
  rw[T7]
  rfl) (by omega)
 rw[key,wN];unfold dP;cases scan (λe u=>if y[e]?=some u then none else some ((a:Int),(e:Int),true)) 0 x<;>rfl
def dK{t:C6}{o:A7}{w:A2}{r:Row}(h:rowO o w t.X=some r):rowG t o w=r:=by unfold rowG;rw[h];rfl
def rows_alike{t:C6}{o:A7}(ht:N7 t)(hv:J9 o){u w:A2}{x y:Row}(hx:rowO o u t.X=some x)(hy:rowO o w t.X=some y):RowsAlike x y :=
 ⟨by rw[(dH hv hx).1,(dH hv hy).1],rP hv ht hx,rP hv ht hy⟩
def pP_prog{t:C6}{o:A7}{v:M7}(ht:N7 t)(hv:J9 o)(hV:oL t o v){i k:Nat}{p q:A2}(hp:t.P[i]?=some p)(hq:t.P[k]?=some q){l:A2}(hl:v.next[i]?=some l) :
  iter (λs=>R4.s1020 v i k l s) fuel 0=some (match (pP t o p q).map λr=>(.inr (.inr (.inr (.inr (.inr r)))):Unit⊕(Nat⊕(Unit⊕(Nat⊕(Unit⊕(Int×Int×Bool)))))) with|some r=>.inr r|none=>.inl ()):=by
 have hn:=ht.n;obtain⟨l1,g1,g2,g3⟩:=hV.nxt i p hp;rw[hl]at g1;injection g1 with g1
 subst g1;obtain⟨l2,f1,f2,f3⟩:=hV.nxt k q hq
 have key:=V4 (step:=λs=>R4.s1020 v i k l s) (l:=List.range t.I.toNat) (λ_ (a:Nat)=>(dP a (rowG t o (p++[(a:Int)])) (rowG t o (q++[(a:Int)]))).map λr=>(.inr (.inr (.inr (.inr (.inr r)))):Unit⊕(Nat⊕(Unit⊕(Nat⊕(Unit⊕(Int×Int×Bool))))))) (λa a' ha=>by
  have a2:a<t.I.toNat:=by
   have:=(E4.1 ha).1
   simpa using this
  rw[cH a2]at ha
  injection ha with ha
  subst ha
  obtain⟨x,x1,x2,x3⟩:=g3 a a2
  obtain⟨y,y1,y2,y3⟩:=f3 a a2
  simp only[R4.s1020]
  rw[g2,E2,C8 hl,C8 x3,E8 rfl (kD x2),C8 f1,C8 y3,E8 rfl (kD y2),dP_prog (rows_alike ht hv x1 y1),A6,dK x1,dK y1]
  cases dP a x y with
  |some r=>rfl
  |none =>
   show Sum.elim _ _ (Sum.inl ())=_
   rw[elim_l,L0]
   rfl) (by
  simp only[R4.s1020]
  rw[g2,Y6,I3 (by omega)]
  rfl) (by simp;omega)
 rw[key,wN];unfold pP;cases scan (λ_ (a:Nat)=>dP a (rowG t o (p++[(a:Int)])) (rowG t o (q++[(a:Int)]))) 0 (List.range t.I.toNat)<;>rfl
def iP_prog{t:C6}{o:A7}{v:M7}(ht:N7 t)(hv:J9 o)(hV:oL t o v):R4 v=some (match iP t o with|some r=>r|none=>(0,0,false)):=by
 have a4:=ht.p;unfold R4
 have a2:=V4 (step:=λs=>R4.s1022 v s) (l:=t.P) (λi p=>scan (λ_ q=>if rowO o p t.X=rowO o q t.X then pP t o p q else none) (i+1) (t.P.drop (i+1))) (λi p hp=>by
  have hi:=(E4.1 hp).1
  obtain⟨r,r1,r2,r3⟩:=hV.pre i p hp
  obtain⟨l,l1,l2,l3⟩:=hV.nxt i p hp
  have a3:=iter_scan_at (step:=λs=>R4.s1021 v i (↑(pos r v.rows):Int) s) (l:=t.P) (λ_ q=>(if rowO o p t.X=rowO o q t.X then pP t o p q else none).map λr=>(.inr (.inr r):Nat⊕(Unit⊕(Int×Int×Bool)))) (i+1) (by omega) (λk q _ hq=>by
   have hk:=(E4.1 hq).1
   obtain⟨s,s1,s2,s3⟩:=hV.pre k q hq
   simp only[R4.s1021]
   rw[hV.pl,E2,C8 s3]
   by_cases h:r=s
   ·subst h
    rw[B4 (by simp),C8 l1,pP_prog ht hv hV hp hq l1,A6,if_pos (by rw[r1,s1])]
    cases pP t o p q<;>rfl
   ·have h2:¬(↑(pos s v.rows):Int)=↑(pos r v.rows):=λe=>h (pos_inj r2 s2 (by omega))
    rw[E2 h2,if_neg (by rw[r1,s1];simpa using h)]
    rfl) (by
   simp only[R4.s1021]
   rw[hV.pl,B4]) (by omega)
  simp only[R4.s1022]
  rw[hV.pl,E2,C8 r3,a3,A6,wN]
  cases scan (λ_ q=>if rowO o p t.X=rowO o q t.X then pP t o p q else none) (i+1) (t.P.drop (i+1))<;>rfl) (by
  simp only[R4.s1022]
  rw[hV.pl,B4]) (by omega)
 rw[a2,A6];unfold iP;cases scan (λi p=>scan (λ_ q=>if rowO o p t.X=rowO o q t.X then pP t o p q else none) (i+1) (t.P.drop (i+1))) 0 t.P<;>rfl
def iP_range{t:C6}{o:A7}(hv:J9 o)(hA:kC t o){x:Int×Int×Bool}(h:iP t o=some x):x.2.2=true/\∃a e:Nat,x.1=(a:Int)/\x.2.1=(e:Int)/\a<t.I.toNat/\e<t.X.length:=by
 refine jD (Q:=λx=>x.2.2=true/\∃a e:Nat,x.1=(a:Int)/\x.2.1=(e:Int)/\a<t.I.toNat/\e<t.X.length) h λi p r hp hr=>?_;refine jD (Q:=λx=>x.2.2=true/\∃a e:Nat,x.1=(a:Int)/\x.2.1=(e:Int)/\a<t.I.toNat/\e<t.X.length) hr λk q r hq hr=>?_;split at hr
 ·refine jD (Q:=λx=>x.2.2=true/\∃a e:Nat,x.1=(a:Int)/\x.2.1=(e:Int)/\a<t.I.toNat/\e<t.X.length) hr λa a' r ha hr=>?_
  have a2:a<t.I.toNat:=by
   have:=(E4.1 ha).1;simpa using this
  rw[cH a2]at ha;injection ha with ha
  subst ha;refine jD (Q:=λx=>x.2.2=true/\∃a e:Nat,x.1=(a:Int)/\x.2.1=(e:Int)/\a<t.I.toNat/\e<t.X.length) hr λe u r hu hr=>?_;split at hr
  ·cases hr
  ·injection hr with hr
   subst hr;refine⟨rfl,a,0+e,rfl,rfl,a2,?_⟩;obtain⟨z,hz⟩:=hA p (H0 hp) (p++[(a:Int)]) (K7 _ (D7.2 ⟨a,M1.2 a2,rfl⟩));rw[dK hz]at hu;have h1:=(E4.1 hu).1;have h2:=(dH hv hz).1;omega
 ·cases hr
def zpa{t:C6}{o:A7}(ht:N7 t)(ho:SmO o)(hv:J9 o):uH t o=some (incT t o):=by
 obtain⟨v,e,h1,h2⟩:=BS ht ho hv;obtain⟨h3,h4⟩:=zB h2;unfold uH incT;rw[h1,A6];simp only;rw[h3]at h4 ⊢;by_cases h:V8 t o=0
 ·obtain⟨hV,hA,_⟩:=h4 h;rw[B4 (by simpa using h),if_neg (by simpa using h),iP_prog ht hv hV,A6];cases hi:iP t o with
  |none=>rfl
  |some x =>
   obtain⟨hb,a,e,ha,he,_,a2⟩:=iP_range hv hA hi;obtain⟨x1,x2,x3⟩:=x;simp only at hb ha he;subst hb ha he;have hx:=get_at a2;have a3:=ht.sw _ (J3 a2);simp only[U0,G0];rw[E8 rfl hx,gT _ (by simp) (by simp;omega),A6];unfold toW;simp[hx]
 ·rw[E2 h,if_pos h]
end
def Z7{t:C6}{o:A7}(h:V8 t o=0):P5 t=0/\t.I=o.I/\kC t o:=by
 unfold V8 at h;split at h
 ·rename_i h1;exact absurd h h1
 ·rename_i h1;split at h
  ·rename_i h2;have h1:chkT t o=0:=by simpa using h1
   unfold chkT at h1;split at h1
   ·rename_i h3;exact absurd h1 h3
   ·rename_i h3;split at h1
    ·cases h1
    ·rename_i h4;exact⟨by simpa using h3,by simpa using h4,need_nil.1 h2⟩
  ·cases h
def IC{l:A4}(h:Asc l){i:Nat}{w:A2}(hw:l[i]?=some w):aM l i w=true:=by
 unfold aM;cases i with
 |zero=>rfl
 |succ i =>
  have hi:=(E4.1 hw).1;have hp:=get_at (l:=l) (i:=i) (by omega);simp only[hp];have:=h.get (uU i) hp hw;exact E6 (by omega)
def xK{t:C6}(h1:1<=t.I)(h2:t.I<=4)(hp0:t.P≠[])(hp:t.P.length<=601)(hs:t.X.length<=601)(hb:t.P.length*5*t.X.length<=160000)(hA:Asc t.P)(hB:Asc t.X)
  (hc:∀w∈t.P,I2 w t.I=0/\w.length<=401) (hd:∀w∈t.X,I2 w t.I=0/\w.length≠0/\w.length<=81) (he:∀w∈t.P,0<w.length->w.take (w.length-1)∈t.P) (h0:[]∈t.P)
  (hf:∀a∈List.range t.I.toNat,[(a:Int)]∈t.X):P5 t=0:=by
 unfold P5;have a7:0<t.P.length:=rA.2 hp0
 have a5:¬160000<(t.P.length:Int)*(t.I+1)*↑t.X.length:=by
  have a1:(t.P.length:Int)*(t.I+1)<=(t.P.length:Int)*5:=Int.mul_le_mul_of_nonneg_left (by omega) (by omega);have a2:(t.P.length:Int)*(t.I+1)*↑t.X.length<=(t.P.length:Int)*5*↑t.X.length:=Int.mul_le_mul_of_nonneg_right a1 (by omega);have a3:(↑(t.P.length*5*t.X.length):Int)=(t.P.length:Int)*5*↑t.X.length:=by rw[CZ,CZ];rfl
  omega
 rw[if_neg (by omega),if_neg (by omega),if_neg (by rintro (h|h|h);omega;omega;exact a5 h)]
 have e1:scan (preG t λw=>decide (w∈t.P)) 0 t.P=none:=V9.2 λi w hw=>by
  have a4:=H0 hw;rw[F9];unfold preG;rw[if_neg (by simpa using (hc w a4).1)]
  have hz:¬((i=0/\0<w.length)\/aM t.P i w=false):=by
   rintro (⟨rfl,h⟩|h)
   ·obtain⟨j,hj,e⟩:=P1.1 h0;have ej:=get_at hj;rw[e]at ej;rcases eR j with rfl|a6
    ·rw[hw]at ej;injection ej with ej
     subst ej;simp at h
    ·have:=hA.get a6 hw ej;have:=rL this;simp at this;rw[this]at h;simp at h
   ·rw[IC hA hw]at h;cases h
  rw[if_neg hz,if_neg];rintro⟨h,h'⟩;exact of_decide_eq_false h' (he w a4 h)
 have e2:scan (sufG t) 0 t.X=none:=V9.2 λi w hw=>by
  have a4:=H0 hw;rw[F9];unfold sufG;rw[if_neg (by simpa using (hd w a4).1),if_neg (hd w a4).2.1,if_neg (by rw[IC hB hw];simp)]
 rw[e1,e2];simp only;rw[if_pos hf];have l1:=(AP t.P 401).2 λx hx=>(hc x hx).2;have l2:=(AP t.X 81).2 λx hx=>(hd x hx).2.2;rw[if_neg (by omega)]
def Z5{t:C6}(h:P5 t=0):(∀w∈t.P,I2 w t.I=0)/\(∀w∈t.P,0<w.length->w.take (w.length-1)∈t.P)/\[]∈t.P/\∀w∈t.X,I2 w t.I=0/\w.length≠0:=by
 obtain⟨_,_,_,_,_,e1,e2,a2⟩:=bI h
 have key:∀(i:Nat) w,t.P[i]?=some w->I2 w t.I=0/\¬(i=0/\0<w.length)/\(0<w.length->w.take (w.length-1)∈t.P):=λi w hw=>by
  have:=V9.1 e1 i w hw;rw[F9]at this;unfold preG at this;split at this
  ·cases this
  ·rename_i h1;split at this
   ·cases this
   ·rename_i h2;split at this
    ·cases this
    ·rename_i h3;refine⟨by simpa using h1,λh4=>h2 (Or.inl h4),λh4=>?_⟩;refine S1 λh5=>h3 ⟨h4,I3 h5⟩
 refine⟨λw hw=>?_,λw hw=>?_,?_,(zQ e2).2⟩
 ·obtain⟨i,hi,rfl⟩:=P1.1 hw;exact(key i _ (get_at hi)).1
 ·obtain⟨i,hi,rfl⟩:=P1.1 hw;exact(key i _ (get_at hi)).2.2
 ·have hl:0<t.P.length:=rA.2 a2;have:=(key 0 _ (get_at hl)).2.1
  have he:t.P[0].length=0:=by
   rcases eR t.P[0].length with h|h
   ·exact h
   ·exact absurd ⟨rfl,h⟩ this
  have:=S7 he;rw[<- this];exact J3 _
def sZ{t:C6}(h:P5 t=0):∀(n:Nat) (p:A2),p∈t.P->∀k,p.length-k=n->k<=p.length->p.take k∈t.P:=by
 obtain⟨_,hc,_,_⟩:=Z5 h;intro n
 induction n with
 |zero=>intro p hp k hk a2;rw[aP (by omega)];exact hp
 |succ n ih =>
  intro p hp k hk a2;have h1:=hc p hp (by omega);have h2:=ih _ h1 k (by rw[H6];omega) (by rw[H6];omega);rw[jV,fV (by omega)]at h2;exact h2
def EZ{p:A2}{n:Int}{a:Nat}(hp:I2 p n=0)(hl:p.length<=500)(ha:(a:Int)<n):I2 (p++[(a:Int)]) n=0:=by
 have hm:=W5 hp;unfold I2 at hp ⊢;split at hp
 ·rename_i h1;rw[if_pos h1,if_neg (by simp;omega),if_pos];refine P8.2 λx hx=>E6 ?_;rcases I8.1 hx with hx|hx
  ·exact hm x hx
  ·rw[K4.1 hx];omega
 ·cases hp
def EN{p:A2}{n:Int}{a:Nat}(hp:I2 p n=0)(hl:p.length<=100)(ha:(a:Int)<n):I2 ((a:Int)::p) n=0:=by
 have hm:=W5 hp;unfold I2 at hp ⊢;split at hp
 ·rename_i h1;rw[if_pos h1,if_neg (by simp;omega),if_pos];refine P8.2 λx hx=>E6 ?_;rcases H8.1 hx with rfl|hx
  ·omega
  ·exact hm x hx
 ·cases hp
def sort_more{l m:A4}{w:A2}(h:Asc l)(hw:w∉l)(hm:∀x,x∈m↔x∈l\/x=w):(sortW m).length=l.length+1/\∀x,x∈sortW m↔x∈l\/x=w:=by
 have a2:∀x,x∈sortW m↔x∈l\/x=w:=λx=>by rw[dL,hm]
 have e:sortW m=insW l w:=oW (gO m) (h.insW w) λx=>by rw[a2,bV]
 refine⟨?_,a2⟩;rw[e];unfold insW;rw[if_neg hw];have:=placeL_le l w;simp[D4,H6,M0];omega
def uncl_progress{t:C6}{o:A7}{w:A2}(ht:N7 t)(hb:(t.P.length+1)*5*t.X.length<=160000)(hz:V8 t o=0)(hf:(extL t).find? (newRow t o)=some w) :
  (gJ t w).2=0/\w∉t.P/\w∈(gJ t w).1.P/\(gJ t w).1.P.length=t.P.length+1/\(gJ t w).1.X.length=t.X.length:=by
 obtain⟨a4,_,hA⟩:=Z7 hz;obtain⟨b7,_,b5,b9,a7,_,_,c8⟩:=bI a4;obtain⟨b3,c0,a8,a9⟩:=Z5 a4;have b2:newRow t o w=true:=lC hf;have c6:=dR hf;obtain⟨p,hp,h2⟩:=O0.1 c6;obtain⟨a,ha,rfl⟩:=D7.1 h2;have ha:=M1.1 ha;have c7:=ht.pw p hp;have a6:p++[(a:Int)]∉t.P:=λhm=>of_decide_eq_true b2 (D7.2 ⟨_,hm,rfl⟩);have b4:=EZ (b3 p hp) (by omega) (show(a:Int)<t.I by omega)
 have b8:∀x,x∈t.P++sortW (preL [p++[(a:Int)]])↔x∈t.P\/x=p++[(a:Int)]:=λx=>by
  rw[I8,dL,preL_one];unfold prefixes;constructor
  ·rintro (h|h)
   ·exact Or.inl h
   ·obtain⟨k,hk,rfl⟩:=D7.1 h;have hk:=M1.1 hk;rw[D4,P3]at hk;rcases J0 p.length k with h3|h3
    ·right;rw[aP (by rw[D4,P3];omega)]
    ·left;rw[gC h3];exact sZ a4 _ p hp k rfl h3
  ·rintro (h|rfl)
   ·exact Or.inl h
   ·exact Or.inr (D7.2 ⟨p.length+1,by simp,by rw[aP (by simp)]⟩)
 obtain⟨a5,a2⟩:=sort_more b5 a6 b8;have a3:sortW (t.X++[])=t.X:=by rw[V0,qM b9]
 have b6:P5 ⟨t.I,sortW (t.P++sortW (preL [p++[(a:Int)]])),sortW (t.X++[])⟩=0:=by
  refine xK b7 ht.n (λe=>?_) ?_ ?_ (by show(sortW (t.P++sortW (preL [p++[(a:Int)]]))).length*5*(sortW (t.X++[])).length<=160000;rw[a5,a3];exact hb) (gO _) (gO _) (λu hu=>?_) (λu hu=>?_) (λu hu h0=>?_) ((a2 _).2 (Or.inl a8)) ?_
  ·have:p++[(a:Int)]∈sortW (t.P++sortW (preL [p++[(a:Int)]])):=(a2 _).2 (Or.inr rfl);rw[show sortW (t.P++sortW (preL [p++[(a:Int)]]))=[] from e]at this;cases this
  ·show(sortW (t.P++sortW (preL [p++[(a:Int)]]))).length<=601;rw[a5];have:=ht.p;omega
  ·show(sortW (t.X++[])).length<=601;rw[a3];have:=ht.s;omega
  ·rcases (a2 u).1 hu with h|rfl
   ·exact⟨b3 u h,by have:=ht.pw u h;omega⟩
   ·exact⟨b4,by simp;omega⟩
  ·have hu:u∈sortW (t.X++[]):=hu;rw[a3]at hu;exact⟨(a9 u hu).1,(a9 u hu).2,by have:=ht.sw u hu;omega⟩
  ·refine(a2 _).2 (Or.inl ?_);rcases (a2 u).1 hu with h|rfl
   ·exact c0 u h h0
   ·rw[D4,P3,uY,gC (G4 _),T0];exact hp
  ·show ∀a∈List.range t.I.toNat,[(a:Int)]∈sortW (t.X++[]);rw[a3];exact a7
 have hP:gJ t (p++[(a:Int)])=(⟨t.I,sortW (t.P++sortW (preL [p++[(a:Int)]])),sortW (t.X++[])⟩,0):=by
  unfold gJ growT;rw[if_neg (by simpa using a4),if_neg (by simpa using b4),if_neg (by simpa using b6)]
 rw[hP];exact⟨rfl,a6,(a2 _).2 (Or.inr rfl),a5,by show(sortW (t.X++[])).length=_;rw[a3]⟩
def mR{o:A7}{w:A2}:∀{S:A4} {r:Row},rowO o w S=some r->∀(i:Nat) e,S[i]?=some e->∃x,ansO o (w++e)=some x/\r[i]?=some (x.drop w.length)
 |[],_,_,i,e,he=>by simp at he
 |u::S,r,h,i,e,he=>by
  unfold rowO at h;cases ha:ansO o (w++u) with
  |none=>rw[ha]at h;cases h
  |some x =>
   rw[ha]at h;obtain⟨l,h1,rfl⟩:=dS.1 h;cases i with
   |zero =>
    simp at he;subst he;exact⟨x,ha,rfl⟩
   |succ i =>
    obtain⟨y,h2,h3⟩:=mR h1 i e (by simpa using he);exact⟨y,h2,by simpa using h3⟩
def iP_parts{t:C6}{o:A7}(hA:kC t o){x:Int×Int×Bool}(h:iP t o=some x) :
  ∃p q,p∈t.P/\q∈t.P/\rowO o p t.X=rowO o q t.X/\∃a e:Nat,x=((a:Int),(e:Int),true)/\a<t.I.toNat/\∃X Y u,rowO o (p++[(a:Int)]) t.X=some X/\rowO o (q++[(a:Int)]) t.X=some Y/\X[e]?=some u/\Y[e]?≠some u:=by
 refine jD (Q:=λx=>∃p q,p∈t.P/\q∈t.P/\rowO o p t.X=rowO o q t.X/\∃a e:Nat,x=((a:Int),(e:Int),true)/\a<t.I.toNat/\∃X Y u,rowO o (p++[(a:Int)]) t.X=some X/\rowO o (q++[(a:Int)]) t.X=some Y/\X[e]?=some u/\Y[e]?≠some u) h λi p r hp hr=>?_;refine jD (Q:=λx=>∃p q,p∈t.P/\q∈t.P/\rowO o p t.X=rowO o q t.X/\∃a e:Nat,x=((a:Int),(e:Int),true)/\a<t.I.toNat/\∃X Y u,rowO o (p++[(a:Int)]) t.X=some X/\rowO o (q++[(a:Int)]) t.X=some Y/\X[e]?=some u/\Y[e]?≠some u) hr λk q r hq hr=>?_;have a4:=H0 hp;have a3:q∈t.P:=U3 (H0 hq);split at hr
 ·rename_i a6;refine jD (Q:=λx=>∃p q,p∈t.P/\q∈t.P/\rowO o p t.X=rowO o q t.X/\∃a e:Nat,x=((a:Int),(e:Int),true)/\a<t.I.toNat/\∃X Y u,rowO o (p++[(a:Int)]) t.X=some X/\rowO o (q++[(a:Int)]) t.X=some Y/\X[e]?=some u/\Y[e]?≠some u) hr λa a' r ha hr=>?_
  have a2:a<t.I.toNat:=by
   have:=(E4.1 ha).1;simpa using this
  rw[cH a2]at ha;injection ha with ha
  subst ha;obtain⟨X,hX⟩:=hA p a4 (p++[(a:Int)]) (K7 _ (D7.2 ⟨a,M1.2 a2,rfl⟩));obtain⟨Y,hY⟩:=hA q a3 (q++[(a:Int)]) (K7 _ (D7.2 ⟨a,M1.2 a2,rfl⟩));rw[dK hX,dK hY]at hr;refine jD (Q:=λx=>∃p q,p∈t.P/\q∈t.P/\rowO o p t.X=rowO o q t.X/\∃a e:Nat,x=((a:Int),(e:Int),true)/\a<t.I.toNat/\∃X Y u,rowO o (p++[(a:Int)]) t.X=some X/\rowO o (q++[(a:Int)]) t.X=some Y/\X[e]?=some u/\Y[e]?≠some u) hr λe u r hu hr=>?_;split at hr
  ·cases hr
  ·rename_i a5;injection hr with hr
   subst hr;rw[F9]at a5 ⊢;exact⟨p,q,a4,a3,a6,a,e,rfl,a2,X,Y,u,hX,hY,hu,a5⟩
 ·cases hr
def inc_progress{t:C6}{o:A7}{x:Int×Int×Bool}(ht:N7 t)(hb:t.P.length*5*(t.X.length+1)<=160000)(hv:J9 o)(hz:V8 t o=0)(hf:iP t o=some x) :
  (gK t (toW t x)).2=0/\toW t x∉t.X/\toW t x∈(gK t (toW t x)).1.X/\(gK t (toW t x)).1.X.length=t.X.length+1/\(gK t (toW t x)).1.P.length=t.P.length:=by
 obtain⟨a4,_,hA⟩:=Z7 hz;obtain⟨c0,_,b8,c7,b2,_,_,c9⟩:=bI a4;obtain⟨d0,c8,b3,a9⟩:=Z5 a4;obtain⟨p,q,hp,hq,b7,a,e,rfl,ha,X,Y,u,hX,hY,hu,b4⟩:=iP_parts hA hf
 have he:e<t.X.length:=by
  have h1:=(E4.1 hu).1;rw[(dH hv hX).1]at h1;exact h1
 have a8:=get_at he
 have hW:toW t ((a:Int),(e:Int),true)=(a:Int)::t.X[e]:=by
  unfold toW;simp[a8]
 rw[hW];have d1:=ht.sw _ (J3 he);have b5:=EN (a9 _ (J3 he)).1 (by omega) (show(a:Int)<t.I by omega)
 have a6:(a:Int)::t.X[e]∉t.X:=λhm=>by
  obtain⟨j,hj,ej⟩:=P1.1 hm;have a7:=get_at hj;rw[ej]at a7;obtain⟨r,hr⟩:=hA p hp p (by simp[T1]);have b6:rowO o q t.X=some r:=by rw[<- b7];exact hr
  obtain⟨z1,h1,h2⟩:=mR hr j _ a7;obtain⟨z2,h3,h4⟩:=mR b6 j _ a7;obtain⟨y1,k1,k2⟩:=mR hX e _ a8;obtain⟨y2,k3,k4⟩:=mR hY e _ a8;rw[Z9]at k1 k3;have e1:p++(a:Int)::t.X[e]=p++([(a:Int)]++t.X[e]):=rfl;have e2:q++(a:Int)::t.X[e]=q++([(a:Int)]++t.X[e]):=rfl;rw[e1,k1]at h1;rw[e2,k3]at h3;injection h1 with h1
  injection h3 with h3
  subst h1 h3;rw[h2]at h4;injection h4 with h4
  have h5:=congrArg (List.drop 1) h4;rw[uQ,uQ]at h5;rw[hu]at k2;injection k2 with k2
  apply b4;rw[k4,k2];congr 1;rw[D4,D4,P3];exact h5.symm
 have c6:∀x,x∈t.X++[(a:Int)::t.X[e]]↔x∈t.X\/x=(a:Int)::t.X[e]:=λx=>by
  rw[I8,K4]
 obtain⟨a5,a3⟩:=sort_more c7 a6 c6;have a2:sortW (t.P++[])=t.P:=by rw[V0,qM b8]
 have b9:P5 ⟨t.I,sortW (t.P++[]),sortW (t.X++[(a:Int)::t.X[e]])⟩=0:=by
  refine xK c0 ht.n ?_ ?_ ?_ (by show(sortW (t.P++[])).length*5*(sortW (t.X++[(a:Int)::t.X[e]])).length<=160000;rw[a5,a2];exact hb) (gO _) (gO _) (λu hu=>?_) (λu hu=>?_) (λu hu h0=>?_) ?_ (λb hb=>(a3 _).2 (Or.inl (b2 b hb)))
  ·show sortW (t.P++[])≠[];rw[a2];exact c9
  ·show(sortW (t.P++[])).length<=601;rw[a2];have:=ht.p;omega
  ·show(sortW (t.X++[(a:Int)::t.X[e]])).length<=601;rw[a5];have:=ht.s;omega
  ·have hu:u∈sortW (t.P++[]):=hu;rw[a2]at hu;exact⟨d0 u hu,by have:=ht.pw u hu;omega⟩
  ·rcases (a3 u).1 hu with h|rfl
   ·exact⟨(a9 u h).1,(a9 u h).2,by have:=ht.sw u h;omega⟩
   ·exact⟨b5,by simp,by simp;omega⟩
  ·have hu:u∈sortW (t.P++[]):=hu;show u.take (u.length-1)∈sortW (t.P++[]);rw[a2]at hu ⊢;exact c8 u hu h0
  ·show []∈sortW (t.P++[]);rw[a2];exact b3
 have hP:gK t ((a:Int)::t.X[e])=(⟨t.I,sortW (t.P++[]),sortW (t.X++[(a:Int)::t.X[e]])⟩,0):=by
  unfold gK growT;rw[if_neg (by simpa using a4),if_neg (by simp),if_neg (by simpa using b5),if_neg (by simpa using b9)]
 rw[hP];exact⟨rfl,a6,(a3 _).2 (Or.inr rfl),a5,by show(sortW (t.P++[])).length=_;rw[a2]⟩
def extL_mem_sm{t:C6}(ht:N7 t){w:A2}(h:w∈extL t):w.length<=401/\∀a∈w,inR a:=by
 obtain⟨p,hp,h2⟩:=O0.1 h;obtain⟨a,ha,rfl⟩:=D7.1 h2;have ha:=M1.1 ha;have:=ht.pw p hp;have hn:=ht.n;refine⟨by simp;omega,λb hb=>?_⟩;rcases I8.1 hb with hb|hb
 ·exact ht.sm.2.2.2 p hp b hb
 ·rw[K4.1 hb];unfold inR;omega
def zU{l:A4}{n:Int}(hA:Asc l)(hc:∀w∈l,I2 w n=0/\w.length≠0)(h:∀a∈List.range n.toNat,[(a:Int)]∈l):∀a,a<n.toNat->l[a]?=some [(a:Int)]:=by
 intro a
 induction a using Nat.strongRecOn with
 |_ a ih =>
  intro ha;obtain⟨j,hj,e⟩:=P1.1 (h a (M1.2 ha));have ej:l[j]?=some [(a:Int)]:=by rw[get_at hj,e]
  rcases fY j a with a5|a6|a7
  ·have:=ih j a5 (by omega);rw[ej]at this;injection this with this
   injection this with this
   omega
  ·rw[<- a6,ej,a6]
  ·have hx:=get_at (l:=l) (i:=a) (by omega);have a2:=hA.get a7 hx ej;have a3:=H0 hx;obtain⟨b,hb⟩:=one_of (hc _ a3).2 (rL a2);rw[hb]at a2 hx;have a5:=xB.1 a2;have hr:=W5 (hc _ a3).1 b (by rw[hb];simp);have a4:=ih b.toNat (by omega) (by omega);rw[show((b.toNat:Nat):Int)=b by omega]at a4;have:=hA.get (show b.toNat<a by omega) a4 hx;rw[dJ]at this;cases this
def newAt(rs:List Row)(i:Nat):Bool:=match rs[i]? with|some r=>decide (r∉rs.take i)|none=>false
def fstI(rs:List Row)(k:Nat):List Nat:=(List.range k).filter (newAt rs)
def zJ(rs:List Row)(k:Nat):fstI rs (k+1)=fstI rs k++if newAt rs k=true then [k] else []:=by
 unfold fstI;rw[jZ,oG];simp only[rE,List.filter_nil]
def EH(rs:List Row):∀k,k<=rs.length->G8 [] (rs.take k)=(fstI rs k).map λi=>(rs[i]?).getD []:=by
 intro k
 induction k with
 |zero=>intro _;rfl
 |succ k ih =>
  intro hk;have hx:=get_at (l:=rs) (i:=k) (by omega);rw[Q2 hx,tL,ih (by omega),zJ,N6]
  have a2:newAt rs k=true↔rs[k]∉G8 [] (rs.take k):=by
   unfold newAt;rw[hx];simp only;rw[decide_eq_true_iff,cP];simp
  rw[ih (by omega)]at a2;unfold addR;by_cases h:newAt rs k=true
  ·rw[if_neg (a2.1 h),if_pos h];simp[hx]
  ·rw[if_pos (S1 λh2=>h (a2.2 h2)),if_neg h];simp
def fstI_len(rs:List Row)(k:Nat):(fstI rs k).length<=k:=by
 unfold fstI;have:=oH (newAt rs) (List.range k);rw[Y6]at this;exact this
def mem_fstI{rs:List Row}{k i:Nat}:i∈fstI rs k↔i<k/\newAt rs i=true:=by
 unfold fstI;rw[eO,M1]
def Q0(t:C6)(o:A7):List Row:=t.P.map (rowG t o)
def M2(t:C6)(o:A7):List Row:=G8 [] (Q0 t o)
def bP(t:C6)(o:A7)(p:A2):A2:=(List.range t.I.toNat).map λ(a:Nat)=>(↑(pos (rowG t o (p++[(a:Int)])) (M2 t o)):Int)
def outT(t:C6)(o:A7)(p:A2):A2:=(List.range t.I.toNat).map λ(a:Nat)=>(((rowG t o p)[a]?).getD []).headD 0
def O8(t:C6)(i:Nat):A2:=(t.P[i]?).getD []
def hypT(t:C6)(o:A7):I6 :=
 ⟨⟨t.I,0,(fstI (Q0 t o) t.P.length).map λi=>bP t o (O8 t i),(fstI (Q0 t o) t.P.length).map λi=>outT t o (O8 t i)⟩,(fstI (Q0 t o) t.P.length).map (O8 t)⟩
abbrev h0:I6:=⟨⟨0,0,[],[]⟩,[]⟩
def hypR(t:C6)(o:A7):I6×Int :=
 if V8 t o≠0 then(h0,V8 t o) else if(extL t).find? (newRow t o)≠none\/iP t o≠none then(h0,10) else(hypT t o,0)
def rowsO_eq{t:C6}{o:A7}:∀{ps:A4} {rs:List Row},Q5 o t.X ps=some rs->rs=ps.map (rowG t o)
 |[],rs,h=>by
  injection h with h
  exact h.symm
 |w::ws,rs,h=>by
  unfold Q5 at h;cases hr:rowO o w t.X with
  |none=>rw[hr]at h;cases h
  |some r =>
   rw[hr]at h;obtain⟨rs',h1,rfl⟩:=dS.1 h;rw[rowsO_eq h1,J7,dK hr]
def row_out{t:C6}{o:A7}(hv:J9 o){p:A2}{r:Row}(hr:rowO o p t.X=some r){a:Nat}(hs:t.X[a]?=some [(a:Int)]):∃y z,r[a]?=some [y]/\ansO o (p++[(a:Int)])=some z/\z.drop p.length=[y]:=by
 obtain⟨z,h1,h2⟩:=mR hr a _ hs;have hl:=kG hv h1;rw[D4,P3]at hl;have hd:(z.drop p.length).length=1:=by rw[M0];omega
 match hq:z.drop p.length,hd with
 |[y],_=>exact⟨y,z,by rw[h2,hq],h1,hq⟩
def zrl{t:C6}{o:A7}(ht:N7 t)(ho:SmO o)(hv:J9 o)(hr:(M2 t o).length<=128):W2 t o=some (hypR t o):=by
 have hn:=ht.n;have e5:=ht.p;obtain⟨v,e,h1,h2⟩:=BS ht ho hv;obtain⟨h3,h4⟩:=zB h2;unfold W2 hypR;rw[h1,A6];simp only;rw[h3]at h4 ⊢;by_cases hz:V8 t o=0
 ·obtain⟨hV,hA,d6⟩:=h4 hz;obtain⟨b4,_,_⟩:=Z7 hz;obtain⟨e7,_,e3,d5,b5,_,_,e4⟩:=bI b4;obtain⟨_,_,_,d1⟩:=Z5 b4;have b9:=zU d5 d1 b5;obtain⟨i,a,b,h5,h6⟩:=JA ht hV;rw[B4 (by simpa using hz),if_neg (by simpa using hz),h5,A6,iP_prog ht hv hV,A6];simp only;cases hf:(extL t).find? (newRow t o) with
  |some w =>
   rw[hf]at h6;obtain⟨rfl,_⟩:=h6;rw[if_pos (Or.inl (by simp))];rfl
  |none =>
   rw[hf]at h6;subst h6;cases hi:iP t o with
   |some x =>
    obtain⟨hb,_⟩:=iP_range hv hA hi;rw[if_pos (Or.inr (by simp))];simp only[G0,hb];rfl
   |none =>
    rw[if_neg (by simp)]
    -- closed: there are no other rows than the prefixes'
    have b6:∃rs a4,Q5 o t.X t.P=some rs/\bH o t.X t.I.toNat t.P=some a4/\v.rows=G8 (G8 [] rs) a4.flatten/\v.prefixes=nums v.rows rs/\v.next=a4.map (nums v.rows):=by
     rcases h2 with⟨q1,q2⟩|⟨_,q2,_⟩|⟨_,_,q⟩
     ·exact absurd d6 q1
     ·rw[h3,hz]at q2;cases q2
     ·exact q
    obtain⟨rs,a4,q1,q2,q3,q4,q5⟩:=b6;have a5:rs=Q0 t o:=rowsO_eq q1;have e6:rs.length=t.P.length:=(jE q1).1;have hE:=tH q2
    have a2:∀x∈a4.flatten,x∈rs:=λx hx=>by
     obtain⟨l,hl,hx⟩:=mA.1 hx;obtain⟨k,hk,rfl⟩:=P1.1 hl;have d9:=get_at (l:=t.P) (i:=k) (by rw[<- hE.1];exact hk);obtain⟨l',b2,d7⟩:=hE.2 k _ d9;rw[get_at hk]at b2;injection b2 with b2
     subst b2;obtain⟨j,hj,rfl⟩:=P1.1 hx;have hL:=jE d7
     have b8:j<t.I.toNat:=by
      have:=hL.1;simp[exts]at this;omega
     have hw:(exts t.I.toNat t.P[k])[j]?=some (t.P[k]++[(j:Int)]):=by
      unfold exts;rw[I9,cH b8];rfl
     obtain⟨r,a9,d3⟩:=hL.2 j _ hw;rw[get_at hj]at a9;injection a9 with a9
     subst a9
     have a7:newRow t o (t.P[k]++[(j:Int)])=false:=by
      have:=qZ.1 hf (t.P[k]++[(j:Int)]) (O0.2 ⟨_,J3 _,D7.2 ⟨j,M1.2 b8,rfl⟩⟩);simpa using this
     unfold newRow at a7;have a7:=iH.1 (of_decide_eq_false a7);obtain⟨p,hp,c8⟩:=D7.1 a7;rw[a5];refine D7.2 ⟨p,hp,?_⟩;rw[d3]at c8;exact dK c8
    have hR:v.rows=M2 t o:=by
     rw[q3];unfold M2;rw[<- a5]
     have:∀(xs R:List Row),(∀x∈xs,x∈R)->G8 R xs=R:=by
      intro xs
      induction xs with
      |nil=>intro R _;rfl
      |cons x xs ih =>
       intro R h;show G8 (addR R x) xs=R
       have e1:addR R x=R:=by
        unfold addR;rw[if_pos (h x (by simp))]
       rw[e1];exact ih R λy hy=>h y (K7 _ hy)
     exact this _ _ λx hx=>cP.2 (Or.inr (a2 x hx))
    have d4:=qG [] rs;simp only[L2]at d4
    have d0:v.rows.length<=128:=by
     rw[hR];exact hr
    simp only[G0,A6];rw[B4]
    have key:=V3 (step:=λ(s:A4×A4×A4×Nat)=>W2.s32 t (v,V8 t o) s.1 s.2.1 s.2.2.1 s.2.2.2) (r:=((fstI rs t.P.length).map λi=>bP t o (O8 t i),(fstI rs t.P.length).map λi=>outT t o (O8 t i),(fstI rs t.P.length).map (O8 t)))
     (λs=>s.2.2.2<=t.P.length/\s.1=(fstI rs s.2.2.2).map (λi=>bP t o (O8 t i))/\s.2.1=(fstI rs s.2.2.2).map (λi=>outT t o (O8 t i))/\s.2.2.1=(fstI rs s.2.2.2).map (O8 t)) (λs=>t.P.length-s.2.2.2) (λs ⟨g1,g2,g3,g4⟩=>by
      obtain⟨N,O,A,k⟩:=s
      simp only at g1 g2 g3 g4
      subst g2 g3 g4
      have e8:=fstI_len rs k
      simp only[W2.s32]
      rw[hV.pl]
      by_cases g5:k<t.P.length
      ·left
       have hp:=get_at g5
       have d8:=J3 g5
       have e2:=ht.pw _ d8
       obtain⟨r,r1,r2,r3⟩:=hV.pre k _ hp
       obtain⟨l,l1,l2,l3⟩:=hV.nxt k _ hp
       have c6:rs[k]?=some r:=by
        rw[a5]
        unfold Q0
        rw[I9,hp]
        show some (rowG t o t.P[k])=_
        rw[dK r1]
       have e0:O8 t k=t.P[k]:=by unfold O8;rw[hp];rfl
       have b3:newAt rs k=true↔r∉rs.take k:=by
        unfold newAt
        rw[c6]
        simp
       have b7:((fstI rs k).map (O8 t)).length=(G8 [] (rs.take k)).length:=by
        rw[EH rs k (by omega),B6,B6]
       have c0:v.rows=G8 (G8 [] (rs.take k)) (rs.drop k):=by
        rw[hR]
        unfold M2
        rw[<- a5,<- BY,rB]
       rw[E2,C8 r3,b7]
       by_cases g6:newAt rs k=true
       ·have a8:=b3.1 g6
        have a3:r∉G8 [] (rs.take k):=λh=>by
         rcases cP.1 h with h|h
         ·cases h
         ·exact a8 h
        have a6:pos r v.rows=(G8 [] (rs.take k)).length:=by
         rw[c0,cV (by omega)]
         have e1:rs[k]'(by omega)=r:=by
          have:=get_at (l:=rs) (i:=k) (by omega)
          rw[c6]at this
          injection this with this
          exact this.symm
         rw[e1]
         show pos r (G8 (addR (G8 [] (rs.take k)) r) _)=_
         rw[xD (vQ.2 (Or.inr rfl))]
         unfold addR
         rw[if_neg a3,pos_new a3]
        rw[a6,B4]
        have outs:=V3 (step:=λ(s:A2×Nat)=>W2.s30 t (v,V8 t o) (↑(G8 [] (rs.take k)).length:Int) s.1 s.2) (r:=outT t o t.P[k]) (λs=>s.2<=t.I.toNat/\s.1=(List.range s.2).map λ(a:Nat)=>(((rowG t o t.P[k])[a]?).getD []).headD 0) (λs=>t.I.toNat-s.2) (λs ⟨m1,m2⟩=>by
         obtain⟨y,a⟩:=s
         simp only at m1 m2
         subst m2
         simp only[W2.s30]
         by_cases m3:a<t.I.toNat
         ·left
          obtain⟨y,z,y1,_,_⟩:=row_out hv r1 (b9 a m3)
          have c7:v.rows[(G8 [] (rs.take k)).length]?=some r:=by rw[<- a6];exact kD r2
          refine⟨((List.range (a+1)).map λ(a:Nat)=>(((rowG t o t.P[k])[a]?).getD []).headD 0,a+1),?_,⟨m3,rfl⟩,by simp only;omega⟩
          rw[E2,E8 rfl c7,C8 y1,C8 (x:=y) rfl,H7 (by rw[B6,Y6];unfold E0;omega),L0,jZ,N6]
          simp[dK r1,y1]
         ·right
          have e:a=t.I.toNat:=by omega
          subst e
          rw[B4]
          rfl) (n:=fuel) (s:=([],0)) ⟨F7 _,rfl⟩
        have d2:l=bP t o t.P[k]:=by
         unfold bP
         apply cT
         intro a
         by_cases ha:a<t.I.toNat
         ·obtain⟨x,x1,x2,x3⟩:=l3 a ha
          rw[x3,I9,cH ha,<- hR]
          show some (↑(pos x v.rows):Int)=some (↑(pos (rowG t o (t.P[k]++[(a:Int)])) v.rows):Int)
          rw[dK x1]
         ·rw[W8 (by omega),W8 (by simp;omega)]
        refine⟨((fstI rs (k+1)).map (λi=>bP t o (O8 t i)),(fstI rs (k+1)).map (λi=>outT t o (O8 t i)),(fstI rs (k+1)).map (O8 t),k+1),?_,⟨g5,rfl,rfl,rfl⟩,by simp only;omega⟩
        rw[outs,A6,C8 l1,gW (by unfold SmW;omega),A6,H7 (by rw[B6];unfold E0;omega),H7 (by rw[B6];unfold E0;omega),C8 hp,gW (by unfold SmW;omega),A6,H7 (by
         have h9:=qG [] (rs.take k)
         rw[H6]at h9
         simp only[L2]at h9
         unfold E0
         omega),A6]
        rw[zJ,if_pos g6]
        simp only[N6,J7,eS,e0,<- d2]
        rfl
       ·have c9:r∈rs.take k:=S1 λh=>g6 (b3.2 h)
        have a6:pos r v.rows<(G8 [] (rs.take k)).length:=by
         rw[c0,xD (cP.2 (Or.inr c9))]
         exact pos_lt (cP.2 (Or.inr c9))
        refine⟨((fstI rs (k+1)).map (λi=>bP t o (O8 t i)),(fstI rs (k+1)).map (λi=>outT t o (O8 t i)),(fstI rs (k+1)).map (O8 t),k+1),?_,⟨g5,rfl,rfl,rfl⟩,by simp only;omega⟩
        rw[E2,A6,zJ,if_neg g6,V0]
        rfl
      ·right
       have e:k=t.P.length:=by omega
       subst e
       rw[B4]) (n:=fuel) (s:=([],[],[],0)) ⟨F7 _,rfl,rfl,rfl⟩ (by have:=U7;simp only;omega)
    rw[key,A6];unfold hypT;rw[<- a5];rfl
 ·rw[E2 hz,if_pos hz]
def rowG_eq{t:C6}{o:A7}{p:A2}(h:∃r,rowO o p t.X=some r):rowO o p t.X=some (rowG t o p):=by
 obtain⟨r,hr⟩:=h;rw[hr,dK hr]
section
structure H5(t:C6)(o:A7):Prop where
 ht:N7 t
 h128:(M2 t o).length<=128
 ho:SmO o
 hv:J9 o
 hz:V8 t o=0
 hf:(extL t).find? (newRow t o)=none
 hi:iP t o=none
section
variable {t:C6}{o:A7}
def H5.all(H:H5 t o):kC t o:=(Z7 H.hz).2.2
def H5.row(H:H5 t o){p:A2}(hp:p∈t.P):rowO o p t.X=some (rowG t o p):=rowG_eq (H.all p hp p (by simp[T1]))
def H5.ext(H:H5 t o){p:A2}(hp:p∈t.P){a:Nat}(ha:a<t.I.toNat):rowO o (p++[(a:Int)]) t.X=some (rowG t o (p++[(a:Int)])) :=
 rowG_eq (H.all p hp _ (K7 _ (D7.2 ⟨a,M1.2 ha,rfl⟩)))
def H5.closed(H:H5 t o){p:A2}(hp:p∈t.P){a:Nat}(ha:a<t.I.toNat):rowG t o (p++[(a:Int)])∈M2 t o:=by
 have h1:=qZ.1 H.hf (p++[(a:Int)]) (O0.2 ⟨p,hp,D7.2 ⟨a,M1.2 ha,rfl⟩⟩);have h2:newRow t o (p++[(a:Int)])=false:=by simpa using h1
 unfold newRow at h2;obtain⟨q,hq,h3⟩:=D7.1 (iH.1 (of_decide_eq_false h2));rw[H.ext hp ha]at h3;unfold M2;exact cP.2 (Or.inr (D7.2 ⟨q,hq,dK h3⟩))
def H5.mem(H:H5 t o){p:A2}(hp:p∈t.P):rowG t o p∈M2 t o:=by
 unfold M2;exact cP.2 (Or.inr (D7.2 ⟨p,hp,rfl⟩))
def dP_none{a:Nat}{x y:Row}(hl:x.length=y.length)(h:dP a x y=none):x=y:=by
 have h1:=V9.1 h;apply cT;intro e;rcases J0 e x.length with he|he
 ·have hx:=get_at he;have:=h1 e _ hx;rw[F9]at this;split at this
  ·rename_i h2;rw[hx,h2]
  ·cases this
 ·rw[W8 he,W8 (by omega)]
def H5.cons(H:H5 t o){p q:A2}(hp:p∈t.P)(hq:q∈t.P)(h:rowG t o p=rowG t o q){a:Nat}(ha:a<t.I.toNat):rowG t o (p++[(a:Int)])=rowG t o (q++[(a:Int)]):=by
 have key:∀(i k:Nat) p q,i<k->t.P[i]?=some p->t.P[k]?=some q->rowG t o p=rowG t o q->rowG t o (p++[(a:Int)])=rowG t o (q++[(a:Int)]):=by
  intro i k p q a8 hp hq h;have a3:=H0 hp;have a2:=H0 hq;have h1:=V9.1 H.hi i p hp;rw[F9]at h1
  have a4:(t.P.drop (i+1))[k-(i+1)]?=some q:=by
   rw[U2,show i+1+(k-(i+1))=k by omega];exact hq
  have h2:=V9.1 h1 _ q a4;rw[if_pos (by rw[H.row a3,H.row a2,h])]at h2;have h3:=V9.1 h2 a a (cH ha);refine dP_none ?_ h3;rw[(dH H.hv (H.ext a3 ha)).1,(dH H.hv (H.ext a2 ha)).1]
 obtain⟨i,hi,rfl⟩:=P1.1 hp;obtain⟨k,hk,rfl⟩:=P1.1 hq;rcases fY i k with a6|a7|a5
 ·exact key i k _ _ a6 (get_at hi) (get_at hk) h
 ·subst a7;rfl
 ·exact(key k i _ _ a5 (get_at hk) (get_at hi) h.symm).symm
def stt(t:C6)(o:A7)(w:A2):Nat:=pos (rowG t o w) (M2 t o)
def rowsA_map:M2 t o=(fstI (Q0 t o) t.P.length).map λi=>((Q0 t o)[i]?).getD []:=by
 have:=EH (Q0 t o) t.P.length (by simp[Q0]);rw[aP (by simp[Q0])]at this;exact this
def rep_of{r:Row}(h:r∈M2 t o):∃i,(fstI (Q0 t o) t.P.length)[pos r (M2 t o)]?=some i/\i<t.P.length/\O8 t i∈t.P/\rowG t o (O8 t i)=r:=by
 have h1:=kD h;have h2:=@rowsA_map t o;rw[h2,I9]at h1;rw[<- h2]at h1;obtain⟨i,hi,h3⟩:=dS.1 h1;have hm:=mem_fstI.1 (H0 hi);have hp:=get_at hm.1;have a2:O8 t i=t.P[i]:=by unfold O8;rw[hp];rfl
 refine⟨i,hi,hm.1,by rw[a2];exact J3 _,?_⟩;rw[a2,<- h3];unfold Q0;rw[I9,hp];rfl
def H5.at(H:H5 t o){r:Row}(h:r∈M2 t o):∃q∈t.P,rowG t o q=r/\(hypT t o).M.N[pos r (M2 t o)]?=some (bP t o q)/\(hypT t o).M.O[pos r (M2 t o)]?=some (outT t o q)/\(hypT t o).Access[pos r (M2 t o)]?=some q:=by
 obtain⟨i,hi,_,h2,h3⟩:=rep_of h;refine⟨O8 t i,h2,h3,?_,?_,?_⟩
 ·show((fstI (Q0 t o) t.P.length).map λi=>bP t o (O8 t i))[_]?=_;rw[I9,hi];rfl
 ·show((fstI (Q0 t o) t.P.length).map λi=>outT t o (O8 t i))[_]?=_;rw[I9,hi];rfl
 ·show((fstI (Q0 t o) t.P.length).map (O8 t))[_]?=_;rw[I9,hi];rfl
def vN{q:A2}{a:Nat}(ha:a<t.I.toNat):(bP t o q)[a]?=some (↑(stt t o (q++[(a:Int)])):Int):=by
 unfold bP stt;rw[I9,cH ha];rfl
def outT_at{q:A2}{a:Nat}(ha:a<t.I.toNat):(outT t o q)[a]?=some ((((rowG t o q)[a]?).getD []).headD 0):=by
 unfold outT;rw[I9,cH ha];rfl
def H5.sym(H:H5 t o){p:A2}(hp:p∈t.P){k:Nat}{x:Int}(hx:p[k]?=some x):0<=x/\x<t.I :=
 W5 ((Z5 (Z7 H.hz).1).1 p hp) x (H0 hx)
def H5.nil(H:H5 t o):t.P[0]?=some []:=by
 obtain⟨a2,_,_⟩:=Z7 H.hz;obtain⟨_,_,hA,_,_,_,_,a4⟩:=bI a2;obtain⟨_,_,h0,_⟩:=Z5 a2;have hl:0<t.P.length:=rA.2 a4;obtain⟨j,hj,e⟩:=P1.1 h0;rcases eR j with rfl|a3
 ·rw[get_at hj,e]
 ·have:=rL (hA.get a3 (get_at hl) (get_at hj));rw[e]at this;have h2:=S7 (Nat.le_zero.1 this);rw[get_at hl,h2]
def H5.start(H:H5 t o):stt t o []=0:=by
 have h0:=H.nil;unfold stt M2
 have hp:Q0 t o=rowG t o []::(Q0 t o).drop 1:=by
  unfold Q0;cases hP:t.P with
  |nil=>rw[hP]at h0;cases h0
  |cons p ps =>
   rw[hP]at h0;injection h0 with h0
   subst h0;rfl
 rw[hp];show pos (rowG t o []) (G8 (addR [] (rowG t o [])) _)=0;rw[xD (vQ.2 (Or.inr rfl))];simp[addR,pos]
def H5.outs(H:H5 t o){p:A2}(hp:p∈t.P):∃ys,aH (hypT t o).M 0 p=some (ys,(↑(stt t o p):Int)):=by
 have a9:=H.ht.pw p hp;have a2:=(Z7 H.hz).1;unfold aH
 have key:=aG (step:=λ(s:Int×A2×Nat)=>aH.s2 (hypT t o).M p s.1 s.2.1 s.2.2) (λs=>s.2.2<=p.length/\s.1=(↑(stt t o (p.take s.2.2)):Int)/\s.2.1.length=s.2.2) (λs=>p.length-s.2.2) (λr=>r.1=(↑(stt t o p):Int)) (λs ⟨g1,g2,g3⟩=>by
  obtain⟨st,y,k⟩:=s
  simp only at g1 g2 g3
  subst g2
  simp only[aH.s2]
  by_cases g4:k<p.length
  ·left
   have hx:=get_at g4
   obtain⟨b3,b2⟩:=H.sym hp hx
   have a3:=sZ a2 _ p hp k rfl (by omega)
   have a7:=sZ a2 _ p hp (k+1) rfl (by omega)
   have a5:p[k]=((p[k].toNat:Nat):Int):=by omega
   have a6:p[k].toNat<t.I.toNat:=by omega
   obtain⟨q,hq,q1,q2,q3,_⟩:=H.at (H.mem a3)
   have q2:(hypT t o).M.N[stt t o (p.take k)]?=some (bP t o q):=q2
   have q3:(hypT t o).M.O[stt t o (p.take k)]?=some (outT t o q):=q3
   have a4:=H.cons hq a3 q1 a6
   have a8:stt t o (q++[((p[k].toNat:Nat):Int)])=stt t o (p.take (k+1)):=by
    unfold stt
    rw[a4,Q2 hx,<- a5]
   refine⟨((↑(stt t o (p.take (k+1))):Int),y++[(((rowG t o q)[p[k].toNat]?).getD []).headD 0],k+1),?_,⟨g4,rfl,by simp[g3]⟩,by simp only;omega⟩
   rw[K8 hx,G5,E8 rfl q3,C8 hx,E8 a5 (outT_at a6),aK,E8 rfl q2,C8 hx,E8 a5 (vN a6),a8]
  ·right
   have e:k=p.length:=by omega
   subst e
   rw[T0]
   exact⟨_,by rw[B4],rfl⟩) ((0:Int),[],0) ⟨F7 _,by simp[H.start],rfl⟩
 obtain⟨⟨st,ys⟩,e,hq⟩:=key;rw[e,A6];simp only at hq;subst hq;exact⟨ys,rfl⟩
def H5.num(H:H5 t o):(M2 t o).length=(fstI (Q0 t o) t.P.length).length/\0<(M2 t o).length/\(M2 t o).length<=128:=by
 have h1:=@rowsA_map t o;have h2:=fstI_len (Q0 t o) t.P.length;have h3:=H.h128;have h4:(M2 t o).length=(fstI (Q0 t o) t.P.length).length:=by rw[h1,B6]
 have h5:rowG t o []∈M2 t o:=H.mem (H0 H.nil);have h6:=DN h5;omega
def H5.nlen(H:H5 t o):(hypT t o).M.N.length=(M2 t o).length/\(hypT t o).M.O.length=(M2 t o).length/\(hypT t o).Access.length=(M2 t o).length:=by
 have:=H.num.1;unfold hypT;simp only[B6];omega
def H5.state(H:H5 t o){s:Nat}(hs:s<(M2 t o).length):∃q∈t.P,stt t o q=s/\(hypT t o).M.N[s]?=some (bP t o q)/\(hypT t o).M.O[s]?=some (outT t o q)/\(hypT t o).Access[s]?=some q:=by
 have hm:=J3 hs
 have a2:pos (M2 t o)[s] (M2 t o)=s:=by
  -- the rows are all different
  have a4:∀(rs R:List Row),R.Nodup->(G8 R rs).Nodup:=by
   intro rs
   induction rs with
   |nil=>intro R h;exact h
   |cons r rs ih =>
    intro R h;show(G8 (addR R r) rs).Nodup;refine ih _ ?_;unfold addR;split
    ·exact h
    ·rename_i hn;rw[Y7]
     exact⟨h,by simp,λx hx y hy=>by
      rw[K4.1 hy]
      exact λe=>hn (e ▸ hx)⟩
  have hN:(M2 t o).Nodup:=a4 _ _ fU;have h1:=kD hm;have h2:=pos_lt hm;have h3:=get_at h2;rw[h1]at h3;injection h3 with h3
  rcases fY (pos (M2 t o)[s] (M2 t o)) s with a5|a6|a3
  ·exact absurd h3.symm (V1.1 hN _ _ h2 hs a5)
  ·exact a6
  ·exact absurd h3 (V1.1 hN _ _ hs h2 a3)
 obtain⟨q,hq,q1,q2,q3,q4⟩:=H.at hm;rw[a2]at q2 q3 q4;exact⟨q,hq,by unfold stt;rw[q1,a2],q2,q3,q4⟩
def H5.out_rng(H:H5 t o){q:A2}(hq:q∈t.P){a:Nat}(ha:a<t.I.toNat):0<=((((rowG t o q)[a]?).getD []).headD 0)/\((((rowG t o q)[a]?).getD []).headD 0)<=1048576:=by
 obtain⟨a2,_,_⟩:=Z7 H.hz;obtain⟨_,_,_,a5,a3,_⟩:=bI a2;obtain⟨_,_,_,a4⟩:=Z5 a2;obtain⟨y,z,y1,y2,y3⟩:=row_out H.hv (H.row hq) (zU a5 a4 a3 a ha);rw[y1];show 0<=y/\y<=1048576;have hy:y∈z:=U3 (by rw[y3];simp);unfold ansO at y2;split at y2
 ·injection y2 with y2
  subst y2;cases hy
 ·obtain⟨tr,a6,rfl⟩:=dS.1 y2;exact(H.hv.prop tr (dR a6)).1.2.2 y (Q4 hy)
def H5.row_valid(H:H5 t o){s:Nat}(hs:s<(M2 t o).length):aW (hypT t o).M (s:Int)=some 0:=by
 have hn:=H.ht.n;have a6:1<=t.I:=(bI (Z7 H.hz).1).1;obtain⟨q,hq,_,q2,q3,_⟩:=H.state hs;have a3:(bP t o q).length=t.I.toNat:=by simp[bP]
 have a4:(outT t o q).length=t.I.toNat:=by simp[outT]
 have hI:(hypT t o).M.I=t.I:=rfl;have a2:=H.num;unfold aW;rw[hI,E8 rfl q2,B4,E8 rfl q3,I3 (by omega),A6,G0]
 have key:=V3 (step:=λa=>aW.s2 (hypT t o).M (s:Int) a) (r:=.inl ()) (λa=>a<=t.I.toNat) (λa=>t.I.toNat-a) (λa g1=>by
  simp only[aW.s2]
  rw[hI]
  by_cases g2:a<t.I.toNat
  ·left
   have a5:stt t o (q++[(a:Int)])<(M2 t o).length:=pos_lt (H.closed hq g2)
   obtain⟨o1,o2⟩:=H.out_rng hq g2
   refine⟨a+1,?_,by omega,by omega⟩
   rw[E2,E8 rfl q2,C8 (vN g2),B4,E8 rfl q2,C8 (vN g2),H.nlen.1,B4,E8 rfl q3,C8 (outT_at g2),B4,E8 rfl q3,C8 (outT_at g2),I3 (by omega),A6,G0,L0]
  ·right
   have e:a=t.I.toNat:=by omega
   subst e
   rw[B4]) (n:=fuel) (s:=0) (F7 _)
 rw[key,A6];rfl
def H5.valid6(H:H5 t o):S6 (hypT t o).M=some 0:=by
 have hn:=H.ht.n;have a2:1<=t.I:=(bI (Z7 H.hz).1).1;have hI:(hypT t o).M.I=t.I:=rfl;have hS:(hypT t o).M.S=0:=rfl;obtain⟨l1,l2,l3⟩:=H.nlen;obtain⟨_,n1,n2⟩:=H.num;unfold S6;rw[hI,hS,l1,l2,B4,I3 (by omega),A6,G0,B4,B4,B4,I3 (by omega),A6,G0,B4]
 have key:=V4 (step:=λs=>S6.s2 (hypT t o).M s) (l:=(hypT t o).M.N) (λ_ _=>(none:Option Int)) (λi x hx=>by
  have hi:=(E4.1 hx).1
  simp only[S6.s2]
  rw[K8 hx,G5,H.row_valid (by omega),A6]
  rfl) (by
  simp only[S6.s2]
  rw[T7]
  rfl) (by omega)
 rw[key,A6,V9.2 λi x _=>rfl];rfl
def H5.valid22(H:H5 t o):eF (hypT t o)=some 0:=by
 have hn:=H.ht.n;have hI:(hypT t o).M.I=t.I:=rfl;have hS:(hypT t o).M.S=0:=rfl;obtain⟨l1,l2,l3⟩:=H.nlen;obtain⟨_,n1,n2⟩:=H.num;have a2:=(Z7 H.hz).1;unfold eF;rw[H.valid6,A6,B4 (by simp),l1,l3,B4]
 have key:=V4 (step:=λs=>eF.s2 (hypT t o) s) (l:=(hypT t o).Access) (λ_ _=>(none:Option Int)) (λi x hx=>by
  have hi:=(E4.1 hx).1
  obtain⟨q,hq,q1,_,_,q4⟩:=H.state (s:=i) (by omega)
  rw[hx]at q4
  injection q4 with q4
  subst q4
  have a6:=H.ht.pw x hq
  obtain⟨ys,a3⟩:=H.outs hq
  simp only[eF.s2]
  rw[K8 hx,G5,C8 hx,BI _ _ (by unfold SmW;omega),hI,(Z5 a2).1 x hq,A6,hS,a3]
  simp[q1]) (by
  simp only[eF.s2]
  rw[T7]
  rfl) (by omega)
 obtain⟨q,hq,q1,_,_,q4⟩:=H.state (s:=0) n1
 have a4:(hypT t o).Access[0]?=some []:=by
  have h5:rowG t o []∈M2 t o:=H.mem (H0 H.nil)
  -- the first state's prefix is the first prefix
  have a5:(fstI (Q0 t o) t.P.length)[0]?=some 0:=by
   have hl:0<t.P.length:=(E4.1 H.nil).1
   have h1:newAt (Q0 t o) 0=true:=by
    unfold newAt Q0;rw[I9,H.nil];simp
   unfold fstI;obtain⟨k,hk⟩:∃k,t.P.length=k+1:=⟨t.P.length-1,by omega⟩;rw[hk,List.range_succ_eq_map,vC h1];rfl
  show((fstI (Q0 t o) t.P.length).map (O8 t))[0]?=_;rw[I9,a5];show some (O8 t 0)=_;unfold O8;rw[H.nil];rfl
 rw[key,A6,V9.2 λi x _=>rfl];simp only[cS];rw[hS,E8 (n:=0) (i:=0) rfl a4];rfl
end
end
section
def zX:∀{u a b:A2},u <+: a->u <+: b->u.length<=G6 a b
 |[],_,_,_,_=>F7 _
 |x::u,a,b,⟨v,hv⟩,⟨w,hw⟩=>by
  subst hv;subst hw;have:=zX (u:=u) (a:=u++v) (b:=u++w) ⟨v,rfl⟩ ⟨w,rfl⟩;show u.length+1<=G6 (x::(u++v)) (x::(u++w));simp only[G6,if_true];omega
def tP{V:Type}{l:List V}{i j:Nat}(h:i<=j):(l.take j).take i=l.take i:=by
 rw[jV,fV h]
def agree_all{o:A7}(hv:J9 o){a b:B0}(ha:a∈o.T)(hb:b∈o.T):Agree a b\/Agree b a:=by
 obtain⟨i,hi,rfl⟩:=P1.1 ha;obtain⟨j,hj,rfl⟩:=P1.1 hb;rcases fY i j with h|h|h
 ·exact Or.inl (hv.apart i j _ _ h (get_at hi) (get_at hj)).2
 ·subst h;exact Or.inl rfl
 ·exact Or.inr (hv.apart j i _ _ h (get_at hj) (get_at hi)).2
def ansO_pre{o:A7}(hv:J9 o){u v r:A2}(h:ansO o (u++v)=some r):ansO o u=some (r.take u.length):=by
 unfold ansO at h ⊢;by_cases h0:u=[]
 ·subst h0;simp
 ·rw[if_neg (by simp[h0])]at h;rw[if_neg h0];obtain⟨a,ha,rfl⟩:=dS.1 h;have a3:=dR ha;have a5:u++v <+: a.In:=by simpa using lC ha
  have a2:u <+: a.In:=(DL u v).trans a5;cases hb:o.T.find? λt=>decide (u <+: t.In) with
  |none =>
   have:=qZ.1 hb a a3;simp[a2]at this
  |some b =>
   have a6:=dR hb;have a4:u <+: b.In:=by simpa using lC hb
   show some (b.O.take u.length)=some ((a.O.take (u++v).length).take u.length);rw[tP (by rw[D4];omega)];congr 1;rcases agree_all hv a3 a6 with h1|h1
   ·have h2:=zX a2 a4;unfold Agree at h1;rw[<- tP h2,<- h1,tP h2]
   ·have h2:=zX a4 a2;unfold Agree at h1;rw[<- tP h2,h1,tP h2]
def tailA(o:A7)(w e:A2):A2:=((ansO o (w++e)).getD []).drop w.length
def wK{o:A7}(hv:J9 o)(w:A2):tailA o w []=[]:=by
 unfold tailA;rw[V0];cases h:ansO o w with
 |none=>simp
 |some r =>
  rw[N1,rC (by rw[kG hv h];exact G4 _)]
def mK{o:A7}{w:A2}{S:A4}{r:Row}(h:rowO o w S=some r){i:Nat}{e:A2}(he:S[i]?=some e):r[i]?=some (tailA o w e):=by
 obtain⟨x,x1,x2⟩:=mR h i e he;rw[x2];unfold tailA;rw[x1];rfl
def tailA_cons{o:A7}(hv:J9 o){w e:A2}{a y:Int}(h:ansO o (w++a::e)≠none)(hy:tailA o w [a]=[y]):tailA o w (a::e)=y::tailA o (w++[a]) e:=by
 cases hr:ansO o (w++a::e) with
 |none=>exact absurd hr h
 |some r =>
  have hl:=kG hv hr;have h1:w++a::e=(w++[a])++e:=by simp
  have h2:=hr;rw[h1]at h2;have h3:=ansO_pre hv h2;unfold tailA at hy ⊢;rw[h3]at hy;rw[hr,h2];simp only[N1]at hy ⊢;rw[D4,P3]at hy ⊢;rw[D4,E9]at hl;have h4:r.drop w.length=r[w.length]'(by omega)::r.drop (w.length+1):=cV (by omega);rw[h4];congr 1
  have h5:(List.drop w.length (List.take (w.length+1) r))[0]?=some (r[w.length]'(by omega)):=by
   rw[U2,List.getElem?_take_of_lt (by omega),get_at (by omega)];rfl
  rw[hy]at h5;injection h5 with h5
  exact h5.symm
def ans_split{o:A7}(hv:J9 o){w e r:A2}(hw:ansO o w=some r)(h:ansO o (w++e)≠none):ansO o (w++e)=some (r++tailA o w e):=by
 cases hr:ansO o (w++e) with
 |none=>exact absurd hr h
 |some z =>
  have h1:=ansO_pre hv hr;rw[hw]at h1;injection h1 with h1
  unfold tailA;rw[hr,h1,N1,rB]
section
variable {t:C6}{o:A7}
def H5.mac(H:H5 t o):J6 (hypT t o).M:=sB H.valid6
def H5.sing(H:H5 t o){a:Nat}(ha:a<t.I.toNat):t.X[a]?=some [(a:Int)]:=by
 have a2:=(Z7 H.hz).1;obtain⟨_,_,_,a4,a3,_⟩:=bI a2;obtain⟨_,_,_,a5⟩:=Z5 a2;exact zU a4 a5 a3 a ha
def H5.lt(H:H5 t o){p:A2}(hp:p∈t.P):stt t o p<(hypT t o).M.N.length:=by
 rw[H.nlen.1];exact pos_lt (H.mem hp)
def H5.nx_ot(H:H5 t o){p:A2}(hp:p∈t.P){a:Nat}(ha:a<t.I.toNat):nx (hypT t o).M (stt t o p) a=stt t o (p++[(a:Int)])/\tailA o p [(a:Int)]=[ot (hypT t o).M (stt t o p) a]:=by
 obtain⟨q,hq,q1,q2,q3,_⟩:=H.at (H.mem hp);have q2:(hypT t o).M.N[stt t o p]?=some (bP t o q):=q2;have q3:(hypT t o).M.O[stt t o p]?=some (outT t o q):=q3;constructor
 ·unfold nx;rw[q2,N1,vN ha,N1,O3];unfold stt;rw[H.cons hq hp q1 ha]
 ·obtain⟨y,z,y1,y2,y3⟩:=row_out H.hv (H.row hp) (H.sing ha);unfold ot;rw[q3,N1,outT_at ha,N1,q1,y1];unfold tailA;rw[y2,N1,y3];rfl
def H5.rep(H:H5 t o){p:A2}(hp:p∈t.P){a:Nat}(ha:a<t.I.toNat):∃q∈t.P,rowG t o q=rowG t o (p++[(a:Int)])/\stt t o q=stt t o (p++[(a:Int)]):=by
 obtain⟨q,hq,q1,_⟩:=H.at (H.closed hp ha);exact⟨q,hq,q1,by unfold stt;rw[q1]⟩
def H5.sufs(H:H5 t o){e:A2}(he:e∈t.X):WOk t.I e:=W5 ((Z5 (Z7 H.hz).1).2.2.2 e he).1
def same_tail{p q:A2}{r:Row}(hp:rowO o p t.X=some r)(hq:rowO o q t.X=some r){e:A2}(he:e∈t.X):tailA o p e=tailA o q e:=by
 obtain⟨i,hi,rfl⟩:=P1.1 he;have h1:=mK hp (get_at hi);rw[mK hq (get_at hi)]at h1;injection h1 with h1
 exact h1.symm
def H5.along(H:H5 t o)(hc:∀e∈t.X,e.drop 1∈t.X\/e.drop 1=[]):∀(e:A2),e∈t.X\/e=[]->∀p∈t.P,Sym.outs (hypT t o).M (stt t o p) e=tailA o p e
 |[],_,p,_=>(wK H.hv p).symm
 |a::e,he,p,hp=>by
  have he:=he.resolve_right (by simp);have ha:=(H.sufs he).head;have han:a.toNat<t.I.toNat:=by omega
  have a2:a=((a.toNat:Nat):Int):=by omega
  obtain⟨n1,n2⟩:=H.nx_ot hp han;rw[<- a2]at n1 n2;obtain⟨q,hq,q1,q2⟩:=H.rep hp han;rw[<- a2]at q1 q2;have a3:=vV (H.row hp) _ he;rw[tailA_cons H.hv a3 n2];show ot (hypT t o).M (stt t o p) a.toNat::Sym.outs (hypT t o).M (nx (hypT t o).M (stt t o p) a.toNat) e=_;rw[n1,<- q2,H.along hc e (hc _ he) q hq];congr 1;rcases hc _ he with h|h
  ·have hx:=H.ext hp han;rw[<- a2]at hx;exact same_tail (t:=t) (by rw[H.row hq,q1]) hx h
  ·have h:e=[]:=h;subst h;rw[wK H.hv,wK H.hv]
def H5.walk(H:H5 t o):∀(k:Nat) (p:A2),p.length=k->p∈t.P->ansO o p=some (Sym.outs (hypT t o).M 0 p)/\dest (hypT t o).M 0 p=stt t o p:=by
 intro k
 induction k with
 |zero =>
  intro p hl _;have e:=S7 hl;subst e;exact⟨rfl,H.start.symm⟩
 |succ k ih =>
  intro p hl hp;have a6:=(Z7 H.hz).1;have a2:=sZ a6 _ p hp k rfl (by omega);have hx:=get_at (l:=p) (i:=k) (by omega);obtain⟨x0,x1⟩:=H.sym hp hx
  have a3:p=p.take k++[p[k]'(by omega)]:=by
   rw[<- Q2 hx,<- hl,T0]
  have a7:(p[k]'(by omega)).toNat<t.I.toNat:=by omega
  have a5:(p[k]'(by omega))=(((p[k]'(by omega)).toNat:Nat):Int):=by omega
  obtain⟨i1,i2⟩:=ih (p.take k) (by rw[H6];omega) a2;obtain⟨n1,n2⟩:=H.nx_ot a2 a7;rw[<- a5,<- a3]at n1;rw[<- a5]at n2;have a4:=H0 (H.sing a7);rw[<- a5]at a4;have hs:=ans_split H.hv i1 (vV (H.row a2) _ a4);rw[n2,<- a3]at hs;constructor
  ·rw[hs]
   conv=>rhs;rw[a3,gR,i2]
   rfl
  ·conv=>lhs;rw[a3,fM,i2]
   show nx (hypT t o).M (stt t o (p.take k)) _=_;rw[n1]
def H5.minimal(H:H5 t o)(hc:∀e∈t.X,e.drop 1∈t.X\/e.drop 1=[]):nM (hypT t o).M=some true:=by
 have hI:(hypT t o).M.I=t.I:=rfl;refine zyo H.valid6 (λs hs=>?_) λs u hs hu hE=>?_
 ·rw[H.nlen.1]at hs;obtain⟨q,hq,q1,_⟩:=H.state hs
  exact⟨q,W5 ((Z5 (Z7 H.hz).1).1 q hq),by
   show dest (hypT t o).M 0 q=s
   rw[(H.walk _ q rfl hq).2,q1]⟩
 ·rw[H.nlen.1]at hs hu;obtain⟨p,hp,p1,_⟩:=H.state hs;obtain⟨q,hq,q1,_⟩:=H.state hu;subst p1;subst q1
  have a2:rowG t o p=rowG t o q:=by
   have l1:=(dH H.hv (H.row hp)).1;have l2:=(dH H.hv (H.row hq)).1;apply cT;intro i;rcases J0 i t.X.length with hi|hi
   ·have hg:=get_at hi;have he:=J3 hi;rw[mK (H.row hp) hg,mK (H.row hq) hg,<- H.along hc _ (Or.inl he) p hp,<- H.along hc _ (Or.inl he) q hq];rw[E_outs (E_all H.mac (H.lt hp) (H.lt hq) hE _) (H.sufs he)]
   ·rw[W8 (by omega),W8 (by omega)]
  unfold stt;rw[a2]
def pO(a b:A2):[a,b].flatten=a++b:=by simp
end
end

section
def stepT(t:C6)(o:A7):C6×A4×Bool×Int :=
 if chkT t o≠0 then(t,[],false,chkT t o)
 else if L6 o t t.P≠[] then(t,maxR (L6 o t t.P),false,0)
 else match (extL t).find? (newRow t o) with
  |some w=>((gJ t w).1,[],false,(gJ t w).2)
  |none=>match iP t o with
   |some x=>((gK t (toW t x)).1,[],false,(gK t (toW t x)).2)
   |none=>(t,[],true,0)
section
variable {t:C6}{o:A7}
def compT_of(h1:chkT t o=0)(h2:L6 o t t.P=[]):V8 t o=0:=by
 unfold V8;rw[if_neg (by simpa using h1),if_pos h2]
def toW_len(ht:N7 t)(x:Int×Int×Bool):(toW t x).length<=81:=by
 unfold toW;cases h2:t.X[x.2.1.toNat]? with
 |none=>simp
 |some e =>
  have:=ht.sw e (H0 h2);simp;omega
def pos_len{l:A4}(h:l≠[]):(0:Int)<(l.length:Int):=by
 have:=rA.2 h;omega
structure Kept(t u:C6):Prop where
 p:∀x∈t.P,x∈u.P
 s:∀x∈t.X,x∈u.X
 i:t.I=u.I
def maxR_need_sml(hT:N7 t):SmL (maxR (L6 o t t.P)):=by
 refine⟨?_,λx hx=>?_⟩
 ·have h4:=FY (L6 o t t.P)
  have hb:∀P:A4,(L6 o t P).length<=3000*P.length:=by
   intro P
   induction P with
   |nil=>simp[L6]
   |cons p P ih =>
    unfold L6 at ih ⊢;rw[P0,D4,E9]
    have hw:((T1 t.I.toNat p).flatMap λw=>L9 o w t.X).length<=600*(T1 t.I.toNat p).length:=by
     generalize T1 t.I.toNat p=X
     induction X with
     |nil=>simp
     |cons w X ih2 =>
      have:=pK o w t.X;have:=hT.s;rw[P0,D4,E9];omega
    have a3:(T1 t.I.toNat p).length=t.I.toNat+1:=by simp[T1]
    have:=hT.n;rw[a3]at hw;omega
  have:=hb t.P;have:=hT.p;omega
 ·have hx:=vT hx;unfold L6 at hx;obtain⟨p,a2,h2⟩:=O0.1 hx;obtain⟨u,hu,h3⟩:=O0.1 h2;obtain⟨⟨e,he,rfl⟩,_⟩:=eD.1 h3;have h4:=hT.pw p a2;have h5:=hT.sw e he
  have h6:u.length<=401:=by
   unfold T1 at hu;rcases H8.1 hu with rfl|hu
   ·omega
   ·obtain⟨a,_,rfl⟩:=D7.1 hu;simp;omega
  unfold SmW;rw[D4];omega
structure StepSm(r:C6×A4×Bool×Int):Prop where
 p:SmL r.1.P
 s:SmL r.1.X
 w:SmL r.2.1
structure StepOk(t:C6)(o:A7)(r:C6×A4×Bool×Int):Prop where
 p:SmL r.1.P
 s:SmL r.1.X
 w:SmL r.2.1
 k:Kept t r.1
 n:t.P.length+t.X.length<=r.1.P.length+r.1.X.length
 d:r.2.2.1=true->r.2.2.2=0/\(hypR t o).2=0
end
end
section
def trow(m:A9)(S:A4)(w:A2):Row:=S.map λe=>outs m (dest m m.S.toNat w) e
def KnS(o:A7)(S:A4)(w:A2):Prop:=∀e∈S,Kn o (w++e)
section
variable {m:A9}{o:A7}{S:A4}{w:A2}
def qN(hE:Expl m o){e:A2}(h:Kn o (w++e)):tailA o w e=outs m (dest m m.S.toNat w) e:=by
 unfold tailA;rw[(kM hE).1 h,N1,gR,vK (by rw[bU];exact G4 _),iL (by rw[bU];exact G4 _),aJ]
def lR(hE:Expl m o):∀(S:A4),(KnS o S w->rowO o w S=some (trow m S w))/\(∀R,rowO o w S=some R->KnS o S w)
 |[]=>⟨λ_=>rfl,λR _ e he=>by cases he⟩
 |e::S=>by
  obtain⟨h1,h2⟩:=lR hE S;constructor
  ·intro h;have hk:=h e (by simp);unfold rowO;rw[(kM hE).1 hk,h1 λx hx=>h x (by simp[hx])];simp only[K0,trow,J7];congr 2;rw[gR,vK (by rw[bU];exact G4 _),iL (by rw[bU];exact G4 _),aJ]
  ·intro R hR x hx;unfold rowO at hR;by_cases hk:Kn o (w++e)
   ·rw[(kM hE).1 hk]at hR;simp only at hR;cases hr:rowO o w S with
    |none=>rw[hr]at hR;cases hR
    |some R' =>
     rcases H8.1 hx with g|g
     ·rw[g];exact hk
     ·exact h2 R' hr x g
   ·rw[(kM hE).2 hk]at hR;cases hR
def rowO_is(hE:Expl m o){R:Row}(h:rowO o w S=some R):R=trow m S w:=by
 have:=(lR hE S).1 ((lR hE S).2 R h);rw[this]at h;injection h with h
 exact h.symm
def mM(hE:Expl m o)(h:L9 o w S=[]):KnS o S w:=λe he=>S1 λg=>by
 have h1:=(kM hE).2 g;have:w++e∈L9 o w S:=eD.2 ⟨⟨e,he,rfl⟩,h1⟩;rw[h]at this;cases this
def kn_miss(hE:Expl m o)(h:KnS o S w):L9 o w S=[]:=by
 unfold L9;refine List.filter_eq_nil_iff.2 λv hv hn=>?_;obtain⟨e,he,rfl⟩:=D7.1 hv;rw[(kM hE).1 (h e he)]at hn;cases hn
def mI(m:A9)(S P:A4):Prop:=∃p∈P,∃q∈P,trow m S p=trow m S q/\∃a:Nat,(a:Int)<m.I/\trow m S (p++[(a:Int)])≠trow m S (q++[(a:Int)])
def mI.mono{P Q:A4}(h:mI m S P)(hs:∀x∈P,x∈Q):mI m S Q:=by
 obtain⟨p,hp,q,hq,h1,h2⟩:=h;exact⟨p,hs p hp,q,hs q hq,h1,h2⟩
def mJ{p q:A2}(h:trow m S p=trow m S q){e:A2}(he:e∈S):outs m (dest m m.S.toNat p) e=outs m (dest m m.S.toNat q) e:=by
 unfold trow at h;exact List.map_inj_left.1 h e he
def kR(w:A2)(a:Int):dest m m.S.toNat (w++[a])=nx m (dest m m.S.toNat w) a.toNat:=by
 rw[fM];rfl
def eC(s:Nat)(a:Int)(w:A2):outs m s (a::w)=ot m s a.toNat::outs m (nx m s a.toNat) w:=rfl
end
def mZ{V:Type}[DecidableEq V]:∀{l k:List V},l.Nodup->(∀x∈l,x∈k)->l.length<=k.length
 |[],_,_,_=>F7 _
 |x::l,k,h,hs=>by
  have hx:=hs x (by simp);have hn:=aQ.1 h;have:=mZ (l:=l) (k:=k.erase x) hn.2 λy hy=>(List.mem_erase_of_ne (λe=>hn.1 (by rw[<- e];exact hy))).2 (hs y (by simp[hy]));rw[KC hx]at this;have hp:0<k.length:=DN hx;simp only[E9];omega
def AQ{V:Type}{P Q:V->Bool}:∀{l:List V},(∀x∈l,P x=true->Q x=true)->(l.filter P).length<=(l.filter Q).length/\((∃x∈l,Q x=true/\P x=false)->(l.filter P).length+1<=(l.filter Q).length)
 |[],_=>⟨G4 _,λ⟨x,hx,_⟩=>by cases hx⟩
 |y::l,h=>by
  obtain⟨h1,h2⟩:=AQ (l:=l) λx hx=>h x (by simp[hx]);have hy:=h y (by simp);constructor
  ·rw[rE,rE];cases hP:P y with
   |true =>
    rw[hy hP];simp only[if_true,E9];omega
   |false =>
    rw[if_neg aA];split
    ·simp only[E9];omega
    ·exact h1
  ·rintro⟨x,hx,hq,hp⟩;rw[rE,rE];rcases H8.1 hx with e|e
   ·subst e;rw[hp,hq];simp only[if_true,E9,if_neg aA];omega
   ·have h3:=h2 ⟨x,e,hq,hp⟩;cases hP:P y with
    |true =>
     rw[hy hP];simp only[if_true,E9];omega
    |false =>
     rw[if_neg aA];split
     ·simp only[E9];omega
     ·exact h3
def bF(n:Nat)(S P:A4):A4:=P.flatMap λp=>(T1 n p).flatMap λw=>S.map λe=>w++e
def dM{n:Nat}{S P:A4}{v:A2}:v∈bF n S P↔∃p∈P,∃w∈T1 n p,∃e∈S,w++e=v:=by
 unfold bF;simp only[O0,D7]
def yY{o:A7}{t:C6}{P:A4}{v:A2}:v∈L6 o t P↔v∈bF t.I.toNat t.X P/\ansO o v=none:=by
 unfold L6;rw[dM];constructor
 ·intro h;obtain⟨p,hp,h⟩:=O0.1 h;obtain⟨w,hw,h⟩:=O0.1 h;obtain⟨⟨e,he,h1⟩,h2⟩:=eD.1 h;exact⟨⟨p,hp,w,hw,e,he,h1.symm⟩,h2⟩
 ·rintro⟨⟨p,hp,w,hw,e,he,h1⟩,h2⟩;exact O0.2 ⟨p,hp,O0.2 ⟨w,hw,eD.2 ⟨⟨e,he,h1.symm⟩,h2⟩⟩⟩
def maxR_up{l:A4}(L:Nat)(hL:∀x∈l,x.length<=L):∀(k:Nat) (v:A2),v∈l->L-v.length<=k->∃y∈maxR l,v <+: y
 |k,v,hv,hk=>by
  by_cases h:∀y∈l,y=v\/¬v <+: y
  ·exact⟨v,(AZ l v).2 ⟨hv,h⟩,eQ _⟩
  ·have:∃y∈l,y≠v/\v <+: y:=S1 λhn=>h λy hy=>S1 λhn2=>hn ⟨y,hy,λe=>hn2 (.inl e),S1 λe=>hn2 (.inr e)⟩;obtain⟨y,hy,hne,hp⟩:=this
   have hlt:v.length<y.length:=by
    rcases J0 v.length y.length with g|g
    ·exact g
    ·have:=hp.length_le;exact absurd (hp.eq_of_length (by omega)).symm hne
   have:=hL y hy;cases k with
   |zero=>omega
   |succ k =>
    obtain⟨z,hz,a2⟩:=maxR_up L hL k y hy (by omega);exact⟨z,hz,hp.trans a2⟩
def jH{w:A2}{n:Int}(hn:1<=n/\n<=1024)(hw:WOk n w)(hl:w.length<=1024):I2 w n=0:=by
 unfold I2;rw[if_pos hn,if_neg (by omega),if_pos (P8.2 λx hx=>E6 (hw x hx))]
end
section
def addR_nodup{R:List Row}(h:R.Nodup)(r:Row):(addR R r).Nodup:=by
 unfold addR;split
 ·exact h
 ·rename_i g;rw[Y7];exact⟨h,by simp,λa ha b hb e=>g (by rw[K4.1 hb]at e;rw[<- e];exact ha)⟩
def BG:∀(rs R:List Row),R.Nodup->(G8 R rs).Nodup
 |[],_,h=>h
 |r::rs,R,h=>BG rs (addR R r) (addR_nodup h r)
def mem_all{rs:List Row}{x:Row}:x∈G8 [] rs↔x∈rs:=by rw[cP];simp
def kN(m:A9)(S P:A4):Nat:=(G8 [] (P.map (trow m S))).length
def map_reps{V G:Type}{f:V->G}{P:List V}:∀(L:List G),(∀r∈L,r∈P.map f)->∃Q:List V,(∀q∈Q,q∈P)/\Q.map f=L
 |[],_=>⟨[],λ_ h=>(by cases h),rfl⟩
 |r::L,h=>by
  obtain⟨Q,h1,h2⟩:=map_reps L λx hx=>h x (K7 _ hx);obtain⟨p,hp,e⟩:=D7.1 (h r aR);refine⟨p::Q,λq hq=>?_,by rw[J7,e,h2]⟩;rcases H8.1 hq with rfl|hq
  ·exact hp
  ·exact h1 q hq
section
variable {m:A9}{S S' P P':A4}
def kN_reps(m:A9)(S P:A4):∃Q:A4,(∀q∈Q,q∈P)/\(Q.map (trow m S)).Nodup/\Q.length=kN m S P/\∀p∈P,∃q∈Q,trow m S q=trow m S p:=by
 obtain⟨Q,h1,h2⟩:=map_reps (f:=trow m S) (P:=P) (G8 [] (P.map (trow m S))) λr hr=>mem_all.1 hr;refine⟨Q,h1,by rw[h2];exact BG _ _ fU,by unfold kN;rw[<- h2,B6],λp hp=>?_⟩;have:trow m S p∈Q.map (trow m S):=by rw[h2];exact mem_all.2 (D7.2 ⟨p,hp,rfl⟩)
 obtain⟨q,hq,e⟩:=D7.1 this;exact⟨q,hq,e⟩
def kN_ge{Q:A4}(h1:(Q.map (trow m S)).Nodup)(h2:∀q∈Q,q∈P):Q.length<=kN m S P:=by
 have:=mZ (k:=G8 [] (P.map (trow m S))) h1 λx hx=>by
  obtain⟨q,hq,rfl⟩:=D7.1 hx;exact mem_all.2 (D7.2 ⟨q,h2 q hq,rfl⟩)
 rw[B6]at this;exact this
def kN_le(H:J6 m)(hP:∀p∈P,WOk m.I p):kN m S P<=m.N.length:=by
 have a2:=H.st
 have:=mZ (l:=G8 [] (P.map (trow m S))) (k:=(List.range m.N.length).map λs=>S.map λe=>outs m s e) (BG _ _ fU) λx hx=>by
  obtain⟨p,hp,rfl⟩:=D7.1 (mem_all.1 hx);exact D7.2 ⟨dest m m.S.toNat p,M1.2 (H.dest (hP p hp) (by omega)),rfl⟩
 rw[B6,Y6]at this;exact this
def trow_sub{p q:A2}(hs:∀e∈S,e∈S')(h:trow m S' p=trow m S' q):trow m S p=trow m S q:=mD λe he=>mJ h (hs e he)
def FN{Q:A4}(hs:∀e∈S,e∈S')(h:(Q.map (trow m S)).Nodup):(Q.map (trow m S')).Nodup:=by
 rw[List.nodup_iff_pairwise_ne,rG]at h ⊢;exact h.imp λ{a b} hne e=>hne (trow_sub hs e)
def kN_mono(hP:∀p∈P,p∈P')(hs:∀e∈S,e∈S'):kN m S P<=kN m S' P':=by
 obtain⟨Q,h1,h2,h3,_⟩:=kN_reps m S P;rw[<- h3];exact kN_ge (FN hs h2) λq hq=>hP q (h1 q hq)
def kN_new{w:A2}(hP:∀p∈P,p∈P')(hw:w∈P')(hn:∀p∈P,trow m S p≠trow m S w):kN m S P+1<=kN m S P':=by
 obtain⟨Q,h1,h2,h3,_⟩:=kN_reps m S P
 have:=kN_ge (m:=m) (S:=S) (P:=P') (Q:=w::Q) (by
  rw[J7,aQ]
  exact⟨λh=>by
   obtain⟨q,hq,e⟩:=D7.1 h
   exact hn q (h1 q hq) e,h2⟩) λq hq=>by
  rcases H8.1 hq with rfl|hq
  ·exact hw
  ·exact hP q (h1 q hq)
 rw[E9,h3]at this;exact this
def kN_split{p q:A2}(hp:p∈P)(hq:q∈P)(hs:∀e∈S,e∈S')(he:trow m S p=trow m S q)(hn:trow m S' p≠trow m S' q):kN m S P+1<=kN m S' P:=by
 obtain⟨Q,h1,h2,h3,h4⟩:=kN_reps m S P;obtain⟨r,hr,er⟩:=h4 p hp
 have key:∀x∈P,trow m S x=trow m S r->trow m S' x≠trow m S' r->kN m S P+1<=kN m S' P:=λx hx ex nx=>by
  have:=kN_ge (m:=m) (S:=S') (P:=P) (Q:=x::Q) (by
   rw[J7,aQ]
   refine⟨λh=>?_,FN hs h2⟩
   obtain⟨y,hy,e⟩:=D7.1 h
   have e2:=trow_sub hs e
   obtain⟨i,hi,rfl⟩:=vF hy
   obtain⟨j,hj,rfl⟩:=vF hr
   have a2:i=j:=by
    have:=(List.getElem_inj (h₀:=by rw[B6];exact hi) (h₁:=by rw[B6];exact hj) h2).1 (by rw[DC,DC,e2,ex])
    exact this
   subst a2
   exact nx e.symm) λy hy=>by
   rcases H8.1 hy with rfl|hy
   ·exact hx
   ·exact h1 y hy
  rw[E9,h3]at this;exact this
 by_cases g:trow m S' p=trow m S' r
 ·exact key q hq (he.symm.trans er.symm) λh=>hn (g.trans h.symm)
 ·exact key p hp er.symm g
def rows_old(hP:∀p∈P,p∈P')(hk:kN m S P'<=kN m S P){w:A2}(hw:w∈P'):∃p∈P,trow m S p=trow m S w:=S1 λg=>by
 have:=kN_new (m:=m) (S:=S) hP hw λp hp e=>g ⟨p,hp,e⟩;omega
end
section
variable {m:A9}{t:C6}{o:A7}
def H5.true_(H:H5 t o)(T:Q9 m o){w:A2}(h:∃r,rowO o w t.X=some r):rowG t o w=trow m t.X w:=by
 obtain⟨r,hr⟩:=h;have:=rowO_is T.ex hr;rw[<- this];exact dK hr
def H5.row_t(H:H5 t o)(T:Q9 m o){p:A2}(hp:p∈t.P):rowG t o p=trow m t.X p:=H.true_ T ⟨_,H.row hp⟩
def H5.ext_t(H:H5 t o)(T:Q9 m o){p:A2}(hp:p∈t.P){a:Nat}(ha:a<t.I.toNat):rowG t o (p++[(a:Int)])=trow m t.X (p++[(a:Int)]):=H.true_ T ⟨_,H.ext hp ha⟩
def H5.stt_row(H:H5 t o)(T:Q9 m o){p:A2}(hp:p∈t.P):stt t o p=pos (trow m t.X p) (M2 t o):=by unfold stt;rw[H.row_t T hp]
def H5.ot_t(H:H5 t o)(T:Q9 m o){p:A2}(hp:p∈t.P){a:Nat}(ha:a<t.I.toNat):ot (hypT t o).M (stt t o p) a=ot m (dest m m.S.toNat p) a:=by
 have h1:=(H.nx_ot hp ha).2;have hs:[(a:Int)]∈t.X:=H0 (H.sing ha);have hk:Kn o (p++[(a:Int)]):=(lR T.ex t.X).2 _ (H.row hp) _ hs;rw[qN T.ex hk]at h1
 have h2:Sym.outs m (dest m m.S.toNat p) [(a:Int)]=[ot m (dest m m.S.toNat p) a]:=by
  show [ot m (dest m m.S.toNat p) (Int.toNat (a:Int))]=_;rw[O3]
 rw[h2]at h1;injection h1 with h1
 exact h1.symm
def H5.nx_t(H:H5 t o)(T:Q9 m o){p:A2}(hp:p∈t.P){a:Nat}(ha:a<t.I.toNat):nx (hypT t o).M (stt t o p) a=pos (trow m t.X (p++[(a:Int)])) (M2 t o):=by
 rw[(H.nx_ot hp ha).1];unfold stt;rw[H.ext_t T hp ha]
def ctx_pre(H:H5 t o)(T:Q9 m o)(hi:t.I=m.I){P':A4}(hP:∀p∈t.P,p∈P')(hk:kN m t.X P'<=kN m t.X t.P)
  (hc:∀p∈P',∀q∈P',trow m t.X p=trow m t.X q->∀a:Nat,a<m.I.toNat->trow m t.X (p++[(a:Int)])=trow m t.X (q++[(a:Int)])) :
  ∀(n:Nat) {w:A2},w.length=n->WOk m.I w->(∀k,w.take k∈P')->outs (hypT t o).M 0 w=outs m m.S.toNat w/\dest (hypT t o).M 0 w=pos (trow m t.X w) (M2 t o)
 |0,w,hn,_,_=>by
  have e:w=[]:=JZ.1 hn;subst e;have h0:[]∈t.P:=H0 H.nil;refine⟨rfl,?_⟩;show 0=_;rw[<- H.stt_row T h0];exact H.start.symm
 |n+1,w,hn,hw,hp=>by
  obtain⟨v,x,rfl⟩:∃v x,w=v++[x]:=by
   rcases uZ w with h|⟨v,x,h⟩
   ·rw[h]at hn;cases hn
   ·exact⟨v,x,by rw[h,yM]⟩
  have a4:v.length=n:=by rw[D4,P3]at hn;omega
  have hx:=hw x (by simp);obtain⟨a,rfl⟩:=oI hx.1;have ha:a<m.I.toNat:=by omega
  have a5:WOk m.I v:=λy hy=>hw y (L5 _ hy)
  have a3:∀k,v.take k∈P':=λk=>by
   rcases J0 v.length k with g|g
   ·have:=hp v.length;rw[List.take_left' rfl]at this;rw[aP (by omega)];exact this
   ·have:=hp k;rw[gC g]at this;exact this
  obtain⟨i1,i2⟩:=ctx_pre H T hi hP hk hc n a4 a5 a3;have a2:v∈P':=by have:=a3 v.length;rwa [T0]at this
  obtain⟨q,hq,eq⟩:=rows_old hP hk a2;have hd:dest (hypT t o).M 0 v=stt t o q:=by rw[i2,H.stt_row T hq,eq]
  have hs:[(a:Int)]∈t.X:=H0 (H.sing (by rw[hi];exact ha));have ho:=mJ eq hs
  have a6:ot m (dest m m.S.toNat q) a=ot m (dest m m.S.toNat v) a:=by
   have:[ot m (dest m m.S.toNat q) (Int.toNat (a:Int))]=[ot m (dest m m.S.toNat v) (Int.toNat (a:Int))]:=ho;injection this
  have h1:=H.ot_t T hq (a:=a) (by rw[hi];exact ha);have h2:=H.nx_t T hq (a:=a) (by rw[hi];exact ha);have h3:=hc q (hP q hq) v a2 eq a ha;constructor
  ·rw[gR,gR,i1,hd];show _++[ot (hypT t o).M (stt t o q) (Int.toNat (a:Int))]=_++[ot m _ (Int.toNat (a:Int))];rw[O3,h1,a6]
  ·rw[fM,hd];show nx (hypT t o).M (stt t o q) (Int.toNat (a:Int))=_;rw[O3,h2,h3]
end
end
section
section
variable {m:A9}{mode:Int}{t u v:C6}{o p:A7}{W:A4}{h:I6}{w:A2}{n:Nat}
end
end
section
def Ghost(m:A9)(t:C6):Prop:=∃t0 o0 w,H5 t0 o0/\Q9 m o0/\t0.I=m.I/\WOk m.I w/\Sym.outs (hypT t0 o0).M 0 w≠Sym.outs m m.S.toNat w /\
 ((t.X=t0.X/\(∀p∈t0.P,p∈t.P)/\(∀k,w.take k∈t.P)/\kN m t.X t.P<=kN m t.X t0.P) \/
 (t.P=t0.P/\(∀e∈t0.X,e∈t.X)/\∀k,w.drop k∈t.X\/w.drop k=[]))
abbrev kT(m:A9)(t:C6):Nat:=kN m t.X t.P
structure RunI(m:A9)(t:C6)(o:A7)(c x:Nat)(g:Bool):Prop where
 told:Q9 m o
 val:P5 t=0
 inp:t.I=m.I
 suf:∀e∈t.X,e.drop 1∈t.X\/e.drop 1=[]
 pl:t.P.length<=1+x+25*c
 sl:t.X.length<=4+x+25*c
 pw:∀p∈t.P,p.length<=25+x
 sw:∀e∈t.X,e.length<=25+x
 k1:1+x<=kT m t
 k2:c+(if g=true then 0 else 1)<=kT m t
 gh:g=true->Ghost m t
section
variable {m:A9}{t:C6}{o:A7}{c x:Nat}{g:Bool}
def mY(T:Q9 m o)(hA:kC t o){p w:A2}(hp:p∈t.P)(hw:w∈T1 t.I.toNat p):rowO o w t.X=some (trow m t.X w):=by
 obtain⟨r,hr⟩:=hA p hp w hw;rw[hr,rowO_is T.ex hr]
def qH(n:Nat)(p:A2):p∈T1 n p:=by unfold T1;simp
def mV{n a:Nat}(ha:a<n)(p:A2):p++[(a:Int)]∈T1 n p:=K7 _ (D7.2 ⟨a,M1.2 ha,rfl⟩)
def rowsA_kN(T:Q9 m o)(hA:kC t o):(M2 t o).length=kT m t:=by
 unfold M2 Q0 kT kN;congr 2;refine mD λp hp=>?_;exact dK (mY T hA hp (qH _ p))
end
end
section
section
variable {m:A9}{t:C6}{o:A7}{c x:Nat}{g:Bool}
def Q9.smR(T:Q9 m o):SmO o:=by
 refine⟨by have:=T.ok.num;omega,λt ht=>?_⟩;have h1:=tD (T.ok.prop t ht).1.1;have h2:=(T.tr.2 t ht).2;unfold SmW at h2;exact⟨by omega,h2⟩
def iT(T:Q9 m o){v:A2}:ansO o v=none↔¬Kn o v :=
 ⟨λh hk=>(by rw[(kM T.ex).1 hk]at h;cases h),λh=>(kM T.ex).2 h⟩
def mu(m:A9)(t:C6)(o:A7)(g:Bool):Nat:=10*(12-kT m t)+(if g=true then 0 else 2)+(if L6 o t t.P=[] then 0 else 1)
structure ResR(r:I6×A7×Int×Int):Prop where
 h1:SmL r.1.M.N
 h2:SmL r.1.M.O
 h3:SmL r.1.Access
 h4:SmTr r.2.1.T
def pH{S R:Type}{step:S->Option (S⊕R)}{s:S}{r:R}{n:Nat}(h:step s=some (.inr r)):iter step (n+1) s=some r:=by unfold iter;rw[h]
def pJ{S R:Type}{step:S->Option (S⊕R)}{s s':S}{n:Nat}(h:step s=some (.inl s')):iter step (n+1) s=iter step n s':=by
 show(match step s with|none=>none|some (.inl s')=>iter step n s'|some (.inr r)=>some r)=_
 rw[h]
end
end
section
section
variable {m:A9}
def new_valid(H:J6 m)(hi:m.I<=4):P5 ⟨m.I,[[]],W4 m.I.toNat⟩=0:=by
 have a2:=H.i1;have a4:=xV m.I.toNat;have a3:I2 [] m.I=0:=jH ⟨a2,by omega⟩ (λy hy=>by cases hy) (by simp)
 have hs:∀w∈W4 m.I.toNat,∃a:Nat,a<m.I.toNat/\w=[(a:Int)]:=λw hw=>by
  unfold W4 at hw;obtain⟨a,ha,rfl⟩:=D7.1 hw;exact⟨a,M1.1 ha,rfl⟩
 refine xK a2 hi (by simp) (by simp) (by simp only;omega) (by simp only[P3];omega) (KA _ _) ?_ (λw hw=>?_) (λw hw=>?_) (λw hw h0=>?_) (by simp) (λa ha=>D7.2 ⟨a,ha,rfl⟩)
 ·unfold W4;refine rG.2 (List.Pairwise.imp (λ{a b} h=>?_) List.pairwise_lt_range);unfold cmpW;simp only[P3,Nat.lt_irrefl,if_false];unfold lexI;rw[if_pos (by omega)]
 ·rw[K4.1 hw];exact⟨a3,by simp⟩
 ·obtain⟨a,ha,rfl⟩:=hs w hw;exact⟨jH ⟨a2,by show m.I<=1024;omega⟩ (λy hy=>by rw[K4.1 hy];show 0<=(a:Int)/\(a:Int)<m.I;omega) (by simp),by simp,by simp⟩
 ·rw[K4.1 hw]at h0;cases h0
def run_start(H:J6 m)(hi:m.I<=4):RunI m ⟨m.I,[[]],W4 m.I.toNat⟩ ⟨m.I,[]⟩ 0 0 false:=by
 have hk:1<=kT m ⟨m.I,[[]],W4 m.I.toNat⟩:=kN_ge (m:=m) (S:=W4 m.I.toNat) (P:=[[]]) (Q:=[[]]) (by simp) (λq hq=>hq);refine⟨none_told ⟨H.i1,H.i2⟩,new_valid H hi,rfl,λe he=>?_,by simp,by simp only[xV];omega,λp hp=>?_,λe he=>?_,hk,by rw[if_neg aA];exact hk,λh=>by cases h⟩
 ·unfold W4 at he;obtain⟨a,_,rfl⟩:=D7.1 he;exact .inr rfl
 ·rw[K4.1 hp];simp
 ·unfold W4 at he;obtain⟨a,_,rfl⟩:=D7.1 he;simp
end
end
section
def pY{n:Nat}(h:n<=3000000):E0 n 24:=by unfold E0;omega
def wsearch_eq{l:A4}{w:A2}(hs:Asc l)(hl:SmL l):iD l w (λu0 u1=>bY u0 u1)=some ((↑(R7 l w):Int),decide (w∈l)):=by
 have hc:∀x∈l,bY x w=some (cmpW x w):=λx hx=>uF _ _ (by have:=hl.2 x hx;unfold SmW at this;omega);have a5:=hl.1
 have key:=bA (step:=λ(s:Int×Int)=>iD.s2 l w (λu0 u1=>bY u0 u1) s.1 s.2)
  (λs=>∃i j:Nat,s.1=(i:Int)/\s.2=(j:Int)/\i<=j/\j<=l.length/\(∀k t,k<i->l[k]?=some t->cmpW t w=-1)/\∀k t,j<=k->l[k]?=some t->cmpW t w≠-1) (λs=>(s.2-s.1).toNat)
  (λr=>∃k:Nat,r=(k:Int)/\k<=l.length/\(∀j t,j<k->l[j]?=some t->cmpW t w=-1)/\∀t,l[k]?=some t->cmpW t w≠-1) (λs ⟨i,j,g1,g2,g3,g4,g5,g6⟩=>by
   obtain⟨si,sj⟩:=s
   simp only at g1 g2
   subst g1 g2
   simp only[iD.s2]
   by_cases g7:i<j
   ·left
    have a3:((i:Int)+↑j) / 2^1=((i+j) / 2:Nat):=by omega
    have hx:=get_at (l:=l) (i:=(i+j) / 2) (by omega)
    rw[E2,L0,H7 (by omega),H7 (by omega),L0,E8 a3 hx,hc _ (J3 _),A6]
    have r:=nD (l[(i+j) / 2]'(by omega)) w
    by_cases g8:cmpW (l[(i+j) / 2]'(by omega)) w<0
    ·refine⟨(((i+j) / 2+1:Nat),(j:Int)),?_,⟨(i+j) / 2+1,j,rfl,rfl,by omega,g4,λk t hk ht=>?_,g6⟩,by simp only;omega⟩
     ·rw[E2 g8,L0,a3]
      simp
     ·rcases J0 k ((i+j) / 2) with h|h
      ·exact kQ _ _ _ (hs.get h ht hx) (by omega)
      ·have e:k=(i+j) / 2:=by omega
       subst e
       rw[hx]at ht
       injection ht with ht
       subst ht
       omega
    ·refine⟨((i:Int),(((i+j) / 2:Nat):Int)),?_,⟨i,(i+j) / 2,rfl,rfl,by omega,by omega,g5,λk t hk ht=>?_⟩,by simp only;omega⟩
     ·rw[B4 g8,a3]
     ·intro h9
      rcases J0 ((i+j) / 2) k with h|h
      ·have:=kQ _ _ _ (hs.get h hx ht) h9
       omega
      ·have e:k=(i+j) / 2:=by omega
       subst e
       rw[hx]at ht
       injection ht with ht
       subst ht
       omega
   ·right
    have e:i=j:=by omega
    subst e
    refine⟨(i:Int),by rw[B4],i,rfl,g4,g5,λt ht=>g6 i t (G4 _) ht⟩) fuel (0,(l.length:Int)) ⟨0,l.length,rfl,rfl,F7 _,G4 _,λk t h=>by omega,λk t h ht=>by
    have:=(E4.1 ht).1
    omega⟩ (by have:=U7;simp only;omega)
 obtain⟨r,e,k,hk,h1,h2,h3⟩:=key;subst hk;have a4:=placeL_of h1 (λi x hi hx=>h2 i x hi hx) h3;have a2:=hs.mem_place w;rw[a4]at a2 ⊢;unfold iD;rw[e,A6];by_cases h4:k<l.length
 ·have hx:=get_at h4;rw[E2,E8 rfl hx,show(λ(u0:A2) (u1:A2)=>bY u0 u1) l[k] w=some (cmpW l[k] w) from hc _ (J3 _),A6,A6];rw[hx]at a2;by_cases h5:w∈l
  ·have:=a2.1 h5;injection this with this
   rw[E6 h5,this,E6 (dJ w)]
  ·rw[I3 h5,I3 λh6=>h5 (a2.2 (by rw[(pM _ _).1 h6]))]
 ·have h5:¬w∈l:=λh=>by
   have:=a2.1 h;exact h4 (E4.1 this).1
  rw[B4,A6,I3 h5]
def BH{l:A4}{w:A2}(hs:Asc l)(hl:SmL l)(hw:SmW w):mU l w=some (insW l w):=by
 have a2:=hl.1;have hp:=placeL_le l w;unfold mU;rw[wsearch_eq hs hl,A6];unfold insW;by_cases h:w∈l
 ·rw[if_pos h,E2 h]
 ·rw[if_neg h,B4 h,H7 (by omega),gW hw,A6];simp only[O3];rw[H7 (pY (by rw[H6];omega)),H7 (by omega),H7 (pY (by simp only[D4,H6,M0,E9,L2];omega)),Z9];rfl
def zy1(l:A4)(w:A2)(hl:SmL l):tJ l w=some (decide (w∈l)):=by
 unfold tJ yD jR
 have key:=V4 (step:=λs=>jR.s2 l (λu0=>qP u0 w) s) (l:=l) (λi x=>if x=w then some (i:Int) else none) (λi x hx=>by
  simp only[jR.s2,qP]
  rw[K8 hx,G5,C8 hx,nX _ _ (by have:=hl.2 x (H0 hx);unfold SmW at this;omega),A6,A6]
  by_cases h:x=w
  ·rw[E2 h,if_pos h]
  ·rw[B4 h,if_neg h]) (by
  simp only[jR.s2]
  rw[T7]
  rfl) (by have:=hl.1;omega)
 rw[key];cases e:scan (λi x=>if x=w then some (i:Int) else none) 0 l with
 |none =>
  have h3:=V9.1 e
  have h:w∉l:=λhm=>by
   obtain⟨i,hi⟩:=yN.1 hm;have:=h3 i w hi;simp at this
  rw[I3 h];rfl
 |some r =>
  have h:w∈l/\0<=r:=jD (Q:=λr=>w∈l/\0<=r) e λi x r hx hr=>by
   split at hr
   ·rename_i he;injection hr with hr
    subst he;exact⟨H0 hx,by omega⟩
   ·cases hr
  rw[E6 h.1];simp only[A6,Sum.elim_inr];rw[E6 h.2]
def lazT(l:E1):C6:=⟨l.I,l.Short,l.X⟩
def ofT(t:C6):E1:=⟨t.I,t.P,t.X⟩
def sufB(S:A4):Bool:=S.all λe=>decide (e.length<=1)||decide (e.drop 1∈S)
def aE(l:E1):Int:=if P5 (lazT l)≠0 then P5 (lazT l) else if sufB l.X=true then 0 else 1
def chkL(l:E1)(o:A7):Int:=if aE l≠0 then aE l else if l.I≠o.I then 15 else 0
def suf_step{S:A4}{R:Type}{f:Bool}(e:A2)(k:Bool->Option R):((cond (decide (1<(e.length:Int))) (chk ((0:Int)<=1/\1<=(e.length:Int)) ((some (decide (e.drop 1∈S))).bind λc=>some (!c))) (some false):Option Bool)).bind k=k (!(decide (e.length<=1)||decide (e.drop 1∈S))):=by
 by_cases h:1<e.length
 ·rw[E2,H7 (by omega),A6,A6,show decide (e.length<=1)=false from I3 (by omega),gB]
 ·rw[show decide (1<(e.length:Int))=false from I3 (by omega),G0,A6,show decide (e.length<=1)=true from E6 (by omega)];rfl
def xP{l:E1}(ht:SmT (lazT l)):eG l=some (aE l):=by
 have hs:SmL l.X:=ht.2.2.1;have a2:=hs.1;unfold eG jK aE;rw[A6,show(⟨l.I,l.Short,l.X⟩:C6)=lazT l from rfl,IK _ ht,A6];by_cases h:P5 (lazT l)=0
 ·rw[B4 (by simpa using h),if_neg (by simpa using h)]
  have key:=V4 (step:=λs=>eG.s2 l s) (l:=l.X) (λ_ e=>if(decide (e.length<=1)||decide (e.drop 1∈l.X))=true then none else some (1:Int)) (λi x hx=>by
   simp only[eG.s2]
   rw[K8 hx,G5,C8 hx,zy1 _ _ hs,suf_step (f:=true)]
   cases (decide (x.length<=1)||decide (x.drop 1∈l.X))<;>rfl) (by
   simp only[eG.s2]
   rw[T7]
   rfl) (by omega)
  rw[key,scan_all (p:=λ(e:A2)=>decide (e.length<=1)||decide (e.drop 1∈l.X))]
  unfold sufB;cases (l.X.all λe=>decide (e.length<=1)||decide (e.drop 1∈l.X))<;>rfl
 ·rw[E2 h,if_pos h]
def BR{l:E1}{o:A7}(ht:SmT (lazT l)):nG l o=some (chkL l o):=by
 unfold nG chkL;rw[xP ht,A6];by_cases h:aE l=0
 ·rw[B4 (by simpa using h),if_neg (by simpa using h)];by_cases h2:l.I=o.I
  ·rw[I3 (by simpa using h2),if_neg (by simpa using h2)];rfl
  ·rw[E6 h2,if_pos h2];rfl
 ·rw[E2 h,if_pos h]
def IL{l:A4}(hl:SmL l):gP l=some l:=by
 have a2:l.length<=2000000:=hl.1;unfold gP
 rw[V3 (r:=l) (λs=>s.2<=l.length/\s.1=l.take s.2) (λs=>l.length-s.2) (λs ⟨h1,h2⟩=>by
  simp only[gP.s2]
  by_cases h3:s.2<l.length
  ·left
   have hx:=get_at h3
   refine⟨(l.take (s.2+1),s.2+1),?_,⟨by omega,rfl⟩,by simp only;omega⟩
   rw[K8 hx,G5,C8 hx,gW (hl.2 _ (J3 _))]
   simp only[A6]
   rw[H7 (by rw[h2,H6];unfold E0;omega),Q2 hx,h2]
  ·right
   have e:s.2=l.length:=by omega
   rw[B4,h2,e,T0]) (s:=([],0)) ⟨F7 _,by simp⟩]
 rfl
def CB{l:E1}(h1:SmL l.Short)(h2:SmL l.X):qA l=some l:=by
 unfold qA;rw[IL h1,IL h2];rfl
def lazy_New_eq(n:Int):mS n=some (ofT (newT n).1,(newT n).2):=by
 unfold mS;rw[table_New_eq,A6];unfold newT;split<;>rfl
def hb1{p s:Nat}(h:(p+1)*5*(s+1)<=160000):(p+1)*5*s<=160000:=R9 (Nat.mul_le_mul_left _ (Nat.le_succ s)) h
def hb2{p s:Nat}(h:(p+1)*5*(s+1)<=160000):p*5*(s+1)<=160000:=R9 (W7 _ (W7 5 (Nat.le_succ p))) h
abbrev RoomT(t:C6):Prop:=(t.P.length+1)*5*(t.X.length+1)<=160000
def uncl_ins{t:C6}{o:A7}{w:A2}(ht:N7 t)(hb:RoomT t)(hz:V8 t o=0)(hf:(extL t).find? (newRow t o)=some w) :
  gJ t w=(⟨t.I,insW t.P w,t.X⟩,0)/\P5 ⟨t.I,insW t.P w,t.X⟩=0:=by
 obtain⟨a2,_,hA⟩:=Z7 hz;obtain⟨b6,_,a8,a4,a3,_,_,b3⟩:=bI a2;obtain⟨a7,b2,a9,b4⟩:=Z5 a2;obtain⟨g1,g2,_⟩:=uncl_progress ht (hb1 hb) hz hf;have a5:=dR hf;obtain⟨p,hp,h2⟩:=O0.1 a5;obtain⟨a,ha,rfl⟩:=D7.1 h2;have ha:=M1.1 ha;have b5:=ht.pw p hp;have a6:=EZ (a7 p hp) (by omega) (show(a:Int)<t.I by omega)
 have e1:sortW (t.P++sortW (preL [p++[(a:Int)]]))=insW t.P (p++[(a:Int)]):=oW (gO _) (a8.insW _) λx=>by
  rw[dL,I8,dL,preL_one,bV];unfold prefixes;constructor
  ·rintro (h|h)
   ·exact Or.inl h
   ·obtain⟨k,hk,rfl⟩:=D7.1 h;have hk:=M1.1 hk;rw[D4,P3]at hk;rcases J0 p.length k with h3|h3
    ·right;rw[aP (by rw[D4,P3];omega)]
    ·left;rw[gC h3];exact sZ a2 _ p hp k rfl h3
  ·rintro (h|rfl)
   ·exact Or.inl h
   ·exact Or.inr (D7.2 ⟨p.length+1,by simp,by rw[aP (by simp)]⟩)
 have e2:sortW (t.X++[])=t.X:=by rw[V0,qM a4]
 have hP:gJ t (p++[(a:Int)])=growT t (sortW (preL [p++[(a:Int)]])) []:=by
  unfold gJ;rw[if_neg (by simpa using a2),if_neg (by simpa using a6)]
 rw[hP]at g1 ⊢;unfold growT at g1 ⊢;rw[e1,e2]at g1 ⊢;by_cases h:P5 ⟨t.I,insW t.P (p++[(a:Int)]),t.X⟩=0
 ·rw[if_neg (by simpa using h)];exact⟨rfl,h⟩
 ·rw[if_pos h]at g1;exact absurd g1 h
def inc_ins{t:C6}{o:A7}{x:Int×Int×Bool}(ht:N7 t)(hb:RoomT t)(hv:J9 o)(hz:V8 t o=0)(hf:iP t o=some x) :
  gK t (toW t x)=(⟨t.I,t.P,insW t.X (toW t x)⟩,0)/\P5 ⟨t.I,t.P,insW t.X (toW t x)⟩=0/\(toW t x).drop 1∈t.X:=by
 obtain⟨a2,_,hA⟩:=Z7 hz;obtain⟨b6,_,a8,a4,a3,_,_,b3⟩:=bI a2;obtain⟨b5,b2,a9,a7⟩:=Z5 a2;obtain⟨g1,g2,_⟩:=inc_progress ht (hb2 hb) hv hz hf;obtain⟨_,a,e,h1,h2,ha,he⟩:=iP_range hv hA hf;have a5:=get_at he
 have hW:toW t x=(a:Int)::t.X[e]:=by
  unfold toW;rw[h1,h2];simp[a5]
 have hm:=J3 he;have b4:=ht.sw _ hm;have a6:=EN (a7 _ hm).1 (by omega) (show(a:Int)<t.I by omega);have e1:sortW (t.P++[])=t.P:=by rw[V0,qM a8]
 have e2:sortW (t.X++[toW t x])=insW t.X (toW t x):=by rw[sortW_snoc,qM a4]
 have hP:gK t (toW t x)=growT t [] [toW t x]:=by
  unfold gK;rw[if_neg (by simpa using a2),if_neg (by rw[hW];simp),if_neg (by rw[hW];simpa using a6)]
 rw[hP]at g1 ⊢;unfold growT at g1 ⊢;rw[e1,e2]at g1 ⊢;by_cases h:P5 ⟨t.I,t.P,insW t.X (toW t x)⟩=0
 ·rw[if_neg (by simpa using h)];exact⟨rfl,h,by rw[hW];simpa using hm⟩
 ·rw[if_pos h]at g1;exact absurd g1 h
def sufB_ins{S:A4}{w:A2}(h:sufB S=true)(hw:w.drop 1∈S):sufB (insW S w)=true:=by
 unfold sufB at h ⊢;refine P8.2 λe he=>?_;rw[oB,decide_eq_true_eq,decide_eq_true_eq];rcases (bV S w e).1 he with he|rfl
 ·have:=P8.1 h e he;rw[oB,decide_eq_true_eq,decide_eq_true_eq]at this;exact this.imp_right λh=>(bV S w _).2 (Or.inl h)
 ·exact Or.inr ((bV S _ _).2 (Or.inl hw))
def fA(l:E1)(o:A7):E1×A4×Bool×Int :=
 if chkL l o≠0 then(l,[],false,chkL l o) else(ofT (stepT (lazT l) o).1,(stepT (lazT l) o).2)
section
variable {l:E1}{o:A7}
def chk_laz(h:chkL l o=0):chkT (lazT l) o=0/\aE l=0/\sufB l.X=true/\P5 (lazT l)=0:=by
 unfold chkL at h;split at h
 ·rename_i h1;exact absurd h h1
 ·rename_i h1;have h1:aE l=0:=iH.1 h1;have h2:=h1;unfold aE at h2;split at h2
  ·rename_i h3;exact absurd h2 h3
  ·rename_i h3;have h3:P5 (lazT l)=0:=iH.1 h3;split at h2
   ·rename_i h4;refine⟨?_,h1,h4,h3⟩;unfold chkT;rw[if_neg (by simpa using h3)];exact h
   ·cases h2
def pX{n:Int}{p s:A4}(h:P5 ⟨n,p,s⟩=0)(h2:sufB s=true):aE ⟨n,p,s⟩=0:=by
 unfold aE lazT;rw[if_neg (by simpa using h),if_pos h2]
def lazy_Step_eq(ht:N7 (lazT l))(hb:RoomT (lazT l))(ho:SmO o)(hv:J9 o):eB l o=some (fA l o):=by
 have hp:=ht.p;have hs:=ht.s;have hT:(⟨l.I,l.Short,l.X⟩:C6)=lazT l:=rfl;unfold eB fA jK;rw[BR ht.sm,A6];by_cases h:chkL l o=0
 ·obtain⟨h1,h3,h4,h5⟩:=chk_laz h;rw[B4 (by simpa using h),if_neg (by simpa using h),A6,hT,zxn ht ho hv,A6,if_neg (by simpa using h1)];unfold stepT;rw[if_neg (by simpa using h1)];by_cases h2:L6 o (lazT l) (lazT l).P=[]
  ·rw[if_neg (by simpa using h2),rU.2 h2];have hz:=compT_of h1 h2;obtain⟨_,_,a4,a5,_⟩:=bI h5;simp only[ne_eq,not_true_eq_false,decide_false,G0,L2,Int.ofNat_zero,DD,Int.lt_irrefl];rw[A6,G0,zto ht ho hv];unfold unclT;rw[if_neg (by simpa using hz)];cases hf:(extL (lazT l)).find? (newRow (lazT l) o) with
   |some w =>
    obtain⟨w1,w2⟩:=extL_mem_sm ht (dR hf);obtain⟨u1,u2⟩:=uncl_ins ht hb hz hf;have a2:SmL (insW l.Short w):=sml_ins ⟨by have:l.Short.length<=600:=hp;omega,ht.sm.2.1.2⟩ (by unfold SmW;omega)
    have a3:SmT (lazT ⟨l.I,insW l.Short w,l.X⟩):=⟨ht.sm.1,a2,ht.sm.2.2.1,λx hx a ha=>by
     rcases (bV _ _ _).1 hx with hx|rfl
     ·exact ht.sm.2.2.2 x hx a ha
     ·exact w2 a ha⟩
    simp only[A6,ne_eq,not_true_eq_false,decide_false,G0,G5];rw[BH (l:=l.Short) a4 ht.sm.2.1 (by unfold SmW;omega),A6];simp only[cS,eB.k1,A6];rw[xP a3,A6,pX (n:=l.I) (p:=insW l.Short w) (s:=l.X) u2 h4];simp only[ne_eq,not_true_eq_false,decide_false,G0];rw[CB (l:=⟨l.I,insW l.Short w,l.X⟩) a2 ht.sm.2.2.1,A6,u1];rfl
   |none =>
    simp only[A6,ne_eq,not_true_eq_false,decide_false,G0];rw[zpa ht ho hv];unfold incT;rw[if_neg (by simpa using hz)];cases hi:iP (lazT l) o with
    |some x =>
     have a6:=toW_len ht x;obtain⟨u1,u2,u3⟩:=inc_ins ht hb hv hz hi;have a2:SmL (insW l.X (toW (lazT l) x)):=sml_ins ⟨by have:l.X.length<=600:=hs;omega,ht.sm.2.2.1.2⟩ (by unfold SmW;omega);have a3:SmT (lazT ⟨l.I,l.Short,insW l.X (toW (lazT l) x)⟩):=⟨ht.sm.1,ht.sm.2.1,a2,ht.sm.2.2.2⟩;simp only[A6,ne_eq,not_true_eq_false,decide_false,G0,U0];rw[BH (l:=l.X) a5 ht.sm.2.2.1 (by unfold SmW;omega),A6,A6];simp only[cS,eB.k1,A6];rw[xP a3,A6,pX (n:=l.I) (p:=l.Short) (s:=insW l.X (toW (lazT l) x)) u2 (sufB_ins h4 u3)];simp only[ne_eq,not_true_eq_false,decide_false,G0];rw[CB (l:=⟨l.I,l.Short,insW l.X (toW (lazT l) x)⟩) ht.sm.2.1 a2,A6,u1];rfl
    |none=>rfl
  ·rw[if_pos h2,B4 (by simp),E6 (pos_len λh=>h2 (rU.1 h))];rfl
 ·rw[E2 h,if_pos h]
def hypL(l:E1)(o:A7):I6×Int:=if chkL l o≠0 then(h0,chkL l o) else hypR (lazT l) o
def JJ(ht:N7 (lazT l))(ho:SmO o)(hv:J9 o)(h128:(M2 (lazT l) o).length<=128):lV l o=some (hypL l o):=by
 unfold lV hypL jK;rw[BR ht.sm,A6];by_cases h:chkL l o=0
 ·rw[B4 (by simpa using h),if_neg (by simpa using h),A6,show(⟨l.I,l.Short,l.X⟩:C6)=lazT l from rfl,zrl ht ho hv h128];rfl
 ·rw[E2 h,if_pos h]
end
end
section
def scan_find{V:Type}{p:V->Bool}:∀(L:List V) (j:Nat),(scan (λi x=>if p x=true then some (i:Int) else none) j L=none/\L.find? p=none)\/∃i f,scan (λi x=>if p x=true then some (i:Int) else none) j L=some (↑(j+i):Int)/\L[i]?=some f/\L.find? p=some f/\p f=true
 |[],_=>.inl ⟨rfl,rfl⟩
 |x::L,j=>by
  unfold scan;cases h:p x with
  |true=>exact .inr ⟨0,x,by simp,rfl,by simp[h],h⟩
  |false =>
   rw[DZ (by simp[h])];simp only[mC,if_false];rcases scan_find L (j+1) with⟨h1,h2⟩|⟨i,f,h1,h2,h3,h4⟩
   ·exact .inl ⟨h1,h2⟩
   ·exact .inr ⟨i+1,f,by rw[h1];congr 2;omega,h2,h3,h4⟩
def yA{o:A7}{w:A2}(ho:SmO o)(hv:J9 o):jM o w=some (tw (ansO o w)):=by
 have hl:=ho.1;unfold jM ansO;by_cases h0:w=[]
 ·subst h0;rfl
 ·rw[if_neg h0,I3 (by
   intro h
   exact h0 (S7 (by omega))),G0]
  unfold cE
  have key:=V4 (step:=λs=>cE.s2 o.T (λu0=>qS u0 w) s) (l:=o.T) (λi t=>if(λt:B0=>decide (w <+: t.In)) t=true then some (i:Int) else none) (λi t ht=>by
   have a2:=H0 ht
   simp only[cE.s2,qS]
   rw[K8 ht,G5,C8 ht,qU _ _ (smo_in ho a2),A6,A6]
   by_cases h:w <+: t.In<;>simp[h]) (by
   simp only[cE.s2]
   rw[T7]
   rfl) (by omega)
  rw[key];rcases scan_find (p:=λt:B0=>decide (w <+: t.In)) o.T 0 with⟨h1,h2⟩|⟨i,t,h1,h2,h3,h4⟩
  ·rw[h1,h2];simp only[A6,cS];rfl
  ·rw[h1,h3];have a2:=H0 h2;have hP:=(hv.prop t a2).1;have a4:=pre_len (of_decide_eq_true h4);have a5:=hP.2.1;have h5:=(ho.2 t a2).1;have a3:min (w.length:Int) (t.O.length:Int)=(w.length:Int):=by omega
   simp only[A6,Sum.elim_inr,F9,K0];rw[B4,E8 rfl h2,a3,H7 (by omega),O3,gW (by unfold SmW;rw[H6];omega),A6]
def ans_nil_tail{o:A7}{w e:A2}(h:ansO o (w++e)=none):tailA o w e=[]:=by unfold tailA;rw[h];exact List.drop_nil
def ans_tail{o:A7}{w e r:A2}(h:ansO o (w++e)=some r):tailA o w e=r.drop w.length:=by unfold tailA;rw[h];rfl
def O5(w:A2)(S:A4):Bool:=S.any λe=>decide (1024<(w++e).length)
def O6(o:A7)(w:A2)(S:A4):A4:=((S.filter λe=>!decide (1024<(w++e).length)).map λe=>w++e).filter λv=>(ansO o v).isNone
def sN(o:A7)(w:A2)(S:A4):(O6 o w S).length<=S.length:=by
 unfold O6;refine R9 (oH _ _) ?_;rw[B6];exact oH _ _
def AS{o:A7}{w:A2}{S:A4}(h:O5 w S=false):O6 o w S=L9 o w S:=by
 unfold O6 L9
 have:(S.filter λe=>!decide (1024<(w++e).length))=S:=yK.2 λe he=>by
  have:=rF.1 h e he;simpa using this
 rw[this]
def missB_mem{o:A7}{w:A2}{S:A4}{v:A2}(h:v∈O6 o w S):v.length<=1024:=by
 unfold O6 at h;obtain⟨e,he,rfl⟩:=D7.1 (eO.1 h).1;have:=(eO.1 he).2;simp only[oF,decide_eq_false_iff_not]at this;omega
section
variable {l:E1}{o:A7}
def outR(o:A7)(w v:A2)(M:A4)(b:Bool):A2×A4×Bool :=
 if 1024<(w++v).length then([],M,true) else if(ansO o (w++v)).isNone=true then([],M++[w++v],b) else(tailA o w v,M,b)
def tX(ho:SmO o)(hv:J9 o){w v:A2}{M:A4}{b:Bool}(hw:SmW w)(hvl:SmW v)(hM:M.length<=100000) :
  kW ⟨l,o,M,b⟩ w v=some ((outR o w v M b).1,⟨l,o,(outR o w v M b).2.1,(outR o w v M b).2.2⟩):=by
 have a3:w.length<=2000000:=hw;have a4:v.length<=2000000:=hvl;unfold kW outR;rw[gT _ (by simp) (by simp;omega),A6,pO];by_cases h:1024<(w++v).length
 ·rw[if_pos h,E2]
 ·rw[if_neg h,B4,yA ho hv,A6];cases ha:ansO o (w++v) with
  |none =>
   simp only[tw,jU,G5,Option.isNone_none,if_true];rw[H7 (pY (by omega))]
  |some r =>
   have a2:=kG hv ha;rw[D4]at a2;simp only[tw,U0,G0,Option.isNone_some,mC,if_false];rw[H7 (by omega),ans_tail ha]
def sK(w v:A2)(M:A4)(b:Bool):(outR o w v M b).2.1=M++O6 o w [v]/\(outR o w v M b).2.2=(b||O5 w [v])/\(O5 w [v]=false->L9 o w [v]=[]->(outR o w v M b).1=tailA o w v):=by
 unfold outR;by_cases h:1024<(w++v).length
 ·rw[if_pos h];refine⟨?_,?_,λhf=>?_⟩
  ·have:O6 o w [v]=[]:=by
    unfold O6;rw[yQ (by simpa using h)];rfl
   rw[this,V0]
  ·have:O5 w [v]=true:=by unfold O5;simpa using h
   rw[this,Bool.or_true]
  ·unfold O5 at hf;simp at hf h;omega
 ·have hl:O5 w [v]=false:=by unfold O5;simp at h ⊢;omega
  rw[if_neg h,AS hl,hl,Bool.or_false];unfold L9;cases ha:ansO o (w++v) with
  |none=>simp[ha]
  |some r=>simp[ha]
def longB_step{w e:A2}{S:A4}{k:Nat}(h:S[k]?=some e):O5 w (S.take (k+1))=(O5 w (S.take k)||O5 w [e]):=by
 unfold O5;rw[Q2 h,List.any_append]
def missB_step{w e:A2}{S:A4}{k:Nat}(h:S[k]?=some e):O6 o w (S.take (k+1))=O6 o w (S.take k)++O6 o w [e]:=by
 unfold O6;rw[Q2 h,oG,N6,oG]
def BV(ho:SmO o)(hv:J9 o)(ht:N7 (lazT l)){w:A2}{M:A4}{b:Bool}(hw:SmW w)(hM:M.length<=90000) :
  ∃rows,bK ⟨l,o,M,b⟩ w=some (rows,⟨l,o,M++O6 o w l.X,b||O5 w l.X⟩)/\(O5 w l.X=false->L9 o w l.X=[]->rowO o w l.X=some rows):=by
 have hs:l.X.length<=600:=ht.s;have hS:SmL l.X:=ht.sm.2.2.1
 have key:=bA (step:=λ(s:Int×List B0×A4×Bool×A4×Nat)=>bK.s2 ⟨l,o,M,b⟩ w s.1 s.2.1 s.2.2.1 s.2.2.2.1 s.2.2.2.2.1 s.2.2.2.2.2)
  (λs=>∃k:Nat,s.2.2.2.2.2=k/\k<=l.X.length/\s.1=o.I/\s.2.1=o.T/\s.2.2.1=M++O6 o w (l.X.take k)/\s.2.2.2.1=(b||O5 w (l.X.take k))/\s.2.2.2.2.1.length=k /\
   (O5 w l.X=false->L9 o w l.X=[]->s.2.2.2.2.1=(l.X.take k).map λe=>tailA o w e)) (λs=>l.X.length-s.2.2.2.2.2)
  (λr=>∃rows,r=(o.I,o.T,M++O6 o w l.X,(b||O5 w l.X),rows)/\(O5 w l.X=false->L9 o w l.X=[]->rows=l.X.map λe=>tailA o w e)) (λs ⟨k,g1,g2,g3,g4,g5,g6,g7,g8⟩=>by
   obtain⟨s1,s2,s3,s4,s5,s6⟩:=s
   simp only at g1 g3 g4 g5 g6 g7 g8
   subst g1 g3 g4 g5 g6
   simp only[bK.s2]
   by_cases g9:s6<l.X.length
   ·left
    have hx:=get_at g9
    have a5:SmW l.X[s6]:=hS.2 _ (J3 _)
    have a4:=sN o w (l.X.take s6)
    rw[H6]at a4
    obtain⟨q1,q2,q3⟩:=sK (o:=o) w l.X[s6] (M++O6 o w (l.X.take s6)) (b||O5 w (l.X.take s6))
    refine⟨(o.I,o.T,M++O6 o w (l.X.take (s6+1)),(b||O5 w (l.X.take (s6+1))),s5++[(outR o w l.X[s6] (M++O6 o w (l.X.take s6)) (b||O5 w (l.X.take s6))).1],s6+1),?_,⟨s6+1,rfl,g9,rfl,rfl,rfl,rfl,by simp[g7],λz1 z2=>?_⟩,by simp only;omega⟩
    ·rw[K8 hx,G5,C8 hx]
     have:=tX (l:=l) ho hv hw a5 (M:=M++O6 o w (l.X.take s6)) (b:=b||O5 w (l.X.take s6)) (by rw[D4];omega)
     rw[show(⟨o.I,o.T⟩:A7)=o from rfl,this,A6,H7 (pY (by omega)),q1,q2,missB_step hx,longB_step hx,Z9,Bool.or_assoc]
    ·simp only
     rw[Q2 hx,N6,<- g8 z1 z2]
     have hm:=J3 g9
     rw[q3 (by
      have:=rF.1 z1 _ hm
      unfold O5
      simpa using this) (by
      have a2:∀v,v∈L9 o w [l.X[s6]]->v∈L9 o w l.X:=λv hv=>by
       obtain⟨⟨e,he,h1⟩,h2⟩:=eD.1 hv
       exact eD.2 ⟨⟨e,by rw[K4.1 he];exact hm,h1⟩,h2⟩
      rw[z2]at a2
      exact vL.2 λv hv=>by cases a2 v hv)]
     rfl
   ·right
    have e:s6=l.X.length:=by omega
    subst e
    rw[B4]
    refine⟨_,rfl,s5,by rw[T0],λz1 z2=>by rw[g8 z1 z2,T0]⟩) fuel (o.I,o.T,M,b,[],0) ⟨0,rfl,F7 _,rfl,rfl,by simp[O6],by simp[O5],rfl,λ_ _=>rfl⟩ (by have:=U7;simp only;omega)
 obtain⟨r,e,rows,rfl,h2⟩:=key;refine⟨rows,?_,λz1 z2=>?_⟩
 ·unfold bK;rw[e,A6];rfl
 ·rw[h2 z1 z2]
  have a3:∀e∈l.X,ansO o (w++e)≠none:=λe he h=>by
   have:w++e∈L9 o w l.X:=eD.2 ⟨⟨e,he,rfl⟩,h⟩;rw[z2]at this;cases this
  obtain⟨R,hR⟩:=zD a3;rw[hR];congr 1;apply cT;intro i;rw[I9];cases hi:l.X[i]? with
  |none =>
   rw[lY,W8];rw[(dH hv hR).1];exact List.getElem?_eq_none_iff.1 hi
  |some e'=>rw[K0,mK hR hi]
def xY(M:A4)(b:Bool):lW ⟨l,o,M,b⟩=some (b||decide (M≠[]),⟨l,o,M,b⟩):=by
 unfold lW;cases b with
 |true=>rfl
 |false =>
  cases M with
  |nil=>rfl
  |cons x M =>
   simp only[G0];rw[E6 (pos_len (by simp)),A6];rfl
def HQ(a b:A4)(ha:SmL a):pL a b=some (decide (a=b)):=by
 have h1:=ha.1;unfold pL jS;by_cases a2:a.length=b.length
 ·rw[show decide ((a.length:Int)≠(b.length:Int))=false by simp[a2],G0]
  have key:=wQ (a:=a) (b:=b) (step:=λs=>jS.s2 a b (λu0 u1=>qI u0 u1) s) a2 (λi x y hx hy=>by
   simp only[jS.s2,qI]
   rw[K8 hx,G5,C8 hx,C8 hy,nX x y (by have:=ha.2 x (H0 hx);unfold SmW at this;omega)]
   by_cases h:x=y<;>simp[h]) (by
   simp only[jS.s2]
   rw[T7]
   rfl) (by omega)
  rw[key,A6]
 ·rw[show decide ((a.length:Int)≠(b.length:Int))=true by simp;omega,G5,A6];have:a≠b:=λh=>a2 (by rw[h]);simp[this]
def clsW(l:E1)(o:A7)(R:Row):Option (A2):=l.Short.find? λs=>decide (rowO o s l.X=some R)
def IT(ho:SmO o)(hv:J9 o)(ht:N7 (lazT l))(hc:chkL l o=0){R:Row}(hR:SmL R){M:A4}{b:Bool} :
  fS ⟨l,o,M,b⟩ R=some ((clsW l o R).getD [],(clsW l o R).isSome,⟨l,o,M,b⟩):=by
 have hp:l.Short.length<=600:=ht.p;obtain⟨h1,_,_,_⟩:=chk_laz hc;unfold fS
 have key:=V4 (step:=λs=>fS.s2 ⟨l,o,M,b⟩ R s) (l:=l.Short) (λ_ s=>if rowO o s l.X=some R then some (s,true,(⟨l,o,M,b⟩:I7)) else none) (λi s hs=>by
  have a3:=H0 hs
  have a4:=ht.pw s a3
  simp only[fS.s2,jK]
  rw[K8 hs,G5,C8 hs,A6,show(⟨l.I,l.Short,l.X⟩:C6)=lazT l from rfl,table_Row_eq ht.sm ho hv (by unfold SmW;omega),A6]
  unfold rowT
  rw[if_neg (by simpa using h1),show(lazT l).X=l.X from rfl]
  cases hr:rowO o s l.X with
  |none=>simp
  |some Q =>
   have hQ:SmL Q:=by
    have:=rowT_sml hv ht.sm s
    unfold rowT at this
    rw[if_neg (by simpa using h1),show(lazT l).X=l.X from rfl,hr]at this
    exact this
   simp only[tw,G5]
   rw[HQ _ _ hQ,A6,A6]
   by_cases h:Q=R
   ·rw[E2 h,if_pos (by rw[h])]
   ·rw[B4 h,if_neg (by simpa using h)]) (by
  simp only[fS.s2]
  rw[T7]
  rfl) (by omega)
 rw[key]
 have a2:∀(L:A4) (j:Nat),scan (λ_ s=>if rowO o s l.X=some R then some (s,true,(⟨l,o,M,b⟩:I7)) else none) j L=(L.find? λs=>decide (rowO o s l.X=some R)).map λs=>(s,true,⟨l,o,M,b⟩):=by
  intro L
  induction L with
  |nil=>intro j;rfl
  |cons s L ih =>
   intro j;unfold scan;by_cases h:rowO o s l.X=some R
   ·rw[if_pos h,List.find?_cons_of_pos (by simpa using h)];rfl
   ·rw[if_neg h,DZ (by simpa using h)];exact ih _
 rw[a2];unfold clsW;cases l.Short.find? λs=>decide (rowO o s l.X=some R)<;>rfl
def anyL(ws S:A4):Bool:=ws.any λw=>O5 w S
def O7(o:A7)(ws S:A4):A4×Int:=if anyL ws S=true then([],3) else(maxR (ws.flatMap λw=>L9 o w S),0)
end
end
section
def T6(x:A4×Int):Bool:=decide (x.2≠0)||decide (x.1≠[])
section
variable {l:E1}{o:A7}
def lJ{ws S:A4}(h:T6 (O7 o ws S)=false):∀w∈ws,O5 w S=false/\L9 o w S=[]:=by
 unfold T6 O7 at h;cases ha:anyL ws S with
 |true=>rw[ha]at h;simp at h
 |false =>
  rw[ha]at h;simp only[mC,if_false,ne_eq,not_true_eq_false,decide_false,gB,decide_eq_false_iff_not,iH]at h;have h:=rU.1 h;intro w hw;refine⟨?_,?_⟩
  ·cases hb:O5 w S with
   |false=>rfl
   |true=>rw[show anyL ws S=true from oC.2 ⟨w,hw,hb⟩]at ha;cases ha
  ·refine vL.2 λv hv=>?_;have:v∈ws.flatMap λw=>L9 o w S:=O0.2 ⟨w,hw,hv⟩;rw[h]at this;cases this
def ProgOk(res:A4×A4×Int)(added:A4)(err:Int)(M:A4)(b:Bool):Prop :=
 (b=true/\res.2=([],3))\/(b=false/\err≠0/\res.2=([],err))\/(b=false/\err=0/\M≠[]/\SmL M/\res.2=(maxR M,0))\/(b=false/\err=0/\M=[]/\res=(added,[],0))
def sJ{ws S:A4}(h1:ws.length<=100)(h2:S.length<=700)(added:A4) :
  T6 (O7 o ws S)=(anyL ws S||decide (ws.flatMap (λw=>O6 o w S)≠[]))/\(T6 (O7 o ws S)=true->ProgOk ([],O7 o ws S) added 0 (ws.flatMap λw=>O6 o w S) (anyL ws S)):=by
 have a2:∀W:A4,(W.flatMap λw=>O6 o w S).length<=700*W.length:=λW=>by
  induction W with
  |nil=>simp
  |cons w W ih =>
   have:=sN o w S;rw[P0,D4,E9];omega
 unfold T6 O7 ProgOk;cases ha:anyL ws S with
 |true=>exact⟨by simp,λ_=>.inl ⟨rfl,rfl⟩⟩
 |false =>
  have he:(ws.flatMap λw=>L9 o w S)=ws.flatMap λw=>O6 o w S:=by
   rw[List.flatMap_def,List.flatMap_def];congr 1;refine mD λw hw=>(AS ?_).symm;cases hb:O5 w S with
   |false=>rfl
   |true=>rw[show anyL ws S=true from oC.2 ⟨w,hw,hb⟩]at ha;cases ha
  simp only[mC,if_false,ne_eq,not_true_eq_false,decide_false,gB];rw[he];refine⟨?_,λh=>?_⟩
  ·by_cases hm:(ws.flatMap λw=>O6 o w S)=[]
   ·rw[hm];rfl
   ·have a3:maxR (ws.flatMap λw=>O6 o w S)≠[]:=λh=>hm (rU.1 h);simp only[hm,a3,not_false_eq_true,decide_true]
  ·have h:=of_decide_eq_true h;refine .inr (.inr (.inl ⟨trivial,trivial,λh3=>h (by rw[h3];rfl),⟨by have:=a2 ws;omega,λx hx=>?_⟩,rfl⟩));obtain⟨w,hw,hx⟩:=O0.1 hx;have:=missB_mem hx;unfold SmW;omega
def fC(l:E1)(o:A7):A2->A2->A2->A4->A4×A4×Int
 |a::b::v,u,r,A =>
  if T6 (O7 o [u++[a],r++[a]] l.X)=true then([],O7 o [u++[a],r++[a]] l.X)
  else if rowO o (u++[a]) l.X≠rowO o (r++[a]) l.X then(A,[],0)
  else match clsW l o ((rowO o (u++[a]) l.X).getD []) with
   |none=>([],[],10)
   |some f=>if T6 (O7 o [u++[a],f] [b::v])=true then([],O7 o [u++[a],f] [b::v])
    else fC l o (b::v) (if tailA o (u++[a]) (b::v)=tailA o f (b::v) then r++[a] else u++[a]) f (A++[if tailA o (u++[a]) (b::v)=tailA o f (b::v) then r++[a] else u++[a]])
 |_,_,_,A=>(A,[],0)
def xG{a b:Int}{v u r:A2}{A:A4}:fC l o (a::b::v) u r A =
  if T6 (O7 o [u++[a],r++[a]] l.X)=true then([],O7 o [u++[a],r++[a]] l.X)
  else if rowO o (u++[a]) l.X≠rowO o (r++[a]) l.X then(A,[],0)
  else match clsW l o ((rowO o (u++[a]) l.X).getD []) with
   |none=>([],[],10)
   |some f=>if T6 (O7 o [u++[a],f] [b::v])=true then([],O7 o [u++[a],f] [b::v])
    else fC l o (b::v) (if tailA o (u++[a]) (b::v)=tailA o f (b::v) then r++[a] else u++[a]) f (A++[if tailA o (u++[a]) (b::v)=tailA o f (b::v) then r++[a] else u++[a]]):=rfl
def RngW(w:A2):Prop:=∀a∈w,inR a
structure ChnOk(l:E1)(v u r:A2)(A:A4):Prop where
 h1:u.length+v.length<=2100
 h2:r.length<=400
 h3:A.length+v.length<=1200
 h4:RngW v/\RngW u/\RngW r
 h5:∀x∈A,x.length<=2100/\RngW x
def RngW.snoc{w:A2}{a:Int}(h:RngW w)(ha:inR a):RngW (w++[a]):=λx hx=>by
 rcases I8.1 hx with hx|hx
 ·exact h x hx
 ·rw[K4.1 hx];exact ha
def vO{R:Row}{f:A2}(h:clsW l o R=some f):f∈l.Short:=dR h
def ChnOk.next{a b:Int}{v u r f:A2}{A:A4}(H:ChnOk l (a::b::v) u r A)(ht:N7 (lazT l))(hf:f∈l.Short)(c:Prop)[Decidable c]:ChnOk l (b::v) (if c then r++[a] else u++[a]) f (A++[if c then r++[a] else u++[a]]):=by
 obtain⟨h1,h2,h3,⟨h4,h5,h6⟩,h7⟩:=H;simp only[E9]at h1 h3;have ha:=h4 a (by simp)
 have hl:(if c then r++[a] else u++[a]).length<=401\/(if c then r++[a] else u++[a]).length=u.length+1:=by
  split
  ·left;simp;omega
  ·right;simp
 have hr:RngW (if c then r++[a] else u++[a]):=by
  split
  ·exact h6.snoc ha
  ·exact h5.snoc ha
 refine⟨by simp only[E9];omega,ht.pw f hf,by simp only[D4,E9,L2];omega,⟨λx hx=>h4 x (K7 _ hx),hr,ht.sm.2.2.2 f hf⟩,λx hx=>?_⟩;rcases I8.1 hx with hx|hx
 ·exact h7 x hx
 ·rw[K4.1 hx];exact⟨by omega,hr⟩
def row_sml(hv:J9 o)(ht:N7 (lazT l)){w:A2}{R:Row}(h:rowO o w l.X=some R):SmL R:=by
 have h1:=rP hv ht h;exact⟨by have:=h1.1;omega,λx hx=>by have:=(h1.2 x hx).1;unfold SmW;omega⟩
def refR(l:E1)(o:A7)(u v:A2):A4×A4×Int :=
 if T6 (O7 o [u] l.X)=true then([],O7 o [u] l.X)
 else match clsW l o ((rowO o u l.X).getD []) with
  |none=>([],[],10)
  |some f=>if T6 (O7 o [u,f] [v])=true then([],O7 o [u,f] [v])
   else if tailA o u v=tailA o f v then([],[],15)
   else fC l o v u f [u]
def laz_eta:(⟨l.I,l.Short,l.X⟩:E1)=l:=rfl
def obs_eta:(⟨o.I,o.T⟩:A7)=o:=rfl
def flat2(a b:A2)(S:A4):([a,b].flatMap λw=>O6 o w S)=O6 o a S++O6 o b S:=by simp
def any2(a b:A2)(S:A4):anyL [a,b] S=(O5 a S||O5 b S):=by simp[anyL]
def flat1(a:A2)(S:A4):([a].flatMap λw=>O6 o w S)=O6 o a S:=by simp
def any1(a:A2)(S:A4):anyL [a] S=O5 a S:=by simp[anyL]
def tailA_len(hv:J9 o)(w e:A2):(tailA o w e).length<=e.length:=by
 cases ha:ansO o (w++e) with
 |none=>rw[ans_nil_tail ha];simp
 |some q =>
  have:=kG hv ha;rw[ans_tail ha,M0,this,D4];omega
def wZ{w S:A4}(h:T6 (O7 o w S)=false)(h1:w.length<=100)(h2:S.length<=700):anyL w S=false/\(w.flatMap λw=>O6 o w S)=[]:=by
 have:=(sJ (o:=o) h1 h2 []).1;rw[h]at this;have:=this.symm;rw[Bool.or_eq_false_iff]at this;exact⟨this.1,iH.1 (of_decide_eq_false this.2)⟩
def zwq(ho:SmO o)(hv:J9 o)(ht:N7 (lazT l))(hc:chkL l o=0){v u r:A2}{A:A4}(H:ChnOk l v u r A)(hA:A=[u]) :
  ∃added err M b,(iter (λ(s:Int×A4×A4×Int×List B0×A4×Bool×A2×A2×A2×A4)=>bM.s2 s.1 s.2.1 s.2.2.1 s.2.2.2.1 s.2.2.2.2.1 s.2.2.2.2.2.1 s.2.2.2.2.2.2.1 s.2.2.2.2.2.2.2.1 s.2.2.2.2.2.2.2.2.1 s.2.2.2.2.2.2.2.2.2.1 s.2.2.2.2.2.2.2.2.2.2) fuel (l.I,l.Short,l.X,o.I,o.T,[],false,u,v,r,[u])).bind
   (Sum.elim (λ(s:Int×A4×A4×Int×List B0×A4×Bool×A4)=>bM.k3 s.1 s.2.1 s.2.2.1 s.2.2.2.1 s.2.2.2.2.1 s.2.2.2.2.2.1 s.2.2.2.2.2.2.1 s.2.2.2.2.2.2.2) some)=some (added,err,⟨l,o,M,b⟩)/\ProgOk (fC l o v u r A) added err M b:=by
 have hs:l.X.length<=600:=ht.s;have hS:SmL l.X:=ht.sm.2.2.1;generalize a2:fC l o v u r A=res
 have key:=bA (step:=λ(s:Int×A4×A4×Int×List B0×A4×Bool×A2×A2×A2×A4)=>bM.s2 s.1 s.2.1 s.2.2.1 s.2.2.2.1 s.2.2.2.2.1 s.2.2.2.2.2.1 s.2.2.2.2.2.2.1 s.2.2.2.2.2.2.2.1 s.2.2.2.2.2.2.2.2.1 s.2.2.2.2.2.2.2.2.2.1 s.2.2.2.2.2.2.2.2.2.2)
  (λs=>∃u v r A,s=(l.I,l.Short,l.X,o.I,o.T,[],false,u,v,r,A)/\ChnOk l v u r A/\fC l o v u r A=res) (λs=>s.2.2.2.2.2.2.2.2.1.length)
  (λq=>∃added err M b,ProgOk res added err M b/\((q=.inl (l.I,l.Short,l.X,o.I,o.T,M,b,added)/\err=0)\/q=.inr (added,err,⟨l,o,M,b⟩))) (λs ⟨u,v,r,A,a9,H,a2⟩=>by
   subst a9
   have h1:=H.h1
   have h2:=H.h2
   simp only[bM.s2]
   have fin:v.length<=1->(cond (decide (1<(v.length:Int))))=λ(_:Option ((Int×A4×A4×Int×List B0×A4×Bool×A2×A2×A2×A4)⊕((Int×A4×A4×Int×List B0×A4×Bool×A4)⊕(A4×Int×I7)))) x=>x:=λh=>by
    funext x y
    rw[I3 (by omega)]
    rfl
   match v,H,a2,fin with
   |[],_,a2,_=>exact .inr ⟨_,rfl,A,0,[],false,.inr (.inr (.inr ⟨rfl,rfl,rfl,a2.symm⟩)),.inl ⟨rfl,rfl⟩⟩
   |[_],_,a2,_=>exact .inr ⟨_,rfl,A,0,[],false,.inr (.inr (.inr ⟨rfl,rfl,rfl,a2.symm⟩)),.inl ⟨rfl,rfl⟩⟩
   |a::b::v,H,a2,_ =>
    have h1:=H.h1
    have h3:=H.h3
    simp only[E9]at h1 h3
    have a7:SmW (u++[a]):=by unfold SmW;simp;omega
    have b3:SmW (r++[a]):=by unfold SmW;simp;omega
    have a6:SmW (b::v):=by unfold SmW;simp;omega
    rw[E2 (by simp only[E9];omega),H7 (by simp only[E9];omega),show List.take 1 (a::b::v)=[a] from rfl,show List.drop 1 (a::b::v)=b::v from rfl]
    rw[gT _ (by simp) (by simp;omega),A6,H7 (by simp only[E9];omega),gT _ (by simp) (by simp;omega),A6,pO,pO,H7 (by simp only[E9];omega)]
    have b7:=sN o (u++[a]) l.X
    obtain⟨R1,e1,f1⟩:=BV (l:=l) (M:=[]) (b:=false) ho hv ht a7 (by simp)
    obtain⟨R2,e2,f2⟩:=BV (l:=l) (M:=[]++O6 o (u++[a]) l.X) (b:=false||O5 (u++[a]) l.X) ho hv ht b3 (by simp;omega)
    simp only[laz_eta,obs_eta]
    rw[e1,A6]
    simp only[laz_eta,obs_eta]
    rw[e2,A6]
    simp only[laz_eta,obs_eta]
    rw[xY,A6]
    simp only[aJ,gB]
    obtain⟨p1,p2⟩:=sJ (o:=o) (ws:=[u++[a],r++[a]]) (S:=l.X) (by simp) (by omega) []
    rw[flat2,any2]at p1 p2
    rw[<- p1]
    rw[xG]at a2
    cases hst:T6 (O7 o [u++[a],r++[a]] l.X) with
    |true =>
     right
     rw[hst,if_pos rfl]at a2
     exact⟨_,rfl,[],0,_,_,a2 ▸ p2 hst,.inr rfl⟩
    |false =>
     rw[hst,if_neg (by simp)]at a2
     obtain⟨z1,z2⟩:=wZ hst (by simp) (by omega)
     rw[any2]at z1
     rw[flat2]at z2
     rw[z1,z2]
     obtain⟨l1,m1⟩:=lJ hst (u++[a]) (by simp)
     obtain⟨l2,m2⟩:=lJ hst (r++[a]) (by simp)
     have a8:=f1 l1 m1
     have b5:=f2 l2 m2
     have a4:=row_sml hv ht a8
     simp only[G0]
     rw[HQ _ _ a4,A6]
     rw[a8,b5]at a2
     by_cases hR:R1=R2
     ·subst hR
      rw[E6 rfl]
      rw[if_neg (by simp)]at a2
      simp only[N1]at a2
      rw[U0,G0]
      rw[IT ho hv ht hc a4,A6]
      cases hcl:clsW l o R1 with
      |none =>
       right
       rw[hcl]at a2
       exact⟨_,rfl,[],10,[],false,.inr (.inl ⟨rfl,by decide,a2 ▸ rfl⟩),.inr rfl⟩
      |some f =>
       have hf:=vO hcl
       have b6:f.length<=400:=ht.pw f hf
       have b4:SmW f:=by unfold SmW;omega
       rw[hcl]at a2
       simp only[uW,U0,G0,N1]at a2 ⊢
       obtain⟨s1,s2,s3⟩:=sK (o:=o) (u++[a]) (b::v) [] false
       have a5:=sN o (u++[a]) [b::v]
       simp only[P3]at a5
       obtain⟨t1,t2,t3⟩:=sK (o:=o) f (b::v) ([]++O6 o (u++[a]) [b::v]) (false||O5 (u++[a]) [b::v])
       rw[tX ho hv a7 a6 (by simp),A6]
       simp only[s1,s2]
       rw[tX ho hv b4 a6 (by simp;omega),A6]
       simp only[t1,t2]
       rw[xY,A6]
       simp only[aJ,gB]
       obtain⟨p1,p2⟩:=sJ (o:=o) (ws:=[u++[a],f]) (S:=[b::v]) (by simp) (by simp) []
       rw[flat2,any2]at p1 p2
       rw[<- p1]
       cases hst2:T6 (O7 o [u++[a],f] [b::v]) with
       |true =>
        right
        rw[hst2,if_pos rfl]at a2
        exact⟨_,rfl,[],0,_,_,a2 ▸ p2 hst2,.inr rfl⟩
       |false =>
        left
        rw[hst2,if_neg (by simp)]at a2
        obtain⟨z1,z2⟩:=wZ hst2 (by simp) (by simp)
        rw[any2]at z1
        rw[flat2]at z2
        obtain⟨l3,m3⟩:=lJ hst2 (u++[a]) (by simp)
        obtain⟨l4,m4⟩:=lJ hst2 f (by simp)
        simp only[aJ,gB]at t3
        refine⟨_,?_,⟨_,_,_,_,rfl,H.next ht hf _,a2⟩,by simp⟩
        have b2:=tailA_len hv (u++[a]) (b::v)
        simp only[E9]at b2
        rw[G0,s3 l3 m3,t3 l4 m4,nX _ _ (by omega),A6,z1,z2]
        by_cases a3:tailA o (u++[a]) (b::v)=tailA o f (b::v)
        ·rw[E6 a3,U0,G0,A6,H7 (pY (by omega)),if_pos a3]
        ·rw[I3 a3,jU,G5,A6,H7 (pY (by omega)),if_neg a3]
     ·right
      rw[I3 hR]
      rw[if_pos (by simpa using hR)]at a2
      exact⟨_,rfl,A,0,[],false,.inr (.inr (.inr ⟨rfl,rfl,rfl,a2.symm⟩)),.inr rfl⟩) fuel (l.I,l.Short,l.X,o.I,o.T,[],false,u,v,r,[u]) ⟨u,v,r,[u],rfl,hA ▸ H,hA ▸ a2⟩ (by have:=U7;have:=H.h3;simp only;omega)
 obtain⟨q,e,added,err,M,b,hp,hq⟩:=key;refine⟨added,err,M,b,?_,hp⟩;rw[e,A6];rcases hq with⟨rfl,rfl⟩|rfl
 ·rfl
 ·rfl
end
end
def xL:sV=some true:=by decide +kernel
section
section
variable {l:E1}{o:A7}
def GH(ht:N7 (lazT l)):∀(v u r:A2) (A:A4),ChnOk l v u r A->(fC l o v u r A).1.length<=1200/\∀x∈(fC l o v u r A).1,x.length<=2100/\RngW x
 |[],u,r,A,H=>⟨by have:=H.h3;exact R9 (rD _ _) this,H.h5⟩
 |[_],u,r,A,H=>⟨by have:=H.h3;exact R9 (rD _ _) this,H.h5⟩
 |a::b::v,u,r,A,H=>by
  have h0:∀x:A4×Int,(([]:A4),x).1.length<=1200/\∀y∈(([]:A4),x).1,y.length<=2100/\RngW y:=λx=>⟨by simp,λy hy=>by cases hy⟩;rw[xG];split
  ·exact h0 _
  ·split
   ·exact⟨by have:=H.h3;exact R9 (rD _ _) this,H.h5⟩
   ·cases hcl:clsW l o ((rowO o (u++[a]) l.X).getD []) with
    |none=>exact h0 _
    |some f =>
     simp only;split
     ·exact h0 _
     ·exact GH ht (b::v) _ _ _ (H.next ht (vO hcl) _)
def wY{ws S:A4}(h1:ws.length<=100)(h2:S.length<=700):SmL (O7 o ws S).1:=by
 have a2:∀W:A4,(W.flatMap λw=>L9 o w S).length<=700*W.length:=λW=>by
  induction W with
  |nil=>simp
  |cons w W ih =>
   have:=pK o w S;rw[P0,D4,E9];omega
 unfold O7;cases ha:anyL ws S with
 |true=>exact gH
 |false =>
  rw[if_neg (by simp)];refine⟨by have:=FY (ws.flatMap λw=>L9 o w S);have:=a2 ws;simp only;omega,λx hx=>?_⟩;obtain⟨w,hw,hx⟩:=O0.1 (vT hx)
  have hf:O5 w S=false:=by
   cases hb:O5 w S with
   |false=>rfl
   |true=>rw[show anyL ws S=true from oC.2 ⟨w,hw,hb⟩]at ha;cases ha
  rw[<- AS hf]at hx;have:=missB_mem hx;unfold SmW;omega
def chain_ask(ht:N7 (lazT l)):∀(v u r:A2) (A:A4),SmL (fC l o v u r A).2.1
 |[],_,_,_=>gH
 |[_],_,_,_=>gH
 |a::b::v,u,r,A=>by
  have hs:l.X.length<=600:=ht.s;rw[xG];split
  ·exact wY (by simp) (by omega)
  ·split
   ·exact gH
   ·cases hcl:clsW l o ((rowO o (u++[a]) l.X).getD []) with
    |none=>exact gH
    |some f =>
     simp only;split
     ·exact wY (by simp) (by simp)
     ·exact chain_ask ht (b::v) _ _ _
def refR_ask(ht:N7 (lazT l))(u v:A2):SmL (refR l o u v).2.1:=by
 have hs:l.X.length<=600:=ht.s;unfold refR;split
 ·exact wY (by simp) (by omega)
 ·cases hcl:clsW l o ((rowO o u l.X).getD []) with
  |none=>exact gH
  |some f =>
   simp only;split
   ·exact wY (by simp) (by simp)
   ·split
    ·exact gH
    ·exact chain_ask ht _ _ _ _
structure RefIn(u v:A2):Prop where
 h1:u.length<=1025
 h2:v.length<=1024
 h3:RngW u
 h4:RngW v
def RefIn.ch{u v f:A2}(H:RefIn u v)(ht:N7 (lazT l))(hf:f∈l.Short):ChnOk l v u f [u] :=
 ⟨by have:=H.h1;have:=H.h2;omega,ht.pw f hf,by have:=H.h2;simp;omega,⟨H.h4,H.h3,ht.sm.2.2.2 f hf⟩,λx hx=>by rw[K4.1 hx];exact⟨by have:=H.h1;omega,H.h3⟩⟩
def EX(ht:N7 (lazT l)){u v:A2}(H:RefIn u v):(refR l o u v).1.length<=1200/\∀x∈(refR l o u v).1,x.length<=2100/\RngW x:=by
 have h0:∀x:A4×Int,(([]:A4),x).1.length<=1200/\∀y∈(([]:A4),x).1,y.length<=2100/\RngW y:=λx=>⟨by simp,λy hy=>by cases hy⟩;unfold refR;split
 ·exact h0 _
 ·cases hcl:clsW l o ((rowO o u l.X).getD []) with
  |none=>exact h0 _
  |some f =>
   simp only;split
   ·exact h0 _
   ·split
    ·exact h0 _
    ·exact GH ht _ _ _ _ (H.ch ht (vO hcl))
def zu4(ho:SmO o)(hv:J9 o)(ht:N7 (lazT l))(hc:chkL l o=0){u v:A2}(H:RefIn u v) :
  ∃added err M b,bM ⟨l,o,[],false⟩ u v=some (added,err,⟨l,o,M,b⟩)/\ProgOk (refR l o u v) added err M b:=by
 have hs:l.X.length<=600:=ht.s;have h1:=H.h1;have h2:=H.h2;have hu:SmW u:=by unfold SmW;omega
 have a6:SmW v:=by unfold SmW;omega
 obtain⟨R1,e1,f1⟩:=BV (l:=l) (M:=[]) (b:=false) ho hv ht hu (by simp);unfold bM refR;rw[e1,A6];simp only[laz_eta,obs_eta];rw[xY,A6];simp only[aJ,gB];obtain⟨p1,p2⟩:=sJ (o:=o) (ws:=[u]) (S:=l.X) (by simp) (by omega) [];rw[flat1,any1]at p1 p2;rw[<- p1];cases hst:T6 (O7 o [u] l.X) with
 |true=>exact⟨[],0,_,_,rfl,by rw[if_pos rfl];exact p2 hst⟩
 |false =>
  rw[if_neg (by simp)];obtain⟨z1,z2⟩:=wZ hst (by simp) (by omega);rw[any1]at z1;rw[flat1]at z2;rw[z1,z2];obtain⟨l1,m1⟩:=lJ hst u (by simp);have a3:=f1 l1 m1;have a4:=row_sml hv ht a3;simp only[G0];rw[IT ho hv ht hc a4,A6,a3,N1];cases hcl:clsW l o R1 with
  |none=>exact⟨[],10,[],false,rfl,.inr (.inl ⟨rfl,by decide,rfl⟩)⟩
  |some f =>
   have hf:=vO hcl;have a8:f.length<=400:=ht.pw f hf;have a7:SmW f:=by unfold SmW;omega
   simp only[uW,U0,G0,N1];obtain⟨s1,s2,s3⟩:=sK (o:=o) u v [] false;have a5:=sN o u [v];simp only[P3]at a5;obtain⟨t1,t2,t3⟩:=sK (o:=o) f v ([]++O6 o u [v]) (false||O5 u [v]);rw[tX ho hv hu a6 (by simp),A6];simp only[s1,s2];rw[tX ho hv a7 a6 (by simp;omega),A6];simp only[t1,t2];rw[xY,A6];simp only[aJ,gB];obtain⟨p1,p2⟩:=sJ (o:=o) (ws:=[u,f]) (S:=[v]) (by simp) (by simp) [];rw[flat2,any2]at p1 p2;rw[<- p1];cases hst2:T6 (O7 o [u,f] [v]) with
   |true=>exact⟨[],0,_,_,rfl,by rw[if_pos rfl];exact p2 hst2⟩
   |false =>
    rw[if_neg (by simp)];obtain⟨z1,z2⟩:=wZ hst2 (by simp) (by simp);rw[any2]at z1;rw[flat2]at z2;obtain⟨l3,m3⟩:=lJ hst2 u (by simp);obtain⟨l4,m4⟩:=lJ hst2 f (by simp);simp only[aJ,gB]at t3;have a9:=tailA_len hv u v;rw[G0,s3 l3 m3,t3 l4 m4,nX _ _ (by omega),A6,z1,z2];by_cases a2:tailA o u v=tailA o f v
    ·rw[E2 a2,if_pos a2];exact⟨[],15,[],false,rfl,.inr (.inl ⟨rfl,by decide,rfl⟩)⟩
    ·rw[B4 a2,if_neg a2];exact zwq ho hv ht hc (H.ch ht hf) rfl
def lN(s:N5)(n:Int):Int:=if I2 s.Prefix n≠0 then I2 s.Prefix n else if s.Symbol<0\/n<=s.Symbol then 2 else if s.Suffix=[] then 19 else I2 s.Suffix n
def check_len{w:A2}{n:Int}(h:I2 w n=0):w.length<=1024:=by
 unfold I2 at h;split at h
 ·split at h
  ·cases h
  ·omega
 ·cases h
def or_step{R:Type}(a b:Prop)[Decidable a][Decidable b](k:Bool->Option R):((cond (decide a) (some true) (some (decide b)):Option Bool)).bind k=k (decide (a\/b)):=by
 by_cases h:a
 ·rw[E6 h,E6 (Or.inl h)];rfl
 ·rw[B4 h,A6];congr 1;simp[h]
def proper_in{s:N5}{n:Int}(h:lN s n=0)(hn:n<=1024):RefIn (s.Prefix++[s.Symbol]) s.Suffix/\I2 s.Prefix n=0/\I2 s.Suffix n=0/\0<=s.Symbol/\s.Symbol<n/\s.Suffix≠[]:=by
 unfold lN at h;split at h
 ·rename_i c;exact absurd h c
 ·rename_i c1;have c1:I2 s.Prefix n=0:=iH.1 c1;split at h
  ·cases h
  ·rename_i c2;split at h
   ·cases h
   ·rename_i c3;have r1:RngW s.Prefix:=λa ha=>by have:=W5 c1 a ha;unfold inR;omega
    have r2:RngW s.Suffix:=λa ha=>by have:=W5 h a ha;unfold inR;omega
    have l1:=check_len c1;have l2:=check_len h;exact⟨⟨by simp;omega,l2,r1.snoc (by unfold inR;omega),r2⟩,c1,h,by omega,by omega,c3⟩
def bT(l:E1)(A:A4):E1:=⟨l.I,sortW (l.Short++A),l.X⟩
def gI(l:E1)(o:A7)(s:N5):E1×A4×Int :=
 if chkL l o≠0 then(l,[],chkL l o) else if lN s l.I≠0 then(l,[],lN s l.I)
 else if T6 (refR l o (s.Prefix++[s.Symbol]) s.Suffix).2=true then(l,(refR l o (s.Prefix++[s.Symbol]) s.Suffix).2)
 else if aE (bT l (refR l o (s.Prefix++[s.Symbol]) s.Suffix).1)≠0 then(l,[],aE (bT l (refR l o (s.Prefix++[s.Symbol]) s.Suffix).1))
 else(bT l (refR l o (s.Prefix++[s.Symbol]) s.Suffix).1,[],0)
def grownL_sm(ht:N7 (lazT l)){A:A4}(h1:A.length<=1200)(h2:∀x∈A,x.length<=2100/\RngW x):SmT (lazT (bT l A)):=by
 have hp:l.Short.length<=600:=ht.p;refine⟨ht.sm.1,sml_sort (sml_append (by omega) ht.sm.2.1 ⟨by omega,λx hx=>by have:=(h2 x hx).1;unfold SmW;omega⟩),ht.sm.2.2.1,λx hx a ha=>?_⟩;rcases I8.1 ((dL _ _).1 hx) with hx|hx
 ·exact ht.sm.2.2.2 x hx a ha
 ·exact(h2 x hx).2 a ha
def with_all(ht:N7 (lazT l))(hAp:Asc l.Short){A:A4}(h1:A.length<=1200)(h2:∀x∈A,x.length<=2100/\RngW x)(c:A4×Int×I7)(hcA:c.1=A) :
  iter (λ(s:A4×Nat)=>fL.s2 c s.1 s.2) fuel (l.Short,0)=some (sortW (l.Short++A)):=by
 have hp:l.Short.length<=600:=ht.p;have a2:∀i x,x∈(A.take i).foldl insW l.Short->x∈l.Short\/x∈A:=λi x hx=>((qC (A.take i) l.Short hAp).2.1 x).1 hx |>.imp_right Q4
 refine V3 (λs=>s.2<=A.length/\s.1=(A.take s.2).foldl insW l.Short) (λs=>A.length-s.2) (λs ⟨g1,g2⟩=>?_) ⟨F7 _,rfl⟩;obtain⟨y,i⟩:=s;simp only at g1 g2;subst g2;obtain⟨q1,q2,q3⟩:=qC (A.take i) l.Short hAp;simp only[fL.s2];rw[hcA];by_cases g3:i<A.length
 ·left;have hx:=get_at g3;have a3:=h2 _ (J3 g3);refine⟨((A.take (i+1)).foldl insW l.Short,i+1),?_,⟨g3,rfl⟩,by simp only;omega⟩;rw[K8 hx,G5,C8 hx,BH q1 ⟨by rw[H6]at q3;omega,λx hx=>?_⟩ (by unfold SmW;omega),A6,Q2 hx,List.foldl_append]
  ·rfl
  ·rcases a2 i x hx with h|h
   ·exact ht.sm.2.1.2 x h
   ·have:=(h2 x h).1;unfold SmW;omega
 ·right;have e:i=A.length:=by omega
  subst e;rw[B4,T0,sortW_append,qM hAp]
def zyu(ho:SmO o)(hv:J9 o)(ht:N7 (lazT l)){s:N5}(h1:SmW s.Prefix)(h2:SmW s.Suffix):fL l o s=some (gI l o s):=by
 have hS:SmL l.X:=ht.sm.2.2.1;have hn:l.I<=4:=ht.n;unfold fL gI;rw[BR ht.sm,A6];by_cases hc:chkL l o=0
 ·obtain⟨_,_,_,a4⟩:=chk_laz hc;obtain⟨_,_,a8,b2,_⟩:=bI a4;rw[B4 (by simpa using hc),if_neg (by simpa using hc),lU _ _ h1,A6];by_cases a2:lN s l.I=0
  ·rw[if_neg (by simpa using a2)];obtain⟨H,c1,c2,c3,c4,c5⟩:=proper_in a2 (by omega);rw[B4 (by simpa using c1),or_step,B4,B4 (λh=>c5 (S7 (by omega))),lU _ _ h2,A6,B4 (by simpa using c2)];rw[gT _ (by simp) (by unfold SmW at h1;simp;omega),A6,pO];obtain⟨a3,a9,M,b,e,P⟩:=zu4 ho hv ht hc H;have hA:=EX (o:=o) ht H;rw[e,A6];generalize refR l o (s.Prefix++[s.Symbol]) s.Suffix=res at P hA ⊢;rcases P with⟨rfl,p⟩|⟨rfl,p1,p2⟩|⟨rfl,rfl,p1,p2,p3⟩|⟨rfl,rfl,rfl,rfl⟩
   ·simp only[G5];rw[p];rfl
   ·simp only[G0];rw[E2 p1,p2];unfold T6;rw[E6 p1];rfl
   ·simp only[G0,ne_eq,not_true_eq_false,decide_false];rw[E2 (pos_len p1),JK p2,A6,p3];have a6:maxR M≠[]:=λh=>p1 (rU.1 h);rw[if_pos (by unfold T6;simp[a6])]
   ·have a5:=grownL_sm ht hA.1 hA.2;simp only[G0,ne_eq,not_true_eq_false,decide_false,L2,DD,Int.ofNat_zero,Int.lt_irrefl];rw[with_all ht a8 hA.1 hA.2 _ rfl,A6,show(⟨l.I,sortW (l.Short++a3),l.X⟩:E1)=bT l a3 from rfl,xP a5,A6];have a7:T6 (([]:A4),(0:Int))=false:=rfl;rw[a7,if_neg (by simp)];by_cases c5:aE (bT l a3)=0
    ·rw[B4 (by simpa using c5),if_neg (by simpa using c5),CB a5.2.1 hS,A6]
    ·rw[E2 c5,if_pos c5]
  ·rw[if_pos a2];unfold lN at a2 ⊢;by_cases c1:I2 s.Prefix l.I=0
   ·rw[if_neg (by simpa using c1)]at a2 ⊢;rw[B4 (by simpa using c1),or_step];by_cases c2:s.Symbol<0\/l.I<=s.Symbol
    ·rw[if_pos c2,E6 c2];rfl
    ·rw[if_neg c2]at a2 ⊢;rw[B4 c2];by_cases c3:s.Suffix=[]
     ·rw[if_pos c3,c3];rfl
     ·rw[if_neg c3]at a2 ⊢;rw[B4 (λh=>c3 (S7 (by omega))),lU _ _ h2,A6,E2 a2]
   ·rw[if_pos c1,E2 c1]
 ·rw[E2 hc,if_pos hc]
def refineL_ok(ht:N7 (lazT l)){s:N5}:SmL (gI l o s).1.Short/\SmL (gI l o s).1.X/\SmL (gI l o s).2.1:=by
 have h0:∀x:Int,SmL (l,([]:A4),x).1.Short/\SmL (l,([]:A4),x).1.X/\SmL (l,([]:A4),x).2.1:=λx=>⟨ht.sm.2.1,ht.sm.2.2.1,gH⟩;have hn:l.I<=4:=ht.n;unfold gI;split
 ·exact h0 _
 ·split
  ·exact h0 _
  ·rename_i a2;obtain⟨H,_⟩:=proper_in (iH.1 a2) (by omega);have hA:=EX (o:=o) ht H;split
   ·exact⟨ht.sm.2.1,ht.sm.2.2.1,refR_ask ht _ _⟩
   ·split
    ·exact h0 _
    ·have:=grownL_sm ht hA.1 hA.2;exact⟨this.2.1,this.2.2.1,gH⟩
end
end
section
structure GrowOk(l u:E1):Prop where
 v:aE u=0
 sm:SmT (lazT u)
 p:∀x∈l.Short,x∈u.Short
 s:∀x∈l.X,x∈u.X
section
variable {l u:E1}{o:A7}
def nT(h:aE u=0):P5 (lazT u)=0/\sufB u.X=true:=by
 unfold aE at h;split at h
 ·rename_i h1;exact absurd h h1
 ·rename_i h1;split at h
  ·rename_i h2;exact⟨iH.1 h1,h2⟩
  ·cases h
end
end
section
section
variable {t:C6}{o:A7}
def H5.validM0(H:H5 t o):S4 (hypT t o).M=0:=by
 have:=H.valid6;rw[nN]at this;injection this
def H5.acc(H:H5 t o){s:Nat}(hs:s<(hypT t o).M.N.length):∃q,q∈t.P/\(hypT t o).Access[s]?=some q/\dest (hypT t o).M 0 q=s/\WOk t.I q/\I2 q t.I=0/\q.length<=400:=by
 have a2:=(Z7 H.hz).1;rw[H.nlen.1]at hs;obtain⟨q,hq,q1,_,_,q4⟩:=H.state hs;have hc:=(Z5 a2).1 q hq;exact⟨q,hq,q4,by rw[(H.walk _ q rfl hq).2,q1],W5 hc,hc,H.ht.pw q hq⟩
def H5.acc0(H:H5 t o):(hypT t o).Access[0]?=some []:=by
 have a2:(fstI (Q0 t o) t.P.length)[0]?=some 0:=by
  have hl:0<t.P.length:=(E4.1 H.nil).1
  have h1:newAt (Q0 t o) 0=true:=by
   unfold newAt Q0;rw[I9,H.nil];simp
  unfold fstI;obtain⟨k,hk⟩:∃k,t.P.length=k+1:=⟨t.P.length-1,by omega⟩;rw[hk,List.range_succ_eq_map,vC h1];rfl
 show((fstI (Q0 t o) t.P.length).map (O8 t))[0]?=_;rw[I9,a2];show some (O8 t 0)=_;unfold O8;rw[H.nil];rfl
def H5.valid_prog(H:H5 t o):eM (hypT t o)=some 0:=by
 have hI:(hypT t o).M.I=t.I:=rfl;have hS:(hypT t o).M.S=0:=rfl;obtain⟨l1,l2,l3⟩:=H.nlen;have hm:=H.mac;have hn:=hm.n1;have a2:=hm.n2;unfold eM;rw[uD,H.validM0,A6,B4 (by simp),l1,l3,B4]
 have key:=V4 (step:=λs=>eM.s2 (hypT t o) s) (l:=(hypT t o).Access) (λ_ _=>(none:Option Int)) (λi x hx=>by
  have hi:=(E4.1 hx).1
  obtain⟨q,_,q1,q2,_,q4,q5⟩:=H.acc (s:=i) (by omega)
  rw[hx]at q1
  injection q1 with q1
  subst q1
  simp only[eM.s2]
  rw[K8 hx,G5,C8 hx,ID (by unfold SmW;omega),A6]
  unfold fromM
  rw[if_neg (λh=>h H.validM0),hS,if_neg (by omega),if_neg (λh=>h q4)]
  simp[q2]) (by
  simp only[eM.s2]
  rw[T7]
  rfl) (by omega)
 rw[key,A6,V9.2 λi x _=>rfl];simp only[cS];rw[hS,E8 (n:=0) (i:=0) rfl H.acc0];rfl
end
def stW(h:I6)(w:A2)(i:Nat):Nat:=dest h.M h.M.S.toNat (w.take i)
def acW(h:I6)(w:A2)(i:Nat):A2:=(h.Access[stW h w i]?).getD []
def qW(h:I6)(w:A2)(i:Nat):A2:=acW h w i++w.drop i
def badW(h:I6)(o:A7)(w:A2)(i:Nat):Bool:=!decide (tailA o (acW h w i) (w.drop i)=outs h.M (stW h w i) (w.drop i))
def locW(h:I6)(o:A7)(w:A2):Nat->Nat->Nat->Nat⊕(N5×A2×Int)
 |0,lo,_=>.inl lo
 |n+1,lo,hi=>if 1<hi-lo then
   (if ansO o (qW h w ((lo+hi) / 2))=none then .inr (⟨[],0,[]⟩,qW h w ((lo+hi) / 2),0) else if badW h o w ((lo+hi) / 2)=true then locW h o w n ((lo+hi) / 2) hi else locW h o w n lo ((lo+hi) / 2))
  else .inl lo
def splW(h:I6)(o:A7)(w:A2)(i:Nat):N5×Int :=
 if(tailA o (acW h w i) (w.drop i)).head?≠some (ot h.M (stW h w i) ((w[i]?).getD 0).toNat) then(⟨[],0,[]⟩,15) else(⟨acW h w i,(w[i]?).getD 0,w.drop (i+1)⟩,0)
def Q7(h:I6)(o:A7)(w:A2):N5×A2×Int :=
 match locW h o w w.length 0 w.length with
 | .inl lo=>((splW h o w lo).1,[],(splW h o w lo).2)
 | .inr r=>r
structure S8(h:I6)(o:A7)(w:A2):Prop where
 mac:J6 h.M
 st:h.M.S=0
 acc:∀s,s<h.M.N.length->∃q,h.Access[s]?=some q/\q.length<=400
 ac0:h.Access[0]?=some []
 vp:eM h=some 0
 vr:eF h=some 0
 inp:h.M.I=o.I
 chk:I2 w h.M.I=0
 wl:w.length<=24
 ho:SmO o
 hv:J9 o
 kn:∃r,ansO o w=some r/\r≠outs h.M 0 w
section
variable {h:I6}{o:A7}{w:A2}
def S8.w0(F:S8 h o w):0<w.length:=by
 rcases uZ w with e|⟨v,x,e⟩
 ·obtain⟨r,h1,h2⟩:=F.kn;subst e;have h1:some []=some r:=h1;injection h1 with h1
  exact absurd h1.symm h2
 ·rw[e];simp
def S8.stl(F:S8 h o w)(i:Nat):stW h w i<h.M.N.length:=F.mac.dest (λy hy=>W5 F.chk y (Q4 hy)) (by have:=F.mac.st;omega)
def S8.ac(F:S8 h o w)(i:Nat):h.Access[stW h w i]?=some (acW h w i)/\(acW h w i).length<=400:=by
 obtain⟨q,h1,h2⟩:=F.acc _ (F.stl i);unfold acW;rw[h1];exact⟨rfl,h2⟩
def S8.ql(F:S8 h o w)(i:Nat):(qW h w i).length<=424:=by
 have h1:=(F.ac i).2;have h2:=F.wl;unfold qW;rw[D4,M0];omega
def st_zero(w:A2):stW h w 0=h.M.S.toNat:=by unfold stW;rw[CX];rfl
def S8.q0(F:S8 h o w):qW h w 0=w:=by
 unfold qW acW;rw[st_zero,F.st,show(Int.toNat 0)=0 from rfl,F.ac0];rfl
def S8.k0(F:S8 h o w):ansO o (qW h w 0)≠none:=by
 obtain⟨r,h1,_⟩:=F.kn;rw[F.q0,h1];exact λh=>by cases h
def outs_drop(i:Nat):(outs h.M h.M.S.toNat w).drop i=outs h.M (stW h w i) (w.drop i):=by
 unfold stW
 conv=>lhs;rw[<- rB i w,gR]
 rcases J0 w.length i with g|g
 ·rw[iL (l:=w) (by omega)];rw[iL (by rw[D4,bU,bU,H6,L2];omega)];rfl
 ·rw[vK (by rw[bU,H6];omega),iL (by rw[bU,H6];omega),aJ]
end
end
end Go.Proofs.YtdjagdnpnhmldaaGreatDoor.Sym

/-
  Parts of the proof, behind each other.
-/
import Derived.Test.YtciljgdafccmhaaGreatDoorM4
set_option linter.all false
set_option maxRecDepth 100000
namespace Go.Proofs.YtciljgdafccmhaaGreatDoor.Sym
section
section
variable {m t:zaa} {c:List Int}
def zkz (c:List Int) (s u:Nat):Prop:=c[s]?=some (↑u:Int)∧∀ s',s'<s→c[s']?≠some (↑u:Int)
theorem first_lt (F:FirstOcc c) {s u i v:Nat} (hs:zkz c s u) (hi:i<s) (hv:c[i]?=some (↑v:Int)):v<u:=by
 rcases Nat.lt_trichotomy v u with h | h | h
 ·exact h
 ·rw [h] at hv;exact absurd hv (hs.2 i hi)
 ·obtain ⟨s',h1,h2⟩:=F i v hv u h;exact absurd h2 (hs.2 s' (by omega))
theorem first_le (F:FirstOcc c) {s u i v:Nat} (hs:zkz c s u) (hv:c[i]?=some (↑v:Int)) (hu:u≤v):s≤i:=by
 rcases Nat.lt_or_ge i s with h | h
 ·have:=first_lt F hs h hv;omega
 ·exact h
structure Quo (t M:zaa) (c:List Int):Prop where
 inp:M.Inputs=t.Inputs
 start:M.Start=0
 len:M.Out.length=M.Next.length
 ub:∀ s,s<t.Next.length→∃ x:Nat,c[s]?=some (↑x:Int)∧x<M.Next.length
 row:∀ u,u<M.Next.length→∃ s r o,s<t.Next.length∧zkz c s u∧M.Next[u]?=some r∧M.Out[u]?=some o∧r.length=t.Inputs.toNat∧(∀ a,a<t.Inputs.toNat→r[a]?=c[nx t s a]?)∧t.Out[s]?=some o
 le:M.Next.length≤t.Next.length
variable {M:zaa}
theorem zrg (H:zdc t) (Q:Quo t M c) {u:Nat} (hu:u<M.Next.length):∃ s,s<t.Next.length∧zkz c s u∧∀ a,a<t.Inputs.toNat→c[nx t s a]?=some (↑(nx M u a):Int)∧ot M u a=ot t s a:=by
 obtain ⟨s,r,o,h1,h2,h3,h4,h5,h6,h7⟩:=Q.row u hu;refine ⟨s,h1,h2,fun a ha=>?_⟩;obtain ⟨x,x1,_⟩:=Q.ub _ (H.at h1 ha).1;have hr:=h6 a ha;rw [x1] at hr;refine ⟨?_,?_⟩
 ·rw [x1];unfold nx;rw [h3,Option.getD_some,hr,Option.getD_some,Int.toNat_natCast]
 ·unfold ot;rw [h4,h7]
theorem quo_step (H:zdc t) (C:ClsF t t.Next.length c) {s s' a:Nat} (hs:s<t.Next.length) (hs':s'<t.Next.length) (h:c[s]?=c[s']?) (ha:a<t.Inputs.toNat):ot t s a=ot t s' a∧c[nx t s a]?=c[nx t s' a]?:=by
 have h1:=E_all H hs hs' ((C.cls.cls s s' hs hs').1 h) (t.Next.length+1);exact ⟨(h1.2 a ha).1,(C.cls.cls _ _ (H.at hs ha).1 (H.at hs' ha).1).2 (h1.2 a ha).2⟩
theorem zps (H:zdc t) (C:ClsF t t.Next.length c) (Q:Quo t M c):∀ (w:List Int) (s u:Nat),s<t.Next.length→c[s]?=some (↑u:Int)→WOk t.Inputs w→outs M u w=outs t s w
 | [],_,_,_,_,_=>rfl
 | z::w,s,u,hs,hu,hw=>by
  have hz:=hw.head;have ha:z.toNat<t.Inputs.toNat:=by omega
  obtain ⟨x,x1,x2⟩:=Q.ub s hs
  have hux:u<M.Next.length:=by
   rw [hu] at x1;injection x1 with x1
   omega
  obtain ⟨s',h1,h2,h3⟩:=zrg H Q hux;obtain ⟨e1,e2⟩:=quo_step H C hs h1 (hu.trans h2.1.symm) ha;have h4:=h3 _ ha;have:=zps H C Q w (nx t s z.toNat) (nx M u z.toNat) (H.at hs ha).1 (by rw [e2,h4.1]) hw.tail;show ot M u z.toNat::outs M (nx M u z.toNat) w=ot t s z.toNat::outs t (nx t s z.toNat) w;rw [this,h4.2,e1]
theorem quo_ok (H:zdc t) (Q:Quo t M c):zdc M:=by
 have hn:=H.n1;have hn2:=H.n2;obtain ⟨x,_,x2⟩:=Q.ub 0 hn;have hle:=Q.le;refine ⟨by rw [Q.inp];exact H.i1,by rw [Q.inp];exact H.i2,by omega,by omega,by rw [Q.start];omega,Q.len,fun u hu=>?_⟩;have hi1:=H.i1;obtain ⟨s,r,o,h1,h2,h3,h4,h5,h6,h7⟩:=Q.row u hu;obtain ⟨x',y',e1,e2,e3,e4,e5,e6⟩:=H.row s h1;rw [h7] at e2;injection e2 with e2
 subst e2;refine ⟨r,o,h3,h4,by rw [Q.inp];omega,by rw [Q.inp];exact e4,fun v hv=>?_,e6⟩;obtain ⟨a,ha,rfl⟩:=List.mem_iff_getElem.1 hv;obtain ⟨z,z1,z2⟩:=Q.ub _ (H.at h1 (a:=a) (by omega)).1;have hr:=h6 a (by omega);rw [get_at ha,z1] at hr;injection hr with hr
 omega
theorem quo_can (H:zdc t) (C:ClsF t t.Next.length c) (Q:Quo t M c) (K:Can t):Can M:=by
 have hzero:∀ s,zkz c s 0→s=0:=fun s hs=>by
  obtain ⟨x,x1,_⟩:=Q.ub 0 H.n1;have:=first_le C.first hs x1 (Nat.zero_le _);omega
 have hpos:∀ s u,zkz c s u→0<u→0<s:=fun s u hs hu=>by
  rcases Nat.eq_zero_or_pos s with h | h
  ·subst h;obtain ⟨s',h1,_⟩:=C.first 0 u hs.1 0 hu;omega
  ·exact h
 have back:∀ {i a s u:Nat},i<s→i<t.Next.length→a<t.Inputs.toNat→zkz c s u→nx t i a=s→∃ v:Nat,c[i]?=some (↑v:Int)∧v<u∧nx M v a=u:=fun {i a s u} h1 h2 h3 h4 h5=>by
  obtain ⟨v,v1,v2⟩:=Q.ub i h2;refine ⟨v,v1,first_lt C.first h4 h1 v1,?_⟩;obtain ⟨s',g1,g2,g3⟩:=zrg H Q v2;have e:=(quo_step H C h2 g1 (v1.trans g2.1.symm) h3).2;have g4:=(g3 a h3).1;rw [← e,h5,h4.1] at g4;injection g4 with g4
  omega
 refine ⟨fun i a u hi ha hu hle=>?_,fun u hu hlt=>?_⟩
 ·rw [Q.inp] at ha ⊢;obtain ⟨s,h1,h2,h3⟩:=zrg H Q hi;have hD:=(h3 a ha).1;have hn1:=(H.at h1 ha).1
  have huM:u<M.Next.length:=by
   have:=(quo_ok H Q).at hi (a:=a) (by rw [Q.inp];exact ha);omega
  obtain ⟨su,g1,g2,g3⟩:=zrg H Q huM;have hsu:=first_le C.first g2 hD hle;obtain ⟨i',a',z1,z2,z3,z4⟩:=K.c4 s a su h1 ha (hpos su u g2 hu) hsu;obtain ⟨v,v1,v2,v3⟩:=back z3 (by omega) z1 g2 z4;refine ⟨v,a',z1,?_,v2,v3⟩
  have hle':i'≤s:=by
   rcases Nat.lt_or_ge s i' with q | q
   ·have:=znr q ha;omega
   ·exact q
  rcases Nat.lt_or_ge i' s with q | q
  ·have:=first_lt C.first h2 q v1;have:=znr this z1;omega
  ·have e:i'=s:=by omega
   subst e;have hv:=h2.1;rw [v1] at hv;injection hv with hv
   have:v=i:=by omega
   subst this;omega
 ·rw [Q.inp];obtain ⟨su,g1,g2,g3⟩:=zrg H Q hlt;obtain ⟨i,a,z1,z2,z3⟩:=K.c5 su (hpos su u g2 hu) g1;obtain ⟨v,v1,v2,v3⟩:=back z1 (by omega) z2 g2 z3;exact ⟨v,a,v2,z2,v3⟩
theorem quo_min (H:zdc t) (C:ClsF t t.Next.length c) (Q:Quo t M c) {i j:Nat} (hi:i<M.Next.length) (hj:j<M.Next.length) (h:Eqv M i M j):i=j:=by
 obtain ⟨s,h1,h2,_⟩:=zrg H Q hi;obtain ⟨s',g1,g2,_⟩:=zrg H Q hj
 have he:E t t.Next.length s s':=zn3 fun w _ hw=>by
  rw [← zps H C Q w s i h1 h2.1 hw,← zps H C Q w s' j g1 g2.1 hw];exact h w (by rw [Q.inp];exact hw)
 have:=(C.cls.cls s s' h1 g1).2 he;rw [h2.1,g2.1] at this;injection this with this
 omega
theorem quo_sem {L:List (Nat×List Int)} (T:TrimOk m t L) (C:ClsF t t.Next.length c) (Q:Quo t M c):zo0 m M:=by
 have H:=T.ok;have hK:0<t.Inputs.toNat:=by have:=H.i1;omega
 have hE:zfd (nx m) t.Inputs.toNat m.Start.toNat L:=by rw [T.inp];exact T.end_
 have hcan:=shape_can hE T.shape hK
 have h0:c[0]?=some (↑(0:Nat):Int):=by
  obtain ⟨x,x1,_⟩:=Q.ub 0 H.n1;rcases Nat.eq_zero_or_pos x with h | h
  ·rw [x1,h]
  ·obtain ⟨s',h1,_⟩:=C.first 0 x x1 0 h;omega
 refine ⟨quo_ok H Q,Q.inp.trans T.inp,Q.start,fun w hw=>?_,fun i j hi hj h=>quo_min H C Q hi hj h,quo_can H C Q hcan⟩;have hw':WOk t.Inputs w:=by rw [← Q.inp];exact hw
 rw [zps H C Q w 0 0 H.n1 h0 hw',trim_outs T w 0 _ T.end_.first (by rw [← T.inp];exact hw')]
theorem min_loop (H:zdc t) (C:ClsF t t.Next.length c) (e e2:Int):∃ P R,iter (fun (s:List (List Int)×List (List Int)×Nat)=>zbg.s32 (t,e) (c,e2) s.1 s.2.1 s.2.2) fuel ([],[],0)=some (P,R)∧Quo t (⟨t.Inputs,0,P,R⟩:zaa) c:=by
 have hn:=H.n2;have hn1:=H.n1;have hI:=H.i2;have hI1:=H.i1;have hc:=C.cls.len
 obtain ⟨r,hr,P,R,rfl,hQ⟩:=zbi (step:=fun (s:List (List Int)×List (List Int)×Nat)=>zbg.s32 (t,e) (c,e2) s.1 s.2.1 s.2.2) (fun s=>s.2.2≤t.Next.length∧s.2.1.length=s.1.length∧s.1.length≤s.2.2∧(∀ s',s'<s.2.2→∃ x:Nat,c[s']?=some (↑x:Int)∧x<s.1.length)∧∀ u,u<s.1.length→∃ s' r o,s'<s.2.2∧zkz c s' u∧s.1[u]?=some r∧s.2.1[u]?=some o∧r.length=t.Inputs.toNat∧(∀ a,a<t.Inputs.toNat→r[a]?=c[nx t s' a]?)∧t.Out[s']?=some o) (fun s=>t.Next.length-s.2.2) (fun r=>∃ P R,r=(P,R)∧Quo t (⟨t.Inputs,0,P,R⟩:zaa) c) (fun s ⟨q1,q2,q3,q4,q5⟩=>by
  obtain ⟨P,R,s⟩:=s
  simp only at q1 q2 q3 q4 q5
  simp only [zbg.s32]
  by_cases g:s<t.Next.length
  ·left
   obtain ⟨x,x1,x2⟩:=C.cls.rng s g
   rw [zkB (by omega),zkD,zam x1]
   by_cases hx:x<P.length
   ·refine ⟨(P,R,s+1),?_,⟨g,q2,by simp only;omega,fun s' hs'=>?_,fun u hu=>?_⟩,by simp only;omega⟩
    ·rw [zkB (by omega),zkD,zaq]
     rfl
    ·simp only at hs' ⊢
     rcases Nat.lt_or_ge s' s with h | h
     ·exact q4 s' h
     ·have:s'=s:=by omega
      subst this
      exact ⟨x,x1,hx⟩
    ·obtain ⟨s',r,o,z1,z2⟩:=q5 u hu
     exact ⟨s',r,o,by simp only;omega,z2⟩
   ·have hxe:x=P.length:=by
     rcases Nat.lt_or_ge P.length x with h | h
     ·obtain ⟨s',h1,h2⟩:=C.first s x x1 P.length h
      obtain ⟨y,y1,y2⟩:=q4 s' h1
      rw [h2] at y1
      injection y1 with y1
      omega
     ·omega
    subst hxe
    obtain ⟨row,out,e1,e2',e3,e4,e5,e6⟩:=H.row s g
    obtain ⟨r,hr,hrl,hra⟩:=zbi (step:=fun (q:List Int×Nat)=>zbg.s30 (c,e2) row q.1 q.2) (fun q=>q.2≤t.Inputs.toNat∧q.1.length=q.2∧∀ a,a<q.2→q.1[a]?=c[nx t s a]?) (fun q=>t.Inputs.toNat-q.2) (fun r=>r.length=t.Inputs.toNat∧∀ a,a<t.Inputs.toNat→r[a]?=c[nx t s a]?) (fun q ⟨w1,w2,w3⟩=>by
     obtain ⟨y,a⟩:=q
     simp only at w1 w2 w3
     simp only [zbg.s30]
     by_cases f:a<t.Inputs.toNat
     ·left
      obtain ⟨h1,_,_,x',y',h2,_,h4,_⟩:=H.at g f
      rw [e1] at h2
      injection h2 with h2
      subst h2
      have hcx:=get_at (l:=c) (i:=nx t s a) (by omega)
      refine ⟨(y++[c[nx t s a]'(by omega)],a+1),?_,⟨f,by simp [w2],fun b hb=>?_⟩,by simp only;omega⟩
      ·rw [zkB (by omega),zkD,zam h4,zbw rfl hcx,zas (by unfold zaw;omega)]
      ·simp only at hb ⊢
       rcases Nat.lt_or_ge b a with h | h
       ·rw [List.getElem?_append_left (by omega),w3 b h]
       ·have:b=a:=by omega
        subst this
        rw [List.getElem?_append_right (by omega),w2,Nat.sub_self,hcx]
        rfl
     ·right
      have:a=t.Inputs.toNat:=by omega
      subst this
      exact ⟨y,by rw [zkA (by omega),zkC],w2,w3⟩) fuel ([],0) ⟨Nat.zero_le _,rfl,fun a h=>absurd h (Nat.not_lt_zero _)⟩ (by have:=za2;simp only;omega)
    refine ⟨(P++[r],R++[out],s+1),?_,⟨g,by simp [q2],by simp;omega,fun s' hs'=>?_,fun u hu=>?_⟩,by simp only;omega⟩
    ·rw [zkA (by omega),zkC,zam e1,hr,zaq,zas (by unfold zaw;omega),zam e2',zas (by unfold zaw;simp;omega),zas (by unfold zaw;omega),zaq]
     rfl
    ·simp only at hs' ⊢
     rw [zkJ,List.length_singleton]
     rcases Nat.lt_or_ge s' s with h | h
     ·obtain ⟨y,y1,y2⟩:=q4 s' h
      exact ⟨y,y1,by omega⟩
     ·have:s'=s:=by omega
      subst this
      exact ⟨_,x1,by omega⟩
    ·simp only at hu ⊢
     rw [zkJ,List.length_singleton] at hu
     rcases Nat.lt_or_ge u P.length with h | h
     ·obtain ⟨s',r',o,z1,z2,z3,z4,z5⟩:=q5 u h
      exact ⟨s',r',o,by omega,z2,by rw [List.getElem?_append_left h,z3],by rw [List.getElem?_append_left (by omega),z4],z5⟩
     ·have:u=P.length:=by omega
      subst this
      refine ⟨s,r,out,by omega,⟨x1,fun s' hs' q=>?_⟩,by simp,?_,hrl,hra,e2'⟩
      ·obtain ⟨y,y1,y2⟩:=q4 s' hs'
       rw [q] at y1
       injection y1 with y1
       omega
      ·rw [List.getElem?_append_right (by omega),q2,Nat.sub_self]
       rfl
  ·right
   have:s=t.Next.length:=by omega
   subst this
   exact ⟨_,by rw [zkA (by omega),zkC],P,R,rfl,⟨rfl,rfl,q2,q4,q5,q3⟩⟩) fuel ([],[],0) ⟨Nat.zero_le _,rfl,Nat.le_refl _,fun s' h=>absurd h (Nat.not_lt_zero _),fun u h=>absurd h (Nat.not_lt_zero _)⟩ (by have:=za2;simp only;omega)
 exact ⟨P,R,hr,hQ⟩
theorem validM_of (H:zdc m):zdw m=0:=by
 have:=zss H;rw [zdh] at this;injection this
theorem zla (hv:zdw m=0):∃ M,zbg m=some (M,0)∧zo0 m M:=by
 obtain ⟨t,L,h1,T⟩:=mealy_Trim_eq hv;obtain ⟨c,h2,C⟩:=zmq (validM_of T.ok);obtain ⟨P,R,h3,Q⟩:=min_loop T.ok C 0 0;refine ⟨⟨t.Inputs,0,P,R⟩,?_,quo_sem T C Q⟩;unfold zbg;rw [h1,zaq,zkA (fun h=>h rfl),zkC,h2,zaq,zkA (fun h=>h rfl),zkC,h3,zaq];rfl
end
end
section
section
variable {m:zaa} {c:List Int}
def clN (c:List Int) (s:Nat):Nat:=((c[s]?).getD 0).toNat
open Classical in
noncomputable def rpN (m:zaa) (c:List Int) (x:Nat):Nat:=if h:∃ s,s<m.Next.length∧clN c s=x then Classical.choose h else 0
noncomputable def qE (m:zaa) (c:List Int) (x a:Nat):Nat:=clN c (nx m (rpN m c x) a)
noncomputable def qO (m:zaa) (c:List Int) (x a:Nat):Int:=ot m (rpN m c x) a
theorem ztb (C:zh2 m m.Next.length c) {s:Nat} (hs:s<m.Next.length):c[s]?=some (↑(clN c s):Int)∧clN c s<m.Next.length:=by
 obtain ⟨x,x1,x2⟩:=C.rng s hs;unfold clN;rw [x1,Option.getD_some,Int.toNat_natCast];exact ⟨rfl,x2⟩
theorem clN_iff (C:zh2 m m.Next.length c) {s t:Nat} (hs:s<m.Next.length) (ht:t<m.Next.length):clN c s=clN c t↔E m m.Next.length s t:=by
 rw [← C.cls s t hs ht,(ztb C hs).1,(ztb C ht).1];exact ⟨fun h=>by rw [h],fun h=>by injection h with h;omega⟩
theorem rpN_spec {s:Nat} (hs:s<m.Next.length):rpN m c (clN c s)<m.Next.length∧clN c (rpN m c (clN c s))=clN c s:=by
 have h:∃ s',s'<m.Next.length∧clN c s'=clN c s:=⟨s,hs,rfl⟩;unfold rpN;rw [dif_pos h];exact Classical.choose_spec h
theorem qE_eq (H:zdc m) (C:zh2 m m.Next.length c) {s a:Nat} (hs:s<m.Next.length) (ha:a<m.Inputs.toNat):qE m c (clN c s) a=clN c (nx m s a)∧qO m c (clN c s) a=ot m s a:=by
 obtain ⟨h1,h2⟩:=rpN_spec (c:=c) hs;have h3:=E_all H h1 hs ((clN_iff C h1 hs).1 h2) (m.Next.length+1);exact ⟨(clN_iff C (H.at h1 ha).1 (H.at hs ha).1).2 (h3.2 a ha).2,(h3.2 a ha).1⟩
noncomputable def qB (m:zaa) (c:List Int) (r:Nat):List (Nat×List Int):=bfsB (qE m c) m.Inputs.toNat (clN c m.Start.toNat) r
theorem qB_rng (H:zdc m) (C:zh2 m m.Next.length c):∀ (r:Nat),∀ x∈qB m c r,∃ s,s<m.Next.length∧clN c s=x.1
 | 0,x,hx=>by
  have:x=(clN c m.Start.toNat,[]):=by simpa [qB,bfsB] using hx
  subst this;exact ⟨m.Start.toNat,by have:=H.st;omega,rfl⟩
 | r+1,x,hx=>by
  have ih:=qB_rng H C r;unfold qB at hx;rw [bfsB] at hx;split at hx
  ·exact ih x hx
  ·rename_i y hy;split at hx
   ·exact ih x hx
   ·rcases List.mem_append.1 hx with h | h
    ·exact ih x h
    ·have hK:0<m.Inputs.toNat:=by have:=H.i1;omega
     obtain ⟨s,s1,s2⟩:=ih y (zkH hy);have ha:=Nat.mod_lt r hK;have hxe:x=(qE m c y.1 (r%m.Inputs.toNat),y.2++[(↑(r%m.Inputs.toNat):Int)]):=by simpa using h
     subst hxe;exact ⟨nx m s (r%m.Inputs.toNat),(H.at s1 ha).1,by rw [← s2,(qE_eq H C s1 ha).1]⟩
theorem qB_len (H:zdc m) (C:zh2 m m.Next.length c) (r:Nat):(qB m c r).length≤m.Next.length:=by
 have:=zhf (zi7 (e:=qE m c) (K:=m.Inputs.toNat) (s0:=clN c m.Start.toNat) r) (l':=List.range m.Next.length) fun x hx=>by
  obtain ⟨y,hy,rfl⟩:=List.mem_map.1 hx;obtain ⟨s,s1,s2⟩:=qB_rng H C r y hy;rw [← s2];exact List.mem_range.2 (ztb C s1).2
 rwa [zkK,List.length_range] at this
theorem qB_step {i a:Nat} {x:Nat×List Int} (ha:a<m.Inputs.toNat) (hx:(qB m c (i*m.Inputs.toNat+a))[i]?=some x) :
  qB m c (i*m.Inputs.toNat+(a+1))=if qE m c x.1 a∈(qB m c (i*m.Inputs.toNat+a)).map Prod.fst then qB m c (i*m.Inputs.toNat+a) else qB m c (i*m.Inputs.toNat+a)++[(qE m c x.1 a,x.2++[(↑a:Int)])]:=bfs_step ha hx
theorem qB_next {i:Nat}:qB m c (i*m.Inputs.toNat+m.Inputs.toNat)=qB m c ((i+1)*m.Inputs.toNat):=by rw [Nat.succ_mul]
theorem qB_get {i r:Nat} {x:Nat×List Int} (hx:(qB m c (i*m.Inputs.toNat))[i]?=some x) (hr:i*m.Inputs.toNat≤r):(qB m c r)[i]?=some x:=zgv (zg9 hr) hx
structure Nums (m:zaa) (c:List Int) (ord:List Nat) (num:List Int) (B:List (Nat×List Int)):Prop where
 ol:ord.length=B.length
 oc:∀ (j u:Nat) (x:Nat×List Int),ord[j]?=some u→B[j]?=some x→u<m.Next.length∧clN c u=x.1
 nl:num.length=m.Next.length
 n1:∀ (j:Nat) (x:Nat×List Int),B[j]?=some x→num[x.1]?=some (↑j:Int)
 n2:∀ x:Nat,x<m.Next.length→x∉B.map Prod.fst→num[x]?=some (-1:Int)
theorem Nums.push {ord:List Nat} {num:List Int} {B:List (Nat×List Int)} {u:Nat} {w:List Int} (N:Nums m c ord num B) (C:zh2 m m.Next.length c) (hu:u<m.Next.length) (hn:clN c u∉B.map Prod.fst) (hB:(B.map Prod.fst).Nodup):Nums m c (ord++[u]) (num.set (clN c u) (↑B.length:Int)) (B++[(clN c u,w)]):=by
 have hcl:=(ztb C hu).2;refine ⟨by simp [N.ol],fun j v x hj hx=>?_,by simp [N.nl],fun j x hx=>?_,fun x hx hm=>?_⟩
 ·rcases Nat.lt_or_ge j B.length with h | h
  ·rw [List.getElem?_append_left (by rw [N.ol];exact h)] at hj;rw [List.getElem?_append_left h] at hx;exact N.oc j v x hj hx
  ·have hl:=(zkI.1 hx).1;rw [zkJ,List.length_singleton] at hl;have:j=B.length:=by omega
   subst this;rw [List.getElem?_append_right (by rw [N.ol];exact Nat.le_refl _),N.ol,Nat.sub_self] at hj;rw [List.getElem?_append_right (Nat.le_refl _),Nat.sub_self] at hx;injection hj with hj
   injection hx with hx
   subst hj;subst hx;exact ⟨hu,rfl⟩
 ·rcases Nat.lt_or_ge j B.length with h | h
  ·rw [List.getElem?_append_left h] at hx;rw [List.getElem?_set_ne (fun q=>hn (by rw [q];exact List.mem_map.2 ⟨x,zkH hx,rfl⟩)),N.n1 j x hx]
  ·have hl:=(zkI.1 hx).1;rw [zkJ,List.length_singleton] at hl;have:j=B.length:=by omega
   subst this;rw [List.getElem?_append_right (Nat.le_refl _),Nat.sub_self] at hx;injection hx with hx
   subst hx;rw [List.getElem?_set_self (by rw [N.nl];exact hcl)]
 ·rw [List.map_append,List.mem_append,not_or] at hm;have h1:clN c u≠x:=fun q=>hm.2 (by simp [q]);rw [List.getElem?_set_ne h1];exact N.n2 x hx hm.1
theorem rmin_row (H:zdc m) (C:zh2 m m.Next.length c) {e:Int} {i:Nat} {x:Nat×List Int} {ord:List Nat} {num:List Int} (hx:(qB m c (i*m.Inputs.toNat))[i]?=some x) (N:Nums m c ord num (qB m c (i*m.Inputs.toNat))) :
  ∃ (ord':List Nat) (num' row out:List Int),iter (fun (s:List Int×List Int×List Int×List Int×Nat)=>zca.s56 m (c,e) i s.1 s.2.1 s.2.2.1 s.2.2.2.1 s.2.2.2.2) fuel (natI ord,num,[],[],0)=some (natI ord',num',row,out)∧Nums m c ord' num' (qB m c ((i+1)*m.Inputs.toNat))∧row.length=m.Inputs.toNat∧out.length=m.Inputs.toNat ∧
   ∀ a,a<m.Inputs.toNat→∃ (j:Nat) (z:Nat×List Int),(qB m c ((i+1)*m.Inputs.toNat))[j]?=some z∧z.1=qE m c x.1 a∧row[a]?=some (↑j:Int)∧out[a]?=some (qO m c x.1 a):=by
 have hI:=H.i2;have hn:=H.n2
 obtain ⟨r,hr,ord',num',row,out,rfl,g1,g2,g3,g4⟩:=zbi (step:=fun (s:List Int×List Int×List Int×List Int×Nat)=>zca.s56 m (c,e) i s.1 s.2.1 s.2.2.1 s.2.2.2.1 s.2.2.2.2) (fun s=>∃ ord':List Nat,s.1=natI ord'∧s.2.2.2.2≤m.Inputs.toNat∧Nums m c ord' s.2.1 (qB m c (i*m.Inputs.toNat+s.2.2.2.2))∧s.2.2.1.length=s.2.2.2.2∧s.2.2.2.1.length=s.2.2.2.2 ∧
   ∀ a,a<s.2.2.2.2→∃ (j:Nat) (z:Nat×List Int),(qB m c (i*m.Inputs.toNat+s.2.2.2.2))[j]?=some z∧z.1=qE m c x.1 a∧s.2.2.1[a]?=some (↑j:Int)∧s.2.2.2.1[a]?=some (qO m c x.1 a)) (fun s=>m.Inputs.toNat-s.2.2.2.2) (fun r=>∃ (ord':List Nat) (num' row out:List Int),r=(natI ord',num',row,out)∧Nums m c ord' num' (qB m c ((i+1)*m.Inputs.toNat))∧row.length=m.Inputs.toNat∧out.length=m.Inputs.toNat ∧
   ∀ a,a<m.Inputs.toNat→∃ (j:Nat) (z:Nat×List Int),(qB m c ((i+1)*m.Inputs.toNat))[j]?=some z∧z.1=qE m c x.1 a∧row[a]?=some (↑j:Int)∧out[a]?=some (qO m c x.1 a)) (fun s ⟨ord',q1,q2,q3,q4,q5,q6⟩=>by
  obtain ⟨o,num',row,out,a⟩:=s
  simp only at q1 q2 q3 q4 q5 q6
  subst q1
  simp only [zca.s56]
  by_cases g:a<m.Inputs.toNat
  ·left
   have hxa:=qB_get hx (r:=i*m.Inputs.toNat+a) (by omega)
   have hlen:=qB_len H C (i*m.Inputs.toNat+a)
   have hil:=(zkI.1 hxa).1
   have hv:=get_at (l:=ord') (i:=i) (by rw [q3.ol];exact hil)
   generalize ord'[i]'(by rw [q3.ol];exact hil)=v at hv
   obtain ⟨hvn,hvc⟩:=q3.oc i v x hv hxa
   obtain ⟨t1,_,_,xr,yr,e1,e2,e3,e4⟩:=H.at hvn g
   have hcE:=qE_eq H C hvn g
   rw [hvc] at hcE
   have hct:=ztb C t1
   have hstep:=qB_step g hxa
   rw [hcE.1] at hstep
   have hol:=q3.ol
   rw [zkB (by omega),zkD,zam (zn4 hv),zbw rfl e1,zam e3]
   have fin:∀ {ord2:List Nat} {num2:List Int} {B2:List (Nat×List Int)} {j:Nat} {z:Nat×List Int},qB m c (i*m.Inputs.toNat+(a+1))=B2→Nums m c ord2 num2 B2→B2[j]?=some z→z.1=clN c (nx m v a)→ord2[i]?=some v→(∀ (j:Nat) (z:Nat×List Int),(qB m c (i*m.Inputs.toNat+a))[j]?=some z→B2[j]?=some z) →
     zca.k55 m (c,e) i row out a (↑(nx m v a):Int) (natI ord2) num2=some (.inl (natI ord2,num2,row++[(↑j:Int)],out++[ot m v a],a+1)) ∧
     (∃ ord'':List Nat,natI ord2=natI ord''∧a+1≤m.Inputs.toNat∧Nums m c ord'' num2 (qB m c (i*m.Inputs.toNat+(a+1)))∧(row++[(↑j:Int)]).length=a+1∧(out++[ot m v a]).length=a+1∧∀ b,b<a+1→∃ (j':Nat) (z:Nat×List Int),(qB m c (i*m.Inputs.toNat+(a+1)))[j']?=some z∧z.1=qE m c x.1 b∧(row++[(↑j:Int)])[b]?=some (↑j':Int)∧(out++[ot m v a])[b]?=some (qO m c x.1 b)):=by
    intro ord2 num2 B2 j z hB N2 hz hz1 hv2 hmono
    refine ⟨?_,ord2,rfl,g,by rw [hB];exact N2,by simp [q4],by simp [q5],fun b hb=>?_⟩
    ·simp only [zca.k55]
     have:=N2.n1 j z hz
     rw [hz1] at this
     rw [zbw rfl hct.1,zbw rfl this,zas (by unfold zaw;omega),zam (zn4 hv2),zbw rfl e2,zam e4,zas (by unfold zaw;omega),zas (by unfold inR;omega)]
    ·rw [hB]
     rcases Nat.lt_or_ge b a with h | h
     ·obtain ⟨j',z',w1,w2,w3,w4⟩:=q6 b h
      exact ⟨j',z',hmono _ _ w1,w2,by rw [List.getElem?_append_left (by omega),w3],by rw [List.getElem?_append_left (by omega),w4]⟩
     ·have:b=a:=by omega
      subst this
      exact ⟨j,z,hz,by rw [hz1,hcE.1],by rw [List.getElem?_append_right (by omega),q4,Nat.sub_self];rfl,by rw [List.getElem?_append_right (by omega),q5,Nat.sub_self,hcE.2];rfl⟩
   by_cases hm:clN c (nx m v a)∈(qB m c (i*m.Inputs.toNat+a)).map Prod.fst
   ·rw [if_pos hm] at hstep
    obtain ⟨z,hz,hz1⟩:=List.mem_map.1 hm
    obtain ⟨j,hj⟩:=List.mem_iff_getElem?.1 hz
    have hnum:=q3.n1 j z hj
    rw [hz1] at hnum
    obtain ⟨f1,f2⟩:=fin hstep q3 hj hz1 hv (fun _ _ h=>h)
    refine ⟨(natI ord',num',row++[(↑j:Int)],out++[ot m v a],a+1),?_,f2,by simp only;omega⟩
    rw [zbw rfl hct.1,zbw rfl hnum,zkA (by omega),zkC,zaq]
    exact f1
   ·rw [if_neg hm] at hstep
    have hnum:=q3.n2 _ hct.2 hm
    have N2:=q3.push (w:=x.2++[(↑a:Int)]) C t1 hm (zi7 _)
    obtain ⟨f1,f2⟩:=fin (j:=(qB m c (i*m.Inputs.toNat+a)).length) (z:=(clN c (nx m v a),x.2++[(↑a:Int)])) hstep N2 (by simp) rfl (by rw [List.getElem?_append_left (by omega),hv]) (fun j z h=>by rw [List.getElem?_append_left (zkI.1 h).1,h])
    refine ⟨(natI (ord'++[nx m v a]),num'.set (clN c (nx m v a)) (↑(qB m c (i*m.Inputs.toNat+a)).length:Int),row++[(↑(qB m c (i*m.Inputs.toNat+a)).length:Int)],out++[ot m v a],a+1),?_,f2,by simp only;omega⟩
    rw [zbw rfl hct.1,zbw rfl hnum,zkB (by omega),zkD,zbw rfl hct.1,zbw rfl hnum,zas (by unfold zaw;rw [zeh];omega),zqi,zeh,zaq,hol]
    exact f1
  ·right
   have:a=m.Inputs.toNat:=by omega
   subst this
   rw [qB_next] at q3 q6
   exact ⟨_,by rw [zkA (by omega),zkC],ord',num',row,out,rfl,q3,q4,q5,q6⟩) fuel (natI ord,num,[],[],0) ⟨ord,rfl,Nat.zero_le _,N,rfl,rfl,fun a h=>absurd h (Nat.not_lt_zero _)⟩ (by have:=za2;simp only;omega)
 exact ⟨ord',num',row,out,hr,g1,g2,g3,g4⟩
theorem zqn (hv:zdw m=0):∃ M,zca m=some (M,0)∧zo0 m M:=by
 have hv':zci m=some 0:=by rw [zex,hv]
 have H:=zek hv;have hn:=H.n2;have hst:=H.st;have hi1:=H.i1;have hi2:=H.i2;obtain ⟨c,c1,C⟩:=zpm hv' m.Next.length;rw [Nat.min_self] at C
 have hcl:zhx m=some (c,0):=by
  unfold zhx;rw [c1,zaq]
 unfold zca;rw [hcl,zaq,zkA (by simp),zkC,zas ⟨by omega,by omega,by unfold zaw;omega⟩]
 obtain ⟨y,hy,y1,y2⟩:=zbi (step:=fun (s:List Int×Nat)=>zca.s2 s.1 s.2) (fun s=>s.1.length=m.Next.length∧s.2≤m.Next.length∧∀ x,x<s.2→s.1[x]?=some (-1:Int)) (fun s=>m.Next.length-s.2) (fun r=>r.length=m.Next.length∧∀ x,x<m.Next.length→r[x]?=some (-1:Int)) (fun s ⟨g1,g2,g3⟩=>by
  obtain ⟨y,i⟩:=s
  simp only at g1 g2 g3
  simp only [zca.s2]
  by_cases g:i<y.length
  ·left
   have hx:=get_at g
   refine ⟨(y.set i (-1),i+1),by rw [zei hx,zkD,zam hx],⟨by simp [g1],by simp only;omega,fun x hx'=>?_⟩,by simp only;omega⟩
   simp only
   by_cases e:i=x
   ·subst e
    rw [List.getElem?_set_self g]
   ·rw [List.getElem?_set_ne e]
    exact g3 x (by simp only at hx';omega)
  ·right
   exact ⟨y,by rw [zkA (by omega),zkC],g1,fun x hx=>g3 x (by omega)⟩) fuel ((List.replicate m.Next.length 0),0) ⟨by simp,Nat.zero_le _,fun x h=>absurd h (Nat.not_lt_zero _)⟩ (by have:=za2;simp only;omega)
 have hs:m.Start.toNat<m.Next.length:=by omega
 obtain ⟨x1,x2⟩:=ztb C hs;rw [hy,zaq,zbw (i:=m.Start.toNat) (by omega) x1,zbw rfl (y2 _ x2)]
 have N0:Nums m c [m.Start.toNat] (y.set (clN c m.Start.toNat) 0) (qB m c 0):=by
  have hB0:qB m c 0=[(clN c m.Start.toNat,[])]:=rfl;refine ⟨rfl,fun j u x hj hx=>?_,by simp [y1],fun j x hx=>?_,fun x hx hm=>?_⟩
  ·have hl:=(zkI.1 hj).1;rw [List.length_singleton] at hl;have:j=0:=by omega
   subst this;rw [hB0] at hx;injection hj with hj
   injection hx with hx
   subst hj;subst hx;exact ⟨hs,rfl⟩
  ·rw [hB0] at hx;have hl:=(zkI.1 hx).1;rw [List.length_singleton] at hl;have:j=0:=by omega
   subst this;injection hx with hx
   subst hx;rw [List.getElem?_set_self (by omega)];rfl
  ·rw [hB0] at hm;rw [List.getElem?_set_ne (fun q=>hm (by simp [q])),y2 x hx]
 obtain ⟨r,hr,L,P,R,rfl,hE,p1,p2,p3⟩:=zbi (step:=fun (s:List Int×List Int×List (List Int)×List (List Int)×Nat)=>zca.s58 m (c,0) s.1 s.2.1 s.2.2.1 s.2.2.2.1 s.2.2.2.2) (fun s=>∃ ord:List Nat,s.1=natI ord∧Nums m c ord s.2.1 (qB m c (s.2.2.2.2*m.Inputs.toNat))∧s.2.2.2.2≤(qB m c (s.2.2.2.2*m.Inputs.toNat)).length∧s.2.2.1.length=s.2.2.2.2∧s.2.2.2.1.length=s.2.2.2.2 ∧
   ∀ (i:Nat) (x:Nat×List Int),i<s.2.2.2.2→(qB m c (s.2.2.2.2*m.Inputs.toNat))[i]?=some x→∃ row out,s.2.2.1[i]?=some row∧s.2.2.2.1[i]?=some out∧row.length=m.Inputs.toNat∧out.length=m.Inputs.toNat∧∀ a,a<m.Inputs.toNat→∃ (j:Nat) (z:Nat×List Int),(qB m c (s.2.2.2.2*m.Inputs.toNat))[j]?=some z∧z.1=qE m c x.1 a∧row[a]?=some (↑j:Int)∧out[a]?=some (qO m c x.1 a)) (fun s=>m.Next.length+1-s.2.2.2.2) (fun r=>∃ L P R,r=(P,R)∧zfd (qE m c) m.Inputs.toNat (clN c m.Start.toNat) L∧P.length=L.length∧R.length=L.length ∧
   ∀ (i:Nat) (x:Nat×List Int),L[i]?=some x→∃ row out,P[i]?=some row∧R[i]?=some out∧row.length=m.Inputs.toNat∧out.length=m.Inputs.toNat∧∀ a,a<m.Inputs.toNat→∃ (j:Nat) (z:Nat×List Int),L[j]?=some z∧z.1=qE m c x.1 a∧row[a]?=some (↑j:Int)∧out[a]?=some (qO m c x.1 a)) (fun s ⟨ord,q1,q2,q3,q4,q5,q6⟩=>by
  obtain ⟨o,num,P,R,i⟩:=s
  simp only at q1 q2 q3 q4 q5 q6
  subst q1
  have hlen:=qB_len H C (i*m.Inputs.toNat)
  have hol:=q2.ol
  simp only [zca.s58]
  by_cases g:i<(qB m c (i*m.Inputs.toNat)).length
  ·left
   have hx:=get_at g
   generalize (qB m c (i*m.Inputs.toNat))[i]=x at hx
   obtain ⟨ord',num',row,out,f1,f2,f3,f4,f5⟩:=rmin_row H C (e:=0) hx q2
   have hpre:qB m c (i*m.Inputs.toNat) <+: qB m c ((i+1)*m.Inputs.toNat):=zg9 (by rw [Nat.succ_mul];omega)
   have hmono:=hpre.length_le
   refine ⟨(natI ord',num',P++[row],R++[out],i+1),?_,⟨ord',rfl,f2,by simp only;omega,by simp [q4],by simp [q5],fun k z hk hz=>?_⟩,by simp only;omega⟩
   ·rw [zeh,zkB (by omega),zkD,f1,zaq]
    simp only [zca.k57]
    rw [zas (by unfold zaw;omega),zas (by unfold zaw;omega)]
   ·simp only at hk hz ⊢
    rcases Nat.lt_or_ge k i with h | h
    ·have hz0:=get_at (l:=qB m c (i*m.Inputs.toNat)) (i:=k) (by omega)
     have hz1:=zgv hpre hz0
     rw [hz] at hz1
     injection hz1 with hz1
     rw [← hz1] at hz0
     obtain ⟨row',out',w1,w2,w3,w4,w5⟩:=q6 k z h hz0
     refine ⟨row',out',by rw [List.getElem?_append_left (by omega),w1],by rw [List.getElem?_append_left (by omega),w2],w3,w4,fun a ha=>?_⟩
     obtain ⟨j,z',v1,v2⟩:=w5 a ha
     exact ⟨j,z',zgv hpre v1,v2⟩
    ·have:k=i:=by omega
     subst this
     have hx':=zgv hpre hx
     rw [hz] at hx'
     injection hx' with hx'
     subst hx'
     exact ⟨row,out,by rw [List.getElem?_append_right (by omega),q4,Nat.sub_self];rfl,by rw [List.getElem?_append_right (by omega),q5,Nat.sub_self];rfl,f3,f4,f5⟩
  ·right
   have he:(qB m c (i*m.Inputs.toNat)).length=i:=by omega
   refine ⟨(P,R),by rw [zeh,zkA (by omega),zkC],qB m c (i*m.Inputs.toNat),P,R,rfl,⟨?_⟩,by omega,by omega,fun k x hx=>q6 k x (by have:=(zkI.1 hx).1;omega) hx⟩
   rw [he]
   rfl) fuel ([m.Start],y.set (clN c m.Start.toNat) 0,[],[],0) ⟨[m.Start.toNat],by simp [natI];omega,by simp only;rw [Nat.zero_mul];exact N0,Nat.zero_le _,rfl,rfl,fun i x h=>absurd h (Nat.not_lt_zero _)⟩ (by have:=za2;simp only;omega)
 have hLn:L.length≤m.Next.length:=by
  rw [hE.eq];exact qB_len H C _
 have hLr:∀ x∈L,∃ s,s<m.Next.length∧clN c s=x.1:=by
  rw [hE.eq];exact qB_rng H C _
 have hL0:0<L.length:=(zkI.1 hE.first).1
 have hsh:Shape (qE m c) (qO m c) L (⟨m.Inputs,0,P,R⟩:zaa):=⟨p1,fun i x a hx ha=>by
  obtain ⟨row,out,w1,w2,w3,w4,w5⟩:=p3 i x hx
  obtain ⟨j,z,z1,z2,z3,z4⟩:=w5 a ha
  have e1:nx (⟨m.Inputs,0,P,R⟩:zaa) i a=j:=by
   unfold nx
   simp only
   rw [w1,Option.getD_some,z3,Option.getD_some,Int.toNat_natCast]
  refine ⟨z,by rw [e1];exact z1,z2,?_⟩
  unfold ot
  simp only
  rw [w2,Option.getD_some,z4,Option.getD_some]⟩
 have hok:zdc (⟨m.Inputs,0,P,R⟩:zaa):=by
  refine ⟨hi1,hi2,by simp only;omega,by simp only;omega,⟨Int.le_refl 0,by simp only;omega⟩,by simp only;omega,fun i hi=>?_⟩;simp only at hi ⊢;have hx:=get_at (l:=L) (i:=i) (by omega);obtain ⟨row,out,w1,w2,w3,w4,w5⟩:=p3 i _ hx;refine ⟨row,out,w1,w2,by omega,by omega,fun u hu=>?_,fun v hv=>?_⟩
  ·obtain ⟨a,ha,rfl⟩:=List.mem_iff_getElem.1 hu;obtain ⟨j,z,z1,_,z3,_⟩:=w5 a (by omega);rw [get_at ha] at z3;injection z3 with z3
   have:=(zkI.1 z1).1;omega
  ·obtain ⟨a,ha,rfl⟩:=List.mem_iff_getElem.1 hv;obtain ⟨j,z,_,_,_,z4⟩:=w5 a (by omega);rw [get_at ha] at z4;injection z4 with z4
   obtain ⟨s,s1,s2⟩:=hLr _ (zkH hx);have h:=H.at s1 (a:=a) (by omega);rw [← s2,(qE_eq H C s1 (a:=a) (by omega)).2] at z4;omega
 have houts:∀ (w:List Int) (i:Nat) (x:Nat×List Int) (s:Nat),L[i]?=some x→s<m.Next.length→clN c s=x.1→WOk m.Inputs w→outs (⟨m.Inputs,0,P,R⟩:zaa) i w=outs m s w:=by
  intro w
  induction w with
  | nil=>intro _ _ _ _ _ _ _;rfl
  | cons z w ih =>
   intro i x s hx hs hc hw;have hz:=hw.head;have ha:z.toNat<m.Inputs.toNat:=by omega
   obtain ⟨y,g1,g2,g3⟩:=hsh.row i x z.toNat hx ha;have hcE:=qE_eq H C hs ha;rw [hc] at hcE;have:=ih _ y (nx m s z.toNat) g1 (H.at hs ha).1 (by rw [g2,hcE.1]) hw.tail;show ot (⟨m.Inputs,0,P,R⟩:zaa) i z.toNat::outs _ (nx (⟨m.Inputs,0,P,R⟩:zaa) i z.toNat) w=ot m s z.toNat::outs m (nx m s z.toNat) w;rw [this,g3,hcE.2]
 refine ⟨⟨m.Inputs,0,P,R⟩,by rw [Int.toNat_natCast,hr,zaq];rfl,⟨hok,rfl,rfl,fun w hw=>houts w 0 _ _ hE.first hs rfl hw,fun i j hi hj h=>?_,shape_can (M:=(⟨m.Inputs,0,P,R⟩:zaa)) hE hsh (by simp only;omega)⟩⟩;simp only at hi hj;have hx:=get_at (l:=L) (i:=i) (by omega);have hy':=get_at (l:=L) (i:=j) (by omega);obtain ⟨s,s1,s2⟩:=hLr _ (zkH hx);obtain ⟨t,t1,t2⟩:=hLr _ (zkH hy')
 have he:E m m.Next.length s t:=zn3 fun w _ hw=>by
  rw [← houts w i _ s hx s1 s2 hw,← houts w j _ t hy' t1 t2 hw];exact h w hw
 have hc:=(clN_iff C s1 t1).2 he;exact nodup_at hE.nodup (x:=clN c s) (by rw [List.getElem?_map,hx,s2];rfl) (by rw [List.getElem?_map,hy',hc,t2];rfl)
theorem min_same (hv:zdw m=0):∃ M,zbg m=some (M,0)∧zca m=some (M,0)∧zo0 m M:=by
 obtain ⟨M,h1,h2⟩:=zla hv;obtain ⟨M',h3,h4⟩:=zqn hv;have:=minsem_uniq h2 h4;subst this;exact ⟨M,h1,h3,h2⟩
end
end
section
theorem zr2 {α:Type} [DecidableEq α] {l l':List α} (h:l.Nodup) (hs:∀ x∈l,x∈l') (hl:l'.length≤l.length):∀ x∈l',x∈l:=fun x hx=>Classical.byContradiction fun hn=>by
 have:=zhf (l:=x::l) (l':=l') (List.nodup_cons.2 ⟨hn,h⟩) fun y hy=>by
  rcases List.mem_cons.1 hy with rfl | hy
  ·exact hx
  ·exact hs y hy
 simp only [zkL] at this;omega
section
variable {m M:zaa}
theorem zdc.two (H:zdc m):Two m m:=⟨H,H,rfl⟩
open Classical in
noncomputable def sepR (m:zaa) (s t:Nat):List Int×Bool:=if h:∃ res,Fst m m (s,t) res then Classical.choose h else ([],false)
noncomputable def sepW (m:zaa) (s t:Nat):List Int:=(sepR m s t).1
noncomputable def sepB (m:zaa) (s t:Nat):Bool:=(sepR m s t).2
theorem sepR_of {s t:Nat} {res:List Int×Bool} (h:Fst m m (s,t) res):Fst m m (s,t) (sepW m s t,sepB m s t):=by
 have h':∃ res,Fst m m (s,t) res:=⟨res,h⟩;have:sepR m s t=Classical.choose h':=dif_pos h';show Fst m m (s,t) (sepR m s t);rw [this];exact Classical.choose_spec h'
theorem sep_fst (H:zdc m) {s t:Nat} (hs:s<m.Next.length) (ht:t<m.Next.length):Fst m m (s,t) (sepW m s t,sepB m s t):=by
 obtain ⟨res,_,h⟩:=zk3 H.two (p0:=(s,t)) hs ht;exact sepR_of h
theorem States_prog (hv:zdw m=0) {s t:Nat} (hs:s<m.Next.length) (ht:t<m.Next.length):zg1 m (↑s:Int) (↑t:Int)=some (sepW m s t,sepB m s t,0):=by
 have H:=zek hv;have hK:0<m.Inputs.toNat:=by have:=H.i1;omega
 obtain ⟨res,h1,h2⟩:=zk3 H.two (p0:=(s,t)) hs ht;have:=fst_uniq hK h2 (sepR_of h2);unfold zg1;rw [zdh,zaq,hv,zkA (by decide),zkC,zkA (by omega),zkC,zkA (by omega),zkC,zkA (by omega),zkC,zkA (by omega),zaq,zkC,h1,zaq,this]
theorem States_ref (hv:zdw m=0) {s t:Nat} (hs:s<m.Next.length) (ht:t<m.Next.length):zi3 m (↑s:Int) (↑t:Int)=some (sepW m s t,sepB m s t,0):=by
 have H:=zek hv;have hK:0<m.Inputs.toNat:=by have:=H.i1;omega
 obtain ⟨res,h1,h2⟩:=R09_first_eq H.two (p0:=(s,t)) hs ht;have:=fst_uniq hK h2 (sepR_of h2);unfold zi3;rw [zex,zaq,hv,zkA (by decide),zkC,zkA (by omega),zkC,zkA (by omega),zkC,zkA (by omega),zkC,zkA (by omega),zaq,zkC,h1,zaq,this]
theorem sepW_sm (H:zdc m) {s t:Nat} (hs:s<m.Next.length) (ht:t<m.Next.length):WOk m.Inputs (sepW m s t)∧(sepW m s t).length≤m.Next.length*m.Next.length*m.Inputs.toNat:=by
 have h:=sep_fst H hs ht;rcases h with ⟨i,c,x,g1,g2,g3,g4,g5⟩ | ⟨L,_,_,g⟩
 ·injection g5 with g5 _
  have hr:=zo8 H.two (p0:=(s,t)) hs ht _ x (zkH g2);have hlen:=pB_len H.two (p0:=(s,t)) hs ht (i*m.Inputs.toNat+c);have hi:=(zkI.1 g2).1;have:=znr (show i<m.Next.length*m.Next.length by omega) g1;refine ⟨?_,?_⟩
  ·rw [g5];refine WOk.append hr.2.2.2.2.2 fun z hz=>?_;have:z=(↑c:Int):=by simpa using hz
   omega
  ·rw [g5];simp;omega
 ·injection g with g _
  rw [g];exact ⟨fun a ha=>(by cases ha),Nat.zero_le _⟩
structure zjn (m:zaa):Prop where
 reach:∀ s,s<m.Next.length→∃ w,WOk m.Inputs w∧dest m m.Start.toNat w=s
 apart:∀ i j,i<m.Next.length→j<m.Next.length→Eqv m i m j→i=j
theorem can_reach (K:Can M) (hK:0<M.Inputs.toNat):∀ u,u<M.Next.length→∃ w,WOk M.Inputs w∧dest M 0 w=u:=by
 intro u
 induction u using Nat.strongRecOn with
 | ind u ih =>
  intro hu;by_cases hz:u=0
  ·subst hz;exact ⟨[],fun a ha=>(by cases ha),rfl⟩
  ·obtain ⟨i,a,h1,h2,h3⟩:=K.c5 u (by omega) hu;obtain ⟨w,w1,w2⟩:=ih i h1 (by omega);refine ⟨w++[(↑a:Int)],w1.append fun z hz=>?_,?_⟩
   ·have:z=(↑a:Int):=by simpa using hz
    omega
   ·rw [ze2,w2];show nx M i (Int.toNat ↑a)=u;rw [Int.toNat_natCast,h3]
theorem sem_minimal (S:zo0 m M):zjn M:=⟨fun s hs=>by
 have hK:0<M.Inputs.toNat:=by have:=S.ok.i1;omega
 rw [S.start]
 exact can_reach S.can hK s hs,S.min⟩
theorem sem_le (H:zdc m) (S:zo0 m M):M.Next.length≤m.Next.length∧(M.Next.length=m.Next.length↔zjn m):=by
 have hK:0<M.Inputs.toNat:=by have:=S.ok.i1;omega
 have hst:=H.st;have hreach:=can_reach S.can hK
 have hf:∀ u,∃ s,u<M.Next.length→s<m.Next.length∧Eqv M u m s∧∃ w,WOk m.Inputs w∧dest m m.Start.toNat w=s:=fun u=>by
  by_cases hu:u<M.Next.length
  ·obtain ⟨w,w1,w2⟩:=hreach u hu;have hw:WOk m.Inputs w:=by rw [← S.inp];exact w1
   refine ⟨dest m m.Start.toNat w,fun _=>⟨H.dest hw (by omega),?_,w,hw,rfl⟩⟩;have:=S.eqv.dest S.inp w1
   rwa [w2] at this
  ·exact ⟨0,fun h=>absurd h hu⟩
 obtain ⟨f,hf⟩:=Classical.axiomOfChoice hf
 have hinj:((List.range M.Next.length).map f).Nodup:=by
  refine List.pairwise_map.2 (List.Pairwise.imp_of_mem (fun {a b} ha hb hne he=>hne ?_) (List.nodup_range (n:=M.Next.length)));have h1:=hf a (List.mem_range.1 ha);have h2:=hf b (List.mem_range.1 hb);rw [← he] at h2;exact S.min a b (List.mem_range.1 ha) (List.mem_range.1 hb) (h1.2.1.trans S.inp (h2.2.1.symm S.inp))
 have hsub:∀ x∈(List.range M.Next.length).map f,x∈List.range m.Next.length:=fun x hx=>by
  obtain ⟨u,hu,rfl⟩:=List.mem_map.1 hx;exact List.mem_range.2 (hf u (List.mem_range.1 hu)).1
 have hle:=zhf hinj hsub;rw [zkK,List.length_range,List.length_range] at hle;refine ⟨hle,fun he=>⟨fun s hs=>?_,fun i j hi hj hij=>?_⟩,fun P=>?_⟩
 ·have:=zr2 hinj hsub (by simp [he]) s (List.mem_range.2 hs);obtain ⟨u,hu,rfl⟩:=List.mem_map.1 this;exact (hf u (List.mem_range.1 hu)).2.2
 ·obtain ⟨u,hu,rfl⟩:=List.mem_map.1 (zr2 hinj hsub (by simp [he]) i (List.mem_range.2 hi));obtain ⟨v,hv,rfl⟩:=List.mem_map.1 (zr2 hinj hsub (by simp [he]) j (List.mem_range.2 hj));have h1:=hf u (List.mem_range.1 hu);have h2:=hf v (List.mem_range.1 hv);have:=S.min u v (List.mem_range.1 hu) (List.mem_range.1 hv) ((h1.2.1.trans S.inp hij).trans S.inp (h2.2.1.symm S.inp));rw [this]
 ·have hg:∀ s,∃ u,s<m.Next.length→u<M.Next.length∧Eqv M u m s:=fun s=>by
   by_cases hs:s<m.Next.length
   ·obtain ⟨w,w1,w2⟩:=P.reach s hs;have hw:WOk M.Inputs w:=by rw [S.inp];exact w1
    refine ⟨dest M 0 w,fun _=>⟨S.ok.dest hw S.ok.n1,?_⟩⟩;have:=S.eqv.dest S.inp hw
    rwa [w2] at this
   ·exact ⟨0,fun h=>absurd h hs⟩
  obtain ⟨g,hg⟩:=Classical.axiomOfChoice hg
  have ginj:((List.range m.Next.length).map g).Nodup:=by
   refine List.pairwise_map.2 (List.Pairwise.imp_of_mem (fun {a b} ha hb hne he=>hne ?_) (List.nodup_range (n:=m.Next.length)));have h1:=hg a (List.mem_range.1 ha);have h2:=hg b (List.mem_range.1 hb);rw [← he] at h2;exact P.apart a b (List.mem_range.1 ha) (List.mem_range.1 hb) ((h1.2.symm S.inp).trans S.inp.symm h2.2)
  have:=zhf ginj (l':=List.range M.Next.length) fun x hx=>by
   obtain ⟨u,hu,rfl⟩:=List.mem_map.1 hx;exact List.mem_range.2 (hg u (List.mem_range.1 hu)).1
  rw [zkK,List.length_range,List.length_range] at this;omega
theorem reach_all {L:List (Nat×List Int)} {s0:Nat} (hE:MEnd m s0 L):∀ (w:List Int) (i:Nat) (x:Nat×List Int),L[i]?=some x→WOk m.Inputs w→∃ (j:Nat) (y:Nat×List Int),L[j]?=some y∧y.1=dest m x.1 w
 | [],i,x,hx,_=>⟨i,x,hx,rfl⟩
 | z::w,i,x,hx,hw=>by
  have hz:=hw.head;obtain ⟨j,y,h1,h2,_⟩:=hE.closed hx (a:=z.toNat) (by omega);obtain ⟨k,v,g1,g2⟩:=reach_all hE w j y h1 hw.tail;exact ⟨k,v,g1,by rw [g2,h2];rfl⟩
theorem minimal_prog (hv:zdw m=0):∃ b,ze7 m=some b∧(b=true↔zjn m):=by
 have H:=zek hv;have hst:=H.st;obtain ⟨M,h1,S⟩:=zla hv;obtain ⟨hle,hiff⟩:=sem_le H S;obtain ⟨L,hE,hR⟩:=zl2 hv;obtain ⟨hLn,hLr⟩:=mEnd_rng H (by omega) hE;refine ⟨decide (M.Next.length=m.Next.length),?_,by rw [decide_eq_true_iff];exact hiff⟩;unfold ze7;rw [zdh,zaq,hv,zkA (by decide),zkC,hR,zaq,zaq];by_cases hl:L.length=m.Next.length
 ·rw [zkA (by rw [zeh,zkK];omega),zkC,h1,zaq,zkB rfl,zkD,zaq];show some (decide ((↑M.Next.length:Int)=(↑m.Next.length:Int)))=_;congr 1;exact decide_eq_decide.2 (by omega)
 ·rw [zkB (by rw [zeh,zkK];omega),zkD,zkA];intro he;have P:=hiff.1 he
  have:=zhf (l:=List.range m.Next.length) (l':=L.map Prod.fst) List.nodup_range fun s hs=>by
   obtain ⟨w,w1,w2⟩:=P.reach s (List.mem_range.1 hs);obtain ⟨j,y,g1,g2⟩:=reach_all hE w 0 _ hE.first w1;exact List.mem_map.2 ⟨y,zkH g1,by rw [g2];exact w2⟩
  rw [List.length_range,zkK] at this;omega
theorem minimal_ref (hv:zdw m=0):∃ b,zhu m=some b∧(b=true↔zjn m):=by
 obtain ⟨M,h2,S⟩:=zqn hv;obtain ⟨hle,hiff⟩:=sem_le (zek hv) S;refine ⟨decide (M.Next.length=m.Next.length),?_,by rw [decide_eq_true_iff];exact hiff⟩;unfold zhu;rw [h2,zaq,zkB rfl,zkD,zaq];show some (decide ((↑M.Next.length:Int)=(↑m.Next.length:Int)))=_;congr 1;exact decide_eq_decide.2 (by omega)
open Classical in
noncomputable def chkM (m:zaa):Int:=if zdw m≠0 then zdw m else if zjn m then 0 else 1
open Classical in
theorem check_prog (m:zaa):zf0 m=some (chkM m):=by
 unfold chkM zf0;rw [zdh,zaq];by_cases hv:zdw m=0
 ·obtain ⟨b,h1,h3⟩:=minimal_prog hv;rw [zkA (by omega),zkC,h1,zaq,if_neg (fun h=>h hv)];cases b with
  | true=>rw [if_pos (h3.1 rfl)];rfl
  | false=>rw [if_neg (fun q=>by have:=h3.2 q;cases this)];rfl
 ·rw [zkB hv,zkD,if_pos hv]
open Classical in
theorem check_ref (m:zaa):zle m=some (chkM m):=by
 unfold chkM zle;rw [zex,zaq];by_cases hv:zdw m=0
 ·obtain ⟨b,h1,h3⟩:=minimal_ref hv;rw [zkA (by omega),zkC,h1,zaq,if_neg (fun h=>h hv)];cases b with
  | true=>rw [if_pos (h3.1 rfl)];rfl
  | false=>rw [if_neg (fun q=>by have:=h3.2 q;cases this)];rfl
 ·rw [zkB hv,zkD,if_pos hv]
end
end
section

end
section
section
variable {m M:zaa} {ids:List (List (List Int))} {front middle:List (List Int)}
structure Parts (M:zaa) (front middle:List (List Int)) (ids:List (List (List Int))):Prop where
 ok:zdw M=0
 il:ids.length=M.Next.length
 is_:∀ l∈ids,l.length≤200∧∀ x∈l,x.length≤600
 f1:front.length≤200
 f2:∀ u∈front,WOk M.Inputs u∧u.length≤200
 m1:middle.length≤200
 m2:∀ v∈middle,WOk M.Inputs v∧v.length≤200
theorem check_of {w:List Int} (H:zdc M) (h:WOk M.Inputs w) (hl:w.length≤1024):zi6 w M.Inputs=0:=by
 have:=H.i1;have:=H.i2;unfold zi6;rw [if_pos (by omega),if_neg (by omega),if_pos]
 exact List.all_eq_true.2 fun a ha=>by
  have:=h a ha;simp;omega
end
end
section
section
variable {M I:zaa} {sM sI k:Nat} {U:List (List Int)} {T:Nat→List (List Int)}
structure Pass (M I:zaa) (sM sI k:Nat) (U:List (List Int)) (T:Nat→List (List Int)):Prop where
 two:Two M I
 hM:sM<M.Next.length
 hI:sI<I.Next.length
 nil:[]∈U
 ok:∀ u∈U,WOk M.Inputs u
 cov:∀ s,s<M.Next.length→∃ u∈U,dest M sM u=s
 tne:∀ s,s<M.Next.length→∃ x,x∈T s
 tok:∀ s,∀ x∈T s,WOk M.Inputs x
 sep:∀ s s',s<M.Next.length→s'<M.Next.length→s≠s'→∃ x,x∈T s∧x∈T s'∧outs M s x≠outs M s' x
 pass:∀ u∈U,∀ v,WOk M.Inputs v→v.length≤k+1→∀ x∈T (dest M sM (u++v)),outs M sM (u++v++x)=outs I sI (u++v++x)
 few:∀ l:List Nat,l.Nodup→(∀ q∈l,∃ w,WOk M.Inputs w∧dest I sI w=q)→l.length≤M.Next.length+k
theorem ztg {a b:zaa} {s t:Nat} {w v:List Int} (h:outs a s (w++v)=outs b t (w++v)):outs a s w=outs b t w∧outs a (dest a s w) v=outs b (dest b t w) v:=by
 rw [zf8,zf8] at h;exact List.append_inj h (by rw [zhi,zhi])
variable (P:Pass M I sM sI k U T)
include P
theorem Pass.at_ {u v:List Int} (hu:u∈U) (hv:WOk M.Inputs v) (hl:v.length≤k+1):outs M sM (u++v)=outs I sI (u++v)∧∀ x∈T (dest M sM (u++v)),outs M (dest M sM (u++v)) x=outs I (dest I sI (u++v)) x:=by
 have hd:dest M sM (u++v)<M.Next.length:=P.two.a1.dest ((P.ok u hu).append hv) P.hM;obtain ⟨x,hx⟩:=P.tne _ hd;exact ⟨(ztg (P.pass u hu v hv hl x hx)).1,fun x hx=>(ztg (P.pass u hu v hv hl x hx)).2⟩
theorem Pass.uniq {u v u' v':List Int} (hu:u∈U) (hv:WOk M.Inputs v) (hl:v.length≤k+1) (hu':u'∈U) (hv':WOk M.Inputs v') (hl':v'.length≤k+1) (h:dest I sI (u++v)=dest I sI (u'++v')):dest M sM (u++v)=dest M sM (u'++v'):=Classical.byContradiction fun hne=>by
 obtain ⟨x,x1,x2,x3⟩:=P.sep _ _ (P.two.a1.dest ((P.ok u hu).append hv) P.hM) (P.two.a1.dest ((P.ok u' hu').append hv') P.hM) hne;have h1:=(P.at_ hu hv hl).2 x x1;have h2:=(P.at_ hu' hv' hl').2 x x2;rw [h] at h1;exact x3 (h1.trans h2.symm)
omit P
def Vj (I:zaa) (sI:Nat) (U:List (List Int)) (K:Int) (j q:Nat):Prop:=∃ u∈U,∃ v,WOk K v∧v.length≤j∧q=dest I sI (u++v)
def Closed (I:zaa) (sI:Nat) (U:List (List Int)) (K:Int) (j:Nat):Prop:=∀ q,Vj I sI U K j q→∀ a,a<K.toNat→Vj I sI U K j (nx I q a)
theorem dest_snoc {m:zaa} {s a:Nat} {w:List Int}:dest m s (w++[(↑a:Int)])=nx m (dest m s w) a:=by
 rw [ze2];show nx m _ (Int.toNat ↑a)=_;rw [Int.toNat_natCast]
theorem wok_snoc {K:Int} {w:List Int} {a:Nat} (h:WOk K w) (ha:a<K.toNat):WOk K (w++[(↑a:Int)]):=h.append fun z hz=>by
 have:z=(↑a:Int):=by simpa using hz
 omega
include P
theorem Pass.grow:∀ j,j≤k+1→Closed I sI U M.Inputs j∨∃ l:List Nat,l.Nodup∧(∀ q∈l,Vj I sI U M.Inputs j q)∧M.Next.length+j≤l.length
 | 0,_=>by
  right
  have hc:∀ s,∃ u,s<M.Next.length→u∈U∧dest M sM u=s:=fun s=>by
   by_cases hs:s<M.Next.length
   ·obtain ⟨u,h1,h2⟩:=P.cov s hs;exact ⟨u,fun _=>⟨h1,h2⟩⟩
   ·exact ⟨[],fun h=>absurd h hs⟩
  obtain ⟨f,hf⟩:=Classical.axiomOfChoice hc;have hnil:WOk M.Inputs []:=fun a ha=>(by cases ha);refine ⟨(List.range M.Next.length).map fun s=>dest I sI (f s),?_,fun q hq=>?_,by simp⟩
  ·refine List.pairwise_map.2 (List.Pairwise.imp_of_mem (fun {a b} ha hb hne he=>hne ?_) (List.nodup_range (n:=M.Next.length)));have h1:=hf a (List.mem_range.1 ha);have h2:=hf b (List.mem_range.1 hb);have:=P.uniq (v:=[]) (v':=[]) h1.1 hnil (by simp) h2.1 hnil (by simp) (by rw [List.append_nil,List.append_nil];exact he)
   rwa [List.append_nil,List.append_nil,h1.2,h2.2] at this
  ·obtain ⟨s,hs,rfl⟩:=List.mem_map.1 hq;exact ⟨f s,(hf s (List.mem_range.1 hs)).1,[],hnil,Nat.le_refl _,by rw [List.append_nil]⟩
 | j+1,hj=>by
  by_cases hcl:Closed I sI U M.Inputs j
  ·left
   have hsub:∀ (v:List Int) (u:List Int),u∈U→WOk M.Inputs v→∀ q,Vj I sI U M.Inputs j q→Vj I sI U M.Inputs j (dest I q v):=by
    intro v
    induction v with
    | nil=>intro _ _ _ q hq;exact hq
    | cons z v ih =>
     intro u hu hv q hq;have hz:=hv.head;exact ih u hu hv.tail _ (hcl q hq z.toNat (by omega))
   have hall:∀ q,Vj I sI U M.Inputs (j+1) q→Vj I sI U M.Inputs j q:=fun q ⟨u,hu,v,hv,_,he⟩=>by
    rw [he,ze2];exact hsub v u hu hv _ ⟨u,hu,[],fun a ha=>(by cases ha),Nat.zero_le _,by rw [List.append_nil]⟩
   have hup:∀ q,Vj I sI U M.Inputs j q→Vj I sI U M.Inputs (j+1) q:=fun q ⟨u,hu,v,hv,hl,he⟩=>⟨u,hu,v,hv,by omega,he⟩;exact fun q hq a ha=>hup _ (hcl q (hall q hq) a ha)
  ·right;rcases Pass.grow j (by omega) with h | ⟨l,l1,l2,l3⟩
   ·exact absurd h hcl
   ·obtain ⟨q,hq⟩:=Classical.not_forall.1 hcl;obtain ⟨hq,hq2⟩:=Classical.not_imp.1 hq;obtain ⟨a,ha⟩:=Classical.not_forall.1 hq2;obtain ⟨ha,hn⟩:=Classical.not_imp.1 ha;refine ⟨nx I q a::l,List.nodup_cons.2 ⟨fun h=>hn (l2 _ h),l1⟩,fun x hx=>?_,by rw [zkL];omega⟩;rcases List.mem_cons.1 hx with rfl | hx
    ·obtain ⟨u,hu,v,hv,hl,he⟩:=hq;exact ⟨u,hu,v++[(↑a:Int)],wok_snoc hv ha,by simp;omega,by rw [← List.append_assoc,dest_snoc,← he]⟩
    ·obtain ⟨u,hu,v,hv,hl,he⟩:=l2 x hx;exact ⟨u,hu,v,hv,by omega,he⟩
theorem Pass.closed:Closed I sI U M.Inputs k:=Classical.byContradiction fun hcl=>by
 rcases P.grow k (by omega) with h | ⟨l,l1,l2,l3⟩
 ·exact hcl h
 ·obtain ⟨q,hq⟩:=Classical.not_forall.1 hcl;obtain ⟨hq,hq2⟩:=Classical.not_imp.1 hq;obtain ⟨a,ha⟩:=Classical.not_forall.1 hq2;obtain ⟨ha,hn⟩:=Classical.not_imp.1 ha;have hreach:∀ x,Vj I sI U M.Inputs k x→∃ w,WOk M.Inputs w∧dest I sI w=x:=fun x ⟨u,hu,v,hv,_,he⟩=>⟨u++v,(P.ok u hu).append hv,he.symm⟩
  have:=P.few (nx I q a::l) (List.nodup_cons.2 ⟨fun h=>hn (l2 _ h),l1⟩) fun x hx=>by
   rcases List.mem_cons.1 hx with rfl | hx
   ·obtain ⟨w,w1,w2⟩:=hreach q hq;exact ⟨w++[(↑a:Int)],wok_snoc w1 ha,by rw [dest_snoc,w2]⟩
   ·exact hreach x (l2 x hx)
  rw [zkL] at this;omega
end
end
section
section
variable {m b M:zaa}
theorem zjs (x:List Int):zbn x x=x.length:=by
 induction x with
 | nil=>rfl
 | cons u x ih=>simp [zbn,ih]
end
end
section
section
variable {m b M:zaa}
end
end
section

end
section
theorem zos {R:Type} {F:Nat→R}:∀ (a b:List Int) (j:Nat) (B:Nat→Option Int),(∀ i,B (j+i)=b[i]?)→a.length=b.length→scan (fun k x=>if B k=some x then none else some (F k)) j a=if a=b then none else some (F (j+zbn a b))
 | [],[],_,_,_,_=>rfl
 | [],_::_,_,_,_,h=>by cases h
 | _::_,[],_,_,_,h=>by cases h
 | x::a,y::b,j,B,hB,h=>by
  have h0:B j=some y:=by have:=hB 0;simpa using this
  unfold scan;by_cases e:y=x
  ·subst e;rw [if_pos h0];show scan _ (j+1) a=_;rw [zos a b (j+1) B (fun i=>by have:=hB (i+1);rw [show j+1+i=j+(i+1) by omega];simpa using this) (by simpa using h)];by_cases e2:a=b
   ·subst e2;rw [if_pos rfl,if_pos rfl]
   ·rw [if_neg e2,if_neg (fun q=>e2 (by injection q))];rw [show j+1+zbn a b=j+zbn (y::a) (y::b) by simp [zbn];omega]
  ·rw [if_neg (fun q=>e (by rw [h0] at q;injection q)),if_neg (fun q=>e (by injection q with q1;exact q1.symm))];rw [show zbn (x::a) (y::b)=0 by simp [zbn,Ne.symm e]];rfl
theorem R08_Equal_eq {a b:List Int} (h:SmW a):ze6 a b=some (decide (a=b)):=by
 unfold ze6;by_cases hlen:a.length=b.length
 ·rw [zkA (by omega),zkC,zfh (l:=a) (fun k x=>if b[k]?=some x then none else some false) (fun k x hx=>?_) ?_ (by unfold SmW at h;omega),zaq,zos (F:=fun _=>false) a b 0 (fun k=>b[k]?) (fun i=>by rw [Nat.zero_add]) hlen]
  ·by_cases e:a=b
   ·rw [if_pos e,zkB e];rfl
   ·rw [if_neg e,zkA e];rfl
  ·simp only [ze6.s2];rw [zkA (by omega),zkC]
  ·have hk:=(zkI.1 hx).1;have hy:=get_at (show k<b.length by omega);simp only [ze6.s2];rw [zkB (by omega),zkD,zam hx,zam hy,hy];by_cases e:x=b[k]'(by omega)
   ·rw [zkA (fun h=>h e),zkC,if_pos (by rw [e])]
   ·rw [zkB e,zkD,if_neg (fun q=>e (by injection q with q;exact q.symm))]
 ·rw [zkB (by omega),zkD,zkA (fun e=>hlen (by rw [e]))]
section
variable {m b:zaa}
end
end
section
section
variable {m:zaa}
theorem fromM_ok (hv:zdw m=0) {s:Nat} (hs:s<m.Next.length) {w:List Int} (hw:zi6 w m.Inputs=0):fromM m (↑s:Int) w=(outs m s w,(↑(dest m s w):Int),0):=by
 unfold fromM;rw [if_neg (fun h=>h hv),if_neg (by omega),if_neg (fun h=>h hw),Int.toNat_natCast]
open Classical in
end
end
section
theorem slices_EqualD {a b:List Int} (h:SmW a):zbo a b=some (decide (a=b)):=by
 unfold zbo;by_cases hlen:a.length=b.length
 ·rw [zkA (by omega),zkC,zfh (l:=a) (fun k x=>if b[k]?=some x then none else some false) (fun k x hx=>?_) ?_ (by unfold SmW at h;omega),zaq,zos (F:=fun _=>false) a b 0 (fun k=>b[k]?) (fun i=>by rw [Nat.zero_add]) hlen]
  ·by_cases e:a=b
   ·rw [if_pos e,zkB e];rfl
   ·rw [if_neg e,zkA e];rfl
  ·simp only [zbo.s2];rw [zkA (by omega),zkC]
  ·have hk:=(zkI.1 hx).1;have hy:=get_at (show k<b.length by omega);simp only [zbo.s2];rw [zkB (by omega),zkD,zam hx,zam hy,hy];by_cases e:x=b[k]'(by omega)
   ·rw [zkA (fun h=>h e),zkC,if_pos (by rw [e])]
   ·rw [zkB e,zkD,if_neg (fun q=>e (by injection q with q;exact q.symm))]
 ·rw [zkB (by omega),zkD,zkA (fun e=>hlen (by rw [e]))]
section
variable {m:zaa}
def sepd (m:zaa) (s t:Nat) (acc:List (List Int)):Bool:=acc.any fun w=>decide (outs m s w≠outs m t w)
noncomputable def chStep (m:zaa) (s:Nat) (acc:List (List Int)) (t:Nat):List (List Int):=if sepd m s t acc=true then acc else acc++[sepW m s t]
noncomputable def chRow (m:zaa) (s:Nat) (acc:List (List Int)) (t:Nat):List (List Int):=(List.range' (s+1) (t-(s+1))).foldl (chStep m s) acc
noncomputable def chTo (m:zaa) (s:Nat):List (List Int):=(List.range s).foldl (fun acc s=>chRow m s acc m.Next.length) []
noncomputable def chS (m:zaa):List (List Int):=sortW (chTo m m.Next.length)
theorem zlm {s t:Nat} {acc:List (List Int)} (h:s<t):chRow m s acc (t+1)=chStep m s (chRow m s acc t) t:=by
 unfold chRow;rw [show t+1-(s+1)=(t-(s+1))+1 by omega,List.range'_concat,List.foldl_append,show s+1+1*(t-(s+1))=t by omega];rfl
theorem znb (s:Nat):chTo m (s+1)=chRow m s (chTo m s) m.Next.length:=by
 unfold chTo;rw [List.range_succ,List.foldl_append];rfl
theorem zj7 (H:zdc m) {s:Nat} (hs:s<m.Next.length) {w:List Int} (hw:WOk m.Inputs w) (hl:w.length≤100000000):zcs m (↑s:Int) w=some (outs m s w):=by
 unfold zcs
 have key:=zdx (step:=fun (q:Int×List Int×Nat)=>zcs.s2 m w q.1 q.2.1 q.2.2) (r:=outs m s w) (fun q=>q.2.2≤w.length∧q.1=(↑(dest m s (w.take q.2.2)):Int)∧q.2.1=outs m s (w.take q.2.2)) (fun q=>w.length-q.2.2) (fun q ⟨g1,g2,g3⟩=>by
  obtain ⟨st,y,k⟩:=q
  simp only at g1 g2 g3
  subst g2
  subst g3
  simp only [zcs.s2]
  by_cases g4:k<w.length
  ·left
   have hx:=get_at g4
   obtain ⟨x0,x1⟩:=hw _ (List.getElem_mem g4)
   have ha:w[k].toNat<m.Inputs.toNat:=by omega
   have hd:Sym.dest m s (w.take k)<m.Next.length:=H.dest (hw.take k) hs
   obtain ⟨_,_,_,x,y,e1,e2,e3,e4⟩:=H.at hd ha
   refine ⟨((↑(Sym.dest m s (w.take (k+1))):Int),outs m s (w.take (k+1)),k+1),?_,⟨g4,rfl,rfl⟩,by simp only;omega⟩
   rw [zei hx,zkD,zam hx,zbw rfl e2,zbw (i:=w[k].toNat) (by omega) e4,zas (by unfold zaw;rw [zhi,List.length_take];omega),zbw rfl e1,zbw (i:=w[k].toNat) (by omega) e3,zcw hx,ze2,zf8]
   rfl
  ·right
   have e:k=w.length:=by omega
   subst e
   rw [zkA (by omega),zkC,List.take_length]) (n:=fuel) (s:=((↑s:Int),[],0)) ⟨Nat.zero_le _,rfl,rfl⟩ (by have:=za2;simp only;omega)
 rw [zas ⟨Int.le_refl 0,by omega,by unfold zaw;omega⟩,key,zaq]
def ChOk (m:zaa) (acc:List (List Int)):Prop:=∀ w∈acc,WOk m.Inputs w∧w.length≤1024
theorem separated_eq (H:zdc m) {s t:Nat} (hs:s<m.Next.length) (ht:t<m.Next.length) {acc:List (List Int)} (hA:ChOk m acc) (hl:acc.length≤1000000):zel m acc (↑s:Int) (↑t:Int)=some (sepd m s t acc):=by
 unfold zel zbv;rw [zfh (l:=acc) (fun _ w=>if decide (outs m s w≠outs m t w)=true then some true else none) (fun i w hw=>?_) ?_ (by omega),zaq]
 ·unfold sepd;cases e:scan (fun _ w=>if decide (outs m s w≠outs m t w)=true then some true else none) 0 acc with
  | some r =>
   obtain ⟨i,x,hx,hg⟩:=zno e;split at hg
   ·rename_i h;injection hg with hg
    rw [List.any_eq_true.2 ⟨x,zkH hx,h⟩,← hg];rfl
   ·cases hg
  | none =>
   rw [List.any_eq_false.2 fun x hx=>by
    obtain ⟨i,hi,rfl⟩:=List.mem_iff_getElem.1 hx
    have:=zg4.1 e i _ (get_at hi)
    split at this
    ·cases this
    ·assumption]
   rfl
 ·simp only [zbv.s2];rw [zkA (by omega),zkC]
 ·have hi:=(zkI.1 hw).1;obtain ⟨h1,h2⟩:=hA w (zkH hw);simp only [zbv.s2];rw [zkB (by omega),zkD,zam hw];unfold zd4;rw [zj7 H hs h1 (by omega),zaq,zj7 H ht h1 (by omega),zaq,slices_EqualD (by unfold SmW;rw [zhi];omega),zaq,zaq];by_cases e:outs m s w=outs m t w
  ·rw [zkB e,Bool.not_true,zkC,if_neg (by simp [e])]
  ·rw [zkA e,Bool.not_false,zkD,if_pos (by simp [e])]
theorem R11_some_eq (hv:zdw m=0) {s t:Nat} (hs:s<m.Next.length) (ht:t<m.Next.length) {acc:List (List Int)} (hA:ChOk m acc) (hl:acc.length≤1000000):zf2 m (↑s:Int) (↑t:Int) acc=some (sepd m s t acc):=by
 have H:=zek hv;unfold zf2;rw [zfh (l:=acc) (fun _ w=>if decide (outs m s w≠outs m t w)=true then some true else none) (fun i w hw=>?_) ?_ (by omega),zaq]
 ·unfold sepd;cases e:scan (fun _ w=>if decide (outs m s w≠outs m t w)=true then some true else none) 0 acc with
  | some r =>
   obtain ⟨i,x,hx,hg⟩:=zno e;split at hg
   ·rename_i h;injection hg with hg
    rw [List.any_eq_true.2 ⟨x,zkH hx,h⟩,← hg];rfl
   ·cases hg
  | none =>
   rw [List.any_eq_false.2 fun x hx=>by
    obtain ⟨i,hi,rfl⟩:=List.mem_iff_getElem.1 hx
    have:=zg4.1 e i _ (get_at hi)
    split at this
    ·cases this
    ·assumption]
   rfl
 ·simp only [zf2.s2];rw [zkA (by omega),zkC]
 ·have hi:=(zkI.1 hw).1;obtain ⟨h1,h2⟩:=hA w (zkH hw);have hch:=check_of H h1 h2;simp only [zf2.s2];rw [zkB (by omega),zkD,zam hw];unfold zhc znj;rw [zrx (by unfold SmW;omega),zaq,zaq,zrx (by unfold SmW;omega),zaq,zaq,fromM_ok hv hs hch,fromM_ok hv ht hch,R08_Equal_eq (by unfold SmW;rw [zhi];omega),zaq,zaq];by_cases e:outs m s w=outs m t w
  ·rw [zkB e,Bool.not_true,zkC,if_neg (by simp [e])]
  ·rw [zkA e,Bool.not_false,zkD,if_pos (by simp [e])]
theorem chStep_ok (H:zdc m) (hb:m.Next.length*m.Next.length*m.Inputs.toNat≤1024) {s t:Nat} (hs:s<m.Next.length) (ht:t<m.Next.length) {acc:List (List Int)} (hA:ChOk m acc):ChOk m (chStep m s acc t)∧(chStep m s acc t).length≤acc.length+1:=by
 unfold chStep;split
 ·exact ⟨hA,by omega⟩
 ·refine ⟨fun w hw=>?_,by simp⟩;rcases List.mem_append.1 hw with h | h
  ·exact hA w h
  ·have:w=sepW m s t:=by simpa using h
   subst this;obtain ⟨h1,h2⟩:=sepW_sm H hs ht;exact ⟨h1,by omega⟩
theorem zp2 (H:zdc m) (hb:m.Next.length*m.Next.length*m.Inputs.toNat≤1024) {s:Nat} (hs:s<m.Next.length) {acc:List (List Int)} (hA:ChOk m acc):∀ t,t≤m.Next.length→ChOk m (chRow m s acc t)∧(chRow m s acc t).length≤acc.length+t
 | 0,_=>by
  unfold chRow;rw [Nat.zero_sub];exact ⟨hA,by simp⟩
 | t+1,ht=>by
  obtain ⟨h1,h2⟩:=zp2 H hb hs hA t (by omega);by_cases g:s<t
  ·rw [zlm g];obtain ⟨h3,h4⟩:=chStep_ok H hb hs (t:=t) (by omega) h1;exact ⟨h3,by omega⟩
  ·unfold chRow;rw [show t+1-(s+1)=0 by omega];exact ⟨hA,by simp⟩
theorem zmw (H:zdc m) (hb:m.Next.length*m.Next.length*m.Inputs.toNat≤1024):∀ s,s≤m.Next.length→ChOk m (chTo m s)∧(chTo m s).length≤s*m.Next.length
 | 0,_=>⟨fun w hw=>(by cases hw),by simp [chTo]⟩
 | s+1,hs=>by
  obtain ⟨h1,h2⟩:=zmw H hb s (by omega);rw [znb];obtain ⟨h3,h4⟩:=zp2 H hb (s:=s) (by omega) h1 m.Next.length (Nat.le_refl _);exact ⟨h3,by rw [Nat.succ_mul];omega⟩
theorem zp0 (H:zdc m) (hb:m.Next.length*m.Next.length*m.Inputs.toNat≤1024) {s:Nat} (hs:s≤m.Next.length):(chTo m s).length≤128*128:=by
 have h1:=(zmw H hb s hs).2;have hn:=H.n2;have h2:s*m.Next.length≤128*128:=Nat.mul_le_mul (by omega) hn;omega
theorem zmg (hv:zdw m=0) (P:zjn m) (hb:m.Next.length*m.Next.length*m.Inputs.toNat≤1024):zbj m=some (chS m,0):=by
 have H:=zek hv;have hn:=H.n2
 have hc:chkM m=0:=by
  unfold chkM;rw [if_neg (fun h=>h hv),if_pos P]
 unfold zbj;rw [check_prog m,zaq,hc,zkA (by decide),zkC]
 have inner:∀ s,s<m.Next.length→iter (fun (q:List (List Int)×Nat)=>zbj.s13 m s q.1 q.2) fuel (chTo m s,s+1)=some (.inl (chRow m s (chTo m s) m.Next.length)):=fun s hs=>by
  obtain ⟨c1,_⟩:=zmw H hb s (Nat.le_of_lt hs);have c2:=zp0 H hb (Nat.le_of_lt hs);refine zdx (fun q=>s<q.2∧q.2≤m.Next.length∧q.1=chRow m s (chTo m s) q.2) (fun q=>m.Next.length-q.2) (fun q ⟨q1,q2,q3⟩=>?_) ⟨Nat.lt_succ_self _,hs,by unfold chRow;rw [Nat.sub_self];rfl⟩ (by have:=za2;simp only;omega);obtain ⟨y,t⟩:=q;simp only at q1 q2 q3;subst q3;obtain ⟨d1,d2⟩:=zp2 H hb hs c1 t q2;simp only [zbj.s13];by_cases g:t<m.Next.length
  ·left;refine ⟨(chRow m s (chTo m s) (t+1),t+1),?_,⟨by simp only;omega,g,rfl⟩,by simp only;omega⟩;rw [zkB (by omega),zkD,separated_eq H hs g d1 (by omega),zaq,zlm q1];unfold chStep;cases e:sepd m s t (chRow m s (chTo m s) t) with
   | true =>
    rw [zkD,zaq,if_pos rfl];rfl
   | false =>
    rw [zkC,States_prog hv hs g,zaq];simp only;rw [zkA (fun h=>h rfl),zkC,zas (by unfold zaw;omega),zaq,if_neg (by decide)];rfl
  ·right;have:t=m.Next.length:=by omega
   subst this;rw [zkA (by omega),zkC]
 have outer:=zdx (step:=fun (q:List (List Int)×Nat)=>zbj.s14 m q.1 q.2) (r:=.inl (chTo m m.Next.length)) (fun q=>q.2≤m.Next.length∧q.1=chTo m q.2) (fun q=>m.Next.length-q.2) (fun q ⟨q1,q2⟩=>by
  obtain ⟨y,s⟩:=q
  simp only at q1 q2
  subst q2
  simp only [zbj.s14]
  by_cases g:s<m.Next.length
  ·left
   refine ⟨(chTo m (s+1),s+1),?_,⟨g,rfl⟩,by simp only;omega⟩
   rw [zkB (by omega),zkD,inner s g,zaq,znb]
   rfl
  ·right
   have:s=m.Next.length:=by omega
   subst this
   rw [zkA (by omega),zkC]) (n:=fuel) (s:=([],0)) ⟨Nat.zero_le _,rfl⟩ (by have:=za2;simp only;omega)
 rw [outer,zaq];have c2:=zp0 H hb (Nat.le_refl m.Next.length);show (zc3 (chTo m m.Next.length)).bind _=_
 rw [zeb ⟨by omega,fun w hw=>by
  have:=((zmw H hb m.Next.length (Nat.le_refl _)).1 w hw).2
  unfold SmW
  omega⟩,zaq]
 rfl
theorem zst (hv:zdw m=0) (P:zjn m) (hb:m.Next.length*m.Next.length*m.Inputs.toNat≤1024):zcj m=some (chS m,0):=by
 have H:=zek hv;have hn:=H.n2
 have hc:chkM m=0:=by
  unfold chkM;rw [if_neg (fun h=>h hv),if_pos P]
 unfold zcj;rw [check_ref m,zaq,hc,zkA (by decide),zkC]
 have inner:∀ s,s<m.Next.length→iter (fun (q:List (List Int)×Nat)=>zcj.s13 m s q.1 q.2) fuel (chTo m s,s+1)=some (chRow m s (chTo m s) m.Next.length):=fun s hs=>by
  obtain ⟨c1,_⟩:=zmw H hb s (Nat.le_of_lt hs);have c2:=zp0 H hb (Nat.le_of_lt hs);refine zdx (fun q=>s<q.2∧q.2≤m.Next.length∧q.1=chRow m s (chTo m s) q.2) (fun q=>m.Next.length-q.2) (fun q ⟨q1,q2,q3⟩=>?_) ⟨Nat.lt_succ_self _,hs,by unfold chRow;rw [Nat.sub_self];rfl⟩ (by have:=za2;simp only;omega);obtain ⟨y,t⟩:=q;simp only at q1 q2 q3;subst q3;obtain ⟨d1,d2⟩:=zp2 H hb hs c1 t q2;simp only [zcj.s13];by_cases g:t<m.Next.length
  ·left;refine ⟨(chRow m s (chTo m s) (t+1),t+1),?_,⟨by simp only;omega,g,rfl⟩,by simp only;omega⟩;rw [zkB (by omega),zkD,R11_some_eq hv hs g d1 (by omega),zaq,zlm q1];unfold chStep;cases e:sepd m s t (chRow m s (chTo m s) t) with
   | true =>
    rw [Bool.not_true,zkC,if_pos rfl]
   | false =>
    rw [Bool.not_false,zkD,States_ref hv hs g,zaq,zas (by unfold zaw;omega),if_neg (by decide)]
  ·right;have:t=m.Next.length:=by omega
   subst this;rw [zkA (by omega),zkC]
 have outer:=zdx (step:=fun (q:List (List Int)×Nat)=>zcj.s14 m q.1 q.2) (r:=chTo m m.Next.length) (fun q=>q.2≤m.Next.length∧q.1=chTo m q.2) (fun q=>m.Next.length-q.2) (fun q ⟨q1,q2⟩=>by
  obtain ⟨y,s⟩:=q
  simp only at q1 q2
  subst q2
  simp only [zcj.s14]
  by_cases g:s<m.Next.length
  ·left
   refine ⟨(chTo m (s+1),s+1),?_,⟨g,rfl⟩,by simp only;omega⟩
   rw [zkB (by omega),zkD,inner s g,zaq,znb]
  ·right
   have:s=m.Next.length:=by omega
   subst this
   rw [zkA (by omega),zkC]) (n:=fuel) (s:=([],0)) ⟨Nat.zero_le _,rfl⟩ (by have:=za2;simp only;omega)
 rw [outer,zaq];have c2:=zp0 H hb (Nat.le_refl m.Next.length)
 rw [zgn ⟨by omega,fun w hw=>by
  have:=((zmw H hb m.Next.length (Nat.le_refl _)).1 w hw).2
  unfold SmW
  omega⟩,zaq]
 rfl
end
end
section
theorem zh6 (l:List (List Int)) (hl:SmL l):zcb l=some (↑(zfc l):Int):=by
 have hl1:l.length≤2000000:=hl.1;unfold zcb zfc
 rw [(iter_fold (step:=fun (s:Int×Nat)=>zcb.s2 l s.1 s.2) (l:=l) (fun n _ w=>max n (↑w.length:Int)) (fun n=>n) (fun _ _=>True) (fun a i x _ hx=>by
   simp only [zcb.s2]
   rw [zei hx,zkD,zam hx]
   exact ⟨rfl,trivial⟩) (fun a _=>by
   simp only [zcb.s2]
   rw [zhp]
   rfl) (by omega) trivial).1,foldi_eq]
 show some (l.foldl (fun (n:Int) w=>max n (↑w.length:Int)) (↑(0:Nat):Int))=_;rw [zpc]
theorem zsk {w:List Int} (h:w.length≤100000) (h2:∀ a∈w,inR a):zjx w=some ⟨(keyL w).toArray⟩:=by
 unfold zjx;rw [zas h2,zas (by omega)]
theorem key_ne {w x:List Int} (h:w≠x):¬ ((⟨(keyL w).toArray⟩:ByteArray)=⟨(keyL x).toArray⟩):=fun e=>h (keyL_inj (by
 injection e with e
 injection e))
structure Known (mp:List (ByteArray×Bool)) (out:List (List Int)):Prop where
 nd:out.Nodup
 le:out.length≤10000
 get:∀ w:List Int,(mget (⟨(keyL w).toArray⟩:ByteArray) mp).getD false=decide (w∈out)
theorem Known.push {mp:List (ByteArray×Bool)} {out:List (List Int)} {x:List Int} (N:Known mp out) (hx:x∉out) (hl:out.length<10000):Known (mset ⟨(keyL x).toArray⟩ true mp) (out++[x]):=by
 refine ⟨?_,by simp;omega,fun w=>?_⟩
 ·rw [List.nodup_append]
  exact ⟨N.nd,by simp,fun a ha b hb e=>hx (by
   have:b=x:=by simpa using hb
   rw [← this,← e]
   exact ha)⟩
 ·by_cases h:w=x
  ·subst h;rw [zi0 ba_beq,zkB (by simp)];rfl
  ·rw [zih ba_beq (key_ne h),N.get w];exact decide_eq_decide.2 ⟨fun q=>List.mem_append_left _ q,fun q=>(List.mem_append.1 q).elim id fun q=>absurd (by simpa using q) h⟩
section
variable {p q:List (List Int)}
end
end
section
theorem ztk {α:Type} [DecidableEq α]:∀ {a b:List α},a.Nodup→(∀ x∈a,x∈b)→a.length≤b.length
 | [],_,_,_=>Nat.zero_le _
 | x::a,b,hn,h=>by
  obtain ⟨h1,h2⟩:=List.nodup_cons.1 hn;have hx:=h x List.mem_cons_self;have:=ztk (a:=a) (b:=b.erase x) h2 fun y hy=>(List.mem_erase_of_ne (fun e=>h1 (by rw [← e];exact hy))).2 (h y (List.mem_cons_of_mem _ hy));rw [List.length_erase_of_mem hx] at this;have hp:=List.length_pos_of_mem hx;rw [zkL];omega
def zin (a b:List (List Int)):List (List Int):=a.flatMap fun u=>b.map fun v=>u++v
theorem zjb {a b:List (List Int)} {x:List Int}:x∈zin a b↔∃ u∈a,∃ v∈b,x=u++v:=by
 unfold zin;simp only [List.mem_flatMap,List.mem_map];constructor
 ·rintro ⟨u,hu,v,hv,rfl⟩;exact ⟨u,hu,v,hv,rfl⟩
 ·rintro ⟨u,hu,v,hv,rfl⟩;exact ⟨u,hu,v,hv,rfl⟩
theorem zrp (a b:List (List Int)):(zin a b).length=a.length*b.length:=by
 unfold zin
 induction a with
 | nil=>simp
 | cons u a ih=>rw [List.flatMap_cons,zkJ,zkK,ih,zkL,Nat.add_mul];omega
section
variable {p q:List (List Int)}
theorem prod_row2 (hq:q.length≤10000) {u:List Int} (hu:∀ v∈q,u.length+v.length≤1024∧∀ a∈u++v,inR a) {mp:List (ByteArray×Bool)} {out:List (List Int)} (N:Known mp out) :
  ∃ r,iter (fun (s:(List (ByteArray×Bool))×List (List Int)×Nat)=>zaz.s54 q u s.1 s.2.1 s.2.2) fuel (mp,out,0)=some r∧((r=.inr (.inr (.inr ([],11)))∧∃ o:List (List Int),o.Nodup∧o.length=10000∧∀ x∈o,x∈out∨∃ v∈q,x=u++v)∨∃ mp' out',r=.inl (mp',out')∧Known mp' out'∧∀ x,x∈out'↔x∈out∨∃ v∈q,x=u++v):=by
 obtain ⟨r,hr,hp⟩:=zbi (step:=fun (s:(List (ByteArray×Bool))×List (List Int)×Nat)=>zaz.s54 q u s.1 s.2.1 s.2.2) (fun s=>s.2.2≤q.length∧Known s.1 s.2.1∧∀ x,x∈s.2.1↔x∈out∨∃ v∈q.take s.2.2,x=u++v) (fun s=>q.length-s.2.2) (fun r=>(r=.inr (.inr (.inr ([],11)))∧∃ o:List (List Int),o.Nodup∧o.length=10000∧∀ x∈o,x∈out∨∃ v∈q,x=u++v)∨∃ mp' out',r=.inl (mp',out')∧Known mp' out'∧∀ x,x∈out'↔x∈out∨∃ v∈q,x=u++v) (fun s ⟨q1,N,q3⟩=>by
  obtain ⟨mp,o,j⟩:=s
  simp only at q1 N q3
  simp only [zaz.s54]
  by_cases g:j<q.length
  ·have hv:=get_at g
   have hvm:=List.getElem_mem g
   generalize q[j]=v at hv hvm
   obtain ⟨hl,hR⟩:=hu v hvm
   have hj:zes [u,v]=some (u++v):=by
    rw [zg0 [u,v] (by simp) (by simp;omega)]
    simp
   have hstep:∀ x,(∃ w∈q.take (j+1),x=u++w)↔(∃ w∈q.take j,x=u++w)∨x=u++v:=fun x=>by
    rw [zcw hv]
    constructor
    ·rintro ⟨w,hw,he⟩
     rcases List.mem_append.1 hw with h | h
     ·exact Or.inl ⟨w,h,he⟩
     ·have:w=v:=by simpa using h
      rw [this] at he
      exact Or.inr he
    ·rintro (⟨w,hw,he⟩ | he)
     ·exact ⟨w,List.mem_append_left _ hw,he⟩
     ·exact ⟨v,List.mem_append_right _ (by simp),he⟩
   rw [zkB (by omega),zkD,zam hv,hj,zaq,zsk (by rw [zkJ];omega) hR,zaq,N.get]
   by_cases hm:u++v∈o
   ·left
    refine ⟨(mp,o,j+1),?_,⟨g,N,fun x=>?_⟩,by simp only;omega⟩
    ·rw [zkB hm,zkD,zaq]
     rfl
    ·simp only
     rw [hstep,q3 x]
     constructor
     ·rintro (h | h)
      ·exact Or.inl h
      ·exact Or.inr (Or.inl h)
     ·rintro (h | h | h)
      ·exact Or.inl h
      ·exact Or.inr h
      ·rw [h]
       exact (q3 _).1 hm
   ·rw [zkA hm,zkC]
    by_cases hf:o.length=10000
    ·right
     exact ⟨_,by rw [zkB (by omega),zkD,zaq];rfl,Or.inl ⟨rfl,o,N.nd,hf,fun x hx=>((q3 x).1 hx).imp id fun ⟨v,hv,e⟩=>⟨v,List.mem_of_mem_take hv,e⟩⟩⟩
    ·left
     have hle:=N.le
     refine ⟨(mset ⟨(keyL (u++v)).toArray⟩ true mp,o++[u++v],j+1),?_,⟨g,N.push hm (by omega),fun x=>?_⟩,by simp only;omega⟩
     ·rw [zkA (by omega),zkC,zas (by unfold zaw;omega),zaq]
      rfl
     ·simp only
      rw [hstep,List.mem_append,q3 x]
      constructor
      ·rintro ((h | h) | h)
       ·exact Or.inl h
       ·exact Or.inr (Or.inl h)
       ·exact Or.inr (Or.inr (by simpa using h))
      ·rintro (h | h | h)
       ·exact Or.inl (Or.inl h)
       ·exact Or.inl (Or.inr h)
       ·exact Or.inr (by simp [h])
  ·right
   have:j=q.length:=by omega
   subst this
   rw [List.take_length] at q3
   exact ⟨_,by rw [zkA (by omega),zkC],Or.inr ⟨mp,o,rfl,N,q3⟩⟩) fuel (mp,out,0) ⟨Nat.zero_le _,N,fun x=>by simp⟩ (by have:=za2;simp only;omega)
 exact ⟨r,hr,hp⟩
theorem prod_all2 (hp:p.length≤10000) (hq:q.length≤10000) (hu:∀ u∈p,∀ v∈q,u.length+v.length≤1024∧∀ a∈u++v,inR a) :
  ∃ r,iter (fun (s:(List (ByteArray×Bool))×List (List Int)×Nat)=>zaz.s56 p q s.1 s.2.1 s.2.2) fuel (([]:List (ByteArray×Bool)),[],0)=some r∧((r=.inr ([],11)∧∃ o:List (List Int),o.Nodup∧o.length=10000∧∀ x∈o,∃ u∈p,∃ v∈q,x=u++v)∨∃ out,r=.inl out∧out.Nodup∧out.length≤10000∧∀ x,x∈out↔∃ u∈p,∃ v∈q,x=u++v):=by
 obtain ⟨r,hr,hz⟩:=zbi (step:=fun (s:(List (ByteArray×Bool))×List (List Int)×Nat)=>zaz.s56 p q s.1 s.2.1 s.2.2) (fun s=>s.2.2≤p.length∧Known s.1 s.2.1∧∀ x,x∈s.2.1↔∃ u∈p.take s.2.2,∃ v∈q,x=u++v) (fun s=>p.length-s.2.2) (fun r=>(r=.inr ([],11)∧∃ o:List (List Int),o.Nodup∧o.length=10000∧∀ x∈o,∃ u∈p,∃ v∈q,x=u++v)∨∃ out,r=.inl out∧out.Nodup∧out.length≤10000∧∀ x,x∈out↔∃ u∈p,∃ v∈q,x=u++v) (fun s ⟨q1,N,q3⟩=>by
  obtain ⟨mp,o,i⟩:=s
  simp only at q1 N q3
  simp only [zaz.s56]
  by_cases g:i<p.length
  ·have hx:=get_at g
   have hxm:=List.getElem_mem g
   generalize p[i]=u at hx hxm
   obtain ⟨r,h1,h2⟩:=prod_row2 hq (hu u hxm) N
   rw [zkB (by omega),zkD,zam hx,h1,zaq]
   rcases h2 with ⟨rfl,o2,d1,d2,d3⟩ | ⟨mp',o',rfl,N',h3⟩
   ·right
    refine ⟨_,rfl,Or.inl ⟨rfl,o2,d1,d2,fun x hx=>?_⟩⟩
    rcases d3 x hx with h | ⟨v,hv,e⟩
    ·obtain ⟨u',hu',v,hv,e⟩:=(q3 x).1 h
     exact ⟨u',List.mem_of_mem_take hu',v,hv,e⟩
    ·exact ⟨u,hxm,v,hv,e⟩
   ·left
    refine ⟨(mp',o',i+1),rfl,⟨g,N',fun x=>?_⟩,by simp only;omega⟩
    simp only
    rw [h3,q3 x,zcw hx]
    constructor
    ·rintro (⟨w,hw,h⟩ | h)
     ·exact ⟨w,List.mem_append_left _ hw,h⟩
     ·exact ⟨u,List.mem_append_right _ (by simp),h⟩
    ·rintro ⟨w,hw,h⟩
     rcases List.mem_append.1 hw with k | k
     ·exact Or.inl ⟨w,k,h⟩
     ·have:w=u:=by simpa using k
      rw [this] at h
      exact Or.inr h
  ·right
   have:i=p.length:=by omega
   subst this
   rw [List.take_length] at q3
   exact ⟨_,by rw [zkA (by omega),zkC],Or.inr ⟨o,rfl,N.nd,N.le,q3⟩⟩) fuel ([],[],0) ⟨Nat.zero_le _,⟨by simp,by simp,fun w=>by simp [mget]⟩,fun x=>by simp⟩ (by have:=za2;simp only;omega)
 exact ⟨r,hr,hz⟩
end
theorem zkj {a b:List (List Int)} (ha:SmL a) (hb:SmL b) (ha1:a.length≤10000) (hb1:b.length≤10000) (hab:a.length*b.length<10000) (hl:zfc a+zfc b≤1024) (hR:∀ u∈a,∀ v∈b,u.length+v.length≤1024∧∀ z∈u++v,inR z) :
  ∃ r,zaz a b=some r∧(r.2=0∧Asc r.1∧r.1.length≤10000∧∀ x,x∈r.1↔∃ u∈a,∃ v∈b,x=u++v):=by
 unfold zaz;by_cases c1:a.length=0
 ·have:a=[]:=List.length_eq_zero_iff.1 c1;subst this;exact ⟨([],0),rfl,⟨rfl,List.Pairwise.nil,by simp,fun x=>by simp⟩⟩
 rw [zkA (by omega),zkC];by_cases c2:b.length=0
 ·have:b=[]:=List.length_eq_zero_iff.1 c2;subst this;exact ⟨([],0),rfl,⟨rfl,List.Pairwise.nil,by simp,fun x=>by simp⟩⟩
 rw [zkA (by omega),zaq,zkC,zh6 a ha,zaq,zh6 b hb,zaq,zas (by unfold inR;omega),zkA (by omega),zkC,zeb ha,zaq,zeb hb,zaq];have s1:=zdv a;have s2:=zdv b;rw [zkA (by omega),zkC];obtain ⟨r,h1,h2⟩:=prod_all2 (p:=sortW a) (q:=sortW b) (by omega) (by omega) (fun u hu v hv=>hR u ((zb9 a u).1 hu) v ((zb9 b v).1 hv));rw [h1,zaq];rcases h2 with ⟨rfl,o,d1,d2,d3⟩ | ⟨out,rfl,nd,le,hm⟩
 ·have h5:=ztk (b:=zin a b) d1 fun x hx=>by
   obtain ⟨u,hu,v,hv,e⟩:=d3 x hx;exact zjb.2 ⟨u,(zb9 a u).1 hu,v,(zb9 b v).1 hv,e⟩
  rw [zrp] at h5;omega
 ·have hml:∀ x,x∈out↔∃ u∈a,∃ v∈b,x=u++v:=fun x=>by
   rw [hm];constructor
   ·rintro ⟨u,hu,v,hv,h⟩;exact ⟨u,(zb9 a u).1 hu,v,(zb9 b v).1 hv,h⟩
   ·rintro ⟨u,hu,v,hv,h⟩;exact ⟨u,(zb9 a u).2 hu,v,(zb9 b v).2 hv,h⟩
  obtain ⟨S,e1,hp,hs⟩:=zti zjj (f:=fun u0 u1=>zdo u0 u1) (l:=out) (by omega) (fun x hx y _=>zhz x y (by
   obtain ⟨u,hu,v,hv,rfl⟩:=(hml x).1 hx
   have:=(hR u hu v hv).1
   rw [zkJ]
   omega))
  refine ⟨(S,0),?_,⟨rfl,?_,by rw [hp.length_eq];exact le,fun x=>by rw [hp.mem_iff];exact hml x⟩⟩
  ·show (zdy out _).bind _=_;unfold zdy;rw [e1,zaq]
  ·have hnd:S.Nodup:=hp.nodup_iff.2 nd;refine (hs.and hnd).imp fun {x y} ⟨h1,h2⟩=>?_;have hne:cmpW y x≠0:=fun q=>h2 ((zjj.zero y x).1 q).symm;have h3:=zjj.range y x;have h4:=(zjj.swap x y);omega
theorem zm7 {a b:List (List Int)} (ha:SmL a) (hb:SmL b) (ha1:a.length≤10000) (hb1:b.length≤10000) (hab:a.length*b.length<10000) (hl:zfc a+zfc b≤1024) (hR:∀ u∈a,∀ v∈b,u.length+v.length≤1024∧∀ z∈u++v,inR z):zaz a b=some (sortW (zin a b),0):=by
 obtain ⟨r,e,e2,hA,_,hm⟩:=zkj ha hb ha1 hb1 hab hl hR;rw [e];have:r.1=sortW (zin a b):=zr3 hA (zgh _) fun x=>by rw [hm,zb9,zjb]
 rw [← this,← e2]
theorem zlc (l:List (List Int)) (hl:SmL l):zcy l=some (↑(zfc l):Int):=by
 unfold zcy
 have h:=iter_fold (step:=fun (s:Int×Nat)=>zcy.s2 l s.1 s.2) (l:=l) (fun a _ x=>max a (↑x.length:Int)) (fun a=>a) (fun _ _=>True) (fun a i x _ hx=>by
  refine ⟨?_,trivial⟩
  simp only [zcy.s2]
  rw [zei hx,zkD,zam hx]) (fun a _=>by
  simp only [zcy.s2]
  rw [zhp]
  rfl) (by have:=hl.1;omega) (a0:=0) trivial
 rw [h.1,foldi_eq];have:=zpc l 0;simp only [Int.natCast_zero] at this;show some _=some _;rw [this];rfl
theorem zsb {a b:List (List Int)} (ha:SmL a) (hb:SmL b) (hab:a.length*b.length<10000) (hl:zfc a+zfc b≤1024) (hR:∀ u∈a,∀ v∈b,u.length+v.length≤1024):zcf a b=some (sortW (zin a b),0):=by
 unfold zcf
 have hc:(cond (decide (0<(↑a.length:Int))) (cond (decide (0<(↑b.length:Int))) ((zcy a).bind fun a2=>(zcy b).bind fun a6=>chk (inR (a2+a6)) (some (decide (1024<(a2+a6))))) (some false)) (some false):Option Bool)=some false:=by
  rw [zlc a ha,zaq,zlc b hb,zaq,zas (by unfold inR;omega),zkA (show ¬ (1024:Int)<(↑(zfc a):Int)+↑(zfc b) by omega)];cases decide (0<(↑a.length:Int))<;>cases decide (0<(↑b.length:Int))<;>rfl
 rw [hc,zaq,zkC,zgn ha,zaq,zgn hb,zaq];have s1:=zdv a;have s2:=zdv b;have hla:∀ u∈sortW a,∀ v∈sortW b,u.length+v.length≤1024:=fun u hu v hv=>hR u ((zb9 a u).1 hu) v ((zb9 b v).1 hv);have hmul:(sortW a).length*(sortW b).length≤a.length*b.length:=Nat.mul_le_mul s1 s2
 have hext:sortW (zin (sortW a) (sortW b))=sortW (zin a b):=zqr fun x=>by
  rw [zjb,zjb];constructor
  ·rintro ⟨u,hu,v,hv,e⟩;exact ⟨u,(zb9 a u).1 hu,v,(zb9 b v).1 hv,e⟩
  ·rintro ⟨u,hu,v,hv,e⟩;exact ⟨u,(zb9 a u).2 hu,v,(zb9 b v).2 hv,e⟩
 rw [← hext];generalize sortW a=p at *;generalize sortW b=q at *;have small:∀ (X:List (List Int)),X.length<10000→(∀ x∈X,x.length≤1024)→SmL (sortW X):=fun X h1 h2=>zpx ⟨by omega,fun x hx=>by have:=h2 x hx;unfold SmW;omega⟩
 have inner:∀ i u,p[i]?=some u→∀ y:List (List Int),y.length+q.length<10000→(∀ x∈y,x.length≤1024)→iter (fun (s:List (List Int)×Nat)=>zcf.s13 p q i s.1 s.2) fuel (sortW y,0)=some (.inl (sortW (y++q.map fun v=>u++v))):=fun i u hu y hy hyl=>by
  have hq1:∀ k,(q.take k).length≤q.length:=fun k=>by rw [List.length_take];omega
  have key:=zbi (step:=fun (s:List (List Int)×Nat)=>zcf.s13 p q i s.1 s.2) (fun s=>s.2≤q.length∧s.1=sortW (y++(q.take s.2).map fun v=>u++v)) (fun s=>q.length-s.2) (fun r=>r=.inl (sortW (y++q.map fun v=>u++v))) (fun ⟨z,k⟩ ⟨g1,g2⟩=>by
   simp only at g1 g2
   subst g2
   simp only [zcf.s13]
   by_cases h:k<q.length
   ·left
    have hx:=get_at h
    have hxm:=List.getElem_mem h
    generalize q[k]=v at hx hxm
    have huv:=hla u (zkH hu) v hxm
    have hw:∀ x∈y++(q.take k).map (fun v=>u++v),x.length≤1024:=fun x hx=>by
     rcases List.mem_append.1 hx with hx | hx
     ·exact hyl x hx
     ·obtain ⟨v',hv',rfl⟩:=List.mem_map.1 hx
      rw [zkJ]
      exact hla u (zkH hu) v' (List.mem_of_mem_take hv')
    have hwl:(y++(q.take k).map (fun v=>u++v)).length<10000:=by
     have:=hq1 k
     rw [zkJ,zkK]
     omega
    have hstep:sortW (y++(q.take (k+1)).map fun v=>u++v)=insW (sortW (y++(q.take k).map fun v=>u++v)) (u++v):=by
     rw [zcw hx,List.map_append,← List.append_assoc]
     exact zsx _ _
    have hlen:=zdv (y++(q.take (k+1)).map fun v=>u++v)
    have:=hq1 (k+1)
    rw [zkJ,zkK] at hlen
    refine ⟨(sortW (y++(q.take (k+1)).map fun v=>u++v),k+1),?_,⟨h,rfl⟩,by simp only;omega⟩
    rw [zei hx,zkD,zam hu,zam hx,zq9 [u,v] (by simp) (by simp;omega),zaq]
    simp only [List.flatten_cons,List.flatten_nil,List.append_nil]
    rw [zrh (zgh _) (small _ hwl hw) (by unfold SmW;rw [zkJ];omega),zaq,← hstep,zkA (by omega),zkC]
   ·right
    have e:k=q.length:=by omega
    subst e
    exact ⟨_,by rw [zhp,zkC],by rw [List.take_length]⟩) fuel (sortW y,0) ⟨Nat.zero_le _,by simp⟩ (by have:=za2;have:=ha.1;have:=hb.1;simp only;omega)
  obtain ⟨r,e,rfl⟩:=key;exact e
 have key:=zbi (step:=fun (s:List (List Int)×Nat)=>zcf.s14 p q s.1 s.2) (fun s=>s.2≤p.length∧s.1=sortW (zin (p.take s.2) q)) (fun s=>p.length-s.2) (fun r=>r=.inl (sortW (zin p q))) (fun ⟨z,i⟩ ⟨g1,g2⟩=>by
  simp only at g1 g2
  subst g2
  simp only [zcf.s14]
  by_cases h:i<p.length
  ·left
   have hx:=get_at h
   have hstep:zin (p.take (i+1)) q=zin (p.take i) q++q.map fun v=>p[i]++v:=by
    unfold zin
    rw [zcw hx,List.flatMap_append]
    simp
   refine ⟨(sortW (zin (p.take (i+1)) q),i+1),?_,⟨h,rfl⟩,by simp only;omega⟩
   have hlen:(zin (p.take i) q).length+q.length≤p.length*q.length:=by
    rw [zrp,List.length_take]
    have:(min i p.length+1)*q.length≤p.length*q.length:=Nat.mul_le_mul_right _ (by omega)
    rw [Nat.add_mul] at this
    omega
   rw [zei hx,zkD,inner i _ hx _ (by omega) (fun x hx=>by
    obtain ⟨u,hu,v,hv,rfl⟩:=zjb.1 hx
    rw [zkJ]
    exact hla u (List.mem_of_mem_take hu) v hv),zaq,hstep]
   rfl
  ·right
   have e:i=p.length:=by omega
   subst e
   exact ⟨_,by rw [zhp,zkC],by rw [List.take_length]⟩) fuel ([],0) ⟨Nat.zero_le _,rfl⟩ (by have:=za2;have:=ha.1;simp only;omega)
 obtain ⟨r,e,rfl⟩:=key;rw [e,zaq];rfl
end
section
structure TabOk (t:zqv):Prop where
 sm:SmT t
 n:t.Inputs≤4
 p:t.Prefixes.length≤80
 s:t.Suffixes.length≤12
 pw:∀ x∈t.Prefixes,x.length≤80
 sw:∀ x∈t.Suffixes,x.length≤30
theorem zj4 (a b:List (List Int)) (ha:SmL a):zcc a b=some (decide (a=b)):=by
 have ha1:a.length≤2000000:=ha.1;unfold zcc;by_cases hlen:a.length=b.length
 ·rw [zkA (by omega),zkC];refine iter_all2 hlen (fun i x y hx hy=>?_) ?_ (by omega)
  ·simp only [zcc.s2];rw [zei hx,zkD,zam hx,zam hy,zmr x y (ha.2 x (zkH hx)),zaq];by_cases h:x=y<;>simp [h]
  ·simp only [zcc.s2];rw [zhp];rfl
 ·rw [zkB (by omega),zkD];have:a≠b:=fun h=>hlen (by rw [h]);simp [this]
end
section
theorem zk0:zks=some true:=by decide +kernel
end
section
theorem great35_r (m:zaa):∃ b,zc4 m=some b∧(b=false→m.Next.length≤6∧∀ x∈m.Next,x.length≤3):=by
 unfold zc4
 have key:=zbi (step:=fun s=>zc4.s2 m s) (fun k=>k≤m.Next.length∧k≤7∧∀ x∈m.Next.take k,x.length≤3) (fun k=>8-k)
  (fun r=>match r with | .inl ()=>m.Next.length≤6→∀ x∈m.Next,x.length≤3 | .inr b=>b=true) (fun k ⟨g1,g2,g3⟩=>by
   simp only [zc4.s2]
   by_cases h:k<m.Next.length
   ·have hx:=get_at h
    rw [zei hx,zkD,zaq]
    by_cases h2:k<7
    ·rw [zkB (by omega:(↑k:Int)<7),zkD,zam hx]
     by_cases h3:3<m.Next[k].length
     ·right
      exact ⟨.inr true,by rw [zkB (by omega),zkD],rfl⟩
     ·left
      refine ⟨k+1,by rw [zkA (by omega),zkC,zas (by unfold inR;omega)],⟨h,by omega,fun x hx'=>?_⟩,by omega⟩
      rw [zcw hx] at hx'
      rcases List.mem_append.1 hx' with hx' | hx'
      ·exact g3 x hx'
      ·rw [List.mem_singleton.1 hx'];omega
    ·right
     exact ⟨.inl (),by rw [zkA (by omega:¬ (↑k:Int)<7),zkC],fun h4=>by omega⟩
   ·right
    have e:k=m.Next.length:=by omega
    subst e
    refine ⟨.inl (),by rw [zhp,zkC,zaq,zkC],fun _ x hx=>g3 x (by rw [List.take_length];exact hx)⟩) fuel 0 ⟨Nat.zero_le _,by omega,by simp⟩
 obtain ⟨r,e,hq⟩:=key (by have:=za2;omega);rw [e,zaq];cases r with
 | inr b =>
  have hq:b=true:=hq;exact ⟨_,rfl,fun hb=>by rw [hq] at hb;cases hb⟩
 | inl u =>
  have hq:m.Next.length≤6→∀ x∈m.Next,x.length≤3:=hq;simp only [Sum.elim_inl]
  have key:=zbi (step:=fun s=>zc4.s4 m s) (fun k=>k≤m.Out.length) (fun k=>m.Out.length-k) (fun r=>r=.inl ()∨r=.inr true) (fun k g1=>by
   simp only [zc4.s4]
   by_cases h:k<m.Out.length
   ·have hx:=get_at h
    rw [zei hx,zkD,zaq]
    by_cases h2:k<11
    ·rw [zkB (by omega:(↑k:Int)<11),zkD,zam hx]
     by_cases h3:3<m.Out[k].length
     ·right
      exact ⟨.inr true,by rw [zkB (by omega),zkD],.inr rfl⟩
     ·left
      exact ⟨k+1,by rw [zkA (by omega),zkC,zas (by unfold inR;omega)],h,by omega⟩
    ·right
     exact ⟨.inl (),by rw [zkA (by omega:¬ (↑k:Int)<11),zkC],.inl rfl⟩
   ·right
    exact ⟨.inl (),by rw [zkA (by omega),zkC,zaq,zkC],.inl rfl⟩)
  by_cases ho:m.Out.length≤100000000
  ·obtain ⟨r,e,hr⟩:=key fuel 0 (Nat.zero_le _) (by have:=za2;omega);rw [e,zaq];rcases hr with rfl | rfl
   ·simp only [Sum.elim_inl];by_cases h6:6<m.Next.length
    ·rw [zkB (by omega),zkD,zaq];exact ⟨_,rfl,fun hb=>by cases hb⟩
    ·rw [zkA (by omega),zkC,zaq];exact ⟨_,rfl,fun _=>⟨by omega,hq (by omega)⟩⟩
   ·exact ⟨_,rfl,fun hb=>by cases hb⟩
  ·have key:=zbi (step:=fun s=>zc4.s4 m s) (fun k=>k≤11) (fun k=>12-k) (fun r=>r=.inl ()∨r=.inr true) (fun k g1=>by
    simp only [zc4.s4]
    have h:k<m.Out.length:=by omega
    have hx:=get_at h
    rw [zei hx,zkD,zaq]
    by_cases h2:k<11
    ·rw [zkB (by omega:(↑k:Int)<11),zkD,zam hx]
     by_cases h3:3<m.Out[k].length
     ·right
      exact ⟨.inr true,by rw [zkB (by omega),zkD],.inr rfl⟩
     ·left
      exact ⟨k+1,by rw [zkA (by omega),zkC,zas (by unfold inR;omega)],by omega,by omega⟩
    ·right
     exact ⟨.inl (),by rw [zkA (by omega:¬ (↑k:Int)<11),zkC],.inl rfl⟩) fuel 0 (by omega) (by have:=za2;omega)
   obtain ⟨r,e,hr⟩:=key;rw [e,zaq];rcases hr with rfl | rfl
   ·simp only [Sum.elim_inl];by_cases h6:6<m.Next.length
    ·rw [zkB (by omega),zkD,zaq];exact ⟨_,rfl,fun hb=>by cases hb⟩
    ·rw [zkA (by omega),zkC,zaq];exact ⟨_,rfl,fun _=>⟨by omega,hq (by omega)⟩⟩
   ·exact ⟨_,rfl,fun hb=>by cases hb⟩
def ChSh (B:Nat) (acc:List (List Int)):Prop:=∀ w∈acc,w.length≤B
theorem chStep_sh {m:zaa} (H:zdc m) {s t:Nat} (hs:s<m.Next.length) (ht:t<m.Next.length) {acc:List (List Int)} (hA:ChSh (m.Next.length*m.Next.length*m.Inputs.toNat) acc):ChSh (m.Next.length*m.Next.length*m.Inputs.toNat) (chStep m s acc t):=by
 unfold chStep;split
 ·exact hA
 ·intro w hw;rcases List.mem_append.1 hw with h | h
  ·exact hA w h
  ·have:w=sepW m s t:=by simpa using h
   subst this;exact (sepW_sm H hs ht).2
theorem chRow_sh {m:zaa} (H:zdc m) {s:Nat} (hs:s<m.Next.length) {acc:List (List Int)} (hA:ChSh (m.Next.length*m.Next.length*m.Inputs.toNat) acc):∀ t,t≤m.Next.length→ChSh (m.Next.length*m.Next.length*m.Inputs.toNat) (chRow m s acc t)
 | 0,_=>by
  unfold chRow;rw [Nat.zero_sub];exact hA
 | t+1,ht=>by
  have h1:=chRow_sh H hs hA t (by omega);by_cases g:s<t
  ·rw [zlm g];exact chStep_sh H hs (t:=t) (by omega) h1
  ·unfold chRow;rw [show t+1-(s+1)=0 by omega];exact hA
theorem chTo_sh {m:zaa} (H:zdc m):∀ s,s≤m.Next.length→ChSh (m.Next.length*m.Next.length*m.Inputs.toNat) (chTo m s)
 | 0,_=>fun w hw=>(by cases hw)
 | s+1,hs=>by
  rw [znb];exact chRow_sh H (s:=s) (by omega) (chTo_sh H s (by omega)) m.Next.length (Nat.le_refl _)
def zez (k:Nat) (P:List (List Int)):List (List Int):=P.flatMap fun w=>(List.range k).map fun (a:Nat)=>w++[(↑a:Int)]
theorem zru (k:Nat) (P:List (List Int)):(zez k P).length=P.length*k:=by
 unfold zez
 induction P with
 | nil=>simp
 | cons u a ih=>rw [List.flatMap_cons,zkJ,zkK,List.length_range,ih,zkL,Nat.add_mul];omega
theorem mem_tranL {k:Nat} {P:List (List Int)} {x:List Int}:x∈zez k P↔∃ w∈P,∃ a,a<k∧x=w++[(↑a:Int)]:=by
 unfold zez;simp only [List.mem_flatMap,List.mem_map,List.mem_range];constructor
 ·rintro ⟨u,hu,v,hv,rfl⟩;exact ⟨u,hu,v,hv,rfl⟩
 ·rintro ⟨u,hu,v,hv,rfl⟩;exact ⟨u,hu,v,hv,rfl⟩
theorem zs1 (k:Nat) (w:List Int):((List.range (k+1)).map fun (a:Nat)=>w++[(↑a:Int)])=((List.range k).map fun (a:Nat)=>w++[(↑a:Int)])++[w++[(↑k:Int)]]:=by
 rw [List.range_succ,List.map_append];rfl
section
variable {M:zaa} {P:List (List Int)}
theorem tran_prog (hk:1≤M.Inputs∧M.Inputs≤64) (hP:P.length≤1000) (hw:∀ w∈P,w.length≤1000) (c:List Int×List (List Int)×Int) (hc:c.2.1=P):iter (fun (s:List (List Int)×Nat)=>za7.s14 M c s.1 s.2) fuel ([],0)=some (zez M.Inputs.toNat P):=by
 have inner:∀ (w:List Int),w.length≤1000→∀ y:List (List Int),y.length≤100000→iter (fun (s:List (List Int)×Nat)=>za7.s13 M w s.1 s.2) fuel (y,0)=some (y++(List.range M.Inputs.toNat).map fun (a:Nat)=>w++[(↑a:Int)]):=fun w hw y hy=>by
  have key:=zbi (step:=fun (s:List (List Int)×Nat)=>za7.s13 M w s.1 s.2) (fun s=>s.2≤M.Inputs.toNat∧s.1=y++(List.range s.2).map fun (a:Nat)=>w++[(↑a:Int)]) (fun s=>M.Inputs.toNat-s.2) (fun r=>r=y++(List.range M.Inputs.toNat).map fun (a:Nat)=>w++[(↑a:Int)]) (fun ⟨z,a⟩ ⟨g1,g2⟩=>by
   simp only at g1 g2
   subst g2
   simp only [za7.s13]
   by_cases h:a<M.Inputs.toNat
   ·left
    refine ⟨(y++(List.range (a+1)).map fun (a:Nat)=>w++[(↑a:Int)],a+1),?_,⟨h,rfl⟩,by simp only;omega⟩
    rw [zkB (by omega),zkD,zg0 [w,[(↑a:Int)]] (by simp) (by simp;omega),zaq]
    simp only [List.flatten_cons,List.flatten_nil,List.append_nil]
    rw [zas (by unfold zaw;rw [zkJ,zkK,List.length_range];omega),zas (by unfold inR;omega),zs1,List.append_assoc]
   ·right
    have e:a=M.Inputs.toNat:=by omega
    subst e
    exact ⟨_,by rw [zkA (by omega),zkC],rfl⟩) fuel (y,0) ⟨Nat.zero_le _,by simp⟩ (by have:=za2;simp only;omega)
  obtain ⟨r,e,rfl⟩:=key;exact e
 have key:=zbi (step:=fun (s:List (List Int)×Nat)=>za7.s14 M c s.1 s.2) (fun s=>s.2≤P.length∧s.1=zez M.Inputs.toNat (P.take s.2)) (fun s=>P.length-s.2) (fun r=>r=zez M.Inputs.toNat P) (fun ⟨z,i⟩ ⟨g1,g2⟩=>by
  simp only at g1 g2
  subst g2
  simp only [za7.s14]
  rw [hc]
  by_cases h:i<P.length
  ·left
   have hx:=get_at h
   refine ⟨(zez M.Inputs.toNat (P.take (i+1)),i+1),?_,⟨h,rfl⟩,by simp only;omega⟩
   have hlen:(zez M.Inputs.toNat (P.take i)).length≤100000:=by
    rw [zru,List.length_take]
    have:min i P.length*M.Inputs.toNat≤1000*64:=Nat.mul_le_mul (by omega) (by omega)
    omega
   rw [zei hx,zkD,zam hx,inner _ (hw _ (List.getElem_mem h)) _ hlen,zaq]
   have:zez M.Inputs.toNat (P.take (i+1))=zez M.Inputs.toNat (P.take i)++(List.range M.Inputs.toNat).map fun (a:Nat)=>P[i]++[(↑a:Int)]:=by
    unfold zez
    rw [zcw hx,List.flatMap_append]
    simp
   rw [this]
  ·right
   have e:i=P.length:=by omega
   subst e
   exact ⟨_,by rw [zhp,zkC],by rw [List.take_length]⟩) fuel ([],0) ⟨Nat.zero_le _,rfl⟩ (by have:=za2;simp only;omega)
 obtain ⟨r,e,rfl⟩:=key;exact e
theorem tran_ref (hk:1≤M.Inputs∧M.Inputs≤64) (hP:P.length≤1000) (hw:∀ w∈P,w.length≤1000) (e1 e2:Int):iter (fun (s:List (List Int)×Nat)=>zce.s14 (M,e1) (P,e2) s.1 s.2) fuel ([],0)=some (zez M.Inputs.toNat P):=by
 have inner:∀ i (w:List Int),P[i]?=some w→∀ y:List (List Int),y.length≤100000→iter (fun (s:List (List Int)×Nat)=>zce.s13 (M,e1) (P,e2) i s.1 s.2) fuel (y,0)=some (y++(List.range M.Inputs.toNat).map fun (a:Nat)=>w++[(↑a:Int)]):=fun i w hi y hy=>by
  have hw:=hw w (zkH hi)
  have key:=zbi (step:=fun (s:List (List Int)×Nat)=>zce.s13 (M,e1) (P,e2) i s.1 s.2) (fun s=>s.2≤M.Inputs.toNat∧s.1=y++(List.range s.2).map fun (a:Nat)=>w++[(↑a:Int)]) (fun s=>M.Inputs.toNat-s.2) (fun r=>r=y++(List.range M.Inputs.toNat).map fun (a:Nat)=>w++[(↑a:Int)]) (fun ⟨z,a⟩ ⟨g1,g2⟩=>by
   simp only at g1 g2
   subst g2
   simp only [zce.s13]
   by_cases h:a<M.Inputs.toNat
   ·left
    refine ⟨(y++(List.range (a+1)).map fun (a:Nat)=>w++[(↑a:Int)],a+1),?_,⟨h,rfl⟩,by simp only;omega⟩
    rw [zkB (by omega),zkD,zam hi,zq9 [w,[(↑a:Int)]] (by simp) (by simp;omega),zaq]
    simp only [List.flatten_cons,List.flatten_nil,List.append_nil]
    rw [zas (by unfold zaw;rw [zkJ,zkK,List.length_range];omega),zas (by unfold inR;omega),zs1,List.append_assoc]
   ·right
    have e:a=M.Inputs.toNat:=by omega
    subst e
    exact ⟨_,by rw [zkA (by omega),zkC],rfl⟩) fuel (y,0) ⟨Nat.zero_le _,by simp⟩ (by have:=za2;simp only;omega)
  obtain ⟨r,e,rfl⟩:=key;exact e
 have key:=zbi (step:=fun (s:List (List Int)×Nat)=>zce.s14 (M,e1) (P,e2) s.1 s.2) (fun s=>s.2≤P.length∧s.1=zez M.Inputs.toNat (P.take s.2)) (fun s=>P.length-s.2) (fun r=>r=zez M.Inputs.toNat P) (fun ⟨z,i⟩ ⟨g1,g2⟩=>by
  simp only at g1 g2
  subst g2
  simp only [zce.s14]
  by_cases h:i<P.length
  ·left
   have hx:=get_at h
   refine ⟨(zez M.Inputs.toNat (P.take (i+1)),i+1),?_,⟨h,rfl⟩,by simp only;omega⟩
   have hlen:(zez M.Inputs.toNat (P.take i)).length≤100000:=by
    rw [zru,List.length_take]
    have:min i P.length*M.Inputs.toNat≤1000*64:=Nat.mul_le_mul (by omega) (by omega)
    omega
   rw [zei hx,zkD,inner i _ hx _ hlen,zaq]
   have:zez M.Inputs.toNat (P.take (i+1))=zez M.Inputs.toNat (P.take i)++(List.range M.Inputs.toNat).map fun (a:Nat)=>P[i]++[(↑a:Int)]:=by
    unfold zez
    rw [zcw hx,List.flatMap_append]
    simp
   rw [this]
  ·right
   have e:i=P.length:=by omega
   subst e
   exact ⟨_,by rw [zhp,zkC],by rw [List.take_length]⟩) fuel ([],0) ⟨Nat.zero_le _,rfl⟩ (by have:=za2;simp only;omega)
 obtain ⟨r,e,rfl⟩:=key;exact e
end
theorem zr1 {l:List (List Int)} {B:Nat} (h:∀ x∈l,x.length≤B):zfc l≤B:=(longestL_le l B).2 h
theorem sample_same {m:zaa} (hv:zdw m=0) (h6:m.Next.length≤6) (h3:m.Inputs≤3):∃ S,zev m=some (S,0)∧zce m=some (S,0)∧SmL S:=by
 have H:=zek hv;obtain ⟨M,e1,e2,S⟩:=min_same hv;have hM:=validM_of S.ok;have PM:=sem_minimal S;obtain ⟨hle,_⟩:=sem_le H S;have hi:=S.inp;have hi1:=S.ok.i1;obtain ⟨L0,_,c1,c2⟩:=cover_eq hM;obtain ⟨L,hE,c3⟩:=zkn hM;have hc:zd2 M=some (L.map Prod.snd,0):=by unfold zd2;rw [c3,zaq]
 have hcL:L0.map Prod.snd=L.map Prod.snd:=by
  rw [c1] at hc;injection hc with hc
  exact congrArg Prod.fst hc
 rw [hcL] at c2;have hst:M.Start.toNat=0:=by rw [S.start];rfl
 rw [hst] at hE;have hLn:=mEnd_rng S.ok S.ok.n1 hE;have hnn:M.Next.length*M.Next.length≤6*6:=Nat.mul_le_mul (by omega) (by omega);have hnk:M.Next.length*M.Next.length*M.Inputs.toNat≤6*6*3:=Nat.mul_le_mul hnn (by omega);have hPl:(L.map Prod.snd).length≤6:=by rw [zkK];omega
 have hPw:∀ w∈L.map Prod.snd,w.length≤18∧WOk M.Inputs w:=fun u hu=>by
  obtain ⟨x,hx,rfl⟩:=List.mem_map.1 hu;refine ⟨?_,(hLn.2 x hx).2.2⟩;have hx2:=hx;rw [hE.eq] at hx2;have h1:=(zlb S.ok S.ok.n1 _ x hx2).2.1;have h2:L.length*M.Inputs.toNat≤6*3:=Nat.mul_le_mul (by omega) (by omega);omega
 generalize hP:L.map Prod.snd=P at *
 have hT:(zez M.Inputs.toNat P).length≤18:=by
  rw [zru];have:P.length*M.Inputs.toNat≤6*3:=Nat.mul_le_mul hPl (by omega);omega
 have hTw:∀ w∈zez M.Inputs.toNat P,w.length≤19∧WOk M.Inputs w:=fun x hx=>by
  obtain ⟨w,hw,a,ha,rfl⟩:=mem_tranL.1 hx;obtain ⟨q1,q2⟩:=hPw w hw;refine ⟨by rw [zkJ];simp;omega,fun z hz=>?_⟩;rcases List.mem_append.1 hz with hz | hz
  ·exact q2 z hz
  ·rw [List.mem_singleton.1 hz];omega
 have smT:SmL (zez M.Inputs.toNat P):=⟨by omega,fun x hx=>by have:=(hTw x hx).1;unfold SmW;omega⟩
 have t1:za7 M=some (sortW (zez M.Inputs.toNat P),0):=by
  unfold za7;rw [c3,zaq,zkA (fun h=>h rfl),zkC,tran_prog (P:=P) ⟨hi1,by omega⟩ (by omega) (fun w hw=>by have:=(hPw w hw).1;omega) _ rfl,zaq,zeb smT,zaq]
 have hW:(cond (decide ((↑(List.length (chS M)):Int)=0)) (some [[]]) (some (chS M)):Option (List (List Int)))=some (if (chS M).length=0 then [[]] else chS M):=by
  by_cases h:(chS M).length=0
  ·rw [zkB (by omega),zkD,if_pos h]
  ·rw [zkA (by omega),zkC,if_neg h]
 have hWl:(if (chS M).length=0 then [[]] else chS M).length≤36∧∀ w∈(if (chS M).length=0 then [[]] else chS M),w.length≤108∧WOk M.Inputs w:=by
  split
  ·exact ⟨by simp,fun w hw=>by rw [List.mem_singleton.1 hw];exact ⟨by simp,fun a ha=>by cases ha⟩⟩
  ·have h1:=zdv (chTo M M.Next.length);obtain ⟨h2,h4⟩:=zmw S.ok (by omega) M.Next.length (Nat.le_refl M.Next.length);have h5:=chTo_sh S.ok M.Next.length (Nat.le_refl M.Next.length);refine ⟨by unfold chS;omega,fun w hw=>?_⟩;have hw':=(zb9 _ _).1 hw;exact ⟨by have:=h5 w hw';omega,(h2 w hw').1⟩
 generalize (if (chS M).length=0 then [[]] else chS M)=W at *;have hTs:=zdv (zez M.Inputs.toNat P)
 have u1:SmL [P,sortW (zez M.Inputs.toNat P)].flatten:=⟨by simp;omega,fun x hx=>by
  simp only [List.flatten_cons,List.flatten_nil,List.append_nil] at hx
  rcases List.mem_append.1 hx with hx | hx
  ·have:=(hPw x hx).1;unfold SmW;omega
  ·have:=(hTw x ((zb9 _ _).1 hx)).1;unfold SmW;omega⟩
 have u2:SmL [P,zez M.Inputs.toNat P].flatten:=⟨by simp;omega,fun x hx=>by
  simp only [List.flatten_cons,List.flatten_nil,List.append_nil] at hx
  rcases List.mem_append.1 hx with hx | hx
  ·have:=(hPw x hx).1;unfold SmW;omega
  ·have:=(hTw x hx).1;unfold SmW;omega⟩
 have eU:sortW [P,sortW (zez M.Inputs.toNat P)].flatten=sortW [P,zez M.Inputs.toNat P].flatten:=zqr fun x=>by
  simp only [List.flatten_cons,List.flatten_nil,List.append_nil,List.mem_append,zb9]
 have hUl:(sortW [P,zez M.Inputs.toNat P].flatten).length≤24:=by
  have:=zdv [P,zez M.Inputs.toNat P].flatten;simp only [List.flatten_cons,List.flatten_nil,List.append_nil,zkJ] at this;simp only [List.flatten_cons,List.flatten_nil,List.append_nil];omega
 have hUw:∀ w∈sortW [P,zez M.Inputs.toNat P].flatten,w.length≤19∧WOk M.Inputs w:=fun x hx=>by
  have hx:=(zb9 _ _).1 hx;simp only [List.flatten_cons,List.flatten_nil,List.append_nil] at hx;rcases List.mem_append.1 hx with hx | hx
  ·obtain ⟨q1,q2⟩:=hPw x hx;exact ⟨by omega,q2⟩
  ·exact hTw x hx
 generalize hU:sortW [P,zez M.Inputs.toNat P].flatten=U at *;have smU:SmL U:=⟨by omega,fun x hx=>by have:=(hUw x hx).1;unfold SmW;omega⟩;have smW:SmL W:=⟨by omega,fun x hx=>by have:=(hWl.2 x hx).1;unfold SmW;omega⟩;have hUW:U.length*W.length≤24*36:=Nat.mul_le_mul hUl hWl.1;have hlU:=zr1 (l:=U) (B:=19) fun x hx=>(hUw x hx).1;have hlW:=zr1 (l:=W) (B:=108) fun x hx=>(hWl.2 x hx).1
 have p1:=zm7 smU smW (by omega) (by omega) (by omega) (by omega) fun u hu v hv=>by
  have h1:=hUw u hu;have h2:=hWl.2 v hv;refine ⟨by omega,fun z hz=>?_⟩;have:0≤z∧z<M.Inputs:=(List.mem_append.1 hz).elim (h1.2 z) (h2.2 z);unfold inR;omega
 have p2:=zsb smU smW (by omega) (by omega) fun u hu v hv=>by
  have h1:=(hUw u hu).1;have h2:=(hWl.2 v hv).1;omega
 have hX:(sortW (zin U W)).length≤24*36:=by
  have h1:=zdv (zin U W);rw [zrp] at h1;omega
 have hXw:∀ w∈sortW (zin U W),w.length≤127:=fun x hx=>by
  obtain ⟨u,hu,v,hv,rfl⟩:=zjb.1 ((zb9 _ _).1 hx);have h1:=(hUw u hu).1;have h2:=(hWl.2 v hv).1;rw [zkJ];omega
 generalize sortW (zin U W)=X at *
 have v1:SmL [sortW (zez M.Inputs.toNat P),X].flatten:=⟨by simp;omega,fun x hx=>by
  simp only [List.flatten_cons,List.flatten_nil,List.append_nil] at hx
  rcases List.mem_append.1 hx with hx | hx
  ·have:=(hTw x ((zb9 _ _).1 hx)).1;unfold SmW;omega
  ·have:=hXw x hx;unfold SmW;omega⟩
 have v2:SmL (X++zez M.Inputs.toNat P):=⟨by rw [zkJ];omega,fun x hx=>by
  rcases List.mem_append.1 hx with hx | hx
  ·have:=hXw x hx;unfold SmW;omega
  ·have:=(hTw x hx).1;unfold SmW;omega⟩
 have v3:SmL (sortW [sortW (zez M.Inputs.toNat P),X].flatten):=zpx v1
 have eM:maxR (sortW [sortW (zez M.Inputs.toNat P),X].flatten)=maxR (X++zez M.Inputs.toNat P):=maxR_ext fun x=>by
  simp only [zb9,List.flatten_cons,List.flatten_nil,List.append_nil,List.mem_append];exact Or.comm
 refine ⟨maxR (X++zez M.Inputs.toNat P),?_,?_,?_⟩
 ·unfold zev;rw [zdh,zaq,hv,zkA (by decide),zkC,e1,zaq,hc,zaq,t1,zaq];simp only;rw [zmg hM PM (by omega),zaq,hW,zaq,zj8 (by simp) u1,eU,zaq,p1,zaq,zkA (fun h=>h rfl),zkC,zj8 (by simp) v1,zaq,znh v3,zaq,eM]
 ·unfold zce;rw [zex,zaq,hv,zkA (by decide),zkC,e2,zaq];simp only;rw [c2,zaq,tran_ref ⟨hi1,by omega⟩ (by omega) (fun w hw=>by have:=(hPw w hw).1;omega),zaq,zst hM PM (by omega),zaq,hW,zaq];simp only;rw [R02_Union_eq (by simp) u2,hU,zaq,p2,zaq];simp only [ne_eq,not_true_eq_false,decide_false,zkC];rw [zas (by unfold zaw;omega),zsa v2,zaq]
 ·exact ⟨Nat.le_trans (maxR_length _) v2.1,fun x hx=>v2.2 x (mem_maxR hx)⟩
theorem plain_Samples (m:zaa):ze8 m=some true:=by
 unfold ze8;obtain ⟨b,e,hb⟩:=great35_r m;rw [e,zaq];cases b with
 | true =>
  rw [zkD,zk0];rfl
 | false =>
  obtain ⟨h6,h3⟩:=hb rfl;rw [zkC];by_cases hv:zdw m=0
  ·have H:=zek hv
   have hin:m.Inputs≤3:=by
    obtain ⟨x,y,q1,_,q3,_⟩:=H.row 0 H.n1;have:=h3 x (zkH q1);omega
   obtain ⟨S,s1,s2,s3⟩:=sample_same hv h6 hin;rw [s1,zaq,s2,zaq,zj4 _ _ s3,zkB rfl];simp only [Option.bind_some,zkD,decide_true];rw [zk0];rfl
  ·have e1:zev m=some ([],zdw m):=by
    unfold zev;rw [zdh,zaq,zkB hv,zkD]
   have e2:zce m=some ([],zdw m):=by
    unfold zce;rw [zex,zaq,zkB hv,zkD,zaq]
   rw [e1,zaq,e2,zaq,zj4 _ _ ⟨by simp,fun x hx=>by cases hx⟩,zkB rfl];simp only [Option.bind_some,zkD,decide_true];rw [zk0];rfl
end
section
theorem zlx (x0:zaa) (_:zoz x0) (_:zpd x0≤1048576):ze8 x0=some true :=
 plain_Samples x0
end
section
open Go.RowKit
set_option linter.unusedVariables false
set_option maxHeartbeats 4000000
theorem eI {σ:St} {src:List (Nat×Option Nat)} {γ:Nat→Nat} {t:Nat} {y b:IV} (h1:σ.av t=.im y) (h2:AV.im y=.im b):∃ x,σ.av t=x∧SubR σ src γ x (.im b):=⟨.im y,h1,.im (Sub.rfl' h2)⟩
theorem odt {p:Prop} [Decidable p] (h:decide p=true):p:=of_decide_eq_true h
theorem odf {p:Prop} [Decidable p] (h:decide p=false):¬ p:=of_decide_eq_false h
theorem ctd {α:Type} {p:Prop} [Decidable p] {x y z:α} (hb:decide p=true) (h:cond (decide p) x y=z):x=z∧p:=⟨zbe hb h,odt hb⟩
theorem cfd {α:Type} {p:Prop} [Decidable p] {x y z:α} (hb:decide p=false) (h:cond (decide p) x y=z):y=z∧¬ p:=⟨zbd hb h,odf hb⟩
theorem hT {σ:St}:Holds σ True:=Holds.true_ _
abbrev lZ {α:Type} (l:List α):Prop:=List.length l≤17592186044416
theorem eA {σ:St} {avs:List (Nat×AV)} {kds:List (Nat×Kd)} {cels:List (Nat×Nat×AV)} (src:List (Nat×Option Nat)) (hn:ndB (srcs src) []=true:=by exact rfl) (ha:SubL σ src (gnM kds) avs:=by repeat' (first | exact trivial | refine ⟨eI rfl rfl,?_⟩ | refine ⟨⟨.own _ _ _,rfl,.own rfl rfl rfl⟩,?_⟩ | refine ⟨⟨.osl _ _,rfl,.osl rfl rfl rfl⟩,?_⟩ | refine ⟨⟨.im (.val (.slice none 0 0)),rfl,.made rfl rfl⟩,?_⟩)) (hk:KdL σ src kds:=by repeat' (first | exact trivial | refine ⟨.inl ⟨_,rfl,rfl,trivial⟩,?_⟩ | refine ⟨.inl ⟨_,rfl,rfl,⟨rfl,rfl⟩⟩,?_⟩ | refine ⟨.inr ⟨rfl,rfl,.inl ⟨_,_,rfl,by decide⟩⟩,?_⟩)) (hc:CeL σ src (gnM kds) cels:=by repeat' (first | exact trivial | refine ⟨⟨_,.im _,rfl,rfl,.im (Sub.rfl' rfl)⟩,?_⟩ | refine ⟨⟨_,.own _ _ _,rfl,rfl,.own rfl rfl rfl⟩,?_⟩ | refine ⟨⟨_,.osl _ _,rfl,rfl,.osl rfl rfl rfl⟩,?_⟩)):Ent σ (mkSt avs kds cels):=Ent.mk src hn ha hk hc
theorem zj0 (a_:List Int) (b_:List Int) (r:Int) (h:Ok (nL cI a_)→Ok (nL cI b_)→zed a_ b_=some r):Sp Tryz.prog 51 [.im (nL cI a_),.im (nL cI b_)] (.im (nI r)):=by
 refine zbq rfl [] rfl rfl rfl (zkE rfl) rfl fun hk=>?_;replace h:=h hk.1 hk.2.1;have z1:lZ a_:=zaj hk.1;have z2:lZ b_:=zaj hk.2.1;unfold zed at h;obtain ⟨b4,hc,hk51⟩:=zlA h;clear h;have h:=hc;clear hc;refine Cut.mk (mkSt [(5,.im (nI (↑b4:Int)))] [] []) (True) (hT) ?_ (fun hp=>?_);refine zbp.iter (fun (s:Nat)=>zed.s2 a_ b_ s) (fun a7=>mkSt [(0,.im (nL cI a_)),(1,.im (nL cI b_)),(5,.im (nI (↑a7:Int)))] [] []) (fun a7=>lZ a_∧lZ b_∧True) h (eA []) (by rintro a7;exact ((zlH 0 rfl).and ((zlH 1 rfl).and (hT)))) ?_;clear h;rintro k a7 o hp h ho131;replace h:zed.s2 a_ b_ a7=some o:=h;unfold zed.s2 at h;obtain ⟨b7,b8,_⟩:=hp;obtain ⟨b5,hc,hk133⟩:=zlA h;clear h;have h:=hc;clear hc;refine Cut.mk (mkSt [(0,.im (nL cI a_)),(1,.im (nL cI b_)),(5,.im (nI (↑a7:Int))),(26,.im (nB b5))] [] []) (lZ a_∧lZ b_∧True) ((zlH 0 rfl).and ((zlH 1 rfl).and (hT))) ?_ (fun hp=>?_);refine zlF a_.length zae ?_;refine zlC ?_ ?_<;>intro a6;replace a6:=zc0 a6;obtain ⟨h,a8⟩:=ctd a6 h
 iterate 2 (refine zlD (za9 a6) ?_)
 refine zlF b_.length zae ?_;refine zlD (za9 a6) ?_;refine zlD a6 ?_;refine zlC ?_ ?_<;>intro a2;replace a2:=zc0 a2;obtain ⟨h,b2⟩:=ctd a2 h
 iterate 2 (refine zlD (za9 a2) ?_)
 obtain ⟨b9,he141,h⟩:=zac h;refine ⟨_,⟨(by omega),zad he141,rfl⟩,?_⟩
 iterate 4 (refine zlD (za9 a2) ?_)
 obtain ⟨c0,he142,h⟩:=zac h;refine ⟨_,⟨(by omega),zad he142,rfl⟩,?_⟩
 iterate 2 (refine zlD (za9 a2) ?_)
 refine zlD a2 ?_;cases h;exact zlG (eA []);replace a2:=zcz a2;obtain ⟨h,b2⟩:=cfd a2 h
 iterate 8 (refine zlE (zdd a2) ?_)
 refine zlE a2 ?_;cases h;exact zlG (eA []);replace a6:=zcz a6;obtain ⟨h,a8⟩:=cfd a6 h
 iterate 3 (refine zlE (zdd a6) ?_)
 refine zlE a6 ?_
 iterate 10 (refine zlE rfl ?_)
 cases h;exact zlG (eA []);replace h:=hk133;obtain ⟨c6,c7,_⟩:=hp;refine zlC ?_ ?_<;>intro b3;replace h:=zbe b3 h;obtain ⟨b6,h⟩:=zah h;refine za5.mk b6 ?_;cases h;exact zlK _ ho131 (eA []);replace h:=zbd b3 h;cases h;have ho131:_=_:=ho131;cases ho131;exact zlG (eA []);replace h:=hk51;cases h;exact ⟨rfl,rfl⟩
theorem zmm (a_:List Int) (b_:List Int) (r:Bool) (h:Ok (nL cI a_)→Ok (nL cI b_)→zic a_ b_=some r):Sp Tryz.prog 20 [.im (nL cI a_),.im (nL cI b_)] (.im (nB r)):=by
 refine zbq rfl [] rfl rfl rfl (zkE rfl) rfl fun hk=>?_;replace h:=h hk.1 hk.2.1;have z1:lZ a_:=zaj hk.1;have z2:lZ b_:=zaj hk.2.1;unfold zic at h;obtain ⟨a7,hc,hk52⟩:=zlA h;clear h;have h:=hc;clear hc;refine Cut.mk (mkSt [(4,.im (nB a7))] [] []) (True) (hT) ?_ (fun hp=>?_);refine zlF a_.length zae ?_;refine zlF b_.length zae ?_;refine zlC ?_ ?_<;>intro a2;replace a2:=zc0 a2;obtain ⟨h,a6⟩:=ctd a2 h
 iterate 2 (refine zlD (za9 a2) ?_)
 obtain ⟨a8,hc57,h⟩:=zlA h;refine ⟨_,(zj0 a_ b_ a8 (fun _ _=>hc57)),?_⟩
 iterate 2 (refine zlD (za9 a2) ?_)
 refine zlF a_.length zae ?_;refine zlD (za9 a2) ?_;refine zlD a2 ?_;cases h;exact zlG (eA []);replace a2:=zcz a2;obtain ⟨h,a6⟩:=cfd a2 h
 iterate 5 (refine zlE (zdd a2) ?_)
 refine zlE a2 ?_;cases h;exact zlG (eA []);replace h:=hk52;cases h;exact ⟨rfl,rfl⟩
theorem zej (a_:List (List Int)) (b_:List (List Int)) (r:Bool) (h:Ok (nL (cL cI) a_)→Ok (nL (cL cI) b_)→zcc a_ b_=some r):Sp Tryz.prog 32 [.im (nL (cL cI) a_),.im (nL (cL cI) b_)] (.im (nB r)):=by
 refine zbq rfl [] rfl rfl rfl (zkE rfl) rfl fun hk=>?_;replace h:=h hk.1 hk.2.1;have z1:lZ a_:=zaj hk.1;have z2:lZ b_:=zaj hk.2.1;unfold zcc at h;refine zlF a_.length zae ?_;refine zlF b_.length zae ?_;refine zlC ?_ ?_<;>intro a8;obtain ⟨h,a6⟩:=ctd a8 h;cases h;exact ⟨rfl,rfl⟩;obtain ⟨h,a6⟩:=cfd a8 h;obtain ⟨oc,hc,hk52⟩:=zlA h;clear h;have h:=hc;clear hc;refine zlJ oc (Y:=Unit) (fun (_:Unit)=>mkSt [] [] []) (fun (_:Unit)=>True) (by rintro ⟨⟩;exact (hT)) ?_ ?_;refine zbp.iter (fun (s:Nat)=>zcc.s2 a_ b_ s) (fun a2=>mkSt [(0,.im (nL (cL cI) a_)),(1,.im (nL (cL cI) b_)),(5,.im (nI (↑a2:Int)))] [] []) (fun a2=>lZ a_∧lZ b_∧True) h (eA []) (by rintro a2;exact ((zlH 0 rfl).and ((zlH 1 rfl).and (hT)))) ?_;clear h;rintro k a2 o hp h ho83;replace h:zcc.s2 a_ b_ a2=some o:=h;unfold zcc.s2 at h;obtain ⟨b7,b8,_⟩:=hp;refine zlF a_.length zae ?_;refine zlC ?_ ?_<;>intro b2;obtain ⟨h,a7⟩:=ctd b2 h;obtain ⟨b4,he85,h⟩:=zac h;refine ⟨_,⟨(by omega),zad he85,rfl⟩,?_⟩;obtain ⟨b5,he86,h⟩:=zac h;refine ⟨_,⟨(by omega),zad he86,rfl⟩,?_⟩;obtain ⟨b6,hc87,h⟩:=zlA h;refine ⟨_,(zmm b4 b5 b6 (fun _ _=>hc87)),?_⟩;refine zlC ?_ ?_<;>intro b3;replace h:=zbe b3 h;cases h;have ho83:_=_:=ho83;cases ho83;replace h:some _=some _:=hk52;cases h;exact ⟨rfl,rfl⟩;replace h:=zbd b3 h;refine za5.mk (by show inR _;unfold inR;omega) ?_;cases h;exact zlK _ ho83 (eA []);obtain ⟨h,a7⟩:=cfd b2 h;cases h;have ho83:_=_:=ho83;cases ho83;exact zdm.mk' _ rfl (eA []);rintro ⟨⟩ rfl hp;replace h:=zb7 hk52;cases h;exact ⟨rfl,rfl⟩
theorem sp_L35_great (m_:zaa) (r:Bool) (h:Ok (.agg (zab m_))→zc4 m_=some r):Sp Tryz.prog 29 [.im (.agg (zab m_))] (.im (nB r)):=by
 refine zbq rfl [700001] rfl rfl rfl (zkE rfl) rfl fun hk=>?_;replace h:=h hk.1;have z1:lZ m_.Next:=zaj (zlI hk.1 2 rfl);have z2:lZ m_.Out:=zaj (zlI hk.1 3 rfl);unfold zc4 at h;obtain ⟨oc,hc,hk51⟩:=zlA h;clear h;have h:=hc;clear hc;refine zlJ oc (Y:=Unit) (fun (_:Unit)=>mkSt [(1,.im (.ref (zab m_)))] [] []) (fun (_:Unit)=>True) (by rintro ⟨⟩;exact (hT)) ?_ ?_;refine zbp.iter (fun (s:Nat)=>zc4.s2 m_ s) (fun b2=>mkSt [(1,.im (.ref (zab m_))),(3,.im (nI (↑b2:Int)))] [] []) (fun b2=>True) h (eA []) (by rintro b2;exact (hT)) ?_;clear h;rintro k b2 o hp h ho98;replace h:zc4.s2 m_ b2=some o:=h;unfold zc4.s2 at h;obtain ⟨c7,hc,hk100⟩:=zlA h;clear h;have h:=hc;clear hc;refine Cut.mk (mkSt [(1,.im (.ref (zab m_))),(3,.im (nI (↑b2:Int))),(13,.im (nB c7))] [] []) (True) (hT) ?_ (fun hp=>?_);refine zlF m_.Next.length zae ?_;refine zlC ?_ ?_<;>intro a6;replace a6:=zc0 a6;obtain ⟨h,b3⟩:=ctd a6 h;refine zlD (za9 a6) ?_;refine zlD a6 ?_;cases h;exact zlG (eA []);replace a6:=zcz a6;obtain ⟨h,b3⟩:=cfd a6 h;refine zlE (zdd a6) ?_;refine zlE a6 ?_;cases h;exact zlG (eA []);replace h:=hk100;refine zlC ?_ ?_<;>intro b4;replace h:=zbe b4 h;obtain ⟨c8,he105,h⟩:=zac h;refine ⟨_,⟨(by omega),zad he105,rfl⟩,?_⟩;refine zlF c8.length zae ?_;refine zlC ?_ ?_<;>intro b5;obtain ⟨h,b6⟩:=ctd b5 h;cases h;have ho98:_=_:=ho98;cases ho98;replace h:some _=some _:=hk51;cases h;exact ⟨rfl,rfl⟩;obtain ⟨h,b6⟩:=cfd b5 h;obtain ⟨c9,h⟩:=zah h;refine za5.mk c9 ?_;cases h;exact zlK _ ho98 (eA []);replace h:=zbd b4 h;cases h;have ho98:_=_:=ho98;cases ho98;exact zdm.mk' _ rfl (eA []);rintro ⟨⟩ rfl hp;replace h:=zb7 hk51;obtain ⟨oc,hc,hk108⟩:=zlA h;clear h;have h:=hc;clear hc;refine zlJ oc (Y:=Unit) (fun (_:Unit)=>mkSt [(1,.im (.ref (zab m_)))] [] []) (fun (_:Unit)=>True) (by rintro ⟨⟩;exact (hT)) ?_ ?_;refine zbp.iter (fun (s:Nat)=>zc4.s4 m_ s) (fun a8=>mkSt [(1,.im (.ref (zab m_))),(4,.im (nI (↑a8:Int)))] [] []) (fun a8=>True) h (eA []) (by rintro a8;exact (hT)) ?_;clear h;rintro k a8 o hp h ho155;replace h:zc4.s4 m_ a8=some o:=h;unfold zc4.s4 at h;obtain ⟨d0,hc,hk157⟩:=zlA h;clear h;have h:=hc;clear hc;refine Cut.mk (mkSt [(1,.im (.ref (zab m_))),(4,.im (nI (↑a8:Int))),(31,.im (nB d0))] [] []) (True) (hT) ?_ (fun hp=>?_);refine zlF m_.Out.length zae ?_;refine zlC ?_ ?_<;>intro a7;replace a7:=zc0 a7;obtain ⟨h,b7⟩:=ctd a7 h;refine zlD (za9 a7) ?_;refine zlD a7 ?_;cases h;exact zlG (eA []);replace a7:=zcz a7;obtain ⟨h,b7⟩:=cfd a7 h;refine zlE (zdd a7) ?_;refine zlE a7 ?_;cases h;exact zlG (eA []);replace h:=hk157;refine zlC ?_ ?_<;>intro b8;replace h:=zbe b8 h;obtain ⟨d1,he162,h⟩:=zac h;refine ⟨_,⟨(by omega),zad he162,rfl⟩,?_⟩;refine zlF d1.length zae ?_;refine zlC ?_ ?_<;>intro b9;obtain ⟨h,c0⟩:=ctd b9 h;cases h;have ho155:_=_:=ho155;cases ho155;replace h:some _=some _:=hk108;cases h;exact ⟨rfl,rfl⟩;obtain ⟨h,c0⟩:=cfd b9 h;obtain ⟨d2,h⟩:=zah h;refine za5.mk d2 ?_;cases h;exact zlK _ ho155 (eA []);replace h:=zbd b8 h;cases h;have ho155:_=_:=ho155;cases ho155;exact zdm.mk' _ rfl (eA []);rintro ⟨⟩ rfl hp;replace h:=zb7 hk108;obtain ⟨d3,hc,hk166⟩:=zlA h;clear h;have h:=hc;clear hc;refine Cut.mk (mkSt [(2,.im (nB d3))] [] []) (True) (hT) ?_ (fun hp=>?_);refine zlF m_.Next.length zae ?_;refine zlC ?_ ?_<;>intro a2;replace a2:=zde a2;obtain ⟨h,c6⟩:=cfd a2 h
 iterate 2 (refine zlD (zbk a2) ?_)
 refine zlF m_.Out.length zae ?_;refine zlD (zbk a2) ?_;refine zlE a2 ?_;cases h;exact zlG (eA []);replace a2:=zdg a2;obtain ⟨h,c6⟩:=ctd a2 h
 iterate 3 (refine zlE (zdf a2) ?_)
 refine zlD a2 ?_;cases h;exact zlG (eA []);replace h:=hk166;cases h;exact ⟨rfl,rfl⟩
theorem zik (p_:zag) (r:Int) (h:Ok (.agg (zap p_))→zda p_=some r):Sp Tryz.prog 18 [.im (.agg (zap p_))] (.im (nI r)):=by
 refine zbq rfl [700001] rfl rfl rfl (zkE rfl) rfl fun hk=>?_;replace h:=h hk.1;have z1:lZ p_.Next:=zaj (zlI hk.1 2 rfl);have z2:lZ p_.Out:=zaj (zlI hk.1 3 rfl);unfold zda at h;refine zlF p_.Next.length zae ?_;obtain ⟨e9,hc,hk52⟩:=zlA h;clear h;have h:=hc;clear hc;refine Cut.mk (mkSt [(1,.im (.ref (zap p_))),(3,.im (nI (↑p_.Next.length:Int))),(11,.im (nB e9))] [] []) (True) (hT) ?_ (fun hp=>?_);refine zlC ?_ ?_<;>intro b5;replace b5:=zde b5;obtain ⟨h,d3⟩:=cfd b5 h
 iterate 2 (refine zlD (zbk b5) ?_)
 refine zlE b5 ?_;cases h;exact zlG (eA []);replace b5:=zdg b5;obtain ⟨h,d3⟩:=ctd b5 h
 iterate 2 (refine zlE (zdf b5) ?_)
 refine zlD b5 ?_;cases h;exact zlG (eA []);replace h:=hk52;refine zlC ?_ ?_<;>intro e4;replace h:=zbe e4 h;cases h;exact ⟨rfl,rfl⟩;replace h:=zbd e4 h;refine zlC ?_ ?_<;>intro e5;obtain ⟨h,d4⟩:=ctd e5 h;cases h;exact ⟨rfl,rfl⟩;obtain ⟨h,d4⟩:=cfd e5 h;refine zlC ?_ ?_<;>intro e6;obtain ⟨h,d5⟩:=ctd e6 h;cases h;exact ⟨rfl,rfl⟩;obtain ⟨h,d5⟩:=cfd e6 h;obtain ⟨f3,hc,hk60⟩:=zlA h;clear h;have h:=hc;clear hc;refine Cut.mk (mkSt [(1,.im (.ref (zap p_))),(3,.im (nI (↑p_.Next.length:Int))),(26,.im (nB f3))] [] []) (True) (hT) ?_ (fun hp=>?_);refine zlC ?_ ?_<;>intro b6;replace b6:=zde b6;obtain ⟨h,d6⟩:=cfd b6 h
 iterate 3 (refine zlD (zbk b6) ?_)
 refine zlE b6 ?_;cases h;exact zlG (eA []);replace b6:=zdg b6;obtain ⟨h,d6⟩:=ctd b6 h
 iterate 3 (refine zlE (zdf b6) ?_)
 refine zlD b6 ?_;cases h;exact zlG (eA []);replace h:=hk60;refine zlC ?_ ?_<;>intro e7;replace h:=zbe e7 h;cases h;exact ⟨rfl,rfl⟩;replace h:=zbd e7 h;refine zlF p_.Out.length zae ?_;refine zlC ?_ ?_<;>intro e8;obtain ⟨h,d7⟩:=ctd e8 h;cases h;exact ⟨rfl,rfl⟩;obtain ⟨h,d7⟩:=cfd e8 h;obtain ⟨oc,hc,hk66⟩:=zlA h;clear h;have h:=hc;clear hc;refine zlJ oc (Y:=Unit) (fun (_:Unit)=>mkSt [] [] []) (fun (_:Unit)=>True) (by rintro ⟨⟩;exact (hT)) ?_ ?_;refine zbp.iter (fun (s:Nat)=>zda.s14 p_ s) (fun a2=>mkSt [(1,.im (.ref (zap p_))),(3,.im (nI (↑p_.Next.length:Int))),(42,.im (nI (↑p_.Next.length:Int))),(43,.im (nI (↑a2:Int)))] [] []) (fun a2=>True) h (eA []) (by rintro a2;exact (hT)) ?_;clear h;rintro k a2 o hp h ho645;replace h:zda.s14 p_ a2=some o:=h;unfold zda.s14 at h;refine zlC ?_ ?_<;>intro b7;obtain ⟨h,b8⟩:=ctd b7 h;obtain ⟨d8,hc,hk648⟩:=zlA h;clear h;have h:=hc;clear hc;refine Cut.mk (mkSt [(1,.im (.ref (zap p_))),(3,.im (nI (↑p_.Next.length:Int))),(4,.im (nI (↑a2:Int))),(42,.im (nI (↑p_.Next.length:Int))),(43,.im (nI (↑a2:Int))),(65,.im (nB d8))] [] []) (True) (hT) ?_ (fun hp=>?_);obtain ⟨d9,he653,h⟩:=zac h;refine ⟨_,⟨(by omega),zad he653,rfl⟩,?_⟩;refine zlF d9.length zae ?_;refine zlC ?_ ?_<;>intro a6;replace a6:=zde a6;obtain ⟨h,b9⟩:=cfd a6 h
 iterate 3 (refine zlD (zbk a6) ?_)
 obtain ⟨e0,he655,h⟩:=zac h;refine ⟨_,⟨(by omega),zad he655,rfl⟩,?_⟩
 iterate 2 (refine zlD (zbk a6) ?_)
 refine zlF e0.length zae ?_
 iterate 3 (refine zlD (zbk a6) ?_)
 refine zlE a6 ?_;cases h;exact zlG (eA []);replace a6:=zdg a6;obtain ⟨h,b9⟩:=ctd a6 h
 iterate 8 (refine zlE (zdf a6) ?_)
 refine zlD a6 ?_;cases h;exact zlG (eA []);replace h:=hk648;refine zlC ?_ ?_<;>intro c0;replace h:=zbe c0 h;cases h;have ho645:_=_:=ho645;cases ho645;replace h:some _=some _:=hk66;cases h;exact ⟨rfl,rfl⟩;replace h:=zbd c0 h;obtain ⟨b3,he657,h⟩:=zac h;refine ⟨_,⟨(by omega),zad he657,rfl⟩,?_⟩;refine zlF b3.length zae ?_;obtain ⟨oc,hc,hk658⟩:=zlA h;clear h;have h:=hc;clear hc;refine zlJ oc (Y:=Unit) (fun (_:Unit)=>mkSt [(1,.im (.ref (zap p_))),(3,.im (nI (↑p_.Next.length:Int))),(42,.im (nI (↑p_.Next.length:Int))),(43,.im (nI (↑a2:Int)))] [] []) (fun (_:Unit)=>True) (by rintro ⟨⟩;exact (hT)) ?_ ?_;refine zbp.iter (fun (s:Nat)=>zda.s13 p_ a2 b3 s) (fun b4=>mkSt [(1,.im (.ref (zap p_))),(3,.im (nI (↑p_.Next.length:Int))),(4,.im (nI (↑a2:Int))),(42,.im (nI (↑p_.Next.length:Int))),(43,.im (nI (↑a2:Int))),(70,.im (nL cI b3)),(71,.im (nI (↑b3.length:Int))),(72,.im (nI (↑b4:Int)))] [] []) (fun b4=>lZ b3∧True) h (eA []) (by rintro b4;exact ((zlH 70 rfl).and (hT))) ?_;clear h;rintro k b4 o hp h ho743;replace h:zda.s13 p_ a2 b3 b4=some o:=h;unfold zda.s13 at h;obtain ⟨f4,_⟩:=hp;refine zlC ?_ ?_<;>intro c6;obtain ⟨h,c7⟩:=ctd c6 h;obtain ⟨e1,he745,h⟩:=zac h;refine ⟨_,⟨(by omega),zad he745,rfl⟩,?_⟩;obtain ⟨f5,he746,h⟩:=zac h;refine ⟨_,⟨(by omega),zad he746,rfl⟩,?_⟩;obtain ⟨e2,he747,h⟩:=zac h;refine ⟨_,⟨(by omega),zad he747,rfl⟩,?_⟩;obtain ⟨e3,hc,hk749⟩:=zlA h;clear h;have h:=hc;clear hc;refine Cut.mk (mkSt [(1,.im (.ref (zap p_))),(3,.im (nI (↑p_.Next.length:Int))),(4,.im (nI (↑a2:Int))),(6,.im (nI e1)),(7,.im (nI e2)),(42,.im (nI (↑p_.Next.length:Int))),(43,.im (nI (↑a2:Int))),(70,.im (nL cI b3)),(71,.im (nI (↑b3.length:Int))),(72,.im (nI (↑b4:Int))),(99,.im (nB e3))] [] []) (lZ b3∧True) ((zlH 70 rfl).and (hT)) ?_ (fun hp=>?_);refine zlC ?_ ?_<;>intro a7;replace a7:=zde a7;obtain ⟨h,c8⟩:=cfd a7 h
 iterate 2 (refine zlD (zbk a7) ?_)
 refine zlE a7 ?_;refine zlC ?_ ?_<;>intro a8;replace a8:=zde a8;obtain ⟨h,c9⟩:=cfd a8 h;refine zlD (zbk a8) ?_;refine zlE a8 ?_;refine zlC ?_ ?_<;>intro b2;replace b2:=zde b2;obtain ⟨h,d0⟩:=cfd b2 h;refine zlD (zbk b2) ?_;refine zlE b2 ?_;cases h;exact zlG (eA []);replace b2:=zdg b2;obtain ⟨h,d0⟩:=ctd b2 h;refine zlE (zdf b2) ?_;refine zlD b2 ?_;cases h;exact zlG (eA []);replace a8:=zdg a8;obtain ⟨h,c9⟩:=ctd a8 h;refine zlE (zdf a8) ?_;refine zlD a8 ?_
 iterate 2 (refine zlE rfl ?_)
 refine zlD rfl ?_;cases h;exact zlG (eA []);replace a7:=zdg a7;obtain ⟨h,c8⟩:=ctd a7 h
 iterate 2 (refine zlE (zdf a7) ?_)
 refine zlD a7 ?_
 iterate 2 (refine zlE rfl ?_)
 refine zlD rfl ?_
 iterate 2 (refine zlE rfl ?_)
 refine zlD rfl ?_;cases h;exact zlG (eA []);replace h:=hk749;obtain ⟨f7,_⟩:=hp;refine zlC ?_ ?_<;>intro d1;replace h:=zbe d1 h;cases h;have ho743:_=_:=ho743;cases ho743;replace h:some _=some _:=hk658;cases h;have ho645:_=_:=ho645;cases ho645;replace h:some _=some _:=hk66;cases h;exact ⟨rfl,rfl⟩;replace h:=zbd d1 h;refine zlC ?_ ?_<;>intro d2;replace h:=zbe d2 h;cases h;have ho743:_=_:=ho743;cases ho743;replace h:some _=some _:=hk658;cases h;have ho645:_=_:=ho645;cases ho645;replace h:some _=some _:=hk66;cases h;exact ⟨rfl,rfl⟩;replace h:=zbd d2 h;refine za5.mk (by show inR _;unfold inR;omega) ?_;cases h;exact zlK _ ho743 (eA []);obtain ⟨h,c7⟩:=cfd c6 h;cases h;have ho743:_=_:=ho743;cases ho743;exact zdm.mk' _ rfl (eA []);rintro ⟨⟩ rfl hp;replace h:=zb7 hk658;refine za5.mk (by show inR _;unfold inR;omega) ?_;cases h;exact zlK _ ho645 (eA []);obtain ⟨h,b8⟩:=cfd b7 h;cases h;have ho645:_=_:=ho645;cases ho645;exact zdm.mk' _ rfl (eA []);rintro ⟨⟩ rfl hp;replace h:=zb7 hk66;cases h;exact ⟨rfl,rfl⟩
theorem sp_merge_Run (p_:zag) (w_:List Int) (r:List Int×Bool) (h:Ok (.agg (zap p_))→Ok (nL cI w_)→zg8 p_ w_=some r):Sp Tryz.prog 12 [.im (.agg (zap p_)),.im (nL cI w_)] (.tup [nL cI r.1,nB r.2]):=by
 refine zbq rfl [700002] rfl rfl rfl (zkE rfl) rfl fun hk=>?_;replace h:=h hk.1 hk.2.1;have z1:lZ p_.Next:=zaj (zlI hk.1 2 rfl);have z2:lZ p_.Out:=zaj (zlI hk.1 3 rfl);have z3:lZ w_:=zaj hk.2.1;unfold zg8 at h;obtain ⟨d0,hc51,h⟩:=zlA h;refine ⟨_,(zik p_ d0 (fun _=>hc51)),?_⟩;refine zlC ?_ ?_<;>intro c9;obtain ⟨h,c0⟩:=ctd c9 h;cases h;exact ⟨rfl,rfl⟩;obtain ⟨h,c0⟩:=cfd c9 h;refine zlF w_.length zae ?_;obtain ⟨oc,hc,hk53⟩:=zlA h;clear h;have h:=hc;clear hc;refine zlJ oc (Y:=List Int) (fun b3=>mkSt [(7,.osl 64 1)] [(64,.row 3 1 (List.map cI b3))] []) (fun b3=>lZ b3∧True) (by rintro b3;exact ((Holds.kdl 64 rfl).and (hT))) ?_ ?_;refine zbp.iter (fun (s:Int×List Int×Nat)=>zg8.s2 p_ w_ s.1 s.2.1 s.2.2) (fun (a8,a6,b2)=>mkSt [(2,.im (.ref (zap p_))),(6,.im (nI a8)),(7,.osl 64 1),(15,.im (nL cI w_)),(16,.im (nI (↑w_.length:Int))),(17,.im (nI (↑b2:Int)))] [(64,.row 3 1 (List.map cI a6))] []) (fun (a8,a6,b2)=>lZ w_∧lZ a6∧True) h (eA [(64,none)]) (by rintro ⟨a8,a6,b2⟩;exact ((zlH 15 rfl).and ((Holds.kdl 64 rfl).and (hT)))) ?_;clear h;rintro k ⟨a8,a6,b2⟩ o hp h ho165;replace h:zg8.s2 p_ w_ a8 a6 b2=some o:=h;unfold zg8.s2 at h;obtain ⟨d1,d2,_⟩:=hp;refine zlC ?_ ?_<;>intro b5;obtain ⟨h,b6⟩:=ctd b5 h;obtain ⟨c6,he167,h⟩:=zac h;refine ⟨_,⟨(by omega),zad he167,rfl⟩,?_⟩;obtain ⟨c7,hc,hk169⟩:=zlA h;clear h;have h:=hc;clear hc;refine Cut.mk (mkSt [(2,.im (.ref (zap p_))),(6,.im (nI a8)),(7,.osl 64 1),(9,.im (nI c6)),(15,.im (nL cI w_)),(16,.im (nI (↑w_.length:Int))),(17,.im (nI (↑b2:Int))),(39,.im (nB c7))] [(64,.row 3 1 (List.map cI a6))] []) (lZ w_∧lZ a6∧True) ((zlH 15 rfl).and ((Holds.kdl 64 rfl).and (hT))) ?_ (fun hp=>?_);refine zlC ?_ ?_<;>intro a7;replace a7:=zde a7;obtain ⟨h,b7⟩:=cfd a7 h
 iterate 3 (refine zlD (zbk a7) ?_)
 refine zlE a7 ?_;refine zlC ?_ ?_<;>intro a2;replace a2:=zde a2;obtain ⟨h,b8⟩:=cfd a2 h
 iterate 3 (refine zlD (zbk a2) ?_)
 obtain ⟨d3,he177z,he177,h⟩:=zan h;refine ⟨_,⟨he177z,zad he177,rfl⟩,?_⟩
 iterate 3 (refine zlD (zbk a2) ?_)
 obtain ⟨d4,he178z,he178,h⟩:=zan h;refine ⟨_,⟨he178z,zad he178,rfl⟩,?_⟩
 iterate 2 (refine zlD (zbk a2) ?_)
 refine zlE a2 ?_;cases h;exact zlG (eA [(64,some 64)]);replace a2:=zdg a2;obtain ⟨h,b8⟩:=ctd a2 h
 iterate 8 (refine zlE (zdf a2) ?_)
 refine zlD a2 ?_;cases h;exact zlG (eA [(64,some 64)]);replace a7:=zdg a7;obtain ⟨h,b7⟩:=ctd a7 h
 iterate 3 (refine zlE (zdf a7) ?_)
 refine zlD a7 ?_
 iterate 9 (refine zlE rfl ?_)
 refine zlD rfl ?_;cases h;exact zlG (eA [(64,some 64)]);replace h:=hk169;obtain ⟨d5,d6,_⟩:=hp;refine zlC ?_ ?_<;>intro b9;replace h:=zbe b9 h;cases h;have ho165:_=_:=ho165;cases ho165;replace h:some _=some _:=hk53;cases h;exact ⟨rfl,rfl⟩;replace h:=zbd b9 h;obtain ⟨d7,he182z,he182,h⟩:=zan h;refine ⟨_,⟨he182z,zad he182,rfl⟩,?_⟩;obtain ⟨b4,he183z,he183,h⟩:=zan h;refine ⟨_,⟨he183z,zad he183,rfl⟩,?_⟩;obtain ⟨c8,h⟩:=zah h;refine zlB ⟨rfl,zby (l:=[b4]) (c:=cI) fun _=>rfl,show zaw _ 8 by simpa only [zkK,zkL,List.length_nil,Nat.zero_add] using c8⟩ ?_;refine zlF (List.map cI (a6++[b4])) (zb0 (l:=a6) (m:=[b4]) (c:=cI)) ?_;obtain ⟨d8,he185z,he185,h⟩:=zan h;refine ⟨_,⟨he185z,zad he185,rfl⟩,?_⟩;obtain ⟨d9,he186z,he186,h⟩:=zan h;refine ⟨_,⟨he186z,zad he186,rfl⟩,?_⟩;refine za5.mk (by show inR _;unfold inR;omega) ?_;cases h;exact zlK _ ho165 (eA [(64,some 64)]);obtain ⟨h,b6⟩:=cfd b5 h;cases h;have ho165:_=_:=ho165;cases ho165;exact zdm.mk' _ rfl (eA [(64,some 64)]);rintro b3 rfl hp;replace h:=zb7 hk53;obtain ⟨e0,_⟩:=hp;cases h;exact zlB ⟨rfl,trivial⟩ ⟨rfl,rfl⟩
theorem zhh (s_:List Int) (f_:Int→Option Bool) (f1_:FuncId) (hf1:∀ x0 r,f_ x0=some r→Sp Tryz.prog f1_ [.im (nI x0)] (.im (nB r))) (r:Int) (h:Ok (nL cI s_)→Ok (.fn f1_ [])→zb6 s_ f_=some r):Sp Tryz.prog 246 [.im (nL cI s_),.im (.fn f1_ [])] (.im (nI r)):=by
 refine zbq rfl [] rfl rfl rfl (zkE rfl) rfl fun hk=>?_;replace h:=h hk.1 hk.2.1;have z1:lZ s_:=zaj hk.1;unfold zb6 at h;refine zlF s_.length zae ?_;obtain ⟨oc,hc,hk51⟩:=zlA h;clear h;have h:=hc;clear hc;refine zlJ oc (Y:=Unit) (fun (_:Unit)=>mkSt [] [] []) (fun (_:Unit)=>True) (by rintro ⟨⟩;exact (hT)) ?_ ?_;refine zbp.iter (fun (s:Nat)=>zb6.s2 s_ f_ s) (fun a2=>mkSt [(0,.im (nL cI s_)),(1,.im (.fn f1_ [])),(7,.im (nI (↑s_.length:Int))),(8,.im (nI (↑a2:Int)))] [] []) (fun a2=>lZ s_∧True) h (eA []) (by rintro a2;exact ((zlH 0 rfl).and (hT))) ?_;clear h;rintro k a2 o hp h ho76;replace h:zb6.s2 s_ f_ a2=some o:=h;unfold zb6.s2 at h;obtain ⟨b4,_⟩:=hp;refine zlC ?_ ?_<;>intro a7;obtain ⟨h,a6⟩:=ctd a7 h;obtain ⟨b2,he78,h⟩:=zac h;refine ⟨_,⟨(by omega),zad he78,rfl⟩,?_⟩;obtain ⟨b3,hc79,h⟩:=zlA h;refine ⟨_,hf1 b2 b3 hc79,?_⟩;refine zlC ?_ ?_<;>intro a8;replace h:=zbe a8 h;cases h;have ho76:_=_:=ho76;cases ho76;replace h:some _=some _:=hk51;cases h;exact ⟨rfl,rfl⟩;replace h:=zbd a8 h;refine za5.mk (by show inR _;unfold inR;omega) ?_;cases h;exact zlK _ ho76 (eA []);obtain ⟨h,a6⟩:=cfd a7 h;cases h;have ho76:_=_:=ho76;cases ho76;exact zdm.mk' _ rfl (eA []);rintro ⟨⟩ rfl hp;replace h:=zb7 hk51;cases h;exact ⟨rfl,rfl⟩
theorem zgx (s_:List Int) (f_:Int→Option Bool) (f1_:FuncId) (hf1:∀ x0 r,f_ x0=some r→Sp Tryz.prog f1_ [.im (nI x0)] (.im (nB r))) (r:Bool) (h:Ok (nL cI s_)→Ok (.fn f1_ [])→zd5 s_ f_=some r):Sp Tryz.prog 179 [.im (nL cI s_),.im (.fn f1_ [])] (.im (nB r)):=by
 refine zbq rfl [] rfl rfl rfl (zkE rfl) rfl fun hk=>?_;replace h:=h hk.1 hk.2.1;have z1:lZ s_:=zaj hk.1;unfold zd5 at h;obtain ⟨a2,hc51,h⟩:=zlA h;refine ⟨_,(zhh s_ f_ f1_ hf1 a2 (fun _ _=>hc51)),?_⟩;cases h;exact ⟨rfl,rfl⟩
theorem zor (inputs_:Int) (r:Bool) (h:Ok (nI inputs_)→zir inputs_=some r):Sp Tryz.prog 178 [.im (nI inputs_)] (.im (nB r)):=by
 refine zbq rfl [] rfl rfl rfl (zkE rfl) rfl fun hk=>?_;replace h:=h hk.1;unfold zir at h;obtain ⟨a7,hc,hk52⟩:=zlA h;clear h;have h:=hc;clear hc;refine Cut.mk (mkSt [(2,.im (nB a7))] [] []) (True) (hT) ?_ (fun hp=>?_);refine zlC ?_ ?_<;>intro a2;replace a2:=zc0 a2;obtain ⟨h,a6⟩:=ctd a2 h;refine zlD (za9 a2) ?_;refine zlD a2 ?_;cases h;exact zlG (eA []);replace a2:=zcz a2;obtain ⟨h,a6⟩:=cfd a2 h;refine zlE (zdd a2) ?_;refine zlE a2 ?_;cases h;exact zlG (eA []);replace h:=hk52;cases h;exact ⟨rfl,rfl⟩
theorem zrf (a_:Int) (p1_:Int) (r:Bool) (h:Ok (nI a_)→Ok (.ref (cI p1_))→zh5 a_ p1_=some r):Sp Tryz.prog 180 [.im (nI a_),.im (.ref (cI p1_))] (.im (nB r)):=by
 refine zbq rfl [] rfl rfl rfl (zkE rfl) rfl fun hk=>?_;replace h:=h hk.1 hk.2.1;unfold zh5 at h;obtain ⟨a7,hc,hk52⟩:=zlA h;clear h;have h:=hc;clear hc;refine Cut.mk (mkSt [(3,.im (nB a7))] [] []) (True) (hT) ?_ (fun hp=>?_);refine zlC ?_ ?_<;>intro a2;replace a2:=zde a2;obtain ⟨h,a6⟩:=cfd a2 h
 iterate 2 (refine zlD (zbk a2) ?_)
 refine zlE a2 ?_;cases h;exact zlG (eA []);replace a2:=zdg a2;obtain ⟨h,a6⟩:=ctd a2 h
 iterate 2 (refine zlE (zdf a2) ?_)
 refine zlD a2 ?_;cases h;exact zlG (eA []);replace h:=hk52;cases h;exact ⟨rfl,rfl⟩
theorem zgt (s_:List Int) (f_:Int→Option Bool) (f1_:FuncId) (k1_0:IV) (hk1_0:nz k1_0=k1_0) (hf1:∀ x0 r,f_ x0=some r→Sp Tryz.prog f1_ [.im (nI x0),.im k1_0] (.im (nB r))) (r:Int) (h:Ok (nL cI s_)→Ok (.fn f1_ [k1_0])→zbs s_ f_=some r):Sp Tryz.prog 246 [.im (nL cI s_),.im (.fn f1_ [k1_0])] (.im (nI r)):=by
 refine zbq rfl [] rfl rfl rfl (zkE rfl) rfl fun hk=>?_;replace h:=h hk.1 hk.2.1;have z1:lZ s_:=zaj hk.1;unfold zbs at h;refine zlF s_.length zae ?_;obtain ⟨oc,hc,hk51⟩:=zlA h;clear h;have h:=hc;clear hc;refine zlJ oc (Y:=Unit) (fun (_:Unit)=>mkSt [] [] []) (fun (_:Unit)=>True) (by rintro ⟨⟩;exact (hT)) ?_ ?_;refine zbp.iter (fun (s:Nat)=>zbs.s2 s_ f_ s) (fun a2=>mkSt [(0,.im (nL cI s_)),(1,.im (.fn f1_ [k1_0])),(7,.im (nI (↑s_.length:Int))),(8,.im (nI (↑a2:Int)))] [] []) (fun a2=>lZ s_∧True) h (eA []) (by rintro a2;exact ((zlH 0 rfl).and (hT))) ?_;clear h;rintro k a2 o hp h ho76;replace h:zbs.s2 s_ f_ a2=some o:=h;unfold zbs.s2 at h;obtain ⟨b4,_⟩:=hp;refine zlC ?_ ?_<;>intro a7;obtain ⟨h,a6⟩:=ctd a7 h;obtain ⟨b2,he78,h⟩:=zac h;refine ⟨_,⟨(by omega),zad he78,rfl⟩,?_⟩;obtain ⟨b3,hc79,h⟩:=zlA h;refine ⟨_,Sp.args (hf1 b2 b3 hc79) (by rw [hk1_0];try rfl),?_⟩;refine zlC ?_ ?_<;>intro a8;replace h:=zbe a8 h;cases h;have ho76:_=_:=ho76;cases ho76;replace h:some _=some _:=hk51;cases h;exact ⟨rfl,rfl⟩;replace h:=zbd a8 h;refine za5.mk (by show inR _;unfold inR;omega) ?_;cases h;exact zlK _ ho76 (eA []);obtain ⟨h,a6⟩:=cfd a7 h;cases h;have ho76:_=_:=ho76;cases ho76;exact zdm.mk' _ rfl (eA []);rintro ⟨⟩ rfl hp;replace h:=zb7 hk51;cases h;exact ⟨rfl,rfl⟩
theorem zgd (s_:List Int) (f_:Int→Option Bool) (f1_:FuncId) (k1_0:IV) (hk1_0:nz k1_0=k1_0) (hf1:∀ x0 r,f_ x0=some r→Sp Tryz.prog f1_ [.im (nI x0),.im k1_0] (.im (nB r))) (r:Bool) (h:Ok (nL cI s_)→Ok (.fn f1_ [k1_0])→zds s_ f_=some r):Sp Tryz.prog 179 [.im (nL cI s_),.im (.fn f1_ [k1_0])] (.im (nB r)):=by
 refine zbq rfl [] rfl rfl rfl (zkE rfl) rfl fun hk=>?_;replace h:=h hk.1 hk.2.1;have z1:lZ s_:=zaj hk.1;unfold zds at h;obtain ⟨a2,hc51,h⟩:=zlA h;refine ⟨_,(zgt s_ f_ f1_ k1_0 hk1_0 hf1 a2 (fun _ _=>hc51)),?_⟩;cases h;exact ⟨rfl,rfl⟩
theorem zm2 (w_:List Int) (inputs_:Int) (r:Int) (h:Ok (nL cI w_)→Ok (nI inputs_)→zll w_ inputs_=some r):Sp Tryz.prog 114 [.im (nL cI w_),.im (nI inputs_)] (.im (nI r)):=by
 refine zbq rfl [700003] rfl rfl rfl (zkE rfl) rfl fun hk=>?_;replace h:=h hk.1 hk.2.1;have z1:lZ w_:=zaj hk.1;unfold zll at h;obtain ⟨b2,hc51,h⟩:=zlA h;refine ⟨_,(zor inputs_ b2 (fun _=>hc51)),?_⟩;refine zlC ?_ ?_<;>intro a6;replace h:=zbe a6 h;cases h;exact ⟨rfl,rfl⟩;replace h:=zbd a6 h;refine zlF w_.length zae ?_;refine zlC ?_ ?_<;>intro a7;obtain ⟨h,a2⟩:=ctd a7 h;cases h;exact ⟨rfl,rfl⟩;obtain ⟨h,a2⟩:=cfd a7 h;obtain ⟨b3,hc54,h⟩:=zlA h;refine ⟨_,(zgd w_ (fun u0=>zh5 u0 inputs_) 180 (.ref (cI inputs_)) rfl (fun u0 r h=>(zrf u0 inputs_ r (fun _ _=>h))) b3 (fun _ _=>hc54)),?_⟩;refine zlC ?_ ?_<;>intro a8;replace h:=zbe a8 h;cases h;exact ⟨rfl,rfl⟩;replace h:=zbd a8 h;cases h;exact ⟨rfl,rfl⟩
theorem zim (a_:List Int) (b_:List Int) (r:Int) (h:Ok (nL cI a_)→Ok (nL cI b_)→zdi a_ b_=some r):Sp Tryz.prog 186 [.im (nL cI a_),.im (nL cI b_)] (.im (nI r)):=by
 refine zbq rfl [] rfl rfl rfl (zkE rfl) rfl fun hk=>?_;replace h:=h hk.1 hk.2.1;have z1:lZ a_:=zaj hk.1;have z2:lZ b_:=zaj hk.2.1;unfold zdi at h;refine zlF a_.length zae ?_;refine zlF b_.length zae ?_;obtain ⟨oc,hc,hk51⟩:=zlA h;clear h;have h:=hc;clear hc;refine zlJ oc (Y:=Unit) (fun (_:Unit)=>mkSt [(0,.im (nL cI a_)),(1,.im (nL cI b_))] [] []) (fun (_:Unit)=>lZ a_∧lZ b_∧True) (by rintro ⟨⟩;exact ((zlH 0 rfl).and ((zlH 1 rfl).and (hT)))) ?_ ?_;refine zbp.iter (fun (s:Nat)=>zdi.s2 a_ b_ s) (fun a2=>mkSt [(0,.im (nL cI a_)),(1,.im (nL cI b_)),(10,.im (nI (min (↑a_.length:Int) (↑b_.length:Int)))),(11,.im (nI (↑a2:Int)))] [] []) (fun a2=>lZ a_∧lZ b_∧True) h (eA []) (by rintro a2;exact ((zlH 0 rfl).and ((zlH 1 rfl).and (hT)))) ?_;clear h;rintro k a2 o hp h ho77;replace h:zdi.s2 a_ b_ a2=some o:=h;unfold zdi.s2 at h;obtain ⟨b3,b4,_⟩:=hp;refine zlC ?_ ?_<;>intro a8;obtain ⟨h,a6⟩:=ctd a8 h;obtain ⟨b5,he79,h⟩:=zac h;refine ⟨_,⟨(by omega),zad he79,rfl⟩,?_⟩;obtain ⟨b6,he80,h⟩:=zac h;refine ⟨_,⟨(by omega),zad he80,rfl⟩,?_⟩;refine zlC ?_ ?_<;>intro b2;obtain ⟨h,a7⟩:=ctd b2 h;cases h;have ho77:_=_:=ho77;cases ho77;replace h:some _=some _:=hk51;cases h;exact ⟨rfl,rfl⟩;obtain ⟨h,a7⟩:=cfd b2 h;refine za5.mk (by show inR _;unfold inR;omega) ?_;cases h;exact zlK _ ho77 (eA []);obtain ⟨h,a6⟩:=cfd a8 h;cases h;have ho77:_=_:=ho77;cases ho77;exact zdm.mk' _ rfl (eA []);rintro ⟨⟩ rfl hp;replace h:=zb7 hk51;obtain ⟨b7,b8,_⟩:=hp;refine zlF a_.length zae ?_;refine zlF b_.length zae ?_;cases h;exact ⟨rfl,rfl⟩
theorem zgr (w_:List Int) (p_:List Int) (r:Bool) (h:Ok (nL cI w_)→Ok (nL cI p_)→zen w_ p_=some r):Sp Tryz.prog 120 [.im (nL cI w_),.im (nL cI p_)] (.im (nB r)):=by
 refine zbq rfl [] rfl rfl rfl (zkE rfl) rfl fun hk=>?_;replace h:=h hk.1 hk.2.1;have z1:lZ w_:=zaj hk.1;have z2:lZ p_:=zaj hk.2.1;unfold zen at h;obtain ⟨a2,hc51,h⟩:=zlA h;refine ⟨_,(zim w_ p_ a2 (fun _ _=>hc51)),?_⟩;refine zlF p_.length zae ?_;cases h;exact ⟨rfl,rfl⟩
theorem zjl (a_:zao) (b_:zao) (r:Int) (h:Ok (.agg (zau a_))→Ok (.agg (zau b_))→zgz a_ b_=some r):Sp Tryz.prog 122 [.im (.agg (zau a_)),.im (.agg (zau b_))] (.im (nI r)):=by
 refine zbq rfl [700002,700003] rfl rfl rfl (zkE rfl) rfl fun hk=>?_;replace h:=h hk.1 hk.2.1;have z1:lZ a_.In:=zaj (zlI hk.1 0 rfl);have z2:lZ a_.Out:=zaj (zlI hk.1 1 rfl);have z3:lZ b_.In:=zaj (zlI hk.2.1 0 rfl);have z4:lZ b_.Out:=zaj (zlI hk.2.1 1 rfl);unfold zgz at h;obtain ⟨a2,hc51,h⟩:=zlA h;refine ⟨_,(zim a_.In b_.In a2 (fun _ _=>hc51)),?_⟩;refine zlF a_.Out.length zae ?_;refine zlF b_.Out.length zae ?_;obtain ⟨b2,h⟩:=zah h;refine zlB (show (0:Int)≤(0:Int)∧(0:Int)≤(min (min a2 (↑a_.Out.length:Int)) (↑b_.Out.length:Int))∧(min (min a2 (↑a_.Out.length:Int)) (↑b_.Out.length:Int))≤(↑(List.length (List.map cI a_.Out)):Int)∧(∀ e∈List.map cI a_.Out,List.length e=1) from ⟨by omega,by first | omega | (simp only [zkK];omega),by first | omega | (simp only [zkK];omega),zby fun _=>rfl⟩) ?_
 refine zlF (List.map cI (List.take (Int.toNat (min (min a2 (↑a_.Out.length:Int)) (↑b_.Out.length:Int))) a_.Out)) take_map ?_;obtain ⟨b3,h⟩:=zah h;refine zlB (show (0:Int)≤(0:Int)∧(0:Int)≤(min (min a2 (↑a_.Out.length:Int)) (↑b_.Out.length:Int))∧(min (min a2 (↑a_.Out.length:Int)) (↑b_.Out.length:Int))≤(↑(List.length (List.map cI b_.Out)):Int)∧(∀ e∈List.map cI b_.Out,List.length e=1) from ⟨by omega,by first | omega | (simp only [zkK];omega),by first | omega | (simp only [zkK];omega),zby fun _=>rfl⟩) ?_
 refine zlF (List.map cI (List.take (Int.toNat (min (min a2 (↑a_.Out.length:Int)) (↑b_.Out.length:Int))) b_.Out)) take_map ?_;obtain ⟨a8,hc54,h⟩:=zlA h;refine ⟨_,(zim (List.take (Int.toNat (min (min a2 (↑a_.Out.length:Int)) (↑b_.Out.length:Int))) a_.Out) (List.take (Int.toNat (min (min a2 (↑a_.Out.length:Int)) (↑b_.Out.length:Int))) b_.Out) a8 (fun _ _=>hc54)),?_⟩;refine zlC ?_ ?_<;>intro a7;obtain ⟨h,a6⟩:=ctd a7 h;cases h;exact ⟨rfl,rfl⟩;obtain ⟨h,a6⟩:=cfd a7 h;cases h;exact ⟨rfl,rfl⟩
theorem zj6 (x_:Int) (r:Bool) (h:Ok (nI x_)→cmp_isNaN_int x_=some r):Sp Tryz.prog 261 [.im (nI x_)] (.im (nB r)):=by
 refine zbq rfl [] rfl rfl rfl (zkE rfl) rfl fun hk=>?_;replace h:=h hk.1;unfold cmp_isNaN_int at h;cases h;exact ⟨rfl,rfl⟩
theorem zie (x_:Int) (y_:Int) (r:Int) (h:Ok (nI x_)→Ok (nI y_)→cmp_Compare_int x_ y_=some r):Sp Tryz.prog 201 [.im (nI x_),.im (nI y_)] (.im (nI r)):=by
 refine zbq rfl [] rfl rfl rfl (zkE rfl) rfl fun hk=>?_;replace h:=h hk.1 hk.2.1;unfold cmp_Compare_int at h;obtain ⟨b5,hc51,h⟩:=zlA h;refine ⟨_,(zj6 x_ b5 (fun _=>hc51)),?_⟩;obtain ⟨b6,hc52,h⟩:=zlA h;refine ⟨_,(zj6 y_ b6 (fun _=>hc52)),?_⟩;refine zlC ?_ ?_<;>intro a7;replace h:=zbe a7 h;refine zlC ?_ ?_<;>intro a8;replace h:=zbe a8 h;cases h;exact ⟨rfl,rfl⟩;replace h:=zbd a8 h;cases h;exact ⟨rfl,rfl⟩;replace h:=zbd a7 h;refine zlC ?_ ?_<;>intro b2;replace h:=zbe b2 h;cases h;exact ⟨rfl,rfl⟩;replace h:=zbd b2 h;refine zlC ?_ ?_<;>intro b3;obtain ⟨h,a2⟩:=ctd b3 h;cases h;exact ⟨rfl,rfl⟩;obtain ⟨h,a2⟩:=cfd b3 h;refine zlC ?_ ?_<;>intro b4;obtain ⟨h,a6⟩:=ctd b4 h;cases h;exact ⟨rfl,rfl⟩;obtain ⟨h,a6⟩:=cfd b4 h;cases h;exact ⟨rfl,rfl⟩
theorem zfw (s1_:List Int) (s2_:List Int) (r:Int) (h:Ok (nL cI s1_)→Ok (nL cI s2_)→zbf s1_ s2_=some r):Sp Tryz.prog 202 [.im (nL cI s1_),.im (nL cI s2_)] (.im (nI r)):=by
 refine zbq rfl [] rfl rfl rfl (zkE rfl) rfl fun hk=>?_;replace h:=h hk.1 hk.2.1;have z1:lZ s1_:=zaj hk.1;have z2:lZ s2_:=zaj hk.2.1;unfold zbf at h;refine zlF s1_.length zae ?_;obtain ⟨oc,hc,hk51⟩:=zlA h;clear h;have h:=hc;clear hc;refine zlJ oc (Y:=Unit) (fun (_:Unit)=>mkSt [(0,.im (nL cI s1_)),(1,.im (nL cI s2_))] [] []) (fun (_:Unit)=>lZ s1_∧lZ s2_∧True) (by rintro ⟨⟩;exact ((zlH 0 rfl).and ((zlH 1 rfl).and (hT)))) ?_ ?_;refine zbp.iter (fun (s:Nat)=>zbf.s2 s1_ s2_ s) (fun a2=>mkSt [(0,.im (nL cI s1_)),(1,.im (nL cI s2_)),(9,.im (nL cI s1_)),(10,.im (nI (↑s1_.length:Int))),(11,.im (nI (↑a2:Int)))] [] []) (fun a2=>lZ s1_∧lZ s2_∧True) h (eA []) (by rintro a2;exact ((zlH 0 rfl).and ((zlH 1 rfl).and (hT)))) ?_;clear h;rintro k a2 o hp h ho87;replace h:zbf.s2 s1_ s2_ a2=some o:=h;unfold zbf.s2 at h;obtain ⟨c0,c6,_⟩:=hp;refine zlC ?_ ?_<;>intro b3;obtain ⟨h,a6⟩:=ctd b3 h;obtain ⟨b7,he89,h⟩:=zac h;refine ⟨_,⟨(by omega),zad he89,rfl⟩,?_⟩;refine zlF s2_.length zae ?_;refine zlC ?_ ?_<;>intro b4;obtain ⟨h,a7⟩:=ctd b4 h;cases h;have ho87:_=_:=ho87;cases ho87;replace h:some _=some _:=hk51;cases h;exact ⟨rfl,rfl⟩;obtain ⟨h,a7⟩:=cfd b4 h;obtain ⟨b8,he91,h⟩:=zac h;refine ⟨_,⟨(by omega),zad he91,rfl⟩,?_⟩;obtain ⟨b9,hc92,h⟩:=zlA h;refine ⟨_,(zie b7 b8 b9 (fun _ _=>hc92)),?_⟩;refine zlC ?_ ?_<;>intro b5;obtain ⟨h,a8⟩:=ctd b5 h;cases h;have ho87:_=_:=ho87;cases ho87;replace h:some _=some _:=hk51;cases h;exact ⟨rfl,rfl⟩;obtain ⟨h,a8⟩:=cfd b5 h;refine za5.mk (by show inR _;unfold inR;omega) ?_;cases h;exact zlK _ ho87 (eA []);obtain ⟨h,a6⟩:=cfd b3 h;cases h;have ho87:_=_:=ho87;cases ho87;exact zdm.mk' _ rfl (eA []);rintro ⟨⟩ rfl hp;replace h:=zb7 hk51;obtain ⟨c7,c8,_⟩:=hp;refine zlF s1_.length zae ?_;refine zlF s2_.length zae ?_;refine zlC ?_ ?_<;>intro b6;obtain ⟨h,b2⟩:=ctd b6 h;cases h;exact ⟨rfl,rfl⟩;obtain ⟨h,b2⟩:=cfd b6 h;cases h;exact ⟨rfl,rfl⟩
theorem sp_word_Lex (a_:List Int) (b_:List Int) (r:Int) (h:Ok (nL cI a_)→Ok (nL cI b_)→zhe a_ b_=some r):Sp Tryz.prog 138 [.im (nL cI a_),.im (nL cI b_)] (.im (nI r)):=by
 refine zbq rfl [] rfl rfl rfl (zkE rfl) rfl fun hk=>?_;replace h:=h hk.1 hk.2.1;have z1:lZ a_:=zaj hk.1;have z2:lZ b_:=zaj hk.2.1;unfold zhe at h;obtain ⟨a2,hc51,h⟩:=zlA h;refine ⟨_,(zfw a_ b_ a2 (fun _ _=>hc51)),?_⟩;cases h;exact ⟨rfl,rfl⟩
theorem zqj (l_:List zao) (r:Bool) (h:Ok (nL zau l_)→zew l_=some r):Sp Tryz.prog 117 [.im (nL zau l_)] (.im (nB r)):=by
 refine zbq rfl [8000,2008000] rfl rfl rfl (zkE rfl) rfl fun hk=>?_;replace h:=h hk.1;have z1:lZ l_:=zaj hk.1;unfold zew at h;obtain ⟨c6,hc51,h⟩:=zlA h;refine ⟨_,(zmk l_ c6 (hc51)),?_⟩;refine zlB ⟨rfl,trivial⟩ ?_;obtain ⟨a7,hc52,h⟩:=zlA h;refine ⟨_,(zkf c6 (fun u0 u1=>zf1 u0 u1) 184 zmd a7 (hc52)),?_⟩;obtain ⟨oc,hc,hk53⟩:=zlA h;clear h;have h:=hc;clear hc;refine zlJ oc (Y:=Unit) (fun (_:Unit)=>mkSt [] [] []) (fun (_:Unit)=>True) (by rintro ⟨⟩;exact (hT)) ?_ ?_;refine zbp.iter (fun (s:Nat)=>zew.s2 a7 s) (fun a6=>mkSt [(0,.osl 64 1),(3,.im (nI (↑a6:Int)))] [(64,.row 64 2 (List.map zau a7))] []) (fun a6=>lZ a7∧True) h (eA [(64,some 5)]) (by rintro a6;exact ((Holds.kdl 64 rfl).and (hT))) ?_;clear h;rintro k a6 o hp h ho158;replace h:zew.s2 a7 a6=some o:=h;unfold zew.s2 at h;obtain ⟨c7,_⟩:=hp;refine zlB rfl ?_;refine zlF a7.length zae ?_;refine zlC ?_ ?_<;>intro a8;obtain ⟨h,b2⟩:=ctd a8 h;obtain ⟨b4,hc,hk161⟩:=zlA h;clear h;have h:=hc;clear hc;refine Cut.mk (mkSt [(0,.osl 64 1),(3,.im (nI (↑a6:Int))),(38,.im (nB b4))] [(64,.row 64 2 (List.map zau a7))] []) (lZ a7∧True) ((Holds.kdl 64 rfl).and (hT)) ?_ (fun hp=>?_);obtain ⟨b5,he170,h⟩:=zac h;refine zlB ⟨(by omega),rfl,za0 he170⟩ ?_;refine zlB rfl ?_;refine ⟨_,_,⟨rfl,zad he170,rfl,rfl⟩,?_⟩;refine za5.mk (by show inR _;unfold inR;omega) ?_;obtain ⟨b6,he171z,he171,h⟩:=zan h;refine zlB ⟨he171z,rfl,za0 he171⟩ ?_;refine zlB rfl ?_;refine ⟨_,_,⟨rfl,zad he171,rfl,rfl⟩,?_⟩;obtain ⟨b7,hc172,h⟩:=zlA h;refine ⟨_,(zgr b5.In b6.In b7 (fun _ _=>hc172)),?_⟩;refine zlC ?_ ?_<;>intro a2;replace a2:=zde a2;replace h:=zbd a2 h
 iterate 2 (refine zlD (zbk a2) ?_)
 refine za5.mk (by show inR _;unfold inR;omega) ?_;refine zlD (zbk a2) ?_;obtain ⟨b8,he174z,he174,h⟩:=zan h;refine zlB ⟨he174z,rfl,za0 he174⟩ ?_;refine zlD (zbk a2) ?_;refine ⟨_,⟨rfl,zad he174,of_decide_eq_true rfl,rfl⟩,?_⟩
 iterate 3 (refine zlD (zbk a2) ?_)
 obtain ⟨b9,he175,h⟩:=zac h;refine zlB ⟨(by omega),rfl,za0 he175⟩ ?_;refine zlD (zbk a2) ?_;refine ⟨_,⟨rfl,zad he175,of_decide_eq_true rfl,rfl⟩,?_⟩;refine zlD (zbk a2) ?_;obtain ⟨c0,hc176,h⟩:=zlA h;refine ⟨_,(zjl b8 b9 c0 (fun _ _=>hc176)),?_⟩;refine zlD (zbk a2) ?_;refine zlE a2 ?_;cases h;exact zlG (eA [(64,some 64)]);replace a2:=zdg a2;replace h:=zbe a2 h
 iterate 10 (refine zlE (zdf a2) ?_)
 refine zlD a2 ?_;cases h;exact zlG (eA [(64,some 64)]);replace h:=hk161;obtain ⟨c8,_⟩:=hp;refine zlC ?_ ?_<;>intro b3;replace h:=zbe b3 h;cases h;have ho158:_=_:=ho158;cases ho158;replace h:some _=some _:=hk53;cases h;exact ⟨rfl,rfl⟩;replace h:=zbd b3 h;refine za5.mk (by show inR _;unfold inR;omega) ?_;cases h;exact zlK _ ho158 (eA [(64,some 64)]);obtain ⟨h,b2⟩:=cfd a8 h;cases h;have ho158:_=_:=ho158;cases ho158;exact zdm.mk' _ rfl (eA []);rintro ⟨⟩ rfl hp;replace h:=zb7 hk53;cases h;exact ⟨rfl,rfl⟩
theorem zmj (o_:Int) (r:Bool) (h:Ok (nI o_)→zf3 o_=some r):Sp Tryz.prog 181 [.im (nI o_)] (.im (nB r)):=by
 refine zbq rfl [] rfl rfl rfl (zkE rfl) rfl fun hk=>?_;replace h:=h hk.1;unfold zf3 at h;obtain ⟨a7,hc,hk52⟩:=zlA h;clear h;have h:=hc;clear hc;refine Cut.mk (mkSt [(2,.im (nB a7))] [] []) (True) (hT) ?_ (fun hp=>?_);refine zlC ?_ ?_<;>intro a2;replace a2:=zde a2;obtain ⟨h,a6⟩:=cfd a2 h;refine zlD (zbk a2) ?_;refine zlE a2 ?_;cases h;exact zlG (eA []);replace a2:=zdg a2;obtain ⟨h,a6⟩:=ctd a2 h;refine zlE (zdf a2) ?_;refine zlD a2 ?_;cases h;exact zlG (eA []);replace h:=hk52;cases h;exact ⟨rfl,rfl⟩
theorem zog (t_:zao) (inputs_:Int) (r:Int) (h:Ok (.agg (zau t_))→Ok (nI inputs_)→zil t_ inputs_=some r):Sp Tryz.prog 115 [.im (.agg (zau t_)),.im (nI inputs_)] (.im (nI r)):=by
 refine zbq rfl [700002] rfl rfl rfl (zkE rfl) rfl fun hk=>?_;replace h:=h hk.1 hk.2.1;have z1:lZ t_.In:=zaj (zlI hk.1 0 rfl);have z2:lZ t_.Out:=zaj (zlI hk.1 1 rfl);unfold zil at h;obtain ⟨b3,hc51,h⟩:=zlA h;refine ⟨_,(zm2 t_.In inputs_ b3 (fun _ _=>hc51)),?_⟩;refine zlC ?_ ?_<;>intro a7;obtain ⟨h,a2⟩:=ctd a7 h;cases h;exact ⟨rfl,rfl⟩;obtain ⟨h,a2⟩:=cfd a7 h;refine zlF t_.Out.length zae ?_;refine zlF t_.In.length zae ?_;refine zlC ?_ ?_<;>intro a8;obtain ⟨h,a6⟩:=ctd a8 h;cases h;exact ⟨rfl,rfl⟩;obtain ⟨h,a6⟩:=cfd a8 h;obtain ⟨b4,hc54,h⟩:=zlA h;refine ⟨_,(zgx t_.Out (fun u0=>zf3 u0) 181 (fun u0 r h=>(zmj u0 r (fun _=>h))) b4 (fun _ _=>hc54)),?_⟩;refine zlC ?_ ?_<;>intro b2;replace h:=zbe b2 h;cases h;exact ⟨rfl,rfl⟩;replace h:=zbd b2 h;cases h;exact ⟨rfl,rfl⟩
theorem sp_cmp_Or_int (vals_:List Int) (r:Int) (h:Ok (nL cI vals_)→zd0 vals_=some r):Sp Tryz.prog 200 [.im (nL cI vals_)] (.im (nI r)):=by
 refine zbq rfl [] rfl rfl rfl (zkE rfl) rfl fun hk=>?_;replace h:=h hk.1;have z1:lZ vals_:=zaj hk.1;unfold zd0 at h;refine zlF vals_.length zae ?_;obtain ⟨oc,hc,hk51⟩:=zlA h;clear h;have h:=hc;clear hc;refine zlJ oc (Y:=Unit) (fun (_:Unit)=>mkSt [(3,.im (nI 0))] [] []) (fun (_:Unit)=>True) (by rintro ⟨⟩;exact (hT)) ?_ ?_;refine zbp.iter (fun (s:Nat)=>zd0.s2 vals_ s) (fun a2=>mkSt [(3,.im (nI 0)),(6,.im (nL cI vals_)),(7,.im (nI (↑vals_.length:Int))),(8,.im (nI (↑a2:Int)))] [] []) (fun a2=>lZ vals_∧True) h (eA []) (by rintro a2;exact ((zlH 6 rfl).and (hT))) ?_;clear h;rintro k a2 o hp h ho71;replace h:zd0.s2 vals_ a2=some o:=h;unfold zd0.s2 at h;obtain ⟨b3,_⟩:=hp;refine zlC ?_ ?_<;>intro a8;obtain ⟨h,a6⟩:=ctd a8 h;obtain ⟨b4,he73,h⟩:=zac h;refine ⟨_,⟨(by omega),zad he73,rfl⟩,?_⟩;refine zlC ?_ ?_<;>intro b2;obtain ⟨h,a7⟩:=ctd b2 h;cases h;have ho71:_=_:=ho71;cases ho71;replace h:some _=some _:=hk51;cases h;exact ⟨rfl,rfl⟩;obtain ⟨h,a7⟩:=cfd b2 h;refine za5.mk (by show inR _;unfold inR;omega) ?_;cases h;exact zlK _ ho71 (eA []);obtain ⟨h,a6⟩:=cfd a8 h;cases h;have ho71:_=_:=ho71;cases ho71;exact zdm.mk' _ rfl (eA []);rintro ⟨⟩ rfl hp;replace h:=zb7 hk51;cases h;exact ⟨rfl,rfl⟩
theorem zk7 (a_:List Int) (b_:List Int) (r:Int) (h:Ok (nL cI a_)→Ok (nL cI b_)→zdo a_ b_=some r):Sp Tryz.prog 135 [.im (nL cI a_),.im (nL cI b_)] (.im (nI r)):=by
 refine zbq rfl [] rfl rfl rfl (zkE rfl) rfl fun hk=>?_;replace h:=h hk.1 hk.2.1;have z1:lZ a_:=zaj hk.1;have z2:lZ b_:=zaj hk.2.1;unfold zdo at h;refine zlF a_.length zae ?_;refine zlF b_.length zae ?_;obtain ⟨a2,hc51,h⟩:=zlA h;refine ⟨_,(zie (↑a_.length:Int) (↑b_.length:Int) a2 (fun _ _=>hc51)),?_⟩;obtain ⟨a6,hc52,h⟩:=zlA h;refine ⟨_,(zfw a_ b_ a6 (fun _ _=>hc52)),?_⟩;obtain ⟨a7,hc53,h⟩:=zlA h;refine ⟨_,(sp_cmp_Or_int [a2,a6] a7 (fun _=>hc53)),?_⟩;cases h;exact ⟨rfl,rfl⟩
theorem zpk (a_:zao) (b_:zao) (r:Int) (h:Ok (.agg (zau a_))→Ok (.agg (zau b_))→zjy a_ b_=some r):Sp Tryz.prog 116 [.im (.agg (zau a_)),.im (.agg (zau b_))] (.im (nI r)):=by
 refine zbq rfl [700002,700003] rfl rfl rfl (zkE rfl) rfl fun hk=>?_;replace h:=h hk.1 hk.2.1;have z1:lZ a_.In:=zaj (zlI hk.1 0 rfl);have z2:lZ a_.Out:=zaj (zlI hk.1 1 rfl);have z3:lZ b_.In:=zaj (zlI hk.2.1 0 rfl);have z4:lZ b_.Out:=zaj (zlI hk.2.1 1 rfl);unfold zjy at h;obtain ⟨a2,hc51,h⟩:=zlA h;refine ⟨_,(zk7 a_.In b_.In a2 (fun _ _=>hc51)),?_⟩;cases h;exact ⟨rfl,rfl⟩
theorem zmy (u_:zao) (p1_:zao) (r:Bool) (h:Ok (.agg (zau u_))→Ok (.ref (zau p1_))→zgi u_ p1_=some r):Sp Tryz.prog 119 [.im (.agg (zau u_)),.im (.ref (zau p1_))] (.im (nB r)):=by
 refine zbq rfl [700002] rfl rfl rfl (zkE rfl) rfl fun hk=>?_;replace h:=h hk.1 hk.2.1;have z1:lZ u_.In:=zaj (zlI hk.1 0 rfl);have z2:lZ u_.Out:=zaj (zlI hk.1 1 rfl);have z3:lZ p1_.In:=zaj (Ok.ref_at hk.2.1 0 rfl);have z4:lZ p1_.Out:=zaj (Ok.ref_at hk.2.1 1 rfl);unfold zgi at h;obtain ⟨a2,hc51,h⟩:=zlA h;refine ⟨_,(zgr u_.In p1_.In a2 (fun _ _=>hc51)),?_⟩;cases h;exact ⟨rfl,rfl⟩
theorem zm4 (u_:zao) (p1_:zao) (r:Bool) (h:Ok (.agg (zau u_))→Ok (.ref (zau p1_))→zgj u_ p1_=some r):Sp Tryz.prog 121 [.im (.agg (zau u_)),.im (.ref (zau p1_))] (.im (nB r)):=by
 refine zbq rfl [700002] rfl rfl rfl (zkE rfl) rfl fun hk=>?_;replace h:=h hk.1 hk.2.1;have z1:lZ u_.In:=zaj (zlI hk.1 0 rfl);have z2:lZ u_.Out:=zaj (zlI hk.1 1 rfl);have z3:lZ p1_.In:=zaj (Ok.ref_at hk.2.1 0 rfl);have z4:lZ p1_.Out:=zaj (Ok.ref_at hk.2.1 1 rfl);unfold zgj at h;obtain ⟨a2,hc51,h⟩:=zlA h;refine ⟨_,(zjl p1_ u_ a2 (fun _ _=>hc51)),?_⟩;cases h;exact ⟨rfl,rfl⟩
theorem ze3 (s_:List zao) (f_:zao→Option Bool) (f1_:FuncId) (k1_0:IV) (hk1_0:nz k1_0=k1_0) (hf1:∀ x0 r,f_ x0=some r→Sp Tryz.prog f1_ [.im (.agg (zau x0)),.im k1_0] (.im (nB r))) (r:Int) (h:Ok (nL zau s_)→Ok (.fn f1_ [k1_0])→za4 s_ f_=some r):Sp Tryz.prog 185 [.im (nL zau s_),.im (.fn f1_ [k1_0])] (.im (nI r)):=by
 refine zbq rfl [] rfl rfl rfl (zkE rfl) rfl fun hk=>?_;replace h:=h hk.1 hk.2.1;have z1:lZ s_:=zaj hk.1;unfold za4 at h;refine zlF s_.length zae ?_;obtain ⟨oc,hc,hk51⟩:=zlA h;clear h;have h:=hc;clear hc;refine zlJ oc (Y:=Unit) (fun (_:Unit)=>mkSt [] [] []) (fun (_:Unit)=>True) (by rintro ⟨⟩;exact (hT)) ?_ ?_;refine zbp.iter (fun (s:Nat)=>za4.s2 s_ f_ s) (fun a2=>mkSt [(0,.im (nL zau s_)),(1,.im (.fn f1_ [k1_0])),(7,.im (nI (↑s_.length:Int))),(8,.im (nI (↑a2:Int)))] [] []) (fun a2=>lZ s_∧True) h (eA []) (by rintro a2;exact ((zlH 0 rfl).and (hT))) ?_;clear h;rintro k a2 o hp h ho76;replace h:za4.s2 s_ f_ a2=some o:=h;unfold za4.s2 at h;obtain ⟨b4,_⟩:=hp;refine zlC ?_ ?_<;>intro a7;obtain ⟨h,a6⟩:=ctd a7 h;obtain ⟨b2,he78,h⟩:=zac h;refine ⟨_,⟨(by omega),zad he78,rfl⟩,?_⟩;obtain ⟨b3,hc79,h⟩:=zlA h;refine ⟨_,Sp.args (hf1 b2 b3 hc79) (by rw [hk1_0];try rfl),?_⟩;refine zlC ?_ ?_<;>intro a8;replace h:=zbe a8 h;cases h;have ho76:_=_:=ho76;cases ho76;replace h:some _=some _:=hk51;cases h;exact ⟨rfl,rfl⟩;replace h:=zbd a8 h;refine za5.mk (by show inR _;unfold inR;omega) ?_;cases h;exact zlK _ ho76 (eA []);obtain ⟨h,a6⟩:=cfd a7 h;cases h;have ho76:_=_:=ho76;cases ho76;exact zdm.mk' _ rfl (eA []);rintro ⟨⟩ rfl hp;replace h:=zb7 hk51;cases h;exact ⟨rfl,rfl⟩
theorem zc8 (s_:List zao) (f_:zao→Option Bool) (f1_:FuncId) (k1_0:IV) (hk1_0:nz k1_0=k1_0) (hf1:∀ x0 r,f_ x0=some r→Sp Tryz.prog f1_ [.im (.agg (zau x0)),.im k1_0] (.im (nB r))) (r:Bool) (h:Ok (nL zau s_)→Ok (.fn f1_ [k1_0])→zb4 s_ f_=some r):Sp Tryz.prog 118 [.im (nL zau s_),.im (.fn f1_ [k1_0])] (.im (nB r)):=by
 refine zbq rfl [] rfl rfl rfl (zkE rfl) rfl fun hk=>?_;replace h:=h hk.1 hk.2.1;have z1:lZ s_:=zaj hk.1;unfold zb4 at h;obtain ⟨a2,hc51,h⟩:=zlA h;refine ⟨_,(ze3 s_ f_ f1_ k1_0 hk1_0 hf1 a2 (fun _ _=>hc51)),?_⟩;cases h;exact ⟨rfl,rfl⟩
theorem zpn (o_:zcp) (r:Int) (h:Ok (.agg (zd3 o_))→zct o_=some r):Sp Tryz.prog 57 [.im (.agg (zd3 o_))] (.im (nI r)):=by
 refine zbq rfl [700001,800008] rfl rfl rfl (zkE rfl) rfl fun hk=>?_;replace h:=h hk.1;have z1:lZ o_.Traces:=zaj (zlI hk.1 1 rfl);unfold zct at h;obtain ⟨e6,hc,hk52⟩:=zlA h;clear h;have h:=hc;clear hc;refine Cut.mk (mkSt [(1,.im (.ref (zd3 o_))),(17,.im (nB e6))] [] []) (True) (hT) ?_ (fun hp=>?_);refine zlC ?_ ?_<;>intro b2;replace b2:=zde b2;obtain ⟨h,d4⟩:=cfd b2 h
 iterate 2 (refine zlD (zbk b2) ?_)
 refine zlE b2 ?_;cases h;exact zlG (eA []);replace b2:=zdg b2;obtain ⟨h,d4⟩:=ctd b2 h
 iterate 2 (refine zlE (zdf b2) ?_)
 refine zlD b2 ?_;cases h;exact zlG (eA []);replace h:=hk52;refine zlC ?_ ?_<;>intro e4;replace h:=zbe e4 h;cases h;exact ⟨rfl,rfl⟩;replace h:=zbd e4 h;refine zlF o_.Traces.length zae ?_;refine zlC ?_ ?_<;>intro e5;obtain ⟨h,d5⟩:=ctd e5 h;cases h;exact ⟨rfl,rfl⟩;obtain ⟨h,d5⟩:=cfd e5 h;refine zlF o_.Traces.length zae ?_;obtain ⟨oc,hc,hk58⟩:=zlA h;clear h;have h:=hc;clear hc;refine zlJ oc (Y:=Unit) (fun (_:Unit)=>mkSt [(1,.im (.ref (zd3 o_)))] [] []) (fun (_:Unit)=>True) (by rintro ⟨⟩;exact (hT)) ?_ ?_;refine zbp.iter (fun (s:Nat)=>zct.s2 o_ s) (fun a7=>mkSt [(1,.im (.ref (zd3 o_))),(23,.im (nL zau o_.Traces)),(24,.im (nI (↑o_.Traces.length:Int))),(25,.im (nI (↑a7:Int)))] [] []) (fun a7=>lZ o_.Traces∧True) h (eA []) (by rintro a7;exact ((zlH 23 rfl).and (hT))) ?_;clear h;rintro k a7 o hp h ho153;replace h:zct.s2 o_ a7=some o:=h;unfold zct.s2 at h;obtain ⟨e7,_⟩:=hp;refine zlC ?_ ?_<;>intro b4;obtain ⟨h,b5⟩:=ctd b4 h;obtain ⟨b3,he155,h⟩:=zac h;refine ⟨_,⟨(by omega),zad he155,rfl⟩,?_⟩;refine zlB rfl ?_;refine zlB rfl ?_;refine zlB rfl ?_;obtain ⟨d6,hc156,h⟩:=zlA h;refine ⟨_,(zm2 b3.In o_.Inputs d6 (fun _ _=>hc156)),?_⟩;refine zlC ?_ ?_<;>intro b6;obtain ⟨h,b7⟩:=ctd b6 h;cases h;have ho153:_=_:=ho153;cases ho153;replace h:some _=some _:=hk58;cases h;exact ⟨rfl,rfl⟩;obtain ⟨h,b7⟩:=cfd b6 h;refine zlB rfl ?_;refine zlB rfl ?_;refine zlF b3.In.length zae ?_;refine zlC ?_ ?_<;>intro b8;obtain ⟨h,b9⟩:=ctd b8 h;cases h;have ho153:_=_:=ho153;cases ho153;replace h:some _=some _:=hk58;cases h;exact ⟨rfl,rfl⟩;obtain ⟨h,b9⟩:=cfd b8 h;refine zlB rfl ?_;obtain ⟨d7,hc159,h⟩:=zlA h;refine ⟨_,(zog b3 o_.Inputs d7 (fun _ _=>hc159)),?_⟩;refine zlC ?_ ?_<;>intro c0;obtain ⟨h,c6⟩:=ctd c0 h;cases h;have ho153:_=_:=ho153;cases ho153;replace h:some _=some _:=hk58;cases h;exact ⟨rfl,rfl⟩;obtain ⟨h,c6⟩:=cfd c0 h;obtain ⟨d8,hc,hk162⟩:=zlA h;clear h;have h:=hc;clear hc;refine Cut.mk (mkSt [(1,.im (.ref (zd3 o_))),(23,.im (nL zau o_.Traces)),(24,.im (nI (↑o_.Traces.length:Int))),(25,.im (nI (↑a7:Int))),(61,.im (nB d8))] [] []) (lZ o_.Traces∧True) ((zlH 23 rfl).and (hT)) ?_ (fun hp=>?_);refine zlC ?_ ?_<;>intro a2;replace a2:=zc0 a2;obtain ⟨h,c7⟩:=ctd a2 h
 iterate 3 (refine zlD (za9 a2) ?_)
 refine za5.mk (by show inR _;unfold inR;omega) ?_;refine zlD (za9 a2) ?_;obtain ⟨d9,he168z,he168,h⟩:=zan h;refine ⟨_,⟨he168z,zad he168,rfl⟩,?_⟩
 iterate 2 (refine zlD (za9 a2) ?_)
 refine zlB rfl ?_;refine zlD (za9 a2) ?_;obtain ⟨e0,hc169,h⟩:=zlA h;refine ⟨_,(zpk d9 b3 e0 (fun _ _=>hc169)),?_⟩;refine zlD (za9 a2) ?_;refine zlD a2 ?_;cases h;exact zlG (eA []);replace a2:=zcz a2;obtain ⟨h,c7⟩:=cfd a2 h
 iterate 8 (refine zlE (zdd a2) ?_)
 refine zlE a2 ?_;cases h;exact zlG (eA []);replace h:=hk162;obtain ⟨e8,_⟩:=hp;refine zlC ?_ ?_<;>intro c8;replace h:=zbe c8 h;cases h;have ho153:_=_:=ho153;cases ho153;replace h:some _=some _:=hk58;cases h;exact ⟨rfl,rfl⟩;replace h:=zbd c8 h;refine za5.mk (by show inR _;unfold inR;omega) ?_;cases h;exact zlK _ ho153 (eA []);obtain ⟨h,b5⟩:=cfd b4 h;cases h;have ho153:_=_:=ho153;cases ho153;exact zdm.mk' _ rfl (eA []);rintro ⟨⟩ rfl hp;replace h:=zb7 hk58;obtain ⟨e1,hc173,h⟩:=zlA h;refine ⟨_,(zqj o_.Traces e1 (fun _=>hc173)),?_⟩;refine zlC ?_ ?_<;>intro c9;replace h:=zbe c9 h;cases h;exact ⟨rfl,rfl⟩;replace h:=zbd c9 h;refine zlF o_.Traces.length zae ?_;obtain ⟨oc,hc,hk175⟩:=zlA h;clear h;have h:=hc;clear hc;refine zlJ oc (Y:=Unit) (fun (_:Unit)=>mkSt [] [] []) (fun (_:Unit)=>True) (by rintro ⟨⟩;exact (hT)) ?_ ?_;refine zbp.iter (fun (s:Nat)=>zct.s4 o_ s) (fun a6=>mkSt [(1,.im (.ref (zd3 o_))),(67,.im (nL zau o_.Traces)),(68,.im (nI (↑o_.Traces.length:Int))),(69,.im (nI (↑a6:Int)))] [] []) (fun a6=>lZ o_.Traces∧True) h (eA []) (by rintro a6;exact ((zlH 67 rfl).and (hT))) ?_;clear h;rintro k a6 o hp h ho215;replace h:zct.s4 o_ a6=some o:=h;unfold zct.s4 at h;obtain ⟨e9,_⟩:=hp;refine zlC ?_ ?_<;>intro d0;obtain ⟨h,d1⟩:=ctd d0 h;obtain ⟨a8,he217,h⟩:=zac h;refine ⟨_,⟨(by omega),zad he217,rfl⟩,?_⟩;refine zlB rfl ?_;refine za5.mk (by show inR _;unfold inR;omega) ?_;obtain ⟨f3,h⟩:=zah h;refine zlB (show (0:Int)≤((↑a6:Int)+1)∧((↑a6:Int)+1)≤(↑(List.length (List.map zau o_.Traces)):Int)∧(↑(List.length (List.map zau o_.Traces)):Int)≤(↑(List.length (List.map zau o_.Traces)):Int)∧(∀ e∈List.map zau o_.Traces,List.length e=2) from ⟨by omega,by first | omega | (simp only [zkK];omega),by first | omega | (simp only [zkK];omega),zby fun _=>rfl⟩) ?_
 refine zlF (List.map zau (List.drop (a6+1) o_.Traces)) drop_map ?_;refine zlB ⟨rfl,trivial⟩ ?_;obtain ⟨e2,hc219,h⟩:=zlA h;refine ⟨_,(zc8 (List.drop (a6+1) o_.Traces) (fun u0=>zgi u0 a8) 119 (.ref (zau a8)) rfl (fun u0 r h=>(zmy u0 a8 r (fun _ _=>h))) e2 (fun _ _=>hc219)),?_⟩;refine zlC ?_ ?_<;>intro d2;replace h:=zbe d2 h;cases h;have ho215:_=_:=ho215;cases ho215;replace h:some _=some _:=hk175;cases h;exact ⟨rfl,rfl⟩;replace h:=zbd d2 h;obtain ⟨e3,hc221,h⟩:=zlA h;refine ⟨_,(zc8 (List.drop (a6+1) o_.Traces) (fun u0=>zgj u0 a8) 121 (.ref (zau a8)) rfl (fun u0 r h=>(zm4 u0 a8 r (fun _ _=>h))) e3 (fun _ _=>hc221)),?_⟩;refine zlC ?_ ?_<;>intro d3;replace h:=zbe d3 h;cases h;have ho215:_=_:=ho215;cases ho215;replace h:some _=some _:=hk175;cases h;exact ⟨rfl,rfl⟩;replace h:=zbd d3 h;refine za5.mk (by show inR _;unfold inR;omega) ?_;cases h;exact zlK _ ho215 (eA []);obtain ⟨h,d1⟩:=cfd d0 h;cases h;have ho215:_=_:=ho215;cases ho215;exact zdm.mk' _ rfl (eA []);rintro ⟨⟩ rfl hp;replace h:=zb7 hk175;cases h;exact ⟨rfl,rfl⟩
theorem zfj (inputs_:Int) (r:List Int) (h:Ok (nI inputs_)→zem inputs_=some r):Sp Tryz.prog 58 [.im (nI inputs_)] (.row 3 1 (List.map cI r)):=by
 refine zbq rfl [] rfl rfl rfl (zkE rfl) rfl fun hk=>?_;replace h:=h hk.1;unfold zem at h;obtain ⟨b3,h⟩:=zah h;refine zlB b3 ?_;refine zlF (List.map cI (List.replicate (Int.toNat inputs_) (0:Int))) (zfx (c:=cI) (z:=0) (n:=(Int.toNat inputs_)) rfl rfl) ?_;refine zlB rfl ?_;refine zlF (List.length (List.replicate (Int.toNat inputs_) (0:Int))) zae ?_;obtain ⟨a8,hc,hk52⟩:=zlA h;clear h;have h:=hc;clear hc;refine Cut.mk (mkSt [(3,.osl 64 1)] [(64,.row 3 1 (List.map cI a8))] []) (lZ a8∧True) ((Holds.kdl 64 rfl).and (hT)) ?_ (fun hp=>?_);refine zbp.iter (fun (s:List Int×Nat)=>zem.s2 inputs_ s.1 s.2) (fun (a2,a6)=>mkSt [(3,.osl 64 1),(8,.im (nI (↑(List.length (List.replicate (Int.toNat inputs_) (0:Int))):Int))),(9,.im (nI (↑a6:Int)))] [(64,.row 3 1 (List.map cI a2))] []) (fun (a2,a6)=>lZ a2∧True) h (eA [(64,some 6)]) (by rintro ⟨a2,a6⟩;exact ((Holds.kdl 64 rfl).and (hT))) ?_;clear h;rintro k ⟨a2,a6⟩ o hp h ho73;replace h:zem.s2 inputs_ a2 a6=some o:=h;unfold zem.s2 at h;obtain ⟨z77,_⟩:=hp;refine zlC ?_ ?_<;>intro b2;obtain ⟨h,a7⟩:=ctd b2 h;obtain ⟨b5,he75,h⟩:=zac h;refine zlB ⟨(by omega),rfl,za0 he75⟩ ?_;refine zlB ⟨rfl,trivial⟩ ?_;refine ⟨_,zad he75,?_⟩;refine zlF (List.map cI (List.set a2 a6 (-1:Int))) (zdl rfl) ?_;obtain ⟨b4,h⟩:=zah h;refine za5.mk b4 ?_;cases h;exact zlK _ ho73 (eA [(64,some 64)]);obtain ⟨h,a7⟩:=cfd b2 h;cases h;have ho73:_=_:=ho73;cases ho73;exact zlG (eA [(64,some 64)]);replace h:=hk52;obtain ⟨b6,_⟩:=hp;cases h;exact zlB ⟨rfl,trivial⟩ ⟨rfl,rfl⟩
theorem zh1 (p_:zag) (r:zag×List Int) (h:Ok (.agg (zap p_))→zak p_=some r):Sp Tryz.prog 59 [.im (.agg (zap p_))] (.tup [.agg (zap r.1),nL cI r.2]):=by
 refine zbq rfl [26,700001] rfl rfl rfl (zkE rfl) rfl fun hk=>?_;replace h:=h hk.1;have z1:lZ p_.Next:=zaj (zlI hk.1 2 rfl);have z2:lZ p_.Out:=zaj (zlI hk.1 3 rfl);unfold zak at h;refine zlF p_.Next.length zae ?_;obtain ⟨g3,hc51,h⟩:=zlA h;refine ⟨_,(zfj (↑p_.Next.length:Int) g3 (fun _=>hc51)),?_⟩;obtain ⟨k7,he52z,he52,h⟩:=zan h;refine zlB ⟨he52z,rfl,za0 he52⟩ ?_;refine zlB ⟨rfl,trivial⟩ ?_;refine ⟨_,zad he52,?_⟩;refine zlF (List.map cI (List.set g3 p_.Start.toNat 0)) (zdl rfl) ?_;obtain ⟨⟨a7,a8⟩,hc,hk53⟩:=zlA h;clear h;have h:=hc;clear hc;refine Cut.mk (mkSt [(1,.im (.ref (zap p_))),(2,.own 127 1 0),(4,.osl 128 1),(5,.osl 129 1)] [(127,.box 24 4),(128,.row 3 1 (List.map cI a7)),(129,.row 3 1 (List.map cI a8))] [(127,0,.im (nI 0)),(127,1,.im (nI 0)),(127,2,.im (.val (.slice none 0 0))),(127,3,.im (.val (.slice none 0 0)))]) (lZ a7∧lZ a8∧True) ((Holds.kdl 128 rfl).and ((Holds.kdl 129 rfl).and (hT))) ?_ (fun hp=>?_);refine zbp.iter (fun (s:List Int×List Int×Nat)=>zak.s20 p_ s.1 s.2.1 s.2.2) (fun (d0,c9,c6)=>mkSt [(1,.im (.ref (zap p_))),(2,.own 127 1 0),(4,.osl 128 1),(5,.osl 129 1),(6,.im (nI (↑c6:Int)))] [(127,.box 24 4),(128,.row 3 1 (List.map cI d0)),(129,.row 3 1 (List.map cI c9))] [(127,0,.im (nI 0)),(127,1,.im (nI 0)),(127,2,.im (.val (.slice none 0 0))),(127,3,.im (.val (.slice none 0 0)))]) (fun (d0,c9,c6)=>lZ d0∧lZ c9∧True) h (eA [(127,some 2),(128,some 19),(129,some 26)]) (by rintro ⟨d0,c9,c6⟩;exact ((Holds.kdl 128 rfl).and ((Holds.kdl 129 rfl).and (hT)))) ?_;clear h;rintro k ⟨d0,c9,c6⟩ o hp h ho625;replace h:zak.s20 p_ d0 c9 c6=some o:=h;unfold zak.s20 at h;obtain ⟨j1,j2,_⟩:=hp;refine zlB rfl ?_;refine zlF c9.length zae ?_;refine zlC ?_ ?_<;>intro e4;obtain ⟨h,e5⟩:=ctd e4 h;obtain ⟨j3,he627,h⟩:=zac h;refine zlB ⟨(by omega),rfl,za0 he627⟩ ?_;refine ⟨_,_,⟨rfl,zad he627,rfl,rfl⟩,?_⟩;obtain ⟨c7,he628z,he628,h⟩:=zan h;refine ⟨_,⟨he628z,zad he628,rfl⟩,?_⟩;refine zlF c7.length zae ?_;obtain ⟨⟨d9,e0⟩,hc,hk629⟩:=zlA h;clear h;have h:=hc;clear hc;refine Cut.mk (mkSt [(1,.im (.ref (zap p_))),(2,.own 127 1 0),(4,.osl 128 1),(5,.osl 129 1),(6,.im (nI (↑c6:Int)))] [(127,.box 24 4),(128,.row 3 1 (List.map cI d9)),(129,.row 3 1 (List.map cI e0))] [(127,0,.im (nI 0)),(127,1,.im (nI 0)),(127,2,.im (.val (.slice none 0 0))),(127,3,.im (.val (.slice none 0 0)))]) (lZ d9∧lZ e0∧True) ((Holds.kdl 128 rfl).and ((Holds.kdl 129 rfl).and (hT))) ?_ (fun hp=>?_);refine zbp.iter (fun (s:List Int×List Int×Nat)=>zak.s18 c7 s.1 s.2.1 s.2.2) (fun (c8,b3,d1)=>mkSt [(1,.im (.ref (zap p_))),(2,.own 127 1 0),(4,.osl 128 1),(5,.osl 129 1),(6,.im (nI (↑c6:Int))),(40,.im (nL cI c7)),(41,.im (nI (↑c7.length:Int))),(42,.im (nI (↑d1:Int)))] [(127,.box 24 4),(128,.row 3 1 (List.map cI c8)),(129,.row 3 1 (List.map cI b3))] [(127,0,.im (nI 0)),(127,1,.im (nI 0)),(127,2,.im (.val (.slice none 0 0))),(127,3,.im (.val (.slice none 0 0)))]) (fun (c8,b3,d1)=>lZ c7∧lZ c8∧lZ b3∧True) h (eA [(127,some 127),(128,some 128),(129,some 129)]) (by rintro ⟨c8,b3,d1⟩;exact ((zlH 40 rfl).and ((Holds.kdl 128 rfl).and ((Holds.kdl 129 rfl).and (hT))))) ?_;clear h;rintro k ⟨c8,b3,d1⟩ o hp h ho717;replace h:zak.s18 c7 c8 b3 d1=some o:=h;unfold zak.s18 at h;obtain ⟨j4,j5,j6,_⟩:=hp;refine zlC ?_ ?_<;>intro e6;obtain ⟨h,e7⟩:=ctd e6 h;obtain ⟨d2,he719,h⟩:=zac h;refine ⟨_,⟨(by omega),zad he719,rfl⟩,?_⟩;obtain ⟨g1,hc,hk721⟩:=zlA h;clear h;have h:=hc;clear hc;refine Cut.mk (mkSt [(1,.im (.ref (zap p_))),(2,.own 127 1 0),(4,.osl 128 1),(5,.osl 129 1),(6,.im (nI (↑c6:Int))),(8,.im (nI d2)),(40,.im (nL cI c7)),(41,.im (nI (↑c7.length:Int))),(42,.im (nI (↑d1:Int))),(54,.im (nB g1))] [(127,.box 24 4),(128,.row 3 1 (List.map cI c8)),(129,.row 3 1 (List.map cI b3))] [(127,0,.im (nI 0)),(127,1,.im (nI 0)),(127,2,.im (.val (.slice none 0 0))),(127,3,.im (.val (.slice none 0 0)))]) (lZ c7∧lZ c8∧lZ b3∧True) ((zlH 40 rfl).and ((Holds.kdl 128 rfl).and ((Holds.kdl 129 rfl).and (hT)))) ?_ (fun hp=>?_);refine zlC ?_ ?_<;>intro b4;replace b4:=zc0 b4;obtain ⟨h,e8⟩:=ctd b4 h
 iterate 2 (refine zlD (za9 b4) ?_)
 obtain ⟨j7,he726z,he726,h⟩:=zan h;refine zlB ⟨he726z,rfl,za0 he726⟩ ?_;refine zlD (za9 b4) ?_;refine ⟨_,_,⟨rfl,zad he726,rfl,rfl⟩,?_⟩;refine zlD (za9 b4) ?_;refine zlD b4 ?_;cases h;exact zlG (eA [(127,some 127),(128,some 128),(129,some 129)]);replace b4:=zcz b4;obtain ⟨h,e8⟩:=cfd b4 h
 iterate 4 (refine zlE (zdd b4) ?_)
 refine zlE b4 ?_;cases h;exact zlG (eA [(127,some 127),(128,some 128),(129,some 129)]);replace h:=hk721;obtain ⟨j8,j9,k0,_⟩:=hp;refine zlC ?_ ?_<;>intro e9;replace h:=zbe e9 h;refine zlB rfl ?_;refine zlF b3.length zae ?_;obtain ⟨k1,he731z,he731,h⟩:=zan h;refine zlB ⟨he731z,rfl,za0 he731⟩ ?_;refine zlB ⟨rfl,trivial⟩ ?_;refine ⟨_,zad he731,?_⟩;refine zlF (List.map cI (List.set c8 d2.toNat (↑b3.length:Int))) (zdl rfl) ?_;obtain ⟨g2,h⟩:=zah h;refine zlB ⟨rfl,zby (l:=[d2]) (c:=cI) fun _=>rfl,show zaw _ 8 by simpa only [zkK,zkL,List.length_nil,Nat.zero_add] using g2⟩ ?_;refine zlF (List.map cI (b3++[d2])) (zb0 (l:=b3) (m:=[d2]) (c:=cI)) ?_;refine za5.mk (by show inR _;unfold inR;omega) ?_;cases h;exact zlK _ ho717 (eA [(127,some 127),(128,some 128),(129,some 129)]);replace h:=zbd e9 h;refine za5.mk (by show inR _;unfold inR;omega) ?_;cases h;exact zlK _ ho717 (eA [(127,some 127),(128,some 128),(129,some 129)]);obtain ⟨h,e7⟩:=cfd e6 h;cases h;have ho717:_=_:=ho717;cases ho717;exact zlG (eA [(127,some 127),(128,some 128),(129,some 129)]);replace h:zak.k19 c6 d9 e0=some _:=hk629;unfold zak.k19 at h;obtain ⟨k2,k4,_⟩:=hp;refine za5.mk (by show inR _;unfold inR;omega) ?_;cases h;exact zlK _ ho625 (eA [(127,some 127),(128,some 128),(129,some 129)]);obtain ⟨h,e5⟩:=cfd e4 h;cases h;have ho625:_=_:=ho625;cases ho625;exact zlG (eA [(127,some 127),(128,some 128),(129,some 129)]);replace h:zak.k42 p_ a7 a8=some _:=hk53;unfold zak.k42 at h;obtain ⟨k5,k6,_⟩:=hp;refine zlB rfl ?_;refine zlB rfl ?_;refine zlF a8.length zae ?_;obtain ⟨⟨d3,d4⟩,hc,hk742⟩:=zlA h;clear h;have h:=hc;clear hc;refine Cut.mk (mkSt [(2,.own 127 1 0),(4,.osl 128 1),(9,.own 129 1 0)] [(127,.box 24 4),(128,.row 3 1 (List.map cI a7)),(129,.box 24 4),(130,.row 25 1 (List.map (cL cI) d3)),(131,.row 25 1 (List.map (cL cI) d4))] [(127,0,.im (nI 0)),(127,1,.im (nI 0)),(127,2,.im (.val (.slice none 0 0))),(127,3,.im (.val (.slice none 0 0))),(129,0,.im (nI p_.Inputs)),(129,1,.im (nI 0)),(129,2,.osl 130 1),(129,3,.osl 131 1)]) (lZ a7∧lZ d3∧lZ d4∧True) ((Holds.kdl 128 rfl).and ((Holds.kdl 130 rfl).and ((Holds.kdl 131 rfl).and (hT)))) ?_ (fun hp=>?_);refine zbp.iter (fun (s:List (List Int)×List (List Int)×Nat)=>zak.s40 p_ a7 a8 s.1 s.2.1 s.2.2) (fun (a2,a6,b2)=>mkSt [(1,.im (.ref (zap p_))),(2,.own 127 1 0),(4,.osl 128 1),(9,.own 129 1 0),(68,.osl 132 1),(69,.im (nI (↑a8.length:Int))),(70,.im (nI (↑b2:Int)))] [(127,.box 24 4),(128,.row 3 1 (List.map cI a7)),(129,.box 24 4),(130,.row 25 1 (List.map (cL cI) a2)),(131,.row 25 1 (List.map (cL cI) a6)),(132,.row 3 1 (List.map cI a8))] [(127,0,.im (nI 0)),(127,1,.im (nI 0)),(127,2,.im (.val (.slice none 0 0))),(127,3,.im (.val (.slice none 0 0))),(129,0,.im (nI p_.Inputs)),(129,1,.im (nI 0)),(129,2,.osl 130 1),(129,3,.osl 131 1)]) (fun (a2,a6,b2)=>lZ a7∧lZ a2∧lZ a6∧lZ a8∧True) h (Ent.mk [(127,some 127),(128,some 128),(129,some 9),(130,none),(131,none),(132,some 129)] rfl ⟨eI rfl rfl,⟨.own 127 _ 0,rfl,.own rfl rfl rfl⟩,⟨.osl 128 _,rfl,.osl rfl rfl rfl⟩,⟨.own 9 _ 0,rfl,.own rfl rfl rfl⟩,⟨.osl 129 _,rfl,.osl rfl rfl rfl⟩,eI rfl rfl,eI rfl rfl,trivial⟩ ⟨.inl ⟨127,rfl,rfl,trivial⟩,.inl ⟨128,rfl,rfl,trivial⟩,.inl ⟨9,rfl,rfl,trivial⟩,.inr ⟨rfl,rfl,.inl ⟨_,_,rfl,by decide⟩⟩,.inr ⟨rfl,rfl,.inl ⟨_,_,rfl,by decide⟩⟩,.inl ⟨129,rfl,rfl,trivial⟩,trivial⟩ ⟨⟨127,.im _,rfl,rfl,.im (Sub.rfl' rfl)⟩,⟨127,.im _,rfl,rfl,.im (Sub.rfl' rfl)⟩,⟨127,.im (.val (.slice none 0 0)),rfl,rfl,.im (Sub.rfl' rfl)⟩,⟨127,.im (.val (.slice none 0 0)),rfl,rfl,.im (Sub.rfl' rfl)⟩,⟨9,.im _,rfl,rfl,.im (Sub.rfl' rfl)⟩,⟨9,.im _,rfl,rfl,.im (Sub.rfl' rfl)⟩,⟨9,.im (.val (.slice none 0 0)),rfl,rfl,.made rfl rfl⟩,⟨9,.im (.val (.slice none 0 0)),rfl,rfl,.made rfl rfl⟩,trivial⟩) (by rintro ⟨a2,a6,b2⟩;exact ((Holds.kdl 128 rfl).and ((Holds.kdl 130 rfl).and ((Holds.kdl 131 rfl).and ((Holds.kdl 132 rfl).and (hT)))))) ?_;clear h;rintro k ⟨a2,a6,b2⟩ o hp h ho1170;replace h:zak.s40 p_ a7 a8 a2 a6 b2=some o:=h;unfold zak.s40 at h;obtain ⟨g4,g5,g6,g7,_⟩:=hp;refine zlC ?_ ?_<;>intro d6;obtain ⟨h,e1⟩:=ctd d6 h;obtain ⟨d5,he1172,h⟩:=zac h;refine zlB ⟨(by omega),rfl,za0 he1172⟩ ?_;refine ⟨_,_,⟨rfl,zad he1172,rfl,rfl⟩,?_⟩;obtain ⟨f3,hc1173,h⟩:=zlA h;refine ⟨_,(zfj p_.Inputs f3 (fun _=>hc1173)),?_⟩;obtain ⟨f4,hc1174,h⟩:=zlA h;refine ⟨_,(zfj p_.Inputs f4 (fun _=>hc1174)),?_⟩;obtain ⟨b8,he1175z,he1175,h⟩:=zan h;refine ⟨_,⟨he1175z,zad he1175,rfl⟩,?_⟩;refine zlF b8.length zae ?_;obtain ⟨⟨b9,c0⟩,hc,hk1176⟩:=zlA h;clear h;have h:=hc;clear hc;refine Cut.mk (mkSt [(1,.im (.ref (zap p_))),(2,.own 127 1 0),(4,.osl 128 1),(9,.own 129 1 0),(12,.osl 132 1),(13,.osl 133 1),(68,.osl 134 1),(69,.im (nI (↑a8.length:Int))),(70,.im (nI (↑b2:Int)))] [(127,.box 24 4),(128,.row 3 1 (List.map cI a7)),(129,.box 24 4),(130,.row 25 1 (List.map (cL cI) a2)),(131,.row 25 1 (List.map (cL cI) a6)),(132,.row 3 1 (List.map cI b9)),(133,.row 3 1 (List.map cI c0)),(134,.row 3 1 (List.map cI a8))] [(127,0,.im (nI 0)),(127,1,.im (nI 0)),(127,2,.im (.val (.slice none 0 0))),(127,3,.im (.val (.slice none 0 0))),(129,0,.im (nI p_.Inputs)),(129,1,.im (nI 0)),(129,2,.osl 130 1),(129,3,.osl 131 1)]) (lZ a7∧lZ a2∧lZ a6∧lZ b9∧lZ c0∧lZ a8∧True) ((Holds.kdl 128 rfl).and ((Holds.kdl 130 rfl).and ((Holds.kdl 131 rfl).and ((Holds.kdl 132 rfl).and ((Holds.kdl 133 rfl).and ((Holds.kdl 134 rfl).and (hT))))))) ?_ (fun hp=>?_);refine zbp.iter (fun (s:List Int×List Int×Nat)=>zak.s38 p_ a7 d5 b8 s.1 s.2.1 s.2.2) (fun (b5,b6,b7)=>mkSt [(1,.im (.ref (zap p_))),(2,.own 127 1 0),(4,.osl 128 1),(9,.own 129 1 0),(11,.im (nI d5)),(12,.osl 132 1),(13,.osl 133 1),(68,.osl 134 1),(69,.im (nI (↑a8.length:Int))),(70,.im (nI (↑b2:Int))),(84,.im (nL cI b8)),(85,.im (nI (↑b8.length:Int))),(86,.im (nI (↑b7:Int)))] [(127,.box 24 4),(128,.row 3 1 (List.map cI a7)),(129,.box 24 4),(130,.row 25 1 (List.map (cL cI) a2)),(131,.row 25 1 (List.map (cL cI) a6)),(132,.row 3 1 (List.map cI b5)),(133,.row 3 1 (List.map cI b6)),(134,.row 3 1 (List.map cI a8))] [(127,0,.im (nI 0)),(127,1,.im (nI 0)),(127,2,.im (.val (.slice none 0 0))),(127,3,.im (.val (.slice none 0 0))),(129,0,.im (nI p_.Inputs)),(129,1,.im (nI 0)),(129,2,.osl 130 1),(129,3,.osl 131 1)]) (fun (b5,b6,b7)=>lZ b8∧lZ a7∧lZ a2∧lZ a6∧lZ b5∧lZ b6∧lZ a8∧True) h (eA [(127,some 127),(128,some 128),(129,some 129),(130,some 130),(131,some 131),(132,some 76),(133,some 79),(134,some 132)]) (by rintro ⟨b5,b6,b7⟩;exact ((zlH 84 rfl).and ((Holds.kdl 128 rfl).and ((Holds.kdl 130 rfl).and ((Holds.kdl 131 rfl).and ((Holds.kdl 132 rfl).and ((Holds.kdl 133 rfl).and ((Holds.kdl 134 rfl).and (hT))))))))) ?_;clear h;rintro k ⟨b5,b6,b7⟩ o hp h ho1233;replace h:zak.s38 p_ a7 d5 b8 b5 b6 b7=some o:=h;unfold zak.s38 at h;obtain ⟨g8,g9,h0,h2,h3,h4,h5,_⟩:=hp;refine zlC ?_ ?_<;>intro d7;obtain ⟨h,e2⟩:=ctd d7 h;obtain ⟨h6,he1235,h⟩:=zac h;refine ⟨_,⟨(by omega),zad he1235,rfl⟩,?_⟩;refine zlC ?_ ?_<;>intro d8;obtain ⟨h,e3⟩:=ctd d8 h;obtain ⟨f5,he1237z,he1237,h⟩:=zan h;refine zlB ⟨he1237z,rfl,za0 he1237⟩ ?_;refine ⟨_,_,⟨rfl,zad he1237,rfl,rfl⟩,?_⟩;obtain ⟨h7,he1238z,he1238,h⟩:=zan h;refine ⟨_,⟨he1238z,zad he1238,rfl⟩,?_⟩;obtain ⟨f7,he1239,h⟩:=zac h;refine ⟨_,⟨(by omega),zad he1239,rfl⟩,?_⟩;obtain ⟨h8,he1240,h⟩:=zac h;refine zlB ⟨(by omega),rfl,za0 he1240⟩ ?_;refine zlB ⟨rfl,trivial⟩ ?_;refine ⟨_,zad he1240,?_⟩;refine zlF (List.map cI (List.set b5 b7 f5)) (zdl rfl) ?_;obtain ⟨h9,he1241,h⟩:=zac h;refine zlB ⟨(by omega),rfl,za0 he1241⟩ ?_;refine zlB ⟨rfl,trivial⟩ ?_;refine ⟨_,zad he1241,?_⟩;refine zlF (List.map cI (List.set b6 b7 f7)) (zdl rfl) ?_;refine za5.mk (by show inR _;unfold inR;omega) ?_;cases h;exact zlK _ ho1233 (eA [(127,some 127),(128,some 128),(129,some 129),(130,some 130),(131,some 131),(132,some 132),(133,some 133),(134,some 134)]);obtain ⟨h,e3⟩:=cfd d8 h;refine za5.mk (by show inR _;unfold inR;omega) ?_;cases h;exact zlK _ ho1233 (eA [(127,some 127),(128,some 128),(129,some 129),(130,some 130),(131,some 131),(132,some 132),(133,some 133),(134,some 134)]);obtain ⟨h,e2⟩:=cfd d7 h;cases h;have ho1233:_=_:=ho1233;cases ho1233;exact zlG (eA [(127,some 127),(128,some 128),(129,some 129),(130,some 130),(131,some 131),(132,some 132),(133,some 133),(134,some 134)]);replace h:zak.k39 a2 a6 b2 b9 c0=some _:=hk1176;unfold zak.k39 at h;obtain ⟨i0,i3,i4,i5,i6,i7,_⟩:=hp;refine zlB rfl ?_;refine zlB rfl ?_;refine zlB ⟨rfl,trivial⟩ ?_;obtain ⟨f8,h⟩:=zah h;refine zlB ⟨rfl,zby (l:=[b9]) (c:=cL cI) fun _=>rfl,show zaw _ 24 by simpa only [zkK,zkL,List.length_nil,Nat.zero_add] using f8⟩ ?_;refine zlF (List.map (cL cI) (a2++[b9])) (zb0 (l:=a2) (m:=[b9]) (c:=cL cI)) ?_;refine zlB rfl ?_;refine zlB rfl ?_;refine zlB ⟨rfl,trivial⟩ ?_;obtain ⟨f9,h⟩:=zah h;refine zlB ⟨rfl,zby (l:=[c0]) (c:=cL cI) fun _=>rfl,show zaw _ 24 by simpa only [zkK,zkL,List.length_nil,Nat.zero_add] using f9⟩ ?_;refine zlF (List.map (cL cI) (a6++[c0])) (zb0 (l:=a6) (m:=[c0]) (c:=cL cI)) ?_;refine zlB rfl ?_;refine zlB rfl ?_;refine zlB rfl ?_;refine zlB rfl ?_;refine za5.mk (by show inR _;unfold inR;omega) ?_;cases h;exact zlK _ ho1170 (eA [(127,some 127),(128,some 128),(129,some 129),(130,some 130),(131,some 131),(132,some 134)]);obtain ⟨h,e1⟩:=cfd d6 h;cases h;have ho1170:_=_:=ho1170;cases ho1170;exact zlG (eA [(127,some 127),(128,some 128),(129,some 129),(130,some 130),(131,some 131)]);replace h:zak.k41 p_ a7 d3 d4=some _:=hk742;unfold zak.k41 at h;obtain ⟨i8,i9,j0,_⟩:=hp;refine zlB rfl ?_;refine zlB rfl ?_;cases h;refine zlB ⟨rfl,trivial⟩ ?_;exact zlB ⟨rfl,rfl,rfl,trivial⟩ ⟨rfl,rfl⟩
theorem zm9 (o_:zcp) (r:zag×Int) (h:Ok (.agg (zd3 o_))→zb8 o_=some r):Sp Tryz.prog 25 [.im (.agg (zd3 o_))] (.tup [.agg (zap r.1),nI r.2]):=by
 refine zbq rfl [700001,9000023,9000027,9000078,9000084] rfl rfl rfl (zkE rfl) rfl fun hk=>?_;replace h:=h hk.1;have z1:lZ o_.Traces:=zaj (zlI hk.1 1 rfl);unfold zb8 at h;obtain ⟨h8,hc51,h⟩:=zlA h;refine ⟨_,(zpn o_ h8 (fun _=>hc51)),?_⟩;refine zlC ?_ ?_<;>intro e5;obtain ⟨h,e4⟩:=ctd e5 h;refine zlB rfl ?_;cases h;refine zlB ⟨rfl,trivial⟩ ?_;exact ⟨rfl,rfl⟩;obtain ⟨h,e4⟩:=cfd e5 h;obtain ⟨e6,hc53,h⟩:=zlA h;refine ⟨_,(zfj o_.Inputs e6 (fun _=>hc53)),?_⟩;refine zlB ⟨rfl,trivial⟩ ?_;refine zlF (List.map (cL cI) [e6]) rfl ?_;obtain ⟨e7,hc54,h⟩:=zlA h;refine ⟨_,(zfj o_.Inputs e7 (fun _=>hc54)),?_⟩;refine zlB ⟨rfl,trivial⟩ ?_;refine zlF (List.map (cL cI) [e7]) rfl ?_;refine zlF o_.Traces.length zae ?_;obtain ⟨oc,hc,hk55⟩:=zlA h;clear h;have h:=hc;clear hc;refine zlJ oc (Y:=List (List Int)×List (List Int)) (fun (c6,c7)=>mkSt [(1,.im (.ref (zd3 o_))),(2,.own 105 1 0),(5,.osl 106 1),(6,.osl 107 1)] [(105,.box 24 4),(106,.grid 25 3 1 (List.map (cL cI) c6) none),(107,.grid 25 3 1 (List.map (cL cI) c7) none)] [(105,0,.im (nI 0)),(105,1,.im (nI 0)),(105,2,.im (.val (.slice none 0 0))),(105,3,.im (.val (.slice none 0 0)))]) (fun (c6,c7)=>lZ c6∧lZ c7∧True) (by rintro ⟨c6,c7⟩;exact ((Holds.kdg 106 rfl).and ((Holds.kdg 107 rfl).and (hT)))) ?_ ?_;refine zbp.iter (fun (s:List (List Int)×List (List Int)×Nat)=>zb8.s56 o_ s.1 s.2.1 s.2.2) (fun (b5,b6,a8)=>mkSt [(1,.im (.ref (zd3 o_))),(2,.own 105 1 0),(5,.osl 106 1),(6,.osl 107 1),(29,.im (nL zau o_.Traces)),(30,.im (nI (↑o_.Traces.length:Int))),(31,.im (nI (↑a8:Int)))] [(105,.box 24 4),(106,.grid 25 3 1 (List.map (cL cI) b5) none),(107,.grid 25 3 1 (List.map (cL cI) b6) none)] [(105,0,.im (nI 0)),(105,1,.im (nI 0)),(105,2,.im (.val (.slice none 0 0))),(105,3,.im (.val (.slice none 0 0)))]) (fun (b5,b6,a8)=>lZ o_.Traces∧lZ b5∧lZ b6∧True) h (eA [(105,some 2),(106,some 23),(107,some 27)]) (by rintro ⟨b5,b6,a8⟩;exact ((zlH 29 rfl).and ((Holds.kdg 106 rfl).and ((Holds.kdg 107 rfl).and (hT))))) ?_;clear h;rintro k ⟨b5,b6,a8⟩ o hp h ho1378;replace h:zb8.s56 o_ b5 b6 a8=some o:=h;unfold zb8.s56 at h;obtain ⟨e8,e9,f3,_⟩:=hp;refine zlC ?_ ?_<;>intro d3;obtain ⟨h,d7⟩:=ctd d3 h;obtain ⟨a2,he1380,h⟩:=zac h;refine ⟨_,⟨(by omega),zad he1380,rfl⟩,?_⟩;refine zlB rfl ?_;refine zlB rfl ?_;refine zlB rfl ?_;refine zlF a2.In.length zae ?_;obtain ⟨oc,hc,hk1381⟩:=zlA h;clear h;have h:=hc;clear hc;refine zlJ oc (Y:=List (List Int)×List (List Int)) (fun (b7,b8)=>mkSt [(1,.im (.ref (zd3 o_))),(2,.own 105 1 0),(5,.osl 106 1),(6,.osl 107 1),(29,.im (nL zau o_.Traces)),(30,.im (nI (↑o_.Traces.length:Int))),(31,.im (nI (↑a8:Int)))] [(105,.box 24 4),(106,.grid 25 3 1 (List.map (cL cI) b7) none),(107,.grid 25 3 1 (List.map (cL cI) b8) none)] [(105,0,.im (nI 0)),(105,1,.im (nI 0)),(105,2,.im (.val (.slice none 0 0))),(105,3,.im (.val (.slice none 0 0)))]) (fun (b7,b8)=>lZ o_.Traces∧lZ b7∧lZ b8∧True) (by rintro ⟨b7,b8⟩;exact ((zlH 29 rfl).and ((Holds.kdg 106 rfl).and ((Holds.kdg 107 rfl).and (hT))))) ?_ ?_;refine zbp.iter (fun (s:List (List Int)×List (List Int)×Int×Nat)=>zb8.s54 o_ a2 s.1 s.2.1 s.2.2.1 s.2.2.2) (fun (a6,b2,a7,b4)=>mkSt [(1,.im (.ref (zd3 o_))),(2,.own 105 1 0),(5,.osl 106 1),(6,.osl 107 1),(8,.own 108 1 0),(9,.im (nI a7)),(29,.im (nL zau o_.Traces)),(30,.im (nI (↑o_.Traces.length:Int))),(31,.im (nI (↑a8:Int))),(36,.im (nL cI a2.In)),(37,.im (nI (↑a2.In.length:Int))),(38,.im (nI (↑b4:Int)))] [(105,.box 24 4),(106,.grid 25 3 1 (List.map (cL cI) a6) none),(107,.grid 25 3 1 (List.map (cL cI) b2) none),(108,.box 64 2)] [(105,0,.im (nI 0)),(105,1,.im (nI 0)),(105,2,.im (.val (.slice none 0 0))),(105,3,.im (.val (.slice none 0 0))),(108,0,.im (nL cI a2.In)),(108,1,.im (nL cI a2.Out))]) (fun (a6,b2,a7,b4)=>lZ o_.Traces∧lZ a2.In∧lZ a6∧lZ b2∧lZ a2.Out∧True) h (eA [(105,some 105),(106,some 106),(107,some 107),(108,some 8)]) (by rintro ⟨a6,b2,a7,b4⟩;exact ((zlH 29 rfl).and ((zlH 36 rfl).and ((Holds.kdg 106 rfl).and ((Holds.kdg 107 rfl).and ((Holds.cel 108 1 rfl (by decide) rfl).and (hT))))))) ?_;clear h;rintro k ⟨a6,b2,a7,b4⟩ o hp h ho1593;replace h:zb8.s54 o_ a2 a6 b2 a7 b4=some o:=h;unfold zb8.s54 at h;obtain ⟨f4,f5,f7,f8,f9,_⟩:=hp;refine zlC ?_ ?_<;>intro d4;obtain ⟨h,d8⟩:=ctd d4 h;obtain ⟨b3,he1595,h⟩:=zac h;refine ⟨_,⟨(by omega),zad he1595,rfl⟩,?_⟩;obtain ⟨oc,hc,hk1597⟩:=zlA h;clear h;have h:=hc;clear hc;refine zlJ oc (Y:=List (List Int)×List (List Int)) (fun (b9,c0)=>mkSt [(1,.im (.ref (zd3 o_))),(2,.own 105 1 0),(5,.osl 106 1),(6,.osl 107 1),(8,.own 108 1 0),(9,.im (nI a7)),(11,.im (nI b3)),(29,.im (nL zau o_.Traces)),(30,.im (nI (↑o_.Traces.length:Int))),(31,.im (nI (↑a8:Int))),(36,.im (nL cI a2.In)),(37,.im (nI (↑a2.In.length:Int))),(38,.im (nI (↑b4:Int)))] [(105,.box 24 4),(106,.grid 25 3 1 (List.map (cL cI) b9) none),(107,.grid 25 3 1 (List.map (cL cI) c0) none),(108,.box 64 2)] [(105,0,.im (nI 0)),(105,1,.im (nI 0)),(105,2,.im (.val (.slice none 0 0))),(105,3,.im (.val (.slice none 0 0))),(108,0,.im (nL cI a2.In)),(108,1,.im (nL cI a2.Out))]) (fun (b9,c0)=>lZ o_.Traces∧lZ a2.In∧lZ b9∧lZ c0∧lZ a2.Out∧True) (by rintro ⟨b9,c0⟩;exact ((zlH 29 rfl).and ((zlH 36 rfl).and ((Holds.kdg 106 rfl).and ((Holds.kdg 107 rfl).and ((Holds.cel 108 1 rfl (by decide) rfl).and (hT))))))) ?_ ?_;obtain ⟨g1,he1613z,he1613,h⟩:=zan h;refine zlB ⟨he1613z,rfl,za0 he1613⟩ ?_;refine zlB ⟨rfl,za0 he1613⟩ ?_;obtain ⟨g2,he1614z,he1614,h⟩:=zan h;refine ⟨_,⟨he1614z,rfl,zad he1613,za0 he1614⟩,?_⟩;refine ⟨_,_,_,⟨rfl,zad he1613,zad he1614,rfl⟩,?_⟩;refine zlC ?_ ?_<;>intro d5;obtain ⟨h,d9⟩:=ctd d5 h;refine zlB rfl ?_;refine zlF a6.length zae ?_;refine zlC ?_ ?_<;>intro d6;obtain ⟨h,e0⟩:=ctd d6 h;refine zlB rfl ?_;cases h;replace h:some _=some _:=hk1597;cases h;have ho1593:_=_:=ho1593;cases ho1593;replace h:some _=some _:=hk1381;cases h;have ho1378:_=_:=ho1378;cases ho1378;replace h:some _=some _:=hk55;cases h;refine zlB ⟨rfl,trivial⟩ ?_;exact ⟨rfl,rfl⟩;obtain ⟨h,e0⟩:=cfd d6 h;obtain ⟨d0,he1617z,he1617,h⟩:=zan h;refine zlB ⟨he1617z,rfl,za0 he1617⟩ ?_;refine zlB ⟨rfl,za0 he1617⟩ ?_;obtain ⟨d1,he1618z,he1618,h⟩:=zan h;refine zlB ⟨he1618z,rfl,za0 he1618⟩ ?_;refine zlB ⟨rfl,za0 he1618⟩ ?_;refine zlB rfl ?_;refine zlF a6.length zae ?_;refine zlB rfl ?_;refine zlB rfl ?_;obtain ⟨d2,he1619,h⟩:=zac h;refine ⟨_,⟨(by omega),zad he1619,rfl⟩,?_⟩;obtain ⟨g3,he1620z,he1620,h⟩:=zan h;refine ⟨_,⟨he1620z,rfl,zad he1617,za0 he1620⟩,?_⟩;refine ⟨_,_,⟨rfl,zad he1617,zad he1620⟩,?_⟩;refine zlF (List.map (cL cI) (List.set a6 (Int.toNat a7) (List.set d0 (Int.toNat b3) (↑a6.length:Int)))) (zhv rfl) ?_;obtain ⟨g4,he1621z,he1621,h⟩:=zan h;refine ⟨_,⟨he1621z,rfl,zad he1618,za0 he1621⟩,?_⟩;refine ⟨_,_,⟨rfl,zad he1618,zad he1621⟩,?_⟩;refine zlF (List.map (cL cI) (List.set b2 (Int.toNat a7) (List.set d1 (Int.toNat b3) d2))) (zhv rfl) ?_;obtain ⟨c8,hc1622,h⟩:=zlA h;refine ⟨_,(zfj o_.Inputs c8 (fun _=>hc1622)),?_⟩;refine zlB ⟨rfl,trivial⟩ ?_;refine zlF (List.map (cL cI) [c8]) rfl ?_;obtain ⟨e1,h⟩:=zah h;refine zlB ⟨rfl,rfl,trivial⟩ ?_;refine zlB (show zaw _ 24 by have hh_:=e1;simpa only [zkK] using hh_) ?_;refine zlF (List.map (cL cI) ((List.set a6 (Int.toNat a7) (List.set d0 (Int.toNat b3) (↑a6.length:Int)))++[c8])) (zb0 (l:=(List.set a6 (Int.toNat a7) (List.set d0 (Int.toNat b3) (↑a6.length:Int)))) (m:=[c8]) (c:=cL cI)) ?_;obtain ⟨c9,hc1624,h⟩:=zlA h;refine ⟨_,(zfj o_.Inputs c9 (fun _=>hc1624)),?_⟩;refine zlB ⟨rfl,trivial⟩ ?_;refine zlF (List.map (cL cI) [c9]) rfl ?_;obtain ⟨e2,h⟩:=zah h;refine zlB ⟨rfl,rfl,trivial⟩ ?_;refine zlB (show zaw _ 24 by have hh_:=e2;simpa only [zkK] using hh_) ?_;refine zlF (List.map (cL cI) ((List.set b2 (Int.toNat a7) (List.set d1 (Int.toNat b3) d2))++[c9])) (zb0 (l:=(List.set b2 (Int.toNat a7) (List.set d1 (Int.toNat b3) d2))) (m:=[c9]) (c:=cL cI)) ?_;cases h;exact zdm.mk' _ rfl (eA [(105,some 105),(106,some 79),(107,some 85),(108,some 108)]);obtain ⟨h,d9⟩:=cfd d5 h;cases h;exact zdm.mk' _ rfl (eA [(105,some 105),(106,some 106),(107,some 107),(108,some 108)]);rintro ⟨b9,c0⟩ rfl hp;have hx_:=zb7 hk1597;replace h:zb8.k53 a7 b4 b3 b9 c0=some _:=hx_;clear hx_;unfold zb8.k53 at h;obtain ⟨g5,g6,g7,g8,g9,_⟩:=hp;obtain ⟨h0,he1631z,he1631,h⟩:=zan h;refine zlB ⟨he1631z,rfl,za0 he1631⟩ ?_;refine zlB ⟨rfl,za0 he1631⟩ ?_;obtain ⟨h2,he1632z,he1632,h⟩:=zan h;refine ⟨_,⟨he1632z,rfl,zad he1631,za0 he1632⟩,?_⟩;refine ⟨_,_,_,⟨rfl,zad he1631,zad he1632,rfl⟩,?_⟩;refine za5.mk (by show inR _;unfold inR;omega) ?_;cases h;exact zlK _ ho1593 (eA [(105,some 105),(106,some 106),(107,some 107),(108,some 108)]);obtain ⟨h,d8⟩:=cfd d4 h;cases h;have ho1593:_=_:=ho1593;cases ho1593;exact zdm.mk' _ rfl (eA [(105,some 105),(106,some 106),(107,some 107)]);rintro ⟨b7,b8⟩ rfl hp;have hx_:=zb7 hk1381;replace h:zb8.k55 a8 b7 b8=some _:=hx_;clear hx_;unfold zb8.k55 at h;obtain ⟨h3,h4,h5,_⟩:=hp;refine za5.mk (by show inR _;unfold inR;omega) ?_;cases h;exact zlK _ ho1378 (eA [(105,some 105),(106,some 106),(107,some 107)]);obtain ⟨h,d7⟩:=cfd d3 h;cases h;have ho1378:_=_:=ho1378;cases ho1378;exact zdm.mk' _ rfl (eA [(105,some 105),(106,some 106),(107,some 107)]);rintro ⟨c6,c7⟩ rfl hp;have hx_:=zb7 hk55;replace h:zb8.k57 o_ c6 c7=some _:=hx_;clear hx_;unfold zb8.k57 at h;obtain ⟨h6,h7,_⟩:=hp;refine zlB ⟨rfl,rfl,trivial⟩ ?_;obtain ⟨e3,hc1646,h⟩:=zlA h;refine ⟨_,(zh1 (⟨o_.Inputs,0,c6,c7⟩:zag) e3 (fun _=>hc1646)),?_⟩;refine zlB rfl ?_;refine zlB rfl ?_;refine zlB rfl ?_;cases h;refine zlB ⟨rfl,trivial⟩ ?_;exact ⟨rfl,rfl⟩
theorem zdq (b_:zbb) (x_:Int) (r:Int×(List (Int×Int))) (h:OkA (.lent (.map (mapV wI wI b_.up)))→Ok (nI x_)→zbz b_ x_=some r):SpX Tryz.prog 105 (.lent .dead::.box 0 [.im .any]::[.lent (.map (mapV wI wI b_.up)),.im (nI x_)]) (.mk false [.im (nI r.1)] [.lent (.map (mapV wI wI r.2))]):=by
 refine sp_ofA rfl [] 0 [.im .any] 1 rfl rfl rfl rfl (zkE rfl) (zkE rfl) rfl fun hk=>?_;replace h:=h hk.1 hk.2.1;unfold zbz at h;refine zbp.iter (fun (s:Int)=>zbz.s1 b_ s) (fun a2=>mkSt [(0,.agg [.osl 0 0]),(1,.im (nI a2)),(2,.own 65 1 0)] [(0,.map (mapV wI wI b_.up)),(65,.box 151 1)] [(65,0,.osl 0 0)]) (fun a2=>True) h (Ent.mk [(0,some 0),(65,some 2)] rfl ⟨⟨.agg [.osl 0 _],rfl,.agg (.cons (.osl rfl rfl rfl) (.nil))⟩,eI rfl rfl,⟨.own 2 _ 0,rfl,.own rfl rfl rfl⟩,trivial⟩ ⟨.inl ⟨0,rfl,rfl,⟨rfl,rfl⟩⟩,.inl ⟨2,rfl,rfl,trivial⟩,trivial⟩ ⟨⟨2,.osl 0 _,rfl,rfl,.osl rfl rfl rfl⟩,trivial⟩) (by rintro a2;exact (hT)) ?_;clear h;rintro k a2 o hp h ho54;replace h:zbz.s1 b_ a2=some o:=h;unfold zbz.s1 at h;refine zlB rfl ?_;refine zlB rfl ?_;refine zlB rfl ?_;refine ⟨_,find_int _ wI _,?_⟩;refine zlF (wI ((mget a2 b_.up).getD 0)) (getD_map rfl _) ?_;refine zlF (mget a2 b_.up).isSome (zth _) ?_;refine zlC ?_ ?_<;>intro a6;replace h:=zbe a6 h;cases h;have ho54:_=_:=ho54;cases ho54;exact zlB ⟨rfl,trivial⟩ ⟨rfl,rfl⟩;replace h:=zbd a6 h;cases h;exact zlK _ ho54 (Ent.mk [(0,some 0),(65,some 65)] rfl ⟨⟨.agg [.osl 0 _],rfl,.agg (.cons (.osl rfl rfl rfl) (.nil))⟩,eI rfl rfl,⟨.own 65 _ 0,rfl,.own rfl rfl rfl⟩,trivial⟩ ⟨.inl ⟨0,rfl,rfl,⟨rfl,rfl⟩⟩,.inl ⟨65,rfl,rfl,trivial⟩,trivial⟩ ⟨⟨65,.osl 0 _,rfl,rfl,.osl rfl rfl rfl⟩,trivial⟩)
theorem zjg (b_:zbb) (x_:Int) (y_:Int) (r:List (Int×Int)) (h:OkA (.lent (.map (mapV wI wI b_.up)))→Ok (nI x_)→Ok (nI y_)→zfe b_ x_ y_=some r):SpX Tryz.prog 106 (.lent .dead::.box 0 [.im .any]::[.lent (.map (mapV wI wI b_.up)),.im (nI x_),.im (nI y_)]) (.mk true [] [.lent (.map (mapV wI wI r))]):=by
 refine sp_ofA rfl [] 0 [.im .any] 2 rfl rfl rfl rfl (zkE rfl) (zkE rfl) rfl fun hk=>?_;replace h:=h hk.1 hk.2.1 hk.2.2.1;unfold zfe at h;refine zlB rfl ?_;refine zlB rfl ?_;refine zlB rfl ?_;refine ⟨_,set_int _ x_ wI _,?_⟩;cases h;exact zlB ⟨rfl,trivial⟩ ⟨rfl,rfl⟩
theorem zki (p_:zag) (s_:Int) (t_:Int) (r:zag×List Int×Bool) (h:Ok (.agg (zap p_))→Ok (nI s_)→Ok (nI t_)→zal p_ s_ t_=some r):Sp Tryz.prog 48 [.im (.agg (zap p_)),.im (nI s_),.im (nI t_)] (.tup [.agg (zap r.1),nL cI r.2.1,nB r.2.2]):=by
 refine zbq rfl [35,47,63,73000,79000,94000,202000,209000,229000,700003,2073000,2079000,2094000,2202000,2209000,2229000,8000072,8000078,8000093,8000201,8000208,8000228,9000042,9000054] rfl rfl rfl (zkE rfl) rfl fun hk=>?_;replace h:=h hk.1 hk.2.1 hk.2.2.1;have z1:lZ p_.Next:=zaj (zlI hk.1 2 rfl);have z2:lZ p_.Out:=zaj (zlI hk.1 3 rfl);unfold zal at h;refine zlB rfl ?_;refine zlF p_.Next.length zae ?_;obtain ⟨⟨k7,k8⟩,hc,hk51⟩:=zlA h;clear h;have h:=hc;clear hc;refine Cut.mk (mkSt [(1,.im (nI s_)),(2,.im (nI t_)),(3,.im (.ref (zap p_))),(6,.own 235 1 0),(9,.own 236 1 0)] [(235,.box 24 4),(236,.box 24 4),(237,.grid 25 3 1 (List.map (cL cI) k7) none),(238,.grid 25 3 1 (List.map (cL cI) k8) none)] [(235,0,.im (nI 0)),(235,1,.im (nI 0)),(235,2,.im (.val (.slice none 0 0))),(235,3,.im (.val (.slice none 0 0))),(236,0,.im (nI p_.Inputs)),(236,1,.im (nI 0)),(236,2,.osl 237 1),(236,3,.osl 238 1)]) (lZ k7∧lZ k8∧True) ((Holds.kdg 237 rfl).and ((Holds.kdg 238 rfl).and (hT))) ?_ (fun hp=>?_);refine zbp.iter (fun (s:List (List Int)×List (List Int)×Nat)=>zal.s2 p_ s.1 s.2.1 s.2.2) (fun (f4,f5,i7)=>mkSt [(1,.im (nI s_)),(2,.im (nI t_)),(3,.im (.ref (zap p_))),(6,.own 235 1 0),(9,.own 236 1 0),(29,.im (nI (↑p_.Next.length:Int))),(30,.im (nI (↑i7:Int)))] [(235,.box 24 4),(236,.box 24 4),(237,.grid 25 3 1 (List.map (cL cI) f4) none),(238,.grid 25 3 1 (List.map (cL cI) f5) none)] [(235,0,.im (nI 0)),(235,1,.im (nI 0)),(235,2,.im (.val (.slice none 0 0))),(235,3,.im (.val (.slice none 0 0))),(236,0,.im (nI p_.Inputs)),(236,1,.im (nI 0)),(236,2,.osl 237 1),(236,3,.osl 238 1)]) (fun (f4,f5,i7)=>lZ f4∧lZ f5∧True) h (Ent.mk [(235,some 6),(236,some 9),(237,none),(238,none)] rfl ⟨eI rfl rfl,eI rfl rfl,eI rfl rfl,⟨.own 6 _ 0,rfl,.own rfl rfl rfl⟩,⟨.own 9 _ 0,rfl,.own rfl rfl rfl⟩,eI rfl rfl,eI rfl rfl,trivial⟩ ⟨.inl ⟨6,rfl,rfl,trivial⟩,.inl ⟨9,rfl,rfl,trivial⟩,.inr ⟨rfl,rfl,.inr (.inl ⟨_,_,_,rfl⟩)⟩,.inr ⟨rfl,rfl,.inr (.inl ⟨_,_,_,rfl⟩)⟩,trivial⟩ ⟨⟨6,.im _,rfl,rfl,.im (Sub.rfl' rfl)⟩,⟨6,.im _,rfl,rfl,.im (Sub.rfl' rfl)⟩,⟨6,.im (.val (.slice none 0 0)),rfl,rfl,.im (Sub.rfl' rfl)⟩,⟨6,.im (.val (.slice none 0 0)),rfl,rfl,.im (Sub.rfl' rfl)⟩,⟨9,.im _,rfl,rfl,.im (Sub.rfl' rfl)⟩,⟨9,.im _,rfl,rfl,.im (Sub.rfl' rfl)⟩,⟨9,.im (.val (.slice none 0 0)),rfl,rfl,.made rfl rfl⟩,⟨9,.im (.val (.slice none 0 0)),rfl,rfl,.made rfl rfl⟩,trivial⟩) (by rintro ⟨f4,f5,i7⟩;exact ((Holds.kdg 237 rfl).and ((Holds.kdg 238 rfl).and (hT)))) ?_;clear h;rintro k ⟨f4,f5,i7⟩ o hp h ho94;replace h:zal.s2 p_ f4 f5 i7=some o:=h;unfold zal.s2 at h;obtain ⟨q6,q7,_⟩:=hp;refine zlC ?_ ?_<;>intro l4;obtain ⟨h,k9⟩:=ctd l4 h;refine zlB rfl ?_;refine zlB rfl ?_;obtain ⟨i5,he96,h⟩:=zac h;refine ⟨_,⟨(by omega),zad he96,rfl⟩,?_⟩;obtain ⟨q8,h⟩:=zah h;refine zlB ⟨rfl,zby (l:=i5) (c:=cI) fun _=>rfl,show zaw _ 8 by simpa only [zkK,zkL,List.length_nil,Nat.zero_add] using q8⟩ ?_;refine zlF (List.map cI ([]++i5)) (zb0 (l:=[]) (m:=i5) (c:=cI)) ?_;refine zlB ⟨rfl,trivial⟩ ?_;refine zlF (List.map (cL cI) [([]++i5)]) rfl ?_;obtain ⟨q9,h⟩:=zah h;refine zlB ⟨rfl,rfl,trivial⟩ ?_;refine zlB (show zaw _ 24 by have hh_:=q9;simpa only [zkK] using hh_) ?_;refine zlF (List.map (cL cI) (f4++[([]++i5)])) (zb0 (l:=f4) (m:=[([]++i5)]) (c:=cL cI)) ?_;refine zlB rfl ?_;refine zlB rfl ?_;refine zlB rfl ?_;refine zlB rfl ?_;obtain ⟨i6,he99,h⟩:=zac h;refine ⟨_,⟨(by omega),zad he99,rfl⟩,?_⟩;obtain ⟨l0,h⟩:=zah h;refine zlB ⟨rfl,zby (l:=i6) (c:=cI) fun _=>rfl,show zaw _ 8 by simpa only [zkK,zkL,List.length_nil,Nat.zero_add] using l0⟩ ?_;refine zlF (List.map cI ([]++i6)) (zb0 (l:=[]) (m:=i6) (c:=cI)) ?_;refine zlB ⟨rfl,trivial⟩ ?_;refine zlF (List.map (cL cI) [([]++i6)]) rfl ?_;obtain ⟨l3,h⟩:=zah h;refine zlB ⟨rfl,rfl,trivial⟩ ?_;refine zlB (show zaw _ 24 by have hh_:=l3;simpa only [zkK] using hh_) ?_;refine zlF (List.map (cL cI) (f5++[([]++i6)])) (zb0 (l:=f5) (m:=[([]++i6)]) (c:=cL cI)) ?_;refine zlB rfl ?_;refine zlB rfl ?_;refine za5.mk (by show inR _;unfold inR;omega) ?_;cases h;exact zlK _ ho94 (eA [(235,some 235),(236,some 236),(237,some 43),(238,some 55)]);obtain ⟨h,k9⟩:=cfd l4 h;cases h;have ho94:_=_:=ho94;cases ho94;exact zlG (eA [(235,some 235),(236,some 236),(237,some 237),(238,some 238)]);replace h:zal.k71 p_ s_ t_ k7 k8=some _:=hk51;unfold zal.k71 at h;obtain ⟨r0,r1,_⟩:=hp;refine zlB rfl ?_;obtain ⟨oc,hc,hk106⟩:=zlA h;clear h;have h:=hc;clear hc;refine zlJ oc (Y:=List (List Int)×List (List Int)×(List (Int×Int))) (fun (a8,a6,e0)=>mkSt [(3,.im (.ref (zap p_))),(6,.own 235 1 0),(9,.own 236 1 0),(11,.own 239 1 0)] [(235,.box 24 4),(236,.box 24 4),(237,.grid 25 3 1 (List.map (cL cI) a8) none),(238,.grid 25 3 1 (List.map (cL cI) a6) none),(239,.box 151 1),(240,.map (mapV wI wI e0))] [(235,0,.im (nI 0)),(235,1,.im (nI 0)),(235,2,.im (.val (.slice none 0 0))),(235,3,.im (.val (.slice none 0 0))),(236,0,.im (nI p_.Inputs)),(236,1,.im (nI 0)),(236,2,.osl 237 1),(236,3,.osl 238 1),(239,0,.osl 240 1)]) (fun (a8,a6,e0)=>lZ a8∧lZ a6∧True) (by rintro ⟨a8,a6,e0⟩;exact ((Holds.kdg 237 rfl).and ((Holds.kdg 238 rfl).and (hT)))) ?_ ?_;refine zbp.iter (fun (s:List (List Int)×List (List Int)×(List (Int×Int))×List T_A2)=>zal.s46 s.1 s.2.1 s.2.2.1 s.2.2.2) (fun (c7,c8,c9,b4)=>mkSt [(3,.im (.ref (zap p_))),(6,.own 235 1 0),(9,.own 236 1 0),(11,.own 239 1 0),(12,.osl 241 1)] [(235,.box 24 4),(236,.box 24 4),(237,.grid 25 3 1 (List.map (cL cI) c7) none),(238,.grid 25 3 1 (List.map (cL cI) c8) none),(239,.box 151 1),(240,.map (mapV wI wI c9)),(241,.que 152 2 (List.map c_A2 b4))] [(235,0,.im (nI 0)),(235,1,.im (nI 0)),(235,2,.im (.val (.slice none 0 0))),(235,3,.im (.val (.slice none 0 0))),(236,0,.im (nI p_.Inputs)),(236,1,.im (nI 0)),(236,2,.osl 237 1),(236,3,.osl 238 1),(239,0,.osl 240 1)]) (fun (c7,c8,c9,b4)=>lZ c7∧lZ c8∧lZ b4∧True) h ((Ent.que 63 rfl).trans (eA [(235,some 235),(236,some 236),(237,some 237),(238,some 238),(239,some 11),(240,some 58),(241,some 63)])) (by rintro ⟨c7,c8,c9,b4⟩;exact ((Holds.kdg 237 rfl).and ((Holds.kdg 238 rfl).and ((Holds.kdql 241 rfl).and (hT))))) ?_;clear h;rintro k ⟨c7,c8,c9,b4⟩ o hp h ho1857;replace h:zal.s46 c7 c8 c9 b4=some o:=h;unfold zal.s46 at h;obtain ⟨l5,l6,l7,_⟩:=hp;refine zlB rfl ?_;refine zlF b4.length zae ?_;refine zlC ?_ ?_<;>intro f7;obtain ⟨h,h3⟩:=ctd f7 h;obtain ⟨oc,hc,hk1859⟩:=zlA h;clear h;have h:=hc;clear hc;refine zlJ oc (Y:=List (List Int)×List (List Int)×(List (Int×Int))×List T_A2) (fun (d0,d1,e1,d2)=>mkSt [(3,.im (.ref (zap p_))),(6,.own 235 1 0),(9,.own 236 1 0),(11,.own 239 1 0),(12,.osl 241 1)] [(235,.box 24 4),(236,.box 24 4),(237,.grid 25 3 1 (List.map (cL cI) d0) none),(238,.grid 25 3 1 (List.map (cL cI) d1) none),(239,.box 151 1),(240,.map (mapV wI wI e1)),(241,.que 152 2 (List.map c_A2 d2))] [(235,0,.im (nI 0)),(235,1,.im (nI 0)),(235,2,.im (.val (.slice none 0 0))),(235,3,.im (.val (.slice none 0 0))),(236,0,.im (nI p_.Inputs)),(236,1,.im (nI 0)),(236,2,.osl 237 1),(236,3,.osl 238 1),(239,0,.osl 240 1)]) (fun (d0,d1,e1,d2)=>lZ d0∧lZ d1∧lZ d2∧True) (by rintro ⟨d0,d1,e1,d2⟩;exact ((Holds.kdg 237 rfl).and ((Holds.kdg 238 rfl).and ((Holds.kdql 241 rfl).and (hT))))) ?_ ?_;refine zlB rfl ?_;obtain ⟨i8,he2033,h⟩:=zac h;refine zlB ⟨(by omega),rfl,za0 he2033⟩ ?_;refine zlB ⟨by decide,by decide,rfl⟩ ?_;refine ⟨_,_,⟨rfl,zad he2033,rfl,rfl⟩,?_⟩;refine zlB ⟨rfl,trivial⟩ ?_;obtain ⟨b2,hc2034,h⟩:=zlA h;refine ⟨_,(zdq (⟨c9⟩:zbb) i8.f0 b2 (fun _ _=>hc2034)),?_⟩;refine zlB rfl ?_;obtain ⟨i9,he2035,h⟩:=zac h;refine zlB ⟨(by omega),rfl,za0 he2035⟩ ?_;refine zlB ⟨by decide,by decide,rfl⟩ ?_;refine ⟨_,_,⟨rfl,zad he2035,rfl,rfl⟩,?_⟩;refine zlB ⟨rfl,trivial⟩ ?_;obtain ⟨b3,hc2036,h⟩:=zlA h;refine ⟨_,(zdq (⟨b2.2⟩:zbb) i9.f1 b3 (fun _ _=>hc2036)),?_⟩;obtain ⟨j0,h⟩:=zah h;refine zlB ⟨rfl,by decide,by have hh_:=j0;simp only [zkK];exact hh_⟩ ?_;refine zlF (List.map c_A2 (List.drop 1 b4)) List.map_drop ?_;refine zlC ?_ ?_<;>intro f8;obtain ⟨h,h4⟩:=ctd f8 h;cases h;exact zdm.mk' _ rfl (eA [(235,some 235),(236,some 236),(237,some 237),(238,some 238),(239,some 239),(240,some 240),(241,some 241)]);obtain ⟨h,h4⟩:=cfd f8 h;refine zlB rfl ?_;refine zlB ⟨rfl,trivial⟩ ?_;obtain ⟨e3,hc2039,h⟩:=zlA h;refine ⟨_,(zjg (⟨b3.2⟩:zbb) (min b2.1 b3.1) (max b2.1 b3.1) e3 (fun _ _ _=>hc2039)),?_⟩;refine zlB rfl ?_;refine zlB rfl ?_;obtain ⟨e4,he2040z,he2040,h⟩:=zan h;refine zlB ⟨he2040z,rfl,za0 he2040⟩ ?_;refine zlB ⟨rfl,za0 he2040⟩ ?_;refine ⟨_,⟨rfl,zad he2040⟩,?_⟩;refine zlF e4.length zae ?_;obtain ⟨oc,hc,hk2041⟩:=zlA h;clear h;have h:=hc;clear hc;refine zlJ oc (Y:=List (List Int)×List (List Int)×List T_A2) (fun (d3,d4,d5)=>mkSt [(3,.im (.ref (zap p_))),(6,.own 235 1 0),(9,.own 236 1 0),(11,.own 239 1 0),(12,.osl 241 1)] [(235,.box 24 4),(236,.box 24 4),(237,.grid 25 3 1 (List.map (cL cI) d3) none),(238,.grid 25 3 1 (List.map (cL cI) d4) none),(239,.box 151 1),(240,.map (mapV wI wI e3)),(241,.que 152 2 (List.map c_A2 d5))] [(235,0,.im (nI 0)),(235,1,.im (nI 0)),(235,2,.im (.val (.slice none 0 0))),(235,3,.im (.val (.slice none 0 0))),(236,0,.im (nI p_.Inputs)),(236,1,.im (nI 0)),(236,2,.osl 237 1),(236,3,.osl 238 1),(239,0,.osl 240 1)]) (fun (d3,d4,d5)=>lZ d3∧lZ d4∧lZ d5∧True) (by rintro ⟨d3,d4,d5⟩;exact ((Holds.kdg 237 rfl).and ((Holds.kdg 238 rfl).and ((Holds.kdql 241 rfl).and (hT))))) ?_ ?_;refine zbp.iter (fun (s:List (List Int)×List (List Int)×List T_A2×Nat)=>zal.s43 b2 b3 e4 s.1 s.2.1 s.2.2.1 s.2.2.2) (fun (b6,b7,b5,b8)=>mkSt [(3,.im (.ref (zap p_))),(6,.own 235 1 0),(9,.own 236 1 0),(11,.own 239 1 0),(12,.osl 241 1),(13,.im (nI (min b2.1 b3.1))),(14,.im (nI (max b2.1 b3.1))),(98,.sub 237 0 (Int.toNat (max b2.1 b3.1))),(99,.im (nI (↑e4.length:Int))),(100,.im (nI (↑b8:Int)))] [(235,.box 24 4),(236,.box 24 4),(237,.grid 25 3 1 (List.map (cL cI) b6) none),(238,.grid 25 3 1 (List.map (cL cI) b7) none),(239,.box 151 1),(240,.map (mapV wI wI e3)),(241,.que 152 2 (List.map c_A2 b5))] [(235,0,.im (nI 0)),(235,1,.im (nI 0)),(235,2,.im (.val (.slice none 0 0))),(235,3,.im (.val (.slice none 0 0))),(236,0,.im (nI p_.Inputs)),(236,1,.im (nI 0)),(236,2,.osl 237 1),(236,3,.osl 238 1),(239,0,.osl 240 1)]) (fun (b6,b7,b5,b8)=>lZ b6∧lZ b7∧lZ b5∧True) h (Ent.mk [(235,some 235),(236,some 236),(237,some 237),(238,some 238),(239,some 239),(240,some 240),(241,some 241)] rfl ⟨eI rfl rfl,⟨.own 235 _ 0,rfl,.own rfl rfl rfl⟩,⟨.own 236 _ 0,rfl,.own rfl rfl rfl⟩,⟨.own 239 _ 0,rfl,.own rfl rfl rfl⟩,⟨.osl 241 _,rfl,.osl rfl rfl rfl⟩,eI rfl rfl,eI rfl rfl,⟨.sub 237 _ _,rfl,.sub rfl rfl⟩,eI rfl rfl,eI rfl rfl,trivial⟩ ⟨.inl ⟨235,rfl,rfl,trivial⟩,.inl ⟨236,rfl,rfl,trivial⟩,.inl ⟨237,rfl,rfl,trivial⟩,.inl ⟨238,rfl,rfl,trivial⟩,.inl ⟨239,rfl,rfl,trivial⟩,.inl ⟨240,rfl,rfl,trivial⟩,.inl ⟨241,rfl,rfl,trivial⟩,trivial⟩ ⟨⟨235,.im _,rfl,rfl,.im (Sub.rfl' rfl)⟩,⟨235,.im _,rfl,rfl,.im (Sub.rfl' rfl)⟩,⟨235,.im (.val (.slice none 0 0)),rfl,rfl,.im (Sub.rfl' rfl)⟩,⟨235,.im (.val (.slice none 0 0)),rfl,rfl,.im (Sub.rfl' rfl)⟩,⟨236,.im _,rfl,rfl,.im (Sub.rfl' rfl)⟩,⟨236,.im _,rfl,rfl,.im (Sub.rfl' rfl)⟩,⟨236,.osl 237 _,rfl,rfl,.osl rfl rfl rfl⟩,⟨236,.osl 238 _,rfl,rfl,.osl rfl rfl rfl⟩,⟨239,.osl 240 _,rfl,rfl,.osl rfl rfl rfl⟩,trivial⟩) (by rintro ⟨b6,b7,b5,b8⟩;exact ((Holds.kdg 237 rfl).and ((Holds.kdg 238 rfl).and ((Holds.kdql 241 rfl).and (hT))))) ?_;clear h;rintro k ⟨b6,b7,b5,b8⟩ o hp h ho2171;replace h:zal.s43 b2 b3 e4 b6 b7 b5 b8=some o:=h;unfold zal.s43 at h;obtain ⟨l8,l9,m0,_⟩:=hp;refine zlC ?_ ?_<;>intro f9;obtain ⟨h,h5⟩:=ctd f9 h;obtain ⟨m3,he2174,h⟩:=zac h;obtain ⟨e5,he2173,h⟩:=zac h;refine ⟨_,⟨(by omega),rfl,zad he2174,za0 he2173⟩,?_⟩;refine ⟨_,_,_,⟨rfl,zad he2174,zad he2173,rfl⟩,?_⟩;refine zlC ?_ ?_<;>intro g1;obtain ⟨h,h6⟩:=ctd g1 h;obtain ⟨j1,h⟩:=zah h;refine za5.mk j1 ?_;cases h;exact zlK _ ho2171 (Ent.mk [(235,some 235),(236,some 236),(237,some 237),(238,some 238),(239,some 239),(240,some 240),(241,some 241)] rfl ⟨eI rfl rfl,⟨.own 235 _ 0,rfl,.own rfl rfl rfl⟩,⟨.own 236 _ 0,rfl,.own rfl rfl rfl⟩,⟨.own 239 _ 0,rfl,.own rfl rfl rfl⟩,⟨.osl 241 _,rfl,.osl rfl rfl rfl⟩,eI rfl rfl,eI rfl rfl,⟨.sub 237 _ _,rfl,.sub rfl rfl⟩,eI rfl rfl,eI rfl rfl,trivial⟩ ⟨.inl ⟨235,rfl,rfl,trivial⟩,.inl ⟨236,rfl,rfl,trivial⟩,.inl ⟨237,rfl,rfl,trivial⟩,.inl ⟨238,rfl,rfl,trivial⟩,.inl ⟨239,rfl,rfl,trivial⟩,.inl ⟨240,rfl,rfl,trivial⟩,.inl ⟨241,rfl,rfl,trivial⟩,trivial⟩ ⟨⟨235,.im _,rfl,rfl,.im (Sub.rfl' rfl)⟩,⟨235,.im _,rfl,rfl,.im (Sub.rfl' rfl)⟩,⟨235,.im (.val (.slice none 0 0)),rfl,rfl,.im (Sub.rfl' rfl)⟩,⟨235,.im (.val (.slice none 0 0)),rfl,rfl,.im (Sub.rfl' rfl)⟩,⟨236,.im _,rfl,rfl,.im (Sub.rfl' rfl)⟩,⟨236,.im _,rfl,rfl,.im (Sub.rfl' rfl)⟩,⟨236,.osl 237 _,rfl,rfl,.osl rfl rfl rfl⟩,⟨236,.osl 238 _,rfl,rfl,.osl rfl rfl rfl⟩,⟨239,.osl 240 _,rfl,rfl,.osl rfl rfl rfl⟩,trivial⟩);obtain ⟨h,h6⟩:=cfd g1 h;refine zlB rfl ?_;refine zlB rfl ?_;obtain ⟨m4,he2177z,he2177,h⟩:=zan h;refine zlB ⟨he2177z,rfl,za0 he2177⟩ ?_;refine zlB ⟨rfl,za0 he2177⟩ ?_;obtain ⟨m5,he2178,h⟩:=zac h;refine ⟨_,⟨(by omega),rfl,zad he2177,za0 he2178⟩,?_⟩;refine ⟨_,_,_,⟨rfl,zad he2177,zad he2178,rfl⟩,?_⟩;refine zlC ?_ ?_<;>intro g2;obtain ⟨h,h7⟩:=ctd g2 h;refine zlB rfl ?_;refine zlB rfl ?_;obtain ⟨j2,he2180z,he2180,h⟩:=zan h;refine zlB ⟨he2180z,rfl,za0 he2180⟩ ?_;refine zlB ⟨rfl,za0 he2180⟩ ?_;refine zlB rfl ?_;refine zlB rfl ?_;obtain ⟨j3,he2181z,he2181,h⟩:=zan h;refine zlB ⟨he2181z,rfl,za0 he2181⟩ ?_;refine zlB ⟨rfl,za0 he2181⟩ ?_;refine zlB rfl ?_;refine zlB rfl ?_;obtain ⟨m6,he2182z,he2182,h⟩:=zan h;refine zlB ⟨he2182z,rfl,za0 he2182⟩ ?_;refine zlB ⟨rfl,za0 he2182⟩ ?_;obtain ⟨j4,he2183,h⟩:=zac h;refine ⟨_,⟨(by omega),rfl,zad he2182,za0 he2183⟩,?_⟩;refine ⟨_,_,_,⟨rfl,zad he2182,zad he2183,rfl⟩,?_⟩;obtain ⟨m7,he2184,h⟩:=zac h;refine ⟨_,⟨(by omega),rfl,zad he2180,za0 he2184⟩,?_⟩;refine ⟨_,_,⟨rfl,zad he2180,zad he2184⟩,?_⟩;refine zlF (List.map (cL cI) (List.set b6 (Int.toNat (min b2.1 b3.1)) (List.set j2 b8 e5))) (zhv rfl) ?_;obtain ⟨m8,he2185,h⟩:=zac h;refine ⟨_,⟨(by omega),rfl,zad he2181,za0 he2185⟩,?_⟩;refine ⟨_,_,⟨rfl,zad he2181,zad he2185⟩,?_⟩;refine zlF (List.map (cL cI) (List.set b7 (Int.toNat (min b2.1 b3.1)) (List.set j3 b8 j4))) (zhv rfl) ?_;obtain ⟨j5,h⟩:=zah h;refine za5.mk j5 ?_;cases h;exact zlK _ ho2171 (Ent.mk [(235,some 235),(236,some 236),(237,some 237),(238,some 238),(239,some 239),(240,some 240),(241,some 241)] rfl ⟨eI rfl rfl,⟨.own 235 _ 0,rfl,.own rfl rfl rfl⟩,⟨.own 236 _ 0,rfl,.own rfl rfl rfl⟩,⟨.own 239 _ 0,rfl,.own rfl rfl rfl⟩,⟨.osl 241 _,rfl,.osl rfl rfl rfl⟩,eI rfl rfl,eI rfl rfl,⟨.sub 237 _ _,rfl,.sub rfl rfl⟩,eI rfl rfl,eI rfl rfl,trivial⟩ ⟨.inl ⟨235,rfl,rfl,trivial⟩,.inl ⟨236,rfl,rfl,trivial⟩,.inl ⟨237,rfl,rfl,trivial⟩,.inl ⟨238,rfl,rfl,trivial⟩,.inl ⟨239,rfl,rfl,trivial⟩,.inl ⟨240,rfl,rfl,trivial⟩,.inl ⟨241,rfl,rfl,trivial⟩,trivial⟩ ⟨⟨235,.im _,rfl,rfl,.im (Sub.rfl' rfl)⟩,⟨235,.im _,rfl,rfl,.im (Sub.rfl' rfl)⟩,⟨235,.im (.val (.slice none 0 0)),rfl,rfl,.im (Sub.rfl' rfl)⟩,⟨235,.im (.val (.slice none 0 0)),rfl,rfl,.im (Sub.rfl' rfl)⟩,⟨236,.im _,rfl,rfl,.im (Sub.rfl' rfl)⟩,⟨236,.im _,rfl,rfl,.im (Sub.rfl' rfl)⟩,⟨236,.osl 237 _,rfl,rfl,.osl rfl rfl rfl⟩,⟨236,.osl 238 _,rfl,rfl,.osl rfl rfl rfl⟩,⟨239,.osl 240 _,rfl,rfl,.osl rfl rfl rfl⟩,trivial⟩);obtain ⟨h,h7⟩:=cfd g2 h;refine zlB rfl ?_;refine zlB rfl ?_;obtain ⟨m9,he2187z,he2187,h⟩:=zan h;refine zlB ⟨he2187z,rfl,za0 he2187⟩ ?_;refine zlB ⟨rfl,za0 he2187⟩ ?_;obtain ⟨n0,he2188,h⟩:=zac h;refine ⟨_,⟨(by omega),rfl,zad he2187,za0 he2188⟩,?_⟩;refine ⟨_,_,_,⟨rfl,zad he2187,zad he2188,rfl⟩,?_⟩;refine zlB rfl ?_;refine zlB rfl ?_;obtain ⟨n3,he2189z,he2189,h⟩:=zan h;refine zlB ⟨he2189z,rfl,za0 he2189⟩ ?_;refine zlB ⟨rfl,za0 he2189⟩ ?_;obtain ⟨n4,he2190,h⟩:=zac h;refine ⟨_,⟨(by omega),rfl,zad he2189,za0 he2190⟩,?_⟩;refine ⟨_,_,_,⟨rfl,zad he2189,zad he2190,rfl⟩,?_⟩;refine zlC ?_ ?_<;>intro g3;obtain ⟨h,h8⟩:=ctd g3 h;refine zlB rfl ?_;cases h;have ho2171:_=_:=ho2171;cases ho2171;replace h:some _=some _:=hk2041;cases h;replace h:some _=some _:=hk1859;cases h;have ho1857:_=_:=ho1857;cases ho1857;replace h:some _=some _:=hk106;cases h;refine zlB ⟨rfl,trivial⟩ ?_;exact ⟨rfl,rfl⟩;obtain ⟨h,h8⟩:=cfd g3 h;refine zlB rfl ?_;refine zlB rfl ?_;obtain ⟨n5,he2192z,he2192,h⟩:=zan h;refine zlB ⟨he2192z,rfl,za0 he2192⟩ ?_;refine zlB ⟨rfl,za0 he2192⟩ ?_;obtain ⟨e8,he2193,h⟩:=zac h;refine ⟨_,⟨(by omega),rfl,zad he2192,za0 he2193⟩,?_⟩;refine ⟨_,_,_,⟨rfl,zad he2192,zad he2193,rfl⟩,?_⟩;obtain ⟨j6,h⟩:=zah h;refine zlB ⟨rfl,Nat.succ_pos _,zby (l:=[(⟨e8,e5⟩:T_A2)]) (c:=c_A2) fun _=>rfl,show zaw _ 16 by simpa only [zkK,zkL,List.length_nil,Nat.zero_add] using j6⟩ ?_;refine zlF (List.map c_A2 (b5++[(⟨e8,e5⟩:T_A2)])) (zb0 (l:=b5) (m:=[(⟨e8,e5⟩:T_A2)]) (c:=c_A2)) ?_;obtain ⟨j7,h⟩:=zah h;refine za5.mk j7 ?_;cases h;exact zlK _ ho2171 (Ent.mk [(235,some 235),(236,some 236),(237,some 237),(238,some 238),(239,some 239),(240,some 240),(241,some 241)] rfl ⟨eI rfl rfl,⟨.own 235 _ 0,rfl,.own rfl rfl rfl⟩,⟨.own 236 _ 0,rfl,.own rfl rfl rfl⟩,⟨.own 239 _ 0,rfl,.own rfl rfl rfl⟩,⟨.osl 241 _,rfl,.osl rfl rfl rfl⟩,eI rfl rfl,eI rfl rfl,⟨.sub 237 _ _,rfl,.sub rfl rfl⟩,eI rfl rfl,eI rfl rfl,trivial⟩ ⟨.inl ⟨235,rfl,rfl,trivial⟩,.inl ⟨236,rfl,rfl,trivial⟩,.inl ⟨237,rfl,rfl,trivial⟩,.inl ⟨238,rfl,rfl,trivial⟩,.inl ⟨239,rfl,rfl,trivial⟩,.inl ⟨240,rfl,rfl,trivial⟩,.inl ⟨241,rfl,rfl,trivial⟩,trivial⟩ ⟨⟨235,.im _,rfl,rfl,.im (Sub.rfl' rfl)⟩,⟨235,.im _,rfl,rfl,.im (Sub.rfl' rfl)⟩,⟨235,.im (.val (.slice none 0 0)),rfl,rfl,.im (Sub.rfl' rfl)⟩,⟨235,.im (.val (.slice none 0 0)),rfl,rfl,.im (Sub.rfl' rfl)⟩,⟨236,.im _,rfl,rfl,.im (Sub.rfl' rfl)⟩,⟨236,.im _,rfl,rfl,.im (Sub.rfl' rfl)⟩,⟨236,.osl 237 _,rfl,rfl,.osl rfl rfl rfl⟩,⟨236,.osl 238 _,rfl,rfl,.osl rfl rfl rfl⟩,⟨239,.osl 240 _,rfl,rfl,.osl rfl rfl rfl⟩,trivial⟩);obtain ⟨h,h5⟩:=cfd f9 h;cases h;have ho2171:_=_:=ho2171;cases ho2171;exact zdm.mk' _ rfl (eA [(235,some 235),(236,some 236),(237,some 237),(238,some 238),(239,some 239),(240,some 240),(241,some 241)]);rintro ⟨d3,d4,d5⟩ rfl hp;have hx_:=zb7 hk2041;replace h:zal.k44 e3 d3 d4 d5=some _:=hx_;clear hx_;unfold zal.k44 at h;obtain ⟨n7,n8,n9,_⟩:=hp;cases h;exact zdm.mk' _ rfl (eA [(235,some 235),(236,some 236),(237,some 237),(238,some 238),(239,some 239),(240,some 240),(241,some 241)]);rintro ⟨d0,d1,e1,d2⟩ rfl hp;have hx_:=zb7 hk1859;replace h:zal.k45 d0 d1 e1 d2=some _:=hx_;clear hx_;unfold zal.k45 at h;obtain ⟨o1,o2,o3,_⟩:=hp;cases h;exact zlK _ ho1857 (eA [(235,some 235),(236,some 236),(237,some 237),(238,some 238),(239,some 239),(240,some 240),(241,some 241)]);obtain ⟨h,h3⟩:=cfd f7 h;cases h;have ho1857:_=_:=ho1857;cases ho1857;exact zdm.mk' _ rfl (eA [(235,some 235),(236,some 236),(237,some 237),(238,some 238),(239,some 239),(240,some 240)]);rintro ⟨a8,a6,e0⟩ rfl hp;have hx_:=zb7 hk106;replace h:zal.k70 p_ a8 a6 e0=some _:=hx_;clear hx_;unfold zal.k70 at h;obtain ⟨o4,o5,_⟩:=hp;refine zlB rfl ?_;refine zlB rfl ?_;refine zlB rfl ?_;refine zlF a8.length zae ?_;obtain ⟨⟨e6,e9⟩,hc,hk2210⟩:=zlA h;clear h;have h:=hc;clear hc;refine Cut.mk (mkSt [(3,.im (.ref (zap p_))),(6,.own 235 1 0),(9,.own 236 1 0),(11,.own 239 1 0)] [(235,.box 24 4),(236,.box 24 4),(237,.grid 25 3 1 (List.map (cL cI) e6) none),(238,.grid 25 3 1 (List.map (cL cI) a6) none),(239,.box 151 1),(240,.map (mapV wI wI e9))] [(235,0,.im (nI 0)),(235,1,.im (nI 0)),(235,2,.im (.val (.slice none 0 0))),(235,3,.im (.val (.slice none 0 0))),(236,0,.im (nI p_.Inputs)),(236,1,.im (nI 0)),(236,2,.osl 237 1),(236,3,.osl 238 1),(239,0,.osl 240 1)]) (lZ e6∧lZ a6∧True) ((Holds.kdg 237 rfl).and ((Holds.kdg 238 rfl).and (hT))) ?_ (fun hp=>?_);refine zbp.iter (fun (s:List (List Int)×(List (Int×Int))×Nat)=>zal.s66 a8 s.1 s.2.1 s.2.2) (fun (d6,e2,a7)=>mkSt [(3,.im (.ref (zap p_))),(6,.own 235 1 0),(9,.own 236 1 0),(11,.own 239 1 0),(176,.im (nI (↑a8.length:Int))),(177,.im (nI (↑a7:Int)))] [(235,.box 24 4),(236,.box 24 4),(237,.grid 25 3 1 (List.map (cL cI) d6) none),(238,.grid 25 3 1 (List.map (cL cI) a6) none),(239,.box 151 1),(240,.map (mapV wI wI e2))] [(235,0,.im (nI 0)),(235,1,.im (nI 0)),(235,2,.im (.val (.slice none 0 0))),(235,3,.im (.val (.slice none 0 0))),(236,0,.im (nI p_.Inputs)),(236,1,.im (nI 0)),(236,2,.osl 237 1),(236,3,.osl 238 1),(239,0,.osl 240 1)]) (fun (d6,e2,a7)=>lZ d6∧lZ a6∧True) h (eA [(235,some 235),(236,some 236),(237,some 237),(238,some 238),(239,some 239),(240,some 240)]) (by rintro ⟨d6,e2,a7⟩;exact ((Holds.kdg 237 rfl).and ((Holds.kdg 238 rfl).and (hT)))) ?_;clear h;rintro k ⟨d6,e2,a7⟩ o hp h ho2567;replace h:zal.s66 a8 d6 e2 a7=some o:=h;unfold zal.s66 at h;obtain ⟨o6,o7,_⟩:=hp;refine zlC ?_ ?_<;>intro g4;obtain ⟨h,h9⟩:=ctd g4 h;refine zlB rfl ?_;refine zlB rfl ?_;obtain ⟨e7,he2569,h⟩:=zac h;refine zlB ⟨(by omega),rfl,za0 he2569⟩ ?_;refine zlB ⟨rfl,za0 he2569⟩ ?_;refine ⟨_,⟨rfl,zad he2569⟩,?_⟩;refine zlF e7.length zae ?_;obtain ⟨⟨f3,g5⟩,hc,hk2570⟩:=zlA h;clear h;have h:=hc;clear hc;refine Cut.mk (mkSt [(3,.im (.ref (zap p_))),(6,.own 235 1 0),(9,.own 236 1 0),(11,.own 239 1 0),(176,.im (nI (↑a8.length:Int))),(177,.im (nI (↑a7:Int)))] [(235,.box 24 4),(236,.box 24 4),(237,.grid 25 3 1 (List.map (cL cI) f3) none),(238,.grid 25 3 1 (List.map (cL cI) a6) none),(239,.box 151 1),(240,.map (mapV wI wI g5))] [(235,0,.im (nI 0)),(235,1,.im (nI 0)),(235,2,.im (.val (.slice none 0 0))),(235,3,.im (.val (.slice none 0 0))),(236,0,.im (nI p_.Inputs)),(236,1,.im (nI 0)),(236,2,.osl 237 1),(236,3,.osl 238 1),(239,0,.osl 240 1)]) (lZ f3∧lZ a6∧True) ((Holds.kdg 237 rfl).and ((Holds.kdg 238 rfl).and (hT))) ?_ (fun hp=>?_);refine zbp.iter (fun (s:List (List Int)×(List (Int×Int))×Nat)=>zal.s64 a7 e7 s.1 s.2.1 s.2.2) (fun (b9,d7,d8)=>mkSt [(3,.im (.ref (zap p_))),(6,.own 235 1 0),(9,.own 236 1 0),(11,.own 239 1 0),(17,.im (nI (↑a7:Int))),(176,.im (nI (↑a8.length:Int))),(177,.im (nI (↑a7:Int))),(184,.sub 237 0 a7),(185,.im (nI (↑e7.length:Int))),(186,.im (nI (↑d8:Int)))] [(235,.box 24 4),(236,.box 24 4),(237,.grid 25 3 1 (List.map (cL cI) b9) none),(238,.grid 25 3 1 (List.map (cL cI) a6) none),(239,.box 151 1),(240,.map (mapV wI wI d7))] [(235,0,.im (nI 0)),(235,1,.im (nI 0)),(235,2,.im (.val (.slice none 0 0))),(235,3,.im (.val (.slice none 0 0))),(236,0,.im (nI p_.Inputs)),(236,1,.im (nI 0)),(236,2,.osl 237 1),(236,3,.osl 238 1),(239,0,.osl 240 1)]) (fun (b9,d7,d8)=>lZ b9∧lZ a6∧True) h (Ent.mk [(235,some 235),(236,some 236),(237,some 237),(238,some 238),(239,some 239),(240,some 240)] rfl ⟨eI rfl rfl,⟨.own 235 _ 0,rfl,.own rfl rfl rfl⟩,⟨.own 236 _ 0,rfl,.own rfl rfl rfl⟩,⟨.own 239 _ 0,rfl,.own rfl rfl rfl⟩,eI rfl rfl,eI rfl rfl,eI rfl rfl,⟨.sub 237 _ _,rfl,.sub rfl rfl⟩,eI rfl rfl,eI rfl rfl,trivial⟩ ⟨.inl ⟨235,rfl,rfl,trivial⟩,.inl ⟨236,rfl,rfl,trivial⟩,.inl ⟨237,rfl,rfl,trivial⟩,.inl ⟨238,rfl,rfl,trivial⟩,.inl ⟨239,rfl,rfl,trivial⟩,.inl ⟨240,rfl,rfl,trivial⟩,trivial⟩ ⟨⟨235,.im _,rfl,rfl,.im (Sub.rfl' rfl)⟩,⟨235,.im _,rfl,rfl,.im (Sub.rfl' rfl)⟩,⟨235,.im (.val (.slice none 0 0)),rfl,rfl,.im (Sub.rfl' rfl)⟩,⟨235,.im (.val (.slice none 0 0)),rfl,rfl,.im (Sub.rfl' rfl)⟩,⟨236,.im _,rfl,rfl,.im (Sub.rfl' rfl)⟩,⟨236,.im _,rfl,rfl,.im (Sub.rfl' rfl)⟩,⟨236,.osl 237 _,rfl,rfl,.osl rfl rfl rfl⟩,⟨236,.osl 238 _,rfl,rfl,.osl rfl rfl rfl⟩,⟨239,.osl 240 _,rfl,rfl,.osl rfl rfl rfl⟩,trivial⟩) (by rintro ⟨b9,d7,d8⟩;exact ((Holds.kdg 237 rfl).and ((Holds.kdg 238 rfl).and (hT)))) ?_;clear h;rintro k ⟨b9,d7,d8⟩ o hp h ho2623;replace h:zal.s64 a7 e7 b9 d7 d8=some o:=h;unfold zal.s64 at h;obtain ⟨o8,o9,_⟩:=hp;refine zlC ?_ ?_<;>intro g6;obtain ⟨h,i0⟩:=ctd g6 h;obtain ⟨p1,he2626,h⟩:=zac h;obtain ⟨j8,he2625,h⟩:=zac h;refine ⟨_,⟨(by omega),rfl,zad he2626,za0 he2625⟩,?_⟩;refine ⟨_,_,_,⟨rfl,zad he2626,zad he2625,rfl⟩,?_⟩;refine zlC ?_ ?_<;>intro g7;obtain ⟨h,i3⟩:=ctd g7 h;refine zlB rfl ?_;refine zlB rfl ?_;obtain ⟨j9,he2628,h⟩:=zac h;refine zlB ⟨(by omega),rfl,za0 he2628⟩ ?_;refine zlB ⟨rfl,za0 he2628⟩ ?_;refine zlB rfl ?_;refine zlB ⟨rfl,trivial⟩ ?_;obtain ⟨g8,hc2629,h⟩:=zlA h;refine ⟨_,(zdq (⟨d7⟩:zbb) j8 g8 (fun _ _=>hc2629)),?_⟩;obtain ⟨p3,he2630,h⟩:=zac h;refine ⟨_,⟨(by omega),rfl,zad he2628,za0 he2630⟩,?_⟩;refine ⟨_,_,⟨rfl,zad he2628,zad he2630⟩,?_⟩;refine zlF (List.map (cL cI) (List.set b9 a7 (List.set j9 d8 g8.1))) (zhv rfl) ?_;obtain ⟨k0,h⟩:=zah h;refine za5.mk k0 ?_;cases h;exact zlK _ ho2623 (Ent.mk [(235,some 235),(236,some 236),(237,some 237),(238,some 238),(239,some 239),(240,some 240)] rfl ⟨eI rfl rfl,⟨.own 235 _ 0,rfl,.own rfl rfl rfl⟩,⟨.own 236 _ 0,rfl,.own rfl rfl rfl⟩,⟨.own 239 _ 0,rfl,.own rfl rfl rfl⟩,eI rfl rfl,eI rfl rfl,eI rfl rfl,⟨.sub 237 _ _,rfl,.sub rfl rfl⟩,eI rfl rfl,eI rfl rfl,trivial⟩ ⟨.inl ⟨235,rfl,rfl,trivial⟩,.inl ⟨236,rfl,rfl,trivial⟩,.inl ⟨237,rfl,rfl,trivial⟩,.inl ⟨238,rfl,rfl,trivial⟩,.inl ⟨239,rfl,rfl,trivial⟩,.inl ⟨240,rfl,rfl,trivial⟩,trivial⟩ ⟨⟨235,.im _,rfl,rfl,.im (Sub.rfl' rfl)⟩,⟨235,.im _,rfl,rfl,.im (Sub.rfl' rfl)⟩,⟨235,.im (.val (.slice none 0 0)),rfl,rfl,.im (Sub.rfl' rfl)⟩,⟨235,.im (.val (.slice none 0 0)),rfl,rfl,.im (Sub.rfl' rfl)⟩,⟨236,.im _,rfl,rfl,.im (Sub.rfl' rfl)⟩,⟨236,.im _,rfl,rfl,.im (Sub.rfl' rfl)⟩,⟨236,.osl 237 _,rfl,rfl,.osl rfl rfl rfl⟩,⟨236,.osl 238 _,rfl,rfl,.osl rfl rfl rfl⟩,⟨239,.osl 240 _,rfl,rfl,.osl rfl rfl rfl⟩,trivial⟩);obtain ⟨h,i3⟩:=cfd g7 h;obtain ⟨k1,h⟩:=zah h;refine za5.mk k1 ?_;cases h;exact zlK _ ho2623 (Ent.mk [(235,some 235),(236,some 236),(237,some 237),(238,some 238),(239,some 239),(240,some 240)] rfl ⟨eI rfl rfl,⟨.own 235 _ 0,rfl,.own rfl rfl rfl⟩,⟨.own 236 _ 0,rfl,.own rfl rfl rfl⟩,⟨.own 239 _ 0,rfl,.own rfl rfl rfl⟩,eI rfl rfl,eI rfl rfl,eI rfl rfl,⟨.sub 237 _ _,rfl,.sub rfl rfl⟩,eI rfl rfl,eI rfl rfl,trivial⟩ ⟨.inl ⟨235,rfl,rfl,trivial⟩,.inl ⟨236,rfl,rfl,trivial⟩,.inl ⟨237,rfl,rfl,trivial⟩,.inl ⟨238,rfl,rfl,trivial⟩,.inl ⟨239,rfl,rfl,trivial⟩,.inl ⟨240,rfl,rfl,trivial⟩,trivial⟩ ⟨⟨235,.im _,rfl,rfl,.im (Sub.rfl' rfl)⟩,⟨235,.im _,rfl,rfl,.im (Sub.rfl' rfl)⟩,⟨235,.im (.val (.slice none 0 0)),rfl,rfl,.im (Sub.rfl' rfl)⟩,⟨235,.im (.val (.slice none 0 0)),rfl,rfl,.im (Sub.rfl' rfl)⟩,⟨236,.im _,rfl,rfl,.im (Sub.rfl' rfl)⟩,⟨236,.im _,rfl,rfl,.im (Sub.rfl' rfl)⟩,⟨236,.osl 237 _,rfl,rfl,.osl rfl rfl rfl⟩,⟨236,.osl 238 _,rfl,rfl,.osl rfl rfl rfl⟩,⟨239,.osl 240 _,rfl,rfl,.osl rfl rfl rfl⟩,trivial⟩);obtain ⟨h,i0⟩:=cfd g6 h;cases h;have ho2623:_=_:=ho2623;cases ho2623;exact zlG (eA [(235,some 235),(236,some 236),(237,some 237),(238,some 238),(239,some 239),(240,some 240)]);replace h:zal.k65 a7 f3 g5=some _:=hk2570;unfold zal.k65 at h;obtain ⟨p4,p5,_⟩:=hp;refine za5.mk (by show inR _;unfold inR;omega) ?_;cases h;exact zlK _ ho2567 (eA [(235,some 235),(236,some 236),(237,some 237),(238,some 238),(239,some 239),(240,some 240)]);obtain ⟨h,h9⟩:=cfd g4 h;cases h;have ho2567:_=_:=ho2567;cases ho2567;exact zlG (eA [(235,some 235),(236,some 236),(237,some 237),(238,some 238),(239,some 239),(240,some 240)]);replace h:zal.k69 p_ a6 e6 e9=some _:=hk2210;unfold zal.k69 at h;obtain ⟨p6,p7,_⟩:=hp;refine zlB rfl ?_;refine zlB ⟨rfl,trivial⟩ ?_;obtain ⟨g9,hc2641,h⟩:=zlA h;refine ⟨_,(zdq (⟨e9⟩:zbb) p_.Start g9 (fun _ _=>hc2641)),?_⟩;refine zlB rfl ?_;refine zlB rfl ?_;refine zlB rfl ?_;refine zlB ⟨rfl,rfl,trivial⟩ ?_;obtain ⟨a2,hc2642,h⟩:=zlA h;refine ⟨_,(zh1 (⟨p_.Inputs,g9.1,e6,a6⟩:zag) a2 (fun _=>hc2642)),?_⟩;refine zlB rfl ?_;refine zlF a2.2.length zae ?_;obtain ⟨k2,h⟩:=zah h;refine zlB k2 ?_;refine zlF (List.map cI (List.replicate a2.2.length (0:Int))) (zfx (c:=cI) (z:=0) (n:=a2.2.length) rfl rfl) ?_;refine zlB rfl ?_;refine zlF (List.length (List.replicate a2.2.length (0:Int))) zae ?_;obtain ⟨h0,hc,hk2644⟩:=zlA h;clear h;have h:=hc;clear hc;refine Cut.mk (mkSt [(6,.own 235 1 0),(20,.own 236 1 0),(22,.osl 237 1)] [(235,.box 24 4),(236,.box 24 4),(237,.row 3 1 (List.map cI h0))] [(235,0,.im (nI 0)),(235,1,.im (nI 0)),(235,2,.im (.val (.slice none 0 0))),(235,3,.im (.val (.slice none 0 0))),(236,0,.im (nI a2.1.Inputs)),(236,1,.im (nI a2.1.Start)),(236,2,.im (nL (cL cI) a2.1.Next)),(236,3,.im (nL (cL cI) a2.1.Out))]) (lZ a2.1.Next∧lZ a2.1.Out∧lZ h0∧True) ((Holds.cel 236 2 rfl (by decide) rfl).and ((Holds.cel 236 3 rfl (by decide) rfl).and ((Holds.kdl 237 rfl).and (hT)))) ?_ (fun hp=>?_);refine zbp.iter (fun (s:(List (Int×Int))×List Int×Nat)=>zal.s68 a2 s.1 s.2.1 s.2.2) (fun (d9,c0,c6)=>mkSt [(6,.own 235 1 0),(11,.own 236 1 0),(20,.own 238 1 0),(21,.im (nL cI a2.2)),(22,.osl 239 1),(219,.im (nI (↑(List.length (List.replicate a2.2.length (0:Int))):Int))),(220,.im (nI (↑c6:Int)))] [(235,.box 24 4),(236,.box 151 1),(237,.map (mapV wI wI d9)),(238,.box 24 4),(239,.row 3 1 (List.map cI c0))] [(235,0,.im (nI 0)),(235,1,.im (nI 0)),(235,2,.im (.val (.slice none 0 0))),(235,3,.im (.val (.slice none 0 0))),(236,0,.osl 237 1),(238,0,.im (nI a2.1.Inputs)),(238,1,.im (nI a2.1.Start)),(238,2,.im (nL (cL cI) a2.1.Next)),(238,3,.im (nL (cL cI) a2.1.Out))]) (fun (d9,c0,c6)=>lZ a2.2∧lZ a2.1.Next∧lZ a2.1.Out∧lZ c0∧True) h (eA [(235,some 235),(236,some 239),(237,some 240),(238,some 20),(239,some 217)]) (by rintro ⟨d9,c0,c6⟩;exact ((zlH 21 rfl).and ((Holds.cel 238 2 rfl (by decide) rfl).and ((Holds.cel 238 3 rfl (by decide) rfl).and ((Holds.kdl 239 rfl).and (hT)))))) ?_;clear h;rintro k ⟨d9,c0,c6⟩ o hp h ho2680;replace h:zal.s68 a2 d9 c0 c6=some o:=h;unfold zal.s68 at h;obtain ⟨p8,p9,q0,q1,_⟩:=hp;refine zlC ?_ ?_<;>intro h2;obtain ⟨h,i4⟩:=ctd h2 h;refine zlB rfl ?_;refine zlB ⟨rfl,trivial⟩ ?_;obtain ⟨k4,hc2682,h⟩:=zlA h;refine ⟨_,(zdq (⟨d9⟩:zbb) (↑c6:Int) k4 (fun _ _=>hc2682)),?_⟩;obtain ⟨k5,he2683z,he2683,h⟩:=zan h;refine ⟨_,⟨he2683z,zad he2683,rfl⟩,?_⟩;obtain ⟨q2,he2684,h⟩:=zac h;refine zlB ⟨(by omega),rfl,za0 he2684⟩ ?_;refine zlB ⟨rfl,trivial⟩ ?_;refine ⟨_,zad he2684,?_⟩;refine zlF (List.map cI (List.set c0 c6 k5)) (zdl rfl) ?_;obtain ⟨k6,h⟩:=zah h;refine za5.mk k6 ?_;cases h;exact zlK _ ho2680 (eA [(235,some 235),(236,some 236),(237,some 237),(238,some 238),(239,some 239)]);obtain ⟨h,i4⟩:=cfd h2 h;cases h;have ho2680:_=_:=ho2680;cases ho2680;exact zlG (eA [(235,some 235),(236,some 238),(237,some 239)]);replace h:=hk2644;obtain ⟨q3,q4,q5,_⟩:=hp;refine zlB rfl ?_;refine zlB rfl ?_;cases h;refine zlB ⟨rfl,trivial⟩ ?_;exact zlB ⟨rfl,trivial⟩ ⟨rfl,rfl⟩
theorem zm6 (p_:zag) (s_:Int) (t_:Int) (r:zag×Bool×Int) (h:Ok (.agg (zap p_))→Ok (nI s_)→Ok (nI t_)→zln p_ s_ t_=some r):Sp Tryz.prog 14 [.im (.agg (zap p_)),.im (nI s_),.im (nI t_)] (.tup [.agg (zap r.1),nB r.2.1,nI r.2.2]):=by
 refine zbq rfl [700003] rfl rfl rfl (zkE rfl) rfl fun hk=>?_;replace h:=h hk.1 hk.2.1 hk.2.2.1;have z1:lZ p_.Next:=zaj (zlI hk.1 2 rfl);have z2:lZ p_.Out:=zaj (zlI hk.1 3 rfl);unfold zln at h;obtain ⟨b3,hc51,h⟩:=zlA h;refine ⟨_,(zik p_ b3 (fun _=>hc51)),?_⟩;refine zlC ?_ ?_<;>intro a8;obtain ⟨h,a6⟩:=ctd a8 h;refine zlB rfl ?_;cases h;refine zlB ⟨rfl,trivial⟩ ?_;exact ⟨rfl,rfl⟩;obtain ⟨h,a6⟩:=cfd a8 h;obtain ⟨b4,hc,hk54⟩:=zlA h;clear h;have h:=hc;clear hc;refine Cut.mk (mkSt [(1,.im (nI s_)),(2,.im (nI t_)),(3,.im (.ref (zap p_))),(6,.own 64 1 0),(31,.im (nB b4))] [(64,.box 24 4)] [(64,0,.im (nI 0)),(64,1,.im (nI 0)),(64,2,.im (.val (.slice none 0 0))),(64,3,.im (.val (.slice none 0 0)))]) (True) (hT) ?_ (fun hp=>?_);refine zlC ?_ ?_<;>intro a2;replace a2:=zde a2;obtain ⟨h,a7⟩:=cfd a2 h
 iterate 5 (refine zlD (zbk a2) ?_)
 refine zlF p_.Next.length zae ?_;refine zlD (zbk a2) ?_;refine zlE a2 ?_;cases h;exact zlG (eA [(64,some 6)]);replace a2:=zdg a2;obtain ⟨h,a7⟩:=ctd a2 h
 iterate 6 (refine zlE (zdf a2) ?_)
 refine zlD a2 ?_;cases h;exact zlG (eA [(64,some 6)]);replace h:=hk54;refine zlC ?_ ?_<;>intro b2;replace h:=zbe b2 h;refine zlB rfl ?_;cases h;refine zlB ⟨rfl,trivial⟩ ?_;exact ⟨rfl,rfl⟩;replace h:=zbd b2 h;obtain ⟨b5,hc59,h⟩:=zlA h;refine ⟨_,(zki p_ s_ t_ b5 (fun _ _ _=>hc59)),?_⟩;refine zlB rfl ?_;refine zlB rfl ?_;refine zlB rfl ?_;cases h;refine zlB ⟨rfl,trivial⟩ ?_;exact ⟨rfl,rfl⟩
end
end Go.Proofs.YtciljgdafccmhaaGreatDoor.Sym

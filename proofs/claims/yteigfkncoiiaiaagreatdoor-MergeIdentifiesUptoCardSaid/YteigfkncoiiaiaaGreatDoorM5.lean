/-
  Parts of the proof, behind each other.
-/
import Derived.Test.YteigfkncoiiaiaaGreatDoorM4
set_option linter.all false
set_option maxRecDepth 100000
namespace Go.Proofs.YteigfkncoiiaiaaGreatDoor.Sym
section
section
variable {m:zaa} {c:yab}
def clN (c:yab) (s:Nat):Nat:=((c[s]?).getD 0).toNat
open Classical in
noncomputable def rpN (m:zaa) (c:yab) (x:Nat):Nat:=if h:∃ s,s<m.Next.length∧clN c s=x then Classical.choose h else 0
noncomputable def qE (m:zaa) (c:yab) (x a:Nat):Nat:=clN c (nx m (rpN m c x) a)
noncomputable def qO (m:zaa) (c:yab) (x a:Nat):Int:=ot m (rpN m c x) a
theorem zs7 (C:zjq m m.Next.length c) {s:Nat} (hs:s<m.Next.length):c[s]?=some (↑(clN c s):Int)∧clN c s<m.Next.length:=by
 obtain ⟨x,x1,x2⟩:=C.rng s hs;unfold clN;rw [x1,yae,yah];exact ⟨rfl,x2⟩
theorem clN_iff (C:zjq m m.Next.length c) {s t:Nat} (hs:s<m.Next.length) (ht:t<m.Next.length):clN c s=clN c t↔E m m.Next.length s t:=by
 rw [<- C.cls s t hs ht,(zs7 C hs).1,(zs7 C ht).1];exact ⟨fun h=>by rw [h],fun h=>by injection h with h;omega⟩
theorem rpN_spec {s:Nat} (hs:s<m.Next.length):rpN m c (clN c s)<m.Next.length∧clN c (rpN m c (clN c s))=clN c s:=by
 have h:∃ s',s'<m.Next.length∧clN c s'=clN c s:=⟨s,hs,rfl⟩;unfold rpN;rw [dif_pos h];exact ydw h
theorem qE_eq (H:zcv m) (C:zjq m m.Next.length c) {s a:Nat} (hs:s<m.Next.length) (ha:a<m.Inputs.toNat):qE m c (clN c s) a=clN c (nx m s a)∧qO m c (clN c s) a=ot m s a:=by
 obtain ⟨h1,h2⟩:=rpN_spec (c:=c) hs;have h3:=E_all H h1 hs ((clN_iff C h1 hs).1 h2) (m.Next.length+1);exact ⟨(clN_iff C (H.at h1 ha).1 (H.at hs ha).1).2 (h3.2 a ha).2,(h3.2 a ha).1⟩
noncomputable def qB (m:zaa) (c:yab) (r:Nat):List (Nat×yab):=bfsB (qE m c) m.Inputs.toNat (clN c m.Start.toNat) r
theorem qB_rng (H:zcv m) (C:zjq m m.Next.length c):∀ (r:Nat),∀ x∈qB m c r,∃ s,s<m.Next.length∧clN c s=x.1
 | 0,x,hx=>by
  have:x=(clN c m.Start.toNat,[]):=by simpa [qB,bfsB] using hx
  subst this;exact ⟨m.Start.toNat,by have:=H.st;omega,rfl⟩
 | r+1,x,hx=>by
  have ih:=qB_rng H C r;unfold qB at hx;rw [bfsB] at hx;split at hx
  ·exact ih x hx
  ·rename_i y hy;split at hx
   ·exact ih x hx
   ·rcases yak.1 hx with h | h
    ·exact ih x h
    ·have hK:0<m.Inputs.toNat:=by have:=H.i1;omega
     obtain ⟨s,s1,s2⟩:=ih y (zkH hy);have ha:=yc3 r hK;have a0:x=(qE m c y.1 (r%m.Inputs.toNat),y.2++[(↑(r%m.Inputs.toNat):Int)]):=by simpa using h
     subst a0;exact ⟨nx m s (r%m.Inputs.toNat),(H.at s1 ha).1,by rw [<- s2,(qE_eq H C s1 ha).1]⟩
theorem qB_len (H:zcv m) (C:zjq m m.Next.length c) (r:Nat):(qB m c r).length<=m.Next.length:=by
 have:=zic (zi8 (e:=qE m c) (K:=m.Inputs.toNat) (s0:=clN c m.Start.toNat) r) (l':=List.range m.Next.length) fun x hx=>by
  obtain ⟨y,hy,rfl⟩:=yao.1 hx;obtain ⟨s,s1,s2⟩:=qB_rng H C r y hy;rw [<- s2];exact ya8.2 (zs7 C s1).2
 rwa [zkK,ybz] at this
theorem qB_step {i a:Nat} {x:Nat×yab} (ha:a<m.Inputs.toNat) (hx:(qB m c (i*m.Inputs.toNat+a))[i]?=some x) :
  qB m c (i*m.Inputs.toNat+(a+1))=if qE m c x.1 a∈(qB m c (i*m.Inputs.toNat+a)).map Prod.fst then qB m c (i*m.Inputs.toNat+a) else qB m c (i*m.Inputs.toNat+a)++[(qE m c x.1 a,x.2++[(↑a:Int)])]:=bfs_step ha hx
theorem qB_next {i:Nat}:qB m c (i*m.Inputs.toNat+m.Inputs.toNat)=qB m c ((i+1)*m.Inputs.toNat):=by rw [yc9]
theorem qB_get {i r:Nat} {x:Nat×yab} (hx:(qB m c (i*m.Inputs.toNat))[i]?=some x) (hr:i*m.Inputs.toNat<=r):(qB m c r)[i]?=some x:=zeo (zgw hr) hx
structure Nums (m:zaa) (c:yab) (ord:List Nat) (num:yab) (B:List (Nat×yab)):Prop where
 ol:ord.length=B.length
 oc:∀ (j u:Nat) (x:Nat×yab),ord[j]?=some u->B[j]?=some x->u<m.Next.length∧clN c u=x.1
 nl:num.length=m.Next.length
 n1:∀ (j:Nat) (x:Nat×yab),B[j]?=some x->num[x.1]?=some (↑j:Int)
 n2:∀ x:Nat,x<m.Next.length->x∉B.map Prod.fst->num[x]?=some (-1:Int)
theorem Nums.push {ord:List Nat} {num:yab} {B:List (Nat×yab)} {u:Nat} {w:yab} (N:Nums m c ord num B) (C:zjq m m.Next.length c) (hu:u<m.Next.length) (hn:clN c u∉B.map Prod.fst) (hB:(B.map Prod.fst).Nodup):Nums m c (ord++[u]) (num.set (clN c u) (↑B.length:Int)) (B++[(clN c u,w)]):=by
 have a0:=(zs7 C hu).2;refine ⟨by simp [N.ol],fun j v x hj hx=>?_,by simp [N.nl],fun j x hx=>?_,fun x hx hm=>?_⟩
 ·rcases yat j B.length with h | h
  ·rw [yan (by rw [N.ol];exact h)] at hj;rw [yan h] at hx;exact N.oc j v x hj hx
  ·have hl:=(zkI.1 hx).1;rw [zkJ,ya6] at hl;have:j=B.length:=by omega
   subst this;rw [yax (by rw [N.ol];exact yap _),N.ol,ybx] at hj;rw [yax (yap _),ybx] at hx;injection hj with hj
   injection hx with hx
   subst hj;subst hx;exact ⟨hu,rfl⟩
 ·rcases yat j B.length with h | h
  ·rw [yan h] at hx;rw [ybb (fun q=>hn (by rw [q];exact yao.2 ⟨x,zkH hx,rfl⟩)),N.n1 j x hx]
  ·have hl:=(zkI.1 hx).1;rw [zkJ,ya6] at hl;have:j=B.length:=by omega
   subst this;rw [yax (yap _),ybx] at hx;injection hx with hx
   subst hx;rw [ya7 (by rw [N.nl];exact a0)]
 ·rw [ya9,yak,not_or] at hm;have h1:clN c u≠x:=fun q=>hm.2 (by simp [q]);rw [ybb h1];exact N.n2 x hx hm.1
theorem rmin_row (H:zcv m) (C:zjq m m.Next.length c) {e:Int} {i:Nat} {x:Nat×yab} {ord:List Nat} {num:yab} (hx:(qB m c (i*m.Inputs.toNat))[i]?=some x) (N:Nums m c ord num (qB m c (i*m.Inputs.toNat))) :
  ∃ (ord':List Nat) (num' row out:yab),iter (fun (s:yab×yab×yab×yab×Nat)=>zcc.s56 m (c,e) i s.1 s.2.1 s.2.2.1 s.2.2.2.1 s.2.2.2.2) fuel (natI ord,num,[],[],0)=some (natI ord',num',row,out)∧Nums m c ord' num' (qB m c ((i+1)*m.Inputs.toNat))∧row.length=m.Inputs.toNat∧out.length=m.Inputs.toNat ∧
   ∀ a,a<m.Inputs.toNat->∃ (j:Nat) (z:Nat×yab),(qB m c ((i+1)*m.Inputs.toNat))[j]?=some z∧z.1=qE m c x.1 a∧row[a]?=some (↑j:Int)∧out[a]?=some (qO m c x.1 a):=by
 have hI:=H.i2;have hn:=H.n2
 obtain ⟨r,hr,ord',num',row,out,rfl,g1,g2,g3,g4⟩:=zaw (step:=fun (s:yab×yab×yab×yab×Nat)=>zcc.s56 m (c,e) i s.1 s.2.1 s.2.2.1 s.2.2.2.1 s.2.2.2.2) (fun s=>∃ ord':List Nat,s.1=natI ord'∧s.2.2.2.2<=m.Inputs.toNat∧Nums m c ord' s.2.1 (qB m c (i*m.Inputs.toNat+s.2.2.2.2))∧s.2.2.1.length=s.2.2.2.2∧s.2.2.2.1.length=s.2.2.2.2 ∧
   ∀ a,a<s.2.2.2.2->∃ (j:Nat) (z:Nat×yab),(qB m c (i*m.Inputs.toNat+s.2.2.2.2))[j]?=some z∧z.1=qE m c x.1 a∧s.2.2.1[a]?=some (↑j:Int)∧s.2.2.2.1[a]?=some (qO m c x.1 a)) (fun s=>m.Inputs.toNat-s.2.2.2.2) (fun r=>∃ (ord':List Nat) (num' row out:yab),r=(natI ord',num',row,out)∧Nums m c ord' num' (qB m c ((i+1)*m.Inputs.toNat))∧row.length=m.Inputs.toNat∧out.length=m.Inputs.toNat ∧
   ∀ a,a<m.Inputs.toNat->∃ (j:Nat) (z:Nat×yab),(qB m c ((i+1)*m.Inputs.toNat))[j]?=some z∧z.1=qE m c x.1 a∧row[a]?=some (↑j:Int)∧out[a]?=some (qO m c x.1 a)) (fun s ⟨ord',q1,q2,q3,q4,q5,q6⟩=>by
  obtain ⟨o,num',row,out,a⟩:=s
  simp only at q1 q2 q3 q4 q5 q6
  subst q1
  simp only [zcc.s56]
  by_cases g:a<m.Inputs.toNat
  ·left
   have a9:=qB_get hx (r:=i*m.Inputs.toNat+a) (by omega)
   have b8:=qB_len H C (i*m.Inputs.toNat+a)
   have b2:=(zkI.1 a9).1
   have hv:=get_at (l:=ord') (i:=i) (by rw [q3.ol];exact b2)
   generalize ord'[i]'(by rw [q3.ol];exact b2)=v at hv
   obtain ⟨b4,b6⟩:=q3.oc i v x hv a9
   obtain ⟨t1,_,_,xr,yr,e1,e2,e3,e4⟩:=H.at b4 g
   have a7:=qE_eq H C b4 g
   rw [b6] at a7
   have a6:=zs7 C t1
   have a2:=qB_step g a9
   rw [a7.1] at a2
   have b7:=q3.ol
   rw [zkB (by omega),zkD,zal (zq2 hv),zbb rfl e1,zal e3]
   have b3:∀ {a0:List Nat} {a3:yab} {B2:List (Nat×yab)} {j:Nat} {z:Nat×yab},qB m c (i*m.Inputs.toNat+(a+1))=B2->Nums m c a0 a3 B2->B2[j]?=some z->z.1=clN c (nx m v a)->a0[i]?=some v->(∀ (j:Nat) (z:Nat×yab),(qB m c (i*m.Inputs.toNat+a))[j]?=some z->B2[j]?=some z) ->
     zcc.k55 m (c,e) i row out a (↑(nx m v a):Int) (natI a0) a3=some (.inl (natI a0,a3,row++[(↑j:Int)],out++[ot m v a],a+1)) ∧
     (∃ ord'':List Nat,natI a0=natI ord''∧a+1<=m.Inputs.toNat∧Nums m c ord'' a3 (qB m c (i*m.Inputs.toNat+(a+1)))∧(row++[(↑j:Int)]).length=a+1∧(out++[ot m v a]).length=a+1∧∀ b,b<a+1->∃ (j':Nat) (z:Nat×yab),(qB m c (i*m.Inputs.toNat+(a+1)))[j']?=some z∧z.1=qE m c x.1 b∧(row++[(↑j:Int)])[b]?=some (↑j':Int)∧(out++[ot m v a])[b]?=some (qO m c x.1 b)):=by
    intro a0 a3 B2 j z hB N2 hz a5 b5 a8
    refine ⟨?_,a0,rfl,g,by rw [hB];exact N2,by simp [q4],by simp [q5],fun b hb=>?_⟩
    ·simp only [zcc.k55]
     have:=N2.n1 j z hz
     rw [a5] at this
     rw [zbb rfl a6.1,zbb rfl this,zas (by unfold zaz;omega),zal (zq2 b5),zbb rfl e2,zal e4,zas (by unfold zaz;omega),zas (by unfold inR;omega)]
    ·rw [hB]
     rcases yat b a with h | h
     ·obtain ⟨j',z',w1,w2,w3,w4⟩:=q6 b h
      exact ⟨j',z',a8 _ _ w1,w2,by rw [yan (by omega),w3],by rw [yan (by omega),w4]⟩
     ·have:b=a:=by omega
      subst this
      exact ⟨j,z,hz,by rw [a5,a7.1],by rw [yax (by omega),q4,ybx];rfl,by rw [yax (by omega),q5,ybx,a7.2];rfl⟩
   by_cases hm:clN c (nx m v a)∈(qB m c (i*m.Inputs.toNat+a)).map Prod.fst
   ·rw [if_pos hm] at a2
    obtain ⟨z,hz,a5⟩:=yao.1 hm
    obtain ⟨j,hj⟩:=List.mem_iff_getElem?.1 hz
    have a4:=q3.n1 j z hj
    rw [a5] at a4
    obtain ⟨f1,f2⟩:=b3 a2 q3 hj a5 hv (fun _ _ h=>h)
    refine ⟨(natI ord',num',row++[(↑j:Int)],out++[ot m v a],a+1),?_,f2,by simp only;omega⟩
    rw [zbb rfl a6.1,zbb rfl a4,zkA (by omega),zkC,zam]
    exact f1
   ·rw [if_neg hm] at a2
    have a4:=q3.n2 _ a6.2 hm
    have N2:=q3.push (w:=x.2++[(↑a:Int)]) C t1 hm (zi8 _)
    obtain ⟨f1,f2⟩:=b3 (j:=(qB m c (i*m.Inputs.toNat+a)).length) (z:=(clN c (nx m v a),x.2++[(↑a:Int)])) a2 N2 (by simp) rfl (by rw [yan (by omega),hv]) (fun j z h=>by rw [yan (zkI.1 h).1,h])
    refine ⟨(natI (ord'++[nx m v a]),num'.set (clN c (nx m v a)) (↑(qB m c (i*m.Inputs.toNat+a)).length:Int),row++[(↑(qB m c (i*m.Inputs.toNat+a)).length:Int)],out++[ot m v a],a+1),?_,f2,by simp only;omega⟩
    rw [zbb rfl a6.1,zbb rfl a4,zkB (by omega),zkD,zbb rfl a6.1,zbb rfl a4,zas (by unfold zaz;rw [ze6];omega),natI_push,ze6,zam,b7]
    exact f1
  ·right
   have:a=m.Inputs.toNat:=by omega
   subst this
   rw [qB_next] at q3 q6
   exact ⟨_,by rw [zkA (by omega),zkC],ord',num',row,out,rfl,q3,q4,q5,q6⟩) fuel (natI ord,num,[],[],0) ⟨ord,rfl,yag _,N,rfl,rfl,fun a h=>absurd h (ybe _)⟩ (by have:=zav;simp only;omega)
 exact ⟨ord',num',row,out,hr,g1,g2,g3,g4⟩
theorem R08_Min_sem (hv:ze5 m=0):∃ M,zcc m=some (M,0)∧zke m M:=by
 have b7:zcs m=some 0:=by rw [zig,hv]
 have H:=zfv hv;have hn:=H.n2;have d0:=H.st;have c6:=H.i1;have c7:=H.i2;obtain ⟨c,c1,C⟩:=zpx b7 m.Next.length;rw [Nat.min_self] at C
 have b9:zhy m=some (c,0):=by
  unfold zhy;rw [c1,zam]
 unfold zcc;rw [b9,zam,zkA (by simp),zkC,zas ⟨by omega,by omega,by unfold zaz;omega⟩]
 obtain ⟨y,hy,y1,y2⟩:=zaw (step:=fun (s:yab×Nat)=>zcc.s2 s.1 s.2) (fun s=>s.1.length=m.Next.length∧s.2<=m.Next.length∧∀ x,x<s.2->s.1[x]?=some (-1:Int)) (fun s=>m.Next.length-s.2) (fun r=>r.length=m.Next.length∧∀ x,x<m.Next.length->r[x]?=some (-1:Int)) (fun s ⟨g1,g2,g3⟩=>by
  obtain ⟨y,i⟩:=s
  simp only at g1 g2 g3
  simp only [zcc.s2]
  by_cases g:i<y.length
  ·left
   have hx:=get_at g
   refine ⟨(y.set i (-1),i+1),by rw [zdg hx,zkD,zal hx],⟨by simp [g1],by simp only;omega,fun x a3=>?_⟩,by simp only;omega⟩
   simp only
   by_cases e:i=x
   ·subst e
    rw [ya7 g]
   ·rw [ybb e]
    exact g3 x (by simp only at a3;omega)
  ·right
   exact ⟨y,by rw [zkA (by omega),zkC],g1,fun x hx=>g3 x (by omega)⟩) fuel ((List.replicate m.Next.length 0),0) ⟨by simp,yag _,fun x h=>absurd h (ybe _)⟩ (by have:=zav;simp only;omega)
 have hs:m.Start.toNat<m.Next.length:=by omega
 obtain ⟨x1,x2⟩:=zs7 C hs;rw [hy,zam,zbb (i:=m.Start.toNat) (by omega) x1,zbb rfl (y2 _ x2)]
 have N0:Nums m c [m.Start.toNat] (y.set (clN c m.Start.toNat) 0) (qB m c 0):=by
  have a9:qB m c 0=[(clN c m.Start.toNat,[])]:=rfl;refine ⟨rfl,fun j u x hj hx=>?_,by simp [y1],fun j x hx=>?_,fun x hx hm=>?_⟩
  ·have hl:=(zkI.1 hj).1;rw [ya6] at hl;have:j=0:=by omega
   subst this;rw [a9] at hx;injection hj with hj
   injection hx with hx
   subst hj;subst hx;exact ⟨hs,rfl⟩
  ·rw [a9] at hx;have hl:=(zkI.1 hx).1;rw [ya6] at hl;have:j=0:=by omega
   subst this;injection hx with hx
   subst hx;rw [ya7 (by omega)];rfl
  ·rw [a9] at hm;rw [ybb (fun q=>hm (by simp [q])),y2 x hx]
 obtain ⟨r,hr,L,P,R,rfl,hE,p1,p2,p3⟩:=zaw (step:=fun (s:yab×yab×yaa×yaa×Nat)=>zcc.s58 m (c,0) s.1 s.2.1 s.2.2.1 s.2.2.2.1 s.2.2.2.2) (fun s=>∃ ord:List Nat,s.1=natI ord∧Nums m c ord s.2.1 (qB m c (s.2.2.2.2*m.Inputs.toNat))∧s.2.2.2.2<=(qB m c (s.2.2.2.2*m.Inputs.toNat)).length∧s.2.2.1.length=s.2.2.2.2∧s.2.2.2.1.length=s.2.2.2.2 ∧
   ∀ (i:Nat) (x:Nat×yab),i<s.2.2.2.2->(qB m c (s.2.2.2.2*m.Inputs.toNat))[i]?=some x->∃ row out,s.2.2.1[i]?=some row∧s.2.2.2.1[i]?=some out∧row.length=m.Inputs.toNat∧out.length=m.Inputs.toNat∧∀ a,a<m.Inputs.toNat->∃ (j:Nat) (z:Nat×yab),(qB m c (s.2.2.2.2*m.Inputs.toNat))[j]?=some z∧z.1=qE m c x.1 a∧row[a]?=some (↑j:Int)∧out[a]?=some (qO m c x.1 a)) (fun s=>m.Next.length+1-s.2.2.2.2) (fun r=>∃ L P R,r=(P,R)∧zgf (qE m c) m.Inputs.toNat (clN c m.Start.toNat) L∧P.length=L.length∧R.length=L.length ∧
   ∀ (i:Nat) (x:Nat×yab),L[i]?=some x->∃ row out,P[i]?=some row∧R[i]?=some out∧row.length=m.Inputs.toNat∧out.length=m.Inputs.toNat∧∀ a,a<m.Inputs.toNat->∃ (j:Nat) (z:Nat×yab),L[j]?=some z∧z.1=qE m c x.1 a∧row[a]?=some (↑j:Int)∧out[a]?=some (qO m c x.1 a)) (fun s ⟨ord,q1,q2,q3,q4,q5,q6⟩=>by
  obtain ⟨o,num,P,R,i⟩:=s
  simp only at q1 q2 q3 q4 q5 q6
  subst q1
  have c8:=qB_len H C (i*m.Inputs.toNat)
  have d2:=q2.ol
  simp only [zcc.s58]
  by_cases g:i<(qB m c (i*m.Inputs.toNat)).length
  ·left
   have hx:=get_at g
   generalize (qB m c (i*m.Inputs.toNat))[i]=x at hx
   obtain ⟨a5,b3,row,out,f1,f2,f3,f4,f5⟩:=rmin_row H C (e:=0) hx q2
   have a2:qB m c (i*m.Inputs.toNat) <+: qB m c ((i+1)*m.Inputs.toNat):=zgw (by rw [yc9];omega)
   have b8:=a2.length_le
   refine ⟨(natI a5,b3,P++[row],R++[out],i+1),?_,⟨a5,rfl,f2,by simp only;omega,by simp [q4],by simp [q5],fun k z hk hz=>?_⟩,by simp only;omega⟩
   ·rw [ze6,zkB (by omega),zkD,f1,zam]
    simp only [zcc.k57]
    rw [zas (by unfold zaz;omega),zas (by unfold zaz;omega)]
   ·simp only at hk hz ⊢
    rcases yat k i with h | h
    ·have b2:=get_at (l:=qB m c (i*m.Inputs.toNat)) (i:=k) (by omega)
     have a4:=zeo a2 b2
     rw [hz] at a4
     injection a4 with a4
     rw [<- a4] at b2
     obtain ⟨b5,b6,w1,w2,w3,w4,w5⟩:=q6 k z h b2
     refine ⟨b5,b6,by rw [yan (by omega),w1],by rw [yan (by omega),w2],w3,w4,fun a ha=>?_⟩
     obtain ⟨j,z',v1,v2⟩:=w5 a ha
     exact ⟨j,z',zeo a2 v1,v2⟩
    ·have:k=i:=by omega
     subst this
     have a3:=zeo a2 hx
     rw [hz] at a3
     injection a3 with a3
     subst a3
     exact ⟨row,out,by rw [yax (by omega),q4,ybx];rfl,by rw [yax (by omega),q5,ybx];rfl,f3,f4,f5⟩
  ·right
   have he:(qB m c (i*m.Inputs.toNat)).length=i:=by omega
   refine ⟨(P,R),by rw [ze6,zkA (by omega),zkC],qB m c (i*m.Inputs.toNat),P,R,rfl,⟨?_⟩,by omega,by omega,fun k x hx=>q6 k x (by have:=(zkI.1 hx).1;omega) hx⟩
   rw [he]
   rfl) fuel ([m.Start],y.set (clN c m.Start.toNat) 0,[],[],0) ⟨[m.Start.toNat],by simp [natI];omega,by simp only;rw [ycv];exact N0,yag _,rfl,rfl,fun i x h=>absurd h (ybe _)⟩ (by have:=zav;simp only;omega)
 have c9:L.length<=m.Next.length:=by
  rw [hE.eq];exact qB_len H C _
 have a7:∀ x∈L,∃ s,s<m.Next.length∧clN c s=x.1:=by
  rw [hE.eq];exact qB_rng H C _
 have d1:0<L.length:=(zkI.1 hE.first).1
 have b4:Shape (qE m c) (qO m c) L (⟨m.Inputs,0,P,R⟩:zaa):=⟨p1,fun i x a hx ha=>by
  obtain ⟨row,out,w1,w2,w3,w4,w5⟩:=p3 i x hx
  obtain ⟨j,z,z1,z2,z3,z4⟩:=w5 a ha
  have e1:nx (⟨m.Inputs,0,P,R⟩:zaa) i a=j:=by
   unfold nx
   simp only
   rw [w1,yae,z3,yae,yah]
  refine ⟨z,by rw [e1];exact z1,z2,?_⟩
  unfold ot
  simp only
  rw [w2,yae,z4,yae]⟩
 have c0:zcv (⟨m.Inputs,0,P,R⟩:zaa):=by
  refine ⟨c6,c7,by simp only;omega,by simp only;omega,⟨yd4 0,by simp only;omega⟩,by simp only;omega,fun i hi=>?_⟩;simp only at hi ⊢;have hx:=get_at (l:=L) (i:=i) (by omega);obtain ⟨row,out,w1,w2,w3,w4,w5⟩:=p3 i _ hx;refine ⟨row,out,w1,w2,by omega,by omega,fun u hu=>?_,fun v hv=>?_⟩
  ·obtain ⟨a,ha,rfl⟩:=yb3.1 hu;obtain ⟨j,z,z1,_,z3,_⟩:=w5 a (by omega);rw [get_at ha] at z3;injection z3 with z3
   have:=(zkI.1 z1).1;omega
  ·obtain ⟨a,ha,rfl⟩:=yb3.1 hv;obtain ⟨j,z,_,_,_,z4⟩:=w5 a (by omega);rw [get_at ha] at z4;injection z4 with z4
   obtain ⟨s,s1,s2⟩:=a7 _ (zkH hx);have h:=H.at s1 (a:=a) (by omega);rw [<- s2,(qE_eq H C s1 (a:=a) (by omega)).2] at z4;omega
 have a0:∀ (w:yab) (i:Nat) (x:Nat×yab) (s:Nat),L[i]?=some x->s<m.Next.length->clN c s=x.1->WOk m.Inputs w->outs (⟨m.Inputs,0,P,R⟩:zaa) i w=outs m s w:=by
  intro w
  induction w with
  | nil=>intro _ _ _ _ _ _ _;rfl
  | cons z w ih =>
   intro i x s hx hs hc hw;have hz:=hw.head;have ha:z.toNat<m.Inputs.toNat:=by omega
   obtain ⟨y,g1,g2,g3⟩:=b4.row i x z.toNat hx ha;have a8:=qE_eq H C hs ha;rw [hc] at a8;have:=ih _ y (nx m s z.toNat) g1 (H.at hs ha).1 (by rw [g2,a8.1]) hw.tail;show ot (⟨m.Inputs,0,P,R⟩:zaa) i z.toNat::outs _ (nx (⟨m.Inputs,0,P,R⟩:zaa) i z.toNat) w=ot m s z.toNat::outs m (nx m s z.toNat) w;rw [this,g3,a8.2]
 refine ⟨⟨m.Inputs,0,P,R⟩,by rw [yah,hr,zam];rfl,⟨c0,rfl,rfl,fun w hw=>a0 w 0 _ _ hE.first hs rfl hw,fun i j hi hj h=>?_,shape_can (M:=(⟨m.Inputs,0,P,R⟩:zaa)) hE b4 (by simp only;omega)⟩⟩;simp only at hi hj;have hx:=get_at (l:=L) (i:=i) (by omega);have a6:=get_at (l:=L) (i:=j) (by omega);obtain ⟨s,s1,s2⟩:=a7 _ (zkH hx);obtain ⟨t,t1,t2⟩:=a7 _ (zkH a6)
 have he:E m m.Next.length s t:=zku fun w _ hw=>by
  rw [<- a0 w i _ s hx s1 s2 hw,<- a0 w j _ t a6 t1 t2 hw];exact h w hw
 have hc:=(clN_iff C s1 t1).2 he;exact zny hE.nodup (x:=clN c s) (by rw [yaf,hx,s2];rfl) (by rw [yaf,a6,hc,t2];rfl)
theorem min_same (hv:ze5 m=0):∃ M,zbl m=some (M,0)∧zcc m=some (M,0)∧zke m M:=by
 obtain ⟨M,h1,h2⟩:=zk6 hv;obtain ⟨M',h3,h4⟩:=R08_Min_sem hv;have:=zq0 h2 h4;subst this;exact ⟨M,h1,h3,h2⟩
end
end
section
theorem zqp {α:Type} [DecidableEq α] {l l':List α} (h:l.Nodup) (hs:∀ x∈l,x∈l') (hl:l'.length<=l.length):∀ x∈l',x∈l:=fun x hx=>ya5 fun hn=>by
 have:=zic (l:=x::l) (l':=l') (yb2.2 ⟨hn,h⟩) fun y hy=>by
  rcases yba.1 hy with rfl | hy
  ·exact hx
  ·exact hs y hy
 simp only [zkL] at this;omega
section
variable {m M:zaa}
theorem zcv.two (H:zcv m):Two m m:=⟨H,H,rfl⟩
open Classical in
noncomputable def sepR (m:zaa) (s t:Nat):yab×Bool:=if h:∃ res,Fst m m (s,t) res then Classical.choose h else ([],false)
noncomputable def sepW (m:zaa) (s t:Nat):yab:=(sepR m s t).1
noncomputable def sepB (m:zaa) (s t:Nat):Bool:=(sepR m s t).2
theorem sepR_of {s t:Nat} {res:yab×Bool} (h:Fst m m (s,t) res):Fst m m (s,t) (sepW m s t,sepB m s t):=by
 have h':∃ res,Fst m m (s,t) res:=⟨res,h⟩;have:sepR m s t=Classical.choose h':=dif_pos h';show Fst m m (s,t) (sepR m s t);rw [this];exact ydw h'
theorem sep_fst (H:zcv m) {s t:Nat} (hs:s<m.Next.length) (ht:t<m.Next.length):Fst m m (s,t) (sepW m s t,sepB m s t):=by
 obtain ⟨res,_,h⟩:=zkw H.two (p0:=(s,t)) hs ht;exact sepR_of h
theorem States_prog (hv:ze5 m=0) {s t:Nat} (hs:s<m.Next.length) (ht:t<m.Next.length):zg9 m (↑s:Int) (↑t:Int)=some (sepW m s t,sepB m s t,0):=by
 have H:=zfv hv;have hK:0<m.Inputs.toNat:=by have:=H.i1;omega
 obtain ⟨res,h1,h2⟩:=zkw H.two (p0:=(s,t)) hs ht;have:=fst_uniq hK h2 (sepR_of h2);unfold zg9;rw [zdr,zam,hv,zkA (by decide),zkC,zkA (by omega),zkC,zkA (by omega),zkC,zkA (by omega),zkC,zkA (by omega),zam,zkC,h1,zam,this]
theorem sepW_sm (H:zcv m) {s t:Nat} (hs:s<m.Next.length) (ht:t<m.Next.length):WOk m.Inputs (sepW m s t)∧(sepW m s t).length<=m.Next.length*m.Next.length*m.Inputs.toNat:=by
 have h:=sep_fst H hs ht;rcases h with ⟨i,c,x,g1,g2,g3,g4,g5⟩ | ⟨L,_,_,g⟩
 ·injection g5 with g5 _
  have hr:=zpm H.two (p0:=(s,t)) hs ht _ x (zkH g2);have a0:=pB_len H.two (p0:=(s,t)) hs ht (i*m.Inputs.toNat+c);have hi:=(zkI.1 g2).1;have:=zjh (show i<m.Next.length*m.Next.length by omega) g1;refine ⟨?_,?_⟩
  ·rw [g5];refine WOk.append hr.2.2.2.2.2 fun z hz=>?_;have:z=(↑c:Int):=by simpa using hz
   omega
  ·rw [g5];simp;omega
 ·injection g with g _
  rw [g];exact ⟨fun a ha=>(by cases ha),yag _⟩
structure zga (m:zaa):Prop where
 reach:∀ s,s<m.Next.length->∃ w,WOk m.Inputs w∧dest m m.Start.toNat w=s
 apart:∀ i j,i<m.Next.length->j<m.Next.length->Eqv m i m j->i=j
theorem sepB_of (H:zcv m) (P:zga m) {s t:Nat} (hs:s<m.Next.length) (ht:t<m.Next.length) (hne:s≠t):sepB m s t=true:=by
 cases e:sepB m s t with
 | true=>rfl
 | false =>
  have h:=sep_fst H hs ht;rw [e] at h;exact absurd (P.apart s t hs ht (fst_none h)) hne
theorem sepW_sep (H:zcv m) (P:zga m) {s t:Nat} (hs:s<m.Next.length) (ht:t<m.Next.length) (hne:s≠t):outs m s (sepW m s t)≠outs m t (sepW m s t):=by
 have h:=sep_fst H hs ht;rw [sepB_of H P hs ht hne] at h;exact fst_ne H.two (p0:=(s,t)) hs ht h
theorem can_reach (K:Can M) (hK:0<M.Inputs.toNat):∀ u,u<M.Next.length->∃ w,WOk M.Inputs w∧dest M 0 w=u:=by
 intro u
 induction u using Nat.strongRecOn with
 | ind u ih =>
  intro hu;by_cases hz:u=0
  ·subst hz;exact ⟨[],fun a ha=>(by cases ha),rfl⟩
  ·obtain ⟨i,a,h1,h2,h3⟩:=K.c5 u (by omega) hu;obtain ⟨w,w1,w2⟩:=ih i h1 (by omega);refine ⟨w++[(↑a:Int)],w1.append fun z hz=>?_,?_⟩
   ·have:z=(↑a:Int):=by simpa using hz
    omega
   ·rw [zes,w2];show nx M i (Int.toNat ↑a)=u;rw [yah,h3]
theorem zq7 (S:zke m M):zga M:=⟨fun s hs=>by
 have hK:0<M.Inputs.toNat:=by have:=S.ok.i1;omega
 rw [S.start]
 exact can_reach S.can hK s hs,S.min⟩
theorem sem_le (H:zcv m) (S:zke m M):M.Next.length<=m.Next.length∧(M.Next.length=m.Next.length↔zga m):=by
 have hK:0<M.Inputs.toNat:=by have:=S.ok.i1;omega
 have a7:=H.st;have a3:=can_reach S.can hK
 have hf:∀ u,∃ s,u<M.Next.length->s<m.Next.length∧Eqv M u m s∧∃ w,WOk m.Inputs w∧dest m m.Start.toNat w=s:=fun u=>by
  by_cases hu:u<M.Next.length
  ·obtain ⟨w,w1,w2⟩:=a3 u hu;have hw:WOk m.Inputs w:=by rw [<- S.inp];exact w1
   refine ⟨dest m m.Start.toNat w,fun _=>⟨H.dest hw (by omega),?_,w,hw,rfl⟩⟩;have:=S.eqv.dest S.inp w1
   rwa [w2] at this
  ·exact ⟨0,fun h=>absurd h hu⟩
 obtain ⟨f,hf⟩:=yfb hf
 have a0:((List.range M.Next.length).map f).Nodup:=by
  refine ydv.2 (List.Pairwise.imp_of_mem (fun {a b} ha hb hne he=>hne ?_) (ye9 (n:=M.Next.length)));have h1:=hf a (ya8.1 ha);have h2:=hf b (ya8.1 hb);rw [<- he] at h2;exact S.min a b (ya8.1 ha) (ya8.1 hb) (h1.2.1.trans S.inp (h2.2.1.symm S.inp))
 have a2:∀ x∈(List.range M.Next.length).map f,x∈List.range m.Next.length:=fun x hx=>by
  obtain ⟨u,hu,rfl⟩:=yao.1 hx;exact ya8.2 (hf u (ya8.1 hu)).1
 have a5:=zic a0 a2;rw [zkK,ybz,ybz] at a5;refine ⟨a5,fun he=>⟨fun s hs=>?_,fun i j hi hj a6=>?_⟩,fun P=>?_⟩
 ·have:=zqp a0 a2 (by simp [he]) s (ya8.2 hs);obtain ⟨u,hu,rfl⟩:=yao.1 this;exact (hf u (ya8.1 hu)).2.2
 ·obtain ⟨u,hu,rfl⟩:=yao.1 (zqp a0 a2 (by simp [he]) i (ya8.2 hi));obtain ⟨v,hv,rfl⟩:=yao.1 (zqp a0 a2 (by simp [he]) j (ya8.2 hj));have h1:=hf u (ya8.1 hu);have h2:=hf v (ya8.1 hv);have:=S.min u v (ya8.1 hu) (ya8.1 hv) ((h1.2.1.trans S.inp a6).trans S.inp (h2.2.1.symm S.inp));rw [this]
 ·have hg:∀ s,∃ u,s<m.Next.length->u<M.Next.length∧Eqv M u m s:=fun s=>by
   by_cases hs:s<m.Next.length
   ·obtain ⟨w,w1,w2⟩:=P.reach s hs;have hw:WOk M.Inputs w:=by rw [S.inp];exact w1
    refine ⟨dest M 0 w,fun _=>⟨S.ok.dest hw S.ok.n1,?_⟩⟩;have:=S.eqv.dest S.inp hw
    rwa [w2] at this
   ·exact ⟨0,fun h=>absurd h hs⟩
  obtain ⟨g,hg⟩:=yfb hg
  have a4:((List.range m.Next.length).map g).Nodup:=by
   refine ydv.2 (List.Pairwise.imp_of_mem (fun {a b} ha hb hne he=>hne ?_) (ye9 (n:=m.Next.length)));have h1:=hg a (ya8.1 ha);have h2:=hg b (ya8.1 hb);rw [<- he] at h2;exact P.apart a b (ya8.1 ha) (ya8.1 hb) ((h1.2.symm S.inp).trans S.inp.symm h2.2)
  have:=zic a4 (l':=List.range M.Next.length) fun x hx=>by
   obtain ⟨u,hu,rfl⟩:=yao.1 hx;exact ya8.2 (hg u (ya8.1 hu)).1
  rw [zkK,ybz,ybz] at this;omega
theorem reach_all {L:List (Nat×yab)} {s0:Nat} (hE:MEnd m s0 L):∀ (w:yab) (i:Nat) (x:Nat×yab),L[i]?=some x->WOk m.Inputs w->∃ (j:Nat) (y:Nat×yab),L[j]?=some y∧y.1=dest m x.1 w
 | [],i,x,hx,_=>⟨i,x,hx,rfl⟩
 | z::w,i,x,hx,hw=>by
  have hz:=hw.head;obtain ⟨j,y,h1,h2,_⟩:=hE.closed hx (a:=z.toNat) (by omega);obtain ⟨k,v,g1,g2⟩:=reach_all hE w j y h1 hw.tail;exact ⟨k,v,g1,by rw [g2,h2];rfl⟩
theorem minimal_prog (hv:ze5 m=0):∃ b,ze0 m=some b∧(b=true↔zga m):=by
 have H:=zfv hv;have a5:=H.st;obtain ⟨M,h1,S⟩:=zk6 hv;obtain ⟨a3,a0⟩:=sem_le H S;obtain ⟨L,hE,hR⟩:=zmp hv;obtain ⟨a4,a2⟩:=zp8 H (by omega) hE;refine ⟨decide (M.Next.length=m.Next.length),?_,by rw [decide_eq_true_iff];exact a0⟩;unfold ze0;rw [zdr,zam,hv,zkA (by decide),zkC,hR,zam,zam];by_cases hl:L.length=m.Next.length
 ·rw [zkA (by rw [ze6,zkK];omega),zkC,h1,zam,zkB rfl,zkD,zam];show some (decide ((↑M.Next.length:Int)=(↑m.Next.length:Int)))=_;congr 1;exact decide_eq_decide.2 (by omega)
 ·rw [zkB (by rw [ze6,zkK];omega),zkD,zkA];intro he;have P:=a0.1 he
  have:=zic (l:=List.range m.Next.length) (l':=L.map Prod.fst) ye9 fun s hs=>by
   obtain ⟨w,w1,w2⟩:=P.reach s (ya8.1 hs);obtain ⟨j,y,g1,g2⟩:=reach_all hE w 0 _ hE.first w1;exact yao.2 ⟨y,zkH g1,by rw [g2];exact w2⟩
  rw [ybz,zkK] at this;omega
open Classical in
noncomputable def chkM (m:zaa):Int:=if ze5 m≠0 then ze5 m else if zga m then 0 else 1
open Classical in
theorem check_prog (m:zaa):zft m=some (chkM m):=by
 unfold chkM zft;rw [zdr,zam];by_cases hv:ze5 m=0
 ·obtain ⟨b,h1,h3⟩:=minimal_prog hv;rw [zkA (by omega),zkC,h1,zam,if_neg (fun h=>h hv)];cases b with
  | true=>rw [if_pos (h3.1 rfl)];rfl
  | false=>rw [if_neg (fun q=>by have:=h3.2 q;cases this)];rfl
 ·rw [zkB hv,zkD,if_pos hv]
open Classical in
end
end
section

end
section
section
variable {m M:zaa} {ids:List (yaa)} {front middle:yaa}
structure Parts (M:zaa) (front middle:yaa) (ids:List (yaa)):Prop where
 ok:ze5 M=0
 il:ids.length=M.Next.length
 is_:∀ l∈ids,l.length<=200∧∀ x∈l,x.length<=600
 f1:front.length<=200
 f2:∀ u∈front,WOk M.Inputs u∧u.length<=200
 m1:middle.length<=200
 m2:∀ v∈middle,WOk M.Inputs v∧v.length<=200
end
end
section
section
variable {M I:zaa} {sM sI k:Nat} {U:yaa} {T:Nat->yaa}
structure Pass (M I:zaa) (sM sI k:Nat) (U:yaa) (T:Nat->yaa):Prop where
 two:Two M I
 hM:sM<M.Next.length
 hI:sI<I.Next.length
 nil:[]∈U
 ok:∀ u∈U,WOk M.Inputs u
 cov:∀ s,s<M.Next.length->∃ u∈U,dest M sM u=s
 tne:∀ s,s<M.Next.length->∃ x,x∈T s
 tok:∀ s,∀ x∈T s,WOk M.Inputs x
 sep:∀ s s',s<M.Next.length->s'<M.Next.length->s≠s'->∃ x,x∈T s∧x∈T s'∧outs M s x≠outs M s' x
 pass:∀ u∈U,∀ v,WOk M.Inputs v->v.length<=k+1->∀ x∈T (dest M sM (u++v)),outs M sM (u++v++x)=outs I sI (u++v++x)
 few:∀ l:List Nat,l.Nodup->(∀ q∈l,∃ w,WOk M.Inputs w∧dest I sI w=q)->l.length<=M.Next.length+k
variable (P:Pass M I sM sI k U T)
include P
end
end
section
section
variable {m b M:zaa}
theorem zjo (x:yab):za7 x x=x.length:=by
 induction x with
 | nil=>rfl
 | cons u x ih=>simp [za7,ih]
end
end
section
section
variable {m b M:zaa}
end
end
section

end
section
theorem zs9 {R:Type} {F:Nat->R}:∀ (a b:yab) (j:Nat) (B:Nat->Option Int),(∀ i,B (j+i)=b[i]?)->a.length=b.length->scan (fun k x=>if B k=some x then none else some (F k)) j a=if a=b then none else some (F (j+za7 a b))
 | [],[],_,_,_,_=>rfl
 | [],_::_,_,_,_,h=>by cases h
 | _::_,[],_,_,_,h=>by cases h
 | x::a,y::b,j,B,hB,h=>by
  have h0:B j=some y:=by have:=hB 0;simpa using this
  unfold scan;by_cases e:y=x
  ·subst e;rw [if_pos h0];show scan _ (j+1) a=_;rw [zs9 a b (j+1) B (fun i=>by have:=hB (i+1);rw [show j+1+i=j+(i+1) by omega];simpa using this) (by simpa using h)];by_cases e2:a=b
   ·subst e2;rw [if_pos rfl,if_pos rfl]
   ·rw [if_neg e2,if_neg (fun q=>e2 (by injection q))];rw [show j+1+za7 a b=j+za7 (y::a) (y::b) by simp [za7];omega]
  ·rw [if_neg (fun q=>e (by rw [h0] at q;injection q)),if_neg (fun q=>e (by injection q with q1;exact q1.symm))];rw [show za7 (x::a) (y::b)=0 by simp [za7,Ne.symm e]];rfl
section
variable {m b:zaa}
end
end
section
section
variable {m:zaa}
open Classical in
end
end
section
theorem slices_EqualD {a b:yab} (h:SmW a):zbu a b=some (decide (a=b)):=by
 unfold zbu;by_cases a0:a.length=b.length
 ·rw [zkA (by omega),zkC,zeg (l:=a) (fun k x=>if b[k]?=some x then none else some false) (fun k x hx=>?_) ?_ (by unfold SmW at h;omega),zam,zs9 (F:=fun _=>false) a b 0 (fun k=>b[k]?) (fun i=>by rw [yai]) a0]
  ·by_cases e:a=b
   ·rw [if_pos e,zkB e];rfl
   ·rw [if_neg e,zkA e];rfl
  ·simp only [zbu.s2];rw [zkA (by omega),zkC]
  ·have hk:=(zkI.1 hx).1;have hy:=get_at (show k<b.length by omega);simp only [zbu.s2];rw [zkB (by omega),zkD,zal hx,zal hy,hy];by_cases e:x=b[k]'(by omega)
   ·rw [zkA (fun h=>h e),zkC,if_pos (by rw [e])]
   ·rw [zkB e,zkD,if_neg (fun q=>e (by injection q with q;exact q.symm))]
 ·rw [zkB (by omega),zkD,zkA (fun e=>a0 (by rw [e]))]
section
variable {m:zaa}
def sepd (m:zaa) (s t:Nat) (acc:yaa):Bool:=acc.any fun w=>decide (outs m s w≠outs m t w)
noncomputable def chStep (m:zaa) (s:Nat) (acc:yaa) (t:Nat):yaa:=if sepd m s t acc=true then acc else acc++[sepW m s t]
noncomputable def chRow (m:zaa) (s:Nat) (acc:yaa) (t:Nat):yaa:=(List.range' (s+1) (t-(s+1))).foldl (chStep m s) acc
noncomputable def chTo (m:zaa) (s:Nat):yaa:=(List.range s).foldl (fun acc s=>chRow m s acc m.Next.length) []
noncomputable def chS (m:zaa):yaa:=sortW (chTo m m.Next.length)
theorem zi1 {s t:Nat} {acc:yaa} (h:s<t):chRow m s acc (t+1)=chStep m s (chRow m s acc t) t:=by
 unfold chRow;rw [show t+1-(s+1)=(t-(s+1))+1 by omega,List.range'_concat,yei,show s+1+1*(t-(s+1))=t by omega];rfl
theorem zjd (s:Nat):chTo m (s+1)=chRow m s (chTo m s) m.Next.length:=by
 unfold chTo;rw [ydh,yei];rfl
theorem zkj (H:zcv m) {s:Nat} (hs:s<m.Next.length) {w:yab} (hw:WOk m.Inputs w) (hl:w.length<=100000000):zcq m (↑s:Int) w=some (outs m s w):=by
 unfold zcq
 have key:=ze7 (step:=fun (q:Int×yab×Nat)=>zcq.s2 m w q.1 q.2.1 q.2.2) (r:=outs m s w) (fun q=>q.2.2<=w.length∧q.1=(↑(dest m s (w.take q.2.2)):Int)∧q.2.1=outs m s (w.take q.2.2)) (fun q=>w.length-q.2.2) (fun q ⟨g1,g2,g3⟩=>by
  obtain ⟨st,y,k⟩:=q
  simp only at g1 g2 g3
  subst g2
  subst g3
  simp only [zcq.s2]
  by_cases g4:k<w.length
  ·left
   have hx:=get_at g4
   obtain ⟨x0,x1⟩:=hw _ (ya2 g4)
   have ha:w[k].toNat<m.Inputs.toNat:=by omega
   have hd:Sym.dest m s (w.take k)<m.Next.length:=H.dest (hw.take k) hs
   obtain ⟨_,_,_,x,y,e1,e2,e3,e4⟩:=H.at hd ha
   refine ⟨((↑(Sym.dest m s (w.take (k+1))):Int),outs m s (w.take (k+1)),k+1),?_,⟨g4,rfl,rfl⟩,by simp only;omega⟩
   rw [zdg hx,zkD,zal hx,zbb rfl e2,zbb (i:=w[k].toNat) (by omega) e4,zas (by unfold zaz;rw [zg0,yaz];omega),zbb rfl e1,zbb (i:=w[k].toNat) (by omega) e3,zcy hx,zes,zfz]
   rfl
  ·right
   have e:k=w.length:=by omega
   subst e
   rw [zkA (by omega),zkC,ybp]) (n:=fuel) (s:=((↑s:Int),[],0)) ⟨yag _,rfl,rfl⟩ (by have:=zav;simp only;omega)
 rw [zas ⟨yd4 0,by omega,by unfold zaz;omega⟩,key,zam]
def ChOk (m:zaa) (acc:yaa):Prop:=∀ w∈acc,WOk m.Inputs w∧w.length<=1024
theorem separated_eq (H:zcv m) {s t:Nat} (hs:s<m.Next.length) (ht:t<m.Next.length) {acc:yaa} (hA:ChOk m acc) (hl:acc.length<=1000000):zef m acc (↑s:Int) (↑t:Int)=some (sepd m s t acc):=by
 unfold zef zb1;rw [zeg (l:=acc) (fun _ w=>if decide (outs m s w≠outs m t w)=true then some true else none) (fun i w hw=>?_) ?_ (by omega),zam]
 ·unfold sepd;cases e:scan (fun _ w=>if decide (outs m s w≠outs m t w)=true then some true else none) 0 acc with
  | some r =>
   obtain ⟨i,x,hx,hg⟩:=scan_mem e;split at hg
   ·rename_i h;injection hg with hg
    rw [ycp.2 ⟨x,zkH hx,h⟩,<- hg];rfl
   ·cases hg
  | none =>
   rw [List.any_eq_false.2 fun x hx=>by
    obtain ⟨i,hi,rfl⟩:=yb3.1 hx
    have:=zhx.1 e i _ (get_at hi)
    split at this
    ·cases this
    ·assumption]
   rfl
 ·simp only [zb1.s2];rw [zkA (by omega),zkC]
 ·have hi:=(zkI.1 hw).1;obtain ⟨h1,h2⟩:=hA w (zkH hw);simp only [zb1.s2];rw [zkB (by omega),zkD,zal hw];unfold zd1;rw [zkj H hs h1 (by omega),zam,zkj H ht h1 (by omega),zam,slices_EqualD (by unfold SmW;rw [zg0];omega),zam,zam];by_cases e:outs m s w=outs m t w
  ·rw [zkB e,yb8,zkC,if_neg (by simp [e])]
  ·rw [zkA e,ycb,zkD,if_pos (by simp [e])]
theorem chStep_ok (H:zcv m) (hb:m.Next.length*m.Next.length*m.Inputs.toNat<=1024) {s t:Nat} (hs:s<m.Next.length) (ht:t<m.Next.length) {acc:yaa} (hA:ChOk m acc):ChOk m (chStep m s acc t)∧(chStep m s acc t).length<=acc.length+1:=by
 unfold chStep;split
 ·exact ⟨hA,by omega⟩
 ·refine ⟨fun w hw=>?_,by simp⟩;rcases yak.1 hw with h | h
  ·exact hA w h
  ·have:w=sepW m s t:=by simpa using h
   subst this;obtain ⟨h1,h2⟩:=sepW_sm H hs ht;exact ⟨h1,by omega⟩
theorem chRow_ok (H:zcv m) (hb:m.Next.length*m.Next.length*m.Inputs.toNat<=1024) {s:Nat} (hs:s<m.Next.length) {acc:yaa} (hA:ChOk m acc):∀ t,t<=m.Next.length->ChOk m (chRow m s acc t)∧(chRow m s acc t).length<=acc.length+t
 | 0,_=>by
  unfold chRow;rw [Nat.zero_sub];exact ⟨hA,by simp⟩
 | t+1,ht=>by
  obtain ⟨h1,h2⟩:=chRow_ok H hb hs hA t (by omega);by_cases g:s<t
  ·rw [zi1 g];obtain ⟨h3,h4⟩:=chStep_ok H hb hs (t:=t) (by omega) h1;exact ⟨h3,by omega⟩
  ·unfold chRow;rw [show t+1-(s+1)=0 by omega];exact ⟨hA,by simp⟩
theorem chTo_ok (H:zcv m) (hb:m.Next.length*m.Next.length*m.Inputs.toNat<=1024):∀ s,s<=m.Next.length->ChOk m (chTo m s)∧(chTo m s).length<=s*m.Next.length
 | 0,_=>⟨fun w hw=>(by cases hw),by simp [chTo]⟩
 | s+1,hs=>by
  obtain ⟨h1,h2⟩:=chTo_ok H hb s (by omega);rw [zjd];obtain ⟨h3,h4⟩:=chRow_ok H hb (s:=s) (by omega) h1 m.Next.length (yap _);exact ⟨h3,by rw [yc9];omega⟩
theorem chTo_len (H:zcv m) (hb:m.Next.length*m.Next.length*m.Inputs.toNat<=1024) {s:Nat} (hs:s<=m.Next.length):(chTo m s).length<=128*128:=by
 have h1:=(chTo_ok H hb s hs).2;have hn:=H.n2;have h2:s*m.Next.length<=128*128:=ycr (by omega) hn;omega
theorem zmx (hv:ze5 m=0) (P:zga m) (hb:m.Next.length*m.Next.length*m.Inputs.toNat<=1024):zbq m=some (chS m,0):=by
 have H:=zfv hv;have hn:=H.n2
 have hc:chkM m=0:=by
  unfold chkM;rw [if_neg (fun h=>h hv),if_pos P]
 unfold zbq;rw [check_prog m,zam,hc,zkA (by decide),zkC]
 have a0:∀ s,s<m.Next.length->iter (fun (q:yaa×Nat)=>zbq.s13 m s q.1 q.2) fuel (chTo m s,s+1)=some (.inl (chRow m s (chTo m s) m.Next.length)):=fun s hs=>by
  obtain ⟨c1,_⟩:=chTo_ok H hb s (Nat.le_of_lt hs);have c2:=chTo_len H hb (Nat.le_of_lt hs);refine ze7 (fun q=>s<q.2∧q.2<=m.Next.length∧q.1=chRow m s (chTo m s) q.2) (fun q=>m.Next.length-q.2) (fun q ⟨q1,q2,q3⟩=>?_) ⟨yc4 _,hs,by unfold chRow;rw [ybx];rfl⟩ (by have:=zav;simp only;omega);obtain ⟨y,t⟩:=q;simp only at q1 q2 q3;subst q3;obtain ⟨d1,d2⟩:=chRow_ok H hb hs c1 t q2;simp only [zbq.s13];by_cases g:t<m.Next.length
  ·left;refine ⟨(chRow m s (chTo m s) (t+1),t+1),?_,⟨by simp only;omega,g,rfl⟩,by simp only;omega⟩;rw [zkB (by omega),zkD,separated_eq H hs g d1 (by omega),zam,zi1 q1];unfold chStep;cases e:sepd m s t (chRow m s (chTo m s) t) with
   | true =>
    rw [zkD,zam,if_pos rfl];rfl
   | false =>
    rw [zkC,States_prog hv hs g,zam];simp only;rw [zkA (fun h=>h rfl),zkC,zas (by unfold zaz;omega),zam,if_neg (by decide)];rfl
  ·right;have:t=m.Next.length:=by omega
   subst this;rw [zkA (by omega),zkC]
 have a2:=ze7 (step:=fun (q:yaa×Nat)=>zbq.s14 m q.1 q.2) (r:=.inl (chTo m m.Next.length)) (fun q=>q.2<=m.Next.length∧q.1=chTo m q.2) (fun q=>m.Next.length-q.2) (fun q ⟨q1,q2⟩=>by
  obtain ⟨y,s⟩:=q
  simp only at q1 q2
  subst q2
  simp only [zbq.s14]
  by_cases g:s<m.Next.length
  ·left
   refine ⟨(chTo m (s+1),s+1),?_,⟨g,rfl⟩,by simp only;omega⟩
   rw [zkB (by omega),zkD,a0 s g,zam,zjd]
   rfl
  ·right
   have:s=m.Next.length:=by omega
   subst this
   rw [zkA (by omega),zkC]) (n:=fuel) (s:=([],0)) ⟨yag _,rfl⟩ (by have:=zav;simp only;omega)
 rw [a2,zam];have c2:=chTo_len H hb (yap m.Next.length);show (zcw (chTo m m.Next.length)).bind _=_
 rw [zd6 ⟨by omega,fun w hw=>by
  have:=((chTo_ok H hb m.Next.length (yap _)).1 w hw).2
  unfold SmW
  omega⟩,zam]
 rfl
end
end
section
theorem zib (l:yaa) (hl:SmL l):zcb l=some (↑(zhj l):Int):=by
 have a0:l.length<=2000000:=hl.1;unfold zcb zhj
 rw [(iter_fold (step:=fun (s:Int×Nat)=>zcb.s2 l s.1 s.2) (l:=l) (fun n _ w=>max n (↑w.length:Int)) (fun n=>n) (fun _ _=>True) (fun a i x _ hx=>by
   simp only [zcb.s2]
   rw [zdg hx,zkD,zal hx]
   exact ⟨rfl,trivial⟩) (fun a _=>by
   simp only [zcb.s2]
   rw [zfb]
   rfl) (by omega) trivial).1,foldi_eq]
 show some (l.foldl (fun (n:Int) w=>max n (↑w.length:Int)) (↑(0:Nat):Int))=_;rw [longest_fold]
theorem zsx {w:yab} (h:w.length<=100000) (h2:∀ a∈w,inR a):zj6 w=some ⟨(keyL w).toArray⟩:=by
 unfold zj6;rw [zas h2,zas (by omega)]
theorem key_ne {w x:yab} (h:w≠x):¬ ((⟨(keyL w).toArray⟩:ByteArray)=⟨(keyL x).toArray⟩):=fun e=>h (keyL_inj (by
 injection e with e
 injection e))
structure Known (mp:List (ByteArray×Bool)) (out:yaa):Prop where
 nd:out.Nodup
 le:out.length<=10000
 get:∀ w:yab,(mget (⟨(keyL w).toArray⟩:ByteArray) mp).getD false=decide (w∈out)
theorem Known.push {mp:List (ByteArray×Bool)} {out:yaa} {x:yab} (N:Known mp out) (hx:x∉out) (hl:out.length<10000):Known (mset ⟨(keyL x).toArray⟩ true mp) (out++[x]):=by
 refine ⟨?_,by simp;omega,fun w=>?_⟩
 ·rw [ybi]
  exact ⟨N.nd,by simp,fun a ha b hb e=>hx (by
   have:b=x:=by simpa using hb
   rw [<- this,<- e]
   exact ha)⟩
 ·by_cases h:w=x
  ·subst h;rw [zg1 ba_beq,zkB (by simp)];rfl
  ·rw [zf5 ba_beq (key_ne h),N.get w];exact decide_eq_decide.2 ⟨fun q=>yam _ q,fun q=>(yak.1 q).elim id fun q=>absurd (by simpa using q) h⟩
section
variable {p q:yaa}
end
end
section
theorem zox {α:Type} [DecidableEq α]:∀ {a b:List α},a.Nodup->(∀ x∈a,x∈b)->a.length<=b.length
 | [],_,_,_=>yag _
 | x::a,b,hn,h=>by
  obtain ⟨h1,h2⟩:=yb2.1 hn;have hx:=h x ybr;have:=zox (a:=a) (b:=b.erase x) h2 fun y hy=>(yeu (fun e=>h1 (by rw [<- e];exact hy))).2 (h y (yay _ hy));rw [yea hx] at this;have hp:=yds hx;rw [zkL];omega
def zp5 (a b:yaa):yaa:=a.flatMap fun u=>b.map fun v=>u++v
theorem zne {a b:yaa} {x:yab}:x∈zp5 a b↔∃ u∈a,∃ v∈b,x=u++v:=by
 unfold zp5;simp only [yck,yao];constructor
 ·rintro ⟨u,hu,v,hv,rfl⟩;exact ⟨u,hu,v,hv,rfl⟩
 ·rintro ⟨u,hu,v,hv,rfl⟩;exact ⟨u,hu,v,hv,rfl⟩
theorem prodL_len (a b:yaa):(zp5 a b).length=a.length*b.length:=by
 unfold zp5
 induction a with
 | nil=>simp
 | cons u a ih=>rw [ybd,zkJ,zkK,ih,zkL,Nat.add_mul];omega
section
variable {p q:yaa}
theorem prod_row2 (hq:q.length<=10000) {u:yab} (hu:∀ v∈q,u.length+v.length<=1024∧∀ a∈u++v,inR a) {mp:List (ByteArray×Bool)} {out:yaa} (N:Known mp out) :
  ∃ r,iter (fun (s:(List (ByteArray×Bool))×yaa×Nat)=>za0.s54 q u s.1 s.2.1 s.2.2) fuel (mp,out,0)=some r∧((r=.inr (.inr (.inr ([],11)))∧∃ o:yaa,o.Nodup∧o.length=10000∧∀ x∈o,x∈out∨∃ v∈q,x=u++v)∨∃ mp' out',r=.inl (mp',out')∧Known mp' out'∧∀ x,x∈out'↔x∈out∨∃ v∈q,x=u++v):=by
 obtain ⟨r,hr,hp⟩:=zaw (step:=fun (s:(List (ByteArray×Bool))×yaa×Nat)=>za0.s54 q u s.1 s.2.1 s.2.2) (fun s=>s.2.2<=q.length∧Known s.1 s.2.1∧∀ x,x∈s.2.1↔x∈out∨∃ v∈q.take s.2.2,x=u++v) (fun s=>q.length-s.2.2) (fun r=>(r=.inr (.inr (.inr ([],11)))∧∃ o:yaa,o.Nodup∧o.length=10000∧∀ x∈o,x∈out∨∃ v∈q,x=u++v)∨∃ mp' out',r=.inl (mp',out')∧Known mp' out'∧∀ x,x∈out'↔x∈out∨∃ v∈q,x=u++v) (fun s ⟨q1,N,q3⟩=>by
  obtain ⟨mp,o,j⟩:=s
  simp only at q1 N q3
  simp only [za0.s54]
  by_cases g:j<q.length
  ·have hv:=get_at g
   have a2:=ya2 g
   generalize q[j]=v at hv a2
   obtain ⟨hl,hR⟩:=hu v a2
   have hj:zep [u,v]=some (u++v):=by
    rw [zhb [u,v] (by simp) (by simp;omega)]
    simp
   have a0:∀ x,(∃ w∈q.take (j+1),x=u++w)↔(∃ w∈q.take j,x=u++w)∨x=u++v:=fun x=>by
    rw [zcy hv]
    constructor
    ·rintro ⟨w,hw,he⟩
     rcases yak.1 hw with h | h
     ·exact Or.inl ⟨w,h,he⟩
     ·have:w=v:=by simpa using h
      rw [this] at he
      exact Or.inr he
    ·rintro (⟨w,hw,he⟩ | he)
     ·exact ⟨w,yam _ hw,he⟩
     ·exact ⟨v,yaj _ (by simp),he⟩
   rw [zkB (by omega),zkD,zal hv,hj,zam,zsx (by rw [zkJ];omega) hR,zam,N.get]
   by_cases hm:u++v∈o
   ·left
    refine ⟨(mp,o,j+1),?_,⟨g,N,fun x=>?_⟩,by simp only;omega⟩
    ·rw [zkB hm,zkD,zam]
     rfl
    ·simp only
     rw [a0,q3 x]
     constructor
     ·rintro (h | h)
      ·exact Or.inl h
      ·exact Or.inr (Or.inl h)
     ·rintro (h | h | h)
      ·exact Or.inl h
      ·exact Or.inr h
      ·rw [h]
       exact (q3 _).1 hm
   ·rw [zkA hm,zkC]
    by_cases hf:o.length=10000
    ·right
     exact ⟨_,by rw [zkB (by omega),zkD,zam];rfl,Or.inl ⟨rfl,o,N.nd,hf,fun x hx=>((q3 x).1 hx).imp id fun ⟨v,hv,e⟩=>⟨v,ybg hv,e⟩⟩⟩
    ·left
     have a3:=N.le
     refine ⟨(mset ⟨(keyL (u++v)).toArray⟩ true mp,o++[u++v],j+1),?_,⟨g,N.push hm (by omega),fun x=>?_⟩,by simp only;omega⟩
     ·rw [zkA (by omega),zkC,zas (by unfold zaz;omega),zam]
      rfl
     ·simp only
      rw [a0,yak,q3 x]
      constructor
      ·rintro ((h | h) | h)
       ·exact Or.inl h
       ·exact Or.inr (Or.inl h)
       ·exact Or.inr (Or.inr (by simpa using h))
      ·rintro (h | h | h)
       ·exact Or.inl (Or.inl h)
       ·exact Or.inl (Or.inr h)
       ·exact Or.inr (by simp [h])
  ·right
   have:j=q.length:=by omega
   subst this
   rw [ybp] at q3
   exact ⟨_,by rw [zkA (by omega),zkC],Or.inr ⟨mp,o,rfl,N,q3⟩⟩) fuel (mp,out,0) ⟨yag _,N,fun x=>by simp⟩ (by have:=zav;simp only;omega)
 exact ⟨r,hr,hp⟩
theorem prod_all2 (hp:p.length<=10000) (hq:q.length<=10000) (hu:∀ u∈p,∀ v∈q,u.length+v.length<=1024∧∀ a∈u++v,inR a) :
  ∃ r,iter (fun (s:(List (ByteArray×Bool))×yaa×Nat)=>za0.s56 p q s.1 s.2.1 s.2.2) fuel (([]:List (ByteArray×Bool)),[],0)=some r∧((r=.inr ([],11)∧∃ o:yaa,o.Nodup∧o.length=10000∧∀ x∈o,∃ u∈p,∃ v∈q,x=u++v)∨∃ out,r=.inl out∧out.Nodup∧out.length<=10000∧∀ x,x∈out↔∃ u∈p,∃ v∈q,x=u++v):=by
 obtain ⟨r,hr,hz⟩:=zaw (step:=fun (s:(List (ByteArray×Bool))×yaa×Nat)=>za0.s56 p q s.1 s.2.1 s.2.2) (fun s=>s.2.2<=p.length∧Known s.1 s.2.1∧∀ x,x∈s.2.1↔∃ u∈p.take s.2.2,∃ v∈q,x=u++v) (fun s=>p.length-s.2.2) (fun r=>(r=.inr ([],11)∧∃ o:yaa,o.Nodup∧o.length=10000∧∀ x∈o,∃ u∈p,∃ v∈q,x=u++v)∨∃ out,r=.inl out∧out.Nodup∧out.length<=10000∧∀ x,x∈out↔∃ u∈p,∃ v∈q,x=u++v) (fun s ⟨q1,N,q3⟩=>by
  obtain ⟨mp,o,i⟩:=s
  simp only at q1 N q3
  simp only [za0.s56]
  by_cases g:i<p.length
  ·have hx:=get_at g
   have a0:=ya2 g
   generalize p[i]=u at hx a0
   obtain ⟨r,h1,h2⟩:=prod_row2 hq (hu u a0) N
   rw [zkB (by omega),zkD,zal hx,h1,zam]
   rcases h2 with ⟨rfl,o2,d1,d2,d3⟩ | ⟨a2,o',rfl,N',h3⟩
   ·right
    refine ⟨_,rfl,Or.inl ⟨rfl,o2,d1,d2,fun x hx=>?_⟩⟩
    rcases d3 x hx with h | ⟨v,hv,e⟩
    ·obtain ⟨u',a3,v,hv,e⟩:=(q3 x).1 h
     exact ⟨u',ybg a3,v,hv,e⟩
    ·exact ⟨u,a0,v,hv,e⟩
   ·left
    refine ⟨(a2,o',i+1),rfl,⟨g,N',fun x=>?_⟩,by simp only;omega⟩
    simp only
    rw [h3,q3 x,zcy hx]
    constructor
    ·rintro (⟨w,hw,h⟩ | h)
     ·exact ⟨w,yam _ hw,h⟩
     ·exact ⟨u,yaj _ (by simp),h⟩
    ·rintro ⟨w,hw,h⟩
     rcases yak.1 hw with k | k
     ·exact Or.inl ⟨w,k,h⟩
     ·have:w=u:=by simpa using k
      rw [this] at h
      exact Or.inr h
  ·right
   have:i=p.length:=by omega
   subst this
   rw [ybp] at q3
   exact ⟨_,by rw [zkA (by omega),zkC],Or.inr ⟨o,rfl,N.nd,N.le,q3⟩⟩) fuel ([],[],0) ⟨yag _,⟨by simp,by simp,fun w=>by simp [mget]⟩,fun x=>by simp⟩ (by have:=zav;simp only;omega)
 exact ⟨r,hr,hz⟩
end
theorem zkt {a b:yaa} (ha:SmL a) (hb:SmL b) (ha1:a.length<=10000) (hb1:b.length<=10000) (hab:a.length*b.length<10000) (hl:zhj a+zhj b<=1024) (hR:∀ u∈a,∀ v∈b,u.length+v.length<=1024∧∀ z∈u++v,inR z) :
  ∃ r,za0 a b=some r∧(r.2=0∧Asc r.1∧r.1.length<=10000∧∀ x,x∈r.1↔∃ u∈a,∃ v∈b,x=u++v):=by
 unfold za0;by_cases c1:a.length=0
 ·have:a=[]:=yfc.1 c1;subst this;exact ⟨([],0),rfl,⟨rfl,List.Pairwise.nil,by simp,fun x=>by simp⟩⟩
 rw [zkA (by omega),zkC];by_cases c2:b.length=0
 ·have:b=[]:=yfc.1 c2;subst this;exact ⟨([],0),rfl,⟨rfl,List.Pairwise.nil,by simp,fun x=>by simp⟩⟩
 rw [zkA (by omega),zam,zkC,zib a ha,zam,zib b hb,zam,zas (by unfold inR;omega),zkA (by omega),zkC,zd6 ha,zam,zd6 hb,zam];have s1:=zeq a;have s2:=zeq b;rw [zkA (by omega),zkC];obtain ⟨r,h1,h2⟩:=prod_all2 (p:=sortW a) (q:=sortW b) (by omega) (by omega) (fun u hu v hv=>hR u ((zb3 a u).1 hu) v ((zb3 b v).1 hv));rw [h1,zam];rcases h2 with ⟨rfl,o,d1,d2,d3⟩ | ⟨out,rfl,nd,le,hm⟩
 ·have h5:=zox (b:=zp5 a b) d1 fun x hx=>by
   obtain ⟨u,hu,v,hv,e⟩:=d3 x hx;exact zne.2 ⟨u,(zb3 a u).1 hu,v,(zb3 b v).1 hv,e⟩
  rw [prodL_len] at h5;omega
 ·have a0:∀ x,x∈out↔∃ u∈a,∃ v∈b,x=u++v:=fun x=>by
   rw [hm];constructor
   ·rintro ⟨u,hu,v,hv,h⟩;exact ⟨u,(zb3 a u).1 hu,v,(zb3 b v).1 hv,h⟩
   ·rintro ⟨u,hu,v,hv,h⟩;exact ⟨u,(zb3 a u).2 hu,v,(zb3 b v).2 hv,h⟩
  obtain ⟨S,e1,hp,hs⟩:=zt1 zi7 (f:=fun u0 u1=>zdj u0 u1) (l:=out) (by omega) (fun x hx y _=>zgd x y (by
   obtain ⟨u,hu,v,hv,rfl⟩:=(a0 x).1 hx
   have:=(hR u hu v hv).1
   rw [zkJ]
   omega))
  refine ⟨(S,0),?_,⟨rfl,?_,by rw [hp.length_eq];exact le,fun x=>by rw [hp.mem_iff];exact a0 x⟩⟩
  ·show (zdw out _).bind _=_;unfold zdw;rw [e1,zam]
  ·have a2:S.Nodup:=hp.nodup_iff.2 nd;refine (hs.and a2).imp fun {x y} ⟨h1,h2⟩=>?_;have a3:cmpW y x≠0:=fun q=>h2 ((zi7.zero y x).1 q).symm;have h3:=zi7.range y x;have h4:=(zi7.swap x y);omega
theorem znn {a b:yaa} (ha:SmL a) (hb:SmL b) (ha1:a.length<=10000) (hb1:b.length<=10000) (hab:a.length*b.length<10000) (hl:zhj a+zhj b<=1024) (hR:∀ u∈a,∀ v∈b,u.length+v.length<=1024∧∀ z∈u++v,inR z):za0 a b=some (sortW (zp5 a b),0):=by
 obtain ⟨r,e,e2,hA,_,hm⟩:=zkt ha hb ha1 hb1 hab hl hR;rw [e];have:r.1=sortW (zp5 a b):=zo6 hA (zfq _) fun x=>by rw [hm,zb3,zne]
 rw [<- this,<- e2]
end
section
theorem great35_r (m:zaa):∃ b,zct m=some b∧(b=false->m.Next.length<=6∧∀ x∈m.Next,x.length<=3):=by
 unfold zct
 have key:=zaw (step:=fun s=>zct.s2 m s) (fun k=>k<=m.Next.length∧k<=7∧∀ x∈m.Next.take k,x.length<=3) (fun k=>8-k)
  (fun r=>match r with | .inl ()=>m.Next.length<=6->∀ x∈m.Next,x.length<=3 | .inr b=>b=true) (fun k ⟨g1,g2,g3⟩=>by
   simp only [zct.s2]
   by_cases h:k<m.Next.length
   ·have hx:=get_at h
    rw [zdg hx,zkD,zam]
    by_cases h2:k<7
    ·rw [zkB (by omega:(↑k:Int)<7),zkD,zal hx]
     by_cases h3:3<m.Next[k].length
     ·right
      exact ⟨.inr true,by rw [zkB (by omega),zkD],rfl⟩
     ·left
      refine ⟨k+1,by rw [zkA (by omega),zkC,zas (by unfold inR;omega)],⟨h,by omega,fun x a0=>?_⟩,by omega⟩
      rw [zcy hx] at a0
      rcases yak.1 a0 with a0 | a0
      ·exact g3 x a0
      ·rw [yar.1 a0];omega
    ·right
     exact ⟨.inl (),by rw [zkA (by omega:¬ (↑k:Int)<7),zkC],fun h4=>by omega⟩
   ·right
    have e:k=m.Next.length:=by omega
    subst e
    refine ⟨.inl (),by rw [zfb,zkC,zam,zkC],fun _ x hx=>g3 x (by rw [ybp];exact hx)⟩) fuel 0 ⟨yag _,by omega,by simp⟩
 obtain ⟨r,e,hq⟩:=key (by have:=zav;omega);rw [e,zam];cases r with
 | inr b =>
  have hq:b=true:=hq;exact ⟨_,rfl,fun hb=>by rw [hq] at hb;cases hb⟩
 | inl u =>
  have hq:m.Next.length<=6->∀ x∈m.Next,x.length<=3:=hq;simp only [ycd]
  have key:=zaw (step:=fun s=>zct.s4 m s) (fun k=>k<=m.Out.length) (fun k=>m.Out.length-k) (fun r=>r=.inl ()∨r=.inr true) (fun k g1=>by
   simp only [zct.s4]
   by_cases h:k<m.Out.length
   ·have hx:=get_at h
    rw [zdg hx,zkD,zam]
    by_cases h2:k<11
    ·rw [zkB (by omega:(↑k:Int)<11),zkD,zal hx]
     by_cases h3:3<m.Out[k].length
     ·right
      exact ⟨.inr true,by rw [zkB (by omega),zkD],.inr rfl⟩
     ·left
      exact ⟨k+1,by rw [zkA (by omega),zkC,zas (by unfold inR;omega)],h,by omega⟩
    ·right
     exact ⟨.inl (),by rw [zkA (by omega:¬ (↑k:Int)<11),zkC],.inl rfl⟩
   ·right
    exact ⟨.inl (),by rw [zkA (by omega),zkC,zam,zkC],.inl rfl⟩)
  by_cases ho:m.Out.length<=100000000
  ·obtain ⟨r,e,hr⟩:=key fuel 0 (yag _) (by have:=zav;omega);rw [e,zam];rcases hr with rfl | rfl
   ·simp only [ycd];by_cases h6:6<m.Next.length
    ·rw [zkB (by omega),zkD,zam];exact ⟨_,rfl,fun hb=>by cases hb⟩
    ·rw [zkA (by omega),zkC,zam];exact ⟨_,rfl,fun _=>⟨by omega,hq (by omega)⟩⟩
   ·exact ⟨_,rfl,fun hb=>by cases hb⟩
  ·have key:=zaw (step:=fun s=>zct.s4 m s) (fun k=>k<=11) (fun k=>12-k) (fun r=>r=.inl ()∨r=.inr true) (fun k g1=>by
    simp only [zct.s4]
    have h:k<m.Out.length:=by omega
    have hx:=get_at h
    rw [zdg hx,zkD,zam]
    by_cases h2:k<11
    ·rw [zkB (by omega:(↑k:Int)<11),zkD,zal hx]
     by_cases h3:3<m.Out[k].length
     ·right
      exact ⟨.inr true,by rw [zkB (by omega),zkD],.inr rfl⟩
     ·left
      exact ⟨k+1,by rw [zkA (by omega),zkC,zas (by unfold inR;omega)],by omega,by omega⟩
    ·right
     exact ⟨.inl (),by rw [zkA (by omega:¬ (↑k:Int)<11),zkC],.inl rfl⟩) fuel 0 (by omega) (by have:=zav;omega)
   obtain ⟨r,e,hr⟩:=key;rw [e,zam];rcases hr with rfl | rfl
   ·simp only [ycd];by_cases h6:6<m.Next.length
    ·rw [zkB (by omega),zkD,zam];exact ⟨_,rfl,fun hb=>by cases hb⟩
    ·rw [zkA (by omega),zkC,zam];exact ⟨_,rfl,fun _=>⟨by omega,hq (by omega)⟩⟩
   ·exact ⟨_,rfl,fun hb=>by cases hb⟩
def zjz (k:Nat) (P:yaa):yaa:=P.flatMap fun w=>(List.range k).map fun (a:Nat)=>w++[(↑a:Int)]
theorem tranL_len (k:Nat) (P:yaa):(zjz k P).length=P.length*k:=by
 unfold zjz
 induction P with
 | nil=>simp
 | cons u a ih=>rw [ybd,zkJ,zkK,ybz,ih,zkL,Nat.add_mul];omega
theorem zrd {k:Nat} {P:yaa} {x:yab}:x∈zjz k P↔∃ w∈P,∃ a,a<k∧x=w++[(↑a:Int)]:=by
 unfold zjz;simp only [yck,yao,ya8];constructor
 ·rintro ⟨u,hu,v,hv,rfl⟩;exact ⟨u,hu,v,hv,rfl⟩
 ·rintro ⟨u,hu,v,hv,rfl⟩;exact ⟨u,hu,v,hv,rfl⟩
theorem range_step (k:Nat) (w:yab):((List.range (k+1)).map fun (a:Nat)=>w++[(↑a:Int)])=((List.range k).map fun (a:Nat)=>w++[(↑a:Int)])++[w++[(↑k:Int)]]:=by
 rw [ydh,ya9];rfl
section
variable {M:zaa} {P:yaa}
theorem tran_prog (hk:1<=M.Inputs∧M.Inputs<=64) (hP:P.length<=1000) (hw:∀ w∈P,w.length<=1000) (c:yab×yaa×Int) (hc:c.2.1=P):iter (fun (s:yaa×Nat)=>za9.s14 M c s.1 s.2) fuel ([],0)=some (zjz M.Inputs.toNat P):=by
 have a0:∀ (w:yab),w.length<=1000->∀ y:yaa,y.length<=100000->iter (fun (s:yaa×Nat)=>za9.s13 M w s.1 s.2) fuel (y,0)=some (y++(List.range M.Inputs.toNat).map fun (a:Nat)=>w++[(↑a:Int)]):=fun w hw y hy=>by
  have key:=zaw (step:=fun (s:yaa×Nat)=>za9.s13 M w s.1 s.2) (fun s=>s.2<=M.Inputs.toNat∧s.1=y++(List.range s.2).map fun (a:Nat)=>w++[(↑a:Int)]) (fun s=>M.Inputs.toNat-s.2) (fun r=>r=y++(List.range M.Inputs.toNat).map fun (a:Nat)=>w++[(↑a:Int)]) (fun ⟨z,a⟩ ⟨g1,g2⟩=>by
   simp only at g1 g2
   subst g2
   simp only [za9.s13]
   by_cases h:a<M.Inputs.toNat
   ·left
    refine ⟨(y++(List.range (a+1)).map fun (a:Nat)=>w++[(↑a:Int)],a+1),?_,⟨h,rfl⟩,by simp only;omega⟩
    rw [zkB (by omega),zkD,zhb [w,[(↑a:Int)]] (by simp) (by simp;omega),zam]
    simp only [ybc,ycx,ybq]
    rw [zas (by unfold zaz;rw [zkJ,zkK,ybz];omega),zas (by unfold inR;omega),range_step,yb9]
   ·right
    have e:a=M.Inputs.toNat:=by omega
    subst e
    exact ⟨_,by rw [zkA (by omega),zkC],rfl⟩) fuel (y,0) ⟨yag _,by simp⟩ (by have:=zav;simp only;omega)
  obtain ⟨r,e,rfl⟩:=key;exact e
 have key:=zaw (step:=fun (s:yaa×Nat)=>za9.s14 M c s.1 s.2) (fun s=>s.2<=P.length∧s.1=zjz M.Inputs.toNat (P.take s.2)) (fun s=>P.length-s.2) (fun r=>r=zjz M.Inputs.toNat P) (fun ⟨z,i⟩ ⟨g1,g2⟩=>by
  simp only at g1 g2
  subst g2
  simp only [za9.s14]
  rw [hc]
  by_cases h:i<P.length
  ·left
   have hx:=get_at h
   refine ⟨(zjz M.Inputs.toNat (P.take (i+1)),i+1),?_,⟨h,rfl⟩,by simp only;omega⟩
   have a2:(zjz M.Inputs.toNat (P.take i)).length<=100000:=by
    rw [tranL_len,yaz]
    have:min i P.length*M.Inputs.toNat<=1000*64:=ycr (by omega) (by omega)
    omega
   rw [zdg hx,zkD,zal hx,a0 _ (hw _ (ya2 h)) _ a2,zam]
   have:zjz M.Inputs.toNat (P.take (i+1))=zjz M.Inputs.toNat (P.take i)++(List.range M.Inputs.toNat).map fun (a:Nat)=>P[i]++[(↑a:Int)]:=by
    unfold zjz
    rw [zcy hx,ydb]
    simp
   rw [this]
  ·right
   have e:i=P.length:=by omega
   subst e
   exact ⟨_,by rw [zfb,zkC],by rw [ybp]⟩) fuel ([],0) ⟨yag _,rfl⟩ (by have:=zav;simp only;omega)
 obtain ⟨r,e,rfl⟩:=key;exact e
end
theorem zri {l:yaa} {B:Nat} (h:∀ x∈l,x.length<=B):zhj l<=B:=(longestL_le l B).2 h
end
section
section
variable {front middle last:yaa}
end
end
section
section
variable {m M:zaa}
end
end
section
section
variable {m b M:zaa}
theorem sepd_mono {s t:Nat} {a c:yaa} (h:∀ x∈a,x∈c) (hs:sepd m s t a=true):sepd m s t c=true:=by
 obtain ⟨x,hx,h1⟩:=ycp.1 hs;exact ycp.2 ⟨x,h x hx,h1⟩
theorem ztm {s t:Nat} {acc:yaa}:∀ x∈acc,x∈chStep m s acc t:=fun x hx=>by
 unfold chStep;split
 ·exact hx
 ·exact yam _ hx
theorem chRow_sub {s:Nat} {acc:yaa}:∀ t,∀ x∈acc,x∈chRow m s acc t
 | 0,x,hx=>by
  unfold chRow;rw [Nat.zero_sub];exact hx
 | t+1,x,hx=>by
  by_cases g:s<t
  ·rw [zi1 g];exact ztm x (chRow_sub t x hx)
  ·unfold chRow;rw [show t+1-(s+1)=0 by omega];exact hx
theorem zta {s:Nat} {acc:yaa}:∀ t d,s<t->∀ x∈chRow m s acc t,x∈chRow m s acc (t+d)
 | _,0,_,_,hx=>hx
 | t,d+1,g,x,hx=>by
  rw [show t+(d+1)=(t+d)+1 by omega,zi1 (by omega)];exact ztm x (zta t d g x hx)
theorem chTo_more:∀ s d,∀ x∈chTo m s,x∈chTo m (s+d)
 | _,0,_,hx=>hx
 | s,d+1,x,hx=>by
  rw [show s+(d+1)=(s+d)+1 by omega,zjd];exact chRow_sub _ x (chTo_more s d x hx)
theorem chTo_sep (H:zcv m) (P:zga m) {s t:Nat} (hs:s<t) (ht:t<m.Next.length):sepd m s t (chTo m m.Next.length)=true:=by
 have h1:sepd m s t (chRow m s (chTo m s) (t+1))=true:=by
  rw [zi1 hs];unfold chStep;split
  ·assumption
  ·exact ycp.2 ⟨sepW m s t,yaj _ (by simp),zkB (sepW_sep H P (by omega) ht (by omega))⟩
 have h2:sepd m s t (chTo m (s+1))=true:=sepd_mono (fun x hx=>by
  rw [zjd]
  have:=zta (m:=m) (acc:=chTo m s) (t+1) (m.Next.length-(t+1)) (by omega) x hx
  rwa [show t+1+(m.Next.length-(t+1))=m.Next.length by omega] at this) h1
 exact sepd_mono (fun x hx=>by
  have:=chTo_more (m:=m) (s+1) (m.Next.length-(s+1)) x hx
  rwa [show s+1+(m.Next.length-(s+1))=m.Next.length by omega] at this) h2
end
end
section
section
variable {A:Type} [DecidableEq A] {e:A->Nat->A} {K:Nat} {s0:A}
theorem bfs_mono:∀ (r:Nat) {u v:Nat} {x y:A×yab},u<=v->(bfsB e K s0 r)[u]?=some x->(bfsB e K s0 r)[v]?=some y->x.2.length<=y.2.length
 | 0,u,v,x,y,huv,hx,hy=>by
  have h1:=(zkI.1 hx).1;have h2:=(zkI.1 hy).1;have hl:(bfsB e K s0 0).length=1:=rfl;have e1:u=0:=by omega
  have e2:v=0:=by omega
  subst e1;subst e2;rw [hx] at hy;injection hy with hy
  rw [hy];exact yap _
 | r+1,u,v,x,y,huv,hx,hy=>by
  have ih:=fun {u v x y}=>bfs_mono r (u:=u) (v:=v) (x:=x) (y:=y);rw [bfsB] at hx hy;cases hp:(bfsB e K s0 r)[r / K]? with
  | none =>
   rw [hp] at hx hy;exact ih huv hx hy
  | some p =>
   rw [hp] at hx hy;simp only at hx hy;split at hx
   ·rename_i g;rw [if_pos g] at hy;exact ih huv hx hy
   ·rename_i g;rw [if_neg g] at hy;have hv:=(zkI.1 hy).1;rw [zkJ,ya6] at hv;rcases yat v (bfsB e K s0 r).length with h | h
    ·rw [yan h] at hy;rw [yan (by omega)] at hx;exact ih huv hx hy
    ·have ev:v=(bfsB e K s0 r).length:=by omega
     subst ev;rw [yax (yap _),ybx] at hy;injection hy with hy
     subst hy;simp only [zkJ,ya6];rcases yat u (bfsB e K s0 r).length with h2 | h2
     ·rw [yan h2] at hx;rcases zjy hx with q | ⟨r',z,q1,q2,q3,q4⟩
      ·subst q;rw [zon] at hx;injection hx with hx
       subst hx;simp
      ·have:=ih (yd2 (c:=K) (Nat.le_of_lt q1)) q3 hp;rw [q4];simp only [zkJ,ya6];omega
     ·have eu:u=(bfsB e K s0 r).length:=by omega
      subst eu;rw [yax (yap _),ybx] at hx;injection hx with hx
      subst hx;simp
theorem bfs_early {N j r:Nat} {y:A×yab} (hK:0<K) (hy:(bfsB e K s0 N)[j]?=some y) (hr:j*K<=r) (hN:r<=N):(bfsB e K s0 r)[j]?=some y:=by
 have a2:=zgw (e:=e) (K:=K) (s0:=s0) hN;rcases yat j (bfsB e K s0 r).length with g | g
 ·have:=zeo a2 (zkM g);rw [hy] at this;rw [zkM g,this]
 ·exfalso
  have a0:∀ d,bfsB e K s0 (r+d)=bfsB e K s0 r:=by
   intro d
   induction d with
   | zero=>rfl
   | succ d ih =>
    show bfsB e K s0 (r+d+1)=_;rw [bfsB,ih,yaq ?_];have h1:j<=(r+d) / K:=(Nat.le_div_iff_mul_le hK).2 (by omega);omega
  have h2:=a0 (N-r);rw [show r+(N-r)=N by omega] at h2;rw [h2] at hy;have:=(zkI.1 hy).1;omega
theorem bfs_reach {f:A->yab->A} (f0:∀ a,f a []=a) (f1:∀ a w (c:Nat),f a (w++[(↑c:Int)])=e (f a w) c) {i:Nat} {x:A×yab} {N:Nat} (hx:(bfsB e K s0 N)[i]?=some x) (hN:i*K<=N) :
  ∀ (n:Nat) (w:yab),w.length=n->(∀ z∈w,0<=z∧z<(↑K:Int))->n<x.2.length->∃ j y,j<i∧(bfsB e K s0 (i*K))[j]?=some y∧y.1=f s0 w∧y.2.length<=n:=by
 intro n
 induction n with
 | zero =>
  intro w hw _ a4;have:w=[]:=yau hw;subst this;refine ⟨0,(s0,[]),Nat.pos_of_ne_zero fun h=>?_,zon _,(f0 s0).symm,yap _⟩;subst h;rw [zon] at hx;injection hx with hx
  subst hx;exact absurd a4 (by simp)
 | succ n ih =>
  intro w hw hz a4;rcases List.eq_nil_or_concat w with rfl | ⟨v,c,rfl⟩
  ·simp at hw
  rw [List.concat_eq_append] at hw hz ⊢;obtain ⟨c0,c1⟩:=hz c (yaj _ (yar.2 rfl));obtain ⟨a,rfl⟩:=yef c0;have hK:0<K:=by omega
  have ha:a<K:=by omega
  obtain ⟨j,y,j1,j2,j3,j4⟩:=ih v (by simpa using hw) (fun z h=>hz z (yam _ h)) (by omega);have a3:j*K+a+1<=i*K:=by have:=zjh j1 ha;omega
  have hy:=bfs_early hK j2 (r:=j*K+a) (by omega) (by omega);have a5:=bfs_to (e:=e) (K:=K) (s0:=s0) (r:=j*K+a) (x:=y) (by rw [zix ha];exact hy);rw [zru ha] at a5;obtain ⟨z,a6,a9⟩:=yao.1 a5;obtain ⟨l,hl,ez⟩:=yb3.1 a6;have a0:(bfsB e K s0 (j*K+a+1))[l]?=some z:=by rw [zkM hl,ez]
  have b2:z.2.length<=n+1:=by
   rcases zjy a0 with q | ⟨r',u,q1,q2,q3,q4⟩
   ·subst q;rw [zon] at a0;injection a0 with a0
    subst a0;simp
   ·have hd:r' / K<=j:=by
     have:=yd2 (c:=K) (show r'<=j*K+a by omega)
     rwa [zix ha] at this
    have a8:=zeo (zqj (e:=e) (K:=K) (s0:=s0) (j*K+a)) hy;have:=bfs_mono _ hd q3 a8;rw [q4];simp only [zkJ,ya6];omega
  have a2:=zeo (zgw (e:=e) (K:=K) (s0:=s0) a3) a0;refine ⟨l,z,yem fun a7=>?_,a2,by rw [a9,f1,j3],b2⟩;have h3:=zeo (zgw (e:=e) (K:=K) (s0:=s0) hN) a2;have:=bfs_mono _ a7 hx h3;omega
end
section
variable {m:zaa}
theorem ztf:∀ {v:yab} {s t:Nat},WOk m.Inputs v->outs m s v≠outs m t v->∃ (u:yab) (c:Nat) (z:yab),v=u++(↑c:Int)::z∧c<m.Inputs.toNat∧ot m (dest m s u) c≠ot m (dest m t u) c
 | [],s,t,_,h=>absurd rfl h
 | a::v,s,t,hw,h=>by
  have ha:=hw.head;obtain ⟨c,rfl⟩:=yef ha.1;by_cases g:ot m s c=ot m t c
  ·obtain ⟨u,d,z,h1,h2,h3⟩:=ztf (v:=v) (s:=nx m s c) (t:=nx m t c) hw.tail fun hv=>h (by
    show ot m s (Int.toNat (↑c:Int))::outs m (nx m s (Int.toNat (↑c:Int))) v=ot m t (Int.toNat (↑c:Int))::outs m (nx m t (Int.toNat (↑c:Int))) v
    rw [yah,g,hv])
   exact ⟨(↑c:Int)::u,d,z,by rw [h1];rfl,h2,h3⟩
  ·exact ⟨[],c,v,rfl,by omega,g⟩
theorem moore (H:zcv m) (P:zga m) {s t:Nat} (hs:s<m.Next.length) (ht:t<m.Next.length) (hne:s≠t):∃ v,v.length<=m.Next.length∧WOk m.Inputs v∧outs m s v≠outs m t v:=by
 refine ya5 fun g=>hne (P.apart s t hs ht fun w hw=>?_);have hE:E m m.Next.length s t:=zku fun w hl hw=>ya5 fun h=>g ⟨w,hl,hw,h⟩;exact E_outs (E_all H hs ht hE w.length) hw
theorem sepW_short (H:zcv m) (P:zga m) {s t:Nat} (hs:s<m.Next.length) (ht:t<m.Next.length) (hne:s≠t):(sepW m s t).length<=m.Next.length:=by
 have hF:=sep_fst H hs ht;rw [sepB_of H P hs ht hne] at hF;rcases hF with ⟨i,c,x,h1,h2,h3,h4,h5⟩ | ⟨L,_,_,h5⟩
 ·injection h5 with h5 _
  rw [h5,zkJ,ya6];obtain ⟨v,v1,v2,v3⟩:=moore H P hs ht hne;obtain ⟨u,d,z,rfl,u2,u3⟩:=ztf v2 v3;simp only [zkJ,zkL] at v1;refine ycw fun a2=>?_
  have hu:∀ q∈u,0<=q∧q<(↑m.Inputs.toNat:Int):=fun q hq=>by
   have:=v2 q (yam _ hq);omega
  have fd:∀ (st:Nat) (w:yab) (c:Nat),dest m st (w++[(↑c:Int)])=nx m (dest m st w) c:=fun st w c=>by
   rw [zes];show nx m (dest m st w) (Int.toNat (↑c:Int))=_;rw [yah]
  obtain ⟨j,y,j1,j2,j3,j4⟩:=bfs_reach (e:=pE m m) (K:=m.Inputs.toNat) (s0:=(s,t)) (f:=fun p w=>(dest m p.1 w,dest m p.2 w)) (fun a=>rfl) (fun a w c=>by
   simp only [fd]
   rfl) (N:=i*m.Inputs.toNat+c) h2 (by omega) u.length u rfl hu (by omega)
  have hK:0<m.Inputs.toNat:=by omega
  have a0:=zjh j1 u2;have hy:=bfs_early hK j2 (r:=j*m.Inputs.toNat+d) (by omega) (by omega);have:=h4 (j*m.Inputs.toNat+d) (by omega);rw [zok u2 hy,j3,zkB u3] at this;cases this
 ·injection h5 with _ h5
  cases h5
theorem ztl {s:Nat}:∀ (l:List Nat) (acc:yaa) (w:yab),w∈l.foldl (chStep m s) acc->w∈acc∨∃ t∈l,w=sepW m s t
 | [],acc,w,h=>.inl h
 | t::l,acc,w,h=>by
  rcases ztl l _ w h with g | ⟨u,h1,h2⟩
  ·unfold chStep at g;split at g
   ·exact .inl g
   ·rcases yak.1 g with g | g
    ·exact .inl g
    ·exact .inr ⟨t,ybr,yar.1 g⟩
  ·exact .inr ⟨u,yay _ h1,h2⟩
theorem chRow_len {s:Nat}:∀ (l:List Nat) (acc:yaa),(l.foldl (chStep m s) acc).length<=acc.length+l.length
 | [],acc=>yap _
 | t::l,acc=>by
  have h1:=chRow_len (s:=s) l (chStep m s acc t)
  have h2:(chStep m s acc t).length<=acc.length+1:=by
   unfold chStep;split
   ·omega
   ·rw [zkJ,ya6];exact yap _
  rw [ycu,zkL];omega
theorem chTo_from:∀ (s:Nat) (w:yab),w∈chTo m s->∃ a b,a<s∧a<b∧b<m.Next.length∧w=sepW m a b
 | 0,w,h=>by
  unfold chTo at h;cases h
 | s+1,w,h=>by
  rw [zjd] at h;unfold chRow at h;rcases ztl _ _ w h with g | ⟨t,h1,h2⟩
  ·obtain ⟨a,b,k1,k2⟩:=chTo_from s w g;exact ⟨a,b,by omega,k2⟩
  ·rw [List.mem_range'_1] at h1;exact ⟨s,t,by omega,by omega,by omega,h2⟩
theorem chTo_lens (h6:m.Next.length<=6):(chTo m m.Next.length).length<=15:=by
 have a0:∀ s,(chTo m (s+1)).length<=(chTo m s).length+(m.Next.length-(s+1)):=fun s=>by
  rw [zjd];unfold chRow;refine ych (chRow_len _ _) ?_;rw [List.length_range'];exact yap _
 have h0:(chTo m 0).length=0:=rfl;have h1:=a0 0;have h2:=a0 1;have h3:=a0 2;have h4:=a0 3;have h5:=a0 4;have a2:=a0 5;have:m.Next.length=0∨m.Next.length=1∨m.Next.length=2∨m.Next.length=3∨m.Next.length=4∨m.Next.length=5∨m.Next.length=6:=by omega
 generalize m.Next.length=n at *;rcases this with rfl | rfl | rfl | rfl | rfl | rfl | rfl<;>simp only [yai,Nat.reduceAdd] at*<;> omega
end
noncomputable def endsM (M:zaa):yaa:=if (chS M).length=0 then [[]] else chS M
theorem endsM_ok {M:zaa} (H:zcv M) (P:zga M) (h6:M.Next.length<=6):(endsM M).length<=15∧(∀ w∈endsM M,w.length<=6∧WOk M.Inputs w)∧∀ s t,s<M.Next.length->t<M.Next.length->s≠t->∃ w∈endsM M,WOk M.Inputs w∧outs M s w≠outs M t w:=by
 have a4:=chTo_lens h6;have a5:=zeq (chTo M M.Next.length)
 have hw:∀ w∈chS M,w.length<=6∧WOk M.Inputs w:=fun w hw=>by
  obtain ⟨a,b,h1,h2,h3,rfl⟩:=chTo_from _ w ((zb3 _ _).1 hw);have:=sepW_short H P (s:=a) (t:=b) (by omega) h3 (by omega);exact ⟨by omega,(sepW_sm H (by omega) h3).1⟩
 have a2:∀ s t,s<t->t<M.Next.length->∃ w∈chS M,WOk M.Inputs w∧outs M s w≠outs M t w:=fun s t h1 h2=>by
  have:=chTo_sep H P h1 h2;unfold sepd at this;obtain ⟨w,w1,w2⟩:=ycp.1 this;have hm:=(zb3 _ w).2 w1;exact ⟨w,hm,(hw w hm).2,of_decide_eq_true w2⟩
 have a0:∀ s t,s<M.Next.length->t<M.Next.length->s≠t->∃ w∈chS M,WOk M.Inputs w∧outs M s w≠outs M t w:=fun s t h1 h2 a3=>by
  rcases yat s t with g | g
  ·exact a2 s t g h2
  ·obtain ⟨w,w1,w2,w3⟩:=a2 t s (by omega) h1;exact ⟨w,w1,w2,fun h=>w3 h.symm⟩
 unfold endsM;by_cases hz:(chS M).length=0
 ·rw [if_pos hz];refine ⟨by simp,fun w hw=>by rw [yar.1 hw];exact ⟨by simp,fun a ha=>by cases ha⟩,fun s t h1 h2 a3=>?_⟩;obtain ⟨w,w1,_⟩:=a0 s t h1 h2 a3;have:=yds w1;omega
 ·rw [if_neg hz];exact ⟨by unfold chS;omega,hw,a0⟩
end
section
theorem maxR_over {l:yaa} {B:Nat} (hB:∀ x∈l,x.length<=B):∀ (n:Nat) (u:yab),B<=u.length+n->u∈l->∃ x∈maxR l,u <+: x
 | 0,u,hn,hu=>⟨u,(zk1 l u).2 ⟨hu,fun y hy=>by
   by_cases e:y=u
   ·exact .inl e
   ·refine .inr fun hp=>e ?_
    have:=hB y hy
    exact (hp.eq_of_length_le (by omega)).symm⟩,ybu _⟩
 | n+1,u,hn,hu=>by
  by_cases g:∃ y∈l,y≠u∧u <+: y
  ·obtain ⟨y,hy,hne,hp⟩:=g;have hlt:u.length<y.length:=yem fun h=>hne (hp.eq_of_length_le h).symm;obtain ⟨x,hx,hyx⟩:=maxR_over hB n y (by omega) hy;exact ⟨x,hx,hp.trans hyx⟩
  ·refine ⟨u,(zk1 l u).2 ⟨hu,fun y hy=>?_⟩,ybu _⟩;by_cases e:y=u
   ·exact .inl e
   ·exact .inr fun hp=>g ⟨y,hy,e,hp⟩
theorem bfs_len {A:Type} [DecidableEq A] {e:A->Nat->A} {K:Nat} {s0:A} {r:Nat}:∀ (u:Nat) (x:A×yab),(bfsB e K s0 r)[u]?=some x->x.2.length<=u:=by
 intro u
 induction u using Nat.strongRecOn with
 | ind u ih =>
  intro x hx;rcases zjy hx with q | ⟨r',y,q1,q2,q3,q4⟩
  ·subst q;rw [zon] at hx;injection hx with hx
   subst hx;exact yap _
  ·have:=ih _ q2 y q3;rw [q4];simp only [zkJ,ya6];omega
structure SampL (M:zaa) (L:List (Nat×yab)) (l:yaa):Prop where
 len:l.length<=303
 wd:∀ w∈l,w.length<=12∧WOk M.Inputs w
 tr:∀ x∈L,∀ a:Nat,a<M.Inputs.toNat->∃ w∈l,x.2++[(↑a:Int)] <+: w
 ac:∀ x∈L,∀ v∈endsM M,∃ w∈l,x.2++v <+: w
 ta:∀ x∈L,∀ a:Nat,a<M.Inputs.toNat->∀ v∈endsM M,∃ w∈l,x.2++[(↑a:Int)]++v <+: w
theorem sample_prog {m:zaa} (hv:ze5 m=0) (h6:m.Next.length<=6) (h3:m.Inputs<=3):∃ M L l,zke m M∧M.Next.length<=6∧MEnd M 0 L∧zcc m=some (M,0)∧zf7 m=some (l,0)∧SampL M L l:=by
 have H:=zfv hv;obtain ⟨M,e1,e2,S⟩:=min_same hv;have hM:=validM_of S.ok;have PM:=zq7 S;obtain ⟨d7,_⟩:=sem_le H S;have hi:=S.inp;have b9:=S.ok.i1;obtain ⟨L,hE,c3⟩:=zrv hM;have hc:zez M=some (L.map Prod.snd,0):=by unfold zez;rw [c3,zam]
 have d0:M.Start.toNat=0:=by rw [S.start];rfl
 rw [d0] at hE;have c9:=zp8 S.ok S.ok.n1 hE;have d4:M.Next.length*M.Next.length<=6*6:=ycr (by omega) (by omega);have e4:M.Next.length*M.Next.length*M.Inputs.toNat<=6*6*3:=ycr d4 (by omega);have d3:(L.map Prod.snd).length<=6:=by rw [zkK];omega
 have a8:∀ w∈L.map Prod.snd,w.length<=5∧WOk M.Inputs w:=fun u hu=>by
  obtain ⟨x,hx,rfl⟩:=yao.1 hu;refine ⟨?_,(c9.2 x hx).2.2⟩;obtain ⟨i,b3,e⟩:=ybl hx;have a0:=get_at b3;rw [e,hE.eq] at a0;have:=bfs_len i x a0;omega
 have d6:∀ w∈L.map Prod.snd,w=[]∨w∈zjz M.Inputs.toNat (L.map Prod.snd):=fun u hu=>by
  obtain ⟨x,hx,rfl⟩:=yao.1 hu;obtain ⟨i,b3,e⟩:=ybl hx;have a0:=get_at b3;rw [e] at a0;rcases hE.from (by omega) a0 with q | ⟨i',a,y,q1,q2,q3,q4⟩
  ·subst q;rw [hE.first] at a0;injection a0 with a0
   exact .inl (by rw [<- a0])
  ·refine .inr (zrd.2 ⟨y.2,yao.2 ⟨y,zkH q3,rfl⟩,a,q2,?_⟩);rw [q4]
 have a9:∀ x∈L,x.2∈L.map Prod.snd:=fun x hx=>yao.2 ⟨x,hx,rfl⟩;obtain ⟨c6,a6,_⟩:=endsM_ok S.ok PM (by omega)
 have hW:(cond (decide ((↑(List.length (chS M)):Int)=0)) (some [[]]) (some (chS M)):Option (yaa))=some (endsM M):=by
  unfold endsM;by_cases h:(chS M).length=0
  ·rw [zkB (by omega),zkD,if_pos h]
  ·rw [zkA (by omega),zkC,if_neg h]
 generalize hP:L.map Prod.snd=P at *
 have hT:(zjz M.Inputs.toNat P).length<=18:=by
  rw [tranL_len];have:P.length*M.Inputs.toNat<=6*3:=ycr d3 (by omega);omega
 have a4:∀ w∈zjz M.Inputs.toNat P,w.length<=6∧WOk M.Inputs w:=fun x hx=>by
  obtain ⟨w,hw,a,ha,rfl⟩:=zrd.1 hx;obtain ⟨q1,q2⟩:=a8 w hw;refine ⟨by rw [zkJ];simp;omega,fun z hz=>?_⟩;rcases yak.1 hz with hz | hz
  ·exact q2 z hz
  ·rw [yar.1 hz];omega
 have b8:∀ x∈L,∀ a:Nat,a<M.Inputs.toNat->x.2++[(↑a:Int)]∈zjz M.Inputs.toNat P:=fun x hx a ha=>zrd.2 ⟨x.2,a9 x hx,a,ha,rfl⟩;have d1:SmL (zjz M.Inputs.toNat P):=⟨by omega,fun x hx=>by have:=(a4 x hx).1;unfold SmW;omega⟩
 have t1:za9 M=some (sortW (zjz M.Inputs.toNat P),0):=by
  unfold za9;rw [c3,zam,zkA (fun h=>h rfl),zkC,tran_prog (P:=P) ⟨b9,by omega⟩ (by omega) (fun w hw=>by have:=(a8 w hw).1;omega) _ rfl,zam,zd6 d1,zam]
 generalize zjz M.Inputs.toNat P=Tr at *;have d8:=zeq Tr
 have u1:SmL [P,sortW Tr].flatten:=⟨by simp;omega,fun x hx=>by
  simp only [ybc,ycx,ybq] at hx
  rcases yak.1 hx with hx | hx
  ·have:=(a8 x hx).1;unfold SmW;omega
  ·have:=(a4 x ((zb3 _ _).1 hx)).1;unfold SmW;omega⟩
 have a5:∀ x,x∈sortW [P,sortW Tr].flatten↔x∈P∨x∈Tr:=fun x=>by
  simp only [zb3,ybc,ycx,ybq,yak]
 have d2:∀ l:yaa,(sortW l).Nodup:=fun l=>(zfq l).imp fun {a b} h e=>by
  rw [e,znz] at h;exact absurd h (by decide)
 have c7:(sortW [P,sortW Tr].flatten).length<=19:=by
  have:=zox (b:=[]::Tr) (d2 [P,sortW Tr].flatten) fun x hx=>by
   rcases (a5 x).1 hx with h | h
   ·rcases d6 x h with rfl | h
    ·exact ybr
    ·exact yay _ h
   ·exact yay _ h
  rw [zkL] at this;omega
 have a7:∀ w∈sortW [P,sortW Tr].flatten,w.length<=6∧WOk M.Inputs w:=fun x hx=>by
  rcases (a5 x).1 hx with h | h
  ·obtain ⟨q1,q2⟩:=a8 x h;exact ⟨by omega,q2⟩
  ·exact a4 x h
 generalize hU:sortW [P,sortW Tr].flatten=U at *;have c8:SmL U:=⟨by omega,fun x hx=>by have:=(a7 x hx).1;unfold SmW;omega⟩;have d5:SmL (endsM M):=⟨by omega,fun x hx=>by have:=(a6 x hx).1;unfold SmW;omega⟩;have e3:U.length*(endsM M).length<=19*15:=ycr c7 c6;have e0:=zri (l:=U) (B:=6) fun x hx=>(a7 x hx).1;have d9:=zri (l:=endsM M) (B:=6) fun x hx=>(a6 x hx).1
 have p1:=znn c8 d5 (by omega) (by omega) (by omega) (by omega) fun u hu v hv=>by
  have h1:=a7 u hu;have h2:=a6 v hv;refine ⟨by omega,fun z hz=>?_⟩;have:0<=z∧z<M.Inputs:=(yak.1 hz).elim (h1.2 z) (h2.2 z);unfold inR;omega
 have hX:(sortW (zp5 U (endsM M))).length<=19*15:=by
  have h1:=zeq (zp5 U (endsM M));rw [prodL_len] at h1;omega
 have b4:∀ w∈sortW (zp5 U (endsM M)),w.length<=12∧WOk M.Inputs w:=fun x hx=>by
  obtain ⟨u,hu,v,hv,rfl⟩:=zne.1 ((zb3 _ _).1 hx);obtain ⟨a1,a2⟩:=a7 u hu;obtain ⟨b1,b2⟩:=a6 v hv;refine ⟨by rw [zkJ];omega,fun z hz=>(yak.1 hz).elim (a2 z) (b2 z)⟩
 have b6:∀ u∈U,∀ v∈endsM M,u++v∈sortW (zp5 U (endsM M)):=fun u hu v hv=>(zb3 _ _).2 (zne.2 ⟨u,hu,v,hv,rfl⟩);generalize sortW (zp5 U (endsM M))=X at *
 have v1:SmL [sortW Tr,X].flatten:=⟨by simp;omega,fun x hx=>by
  simp only [ybc,ycx,ybq] at hx
  rcases yak.1 hx with hx | hx
  ·have:=(a4 x ((zb3 _ _).1 hx)).1;unfold SmW;omega
  ·have:=(b4 x hx).1;unfold SmW;omega⟩
 have v3:SmL (sortW [sortW Tr,X].flatten):=sml_sort v1
 have b7:∀ x,x∈sortW [sortW Tr,X].flatten↔x∈Tr∨x∈X:=fun x=>by
  simp only [zb3,ybc,ycx,ybq,yak]
 have c0:(sortW [sortW Tr,X].flatten).length<=303:=by
  have:=zeq [sortW Tr,X].flatten;simp only [ybc,ycx,ybq,zkJ] at this;simp only [ybc,ycx,ybq];omega
 have b5:∀ w∈sortW [sortW Tr,X].flatten,w.length<=12∧WOk M.Inputs w:=fun x hx=>by
  rcases (b7 x).1 hx with h | h
  ·obtain ⟨q1,q2⟩:=a4 x h;exact ⟨by omega,q2⟩
  ·exact b4 x h
 have a3:∀ u,u∈Tr∨u∈X->∃ w∈maxR (sortW [sortW Tr,X].flatten),u <+: w:=fun u hu=>maxR_over (B:=12) (fun x hx=>(b5 x hx).1) 12 u (by omega) ((b7 u).2 hu);refine ⟨M,L,maxR (sortW [sortW Tr,X].flatten),S,by omega,hE,e2,?_,ych (maxR_length _) c0,fun w hw=>b5 w (mem_maxR hw),fun x hx a ha=>a3 _ (.inl (b8 x hx a ha)),fun x hx v hv=>a3 _ (.inr (b6 _ ((a5 _).2 (.inl (a9 x hx))) v hv)),fun x hx a ha v hv=>a3 _ (.inr (b6 _ ((a5 _).2 (.inr (b8 x hx a ha))) v hv))⟩;unfold zf7;rw [zdr,zam,hv,zkA (by decide),zkC,e1,zam,hc,zam,t1,zam];simp only;rw [zmx hM PM (by omega),zam,hW,zam,zkb (by simp) u1,hU,zam,p1,zam,zkA (fun h=>h rfl),zkC,zkb (by simp) v1,zam,znw v3,zam]
end
section
theorem zr9 {l:yaa} {a c:Nat} (ha:a<=1000):∃ b,zdt l (↑a:Int) (↑c:Int)=some b∧(b=false->l.length<=a∧∀ w∈l,w.length<=c)∧(l.length<=a->(∀ w∈l,w.length<=c)->b=false):=by
 unfold zdt
 have key:=zaw (step:=fun (s:Nat)=>zdt.s2 l (↑a:Int) (↑c:Int) s) (fun i=>i<=l.length∧i<=a+1∧∀ j w,j<i->l[j]?=some w->w.length<=c) (fun i=>l.length-i) (fun r=>(r=.inl ()∧(l.length<=a->∀ w∈l,w.length<=c))∨(r=.inr true∧∃ w∈l,c<w.length)) (fun i ⟨g1,g2,g3⟩=>by
  simp only [zdt.s2]
  by_cases h:i<l.length
  ·have hx:=get_at h
   rw [zdg hx,zkD,zam]
   by_cases h2:i<=a
   ·rw [zkB (by omega),zkD,zal hx]
    by_cases h3:c<l[i].length
    ·rw [zkB (by omega),zkD]
     exact .inr ⟨_,rfl,.inr ⟨rfl,_,ya2 h,h3⟩⟩
    ·rw [zkA (by omega),zkC,zas (by unfold inR;omega)]
     refine .inl ⟨_,rfl,⟨h,by omega,fun j w hj hw=>?_⟩,by omega⟩
     rcases yat j i with q | q
     ·exact g3 j w q hw
     ·have ej:j=i:=by omega
      subst ej
      rw [hx] at hw
      injection hw with hw
      rw [<- hw]
      omega
   ·rw [zkA (by omega),zkC]
    exact .inr ⟨_,rfl,.inl ⟨rfl,fun h=>by omega⟩⟩
  ·rw [zkA (by omega),zkC,zam,zkC]
   refine .inr ⟨_,rfl,.inl ⟨rfl,fun _ w hw=>?_⟩⟩
   obtain ⟨j,hj,e⟩:=ybl hw
   exact g3 j w (by omega) (by rw [get_at hj,e])) fuel 0 ⟨yag _,yag _,fun j w hj=>absurd hj (ybe _)⟩
 by_cases hl:l.length<100000000000000
 ·obtain ⟨r,e,hq⟩:=key (by have:=zav;omega);rw [e,zam];rcases hq with ⟨rfl,h⟩ | ⟨rfl,w,h1,h2⟩
  ·rw [ycd];refine ⟨_,rfl,fun hb=>?_,fun h1 _=>zkA (by omega)⟩;have:=of_decide_eq_false hb;have a2:l.length<=a:=by omega
   exact ⟨a2,h a2⟩
  ·rw [ydy];exact ⟨true,rfl,(fun h=>by cases h),fun _ h=>by have:=h w h1;omega⟩
 ·have a0:=zaw (step:=fun (s:Nat)=>zdt.s2 l (↑a:Int) (↑c:Int) s) (fun i=>i<=a+1) (fun i=>a+2-i) (fun r=>r=.inl ()∨r=.inr true) (fun i g=>by
   simp only [zdt.s2]
   have h:i<l.length:=by omega
   have hx:=get_at h
   rw [zdg hx,zkD,zam]
   by_cases h2:i<=a
   ·rw [zkB (by omega),zkD,zal hx]
    by_cases h3:c<l[i].length
    ·rw [zkB (by omega),zkD]
     exact .inr ⟨_,rfl,.inr rfl⟩
    ·rw [zkA (by omega),zkC,zas (by unfold inR;omega)]
     exact .inl ⟨_,rfl,by omega,by omega⟩
   ·rw [zkA (by omega),zkC]
    exact .inr ⟨_,rfl,.inl rfl⟩) fuel 0 (yag _) (by have:=zav;omega)
  obtain ⟨r,e,hq⟩:=a0;rw [e,zam];rcases hq with rfl | rfl
  ·rw [ycd,zkB (by omega)];exact ⟨true,rfl,(fun h=>by cases h),fun h=>by omega⟩
  ·rw [ydy];exact ⟨true,rfl,(fun h=>by cases h),fun h=>by omega⟩
def trM (m:zaa) (w:yab):zab:=⟨w,outs m m.Start.toNat w⟩
theorem wok_of {w:yab} {n:Int} (h:zgl w n=0):WOk n w:=(zf1 h).2
theorem R06_Traces_r {m:zaa} (hv:ze5 m=0) {l:yaa} (hl:l.length<=10000) (hw:∀ w∈l,w.length<=1000):∃ r,zeb m l=some r∧(r.2=0->r.1=l.map (trM m)∧∀ w∈l,zgl w m.Inputs=0):=by
 have H:=zfv hv;have a2:=H.st;have a0:(↑m.Start.toNat:Int)=m.Start:=ydc a2.1;unfold zeb;rw [zig,zam,hv,zkA (fun h=>h rfl),zkC,zkA (by omega),zkC]
 have key:=zaw (step:=fun (s:List zab×Nat)=>zeb.s2 m l s.1 s.2) (fun s=>s.2<=l.length∧s.1=(l.take s.2).map (trM m)∧∀ j w,j<s.2->l[j]?=some w->zgl w m.Inputs=0) (fun s=>l.length-s.2) (fun r=>(r=.inl (l.map (trM m))∧∀ w∈l,zgl w m.Inputs=0)∨∃ e:Int,r=.inr ([],e)∧e≠0) (fun ⟨y,i⟩ ⟨g1,g2,g3⟩=>by
  simp only at g1 g2 g3
  subst g2
  simp only [zeb.s2]
  by_cases h:i<l.length
  ·have hx:=get_at h
   have a3:=hw _ (ya2 h)
   rw [zdg hx,zkD,zal hx,zpe _ _ (by unfold SmW;omega),zam]
   by_cases hc:zgl l[i] m.Inputs=0
   ·rw [zkA (fun h=>h hc),zkC,zal hx]
    have ho:=R06_Outs_eq H (s:=m.Start.toNat) (by omega) (wok_of hc) (by omega)
    rw [a0] at ho
    rw [ho,zam,zal hx,zm5 _ (by simp) (by simp;omega),zam,zas (by simp only [zkK,yaz];unfold zaz;omega)]
    refine .inl ⟨_,rfl,⟨h,?_,fun j w hj hw=>?_⟩,by simp only;omega⟩
    ·simp only [ybc,ycx,ybq]
     rw [zcy hx,ya9]
     rfl
    ·rcases yat j i with q | q
     ·exact g3 j w q hw
     ·have ej:j=i:=by simp only at hj;omega
      subst ej
      rw [hx] at hw
      injection hw with hw
      rw [<- hw]
      exact hc
   ·rw [zkB hc,zkD]
    exact .inr ⟨_,rfl,.inr ⟨_,rfl,hc⟩⟩
  ·rw [zkA (by omega),zkC,yb6 (by omega)]
   refine .inr ⟨_,rfl,.inl ⟨rfl,fun w hw=>?_⟩⟩
   obtain ⟨j,hj,e⟩:=ybl hw
   exact g3 j w (by omega) (by rw [get_at hj,e])) fuel ([],0) ⟨yag _,rfl,fun j w hj=>absurd hj (ybe _)⟩ (by have:=zav;simp only;omega)
 obtain ⟨r,e,hq⟩:=key;rw [e,zam];rcases hq with ⟨rfl,h⟩ | ⟨e,rfl,h⟩
 ·exact ⟨_,rfl,fun _=>⟨rfl,h⟩⟩
 ·exact ⟨_,rfl,fun h2=>absurd h2 h⟩
theorem addQ_cover {l:List zab} {t:zab}:(t.In=[]∨∃ x∈addL l t,t.In <+: x.In)∧(∀ y∈l,∃ x∈addL l t,y.In <+: x.In)∧∀ x∈addL l t,x=t∨x∈l:=by
 unfold addL;by_cases h:zfo l t.In=true∨t.In=[]
 ·rw [if_pos h];refine ⟨h.elim (fun h=>?_) .inl,fun y hy=>⟨y,hy,ybu _⟩,fun x hx=>.inr hx⟩;obtain ⟨u,hu,hp⟩:=ycp.1 h;exact .inr ⟨u,hu,of_decide_eq_true hp⟩
 ·rw [if_neg h];refine ⟨.inr ⟨t,zju.2 (.inl rfl),ybu _⟩,fun y hy=>?_,fun x hx=>?_⟩
  ·by_cases e:y.In <+: t.In
   ·exact ⟨t,zju.2 (.inl rfl),e⟩
   ·exact ⟨y,zju.2 (.inr (yfd.2 ⟨hy,by simp [e]⟩)),ybu _⟩
  ·exact (zju.1 hx).imp id fun h=>(yfd.1 h).1
structure ObsC (n:Int) (l:List zab) (o:zar):Prop where
 sm:SmTr o.Traces
 ok:zit o
 inp:o.Inputs=n
 mem:∀ t∈o.Traces,t∈l
 cov:∀ t∈l,t.In=[]∨∃ x∈o.Traces,t.In <+: x.In
theorem ObsC.add {n:Int} {l:List zab} {o:zar} (C:ObsC n l o) {t:zab} (ht:SmX t) (h:(addO o t).2=0):ObsC n (l++[t]) (addO o t).1:=by
 have a2:=addO_ok (t:=t) C.ok;have a0:=a2.num;obtain ⟨c1,c2,c3⟩:=addQ_cover (l:=o.Traces) (t:=t)
 have he:(addO o t).1=⟨o.Inputs,addL o.Traces t⟩:=by
  unfold addO at h ⊢;split
  ·rename_i g;rw [if_pos g] at h;exact absurd h g
  ·rename_i g;rw [if_neg g] at h;split
   ·rename_i g2;rw [if_pos g2] at h;cases h
   ·rename_i g2;rw [if_neg g2] at h;split
    ·rename_i g3;rw [if_pos g3] at h;cases h
    ·rfl
 rw [he] at a2 a0 ⊢;refine ⟨⟨by simp only at a0 ⊢;omega,fun x hx=>?_⟩,a2,C.inp,fun x hx=>?_,fun x hx=>?_⟩
 ·rcases c3 x hx with e | e
  ·rw [e];exact ht
  ·exact C.sm.2 x e
 ·rcases c3 x hx with e | e
  ·rw [e];exact yaj _ (yar.2 rfl)
  ·exact yam _ (C.mem x e)
 ·rcases yak.1 hx with e | e
  ·rcases C.cov x e with q | ⟨y,y1,y2⟩
   ·exact .inl q
   ·obtain ⟨z,z1,z2⟩:=c2 y y1;exact .inr ⟨z,z1,y2.trans z2⟩
  ·rw [yar.1 e];exact c1
theorem R16_All_r {n:Int} {l:List zab} (hn:ObsC n [] ⟨n,[]⟩) (hs:∀ t∈l,SmX t) (hl:l.length<=100000):∃ r,zfp ⟨n,[]⟩ l=some r∧(r.2=0->ObsC n l r.1):=by
 unfold zfp
 have key:=zaw (step:=fun (s:Int×List zab×Nat)=>zfp.s2 ⟨n,[]⟩ l s.1 s.2.1 s.2.2) (fun s=>s.2.2<=l.length∧ObsC n (l.take s.2.2) ⟨s.1,s.2.1⟩) (fun s=>l.length-s.2.2) (fun r=>(∃ s,r=.inl s∧ObsC n l ⟨s.1,s.2⟩)∨∃ q:zar×Int,r=.inr q∧q.2≠0) (fun ⟨y,z,i⟩ ⟨g1,g2⟩=>by
  simp only at g1 g2
  simp only [zfp.s2]
  by_cases h:i<l.length
  ·have hx:=get_at h
   have ht:=hs _ (ya2 h)
   rw [zdg hx,zkD,zal hx,R16_Add_eq (o:=⟨y,z⟩) g2.sm g2.ok ht,zam]
   by_cases e:(addO ⟨y,z⟩ l[i]).2=0
   ·rw [zkA (fun h=>h e),zkC]
    refine .inl ⟨_,rfl,⟨h,?_⟩,by simp only;omega⟩
    simp only
    rw [zcy hx]
    exact g2.add ht e
   ·rw [zkB e,zkD]
    exact .inr ⟨_,rfl,.inr ⟨_,rfl,e⟩⟩
  ·rw [zkA (by omega),zkC]
   rw [yb6 (by omega)] at g2
   exact .inr ⟨_,rfl,.inl ⟨_,rfl,g2⟩⟩) fuel (n,[],0) ⟨yag _,hn⟩ (by have:=zav;simp only;omega)
 obtain ⟨r,e,hq⟩:=key;simp only;rw [e,zam];rcases hq with ⟨s,rfl,h⟩ | ⟨q,rfl,h⟩
 ·exact ⟨_,rfl,fun _=>h⟩
 ·exact ⟨_,rfl,fun h2=>absurd h2 h⟩
theorem R16_Of_r {m:zaa} (hv:ze5 m=0) {l:yaa} (hl:l.length<=10000) (hw:∀ w∈l,w.length<=1000):∃ o f,R16_Of m l=some (o,f)∧(f=0->ObsC m.Inputs (l.map (trM m)) o∧∀ w∈l,zgl w m.Inputs=0):=by
 have H:=zfv hv;have a2:=H.i1;have a3:=H.i2;obtain ⟨⟨y,f⟩,e1,h1⟩:=R06_Traces_r hv hl hw;unfold R16_Of;rw [e1,zam];by_cases hf:f=0
 ·obtain ⟨h2,h3⟩:=h1 hf;simp only at h2;subst h2;rw [zkA (fun h=>h hf),zkC]
  obtain ⟨⟨o,g⟩,e2,h4⟩:=R16_All_r (n:=m.Inputs) (l:=l.map (trM m)) ⟨⟨by simp,fun t ht=>by simp at ht⟩,obsOk_of ⟨by simp only;omega,by simp only;omega⟩ (by simp) (fun t ht=>by simp at ht) List.Pairwise.nil List.Pairwise.nil,rfl,fun t ht=>by simp at ht,fun t ht=>by cases ht⟩ (fun t ht=>by
   obtain ⟨w,a0,rfl⟩:=yao.1 ht
   have:=hw w a0
   unfold SmX trM SmW
   simp only [zg0]
   omega) (by rw [zkK];omega)
  rw [e2,zam];by_cases hg:g=0
  ·rw [zkA (fun h=>h hg),zkC];exact ⟨_,_,rfl,fun _=>⟨h4 hg,h3⟩⟩
  ·rw [zkB hg,zkD];exact ⟨_,_,rfl,fun h=>absurd h hg⟩
 ·rw [zkB hf,zkD];exact ⟨_,_,rfl,fun h=>absurd h hf⟩
theorem flatQ_le {α:Type} {f:α->yaa} {B:Nat}:∀ (l:List α),(∀ x∈l,(f x).length<=B)->(l.flatMap f).length<=l.length*B
 | [],_=>by simp
 | x::l,h=>by
  have:=flatQ_le l fun y hy=>h y (yay _ hy);have:=h x ybr;rw [ybd,zkJ,zkL,Nat.add_mul,yd3];omega
theorem zp4 (m:zaa) (more:yaa):zd8 m more=some true:=by
 unfold zd8;have a3:∀ k:Option Bool,((some true:Option Bool).bind fun y=>cond y ((zhq).bind fun c=>some c) k)=some true:=fun k=>by rw [zam,zkD,zkv,zam]
 obtain ⟨b,e,hb⟩:=great35_r m;rw [e,zam];cases b with
 | true=>rw [zkD];exact a3 _
 | false =>
  obtain ⟨h6,b9⟩:=hb rfl;rw [zkC,zig,zam];by_cases hv:ze5 m=0
  ·have H:=zfv hv
   have h3:m.Inputs<=3:=by
    obtain ⟨x,y,q1,_,q3,_⟩:=H.row 0 H.n1;have:=b9 x (zkH q1);omega
   rw [zkA (fun h=>h hv),zkC];obtain ⟨b,eg,hg,_⟩:=zr9 (l:=more) (a:=6) (c:=6) (by omega);have b8:zdt more 6 6=some b:=eg;rw [b8,zam];cases b with
   | true=>exact a3 _
   | false =>
    obtain ⟨g1,g2⟩:=hg rfl;rw [zam,zkC];obtain ⟨M,L,l,S,b3,hE,em,es,A⟩:=sample_prog hv h6 h3;have d0:=A.len;obtain ⟨b2,c0,_,a8⟩:=zr9 (l:=l) (a:=400) (c:=40) (by omega);have b4:b2=false:=a8 (by omega) fun w hw=>by have:=(A.wd w hw).1;omega
    subst b4;have a6:zdt l 400 40=some false:=c0;rw [es,zam];simp only;rw [zkA (fun h=>h rfl),zkC,a6,zam,zam,zkC,zas (by simp only [yaw];unfold zaz;omega),ycn,zas (by unfold zaz;omega)];have a5:∀ w∈l++more,w.length<=12:=fun w hw=>(yak.1 hw).elim (fun h=>(A.wd w h).1) fun h=>by have:=g2 w h;omega
    obtain ⟨o,f,eo,ho⟩:=R16_Of_r hv (l:=l++more) (by rw [zkJ];omega) fun w hw=>by have:=a5 w hw;omega
    rw [eo,zam];simp only;by_cases hf:f=0
    ·obtain ⟨C,c6⟩:=ho hf;have c8:=C.ok.num
     have a4:∀ t∈o.Traces,∃ w∈l++more,t=trM m w:=fun t ht=>by
      obtain ⟨w,hw,e⟩:=yao.1 (C.mem t ht);exact ⟨w,hw,e.symm⟩
     have b5:SmO o:=⟨by omega,fun t ht=>by
      obtain ⟨w,hw,rfl⟩:=a4 t ht
      have:=a5 w hw
      unfold trM
      simp only [zg0]
      omega⟩
     have c7:o.Traces.length<=309:=by
      have b6:(o.Traces.map fun t=>t.In).Nodup:=by
       rw [List.nodup_iff_pairwise_ne,ydv]
       exact C.ok.pw.1.imp fun {a b} h e=>by
        rw [e,znz] at h;exact absurd h (by decide)
      have:=zhp (b:=l++more) b6 fun x hx=>by
       obtain ⟨t,ht,rfl⟩:=yao.1 hx;obtain ⟨w,hw,rfl⟩:=a4 t ht;exact hw
      rw [zkK,zkJ] at this;omega
     have hP:(allP o).length<=4090:=by
      unfold allP preL;rw [ybd,zkJ,zk7]
      have:=flatQ_le (f:=zjp) (B:=13) (o.Traces.map fun t=>t.In) fun x hx=>by
       obtain ⟨t,ht,rfl⟩:=yao.1 hx;obtain ⟨w,hw,rfl⟩:=a4 t ht;have:=a5 w hw;rw [zk7];unfold trM;simp only;omega
      rw [zkK] at this;simp only [yaw];omega
     have a2:∀ u w,w∈l->u <+: w->u∈allP o:=fun u w hw hp=>by
      rcases C.cov (trM m w) (yao.2 ⟨w,yam _ hw,rfl⟩) with h | ⟨t,t1,t2⟩
      ·have h:w=[]:=h;rw [h] at hp;exact zff.2 (.inl (List.prefix_nil.1 hp))
      ·exact zff.2 (.inr ⟨t,t1,hp.trans t2⟩)
     have a7:o.Inputs=M.Inputs:=C.inp.trans S.inp.symm
     have SO:zoi M L (endsM M) fun w=>w∈allP o:=by
      refine ⟨S.ok,hE,fun x hx a ha=>?_,fun x hx v hv=>?_,fun x hx a ha v hv=>?_,(endsM_ok S.ok (zq7 S) b3).2.2⟩
      ·obtain ⟨w,w1,w2⟩:=A.tr x hx a ha;exact a2 _ w w1 w2
      ·obtain ⟨w,w1,w2⟩:=A.ac x hx v hv;exact a2 _ w w1 w2
      ·obtain ⟨w,w1,w2⟩:=A.ta x hx a ha v hv;exact a2 _ w w1 w2
     obtain ⟨p',el,a0⟩:=learn_min b5 C.ok hP SO S a7 fun t ht=>by
      obtain ⟨w,hw,rfl⟩:=a4 t ht;exact (S.eqv w (by rw [S.inp];exact wok_of (c6 w hw))).symm
     have e1:p'.Inputs=M.Inputs:=congrArg zaa.Inputs a0;have e2:p'.Start=M.Start:=congrArg zaa.Start a0;have e3:p'.Next=M.Next:=congrArg zaa.Next a0;have e4:p'.Out=M.Out:=congrArg zaa.Out a0;have d2:=S.ok.n2;have d1:=S.ok.ol;have c9:=S.ok.i2
     have b7:SmL M.Next:=⟨by omega,fun x hx=>by
      obtain ⟨q,hq,e⟩:=ybl hx
      obtain ⟨x',y,k1,k2,k3,k4,_⟩:=S.ok.row q hq
      rw [get_at hq,e] at k1
      injection k1 with k1
      subst k1
      unfold SmW
      omega⟩
     have a9:SmL M.Out:=⟨by omega,fun x hx=>by
      obtain ⟨q,hq,e⟩:=ybl hx
      obtain ⟨x',y,k1,k2,k3,k4,_⟩:=S.ok.row q (by omega)
      rw [get_at hq,e] at k2
      injection k2 with k2
      subst k2
      unfold SmW
      omega⟩
     rw [zkA (fun h=>h hf),zkC,el,zam,em,zam];simp only;rw [e1,e2,e3,e4,zki _ _ b7,zki _ _ a9];simp only [decide_true,zkD,ybt];rw [zkv];rfl
    ·rw [zkB hf,zkD,zkv,zam]
  ·rw [zkB hv,zkD];exact a3 _
end
section
theorem zjn (x0:zaa) (x1:yaa) (_:zpt x0) (_:zpq x0<=1048576) (_:okL (okL inR) x1) (_:szL (szL sz1) x1<=1048576):zd8 x0 x1=some true :=
 zp4 x0 x1
end
section
open Go.RowKit
set_option linter.unusedVariables false
set_option maxHeartbeats 4000000
theorem eI {σ:St} {src:List (Nat×Option Nat)} {γ:Nat->Nat} {t:Nat} {y b:IV} (h1:σ.av t=.im y) (h2:AV.im y=.im b):∃ x,σ.av t=x∧SubR σ src γ x (.im b):=⟨.im y,h1,.im (Sub.rfl' h2)⟩
theorem odt {p:Prop} [Decidable p] (h:decide p=true):p:=of_decide_eq_true h
theorem odf {p:Prop} [Decidable p] (h:decide p=false):¬ p:=of_decide_eq_false h
theorem ctd {α:Type} {p:Prop} [Decidable p] {x y z:α} (hb:decide p=true) (h:cond (decide p) x y=z):x=z∧p:=⟨zbm hb h,odt hb⟩
theorem cfd {α:Type} {p:Prop} [Decidable p] {x y z:α} (hb:decide p=false) (h:cond (decide p) x y=z):y=z∧¬ p:=⟨zbk hb h,odf hb⟩
theorem hT {σ:St}:Holds σ True:=Holds.true_ _
abbrev lZ {α:Type} (l:List α):Prop:=List.length l<=17592186044416
theorem eA {σ:St} {avs:List (Nat×AV)} {kds:List (Nat×Kd)} {cels:List (Nat×Nat×AV)} (src:List (Nat×Option Nat)) (hn:ndB (srcs src) []=true:=by exact rfl) (ha:SubL σ src (gnM kds) avs:=by repeat' (first | exact trivial | refine ⟨eI rfl rfl,?_⟩ | refine ⟨⟨.own _ _ _,rfl,.own rfl rfl rfl⟩,?_⟩ | refine ⟨⟨.osl _ _,rfl,.osl rfl rfl rfl⟩,?_⟩ | refine ⟨⟨.im (.val (.slice none 0 0)),rfl,.made rfl rfl⟩,?_⟩)) (hk:KdL σ src kds:=by repeat' (first | exact trivial | refine ⟨.inl ⟨_,rfl,rfl,trivial⟩,?_⟩ | refine ⟨.inl ⟨_,rfl,rfl,⟨rfl,rfl⟩⟩,?_⟩ | refine ⟨.inr ⟨rfl,rfl,.inl ⟨_,_,rfl,by decide⟩⟩,?_⟩)) (hc:CeL σ src (gnM kds) cels:=by repeat' (first | exact trivial | refine ⟨⟨_,.im _,rfl,rfl,.im (Sub.rfl' rfl)⟩,?_⟩ | refine ⟨⟨_,.own _ _ _,rfl,rfl,.own rfl rfl rfl⟩,?_⟩ | refine ⟨⟨_,.osl _ _,rfl,rfl,.osl rfl rfl rfl⟩,?_⟩)):Ent σ (mkSt avs kds cels):=Ent.mk src hn ha hk hc
theorem zpr (l_:yaa) (words_:Int) (symbols_:Int) (r:Bool) (h:Ok (nL (cL cI) l_)->Ok (nI words_)->Ok (nI symbols_)->zdt l_ words_ symbols_=some r):Sp Tryz.prog 28 [.im (nL (cL cI) l_),.im (nI words_),.im (nI symbols_)] (.im (nB r)):=by
 refine zb6 rfl [] rfl rfl rfl (zkE rfl) rfl fun hk=>?_;replace h:=h hk.1 hk.2.1 hk.2.2.1;have z1:lZ l_:=zap hk.1;unfold zdt at h;obtain ⟨oc,hc,a3⟩:=zlA h;clear h;have h:=hc;clear hc;refine zlJ oc (Y:=Unit) (fun (_:Unit)=>mkSt [(0,.im (nL (cL cI) l_)),(1,.im (nI words_))] [] []) (fun (_:Unit)=>lZ l_∧True) (by rintro ⟨⟩;exact ((zlH 0 rfl).and (hT))) ?_ ?_;refine zb5.iter (fun (s:Nat)=>zdt.s2 l_ words_ symbols_ s) (fun a6=>mkSt [(0,.im (nL (cL cI) l_)),(1,.im (nI words_)),(2,.im (nI symbols_)),(7,.im (nI (↑a6:Int)))] [] []) (fun a6=>lZ l_∧True) h (eA []) (by rintro a6;exact ((zlH 0 rfl).and (hT))) ?_;clear h;rintro k a6 o hp h a0;replace h:zdt.s2 l_ words_ symbols_ a6=some o:=h;unfold zdt.s2 at h;obtain ⟨b7,_⟩:=hp;obtain ⟨b4,hc,a5⟩:=zlA h;clear h;have h:=hc;clear hc;refine Cut.mk (mkSt [(0,.im (nL (cL cI) l_)),(1,.im (nI words_)),(2,.im (nI symbols_)),(7,.im (nI (↑a6:Int))),(16,.im (nB b4))] [] []) (lZ l_∧True) ((zlH 0 rfl).and (hT)) ?_ (fun hp=>?_);refine zlF l_.length zai ?_;refine zlC ?_ ?_<;>intro a2;replace a2:=zc1 a2;obtain ⟨h,a7⟩:=ctd a2 h
 iterate 2 (refine zlD (zbj a2) ?_)
 refine zlD a2 ?_;cases h;exact zlG (eA []);replace a2:=zcz a2;obtain ⟨h,a7⟩:=cfd a2 h
 iterate 2 (refine zlE (zdi a2) ?_)
 refine zlE a2 ?_;cases h;exact zlG (eA []);replace h:=a5;obtain ⟨b8,_⟩:=hp;refine zlC ?_ ?_<;>intro a8;replace h:=zbm a8 h;obtain ⟨b5,a4,h⟩:=zae h;refine ⟨_,⟨(by omega),zah a4,rfl⟩,?_⟩;refine zlF b5.length zai ?_;refine zlC ?_ ?_<;>intro b2;obtain ⟨h,b3⟩:=ctd b2 h;cases h;have a0:_=_:=a0;cases a0;replace h:some _=some _:=a3;cases h;exact ⟨rfl,rfl⟩;obtain ⟨h,b3⟩:=cfd b2 h;obtain ⟨b6,h⟩:=zan h;refine zbp.mk b6 ?_;cases h;exact zlK _ a0 (eA []);replace h:=zbk a8 h;cases h;have a0:_=_:=a0;cases a0;exact zdo.mk' _ rfl (eA []);rintro ⟨⟩ rfl hp;replace h:=zb8 a3;obtain ⟨b9,_⟩:=hp;refine zlF l_.length zai ?_;cases h;exact ⟨rfl,rfl⟩
theorem sp_R01_Size (inputs_:Int) (r:Bool) (h:Ok (nI inputs_)->zog inputs_=some r):Sp Tryz.prog 71 [.im (nI inputs_)] (.im (nB r)):=by
 refine zb6 rfl [] rfl rfl rfl (zkE rfl) rfl fun hk=>?_;replace h:=h hk.1;unfold zog at h;obtain ⟨a7,hc,a0⟩:=zlA h;clear h;have h:=hc;clear hc;refine Cut.mk (mkSt [(2,.im (nB a7))] [] []) (True) (hT) ?_ (fun hp=>?_);refine zlC ?_ ?_<;>intro a2;replace a2:=zc1 a2;obtain ⟨h,a6⟩:=ctd a2 h;refine zlD (zbj a2) ?_;refine zlD a2 ?_;cases h;exact zlG (eA []);replace a2:=zcz a2;obtain ⟨h,a6⟩:=cfd a2 h;refine zlE (zdi a2) ?_;refine zlE a2 ?_;cases h;exact zlG (eA []);replace h:=a0;cases h;exact ⟨rfl,rfl⟩
theorem zpd (w_:yab) (inputs_:Int) (r:Int) (h:Ok (nL cI w_)->Ok (nI inputs_)->zee w_ inputs_=some r):Sp Tryz.prog 39 [.im (nL cI w_),.im (nI inputs_)] (.im (nI r)):=by
 refine zb6 rfl [] rfl rfl rfl (zkE rfl) rfl fun hk=>?_;replace h:=h hk.1 hk.2.1;have z1:lZ w_:=zap hk.1;unfold zee at h;obtain ⟨b8,c8,h⟩:=zlA h;refine ⟨_,(sp_R01_Size inputs_ b8 (fun _=>c8)),?_⟩;refine zlC ?_ ?_<;>intro b6;replace h:=zbm b6 h;cases h;exact ⟨rfl,rfl⟩;replace h:=zbk b6 h;refine zlF w_.length zai ?_;refine zlC ?_ ?_<;>intro b7;obtain ⟨h,b4⟩:=ctd b7 h;cases h;exact ⟨rfl,rfl⟩;obtain ⟨h,b4⟩:=cfd b7 h;obtain ⟨oc,hc,a3⟩:=zlA h;clear h;have h:=hc;clear hc;refine zlJ oc (Y:=Unit) (fun (_:Unit)=>mkSt [] [] []) (fun (_:Unit)=>True) (by rintro ⟨⟩;exact (hT)) ?_ ?_;refine zb5.iter (fun (s:Nat)=>zee.s2 w_ inputs_ s) (fun a6=>mkSt [(0,.im (nL cI w_)),(1,.im (nI inputs_)),(5,.im (nI (↑a6:Int)))] [] []) (fun a6=>lZ w_∧True) h (eA []) (by rintro a6;exact ((zlH 0 rfl).and (hT))) ?_;clear h;rintro k a6 o hp h a0;replace h:zee.s2 w_ inputs_ a6=some o:=h;unfold zee.s2 at h;obtain ⟨b9,_⟩:=hp;refine zlF w_.length zai ?_;refine zlC ?_ ?_<;>intro a7;obtain ⟨h,a8⟩:=ctd a7 h;obtain ⟨b5,hc,a9⟩:=zlA h;clear h;have h:=hc;clear hc;refine Cut.mk (mkSt [(0,.im (nL cI w_)),(1,.im (nI inputs_)),(5,.im (nI (↑a6:Int))),(30,.im (nB b5))] [] []) (lZ w_∧True) ((zlH 0 rfl).and (hT)) ?_ (fun hp=>?_);obtain ⟨c0,a4,h⟩:=zae h;refine ⟨_,⟨(by omega),zah a4,rfl⟩,?_⟩;refine zlC ?_ ?_<;>intro a2;replace a2:=zdc a2;obtain ⟨h,b2⟩:=cfd a2 h
 iterate 2 (refine zlD (zbr a2) ?_)
 obtain ⟨c6,a5,h⟩:=zae h;refine ⟨_,⟨(by omega),zah a5,rfl⟩,?_⟩
 iterate 3 (refine zlD (zbr a2) ?_)
 refine zlE a2 ?_;cases h;exact zlG (eA []);replace a2:=zdd a2;obtain ⟨h,b2⟩:=ctd a2 h
 iterate 5 (refine zlE (zdb a2) ?_)
 refine zlD a2 ?_;cases h;exact zlG (eA []);replace h:=a9;obtain ⟨c7,_⟩:=hp;refine zlC ?_ ?_<;>intro b3;replace h:=zbm b3 h;cases h;have a0:_=_:=a0;cases a0;replace h:some _=some _:=a3;cases h;exact ⟨rfl,rfl⟩;replace h:=zbk b3 h;refine zbp.mk (by show inR _;unfold inR;omega) ?_;cases h;exact zlK _ a0 (eA []);obtain ⟨h,a8⟩:=cfd a7 h;cases h;have a0:_=_:=a0;cases a0;exact zdo.mk' _ rfl (eA []);rintro ⟨⟩ rfl hp;replace h:=zb8 a3;cases h;exact ⟨rfl,rfl⟩
theorem sp_R06_Outs (m_:zaa) (s_:Int) (w_:yab) (r:yab×Int) (h:Ok (.agg (zad m_))->Ok (nI s_)->Ok (nL cI w_)->zel m_ s_ w_=some r):Sp Tryz.prog 100 [.im (.agg (zad m_)),.im (nI s_),.im (nL cI w_)] (.tup [nL cI r.1,nI r.2]):=by
 refine zb6 rfl [700003] rfl rfl rfl (zkE rfl) rfl fun hk=>?_;replace h:=h hk.1 hk.2.1 hk.2.2.1;have z1:lZ m_.Next:=zap (zlI hk.1 2 rfl);have z2:lZ m_.Out:=zap (zlI hk.1 3 rfl);have z3:lZ w_:=zap hk.2.2.1;unfold zel at h;obtain ⟨⟨b5,b3⟩,hc,d5⟩:=zlA h;clear h;have h:=hc;clear hc;refine Cut.mk (mkSt [(1,.im (nI b5)),(8,.osl 64 1)] [(64,.row 3 1 (List.map cI b3))] []) (lZ b3∧True) ((Holds.kdl 64 rfl).and (hT)) ?_ (fun hp=>?_);refine zb5.iter (fun (s:Int×yab×Nat)=>zel.s2 m_ w_ s.1 s.2.1 s.2.2) (fun (s90,a2,a7)=>mkSt [(1,.im (nI s90)),(2,.im (nL cI w_)),(3,.im (.ref (zad m_))),(8,.osl 64 1),(9,.im (nI (↑a7:Int)))] [(64,.row 3 1 (List.map cI a2))] []) (fun (s90,a2,a7)=>lZ w_∧lZ a2∧True) h (eA [(64,none)]) (by rintro ⟨s90,a2,a7⟩;exact ((zlH 2 rfl).and ((Holds.kdl 64 rfl).and (hT)))) ?_;clear h;rintro k ⟨s90,a2,a7⟩ o hp h a0;replace h:zel.s2 m_ w_ s90 a2 a7=some o:=h;unfold zel.s2 at h;obtain ⟨b6,b7,_⟩:=hp;refine zlF w_.length zai ?_;refine zlC ?_ ?_<;>intro a8;obtain ⟨h,b2⟩:=ctd a8 h;obtain ⟨b8,a9,c9,h⟩:=zau h;refine ⟨_,⟨a9,zah c9,rfl⟩,?_⟩;obtain ⟨b9,d4,h⟩:=zae h;refine ⟨_,⟨(by omega),zah d4,rfl⟩,?_⟩;obtain ⟨a6,a5,d3,h⟩:=zau h;refine ⟨_,⟨a5,zah d3,rfl⟩,?_⟩;obtain ⟨b4,h⟩:=zan h;refine zlB ⟨rfl,zca (l:=[a6]) (c:=cI) fun _=>rfl,show zaz _ 8 by simpa only [zkK,zkL,yaw,yai] using b4⟩ ?_;refine zlF (List.map cI (a2++[a6])) (zb9 (l:=a2) (m:=[a6]) (c:=cI)) ?_;obtain ⟨c0,a3,d2,h⟩:=zau h;refine ⟨_,⟨a3,zah d2,rfl⟩,?_⟩;obtain ⟨c6,d0,h⟩:=zae h;refine ⟨_,⟨(by omega),zah d0,rfl⟩,?_⟩;obtain ⟨c7,a4,d1,h⟩:=zau h;refine ⟨_,⟨a4,zah d1,rfl⟩,?_⟩;refine zbp.mk (by show inR _;unfold inR;omega) ?_;cases h;exact zlK _ a0 (eA [(64,some 64)]);obtain ⟨h,b2⟩:=cfd a8 h;cases h;have a0:_=_:=a0;cases a0;exact zlG (eA [(64,some 64)]);replace h:zel.k3 b5 b3=some _:=d5;unfold zel.k3 at h;obtain ⟨c8,_⟩:=hp;cases h;exact zlB ⟨rfl,trivial⟩ ⟨rfl,rfl⟩
theorem zm3 (parts_:yaa) (r:yab) (h:Ok (nL (cL cI) parts_)->zfe parts_=some r):Sp Tryz.prog 101 [.im (nL (cL cI) parts_)] (.row 3 1 (List.map cI r)):=by
 refine zb6 rfl [] rfl rfl rfl (zkE rfl) rfl fun hk=>?_;replace h:=h hk.1;have z1:lZ parts_:=zap hk.1;unfold zfe at h;obtain ⟨b2,hc,a4⟩:=zlA h;clear h;have h:=hc;clear hc;refine Cut.mk (mkSt [(3,.osl 64 1)] [(64,.row 3 1 (List.map cI b2))] []) (lZ b2∧True) ((Holds.kdl 64 rfl).and (hT)) ?_ (fun hp=>?_);refine zb5.iter (fun (s:yab×Nat)=>zfe.s2 parts_ s.1 s.2) (fun (a2,a6)=>mkSt [(0,.im (nL (cL cI) parts_)),(3,.osl 64 1),(4,.im (nI (↑a6:Int)))] [(64,.row 3 1 (List.map cI a2))] []) (fun (a2,a6)=>lZ parts_∧lZ a2∧True) h (eA [(64,none)]) (by rintro ⟨a2,a6⟩;exact ((zlH 0 rfl).and ((Holds.kdl 64 rfl).and (hT)))) ?_;clear h;rintro k ⟨a2,a6⟩ o hp h a0;replace h:zfe.s2 parts_ a2 a6=some o:=h;unfold zfe.s2 at h;obtain ⟨b5,b6,_⟩:=hp;refine zlF parts_.length zai ?_;refine zlC ?_ ?_<;>intro b3;obtain ⟨h,a7⟩:=ctd b3 h;obtain ⟨a8,a3,h⟩:=zae h;refine ⟨_,⟨(by omega),zah a3,rfl⟩,?_⟩;obtain ⟨b4,h⟩:=zan h;refine zlB ⟨rfl,zca (l:=a8) (c:=cI) fun _=>rfl,show zaz _ 8 by simpa only [zkK,zkL,yaw,yai] using b4⟩ ?_;refine zlF (List.map cI (a2++a8)) (zb9 (l:=a2) (m:=a8) (c:=cI)) ?_;refine zbp.mk (by show inR _;unfold inR;omega) ?_;cases h;exact zlK _ a0 (eA [(64,some 64)]);obtain ⟨h,a7⟩:=cfd b3 h;cases h;have a0:_=_:=a0;cases a0;exact zlG (eA [(64,some 64)]);replace h:=a4;obtain ⟨b7,_⟩:=hp;cases h;exact zlB ⟨rfl,trivial⟩ ⟨rfl,rfl⟩
theorem sp_R06_row (m_:zaa) (s_:Int) (r:Int) (h:Ok (.agg (zad m_))->Ok (nI s_)->zfm m_ s_=some r):Sp Tryz.prog 53 [.im (.agg (zad m_)),.im (nI s_)] (.im (nI r)):=by
 refine zb6 rfl [700002] rfl rfl rfl (zkE rfl) rfl fun hk=>?_;replace h:=h hk.1 hk.2.1;have z1:lZ m_.Next:=zap (zlI hk.1 2 rfl);have z2:lZ m_.Out:=zap (zlI hk.1 3 rfl);unfold zfm at h;obtain ⟨c8,hc,f5⟩:=zlA h;clear h;have h:=hc;clear hc;refine Cut.mk (mkSt [(1,.im (nI s_)),(2,.im (.ref (zad m_))),(25,.im (nB c8))] [] []) (True) (hT) ?_ (fun hp=>?_);obtain ⟨c9,e3,f4,h⟩:=zau h;refine ⟨_,⟨e3,zah f4,rfl⟩,?_⟩;refine zlF c9.length zai ?_;refine zlC ?_ ?_<;>intro b2;replace b2:=zdc b2;obtain ⟨h,b9⟩:=cfd b2 h
 iterate 3 (refine zlD (zbr b2) ?_)
 obtain ⟨d0,e4,f6,h⟩:=zau h;refine ⟨_,⟨e4,zah f6,rfl⟩,?_⟩
 iterate 2 (refine zlD (zbr b2) ?_)
 refine zlF d0.length zai ?_
 iterate 3 (refine zlD (zbr b2) ?_)
 refine zlE b2 ?_;cases h;exact zlG (eA []);replace b2:=zdd b2;obtain ⟨h,b9⟩:=ctd b2 h
 iterate 8 (refine zlE (zdb b2) ?_)
 refine zlD b2 ?_;cases h;exact zlG (eA []);replace h:=f5;refine zlC ?_ ?_<;>intro c7;replace h:=zbm c7 h;cases h;exact ⟨rfl,rfl⟩;replace h:=zbk c7 h;obtain ⟨oc,hc,d9⟩:=zlA h;clear h;have h:=hc;clear hc;refine zlJ oc (Y:=Unit) (fun (_:Unit)=>mkSt [] [] []) (fun (_:Unit)=>True) (by rintro ⟨⟩;exact (hT)) ?_ ?_;refine zb5.iter (fun (s:Nat)=>zfm.s2 m_ s_ s) (fun a8=>mkSt [(1,.im (nI s_)),(2,.im (.ref (zad m_))),(5,.im (nI (↑a8:Int)))] [] []) (fun a8=>True) h (eA []) (by rintro a8;exact (hT)) ?_;clear h;rintro k a8 o hp h a0;replace h:zfm.s2 m_ s_ a8=some o:=h;unfold zfm.s2 at h;refine zlC ?_ ?_<;>intro b3;obtain ⟨h,b4⟩:=ctd b3 h;obtain ⟨c0,hc,e8⟩:=zlA h;clear h;have h:=hc;clear hc;refine Cut.mk (mkSt [(1,.im (nI s_)),(2,.im (.ref (zad m_))),(5,.im (nI (↑a8:Int))),(76,.im (nB c0))] [] []) (True) (hT) ?_ (fun hp=>?_);obtain ⟨d1,a3,e9,h⟩:=zau h;refine ⟨_,⟨a3,zah e9,rfl⟩,?_⟩;obtain ⟨d2,f3,h⟩:=zae h;refine ⟨_,⟨(by omega),zah f3,rfl⟩,?_⟩;refine zlC ?_ ?_<;>intro a2;replace a2:=zdc a2;obtain ⟨h,b5⟩:=cfd a2 h
 iterate 3 (refine zlD (zbr a2) ?_)
 obtain ⟨d3,a9,e2,h⟩:=zau h;refine ⟨_,⟨a9,zah e2,rfl⟩,?_⟩
 iterate 3 (refine zlD (zbr a2) ?_)
 obtain ⟨d4,e0,h⟩:=zae h;refine ⟨_,⟨(by omega),zah e0,rfl⟩,?_⟩
 iterate 4 (refine zlD (zbr a2) ?_)
 refine zlF m_.Next.length zai ?_;refine zlD (zbr a2) ?_;refine zlE a2 ?_;refine zlC ?_ ?_<;>intro a6;replace a6:=zdc a6;obtain ⟨h,b6⟩:=cfd a6 h
 iterate 3 (refine zlD (zbr a6) ?_)
 obtain ⟨d5,a5,e5,h⟩:=zau h;refine ⟨_,⟨a5,zah e5,rfl⟩,?_⟩
 iterate 3 (refine zlD (zbr a6) ?_)
 obtain ⟨d6,e7,h⟩:=zae h;refine ⟨_,⟨(by omega),zah e7,rfl⟩,?_⟩
 iterate 2 (refine zlD (zbr a6) ?_)
 refine zlE a6 ?_;refine zlC ?_ ?_<;>intro a7;replace a7:=zdc a7;obtain ⟨h,b7⟩:=cfd a7 h
 iterate 3 (refine zlD (zbr a7) ?_)
 obtain ⟨d7,a4,e1,h⟩:=zau h;refine ⟨_,⟨a4,zah e1,rfl⟩,?_⟩
 iterate 3 (refine zlD (zbr a7) ?_)
 obtain ⟨d8,e6,h⟩:=zae h;refine ⟨_,⟨(by omega),zah e6,rfl⟩,?_⟩
 iterate 2 (refine zlD (zbr a7) ?_)
 refine zlE a7 ?_;cases h;exact zlG (eA []);replace a7:=zdd a7;obtain ⟨h,b7⟩:=ctd a7 h
 iterate 8 (refine zlE (zdb a7) ?_)
 refine zlD a7 ?_;cases h;exact zlG (eA []);replace a6:=zdd a6;obtain ⟨h,b6⟩:=ctd a6 h
 iterate 8 (refine zlE (zdb a6) ?_)
 refine zlD a6 ?_
 iterate 9 (refine zlE rfl ?_)
 refine zlD rfl ?_;cases h;exact zlG (eA []);replace a2:=zdd a2;obtain ⟨h,b5⟩:=ctd a2 h
 iterate 11 (refine zlE (zdb a2) ?_)
 refine zlD a2 ?_
 iterate 9 (refine zlE rfl ?_)
 refine zlD rfl ?_
 iterate 9 (refine zlE rfl ?_)
 refine zlD rfl ?_;cases h;exact zlG (eA []);replace h:=e8;refine zlC ?_ ?_<;>intro b8;replace h:=zbm b8 h;cases h;have a0:_=_:=a0;cases a0;replace h:some _=some _:=d9;cases h;exact ⟨rfl,rfl⟩;replace h:=zbk b8 h;obtain ⟨c6,h⟩:=zan h;refine zbp.mk c6 ?_;cases h;exact zlK _ a0 (eA []);obtain ⟨h,b4⟩:=cfd b3 h;cases h;have a0:_=_:=a0;cases a0;exact zdo.mk' _ rfl (eA []);rintro ⟨⟩ rfl hp;replace h:=zb8 d9;cases h;exact ⟨rfl,rfl⟩
theorem zll (m_:zaa) (r:Int) (h:Ok (.agg (zad m_))->zcs m_=some r):Sp Tryz.prog 27 [.im (.agg (zad m_))] (.im (nI r)):=by
 refine zb6 rfl [700001] rfl rfl rfl (zkE rfl) rfl fun hk=>?_;replace h:=h hk.1;have z1:lZ m_.Next:=zap (zlI hk.1 2 rfl);have z2:lZ m_.Out:=zap (zlI hk.1 3 rfl);unfold zcs at h;obtain ⟨d0,hc,a5⟩:=zlA h;clear h;have h:=hc;clear hc;refine Cut.mk (mkSt [(1,.im (.ref (zad m_))),(12,.im (nB d0))] [] []) (True) (hT) ?_ (fun hp=>?_);refine zlC ?_ ?_<;>intro a6;replace a6:=zdc a6;obtain ⟨h,a8⟩:=cfd a6 h
 iterate 2 (refine zlD (zbr a6) ?_)
 refine zlE a6 ?_;cases h;exact zlG (eA []);replace a6:=zdd a6;obtain ⟨h,a8⟩:=ctd a6 h
 iterate 2 (refine zlE (zdb a6) ?_)
 refine zlD a6 ?_;cases h;exact zlG (eA []);replace h:=a5;refine zlC ?_ ?_<;>intro b8;replace h:=zbm b8 h;cases h;exact ⟨rfl,rfl⟩;replace h:=zbk b8 h;refine zlF m_.Next.length zai ?_;refine zlC ?_ ?_<;>intro b9;obtain ⟨h,b2⟩:=ctd b9 h;cases h;exact ⟨rfl,rfl⟩;obtain ⟨h,b2⟩:=cfd b9 h;refine zlF m_.Next.length zai ?_;refine zlC ?_ ?_<;>intro c0;obtain ⟨h,b3⟩:=ctd c0 h;cases h;exact ⟨rfl,rfl⟩;obtain ⟨h,b3⟩:=cfd c0 h;obtain ⟨d1,hc,a9⟩:=zlA h;clear h;have h:=hc;clear hc;refine Cut.mk (mkSt [(1,.im (.ref (zad m_))),(31,.im (nB d1))] [] []) (True) (hT) ?_ (fun hp=>?_);refine zlC ?_ ?_<;>intro a2;replace a2:=zdc a2;obtain ⟨h,b4⟩:=cfd a2 h
 iterate 4 (refine zlD (zbr a2) ?_)
 refine zlF m_.Next.length zai ?_;refine zlD (zbr a2) ?_;refine zlE a2 ?_;cases h;exact zlG (eA []);replace a2:=zdd a2;obtain ⟨h,b4⟩:=ctd a2 h
 iterate 5 (refine zlE (zdb a2) ?_)
 refine zlD a2 ?_;cases h;exact zlG (eA []);replace h:=a9;refine zlC ?_ ?_<;>intro c6;replace h:=zbm c6 h;cases h;exact ⟨rfl,rfl⟩;replace h:=zbk c6 h;refine zlF m_.Out.length zai ?_;refine zlF m_.Next.length zai ?_;refine zlC ?_ ?_<;>intro c7;obtain ⟨h,b5⟩:=ctd c7 h;cases h;exact ⟨rfl,rfl⟩;obtain ⟨h,b5⟩:=cfd c7 h;obtain ⟨oc,hc,a3⟩:=zlA h;clear h;have h:=hc;clear hc;refine zlJ oc (Y:=Unit) (fun (_:Unit)=>mkSt [] [] []) (fun (_:Unit)=>True) (by rintro ⟨⟩;exact (hT)) ?_ ?_;refine zb5.iter (fun (s:Nat)=>zcs.s2 m_ s) (fun a7=>mkSt [(1,.im (.ref (zad m_))),(3,.im (nI (↑a7:Int)))] [] []) (fun a7=>True) h (eA []) (by rintro a7;exact (hT)) ?_;clear h;rintro k a7 o hp h a0;replace h:zcs.s2 m_ a7=some o:=h;unfold zcs.s2 at h;refine zlF m_.Next.length zai ?_;refine zlC ?_ ?_<;>intro c8;obtain ⟨h,b6⟩:=ctd c8 h;obtain ⟨d2,a4,h⟩:=zlA h;refine ⟨_,(sp_R06_row m_ (↑a7:Int) d2 (fun _ _=>a4)),?_⟩;refine zlC ?_ ?_<;>intro c9;obtain ⟨h,b7⟩:=ctd c9 h;cases h;have a0:_=_:=a0;cases a0;replace h:some _=some _:=a3;cases h;exact ⟨rfl,rfl⟩;obtain ⟨h,b7⟩:=cfd c9 h;refine zbp.mk (by show inR _;unfold inR;omega) ?_;cases h;exact zlK _ a0 (eA []);obtain ⟨h,b6⟩:=cfd c8 h;cases h;have a0:_=_:=a0;cases a0;exact zdo.mk' _ rfl (eA []);rintro ⟨⟩ rfl hp;replace h:=zb8 a3;cases h;exact ⟨rfl,rfl⟩
theorem sp_R06_Traces (m_:zaa) (words_:yaa) (r:List zab×Int) (h:Ok (.agg (zad m_))->Ok (nL (cL cI) words_)->zeb m_ words_=some r):Sp Tryz.prog 62 [.im (.agg (zad m_)),.im (nL (cL cI) words_)] (.tup [nL zag r.1,nI r.2]):=by
 refine zb6 rfl [700002] rfl rfl rfl (zkE rfl) rfl fun hk=>?_;replace h:=h hk.1 hk.2.1;have z1:lZ m_.Next:=zap (zlI hk.1 2 rfl);have z2:lZ m_.Out:=zap (zlI hk.1 3 rfl);have z3:lZ words_:=zap hk.2.1;unfold zeb at h;obtain ⟨d1,d8,h⟩:=zlA h;refine ⟨_,(zll m_ d1 (fun _=>d8)),?_⟩;refine zlC ?_ ?_<;>intro c9;obtain ⟨h,b7⟩:=ctd c9 h;cases h;exact ⟨rfl,rfl⟩;obtain ⟨h,b7⟩:=cfd c9 h;refine zlF words_.length zai ?_;refine zlC ?_ ?_<;>intro d0;obtain ⟨h,b8⟩:=ctd d0 h;cases h;exact ⟨rfl,rfl⟩;obtain ⟨h,b8⟩:=cfd d0 h;obtain ⟨oc,hc,a3⟩:=zlA h;clear h;have h:=hc;clear hc;refine zlJ oc (Y:=List zab) (fun a8=>mkSt [(7,.osl 64 1)] [(64,.row 58 2 (List.map zag a8))] []) (fun a8=>lZ a8∧True) (by rintro a8;exact ((Holds.kdl 64 rfl).and (hT))) ?_ ?_;refine zb5.iter (fun (s:List zab×Nat)=>zeb.s2 m_ words_ s.1 s.2) (fun (a7,b2)=>mkSt [(1,.im (nL (cL cI) words_)),(2,.im (.ref (zad m_))),(7,.osl 64 1),(8,.im (nI (↑b2:Int)))] [(64,.row 58 2 (List.map zag a7))] []) (fun (a7,b2)=>lZ words_∧lZ a7∧True) h (eA [(64,none)]) (by rintro ⟨a7,b2⟩;exact ((zlH 1 rfl).and ((Holds.kdl 64 rfl).and (hT)))) ?_;clear h;rintro k ⟨a7,b2⟩ o hp h a0;replace h:zeb.s2 m_ words_ a7 b2=some o:=h;unfold zeb.s2 at h;obtain ⟨d2,d3,_⟩:=hp;refine zlF words_.length zai ?_;refine zlC ?_ ?_<;>intro b3;obtain ⟨h,b4⟩:=ctd b3 h;obtain ⟨b9,d6,h⟩:=zae h;refine ⟨_,⟨(by omega),zah d6,rfl⟩,?_⟩;obtain ⟨c0,a4,h⟩:=zlA h;refine ⟨_,(zpd b9 m_.Inputs c0 (fun _ _=>a4)),?_⟩;refine zlC ?_ ?_<;>intro b5;obtain ⟨h,b6⟩:=ctd b5 h;cases h;have a0:_=_:=a0;cases a0;replace h:some _=some _:=a3;cases h;exact ⟨rfl,rfl⟩;obtain ⟨h,b6⟩:=cfd b5 h;obtain ⟨c6,a5,h⟩:=zae h;refine ⟨_,⟨(by omega),zah a5,rfl⟩,?_⟩;obtain ⟨a2,d5,h⟩:=zlA h;refine ⟨_,(sp_R06_Outs m_ m_.Start c6 a2 (fun _ _ _=>d5)),?_⟩;obtain ⟨c7,d7,h⟩:=zae h;refine ⟨_,⟨(by omega),zah d7,rfl⟩,?_⟩;obtain ⟨a6,a9,h⟩:=zlA h;refine ⟨_,(zm3 [c7] a6 (fun _=>a9)).im,?_⟩;obtain ⟨c8,h⟩:=zan h;refine zlB ⟨rfl,zca (l:=[(⟨a6,a2.1⟩:zab)]) (c:=zag) fun _=>rfl,show zaz _ 48 by simpa only [zkK,zkL,yaw,yai] using c8⟩ ?_;refine zlF (List.map zag (a7++[(⟨a6,a2.1⟩:zab)])) (zb9 (l:=a7) (m:=[(⟨a6,a2.1⟩:zab)]) (c:=zag)) ?_;refine zbp.mk (by show inR _;unfold inR;omega) ?_;cases h;exact zlK _ a0 (eA [(64,some 64)]);obtain ⟨h,b4⟩:=cfd b3 h;cases h;have a0:_=_:=a0;cases a0;exact zdo.mk' _ rfl (eA [(64,some 64)]);rintro a8 rfl hp;replace h:=zb8 a3;obtain ⟨d4,_⟩:=hp;cases h;exact zlB ⟨rfl,trivial⟩ ⟨rfl,rfl⟩
theorem sp_R16_Proper (t_:zab) (inputs_:Int) (r:Int) (h:Ok (.agg (zag t_))->Ok (nI inputs_)->zd7 t_ inputs_=some r):Sp Tryz.prog 40 [.im (.agg (zag t_)),.im (nI inputs_)] (.im (nI r)):=by
 refine zb6 rfl [700002] rfl rfl rfl (zkE rfl) rfl fun hk=>?_;replace h:=h hk.1 hk.2.1;have z1:lZ t_.In:=zap (zlI hk.1 0 rfl);have z2:lZ t_.Out:=zap (zlI hk.1 1 rfl);unfold zd7 at h;obtain ⟨b9,c7,h⟩:=zlA h;refine ⟨_,(zpd t_.In inputs_ b9 (fun _ _=>c7)),?_⟩;refine zlC ?_ ?_<;>intro b7;obtain ⟨h,b4⟩:=ctd b7 h;cases h;exact ⟨rfl,rfl⟩;obtain ⟨h,b4⟩:=cfd b7 h;refine zlF t_.Out.length zai ?_;refine zlF t_.In.length zai ?_;refine zlC ?_ ?_<;>intro b8;obtain ⟨h,b5⟩:=ctd b8 h;cases h;exact ⟨rfl,rfl⟩;obtain ⟨h,b5⟩:=cfd b8 h;obtain ⟨oc,hc,a3⟩:=zlA h;clear h;have h:=hc;clear hc;refine zlJ oc (Y:=Unit) (fun (_:Unit)=>mkSt [] [] []) (fun (_:Unit)=>True) (by rintro ⟨⟩;exact (hT)) ?_ ?_;refine zb5.iter (fun (s:Nat)=>zd7.s2 t_ s) (fun a6=>mkSt [(2,.im (.ref (zag t_))),(6,.im (nI (↑a6:Int)))] [] []) (fun a6=>True) h (eA []) (by rintro a6;exact (hT)) ?_;clear h;rintro k a6 o hp h a0;replace h:zd7.s2 t_ a6=some o:=h;unfold zd7.s2 at h;refine zlF t_.Out.length zai ?_;refine zlC ?_ ?_<;>intro a7;obtain ⟨h,a8⟩:=ctd a7 h;obtain ⟨b6,hc,a4⟩:=zlA h;clear h;have h:=hc;clear hc;refine Cut.mk (mkSt [(2,.im (.ref (zag t_))),(6,.im (nI (↑a6:Int))),(41,.im (nB b6))] [] []) (True) (hT) ?_ (fun hp=>?_);obtain ⟨c0,a5,h⟩:=zae h;refine ⟨_,⟨(by omega),zah a5,rfl⟩,?_⟩;refine zlC ?_ ?_<;>intro a2;replace a2:=zdc a2;obtain ⟨h,b2⟩:=cfd a2 h
 iterate 3 (refine zlD (zbr a2) ?_)
 obtain ⟨c6,a9,h⟩:=zae h;refine ⟨_,⟨(by omega),zah a9,rfl⟩,?_⟩
 iterate 2 (refine zlD (zbr a2) ?_)
 refine zlE a2 ?_;cases h;exact zlG (eA []);replace a2:=zdd a2;obtain ⟨h,b2⟩:=ctd a2 h
 iterate 5 (refine zlE (zdb a2) ?_)
 refine zlD a2 ?_;cases h;exact zlG (eA []);replace h:=a4;refine zlC ?_ ?_<;>intro b3;replace h:=zbm b3 h;cases h;have a0:_=_:=a0;cases a0;replace h:some _=some _:=a3;cases h;exact ⟨rfl,rfl⟩;replace h:=zbk b3 h;refine zbp.mk (by show inR _;unfold inR;omega) ?_;cases h;exact zlK _ a0 (eA []);obtain ⟨h,a8⟩:=cfd a7 h;cases h;have a0:_=_:=a0;cases a0;exact zdo.mk' _ rfl (eA []);rintro ⟨⟩ rfl hp;replace h:=zb8 a3;cases h;exact ⟨rfl,rfl⟩
theorem zhi (a_:yab) (b_:yab) (r:Int) (h:Ok (nL cI a_)->Ok (nL cI b_)->zdy a_ b_=some r):Sp Tryz.prog 37 [.im (nL cI a_),.im (nL cI b_)] (.im (nI r)):=by
 refine zb6 rfl [] rfl rfl rfl (zkE rfl) rfl fun hk=>?_;replace h:=h hk.1 hk.2.1;have z1:lZ a_:=zap hk.1;have z2:lZ b_:=zap hk.2.1;unfold zdy at h;obtain ⟨b4,hc,a9⟩:=zlA h;clear h;have h:=hc;clear hc;refine Cut.mk (mkSt [(5,.im (nI (↑b4:Int)))] [] []) (True) (hT) ?_ (fun hp=>?_);refine zb5.iter (fun (s:Nat)=>zdy.s2 a_ b_ s) (fun a7=>mkSt [(0,.im (nL cI a_)),(1,.im (nL cI b_)),(5,.im (nI (↑a7:Int)))] [] []) (fun a7=>lZ a_∧lZ b_∧True) h (eA []) (by rintro a7;exact ((zlH 0 rfl).and ((zlH 1 rfl).and (hT)))) ?_;clear h;rintro k a7 o hp h a0;replace h:zdy.s2 a_ b_ a7=some o:=h;unfold zdy.s2 at h;obtain ⟨b7,b8,_⟩:=hp;obtain ⟨b5,hc,a3⟩:=zlA h;clear h;have h:=hc;clear hc;refine Cut.mk (mkSt [(0,.im (nL cI a_)),(1,.im (nL cI b_)),(5,.im (nI (↑a7:Int))),(26,.im (nB b5))] [] []) (lZ a_∧lZ b_∧True) ((zlH 0 rfl).and ((zlH 1 rfl).and (hT))) ?_ (fun hp=>?_);refine zlF a_.length zai ?_;refine zlC ?_ ?_<;>intro a6;replace a6:=zc1 a6;obtain ⟨h,a8⟩:=ctd a6 h
 iterate 2 (refine zlD (zbj a6) ?_)
 refine zlF b_.length zai ?_;refine zlD (zbj a6) ?_;refine zlD a6 ?_;refine zlC ?_ ?_<;>intro a2;replace a2:=zc1 a2;obtain ⟨h,b2⟩:=ctd a2 h
 iterate 2 (refine zlD (zbj a2) ?_)
 obtain ⟨b9,a4,h⟩:=zae h;refine ⟨_,⟨(by omega),zah a4,rfl⟩,?_⟩
 iterate 4 (refine zlD (zbj a2) ?_)
 obtain ⟨c0,a5,h⟩:=zae h;refine ⟨_,⟨(by omega),zah a5,rfl⟩,?_⟩
 iterate 2 (refine zlD (zbj a2) ?_)
 refine zlD a2 ?_;cases h;exact zlG (eA []);replace a2:=zcz a2;obtain ⟨h,b2⟩:=cfd a2 h
 iterate 8 (refine zlE (zdi a2) ?_)
 refine zlE a2 ?_;cases h;exact zlG (eA []);replace a6:=zcz a6;obtain ⟨h,a8⟩:=cfd a6 h
 iterate 3 (refine zlE (zdi a6) ?_)
 refine zlE a6 ?_
 iterate 10 (refine zlE rfl ?_)
 cases h;exact zlG (eA []);replace h:=a3;obtain ⟨c6,c7,_⟩:=hp;refine zlC ?_ ?_<;>intro b3;replace h:=zbm b3 h;obtain ⟨b6,h⟩:=zan h;refine zbp.mk b6 ?_;cases h;exact zlK _ a0 (eA []);replace h:=zbk b3 h;cases h;have a0:_=_:=a0;cases a0;exact zlG (eA []);replace h:=a9;cases h;exact ⟨rfl,rfl⟩
theorem sp_R16_Differ (a_:zab) (b_:zab) (r:Int) (h:Ok (.agg (zag a_))->Ok (.agg (zag b_))->zec a_ b_=some r):Sp Tryz.prog 74 [.im (.agg (zag a_)),.im (.agg (zag b_))] (.im (nI r)):=by
 refine zb6 rfl [700002,700003] rfl rfl rfl (zkE rfl) rfl fun hk=>?_;replace h:=h hk.1 hk.2.1;have z1:lZ a_.In:=zap (zlI hk.1 0 rfl);have z2:lZ a_.Out:=zap (zlI hk.1 1 rfl);have z3:lZ b_.In:=zap (zlI hk.2.1 0 rfl);have z4:lZ b_.Out:=zap (zlI hk.2.1 1 rfl);unfold zec at h;obtain ⟨a6,a5,h⟩:=zlA h;refine ⟨_,(zhi a_.In b_.In a6 (fun _ _=>a5)),?_⟩;obtain ⟨oc,hc,a3⟩:=zlA h;clear h;have h:=hc;clear hc;refine zlJ oc (Y:=Unit) (fun (_:Unit)=>mkSt [] [] []) (fun (_:Unit)=>True) (by rintro ⟨⟩;exact (hT)) ?_ ?_;refine zb5.iter (fun (s:Nat)=>zec.s2 a_ b_ a6 s) (fun a2=>mkSt [(2,.im (.ref (zag a_))),(3,.im (.ref (zag b_))),(5,.im (nI a6)),(6,.im (nI (↑a2:Int)))] [] []) (fun a2=>True) h (eA []) (by rintro a2;exact (hT)) ?_;clear h;rintro k a2 o hp h a0;replace h:zec.s2 a_ b_ a6 a2=some o:=h;unfold zec.s2 at h;refine zlC ?_ ?_<;>intro b2;obtain ⟨h,a7⟩:=ctd b2 h;obtain ⟨b5,a4,h⟩:=zae h;refine ⟨_,⟨(by omega),zah a4,rfl⟩,?_⟩;obtain ⟨b6,a9,h⟩:=zae h;refine ⟨_,⟨(by omega),zah a9,rfl⟩,?_⟩;refine zlC ?_ ?_<;>intro b3;obtain ⟨h,a8⟩:=ctd b3 h;cases h;have a0:_=_:=a0;cases a0;replace h:some _=some _:=a3;cases h;exact ⟨rfl,rfl⟩;obtain ⟨h,a8⟩:=cfd b3 h;obtain ⟨b4,h⟩:=zan h;refine zbp.mk b4 ?_;cases h;exact zlK _ a0 (eA []);obtain ⟨h,a7⟩:=cfd b2 h;cases h;have a0:_=_:=a0;cases a0;exact zdo.mk' _ rfl (eA []);rintro ⟨⟩ rfl hp;replace h:=zb8 a3;cases h;exact ⟨rfl,rfl⟩
theorem zkh (w_:yab) (p_:yab) (r:Bool) (h:Ok (nL cI w_)->Ok (nL cI p_)->zer w_ p_=some r):Sp Tryz.prog 73 [.im (nL cI w_),.im (nL cI p_)] (.im (nB r)):=by
 refine zb6 rfl [] rfl rfl rfl (zkE rfl) rfl fun hk=>?_;replace h:=h hk.1 hk.2.1;have z1:lZ w_:=zap hk.1;have z2:lZ p_:=zap hk.2.1;unfold zer at h;obtain ⟨a2,a0,h⟩:=zlA h;refine ⟨_,(zhi w_ p_ a2 (fun _ _=>a0)),?_⟩;refine zlF p_.length zai ?_;cases h;exact ⟨rfl,rfl⟩
theorem sp_R01_Lex (a_:yab) (b_:yab) (r:Int) (h:Ok (nL cI a_)->Ok (nL cI b_)->zsj a_ b_=some r):Sp Tryz.prog 72 [.im (nL cI a_),.im (nL cI b_)] (.im (nI r)):=by
 refine zb6 rfl [] rfl rfl rfl (zkE rfl) rfl fun hk=>?_;replace h:=h hk.1 hk.2.1;have z1:lZ a_:=zap hk.1;have z2:lZ b_:=zap hk.2.1;unfold zsj at h;obtain ⟨b3,a5,h⟩:=zlA h;refine ⟨_,(zhi a_ b_ b3 (fun _ _=>a5)),?_⟩;obtain ⟨b7,hc,a9⟩:=zlA h;clear h;have h:=hc;clear hc;refine Cut.mk (mkSt [(0,.im (nL cI a_)),(1,.im (nL cI b_)),(5,.im (nI b3)),(9,.im (nB b7))] [] []) (lZ a_∧lZ b_∧True) ((zlH 0 rfl).and ((zlH 1 rfl).and (hT))) ?_ (fun hp=>?_);refine zlF a_.length zai ?_;refine zlC ?_ ?_<;>intro a6;replace a6:=zc1 a6;obtain ⟨h,a7⟩:=ctd a6 h
 iterate 2 (refine zlD (zbj a6) ?_)
 refine zlF b_.length zai ?_;refine zlD (zbj a6) ?_;refine zlD a6 ?_;cases h;exact zlG (eA []);replace a6:=zcz a6;obtain ⟨h,a7⟩:=cfd a6 h
 iterate 3 (refine zlE (zdi a6) ?_)
 refine zlE a6 ?_;cases h;exact zlG (eA []);replace h:=a9;obtain ⟨b9,c0,_⟩:=hp;refine zlC ?_ ?_<;>intro b4;replace h:=zbm b4 h;cases h;exact ⟨rfl,rfl⟩;replace h:=zbk b4 h;obtain ⟨b8,hc,c9⟩:=zlA h;clear h;have h:=hc;clear hc;refine Cut.mk (mkSt [(20,.im (nB b8))] [] []) (True) (hT) ?_ (fun hp=>?_);refine zlF a_.length zai ?_;refine zlC ?_ ?_<;>intro b5;obtain ⟨h,a8⟩:=ctd b5 h;cases h;exact zlG (eA []);obtain ⟨h,a8⟩:=cfd b5 h;refine zlF b_.length zai ?_;refine zlC ?_ ?_<;>intro a2;replace a2:=zc1 a2;obtain ⟨h,b2⟩:=ctd a2 h
 iterate 2 (refine zlD (zbj a2) ?_)
 obtain ⟨c6,a0,a4,h⟩:=zau h;refine ⟨_,⟨a0,zah a4,rfl⟩,?_⟩
 iterate 4 (refine zlD (zbj a2) ?_)
 obtain ⟨c7,a3,c8,h⟩:=zau h;refine ⟨_,⟨a3,zah c8,rfl⟩,?_⟩
 iterate 2 (refine zlD (zbj a2) ?_)
 refine zlD a2 ?_;cases h;exact zlG (eA []);replace a2:=zcz a2;obtain ⟨h,b2⟩:=cfd a2 h
 iterate 8 (refine zlE (zdi a2) ?_)
 refine zlE a2 ?_;cases h;exact zlG (eA []);replace h:=c9;refine zlC ?_ ?_<;>intro b6;replace h:=zbm b6 h;cases h;exact ⟨rfl,rfl⟩;replace h:=zbk b6 h;cases h;exact ⟨rfl,rfl⟩
theorem zsw (a_:yab) (b_:yab) (r:Int) (h:Ok (nL cI a_)->Ok (nL cI b_)->zgo a_ b_=some r):Sp Tryz.prog 41 [.im (nL cI a_),.im (nL cI b_)] (.im (nI r)):=by
 refine zb6 rfl [] rfl rfl rfl (zkE rfl) rfl fun hk=>?_;replace h:=h hk.1 hk.2.1;have z1:lZ a_:=zap hk.1;have z2:lZ b_:=zap hk.2.1;unfold zgo at h;refine zlF a_.length zai ?_;refine zlF b_.length zai ?_;refine zlC ?_ ?_<;>intro a7;obtain ⟨h,a2⟩:=ctd a7 h;cases h;exact ⟨rfl,rfl⟩;obtain ⟨h,a2⟩:=cfd a7 h;refine zlF a_.length zai ?_;refine zlF b_.length zai ?_;refine zlC ?_ ?_<;>intro a8;obtain ⟨h,a6⟩:=ctd a8 h;cases h;exact ⟨rfl,rfl⟩;obtain ⟨h,a6⟩:=cfd a8 h;obtain ⟨b2,a0,h⟩:=zlA h;refine ⟨_,(sp_R01_Lex a_ b_ b2 (fun _ _=>a0)),?_⟩;cases h;exact ⟨rfl,rfl⟩
theorem zjl (t_:zab) (r:zab) (h:Ok (.agg (zag t_))->zgn t_=some r):Sp Tryz.prog 153 [.im (.agg (zag t_))] (.im (.agg (zag r))):=by
 refine zb6 rfl [700001] rfl rfl rfl (zkE rfl) rfl fun hk=>?_;replace h:=h hk.1;have z1:lZ t_.In:=zap (zlI hk.1 0 rfl);have z2:lZ t_.Out:=zap (zlI hk.1 1 rfl);unfold zgn at h;obtain ⟨a2,a0,h⟩:=zlA h;refine ⟨_,(zm3 [t_.In] a2 (fun _=>a0)).im,?_⟩;obtain ⟨a6,a3,h⟩:=zlA h;refine ⟨_,(zm3 [t_.Out] a6 (fun _=>a3)).im,?_⟩;refine zlB rfl ?_;cases h;refine zlB ⟨rfl,trivial⟩ ?_;exact ⟨rfl,rfl⟩
theorem sp_R16_add (o_:zar) (t_:zab) (r:zar) (h:Ok (.agg (zb0 o_))->Ok (.agg (zag t_))->zc8 o_ t_=some r):Sp Tryz.prog 135 [.im (.agg (zb0 o_)),.im (.agg (zag t_))] (.im (.agg (zb0 r))):=by
 refine zb6 rfl [700002,700003] rfl rfl rfl (zkE rfl) rfl fun hk=>?_;replace h:=h hk.1 hk.2.1;have z1:lZ o_.Traces:=zap (zlI hk.1 1 rfl);have z2:lZ t_.In:=zap (zlI hk.2.1 0 rfl);have z3:lZ t_.Out:=zap (zlI hk.2.1 1 rfl);unfold zc8 at h;refine zlB rfl ?_;refine zlF t_.In.length zai ?_;obtain ⟨f8,hc,h2⟩:=zlA h;clear h;have h:=hc;clear hc;refine Cut.mk (mkSt [(2,.im (.ref (zb0 o_))),(3,.im (.ref (zag t_))),(4,.own 97 1 0),(5,.own 98 1 0),(6,.im (nB f8))] [(97,.box 50 2),(98,.box 50 2)] [(97,0,.im (nI 0)),(97,1,.im (.val (.slice none 0 0))),(98,0,.im (nI o_.Inputs)),(98,1,.im (.val (.slice none 0 0)))]) (True) (hT) ?_ (fun hp=>?_);refine zb5.iter (fun (s:Bool×Nat)=>zc8.s2 o_ t_ s.1 s.2) (fun (a3,b9)=>mkSt [(2,.im (.ref (zb0 o_))),(3,.im (.ref (zag t_))),(4,.own 97 1 0),(5,.own 98 1 0),(6,.im (nB a3)),(7,.im (nI (↑b9:Int)))] [(97,.box 50 2),(98,.box 50 2)] [(97,0,.im (nI 0)),(97,1,.im (.val (.slice none 0 0))),(98,0,.im (nI o_.Inputs)),(98,1,.im (.val (.slice none 0 0)))]) (fun (a3,b9)=>True) h (eA [(97,some 4),(98,some 5)]) (by rintro ⟨a3,b9⟩;exact (hT)) ?_;clear h;rintro k ⟨a3,b9⟩ o hp h f6;replace h:zc8.s2 o_ t_ a3 b9=some o:=h;unfold zc8.s2 at h;refine zlF o_.Traces.length zai ?_;refine zlC ?_ ?_<;>intro d9;obtain ⟨h,d1⟩:=ctd d9 h;refine zlC ?_ ?_<;>intro b4;replace b4:=zdc b4;replace h:=zbk b4 h
 iterate 3 (refine zlD (zbr b4) ?_)
 obtain ⟨e0,h3,h⟩:=zae h;refine ⟨_,⟨(by omega),zah h3,rfl⟩,?_⟩
 iterate 5 (refine zlD (zbr b4) ?_)
 obtain ⟨e1,h0,h⟩:=zlA h;refine ⟨_,(zkh e0.In t_.In e1 (fun _ _=>h0)),?_⟩;refine zlE b4 ?_;refine zbp.mk (by show inR _;unfold inR;omega) ?_;cases h;exact zlK _ f6 (eA [(97,some 97),(98,some 98)]);replace b4:=zdd b4;replace h:=zbm b4 h
 iterate 8 (refine zlE (zdb b4) ?_)
 refine zlD b4 ?_;refine zbp.mk (by show inR _;unfold inR;omega) ?_;cases h;exact zlK _ f6 (eA [(97,some 97),(98,some 98)]);obtain ⟨h,d1⟩:=cfd d9 h;cases h;have f6:_=_:=f6;cases f6;exact zlG (eA [(97,some 97),(98,some 98)]);replace h:=h2;obtain ⟨⟨b5,a9⟩,hc,h4⟩:=zlA h;clear h;have h:=hc;clear hc;refine Cut.mk (mkSt [(3,.im (.ref (zag t_))),(4,.own 97 1 0),(5,.own 98 1 0),(6,.im (nB a9))] [(97,.box 50 2),(98,.box 50 2),(99,.row 58 2 (List.map zag b5))] [(97,0,.im (nI 0)),(97,1,.im (.val (.slice none 0 0))),(98,0,.im (nI o_.Inputs)),(98,1,.osl 99 1)]) (lZ b5∧True) ((Holds.kdl 99 rfl).and (hT)) ?_ (fun hp=>?_);refine zb5.iter (fun (s:List zab×Bool×Nat)=>zc8.s10 o_ t_ s.1 s.2.1 s.2.2) (fun (a8,a0,b2)=>mkSt [(2,.im (.ref (zb0 o_))),(3,.im (.ref (zag t_))),(4,.own 97 1 0),(5,.own 98 1 0),(6,.im (nB a0)),(8,.im (nI (↑b2:Int)))] [(97,.box 50 2),(98,.box 50 2),(99,.row 58 2 (List.map zag a8))] [(97,0,.im (nI 0)),(97,1,.im (.val (.slice none 0 0))),(98,0,.im (nI o_.Inputs)),(98,1,.osl 99 1)]) (fun (a8,a0,b2)=>lZ a8∧True) h (Ent.mk [(97,some 97),(98,some 98),(99,none)] rfl ⟨eI rfl rfl,eI rfl rfl,⟨.own 97 _ 0,rfl,.own rfl rfl rfl⟩,⟨.own 98 _ 0,rfl,.own rfl rfl rfl⟩,eI rfl rfl,eI rfl rfl,trivial⟩ ⟨.inl ⟨97,rfl,rfl,trivial⟩,.inl ⟨98,rfl,rfl,trivial⟩,.inr ⟨rfl,rfl,.inl ⟨_,_,rfl,by decide⟩⟩,trivial⟩ ⟨⟨97,.im _,rfl,rfl,.im (Sub.rfl' rfl)⟩,⟨97,.im (.val (.slice none 0 0)),rfl,rfl,.im (Sub.rfl' rfl)⟩,⟨98,.im _,rfl,rfl,.im (Sub.rfl' rfl)⟩,⟨98,.im (.val (.slice none 0 0)),rfl,rfl,.made rfl rfl⟩,trivial⟩) (by rintro ⟨a8,a0,b2⟩;exact ((Holds.kdl 99 rfl).and (hT))) ?_;clear h;rintro k ⟨a8,a0,b2⟩ o hp h a5;replace h:zc8.s10 o_ t_ a8 a0 b2=some o:=h;unfold zc8.s10 at h;obtain ⟨e2,_⟩:=hp;refine zlF o_.Traces.length zai ?_;refine zlC ?_ ?_<;>intro c0;obtain ⟨h,c6⟩:=ctd c0 h;obtain ⟨a2,g6,h⟩:=zae h;refine ⟨_,⟨(by omega),zah g6,rfl⟩,?_⟩;refine zlB rfl ?_;obtain ⟨⟨b3,a4⟩,hc,g9⟩:=zlA h;clear h;have h:=hc;clear hc;refine Cut.mk (mkSt [(2,.im (.ref (zb0 o_))),(3,.im (.ref (zag t_))),(4,.own 97 1 0),(5,.own 98 1 0),(6,.im (nB a4)),(8,.im (nI (↑b2:Int))),(9,.own 100 1 0)] [(97,.box 50 2),(98,.box 50 2),(99,.row 58 2 (List.map zag b3)),(100,.box 58 2)] [(97,0,.im (nI 0)),(97,1,.im (.val (.slice none 0 0))),(98,0,.im (nI o_.Inputs)),(98,1,.osl 99 1),(100,0,.im (nL cI a2.In)),(100,1,.im (nL cI a2.Out))]) (lZ b3∧lZ a2.In∧lZ a2.Out∧True) ((Holds.kdl 99 rfl).and ((Holds.cel 100 0 rfl (by decide) rfl).and ((Holds.cel 100 1 rfl (by decide) rfl).and (hT)))) ?_ (fun hp=>?_);obtain ⟨d2,hc,g7⟩:=zlA h;clear h;have h:=hc;clear hc;refine Cut.mk (mkSt [(2,.im (.ref (zb0 o_))),(3,.im (.ref (zag t_))),(4,.own 97 1 0),(5,.own 98 1 0),(6,.im (nB a0)),(8,.im (nI (↑b2:Int))),(9,.own 100 1 0),(57,.im (nB d2))] [(97,.box 50 2),(98,.box 50 2),(99,.row 58 2 (List.map zag a8)),(100,.box 58 2)] [(97,0,.im (nI 0)),(97,1,.im (.val (.slice none 0 0))),(98,0,.im (nI o_.Inputs)),(98,1,.osl 99 1),(100,0,.im (nL cI a2.In)),(100,1,.im (nL cI a2.Out))]) (lZ a8∧lZ a2.In∧lZ a2.Out∧True) ((Holds.kdl 99 rfl).and ((Holds.cel 100 0 rfl (by decide) rfl).and ((Holds.cel 100 1 rfl (by decide) rfl).and (hT)))) ?_ (fun hp=>?_);refine zlC ?_ ?_<;>intro a7;replace a7:=zc1 a7;replace h:=zbm a7 h
 iterate 2 (refine zlD (zbj a7) ?_)
 refine zlB rfl ?_;refine zlD (zbj a7) ?_;refine zlB rfl ?_;refine zlD (zbj a7) ?_;obtain ⟨d3,g2,h⟩:=zlA h;refine ⟨_,(zsw t_.In a2.In d3 (fun _ _=>g2)),?_⟩;refine zlD (zbj a7) ?_;refine zlD a7 ?_;cases h;exact zlG (eA [(97,some 97),(98,some 98),(99,some 99),(100,some 9)]);replace a7:=zcz a7;replace h:=zbk a7 h
 iterate 5 (refine zlE (zdi a7) ?_)
 refine zlE a7 ?_;cases h;exact zlG (eA [(97,some 97),(98,some 98),(99,some 99),(100,some 9)]);replace h:=g7;obtain ⟨e3,e4,e5,_⟩:=hp;refine zlC ?_ ?_<;>intro c7;replace h:=zbm c7 h;refine zlB rfl ?_;refine zlB rfl ?_;obtain ⟨b6,g4,h⟩:=zlA h;refine ⟨_,(zjl t_ b6 (fun _=>g4)),?_⟩;obtain ⟨d4,h⟩:=zan h;refine zlB ⟨rfl,zca (l:=[b6]) (c:=zag) fun _=>rfl,show zaz _ 48 by simpa only [zkK,zkL,yaw,yai] using d4⟩ ?_;refine zlF (List.map zag (a8++[b6])) (zb9 (l:=a8) (m:=[b6]) (c:=zag)) ?_;refine zlB rfl ?_;refine zlB rfl ?_;cases h;exact zlG (eA [(97,some 97),(98,some 98),(99,some 99),(100,some 100)]);replace h:=zbk c7 h;cases h;exact zlG (eA [(97,some 97),(98,some 98),(99,some 99),(100,some 100)]);replace h:zc8.k9 t_ b2 a2 b3 a4=some _:=g9;unfold zc8.k9 at h;obtain ⟨e6,e7,e8,_⟩:=hp;obtain ⟨d5,hc,f9⟩:=zlA h;clear h;have h:=hc;clear hc;refine Cut.mk (mkSt [(2,.im (.ref (zb0 o_))),(3,.im (.ref (zag t_))),(4,.own 97 1 0),(5,.own 98 1 0),(6,.im (nB a4)),(8,.im (nI (↑b2:Int))),(9,.own 100 1 0),(79,.im (nB d5))] [(97,.box 50 2),(98,.box 50 2),(99,.row 58 2 (List.map zag b3)),(100,.box 58 2)] [(97,0,.im (nI 0)),(97,1,.im (.val (.slice none 0 0))),(98,0,.im (nI o_.Inputs)),(98,1,.osl 99 1),(100,0,.im (nL cI a2.In)),(100,1,.im (nL cI a2.Out))]) (lZ b3∧lZ a2.In∧lZ a2.Out∧True) ((Holds.kdl 99 rfl).and ((Holds.cel 100 0 rfl (by decide) rfl).and ((Holds.cel 100 1 rfl (by decide) rfl).and (hT)))) ?_ (fun hp=>?_);refine zlB rfl ?_;refine zlB rfl ?_;obtain ⟨d6,g1,h⟩:=zlA h;refine ⟨_,(zkh t_.In a2.In d6 (fun _ _=>g1)),?_⟩;refine zlC ?_ ?_<;>intro a6;replace a6:=zdc a6;replace h:=zbk a6 h
 iterate 2 (refine zlD (zbr a6) ?_)
 refine zlF t_.In.length zai ?_;refine zlD (zbr a6) ?_;refine zlB rfl ?_;refine zlD (zbr a6) ?_;refine zlB rfl ?_;refine zlD (zbr a6) ?_;refine zlF a2.In.length zai ?_;refine zlD (zbr a6) ?_;refine zlE a6 ?_;cases h;exact zlG (eA [(97,some 97),(98,some 98),(99,some 99),(100,some 100)]);replace a6:=zdd a6;replace h:=zbm a6 h
 iterate 6 (refine zlE (zdb a6) ?_)
 refine zlD a6 ?_;cases h;exact zlG (eA [(97,some 97),(98,some 98),(99,some 99),(100,some 100)]);replace h:=f9;obtain ⟨e9,f3,f4,_⟩:=hp;refine zlC ?_ ?_<;>intro c8;replace h:=zbm c8 h;refine zlB rfl ?_;refine zlB rfl ?_;refine zlB rfl ?_;obtain ⟨b7,g8,h⟩:=zlA h;refine ⟨_,(zjl a2 b7 (fun _=>g8)),?_⟩;obtain ⟨d7,h⟩:=zan h;refine zlB ⟨rfl,zca (l:=[b7]) (c:=zag) fun _=>rfl,show zaz _ 48 by simpa only [zkK,zkL,yaw,yai] using d7⟩ ?_;refine zlF (List.map zag (b3++[b7])) (zb9 (l:=b3) (m:=[b7]) (c:=zag)) ?_;refine zlB rfl ?_;refine zlB rfl ?_;refine zbp.mk (by show inR _;unfold inR;omega) ?_;cases h;exact zlK _ a5 (eA [(97,some 97),(98,some 98),(99,some 99)]);replace h:=zbk c8 h;refine zbp.mk (by show inR _;unfold inR;omega) ?_;cases h;exact zlK _ a5 (eA [(97,some 97),(98,some 98),(99,some 99)]);obtain ⟨h,c6⟩:=cfd c0 h;cases h;have a5:_=_:=a5;cases a5;exact zlG (eA [(97,some 97),(98,some 98),(99,some 99)]);replace h:zc8.k11 o_ t_ b5 a9=some _:=h4;unfold zc8.k11 at h;obtain ⟨f5,_⟩:=hp;obtain ⟨c9,hc,g3⟩:=zlA h;clear h;have h:=hc;clear hc;refine Cut.mk (mkSt [(4,.own 97 1 0),(5,.own 98 1 0)] [(97,.box 50 2),(98,.box 50 2),(99,.row 58 2 (List.map zag c9))] [(97,0,.im (nI 0)),(97,1,.im (.val (.slice none 0 0))),(98,0,.im (nI o_.Inputs)),(98,1,.osl 99 1)]) (lZ c9∧True) ((Holds.kdl 99 rfl).and (hT)) ?_ (fun hp=>?_);refine zlC ?_ ?_<;>intro d0;replace h:=zbm d0 h;refine zlB rfl ?_;refine zlB rfl ?_;obtain ⟨b8,g5,h⟩:=zlA h;refine ⟨_,(zjl t_ b8 (fun _=>g5)),?_⟩;obtain ⟨d8,h⟩:=zan h;refine zlB ⟨rfl,zca (l:=[b8]) (c:=zag) fun _=>rfl,show zaz _ 48 by simpa only [zkK,zkL,yaw,yai] using d8⟩ ?_;refine zlF (List.map zag (b5++[b8])) (zb9 (l:=b5) (m:=[b8]) (c:=zag)) ?_;refine zlB rfl ?_;refine zlB rfl ?_;cases h;exact zlG (eA [(97,some 97),(98,some 98),(99,some 99)]);replace h:=zbk d0 h;cases h;exact zlG (eA [(97,some 97),(98,some 98),(99,some 99)]);replace h:=g3;obtain ⟨f7,_⟩:=hp;refine zlB rfl ?_;refine zlB rfl ?_;cases h;refine zlB ⟨rfl,trivial⟩ ?_;exact zlB ⟨rfl,trivial⟩ ⟨rfl,rfl⟩
theorem sp_R16_Add (o_:zar) (t_:zab) (r:zar×Int) (h:Ok (.agg (zb0 o_))->Ok (.agg (zag t_))->zhc o_ t_=some r):Sp Tryz.prog 102 [.im (.agg (zb0 o_)),.im (.agg (zag t_))] (.tup [.agg (zb0 r.1),nI r.2]):=by
 refine zb6 rfl [700002,700003] rfl rfl rfl (zkE rfl) rfl fun hk=>?_;replace h:=h hk.1 hk.2.1;have z1:lZ o_.Traces:=zap (zlI hk.1 1 rfl);have z2:lZ t_.In:=zap (zlI hk.2.1 0 rfl);have z3:lZ t_.Out:=zap (zlI hk.2.1 1 rfl);unfold zhc at h;obtain ⟨b8,c6,h⟩:=zlA h;refine ⟨_,(sp_R16_Proper t_ o_.Inputs b8 (fun _ _=>c6)),?_⟩;refine zlC ?_ ?_<;>intro b3;obtain ⟨h,a6⟩:=ctd b3 h;refine zlB rfl ?_;cases h;refine zlB ⟨rfl,trivial⟩ ?_;exact ⟨rfl,rfl⟩;obtain ⟨h,a6⟩:=cfd b3 h;obtain ⟨oc,hc,a3⟩:=zlA h;clear h;have h:=hc;clear hc;refine zlJ oc (Y:=Unit) (fun (_:Unit)=>mkSt [(2,.im (.ref (zb0 o_))),(3,.im (.ref (zag t_))),(4,.own 64 1 0)] [(64,.box 50 2)] [(64,0,.im (nI 0)),(64,1,.im (.val (.slice none 0 0)))]) (fun (_:Unit)=>True) (by rintro ⟨⟩;exact (hT)) ?_ ?_;refine zb5.iter (fun (s:Nat)=>zhc.s2 o_ t_ s) (fun a2=>mkSt [(2,.im (.ref (zb0 o_))),(3,.im (.ref (zag t_))),(4,.own 64 1 0),(7,.im (nI (↑a2:Int)))] [(64,.box 50 2)] [(64,0,.im (nI 0)),(64,1,.im (.val (.slice none 0 0)))]) (fun a2=>True) h (eA [(64,some 4)]) (by rintro a2;exact (hT)) ?_;clear h;rintro k a2 o hp h a0;replace h:zhc.s2 o_ t_ a2=some o:=h;unfold zhc.s2 at h;refine zlF o_.Traces.length zai ?_;refine zlC ?_ ?_<;>intro b4;obtain ⟨h,a7⟩:=ctd b4 h;obtain ⟨b9,a9,h⟩:=zae h;refine ⟨_,⟨(by omega),zah a9,rfl⟩,?_⟩;obtain ⟨c0,a5,h⟩:=zlA h;refine ⟨_,(sp_R16_Differ b9 t_ c0 (fun _ _=>a5)),?_⟩;refine zlC ?_ ?_<;>intro b5;obtain ⟨h,a8⟩:=ctd b5 h;refine zlB rfl ?_;cases h;have a0:_=_:=a0;cases a0;replace h:some _=some _:=a3;cases h;refine zlB ⟨rfl,trivial⟩ ?_;exact ⟨rfl,rfl⟩;obtain ⟨h,a8⟩:=cfd b5 h;refine zbp.mk (by show inR _;unfold inR;omega) ?_;cases h;exact zlK _ a0 (eA [(64,some 64)]);obtain ⟨h,a7⟩:=cfd b4 h;cases h;have a0:_=_:=a0;cases a0;exact zdo.mk' _ rfl (eA [(64,some 64)]);rintro ⟨⟩ rfl hp;replace h:=zb8 a3;obtain ⟨b6,a4,h⟩:=zlA h;refine ⟨_,(sp_R16_add o_ t_ b6 (fun _ _=>a4)),?_⟩;refine zlB rfl ?_;refine zlB rfl ?_;refine zlB rfl ?_;refine zlF b6.Traces.length zai ?_;refine zlC ?_ ?_<;>intro b7;obtain ⟨h,b2⟩:=ctd b7 h;refine zlB rfl ?_;cases h;refine zlB ⟨rfl,trivial⟩ ?_;exact ⟨rfl,rfl⟩;obtain ⟨h,b2⟩:=cfd b7 h;refine zlB rfl ?_;refine zlB rfl ?_;cases h;refine zlB ⟨rfl,trivial⟩ ?_;exact ⟨rfl,rfl⟩
theorem sp_R16_All (o_:zar) (l_:List zab) (r:zar×Int) (h:Ok (.agg (zb0 o_))->Ok (nL zag l_)->zfp o_ l_=some r):Sp Tryz.prog 63 [.im (.agg (zb0 o_)),.im (nL zag l_)] (.tup [.agg (zb0 r.1),nI r.2]):=by
 refine zb6 rfl [700002] rfl rfl rfl (zkE rfl) rfl fun hk=>?_;replace h:=h hk.1 hk.2.1;have z1:lZ o_.Traces:=zap (zlI hk.1 1 rfl);have z2:lZ l_:=zap hk.2.1;unfold zfp at h;refine zlB rfl ?_;obtain ⟨oc,hc,a3⟩:=zlA h;clear h;have h:=hc;clear hc;refine zlJ oc (Y:=Int×List zab) (fun (a8,a6)=>mkSt [(4,.own 64 1 0),(6,.own 65 1 0)] [(64,.box 50 2),(65,.box 50 2)] [(64,0,.im (nI 0)),(64,1,.im (.val (.slice none 0 0))),(65,0,.im (nI a8)),(65,1,.im (nL zag a6))]) (fun (a8,a6)=>lZ a6∧True) (by rintro ⟨a8,a6⟩;exact ((Holds.cel 65 1 rfl (by decide) rfl).and (hT))) ?_ ?_;refine zb5.iter (fun (s:Int×List zab×Nat)=>zfp.s2 o_ l_ s.1 s.2.1 s.2.2) (fun (a7,a2,b2)=>mkSt [(1,.im (nL zag l_)),(2,.im (.ref (zb0 o_))),(4,.own 64 1 0),(6,.own 65 1 0),(7,.im (nI (↑b2:Int)))] [(64,.box 50 2),(65,.box 50 2)] [(64,0,.im (nI 0)),(64,1,.im (.val (.slice none 0 0))),(65,0,.im (nI a7)),(65,1,.im (nL zag a2))]) (fun (a7,a2,b2)=>lZ l_∧lZ a2∧True) h (eA [(64,some 4),(65,some 6)]) (by rintro ⟨a7,a2,b2⟩;exact ((zlH 1 rfl).and ((Holds.cel 65 1 rfl (by decide) rfl).and (hT)))) ?_;clear h;rintro k ⟨a7,a2,b2⟩ o hp h a0;replace h:zfp.s2 o_ l_ a7 a2 b2=some o:=h;unfold zfp.s2 at h;obtain ⟨b9,c0,_⟩:=hp;refine zlF l_.length zai ?_;refine zlC ?_ ?_<;>intro b5;obtain ⟨h,b3⟩:=ctd b5 h;refine zlB rfl ?_;obtain ⟨b7,a5,h⟩:=zae h;refine ⟨_,⟨(by omega),zah a5,rfl⟩,?_⟩;obtain ⟨b8,a9,h⟩:=zlA h;refine ⟨_,(sp_R16_Add (⟨a7,a2⟩:zar) b7 b8 (fun _ _=>a9)),?_⟩;refine zlB rfl ?_;refine zlC ?_ ?_<;>intro b6;obtain ⟨h,b4⟩:=ctd b6 h;refine zlB rfl ?_;cases h;have a0:_=_:=a0;cases a0;replace h:some _=some _:=a3;cases h;refine zlB ⟨rfl,trivial⟩ ?_;exact ⟨rfl,rfl⟩;obtain ⟨h,b4⟩:=cfd b6 h;refine zlB rfl ?_;refine zlB rfl ?_;refine zbp.mk (by show inR _;unfold inR;omega) ?_;cases h;exact zlK _ a0 (eA [(64,some 64),(65,some 65)]);obtain ⟨h,b3⟩:=cfd b5 h;cases h;have a0:_=_:=a0;cases a0;exact zdo.mk' _ rfl (eA [(64,some 64),(65,some 65)]);rintro ⟨a8,a6⟩ rfl hp;have a4:=zb8 a3;replace h:zfp.k3 a8 a6=some _:=a4;clear a4;unfold zfp.k3 at h;obtain ⟨c6,_⟩:=hp;refine zlB rfl ?_;refine zlB rfl ?_;cases h;refine zlB ⟨rfl,trivial⟩ ?_;exact ⟨rfl,rfl⟩
theorem sp_R16_Of (m_:zaa) (words_:yaa) (r:zar×Int) (h:Ok (.agg (zad m_))->Ok (nL (cL cI) words_)->R16_Of m_ words_=some r):Sp Tryz.prog 30 [.im (.agg (zad m_)),.im (nL (cL cI) words_)] (.tup [.agg (zb0 r.1),nI r.2]):=by
 refine zb6 rfl [700002] rfl rfl rfl (zkE rfl) rfl fun hk=>?_;replace h:=h hk.1 hk.2.1;have z1:lZ m_.Next:=zap (zlI hk.1 2 rfl);have z2:lZ m_.Out:=zap (zlI hk.1 3 rfl);have z3:lZ words_:=zap hk.2.1;unfold R16_Of at h;obtain ⟨a7,a3,h⟩:=zlA h;refine ⟨_,(sp_R06_Traces m_ words_ a7 (fun _ _=>a3)),?_⟩;refine zlC ?_ ?_<;>intro a8;obtain ⟨h,a2⟩:=ctd a8 h;refine zlB rfl ?_;cases h;refine zlB ⟨rfl,trivial⟩ ?_;exact ⟨rfl,rfl⟩;obtain ⟨h,a2⟩:=cfd a8 h;obtain ⟨b3,a0,h⟩:=zlA h;refine ⟨_,(sp_R16_All (⟨m_.Inputs,[]⟩:zar) a7.1 b3 (fun _ _=>a0)),?_⟩;refine zlB rfl ?_;refine zlC ?_ ?_<;>intro b2;obtain ⟨h,a6⟩:=ctd b2 h;refine zlB rfl ?_;cases h;refine zlB ⟨rfl,trivial⟩ ?_;exact ⟨rfl,rfl⟩;obtain ⟨h,a6⟩:=cfd b2 h;refine zlB rfl ?_;refine zlB rfl ?_;cases h;refine zlB ⟨rfl,trivial⟩ ?_;exact ⟨rfl,rfl⟩
theorem zsl (a_:yab) (b_:yab) (r:Bool) (h:Ok (nL cI a_)->Ok (nL cI b_)->zl9 a_ b_=some r):Sp Tryz.prog 17 [.im (nL cI a_),.im (nL cI b_)] (.im (nB r)):=by
 refine zb6 rfl [] rfl rfl rfl (zkE rfl) rfl fun hk=>?_;replace h:=h hk.1 hk.2.1;have z1:lZ a_:=zap hk.1;have z2:lZ b_:=zap hk.2.1;unfold zl9 at h;obtain ⟨a7,hc,a3⟩:=zlA h;clear h;have h:=hc;clear hc;refine Cut.mk (mkSt [(4,.im (nB a7))] [] []) (True) (hT) ?_ (fun hp=>?_);refine zlF a_.length zai ?_;refine zlF b_.length zai ?_;refine zlC ?_ ?_<;>intro a2;replace a2:=zc1 a2;obtain ⟨h,a6⟩:=ctd a2 h
 iterate 2 (refine zlD (zbj a2) ?_)
 obtain ⟨a8,a0,h⟩:=zlA h;refine ⟨_,(zhi a_ b_ a8 (fun _ _=>a0)),?_⟩
 iterate 2 (refine zlD (zbj a2) ?_)
 refine zlF a_.length zai ?_;refine zlD (zbj a2) ?_;refine zlD a2 ?_;cases h;exact zlG (eA []);replace a2:=zcz a2;obtain ⟨h,a6⟩:=cfd a2 h
 iterate 5 (refine zlE (zdi a2) ?_)
 refine zlE a2 ?_;cases h;exact zlG (eA []);replace h:=a3;cases h;exact ⟨rfl,rfl⟩
theorem zdz (a_:yaa) (b_:yaa) (r:Bool) (h:Ok (nL (cL cI) a_)->Ok (nL (cL cI) b_)->zb7 a_ b_=some r):Sp Tryz.prog 32 [.im (nL (cL cI) a_),.im (nL (cL cI) b_)] (.im (nB r)):=by
 refine zb6 rfl [] rfl rfl rfl (zkE rfl) rfl fun hk=>?_;replace h:=h hk.1 hk.2.1;have z1:lZ a_:=zap hk.1;have z2:lZ b_:=zap hk.2.1;unfold zb7 at h;refine zlF a_.length zai ?_;refine zlF b_.length zai ?_;refine zlC ?_ ?_<;>intro a8;obtain ⟨h,a6⟩:=ctd a8 h;cases h;exact ⟨rfl,rfl⟩;obtain ⟨h,a6⟩:=cfd a8 h;obtain ⟨oc,hc,a3⟩:=zlA h;clear h;have h:=hc;clear hc;refine zlJ oc (Y:=Unit) (fun (_:Unit)=>mkSt [] [] []) (fun (_:Unit)=>True) (by rintro ⟨⟩;exact (hT)) ?_ ?_;refine zb5.iter (fun (s:Nat)=>zb7.s2 a_ b_ s) (fun a2=>mkSt [(0,.im (nL (cL cI) a_)),(1,.im (nL (cL cI) b_)),(5,.im (nI (↑a2:Int)))] [] []) (fun a2=>lZ a_∧lZ b_∧True) h (eA []) (by rintro a2;exact ((zlH 0 rfl).and ((zlH 1 rfl).and (hT)))) ?_;clear h;rintro k a2 o hp h a0;replace h:zb7.s2 a_ b_ a2=some o:=h;unfold zb7.s2 at h;obtain ⟨b7,b8,_⟩:=hp;refine zlF a_.length zai ?_;refine zlC ?_ ?_<;>intro b2;obtain ⟨h,a7⟩:=ctd b2 h;obtain ⟨b4,a5,h⟩:=zae h;refine ⟨_,⟨(by omega),zah a5,rfl⟩,?_⟩;obtain ⟨b5,a4,h⟩:=zae h;refine ⟨_,⟨(by omega),zah a4,rfl⟩,?_⟩;obtain ⟨b6,a9,h⟩:=zlA h;refine ⟨_,(zsl b4 b5 b6 (fun _ _=>a9)),?_⟩;refine zlC ?_ ?_<;>intro b3;replace h:=zbm b3 h;cases h;have a0:_=_:=a0;cases a0;replace h:some _=some _:=a3;cases h;exact ⟨rfl,rfl⟩;replace h:=zbk b3 h;refine zbp.mk (by show inR _;unfold inR;omega) ?_;cases h;exact zlK _ a0 (eA []);obtain ⟨h,a7⟩:=cfd b2 h;cases h;have a0:_=_:=a0;cases a0;exact zdo.mk' _ rfl (eA []);rintro ⟨⟩ rfl hp;replace h:=zb8 a3;cases h;exact ⟨rfl,rfl⟩
theorem sp_L35_great (m_:zaa) (r:Bool) (h:Ok (.agg (zad m_))->zct m_=some r):Sp Tryz.prog 26 [.im (.agg (zad m_))] (.im (nB r)):=by
 refine zb6 rfl [700001] rfl rfl rfl (zkE rfl) rfl fun hk=>?_;replace h:=h hk.1;have z1:lZ m_.Next:=zap (zlI hk.1 2 rfl);have z2:lZ m_.Out:=zap (zlI hk.1 3 rfl);unfold zct at h;obtain ⟨oc,hc,a5⟩:=zlA h;clear h;have h:=hc;clear hc;refine zlJ oc (Y:=Unit) (fun (_:Unit)=>mkSt [(1,.im (.ref (zad m_)))] [] []) (fun (_:Unit)=>True) (by rintro ⟨⟩;exact (hT)) ?_ ?_;refine zb5.iter (fun (s:Nat)=>zct.s2 m_ s) (fun b2=>mkSt [(1,.im (.ref (zad m_))),(3,.im (nI (↑b2:Int)))] [] []) (fun b2=>True) h (eA []) (by rintro b2;exact (hT)) ?_;clear h;rintro k b2 o hp h a3;replace h:zct.s2 m_ b2=some o:=h;unfold zct.s2 at h;obtain ⟨c7,hc,d7⟩:=zlA h;clear h;have h:=hc;clear hc;refine Cut.mk (mkSt [(1,.im (.ref (zad m_))),(3,.im (nI (↑b2:Int))),(13,.im (nB c7))] [] []) (True) (hT) ?_ (fun hp=>?_);refine zlF m_.Next.length zai ?_;refine zlC ?_ ?_<;>intro a6;replace a6:=zc1 a6;obtain ⟨h,b3⟩:=ctd a6 h;refine zlD (zbj a6) ?_;refine zlD a6 ?_;cases h;exact zlG (eA []);replace a6:=zcz a6;obtain ⟨h,b3⟩:=cfd a6 h;refine zlE (zdi a6) ?_;refine zlE a6 ?_;cases h;exact zlG (eA []);replace h:=d7;refine zlC ?_ ?_<;>intro b4;replace h:=zbm b4 h;obtain ⟨c8,d6,h⟩:=zae h;refine ⟨_,⟨(by omega),zah d6,rfl⟩,?_⟩;refine zlF c8.length zai ?_;refine zlC ?_ ?_<;>intro b5;obtain ⟨h,b6⟩:=ctd b5 h;cases h;have a3:_=_:=a3;cases a3;replace h:some _=some _:=a5;cases h;exact ⟨rfl,rfl⟩;obtain ⟨h,b6⟩:=cfd b5 h;obtain ⟨c9,h⟩:=zan h;refine zbp.mk c9 ?_;cases h;exact zlK _ a3 (eA []);replace h:=zbk b4 h;cases h;have a3:_=_:=a3;cases a3;exact zdo.mk' _ rfl (eA []);rintro ⟨⟩ rfl hp;replace h:=zb8 a5;obtain ⟨oc,hc,a4⟩:=zlA h;clear h;have h:=hc;clear hc;refine zlJ oc (Y:=Unit) (fun (_:Unit)=>mkSt [(1,.im (.ref (zad m_)))] [] []) (fun (_:Unit)=>True) (by rintro ⟨⟩;exact (hT)) ?_ ?_;refine zb5.iter (fun (s:Nat)=>zct.s4 m_ s) (fun a8=>mkSt [(1,.im (.ref (zad m_))),(4,.im (nI (↑a8:Int)))] [] []) (fun a8=>True) h (eA []) (by rintro a8;exact (hT)) ?_;clear h;rintro k a8 o hp h a0;replace h:zct.s4 m_ a8=some o:=h;unfold zct.s4 at h;obtain ⟨d0,hc,d5⟩:=zlA h;clear h;have h:=hc;clear hc;refine Cut.mk (mkSt [(1,.im (.ref (zad m_))),(4,.im (nI (↑a8:Int))),(31,.im (nB d0))] [] []) (True) (hT) ?_ (fun hp=>?_);refine zlF m_.Out.length zai ?_;refine zlC ?_ ?_<;>intro a7;replace a7:=zc1 a7;obtain ⟨h,b7⟩:=ctd a7 h;refine zlD (zbj a7) ?_;refine zlD a7 ?_;cases h;exact zlG (eA []);replace a7:=zcz a7;obtain ⟨h,b7⟩:=cfd a7 h;refine zlE (zdi a7) ?_;refine zlE a7 ?_;cases h;exact zlG (eA []);replace h:=d5;refine zlC ?_ ?_<;>intro b8;replace h:=zbm b8 h;obtain ⟨d1,d4,h⟩:=zae h;refine ⟨_,⟨(by omega),zah d4,rfl⟩,?_⟩;refine zlF d1.length zai ?_;refine zlC ?_ ?_<;>intro b9;obtain ⟨h,c0⟩:=ctd b9 h;cases h;have a0:_=_:=a0;cases a0;replace h:some _=some _:=a4;cases h;exact ⟨rfl,rfl⟩;obtain ⟨h,c0⟩:=cfd b9 h;obtain ⟨d2,h⟩:=zan h;refine zbp.mk d2 ?_;cases h;exact zlK _ a0 (eA []);replace h:=zbk b8 h;cases h;have a0:_=_:=a0;cases a0;exact zdo.mk' _ rfl (eA []);rintro ⟨⟩ rfl hp;replace h:=zb8 a4;obtain ⟨d3,hc,a9⟩:=zlA h;clear h;have h:=hc;clear hc;refine Cut.mk (mkSt [(2,.im (nB d3))] [] []) (True) (hT) ?_ (fun hp=>?_);refine zlF m_.Next.length zai ?_;refine zlC ?_ ?_<;>intro a2;replace a2:=zdc a2;obtain ⟨h,c6⟩:=cfd a2 h
 iterate 2 (refine zlD (zbr a2) ?_)
 refine zlF m_.Out.length zai ?_;refine zlD (zbr a2) ?_;refine zlE a2 ?_;cases h;exact zlG (eA []);replace a2:=zdd a2;obtain ⟨h,c6⟩:=ctd a2 h
 iterate 3 (refine zlE (zdb a2) ?_)
 refine zlD a2 ?_;cases h;exact zlG (eA []);replace h:=a9;cases h;exact ⟨rfl,rfl⟩
theorem ziu (p_:zac) (r:Int) (h:Ok (.agg (zat p_))->zc6 p_=some r):Sp Tryz.prog 15 [.im (.agg (zat p_))] (.im (nI r)):=by
 refine zb6 rfl [700001] rfl rfl rfl (zkE rfl) rfl fun hk=>?_;replace h:=h hk.1;have z1:lZ p_.Next:=zap (zlI hk.1 2 rfl);have z2:lZ p_.Out:=zap (zlI hk.1 3 rfl);unfold zc6 at h;refine zlF p_.Next.length zai ?_;obtain ⟨e9,hc,g6⟩:=zlA h;clear h;have h:=hc;clear hc;refine Cut.mk (mkSt [(1,.im (.ref (zat p_))),(3,.im (nI (↑p_.Next.length:Int))),(11,.im (nB e9))] [] []) (True) (hT) ?_ (fun hp=>?_);refine zlC ?_ ?_<;>intro b5;replace b5:=zdc b5;obtain ⟨h,d3⟩:=cfd b5 h
 iterate 2 (refine zlD (zbr b5) ?_)
 refine zlE b5 ?_;cases h;exact zlG (eA []);replace b5:=zdd b5;obtain ⟨h,d3⟩:=ctd b5 h
 iterate 2 (refine zlE (zdb b5) ?_)
 refine zlD b5 ?_;cases h;exact zlG (eA []);replace h:=g6;refine zlC ?_ ?_<;>intro e4;replace h:=zbm e4 h;cases h;exact ⟨rfl,rfl⟩;replace h:=zbk e4 h;refine zlC ?_ ?_<;>intro e5;obtain ⟨h,d4⟩:=ctd e5 h;cases h;exact ⟨rfl,rfl⟩;obtain ⟨h,d4⟩:=cfd e5 h;refine zlC ?_ ?_<;>intro e6;obtain ⟨h,d5⟩:=ctd e6 h;cases h;exact ⟨rfl,rfl⟩;obtain ⟨h,d5⟩:=cfd e6 h;obtain ⟨f3,hc,g5⟩:=zlA h;clear h;have h:=hc;clear hc;refine Cut.mk (mkSt [(1,.im (.ref (zat p_))),(3,.im (nI (↑p_.Next.length:Int))),(26,.im (nB f3))] [] []) (True) (hT) ?_ (fun hp=>?_);refine zlC ?_ ?_<;>intro b6;replace b6:=zdc b6;obtain ⟨h,d6⟩:=cfd b6 h
 iterate 3 (refine zlD (zbr b6) ?_)
 refine zlE b6 ?_;cases h;exact zlG (eA []);replace b6:=zdd b6;obtain ⟨h,d6⟩:=ctd b6 h
 iterate 3 (refine zlE (zdb b6) ?_)
 refine zlD b6 ?_;cases h;exact zlG (eA []);replace h:=g5;refine zlC ?_ ?_<;>intro e7;replace h:=zbm e7 h;cases h;exact ⟨rfl,rfl⟩;replace h:=zbk e7 h;refine zlF p_.Out.length zai ?_;refine zlC ?_ ?_<;>intro e8;obtain ⟨h,d7⟩:=ctd e8 h;cases h;exact ⟨rfl,rfl⟩;obtain ⟨h,d7⟩:=cfd e8 h;obtain ⟨oc,hc,a5⟩:=zlA h;clear h;have h:=hc;clear hc;refine zlJ oc (Y:=Unit) (fun (_:Unit)=>mkSt [] [] []) (fun (_:Unit)=>True) (by rintro ⟨⟩;exact (hT)) ?_ ?_;refine zb5.iter (fun (s:Nat)=>zc6.s14 p_ s) (fun a2=>mkSt [(1,.im (.ref (zat p_))),(3,.im (nI (↑p_.Next.length:Int))),(42,.im (nI (↑p_.Next.length:Int))),(43,.im (nI (↑a2:Int)))] [] []) (fun a2=>True) h (eA []) (by rintro a2;exact (hT)) ?_;clear h;rintro k a2 o hp h a0;replace h:zc6.s14 p_ a2=some o:=h;unfold zc6.s14 at h;refine zlC ?_ ?_<;>intro b7;obtain ⟨h,b8⟩:=ctd b7 h;obtain ⟨d8,hc,g4⟩:=zlA h;clear h;have h:=hc;clear hc;refine Cut.mk (mkSt [(1,.im (.ref (zat p_))),(3,.im (nI (↑p_.Next.length:Int))),(4,.im (nI (↑a2:Int))),(42,.im (nI (↑p_.Next.length:Int))),(43,.im (nI (↑a2:Int))),(65,.im (nB d8))] [] []) (True) (hT) ?_ (fun hp=>?_);obtain ⟨d9,g3,h⟩:=zae h;refine ⟨_,⟨(by omega),zah g3,rfl⟩,?_⟩;refine zlF d9.length zai ?_;refine zlC ?_ ?_<;>intro a6;replace a6:=zdc a6;obtain ⟨h,b9⟩:=cfd a6 h
 iterate 3 (refine zlD (zbr a6) ?_)
 obtain ⟨e0,f9,h⟩:=zae h;refine ⟨_,⟨(by omega),zah f9,rfl⟩,?_⟩
 iterate 2 (refine zlD (zbr a6) ?_)
 refine zlF e0.length zai ?_
 iterate 3 (refine zlD (zbr a6) ?_)
 refine zlE a6 ?_;cases h;exact zlG (eA []);replace a6:=zdd a6;obtain ⟨h,b9⟩:=ctd a6 h
 iterate 8 (refine zlE (zdb a6) ?_)
 refine zlD a6 ?_;cases h;exact zlG (eA []);replace h:=g4;refine zlC ?_ ?_<;>intro c0;replace h:=zbm c0 h;cases h;have a0:_=_:=a0;cases a0;replace h:some _=some _:=a5;cases h;exact ⟨rfl,rfl⟩;replace h:=zbk c0 h;obtain ⟨b3,g1,h⟩:=zae h;refine ⟨_,⟨(by omega),zah g1,rfl⟩,?_⟩;refine zlF b3.length zai ?_;obtain ⟨oc,hc,a4⟩:=zlA h;clear h;have h:=hc;clear hc;refine zlJ oc (Y:=Unit) (fun (_:Unit)=>mkSt [(1,.im (.ref (zat p_))),(3,.im (nI (↑p_.Next.length:Int))),(42,.im (nI (↑p_.Next.length:Int))),(43,.im (nI (↑a2:Int)))] [] []) (fun (_:Unit)=>True) (by rintro ⟨⟩;exact (hT)) ?_ ?_;refine zb5.iter (fun (s:Nat)=>zc6.s13 p_ a2 b3 s) (fun b4=>mkSt [(1,.im (.ref (zat p_))),(3,.im (nI (↑p_.Next.length:Int))),(4,.im (nI (↑a2:Int))),(42,.im (nI (↑p_.Next.length:Int))),(43,.im (nI (↑a2:Int))),(70,.im (nL cI b3)),(71,.im (nI (↑b3.length:Int))),(72,.im (nI (↑b4:Int)))] [] []) (fun b4=>lZ b3∧True) h (eA []) (by rintro b4;exact ((zlH 70 rfl).and (hT))) ?_;clear h;rintro k b4 o hp h a3;replace h:zc6.s13 p_ a2 b3 b4=some o:=h;unfold zc6.s13 at h;obtain ⟨f4,_⟩:=hp;refine zlC ?_ ?_<;>intro c6;obtain ⟨h,c7⟩:=ctd c6 h;obtain ⟨e1,g2,h⟩:=zae h;refine ⟨_,⟨(by omega),zah g2,rfl⟩,?_⟩;obtain ⟨f5,a9,h⟩:=zae h;refine ⟨_,⟨(by omega),zah a9,rfl⟩,?_⟩;obtain ⟨e2,f6,h⟩:=zae h;refine ⟨_,⟨(by omega),zah f6,rfl⟩,?_⟩;obtain ⟨e3,hc,f8⟩:=zlA h;clear h;have h:=hc;clear hc;refine Cut.mk (mkSt [(1,.im (.ref (zat p_))),(3,.im (nI (↑p_.Next.length:Int))),(4,.im (nI (↑a2:Int))),(6,.im (nI e1)),(7,.im (nI e2)),(42,.im (nI (↑p_.Next.length:Int))),(43,.im (nI (↑a2:Int))),(70,.im (nL cI b3)),(71,.im (nI (↑b3.length:Int))),(72,.im (nI (↑b4:Int))),(99,.im (nB e3))] [] []) (lZ b3∧True) ((zlH 70 rfl).and (hT)) ?_ (fun hp=>?_);refine zlC ?_ ?_<;>intro a7;replace a7:=zdc a7;obtain ⟨h,c8⟩:=cfd a7 h
 iterate 2 (refine zlD (zbr a7) ?_)
 refine zlE a7 ?_;refine zlC ?_ ?_<;>intro a8;replace a8:=zdc a8;obtain ⟨h,c9⟩:=cfd a8 h;refine zlD (zbr a8) ?_;refine zlE a8 ?_;refine zlC ?_ ?_<;>intro b2;replace b2:=zdc b2;obtain ⟨h,d0⟩:=cfd b2 h;refine zlD (zbr b2) ?_;refine zlE b2 ?_;cases h;exact zlG (eA []);replace b2:=zdd b2;obtain ⟨h,d0⟩:=ctd b2 h;refine zlE (zdb b2) ?_;refine zlD b2 ?_;cases h;exact zlG (eA []);replace a8:=zdd a8;obtain ⟨h,c9⟩:=ctd a8 h;refine zlE (zdb a8) ?_;refine zlD a8 ?_
 iterate 2 (refine zlE rfl ?_)
 refine zlD rfl ?_;cases h;exact zlG (eA []);replace a7:=zdd a7;obtain ⟨h,c8⟩:=ctd a7 h
 iterate 2 (refine zlE (zdb a7) ?_)
 refine zlD a7 ?_
 iterate 2 (refine zlE rfl ?_)
 refine zlD rfl ?_
 iterate 2 (refine zlE rfl ?_)
 refine zlD rfl ?_;cases h;exact zlG (eA []);replace h:=f8;obtain ⟨f7,_⟩:=hp;refine zlC ?_ ?_<;>intro d1;replace h:=zbm d1 h;cases h;have a3:_=_:=a3;cases a3;replace h:some _=some _:=a4;cases h;have a0:_=_:=a0;cases a0;replace h:some _=some _:=a5;cases h;exact ⟨rfl,rfl⟩;replace h:=zbk d1 h;refine zlC ?_ ?_<;>intro d2;replace h:=zbm d2 h;cases h;have a3:_=_:=a3;cases a3;replace h:some _=some _:=a4;cases h;have a0:_=_:=a0;cases a0;replace h:some _=some _:=a5;cases h;exact ⟨rfl,rfl⟩;replace h:=zbk d2 h;refine zbp.mk (by show inR _;unfold inR;omega) ?_;cases h;exact zlK _ a3 (eA []);obtain ⟨h,c7⟩:=cfd c6 h;cases h;have a3:_=_:=a3;cases a3;exact zdo.mk' _ rfl (eA []);rintro ⟨⟩ rfl hp;replace h:=zb8 a4;refine zbp.mk (by show inR _;unfold inR;omega) ?_;cases h;exact zlK _ a0 (eA []);obtain ⟨h,b8⟩:=cfd b7 h;cases h;have a0:_=_:=a0;cases a0;exact zdo.mk' _ rfl (eA []);rintro ⟨⟩ rfl hp;replace h:=zb8 a5;cases h;exact ⟨rfl,rfl⟩
theorem sp_merge_Run (p_:zac) (w_:yab) (r:yab×Bool) (h:Ok (.agg (zat p_))->Ok (nL cI w_)->zg5 p_ w_=some r):Sp Tryz.prog 9 [.im (.agg (zat p_)),.im (nL cI w_)] (.tup [nL cI r.1,nB r.2]):=by
 refine zb6 rfl [700002] rfl rfl rfl (zkE rfl) rfl fun hk=>?_;replace h:=h hk.1 hk.2.1;have z1:lZ p_.Next:=zap (zlI hk.1 2 rfl);have z2:lZ p_.Out:=zap (zlI hk.1 3 rfl);have z3:lZ w_:=zap hk.2.1;unfold zg5 at h;obtain ⟨d0,f5,h⟩:=zlA h;refine ⟨_,(ziu p_ d0 (fun _=>f5)),?_⟩;refine zlC ?_ ?_<;>intro c9;obtain ⟨h,c0⟩:=ctd c9 h;cases h;exact ⟨rfl,rfl⟩;obtain ⟨h,c0⟩:=cfd c9 h;refine zlF w_.length zai ?_;obtain ⟨oc,hc,e3⟩:=zlA h;clear h;have h:=hc;clear hc;refine zlJ oc (Y:=yab) (fun b3=>mkSt [(7,.osl 64 1)] [(64,.row 3 1 (List.map cI b3))] []) (fun b3=>lZ b3∧True) (by rintro b3;exact ((Holds.kdl 64 rfl).and (hT))) ?_ ?_;refine zb5.iter (fun (s:Int×yab×Nat)=>zg5.s2 p_ w_ s.1 s.2.1 s.2.2) (fun (a8,a6,b2)=>mkSt [(2,.im (.ref (zat p_))),(6,.im (nI a8)),(7,.osl 64 1),(15,.im (nL cI w_)),(16,.im (nI (↑w_.length:Int))),(17,.im (nI (↑b2:Int)))] [(64,.row 3 1 (List.map cI a6))] []) (fun (a8,a6,b2)=>lZ w_∧lZ a6∧True) h (eA [(64,none)]) (by rintro ⟨a8,a6,b2⟩;exact ((zlH 15 rfl).and ((Holds.kdl 64 rfl).and (hT)))) ?_;clear h;rintro k ⟨a8,a6,b2⟩ o hp h a0;replace h:zg5.s2 p_ w_ a8 a6 b2=some o:=h;unfold zg5.s2 at h;obtain ⟨d1,d2,_⟩:=hp;refine zlC ?_ ?_<;>intro b5;obtain ⟨h,b6⟩:=ctd b5 h;obtain ⟨c6,e8,h⟩:=zae h;refine ⟨_,⟨(by omega),zah e8,rfl⟩,?_⟩;obtain ⟨c7,hc,e6⟩:=zlA h;clear h;have h:=hc;clear hc;refine Cut.mk (mkSt [(2,.im (.ref (zat p_))),(6,.im (nI a8)),(7,.osl 64 1),(9,.im (nI c6)),(15,.im (nL cI w_)),(16,.im (nI (↑w_.length:Int))),(17,.im (nI (↑b2:Int))),(39,.im (nB c7))] [(64,.row 3 1 (List.map cI a6))] []) (lZ w_∧lZ a6∧True) ((zlH 15 rfl).and ((Holds.kdl 64 rfl).and (hT))) ?_ (fun hp=>?_);refine zlC ?_ ?_<;>intro a7;replace a7:=zdc a7;obtain ⟨h,b7⟩:=cfd a7 h
 iterate 3 (refine zlD (zbr a7) ?_)
 refine zlE a7 ?_;refine zlC ?_ ?_<;>intro a2;replace a2:=zdc a2;obtain ⟨h,b8⟩:=cfd a2 h
 iterate 3 (refine zlD (zbr a2) ?_)
 obtain ⟨d3,e2,f3,h⟩:=zau h;refine ⟨_,⟨e2,zah f3,rfl⟩,?_⟩
 iterate 3 (refine zlD (zbr a2) ?_)
 obtain ⟨d4,a4,e4,h⟩:=zau h;refine ⟨_,⟨a4,zah e4,rfl⟩,?_⟩
 iterate 2 (refine zlD (zbr a2) ?_)
 refine zlE a2 ?_;cases h;exact zlG (eA [(64,some 64)]);replace a2:=zdd a2;obtain ⟨h,b8⟩:=ctd a2 h
 iterate 8 (refine zlE (zdb a2) ?_)
 refine zlD a2 ?_;cases h;exact zlG (eA [(64,some 64)]);replace a7:=zdd a7;obtain ⟨h,b7⟩:=ctd a7 h
 iterate 3 (refine zlE (zdb a7) ?_)
 refine zlD a7 ?_
 iterate 9 (refine zlE rfl ?_)
 refine zlD rfl ?_;cases h;exact zlG (eA [(64,some 64)]);replace h:=e6;obtain ⟨d5,d6,_⟩:=hp;refine zlC ?_ ?_<;>intro b9;replace h:=zbm b9 h;cases h;have a0:_=_:=a0;cases a0;replace h:some _=some _:=e3;cases h;exact ⟨rfl,rfl⟩;replace h:=zbk b9 h;obtain ⟨d7,a5,e9,h⟩:=zau h;refine ⟨_,⟨a5,zah e9,rfl⟩,?_⟩;obtain ⟨b4,a3,e5,h⟩:=zau h;refine ⟨_,⟨a3,zah e5,rfl⟩,?_⟩;obtain ⟨c8,h⟩:=zan h;refine zlB ⟨rfl,zca (l:=[b4]) (c:=cI) fun _=>rfl,show zaz _ 8 by simpa only [zkK,zkL,yaw,yai] using c8⟩ ?_;refine zlF (List.map cI (a6++[b4])) (zb9 (l:=a6) (m:=[b4]) (c:=cI)) ?_;obtain ⟨d8,e1,e7,h⟩:=zau h;refine ⟨_,⟨e1,zah e7,rfl⟩,?_⟩;obtain ⟨d9,a9,f4,h⟩:=zau h;refine ⟨_,⟨a9,zah f4,rfl⟩,?_⟩;refine zbp.mk (by show inR _;unfold inR;omega) ?_;cases h;exact zlK _ a0 (eA [(64,some 64)]);obtain ⟨h,b6⟩:=cfd b5 h;cases h;have a0:_=_:=a0;cases a0;exact zdo.mk' _ rfl (eA [(64,some 64)]);rintro b3 rfl hp;replace h:=zb8 e3;obtain ⟨e0,_⟩:=hp;cases h;exact zlB ⟨rfl,trivial⟩ ⟨rfl,rfl⟩
theorem zhh (s_:yab) (f_:Int->Option Bool) (f1_:FuncId) (hf1:∀ x0 r,f_ x0=some r->Sp Tryz.prog f1_ [.im (nI x0)] (.im (nB r))) (r:Int) (h:Ok (nL cI s_)->Ok (.fn f1_ [])->zbg s_ f_=some r):Sp Tryz.prog 137 [.im (nL cI s_),.im (.fn f1_ [])] (.im (nI r)):=by
 refine zb6 rfl [] rfl rfl rfl (zkE rfl) rfl fun hk=>?_;replace h:=h hk.1 hk.2.1;have z1:lZ s_:=zap hk.1;unfold zbg at h;refine zlF s_.length zai ?_;obtain ⟨oc,hc,a3⟩:=zlA h;clear h;have h:=hc;clear hc;refine zlJ oc (Y:=Unit) (fun (_:Unit)=>mkSt [] [] []) (fun (_:Unit)=>True) (by rintro ⟨⟩;exact (hT)) ?_ ?_;refine zb5.iter (fun (s:Nat)=>zbg.s2 s_ f_ s) (fun a2=>mkSt [(0,.im (nL cI s_)),(1,.im (.fn f1_ [])),(7,.im (nI (↑s_.length:Int))),(8,.im (nI (↑a2:Int)))] [] []) (fun a2=>lZ s_∧True) h (eA []) (by rintro a2;exact ((zlH 0 rfl).and (hT))) ?_;clear h;rintro k a2 o hp h a0;replace h:zbg.s2 s_ f_ a2=some o:=h;unfold zbg.s2 at h;obtain ⟨b4,_⟩:=hp;refine zlC ?_ ?_<;>intro a7;obtain ⟨h,a6⟩:=ctd a7 h;obtain ⟨b2,a5,h⟩:=zae h;refine ⟨_,⟨(by omega),zah a5,rfl⟩,?_⟩;obtain ⟨b3,a4,h⟩:=zlA h;refine ⟨_,hf1 b2 b3 a4,?_⟩;refine zlC ?_ ?_<;>intro a8;replace h:=zbm a8 h;cases h;have a0:_=_:=a0;cases a0;replace h:some _=some _:=a3;cases h;exact ⟨rfl,rfl⟩;replace h:=zbk a8 h;refine zbp.mk (by show inR _;unfold inR;omega) ?_;cases h;exact zlK _ a0 (eA []);obtain ⟨h,a6⟩:=cfd a7 h;cases h;have a0:_=_:=a0;cases a0;exact zdo.mk' _ rfl (eA []);rintro ⟨⟩ rfl hp;replace h:=zb8 a3;cases h;exact ⟨rfl,rfl⟩
theorem zgm (s_:yab) (f_:Int->Option Bool) (f1_:FuncId) (hf1:∀ x0 r,f_ x0=some r->Sp Tryz.prog f1_ [.im (nI x0)] (.im (nB r))) (r:Bool) (h:Ok (nL cI s_)->Ok (.fn f1_ [])->zcm s_ f_=some r):Sp Tryz.prog 105 [.im (nL cI s_),.im (.fn f1_ [])] (.im (nB r)):=by
 refine zb6 rfl [] rfl rfl rfl (zkE rfl) rfl fun hk=>?_;replace h:=h hk.1 hk.2.1;have z1:lZ s_:=zap hk.1;unfold zcm at h;obtain ⟨a2,a0,h⟩:=zlA h;refine ⟨_,(zhh s_ f_ f1_ hf1 a2 (fun _ _=>a0)),?_⟩;cases h;exact ⟨rfl,rfl⟩
theorem zo4 (inputs_:Int) (r:Bool) (h:Ok (nI inputs_)->zfs inputs_=some r):Sp Tryz.prog 104 [.im (nI inputs_)] (.im (nB r)):=by
 refine zb6 rfl [] rfl rfl rfl (zkE rfl) rfl fun hk=>?_;replace h:=h hk.1;unfold zfs at h;obtain ⟨a7,hc,a0⟩:=zlA h;clear h;have h:=hc;clear hc;refine Cut.mk (mkSt [(2,.im (nB a7))] [] []) (True) (hT) ?_ (fun hp=>?_);refine zlC ?_ ?_<;>intro a2;replace a2:=zc1 a2;obtain ⟨h,a6⟩:=ctd a2 h;refine zlD (zbj a2) ?_;refine zlD a2 ?_;cases h;exact zlG (eA []);replace a2:=zcz a2;obtain ⟨h,a6⟩:=cfd a2 h;refine zlE (zdi a2) ?_;refine zlE a2 ?_;cases h;exact zlG (eA []);replace h:=a0;cases h;exact ⟨rfl,rfl⟩
theorem zqr (a_:Int) (p1_:Int) (r:Bool) (h:Ok (nI a_)->Ok (.ref (cI p1_))->zf8 a_ p1_=some r):Sp Tryz.prog 106 [.im (nI a_),.im (.ref (cI p1_))] (.im (nB r)):=by
 refine zb6 rfl [] rfl rfl rfl (zkE rfl) rfl fun hk=>?_;replace h:=h hk.1 hk.2.1;unfold zf8 at h;obtain ⟨a7,hc,a0⟩:=zlA h;clear h;have h:=hc;clear hc;refine Cut.mk (mkSt [(3,.im (nB a7))] [] []) (True) (hT) ?_ (fun hp=>?_);refine zlC ?_ ?_<;>intro a2;replace a2:=zdc a2;obtain ⟨h,a6⟩:=cfd a2 h
 iterate 2 (refine zlD (zbr a2) ?_)
 refine zlE a2 ?_;cases h;exact zlG (eA []);replace a2:=zdd a2;obtain ⟨h,a6⟩:=ctd a2 h
 iterate 2 (refine zlE (zdb a2) ?_)
 refine zlD a2 ?_;cases h;exact zlG (eA []);replace h:=a0;cases h;exact ⟨rfl,rfl⟩
theorem zgr (s_:yab) (f_:Int->Option Bool) (f1_:FuncId) (k1_0:IV) (hk1_0:nz k1_0=k1_0) (hf1:∀ x0 r,f_ x0=some r->Sp Tryz.prog f1_ [.im (nI x0),.im k1_0] (.im (nB r))) (r:Int) (h:Ok (nL cI s_)->Ok (.fn f1_ [k1_0])->za5 s_ f_=some r):Sp Tryz.prog 137 [.im (nL cI s_),.im (.fn f1_ [k1_0])] (.im (nI r)):=by
 refine zb6 rfl [] rfl rfl rfl (zkE rfl) rfl fun hk=>?_;replace h:=h hk.1 hk.2.1;have z1:lZ s_:=zap hk.1;unfold za5 at h;refine zlF s_.length zai ?_;obtain ⟨oc,hc,a3⟩:=zlA h;clear h;have h:=hc;clear hc;refine zlJ oc (Y:=Unit) (fun (_:Unit)=>mkSt [] [] []) (fun (_:Unit)=>True) (by rintro ⟨⟩;exact (hT)) ?_ ?_;refine zb5.iter (fun (s:Nat)=>za5.s2 s_ f_ s) (fun a2=>mkSt [(0,.im (nL cI s_)),(1,.im (.fn f1_ [k1_0])),(7,.im (nI (↑s_.length:Int))),(8,.im (nI (↑a2:Int)))] [] []) (fun a2=>lZ s_∧True) h (eA []) (by rintro a2;exact ((zlH 0 rfl).and (hT))) ?_;clear h;rintro k a2 o hp h a0;replace h:za5.s2 s_ f_ a2=some o:=h;unfold za5.s2 at h;obtain ⟨b4,_⟩:=hp;refine zlC ?_ ?_<;>intro a7;obtain ⟨h,a6⟩:=ctd a7 h;obtain ⟨b2,a5,h⟩:=zae h;refine ⟨_,⟨(by omega),zah a5,rfl⟩,?_⟩;obtain ⟨b3,a4,h⟩:=zlA h;refine ⟨_,Sp.args (hf1 b2 b3 a4) (by rw [hk1_0];try rfl),?_⟩;refine zlC ?_ ?_<;>intro a8;replace h:=zbm a8 h;cases h;have a0:_=_:=a0;cases a0;replace h:some _=some _:=a3;cases h;exact ⟨rfl,rfl⟩;replace h:=zbk a8 h;refine zbp.mk (by show inR _;unfold inR;omega) ?_;cases h;exact zlK _ a0 (eA []);obtain ⟨h,a6⟩:=cfd a7 h;cases h;have a0:_=_:=a0;cases a0;exact zdo.mk' _ rfl (eA []);rintro ⟨⟩ rfl hp;replace h:=zb8 a3;cases h;exact ⟨rfl,rfl⟩
theorem zf9 (s_:yab) (f_:Int->Option Bool) (f1_:FuncId) (k1_0:IV) (hk1_0:nz k1_0=k1_0) (hf1:∀ x0 r,f_ x0=some r->Sp Tryz.prog f1_ [.im (nI x0),.im k1_0] (.im (nB r))) (r:Bool) (h:Ok (nL cI s_)->Ok (.fn f1_ [k1_0])->zcr s_ f_=some r):Sp Tryz.prog 105 [.im (nL cI s_),.im (.fn f1_ [k1_0])] (.im (nB r)):=by
 refine zb6 rfl [] rfl rfl rfl (zkE rfl) rfl fun hk=>?_;replace h:=h hk.1 hk.2.1;have z1:lZ s_:=zap hk.1;unfold zcr at h;obtain ⟨a2,a0,h⟩:=zlA h;refine ⟨_,(zgr s_ f_ f1_ k1_0 hk1_0 hf1 a2 (fun _ _=>a0)),?_⟩;cases h;exact ⟨rfl,rfl⟩
theorem zn4 (w_:yab) (inputs_:Int) (r:Int) (h:Ok (nL cI w_)->Ok (nI inputs_)->zho w_ inputs_=some r):Sp Tryz.prog 75 [.im (nL cI w_),.im (nI inputs_)] (.im (nI r)):=by
 refine zb6 rfl [700003] rfl rfl rfl (zkE rfl) rfl fun hk=>?_;replace h:=h hk.1 hk.2.1;have z1:lZ w_:=zap hk.1;unfold zho at h;obtain ⟨b2,a0,h⟩:=zlA h;refine ⟨_,(zo4 inputs_ b2 (fun _=>a0)),?_⟩;refine zlC ?_ ?_<;>intro a6;replace h:=zbm a6 h;cases h;exact ⟨rfl,rfl⟩;replace h:=zbk a6 h;refine zlF w_.length zai ?_;refine zlC ?_ ?_<;>intro a7;obtain ⟨h,a2⟩:=ctd a7 h;cases h;exact ⟨rfl,rfl⟩;obtain ⟨h,a2⟩:=cfd a7 h;obtain ⟨b3,a3,h⟩:=zlA h;refine ⟨_,(zf9 w_ (fun u0=>zf8 u0 inputs_) 106 (.ref (cI inputs_)) rfl (fun u0 r h=>(zqr u0 inputs_ r (fun _ _=>h))) b3 (fun _ _=>a3)),?_⟩;refine zlC ?_ ?_<;>intro a8;replace h:=zbm a8 h;cases h;exact ⟨rfl,rfl⟩;replace h:=zbk a8 h;cases h;exact ⟨rfl,rfl⟩
theorem zin (a_:yab) (b_:yab) (r:Int) (h:Ok (nL cI a_)->Ok (nL cI b_)->zdf a_ b_=some r):Sp Tryz.prog 112 [.im (nL cI a_),.im (nL cI b_)] (.im (nI r)):=by
 refine zb6 rfl [] rfl rfl rfl (zkE rfl) rfl fun hk=>?_;replace h:=h hk.1 hk.2.1;have z1:lZ a_:=zap hk.1;have z2:lZ b_:=zap hk.2.1;unfold zdf at h;refine zlF a_.length zai ?_;refine zlF b_.length zai ?_;obtain ⟨oc,hc,a3⟩:=zlA h;clear h;have h:=hc;clear hc;refine zlJ oc (Y:=Unit) (fun (_:Unit)=>mkSt [(0,.im (nL cI a_)),(1,.im (nL cI b_))] [] []) (fun (_:Unit)=>lZ a_∧lZ b_∧True) (by rintro ⟨⟩;exact ((zlH 0 rfl).and ((zlH 1 rfl).and (hT)))) ?_ ?_;refine zb5.iter (fun (s:Nat)=>zdf.s2 a_ b_ s) (fun a2=>mkSt [(0,.im (nL cI a_)),(1,.im (nL cI b_)),(10,.im (nI (min (↑a_.length:Int) (↑b_.length:Int)))),(11,.im (nI (↑a2:Int)))] [] []) (fun a2=>lZ a_∧lZ b_∧True) h (eA []) (by rintro a2;exact ((zlH 0 rfl).and ((zlH 1 rfl).and (hT)))) ?_;clear h;rintro k a2 o hp h a0;replace h:zdf.s2 a_ b_ a2=some o:=h;unfold zdf.s2 at h;obtain ⟨b3,b4,_⟩:=hp;refine zlC ?_ ?_<;>intro a8;obtain ⟨h,a6⟩:=ctd a8 h;obtain ⟨b5,a5,h⟩:=zae h;refine ⟨_,⟨(by omega),zah a5,rfl⟩,?_⟩;obtain ⟨b6,a4,h⟩:=zae h;refine ⟨_,⟨(by omega),zah a4,rfl⟩,?_⟩;refine zlC ?_ ?_<;>intro b2;obtain ⟨h,a7⟩:=ctd b2 h;cases h;have a0:_=_:=a0;cases a0;replace h:some _=some _:=a3;cases h;exact ⟨rfl,rfl⟩;obtain ⟨h,a7⟩:=cfd b2 h;refine zbp.mk (by show inR _;unfold inR;omega) ?_;cases h;exact zlK _ a0 (eA []);obtain ⟨h,a6⟩:=cfd a8 h;cases h;have a0:_=_:=a0;cases a0;exact zdo.mk' _ rfl (eA []);rintro ⟨⟩ rfl hp;replace h:=zb8 a3;obtain ⟨b7,b8,_⟩:=hp;refine zlF a_.length zai ?_;refine zlF b_.length zai ?_;cases h;exact ⟨rfl,rfl⟩
theorem zgs (w_:yab) (p_:yab) (r:Bool) (h:Ok (nL cI w_)->Ok (nL cI p_)->zeh w_ p_=some r):Sp Tryz.prog 81 [.im (nL cI w_),.im (nL cI p_)] (.im (nB r)):=by
 refine zb6 rfl [] rfl rfl rfl (zkE rfl) rfl fun hk=>?_;replace h:=h hk.1 hk.2.1;have z1:lZ w_:=zap hk.1;have z2:lZ p_:=zap hk.2.1;unfold zeh at h;obtain ⟨a2,a0,h⟩:=zlA h;refine ⟨_,(zin w_ p_ a2 (fun _ _=>a0)),?_⟩;refine zlF p_.length zai ?_;cases h;exact ⟨rfl,rfl⟩
theorem zi9 (a_:zab) (b_:zab) (r:Int) (h:Ok (.agg (zag a_))->Ok (.agg (zag b_))->ze2 a_ b_=some r):Sp Tryz.prog 83 [.im (.agg (zag a_)),.im (.agg (zag b_))] (.im (nI r)):=by
 refine zb6 rfl [700002,700003] rfl rfl rfl (zkE rfl) rfl fun hk=>?_;replace h:=h hk.1 hk.2.1;have z1:lZ a_.In:=zap (zlI hk.1 0 rfl);have z2:lZ a_.Out:=zap (zlI hk.1 1 rfl);have z3:lZ b_.In:=zap (zlI hk.2.1 0 rfl);have z4:lZ b_.Out:=zap (zlI hk.2.1 1 rfl);unfold ze2 at h;obtain ⟨a2,a0,h⟩:=zlA h;refine ⟨_,(zin a_.In b_.In a2 (fun _ _=>a0)),?_⟩;refine zlF a_.Out.length zai ?_;refine zlF b_.Out.length zai ?_;obtain ⟨b2,h⟩:=zan h;refine zlB (show (0:Int)<=(0:Int)∧(0:Int)<=(min (min a2 (↑a_.Out.length:Int)) (↑b_.Out.length:Int))∧(min (min a2 (↑a_.Out.length:Int)) (↑b_.Out.length:Int))<=(↑(List.length (List.map cI a_.Out)):Int)∧(∀ e∈List.map cI a_.Out,List.length e=1) from ⟨by omega,by first | omega | (simp only [zkK];omega),by first | omega | (simp only [zkK];omega),zca fun _=>rfl⟩) ?_
 refine zlF (List.map cI (List.take (Int.toNat (min (min a2 (↑a_.Out.length:Int)) (↑b_.Out.length:Int))) a_.Out)) take_map ?_;obtain ⟨b3,h⟩:=zan h;refine zlB (show (0:Int)<=(0:Int)∧(0:Int)<=(min (min a2 (↑a_.Out.length:Int)) (↑b_.Out.length:Int))∧(min (min a2 (↑a_.Out.length:Int)) (↑b_.Out.length:Int))<=(↑(List.length (List.map cI b_.Out)):Int)∧(∀ e∈List.map cI b_.Out,List.length e=1) from ⟨by omega,by first | omega | (simp only [zkK];omega),by first | omega | (simp only [zkK];omega),zca fun _=>rfl⟩) ?_
 refine zlF (List.map cI (List.take (Int.toNat (min (min a2 (↑a_.Out.length:Int)) (↑b_.Out.length:Int))) b_.Out)) take_map ?_;obtain ⟨a8,a3,h⟩:=zlA h;refine ⟨_,(zin (List.take (Int.toNat (min (min a2 (↑a_.Out.length:Int)) (↑b_.Out.length:Int))) a_.Out) (List.take (Int.toNat (min (min a2 (↑a_.Out.length:Int)) (↑b_.Out.length:Int))) b_.Out) a8 (fun _ _=>a3)),?_⟩;refine zlC ?_ ?_<;>intro a7;obtain ⟨h,a6⟩:=ctd a7 h;cases h;exact ⟨rfl,rfl⟩;obtain ⟨h,a6⟩:=cfd a7 h;cases h;exact ⟨rfl,rfl⟩
theorem zkc (x_:Int) (r:Bool) (h:Ok (nI x_)->cmp_isNaN_int x_=some r):Sp Tryz.prog 152 [.im (nI x_)] (.im (nB r)):=by
 refine zb6 rfl [] rfl rfl rfl (zkE rfl) rfl fun hk=>?_;replace h:=h hk.1;unfold cmp_isNaN_int at h;cases h;exact ⟨rfl,rfl⟩
theorem zh5 (x_:Int) (y_:Int) (r:Int) (h:Ok (nI x_)->Ok (nI y_)->cmp_Compare_int x_ y_=some r):Sp Tryz.prog 129 [.im (nI x_),.im (nI y_)] (.im (nI r)):=by
 refine zb6 rfl [] rfl rfl rfl (zkE rfl) rfl fun hk=>?_;replace h:=h hk.1 hk.2.1;unfold cmp_Compare_int at h;obtain ⟨b5,a0,h⟩:=zlA h;refine ⟨_,(zkc x_ b5 (fun _=>a0)),?_⟩;obtain ⟨b6,a3,h⟩:=zlA h;refine ⟨_,(zkc y_ b6 (fun _=>a3)),?_⟩;refine zlC ?_ ?_<;>intro a7;replace h:=zbm a7 h;refine zlC ?_ ?_<;>intro a8;replace h:=zbm a8 h;cases h;exact ⟨rfl,rfl⟩;replace h:=zbk a8 h;cases h;exact ⟨rfl,rfl⟩;replace h:=zbk a7 h;refine zlC ?_ ?_<;>intro b2;replace h:=zbm b2 h;cases h;exact ⟨rfl,rfl⟩;replace h:=zbk b2 h;refine zlC ?_ ?_<;>intro b3;obtain ⟨h,a2⟩:=ctd b3 h;cases h;exact ⟨rfl,rfl⟩;obtain ⟨h,a2⟩:=cfd b3 h;refine zlC ?_ ?_<;>intro b4;obtain ⟨h,a6⟩:=ctd b4 h;cases h;exact ⟨rfl,rfl⟩;obtain ⟨h,a6⟩:=cfd b4 h;cases h;exact ⟨rfl,rfl⟩
theorem zfi (s1_:yab) (s2_:yab) (r:Int) (h:Ok (nL cI s1_)->Ok (nL cI s2_)->zbh s1_ s2_=some r):Sp Tryz.prog 130 [.im (nL cI s1_),.im (nL cI s2_)] (.im (nI r)):=by
 refine zb6 rfl [] rfl rfl rfl (zkE rfl) rfl fun hk=>?_;replace h:=h hk.1 hk.2.1;have z1:lZ s1_:=zap hk.1;have z2:lZ s2_:=zap hk.2.1;unfold zbh at h;refine zlF s1_.length zai ?_;obtain ⟨oc,hc,a3⟩:=zlA h;clear h;have h:=hc;clear hc;refine zlJ oc (Y:=Unit) (fun (_:Unit)=>mkSt [(0,.im (nL cI s1_)),(1,.im (nL cI s2_))] [] []) (fun (_:Unit)=>lZ s1_∧lZ s2_∧True) (by rintro ⟨⟩;exact ((zlH 0 rfl).and ((zlH 1 rfl).and (hT)))) ?_ ?_;refine zb5.iter (fun (s:Nat)=>zbh.s2 s1_ s2_ s) (fun a2=>mkSt [(0,.im (nL cI s1_)),(1,.im (nL cI s2_)),(9,.im (nL cI s1_)),(10,.im (nI (↑s1_.length:Int))),(11,.im (nI (↑a2:Int)))] [] []) (fun a2=>lZ s1_∧lZ s2_∧True) h (eA []) (by rintro a2;exact ((zlH 0 rfl).and ((zlH 1 rfl).and (hT)))) ?_;clear h;rintro k a2 o hp h a0;replace h:zbh.s2 s1_ s2_ a2=some o:=h;unfold zbh.s2 at h;obtain ⟨c0,c6,_⟩:=hp;refine zlC ?_ ?_<;>intro b3;obtain ⟨h,a6⟩:=ctd b3 h;obtain ⟨b7,a4,h⟩:=zae h;refine ⟨_,⟨(by omega),zah a4,rfl⟩,?_⟩;refine zlF s2_.length zai ?_;refine zlC ?_ ?_<;>intro b4;obtain ⟨h,a7⟩:=ctd b4 h;cases h;have a0:_=_:=a0;cases a0;replace h:some _=some _:=a3;cases h;exact ⟨rfl,rfl⟩;obtain ⟨h,a7⟩:=cfd b4 h;obtain ⟨b8,a5,h⟩:=zae h;refine ⟨_,⟨(by omega),zah a5,rfl⟩,?_⟩;obtain ⟨b9,a9,h⟩:=zlA h;refine ⟨_,(zh5 b7 b8 b9 (fun _ _=>a9)),?_⟩;refine zlC ?_ ?_<;>intro b5;obtain ⟨h,a8⟩:=ctd b5 h;cases h;have a0:_=_:=a0;cases a0;replace h:some _=some _:=a3;cases h;exact ⟨rfl,rfl⟩;obtain ⟨h,a8⟩:=cfd b5 h;refine zbp.mk (by show inR _;unfold inR;omega) ?_;cases h;exact zlK _ a0 (eA []);obtain ⟨h,a6⟩:=cfd b3 h;cases h;have a0:_=_:=a0;cases a0;exact zdo.mk' _ rfl (eA []);rintro ⟨⟩ rfl hp;replace h:=zb8 a3;obtain ⟨c7,c8,_⟩:=hp;refine zlF s1_.length zai ?_;refine zlF s2_.length zai ?_;refine zlC ?_ ?_<;>intro b6;obtain ⟨h,b2⟩:=ctd b6 h;cases h;exact ⟨rfl,rfl⟩;obtain ⟨h,b2⟩:=cfd b6 h;cases h;exact ⟨rfl,rfl⟩
theorem sp_word_Lex (a_:yab) (b_:yab) (r:Int) (h:Ok (nL cI a_)->Ok (nL cI b_)->zhk a_ b_=some r):Sp Tryz.prog 99 [.im (nL cI a_),.im (nL cI b_)] (.im (nI r)):=by
 refine zb6 rfl [] rfl rfl rfl (zkE rfl) rfl fun hk=>?_;replace h:=h hk.1 hk.2.1;have z1:lZ a_:=zap hk.1;have z2:lZ b_:=zap hk.2.1;unfold zhk at h;obtain ⟨a2,a0,h⟩:=zlA h;refine ⟨_,(zfi a_ b_ a2 (fun _ _=>a0)),?_⟩;cases h;exact ⟨rfl,rfl⟩
theorem zro (l_:List zab) (r:Bool) (h:Ok (nL zag l_)->zdn l_=some r):Sp Tryz.prog 78 [.im (nL zag l_)] (.im (nB r)):=by
 refine zb6 rfl [8000,2008000] rfl rfl rfl (zkE rfl) rfl fun hk=>?_;replace h:=h hk.1;have z1:lZ l_:=zap hk.1;unfold zdn at h;obtain ⟨c6,d5,h⟩:=zlA h;refine ⟨_,(zmz l_ c6 (d5)),?_⟩;refine zlB ⟨rfl,trivial⟩ ?_;obtain ⟨a7,d6,h⟩:=zlA h;refine ⟨_,(zkn c6 (fun u0 u1=>zde u0 u1) 110 zm9 a7 (d6)),?_⟩;obtain ⟨oc,hc,d1⟩:=zlA h;clear h;have h:=hc;clear hc;refine zlJ oc (Y:=Unit) (fun (_:Unit)=>mkSt [] [] []) (fun (_:Unit)=>True) (by rintro ⟨⟩;exact (hT)) ?_ ?_;refine zb5.iter (fun (s:Nat)=>zdn.s2 a7 s) (fun a6=>mkSt [(0,.osl 64 1),(3,.im (nI (↑a6:Int)))] [(64,.row 58 2 (List.map zag a7))] []) (fun a6=>lZ a7∧True) h (eA [(64,some 5)]) (by rintro a6;exact ((Holds.kdl 64 rfl).and (hT))) ?_;clear h;rintro k a6 o hp h a0;replace h:zdn.s2 a7 a6=some o:=h;unfold zdn.s2 at h;obtain ⟨c7,_⟩:=hp;refine zlB rfl ?_;refine zlF a7.length zai ?_;refine zlC ?_ ?_<;>intro a8;obtain ⟨h,b2⟩:=ctd a8 h;obtain ⟨b4,hc,d4⟩:=zlA h;clear h;have h:=hc;clear hc;refine Cut.mk (mkSt [(0,.osl 64 1),(3,.im (nI (↑a6:Int))),(38,.im (nB b4))] [(64,.row 58 2 (List.map zag a7))] []) (lZ a7∧True) ((Holds.kdl 64 rfl).and (hT)) ?_ (fun hp=>?_);obtain ⟨b5,a4,h⟩:=zae h;refine zlB ⟨(by omega),rfl,za4 a4⟩ ?_;refine zlB rfl ?_;refine ⟨_,_,⟨rfl,zah a4,rfl,rfl⟩,?_⟩;refine zbp.mk (by show inR _;unfold inR;omega) ?_;obtain ⟨b6,c9,a9,h⟩:=zau h;refine zlB ⟨c9,rfl,za4 a9⟩ ?_;refine zlB rfl ?_;refine ⟨_,_,⟨rfl,zah a9,rfl,rfl⟩,?_⟩;obtain ⟨b7,d3,h⟩:=zlA h;refine ⟨_,(zgs b5.In b6.In b7 (fun _ _=>d3)),?_⟩;refine zlC ?_ ?_<;>intro a2;replace a2:=zdc a2;replace h:=zbk a2 h
 iterate 2 (refine zlD (zbr a2) ?_)
 refine zbp.mk (by show inR _;unfold inR;omega) ?_;refine zlD (zbr a2) ?_;obtain ⟨b8,d0,a5,h⟩:=zau h;refine zlB ⟨d0,rfl,za4 a5⟩ ?_;refine zlD (zbr a2) ?_;refine ⟨_,⟨rfl,zah a5,of_decide_eq_true rfl,rfl⟩,?_⟩
 iterate 3 (refine zlD (zbr a2) ?_)
 obtain ⟨b9,a3,h⟩:=zae h;refine zlB ⟨(by omega),rfl,za4 a3⟩ ?_;refine zlD (zbr a2) ?_;refine ⟨_,⟨rfl,zah a3,of_decide_eq_true rfl,rfl⟩,?_⟩;refine zlD (zbr a2) ?_;obtain ⟨c0,d2,h⟩:=zlA h;refine ⟨_,(zi9 b8 b9 c0 (fun _ _=>d2)),?_⟩;refine zlD (zbr a2) ?_;refine zlE a2 ?_;cases h;exact zlG (eA [(64,some 64)]);replace a2:=zdd a2;replace h:=zbm a2 h
 iterate 10 (refine zlE (zdb a2) ?_)
 refine zlD a2 ?_;cases h;exact zlG (eA [(64,some 64)]);replace h:=d4;obtain ⟨c8,_⟩:=hp;refine zlC ?_ ?_<;>intro b3;replace h:=zbm b3 h;cases h;have a0:_=_:=a0;cases a0;replace h:some _=some _:=d1;cases h;exact ⟨rfl,rfl⟩;replace h:=zbk b3 h;refine zbp.mk (by show inR _;unfold inR;omega) ?_;cases h;exact zlK _ a0 (eA [(64,some 64)]);obtain ⟨h,b2⟩:=cfd a8 h;cases h;have a0:_=_:=a0;cases a0;exact zdo.mk' _ rfl (eA []);rintro ⟨⟩ rfl hp;replace h:=zb8 d1;cases h;exact ⟨rfl,rfl⟩
theorem zm6 (o_:Int) (r:Bool) (h:Ok (nI o_)->ze1 o_=some r):Sp Tryz.prog 107 [.im (nI o_)] (.im (nB r)):=by
 refine zb6 rfl [] rfl rfl rfl (zkE rfl) rfl fun hk=>?_;replace h:=h hk.1;unfold ze1 at h;obtain ⟨a7,hc,a0⟩:=zlA h;clear h;have h:=hc;clear hc;refine Cut.mk (mkSt [(2,.im (nB a7))] [] []) (True) (hT) ?_ (fun hp=>?_);refine zlC ?_ ?_<;>intro a2;replace a2:=zdc a2;obtain ⟨h,a6⟩:=cfd a2 h;refine zlD (zbr a2) ?_;refine zlE a2 ?_;cases h;exact zlG (eA []);replace a2:=zdd a2;obtain ⟨h,a6⟩:=ctd a2 h;refine zlE (zdb a2) ?_;refine zlD a2 ?_;cases h;exact zlG (eA []);replace h:=a0;cases h;exact ⟨rfl,rfl⟩
theorem zpa (t_:zab) (inputs_:Int) (r:Int) (h:Ok (.agg (zag t_))->Ok (nI inputs_)->zfr t_ inputs_=some r):Sp Tryz.prog 76 [.im (.agg (zag t_)),.im (nI inputs_)] (.im (nI r)):=by
 refine zb6 rfl [700002] rfl rfl rfl (zkE rfl) rfl fun hk=>?_;replace h:=h hk.1 hk.2.1;have z1:lZ t_.In:=zap (zlI hk.1 0 rfl);have z2:lZ t_.Out:=zap (zlI hk.1 1 rfl);unfold zfr at h;obtain ⟨b3,a0,h⟩:=zlA h;refine ⟨_,(zn4 t_.In inputs_ b3 (fun _ _=>a0)),?_⟩;refine zlC ?_ ?_<;>intro a7;obtain ⟨h,a2⟩:=ctd a7 h;cases h;exact ⟨rfl,rfl⟩;obtain ⟨h,a2⟩:=cfd a7 h;refine zlF t_.Out.length zai ?_;refine zlF t_.In.length zai ?_;refine zlC ?_ ?_<;>intro a8;obtain ⟨h,a6⟩:=ctd a8 h;cases h;exact ⟨rfl,rfl⟩;obtain ⟨h,a6⟩:=cfd a8 h;obtain ⟨b4,a3,h⟩:=zlA h;refine ⟨_,(zgm t_.Out (fun u0=>ze1 u0) 107 (fun u0 r h=>(zm6 u0 r (fun _=>h))) b4 (fun _ _=>a3)),?_⟩;refine zlC ?_ ?_<;>intro b2;replace h:=zbm b2 h;cases h;exact ⟨rfl,rfl⟩;replace h:=zbk b2 h;cases h;exact ⟨rfl,rfl⟩
theorem sp_cmp_Or_int (vals_:yab) (r:Int) (h:Ok (nL cI vals_)->zdx vals_=some r):Sp Tryz.prog 128 [.im (nL cI vals_)] (.im (nI r)):=by
 refine zb6 rfl [] rfl rfl rfl (zkE rfl) rfl fun hk=>?_;replace h:=h hk.1;have z1:lZ vals_:=zap hk.1;unfold zdx at h;refine zlF vals_.length zai ?_;obtain ⟨oc,hc,a3⟩:=zlA h;clear h;have h:=hc;clear hc;refine zlJ oc (Y:=Unit) (fun (_:Unit)=>mkSt [(3,.im (nI 0))] [] []) (fun (_:Unit)=>True) (by rintro ⟨⟩;exact (hT)) ?_ ?_;refine zb5.iter (fun (s:Nat)=>zdx.s2 vals_ s) (fun a2=>mkSt [(3,.im (nI 0)),(6,.im (nL cI vals_)),(7,.im (nI (↑vals_.length:Int))),(8,.im (nI (↑a2:Int)))] [] []) (fun a2=>lZ vals_∧True) h (eA []) (by rintro a2;exact ((zlH 6 rfl).and (hT))) ?_;clear h;rintro k a2 o hp h a0;replace h:zdx.s2 vals_ a2=some o:=h;unfold zdx.s2 at h;obtain ⟨b3,_⟩:=hp;refine zlC ?_ ?_<;>intro a8;obtain ⟨h,a6⟩:=ctd a8 h;obtain ⟨b4,a4,h⟩:=zae h;refine ⟨_,⟨(by omega),zah a4,rfl⟩,?_⟩;refine zlC ?_ ?_<;>intro b2;obtain ⟨h,a7⟩:=ctd b2 h;cases h;have a0:_=_:=a0;cases a0;replace h:some _=some _:=a3;cases h;exact ⟨rfl,rfl⟩;obtain ⟨h,a7⟩:=cfd b2 h;refine zbp.mk (by show inR _;unfold inR;omega) ?_;cases h;exact zlK _ a0 (eA []);obtain ⟨h,a6⟩:=cfd a8 h;cases h;have a0:_=_:=a0;cases a0;exact zdo.mk' _ rfl (eA []);rintro ⟨⟩ rfl hp;replace h:=zb8 a3;cases h;exact ⟨rfl,rfl⟩
theorem zk5 (a_:yab) (b_:yab) (r:Int) (h:Ok (nL cI a_)->Ok (nL cI b_)->zdj a_ b_=some r):Sp Tryz.prog 96 [.im (nL cI a_),.im (nL cI b_)] (.im (nI r)):=by
 refine zb6 rfl [] rfl rfl rfl (zkE rfl) rfl fun hk=>?_;replace h:=h hk.1 hk.2.1;have z1:lZ a_:=zap hk.1;have z2:lZ b_:=zap hk.2.1;unfold zdj at h;refine zlF a_.length zai ?_;refine zlF b_.length zai ?_;obtain ⟨a2,a4,h⟩:=zlA h;refine ⟨_,(zh5 (↑a_.length:Int) (↑b_.length:Int) a2 (fun _ _=>a4)),?_⟩;obtain ⟨a6,a3,h⟩:=zlA h;refine ⟨_,(zfi a_ b_ a6 (fun _ _=>a3)),?_⟩;obtain ⟨a7,a0,h⟩:=zlA h;refine ⟨_,(sp_cmp_Or_int [a2,a6] a7 (fun _=>a0)),?_⟩;cases h;exact ⟨rfl,rfl⟩
theorem zp3 (a_:zab) (b_:zab) (r:Int) (h:Ok (.agg (zag a_))->Ok (.agg (zag b_))->zhf a_ b_=some r):Sp Tryz.prog 77 [.im (.agg (zag a_)),.im (.agg (zag b_))] (.im (nI r)):=by
 refine zb6 rfl [700002,700003] rfl rfl rfl (zkE rfl) rfl fun hk=>?_;replace h:=h hk.1 hk.2.1;have z1:lZ a_.In:=zap (zlI hk.1 0 rfl);have z2:lZ a_.Out:=zap (zlI hk.1 1 rfl);have z3:lZ b_.In:=zap (zlI hk.2.1 0 rfl);have z4:lZ b_.Out:=zap (zlI hk.2.1 1 rfl);unfold zhf at h;obtain ⟨a2,a0,h⟩:=zlA h;refine ⟨_,(zk5 a_.In b_.In a2 (fun _ _=>a0)),?_⟩;cases h;exact ⟨rfl,rfl⟩
theorem zoh (u_:zab) (p1_:zab) (r:Bool) (h:Ok (.agg (zag u_))->Ok (.ref (zag p1_))->zfa u_ p1_=some r):Sp Tryz.prog 80 [.im (.agg (zag u_)),.im (.ref (zag p1_))] (.im (nB r)):=by
 refine zb6 rfl [700002] rfl rfl rfl (zkE rfl) rfl fun hk=>?_;replace h:=h hk.1 hk.2.1;have z1:lZ u_.In:=zap (zlI hk.1 0 rfl);have z2:lZ u_.Out:=zap (zlI hk.1 1 rfl);have z3:lZ p1_.In:=zap (Ok.ref_at hk.2.1 0 rfl);have z4:lZ p1_.Out:=zap (Ok.ref_at hk.2.1 1 rfl);unfold zfa at h;obtain ⟨a2,a0,h⟩:=zlA h;refine ⟨_,(zgs u_.In p1_.In a2 (fun _ _=>a0)),?_⟩;cases h;exact ⟨rfl,rfl⟩
theorem znv (u_:zab) (p1_:zab) (r:Bool) (h:Ok (.agg (zag u_))->Ok (.ref (zag p1_))->ze9 u_ p1_=some r):Sp Tryz.prog 82 [.im (.agg (zag u_)),.im (.ref (zag p1_))] (.im (nB r)):=by
 refine zb6 rfl [700002] rfl rfl rfl (zkE rfl) rfl fun hk=>?_;replace h:=h hk.1 hk.2.1;have z1:lZ u_.In:=zap (zlI hk.1 0 rfl);have z2:lZ u_.Out:=zap (zlI hk.1 1 rfl);have z3:lZ p1_.In:=zap (Ok.ref_at hk.2.1 0 rfl);have z4:lZ p1_.Out:=zap (Ok.ref_at hk.2.1 1 rfl);unfold ze9 at h;obtain ⟨a2,a0,h⟩:=zlA h;refine ⟨_,(zi9 p1_ u_ a2 (fun _ _=>a0)),?_⟩;cases h;exact ⟨rfl,rfl⟩
theorem zew (s_:List zab) (f_:zab->Option Bool) (f1_:FuncId) (k1_0:IV) (hk1_0:nz k1_0=k1_0) (hf1:∀ x0 r,f_ x0=some r->Sp Tryz.prog f1_ [.im (.agg (zag x0)),.im k1_0] (.im (nB r))) (r:Int) (h:Ok (nL zag s_)->Ok (.fn f1_ [k1_0])->zaq s_ f_=some r):Sp Tryz.prog 111 [.im (nL zag s_),.im (.fn f1_ [k1_0])] (.im (nI r)):=by
 refine zb6 rfl [] rfl rfl rfl (zkE rfl) rfl fun hk=>?_;replace h:=h hk.1 hk.2.1;have z1:lZ s_:=zap hk.1;unfold zaq at h;refine zlF s_.length zai ?_;obtain ⟨oc,hc,a3⟩:=zlA h;clear h;have h:=hc;clear hc;refine zlJ oc (Y:=Unit) (fun (_:Unit)=>mkSt [] [] []) (fun (_:Unit)=>True) (by rintro ⟨⟩;exact (hT)) ?_ ?_;refine zb5.iter (fun (s:Nat)=>zaq.s2 s_ f_ s) (fun a2=>mkSt [(0,.im (nL zag s_)),(1,.im (.fn f1_ [k1_0])),(7,.im (nI (↑s_.length:Int))),(8,.im (nI (↑a2:Int)))] [] []) (fun a2=>lZ s_∧True) h (eA []) (by rintro a2;exact ((zlH 0 rfl).and (hT))) ?_;clear h;rintro k a2 o hp h a0;replace h:zaq.s2 s_ f_ a2=some o:=h;unfold zaq.s2 at h;obtain ⟨b4,_⟩:=hp;refine zlC ?_ ?_<;>intro a7;obtain ⟨h,a6⟩:=ctd a7 h;obtain ⟨b2,a5,h⟩:=zae h;refine ⟨_,⟨(by omega),zah a5,rfl⟩,?_⟩;obtain ⟨b3,a4,h⟩:=zlA h;refine ⟨_,Sp.args (hf1 b2 b3 a4) (by rw [hk1_0];try rfl),?_⟩;refine zlC ?_ ?_<;>intro a8;replace h:=zbm a8 h;cases h;have a0:_=_:=a0;cases a0;replace h:some _=some _:=a3;cases h;exact ⟨rfl,rfl⟩;replace h:=zbk a8 h;refine zbp.mk (by show inR _;unfold inR;omega) ?_;cases h;exact zlK _ a0 (eA []);obtain ⟨h,a6⟩:=cfd a7 h;cases h;have a0:_=_:=a0;cases a0;exact zdo.mk' _ rfl (eA []);rintro ⟨⟩ rfl hp;replace h:=zb8 a3;cases h;exact ⟨rfl,rfl⟩
theorem zc5 (s_:List zab) (f_:zab->Option Bool) (f1_:FuncId) (k1_0:IV) (hk1_0:nz k1_0=k1_0) (hf1:∀ x0 r,f_ x0=some r->Sp Tryz.prog f1_ [.im (.agg (zag x0)),.im k1_0] (.im (nB r))) (r:Bool) (h:Ok (nL zag s_)->Ok (.fn f1_ [k1_0])->zbi s_ f_=some r):Sp Tryz.prog 79 [.im (nL zag s_),.im (.fn f1_ [k1_0])] (.im (nB r)):=by
 refine zb6 rfl [] rfl rfl rfl (zkE rfl) rfl fun hk=>?_;replace h:=h hk.1 hk.2.1;have z1:lZ s_:=zap hk.1;unfold zbi at h;obtain ⟨a2,a0,h⟩:=zlA h;refine ⟨_,(zew s_ f_ f1_ k1_0 hk1_0 hf1 a2 (fun _ _=>a0)),?_⟩;cases h;exact ⟨rfl,rfl⟩
theorem zpz (o_:zar) (r:Int) (h:Ok (.agg (zb0 o_))->zby o_=some r):Sp Tryz.prog 43 [.im (.agg (zb0 o_))] (.im (nI r)):=by
 refine zb6 rfl [700001,800008] rfl rfl rfl (zkE rfl) rfl fun hk=>?_;replace h:=h hk.1;have z1:lZ o_.Traces:=zap (zlI hk.1 1 rfl);unfold zby at h;obtain ⟨e6,hc,g5⟩:=zlA h;clear h;have h:=hc;clear hc;refine Cut.mk (mkSt [(1,.im (.ref (zb0 o_))),(17,.im (nB e6))] [] []) (True) (hT) ?_ (fun hp=>?_);refine zlC ?_ ?_<;>intro b2;replace b2:=zdc b2;obtain ⟨h,d4⟩:=cfd b2 h
 iterate 2 (refine zlD (zbr b2) ?_)
 refine zlE b2 ?_;cases h;exact zlG (eA []);replace b2:=zdd b2;obtain ⟨h,d4⟩:=ctd b2 h
 iterate 2 (refine zlE (zdb b2) ?_)
 refine zlD b2 ?_;cases h;exact zlG (eA []);replace h:=g5;refine zlC ?_ ?_<;>intro e4;replace h:=zbm e4 h;cases h;exact ⟨rfl,rfl⟩;replace h:=zbk e4 h;refine zlF o_.Traces.length zai ?_;refine zlC ?_ ?_<;>intro e5;obtain ⟨h,d5⟩:=ctd e5 h;cases h;exact ⟨rfl,rfl⟩;obtain ⟨h,d5⟩:=cfd e5 h;refine zlF o_.Traces.length zai ?_;obtain ⟨oc,hc,a4⟩:=zlA h;clear h;have h:=hc;clear hc;refine zlJ oc (Y:=Unit) (fun (_:Unit)=>mkSt [(1,.im (.ref (zb0 o_)))] [] []) (fun (_:Unit)=>True) (by rintro ⟨⟩;exact (hT)) ?_ ?_;refine zb5.iter (fun (s:Nat)=>zby.s2 o_ s) (fun a7=>mkSt [(1,.im (.ref (zb0 o_))),(23,.im (nL zag o_.Traces)),(24,.im (nI (↑o_.Traces.length:Int))),(25,.im (nI (↑a7:Int)))] [] []) (fun a7=>lZ o_.Traces∧True) h (eA []) (by rintro a7;exact ((zlH 23 rfl).and (hT))) ?_;clear h;rintro k a7 o hp h a0;replace h:zby.s2 o_ a7=some o:=h;unfold zby.s2 at h;obtain ⟨e7,_⟩:=hp;refine zlC ?_ ?_<;>intro b4;obtain ⟨h,b5⟩:=ctd b4 h;obtain ⟨b3,f5,h⟩:=zae h;refine ⟨_,⟨(by omega),zah f5,rfl⟩,?_⟩;refine zlB rfl ?_;refine zlB rfl ?_;refine zlB rfl ?_;obtain ⟨d6,g1,h⟩:=zlA h;refine ⟨_,(zn4 b3.In o_.Inputs d6 (fun _ _=>g1)),?_⟩;refine zlC ?_ ?_<;>intro b6;obtain ⟨h,b7⟩:=ctd b6 h;cases h;have a0:_=_:=a0;cases a0;replace h:some _=some _:=a4;cases h;exact ⟨rfl,rfl⟩;obtain ⟨h,b7⟩:=cfd b6 h;refine zlB rfl ?_;refine zlB rfl ?_;refine zlF b3.In.length zai ?_;refine zlC ?_ ?_<;>intro b8;obtain ⟨h,b9⟩:=ctd b8 h;cases h;have a0:_=_:=a0;cases a0;replace h:some _=some _:=a4;cases h;exact ⟨rfl,rfl⟩;obtain ⟨h,b9⟩:=cfd b8 h;refine zlB rfl ?_;obtain ⟨d7,f9,h⟩:=zlA h;refine ⟨_,(zpa b3 o_.Inputs d7 (fun _ _=>f9)),?_⟩;refine zlC ?_ ?_<;>intro c0;obtain ⟨h,c6⟩:=ctd c0 h;cases h;have a0:_=_:=a0;cases a0;replace h:some _=some _:=a4;cases h;exact ⟨rfl,rfl⟩;obtain ⟨h,c6⟩:=cfd c0 h;obtain ⟨d8,hc,g3⟩:=zlA h;clear h;have h:=hc;clear hc;refine Cut.mk (mkSt [(1,.im (.ref (zb0 o_))),(23,.im (nL zag o_.Traces)),(24,.im (nI (↑o_.Traces.length:Int))),(25,.im (nI (↑a7:Int))),(61,.im (nB d8))] [] []) (lZ o_.Traces∧True) ((zlH 23 rfl).and (hT)) ?_ (fun hp=>?_);refine zlC ?_ ?_<;>intro a2;replace a2:=zc1 a2;obtain ⟨h,c7⟩:=ctd a2 h
 iterate 3 (refine zlD (zbj a2) ?_)
 refine zbp.mk (by show inR _;unfold inR;omega) ?_;refine zlD (zbj a2) ?_;obtain ⟨d9,a9,f6,h⟩:=zau h;refine ⟨_,⟨a9,zah f6,rfl⟩,?_⟩
 iterate 2 (refine zlD (zbj a2) ?_)
 refine zlB rfl ?_;refine zlD (zbj a2) ?_;obtain ⟨e0,f4,h⟩:=zlA h;refine ⟨_,(zp3 d9 b3 e0 (fun _ _=>f4)),?_⟩;refine zlD (zbj a2) ?_;refine zlD a2 ?_;cases h;exact zlG (eA []);replace a2:=zcz a2;obtain ⟨h,c7⟩:=cfd a2 h
 iterate 8 (refine zlE (zdi a2) ?_)
 refine zlE a2 ?_;cases h;exact zlG (eA []);replace h:=g3;obtain ⟨e8,_⟩:=hp;refine zlC ?_ ?_<;>intro c8;replace h:=zbm c8 h;cases h;have a0:_=_:=a0;cases a0;replace h:some _=some _:=a4;cases h;exact ⟨rfl,rfl⟩;replace h:=zbk c8 h;refine zbp.mk (by show inR _;unfold inR;omega) ?_;cases h;exact zlK _ a0 (eA []);obtain ⟨h,b5⟩:=cfd b4 h;cases h;have a0:_=_:=a0;cases a0;exact zdo.mk' _ rfl (eA []);rintro ⟨⟩ rfl hp;replace h:=zb8 a4;obtain ⟨e1,g2,h⟩:=zlA h;refine ⟨_,(zro o_.Traces e1 (fun _=>g2)),?_⟩;refine zlC ?_ ?_<;>intro c9;replace h:=zbm c9 h;cases h;exact ⟨rfl,rfl⟩;replace h:=zbk c9 h;refine zlF o_.Traces.length zai ?_;obtain ⟨oc,hc,a5⟩:=zlA h;clear h;have h:=hc;clear hc;refine zlJ oc (Y:=Unit) (fun (_:Unit)=>mkSt [] [] []) (fun (_:Unit)=>True) (by rintro ⟨⟩;exact (hT)) ?_ ?_;refine zb5.iter (fun (s:Nat)=>zby.s4 o_ s) (fun a6=>mkSt [(1,.im (.ref (zb0 o_))),(67,.im (nL zag o_.Traces)),(68,.im (nI (↑o_.Traces.length:Int))),(69,.im (nI (↑a6:Int)))] [] []) (fun a6=>lZ o_.Traces∧True) h (eA []) (by rintro a6;exact ((zlH 67 rfl).and (hT))) ?_;clear h;rintro k a6 o hp h a3;replace h:zby.s4 o_ a6=some o:=h;unfold zby.s4 at h;obtain ⟨e9,_⟩:=hp;refine zlC ?_ ?_<;>intro d0;obtain ⟨h,d1⟩:=ctd d0 h;obtain ⟨a8,f7,h⟩:=zae h;refine ⟨_,⟨(by omega),zah f7,rfl⟩,?_⟩;refine zlB rfl ?_;refine zbp.mk (by show inR _;unfold inR;omega) ?_;obtain ⟨f3,h⟩:=zan h;refine zlB (show (0:Int)<=((↑a6:Int)+1)∧((↑a6:Int)+1)<=(↑(List.length (List.map zag o_.Traces)):Int)∧(↑(List.length (List.map zag o_.Traces)):Int)<=(↑(List.length (List.map zag o_.Traces)):Int)∧(∀ e∈List.map zag o_.Traces,List.length e=2) from ⟨by omega,by first | omega | (simp only [zkK];omega),by first | omega | (simp only [zkK];omega),zca fun _=>rfl⟩) ?_
 refine zlF (List.map zag (List.drop (a6+1) o_.Traces)) drop_map ?_;refine zlB ⟨rfl,trivial⟩ ?_;obtain ⟨e2,g4,h⟩:=zlA h;refine ⟨_,(zc5 (List.drop (a6+1) o_.Traces) (fun u0=>zfa u0 a8) 80 (.ref (zag a8)) rfl (fun u0 r h=>(zoh u0 a8 r (fun _ _=>h))) e2 (fun _ _=>g4)),?_⟩;refine zlC ?_ ?_<;>intro d2;replace h:=zbm d2 h;cases h;have a3:_=_:=a3;cases a3;replace h:some _=some _:=a5;cases h;exact ⟨rfl,rfl⟩;replace h:=zbk d2 h;obtain ⟨e3,f8,h⟩:=zlA h;refine ⟨_,(zc5 (List.drop (a6+1) o_.Traces) (fun u0=>ze9 u0 a8) 82 (.ref (zag a8)) rfl (fun u0 r h=>(znv u0 a8 r (fun _ _=>h))) e3 (fun _ _=>f8)),?_⟩;refine zlC ?_ ?_<;>intro d3;replace h:=zbm d3 h;cases h;have a3:_=_:=a3;cases a3;replace h:some _=some _:=a5;cases h;exact ⟨rfl,rfl⟩;replace h:=zbk d3 h;refine zbp.mk (by show inR _;unfold inR;omega) ?_;cases h;exact zlK _ a3 (eA []);obtain ⟨h,d1⟩:=cfd d0 h;cases h;have a3:_=_:=a3;cases a3;exact zdo.mk' _ rfl (eA []);rintro ⟨⟩ rfl hp;replace h:=zb8 a5;cases h;exact ⟨rfl,rfl⟩
theorem ze8 (inputs_:Int) (r:yab) (h:Ok (nI inputs_)->zc0 inputs_=some r):Sp Tryz.prog 44 [.im (nI inputs_)] (.row 3 1 (List.map cI r)):=by
 refine zb6 rfl [] rfl rfl rfl (zkE rfl) rfl fun hk=>?_;replace h:=h hk.1;unfold zc0 at h;obtain ⟨b3,h⟩:=zan h;refine zlB b3 ?_;refine zlF (List.map cI (List.replicate (Int.toNat inputs_) (0:Int))) (zfn (c:=cI) (z:=0) (n:=(Int.toNat inputs_)) rfl rfl) ?_;refine zlB rfl ?_;refine zlF (List.length (List.replicate (Int.toNat inputs_) (0:Int))) zai ?_;obtain ⟨a8,hc,a4⟩:=zlA h;clear h;have h:=hc;clear hc;refine Cut.mk (mkSt [(3,.osl 64 1)] [(64,.row 3 1 (List.map cI a8))] []) (lZ a8∧True) ((Holds.kdl 64 rfl).and (hT)) ?_ (fun hp=>?_);refine zb5.iter (fun (s:yab×Nat)=>zc0.s2 inputs_ s.1 s.2) (fun (a2,a6)=>mkSt [(3,.osl 64 1),(8,.im (nI (↑(List.length (List.replicate (Int.toNat inputs_) (0:Int))):Int))),(9,.im (nI (↑a6:Int)))] [(64,.row 3 1 (List.map cI a2))] []) (fun (a2,a6)=>lZ a2∧True) h (eA [(64,some 6)]) (by rintro ⟨a2,a6⟩;exact ((Holds.kdl 64 rfl).and (hT))) ?_;clear h;rintro k ⟨a2,a6⟩ o hp h a0;replace h:zc0.s2 inputs_ a2 a6=some o:=h;unfold zc0.s2 at h;obtain ⟨a5,_⟩:=hp;refine zlC ?_ ?_<;>intro b2;obtain ⟨h,a7⟩:=ctd b2 h;obtain ⟨b5,a3,h⟩:=zae h;refine zlB ⟨(by omega),rfl,za4 a3⟩ ?_;refine zlB ⟨rfl,trivial⟩ ?_;refine ⟨_,zah a3,?_⟩;refine zlF (List.map cI (List.set a2 a6 (-1:Int))) (zdq rfl) ?_;obtain ⟨b4,h⟩:=zan h;refine zbp.mk b4 ?_;cases h;exact zlK _ a0 (eA [(64,some 64)]);obtain ⟨h,a7⟩:=cfd b2 h;cases h;have a0:_=_:=a0;cases a0;exact zlG (eA [(64,some 64)]);replace h:=a4;obtain ⟨b6,_⟩:=hp;cases h;exact zlB ⟨rfl,trivial⟩ ⟨rfl,rfl⟩
theorem zhw (p_:zac) (r:zac×yab) (h:Ok (.agg (zat p_))->zaj p_=some r):Sp Tryz.prog 45 [.im (.agg (zat p_))] (.tup [.agg (zat r.1),nL cI r.2]):=by
 refine zb6 rfl [26,700001] rfl rfl rfl (zkE rfl) rfl fun hk=>?_;replace h:=h hk.1;have z1:lZ p_.Next:=zap (zlI hk.1 2 rfl);have z2:lZ p_.Out:=zap (zlI hk.1 3 rfl);unfold zaj at h;refine zlF p_.Next.length zai ?_;obtain ⟨g3,o2,h⟩:=zlA h;refine ⟨_,(ze8 (↑p_.Next.length:Int) g3 (fun _=>o2)),?_⟩;obtain ⟨k7,n7,n3,h⟩:=zau h;refine zlB ⟨n7,rfl,za4 n3⟩ ?_;refine zlB ⟨rfl,trivial⟩ ?_;refine ⟨_,zah n3,?_⟩;refine zlF (List.map cI (List.set g3 p_.Start.toNat 0)) (zdq rfl) ?_;obtain ⟨⟨a7,a8⟩,hc,o3⟩:=zlA h;clear h;have h:=hc;clear hc;refine Cut.mk (mkSt [(1,.im (.ref (zat p_))),(2,.own 127 1 0),(4,.osl 128 1),(5,.osl 129 1)] [(127,.box 24 4),(128,.row 3 1 (List.map cI a7)),(129,.row 3 1 (List.map cI a8))] [(127,0,.im (nI 0)),(127,1,.im (nI 0)),(127,2,.im (.val (.slice none 0 0))),(127,3,.im (.val (.slice none 0 0)))]) (lZ a7∧lZ a8∧True) ((Holds.kdl 128 rfl).and ((Holds.kdl 129 rfl).and (hT))) ?_ (fun hp=>?_);refine zb5.iter (fun (s:yab×yab×Nat)=>zaj.s20 p_ s.1 s.2.1 s.2.2) (fun (d0,c9,c6)=>mkSt [(1,.im (.ref (zat p_))),(2,.own 127 1 0),(4,.osl 128 1),(5,.osl 129 1),(6,.im (nI (↑c6:Int)))] [(127,.box 24 4),(128,.row 3 1 (List.map cI d0)),(129,.row 3 1 (List.map cI c9))] [(127,0,.im (nI 0)),(127,1,.im (nI 0)),(127,2,.im (.val (.slice none 0 0))),(127,3,.im (.val (.slice none 0 0)))]) (fun (d0,c9,c6)=>lZ d0∧lZ c9∧True) h (eA [(127,some 2),(128,some 19),(129,some 26)]) (by rintro ⟨d0,c9,c6⟩;exact ((Holds.kdl 128 rfl).and ((Holds.kdl 129 rfl).and (hT)))) ?_;clear h;rintro k ⟨d0,c9,c6⟩ o hp h a5;replace h:zaj.s20 p_ d0 c9 c6=some o:=h;unfold zaj.s20 at h;obtain ⟨j1,j2,_⟩:=hp;refine zlB rfl ?_;refine zlF c9.length zai ?_;refine zlC ?_ ?_<;>intro e4;obtain ⟨h,e5⟩:=ctd e4 h;obtain ⟨j3,l7,h⟩:=zae h;refine zlB ⟨(by omega),rfl,za4 l7⟩ ?_;refine ⟨_,_,⟨rfl,zah l7,rfl,rfl⟩,?_⟩;obtain ⟨c7,m0,n8,h⟩:=zau h;refine ⟨_,⟨m0,zah n8,rfl⟩,?_⟩;refine zlF c7.length zai ?_;obtain ⟨⟨d9,e0⟩,hc,n9⟩:=zlA h;clear h;have h:=hc;clear hc;refine Cut.mk (mkSt [(1,.im (.ref (zat p_))),(2,.own 127 1 0),(4,.osl 128 1),(5,.osl 129 1),(6,.im (nI (↑c6:Int)))] [(127,.box 24 4),(128,.row 3 1 (List.map cI d9)),(129,.row 3 1 (List.map cI e0))] [(127,0,.im (nI 0)),(127,1,.im (nI 0)),(127,2,.im (.val (.slice none 0 0))),(127,3,.im (.val (.slice none 0 0)))]) (lZ d9∧lZ e0∧True) ((Holds.kdl 128 rfl).and ((Holds.kdl 129 rfl).and (hT))) ?_ (fun hp=>?_);refine zb5.iter (fun (s:yab×yab×Nat)=>zaj.s18 c7 s.1 s.2.1 s.2.2) (fun (c8,b3,d1)=>mkSt [(1,.im (.ref (zat p_))),(2,.own 127 1 0),(4,.osl 128 1),(5,.osl 129 1),(6,.im (nI (↑c6:Int))),(40,.im (nL cI c7)),(41,.im (nI (↑c7.length:Int))),(42,.im (nI (↑d1:Int)))] [(127,.box 24 4),(128,.row 3 1 (List.map cI c8)),(129,.row 3 1 (List.map cI b3))] [(127,0,.im (nI 0)),(127,1,.im (nI 0)),(127,2,.im (.val (.slice none 0 0))),(127,3,.im (.val (.slice none 0 0)))]) (fun (c8,b3,d1)=>lZ c7∧lZ c8∧lZ b3∧True) h (eA [(127,some 127),(128,some 128),(129,some 129)]) (by rintro ⟨c8,b3,d1⟩;exact ((zlH 40 rfl).and ((Holds.kdl 128 rfl).and ((Holds.kdl 129 rfl).and (hT))))) ?_;clear h;rintro k ⟨c8,b3,d1⟩ o hp h a4;replace h:zaj.s18 c7 c8 b3 d1=some o:=h;unfold zaj.s18 at h;obtain ⟨j4,j5,j6,_⟩:=hp;refine zlC ?_ ?_<;>intro e6;obtain ⟨h,e7⟩:=ctd e6 h;obtain ⟨d2,n4,h⟩:=zae h;refine ⟨_,⟨(by omega),zah n4,rfl⟩,?_⟩;obtain ⟨g1,hc,n5⟩:=zlA h;clear h;have h:=hc;clear hc;refine Cut.mk (mkSt [(1,.im (.ref (zat p_))),(2,.own 127 1 0),(4,.osl 128 1),(5,.osl 129 1),(6,.im (nI (↑c6:Int))),(8,.im (nI d2)),(40,.im (nL cI c7)),(41,.im (nI (↑c7.length:Int))),(42,.im (nI (↑d1:Int))),(54,.im (nB g1))] [(127,.box 24 4),(128,.row 3 1 (List.map cI c8)),(129,.row 3 1 (List.map cI b3))] [(127,0,.im (nI 0)),(127,1,.im (nI 0)),(127,2,.im (.val (.slice none 0 0))),(127,3,.im (.val (.slice none 0 0)))]) (lZ c7∧lZ c8∧lZ b3∧True) ((zlH 40 rfl).and ((Holds.kdl 128 rfl).and ((Holds.kdl 129 rfl).and (hT)))) ?_ (fun hp=>?_);refine zlC ?_ ?_<;>intro b4;replace b4:=zc1 b4;obtain ⟨h,e8⟩:=ctd b4 h
 iterate 2 (refine zlD (zbj b4) ?_)
 obtain ⟨j7,m9,l8,h⟩:=zau h;refine zlB ⟨m9,rfl,za4 l8⟩ ?_;refine zlD (zbj b4) ?_;refine ⟨_,_,⟨rfl,zah l8,rfl,rfl⟩,?_⟩;refine zlD (zbj b4) ?_;refine zlD b4 ?_;cases h;exact zlG (eA [(127,some 127),(128,some 128),(129,some 129)]);replace b4:=zcz b4;obtain ⟨h,e8⟩:=cfd b4 h
 iterate 4 (refine zlE (zdi b4) ?_)
 refine zlE b4 ?_;cases h;exact zlG (eA [(127,some 127),(128,some 128),(129,some 129)]);replace h:=n5;obtain ⟨j8,j9,k0,_⟩:=hp;refine zlC ?_ ?_<;>intro e9;replace h:=zbm e9 h;refine zlB rfl ?_;refine zlF b3.length zai ?_;obtain ⟨k1,m5,l6,h⟩:=zau h;refine zlB ⟨m5,rfl,za4 l6⟩ ?_;refine zlB ⟨rfl,trivial⟩ ?_;refine ⟨_,zah l6,?_⟩;refine zlF (List.map cI (List.set c8 d2.toNat (↑b3.length:Int))) (zdq rfl) ?_;obtain ⟨g2,h⟩:=zan h;refine zlB ⟨rfl,zca (l:=[d2]) (c:=cI) fun _=>rfl,show zaz _ 8 by simpa only [zkK,zkL,yaw,yai] using g2⟩ ?_;refine zlF (List.map cI (b3++[d2])) (zb9 (l:=b3) (m:=[d2]) (c:=cI)) ?_;refine zbp.mk (by show inR _;unfold inR;omega) ?_;cases h;exact zlK _ a4 (eA [(127,some 127),(128,some 128),(129,some 129)]);replace h:=zbk e9 h;refine zbp.mk (by show inR _;unfold inR;omega) ?_;cases h;exact zlK _ a4 (eA [(127,some 127),(128,some 128),(129,some 129)]);obtain ⟨h,e7⟩:=cfd e6 h;cases h;have a4:_=_:=a4;cases a4;exact zlG (eA [(127,some 127),(128,some 128),(129,some 129)]);replace h:zaj.k19 c6 d9 e0=some _:=n9;unfold zaj.k19 at h;obtain ⟨k2,k4,_⟩:=hp;refine zbp.mk (by show inR _;unfold inR;omega) ?_;cases h;exact zlK _ a5 (eA [(127,some 127),(128,some 128),(129,some 129)]);obtain ⟨h,e5⟩:=cfd e4 h;cases h;have a5:_=_:=a5;cases a5;exact zlG (eA [(127,some 127),(128,some 128),(129,some 129)]);replace h:zaj.k42 p_ a7 a8=some _:=o3;unfold zaj.k42 at h;obtain ⟨k5,k6,_⟩:=hp;refine zlB rfl ?_;refine zlB rfl ?_;refine zlF a8.length zai ?_;obtain ⟨⟨d3,d4⟩,hc,o1⟩:=zlA h;clear h;have h:=hc;clear hc;refine Cut.mk (mkSt [(2,.own 127 1 0),(4,.osl 128 1),(9,.own 129 1 0)] [(127,.box 24 4),(128,.row 3 1 (List.map cI a7)),(129,.box 24 4),(130,.row 25 1 (List.map (cL cI) d3)),(131,.row 25 1 (List.map (cL cI) d4))] [(127,0,.im (nI 0)),(127,1,.im (nI 0)),(127,2,.im (.val (.slice none 0 0))),(127,3,.im (.val (.slice none 0 0))),(129,0,.im (nI p_.Inputs)),(129,1,.im (nI 0)),(129,2,.osl 130 1),(129,3,.osl 131 1)]) (lZ a7∧lZ d3∧lZ d4∧True) ((Holds.kdl 128 rfl).and ((Holds.kdl 130 rfl).and ((Holds.kdl 131 rfl).and (hT)))) ?_ (fun hp=>?_);refine zb5.iter (fun (s:yaa×yaa×Nat)=>zaj.s40 p_ a7 a8 s.1 s.2.1 s.2.2) (fun (a2,a6,b2)=>mkSt [(1,.im (.ref (zat p_))),(2,.own 127 1 0),(4,.osl 128 1),(9,.own 129 1 0),(68,.osl 132 1),(69,.im (nI (↑a8.length:Int))),(70,.im (nI (↑b2:Int)))] [(127,.box 24 4),(128,.row 3 1 (List.map cI a7)),(129,.box 24 4),(130,.row 25 1 (List.map (cL cI) a2)),(131,.row 25 1 (List.map (cL cI) a6)),(132,.row 3 1 (List.map cI a8))] [(127,0,.im (nI 0)),(127,1,.im (nI 0)),(127,2,.im (.val (.slice none 0 0))),(127,3,.im (.val (.slice none 0 0))),(129,0,.im (nI p_.Inputs)),(129,1,.im (nI 0)),(129,2,.osl 130 1),(129,3,.osl 131 1)]) (fun (a2,a6,b2)=>lZ a7∧lZ a2∧lZ a6∧lZ a8∧True) h (Ent.mk [(127,some 127),(128,some 128),(129,some 9),(130,none),(131,none),(132,some 129)] rfl ⟨eI rfl rfl,⟨.own 127 _ 0,rfl,.own rfl rfl rfl⟩,⟨.osl 128 _,rfl,.osl rfl rfl rfl⟩,⟨.own 9 _ 0,rfl,.own rfl rfl rfl⟩,⟨.osl 129 _,rfl,.osl rfl rfl rfl⟩,eI rfl rfl,eI rfl rfl,trivial⟩ ⟨.inl ⟨127,rfl,rfl,trivial⟩,.inl ⟨128,rfl,rfl,trivial⟩,.inl ⟨9,rfl,rfl,trivial⟩,.inr ⟨rfl,rfl,.inl ⟨_,_,rfl,by decide⟩⟩,.inr ⟨rfl,rfl,.inl ⟨_,_,rfl,by decide⟩⟩,.inl ⟨129,rfl,rfl,trivial⟩,trivial⟩ ⟨⟨127,.im _,rfl,rfl,.im (Sub.rfl' rfl)⟩,⟨127,.im _,rfl,rfl,.im (Sub.rfl' rfl)⟩,⟨127,.im (.val (.slice none 0 0)),rfl,rfl,.im (Sub.rfl' rfl)⟩,⟨127,.im (.val (.slice none 0 0)),rfl,rfl,.im (Sub.rfl' rfl)⟩,⟨9,.im _,rfl,rfl,.im (Sub.rfl' rfl)⟩,⟨9,.im _,rfl,rfl,.im (Sub.rfl' rfl)⟩,⟨9,.im (.val (.slice none 0 0)),rfl,rfl,.made rfl rfl⟩,⟨9,.im (.val (.slice none 0 0)),rfl,rfl,.made rfl rfl⟩,trivial⟩) (by rintro ⟨a2,a6,b2⟩;exact ((Holds.kdl 128 rfl).and ((Holds.kdl 130 rfl).and ((Holds.kdl 131 rfl).and ((Holds.kdl 132 rfl).and (hT)))))) ?_;clear h;rintro k ⟨a2,a6,b2⟩ o hp h a3;replace h:zaj.s40 p_ a7 a8 a2 a6 b2=some o:=h;unfold zaj.s40 at h;obtain ⟨g4,g5,g6,g7,_⟩:=hp;refine zlC ?_ ?_<;>intro d6;obtain ⟨h,e1⟩:=ctd d6 h;obtain ⟨d5,a9,h⟩:=zae h;refine zlB ⟨(by omega),rfl,za4 a9⟩ ?_;refine ⟨_,_,⟨rfl,zah a9,rfl,rfl⟩,?_⟩;obtain ⟨f3,n0,h⟩:=zlA h;refine ⟨_,(ze8 p_.Inputs f3 (fun _=>n0)),?_⟩;obtain ⟨f4,m4,h⟩:=zlA h;refine ⟨_,(ze8 p_.Inputs f4 (fun _=>m4)),?_⟩;obtain ⟨b8,l4,m3,h⟩:=zau h;refine ⟨_,⟨l4,zah m3,rfl⟩,?_⟩;refine zlF b8.length zai ?_;obtain ⟨⟨b9,c0⟩,hc,l9⟩:=zlA h;clear h;have h:=hc;clear hc;refine Cut.mk (mkSt [(1,.im (.ref (zat p_))),(2,.own 127 1 0),(4,.osl 128 1),(9,.own 129 1 0),(12,.osl 132 1),(13,.osl 133 1),(68,.osl 134 1),(69,.im (nI (↑a8.length:Int))),(70,.im (nI (↑b2:Int)))] [(127,.box 24 4),(128,.row 3 1 (List.map cI a7)),(129,.box 24 4),(130,.row 25 1 (List.map (cL cI) a2)),(131,.row 25 1 (List.map (cL cI) a6)),(132,.row 3 1 (List.map cI b9)),(133,.row 3 1 (List.map cI c0)),(134,.row 3 1 (List.map cI a8))] [(127,0,.im (nI 0)),(127,1,.im (nI 0)),(127,2,.im (.val (.slice none 0 0))),(127,3,.im (.val (.slice none 0 0))),(129,0,.im (nI p_.Inputs)),(129,1,.im (nI 0)),(129,2,.osl 130 1),(129,3,.osl 131 1)]) (lZ a7∧lZ a2∧lZ a6∧lZ b9∧lZ c0∧lZ a8∧True) ((Holds.kdl 128 rfl).and ((Holds.kdl 130 rfl).and ((Holds.kdl 131 rfl).and ((Holds.kdl 132 rfl).and ((Holds.kdl 133 rfl).and ((Holds.kdl 134 rfl).and (hT))))))) ?_ (fun hp=>?_);refine zb5.iter (fun (s:yab×yab×Nat)=>zaj.s38 p_ a7 d5 b8 s.1 s.2.1 s.2.2) (fun (b5,b6,b7)=>mkSt [(1,.im (.ref (zat p_))),(2,.own 127 1 0),(4,.osl 128 1),(9,.own 129 1 0),(11,.im (nI d5)),(12,.osl 132 1),(13,.osl 133 1),(68,.osl 134 1),(69,.im (nI (↑a8.length:Int))),(70,.im (nI (↑b2:Int))),(84,.im (nL cI b8)),(85,.im (nI (↑b8.length:Int))),(86,.im (nI (↑b7:Int)))] [(127,.box 24 4),(128,.row 3 1 (List.map cI a7)),(129,.box 24 4),(130,.row 25 1 (List.map (cL cI) a2)),(131,.row 25 1 (List.map (cL cI) a6)),(132,.row 3 1 (List.map cI b5)),(133,.row 3 1 (List.map cI b6)),(134,.row 3 1 (List.map cI a8))] [(127,0,.im (nI 0)),(127,1,.im (nI 0)),(127,2,.im (.val (.slice none 0 0))),(127,3,.im (.val (.slice none 0 0))),(129,0,.im (nI p_.Inputs)),(129,1,.im (nI 0)),(129,2,.osl 130 1),(129,3,.osl 131 1)]) (fun (b5,b6,b7)=>lZ b8∧lZ a7∧lZ a2∧lZ a6∧lZ b5∧lZ b6∧lZ a8∧True) h (eA [(127,some 127),(128,some 128),(129,some 129),(130,some 130),(131,some 131),(132,some 76),(133,some 79),(134,some 132)]) (by rintro ⟨b5,b6,b7⟩;exact ((zlH 84 rfl).and ((Holds.kdl 128 rfl).and ((Holds.kdl 130 rfl).and ((Holds.kdl 131 rfl).and ((Holds.kdl 132 rfl).and ((Holds.kdl 133 rfl).and ((Holds.kdl 134 rfl).and (hT))))))))) ?_;clear h;rintro k ⟨b5,b6,b7⟩ o hp h a0;replace h:zaj.s38 p_ a7 d5 b8 b5 b6 b7=some o:=h;unfold zaj.s38 at h;obtain ⟨g8,g9,h0,h2,h3,h4,h5,_⟩:=hp;refine zlC ?_ ?_<;>intro d7;obtain ⟨h,e2⟩:=ctd d7 h;obtain ⟨h6,m6,h⟩:=zae h;refine ⟨_,⟨(by omega),zah m6,rfl⟩,?_⟩;refine zlC ?_ ?_<;>intro d8;obtain ⟨h,e3⟩:=ctd d8 h;obtain ⟨f5,l3,k8,h⟩:=zau h;refine zlB ⟨l3,rfl,za4 k8⟩ ?_;refine ⟨_,_,⟨rfl,zah k8,rfl,rfl⟩,?_⟩;obtain ⟨h7,l5,m8,h⟩:=zau h;refine ⟨_,⟨l5,zah m8,rfl⟩,?_⟩;obtain ⟨f7,m7,h⟩:=zae h;refine ⟨_,⟨(by omega),zah m7,rfl⟩,?_⟩;obtain ⟨h8,l0,h⟩:=zae h;refine zlB ⟨(by omega),rfl,za4 l0⟩ ?_;refine zlB ⟨rfl,trivial⟩ ?_;refine ⟨_,zah l0,?_⟩;refine zlF (List.map cI (List.set b5 b7 f5)) (zdq rfl) ?_;obtain ⟨h9,f6,h⟩:=zae h;refine zlB ⟨(by omega),rfl,za4 f6⟩ ?_;refine zlB ⟨rfl,trivial⟩ ?_;refine ⟨_,zah f6,?_⟩;refine zlF (List.map cI (List.set b6 b7 f7)) (zdq rfl) ?_;refine zbp.mk (by show inR _;unfold inR;omega) ?_;cases h;exact zlK _ a0 (eA [(127,some 127),(128,some 128),(129,some 129),(130,some 130),(131,some 131),(132,some 132),(133,some 133),(134,some 134)]);obtain ⟨h,e3⟩:=cfd d8 h;refine zbp.mk (by show inR _;unfold inR;omega) ?_;cases h;exact zlK _ a0 (eA [(127,some 127),(128,some 128),(129,some 129),(130,some 130),(131,some 131),(132,some 132),(133,some 133),(134,some 134)]);obtain ⟨h,e2⟩:=cfd d7 h;cases h;have a0:_=_:=a0;cases a0;exact zlG (eA [(127,some 127),(128,some 128),(129,some 129),(130,some 130),(131,some 131),(132,some 132),(133,some 133),(134,some 134)]);replace h:zaj.k39 a2 a6 b2 b9 c0=some _:=l9;unfold zaj.k39 at h;obtain ⟨i0,i3,i4,i5,i6,i7,_⟩:=hp;refine zlB rfl ?_;refine zlB rfl ?_;refine zlB ⟨rfl,trivial⟩ ?_;obtain ⟨f8,h⟩:=zan h;refine zlB ⟨rfl,zca (l:=[b9]) (c:=cL cI) fun _=>rfl,show zaz _ 24 by simpa only [zkK,zkL,yaw,yai] using f8⟩ ?_;refine zlF (List.map (cL cI) (a2++[b9])) (zb9 (l:=a2) (m:=[b9]) (c:=cL cI)) ?_;refine zlB rfl ?_;refine zlB rfl ?_;refine zlB ⟨rfl,trivial⟩ ?_;obtain ⟨f9,h⟩:=zan h;refine zlB ⟨rfl,zca (l:=[c0]) (c:=cL cI) fun _=>rfl,show zaz _ 24 by simpa only [zkK,zkL,yaw,yai] using f9⟩ ?_;refine zlF (List.map (cL cI) (a6++[c0])) (zb9 (l:=a6) (m:=[c0]) (c:=cL cI)) ?_;refine zlB rfl ?_;refine zlB rfl ?_;refine zlB rfl ?_;refine zlB rfl ?_;refine zbp.mk (by show inR _;unfold inR;omega) ?_;cases h;exact zlK _ a3 (eA [(127,some 127),(128,some 128),(129,some 129),(130,some 130),(131,some 131),(132,some 134)]);obtain ⟨h,e1⟩:=cfd d6 h;cases h;have a3:_=_:=a3;cases a3;exact zlG (eA [(127,some 127),(128,some 128),(129,some 129),(130,some 130),(131,some 131)]);replace h:zaj.k41 p_ a7 d3 d4=some _:=o1;unfold zaj.k41 at h;obtain ⟨i8,i9,j0,_⟩:=hp;refine zlB rfl ?_;refine zlB rfl ?_;cases h;refine zlB ⟨rfl,trivial⟩ ?_;exact zlB ⟨rfl,rfl,rfl,trivial⟩ ⟨rfl,rfl⟩
end
end Go.Proofs.YteigfkncoiiaiaaGreatDoor.Sym

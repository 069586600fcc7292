/-
  Parts of the proof, behind each other.
-/
import Derived.Test.YteigfkncoiiaiaaGreatDoorM3
set_option linter.all false
set_option maxRecDepth 100000
namespace Go.Proofs.YteigfkncoiiaiaaGreatDoor.Sym
section
def numT (F:List Nat) (t:Int):Int:=if t≠-1∧t.toNat∈F then (↑(F.idxOf t.toNat):Int) else -1
def zle (p:zac) (F:List Nat) (c:Nat):yab:=(List.range p.Inputs.toNat).map fun a=>numT F (gx p.Next c a)
def znl (p:zac) (c:Nat):yab:=(List.range p.Inputs.toNat).map fun a=>if gx p.Next c a=-1 then (-1:Int) else gx p.Out c a
theorem loop_s38 {p:zac} (R:zrc p) {F:List Nat} {nums:yab} (A:NumL p.Next.length F nums) {c:Nat} (hc:c<p.Next.length) {x:yab} (hx:p.Next[c]?=some x) :
  iter (fun (s:yab×yab×Nat)=>zaj.s38 p nums (↑c:Int) x s.1 s.2.1 s.2.2) fuel (List.replicate p.Inputs.toNat (-1),List.replicate p.Inputs.toNat (-1),0)=some (zle p F c,znl p c):=by
 have hi:=R.i2;obtain ⟨x',a0,a5⟩:=R.gn.row c hc;rw [hx] at a0;injection a0 with a0
 subst a0
 have key:=zaw (step:=fun (s:yab×yab×Nat)=>zaj.s38 p nums (↑c:Int) x s.1 s.2.1 s.2.2) (fun s=>s.2.2<=p.Inputs.toNat∧Wrt (fun a=>numT F (gx p.Next c a)) (List.replicate p.Inputs.toNat (-1)) s.2.2 s.1∧Wrt (fun a=>if gx p.Next c a=-1 then (-1:Int) else gx p.Out c a) (List.replicate p.Inputs.toNat (-1)) s.2.2 s.2.1) (fun s=>p.Inputs.toNat-s.2.2) (fun r=>r=(zle p F c,znl p c)) (fun ⟨y,z,k⟩ ⟨g1,g2,g3⟩=>by
  simp only at g1 g2 g3
  simp only [zaj.s38]
  have a4:=g2.len
  have a2:=g3.len
  rw [yas] at a4 a2
  by_cases h:k<p.Inputs.toNat
  ·left
   obtain ⟨x1,q1,q2,q3⟩:=R.gn.at hc h
   obtain ⟨o1,r1,r2,r3⟩:=R.go.at hc h
   rw [hx] at q1
   injection q1 with q1
   subst q1
   rw [zkB (by omega),zkD,zal q2]
   by_cases t0:gx p.Next c k=-1
   ·refine ⟨(y,z,k+1),by rw [zkA (fun g=>g t0),zkC],⟨h,g2.skip (by rw [yas];exact h) ?_,g3.skip (by rw [yas];exact h) ?_⟩,by simp only;omega⟩
    ·rw [ybk,if_pos h]
     unfold numT
     rw [if_neg (fun g=>g.1 t0)]
    ·rw [ybk,if_pos h,if_pos t0]
   ·obtain ⟨u,hu,a3⟩:=(R.rng c k hc h).resolve_left t0
    have hy:=A.at_ u a3
    refine ⟨(y.set k (numT F (gx p.Next c k)),z.set k (gx p.Out c k),k+1),?_,⟨h,g2.step (by rw [yas];exact h) rfl,g3.step (by rw [yas];exact h) (by rw [if_neg t0])⟩,by simp only;omega⟩
    rw [zkB t0,zkD,zbb (i:=u) hu hy,zbb (i:=c) rfl r1,zal r2,zal (get_at (l:=y) (i:=k) (by omega)),zal (get_at (l:=z) (i:=k) (by omega))]
    have:numT F (gx p.Next c k)=if u∈F then (↑(F.idxOf u):Int) else -1:=by
     unfold numT
     rw [hu,yah]
     by_cases k1:u∈F
     ·rw [if_pos ⟨by omega,k1⟩,if_pos k1]
     ·rw [if_neg (fun g=>k1 g.2),if_neg k1]
    rw [this]
  ·right
   have e1:k=p.Inputs.toNat:=by omega
   subst e1
   refine ⟨_,by rw [zkA (by omega),zkC],?_⟩
   rw [g2.done (by rw [yas];exact yap _),g3.done (by rw [yas];exact yap _),yas]
   rfl) fuel (List.replicate p.Inputs.toNat (-1),List.replicate p.Inputs.toNat (-1),0) ⟨yag _,Wrt.zero _ _,Wrt.zero _ _⟩ (by have:=zav;simp only;omega)
 obtain ⟨r,e1,rfl⟩:=key;exact e1
def renP (p:zac):zac:=⟨p.Inputs,0,(ordP p).map (zle p (ordP p)),(ordP p).map (znl p)⟩
theorem zch {p:zac} (R:zrc p):∃ nums,zaj p=some (renP p,nums)∧NumL p.Next.length (ordP p) nums:=by
 obtain ⟨nums,e1,A⟩:=loop_s20 R;obtain ⟨c,hc,a0⟩:=R.st;have hn:=R.n2;have hi:=R.i2;have a2:=R.i1;have a6:=A.le;refine ⟨nums,?_,A⟩
 have a4:zc0 p.Inputs=some (List.replicate p.Inputs.toNat (-1)):=by
  have:=zid (x:=p.Inputs.toNat) (by omega)
  rwa [ydc a2] at this
 have a3:(zh2 (ordP p)).length=(ordP p).length:=by unfold zh2;rw [zkK]
 have key:=zaw (step:=fun (s:yaa×yaa×Nat)=>zaj.s40 p nums (zh2 (ordP p)) s.1 s.2.1 s.2.2) (fun s=>s.2.2<=(ordP p).length∧s.1=((ordP p).take s.2.2).map (zle p (ordP p))∧s.2.1=((ordP p).take s.2.2).map (znl p)) (fun s=>(ordP p).length-s.2.2) (fun r=>r=((ordP p).map (zle p (ordP p)),(ordP p).map (znl p))) (fun ⟨y,z,k⟩ ⟨g1,g2,g3⟩=>by
  simp only at g1 g2 g3
  subst g2
  subst g3
  simp only [zaj.s40]
  by_cases h:k<(ordP p).length
  ·left
   have hx:=get_at h
   have hq:(ordP p)[k]<p.Next.length:=A.lt _ (ya2 h)
   obtain ⟨x,x1,x2⟩:=R.gn.row _ hq
   have a5:(((ordP p).take k).map (zle p (ordP p))).length=k:=by rw [zkK,yaz];omega
   have a7:(((ordP p).take k).map (znl p)).length=k:=by rw [zkK,yaz];omega
   refine ⟨(((ordP p).take (k+1)).map (zle p (ordP p)),((ordP p).take (k+1)).map (znl p),k+1),?_,⟨h,rfl,rfl⟩,by simp only;omega⟩
   rw [zkB (by omega),zkD,zal (x:=(↑(ordP p)[k]:Int)) (by unfold zh2;rw [yaf,hx];rfl),a4,zam,zam,zbb (i:=(ordP p)[k]) rfl x1,loop_s38 R A hq x1,zam]
   unfold zaj.k39
   simp only
   rw [zas (by unfold zaz;omega),zas (by unfold zaz;omega),ycq h,ya9,ya9]
   rfl
  ·right
   have e1:k=(ordP p).length:=by omega
   subst e1
   exact ⟨_,by rw [zkA (by omega),zkC],by rw [ybp]⟩) fuel ([],[],0) ⟨yag _,rfl,rfl⟩ (by have:=zav;simp only;omega)
 obtain ⟨r,e2,rfl⟩:=key;unfold zaj;rw [zid hn,zam,zbb (i:=c) hc (x:=(-1:Int)) (by rw [ybk,if_pos a0]),e1,zam];unfold zaj.k42;simp only;rw [e2,zam];rfl
end
section
section
variable {p:zac}
structure zso (p Q:zac) (cl:Nat->Nat):Prop where
 ren:zrc Q
 len:Q.Next.length=p.Next.length
 inp:Q.Inputs=p.Inputs
 st:Q.Start=(↑(cl p.Start.toNat):Int)
 idem:∀ q,q<p.Next.length->cl (cl q)=cl q
 lt:∀ q,q<p.Next.length->cl q<p.Next.length
 row:∀ c a,c<p.Next.length->a<p.Inputs.toNat->cl c=c->(gx Q.Next c a=-1->∀ r,r<p.Next.length->cl r=c->pnx p r a=-1)∧(gx Q.Next c a≠-1->(∃ r,r<p.Next.length∧cl r=c∧pnx p r a≠-1)∧∀ r,r<p.Next.length->cl r=c->pnx p r a≠-1->gx Q.Next c a=(↑(cl (pnx p r a).toNat):Int)∧pot p r a=gx Q.Out c a)
structure OrdI (n:Nat) (cl:Nat->Nat) (L:List Nat):Prop where
 nd:L.Nodup
 lt:∀ c,c∈L->c<n∧cl c=c
theorem OrdI.le {n:Nat} {cl:Nat->Nat} {L:List Nat} (A:OrdI n cl L):L.length<=n:=by
 have:=zhp (b:=List.range n) A.nd fun x hx=>ya8.2 (A.lt x hx).1
 rwa [ybz] at this
end
end
section
section
variable {p:zac}
end
end
section
section
variable {p:zac} {s t:Nat}
def clT (cl:Nat->Nat) (v:Int):Int:=if v=-1 then -1 else (↑(cl v.toNat):Int)
theorem loop_s64 {n I:Nat} {cl:Nat->Nat} {M:List (Int×Int)} (U:UpOk n cl M) (hn:n<=10000000) (hI:I<=64) {G:yaa} (GG:Grid n I G) (rng:∀ q a,q<n->a<I->gx G q a=-1∨∃ u:Nat,gx G q a=(↑u:Int)∧u<n) {q:Nat} (hq:q<n) {e:yab} (he:e.length=I) :
  ∃ G',iter (fun (s:yaa×(List (Int×Int))×Nat)=>zaf.s64 q e s.1 s.2.1 s.2.2) fuel (G,M,0)=some (G',M)∧Grid n I G'∧∀ r b,r<n->b<I->gx G' r b=if r=q then clT cl (gx G r b) else gx G r b:=by
 have key:=zaw (step:=fun (s:yaa×(List (Int×Int))×Nat)=>zaf.s64 q e s.1 s.2.1 s.2.2) (fun s=>s.2.2<=I∧s.2.1=M∧Grid n I s.1∧∀ r b,r<n->b<I->gx s.1 r b=if r=q∧b<s.2.2 then clT cl (gx G r b) else gx G r b) (fun s=>I-s.2.2) (fun r=>∃ G',r=(G',M)∧Grid n I G'∧∀ r b,r<n->b<I->gx G' r b=if r=q then clT cl (gx G r b) else gx G r b) (fun ⟨y,m,k⟩ ⟨g1,g2,g3,g4⟩=>by
  simp only at g1 g2 g3 g4
  subst g2
  simp only [zaf.s64]
  by_cases h:k<I
  ·left
   obtain ⟨x,x1,x2,x3⟩:=g3.at hq h
   have a0:gx y q k=gx G q k:=by rw [g4 q k hq h,if_neg (fun g=>ye0 _ g.2)]
   rw [a0] at x2
   rw [zkB (by omega),zkD,zal x1,zal x2]
   by_cases t0:gx G q k=-1
   ·refine ⟨(y,m,k+1),by rw [zkA (fun g=>g t0),zkC,zas (by unfold inR;omega)],⟨h,rfl,g3,fun r b hr hb=>?_⟩,by simp only;omega⟩
    simp only
    rw [g4 r b hr hb]
    by_cases k1:r=q∧b<k
    ·rw [if_pos k1,if_pos ⟨k1.1,by omega⟩]
    ·rw [if_neg k1]
     by_cases k2:r=q∧b<k+1
     ·have e2:b=k:=Nat.le_antisymm (by omega) (ycw fun g=>k1 ⟨k2.1,g⟩)
      rw [if_pos k2,k2.1,e2,t0]
      rfl
     ·rw [if_neg k2]
   ·obtain ⟨u,hu,a2⟩:=(rng q k hq h).resolve_left t0
    obtain ⟨p1,p2⟩:=g3.put hq h x1 (↑(cl u):Int)
    refine ⟨(y.set q (x.set k (↑(cl u):Int)),m,k+1),?_,⟨h,rfl,p1,fun r b hr hb=>?_⟩,by simp only;omega⟩
    ·rw [zkB t0,zkD,zal x1,hu,of_eq U hn a2,zam,zal x2,zas (by unfold inR;omega)]
    ·simp only
     rw [p2 r b hr hb]
     by_cases k1:r=q∧b=k
     ·rw [if_pos k1,if_pos ⟨k1.1,by omega⟩,k1.1,k1.2]
      unfold clT
      rw [if_neg t0,hu,yah]
     ·rw [if_neg k1,g4 r b hr hb]
      by_cases k2:r=q∧b<k
      ·rw [if_pos k2,if_pos ⟨k2.1,by omega⟩]
      ·rw [if_neg k2,if_neg (fun g=>k2 ⟨g.1,yex (by omega) fun e3=>k1 ⟨g.1,e3⟩⟩)]
  ·right
   have e1:k=I:=by omega
   subst e1
   refine ⟨_,by rw [zkA (by omega),zkC],y,rfl,g3,fun r b hr hb=>?_⟩
   rw [g4 r b hr hb]
   by_cases k1:r=q
   ·rw [if_pos ⟨k1,hb⟩,if_pos k1]
   ·rw [if_neg (fun g=>k1 g.1),if_neg k1]) fuel (G,M,0) ⟨yag _,rfl,GG,fun r b _ _=>by rw [if_neg (fun g=>ybe _ g.2)]⟩ (by have:=zav;simp only;omega)
 obtain ⟨r,e1,G',rfl,h⟩:=key;exact ⟨G',e1,h⟩
theorem loop_s66 {n I:Nat} {cl:Nat->Nat} {M:List (Int×Int)} (U:UpOk n cl M) (hn:n<=10000000) (hI:I<=64) {N:yaa} (GN:Grid n I N) (rng:∀ q a,q<n->a<I->gx N q a=-1∨∃ u:Nat,gx N q a=(↑u:Int)∧u<n) :
  ∃ N',iter (fun (s:yaa×(List (Int×Int))×Nat)=>zaf.s66 N s.1 s.2.1 s.2.2) fuel (N,M,0)=some (N',M)∧Grid n I N'∧∀ r b,r<n->b<I->gx N' r b=clT cl (gx N r b):=by
 have hl:=GN.len
 have key:=zaw (step:=fun (s:yaa×(List (Int×Int))×Nat)=>zaf.s66 N s.1 s.2.1 s.2.2) (fun s=>s.2.2<=n∧s.2.1=M∧Grid n I s.1∧∀ r b,r<n->b<I->gx s.1 r b=if r<s.2.2 then clT cl (gx N r b) else gx N r b) (fun s=>n-s.2.2) (fun r=>∃ N',r=(N',M)∧Grid n I N'∧∀ r b,r<n->b<I->gx N' r b=clT cl (gx N r b)) (fun ⟨y,m,q⟩ ⟨g1,g2,g3,g4⟩=>by
  simp only at g1 g2 g3 g4
  subst g2
  simp only [zaf.s66]
  by_cases h:q<n
  ·left
   obtain ⟨x,x1,x2⟩:=g3.row q h
   obtain ⟨y',e1,e2,e3⟩:=loop_s64 (e:=x) U hn hI g3 (fun r a hr ha=>by
    rw [g4 r a hr ha]
    split
    ·unfold clT
     rcases rng r a hr ha with k | ⟨u,k1,k2⟩
     ·rw [if_pos k];exact .inl rfl
     ·refine .inr ⟨cl u,by rw [if_neg (by omega),k1,yah],?_⟩
      by_cases k3:cl u=u
      ·omega
      ·have a0:∀ v:Nat,v<n->cl v<=v:=fun v=>by
        induction v using Nat.strongRecOn with
        | _ v ih =>
         intro hv
         by_cases k4:cl v=v
         ·omega
         ·obtain ⟨w,w1,_,w3⟩:=U.u1 v hv k4
          have:=ih w w1 (by omega)
          omega
       have:=a0 u k2
       omega
    ·exact rng r a hr ha) h x2
   refine ⟨(y',m,q+1),?_,⟨h,rfl,e2,fun r b hr hb=>?_⟩,by simp only;omega⟩
   ·rw [zkB (by omega),zkD,zal x1,e1,zam]
    rfl
   ·simp only
    rw [e3 r b hr hb,g4 r b hr hb]
    by_cases k1:r=q
    ·rw [if_pos k1,if_neg (by omega),if_pos (by omega)]
    ·rw [if_neg k1]
     by_cases k2:r<q
     ·rw [if_pos k2,if_pos (by omega)]
     ·rw [if_neg k2,if_neg (by omega)]
  ·right
   have e1:q=n:=by omega
   subst e1
   refine ⟨_,by rw [zkA (by omega),zkC],y,rfl,g3,fun r b hr hb=>?_⟩
   rw [g4 r b hr hb,if_pos hr]) fuel (N,M,0) ⟨yag _,rfl,GN,fun r b _ _=>by rw [if_neg (ybe _)]⟩ (by have:=zav;simp only;omega)
 obtain ⟨r,e1,N',rfl,h⟩:=key;exact ⟨N',e1,h⟩
theorem loop_s68 {n:Nat} {cl:Nat->Nat} {M:List (Int×Int)} (U:UpOk n cl M) (hn:n<=1000000) (hcl:∀ q,q<n->cl q<n) {F:List Nat} {nums:yab} (A:NumL n F nums) (P:zac) :
  iter (fun (s:(List (Int×Int))×yab×Nat)=>zaf.s68 (P,nums) s.1 s.2.1 s.2.2) fuel (M,List.replicate n 0,0)=some ((List.range n).map fun q=>numT F (↑(cl q):Int)):=by
 have hl:=A.len
 have key:=zaw (step:=fun (s:(List (Int×Int))×yab×Nat)=>zaf.s68 (P,nums) s.1 s.2.1 s.2.2) (fun s=>s.2.2<=n∧s.1=M∧Wrt (fun q=>numT F (↑(cl q):Int)) (List.replicate n 0) s.2.2 s.2.1) (fun s=>n-s.2.2) (fun r=>r=(List.range n).map fun q=>numT F (↑(cl q):Int)) (fun ⟨m,y,q⟩ ⟨g1,g2,g3⟩=>by
  simp only at g1 g2 g3
  subst g2
  simp only [zaf.s68,yas]
  have a0:=g3.len
  rw [yas] at a0
  by_cases h:q<n
  ·left
   have hc:=hcl q h
   refine ⟨(m,y.set q (numT F (↑(cl q):Int)),q+1),?_,⟨h,rfl,g3.step (by rw [yas];exact h) rfl⟩,by simp only;omega⟩
   rw [zkB (by omega),zkD,of_eq U (by omega) h,zam,zbb (i:=cl q) rfl (A.at_ _ hc),zal (get_at (l:=y) (i:=q) (by omega)),zas (by unfold inR;omega)]
   unfold numT
   rw [yah]
   by_cases k1:cl q∈F
   ·rw [if_pos k1,if_pos ⟨by omega,k1⟩]
   ·rw [if_neg k1,if_neg (fun g=>k1 g.2)]
  ·right
   have e1:q=n:=by omega
   subst e1
   refine ⟨_,by rw [zkA (by omega),zkC],?_⟩
   rw [g3.done (by rw [yas];exact yap _),yas]) fuel (M,List.replicate n 0,0) ⟨yag _,rfl,Wrt.zero _ _⟩ (by have:=zav;simp only;omega)
 obtain ⟨r,e1,rfl⟩:=key;exact e1
theorem zpb.quo (H:zda p) {cl:Nat->Nat} {N O:yaa} {M:List (Int×Int)} (F:zpb p s t cl N O M []) {N':yaa} (GN:Grid p.Next.length p.Inputs.toNat N') (hN:∀ r b,r<p.Next.length->b<p.Inputs.toNat->gx N' r b=clT cl (gx N r b)):zso p ⟨p.Inputs,(↑(cl p.Start.toNat):Int),N',O⟩ cl:=by
 have hn:=H.n2;have a7:=H.st;obtain ⟨C,K⟩:=F.cls;have a0:∀ q,q<p.Next.length->cl q<p.Next.length:=fun q hq=>by have:=K.le q hq;omega
 have hl:=GN.len;have hs:p.Start.toNat<p.Next.length:=by omega
 have a3:Lab p.Next.length cl [] cl:=⟨fun _ _ _ _ h=>h,fun _ _ h=>by cases h⟩;refine ⟨⟨by have:=H.i1;simp only;omega,H.i2,by simp only;omega,⟨cl p.Start.toNat,rfl,by simp only;rw [hl];exact a0 _ hs⟩,by simp only;rw [hl];exact GN,by simp only;rw [hl];exact F.go,fun q a hq ha=>?_⟩,hl,rfl,rfl,K.idem,a0,fun c a hc ha a6=>?_⟩
 ·simp only at hq ha ⊢;rw [hl] at hq ⊢;rw [hN q a hq ha];unfold clT;rcases F.rng q a hq ha with k | ⟨u,k1,k2⟩
  ·rw [if_pos k];exact .inl rfl
  ·exact .inr ⟨cl u,by rw [if_neg (by omega),k1,yah],a0 u k2⟩
 ·simp only;rw [hN c a hc ha];obtain ⟨r1,r2⟩:=F.row c a hc ha a6;unfold clT;by_cases k:gx N c a=-1
  ·rw [if_pos k];exact ⟨fun _=>(r1 k).2,fun h=>absurd rfl h⟩
  ·rw [if_neg k];obtain ⟨u,a1,a2,⟨r,b1,b2,b3,b4⟩,a4⟩:=r2 k;refine ⟨fun h=>by omega,fun _=>⟨⟨r,b1,b2,by omega⟩,fun r hr a5 hp=>?_⟩⟩;obtain ⟨d1,d2⟩:=a4 r hr a5 hp;exact ⟨by rw [a1,yah,d2 cl a3],d1⟩
theorem loop_copy (H:zda p):iter (fun (s:yaa×yaa×Nat)=>zaf.s2 p s.1 s.2.1 s.2.2) fuel ([],[],0)=some (p.Next,p.Out):=by
 have hn:=H.n2;have hi:=H.i2;have ho:=H.ol
 have key:=zaw (step:=fun (s:yaa×yaa×Nat)=>zaf.s2 p s.1 s.2.1 s.2.2) (fun s=>s.2.2<=p.Next.length∧s.1=p.Next.take s.2.2∧s.2.1=p.Out.take s.2.2) (fun s=>p.Next.length-s.2.2) (fun r=>r=(p.Next,p.Out)) (fun ⟨y,z,k⟩ ⟨g1,g2,g3⟩=>by
  simp only at g1 g2 g3
  subst g2
  subst g3
  simp only [zaf.s2,yaw,ycn,yaz,ya6,yai]
  by_cases h:k<p.Next.length
  ·left
   obtain ⟨x,y,h1,h2,h3,h4,_⟩:=H.row k h
   refine ⟨(p.Next.take (k+1),p.Out.take (k+1),k+1),?_,⟨h,rfl,rfl⟩,by simp only;omega⟩
   rw [zkB (by omega),zkD,zal h1,zas (by unfold zaz;omega),zas (by unfold zaz;omega),zal h2,zas (by unfold zaz;omega),zas (by unfold zaz;omega)]
   have q1:p.Next.take (k+1)=p.Next.take k++[x]:=by rw [List.take_succ,h1];rfl
   have q2:p.Out.take (k+1)=p.Out.take k++[y]:=by rw [List.take_succ,h2];rfl
   rw [q1,q2]
  ·right
   have e1:k=p.Next.length:=by omega
   subst e1
   exact ⟨_,by rw [zkA (by omega),zkC],by rw [ybp,<- ho,ybp]⟩) fuel ([],[],0) ⟨yag _,rfl,rfl⟩ (by have:=zav;simp only;omega)
 obtain ⟨r,e1,rfl⟩:=key;exact e1
theorem zht (H:zda p) (hs:s<p.Next.length) (ht:t<p.Next.length):(zme p s t∧zaf p (↑s:Int) (↑t:Int)=some (⟨0,0,[],[]⟩,[],false))∨(¬ zme p s t∧∃ Q cl,zso p Q cl∧(∀ q,q<p.Next.length->cl q=clsOf p s t q)∧zaf p (↑s:Int) (↑t:Int)=some (renP Q,(List.range p.Next.length).map fun q=>numT (ordP Q) (↑(cl q):Int),true)):=by
 have hn:=H.n2;have a3:=H.st;have a2:p.Start.toNat<p.Next.length:=by omega
 obtain ⟨r,e1,hr⟩:=loop_fold H hs ht;unfold zaf;rw [loop_copy H,zam];unfold zaf.k71;simp only;rw [e1,zam];rcases hr with ⟨rfl,hc⟩ | ⟨N,O,M,cl,rfl,F⟩
 ·exact .inl ⟨hc,by rw [ydy]⟩
 ·obtain ⟨d1,d2⟩:=F.done H hs ht;obtain ⟨N',e2,GN,hN⟩:=loop_s66 F.up (by omega) (by have:=H.i2;omega) F.gn F.rng;have K:=F.quo H GN hN;obtain ⟨nums,e3,A⟩:=zch K.ren;refine .inr ⟨d2,_,cl,K,d1,?_⟩;rw [ycd];unfold zaf.k70;simp only;rw [e2,zam];unfold zaf.k69;simp only;have a0:=A.len;simp only at A a0;rw [GN.len] at A a0;rw [show p.Start=(↑p.Start.toNat:Int) by omega,of_eq F.up (by omega) a2,zam,yah,e3,zam]
  dsimp only
  rw [zas ⟨by omega,yd4 _,by unfold zaz;omega⟩,a0,loop_s68 F.up (by omega) K.lt A,zam]
end
end
section

end
section

end
end Go.Proofs.YteigfkncoiiaiaaGreatDoor.Sym
namespace Go.Proofs.YteigfkncoiiaiaaGreatDoor
section
structure zl2 (cf:List Int->List Int->Int):Prop where
 range:∀ a b,cf a b=-1∨cf a b=0∨cf a b=1
 zero:∀ a b,cf a b=0↔a=b
 swap:∀ a b,cf b a=- cf a b
 trans:∀ a b c,cf a b=-1->cf b c=-1->cf a c=-1
theorem zi7:zl2 cmpW:=⟨zl1,zn1,zof,zl6⟩
theorem lexI_total:zl2 lexI:=⟨zhm,zld,zk8,zl7⟩
def zcu (l:List (List Int)):List (List Int):=l.foldl (fun acc x=>if acc.getLast?=some x then acc else acc++[x]) []
theorem zqo (l:List (List Int)) (x:List Int):zcu (l++[x])=if (zcu l).getLast?=some x then zcu l else zcu l++[x]:=by
 unfold zcu;rw [List.foldl_append];rfl
theorem zq3:∀ (l acc:List (List Int)),(l.foldl (fun acc x=>if acc.getLast?=some x then acc else acc++[x]) acc).getLast?=if l=[] then acc.getLast? else l.getLast?
 | [],acc=>by rw [if_pos rfl];rfl
 | x::l,acc=>by
  have hx:(if acc.getLast?=some x then acc else acc++[x]).getLast?=some x:=by
   split
   ·assumption
   ·simp
  rw [List.foldl_cons,zq3 l,if_neg (show ¬ x::l=[] by simp)];cases l with
  | nil=>rw [if_pos rfl,hx];rfl
  | cons y l =>
   rw [if_neg (show ¬ y::l=[] by simp),List.getLast?_cons_cons]
theorem dedupA_last (l:List (List Int)):(zcu l).getLast?=l.getLast?:=by
 unfold zcu;rw [zq3];split
 ·rename_i h;rw [h]
 ·rfl
theorem zr6 {l:List (List Int)} {k:Nat} {x y:List Int} (hy:l[k]?=some y) (hx:l[k+1]?=some x) :
  zcu (l.take (k+1+1))=if x=y then zcu (l.take (k+1)) else zcu (l.take (k+1))++[x]:=by
 rw [zcy hx,zqo,dedupA_last,zcy hy];simp only [List.getLast?_append,List.getLast?_singleton,Option.some_or];by_cases h:y=x
 ·subst h;simp
 ·have h':¬ x=y:=fun e=>h e.symm;simp [h,h']
theorem zpv {l:List (List Int)} (h:l.length<=1):zcu l=l:=by
 match l,h with
 | [],_=>rfl
 | [x],_=>rfl
theorem dedup_asc {cf:List Int->List Int->Int} (T:zl2 cf):∀ {l:List (List Int)},l.Pairwise (fun a b=>0<=cf b a)->(zcu l).Pairwise (fun a b=>cf a b=-1)∧∀ x,x∈zcu l↔x∈l:=by
 intro l
 -- from the end of the list
 suffices H:∀ n (l:List (List Int)),l.length=n->l.Pairwise (fun a b=>0<=cf b a)->(zcu l).Pairwise (fun a b=>cf a b=-1)∧∀ x,x∈zcu l↔x∈l from H _ l rfl
 intro n
 induction n with
 | zero =>
  intro l hl _;have:l=[]:=List.eq_nil_of_length_eq_zero hl;subst this;exact ⟨List.Pairwise.nil,fun x=>Iff.rfl⟩
 | succ n ih =>
  intro l hl hp
  obtain ⟨m,x,rfl⟩:∃ m x,l=m++[x]:=by
   have a0:l≠[]:=by intro e;rw [e] at hl;simp at hl
   exact ⟨l.dropLast,l.getLast a0,(List.dropLast_concat_getLast a0).symm⟩
  have a5:m.length=n:=by simpa using hl
  rw [List.pairwise_append] at hp;obtain ⟨a8,_,a4⟩:=hp;obtain ⟨h1,h2⟩:=ih m a5 a8;rw [zqo];by_cases h:(zcu m).getLast?=some x
  ·rw [if_pos h];refine ⟨h1,fun y=>?_⟩;have hx:x∈m:=(h2 x).1 (List.mem_of_getLast? h);rw [h2,List.mem_append,List.mem_singleton];constructor
   ·exact Or.inl
   ·rintro (h' | rfl)
    ·exact h'
    ·exact hx
  ·rw [if_neg h];refine ⟨?_,fun y=>by rw [List.mem_append,List.mem_append,h2]⟩;rw [List.pairwise_append];refine ⟨h1,by simp,fun a ha b hb=>?_⟩;rw [List.mem_singleton] at hb;subst hb;have a7:a∈m:=(h2 a).1 ha;have b3:0<=cf b a:=a4 a a7 b (by simp);have hr:=T.range b a;have b2:=T.swap b a;by_cases e:cf b a=0
   ·-- a would be the last one
    exfalso;have a6:b=a:=(T.zero _ _).1 e;subst a6
    -- the last of m is the greatest, and b is in m and not less than it
    have a0:zcu m≠[]:=fun e=>by rw [e] at ha;cases ha
    have a9:=List.getLast?_eq_some_getLast a0;have a3:(zcu m).getLast a0∈m:=(h2 _).1 (List.getLast_mem a0);have h3:0<=cf b ((zcu m).getLast a0):=a4 _ a3 b (by simp);have a2:zcu m=(zcu m).dropLast++[(zcu m).getLast a0]:=(List.dropLast_concat_getLast a0).symm
    have h4:b=(zcu m).getLast a0∨cf b ((zcu m).getLast a0)=-1:=by
     rw [a2] at ha h1;rw [List.pairwise_append] at h1;rcases List.mem_append.1 ha with h5 | h5
     ·exact Or.inr (h1.2.2 b h5 _ (by simp))
     ·exact Or.inl (List.mem_singleton.1 h5)
    rcases h4 with h4 | h4
    ·exact h (by rw [a9,<- h4])
    ·omega
   ·omega
theorem dedupA_length (l:List (List Int)):(zcu l).length<=l.length:=by
 suffices H:∀ (l acc:List (List Int)),(l.foldl (fun acc x=>if acc.getLast?=some x then acc else acc++[x]) acc).length<=acc.length+l.length by
  simpa [zcu] using H l []
 intro l
 induction l with
 | nil=>intro acc;simp
 | cons x l ih =>
  intro acc;rw [List.foldl_cons];refine Nat.le_trans (ih _) ?_;split
  ·simp
  ·simp;omega
end
section
def zjp (x:List Int):List (List Int):=(List.range (x.length+1)).map x.take
def suffixes (x:List Int):List (List Int):=(List.range (x.length+1)).map x.drop
def preL (l:List (List Int)):List (List Int):=l.flatMap zjp
theorem zk7 (x:List Int):(zjp x).length=x.length+1:=by simp [zjp]
def topB (all:List (List Int)) (x:List Int):Bool:=all.all fun y=>decide (y=x∨¬ x <+: y)
def maxR (l:List (List Int)):List (List Int):=(sortW l).filter (topB (sortW l))
theorem mem_maxR {l:List (List Int)} {x:List Int} (h:x∈maxR l):x∈l:=by
 unfold maxR at h;exact (zb3 l x).1 (List.mem_filter.1 h).1
theorem maxR_length (l:List (List Int)):(maxR l).length<=l.length:=Nat.le_trans (List.length_filter_le _ _) (zeq l)
def zj3:List (List Int)->List (List Int)
 | []=>[]
 | [x]=>[x]
 | x::y::l=>if x <+: y then zj3 (y::l) else x::zj3 (y::l)
theorem keepM_end {L:List (List Int)} {k:Nat} {x:List Int} (hx:L[k]?=some x) (hl:k+1=L.length):zj3 (L.drop k)=x::zj3 (L.drop (k+1)):=by
 obtain ⟨h1,h2⟩:=List.getElem?_eq_some_iff.1 hx;rw [List.drop_eq_getElem_cons h1,h2,List.drop_eq_nil_of_le (by omega)];rfl
theorem keepM_step {L:List (List Int)} {k:Nat} {x y:List Int} (hx:L[k]?=some x) (hy:L[k+1]?=some y):zj3 (L.drop k)=if x <+: y then zj3 (L.drop (k+1)) else x::zj3 (L.drop (k+1)):=by
 obtain ⟨h1,h2⟩:=List.getElem?_eq_some_iff.1 hx;obtain ⟨h3,h4⟩:=List.getElem?_eq_some_iff.1 hy;rw [List.drop_eq_getElem_cons h1,h2,List.drop_eq_getElem_cons h3,h4];rfl
theorem zsc:∀ L:List (List Int),(zj3 L).Sublist L
 | []=>List.Sublist.refl _
 | [x]=>List.Sublist.refl _
 | x::y::l=>by
  rw [zj3];split
  ·exact (zsc (y::l)).cons x
  ·exact (zsc (y::l)).cons_cons x
theorem zrn:∀ (x z y:List Int),lexI x z=-1->(z=y∨lexI z y=-1)->x <+: y->x <+: z
 | [],z,_,_,_,_=>List.nil_prefix
 | a::x,[],_,h,_,_=>by simp [lexI] at h
 | a::x,b::z,[],_,_,h=>by simp at h
 | a::x,b::z,c::y,h1,h2,h3=>by
  rw [List.cons_prefix_cons] at h3;obtain ⟨rfl,h3⟩:=h3;simp only [lexI] at h1
  have hle:b<=a:=by
   rcases h2 with h2 | h2
   ·injection h2 with e1 e2;omega
   ·simp only [lexI] at h2;split at h2
    ·omega
    ·split at h2
     ·omega
     ·omega
  have a0:a=b:=by
   split at h1
   ·omega
   ·split at h1
    ·omega
    ·omega
  subst a0;rw [if_neg (by omega),if_neg (by omega)] at h1;rw [List.cons_prefix_cons];refine ⟨rfl,zrn x z y h1 ?_ h3⟩;rcases h2 with h2 | h2
  ·injection h2 with e1 e2;exact Or.inl e2
  ·simp only [lexI] at h2;rw [if_neg (by omega),if_neg (by omega)] at h2;exact Or.inr h2
theorem zte:∀ (x y:List Int),x <+: y->x≠y->lexI x y=-1
 | [],[],_,h=>absurd rfl h
 | [],_::_,_,_=>rfl
 | a::x,[],h,_=>by simp at h
 | a::x,b::y,h,hne=>by
  rw [List.cons_prefix_cons] at h;obtain ⟨rfl,h⟩:=h;simp only [lexI];rw [if_neg (by omega),if_neg (by omega)];exact zte x y h (fun e=>hne (by rw [e]))
theorem mem_keepM:∀ {L:List (List Int)},L.Pairwise (fun a b=>lexI a b=-1)->∀ x,x∈zj3 L↔x∈L∧∀ y∈L,y=x∨¬ x <+: y
 | [],_,x=>by simp [zj3]
 | [z],_,x=>by
  simp only [zj3,List.mem_singleton];constructor
  ·rintro rfl;exact ⟨rfl,fun y hy=>Or.inl hy⟩
  ·exact fun h=>h.1
 | z::y::l,h,x=>by
  obtain ⟨h1,h2⟩:=List.pairwise_cons.1 h;have ih:=mem_keepM (L:=y::l) h2
  have hzl:∀ t∈y::l,z≠t:=fun t ht e=>by
   have:=h1 t ht;rw [e,lexI_refl] at this;omega
  have hlow:∀ t∈y::l,¬ t <+: z:=fun t ht hp=>by
   have h3:=h1 t ht;have h4:=zte t z hp (fun e=>hzl t ht e.symm);rw [zk8] at h4;omega
  have hyl:∀ t∈y::l,y=t∨lexI y t=-1:=fun t ht=>by
   rcases List.mem_cons.1 ht with e | e
   ·exact Or.inl e.symm
   ·exact Or.inr ((List.pairwise_cons.1 h2).1 t e)
  rw [zj3];by_cases hp:z <+: y
  ·rw [if_pos hp,ih];constructor
   ·rintro ⟨ha,hb⟩;refine ⟨List.mem_cons_of_mem _ ha,fun t ht=>?_⟩;rcases List.mem_cons.1 ht with rfl | ht
    ·exact Or.inr (hlow x ha)
    ·exact hb t ht
   ·rintro ⟨ha,hb⟩;rcases List.mem_cons.1 ha with rfl | ha
    ·rcases hb y (by simp) with e | e
     ·exact absurd e.symm (hzl y (by simp))
     ·exact absurd hp e
    ·exact ⟨ha,fun t ht=>hb t (List.mem_cons_of_mem _ ht)⟩
  ·rw [if_neg hp,List.mem_cons,ih];constructor
   ·rintro (rfl | ⟨ha,hb⟩)
    ·refine ⟨by simp,fun t ht=>?_⟩;rcases List.mem_cons.1 ht with rfl | ht
     ·exact Or.inl rfl
     ·exact Or.inr fun hpt=>hp (zrn x y t (h1 y (by simp)) (hyl t ht) hpt)
    ·refine ⟨List.mem_cons_of_mem _ ha,fun t ht=>?_⟩;rcases List.mem_cons.1 ht with rfl | ht
     ·exact Or.inr (hlow x ha)
     ·exact hb t ht
   ·rintro ⟨ha,hb⟩;rcases List.mem_cons.1 ha with rfl | ha
    ·exact Or.inl rfl
    ·exact Or.inr ⟨ha,fun t ht=>hb t (List.mem_cons_of_mem _ ht)⟩
theorem zk1 (l:List (List Int)) (x:List Int):x∈maxR l↔x∈l∧∀ y∈l,y=x∨¬ x <+: y:=by
 unfold maxR;rw [List.mem_filter,zb3,topB,List.all_eq_true];simp only [zb3,decide_eq_true_eq]
theorem maxR_asc (l:List (List Int)):Asc (maxR l):=List.Pairwise.sublist List.filter_sublist (zfq l)
theorem sortW_keepM {L l:List (List Int)} (h:L.Pairwise fun a b=>lexI a b=-1) (hm:∀ x,x∈L↔x∈l):sortW (zj3 L)=maxR l :=
 zo6 (zfq _) (maxR_asc l) fun x=>by
  rw [zb3,mem_keepM h,zk1];simp only [hm]
end
end Go.Proofs.YteigfkncoiiaiaaGreatDoor
namespace Go.Proofs.YteigfkncoiiaiaaGreatDoor.Sym
section
theorem zfu {α:Type} {l:List (List α)} {i:Nat} {x:List α} (h:l[i]?=some x):(l.take (i+1)).flatten=(l.take i).flatten++x:=by
 rw [zcy h];simp
theorem zgc {α:Type} {l:List (List α)} (i:Nat):(l.take i).flatten.length<=l.flatten.length:=by
 have h:l.flatten=(l.take i).flatten++(l.drop i).flatten:=by rw [<- ycs,List.take_append_drop]
 rw [h,zkJ];omega
theorem concat_ints (l:yaa) (hl:l.length<=100000000) (hf:l.flatten.length<=1000000000):za3 l=some l.flatten:=by
 unfold za3
 rw [ze7 (r:=l.flatten.length) (fun s=>s.2<=l.length∧s.1=(l.take s.2).flatten.length) (fun s=>l.length-s.2) (fun s ⟨h1,h2⟩=>by
  simp only [za3.s2]
  by_cases h3:s.2<l.length
  ·left
   have hx:=get_at h3
   have h4:=zfu hx
   have h5:=zgc (l:=l) (s.2+1)
   rw [h4,zkJ] at h5
   refine ⟨((l.take (s.2+1)).flatten.length,s.2+1),?_,⟨by omega,rfl⟩,by simp only;omega⟩
   rw [zdg hx,zkD,zal hx,zas (by unfold inR;omega),zkA (by omega),zkC,h4,zkJ,h2]
  ·right
   have e:s.2=l.length:=by omega
   rw [zkA (by omega),zkC,h2,e,ybp]) (s:=(0,0)) ⟨yag _,by simp⟩ (by have:=zav;simp only;omega)]
 simp only [ybt];unfold zk9;rw [zas (by omega)];simp only [ybt]
 rw [ze7 (r:=l.flatten) (fun s=>s.2<=l.length∧s.1=(l.take s.2).flatten) (fun s=>l.length-s.2) (fun s ⟨h1,h2⟩=>by
  simp only [za3.s4]
  by_cases h3:s.2<l.length
  ·left
   have hx:=get_at h3
   have h4:=zfu hx
   have h5:=zgc (l:=l) (s.2+1)
   rw [h4,zkJ] at h5
   refine ⟨((l.take (s.2+1)).flatten,s.2+1),?_,⟨by omega,rfl⟩,by simp only;omega⟩
   rw [zdg hx,zkD,zal hx,zas (by rw [h2];unfold zaz;omega),h4,h2]
  ·right
   have e:s.2=l.length:=by omega
   rw [zkA (by omega),zkC,h2,e,ybp]) (s:=([],0)) ⟨yag _,by simp⟩ (by have:=zav;simp only;omega)]
 rfl
theorem concat_words (l:List (yaa)) (hl:l.length<=100000000) (hf:l.flatten.length<=1000000000):zay l=some l.flatten:=by
 unfold zay
 rw [ze7 (r:=l.flatten.length) (fun s=>s.2<=l.length∧s.1=(l.take s.2).flatten.length) (fun s=>l.length-s.2) (fun s ⟨h1,h2⟩=>by
  simp only [zay.s2]
  by_cases h3:s.2<l.length
  ·left
   have hx:=get_at h3
   have h4:=zfu hx
   have h5:=zgc (l:=l) (s.2+1)
   rw [h4,zkJ] at h5
   refine ⟨((l.take (s.2+1)).flatten.length,s.2+1),?_,⟨by omega,rfl⟩,by simp only;omega⟩
   rw [zdg hx,zkD,zal hx,zas (by unfold inR;omega),zkA (by omega),zkC,h4,zkJ,h2]
  ·right
   have e:s.2=l.length:=by omega
   rw [zkA (by omega),zkC,h2,e,ybp]) (s:=(0,0)) ⟨yag _,by simp⟩ (by have:=zav;simp only;omega)]
 simp only [ybt];unfold zir;rw [zas (by omega)];simp only [ybt]
 rw [ze7 (r:=l.flatten) (fun s=>s.2<=l.length∧s.1=(l.take s.2).flatten) (fun s=>l.length-s.2) (fun s ⟨h1,h2⟩=>by
  simp only [zay.s4]
  by_cases h3:s.2<l.length
  ·left
   have hx:=get_at h3
   have h4:=zfu hx
   have h5:=zgc (l:=l) (s.2+1)
   rw [h4,zkJ] at h5
   refine ⟨((l.take (s.2+1)).flatten,s.2+1),?_,⟨by omega,rfl⟩,by simp only;omega⟩
   rw [zdg hx,zkD,zal hx,zas (by rw [h2];unfold zaz;omega),h4,h2]
  ·right
   have e:s.2=l.length:=by omega
   rw [zkA (by omega),zkC,h2,e,ybp]) (s:=([],0)) ⟨yag _,by simp⟩ (by have:=zav;simp only;omega)]
 rfl
theorem zhb (l:yaa) (hl:l.length<=100000000) (hf:l.flatten.length<=1000000000):zep l=some l.flatten:=by
 unfold zep;rw [concat_ints l hl hf];rfl
theorem totB_of {cf:yab->yab->Int} (T:zl2 cf) {f:yab->yab->Option Int} {l:yaa} (hf:∀ a∈l,∀ b∈l,f a b=some (cf a b)):totB f l=true:=by
 refine ybf.2 fun a ha=>ybf.2 fun b hb=>?_;rw [hf a ha b hb,hf b hb a ha];simp only [ya4];refine ⟨⟨⟨?_,?_⟩,?_⟩,ybf.2 fun c hc=>?_⟩
 ·rw [beq_iff_eq];have:=T.zero a b;by_cases h:a=b
  ·simp [h,this.2 h];rw [<- h];exact (T.zero a a).2 rfl
  ·have h2:¬ cf a b=0:=fun e=>h (this.1 e);simp [h,h2]
 ·rw [beq_iff_eq];have:=T.swap a b;by_cases h:cf a b<0
  ·simp [h];omega
  ·simp [h];omega
 ·have:=T.range a b;exact zkB (by omega)
 ·rw [hf b hb c hc,hf a ha c hc];have r1:=T.range a b;have r2:=T.range b c;by_cases h1:cf a b<0
  ·by_cases h2:cf b c<0
   ·have:=T.trans a b c (by omega) (by omega);simp [h1,h2,this]
   ·simp [h1,h2]
  ·simp [h1]
theorem zt1 {cf:yab->yab->Int} (T:zl2 cf) {f:yab->yab->Option Int} {l:yaa} (hl:l.length<=1000000000) (hf:∀ a∈l,∀ b∈l,f a b=some (cf a b)) :
  ∃ S,zpc l f=some S∧S.Perm l∧S.Pairwise (fun a b=>0<=cf b a):=by
 refine ⟨zj9 f l,?_,zei f l,?_⟩
 ·unfold zpc;rw [zas hl,totB_of T hf];rfl
 ·have h:=zjv (totB_iff (totB_of T hf));rw [yb1] at h ⊢;intro i j hi hj a0;have:=h i j hi hj a0;have m1:=(zei f l).mem_iff.1 (ya2 hi);have m2:=(zei f l).mem_iff.1 (ya2 hj);unfold NGt cfv at this;rw [hf _ m2 _ m1] at this;simp only [yae] at this;omega
theorem compact_eq {q:yab->yab->Option Bool} {l:yaa} (hl:l.length<=1000000000) (hq:∀ a∈l,∀ b∈l,q a b=some (decide (a=b))):zak l q=some (zcu l):=by
 unfold zak;by_cases h2:l.length<2
 ·rw [zkB (by omega),zkD,zpv (by omega)]
 rw [zkA (by omega),zkC]
 have key:=zaw (step:=fun k=>zak.s20 l q k) (fun k=>1<=k∧k<=l.length∧zcu (l.take k)=l.take k) (fun k=>l.length-k) (fun r=>Sum.elim (fun (_:Unit)=>some l) some r=some (zcu l)) (fun k ⟨h1,h3,h4⟩=>by
  simp only [zak.s20]
  by_cases h5:k<l.length
  ·have hx:=get_at h5
   have hp:=get_at (l:=l) (i:=k-1) (by omega)
   have a2:=zr6 (l:=l) (k:=k-1) (x:=l[k]) hp (by rw [show k-1+1=k by omega];exact hx)
   rw [show k-1+1=k by omega] at a2
   rw [zdg hx,zkD,zal hx,zbb (i:=k-1) (by omega) hp,hq _ (ya2 _) _ (ya2 _)]
   simp only [ybt]
   by_cases h6:l[k]=l[k-1]'(by omega)
   ·right
    rw [if_pos h6] at a2
    rw [zkB h6,zkD,zas (by omega)]
    have a3:=zaw (step:=fun (s:yaa×Nat×Nat)=>zak.s18 q k s.1 s.2.1 s.2.2) (fun s=>1<=s.2.2∧k+s.2.2<=l.length∧s.1.length=l.length∧s.2.1=(zcu (l.take (k+s.2.2))).length∧s.2.1<k+s.2.2∧s.1.take s.2.1=zcu (l.take (k+s.2.2))∧∀ j,s.2.1<=j->s.1[j]?=l[j]?) (fun s=>l.length-(k+s.2.2))
     (fun r=>r.2<=l.length∧r.1.length=l.length∧r.1.take r.2=zcu l) (fun s ⟨g1,g2,g3,g4,g5,g6,g7⟩=>by
      obtain ⟨y,kk,t⟩:=s
      simp only at g1 g2 g3 g4 g5 g6 g7
      simp only [zak.s18]
      by_cases g8:k+t<l.length
      ·left
       have gx:=get_at (l:=l) (i:=k+t) g8
       have gp:=get_at (l:=l) (i:=k+(t-1)) (by omega)
       have yx:y[k+t]?=some l[k+t]:=by rw [g7 _ (by omega)];exact gx
       have yp:y[k+(t-1)]?=some (l[k+(t-1)]'(by omega)):=by rw [g7 _ (by omega)];exact gp
       have a0:=zr6 (l:=l) (k:=k+(t-1)) (x:=l[k+t]) gp (by rw [show k+(t-1)+1=k+t by omega];exact gx)
       rw [show k+(t-1)+1=k+t by omega] at a0
       rw [zkB (show (↑t:Int)<(↑(List.length y-k):Int) by omega),zkD,zal yx,zas (by omega),show Int.toNat ((↑t:Int)-1)=t-1 by omega,zal yp,hq _ (ya2 _) _ (ya2 _)]
       simp only [ybt]
       by_cases g9:l[k+t]=l[k+(t-1)]'(by omega)
       ·rw [if_pos g9] at a0
        refine ⟨(y,kk,t+1),by rw [zkB g9];rfl,⟨by simp only;omega,by simp only;omega,g3,?_,by simp only;omega,?_,g7⟩,by simp only;omega⟩
        ·simp only
         rw [show k+(t+1)=k+t+1 by omega,a0]
         exact g4
        ·simp only
         rw [show k+(t+1)=k+t+1 by omega,a0]
         exact g6
       ·rw [if_neg g9] at a0
        have yk:=get_at (l:=y) (i:=kk) (by omega)
        refine ⟨(y.set kk l[k+t],kk+1,t+1),?_,⟨by simp only;omega,by simp only;omega,by simp only [ybo];exact g3,?_,by simp only;omega,?_,fun j hj=>?_⟩,by simp only;omega⟩
        ·rw [zkA g9]
         simp only [ycb,zkD]
         rw [zal yx,zal yk,zas (by unfold inR;omega)]
        ·simp only
         rw [show k+(t+1)=k+t+1 by omega,a0,zkJ,<- g4]
         rfl
        ·simp only
         have e1:(y.set kk l[k+t])[kk]?=some l[k+t]:=by rw [yeg];simp;omega
         rw [show k+(t+1)=k+t+1 by omega,a0,zcy e1,List.take_set_of_le (yap _),g6]
        ·simp only at hj
         rw [ybb (by omega)]
         exact g7 j (by omega)
      ·right
       have e:k+t=l.length:=by omega
       refine ⟨(y,kk),?_,by simp only;omega,g3,?_⟩
       ·rw [zkA (by omega),zkC]
       ·simp only
        rw [e,ybp] at g6
        exact g6) fuel (l,k,1) ⟨yap _,by simp only;omega,rfl,by simp only;rw [a2,h4,yaz];omega,by simp only;omega,by simp only;rw [a2,h4],fun j _=>rfl⟩ (by have:=zav;simp only;omega)
    obtain ⟨⟨y,kk⟩,e,g1,g2,g3⟩:=a3
    simp only at g1 g2 g3
    refine ⟨.inr (zcu l),?_,rfl⟩
    rw [e]
    simp only [ybt,zak.k19]
    have e2:(List.take kk y++List.replicate (List.length y-kk) ([]:yab)).length=l.length:=by
     rw [zkJ,yaz,yas]
     omega
    rw [zas (by omega),zas (by omega),zas (by rw [e2];omega),ydt (by rw [yaz];omega),yfe,Nat.min_self,g3]
   ·left
    rw [if_neg h6] at a2
    refine ⟨k+1,by rw [zkA h6];rfl,⟨by omega,by omega,?_⟩,by omega⟩
    rw [a2,h4,zcy hx]
  ·right
   have e:k=l.length:=by omega
   subst e
   refine ⟨.inl (),?_,?_⟩
   ·rw [zfb];rfl
   ·rw [ybp] at h4
    rw [h4]
    rfl) fuel 1 ⟨yap _,by omega,zpv (by rw [yaz];omega)⟩ (by have:=zav;omega)
 obtain ⟨r,e,hr⟩:=key;rw [e];exact hr
theorem zni {w:yab} (h:SmW w):zfh w=some w:=by
 unfold zfh zl5;exact zas (by unfold SmW at h;unfold zaz;omega)
theorem zs2 {l:yaa} (h:l.length<=2000000):zgb l=some l:=by
 unfold zgb zl5;exact zas (by unfold zaz;omega)
theorem zt6 {cf:yab->yab->Int} (T:zl2 cf) {f:yab->yab->Option Int} {l:yaa} (hl:SmL l) (hf:∀ a∈l,∀ b∈l,f a b=some (cf a b)) :
  ∃ S,zci l f=some S∧S.Pairwise (fun a b=>cf a b=-1)∧(∀ x,x∈S↔x∈l)∧S.length<=l.length:=by
 have a3:l.length<=2000000:=hl.1;obtain ⟨S,e1,hp,hs⟩:=zt1 T (by omega:l.length<=1000000000) hf;obtain ⟨d1,d2⟩:=dedup_asc T hs;have hm:∀ x,x∈zcu S↔x∈l:=fun x=>by rw [d2,hp.mem_iff]
 have a0:(zcu S).length<=l.length:=by
  have:=dedupA_length S;rw [hp.length_eq] at this;exact this
 refine ⟨zcu S,?_,d1,hm,a0⟩;unfold zci zdw;rw [zs2 a3];simp only [ybt];rw [e1];simp only [ybt]
 rw [compact_eq (by rw [hp.length_eq];omega) (fun a ha b hb=>by
  unfold zem
  rw [hf a (hp.mem_iff.1 ha) b (hp.mem_iff.1 hb)]
  simp only [ybt]
  congr 1
  exact decide_eq_decide.2 (T.zero a b))]
 simp only [ybt]
 rw [ze7 (r:=zcu S) (fun s=>s.1=zcu S) (fun s=>(zcu S).length-s.2) (fun s h1=>by
  simp only [zci.s2]
  by_cases h3:s.2<(zcu S).length
  ·left
   have hx:=get_at h3
   have a2:SmW ((zcu S)[s.2]):=hl.2 _ ((hm _).1 (ya2 _))
   refine ⟨(zcu S,s.2+1),?_,rfl,by simp only;omega⟩
   rw [zdg hx,zkD,h1,zal hx,zni a2]
   simp only [ybt]
   rw [zal hx,zas (by unfold inR;omega),List.set_getElem_self]
  ·right
   rw [zkA (by omega),zkC,h1]) (s:=(zcu S,0)) rfl (by have:=zav;simp only;omega)]
 rfl
theorem zd6 {l:yaa} (hl:SmL l):zcw l=some (sortW l):=by
 obtain ⟨S,e,h1,h2,_⟩:=zt6 zi7 (f:=fun u0 u1=>zdj u0 u1) hl fun a ha b hb=>zgd a b (by have:SmW a:=hl.2 a ha;unfold SmW at this;omega);unfold zcw;rw [e];show some S=_;congr 1;exact zo6 h1 (zfq l) fun x=>by rw [h2,zb3]
theorem sml_sort {l:yaa} (h:SmL l):SmL (sortW l):=⟨ych (zeq l) h.1,fun x hx=>h.2 x ((zb3 l x).1 hx)⟩
theorem zkb {ls:List (yaa)} (h0:ls.length<=100000000) (hl:SmL ls.flatten):zfg ls=some (sortW ls.flatten):=by
 unfold zfg;rw [concat_words ls h0 (by have:=hl.1;omega)];simp only [ybt];rw [zd6 hl];rfl
end
section
theorem zm5 (l:yaa) (hl:l.length<=100000000) (hf:l.flatten.length<=1000000000):zfe l=some l.flatten:=by
 unfold zfe
 rw [ze7 (r:=l.flatten) (fun s=>s.2<=l.length∧s.1=(l.take s.2).flatten) (fun s=>l.length-s.2) (fun s ⟨h1,h2⟩=>by
  simp only [zfe.s2]
  by_cases h3:s.2<l.length
  ·left
   have hx:=get_at h3
   have h4:=zfu hx
   have h5:=zgc (l:=l) (s.2+1)
   rw [h4,zkJ] at h5
   refine ⟨((l.take (s.2+1)).flatten,s.2+1),?_,⟨by omega,rfl⟩,by simp only;omega⟩
   rw [zdg hx,zkD,zal hx,zas (by rw [h2];unfold zaz;omega),h4,h2]
  ·right
   have e:s.2=l.length:=by omega
   rw [zkA (by omega),zkC,h2,e,ybp]) (s:=([],0)) ⟨yag _,by simp⟩ (by have:=zav;simp only;omega)]
 rfl
end
section
def SmO (o:zar):Prop:=o.Traces.length<=1100000∧∀ t∈o.Traces,t.In.length<=1100000∧t.Out.length<=2000000
theorem zkg (w p:yab) (hw:SmW w):zer w p=some (decide (p <+: w)):=by
 unfold zer;rw [zhg w p hw,zam];congr 1;exact decide_eq_decide.2 (by rw [<- zlv w p];omega)
theorem ziq (a b:yab) (ha:SmW a):zdf a b=some (za7 a b:Int):=by
 have a2:a.length<=2000000:=ha;have a0:=zi3 a b;unfold zdf
 have key:=zaw (step:=fun k=>zdf.s2 a b k) (fun k=>k<=a.length∧k<=b.length∧za7 a b=za7 (a.drop k) (b.drop k)+k) (fun k=>a.length-k) (fun r=>Sum.elim (fun (_:Unit)=>some (min (↑a.length:Int) (↑b.length:Int))) some r=some (za7 a b:Int)) (fun k ⟨h1,h2,h3⟩=>by
  simp only [zdf.s2]
  by_cases h4:k<a.length∧k<b.length
  ·have hx:=get_at h4.1
   have hy:=get_at h4.2
   rw [zkB (show (↑k:Int)<min (↑a.length:Int) (↑b.length:Int) by omega),zkD,zal hx,zal hy]
   rw [ycc h4.1,ycc h4.2] at h3
   by_cases e:a[k]=b[k]
   ·left
    refine ⟨k+1,by simp [e],⟨h4.1,h4.2,?_⟩,by omega⟩
    rw [h3,e]
    simp [za7]
    omega
   ·right
    simp only [za7,e,if_false,yai] at h3
    exact ⟨.inr (k:Int),by simp [e],by rw [h3];rfl⟩
  ·right
   rw [zkA (by omega),zkC]
   refine ⟨.inl (),rfl,?_⟩
   rw [zop (by omega),yai] at h3
   simp only [ycd]
   congr 1
   omega) fuel 0 ⟨yag _,yag _,by simp⟩ (by have:=zav;omega)
 obtain ⟨r,e,hq⟩:=key;rw [e];exact hq
theorem zgu (w p:yab) (hw:SmW w):zeh w p=some (decide (p <+: w)):=by
 unfold zeh;rw [ziq w p hw,zam];congr 1;exact decide_eq_decide.2 (by rw [<- zlv w p];omega)
def zs0 (n:Int) (t:zab):Prop:=zgl t.In n=0∧t.Out.length=t.In.length∧∀ y∈t.Out,0<=y∧y<=1048576
def Agree (a b:zab):Prop:=a.Out.take (za7 a.In b.In)=b.Out.take (za7 a.In b.In)
structure zit (o:zar):Prop where
 inp:1<=o.Inputs∧o.Inputs<=64
 num:o.Traces.length<=10000
 prop:∀ t∈o.Traces,zs0 o.Inputs t∧t.In≠[]
 asc:∀ (i j:Nat) a b,i<j->o.Traces[i]?=some a->o.Traces[j]?=some b->cmpW a.In b.In=-1
 apart:∀ (i j:Nat) a b,i<j->o.Traces[i]?=some a->o.Traces[j]?=some b->¬ a.In <+: b.In∧Agree a b
end
section

end
section
theorem znw {l:yaa} (hl:SmL l):zck l=some (maxR l):=by
 have a3:l.length<=2000000:=hl.1;obtain ⟨L,e1,h1,h2,h3⟩:=zt6 lexI_total (f:=fun u0 u1=>zhk u0 u1) hl fun a ha b hb=>zjw a b (by have:SmW a:=hl.2 a ha;unfold SmW at this;omega);have a0:∀ x∈L,SmW x:=fun x hx=>hl.2 x ((h2 x).1 hx);unfold zck;rw [e1,zam]
 have key:=ze7 (step:=fun (s:yaa×Nat)=>zck.s2 L s.1 s.2) (r:=zj3 L) (fun s=>s.2<=L.length∧s.1.length<=s.2∧zj3 L=s.1++zj3 (L.drop s.2)) (fun s=>L.length-s.2) (fun s ⟨g1,g2,g3⟩=>by
  obtain ⟨y,i⟩:=s
  simp only at g1 g2 g3
  simp only [zck.s2]
  by_cases g4:i<L.length
  ·left
   have hx:=get_at g4
   rw [zdg hx,zkD,zal hx]
   by_cases g5:i+1=L.length
   ·rw [keepM_end hx g5] at g3
    refine ⟨(y++[L[i]],i+1),?_,⟨by simp only;omega,by simp;omega,by simp only;rw [g3];simp⟩,by simp only;omega⟩
    rw [zkB (by omega),zkD,zam,zkD,zas (by unfold zaz;omega)]
   ·have hy:=get_at (l:=L) (i:=i+1) (by omega)
    rw [keepM_step hx hy] at g3
    rw [zkA (by omega),zkC,zal hy,zgu _ _ (a0 _ (ya2 _)),zam,zam]
    by_cases g6:L[i] <+: (L[i+1]'(by omega))
    ·rw [if_pos g6] at g3
     refine ⟨(y,i+1),?_,⟨by simp only;omega,by simp only;omega,g3⟩,by simp only;omega⟩
     rw [zkB g6]
     rfl
    ·rw [if_neg g6] at g3
     refine ⟨(y++[L[i]],i+1),?_,⟨by simp only;omega,by simp;omega,by simp only;rw [g3];simp⟩,by simp only;omega⟩
     rw [zkA g6,ycb,zkD,zas (by unfold zaz;omega)]
  ·right
   have e:i=L.length:=by omega
   subst e
   rw [yd0] at g3
   rw [zkA (by omega),zkC,g3]
   simp [zj3]) (n:=fuel) (s:=([],0)) ⟨yag _,by simp,by simp⟩ (by have:=zav;simp only;omega)
 have hk:=zsc L;have a2:SmL (zj3 L):=⟨by have:=hk.length_le;omega,fun x hx=>a0 x (hk.mem hx)⟩;rw [key,zam,zd6 a2,zam,sortW_keepM h1 h2]
end
section
structure TabOk (t:zrb):Prop where
 sm:SmT t
 n:t.Inputs<=4
 p:t.Prefixes.length<=80
 s:t.Suffixes.length<=12
 pw:∀ x∈t.Prefixes,x.length<=80
 sw:∀ x∈t.Suffixes,x.length<=30
theorem zki (a b:yaa) (ha:SmL a):zb7 a b=some (decide (a=b)):=by
 have a2:a.length<=2000000:=ha.1;unfold zb7;by_cases a0:a.length=b.length
 ·rw [zkA (by omega),zkC];refine iter_all2 a0 (fun i x y hx hy=>?_) ?_ (by omega)
  ·simp only [zb7.s2];rw [zdg hx,zkD,zal hx,zal hy,R01_Same_eq x y (ha.2 x (zkH hx)),zam];by_cases h:x=y<;>simp [h]
  ·simp only [zb7.s2];rw [zfb];rfl
 ·rw [zkB (by omega),zkD];have:a≠b:=fun h=>a0 (by rw [h]);simp [this]
end
section
theorem zkv:zhq=some true:=by decide +kernel
end
section

end
section
theorem scan_idx {α:Type} {p:α->Bool}:∀ (l:List α) (j:Nat),scan (fun i x=>if p x=true then some (↑i:Int) else none) j l=if l.any p=true then some (↑(j+l.findIdx p):Int) else none
 | [],_=>rfl
 | x::l,j=>by
  unfold scan;by_cases h:p x=true
  ·simp [h,List.findIdx_cons]
  ·have hf:p x=false:=by simpa using h
   rw [if_neg h];simp only;rw [scan_idx l (j+1)];simp only [List.any_cons,hf,yej,List.findIdx_cons,zkC];split
   ·congr 2;omega
   ·rfl
theorem tindex_eq {l:List zab} {f:zab->Option Bool} {p:zab->Bool} (hl:l.length<=100000000000000) (hf:∀ x∈l,f x=some (p x)) :
  zaq l f=some (if l.any p=true then (↑(l.findIdx p):Int) else -1):=by
 unfold zaq
 have key:=zeg (step:=fun s=>zaq.s2 l f s) (l:=l) (fun i x=>if p x=true then some (↑i:Int) else none) (fun i x hx=>by
  simp only [zaq.s2]
  rw [zdg hx,zkD,zal hx,hf x (zkH hx),zam]
  cases p x<;>rfl) (by
  simp only [zaq.s2]
  rw [zfb]
  rfl) hl
 rw [key,scan_idx,zam];by_cases h:l.any p=true
 ·rw [if_pos h,if_pos h,yai];rfl
 ·rw [if_neg h,if_neg h];rfl
theorem cindex_eq {l:yab} {f:Int->Option Bool} {p:Int->Bool} (hl:l.length<=100000000000000) (hf:∀ x∈l,f x=some (p x)) :
  zcm l f=some (l.any p):=by
 unfold zcm zbg
 have key:=zeg (step:=fun s=>zbg.s2 l f s) (l:=l) (fun i x=>if p x=true then some (↑i:Int) else none) (fun i x hx=>by
  simp only [zbg.s2]
  rw [zdg hx,zkD,zal hx,hf x (zkH hx),zam]
  cases p x<;>rfl) (by
  simp only [zbg.s2]
  rw [zfb]
  rfl) hl
 rw [key,scan_idx];by_cases h:l.any p=true
 ·rw [if_pos h,h];simp
 ·have h':l.any p=false:=by simpa using h
  rw [if_neg h,h'];rfl
def zsr (t:zab) (n:Int):Int :=
 if zgl t.In n≠0 then zgl t.In n else if t.Out.length≠t.In.length then 1 else if (t.Out.all fun y=>decide (0<=y∧y<=1048576))=true then 0 else 2
theorem zo9 {t:zab} {n:Int}:zsr t n=0↔zs0 n t:=by
 unfold zsr zs0;by_cases h1:zgl t.In n=0
 ·rw [if_neg (by simpa using h1)];by_cases h2:t.Out.length=t.In.length
  ·rw [if_neg (by simpa using h2)];by_cases h3:(t.Out.all fun y=>decide (0<=y∧y<=1048576))=true
   ·rw [if_pos h3];exact ⟨fun _=>⟨h1,h2,fun y hy=>of_decide_eq_true (ybf.1 h3 y hy)⟩,fun _=>rfl⟩
   ·rw [if_neg h3];exact ⟨fun h=>(by cases h),fun h=>absurd (ybf.2 fun y hy=>zkB (h.2.2 y hy)) h3⟩
  ·rw [if_pos h2];exact ⟨fun h=>(by cases h),fun h=>absurd h.2.1 h2⟩
 ·rw [if_pos h1];exact ⟨fun h=>absurd h h1,fun h=>absurd h.1 h1⟩
theorem R16_Proper_eq (t:zab) (n:Int) (h1:SmW t.In) (h2:SmW t.Out):zd7 t n=some (zsr t n):=by
 unfold zd7 zsr;rw [zpe _ _ h1,zam];by_cases g1:zgl t.In n=0
 ·rw [zkA (by simpa using g1),zkC,if_neg (by simpa using g1)];by_cases g2:t.Out.length=t.In.length
  ·rw [zkA (by omega),zkC,if_neg (by simpa using g2)]
   have key:=zeg (step:=fun s=>zd7.s2 t s) (l:=t.Out) (fun _ y=>if decide (0<=y∧y<=1048576)=true then none else some (2:Int)) (fun i y hy=>by
    simp only [zd7.s2]
    rw [zdg hy,zkD,zal hy,zal hy]
    by_cases a1:y<0
    ·rw [zkB a1,zkD,zam,zkD,zkA (show ¬ (0<=y∧y<=1048576) by omega)];rfl
    ·by_cases a2:1048576<y
     ·rw [zkA a1,zkC,zkB a2,zam,zkD,zkA (show ¬ (0<=y∧y<=1048576) by omega)];rfl
     ·rw [zkA a1,zkC,zkA a2,zam,zkC,zkB (show (0<=y∧y<=1048576) by omega)];rfl) (by
    simp only [zd7.s2]
    rw [zfb]
    rfl) (by unfold SmW at h2;omega)
   rw [key,scan_all (p:=fun y=>decide (0<=y∧y<=1048576)),zam];by_cases h:(t.Out.all fun y=>decide (0<=y∧y<=1048576))=true
   ·rw [if_pos h,if_pos h];rfl
   ·rw [if_neg h,if_neg h];rfl
  ·rw [zkB (by omega),zkD,if_pos g2]
 ·rw [zkB g1,zkD,if_pos g1]
theorem zor (t:zab) (n:Int) (h1:SmW t.In) (h2:SmW t.Out):zfr t n=some (zsr t n):=by
 unfold zfr zsr;rw [zn3 _ _ h1,zam];by_cases g1:zgl t.In n=0
 ·rw [zkA (by simpa using g1),zkC,if_neg (by simpa using g1)];by_cases g2:t.Out.length=t.In.length
  ·rw [zkA (by omega),zkC,if_neg (by simpa using g2)]
   rw [cindex_eq (p:=fun y=>!decide (0<=y∧y<=1048576)) (by unfold SmW at h2;omega) fun y _=>by
    unfold ze1
    by_cases a1:y<0
    ·rw [zkB a1,zkD,zam,zkA (show ¬ (0<=y∧y<=1048576) by omega)];rfl
    ·by_cases a2:1048576<y
     ·rw [zkA a1,zkC,zkB a2,zam,zkA (show ¬ (0<=y∧y<=1048576) by omega)];rfl
     ·rw [zkA a1,zkC,zkA a2,zam,zkB (show (0<=y∧y<=1048576) by omega)];rfl,zam]
   by_cases h:(t.Out.all fun y=>decide (0<=y∧y<=1048576))=true
   ·have h':(t.Out.any fun y=>!decide (0<=y∧y<=1048576))=false:=by
     rw [List.any_eq_false];intro y hy;have:=ybf.1 h y hy;simp only [this,yb8];exact ydq
    rw [h',zkC,if_pos h]
   ·have h':(t.Out.any fun y=>!decide (0<=y∧y<=1048576))=true:=by
     refine ya5 fun hn=>h (ybf.2 fun y hy=>?_);refine ya5 fun hm=>hn (ycp.2 ⟨y,hy,?_⟩);have:decide (0<=y∧y<=1048576)=false:=by simpa only [Bool.not_eq_true] using hm
     rw [this];rfl
    rw [h',zkD,if_neg h]
  ·rw [zkB (by omega),zkD,if_pos g2]
 ·rw [zkB g1,zkD,if_pos g1]
theorem zrj:∀ a b:yab,za7 a b=za7 b a
 | [],[]=>rfl
 | [],_::_=>rfl
 | _::_,[]=>rfl
 | x::a,y::b=>by
  unfold za7;by_cases h:x=y
  ·rw [if_pos h,if_pos h.symm,zrj a b]
  ·rw [if_neg h,if_neg fun e=>h e.symm]
theorem Agree.symm {a b:zab} (h:Agree a b):Agree b a:=by
 unfold Agree at h ⊢;rw [zrj];exact h.symm
theorem zsv (a b:zab) {n:Int} (ha:zs0 n a) (hb:zs0 n b) (h1:SmW a.In):∃ d,zec a b=some d∧(0<=d↔¬ Agree a b):=by
 have a0:a.In.length<=2000000:=h1;have hc:=zi3 a.In b.In;have la:=ha.2.1;have lb:=hb.2.1;unfold zec;rw [zhg _ _ h1,zam]
 have key:=zaw (step:=fun k=>zec.s2 a b (↑(za7 a.In b.In):Int) k) (fun k=>k<=za7 a.In b.In∧a.Out.take k=b.Out.take k) (fun k=>za7 a.In b.In-k) (fun r=>match r with | .inl ()=>Agree a b | .inr d=>0<=d∧¬ Agree a b) (fun k ⟨g1,g2⟩=>by
  simp only [zec.s2]
  by_cases g3:k<za7 a.In b.In
  ·have hx:=get_at (l:=a.Out) (i:=k) (by omega)
   have hy:=get_at (l:=b.Out) (i:=k) (by omega)
   rw [zkB (by omega),zkD,zal hx,zal hy]
   by_cases e:a.Out[k]'(by omega)=b.Out[k]'(by omega)
   ·left
    refine ⟨k+1,by rw [zkA (by simpa using e),zkC,zas (by unfold inR;omega)],⟨g3,?_⟩,by omega⟩
    rw [zcy hx,zcy hy,g2,e]
   ·right
    refine ⟨.inr (k:Int),by rw [zkB e,zkD],by simp,fun hA=>e ?_⟩
    have h3:(a.Out.take (za7 a.In b.In))[k]?=(b.Out.take (za7 a.In b.In))[k]?:=by rw [hA]
    rw [ybm,ybm,if_pos g3,if_pos g3,hx,hy] at h3
    injection h3
  ·right
   have e:k=za7 a.In b.In:=by omega
   subst e
   exact ⟨.inl (),by rw [zkA (by omega),zkC],g2⟩) fuel 0 ⟨yag _,by simp⟩ (by have:=zav;omega)
 obtain ⟨r,e,hq⟩:=key;rw [e];cases r with
 | inl u=>exact ⟨-1,rfl,fun h=>absurd h (by decide),fun h=>absurd hq h⟩
 | inr d=>exact ⟨d,rfl,fun _=>hq.2,fun _=>hq.1⟩
theorem common_eq_iff {x y:yab} (h:x.length=y.length):za7 x y=y.length↔x=y:=by
 rw [zlv];exact ⟨fun hp=>(hp.eq_of_length h.symm).symm,fun e=>e ▸ ybu _⟩
theorem zia (a b:zab) {n:Int} (ha:zs0 n a) (hb:zs0 n b) (h1:SmW a.In):∃ d,ze2 a b=some d∧(0<=d↔¬ Agree a b):=by
 have a3:a.In.length<=2000000:=h1;have hc:=zi3 a.In b.In;have la:=ha.2.1;have lb:=hb.2.1;unfold ze2;rw [ziq _ _ h1,zam];have hm:min (min (↑(za7 a.In b.In):Int) (↑a.Out.length:Int)) (↑b.Out.length:Int)=↑(za7 a.In b.In):=by omega
 rw [hm,zas (by omega),zas (by omega),yah,ziq _ _ (by unfold SmW;rw [yaz];omega),zam];have l1:(a.Out.take (za7 a.In b.In)).length=za7 a.In b.In:=by rw [yaz];omega
 have l2:(b.Out.take (za7 a.In b.In)).length=za7 a.In b.In:=by rw [yaz];omega
 have a2:=zi3 (a.Out.take (za7 a.In b.In)) (b.Out.take (za7 a.In b.In));have a0:=common_eq_iff (x:=a.Out.take (za7 a.In b.In)) (y:=b.Out.take (za7 a.In b.In)) (by omega);by_cases h:za7 (a.Out.take (za7 a.In b.In)) (b.Out.take (za7 a.In b.In))<za7 a.In b.In
 ·rw [zkB (by omega),zkD];exact ⟨_,rfl,fun _ hA=>by have:=a0.2 hA;omega,fun _=>by omega⟩
 ·rw [zkA (by omega),zkC];exact ⟨-1,rfl,fun h=>absurd h (by decide),fun hA=>absurd (a0.1 (by omega)) hA⟩
def clashO (l:List zab) (t:zab):Prop:=∃ u∈l,¬ Agree u t
def zfo (l:List zab) (w:yab):Bool:=l.any fun u=>decide (w <+: u.In)
def insT:List zab->zab->List zab
 | [],t=>[t]
 | x::r,t=>if cmpW t.In x.In=-1 then t::x::r else x::insT r t
def restT (l:List zab) (t:zab):List zab:=l.filter fun u=>!decide (u.In <+: t.In)
def addL (l:List zab) (t:zab):List zab:=if zfo l t.In=true∨t.In=[] then l else insT (restT l t) t
instance (a b:zab):Decidable (Agree a b):=by unfold Agree;infer_instance
instance (l:List zab) (t:zab):Decidable (clashO l t):=by unfold clashO;infer_instance
def addO (o:zar) (t:zab):zar×Int :=
 if zsr t o.Inputs≠0 then (o,zsr t o.Inputs) else if clashO o.Traces t then (o,13) else if 10000<(addL o.Traces t).length then (o,11) else (⟨o.Inputs,addL o.Traces t⟩,0)
theorem zju {l:List zab} {t x:zab}:x∈insT l t↔x=t∨x∈l:=by
 induction l with
 | nil=>simp [insT]
 | cons y r ih =>
  unfold insT;split
  ·simp
  ·simp only [yba,ih];constructor
   ·rintro (h | h | h)
    ·exact .inr (.inl h)
    ·exact .inl h
    ·exact .inr (.inr h)
   ·rintro (h | h | h)
    ·exact .inr (.inl h)
    ·exact .inl h
    ·exact .inr (.inr h)
theorem insT_pair {S:zab->zab->Prop} {t:zab}:∀ {l:List zab},l.Pairwise S->(∀ x∈l,S x t∧S t x)->(insT l t).Pairwise S
 | [],_,_=>by simp [insT]
 | x::r,h,ht=>by
  unfold insT;have hx:=yb5.1 h;split
  ·exact yb5.2 ⟨fun y hy=>(ht y hy).2,h⟩
  ·refine yb5.2 ⟨fun y hy=>?_,insT_pair hx.2 fun y hy=>ht y (by simp [hy])⟩;rcases zju.1 hy with e | e
   ·subst e;exact (ht x (by simp)).1
   ·exact hx.1 y e
theorem insT_asc {t:zab}:∀ {l:List zab},l.Pairwise (fun a b=>cmpW a.In b.In=-1)->(∀ x∈l,x.In≠t.In)->(insT l t).Pairwise (fun a b=>cmpW a.In b.In=-1)
 | [],_,_=>by simp [insT]
 | x::r,h,hn=>by
  unfold insT;have hx:=yb5.1 h;split
  ·rename_i h1;refine yb5.2 ⟨fun y hy=>?_,h⟩;rcases yba.1 hy with e | e
   ·rw [e];exact h1
   ·exact zl6 _ _ _ h1 (hx.1 y e)
  ·rename_i h1;refine yb5.2 ⟨fun y hy=>?_,insT_asc hx.2 fun y hy=>hn y (by simp [hy])⟩;rcases zju.1 hy with e | e
   ·subst e;have r1:=zl1 x.In y.In;have z1:=zn1 x.In y.In;have s1:=zof x.In y.In;have h6:¬ cmpW x.In y.In=0:=fun e=>hn x (by simp) (z1.1 e);omega
   ·exact hx.1 y e
theorem zit.pw {o:zar} (hv:zit o):o.Traces.Pairwise (fun a b=>cmpW a.In b.In=-1)∧o.Traces.Pairwise (fun a b=>¬ a.In <+: b.In∧Agree a b) :=
 ⟨yb1.2 fun i j hi hj hij=>hv.asc i j _ _ hij (get_at hi) (get_at hj),yb1.2 fun i j hi hj hij=>hv.apart i j _ _ hij (get_at hi) (get_at hj)⟩
theorem obsOk_of {o:zar} (h1:1<=o.Inputs∧o.Inputs<=64) (h2:o.Traces.length<=10000) (h3:∀ t∈o.Traces,zs0 o.Inputs t∧t.In≠[]) (h4:o.Traces.Pairwise (fun a b=>cmpW a.In b.In=-1)) (h5:o.Traces.Pairwise (fun a b=>¬ a.In <+: b.In∧Agree a b)):zit o:=by
 refine ⟨h1,h2,h3,fun i j a b a0 ha hb=>?_,fun i j a b a0 ha hb=>?_⟩
 all_goals
  obtain ⟨hi,rfl⟩:=zkI.1 ha;obtain ⟨hj,rfl⟩:=zkI.1 hb
 ·exact yb1.1 h4 i j hi hj a0
 ·exact yb1.1 h5 i j hi hj a0
theorem insideO_false {l:List zab} {w:yab} (h:¬ zfo l w=true):∀ u∈l,¬ w <+: u.In:=fun u hu hp=>h (ycp.2 ⟨u,hu,zkB hp⟩)
theorem addO_ok {o:zar} {t:zab} (hv:zit o):zit (addO o t).1:=by
 unfold addO;split
 ·exact hv
 rename_i hp;have hp:zs0 o.Inputs t:=zo9.1 (by simpa using hp);split
 ·exact hv
 rename_i hc;split
 ·exact hv
 rename_i hn;have hn:(addL o.Traces t).length<=10000:=by omega
 unfold addL at hn ⊢;by_cases h:zfo o.Traces t.In=true∨t.In=[]
 ·rw [if_pos h];exact hv
 ·rw [if_neg h] at hn ⊢;have h1:=insideO_false fun e=>h (.inl e);have h2:t.In≠[]:=fun e=>h (.inr e);have a2:(restT o.Traces t).Sublist o.Traces:=List.filter_sublist
  have a0:∀ x∈restT o.Traces t,x∈o.Traces∧¬ x.In <+: t.In:=fun x hx=>by
   have:=yfd.1 hx;refine ⟨this.1,fun e=>?_⟩;rw [zkB e] at this;exact ydq this.2
  have a3:∀ x∈o.Traces,Agree x t:=fun x hx=>ya5 fun e=>hc ⟨x,hx,e⟩;refine obsOk_of hv.inp hn (fun x hx=>?_) (insT_asc (hv.pw.1.sublist a2) fun x hx e=>(a0 x hx).2 (e ▸ ybu _)) (insT_pair (hv.pw.2.sublist a2) fun x hx=>⟨⟨(a0 x hx).2,a3 x (a0 x hx).1⟩,h1 x (a0 x hx).1,(a3 x (a0 x hx).1).symm⟩);rcases zju.1 hx with e | e
  ·rw [e];exact ⟨hp,h2⟩
  ·exact hv.prop x (a0 x e).1
end
section
theorem zf1 {w:yab} {n:Int} (h:zgl w n=0):w.length<=1024∧∀ a∈w,0<=a∧a<n:=by
 unfold zgl at h;split at h
 ·split at h
  ·cases h
  ·split at h
   ·rename_i g1 g2 g3;exact ⟨by omega,fun a ha=>by simpa using ybf.1 g3 a ha⟩
   ·cases h
 ·cases h
theorem scan_nil {α R:Type}:∀ (l:List α) (j:Nat),scan (fun _ _=>(none:Option R)) j l=none
 | [],_=>rfl
 | _::l,j=>by
  unfold scan;exact scan_nil l (j+1)
theorem fits_tot {l:List zab} (hl:l.length<=1000000) (hw:∀ t∈l,t.In.length<=1000000) {n:Int} (hp:∀ t∈l,zs0 n t) (hd:∀ a∈l,∀ b∈l,a.In=b.In->a=b):∃ b,zdn l=some b:=by
 have hf:∀ a∈l,∀ b∈l,zde a b=some (lexI a.In b.In):=fun a ha b _=>by
  unfold zde;rw [zjw _ _ (by have:=hw a ha;omega),zam]
 have ht:totB (fun u0 u1=>zde u0 u1) l=true:=by
  refine ybf.2 fun a ha=>ybf.2 fun b hb=>?_;simp only;rw [hf a ha b hb,hf b hb a ha];simp only [ya4];have hz:=zld a.In b.In;have hs:=zk8 a.In b.In;refine ⟨⟨⟨?_,?_⟩,?_⟩,ybf.2 fun c hc=>?_⟩
  ·rw [beq_iff_eq];by_cases h:a=b
   ·have:lexI a.In b.In=0:=hz.2 (by rw [h]);rw [zkB this,zkB h]
   ·have h2:¬ lexI a.In b.In=0:=fun e=>h (hd a ha b hb (hz.1 e));rw [zkA h2,zkA h]
  ·rw [beq_iff_eq];by_cases h:lexI a.In b.In<0
   ·rw [zkB h,zkB (by omega)]
   ·rw [zkA h,zkA (by omega)]
  ·have:=zhm a.In b.In;exact zkB (by omega)
  ·rw [hf b hb c hc,hf a ha c hc];have r1:=zhm a.In b.In;have r2:=zhm b.In c.In;by_cases h1:lexI a.In b.In<0
   ·by_cases h2:lexI b.In c.In<0
    ·have:=zl7 a.In b.In c.In (by omega) (by omega);simp [h1,h2,this]
    ·simp [h1,h2]
   ·simp [h1]
 have a0:=zei (fun u0 u1=>zde u0 u1) l;generalize hS:zj9 (fun u0 u1=>zde u0 u1) l=S at a0;have a3:S.length=l.length:=a0.length_eq;unfold zdn zhd zl5 zf3 zpc;rw [zas (by unfold zaz;omega),zam,zas (by omega),ht,zkD,hS,zam]
 have key:=zaw (step:=fun (s:Nat)=>zdn.s2 S s) (fun i=>1<=i) (fun i=>S.length+1-i) (fun _=>True) (fun i g1=>by
  simp only [zdn.s2]
  by_cases h:i<S.length
  ·have hx:=get_at h
   have hy:=get_at (l:=S) (i:=i-1) (by omega)
   have mx:S[i]∈l:=a0.mem_iff.1 (ya2 h)
   have my:S[i-1]∈l:=a0.mem_iff.1 (ya2 _)
   obtain ⟨d,a2,_⟩:=zia S[i-1] S[i] (hp _ my) (hp _ mx) (by have:=hw _ my;unfold SmW;omega)
   rw [zdg hx,zkD,zal hx,zbb (i:=i-1) (by omega) hy,zgu _ _ (by have:=hw _ mx;unfold SmW;omega),zam]
   by_cases q:S[i-1].In <+: S[i].In
   ·rw [zkB q,zkD,zam,zkD]
    exact .inr ⟨_,rfl,trivial⟩
   ·rw [zkA q,zkC,zbb (i:=i-1) (by omega) hy,zal hx,a2,zam,zam]
    by_cases z:0<=d
    ·rw [zkB z,zkD]
     exact .inr ⟨_,rfl,trivial⟩
    ·rw [zkA z,zkC]
     exact .inl ⟨_,rfl,by omega,by omega⟩
  ·rw [zkA (by omega),zkC]
   exact .inr ⟨_,rfl,trivial⟩) fuel 1 (yap _) (by have:=zav;omega)
 obtain ⟨r,e,-⟩:=key;rw [e,zam];cases r with
 | inl u=>exact ⟨true,rfl⟩
 | inr b=>exact ⟨b,rfl⟩
theorem zit.dist {o:zar} (hv:zit o):∀ a∈o.Traces,∀ b∈o.Traces,a.In=b.In->a=b:=fun a ha b hb e=>by
 obtain ⟨i,hi,rfl⟩:=ybl ha;obtain ⟨j,hj,rfl⟩:=ybl hb;rcases yc0 i j with h | h | h
 ·exact absurd (e ▸ ybu _) (hv.apart i j _ _ h (get_at hi) (get_at hj)).1
 ·subst h;rfl
 ·exact absurd (e ▸ ybu _) (hv.apart j i _ _ h (get_at hj) (get_at hi)).1
theorem zoa {l:List zab} {f:zab->Option Bool} (hl:l.length<=100000000000000) (hf:∀ x∈l,f x=some false):zbi l f=some false:=by
 unfold zbi
 have h:¬ l.any (fun _=>false)=true:=fun h=>by
  obtain ⟨x,_,hx⟩:=ycp.1 h;cases hx
 rw [tindex_eq (p:=fun _=>false) hl hf,if_neg h,zam];rfl
theorem zp1 {o:zar} (ho:SmO o) (hv:zit o):zby o=some 0:=by
 obtain ⟨i1,i2⟩:=hv.inp;have hn:=hv.num;have hs:=ho.2;unfold zby;rw [zkA (by omega),zkC,zkA (by omega),zam,zkC,zkA (by omega),zkC]
 have key:=zeg (step:=fun s=>zby.s2 o s) (l:=o.Traces) (R:=Int) (fun _ _=>none) (fun i x hx=>by
  obtain ⟨hi,a4⟩:=zkI.1 hx
  have mx:x∈o.Traces:=zkH hx
  obtain ⟨p1,p2⟩:=hv.prop x mx
  have sx:SmW x.In:=by have:=(hs x mx).1;unfold SmW;omega
  have a3:zsr x o.Inputs=0:=zo9.2 p1
  have a5:x.In.length≠0:=fun e=>p2 (yau e)
  simp only [zby.s2]
  rw [zdg hx,zkD,zal hx,zn3 _ _ sx,zam,p1.1,zkA (by decide),zkC,zkA (by omega),zkC,zor _ _ sx (hs x mx).2,zam,a3,zkA (by decide),zkC]
  by_cases h0:0<i
  ·have hy:=get_at (l:=o.Traces) (i:=i-1) (by omega)
   have hc:=hv.asc (i-1) i _ _ (by omega) hy hx
   have my:=zkH hy
   unfold zhf
   rw [zkB (by omega),zkD,zbb (i:=i-1) (by omega) hy,zgd _ _ (by have:=(hs _ my).1;omega),zam,zam,hc,zkA (by decide),zam,zkC]
  ·rw [zkA (by omega),zkC,zam,zkC]) (by
  simp only [zby.s2]
  rw [zfb,zkC]) (by omega)
 rw [key,scan_nil,zam];simp only [ycd];obtain ⟨b,hb⟩:=fits_tot (l:=o.Traces) (by omega) (fun t ht=>by have:=(zf1 (hv.prop t ht).1.1).1;omega) (fun t ht=>(hv.prop t ht).1) hv.dist;rw [hb,zam];cases b with
 | true=>rfl
 | false =>
  rw [zkC]
  have a2:=zeg (step:=fun s=>zby.s4 o s) (l:=o.Traces) (R:=Int) (fun _ _=>none) (fun i x hx=>by
   obtain ⟨hi,a4⟩:=zkI.1 hx
   have mx:x∈o.Traces:=zkH hx
   have hl:(o.Traces.drop (i+1)).length<=100000000000000:=by rw [ybw];omega
   have a0:∀ u∈o.Traces.drop (i+1),u∈o.Traces∧¬ x.In <+: u.In∧Agree x u:=fun u hu=>by
    refine ⟨ybn hu,?_⟩
    obtain ⟨k,hk,e⟩:=ybl hu
    rw [List.getElem_drop] at e
    rw [ybw] at hk
    exact hv.apart i (i+1+k) x u (by omega) hx (by rw [get_at (by omega),e])
   simp only [zby.s4]
   rw [zdg hx,zkD,zal hx,zas (by omega),zoa hl (fun u hu=>by
    unfold zfa
    rw [zgu _ _ (by have:=(hs u (a0 u hu).1).1;unfold SmW;omega),zam,zkA (a0 u hu).2.1]),zam,zkC,zoa hl (fun u hu=>by
    unfold ze9
    obtain ⟨d,d1,d2⟩:=zia x u (hv.prop x mx).1 (hv.prop u (a0 u hu).1).1 (by have:=(hs x mx).1;unfold SmW;omega)
    rw [d1,zam,zkA (fun h=>d2.1 h (a0 u hu).2.2)]),zam,zkC]) (by
   simp only [zby.s4]
   rw [zfb,zkC]) (by omega)
  rw [a2,scan_nil,zam];rfl
end
section
theorem addT_pre (L:List Nat) (t:Int):L <+: addT L t:=by
 unfold addT;split
 ·exact ybu _
 ·exact List.prefix_append _ _
theorem zks:∀ (x:yab) (L:List Nat),L <+: x.foldl addT L
 | [],L=>ybu _
 | t::x,L=>by
  rw [ycu];exact (addT_pre L t).trans (zks x _)
theorem foldl_mem:∀ (x:yab) (L:List Nat) (t:Int),t∈x->t=-1∨t.toNat∈x.foldl addT L
 | u::x,L,t,h=>by
  rw [ycu];rcases yba.1 h with rfl | h
  ·by_cases t0:t=-1
   ·exact .inl t0
   ·refine .inr ((zks x _).subset ?_);unfold addT;split
    ·rename_i g;exact g.resolve_left t0
    ·exact yaj _ (yar.2 rfl)
  ·exact foldl_mem x _ t h
theorem zqk (R:Nat->yab):∀ (f i:Nat) (L:List Nat),L <+: bfsL R f i L
 | 0,_,L=>ybu _
 | f+1,i,L=>by
  unfold bfsL;cases L[i]? with
  | none=>exact ybu _
  | some c=>exact (zks (R c) L).trans (zqk R f (i+1) _)
theorem ztr (R:Nat->yab):∀ (f i:Nat) (L:List Nat),(∀ c,c∈L.take i->∀ t,t∈R c->t=-1∨t.toNat∈L)->(bfsL R f i L).length<=f+i->∀ c,c∈bfsL R f i L->∀ t,t∈R c->t=-1∨t.toNat∈bfsL R f i L
 | 0,i,L,h,hl=>by
  unfold bfsL at hl ⊢;rw [yb6 (by omega)] at h;exact h
 | f+1,i,L,h,hl=>by
  unfold bfsL at hl ⊢;cases e:L[i]? with
  | none =>
   have:L.length<=i:=ye2.1 e;rw [yb6 this] at h;exact h
  | some c =>
   rw [e] at hl;refine ztr R f (i+1) _ (fun d hd t ht=>?_) (by simp only at hl;omega);obtain ⟨hi,hc⟩:=zkI.1 e;have hp:=zks (R c) L
   have htk:((R c).foldl addT L).take (i+1)=L.take i++[c]:=by
    obtain ⟨T,hT⟩:=hp;rw [<- hT,ydt (by omega),ycq hi,hc]
   rw [htk] at hd;rcases yak.1 hd with k | k
   ·exact (h d k t ht).elim .inl fun k=>.inr (hp.subset k)
   ·rw [yar.1 k] at ht;exact foldl_mem _ _ _ ht
theorem zgx {Q:zac} (R:zrc Q) {c a:Nat} (hc:c∈ordP Q) (ha:a<Q.Inputs.toNat):gx Q.Next c a=-1∨(gx Q.Next c a).toNat∈ordP Q:=by
 obtain ⟨nums,_,A⟩:=zch R;have a0:=A.le;obtain ⟨x,x1,x2,x3⟩:=R.gn.at (A.lt c hc) ha;refine ztr (fun c=>(Q.Next[c]?).getD []) (Q.Next.length+1) 0 [Q.Start.toNat] (fun d hd=>by simp at hd) (by have:(bfsL (fun c=>(Q.Next[c]?).getD []) (Q.Next.length+1) 0 [Q.Start.toNat]).length<=Q.Next.length:=a0;omega) c hc _ ?_;rw [x1,yae];exact zkH x2
theorem renP_ok {Q:zac} (R:zrc Q) (hi:1<=Q.Inputs) (hn:Q.Next.length<=4096) (ho:∀ c a,c∈ordP Q->a<Q.Inputs.toNat->gx Q.Next c a≠-1->0<=gx Q.Out c a∧gx Q.Out c a<=1048576):zda (renP Q):=by
 obtain ⟨nums,_,A⟩:=zch R;have a2:=A.le
 have a0:0<(ordP Q).length:=by
  have:=(zqk (fun c=>(Q.Next[c]?).getD []) (Q.Next.length+1) 0 [Q.Start.toNat]).length_le;exact this
 unfold renP;refine ⟨hi,R.i2,by simp only [zkK];exact a0,by simp only [zkK];omega,by simp only [zkK];omega,by simp only [zkK],fun s hs=>?_⟩;simp only [zkK] at hs ⊢;have hx:=get_at hs;have hc:(ordP Q)[s]∈ordP Q:=ya2 hs;refine ⟨zle Q (ordP Q) (ordP Q)[s],znl Q (ordP Q)[s],by rw [yaf,hx];rfl,by rw [yaf,hx];rfl,?_,?_,fun a t o h1 h2=>?_⟩
 ·unfold zle;rw [zkK,ybz];omega
 ·unfold znl;rw [zkK,ybz];omega
 ·unfold zle at h1;unfold znl at h2;rw [yaf] at h1 h2;by_cases ha:a<Q.Inputs.toNat
  ·rw [ybh ha] at h1 h2;have h1:numT (ordP Q) (gx Q.Next (ordP Q)[s] a)=t:=by injection h1
   have h2:(if gx Q.Next (ordP Q)[s] a=-1 then (-1:Int) else gx Q.Out (ordP Q)[s] a)=o:=by injection h2
   rw [<- h1,<- h2];unfold numT;by_cases t0:gx Q.Next (ordP Q)[s] a=-1
   ·rw [if_neg (fun g=>g.1 t0),if_pos t0];omega
   ·have hm:=(zgx R hc ha).resolve_left t0;have a3:=ybj hm;obtain ⟨o1,o2⟩:=ho _ a hc ha t0;rw [if_pos ⟨t0,hm⟩,if_neg t0];omega
  ·rw [yaq (by rw [ybz];omega)] at h1;cases h1
end
section
section
variable {p:zac}
def zmk (p:zac) (red:List Bool) (r a b:Nat):Prop:=red[r]?=some true∧pnx p r a=(↑b:Int)∧red[b]?=some false
def BestI (p:zac) (red:List Bool) (r k B:Nat):Prop:=B<=p.Next.length∧(B<p.Next.length->∃ r a,zmk p red r a B)∧∀ r' a b,(r'<r∨(r'=r∧a<k))->zmk p red r' a b->B<=b
theorem loop_s25 (H:zda p) {red:List Bool} (hr:red.length=p.Next.length) {r:Nat} (hrl:r<p.Next.length) (hred:red[r]?=some true) {x:yab} (hx:p.Next[r]?=some x) {B:Nat} (hB:BestI p red r 0 B):∃ B':Nat,iter (fun (s:Int×Nat)=>zcn.s25 red x s.1 s.2) fuel ((↑B:Int),0)=some (↑B':Int)∧BestI p red (r+1) 0 B':=by
 have hi:=H.i2
 have a5:x.length=p.Inputs.toNat:=by
  obtain ⟨x',q1,q2⟩:=H.gn.row r hrl;rw [hx] at q1;injection q1 with q1
  rw [q1,q2]
 have key:=zaw (step:=fun (s:Int×Nat)=>zcn.s25 red x s.1 s.2) (fun s=>s.2<=x.length∧∃ B:Nat,s.1=(↑B:Int)∧BestI p red r s.2 B) (fun s=>x.length-s.2) (fun q=>∃ B':Nat,q=(↑B':Int)∧BestI p red (r+1) 0 B') (fun ⟨b,k⟩ ⟨g1,B,g2,g3⟩=>by
  simp only at g1 g2 g3
  subst g2
  obtain ⟨c1,c2,c3⟩:=g3
  simp only [zcn.s25]
  by_cases h:k<x.length
  ·left
   obtain ⟨n1,n2,n3,n4,n5,x',_,a0,_,a4,_⟩:=H.at hrl (a:=k) (by omega)
   rw [hx] at a0
   injection a0 with a0
   subst a0
   rw [zkB (by omega),zkD,zal a4]
   by_cases t0:pnx p r k=-1
   ·refine ⟨((↑B:Int),k+1),by rw [zkA (fun g=>g t0),zkC,zam,zkC],⟨h,B,rfl,c1,c2,fun r' a b' q1 q2=>?_⟩,by simp only;omega⟩
    by_cases e:r'=r∧a=k
    ·have:=q2.2.1
     rw [e.1,e.2,t0] at this
     omega
    ·exact c3 r' a b' (by simp only at q1;omega) q2
   ·obtain ⟨u,hu⟩:∃ u:Nat,pnx p r k=(↑u:Int):=⟨(pnx p r k).toNat,by omega⟩
    have a3:u<red.length:=by omega
    have a2:=get_at a3
    rw [zkB t0,zkD,zbb (i:=u) hu a2,zam]
    cases hb:red[u] with
    | true =>
     refine ⟨((↑B:Int),k+1),by rw [yb8,zkC],⟨h,B,rfl,c1,c2,fun r' a b' q1 q2=>?_⟩,by simp only;omega⟩
     by_cases e:r'=r∧a=k
     ·obtain ⟨_,m1,m2⟩:=q2
      rw [e.1,e.2,hu] at m1
      have e2:b'=u:=by omega
      rw [e2,a2,hb] at m2
      cases m2
     ·exact c3 r' a b' (by simp only at q1;omega) q2
    | false =>
     refine ⟨((↑(min B u):Int),k+1),?_,⟨h,min B u,rfl,by omega,fun _=>?_,fun r' a b' q1 q2=>?_⟩,by simp only;omega⟩
     ·rw [ycb,zkD,hu,show min (↑B:Int) (↑u:Int)=(↑(min B u):Int) by omega]
     ·rcases ydl B u with q | q
      ·rw [yci q];exact c2 (by omega)
      ·rw [ydd q];exact ⟨r,k,hred,hu,by rw [a2,hb]⟩
     ·by_cases e:r'=r∧a=k
      ·have m1:=q2.2.1
       rw [e.1,e.2,hu] at m1
       omega
      ·have:=c3 r' a b' (by simp only at q1;omega) q2
       omega
  ·right
   have e1:k=x.length:=by omega
   subst e1
   refine ⟨_,by rw [zkA (by omega),zkC],B,rfl,c1,c2,fun r' a b' q1 q2=>?_⟩
   by_cases e:r'=r
   ·have:=(zet H q2.2.1).2.1
    exact c3 r' a b' (.inr ⟨e,by omega⟩) q2
   ·exact c3 r' a b' (.inl (by omega)) q2) fuel ((↑B:Int),0) ⟨yag _,B,rfl,hB⟩ (by have:=zav;simp only;omega)
 obtain ⟨q,e,B',rfl,h⟩:=key;exact ⟨B',e,h⟩
theorem merge_blue_eq (H:zda p) {red:List Bool} (hr:red.length=p.Next.length):∃ B:Nat,zcn p red=some ((↑B:Int),decide (B<p.Next.length))∧B<=p.Next.length∧(B<p.Next.length->∃ r a,zmk p red r a B)∧∀ r a b,zmk p red r a b->B<=b:=by
 have hn:=H.n2
 have key:=zaw (step:=fun (s:Int×Nat)=>zcn.s26 p red s.1 s.2) (fun s=>s.2<=p.Next.length∧∃ B:Nat,s.1=(↑B:Int)∧BestI p red s.2 0 B) (fun s=>p.Next.length-s.2) (fun q=>∃ B':Nat,q=(↑B':Int)∧BestI p red p.Next.length 0 B') (fun ⟨b,r⟩ ⟨g1,B,g2,g3⟩=>by
  simp only at g1 g2 g3
  subst g2
  simp only [zcn.s26]
  by_cases h:r<p.Next.length
  ·left
   have hx:=get_at (l:=red) (i:=r) (by omega)
   rw [zkB (by omega),zkD,zal hx]
   cases hb:red[r] with
   | false =>
    refine ⟨((↑B:Int),r+1),by rw [ycb,zkD,zam],⟨h,B,rfl,g3.1,g3.2.1,fun r' a b' q1 q2=>?_⟩,by simp only;omega⟩
    by_cases e:r'=r
    ·have:=q2.1
     rw [e,hx,hb] at this
     cases this
    ·exact g3.2.2 r' a b' (.inl (by simp only at q1;omega)) q2
   | true =>
    obtain ⟨x,x1,x2⟩:=H.gn.row r h
    obtain ⟨B',e1,e2⟩:=loop_s25 H hr h (by rw [hx,hb]) x1 g3
    exact ⟨((↑B':Int),r+1),by rw [yb8,zkC,zal x1,e1,zam,zam],⟨h,B',rfl,e2⟩,by simp only;omega⟩
  ·right
   have e1:r=p.Next.length:=by omega
   subst e1
   exact ⟨_,by rw [zkA (by omega),zkC],B,rfl,g3⟩) fuel ((↑red.length:Int),0) ⟨yag _,p.Next.length,by rw [hr],yap _,fun h=>absurd h (ye0 _),fun r' a b' q1 q2=>by omega⟩ (by have:=zav;simp only;omega)
 obtain ⟨q,e,B,rfl,c1,c2,c3⟩:=key;refine ⟨B,?_,c1,c2,fun r a b q=>c3 r a b (.inl ?_) q⟩
 ·unfold zcn;rw [e,zam,hr,show decide ((↑B:Int)<(↑p.Next.length:Int))=decide (B<p.Next.length) from by rw [yeq,decide_eq_true_iff,decide_eq_true_iff];omega]
 ·exact (zet H q.2.1).1
end
end
section
section
variable {p:zac}
end
end
section
inductive RS (p:zac):Nat->Prop
 | st:RS p p.Start.toNat
 | step {q:Nat} (a u:Nat) (h:RS p q) (hu:pnx p q a=(↑u:Int)):RS p u
def Conn (p:zac):Prop:=∀ q,q<p.Next.length->RS p q
theorem zo0 (Q:zac):Q.Start.toNat∈ordP Q:=(zqk (fun c=>(Q.Next[c]?).getD []) (Q.Next.length+1) 0 [Q.Start.toNat]).subset (yar.2 rfl)
theorem zso.mem {p Q:zac} {cl:Nat->Nat} (H:zda p) (K:zso p Q cl) {q:Nat} (h:RS p q):cl q∈ordP Q:=by
 induction h with
 | st =>
  have:=zo0 Q
  rwa [K.st,yah] at this
 | step a u h hu ih =>
  obtain ⟨h1,h2,h3⟩:=zet H hu;rename_i q;have hc:=K.lt q h1;have a2:=K.idem q h1;have a0:pnx p q a≠-1:=by omega
  obtain ⟨r1,r2⟩:=K.row (cl q) a hc h2 a2;by_cases k:gx Q.Next (cl q) a=-1
  ·exact absurd (r1 k q h1 rfl) a0
  ·obtain ⟨e,_⟩:=(r2 k).2 q h1 rfl a0;rw [hu,yah] at e;have:=(zgx K.ren ih (a:=a) (by rw [K.inp];exact h2)).resolve_left k
   rwa [e,yah] at this
theorem zqt (P:Nat->Prop):∀ (x:yab) (L:List Nat),(∀ c,c∈L->P c)->(∀ t,t∈x->t≠-1->P t.toNat)->∀ c,c∈x.foldl addT L->P c
 | [],L,h,_,c,hc=>h c hc
 | t::x,L,h,hx,c,hc=>by
  rw [ycu] at hc;refine zqt P x _ (fun d hd=>?_) (fun u hu=>hx u (yay _ hu)) c hc;unfold addT at hd;split at hd
  ·exact h d hd
  ·rename_i g;rcases yak.1 hd with k | k
   ·exact h d k
   ·rw [yar.1 k];exact hx t ybr fun e=>g (.inl e)
theorem zsk (R:Nat->yab) (P:Nat->Prop) (hR:∀ c,P c->∀ t,t∈R c->t≠-1->P t.toNat):∀ (f i:Nat) (L:List Nat),(∀ c,c∈L->P c)->∀ c,c∈bfsL R f i L->P c
 | 0,_,L,h,c,hc=>h c hc
 | f+1,i,L,h,c,hc=>by
  unfold bfsL at hc;cases e:L[i]? with
  | none =>
   rw [e] at hc;exact h c hc
  | some d =>
   rw [e] at hc;exact zsk R P hR f (i+1) _ (zqt P _ _ h (hR d (h d (zkH e)))) c hc
theorem renP_conn {Q:zac} (R:zrc Q):Conn (renP Q):=by
 obtain ⟨nums,_,A⟩:=zch R
 have a3:∀ c a,c∈ordP Q->a<Q.Inputs.toNat->gx Q.Next c a≠-1->pnx (renP Q) ((ordP Q).idxOf c) a=(↑((ordP Q).idxOf (gx Q.Next c a).toNat):Int):=fun c a hc ha h=>by
  have hm:=(zgx R hc ha).resolve_left h;have a2:=ybj hc;unfold pnx renP;rw [yaf,get_at a2,yal,yae,yco a2];unfold zle;rw [yaf,ybh ha,yal,yae];unfold numT;rw [if_pos ⟨h,hm⟩]
 have h0:(ordP Q).idxOf Q.Start.toNat=0:=by
  obtain ⟨T,hT⟩:=zqk (fun c=>(Q.Next[c]?).getD []) (Q.Next.length+1) 0 [Q.Start.toNat];unfold ordP;rw [<- hT];simp
 have key:∀ c,c∈ordP Q->c∈ordP Q∧RS (renP Q) ((ordP Q).idxOf c):=by
  refine zsk (fun c=>(Q.Next[c]?).getD []) (fun c=>c∈ordP Q∧RS (renP Q) ((ordP Q).idxOf c)) (fun c hc t ht t0=>?_) (Q.Next.length+1) 0 [Q.Start.toNat] fun c hc=>?_
  ·obtain ⟨h1,h2⟩:=hc;obtain ⟨x,x1,x2⟩:=R.gn.row c (A.lt c h1);simp only [x1,yae] at ht;obtain ⟨a,ha,a4⟩:=yb3.1 ht
   have hg:gx Q.Next c a=t:=by
    unfold gx;rw [x1,yae,get_at ha,yae,a4]
   have a0:gx Q.Next c a≠-1:=by rw [hg];exact t0
   have hm:=(zgx R h1 (a:=a) (by omega)).resolve_left a0;have hp:=a3 c a h1 (by omega) a0;rw [hg] at hm hp;exact ⟨hm,.step a _ h2 hp⟩
  ·rw [yar.1 hc];refine ⟨zo0 Q,?_⟩;rw [h0];exact .st
 intro s hs
 have hs:s<(ordP Q).length:=by
  unfold renP at hs;simpa using hs
 have h1:=(key (ordP Q)[s] (ya2 hs)).2
 rwa [A.nd.idxOf_getElem s hs] at h1
end
section
section
variable {p:zac}
end
end
section
theorem least_or (P:Nat->Prop):∀ k:Nat,(∀ r,r<k->¬ P r)∨∃ r0,r0<k∧P r0∧∀ r,r<r0->¬ P r
 | 0=>.inl fun r h=>absurd h (ybe _)
 | k+1=>by
  rcases least_or P k with h | ⟨r0,h1,h2⟩
  ·by_cases g:P k
   ·exact .inr ⟨k,yc4 _,g,h⟩
   ·exact .inl fun r hr=>by
     by_cases e:r=k
     ·rw [e];exact g
     ·exact h r (by omega)
  ·exact .inr ⟨r0,by omega,h2⟩
section
variable {p:zac}
end
end
section
def zr2 (red:List Bool):Nat:=red.countP fun b=>!b
theorem whites_set {red:List Bool}:∀ {b:Nat},red[b]?=some false->zr2 (red.set b true)<zr2 red:=by
 induction red with
 | nil=>intro b h;cases h
 | cons x red ih =>
  intro b h;cases b with
  | zero =>
   have h:x=false:=by injection h
   subst h;unfold zr2;simp
  | succ b =>
   have h:=ih (b:=b) h;unfold zr2 at h ⊢;rw [List.set_cons_succ,yek,yek];omega
structure LrnI (p:zac) (red:List Bool):Prop where
 ok:zda p
 con:Conn p
 len:red.length=p.Next.length
end
section
def kids (R:Nat->yab) (c t:Nat):Prop:=(↑t:Int)∈R c
section
variable {R:Nat->yab} {lt:Nat->Nat->Prop} {st:Nat}
theorem ztz {c:Nat} (hrow:∀ (i j:Nat) (u v:Nat),i<j->(R c)[i]?=some (↑u:Int)->(R c)[j]?=some (↑v:Int)->lt u v) (hrng:∀ t,t∈R c->t=-1∨0<=t) {L:List Nat} (hL:L.Pairwise lt) (hk:∀ w t,w∈L->kids R c t->lt w t) :
  ∀ k,k<=(R c).length->(((R c).take k).foldl addT L).Pairwise lt∧∀ w,w∈((R c).take k).foldl addT L->w∈L∨∃ i,i<k∧(R c)[i]?=some (↑w:Int)
 | 0,_=>by
  rw [yeb];exact ⟨hL,fun w h=>.inl h⟩
 | k+1,hk1=>by
  obtain ⟨h1,h2⟩:=ztz hrow hrng hL hk k (by omega);have hx:=get_at (l:=R c) (i:=k) (by omega);rw [ycq (by omega),yei];generalize ((R c).take k).foldl addT L=A at h1 h2;show (addT A (R c)[k]).Pairwise lt∧∀ w,w∈addT A (R c)[k]->_;have hkeep:∀ w,w∈A->w∈L∨∃ i,i<k+1∧(R c)[i]?=some (↑w:Int):=fun w h=>(h2 w h).elim .inl fun ⟨i,q1,q2⟩=>.inr ⟨i,by omega,q2⟩;unfold addT;split
  ·exact ⟨h1,hkeep⟩
  ·rename_i g;have hne:(R c)[k]≠-1:=fun e=>g (.inl e);have hge:0<=(R c)[k]:=(hrng _ (ya2 _)).resolve_left hne;have hto:(↑(R c)[k].toNat:Int)=(R c)[k]:=by omega
   refine ⟨yet.2 ⟨h1,by simp,fun u hu v hv=>?_⟩,fun w hw=>?_⟩
   ·rw [yar.1 hv];rcases h2 u hu with q | ⟨i,q1,q2⟩
    ·exact hk u _ q (by unfold kids;rw [hto];exact ya2 _)
    ·exact hrow i k u _ q1 q2 (by rw [hto];exact hx)
   ·rcases yak.1 hw with q | q
    ·exact hkeep w q
    ·refine .inr ⟨k,yc4 _,?_⟩;rw [yar.1 q,hto];exact hx
theorem zts (hrow:∀ (c i j u v:Nat),i<j->(R c)[i]?=some (↑u:Int)->(R c)[j]?=some (↑v:Int)->lt u v) (hrng:∀ c t,t∈R c->t=-1∨0<=t) (hst:∀ c t,kids R c t->lt st t) (hch:∀ u v c d,lt u v->kids R u c->kids R v d->lt c d) :
  ∀ (f i:Nat) (L:List Nat),L.Pairwise lt->(∀ w,w∈L->w=st∨∃ j u,j<i∧L[j]?=some u∧kids R u w)->(bfsL R f i L).Pairwise lt
 | 0,_,L,h1,_=>h1
 | f+1,i,L,h1,h2=>by
  unfold bfsL;cases e:L[i]? with
  | none=>exact h1
  | some c =>
   obtain ⟨hi,hc⟩:=zkI.1 e
   obtain ⟨q1,q2⟩:=ztz (c:=c) (fun i j u v=>hrow c i j u v) (hrng c) h1 (fun w t hw ht=>by
    rcases h2 w hw with h | ⟨j,u,j1,j2,j3⟩
    ·rw [h];exact hst c t ht
    ·obtain ⟨hj,hu⟩:=zkI.1 j2
     have:=(yb1.1 h1) j i hj hi j1
     rw [hu,hc] at this
     exact hch u c w t this j3 ht) (R c).length (yap _)
   rw [ybp] at q1 q2;refine zts hrow hrng hst hch f (i+1) _ q1 fun w hw=>?_
   have hget:∀ (j u:Nat),L[j]?=some u->((R c).foldl addT L)[j]?=some u:=fun j u h=>by
    have h3:=zks (R c) L;generalize (R c).foldl addT L=A at h3;obtain ⟨T,rfl⟩:=h3;rw [yan (zkI.1 h).1];exact h
   rcases q2 w hw with h | ⟨k,_,hk⟩
   ·rcases h2 w h with g | ⟨j,u,j1,j2,j3⟩
    ·exact .inl g
    ·exact .inr ⟨j,u,by omega,hget j u j2,j3⟩
   ·exact .inr ⟨i,c,yc4 _,hget i c e,zkH hk⟩
end
end
section
theorem zkz {W:yaa} (hn:W.Nodup) {i:Nat} {w:yab} (h:W[i]?=some w):W.idxOf w=i:=by
 obtain ⟨hi,e⟩:=zkI.1 h;have hm:w∈W:=zkH h;have a0:=ybj hm;refine (yel (h₀:=a0) (h₁:=hi) hn).1 ?_;rw [yco a0,e]
theorem zmo {W:yaa} {w:yab} (h:w∈W):W[W.idxOf w]?=some w:=by
 have a0:=ybj h;rw [get_at a0,yco a0]
structure zh1 (W:yaa) (I:Nat) (D:yab->Prop) (ov:yab->Int) (N O:yaa):Prop where
 gn:Grid W.length I N
 go:Grid W.length I O
 yes:∀ q (a:Nat) w,W[q]?=some w->a<I->D (w++[(↑a:Int)])->gx N q a=(↑(W.idxOf (w++[(↑a:Int)])):Int)∧gx O q a=ov (w++[(↑a:Int)])
 no:∀ q (a:Nat) w,W[q]?=some w->a<I->¬ D (w++[(↑a:Int)])->gx N q a=-1∧gx O q a=-1
theorem zh1.congr {W:yaa} {I:Nat} {D D':yab->Prop} {ov:yab->Int} {N O:yaa} (T:zh1 W I D ov N O) (h:∀ w∈W,∀ a:Nat,a<I->(D (w++[(↑a:Int)])↔D' (w++[(↑a:Int)]))):zh1 W I D' ov N O :=
 ⟨T.gn,T.go,fun q a w hw ha hd=>T.yes q a w hw ha ((h w (zkH hw) a ha).2 hd),fun q a w hw ha hd=>T.no q a w hw ha fun g=>hd ((h w (zkH hw) a ha).1 g)⟩
theorem zh1.put {W:yaa} {I:Nat} {D:yab->Prop} {ov:yab->Int} {N O:yaa} (T:zh1 W I D ov N O) (hnd:W.Nodup) {q a:Nat} {w x y:yab} (hw:W[q]?=some w) (ha:a<I) (hx:N[q]?=some x) (hy:O[q]?=some y) :
  zh1 W I (fun v=>D v∨v=w++[(↑a:Int)]) ov (N.set q (x.set a (↑(W.idxOf (w++[(↑a:Int)])):Int))) (O.set q (y.set a (ov (w++[(↑a:Int)])))):=by
 have hq:q<W.length:=(zkI.1 hw).1;obtain ⟨g1,g2⟩:=T.gn.put hq ha hx (↑(W.idxOf (w++[(↑a:Int)])):Int);obtain ⟨k1,k2⟩:=T.go.put hq ha hy (ov (w++[(↑a:Int)]))
 have a4:∀ (q' b:Nat) (w':yab),W[q']?=some w'->w'++[(↑b:Int)]=w++[(↑a:Int)]->q'=q∧b=a:=fun q' b w' a0 e=>by
  obtain ⟨e1,e2⟩:=List.append_inj' e rfl;subst e1;have h1:=zkz hnd a0;have h2:=zkz hnd hw;refine ⟨by omega,?_⟩;injection e2 with e2 _
  omega
 refine ⟨g1,k1,fun q' b w' a0 hb hd=>?_,fun q' b w' a0 hb hd=>?_⟩
 ·have a3:q'<W.length:=(zkI.1 a0).1;rw [g2 q' b a3 hb,k2 q' b a3 hb];by_cases e:w'++[(↑b:Int)]=w++[(↑a:Int)]
  ·obtain ⟨e1,e2⟩:=a4 q' b w' a0 e;rw [if_pos ⟨e1,e2⟩,if_pos ⟨e1,e2⟩,e];exact ⟨rfl,rfl⟩
  ·have a2:¬ (q'=q∧b=a):=fun ⟨e1,e2⟩=>e (by
    subst e1;subst e2
    rw [hw] at a0
    injection a0 with a0
    rw [a0])
   rw [if_neg a2,if_neg a2];exact T.yes q' b w' a0 hb (hd.resolve_right e)
 ·have a3:q'<W.length:=(zkI.1 a0).1;rw [g2 q' b a3 hb,k2 q' b a3 hb]
  have a2:¬ (q'=q∧b=a):=fun ⟨e1,e2⟩=>hd (.inr (by
   subst e1;subst e2
   rw [hw] at a0
   injection a0 with a0
   rw [a0]))
  rw [if_neg a2,if_neg a2];exact T.no q' b w' a0 hb fun h=>hd (.inl h)
theorem zh4 {N:yaa} {r:yab} {q:Nat} (h:q<N.length) (a:Nat):gx (N++[r]) q a=gx N q a:=by
 unfold gx;rw [yan h]
theorem zln {N:yaa} {I:Nat} (a:Nat):gx (N++[List.replicate I (-1)]) N.length a=-1:=by
 unfold gx;rw [yax (yap _),ybx];simp only [yec,yae,ybk];split<;>rfl
theorem Grid.snoc {n I:Nat} {N:yaa} (G:Grid n I N):Grid (n+1) I (N++[List.replicate I (-1)]):=by
 have hl:=G.len;refine ⟨by rw [zkJ,hl];rfl,fun q hq=>?_⟩;by_cases h:q<n
 ·rw [yan (by omega)];exact G.row q h
 ·have e:q=N.length:=by omega
  rw [e,yax (yap _),ybx];exact ⟨_,rfl,yas⟩
theorem zh1.grow {W:yaa} {I:Nat} {D:yab->Prop} {ov:yab->Int} {N O:yaa} (T:zh1 W I D ov N O) {v:yab} (hD:∀ u,D u->u∈W) (hv:∀ a:Nat,¬ D (v++[(↑a:Int)])) :
  zh1 (W++[v]) I D ov (N++[List.replicate I (-1)]) (O++[List.replicate I (-1)]):=by
 have l1:=T.gn.len;have l2:=T.go.len;have a0:(W++[v]).length=W.length+1:=by rw [zkJ];rfl
 refine ⟨a0 ▸ T.gn.snoc,a0 ▸ T.go.snoc,fun q a w hw ha hd=>?_,fun q a w hw ha hd=>?_⟩
 ·have hq:q<W.length:=by
   rcases yat q W.length with h | h
   ·exact h
   ·rw [yax h] at hw
    have:v=w:=by
     obtain ⟨h1,h2⟩:=zkI.1 hw;simp only [ya6] at h1;have e:q-W.length=0:=by omega
     simpa [e] using h2
    subst this;exact absurd hd (hv a)
  rw [yan hq] at hw;rw [zh4 (by omega),zh4 (by omega),yeh,if_pos (hD _ hd)];exact T.yes q a w hw ha hd
 ·rcases yat q W.length with h | h
  ·rw [yan h] at hw;rw [zh4 (by omega),zh4 (by omega)];exact T.no q a w hw ha hd
  ·obtain ⟨h1,h2⟩:=zkI.1 hw;have e:q=W.length:=by omega
   constructor
   ·rw [e,<- l1];exact zln a
   ·rw [e,<- l2];exact zln a
theorem zh1.start {I:Nat} {ov:yab->Int}:zh1 [[]] I (fun v=>v∈[([]:yab)]) ov [List.replicate I (-1)] [List.replicate I (-1)]:=by
 have g:Grid 1 I [List.replicate I (-1:Int)]:=⟨rfl,fun q hq=>by
  have e:q=0:=by omega
  subst e
  exact ⟨_,rfl,yas⟩⟩
 refine ⟨g,g,fun q a w hw ha hd=>?_,fun q a w hw ha hd=>?_⟩
 ·rw [yar] at hd;exact absurd hd (by simp)
 ·have h1:=(zkI.1 hw).1;have e:q=0:=by simp only [ya6] at h1;omega
  subst e;have:=zln (N:=[]) (I:=I) a;exact ⟨this,this⟩
structure Stem (W:yaa):Prop where
 nd:W.Nodup
 hd:W[0]?=some []
 pc:∀ w x,w++[x]∈W->w∈W
theorem Stem.grow {W:yaa} (H:Stem W) {w:yab} {x:Int} (hw:w∈W) (h:w++[x]∉W):Stem (W++[w++[x]]):=by
 refine ⟨ybi.2 ⟨H.nd,by simp,fun u hu v hv e=>?_⟩,?_,fun u y hu=>?_⟩
 ·rw [yar.1 hv] at e;exact h (e ▸ hu)
 ·have:=(zkI.1 H.hd).1;rw [yan this];exact H.hd
 ·rcases yak.1 hu with g | g
  ·exact yam _ (H.pc u y g)
  ·obtain ⟨e,_⟩:=List.append_inj' (yar.1 g) rfl;exact yam _ (e ▸ hw)
end
section
theorem common_ge:∀ (u a b:yab),u <+: a->u <+: b->u.length<=za7 a b
 | [],_,_,_,_=>yag _
 | x::u,[],_,h,_=>by simp at h
 | x::u,_::_,[],_,h=>by simp at h
 | x::u,y::a,z::b,h1,h2=>by
  rw [List.cons_prefix_cons] at h1 h2;obtain ⟨rfl,h1⟩:=h1;obtain ⟨rfl,h2⟩:=h2;have:=common_ge u a b h1 h2;simp only [za7,if_pos,zkL];omega
def ovT (l:List zab) (w:yab):Int:=((l.find? fun t=>decide (w <+: t.In)).map fun t=>(t.Out[w.length-1]?).getD 0).getD 0
theorem agree_at {a b:zab} (h:Agree a b) {u:yab} (h1:u <+: a.In) (h2:u <+: b.In) {k:Nat} (hk:k<u.length):a.Out[k]?=b.Out[k]?:=by
 have hc:=common_ge u a.In b.In h1 h2;unfold Agree at h;have:=congrArg (fun l=>l[k]?) h;simp only [List.getElem?_take_of_lt (show k<za7 a.In b.In by omega)] at this;exact this
theorem ovT_eq {o:zar} (hv:zit o) {t:zab} (ht:t∈o.Traces) {k:Nat} (hk:k<t.In.length):t.Out[k]?=some (ovT o.Traces (t.In.take (k+1))):=by
 have a0:(t.In.take (k+1)).length=k+1:=by rw [yaz];omega
 have hl:=(hv.prop t ht).1.2.1;unfold ovT;cases e:o.Traces.find? fun u=>decide (t.In.take (k+1) <+: u.In) with
 | none=>exact absurd (yd1 _ _) (by simpa using List.find?_eq_none.1 e t ht)
 | some u =>
  have hu:u∈o.Traces:=List.mem_of_find?_eq_some e;have hp:t.In.take (k+1) <+: u.In:=by simpa using List.find?_some e
  have hA:Agree t u:=by
   by_cases g:t=u
   ·rw [g];rfl
   ·obtain ⟨i,hi,rfl⟩:=ybl ht;obtain ⟨j,hj,rfl⟩:=ybl hu;rcases yc0 i j with h | h | h
    ·exact (hv.apart i j _ _ h (get_at hi) (get_at hj)).2
    ·subst h;exact absurd rfl g
    ·exact (hv.apart j i _ _ h (get_at hj) (get_at hi)).2.symm
  have:=agree_at hA (yd1 _ _) hp (k:=k) (by omega);rw [yal,yae,a0,yd6,<- this,get_at (by omega),yae]
def allP (o:zar):yaa:=preL ([]::o.Traces.map fun t=>t.In)
theorem zh3 {x w:yab}:w∈zjp x↔w <+: x:=by
 unfold zjp;rw [yao];constructor
 ·rintro ⟨k,_,rfl⟩;exact yd1 _ _
 ·intro h;refine ⟨w.length,ya8.2 (by have:=h.length_le;omega),(yee.1 h).symm⟩
theorem zff {o:zar} {w:yab}:w∈allP o↔w=[]∨∃ t∈o.Traces,w <+: t.In:=by
 unfold allP preL;rw [yck];constructor
 ·rintro ⟨x,hx,hw⟩;rcases yba.1 hx with rfl | hx
  ·exact .inl (List.prefix_nil.1 (zh3.1 hw))
  ·obtain ⟨t,ht,rfl⟩:=yao.1 hx;exact .inr ⟨t,ht,zh3.1 hw⟩
 ·rintro (rfl | ⟨t,ht,hw⟩)
  ·exact ⟨[],ybr,zh3.2 (ybu _)⟩
  ·exact ⟨t.In,yay _ (yao.2 ⟨t,ht,rfl⟩),zh3.2 hw⟩
structure TrI (o:zar) (W:yaa) (N O:yaa):Prop where
 st:Stem W
 tm:zh1 W o.Inputs.toNat (fun v=>v∈W) (ovT o.Traces) N O
 sub:∀ v∈W,v∈allP o
theorem TrI.le {o:zar} {W N O:yaa} (K:TrI o W N O):W.length<=(allP o).length:=zhp K.st.nd K.sub
theorem TrI.take {o:zar} {W N O:yaa} (K:TrI o W N O) {w:yab} (h:w∈W):∀ n k,k+n=w.length->w.take k∈W
 | 0,k,e=>by rw [yb6 (by omega)];exact h
 | n+1,k,e=>by
  have:=K.take h n (k+1) (by omega);rw [ycq (by omega)] at this;exact K.st.pc _ _ this
theorem tree_s54 {o:zar} (hv:zit o) (hP:(allP o).length<=4090) {t:zab} (ht:t∈o.Traces) {W N O:yaa} (K:TrI o W N O) {q k:Nat} (hk:k<t.In.length) (hq:W[q]?=some (t.In.take k)) :
  ∃ (W' N' O':yaa) (q':Nat),zbf.s54 o t N O (↑q:Int) k=some (.inl (N',O',(↑q':Int),k+1))∧TrI o W' N' O'∧W'[q']?=some (t.In.take (k+1))∧∀ v∈W,v∈W':=by
 obtain ⟨i1,i2⟩:=hv.inp;have b4:=K.le;have a6:=(zf1 (hv.prop t ht).1.1).2;have b3:=get_at hk;obtain ⟨c1,c2⟩:=a6 _ (ya2 hk);have hx:=b3;generalize t.In[k]=e at c1 c2 hx;obtain ⟨a,rfl⟩:=yef c1;have ha:a<o.Inputs.toNat:=by omega
 have a0:t.In.take (k+1)=t.In.take k++[(↑a:Int)]:=by
  rw [List.take_add_one,hx];rfl
 have a2:q<W.length:=(zkI.1 hq).1;have lN:=K.tm.gn.len;have lO:=K.tm.go.len;obtain ⟨x,x1,x2,x3⟩:=K.tm.gn.at a2 ha;obtain ⟨y,y1,y2,y3⟩:=K.tm.go.at a2 ha;have a3:=ovT_eq hv ht hk
 have a5:zc0 o.Inputs=some (List.replicate o.Inputs.toNat (-1)):=by
  have:=zid (x:=o.Inputs.toNat) (by omega)
  rwa [ydc (by omega)] at this
 simp only [zbf.s54];rw [zdg hx,zkD,zal hx,zbb rfl x1,zbb rfl x2];by_cases hm:t.In.take k++[(↑a:Int)]∈W
 ·obtain ⟨g1,g2⟩:=K.tm.yes q a _ hq ha hm;rw [zkA (by omega),zkC,zam];simp only [ycd,zbf.k53];rw [zbb rfl x1,zbb rfl x2,g1];refine ⟨W,N,O,_,rfl,K,?_,fun v h=>h⟩;rw [a0];exact zmo hm
 ·obtain ⟨g1,g2⟩:=K.tm.no q a _ hq ha hm;have a7:=K.st.grow (zkH hq) hm;have b2:∀ b:Nat,¬ (t.In.take k++[(↑a:Int)])++[(↑b:Int)]∈W:=fun b h=>hm (K.st.pc _ _ h);have T1:=K.tm.grow (v:=t.In.take k++[(↑a:Int)]) (fun u h=>h) b2;have a9:(W++[t.In.take k++[(↑a:Int)]])[q]?=some (t.In.take k):=by rw [yan a2];exact hq
  have T2:=T1.put a7.nd a9 ha (by rw [yan (by omega)];exact x1) (by rw [yan (by omega)];exact y1)
  have a4:(W++[t.In.take k++[(↑a:Int)]]).idxOf (t.In.take k++[(↑a:Int)])=N.length:=by
   rw [yeh,if_neg hm,lN];simp
  rw [a4,List.set_append_left _ _ (by omega),List.set_append_left _ _ (by omega)] at T2;rw [a0] at a3;rw [zkB g1,zkD,zkA (by omega),zkC,zbb rfl x1,zbb rfl y1,zal a3,zbb rfl x2,zbb rfl y2,a5,zam,zas (by rw [ybo];unfold zaz;simp only [ya6];omega),zam,zas (by rw [ybo];unfold zaz;simp only [ya6];omega),zam];simp only [ycd,zbf.k53,yah];rw [zbb (i:=q) (x:=x.set a (↑N.length:Int)) rfl (by rw [yan (by rw [ybo];omega),ya7 (by omega)]),zbb (i:=a) (x:=(↑N.length:Int)) rfl (ya7 (by omega))];refine ⟨W++[t.In.take k++[(↑a:Int)]],_,_,N.length,rfl,⟨a7,T2.congr fun w hw b hb=>?_,fun v a8=>?_⟩,?_,fun v h=>yam _ h⟩
  ·rw [yak,yar]
  ·rcases yak.1 a8 with h | h
   ·exact K.sub v h
   ·rw [yar.1 h,<- a0];exact zff.2 (.inr ⟨t,ht,yd1 _ _⟩)
  ·rw [lN,a0,yax (yap _),ybx];rfl
theorem tree_loop54 {o:zar} (hv:zit o) (hP:(allP o).length<=4090) {t:zab} (ht:t∈o.Traces) {W N O:yaa} (K:TrI o W N O) :
  ∃ (W' N' O':yaa),iter (fun (s:yaa×yaa×Int×Nat)=>zbf.s54 o t s.1 s.2.1 s.2.2.1 s.2.2.2) fuel (N,O,0,0)=some (.inl (N',O'))∧TrI o W' N' O'∧t.In∈W'∧∀ v∈W,v∈W':=by
 have hl:=(zf1 (hv.prop t ht).1.1).1
 have key:=zaw (step:=fun (s:yaa×yaa×Int×Nat)=>zbf.s54 o t s.1 s.2.1 s.2.2.1 s.2.2.2) (fun s=>∃ (W':yaa) (q:Nat),s.2.2.1=(↑q:Int)∧s.2.2.2<=t.In.length∧W'[q]?=some (t.In.take s.2.2.2)∧TrI o W' s.1 s.2.1∧∀ v∈W,v∈W') (fun s=>t.In.length-s.2.2.2)
  (fun r=>∃ (W' N' O':yaa),r=.inl (N',O')∧TrI o W' N' O'∧t.In∈W'∧∀ v∈W,v∈W') (fun ⟨N,O,s,k⟩ ⟨W1,q,h1,h2,h3,h4,h5⟩=>by
  simp only at h1 h2 h3 h4 h5 ⊢
  subst h1
  by_cases hk:k<t.In.length
  ·obtain ⟨W',N',O',q',e,k1,k2,k3⟩:=tree_s54 hv hP ht h4 hk h3
   exact .inl ⟨_,e,⟨W',q',rfl,hk,k2,k1,fun v hv=>k3 v (h5 v hv)⟩,by simp only;omega⟩
  ·right
   simp only [zbf.s54]
   rw [zkA (by omega),zkC]
   refine ⟨_,rfl,W1,N,O,rfl,h4,?_,h5⟩
   rw [yb6 (by omega)] at h3
   exact zkH h3) fuel (N,O,0,0) ⟨W,0,rfl,yag _,by rw [yeb];exact K.st.hd,K,fun v h=>h⟩ (by have:=zav;simp only;omega)
 obtain ⟨r,e,W',N',O',rfl,q⟩:=key;exact ⟨W',N',O',e,q⟩
theorem tree_loop56 {o:zar} (hv:zit o) (hP:(allP o).length<=4090) :
  ∃ (W N O:yaa),iter (fun (s:yaa×yaa×Nat)=>zbf.s56 o s.1 s.2.1 s.2.2) fuel ([List.replicate o.Inputs.toNat (-1)],[List.replicate o.Inputs.toNat (-1)],0)=some (.inl (N,O))∧TrI o W N O∧∀ v,v∈W↔v∈allP o:=by
 have hn:=hv.num
 have K0:TrI o [[]] [List.replicate o.Inputs.toNat (-1)] [List.replicate o.Inputs.toNat (-1)] :=
  ⟨⟨by simp,rfl,fun w x h=>by simp at h⟩,zh1.start,fun v h=>by
   rw [yar] at h
   exact zff.2 (.inl h)⟩
 have key:=zaw (step:=fun (s:yaa×yaa×Nat)=>zbf.s56 o s.1 s.2.1 s.2.2) (fun s=>∃ W,s.2.2<=o.Traces.length∧TrI o W s.1 s.2.1∧∀ j t,j<s.2.2->o.Traces[j]?=some t->t.In∈W) (fun s=>o.Traces.length-s.2.2)
  (fun r=>∃ (W N O:yaa),r=.inl (N,O)∧TrI o W N O∧∀ t∈o.Traces,t.In∈W) (fun ⟨N,O,i⟩ ⟨W,h1,h2,h3⟩=>by
  simp only at h1 h2 h3 ⊢
  simp only [zbf.s56]
  by_cases hi:i<o.Traces.length
  ·have hx:=get_at hi
   obtain ⟨W',N',O',e,k1,k2,k3⟩:=tree_loop54 hv hP (ya2 hi) h2
   rw [zdg hx,zkD,zal hx,e,zam]
   refine .inl ⟨_,rfl,⟨W',hi,k1,fun j t hj ht=>?_⟩,by simp only;omega⟩
   rcases yat j i with h | h
   ·exact k3 _ (h3 j t h ht)
   ·have ej:j=i:=by simp only at hj;omega
    subst ej
    rw [hx] at ht
    injection ht with ht
    subst ht
    exact k2
  ·rw [zkA (by omega),zkC]
   refine .inr ⟨_,rfl,W,N,O,rfl,h2,fun t ht=>?_⟩
   obtain ⟨j,hj,e⟩:=ybl ht
   exact h3 j t (by omega) (by rw [get_at hj,e])) fuel ([List.replicate o.Inputs.toNat (-1)],[List.replicate o.Inputs.toNat (-1)],0) ⟨[[]],yag _,K0,fun j t hj=>absurd hj (ybe _)⟩ (by have:=zav;simp only;omega)
 obtain ⟨r,e,W,N,O,rfl,K,a0⟩:=key;refine ⟨W,N,O,e,K,fun v=>⟨K.sub v,fun h=>?_⟩⟩;rcases zff.1 h with rfl | ⟨t,ht,hp⟩
 ·exact zkH K.st.hd
 ·have:=K.take (a0 t ht) (t.In.length-v.length) v.length (by have:=hp.length_le;omega)
  rwa [<- yee.1 hp] at this
end
section
theorem zqz:∀ (x y:yab) (a b:Int),x.length=y.length->(lexI x y=-1∨x=y∧a<b)->lexI (x++[a]) (y++[b])=-1
 | [],[],a,b,_,h=>by
  rcases h with h | ⟨_,h⟩
  ·simp [lexI] at h
  ·simp [lexI,h]
 | [],_::_,_,_,h,_=>by simp at h
 | _::_,[],_,_,h,_=>by simp at h
 | u::x,v::y,a,b,hl,h=>by
  have ih:=zqz x y a b (by simpa using hl);simp only [yc5,lexI];by_cases h1:u<v
  ·rw [if_pos h1]
  ·rw [if_neg h1];rcases h with h | ⟨h,h2⟩
   ·simp only [lexI,if_neg h1] at h;by_cases h3:v<u
    ·rw [if_pos h3] at h;exact absurd h (by decide)
    ·rw [if_neg h3] at h ⊢;exact ih (.inl h)
   ·injection h with e1 e2
    rw [if_neg (by omega)];exact ih (.inr ⟨e2,h2⟩)
theorem cmpW_snoc {x y:yab} {a b:Int} (h:cmpW x y=-1∨x=y∧a<b):cmpW (x++[a]) (y++[b])=-1:=by
 unfold cmpW at h ⊢;simp only [zkJ,ya6];by_cases h1:x.length<y.length
 ·rw [if_pos (by omega)]
 ·rcases h with h | ⟨rfl,h⟩
  ·rw [if_neg h1] at h;by_cases h2:y.length<x.length
   ·rw [if_pos h2] at h;exact absurd h (by decide)
   ·rw [if_neg h2] at h;rw [if_neg (by omega),if_neg (by omega)];exact zqz x y a b (by omega) (.inl h)
  ·rw [if_neg (by omega),if_neg (by omega)];exact zqz x x a b rfl (.inr ⟨rfl,h⟩)
def wd (W:yaa) (c:Nat):yab:=(W[c]?).getD []
theorem zrk {W:yaa} {c:Nat} {w:yab} (h:W[c]?=some w):wd W c=w:=by
 unfold wd;rw [h,yae]
section
variable {W N O:yaa} {I:Nat} {ov:yab->Int}
theorem tree_kid (T:zh1 W I (fun v=>v∈W) ov N O) {c i u:Nat} (h:((N[c]?).getD [])[i]?=some (↑u:Int)) :
  c<W.length∧i<I∧W[u]?=some (wd W c++[(↑i:Int)]):=by
 have hl:=T.gn.len
 have hc:c<W.length:=by
  rcases yat c W.length with g | g
  ·exact g
  ·rw [yaq (l:=N) (by omega)] at h;simp at h
 have hi:i<I:=by
  obtain ⟨x,x1,x2⟩:=T.gn.row c hc;rw [x1,yae] at h;have:=(zkI.1 h).1;omega
 refine ⟨hc,hi,?_⟩
 have hg:gx N c i=(↑u:Int):=by
  unfold gx;rw [h,yae]
 have hw:=get_at hc;rw [zrk hw];by_cases d:W[c]++[(↑i:Int)]∈W
 ·have:=(T.yes c i _ hw hi d).1;have e:u=W.idxOf (W[c]++[(↑i:Int)]):=by omega
  rw [e];exact zmo d
 ·have:=(T.no c i _ hw hi d).1;omega
theorem tree_ren (H:Stem W) (T:zh1 W I (fun v=>v∈W) ov N O) (hI:I<=64) (hn:W.length<=1000000):zrc (⟨(↑I:Int),0,N,O⟩:zac):=by
 have hl:=T.gn.len;have h0:=(zkI.1 H.hd).1;refine ⟨by simp,by simp only;omega,by simp only;omega,⟨0,rfl,by simp only;omega⟩,?_,?_,fun q a hq ha=>?_⟩
 ·simp only [yah,hl];exact T.gn
 ·simp only [yah,hl];exact T.go
 ·simp only [yah] at hq ha ⊢;rw [hl] at hq;have hw:=get_at hq;by_cases d:W[q]++[(↑a:Int)]∈W
  ·refine .inr ⟨_,(T.yes q a _ hw ha d).1,?_⟩;rw [hl];exact ybj d
  ·exact .inl (T.no q a _ hw ha d).1
theorem tree_ord (H:Stem W) (T:zh1 W I (fun v=>v∈W) ov N O) (hI:I<=64) (hn:W.length<=1000000) (hlet:∀ w x,w++[x]∈W->∃ a:Nat,x=(↑a:Int)∧a<I) :
  (ordP (⟨(↑I:Int),0,N,O⟩:zac)).map (wd W)=sortW W:=by
 have R:=tree_ren H T hI hn;have hl:=T.gn.len;obtain ⟨nums,_,A⟩:=zch R;have h0:=H.hd
 have a0:∀ {c t:Nat},kids (fun c=>(N[c]?).getD []) c t->∃ i,W[t]?=some (wd W c++[(↑i:Int)]):=fun {c t} h=>by
  obtain ⟨i,hi,e⟩:=ybl h;exact ⟨i,(tree_kid T (by rw [get_at hi,e])).2.2⟩
 have hs:(ordP (⟨(↑I:Int),0,N,O⟩:zac)).Pairwise (fun u v=>cmpW (wd W u) (wd W v)=-1):=by
  unfold ordP;simp only;refine zts (R:=fun c=>(N[c]?).getD []) (lt:=fun u v=>cmpW (wd W u) (wd W v)=-1) (st:=Int.toNat 0) (fun c i j u v a6 h1 h2=>?_) (fun c t ht=>?_) (fun c t ht=>?_) (fun u v c d a4 hu hv=>?_) _ 0 [Int.toNat 0] (by simp) (fun w hw=>.inl (yar.1 hw))
  ·rw [zrk (tree_kid T h1).2.2,zrk (tree_kid T h2).2.2];exact cmpW_snoc (.inr ⟨rfl,by omega⟩)
  ·obtain ⟨i,hi,e⟩:=ybl ht
   have hc:c<N.length:=by
    rcases yat c N.length with g | g
    ·exact g
    ·rw [yaq g] at hi;simp at hi
   have hx:=get_at hc
   have a5:i<I:=by
    obtain ⟨x,x1,x2⟩:=T.gn.row c (by omega);rw [x1] at hi;simp only [yae] at hi;omega
   have hg:gx N c i=t:=by
    unfold gx;rw [get_at (l:=(N[c]?).getD []) hi,yae,e]
   rcases R.rng c i (by simp only;omega) (by simpa using a5) with q | ⟨u,q,_⟩
   ·simp only at q;exact .inl (by omega)
   ·simp only at q;exact .inr (by omega)
  ·obtain ⟨i,hi⟩:=a0 ht;rw [zrk hi,zrk (c:=Int.toNat 0) h0];unfold cmpW;rw [if_pos (by simp)]
  ·obtain ⟨i,hi⟩:=a0 hu;obtain ⟨j,hj⟩:=a0 hv;rw [zrk hi,zrk hj];exact cmpW_snoc (.inl a4)
 have a3:∀ (n:Nat) (w:yab),w.length=n->w∈W->W.idxOf w∈ordP (⟨(↑I:Int),0,N,O⟩:zac):=by
  intro n
  induction n with
  | zero =>
   intro w hw hm;have:w=[]:=yau hw;subst this;rw [zkz H.nd h0];exact zo0 _
  | succ n ih =>
   intro w hw hm;rcases List.eq_nil_or_concat w with rfl | ⟨v,x,rfl⟩
   ·simp at hw
   rw [List.concat_eq_append] at hw hm ⊢;obtain ⟨a,rfl,ha⟩:=hlet v x hm;have hv:=H.pc v _ hm;have h1:=ih v (by simpa using hw) hv;have hy:=(T.yes _ a v (zmo hv) ha hm).1;have h2:=(zgx R h1 (a:=a) (by simpa using ha)).resolve_left (by simp only;omega);simp only [hy,yah] at h2;exact h2
 refine zo6 (ydv.2 hs) (zfq W) fun w=>?_;rw [zb3];constructor
 ·intro h;obtain ⟨c,hc,rfl⟩:=yao.1 h;have a2:c<W.length:=by have:=A.lt c hc;simp only at this;omega
  rw [zrk (get_at a2)];exact ya2 a2
 ·intro h;exact yao.2 ⟨_,a3 _ w rfl h,zrk (zmo h)⟩
theorem tree_sorted (H:Stem W) (T:zh1 W I (fun v=>v∈W) ov N O) (hI:I<=64) (hn:W.length<=1000000) (hlet:∀ w x,w++[x]∈W->∃ a:Nat,x=(↑a:Int)∧a<I) :
  zh1 (sortW W) I (fun v=>v∈sortW W) ov (renP (⟨(↑I:Int),0,N,O⟩:zac)).Next (renP (⟨(↑I:Int),0,N,O⟩:zac)).Out:=by
 have R:=tree_ren H T hI hn;have hl:=T.gn.len;obtain ⟨nums,_,A⟩:=zch R;have a0:=tree_ord H T hI hn hlet
 have a9:(sortW W).Nodup:=(zfq W).imp fun {a b} h e=>by
  rw [e,znz] at h;exact absurd h (by decide)
 have a5:=A.lt;unfold renP;simp only;generalize ordP (⟨(↑I:Int),0,N,O⟩:zac)=F at a0 a5;have b2:F.length=(sortW W).length:=by rw [<- a0,zkK]
 have hF:∀ (q:Nat) (w:yab),(sortW W)[q]?=some w->∃ c,F[q]?=some c∧W[c]?=some w:=fun q w h=>by
  rw [<- a0,yaf] at h;cases e:F[q]? with
  | none=>rw [e] at h;simp at h
  | some c =>
   rw [e] at h;simp only [yal,zkF] at h;have hc:=a5 c (zkH e);simp only at hc;have hw:=get_at (l:=W) (i:=c) (by omega);rw [zrk hw] at h;exact ⟨c,rfl,by rw [hw,h]⟩
 have a6:∀ v,v∈W->F.idxOf (W.idxOf v)=(sortW W).idxOf v∧W.idxOf v∈F:=fun v hv=>by
  have hm:v∈sortW W:=(zb3 W v).2 hv;obtain ⟨c,h1,h2⟩:=hF _ v (zmo hm);have hc:=zkz H.nd h2;have a4:W.idxOf v∈F:=by rw [hc];exact zkH h1
  refine ⟨?_,a4⟩;have a7:=ybj a4
  have h3:(sortW W)[F.idxOf (W.idxOf v)]?=some v:=by
   rw [<- a0,yaf,get_at a7,yco a7,yal,zrk (zmo hv)]
  exact (zkz a9 h3).symm
 have a3:∀ (f:Nat->yab) (g:Nat->Nat->Int),(∀ c,f c=(List.range I).map (g c))->∀ q a c,F[q]?=some c->a<I->gx (F.map f) q a=g c a:=fun f g hf q a c hq ha=>by
  unfold gx;rw [yaf,hq,yal,yae,hf,yaf,ybh ha,yal,yae]
 have a2:∀ (f:Nat->yab),(∀ c,(f c).length=I)->Grid (sortW W).length I (F.map f):=fun f hf=>⟨by rw [zkK,b2],fun q hq=>by
  rw [yaf,get_at (l:=F) (by omega),yal]
  exact ⟨_,rfl,hf _⟩⟩
 refine ⟨a2 _ fun c=>by unfold zle;simp,a2 _ fun c=>by unfold znl;simp,fun q a w hw ha hd=>?_,fun q a w hw ha hd=>?_⟩
 ·obtain ⟨c,h1,h2⟩:=hF q w hw;have a8:=(zb3 W _).1 hd;obtain ⟨y1,y2⟩:=T.yes c a w h2 ha a8;obtain ⟨z1,z2⟩:=a6 _ a8;rw [a3 _ (fun c a=>numT F (gx N c a)) (fun c=>by unfold zle;simp) q a c h1 ha,a3 _ (fun c a=>if gx N c a=-1 then (-1:Int) else gx O c a) (fun c=>by unfold znl;simp) q a c h1 ha];rw [y1,y2];refine ⟨?_,if_neg (by omega)⟩;unfold numT;rw [if_pos ⟨by omega,by rw [yah];exact z2⟩,yah,z1]
 ·obtain ⟨c,h1,h2⟩:=hF q w hw;obtain ⟨y1,y2⟩:=T.no c a w h2 ha fun h=>hd ((zb3 W _).2 h);rw [a3 _ (fun c a=>numT F (gx N c a)) (fun c=>by unfold zle;simp) q a c h1 ha,a3 _ (fun c a=>if gx N c a=-1 then (-1:Int) else gx O c a) (fun c=>by unfold znl;simp) q a c h1 ha];rw [y1];refine ⟨?_,if_pos rfl⟩;unfold numT;rw [if_neg fun h=>h.1 rfl]
end
end
section
section
variable {o:zar} {S:yaa}
end
theorem ovT_rng {o:zar} (hv:zit o) {v:yab} {x:Int} (h:v++[x]∈allP o):(∃ a:Nat,x=(↑a:Int)∧a<o.Inputs.toNat)∧0<=ovT o.Traces (v++[x])∧ovT o.Traces (v++[x])<=1048576:=by
 obtain ⟨i1,i2⟩:=hv.inp;obtain ⟨t,ht,hp⟩:=(zff.1 h).resolve_left (by simp);have a0:=hp.length_le;rw [zkJ,ya6] at a0;have he:=yee.1 hp;rw [zkJ,ya6] at he;have hx:x∈t.In:=hp.subset (yaj _ (yar.2 rfl));obtain ⟨c1,c2⟩:=(zf1 (hv.prop t ht).1.1).2 x hx;have a2:=ovT_eq hv ht (k:=v.length) (by omega);rw [<- he] at a2;obtain ⟨o1,o2⟩:=(hv.prop t ht).1.2.2 _ (zkH a2);exact ⟨⟨x.toNat,by omega,by omega⟩,o1,o2⟩
end
section
def red0 (p:zac):List Bool:=List.set (List.replicate p.Next.length false) 0 true
theorem learn_start {P:zac} (H:zda P) (G:Conn P):LrnI P (red0 P):=⟨H,G,by unfold red0;rw [ybo,yas]⟩
end
section
def Goes (p:zac):Nat->yab->yab->Nat->Prop
 | q,[],y,c=>y=[]∧c=q
 | q,x::w,y,c=>∃ (a u:Nat) (y':yab),x=(↑a:Int)∧pnx p q a=(↑u:Int)∧y=pot p q a::y'∧Goes p u w y' c
theorem Goes.snoc {p:zac}:∀ {w y:yab} {q c:Nat},Goes p q w y c->∀ {a u:Nat},pnx p c a=(↑u:Int)->Goes p q (w++[(↑a:Int)]) (y++[pot p c a]) u
 | [],y,q,c,h,a,u,hu=>by
  obtain ⟨rfl,rfl⟩:=h;exact ⟨a,u,[],rfl,hu,rfl,rfl,rfl⟩
 | x::w,y,q,c,h,a,u,hu=>by
  obtain ⟨b,v,y',h1,h2,rfl,h4⟩:=h;exact ⟨b,v,_,h1,h2,rfl,h4.snoc hu⟩
theorem Goes.split {p:zac}:∀ {w w' y:yab} {q d:Nat},Goes p q (w++w') y d->∃ c y1 y2,y=y1++y2∧Goes p q w y1 c∧Goes p c w' y2 d
 | [],w',y,q,d,h=>⟨q,[],y,rfl,⟨rfl,rfl⟩,h⟩
 | x::w,w',y,q,d,h=>by
  obtain ⟨b,v,z,h1,h2,rfl,h4⟩:=h;obtain ⟨c,y1,y2,rfl,h5,h6⟩:=h4.split;exact ⟨c,_,y2,rfl,⟨b,v,y1,h1,h2,rfl,h5⟩,h6⟩
theorem Goes.det {p:zac}:∀ {w y y':yab} {q c c':Nat},Goes p q w y c->Goes p q w y' c'->y=y'∧c=c'
 | [],y,y',q,c,c',h,k=>by
  obtain ⟨rfl,rfl⟩:=h;obtain ⟨rfl,rfl⟩:=k;exact ⟨rfl,rfl⟩
 | x::w,y,y',q,c,c',h,k=>by
  obtain ⟨b,v,z,h1,h2,rfl,h4⟩:=h;obtain ⟨b',v',z',k1,k2,rfl,k4⟩:=k;have e:b=b':=by omega
  subst e;have e:v=v':=by omega
  subst e;obtain ⟨rfl,rfl⟩:=h4.det k4;exact ⟨rfl,rfl⟩
theorem Goes.rs {p:zac}:∀ {w y:yab} {q c:Nat},RS p q->Goes p q w y c->RS p c
 | [],y,q,c,hq,h=>by rw [h.2];exact hq
 | x::w,y,q,c,hq,h=>by
  obtain ⟨b,v,z,h1,h2,rfl,h4⟩:=h;exact h4.rs (.step b v hq h2)
structure Hom (p p':zac) (h:Nat->Nat):Prop where
 inp:p'.Inputs=p.Inputs
 st:p'.Start.toNat=h p.Start.toNat
 mv:∀ q a (u:Nat),RS p q->pnx p q a=(↑u:Int)->pnx p' (h q) a=(↑(h u):Int)∧pot p' (h q) a=pot p q a
theorem Hom.goes {p p':zac} {h:Nat->Nat} (K:Hom p p' h):∀ {w y:yab} {q c:Nat},RS p q->Goes p q w y c->Goes p' (h q) w y (h c)
 | [],y,q,c,hq,g=>by
  obtain ⟨rfl,rfl⟩:=g;exact ⟨rfl,rfl⟩
 | x::w,y,q,c,hq,g=>by
  obtain ⟨b,v,z,h1,h2,rfl,h4⟩:=g;obtain ⟨k1,k2⟩:=K.mv q b v hq h2;exact ⟨b,h v,z,h1,k1,by rw [k2],K.goes (.step b v hq h2) h4⟩
theorem renP_at {Q:zac} (R:zrc Q) {c a:Nat} (hc:c∈ordP Q) (ha:a<Q.Inputs.toNat) (h:gx Q.Next c a≠-1):pnx (renP Q) ((ordP Q).idxOf c) a=(↑((ordP Q).idxOf (gx Q.Next c a).toNat):Int)∧pot (renP Q) ((ordP Q).idxOf c) a=gx Q.Out c a:=by
 have hm:=(zgx R hc ha).resolve_left h;have a0:=ybj hc;constructor
 ·unfold pnx renP;rw [yaf,get_at a0,yal,yae,yco a0];unfold zle;rw [yaf,ybh ha,yal,yae];unfold numT;rw [if_pos ⟨h,hm⟩]
 ·unfold pot renP;rw [yaf,get_at a0,yal,yae,yco a0];unfold znl;rw [yaf,ybh ha,yal,yae,if_neg h]
theorem fold_hom {p Q:zac} {cl:Nat->Nat} (H:zda p) (K:zso p Q cl):Hom p (renP Q) fun q=>(ordP Q).idxOf (cl q):=by
 refine ⟨K.inp,?_,fun q a u hq hu=>?_⟩
 ·have h0:(ordP Q).idxOf Q.Start.toNat=0:=by
   obtain ⟨T,hT⟩:=zqk (fun c=>(Q.Next[c]?).getD []) (Q.Next.length+1) 0 [Q.Start.toNat];unfold ordP;rw [<- hT];simp
  rw [K.st,yah] at h0;rw [h0];rfl
 ·obtain ⟨h1,h2,h3⟩:=zet H hu;have hc:=K.lt q h1;obtain ⟨r1,r2⟩:=K.row (cl q) a hc h2 (K.idem q h1);have a0:pnx p q a≠-1:=by omega
  have hg:gx Q.Next (cl q) a≠-1:=fun e=>a0 (r1 e q h1 rfl);obtain ⟨k1,k2⟩:=(r2 hg).2 q h1 rfl a0;obtain ⟨l1,l2⟩:=renP_at K.ren (K.mem H hq) (by rw [K.inp];exact h2) hg;rw [l1,l2,k1,k2,yah,hu,yah];exact ⟨rfl,rfl⟩
theorem tree_goes {S:yaa} {I:Nat} {ov:yab->Int} {P:zac} (T:zh1 S I (fun v=>v∈S) ov P.Next P.Out) {t:zab} (hl:t.Out.length=t.In.length) (hS:∀ k,t.In.take k∈S) (hlet:∀ x∈t.In,∃ a:Nat,x=(↑a:Int)∧a<I) (hov:∀ k,k<t.In.length->t.Out[k]?=some (ov (t.In.take (k+1)))) :
  ∀ n k,k+n=t.In.length->Goes P (S.idxOf (t.In.take k)) (t.In.drop k) (t.Out.drop k) (S.idxOf t.In)
 | 0,k,e=>by
  rw [yde (by omega),yde (by omega),yb6 (by omega)];exact ⟨rfl,rfl⟩
 | n+1,k,e=>by
  have hk:k<t.In.length:=by omega
  obtain ⟨a,ha,hI⟩:=hlet _ (ya2 hk);have hx:=get_at hk
  have a0:t.In.take (k+1)=t.In.take k++[(↑a:Int)]:=by
   rw [List.take_add_one,hx,ha];rfl
  have hm:=hS (k+1);rw [a0] at hm;obtain ⟨h1,h2⟩:=T.yes _ a _ (zmo (hS k)) hI hm;have ho:=hov k hk;have a2:=get_at (l:=t.Out) (i:=k) (by omega);rw [a2] at ho;injection ho with ho
  rw [ycc hk,ycc (by omega:k<t.Out.length)];refine ⟨a,S.idxOf (t.In.take (k+1)),t.Out.drop (k+1),ha,by rw [a0];exact h1,?_,tree_goes T hl hS hlet hov n (k+1) (by omega)⟩;rw [ho,a0,<- h2];rfl
theorem sort_nil {l:yaa} (h:[]∈l):(sortW l).idxOf []=0:=by
 have hm:[]∈sortW l:=(zb3 l []).2 h;have hi:=zmo hm;rcases ycf ((sortW l).idxOf []) with e | e
 ·exact e
 ·have a0:=ybj hm;have:=(zfq l).get e (get_at (by omega)) hi;unfold cmpW at this;rw [if_neg (by simp)] at this;split at this
  ·exact absurd this (by decide)
  ·rename_i g;have e0:(sortW l)[0]'(by omega)=[]:=yau (by simpa using g);rw [e0] at this;exact absurd this (by decide)
theorem tree_run {o:zar} (hv:zit o) {P:zac} (h0:P.Start=0) (T:zh1 (sortW (allP o)) o.Inputs.toNat (fun v=>v∈sortW (allP o)) (ovT o.Traces) P.Next P.Out) {t:zab} (ht:t∈o.Traces):Goes P P.Start.toNat t.In t.Out ((sortW (allP o)).idxOf t.In):=by
 obtain ⟨i1,i2⟩:=hv.inp
 have:=tree_goes T (hv.prop t ht).1.2.1 (fun k=>(zb3 _ _).2 (zff.2 (.inr ⟨t,ht,yd1 _ _⟩))) (fun x hx=>by
  obtain ⟨c1,c2⟩:=(zf1 (hv.prop t ht).1.1).2 x hx
  exact ⟨x.toNat,by omega,by omega⟩) (fun k hk=>ovT_eq hv ht hk) t.In.length 0 (by omega)
 rw [yeb,yew,yew,sort_nil (zff.2 (.inl rfl))] at this;rw [h0];exact this
end
section
theorem tree_prog {o:zar} (ho:SmO o) (hv:zit o) (hP:(allP o).length<=4090) :
  ∃ P:zac,zbf o=some (P,0)∧zda P∧Conn P∧P.Start=0∧P.Inputs=o.Inputs∧zh1 (sortW (allP o)) o.Inputs.toNat (fun v=>v∈sortW (allP o)) (ovT o.Traces) P.Next P.Out∧∃ Q,P=renP Q∧zrc Q:=by
 obtain ⟨i1,i2⟩:=hv.inp;have hn:=hv.num;obtain ⟨W,N,O,e1,K,hW⟩:=tree_loop56 hv hP;have a8:=K.le;have a0:(↑o.Inputs.toNat:Int)=o.Inputs:=ydc (by omega);have hI:o.Inputs.toNat<=64:=by omega
 have a3:∀ w x,w++[x]∈W->∃ a:Nat,x=(↑a:Int)∧a<o.Inputs.toNat:=fun w x h=>(ovT_rng hv (K.sub _ h)).1;have R:=tree_ren K.st K.tm hI (by omega);have TS:=tree_sorted K.st K.tm hI (by omega) a3;have a6:sortW W=sortW (allP o):=zo6 (zfq _) (zfq _) fun x=>by rw [zb3,zb3];exact hW x
 rw [a6,a0] at TS;rw [a0] at R;obtain ⟨nums,e2,A⟩:=zch R;have hl:=K.tm.gn.len
 have a7:zda (renP (⟨o.Inputs,0,N,O⟩:zac)):=renP_ok R i1 (by simp only;omega) fun c a hc ha a2=>by
  have a5:c<W.length:=by have:=A.lt c hc;simp only at this;omega
  have hw:=get_at a5;simp only at ha a2 ⊢;by_cases d:W[c]++[(↑a:Int)]∈W
  ·rw [(K.tm.yes c a _ hw ha d).2];exact (ovT_rng hv (K.sub _ d)).2
  ·exact absurd (K.tm.no c a _ hw ha d).1 a2
 have a4:zc0 o.Inputs=some (List.replicate o.Inputs.toNat (-1)):=by
  have:=zid (x:=o.Inputs.toNat) (by omega)
  rwa [a0] at this
 refine ⟨renP ⟨o.Inputs,0,N,O⟩,?_,a7,renP_conn R,rfl,rfl,TS,_,rfl,R⟩;unfold zbf;rw [zp1 ho hv,zam,zkA (by decide),zkC,a4,zam,zam,e1,zam];simp only [ycd,zbf.k57];rw [e2,zam]
section
variable {p:zac}
theorem zso.ord {Q:zac} {cl:Nat->Nat} (H:zda p) (K:zso p Q cl):OrdI p.Next.length cl (ordP Q):=by
 obtain ⟨nums,_,A⟩:=zch K.ren;refine ⟨A.nd,fun c hc=>⟨by have:=A.lt c hc;rwa [K.len] at this,?_⟩⟩;have a3:=H.st
 have key:=zsk (fun c=>(Q.Next[c]?).getD []) (fun c=>c<p.Next.length∧cl c=c) (fun c ⟨h1,h2⟩ t ht a2=>by
  obtain ⟨i,hi,e⟩:=ybl ht
  obtain ⟨x,x1,x2⟩:=K.ren.gn.row c (by rw [K.len];exact h1)
  have a0:i<p.Inputs.toNat:=by
   rw [x1,yae,x2,K.inp] at hi
   exact hi
  have hg:gx Q.Next c i=t:=by
   unfold gx
   rw [get_at (l:=(Q.Next[c]?).getD []) hi,yae,e]
  obtain ⟨⟨r,r1,r2,r3⟩,h4⟩:=(K.row c i h1 a0 h2).2 (by rw [hg];exact a2)
  obtain ⟨h5,_⟩:=h4 r r1 r2 r3
  rw [hg] at h5
  obtain ⟨b1,b2,_⟩:=H.at r1 a0
  rw [h5,yah]
  exact ⟨K.lt _ (by omega),K.idem _ (by omega)⟩) (Q.Next.length+1) 0 [Q.Start.toNat] (fun c hc=>by
  rw [yar.1 hc,K.st,yah]
  exact ⟨K.lt _ (by omega),K.idem _ (by omega)⟩) c hc
 exact key.2
theorem quo_part {Q:zac} {cl:Nat->Nat} (H:zda p) (K:zso p Q cl):zda (renP Q)∧(renP Q).Next.length<=p.Next.length∧((∃ x,x<p.Next.length∧cl x≠x)->(renP Q).Next.length<p.Next.length):=by
 have hO:=K.ord H;have a0:(renP Q).Next.length=(ordP Q).length:=by unfold renP;simp only [zkK]
 refine ⟨renP_ok K.ren (by rw [K.inp];exact H.i1) (by rw [K.len];exact H.n2) fun c a hc ha h=>?_,by rw [a0];exact hO.le,fun ⟨x,x1,x2⟩=>?_⟩
 ·obtain ⟨c1,c2⟩:=hO.lt c hc;rw [K.inp] at ha;obtain ⟨⟨r,r1,r2,r3⟩,h3⟩:=(K.row c a c1 ha c2).2 h;obtain ⟨_,h4⟩:=h3 r r1 r2 r3;obtain ⟨b1,b2,b3,b4,b5,_⟩:=H.at r1 ha;rw [<- h4];exact ⟨by omega,b4⟩
 ·rw [a0]
  have:=zhp (a:=x::ordP Q) (b:=List.range p.Next.length) (yb2.2 ⟨fun h=>x2 (hO.lt x h).2,hO.nd⟩) fun y hy=>by
   rcases yba.1 hy with rfl | hy
   ·exact ya8.2 x1
   ·exact ya8.2 (hO.lt y hy).1
  rw [zkL,ybz] at this;omega
theorem reds_mem (H:zda p) (G:Conn p) {Q:zac} {cl:Nat->Nat} (K:zso p Q cl) {red:List Bool} (hr:red.length=p.Next.length) :
  ∃ red':List Bool,iter (fun (s:List Bool×Nat)=>zbs.s25 red (renP Q,(List.range p.Next.length).map (fun q=>numT (ordP Q) (↑(cl q):Int)),true) s.1 s.2) fuel (List.replicate (List.length (renP Q).Next) false,0)=some red'∧red'.length=(renP Q).Next.length∧∀ i,red'[i]?=some true↔∃ q,red[q]?=some true∧(ordP Q).idxOf (cl q)=i:=by
 have hn:=H.n2;have a3:=(K.ord H).le;have a0:(renP Q).Next.length=(ordP Q).length:=by unfold renP;simp only [zkK]
 have key:=zaw (step:=fun (s:List Bool×Nat)=>zbs.s25 red (renP Q,(List.range p.Next.length).map (fun q=>numT (ordP Q) (↑(cl q):Int)),true) s.1 s.2) (fun s=>s.2<=p.Next.length∧s.1.length=(ordP Q).length∧∀ i,s.1[i]?=some true↔∃ q,q<s.2∧red[q]?=some true∧(ordP Q).idxOf (cl q)=i) (fun s=>p.Next.length-s.2) (fun r=>r.length=(ordP Q).length∧∀ i,r[i]?=some true↔∃ q,red[q]?=some true∧(ordP Q).idxOf (cl q)=i) (fun ⟨y,q⟩ ⟨g1,g2,g3⟩=>by
  simp only at g1 g2 g3
  simp only [zbs.s25]
  by_cases h:q<p.Next.length
  ·left
   have hx:=get_at (l:=red) (i:=q) (by omega)
   have hm:=K.mem H (G q h)
   have a2:=ybj hm
   have e1:((List.range p.Next.length).map (fun q=>numT (ordP Q) (↑(cl q):Int)))[q]?=some (↑((ordP Q).idxOf (cl q)):Int):=by
    rw [yaf,ybh h,yal]
    unfold numT
    rw [yah,if_pos ⟨by omega,hm⟩]
   rw [zkB (by omega),zkD,zal hx]
   cases hc:red[q] with
   | false =>
    refine ⟨(y,q+1),by rw [zkC,zam,zkC],⟨h,g2,fun i=>(g3 i).trans ⟨fun ⟨u,u1,u2⟩=>⟨u,by simp only;omega,u2⟩,fun ⟨u,u1,u2,u3⟩=>?_⟩⟩,by simp only;omega⟩
    rcases yat u q with g | g
    ·exact ⟨u,g,u2,u3⟩
    ·have e:u=q:=by simp only at u1;omega
     rw [e,hx,hc] at u2
     cases u2
   | true =>
    refine ⟨(y.set ((ordP Q).idxOf (cl q)) true,q+1),by rw [zkD,zal e1,zam,zkB (by omega),zkD,zal e1,zbb (i:=(ordP Q).idxOf (cl q)) rfl (get_at (l:=y) (i:=(ordP Q).idxOf (cl q)) (by omega)),yah],⟨h,by simp only [ybo];exact g2,fun i=>?_⟩,by simp only;omega⟩
    simp only
    by_cases e:i=(ordP Q).idxOf (cl q)
    ·subst e
     rw [ya7 (by omega)]
     exact ⟨fun _=>⟨q,yc4 _,by rw [hx,hc],rfl⟩,fun _=>rfl⟩
    ·rw [ybb (fun h=>e h.symm),g3 i]
     constructor
     ·rintro ⟨u,u1,u2⟩
      exact ⟨u,by omega,u2⟩
     ·rintro ⟨u,u1,u2,u3⟩
      rcases yat u q with g | g
      ·exact ⟨u,g,u2,u3⟩
      ·have eu:u=q:=by omega
       rw [eu] at u3
       exact absurd u3.symm e
  ·right
   refine ⟨_,by rw [zkA (by omega),zkC],g2,fun i=>(g3 i).trans ⟨fun ⟨u,_,u2⟩=>⟨u,u2⟩,fun ⟨u,u2,u3⟩=>⟨u,?_,u2,u3⟩⟩⟩
   have:=(zkI.1 u2).1
   omega) fuel (List.replicate (ordP Q).length false,0) ⟨yag _,yas,fun i=>⟨(fun h=>by
  rw [ybk] at h
  split at h<;>cases h),fun ⟨u,u1,_⟩=>absurd u1 (ybe _)⟩⟩ (by have:=zav;simp only;omega)
 obtain ⟨red',e,h1,h2⟩:=key;exact ⟨red',by rw [a0];exact e,by rw [a0];exact h1,h2⟩
theorem pm_none (H:zda p) {red:List Bool} (hr:red.length=p.Next.length) {b:Nat} (hred:red[b]?=some false) (h:∀ r:Nat,red[r]?=some true->zaf p (↑r:Int) (↑b:Int)=some (⟨0,0,[],[]⟩,[],false)):zbs p red (↑b:Int)=some (p,red.set b true):=by
 have hn:=H.n2
 have key:=zaw (step:=fun (s:Nat)=>zbs.s26 p red (↑b:Int) s) (fun r=>r<=p.Next.length) (fun r=>p.Next.length-r) (fun q=>q=.inl ()) (fun r g1=>by
  simp only [zbs.s26]
  by_cases a0:r<p.Next.length
  ·left
   have hx:=get_at (l:=red) (i:=r) (by omega)
   rw [zkB (by omega),zkD,zal hx]
   refine ⟨r+1,?_,a0,by omega⟩
   cases hc:red[r] with
   | false=>rw [ycb,zkD,zam,ycd]
   | true=>rw [yb8,zkC,h r (by rw [hx,hc]),zam,ycb,zkD,zam,ycd]
  ·right
   exact ⟨.inl (),by rw [zkA (by omega),zkC],rfl⟩) fuel 0 (yag _) (by have:=zav;omega)
 obtain ⟨q,e,rfl⟩:=key;unfold zbs;rw [e,zam,ycd,zas (by unfold zaz;simp only [yaw];omega),ycn,zbb (i:=b) rfl hred,yah]
theorem pm_some (H:zda p) {red:List Bool} (hr:red.length=p.Next.length) {b r0:Nat} (h0:red[r0]?=some true) (h:∀ r:Nat,r<r0->red[r]?=some true->zaf p (↑r:Int) (↑b:Int)=some (⟨0,0,[],[]⟩,[],false)) {p':zac} {pl:yab} {red':List Bool} (e1:zaf p (↑r0:Int) (↑b:Int)=some (p',pl,true)) (e2:iter (fun (s:List Bool×Nat)=>zbs.s25 red (p',pl,true) s.1 s.2) fuel (List.replicate p'.Next.length false,0)=some red') (hl:p'.Next.length<=4096):zbs p red (↑b:Int)=some (p',red'):=by
 have hn:=H.n2;have a2:=(zkI.1 h0).1
 have key:=zaw (step:=fun (s:Nat)=>zbs.s26 p red (↑b:Int) s) (fun r=>r<=r0) (fun r=>r0+1-r) (fun q=>q=.inr (p',red')) (fun r g1=>by
  simp only [zbs.s26]
  have hx:=get_at (l:=red) (i:=r) (by omega)
  rw [zkB (by omega),zkD,zal hx]
  by_cases a0:r<r0
  ·left
   refine ⟨r+1,?_,a0,by omega⟩
   cases hc:red[r] with
   | false=>rw [ycb,zkD,zam,ycd]
   | true=>rw [yb8,zkC,h r a0 (by rw [hx,hc]),zam,ycb,zkD,zam,ycd]
  ·right
   have e:r=r0:=by omega
   subst e
   have hc:=h0
   rw [hx] at hc
   injection hc with hc
   refine ⟨.inr (p',red'),?_,rfl⟩
   rw [hc,yb8,zkC,e1,zam,yb8,zkC,zas ⟨by simp only;omega,yd4 _,by unfold zaz;simp only;omega⟩,e2,zam,zam,ydy]) fuel 0 (yag _) (by have:=zav;omega)
 obtain ⟨q,e,rfl⟩:=key;unfold zbs;rw [e,zam,ydy]
structure BlueB (p:zac) (red:List Bool) (b:Nat):Prop where
 lt:b<p.Next.length
 wh:red[b]?=some false
 ex:∃ r a,zmk p red r a b
 le:∀ r a c,zmk p red r a c->b<=c
structure FoldB (p:zac) (red:List Bool) (r0 b:Nat) (Q:zac) (cl:Nat->Nat) (red':List Bool):Prop where
 rd0:red[r0]?=some true
 no:¬ zme p r0 b
 quo:zso p Q cl
 cls:∀ q,q<p.Next.length->cl q=clsOf p r0 b q
 rds:∀ i,red'[i]?=some true↔∃ q,red[q]?=some true∧(ordP Q).idxOf (cl q)=i
 ok:LrnI (renP Q) red'
 lt:(renP Q).Next.length<p.Next.length
theorem prog_step {red:List Bool} (K:LrnI p red) :
  (zce.s1 p.Inputs p.Start p.Next p.Out red=some (.inr (p,0))∧∀ r a b,¬ zmk p red r a b) ∨
  ∃ b,BlueB p red b∧(((∀ r:Nat,red[r]?=some true->zme p r b)∧zce.s1 p.Inputs p.Start p.Next p.Out red=some (.inl (p.Inputs,p.Start,p.Next,p.Out,red.set b true))) ∨
   ∃ r0 Q cl red',FoldB p red r0 b Q cl red'∧zce.s1 p.Inputs p.Start p.Next p.Out red=some (.inl ((renP Q).Inputs,(renP Q).Start,(renP Q).Next,(renP Q).Out,red'))):=by
 obtain ⟨H,G,hr⟩:=K;have hn:=H.n2;obtain ⟨B,e1,c1,c2,c3⟩:=merge_blue_eq H hr;by_cases hB:B<p.Next.length
 ·right;obtain ⟨r1,a1,hc⟩:=c2 hB;have hw:red[B]?=some false:=hc.2.2;rw [zkB hB] at e1
  have a7:zce.s1 p.Inputs p.Start p.Next p.Out red=(zbs p red (↑B:Int)).bind fun a2=>some (.inl (a2.1.Inputs,a2.1.Start,a2.1.Next,a2.1.Out,a2.2)):=by
   unfold zce.s1;rw [e1,zam,yb8,zkC]
  refine ⟨B,⟨hB,hw,⟨r1,a1,hc⟩,c3⟩,?_⟩;have a4:∀ r,red[r]?=some true->r<p.Next.length:=fun r h=>by have:=(zkI.1 h).1;omega
  rcases least_or (fun r=>red[r]?=some true∧¬ zme p r B) p.Next.length with h | ⟨r0,h0,hs,h⟩
  ·left;have a3:∀ r,red[r]?=some true->zme p r B:=fun r hr=>ya5 fun g=>h r (a4 r hr) ⟨hr,g⟩;refine ⟨a3,?_⟩;rw [a7,pm_none H hr hw fun r hr=>?_,zam];rcases zht H (a4 r hr) hB with ⟨_,f2⟩ | ⟨f1,_⟩
   ·exact f2
   ·exact absurd (a3 r hr) f1
  ·right;obtain ⟨a0,a6⟩:=hs;rcases zht H h0 hB with ⟨f1,_⟩ | ⟨f1,Q,cl,K,f2,f3⟩
   ·exact absurd f1 a6
   ·obtain ⟨red',l1,l2,l3⟩:=reds_mem H G K hr;obtain ⟨q1,q2,q3⟩:=quo_part H K;have a8:r0≠B:=fun e=>by rw [e,hw] at a0;cases a0
    have b2:cl r0=cl B:=by rw [f2 r0 h0,f2 B hB];exact clsOf_same.1 .base
    have hx:∃ x,x<p.Next.length∧cl x≠x:=by
     by_cases k:cl r0=r0
     ·exact ⟨B,hB,fun e=>a8 (by rw [<- k,b2,e])⟩
     ·exact ⟨r0,h0,k⟩
    refine ⟨r0,Q,cl,red',⟨a0,a6,K,f2,l3,⟨q1,renP_conn K.ren,l2⟩,q3 hx⟩,?_⟩;rw [a7,pm_some H hr a0 (fun r a9 a5=>?_) f3 l1 (by omega),zam];rcases zht H (a4 r a5) hB with ⟨_,g2⟩ | ⟨g1,_⟩
    ·exact g2
    ·exact absurd ⟨a5,g1⟩ (h r a9)
 ·left;rw [zkA hB] at e1;refine ⟨?_,fun r a b hc=>?_⟩
  ·unfold zce.s1;rw [e1,zam,ycb,zkD]
  ·have:=c3 r a b hc;have:=(zet H hc.2.1).2.2;omega
end
theorem learn_inv {J:zac->List Bool->Prop}
  (h1:∀ p red b,LrnI p red->J p red->BlueB p red b->(∀ r:Nat,red[r]?=some true->zme p r b)->J p (red.set b true))
  (h2:∀ p red b r0 Q cl red',LrnI p red->J p red->BlueB p red b->FoldB p red r0 b Q cl red'->J (renP Q) red') {p:zac} {red:List Bool} (K:LrnI p red) (j:J p red) :
  ∃ p' red',iter (fun (s:Int×Int×yaa×yaa×List Bool)=>zce.s1 s.1 s.2.1 s.2.2.1 s.2.2.2.1 s.2.2.2.2) fuel (p.Inputs,p.Start,p.Next,p.Out,red)=some (p',0)∧LrnI p' red'∧J p' red'∧∀ r a b,¬ zmk p' red' r a b:=by
 have a0:∀ {q:zac} {rd:List Bool},LrnI q rd->zr2 rd<=4096:=fun {q rd} K=>by
  have:=K.ok.n2;unfold zr2;refine ych yeo ?_;rw [K.len];exact this
 have hw:=a0 K;have hn:=K.ok.n2
 have key:=zaw (step:=fun (s:Int×Int×yaa×yaa×List Bool)=>zce.s1 s.1 s.2.1 s.2.2.1 s.2.2.2.1 s.2.2.2.2) (fun s=>LrnI ⟨s.1,s.2.1,s.2.2.1,s.2.2.2.1⟩ s.2.2.2.2∧J ⟨s.1,s.2.1,s.2.2.1,s.2.2.2.1⟩ s.2.2.2.2) (fun s=>5000*s.2.2.1.length+zr2 s.2.2.2.2) (fun r=>∃ p' red',r=(p',0)∧LrnI p' red'∧J p' red'∧∀ r a b,¬ zmk p' red' r a b) (fun ⟨y1,y2,y3,y4,rd⟩ ⟨k1,k2⟩=>by
  simp only at k1 k2 ⊢
  rcases prog_step k1 with ⟨e,hc⟩ | ⟨b,hb,⟨hc,e⟩ | ⟨r0,Q,cl,red',hF,e⟩⟩
  ·exact .inr ⟨_,e,_,rd,rfl,k1,k2,hc⟩
  ·refine .inl ⟨_,e,⟨⟨k1.ok,k1.con,by simp only [ybo];exact k1.len⟩,h1 _ _ b k1 k2 hb hc⟩,?_⟩
   have:=whites_set hb.wh
   simp only
   omega
  ·refine .inl ⟨_,e,⟨hF.ok,h2 _ _ b r0 Q cl red' k1 k2 hb hF⟩,?_⟩
   have a2:=hF.lt
   have:=a0 hF.ok
   simp only at this a2 ⊢
   omega) fuel (p.Inputs,p.Start,p.Next,p.Out,red) ⟨K,j⟩ (by have:=zav;simp only;omega)
 obtain ⟨r,e,p',red',rfl,q⟩:=key;exact ⟨p',red',e,q⟩
theorem learn_prog {o:zar} {P:zac} (e1:zbf o=some (P,0)) (H:zda P) (h0:P.Start=0) {p':zac} (l1:iter (fun (s:Int×Int×yaa×yaa×List Bool)=>zce.s1 s.1 s.2.1 s.2.2.1 s.2.2.2.1 s.2.2.2.2) fuel (P.Inputs,P.Start,P.Next,P.Out,red0 P)=some (p',0)):zce o=some (p',0):=by
 have hn:=H.n2;have hp:=H.n1;unfold zce;rw [e1,zam,zkA (fun h=>h rfl),zkC,zas ⟨by omega,yd4 _,by unfold zaz;simp only [yah];omega⟩];simp only;rw [zbb (i:=0) (x:=false) h0 (by rw [ybk,if_pos hp])];have:List.set (List.replicate P.Next.length false) P.Start.toNat true=red0 P:=by rw [h0];rfl
 rw [this];exact l1
end
section

end
section
theorem dmQ {K i a:Nat} (h:a<K):(i*K+a) / K=i∧(i*K+a)%K=a:=by
 have hK:0<K:=by omega
 constructor
 ·rw [yc7,Nat.mul_add_div hK,Nat.div_eq_of_lt h,yca]
 ·rw [yc7,Nat.mul_add_mod,ye5 h]
def bfsM (R:Nat->yab) (I st:Nat):Nat->List Nat
 | 0=>[st]
 | r+1=>match (bfsM R I st r)[r / I]? with
  | none=>bfsM R I st r
  | some c=>addT (bfsM R I st r) (((R c)[r%I]?).getD (-1))
section
variable {R:Nat->yab} {I st:Nat}
theorem bfsM_pre1 (r:Nat):bfsM R I st r <+: bfsM R I st (r+1):=by
 conv=>rhs;unfold bfsM
 split
 ·exact ybu _
 ·exact addT_pre _ _
theorem zlw {r:Nat}:∀ d,bfsM R I st r <+: bfsM R I st (r+d)
 | 0=>ybu _
 | d+1=>(zlw d).trans (bfsM_pre1 (r+d))
theorem zr4 {α:Type} {l l':List α} (h:l <+: l') {i:Nat} {x:α} (hx:l[i]?=some x):l'[i]?=some x:=by
 obtain ⟨t,rfl⟩:=h;rw [yan (zkI.1 hx).1];exact hx
theorem bfsM_step {i a c:Nat} (ha:a<I) (hc:(bfsM R I st (i*I+a))[i]?=some c):bfsM R I st (i*I+a+1)=addT (bfsM R I st (i*I+a)) (((R c)[a]?).getD (-1)):=by
 obtain ⟨d1,d2⟩:=dmQ (i:=i) ha
 conv=>lhs;unfold bfsM
 rw [d1,hc,d2]
theorem bfsM_row {i c:Nat} (hc:(bfsM R I st (i*I))[i]?=some c) (hl:(R c).length=I):∀ k,k<=I->bfsM R I st (i*I+k)=((R c).take k).foldl addT (bfsM R I st (i*I))
 | 0,_=>by rw [yeb];rfl
 | k+1,hk=>by
  rw [show i*I+(k+1)=i*I+k+1 by omega,bfsM_step (by omega) (zr4 (zlw k) hc),bfsM_row hc hl k (by omega),ycq (by omega),yei,get_at (by omega),yae];rfl
theorem bfsM_stop (hI:0<I) {i:Nat} (h:(bfsM R I st (i*I))[i]?=none):∀ d,bfsM R I st (i*I+d)=bfsM R I st (i*I)
 | 0=>rfl
 | d+1=>by
  have ih:=bfsM_stop hI h d;rw [show i*I+(d+1)=i*I+d+1 by omega]
  conv=>lhs;unfold bfsM
  rw [ih]
  have hn:(bfsM R I st (i*I))[(i*I+d) / I]?=none:=by
   have:=ye2.1 h;refine yaq ?_;have:i<=(i*I+d) / I:=(Nat.le_div_iff_mul_le hI).2 (by omega);omega
  rw [hn]
theorem bfsL_eq (hI:0<I) (hl:∀ r c,c∈bfsM R I st r->(R c).length=I):∀ (f i:Nat),bfsL R f i (bfsM R I st (i*I))=bfsM R I st ((i+f)*I)
 | 0,i=>by rw [yca];rfl
 | f+1,i=>by
  unfold bfsL;cases e:(bfsM R I st (i*I))[i]? with
  | none =>
   have:=bfsM_stop hI e ((f+1)*I);rw [<- Nat.add_mul] at this;exact this.symm
  | some c =>
   have hr:=hl _ c (zkH e);have:=bfsM_row e hr I (yap _);rw [yb6 (by omega)] at this;simp only;rw [<- this,show i*I+I=(i+1)*I by rw [Nat.add_mul,yd3],bfsL_eq hI hl f (i+1),show i+1+f=i+(f+1) by omega]
theorem znf (hR:∀ c t,t∈R c->t=-1∨0<=t):∀ (r u:Nat) (x:Nat),0<u->(bfsM R I st r)[u]?=some x->∃ r' c,r'<r∧r' / I<u∧u<(bfsM R I st (r'+1)).length∧(bfsM R I st r')[r' / I]?=some c∧((R c)[r'%I]?).getD (-1)=(↑x:Int)
 | 0,u,x,hu,hx=>by
  have:=(zkI.1 hx).1;unfold bfsM at this;simp only [ya6] at this;omega
 | r+1,u,x,hu,hx=>by
  rcases yat u (bfsM R I st r).length with g | g
  ·have hx':=zr4 (bfsM_pre1 r) (get_at g);rw [hx] at hx';injection hx' with hx'
   obtain ⟨r',c,h1,h2⟩:=znf hR r u x hu (by rw [hx',get_at g]);exact ⟨r',c,by omega,h2⟩
  ·have hul:=(zkI.1 hx).1;have hstep:∀ L,bfsM R I st (r+1)=L->u<L.length:=fun L e=>e ▸ hul;cases e:(bfsM R I st r)[r / I]? with
   | none =>
    have:bfsM R I st (r+1)=bfsM R I st r:=by
     conv=>lhs;unfold bfsM
     rw [e]
    have:=hstep _ this;omega
   | some c =>
    have h1:bfsM R I st (r+1)=addT (bfsM R I st r) (((R c)[r%I]?).getD (-1)):=by
     conv=>lhs;unfold bfsM
     rw [e]
    rw [h1] at hx;have h2:=hstep _ h1;unfold addT at hx h2;split at hx
    ·rename_i g2;rw [if_pos g2] at h2;omega
    ·rename_i g2;rw [if_neg g2,zkJ,ya6] at h2;have eu:u=(bfsM R I st r).length:=by omega
     subst eu;rw [yax (yap _),ybx] at hx;injection hx with hx
     have a0:=(zkI.1 e).1;refine ⟨r,c,yc4 _,a0,hul,e,?_⟩;cases e2:(R c)[r%I]? with
     | none =>
      rw [e2] at g2;exact absurd (.inl rfl) g2
     | some t =>
      rw [e2,yae] at hx g2;rw [yae];have:=(hR c t (zkH e2)).resolve_left fun h=>g2 (.inl h);omega
theorem bfsM_to {i a c N:Nat} (ha:a<I) (hi:i*I+a<N) (hc:(bfsM R I st N)[i]?=some c) (hR:∀ c t,t∈R c->t=-1∨0<=t) {x:Nat} (hx:((R c)[a]?).getD (-1)=(↑x:Int)):x∈bfsM R I st (i*I+a+1):=by
 have a4:(bfsM R I st (i*I+a))[i]?=some c:=by
  have a2:bfsM R I st (i*I+a) <+: bfsM R I st N:=by
   have:=zlw (R:=R) (I:=I) (st:=st) (r:=i*I+a) (N-(i*I+a))
   rwa [show i*I+a+(N-(i*I+a))=N by omega] at this
  have a0:i<(bfsM R I st (i*I+a)).length:=by
   rcases ycf i with e | a3
   ·have:=(zlw (R:=R) (I:=I) (st:=st) (r:=0) (i*I+a)).length_le;rw [yai] at this;have h0:(bfsM R I st 0).length=1:=rfl;omega
   ·obtain ⟨r',c',h1,h2,h3,_⟩:=znf hR N i c a3 hc;have h4:r'<i*I:=(Nat.div_lt_iff_lt_mul (by omega)).1 h2;have:=(zlw (R:=R) (I:=I) (st:=st) (r:=r'+1) (i*I+a-(r'+1))).length_le;rw [show r'+1+(i*I+a-(r'+1))=i*I+a by omega] at this;omega
  have:=zr4 a2 (get_at a0);rw [hc] at this;rw [get_at a0,this]
 rw [bfsM_step ha a4,hx];unfold addT;split
 ·rename_i g;rcases g with g | g
  ·omega
  ·rwa [yah] at g
 ·rw [yah];exact yaj _ (yar.2 rfl)
end
structure CanP (p:zac):Prop where
 c4:∀ i a u v:Nat,i<p.Next.length->a<p.Inputs.toNat->0<u->u<=v->pnx p i a=(↑v:Int)->∃ i' a',a'<p.Inputs.toNat∧i'*p.Inputs.toNat+a'<=i*p.Inputs.toNat+a∧i'<u∧pnx p i' a'=(↑u:Int)
 c5:∀ u,0<u->u<p.Next.length->∃ i a,i<u∧a<p.Inputs.toNat∧pnx p i a=(↑u:Int)
theorem renP_can {Q:zac} (R:zrc Q) (hI:1<=Q.Inputs):CanP (renP Q):=by
 obtain ⟨nums,_,A⟩:=zch R;have a2:0<Q.Inputs.toNat:=by omega
 have hR:∀ c t,t∈(Q.Next[c]?).getD []->t=-1∨0<=t:=fun c t ht=>by
  obtain ⟨i,hi,e⟩:=ybl ht
  have hc:c<Q.Next.length:=by
   rcases yat c Q.Next.length with g | g
   ·exact g
   ·rw [yaq g] at hi;simp at hi
  obtain ⟨x,x1,x2⟩:=R.gn.row c hc
  have b6:i<Q.Inputs.toNat:=by
   rw [x1,yae] at hi;omega
  have hg:gx Q.Next c i=t:=by
   unfold gx;rw [get_at (l:=(Q.Next[c]?).getD []) hi,yae,e]
  rcases R.rng c i hc b6 with q | ⟨u,q,_⟩
  ·exact .inl (by omega)
  ·exact .inr (by omega)
 obtain ⟨s,hs,b5⟩:=R.st
 -- the states that are met are states
 have b9:∀ r c,c∈bfsM (fun c=>(Q.Next[c]?).getD []) Q.Inputs.toNat Q.Start.toNat r->c<Q.Next.length:=by
  intro r
  induction r with
  | zero =>
   intro c hc;unfold bfsM at hc;rw [yar.1 hc,hs,yah];exact b5
  | succ r ih =>
   intro c hc;unfold bfsM at hc;split at hc
   ·exact ih c hc
   ·rename_i d hd;unfold addT at hc;split at hc
    ·exact ih c hc
    ·rename_i g;rcases yak.1 hc with h | h
     ·exact ih c h
     ·have c0:=ih d (zkH hd);have hm:r%Q.Inputs.toNat<Q.Inputs.toNat:=yc3 _ a2;rcases R.rng d _ c0 hm with q | ⟨u,q,hu⟩
      ·unfold gx at q;exact absurd (.inl q) g
      ·unfold gx at q;rw [yar.1 h];rw [q,yah];exact hu
 have hF:ordP Q=bfsM (fun c=>(Q.Next[c]?).getD []) Q.Inputs.toNat Q.Start.toNat ((Q.Next.length+1)*Q.Inputs.toNat):=by
  have:=bfsL_eq (R:=fun c=>(Q.Next[c]?).getD []) (st:=Q.Start.toNat) a2 (fun r c hc=>by
   obtain ⟨x,x1,x2⟩:=R.gn.row c (b9 r c hc)
   rw [x1,yae,x2]) (Q.Next.length+1) 0
  rw [ycv,yai] at this;exact this
 have c8:=A.le;have a6:(renP Q).Next.length=(ordP Q).length:=by unfold renP;simp only [zkK]
 have a7:(renP Q).Inputs=Q.Inputs:=rfl
 have a9:∀ i a,i<(ordP Q).length->a<Q.Inputs.toNat->pnx (renP Q) i a=numT (ordP Q) (gx Q.Next ((ordP Q)[i]?.getD 0) a):=fun i a hi ha=>by
  unfold pnx renP;rw [yaf,get_at hi,yal,yae,yae];unfold zle;rw [yaf,ybh ha,yal,yae]
 have b4:=A.nd
 -- a link of the search is a link of the machine
 have a4:∀ (r' c x u:Nat),(bfsM (fun c=>(Q.Next[c]?).getD []) Q.Inputs.toNat Q.Start.toNat r')[r' / Q.Inputs.toNat]?=some c->(ordP Q)[r' / Q.Inputs.toNat]?=some c->((((Q.Next[c]?).getD [])[r'%Q.Inputs.toNat]?).getD (-1))=(↑x:Int)->(ordP Q)[u]?=some x->pnx (renP Q) (r' / Q.Inputs.toNat) (r'%Q.Inputs.toNat)=(↑u:Int):=fun r' c x u h0 h1 h2 h3=>by
  rw [a9 _ _ (zkI.1 h1).1 (yc3 _ a2),h1,yae];have:gx Q.Next c (r'%Q.Inputs.toNat)=(↑x:Int):=h2;rw [this];unfold numT;have hx:=zkH h3;rw [yah,if_pos ⟨by omega,hx⟩];obtain ⟨q1,q2⟩:=zkI.1 h3;have hl:=ybj hx;have:=(yel (h₀:=hl) (h₁:=q1) b4).1 (by rw [yco hl,q2]);rw [this]
 have a0:∀ r,r<=(Q.Next.length+1)*Q.Inputs.toNat->bfsM (fun c=>(Q.Next[c]?).getD []) Q.Inputs.toNat Q.Start.toNat r <+: ordP Q:=fun r hr=>by
  have:=zlw (R:=fun c=>(Q.Next[c]?).getD []) (I:=Q.Inputs.toNat) (st:=Q.Start.toNat) (r:=r) ((Q.Next.length+1)*Q.Inputs.toNat-r);rw [show r+((Q.Next.length+1)*Q.Inputs.toNat-r)=(Q.Next.length+1)*Q.Inputs.toNat by omega,<- hF] at this;exact this
 refine ⟨fun i a u v hi ha hu c7 hv=>?_,fun u hu a3=>?_⟩
 ·rw [a6] at hi;rw [a7] at ha ⊢;have b2:=get_at hi;rw [a9 i a hi ha,b2,yae] at hv;unfold numT at hv;split at hv
  ·rename_i g;obtain ⟨g1,g2⟩:=g;have c6:(ordP Q).idxOf (gx Q.Next (ordP Q)[i] a).toNat=v:=by omega
   have b7:=A.lt _ (ya2 hi);obtain ⟨w,hw,d0⟩:=(R.rng _ a b7 ha).resolve_left g1
   have hN:i*Q.Inputs.toNat+a<(Q.Next.length+1)*Q.Inputs.toNat:=by
    have h1:(i+1)*Q.Inputs.toNat<=(Q.Next.length+1)*Q.Inputs.toNat:=yb0 _ (by omega);rw [Nat.add_mul,yd3] at h1;omega
   have b8:=bfsM_to (R:=fun c=>(Q.Next[c]?).getD []) (st:=Q.Start.toNat) ha hN (by rw [<- hF];exact b2) hR (x:=w) hw;rw [hw,yah] at c6 g2;obtain ⟨j,hj,ej⟩:=ybl b8;have b3:=zr4 (a0 (i*Q.Inputs.toNat+a+1) (by omega)) (get_at hj);rw [ej] at b3
   have c9:j=v:=by
    obtain ⟨q1,q2⟩:=zkI.1 b3;have hl:=ybj g2;have:=(yel (h₀:=hl) (h₁:=q1) b4).1 (by rw [yco hl,q2]);omega
   have a3:u<(bfsM (fun c=>(Q.Next[c]?).getD []) Q.Inputs.toNat Q.Start.toNat (i*Q.Inputs.toNat+a+1)).length:=by omega
   obtain ⟨r',c,h1,h2,h3,h4,h5⟩:=znf hR (i*Q.Inputs.toNat+a+1) u _ hu (get_at a3);refine ⟨r' / Q.Inputs.toNat,r'%Q.Inputs.toNat,yc3 _ a2,?_,h2,?_⟩
   ·have:=ydn r' Q.Inputs.toNat;rw [yc7] at this;omega
   ·exact a4 r' c _ u h4 (zr4 (a0 r' (by omega)) h4) h5 (zr4 (a0 _ (by omega)) (get_at a3))
  ·omega
 ·rw [a6] at a3;have a8:=get_at a3;rw [a7];generalize (ordP Q)[u]=z at a8;have a5:=a8;rw [hF] at a5;obtain ⟨r',c,h1,h2,h3,h4,h5⟩:=znf hR _ u z hu a5;refine ⟨r' / Q.Inputs.toNat,r'%Q.Inputs.toNat,h2,yc3 _ a2,?_⟩;exact a4 r' c _ u h4 (zr4 (a0 r' (by omega)) h4) h5 a8
end
end Go.Proofs.YteigfkncoiiaiaaGreatDoor.Sym
namespace Go.Proofs.YteigfkncoiiaiaaGreatDoor
section
def M64:Nat:=18446744073709551616
def gold:Nat:=11400714819323198485
def mulA:Nat:=13787848793156543929
def mulB:Nat:=10723151780598845931
def mix (y:Nat):Nat :=
 let z:=(y ^^^ (y >>> 30))*mulA%M64
 let u:=(z ^^^ (z >>> 27))*mulB%M64
 u ^^^ (u >>> 31)
theorem few:∀ (k a:Nat) (l:List Nat),l.Nodup->(∀ x∈l,a<=x∧x<a+k)->l.length<=k
 | 0,a,l,_,h=>by
  cases l with
  | nil=>simp
  | cons x l=>have:=h x (by simp);omega
 | k+1,a,l,hn,h=>by
  have h1:=few k a (l.erase (a+k)) (hn.erase _) fun x hx=>by
   have h2:=(hn.mem_erase_iff).1 hx;have h3:=h x h2.2;have h4:=h2.1;omega
  by_cases hm:a+k∈l
  ·have:=List.length_erase_of_mem hm;omega
  ·rw [List.erase_of_not_mem hm] at h1;omega
def drawF:Nat->Nat->Nat×Nat
 | 0,s=>(0,s)
 | f+1,s=>if mix ((s+gold)%M64)<M64-1616 then (mix ((s+gold)%M64)%10000,(s+gold)%M64) else drawF f ((s+gold)%M64)
def draw (s:Nat):Nat×Nat:=drawF 1617 s
end
end Go.Proofs.YteigfkncoiiaiaaGreatDoor
namespace Go.Proofs.YteigfkncoiiaiaaGreatDoor.Sym
section
def steps (nx:Nat->Nat):Nat->Nat->Nat
 | 0,s=>s
 | j+1,s=>steps nx j (nx s)
end
section
def SmX (t:zab):Prop:=SmW t.In∧SmW t.Out
def SmTr (l:List zab):Prop:=l.length<=1200000∧∀ t∈l,SmX t
theorem capT {n:Nat} (h:n<=3000000):zaz n 48:=by unfold zaz;omega
theorem zjt {t:zab} (h:SmX t):zgn t=some t:=by
 have h1:=h.1;have h2:=h.2;unfold SmW at h1 h2;unfold zgn;rw [zm5 _ (by simp) (by simp;omega),zam,zm5 _ (by simp) (by simp;omega),zam];simp
def zn9 (t x:zab):Bool:=decide (¬ x.In <+: t.In∨t.In.length=x.In.length)
def zng (t:zab):Bool->List zab->List zab
 | done,[]=>if done=true then [] else [t]
 | done,x::r=>(if done=false∧cmpW t.In x.In=-1 then [t] else [])++((if zn9 t x=true then [x] else [])++zng t (done||decide (cmpW t.In x.In=-1)) r)
theorem zo1 {t:zab}:∀ (l:List zab),zng t true l=l.filter (zn9 t)
 | []=>rfl
 | x::r=>by
  unfold zng;rw [if_neg (by simp),List.filter_cons,Bool.true_or,zo1 r];split<;>rfl
theorem zq5 {t:zab}:∀ (l:List zab),(∀ x∈l,x.In≠t.In)->zng t false l=insT (restT l t) t
 | [],_=>rfl
 | x::r,hn=>by
  have hne:=hn x (by simp)
  have hk:zn9 t x=!decide (x.In <+: t.In):=by
   unfold zn9;by_cases h:x.In <+: t.In
   ·rw [zkB h,yb8];refine zkA fun e=>?_;rcases e with e | e
    ·exact e h
    ·exact hne (h.eq_of_length (by omega))
   ·rw [zkA h,zkB (.inl h)];rfl
  have a0:∀ l:List zab,(∀ x∈l,x.In≠t.In)->l.filter (zn9 t)=restT l t:=fun l hl=>by
   unfold restT;refine List.filter_congr fun y hy=>?_;unfold zn9;by_cases h:y.In <+: t.In
   ·rw [zkB h,yb8];refine zkA fun e=>?_;rcases e with e | e
    ·exact e h
    ·exact hl y hy (h.eq_of_length (by omega))
   ·rw [zkA h,zkB (.inl h)];rfl
  have hr:∀ y∈r,y.In≠t.In:=fun y hy=>hn y (by simp [hy]);unfold zng restT;rw [List.filter_cons,hk];by_cases h:x.In <+: t.In
  ·have h1:¬ cmpW t.In x.In=-1:=fun e=>by
    have:=h.length_le;unfold cmpW at e;split at e
    ·omega
    ·split at e
     ·cases e
     ·have h2:=h.eq_of_length (by omega);exact hne h2
   rw [if_neg fun e=>h1 e.2,zkB h,zkA h1,yb8,if_neg ydq,if_neg ydq,yfi];exact zq5 r hr
  ·rw [zkA h,ycb,if_pos rfl,if_pos rfl];unfold insT;by_cases h1:cmpW t.In x.In=-1
   ·rw [if_pos ⟨rfl,h1⟩,if_pos h1,zkB h1,Bool.or_true,zo1,a0 r hr];rfl
   ·rw [if_neg fun e=>h1 e.2,if_neg h1,zkA h1,yfi,zq5 r hr];rfl
theorem keep_all {o:zar} {t:zab} (hv:zit o) (h:zfo o.Traces t.In=true∨t.In=[]):o.Traces.filter (zn9 t)=o.Traces:=by
 refine List.filter_eq_self.2 fun x hx=>zkB ?_;refine ya5 fun hn=>?_;have h1:x.In <+: t.In:=ya5 fun e=>hn (.inl e);have h2:¬ t.In.length=x.In.length:=fun e=>hn (.inr e);have hl:=h1.length_le;rcases h with h | h
 ·obtain ⟨u,hu,hp⟩:=ycp.1 h;have hp:t.In <+: u.In:=of_decide_eq_true hp;have a0:=hp.length_le;obtain ⟨i,hi,rfl⟩:=yb3.1 hx;obtain ⟨j,hj,rfl⟩:=yb3.1 hu;rcases yc0 i j with e | e | e
  ·exact (hv.apart i j _ _ e (get_at hi) (get_at hj)).1 (h1.trans hp)
  ·subst e;omega
  ·have:=hv.asc j i _ _ e (get_at hj) (get_at hi);unfold cmpW at this;split at this
   ·omega
   ·split at this
    ·cases this
    ·omega
 ·rw [h] at h2 hl;simp at h2 hl;exact h2 (by rw [hl];rfl)
theorem R16_add_eq {o:zar} {t:zab} (ho:SmTr o.Traces) (hv:zit o) (ht:SmX t):zc8 o t=some ⟨o.Inputs,addL o.Traces t⟩:=by
 have hl:=ho.1;unfold zc8
 have key:=zaw (step:=fun (s:Bool×Nat)=>zc8.s2 o t s.1 s.2) (fun s=>s.2<=o.Traces.length∧s.1=(decide (t.In=[])||zfo (o.Traces.take s.2) t.In)) (fun s=>o.Traces.length-s.2) (fun r=>r=(decide (t.In=[])||zfo o.Traces t.In)) (fun ⟨b,i⟩ ⟨g1,g2⟩=>by
  simp only at g1 g2
  simp only [zc8.s2]
  by_cases g4:i<o.Traces.length
  ·left
   have hx:=get_at g4
   have a3:=ya2 g4
   have b2:zfo (o.Traces.take (i+1)) t.In=(zfo (o.Traces.take i) t.In||decide (t.In <+: o.Traces[i].In)):=by
    rw [zcy hx]
    unfold zfo
    rw [List.any_append]
    simp
   refine ⟨(decide (t.In=[])||zfo (o.Traces.take (i+1)) t.In,i+1),?_,⟨g4,rfl⟩,by simp only;omega⟩
   rw [zdg hx,zkD,b2,<- Bool.or_assoc,<- g2]
   cases b with
   | true=>rfl
   | false =>
    rw [zkC,zal hx,zkg _ _ (ho.2 _ a3).1,zam]
    rfl
  ·right
   have e:i=o.Traces.length:=by omega
   subst e
   rw [ybp] at g2
   exact ⟨b,by rw [zfb,zkC],g2⟩) fuel (decide ((↑t.In.length:Int)=0),0) ⟨yag _,by
    simp only [yeb,zfo,List.any_nil,yfi]
    exact decide_eq_decide.2 ⟨fun h=>yau (by omega),fun h=>by rw [h];rfl⟩⟩ (by have:=zav;simp only;omega)
 obtain ⟨d0,e,rfl⟩:=key;rw [e,zam];generalize hd:(decide (t.In=[])||zfo o.Traces t.In)=d0
 have a4:=zaw (step:=fun (s:List zab×Bool×Nat)=>zc8.s10 o t s.1 s.2.1 s.2.2) (fun s=>s.2.2<=o.Traces.length∧s.1.length<=2*s.2.2∧s.1++zng t s.2.1 (o.Traces.drop s.2.2)=zng t d0 o.Traces) (fun s=>o.Traces.length-s.2.2) (fun r=>r.1.length<=2400000∧r.1++zng t r.2 []=zng t d0 o.Traces) (fun ⟨y,b,i⟩ ⟨g1,g2,g3⟩=>by
  simp only at g1 g2 g3
  simp only [zc8.s10]
  by_cases g4:i<o.Traces.length
  ·left
   have hx:=get_at g4
   have a3:=ya2 g4
   rw [ycc g4] at g3
   rw [zdg hx,zkD,zal hx]
   have a0:((zer t.In o.Traces[i].In).bind fun a2=>cond (!a2) (some true) (some (decide ((↑t.In.length:Int)=(↑(List.length o.Traces[i].In):Int)))):Option Bool)=some (zn9 t o.Traces[i]):=by
    unfold zn9
    rw [zkg _ _ ht.1,zam]
    by_cases h:o.Traces[i].In <+: t.In
    ·rw [zkB h,yb8,zkC]
     congr 1
     exact decide_eq_decide.2 ⟨fun e=>.inr (by omega),fun e=>by rcases e with e | e;exact absurd h e;omega⟩
    ·rw [zkA h,ycb,zkD,zkB (.inl h)]
   have a5:∀ (z:List zab) (c:Bool),z.length<=2*i+1->zc8.k9 t i o.Traces[i] z c=some (.inl (z++(if zn9 t o.Traces[i]=true then [o.Traces[i]] else []),c,i+1)):=fun z c hz=>by
    unfold zc8.k9
    rw [a0,zam]
    cases zn9 t o.Traces[i] with
    | true=>rw [zkD,zjt (ho.2 _ a3),zam,zas (capT (by omega)),if_pos rfl]
    | false=>rw [zkC,if_neg ydq,ybq]
   have a7:((cond (!b) ((zgo t.In o.Traces[i].In).bind fun a6=>some (decide (a6<0))) (some false)):Option Bool)=some (decide (b=false∧cmpW t.In o.Traces[i].In=-1)):=by
    cases b with
    | true=>rfl
    | false =>
     have r1:=zl1 t.In o.Traces[i].In
     rw [ycb,zkD,zsu _ _ ht.1,zam]
     congr 1
     exact decide_eq_decide.2 ⟨fun e=>⟨rfl,by omega⟩,fun e=>by have:=e.2;omega⟩
   rw [a7,zam]
   have a9:zng t b (o.Traces[i]::o.Traces.drop (i+1))=(if b=false∧cmpW t.In o.Traces[i].In=-1 then [t] else [])++((if zn9 t o.Traces[i]=true then [o.Traces[i]] else [])++zng t (b||decide (cmpW t.In o.Traces[i].In=-1)) (o.Traces.drop (i+1))):=rfl
   rw [a9] at g3
   by_cases hc:b=false∧cmpW t.In o.Traces[i].In=-1
   ·rw [if_pos hc,hc.1,yej,zkB hc.2] at g3
    refine ⟨(y++[t]++(if zn9 t o.Traces[i]=true then [o.Traces[i]] else []),true,i+1),?_,⟨g4,?_,?_⟩,by simp only;omega⟩
    ·rw [zkB hc,zkD,zjt ht,zam,zas (capT (by omega)),zam]
     exact a5 _ _ (by rw [zkJ,ya6];omega)
    ·simp only [zkJ,ya6]
     split<;>simp<;>omega
    ·simp only
     rw [<- g3]
     simp only [yb9]
   ·rw [if_neg hc,ycn] at g3
    have hb:(b||decide (cmpW t.In o.Traces[i].In=-1))=b:=by
     cases b with
     | true=>rfl
     | false =>
      rw [yej]
      exact zkA fun e=>hc ⟨rfl,e⟩
    rw [hb] at g3
    refine ⟨(y++(if zn9 t o.Traces[i]=true then [o.Traces[i]] else []),b,i+1),?_,⟨g4,?_,?_⟩,by simp only;omega⟩
    ·rw [zkA hc,zkC,zam]
     exact a5 y b (by omega)
    ·simp only [zkJ]
     split<;>simp<;>omega
    ·simp only
     rw [<- g3]
     simp only [yb9]
  ·right
   have e:i=o.Traces.length:=by omega
   subst e
   rw [yd0] at g3
   exact ⟨(y,b),by rw [zfb,zkC],by simp only;omega,g3⟩) fuel ([],d0,0) ⟨yag _,by simp,by simp⟩ (by have:=zav;simp only;omega)
 obtain ⟨⟨y,b⟩,e2,k1,k2⟩:=a4;simp only at k1 k2;rw [e2,zam]
 have a8:zng t d0 o.Traces=addL o.Traces t:=by
  unfold addL;by_cases h:zfo o.Traces t.In=true∨t.In=[]
  ·have h0:d0=true:=by
    rw [<- hd];rcases h with h | h
    ·rw [h,Bool.or_true]
    ·rw [zkB h,Bool.true_or]
   rw [h0,zo1,if_pos h,keep_all hv h]
  ·have h1:zfo o.Traces t.In=false:=by
    cases hi:zfo o.Traces t.In with
    | true=>exact absurd (.inl hi) h
    | false=>rfl
   have h0:d0=false:=by
    rw [<- hd,h1,zkA fun e=>h (.inr e)];rfl
   rw [h0,zq5 _ fun x hx e=>h (.inl (ycp.2 ⟨x,hx,zkB (e ▸ ybu _)⟩)),if_neg h]
 rw [a8] at k2;simp only [zc8.k11];cases b with
 | true =>
  rw [yb8,zkC,zam,<- k2];simp [zng]
 | false =>
  rw [ycb,zkD,zjt ht,zam,zas (capT (by omega)),zam,<- k2];simp [zng]
theorem R16_Add_eq {o:zar} {t:zab} (ho:SmTr o.Traces) (hv:zit o) (ht:SmX t):zhc o t=some (addO o t):=by
 have hl:=ho.1;unfold zhc addO;rw [R16_Proper_eq _ _ ht.1 ht.2,zam];by_cases g1:zsr t o.Inputs=0
 ·rw [zkA (by simpa using g1),zkC,if_neg (by simpa using g1)];have hp:=zo9.1 g1
  have key:=zaw (step:=fun i=>zhc.s2 o t i) (fun i=>i<=o.Traces.length∧∀ u∈o.Traces.take i,Agree u t) (fun i=>o.Traces.length-i) (fun r=>match r with | .inl ()=>¬ clashO o.Traces t | .inr x=>clashO o.Traces t∧x=(o,13)) (fun i ⟨g2,g3⟩=>by
   simp only [zhc.s2]
   by_cases g4:i<o.Traces.length
   ·have hx:=get_at g4
    have a0:=ya2 g4
    obtain ⟨d,hd,a2⟩:=zsv o.Traces[i] t (hv.prop _ a0).1 hp (ho.2 _ a0).1
    rw [zdg hx,zkD,zal hx,hd,zam]
    by_cases g5:0<=d
    ·exact .inr ⟨.inr (o,13),by rw [zkB g5,zkD],⟨_,a0,a2.1 g5⟩,rfl⟩
    ·left
     have hA:Agree o.Traces[i] t:=ya5 fun e=>g5 (a2.2 e)
     refine ⟨i+1,by rw [zkA g5,zkC],⟨g4,fun u hu=>?_⟩,by omega⟩
     rw [zcy hx] at hu
     rcases yak.1 hu with h | h
     ·exact g3 u h
     ·rw [yar.1 h]
      exact hA
   ·right
    have e:i=o.Traces.length:=by omega
    subst e
    rw [ybp] at g3
    exact ⟨.inl (),by rw [zfb,zkC],fun ⟨u,hu,h⟩=>h (g3 u hu)⟩) fuel 0 ⟨yag _,fun u hu=>by simp at hu⟩ (by have:=zav;omega)
  obtain ⟨r,e,hq⟩:=key;rw [e,zam];cases r with
  | inr x =>
   rw [if_pos hq.1,hq.2];rfl
  | inl u =>
   rw [if_neg hq];simp only [ycd];rw [R16_add_eq ho hv ht,zam];simp only;by_cases g2:10000<(addL o.Traces t).length
   ·rw [zkB (by omega),zkD,if_pos g2]
   ·rw [zkA (by omega),zkC,if_neg g2]
 ·rw [zkB g1,zkD,if_pos g1]
end
section
structure zcv (m:zaa):Prop where
 i1:1<=m.Inputs
 i2:m.Inputs<=64
 n1:0<m.Next.length
 n2:m.Next.length<=128
 st:0<=m.Start∧m.Start<(↑m.Next.length:Int)
 ol:m.Out.length=m.Next.length
 row:∀ s,s<m.Next.length->∃ x y,m.Next[s]?=some x∧m.Out[s]?=some y∧(↑x.length:Int)=m.Inputs∧(↑y.length:Int)=m.Inputs∧(∀ u∈x,0<=u∧u<(↑m.Next.length:Int))∧∀ v∈y,0<=v∧v<=1048576
def nx (m:zaa) (s a:Nat):Nat:=((((m.Next[s]?).getD [])[a]?).getD 0).toNat
def ot (m:zaa) (s a:Nat):Int:=(((m.Out[s]?).getD [])[a]?).getD 0
section
variable {m:zaa}
theorem zcv.at (H:zcv m) {s a:Nat} (hs:s<m.Next.length) (ha:a<m.Inputs.toNat):nx m s a<m.Next.length∧0<=ot m s a∧ot m s a<=1048576∧∃ x y,m.Next[s]?=some x∧m.Out[s]?=some y∧x[a]?=some (↑(nx m s a):Int)∧y[a]?=some (ot m s a):=by
 obtain ⟨x,y,h1,h2,h3,h4,h5,h6⟩:=H.row s hs;have hx:=get_at (l:=x) (i:=a) (by omega);have hy:=get_at (l:=y) (i:=a) (by omega)
 have e1:nx m s a=(x[a]'(by omega)).toNat:=by
  unfold nx;rw [h1,yae,hx,yae]
 have e2:ot m s a=y[a]'(by omega):=by
  unfold ot;rw [h2,yae,hy,yae]
 have g1:=h5 _ (ya2 (by omega:a<x.length));have g2:=h6 _ (ya2 (by omega:a<y.length));refine ⟨by rw [e1];omega,by rw [e2];exact g2.1,by rw [e2];exact g2.2,x,y,h1,h2,?_,by rw [e2];exact hy⟩;rw [hx,e1];congr 1;omega
def outs (m:zaa):Nat->yab->yab
 | _,[]=>[]
 | s,a::w=>ot m s a.toNat::outs m (nx m s a.toNat) w
def dest (m:zaa):Nat->yab->Nat
 | s,[]=>s
 | s,a::w=>dest m (nx m s a.toNat) w
def WOk (n:Int) (w:yab):Prop:=∀ a∈w,0<=a∧a<n
theorem zfz:∀ (w v:yab) (s:Nat),outs m s (w++v)=outs m s w++outs m (dest m s w) v
 | [],_,_=>rfl
 | a::w,v,s=>by
  show ot m s a.toNat::outs m (nx m s a.toNat) (w++v)=_;rw [zfz w v];rfl
theorem zes:∀ (w v:yab) (s:Nat),dest m s (w++v)=dest m (dest m s w) v
 | [],_,_=>rfl
 | _::w,v,_=>zes w v _
theorem zg0:∀ (w:yab) (s:Nat),(outs m s w).length=w.length
 | [],_=>rfl
 | a::w,s=>by
  show (outs m (nx m s a.toNat) w).length+1=w.length+1;rw [zg0 w]
theorem WOk.tail {n:Int} {a:Int} {w:yab} (h:WOk n (a::w)):WOk n w:=fun x hx=>h x (yay _ hx)
theorem WOk.head {n:Int} {a:Int} {w:yab} (h:WOk n (a::w)):0<=a∧a<n:=h a (by simp)
theorem WOk.take {n:Int} {w:yab} (h:WOk n w) (k:Nat):WOk n (w.take k):=fun x hx=>h x (ybg hx)
theorem WOk.append {n:Int} {w v:yab} (h:WOk n w) (g:WOk n v):WOk n (w++v):=fun x hx=>(yak.1 hx).elim (h x) (g x)
theorem zcv.dest (H:zcv m):∀ {w:yab} {s:Nat},WOk m.Inputs w->s<m.Next.length->dest m s w<m.Next.length
 | [],_,_,hs=>hs
 | a::w,s,hw,hs=>by
  have:=hw.head;exact H.dest (w:=w) hw.tail (H.at hs (a:=a.toNat) (by omega)).1
theorem R06_Outs_eq (H:zcv m) {s:Nat} (hs:s<m.Next.length) {w:yab} (hw:WOk m.Inputs w) (hl:w.length<=100000000):zel m (↑s:Int) w=some (outs m s w,(↑(dest m s w):Int)):=by
 unfold zel
 have key:=ze7 (step:=fun (q:Int×yab×Nat)=>zel.s2 m w q.1 q.2.1 q.2.2) (r:=((↑(dest m s w):Int),outs m s w)) (fun q=>q.2.2<=w.length∧q.1=(↑(dest m s (w.take q.2.2)):Int)∧q.2.1=outs m s (w.take q.2.2)) (fun q=>w.length-q.2.2) (fun q ⟨g1,g2,g3⟩=>by
  obtain ⟨st,y,k⟩:=q
  simp only at g1 g2 g3
  subst g2
  subst g3
  simp only [zel.s2]
  by_cases g4:k<w.length
  ·left
   have hx:=get_at g4
   obtain ⟨x0,x1⟩:=hw _ (ya2 g4)
   have ha:w[k].toNat<m.Inputs.toNat:=by omega
   have hd:Sym.dest m s (w.take k)<m.Next.length:=H.dest (hw.take k) hs
   obtain ⟨_,_,_,x,y,e1,e2,e3,e4⟩:=H.at hd ha
   refine ⟨((↑(Sym.dest m s (w.take (k+1))):Int),outs m s (w.take (k+1)),k+1),?_,⟨g4,rfl,rfl⟩,by simp only;omega⟩
   rw [zdg hx,zkD,zbb rfl e2,zal hx,zbb (i:=w[k].toNat) (by omega) e4,zas (by unfold zaz;rw [zg0,yaz];omega),zbb rfl e1,zal hx,zbb (i:=w[k].toNat) (by omega) e3,zcy hx,zes,zfz]
   rfl
  ·right
   have e:k=w.length:=by omega
   subst e
   rw [zkA (by omega),zkC,ybp]) (n:=fuel) (s:=((↑s:Int),[],0)) ⟨yag _,rfl,rfl⟩ (by have:=zav;simp only;omega)
 rw [key,zam];rfl
def RowRng (n:Nat) (u v:Int):Prop:=(0<=u∧u<(↑n:Int))∧0<=v∧v<=1048576
theorem R06_row_tot (h1:m.Inputs<=64) {s:Nat} (hs:s<m.Next.length) (ho:m.Out.length=m.Next.length):∃ e,zfm m (↑s:Int)=some e∧(e=0->∃ x y,m.Next[s]?=some x∧m.Out[s]?=some y∧(↑x.length:Int)=m.Inputs∧(↑y.length:Int)=m.Inputs∧(∀ u∈x,0<=u∧u<(↑m.Next.length:Int))∧∀ v∈y,0<=v∧v<=1048576):=by
 obtain ⟨x,hx⟩:∃ x,m.Next[s]?=some x:=⟨_,get_at hs⟩;obtain ⟨y,hy⟩:∃ y,m.Out[s]?=some y:=⟨_,get_at (l:=m.Out) (i:=s) (by omega)⟩;unfold zfm;rw [zbb rfl hx];by_cases g1:(↑x.length:Int)=m.Inputs
 ·by_cases g2:(↑y.length:Int)=m.Inputs
  ·rw [zkA (fun h=>h g1),zkC,zbb rfl hy,zkA (fun h=>h g2),zam,zkC]
   obtain ⟨r,hr,hq⟩:=zaw (step:=fun a=>zfm.s2 m (↑s:Int) a) (fun a=>a<=x.length∧∀ b u v,b<a->x[b]?=some u->y[b]?=some v->RowRng m.Next.length u v) (fun a=>x.length-a) (fun r=>r=.inr 2∨(r=.inl ()∧∀ b u v,b<x.length->x[b]?=some u->y[b]?=some v->RowRng m.Next.length u v)) (fun a ⟨q1,q2⟩=>by
    simp only [zfm.s2]
    by_cases q3:a<x.length
    ·obtain ⟨u,ha⟩:∃ u,x[a]?=some u:=⟨_,get_at q3⟩
     obtain ⟨v,hb⟩:∃ v,y[a]?=some v:=⟨_,get_at (l:=y) (i:=a) (by omega)⟩
     rw [zkB (by omega),zkD,zbb rfl hx,zal ha]
     by_cases z1:u<0
     ·right
      exact ⟨.inr 2,by rw [zkB z1];rfl,Or.inl rfl⟩
     rw [zkA z1,zkC,zbb rfl hx,zal ha]
     by_cases z2:(↑m.Next.length:Int)<=u
     ·right
      exact ⟨.inr 2,by rw [zkB z2];rfl,Or.inl rfl⟩
     rw [zkA z2,zkC,zbb rfl hy,zal hb]
     by_cases z3:v<0
     ·right
      exact ⟨.inr 2,by rw [zkB z3];rfl,Or.inl rfl⟩
     rw [zkA z3,zkC,zbb rfl hy,zal hb]
     by_cases z4:1048576<v
     ·right
      exact ⟨.inr 2,by rw [zkB z4];rfl,Or.inl rfl⟩
     left
     refine ⟨a+1,by rw [zkA z4,zam,zkC,zas (by unfold inR;omega)],⟨q3,fun b u' v' a0 hu hv=>?_⟩,by omega⟩
     rcases yat b a with h | h
     ·exact q2 b u' v' h hu hv
     ·have e:b=a:=by omega
      subst e
      rw [ha] at hu
      rw [hb] at hv
      injection hu with hu
      injection hv with hv
      subst hu
      subst hv
      exact ⟨⟨by omega,by omega⟩,by omega,by omega⟩
    ·right
     have e:a=x.length:=by omega
     subst e
     exact ⟨.inl (),by rw [zkA (by omega),zkC],Or.inr ⟨rfl,q2⟩⟩) fuel 0 ⟨yag _,fun b _ _ h=>absurd h (ybe _)⟩ (by have:=zav;omega)
   rw [hr,zam];rcases hq with rfl | ⟨rfl,hq⟩
   ·exact ⟨2,rfl,fun h=>by cases h⟩
   ·refine ⟨0,rfl,fun _=>⟨x,y,hx,hy,g1,g2,fun u hu=>?_,fun v hv=>?_⟩⟩
    ·obtain ⟨b,hb,rfl⟩:=yb3.1 hu;exact (hq b _ _ hb (get_at hb) (get_at (l:=y) (by omega))).1
    ·obtain ⟨b,hb,rfl⟩:=yb3.1 hv;exact (hq b _ _ (by omega) (get_at (l:=x) (by omega)) (get_at hb)).2
  ·exact ⟨1,by rw [zkA (fun h=>h g1),zkC,zbb rfl hy,zkB g2];rfl,fun h=>by cases h⟩
 ·exact ⟨1,by rw [zkB g1];rfl,fun h=>by cases h⟩
theorem R06_Valid_tot (m:zaa):∃ e,zcs m=some e∧(e=0->zcv m):=by
 unfold zcs;by_cases c1:m.Inputs<1
 ·exact ⟨2,by rw [zkB c1];rfl,fun h=>by cases h⟩
 rw [zkA c1,zkC];by_cases c2:64<m.Inputs
 ·exact ⟨2,by rw [zkB c2];rfl,fun h=>by cases h⟩
 rw [zkA c2,zam,zkC];by_cases c3:(↑m.Next.length:Int)=0
 ·exact ⟨19,by rw [zkB c3];rfl,fun h=>by cases h⟩
 rw [zkA c3,zkC];by_cases c4:128<(↑m.Next.length:Int)
 ·exact ⟨11,by rw [zkB c4];rfl,fun h=>by cases h⟩
 rw [zkA c4,zkC];by_cases c5:m.Start<0
 ·exact ⟨2,by rw [zkB c5];rfl,fun h=>by cases h⟩
 rw [zkA c5,zkC];by_cases c6:(↑m.Next.length:Int)<=m.Start
 ·exact ⟨2,by rw [zkB c6];rfl,fun h=>by cases h⟩
 rw [zkA c6,zam,zkC];by_cases c7:(↑m.Out.length:Int)=(↑m.Next.length:Int)
 ·rw [zkA (fun h=>h c7),zkC];have ho:m.Out.length=m.Next.length:=by omega
  obtain ⟨r,hr,hq⟩:=zaw (step:=fun s=>zcs.s2 m s) (fun a=>a<=m.Next.length∧∀ s,s<a->∃ x y,m.Next[s]?=some x∧m.Out[s]?=some y∧(↑x.length:Int)=m.Inputs∧(↑y.length:Int)=m.Inputs∧(∀ u∈x,0<=u∧u<(↑m.Next.length:Int))∧∀ v∈y,0<=v∧v<=1048576) (fun a=>m.Next.length-a) (fun r=>(∃ e,r=.inr e∧e≠0)∨(r=.inl ()∧∀ s,s<m.Next.length->∃ x y,m.Next[s]?=some x∧m.Out[s]?=some y∧(↑x.length:Int)=m.Inputs∧(↑y.length:Int)=m.Inputs∧(∀ u∈x,0<=u∧u<(↑m.Next.length:Int))∧∀ v∈y,0<=v∧v<=1048576)) (fun a ⟨q1,q2⟩=>by
   simp only [zcs.s2]
   by_cases q3:a<m.Next.length
   ·obtain ⟨e,he,hz⟩:=R06_row_tot (m:=m) (by omega) q3 ho
    rw [zkB (by omega),zkD,he,zam]
    by_cases z:e=0
    ·left
     refine ⟨a+1,by rw [zkA (fun h=>h z),zkC],⟨q3,fun s hs=>?_⟩,by omega⟩
     rcases yat s a with h | h
     ·exact q2 s h
     ·have e2:s=a:=by omega
      subst e2
      exact hz z
    ·right
     exact ⟨.inr e,by rw [zkB z,zkD],Or.inl ⟨e,rfl,z⟩⟩
   ·right
    have e:a=m.Next.length:=by omega
    subst e
    exact ⟨.inl (),by rw [zkA (by omega),zkC],Or.inr ⟨rfl,q2⟩⟩) fuel 0 ⟨yag _,fun s h=>absurd h (ybe _)⟩ (by have:=zav;omega)
  rw [hr,zam];rcases hq with ⟨e,rfl,hz⟩ | ⟨rfl,hq⟩
  ·exact ⟨e,rfl,fun h=>absurd h hz⟩
  ·exact ⟨0,rfl,fun _=>⟨by omega,by omega,by omega,by omega,⟨by omega,by omega⟩,ho,hq⟩⟩
 ·exact ⟨1,by rw [zkB c7];rfl,fun h=>by cases h⟩
theorem macOk_of (h:zcs m=some 0):zcv m:=by
 obtain ⟨e,he,hz⟩:=R06_Valid_tot m;rw [h] at he;injection he with he
 exact hz he.symm
end
end
section
theorem zs6 {m:zaa} (H:zcv m):zbn m=some 0:=by
 have i1:=H.i1;have i2:=H.i2;have n1:=H.n1;have n2:=H.n2;have st:=H.st;have ol:=H.ol;unfold zbn;rw [zkA (by omega),zkC,zkA (by omega),zam,zkC,zkA (by omega),zkC,zkA (by omega),zkC,zkA (by omega),zkC,zkA (by omega),zam,zkC,zkA (by omega),zkC]
 have a0:∀ s,s<m.Next.length->iter (fun (a:Nat)=>zbn.s13 m s a) fuel 0=some (.inl ()):=fun s hs =>
  ze7 (fun a=>a<=m.Inputs.toNat) (fun a=>m.Inputs.toNat-a) (fun a ha=>by
   simp only [zbn.s13]
   by_cases g:a<m.Inputs.toNat
   ·left
    obtain ⟨h1,h2,h3,x,y,hx,hy,a4,a3⟩:=H.at hs g
    refine ⟨a+1,?_,g,by omega⟩
    rw [zkB (by omega),zkD,zal hx,zal a4,zal hy,zal a3,zkA (by omega),zkC,zkA (by omega),zkC,zkA (by omega),zkC,zkA (by omega),zam,zkC,zas (by unfold inR;omega)]
   ·right
    rw [zkA (by omega),zkC]) (yag _) (by have:=zav;omega)
 have a2:iter (fun (s:Nat)=>zbn.s14 m s) fuel 0=some (.inl ()) :=
  ze7 (fun s=>s<=m.Next.length) (fun s=>m.Next.length-s) (fun s hs=>by
   simp only [zbn.s14]
   by_cases g:s<m.Next.length
   ·left
    obtain ⟨x,y,hx,hy,a5,a6,_,_⟩:=H.row s g
    refine ⟨s+1,?_,g,by omega⟩
    rw [zkB (by omega),zkD,zal hx,zkA (by omega),zkC,zal hy,zkA (by omega),zam,zkC,a0 s g,zam]
    rfl
   ·right
    rw [zkA (by omega),zkC]) (yag _) (by have:=zav;omega)
 rw [a2,zam];rfl
abbrev costOk (l:zoj):Prop:=(∀ c∈l.Step,0<=c∧c<=1048576)∧0<=l.Reset∧l.Reset<=1048576
abbrev cntOk (n:Int):Prop:=0<=n∧n<=1125899906842624
abbrev faultOk (f:zpk):Prop:=(0<=f.Lost∧f.Lost<=10000)∧(0<=f.Wrong∧f.Wrong<=10000)∧(0<=f.Crash∧f.Crash<=10000)∧f.Lost+f.Wrong+f.Crash<=10000
structure DevOk (d:zif):Prop where
 v6:zcs d.M=some 0
 st:0<=d.State∧d.State<(↑d.M.Next.length:Int)
 ll:(↑d.Latency.Step.length:Int)=d.M.Inputs
 lc:costOk d.Latency
 fl:faultOk d.Faults
 c1:cntOk d.Steps
 c2:cntOk d.Resets
 c3:cntOk d.Time
section
variable {d:zif}
end
end
section
theorem scan_map {α R R':Type} {g:Nat->α->Option R} {f:R->R'}:∀ (l:List α) (j:Nat),scan (fun i x=>(g i x).map f) j l=(scan g j l).map f
 | [],_=>rfl
 | x::l,j=>by
  unfold scan;cases g j x with
  | some r=>rfl
  | none=>exact scan_map l (j+1)
theorem scan_mem {α R:Type} {g:Nat->α->Option R} {r:R}:∀ {l:List α} {j:Nat},scan g j l=some r->∃ i x,l[i]?=some x∧g (j+i) x=some r
 | [],_,h=>by cases h
 | x::l,j,h=>by
  unfold scan at h;cases e:g j x with
  | some q =>
   rw [e] at h;exact ⟨0,x,rfl,by rw [yca,e];exact h⟩
  | none =>
   rw [e] at h;obtain ⟨i,y,h1,h2⟩:=scan_mem (j:=j+1) h;exact ⟨i+1,y,by simpa using h1,by rw [show j+(i+1)=j+1+i by omega,h2]⟩
def celE (n:Nat) (u v:Int):Option Int:=if u<0∨(↑n:Int)<=u∨v<0∨1048576<v then some 2 else none
def rowE (m:zaa) (s:Nat) (x:yab):Option Int :=
 if (↑x.length:Int)≠m.Inputs∨(↑((m.Out[s]?).getD []).length:Int)≠m.Inputs then some 1 else scan (fun a u=>celE m.Next.length u ((((m.Out[s]?).getD [])[a]?).getD 0)) 0 x
def ze5 (m:zaa):Int :=
 if m.Inputs<1∨64<m.Inputs then 2 else if m.Next.length=0 then 19 else if 128<m.Next.length then 11 else if m.Start<0∨(↑m.Next.length:Int)<=m.Start then 2 else if m.Out.length≠m.Next.length then 1
 else match scan (rowE m) 0 m.Next with | some e=>e | none=>0
section
variable {m:zaa}
theorem rowE_ne {s:Nat} {x:yab} {e:Int} (h:rowE m s x=some e):e≠0:=by
 unfold rowE at h;split at h
 ·injection h with h
  omega
 ·obtain ⟨i,u,_,h2⟩:=scan_mem h;unfold celE at h2;split at h2
  ·injection h2 with h2
   omega
  ·cases h2
theorem cel_cond {n:Nat} {u v:Int}:(cond (decide (u<0)) (some true) (cond (decide ((↑n:Int)<=u)) (some true) (cond (decide (v<0)) (some true) (some (decide (1048576<v))))):Option Bool)=some (celE n u v).isSome:=by
 unfold celE;by_cases h1:u<0<;>by_cases h2:(↑n:Int)<=u<;>by_cases h3:v<0<;>by_cases h4:1048576<v<;>simp [h1,h2,h3,h4]
theorem celE_two {n:Nat} {u v:Int}:celE n u v=if (celE n u v).isSome=true then some 2 else none:=by
 unfold celE;split<;>rfl
theorem row_len {s:Nat} {x y:yab} (hx:m.Next[s]?=some x) (hy:m.Out[s]?=some y) :
  (idxn m.Next s fun a2=>cond (decide ((↑a2.length:Int)≠m.Inputs)) (some true) (idxn m.Out s fun a6=>some (decide ((↑a6.length:Int)≠m.Inputs))):Option Bool)=some (decide ((↑x.length:Int)≠m.Inputs∨(↑y.length:Int)≠m.Inputs)):=by
 rw [zal hx];by_cases h:(↑x.length:Int)=m.Inputs
 ·rw [zkA (fun k=>k h),zkC,zal hy];simp [h]
 ·rw [zkB h,zkD];simp [h]
theorem idx_nat {α β:Type} {l:List α} {i:Nat} {k:α->Option β}:idx l (↑i:Int) k=idxn l i k:=by
 cases h:l[i]? with
 | some x=>rw [zbb rfl h,zal h]
 | none =>
  unfold idx idxn;rw [h,if_pos (by omega),yah,h]
theorem R06_row_eq (hi:m.Inputs<=64) {s:Nat} {x y:yab} (hx:m.Next[s]?=some x) (hy:m.Out[s]?=some y):zfm m (↑s:Int)=some (match rowE m s x with | some e=>e | none=>0):=by
 unfold zfm;rw [idx_nat];simp only [idx_nat];rw [row_len hx hy,zam];unfold rowE;rw [hy,yae];by_cases h:(↑x.length:Int)≠m.Inputs∨(↑y.length:Int)≠m.Inputs
 ·rw [zkB h,zkD,if_pos h]
 ·rw [zkA h,zkC,if_neg h];have h1:(↑x.length:Int)=m.Inputs:=ya5 fun q=>h (Or.inl q);have h2:(↑y.length:Int)=m.Inputs:=ya5 fun q=>h (Or.inr q);rw [zeg (l:=x) (fun a u=>celE m.Next.length u ((y[a]?).getD 0)) (fun a u hu=>?_) ?_ (by omega),zam]
  ·cases scan (fun a u=>celE m.Next.length u ((y[a]?).getD 0)) 0 x<;>rfl
  ·simp only [zfm.s2];rw [zkA (by omega),zkC]
  ·have ha:=(zkI.1 hu).1;have hv:y[a]?=some y[a]:=get_at (by omega);rw [hv,yae];simp only [zfm.s2,idx_nat];rw [zkB (by omega),zkD];simp only [zal hx,zal hy,zal hu,zal hv];rw [cel_cond,zam];cases e:celE m.Next.length u y[a] with
   | none =>
    rw [yd8,zkC,zas (by unfold inR;omega)]
   | some r =>
    have:=celE_two (n:=m.Next.length) (u:=u) (v:=y[a]);rw [e] at this;injection this with this
    rw [this,yey,zkD]
theorem mealy_row_eq (hi:m.Inputs<=64) {s:Nat} {x y:yab} (hx:m.Next[s]?=some x) (hy:m.Out[s]?=some y):zbn.s14 m s=some (match rowE m s x with | some e=>.inr (.inr e) | none=>.inl (s+1)):=by
 have hs:=(zkI.1 hx).1;simp only [zbn.s14];rw [zkB (by omega),zkD,row_len hx hy,zam];unfold rowE;rw [hy,yae];by_cases h:(↑x.length:Int)≠m.Inputs∨(↑y.length:Int)≠m.Inputs
 ·rw [zkB h,zkD,if_pos h]
 ·rw [zkA h,zkC,if_neg h];have h1:(↑x.length:Int)=m.Inputs:=ya5 fun q=>h (Or.inl q);have h2:(↑y.length:Int)=m.Inputs:=ya5 fun q=>h (Or.inr q);rw [zeg (l:=x) (fun a u=>(celE m.Next.length u ((y[a]?).getD 0)).map fun r=>(.inr (.inr r):Nat⊕(Unit⊕Int))) (fun a u hu=>?_) ?_ (by omega),zam,scan_map]
  ·cases scan (fun a u=>celE m.Next.length u ((y[a]?).getD 0)) 0 x<;>rfl
  ·simp only [zbn.s13];rw [zkA (by omega),zkC]
  ·have ha:=(zkI.1 hu).1;have hv:y[a]?=some y[a]:=get_at (by omega);rw [hv,yae];simp only [zbn.s13];rw [zkB (by omega),zkD];simp only [zal hx,zal hy,zal hu,zal hv];rw [cel_cond,zam];cases e:celE m.Next.length u y[a] with
   | none =>
    rw [yd8,zkC,zas (by unfold inR;omega)];rfl
   | some r =>
    have:=celE_two (n:=m.Next.length) (u:=u) (v:=y[a]);rw [e] at this;injection this with this
    rw [this,yey,zkD];rfl
theorem zig (m:zaa):zcs m=some (ze5 m):=by
 unfold zcs ze5;by_cases c1:m.Inputs<1
 ·rw [zkB c1,if_pos (Or.inl c1)];rfl
 rw [zkA c1,zkC];by_cases c2:64<m.Inputs
 ·rw [zkB c2,if_pos (Or.inr c2)];rfl
 rw [zkA c2,zam,zkC,if_neg (by omega)];by_cases c3:m.Next.length=0
 ·rw [zkB (by omega),if_pos c3];rfl
 rw [zkA (by omega),zkC,if_neg c3];by_cases c4:128<m.Next.length
 ·rw [zkB (by omega),if_pos c4];rfl
 rw [zkA (by omega),zkC,if_neg c4];by_cases c5:m.Start<0
 ·rw [zkB c5,if_pos (Or.inl c5)];rfl
 rw [zkA c5,zkC];by_cases c6:(↑m.Next.length:Int)<=m.Start
 ·rw [zkB c6,if_pos (Or.inr c6)];rfl
 rw [zkA c6,zam,zkC,if_neg (by omega)];by_cases c7:m.Out.length=m.Next.length
 ·rw [zkA (by omega),zkC,if_neg (by omega),zeg (l:=m.Next) (rowE m) (fun s x hx=>?_) ?_ (by omega),zam]
  ·cases scan (rowE m) 0 m.Next<;>rfl
  ·simp only [zcs.s2];rw [zkA (by omega),zkC]
  ·have hs:=(zkI.1 hx).1;simp only [zcs.s2];rw [zkB (by omega),zkD,R06_row_eq (by omega) hx (get_at (l:=m.Out) (by omega)),zam];cases e:rowE m s x with
   | none=>rfl
   | some r=>rw [zkB (rowE_ne e),zkD]
 ·rw [zkB (by omega),if_pos c7];rfl
theorem zdr (m:zaa):zbn m=some (ze5 m):=by
 unfold zbn ze5;by_cases c1:m.Inputs<1
 ·rw [zkB c1,if_pos (Or.inl c1)];rfl
 rw [zkA c1,zkC];by_cases c2:64<m.Inputs
 ·rw [zkB c2,if_pos (Or.inr c2)];rfl
 rw [zkA c2,zam,zkC,if_neg (by omega)];by_cases c3:m.Next.length=0
 ·rw [zkB (by omega),if_pos c3];rfl
 rw [zkA (by omega),zkC,if_neg c3];by_cases c4:128<m.Next.length
 ·rw [zkB (by omega),if_pos c4];rfl
 rw [zkA (by omega),zkC,if_neg c4];by_cases c5:m.Start<0
 ·rw [zkB c5,if_pos (Or.inl c5)];rfl
 rw [zkA c5,zkC];by_cases c6:(↑m.Next.length:Int)<=m.Start
 ·rw [zkB c6,if_pos (Or.inr c6)];rfl
 rw [zkA c6,zam,zkC,if_neg (by omega)];by_cases c7:m.Out.length=m.Next.length
 ·rw [zkA (by omega),zkC,if_neg (by omega),zeg (l:=m.Next) (rowE m) (fun s x hx=>?_) ?_ (by omega),zam]
  ·cases scan (rowE m) 0 m.Next<;>rfl
  ·simp only [zbn.s14];rw [zkA (by omega),zkC]
  ·have hs:=(zkI.1 hx).1;rw [mealy_row_eq (by omega) hx (get_at (l:=m.Out) (by omega))];cases rowE m s x<;>rfl
 ·rw [zkB (by omega),if_pos c7];rfl
theorem zfv (h:ze5 m=0):zcv m:=macOk_of (by rw [zig,h])
end
end
section
section
variable {m:zaa} {ids:List (yaa)} {w:yab}
end
end
section
section
variable {A:Type} [DecidableEq A]
def bfsB (e:A->Nat->A) (K:Nat) (s0:A):Nat->List (A×yab)
 | 0=>[(s0,[])]
 | r+1=>match (bfsB e K s0 r)[r / K]? with
  | none=>bfsB e K s0 r
  | some x=>if e x.1 (r%K)∈(bfsB e K s0 r).map Prod.fst then bfsB e K s0 r else bfsB e K s0 r++[(e x.1 (r%K),x.2++[(↑(r%K):Int)])]
theorem zix {K i a:Nat} (h:a<K):(i*K+a) / K=i:=by
 rw [ydf,Nat.add_mul_div_right _ _ (by omega),Nat.div_eq_of_lt h,yai]
theorem zru {K i a:Nat} (h:a<K):(i*K+a)%K=a:=by
 rw [ydf,Nat.add_mul_mod_self_right,ye5 h]
theorem zjh {i n a K:Nat} (hi:i<n) (ha:a<K):i*K+a<n*K:=by
 have:(i+1)*K<=n*K:=yb0 K hi;rw [yc9] at this;omega
variable {e:A->Nat->A} {K:Nat} {s0:A}
theorem bfs_step {i a:Nat} {x:A×yab} (ha:a<K) (hx:(bfsB e K s0 (i*K+a))[i]?=some x) :
  bfsB e K s0 (i*K+(a+1))=if e x.1 a∈(bfsB e K s0 (i*K+a)).map Prod.fst then bfsB e K s0 (i*K+a) else bfsB e K s0 (i*K+a)++[(e x.1 a,x.2++[(↑a:Int)])]:=by
 show bfsB e K s0 ((i*K+a)+1)=_;rw [bfsB,zix ha,hx,zru ha]
theorem zqj (r:Nat):bfsB e K s0 r <+: bfsB e K s0 (r+1):=by
 rw [bfsB];split
 ·exact ybu _
 ·split
  ·exact ybu _
  ·exact List.prefix_append _ _
theorem zgw {r:Nat}:∀ {r':Nat},r<=r'->bfsB e K s0 r <+: bfsB e K s0 r'
 | 0,h=>by
  have:r=0:=by omega
  subst this;exact ybu _
 | r'+1,h=>by
  rcases yat r (r'+1) with g | g
  ·exact (zgw (r':=r') (by omega)).trans (zqj r')
  ·have:r=r'+1:=by omega
   subst this;exact ybu _
theorem zeo {α:Type} {l l':List α} (h:l <+: l') {i:Nat} {x:α} (hx:l[i]?=some x):l'[i]?=some x:=by
 obtain ⟨t,rfl⟩:=h;rw [yan (zkI.1 hx).1,hx]
theorem zon (r:Nat):(bfsB e K s0 r)[0]?=some (s0,[]):=zeo (zgw (yag r)) rfl
theorem zi8:∀ r:Nat,((bfsB e K s0 r).map Prod.fst).Nodup
 | 0=>by simp [bfsB]
 | r+1=>by
  have ih:=zi8 r;rw [bfsB];split
  ·exact ih
  ·split
   ·exact ih
   ·rename_i x _ hn;rw [ya9,ybi];refine ⟨ih,by simp,fun a ha b hb hab=>hn ?_⟩;have:b=e x.1 (r%K):=by simpa using hb
    rw [<- this,<- hab];exact ha
theorem zjy:∀ {r u:Nat} {x:A×yab},(bfsB e K s0 r)[u]?=some x->u=0∨∃ r' y,r'<r∧r' / K<u∧(bfsB e K s0 r)[r' / K]?=some y∧x=(e y.1 (r'%K),y.2++[(↑(r'%K):Int)])
 | 0,u,x,h=>by
  left;have:=(zkI.1 h).1;simp [bfsB] at this;exact this
 | r+1,u,x,h=>by
  have old:(bfsB e K s0 r)[u]?=some x->u=0∨∃ r' y,r'<r+1∧r' / K<u∧(bfsB e K s0 (r+1))[r' / K]?=some y∧x=(e y.1 (r'%K),y.2++[(↑(r'%K):Int)]):=fun h=>by
   rcases zjy h with h | ⟨r',y,h1,h2,h3,h4⟩
   ·exact Or.inl h
   ·exact Or.inr ⟨r',y,by omega,h2,zeo (zqj r) h3,h4⟩
  have hh:=h;rw [bfsB] at h;split at h
  ·exact old h
  ·rename_i y hy;split at h
   ·exact old h
   ·rename_i hn;rcases yat u (bfsB e K s0 r).length with g | g
    ·rw [yan g] at h;exact old h
    ·right;rw [yax g] at h
     have hu:u-(bfsB e K s0 r).length=0:=by
      have:=(zkI.1 h).1;simpa using this
     rw [hu] at h
     have hx:x=(e y.1 (r%K),y.2++[(↑(r%K):Int)]):=by
      simp at h;exact h.symm
     have hk:=(zkI.1 hy).1;exact ⟨r,y,by omega,by omega,zeo (zqj r) hy,hx⟩
theorem bfs_to {r:Nat} {x:A×yab} (hx:(bfsB e K s0 r)[r / K]?=some x):e x.1 (r%K)∈(bfsB e K s0 (r+1)).map Prod.fst:=by
 rw [bfsB,hx];simp only;split
 ·assumption
 ·simp
structure zgf (e:A->Nat->A) (K:Nat) (s0:A) (L:List (A×yab)):Prop where
 eq:L=bfsB e K s0 (L.length*K)
variable {L:List (A×yab)}
theorem zgf.at (h:zgf e K s0 L) {r:Nat} (hr:r<=L.length*K):bfsB e K s0 r <+: L:=by
 have:=zgw (e:=e) (K:=K) (s0:=s0) hr;rw [<- h.eq] at this;exact this
theorem zgf.first (h:zgf e K s0 L):L[0]?=some (s0,[]):=by
 rw [h.eq];exact zon _
theorem zgf.nodup (h:zgf e K s0 L):(L.map Prod.fst).Nodup:=by
 rw [h.eq];exact zi8 _
theorem zgf.long (h:zgf e K s0 L) {i a:Nat} (hi:i<L.length) (ha:a<K):∃ x,L[i]?=some x∧(bfsB e K s0 (i*K+a))[i]?=some x:=by
 refine ⟨_,zkM hi,?_⟩;have a2:=h.at (r:=i*K+a) (by have:=zjh hi ha;omega);rcases yat i (bfsB e K s0 (i*K+a)).length with g | g
 ·have:=zeo a2 (zkM g);rw [zkM hi] at this;rw [zkM g,this]
 ·exfalso
  have a0:∀ d,bfsB e K s0 (i*K+a+d)=bfsB e K s0 (i*K+a):=by
   intro d
   induction d with
   | zero=>rfl
   | succ d ih =>
    show bfsB e K s0 (i*K+a+d+1)=_;rw [bfsB,ih,yaq ?_];have h1:(i*K+a) / K<=(i*K+a+d) / K:=yd2 (by omega);rw [zix ha] at h1;omega
  have h2:=a0 (L.length*K-(i*K+a));rw [show i*K+a+(L.length*K-(i*K+a))=L.length*K by have:=zjh hi ha;omega,<- h.eq] at h2;rw [<- h2] at g;omega
theorem zgf.closed (h:zgf e K s0 L) {i a:Nat} {x:A×yab} (hx:L[i]?=some x) (ha:a<K):∃ j y,L[j]?=some y∧y.1=e x.1 a∧∀ u,0<u->u<=j->∃ i' a' z w,a'<K∧i'*K+a'<=i*K+a∧i'<u∧L[i']?=some z∧L[u]?=some w∧w.1=e z.1 a':=by
 have hi:=(zkI.1 hx).1;obtain ⟨x',h1,h2⟩:=h.long hi ha;rw [hx] at h1;injection h1 with h1
 subst h1;have a7:=zjh hi ha;have a0:=h.at (r:=i*K+a+1) (by omega);have h3:=bfs_to (e:=e) (K:=K) (s0:=s0) (r:=i*K+a) (x:=x) (by rw [zix ha];exact h2);rw [zru ha] at h3;obtain ⟨y,hy,a4⟩:=yao.1 h3;obtain ⟨j,hj,a5⟩:=yb3.1 hy;have a2:(bfsB e K s0 (i*K+a+1))[j]?=some y:=by rw [zkM hj,a5]
 refine ⟨j,y,zeo a0 a2,a4,fun u hu a6=>?_⟩;have a3:u<(bfsB e K s0 (i*K+a+1)).length:=by omega
 have hw:=zkM a3;rcases zjy hw with q | ⟨r',z,q1,q2,q3,q4⟩
 ·omega
 ·have hK:0<K:=by omega
  refine ⟨r' / K,r'%K,z,_,yc3 _ hK,?_,q2,zeo a0 q3,zeo a0 hw,by rw [q4]⟩;have:=ydn r' K;rw [yc7] at this;omega
theorem zgf.from (h:zgf e K s0 L) (hK:0<K) {u:Nat} {x:A×yab} (hx:L[u]?=some x):u=0∨∃ i a y,i<u∧a<K∧L[i]?=some y∧x=(e y.1 a,y.2++[(↑a:Int)]):=by
 have a0:=hx;rw [h.eq] at a0;rcases zjy a0 with q | ⟨r',z,q1,q2,q3,q4⟩
 ·exact Or.inl q
 ·rw [<- h.eq] at q3;exact Or.inr ⟨r' / K,r'%K,z,q2,yc3 _ hK,q3,q4⟩
end
end
section
def E (m:zaa):Nat->Nat->Nat->Prop
 | 0,_,_=>True
 | k+1,s,t=>E m k s t∧∀ a,a<m.Inputs.toNat->ot m s a=ot m t a∧E m k (nx m s a) (nx m t a)
section
variable {m:zaa}
theorem E_refl:∀ (k s:Nat),E m k s s
 | 0,_=>trivial
 | k+1,s=>⟨E_refl k s,fun _ _=>⟨rfl,E_refl k _⟩⟩
theorem zpg:∀ {k s t:Nat},E m k s t->E m k t s
 | 0,_,_,_=>trivial
 | _+1,_,_,h=>⟨zpg h.1,fun a ha=>⟨(h.2 a ha).1.symm,zpg (h.2 a ha).2⟩⟩
theorem zil:∀ {k s t u:Nat},E m k s t->E m k t u->E m k s u
 | 0,_,_,_,_,_=>trivial
 | _+1,_,_,_,h,g=>⟨zil h.1 g.1,fun a ha=>⟨(h.2 a ha).1.trans (g.2 a ha).1,zil (h.2 a ha).2 (g.2 a ha).2⟩⟩
theorem E_mono {k j s t:Nat} (hk:k<=j) (h:E m j s t):E m k s t:=by
 induction j with
 | zero =>
  have e:k=0:=by omega
  subst e;exact h
 | succ j ih =>
  rcases yat k (j+1) with h1 | h1
  ·exact ih (by omega) h.1
  ·have e:k=j+1:=by omega
   subst e;exact h
theorem E_outs:∀ {w:yab} {s t:Nat},E m w.length s t->WOk m.Inputs w->outs m s w=outs m t w
 | [],_,_,_,_=>rfl
 | a::w,s,t,h,hw=>by
  have ha:=hw.head;obtain ⟨h1,h2⟩:=h.2 a.toNat (by omega);show ot m s a.toNat::outs m _ w=ot m t a.toNat::outs m _ w;rw [h1,E_outs (w:=w) h2 hw.tail]
theorem zku:∀ {k s t:Nat},(∀ w,w.length<=k->WOk m.Inputs w->outs m s w=outs m t w)->E m k s t
 | 0,_,_,_=>trivial
 | k+1,s,t,h=>⟨zku fun w hl hw=>h w (by omega) hw,fun a ha=>by
  have hx:∀ w,w.length<=k->WOk m.Inputs w->ot m s a=ot m t a∧outs m (nx m s a) w=outs m (nx m t a) w:=fun w hl hw=>by
   have h1:=h ((↑a:Int)::w) (by simp;omega) (fun x hx=>by
    rcases yba.1 hx with rfl | hx
    ·exact ⟨by omega,by omega⟩
    ·exact hw x hx)
   have h2:ot m s a::outs m (nx m s a) w=ot m t a::outs m (nx m t a) w:=h1
   injection h2 with h3 h4
   exact ⟨h3,h4⟩
  exact ⟨(hx [] (yag _) (fun x hx=>by cases hx)).1,zku fun w hl hw=>(hx w hl hw).2⟩⟩
structure zjq (m:zaa) (k:Nat) (c:yab):Prop where
 len:c.length=m.Next.length
 rng:∀ s,s<m.Next.length->∃ x:Nat,c[s]?=some (↑x:Int)∧x<m.Next.length
 cls:∀ s t,s<m.Next.length->t<m.Next.length->(c[s]?=c[t]?↔E m k s t)
def Alike (m:zaa) (c:yab) (s t a:Nat):Prop:=c[s]?=c[t]?∧∀ b,b<a->ot m s b=ot m t b∧c[nx m s b]?=c[nx m t b]?
theorem alike_iff (H:zcv m) {k:Nat} {c:yab} (C:zjq m k c) {s t:Nat} (hs:s<m.Next.length) (ht:t<m.Next.length):Alike m c s t m.Inputs.toNat↔E m (k+1) s t:=by
 constructor
 ·rintro ⟨h1,h2⟩;exact ⟨(C.cls s t hs ht).1 h1,fun a ha=>⟨(h2 a ha).1,(C.cls _ _ (H.at hs ha).1 (H.at ht ha).1).1 (h2 a ha).2⟩⟩
 ·rintro ⟨h1,h2⟩;exact ⟨(C.cls s t hs ht).2 h1,fun a ha=>⟨(h2 a ha).1,(C.cls _ _ (H.at hs ha).1 (H.at ht ha).1).2 (h2 a ha).2⟩⟩
theorem finer_same (H:zcv m) {k:Nat} {c:yab} (C:zjq m k c) {s t:Nat} (hs:s<m.Next.length) (ht:t<m.Next.length) {b0:Bool} (hb:b0=true↔c[s]?=c[t]?) :
  ∃ r:Bool,iter (fun (q:Bool×Nat)=>zb2.s89 m c s (↑t:Int) q.1 q.2) fuel (b0,0)=some r∧(r=true↔E m (k+1) s t):=by
 have hI:=H.i2
 obtain ⟨r,hr,hq⟩:=zaw (step:=fun (q:Bool×Nat)=>zb2.s89 m c s (↑t:Int) q.1 q.2) (fun q=>q.2<=m.Inputs.toNat∧(q.1=true↔Alike m c s t q.2)) (fun q=>m.Inputs.toNat-q.2) (fun r=>r=true↔Alike m c s t m.Inputs.toNat) (fun q ⟨g1,g2⟩=>by
  obtain ⟨b,a⟩:=q
  simp only at g1 g2
  simp only [zb2.s89]
  by_cases g3:a<m.Inputs.toNat
  ·rw [zkB (by omega),zkD,zam]
   cases b with
   | false =>
    right
    rw [zkC]
    exact ⟨false,rfl,⟨fun h=>(by cases h),fun h=>absurd (g2.2 ⟨h.1,fun b hb=>h.2 b (by omega)⟩) (by simp)⟩⟩
   | true =>
    left
    obtain ⟨s1,_,_,x,y,e1,e2,e3,e4⟩:=H.at hs g3
    obtain ⟨t1,_,_,x',y',f1,f2,f3,f4⟩:=H.at ht g3
    obtain ⟨u,u1,u2⟩:=C.rng _ s1
    obtain ⟨v,v1,v2⟩:=C.rng _ t1
    have g2:=g2.1 rfl
    rw [zkD,zal e2,zal e4,zbb rfl f2,zal f4]
    by_cases g4:ot m s a=ot m t a
    ·refine ⟨(decide ((↑u:Int)=(↑v:Int)),a+1),?_,⟨g3,?_⟩,by simp only;omega⟩
     ·rw [zkB g4,zkD,zal e1,zal e3,zbb rfl u1,zbb rfl f1,zal f3,zbb rfl v1,zas (by unfold inR;omega)]
     ·simp only [decide_eq_true_eq]
      constructor
      ·intro h
       refine ⟨g2.1,fun b hb=>?_⟩
       rcases yat b a with h1 | h1
       ·exact g2.2 b h1
       ·have e:b=a:=by omega
        subst e
        exact ⟨g4,by rw [u1,v1,h]⟩
      ·intro h
       have h1:=(h.2 a (by omega)).2
       rw [u1,v1] at h1
       injection h1
    ·refine ⟨(false,a+1),?_,⟨g3,?_⟩,by simp only;omega⟩
     ·rw [zkA g4,zkC,zas (by unfold inR;omega)]
     ·exact ⟨fun h=>(by cases h),fun h=>absurd (h.2 a (by omega)).1 g4⟩
  ·right
   have e:a=m.Inputs.toNat:=by omega
   subst e
   exact ⟨b,by rw [zkA (by omega),zkC,zam,zkC],g2⟩) fuel (b0,0) ⟨yag _,by rw [hb];exact ⟨fun h=>⟨h,fun b hb=>absurd hb (ybe _)⟩,fun h=>h.1⟩⟩ (by have:=zav;simp only;omega)
 exact ⟨r,hr,hq.trans (alike_iff H C hs ht)⟩
theorem finer_found (H:zcv m) {k:Nat} {c:yab} (C:zjq m k c) {s:Nat} (hs:s<m.Next.length) {y:yab} (hy:y.length=s) :
  ∃ r:Int,iter (fun (q:Int×Int)=>zb2.s90 m c y s q.1 q.2) fuel ((-1:Int),(↑s:Int)-1)=some r∧((r=-1∧∀ t,t<s->¬ E m (k+1) s t)∨∃ t,t<s∧E m (k+1) s t∧y[t]?=some r):=by
 have hn:=H.n2
 obtain ⟨r,hr,hq⟩:=zaw (step:=fun (q:Int×Int)=>zb2.s90 m c y s q.1 q.2) (fun q=>-1<=q.2∧q.2<(↑s:Int)∧((q.1=-1∧∀ t:Nat,q.2<(↑t:Int)->t<s->¬ E m (k+1) s t)∨∃ t,t<s∧E m (k+1) s t∧y[t]?=some q.1)) (fun q=>(q.2+1).toNat) (fun r=>(r=-1∧∀ t,t<s->¬ E m (k+1) s t)∨∃ t,t<s∧E m (k+1) s t∧y[t]?=some r) (fun q ⟨g1,g2,g3⟩=>by
  obtain ⟨f,t⟩:=q
  simp only at g1 g2 g3
  simp only [zb2.s90]
  by_cases g4:0<=t
  ·left
   obtain ⟨t,rfl⟩:∃ t':Nat,t=(↑t':Int):=⟨t.toNat,by omega⟩
   have a2:t<s:=by omega
   have ht:t<m.Next.length:=by omega
   obtain ⟨u,u1,u2⟩:=C.rng s hs
   obtain ⟨v,v1,v2⟩:=C.rng t ht
   obtain ⟨b,b1,b2⟩:=finer_same H C hs ht (b0:=decide ((↑u:Int)=(↑v:Int))) (by
    rw [u1,v1,decide_eq_true_eq]
    exact ⟨fun h=>by rw [h],fun h=>by injection h⟩)
   have a0:=get_at (l:=y) (i:=t) (by omega)
   rw [zkB g4,zkD,zal u1,zbb rfl v1,b1,zam]
   cases b with
   | true =>
    refine ⟨(y[t]'(by omega),(↑t:Int)-1),by rw [zkD,zbb rfl a0,zas (by unfold inR;omega)],⟨by simp only;omega,by simp only;omega,Or.inr ⟨t,a2,b2.1 rfl,a0⟩⟩,by simp only;omega⟩
   | false =>
    refine ⟨(f,(↑t:Int)-1),by rw [zkC,zas (by unfold inR;omega)],⟨by simp only;omega,by simp only;omega,?_⟩,by simp only;omega⟩
    rcases g3 with ⟨h1,h2⟩ | h
    ·refine Or.inl ⟨h1,fun t' h3 h4=>?_⟩
     simp only at h3
     by_cases e:t'=t
     ·subst e
      exact fun h=>absurd (b2.2 h) (by simp)
     ·exact h2 t' (by omega) h4
    ·exact Or.inr h
  ·right
   have e:t=-1:=by omega
   subst e
   refine ⟨f,by rw [zkA (by omega),zkC],?_⟩
   rcases g3 with ⟨h1,h2⟩ | h
   ·exact Or.inl ⟨h1,fun t' h4=>h2 t' (by omega) h4⟩
   ·exact Or.inr h) fuel ((-1:Int),(↑s:Int)-1) ⟨by simp only;omega,by simp only;omega,Or.inl ⟨rfl,fun t h1 h2=>by simp only at h1;omega⟩⟩ (by have:=zav;simp only;omega)
 exact ⟨r,hr,hq⟩
structure FinOk (m:zaa) (k:Nat) (y:yab) (n s:Nat):Prop where
 ls:s<=m.Next.length
 len:y.length=s
 cnt:n<=s
 rng:∀ i,i<s->∃ x:Nat,y[i]?=some (↑x:Int)∧x<n
 cls:∀ i j,i<s->j<s->(y[i]?=y[j]?↔E m k i j)
theorem R08_finer_eq (H:zcv m) {k:Nat} {c:yab} (C:zjq m k c):∃ c',zb2 m c=some c'∧zjq m (k+1) c':=by
 have hn:=H.n2;unfold zb2
 obtain ⟨r,hr,n,hq⟩:=zaw (step:=fun (q:yab×Nat×Nat)=>zb2.s92 m c q.1 q.2.1 q.2.2) (fun q=>FinOk m (k+1) q.1 q.2.1 q.2.2) (fun q=>m.Next.length-q.2.2) (fun r=>∃ n,FinOk m (k+1) r n m.Next.length) (fun q Q=>by
  obtain ⟨y,n,s⟩:=q
  simp only at Q
  have hc:=Q.cnt
  have hl:=Q.len
  have a2:=Q.ls
  simp only [zb2.s92]
  rw [C.len]
  by_cases g1:s<m.Next.length
  ·left
   obtain ⟨f,f1,f2⟩:=finer_found H C g1 Q.len
   rw [zkB (by omega),zkD,f1,zam]
   rcases f2 with ⟨rfl,f2⟩ | ⟨t,ht,hE,f2⟩
   ·-- a class of its own
    rw [zkB (by omega),zkD,zas (by unfold inR;omega),zam]
    refine ⟨(y++[(↑n:Int)],n+1,s+1),by simp only [zb2.k91];rw [zas (by unfold zaz;omega)],(show FinOk m (k+1) (y++[(↑n:Int)]) (n+1) (s+1) from ⟨g1,by simp [Q.len],by omega,fun i hi=>?_,fun i j hi hj=>?_⟩),by simp only;omega⟩
    ·rcases yat i s with h | h
     ·obtain ⟨x,x1,x2⟩:=Q.rng i h
      exact ⟨x,by rw [yan (by omega),x1],by omega⟩
     ·have e:i=y.length:=by omega
      subst e
      exact ⟨n,by simp,by omega⟩
    ·have a0:∀ i,i<s->(y++[(↑n:Int)])[i]?=y[i]?:=fun i hi=>yan (by omega)
     have new:(y++[(↑n:Int)])[s]?=some (↑n:Int):=by rw [yax (by omega),hl,ybx];rfl
     have ne:∀ i,i<s->y[i]?≠some (↑n:Int):=fun i hi h=>by
      obtain ⟨x,x1,x2⟩:=Q.rng i hi
      rw [x1] at h
      injection h with h
      omega
     rcases yat i s with h | h<;>rcases yat j s with h' | h'
     ·rw [a0 i h,a0 j h']
      exact Q.cls i j h h'
     ·have e:j=s:=by omega
      subst e
      rw [a0 i h,new]
      exact ⟨fun h2=>absurd h2 (ne i h),fun h2=>absurd (zpg h2) (f2 i h)⟩
     ·have e:i=s:=by omega
      subst e
      rw [a0 j h',new]
      exact ⟨fun h2=>absurd h2.symm (ne j h'),fun h2=>absurd h2 (f2 j h')⟩
     ·have e:i=s:=by omega
      have e':j=s:=by omega
      subst e
      subst e'
      exact ⟨fun _=>E_refl _ _,fun _=>rfl⟩
   ·obtain ⟨x,x1,x2⟩:=Q.rng t ht
    rw [f2] at x1
    injection x1 with x1
    subst x1
    rw [zkA (by omega),zkC,zam]
    refine ⟨(y++[(↑x:Int)],n,s+1),by simp only [zb2.k91];rw [zas (by unfold zaz;omega)],(show FinOk m (k+1) (y++[(↑x:Int)]) n (s+1) from ⟨g1,by simp [Q.len],by omega,fun i hi=>?_,fun i j hi hj=>?_⟩),by simp only;omega⟩
    ·rcases yat i s with h | h
     ·obtain ⟨z,z1,z2⟩:=Q.rng i h
      exact ⟨z,by rw [yan (by omega),z1],z2⟩
     ·have e:i=y.length:=by omega
      subst e
      exact ⟨x,by simp,x2⟩
    ·have a0:∀ i,i<s->(y++[(↑x:Int)])[i]?=y[i]?:=fun i hi=>yan (by omega)
     have new:(y++[(↑x:Int)])[s]?=y[t]?:=by rw [yax (by omega),hl,ybx,f2];rfl
     rcases yat i s with h | h<;>rcases yat j s with h' | h'
     ·rw [a0 i h,a0 j h']
      exact Q.cls i j h h'
     ·have e:j=s:=by omega
      subst e
      rw [a0 i h,new,Q.cls i t h ht]
      exact ⟨fun h2=>zil h2 (zpg hE),fun h2=>zil h2 hE⟩
     ·have e:i=s:=by omega
      subst e
      rw [a0 j h',new,Q.cls t j ht h']
      exact ⟨fun h2=>zil hE h2,fun h2=>zil (zpg hE) h2⟩
     ·have e:i=s:=by omega
      have e':j=s:=by omega
      subst e
      subst e'
      exact ⟨fun _=>E_refl _ _,fun _=>rfl⟩
  ·right
   have e:s=m.Next.length:=by omega
   subst e
   exact ⟨y,by rw [zkA (by omega),zkC],n,Q⟩) fuel ([],0,0) ⟨yag _,rfl,yap _,fun i h=>absurd h (ybe _),fun i j h=>absurd h (ybe _)⟩ (by have:=zav;simp only;omega)
 refine ⟨r,by rw [hr,zam],hq.len,fun s hs=>?_,fun s t hs ht=>hq.cls s t hs ht⟩;obtain ⟨x,x1,x2⟩:=hq.rng s hs;have:=hq.cnt;exact ⟨x,x1,by omega⟩
theorem zpx (hv:zcs m=some 0) (k:Nat):∃ c,zc3 m (↑k:Int)=some (c,0)∧zjq m (min k m.Next.length) c:=by
 have H:=macOk_of hv;have hn:=H.n2;unfold zc3;rw [hv,zam,zkA (by simp),zkC,zas ⟨by omega,by omega,by unfold zaz;omega⟩]
 obtain ⟨r,hr,hq⟩:=zaw (step:=fun (q:yab×Nat)=>zc3.s2 m (↑k:Int) q.1 q.2) (fun q=>q.2<=min k m.Next.length∧zjq m q.2 q.1) (fun q=>min k m.Next.length-q.2) (fun r=>zjq m (min k m.Next.length) r) (fun q ⟨g1,g2⟩=>by
  obtain ⟨y,i⟩:=q
  simp only at g1 g2
  simp only [zc3.s2]
  by_cases g3:i<min k m.Next.length
  ·left
   obtain ⟨c',e1,e2⟩:=R08_finer_eq H g2
   refine ⟨(c',i+1),?_,⟨g3,e2⟩,by simp only;omega⟩
   rw [zkB (by omega),zkD,zam,zkB (by omega),zkD,e1,zam,zas (by unfold inR;omega)]
  ·right
   have e:i=min k m.Next.length:=by omega
   refine ⟨y,?_,e ▸ g2⟩
   by_cases h:i<k
   ·rw [zkB (by omega),zkD,zam,zkA (by omega),zkC]
   ·rw [zkA (by omega),zkC,zam,zkC]) fuel ((List.replicate m.Next.length 0),0) ⟨yag _,⟨by simp,fun s hs=>⟨0,by simp [hs],H.n1⟩,fun s t hs ht=>⟨fun _=>trivial,fun _=>by simp [hs,ht]⟩⟩⟩ (by have:=zav;simp only;omega)
 exact ⟨r,by rw [hr,zam],hq⟩
theorem zpw {α:Type} {p q:α->Bool}:∀ {l:List α},(∀ x∈l,p x=true->q x=true)->l.countP q<=l.countP p->∀ x∈l,q x=true->p x=true
 | [],_,_,x,hx,_=>by cases hx
 | y::l,h,hc,x,hx,hq=>by
  have h1:l.countP p<=l.countP q:=List.countP_mono_left fun x hx=>h x (yay _ hx);rw [yek,yek] at hc;have h2:=h y (ybr ..)
  have h3:l.countP q<=l.countP p∧(q y=true->p y=true):=by
   cases e1:q y<;>cases e2:p y<;>simp [e1,e2] at hc h2 ⊢<;>omega
  rcases yba.1 hx with rfl | hx
  ·exact h3.2 hq
  ·exact zpw (fun x hx=>h x (yay _ hx)) h3.1 x hx hq
def Rep (m:zaa) (k s:Nat):Prop:=∀ t,t<s->¬ E m k s t
open Classical in
noncomputable def nreps (m:zaa) (k:Nat):Nat:=(List.range m.Next.length).countP fun s=>decide (Rep m k s)
theorem zt0 (k:Nat):∀ (s:Nat),∃ r,r<=s∧Rep m k r∧E m k s r:=by
 intro s
 induction s using Nat.strongRecOn with
 | ind s ih =>
  by_cases h:Rep m k s
  ·exact ⟨s,yap _,h,E_refl _ _⟩
  ·have ⟨t,h1⟩:=Classical.not_forall.1 h;obtain ⟨h2,h3⟩:=Classical.not_imp.1 h1;have h3:=Classical.not_not.1 h3;obtain ⟨r,r1,r2,r3⟩:=ih t h2;exact ⟨r,by omega,r2,zil h3 r3⟩
def Stab (m:zaa) (k:Nat):Prop:=∀ s t,s<m.Next.length->t<m.Next.length->E m k s t->E m (k+1) s t
theorem rep_succ {k s:Nat} (h:Rep m k s):Rep m (k+1) s:=fun t ht hE=>h t ht hE.1
open Classical in
open Classical in
theorem stab_of {k:Nat} (h:nreps m (k+1)<=nreps m k):Stab m k:=by
 intro s t hs ht hE;unfold nreps at h;have key:=zpw (l:=List.range m.Next.length) (fun s _ h=>zkB (rep_succ (of_decide_eq_true h))) h;obtain ⟨r,r1,r2,r3⟩:=zt0 (m:=m) (k+1) s;obtain ⟨u,u1,u2,u3⟩:=zt0 (m:=m) (k+1) t;have r4:Rep m k r:=of_decide_eq_true (key r (ya8.2 (by omega)) (zkB r2));have u4:Rep m k u:=of_decide_eq_true (key u (ya8.2 (by omega)) (zkB u2));have a0:E m k r u:=zil (zpg r3.1) (zil hE u3.1)
 have e:r=u:=by
  rcases yc0 r u with h1 | h1 | h1
  ·exact absurd (zpg a0) (u4 r h1)
  ·exact h1
  ·exact absurd a0 (r4 u h1)
 subst e;exact zil r3 (zpg u3)
theorem stab_succ (H:zcv m) {k:Nat} (h:Stab m k):Stab m (k+1):=fun s t hs ht hE =>
 ⟨hE,fun a ha=>⟨(hE.2 a ha).1,h _ _ (H.at hs ha).1 (H.at ht ha).1 (hE.2 a ha).2⟩⟩
theorem stab_add (H:zcv m) {k:Nat} (h:Stab m k):∀ j,Stab m (k+j)
 | 0=>h
 | j+1=>stab_succ H (stab_add H h j)
open Classical in
theorem stab_exists (H:zcv m):∃ k,k<m.Next.length∧Stab m k:=by
 refine ya5 fun a2=>?_
 have a0:∀ k,k<=m.Next.length->k+1<=nreps m k:=by
  intro k
  induction k with
  | zero =>
   intro _;unfold nreps;have:0<(List.range m.Next.length).countP fun s=>@decide (Rep m 0 s) (Classical.propDecidable _):=List.countP_pos_iff.2 ⟨0,ya8.2 H.n1,zkB fun t ht=>absurd ht (ybe _)⟩;exact this
  | succ k ih =>
   intro hk;have h1:=ih (by omega);rcases yat (nreps m k) (nreps m (k+1)) with h2 | h2
   ·omega
   ·exact absurd ⟨k,by omega,stab_of h2⟩ a2
 have h1:=a0 _ (yap _);have h2:nreps m m.Next.length<=(List.range m.Next.length).length:=yeo;rw [ybz] at h2;omega
theorem E_all (H:zcv m) {s t:Nat} (hs:s<m.Next.length) (ht:t<m.Next.length) (h:E m m.Next.length s t) (j:Nat):E m j s t:=by
 obtain ⟨k,hk,hS⟩:=stab_exists H
 have key:∀ i,E m (k+i) s t:=by
  intro i
  induction i with
  | zero=>exact E_mono (by omega) h
  | succ i ih=>exact stab_add H hS i s t hs ht ih
 exact E_mono (by omega) (key j)
end
end
section
theorem zic {α:Type} [DecidableEq α]:∀ {l l':List α},l.Nodup->(∀ x∈l,x∈l')->l.length<=l'.length
 | [],_,_,_=>yag _
 | x::l,l',h,hs=>by
  have h1:=yb2.1 h;have hx:=hs x (by simp);have ih:=zic (l:=l) (l':=l'.erase x) h1.2 (fun y hy=>(yeu (fun e=>h1.1 (by rw [<- e];exact hy))).2 (hs y (yay _ hy)));rw [yea hx] at ih;have:=yds hx;simp only [zkL];omega
def natI (l:List Nat):yab:=l.map fun (x:Nat)=>(↑x:Int)
theorem zq2 {l:List Nat} {i u:Nat} (h:l[i]?=some u):(natI l)[i]?=some (↑u:Int):=by
 unfold natI;rw [yaf,h];rfl
theorem natI_push (l:List Nat) (t:Nat):natI l++[(↑t:Int)]=natI (l++[t]):=by simp [natI]
theorem ze6 (l:List Nat):(natI l).length=l.length:=by simp [natI]
structure Num (m:zaa) (c:yab) (ord:List Nat) (num:yab):Prop where
 rng:∀ u∈ord,u<m.Next.length
 start:ord[0]?=some m.Start.toNat
 len:num.length=m.Next.length
 n1:∀ j u x:Nat,ord[j]?=some u->c[u]?=some (↑x:Int)->num[x]?=some (↑j:Int)
 n2:∀ x:Nat,x<m.Next.length->num[x]?=some (-1:Int)∨∃ j u:Nat,num[x]?=some (↑j:Int)∧ord[j]?=some u∧c[u]?=some (↑x:Int)
 reach:∀ j u:Nat,ord[j]?=some u->j=0∨∃ i v a:Nat,i<j∧ord[i]?=some v∧a<m.Inputs.toNat∧u=nx m v a
section
variable {m:zaa} {c num:yab} {ord:List Nat} {k:Nat}
structure RowAt (m:zaa) (c:yab) (ord:List Nat) (v:Nat) (row out:yab) (a:Nat):Prop where
 l1:row.length=a
 l2:out.length=a
 cell:∀ b,b<a->∃ j u:Nat,row[b]?=some (↑j:Int)∧ord[j]?=some u∧c[u]?=c[nx m v b]?∧out[b]?=some (ot m v b)
structure MinOk (m M:zaa) (c:yab) (ord:List Nat) (num:yab):Prop where
 cls:zjq m m.Next.length c
 num:Num m c ord num
 inp:M.Inputs=m.Inputs
 start:M.Start=0
 l1:M.Next.length=ord.length
 l2:M.Out.length=ord.length
 row:∀ i v:Nat,ord[i]?=some v->∃ row out,M.Next[i]?=some row∧M.Out[i]?=some out∧RowAt m c ord v row out m.Inputs.toNat
end
end
section
section
variable {m:zaa}
def mB (m:zaa) (s0 r:Nat):List (Nat×yab):=bfsB (nx m) m.Inputs.toNat s0 r
abbrev MEnd (m:zaa) (s0:Nat) (L:List (Nat×yab)):Prop:=zgf (nx m) m.Inputs.toNat s0 L
theorem zpo (H:zcv m) {s0:Nat} (hs:s0<m.Next.length):∀ (r:Nat),∀ x∈mB m s0 r,x.1<m.Next.length∧x.2.length<=r∧dest m s0 x.2=x.1∧WOk m.Inputs x.2
 | 0,x,hx=>by
  have:x=(s0,[]):=by simpa [mB,bfsB] using hx
  subst this;exact ⟨hs,yap _,rfl,fun a ha=>by cases ha⟩
 | r+1,x,hx=>by
  have ih:=zpo H hs r
  have a2:x∈mB m s0 r->x.1<m.Next.length∧x.2.length<=r+1∧dest m s0 x.2=x.1∧WOk m.Inputs x.2:=fun h=>by
   have:=ih x h;exact ⟨this.1,by omega,this.2.2⟩
  unfold mB at hx;rw [bfsB] at hx;split at hx
  ·exact a2 hx
  ·rename_i y hy;split at hx
   ·exact a2 hx
   ·rcases yak.1 hx with h | h
    ·exact a2 h
    ·have hK:0<m.Inputs.toNat:=by have:=H.i1;omega
     have a0:=ih y (zkH hy);have ha:=yc3 r hK;have a4:x=(nx m y.1 (r%m.Inputs.toNat),y.2++[(↑(r%m.Inputs.toNat):Int)]):=by simpa using h
     subst a4;refine ⟨(H.at a0.1 ha).1,by simp;omega,?_,?_⟩
     ·simp only;rw [zes,a0.2.2.1];show nx m y.1 (Int.toNat _)=_;rw [yah]
     ·refine WOk.append a0.2.2.2 fun a a3=>?_;have:a=(↑(r%m.Inputs.toNat):Int):=by simpa using a3
      subst this;omega
theorem zs8 (H:zcv m) {s0:Nat} (hs:s0<m.Next.length) (r:Nat):(mB m s0 r).length<=m.Next.length:=by
 have:=zic (zi8 (e:=nx m) (K:=m.Inputs.toNat) (s0:=s0) r) (l':=List.range m.Next.length) fun x hx=>by
  obtain ⟨y,hy,rfl⟩:=yao.1 hx;exact ya8.2 (zpo H hs r y hy).1
 rwa [zkK,ybz] at this
theorem mB_step {s0 i a:Nat} {x:Nat×yab} (ha:a<m.Inputs.toNat) (hx:(mB m s0 (i*m.Inputs.toNat+a))[i]?=some x) :
  mB m s0 (i*m.Inputs.toNat+(a+1))=if nx m x.1 a∈(mB m s0 (i*m.Inputs.toNat+a)).map Prod.fst then mB m s0 (i*m.Inputs.toNat+a) else mB m s0 (i*m.Inputs.toNat+a)++[(nx m x.1 a,x.2++[(↑a:Int)])]:=bfs_step ha hx
theorem mB_next {s0 i:Nat}:mB m s0 (i*m.Inputs.toNat+m.Inputs.toNat)=mB m s0 ((i+1)*m.Inputs.toNat):=by rw [yc9]
theorem mB_get {s0 i r:Nat} {x:Nat×yab} (hx:(mB m s0 (i*m.Inputs.toNat))[i]?=some x) (hr:i*m.Inputs.toNat<=r):(mB m s0 r)[i]?=some x:=zeo (zgw hr) hx
structure zie (n:Nat) (y:List Bool) (l:List Nat):Prop where
 len:y.length=n
 at_:∀ t,t<n->y[t]?=some (decide (t∈l))
theorem zie.push {n t:Nat} {y:List Bool} {l:List Nat} (S:zie n y l) (ht:t<n):zie n (y.set t true) (l++[t]):=by
 refine ⟨by simp [S.len],fun u hu=>?_⟩;by_cases h:t=u
 ·subst h;rw [ya7 (by rw [S.len];exact ht)];simp
 ·rw [ybb h,S.at_ u hu];congr 1;apply decide_eq_decide.2;rw [yak];constructor
  ·exact Or.inl
  ·rintro (q | q)
   ·exact q
   ·exact absurd (by simpa using q:u=t).symm h
theorem seen_nil (n:Nat):zie n (List.replicate n false) []:=⟨by simp,fun t ht=>by simp [ht]⟩
theorem zmp (hv:ze5 m=0):∃ L,MEnd m m.Start.toNat L∧zb4 m=some (natI (L.map Prod.fst)):=by
 have H:=zfv hv;have a8:=H.st;have hn:=H.n2;have hs:m.Start.toNat<m.Next.length:=by omega
 have a4:∀ (i:Nat) (x:Nat×yab) (row:yab) (y:List Bool),(mB m m.Start.toNat (i*m.Inputs.toNat))[i]?=some x->m.Next[x.1]?=some row->zie m.Next.length y ((mB m m.Start.toNat (i*m.Inputs.toNat)).map Prod.fst) ->
   ∃ y',iter (fun (s:List Bool×yab×Nat)=>zb4.s18 row s.1 s.2.1 s.2.2) fuel (y,natI ((mB m m.Start.toNat (i*m.Inputs.toNat)).map Prod.fst),0)=some (y',natI ((mB m m.Start.toNat ((i+1)*m.Inputs.toNat)).map Prod.fst))∧zie m.Next.length y' ((mB m m.Start.toNat ((i+1)*m.Inputs.toNat)).map Prod.fst):=by
  intro i x row y hx a2 S;have a3:=(zpo H hs _ x (zkH hx)).1
  have a9:row.length=m.Inputs.toNat:=by
   obtain ⟨x',y',h1,_,h3,_⟩:=H.row x.1 a3;rw [a2] at h1;injection h1 with h1
   subst h1;omega
  obtain ⟨r,hr,y',rfl,hq⟩:=zaw (step:=fun (s:List Bool×yab×Nat)=>zb4.s18 row s.1 s.2.1 s.2.2) (fun s=>s.2.2<=m.Inputs.toNat∧s.2.1=natI ((mB m m.Start.toNat (i*m.Inputs.toNat+s.2.2)).map Prod.fst)∧zie m.Next.length s.1 ((mB m m.Start.toNat (i*m.Inputs.toNat+s.2.2)).map Prod.fst)) (fun s=>m.Inputs.toNat-s.2.2) (fun r=>∃ y',r=(y',natI ((mB m m.Start.toNat ((i+1)*m.Inputs.toNat)).map Prod.fst))∧zie m.Next.length y' ((mB m m.Start.toNat ((i+1)*m.Inputs.toNat)).map Prod.fst)) (fun s ⟨q1,q2,q3⟩=>by
   obtain ⟨y,l,a⟩:=s
   simp only at q1 q2 q3
   subst q2
   simp only [zb4.s18]
   by_cases g:a<m.Inputs.toNat
   ·left
    have a7:=mB_get hx (r:=i*m.Inputs.toNat+a) (by omega)
    obtain ⟨h1,_,_,x',y',h2,_,h4,_⟩:=H.at a3 g
    rw [a2] at h2
    injection h2 with h2
    subst h2
    have a5:=zs8 H hs (i*m.Inputs.toNat+a)
    have a0:=mB_step g a7
    rw [zkB (by omega),zkD,zal h4,zbb rfl (q3.at_ _ h1)]
    by_cases hm:nx m x.1 a∈(mB m m.Start.toNat (i*m.Inputs.toNat+a)).map Prod.fst
    ·rw [if_pos hm] at a0
     refine ⟨(y,natI ((mB m m.Start.toNat (i*m.Inputs.toNat+a)).map Prod.fst),a+1),by rw [zkB hm];rfl,⟨g,by simp only;rw [a0],by simp only;rw [a0];exact q3⟩,by simp only;omega⟩
    ·rw [if_neg hm] at a0
     refine ⟨(y.set (nx m x.1 a) true,natI ((mB m m.Start.toNat (i*m.Inputs.toNat+a)).map Prod.fst++[nx m x.1 a]),a+1),?_,⟨g,by simp only;rw [a0,ya9];rfl,by simp only;rw [a0,ya9];exact q3.push h1⟩,by simp only;omega⟩
     rw [zkA hm,ycb,zkD,zbb rfl (q3.at_ _ h1),zas (by unfold zaz;rw [ze6,zkK];omega),natI_push,yah]
   ·right
    have e':a=m.Inputs.toNat:=by omega
    subst e'
    rw [mB_next] at q3 ⊢
    exact ⟨_,by rw [zkA (by omega),zkC],_,rfl,q3⟩) fuel (y,natI ((mB m m.Start.toNat (i*m.Inputs.toNat)).map Prod.fst),0) ⟨yag _,rfl,S⟩ (by have:=zav;have:=H.i2;simp only;omega)
  exact ⟨y',hr,hq⟩
 unfold zb4;rw [zdr,zam,hv,zkA (by decide),zkC,zas ⟨by omega,by omega,by unfold zaz;omega⟩,zbb (i:=m.Start.toNat) (x:=false) (by omega) (by rw [ybk,if_pos hs])]
 obtain ⟨r,hr,L,hL,rfl⟩:=zaw (step:=fun (s:List Bool×yab×Nat)=>zb4.s20 m s.1 s.2.1 s.2.2) (fun s=>s.2.2<=(mB m m.Start.toNat (s.2.2*m.Inputs.toNat)).length∧s.2.1=natI ((mB m m.Start.toNat (s.2.2*m.Inputs.toNat)).map Prod.fst)∧zie m.Next.length s.1 ((mB m m.Start.toNat (s.2.2*m.Inputs.toNat)).map Prod.fst)) (fun s=>m.Next.length+1-s.2.2) (fun r=>∃ L,MEnd m m.Start.toNat L∧r=natI (L.map Prod.fst)) (fun s ⟨q1,q2,q3⟩=>by
  obtain ⟨y,l,i⟩:=s
  simp only at q1 q2 q3
  subst q2
  simp only [zb4.s20]
  have a5:=zs8 H hs (i*m.Inputs.toNat)
  by_cases g:i<(mB m m.Start.toNat (i*m.Inputs.toNat)).length
  ·left
   have hx:=get_at g
   generalize (mB m m.Start.toNat (i*m.Inputs.toNat))[i]=x at hx
   have a3:=(zpo H hs _ x (zkH hx)).1
   have a2:=get_at a3
   obtain ⟨y',h1,h2⟩:=a4 i x _ y hx a2 q3
   have a6:=(zgw (e:=nx m) (K:=m.Inputs.toNat) (s0:=m.Start.toNat) (show i*m.Inputs.toNat<=(i+1)*m.Inputs.toNat by rw [yc9];omega)).length_le
   refine ⟨(y',natI ((mB m m.Start.toNat ((i+1)*m.Inputs.toNat)).map Prod.fst),i+1),?_,⟨by simp only;unfold mB at g ⊢;omega,rfl,h2⟩,by simp only;omega⟩
   rw [zkB (by rw [ze6,zkK];omega),zkD,zal (zq2 (i:=i) (u:=x.1) (by rw [yaf,hx];rfl)),zbb rfl a2,h1,zam]
   rfl
  ·right
   refine ⟨_,by rw [zkA (by rw [ze6,zkK];omega),zkC],mB m m.Start.toNat (i*m.Inputs.toNat),⟨?_⟩,rfl⟩
   rw [show (mB m m.Start.toNat (i*m.Inputs.toNat)).length=i by omega]
   rfl) fuel ((List.replicate m.Next.length false).set m.Start.toNat true,[m.Start],0) ⟨yag _,by simp only;rw [ycv];simp [mB,bfsB,natI];omega,by
    simp only
    rw [ycv]
    exact (seen_nil m.Next.length).push hs⟩ (by have:=zav;simp only;omega)
 exact ⟨L,hL,by rw [hr,zam]⟩
end
end
section
section
variable {m:zaa}
def zgi (x:Nat×yab):za6:=⟨(↑x.1:Int),x.2⟩
theorem zrt {l:List (Nat×yab)} {i:Nat} {x:Nat×yab} (h:l[i]?=some x):(l.map zgi)[i]?=some (zgi x):=by rw [yaf,h];rfl
theorem zr5 (H:zcv m) {s0:Nat} (hs:s0<m.Next.length):∃ L,MEnd m s0 L∧zbw m (↑s0:Int)=some (L.map zgi):=by
 have hn:=H.n2;have hI:=H.i2
 have a4:∀ (i:Nat) (x:Nat×yab) (row:yab) (y:List Bool),i<=m.Next.length->(mB m s0 (i*m.Inputs.toNat))[i]?=some x->m.Next[x.1]?=some row->zie m.Next.length y ((mB m s0 (i*m.Inputs.toNat)).map Prod.fst) ->
   ∃ y',iter (fun (s:List Bool×List za6×Nat)=>zbw.s18 i row s.1 s.2.1 s.2.2) fuel (y,(mB m s0 (i*m.Inputs.toNat)).map zgi,0)=some (y',(mB m s0 ((i+1)*m.Inputs.toNat)).map zgi)∧zie m.Next.length y' ((mB m s0 ((i+1)*m.Inputs.toNat)).map Prod.fst):=by
  intro i x row y a9 hx a2 S;have a3:=(zpo H hs _ x (zkH hx)).1;have a8:=(zpo H hs _ x (zkH hx)).2.1;have b2:i*m.Inputs.toNat<=128*64:=ycr (by omega) (by omega)
  have b3:row.length=m.Inputs.toNat:=by
   obtain ⟨x',y',h1,_,h3,_⟩:=H.row x.1 a3;rw [a2] at h1;injection h1 with h1
   subst h1;omega
  obtain ⟨r,hr,y',rfl,hq⟩:=zaw (step:=fun (s:List Bool×List za6×Nat)=>zbw.s18 i row s.1 s.2.1 s.2.2) (fun s=>s.2.2<=m.Inputs.toNat∧s.2.1=(mB m s0 (i*m.Inputs.toNat+s.2.2)).map zgi∧zie m.Next.length s.1 ((mB m s0 (i*m.Inputs.toNat+s.2.2)).map Prod.fst)) (fun s=>m.Inputs.toNat-s.2.2) (fun r=>∃ y',r=(y',(mB m s0 ((i+1)*m.Inputs.toNat)).map zgi)∧zie m.Next.length y' ((mB m s0 ((i+1)*m.Inputs.toNat)).map Prod.fst)) (fun s ⟨q1,q2,q3⟩=>by
   obtain ⟨y,l,a⟩:=s
   simp only at q1 q2 q3
   subst q2
   simp only [zbw.s18]
   by_cases g:a<m.Inputs.toNat
   ·left
    have a6:=mB_get hx (r:=i*m.Inputs.toNat+a) (by omega)
    obtain ⟨h1,_,_,x',y',h2,_,h4,_⟩:=H.at a3 g
    rw [a2] at h2
    injection h2 with h2
    subst h2
    have a5:=zs8 H hs (i*m.Inputs.toNat+a)
    have a0:=mB_step g a6
    rw [zkB (by omega),zkD,zal h4,zbb rfl (q3.at_ _ h1)]
    by_cases hm:nx m x.1 a∈(mB m s0 (i*m.Inputs.toNat+a)).map Prod.fst
    ·rw [if_pos hm] at a0
     refine ⟨(y,(mB m s0 (i*m.Inputs.toNat+a)).map zgi,a+1),by rw [zkB hm];rfl,⟨g,by simp only;rw [a0],by simp only;rw [a0];exact q3⟩,by simp only;omega⟩
    ·rw [if_neg hm] at a0
     refine ⟨(y.set (nx m x.1 a) true,(mB m s0 (i*m.Inputs.toNat+a)).map zgi++[zgi (nx m x.1 a,x.2++[(↑a:Int)])],a+1),?_,⟨g,by simp only;rw [a0,ya9];rfl,by simp only;rw [a0,ya9];exact q3.push h1⟩,by simp only;omega⟩
     rw [zkA hm,ycb,zkD,zbb rfl (q3.at_ _ h1),zal (zrt a6)]
     show (zep [x.2,[(↑a:Int)]]).bind _=_
     rw [zhb _ (by simp) (by simp;omega),zam,zas (by unfold zaz;rw [zkK];omega),yah]
     simp [zgi]
   ·right
    have e':a=m.Inputs.toNat:=by omega
    subst e'
    rw [mB_next] at q3 ⊢
    exact ⟨_,by rw [zkA (by omega),zkC],_,rfl,q3⟩) fuel (y,(mB m s0 (i*m.Inputs.toNat)).map zgi,0) ⟨yag _,rfl,S⟩ (by have:=zav;have:=H.i2;simp only;omega)
  exact ⟨y',hr,hq⟩
 unfold zbw;rw [zas ⟨by omega,by omega,by unfold zaz;omega⟩,zbb (i:=s0) (x:=false) rfl (by rw [ybk,if_pos hs])]
 obtain ⟨r,hr,L,hL,rfl⟩:=zaw (step:=fun (s:List Bool×List za6×Nat)=>zbw.s20 m s.1 s.2.1 s.2.2) (fun s=>s.2.2<=(mB m s0 (s.2.2*m.Inputs.toNat)).length∧s.2.1=(mB m s0 (s.2.2*m.Inputs.toNat)).map zgi∧zie m.Next.length s.1 ((mB m s0 (s.2.2*m.Inputs.toNat)).map Prod.fst)) (fun s=>m.Next.length+1-s.2.2) (fun r=>∃ L,MEnd m s0 L∧r=L.map zgi) (fun s ⟨q1,q2,q3⟩=>by
  obtain ⟨y,l,i⟩:=s
  simp only at q1 q2 q3
  subst q2
  simp only [zbw.s20]
  have a5:=zs8 H hs (i*m.Inputs.toNat)
  by_cases g:i<(mB m s0 (i*m.Inputs.toNat)).length
  ·left
   have hx:=get_at g
   generalize (mB m s0 (i*m.Inputs.toNat))[i]=x at hx
   have a3:=(zpo H hs _ x (zkH hx)).1
   have a2:=get_at a3
   obtain ⟨y',h1,h2⟩:=a4 i x _ y (by omega) hx a2 q3
   have a7:=(zgw (e:=nx m) (K:=m.Inputs.toNat) (s0:=s0) (show i*m.Inputs.toNat<=(i+1)*m.Inputs.toNat by rw [yc9];omega)).length_le
   refine ⟨(y',(mB m s0 ((i+1)*m.Inputs.toNat)).map zgi,i+1),?_,⟨by simp only;unfold mB at g ⊢;omega,rfl,h2⟩,by simp only;omega⟩
   rw [zkB (by rw [zkK];omega),zkD,zal (zrt hx),zbb (n:=(zgi x).state) (i:=x.1) rfl a2,h1,zam]
   rfl
  ·right
   refine ⟨_,by rw [zkA (by rw [zkK];omega),zkC],mB m s0 (i*m.Inputs.toNat),⟨?_⟩,rfl⟩
   rw [show (mB m s0 (i*m.Inputs.toNat)).length=i by omega]
   rfl) fuel ((List.replicate m.Next.length false).set s0 true,[(⟨(↑s0:Int),[]⟩:za6)],0) ⟨yag _,by simp only;rw [ycv];simp [mB,bfsB,zgi],by
    simp only
    rw [ycv]
    exact (seen_nil m.Next.length).push hs⟩ (by have:=zav;simp only;omega)
 exact ⟨L,hL,by rw [yah,hr,zam]⟩
theorem zrv (hv:ze5 m=0):∃ L,MEnd m m.Start.toNat L∧zcg m=some (natI (L.map Prod.fst),L.map Prod.snd,0):=by
 have H:=zfv hv;have a2:=H.st;obtain ⟨L,hL,he⟩:=zr5 H (s0:=m.Start.toNat) (by omega);rw [show (↑m.Start.toNat:Int)=m.Start by omega] at he
 have a0:L.length<=m.Next.length:=by
  rw [hL.eq];exact zs8 H (by omega) _
 have hn:=H.n2;refine ⟨L,hL,?_⟩;unfold zcg;rw [zdr,zam,hv,zkA (by decide),zkC,he,zam]
 have key:=ze7 (step:=fun (s:yab×yaa×Nat)=>zcg.s2 (L.map zgi) s.1 s.2.1 s.2.2) (r:=(natI (L.map Prod.fst),L.map Prod.snd)) (fun s=>s.2.2<=L.length∧s.1=natI ((L.take s.2.2).map Prod.fst)∧s.2.1=(L.take s.2.2).map Prod.snd) (fun s=>L.length-s.2.2) (fun s ⟨q1,q2,q3⟩=>by
  obtain ⟨a,b,i⟩:=s
  simp only at q1 q2 q3
  subst q2
  subst q3
  simp only [zcg.s2]
  by_cases g:i<L.length
  ·left
   have hx:=get_at g
   refine ⟨(natI ((L.take (i+1)).map Prod.fst),(L.take (i+1)).map Prod.snd,i+1),?_,⟨g,rfl,rfl⟩,by simp only;omega⟩
   rw [zkB (by rw [zkK];omega),zkD,zal (zrt hx),zas (by unfold zaz;rw [ze6,zkK,yaz];omega),zas (by unfold zaz;rw [zkK,yaz];omega),zcy hx,ya9,ya9]
   simp [natI,zgi]
  ·right
   have:i=L.length:=by omega
   subst this
   rw [zkA (by rw [zkK];omega),zkC,ybp]) (n:=fuel) (s:=([],[],0)) ⟨yag _,rfl,rfl⟩ (by have:=zav;simp only;omega)
 rw [key,zam];rfl
end
end
section
theorem bfs_stay {A:Type} [DecidableEq A] {e:A->Nat->A} {K:Nat} {s0:A} {L:List (A×yab)} (h:zgf e K s0 L) (hK:0<K):∀ d,bfsB e K s0 (L.length*K+d)=L
 | 0=>h.eq.symm
 | d+1=>by
  have ih:=bfs_stay h hK d;show bfsB e K s0 (L.length*K+d+1)=L;rw [bfsB,ih,yaq ?_];have h1:(L.length*K) / K<=(L.length*K+d) / K:=yd2 (by omega);rw [Nat.mul_div_cancel _ hK] at h1;exact h1
section
variable {a b:zaa}
def pE (a b:zaa) (p:Nat×Nat) (x:Nat):Nat×Nat:=(nx a p.1 x,nx b p.2 x)
def pB (a b:zaa) (p0:Nat×Nat) (r:Nat):List ((Nat×Nat)×yab):=bfsB (pE a b) a.Inputs.toNat p0 r
abbrev PEnd (a b:zaa) (p0:Nat×Nat) (L:List ((Nat×Nat)×yab)):Prop:=zgf (pE a b) a.Inputs.toNat p0 L
def difB (a b:zaa) (p0:Nat×Nat) (r:Nat):Bool:=match (pB a b p0 r)[r / a.Inputs.toNat]? with
 | some x=>decide (ot a x.1.1 (r%a.Inputs.toNat)≠ot b x.1.2 (r%a.Inputs.toNat))
 | none=>false
theorem zok {p0:Nat×Nat} {i c:Nat} {x:(Nat×Nat)×yab} (hc:c<a.Inputs.toNat) (hx:(pB a b p0 (i*a.Inputs.toNat+c))[i]?=some x):difB a b p0 (i*a.Inputs.toNat+c)=decide (ot a x.1.1 c≠ot b x.1.2 c):=by
 unfold difB;rw [zix hc,hx,zru hc]
structure Two (a b:zaa):Prop where
 a1:zcv a
 b1:zcv b
 inp:a.Inputs=b.Inputs
theorem zpm (T:Two a b) {p0:Nat×Nat} (h1:p0.1<a.Next.length) (h2:p0.2<b.Next.length):∀ (r:Nat),∀ x∈pB a b p0 r,x.1.1<a.Next.length∧x.1.2<b.Next.length∧x.2.length<=r∧dest a p0.1 x.2=x.1.1∧dest b p0.2 x.2=x.1.2∧WOk a.Inputs x.2
 | 0,x,hx=>by
  have:x=(p0,[]):=by simpa [pB,bfsB] using hx
  subst this;exact ⟨h1,h2,yap _,rfl,rfl,fun a ha=>by cases ha⟩
 | r+1,x,hx=>by
  have ih:=zpm T h1 h2 r
  have a2:x∈pB a b p0 r->x.1.1<a.Next.length∧x.1.2<b.Next.length∧x.2.length<=r+1∧dest a p0.1 x.2=x.1.1∧dest b p0.2 x.2=x.1.2∧WOk a.Inputs x.2:=fun h=>by
   have:=ih x h;exact ⟨this.1,this.2.1,by omega,this.2.2.2⟩
  unfold pB at hx;rw [bfsB] at hx;split at hx
  ·exact a2 hx
  ·rename_i y hy;split at hx
   ·exact a2 hx
   ·rcases yak.1 hx with h | h
    ·exact a2 h
    ·have hK:0<a.Inputs.toNat:=by have:=T.a1.i1;omega
     have a0:=ih y (zkH hy);have ha:=yc3 r hK;have a4:x=(pE a b y.1 (r%a.Inputs.toNat),y.2++[(↑(r%a.Inputs.toNat):Int)]):=by simpa using h
     subst a4;refine ⟨(T.a1.at a0.1 ha).1,(T.b1.at a0.2.1 (by rw [<- T.inp];exact ha)).1,by simp;omega,?_,?_,?_⟩
     ·simp only;rw [zes,a0.2.2.2.1];show nx a y.1.1 (Int.toNat _)=_;rw [yah];rfl
     ·simp only;rw [zes,a0.2.2.2.2.1];show nx b y.1.2 (Int.toNat _)=_;rw [yah];rfl
     ·refine WOk.append a0.2.2.2.2.2 fun z a3=>?_;have:z=(↑(r%a.Inputs.toNat):Int):=by simpa using a3
      subst this;omega
theorem pB_len (T:Two a b) {p0:Nat×Nat} (h1:p0.1<a.Next.length) (h2:p0.2<b.Next.length) (r:Nat):(pB a b p0 r).length<=a.Next.length*b.Next.length:=by
 have hn:=zi8 (e:=pE a b) (K:=a.Inputs.toNat) (s0:=p0) r;have:=zic (l:=(((pB a b p0 r).map Prod.fst).map fun p=>p.1*b.Next.length+p.2)) (l':=List.range (a.Next.length*b.Next.length)) ?_ fun x hx=>?_
 ·rwa [zkK,zkK,ybz] at this
 ·refine List.Pairwise.map _ (R:=fun p q=>p∈(pB a b p0 r).map Prod.fst∧q∈(pB a b p0 r).map Prod.fst∧p≠q) (fun p q ⟨hp,hq,a0⟩ he=>?_) (List.Pairwise.imp_of_mem (fun {p q} hp hq a0=>⟨hp,hq,a0⟩) hn);obtain ⟨x,hx,rfl⟩:=yao.1 hp;obtain ⟨y,hy,rfl⟩:=yao.1 hq;have a3:=(zpm T h1 h2 r x hx).2.1;have a2:=(zpm T h1 h2 r y hy).2.1;have he:x.1.1*b.Next.length+x.1.2=y.1.1*b.Next.length+y.1.2:=he;have e1:=zix (i:=x.1.1) a3;have e2:=zix (i:=y.1.1) a2;have e3:=zru (i:=x.1.1) a3;have e4:=zru (i:=y.1.1) a2;rw [he] at e1 e3;exact a0 (Prod.ext (by rw [<- e1,e2]) (by rw [<- e3,e4]))
 ·obtain ⟨p,hp,rfl⟩:=yao.1 hx;obtain ⟨y,hy,rfl⟩:=yao.1 hp;exact ya8.2 (zjh (zpm T h1 h2 r y hy).1 (zpm T h1 h2 r y hy).2.1)
theorem pB_step {p0:Nat×Nat} {i c:Nat} {x:(Nat×Nat)×yab} (hc:c<a.Inputs.toNat) (hx:(pB a b p0 (i*a.Inputs.toNat+c))[i]?=some x) :
  pB a b p0 (i*a.Inputs.toNat+(c+1))=if pE a b x.1 c∈(pB a b p0 (i*a.Inputs.toNat+c)).map Prod.fst then pB a b p0 (i*a.Inputs.toNat+c) else pB a b p0 (i*a.Inputs.toNat+c)++[(pE a b x.1 c,x.2++[(↑c:Int)])]:=by
 have h:=bfs_step (e:=pE a b) (s0:=p0) hc hx;by_cases g:pE a b x.1 c∈(pB a b p0 (i*a.Inputs.toNat+c)).map Prod.fst
 ·rw [if_pos g];exact h.trans (if_pos g)
 ·rw [if_neg g];exact h.trans (if_neg g)
theorem pB_next {p0:Nat×Nat} {i:Nat}:pB a b p0 (i*a.Inputs.toNat+a.Inputs.toNat)=pB a b p0 ((i+1)*a.Inputs.toNat):=by rw [yc9]
theorem pB_get {p0:Nat×Nat} {i r:Nat} {x:(Nat×Nat)×yab} (hx:(pB a b p0 (i*a.Inputs.toNat))[i]?=some x) (hr:i*a.Inputs.toNat<=r):(pB a b p0 r)[i]?=some x:=zeo (zgw hr) hx
def Fst (a b:zaa) (p0:Nat×Nat) (res:yab×Bool):Prop :=
 (∃ i c x,c<a.Inputs.toNat∧(pB a b p0 (i*a.Inputs.toNat+c))[i]?=some x∧ot a x.1.1 c≠ot b x.1.2 c∧(∀ r,r<i*a.Inputs.toNat+c->difB a b p0 r=false)∧res=(x.2++[(↑c:Int)],true)) ∨
 (∃ L,PEnd a b p0 L∧(∀ r,r<L.length*a.Inputs.toNat->difB a b p0 r=false)∧res=([],false))
theorem fst_uniq (hK:0<a.Inputs.toNat) {p0:Nat×Nat} {u v:yab×Bool} (hu:Fst a b p0 u) (hv:Fst a b p0 v):u=v:=by
 have a0:∀ {u v:yab×Bool},(∃ i c x,c<a.Inputs.toNat∧(pB a b p0 (i*a.Inputs.toNat+c))[i]?=some x∧ot a x.1.1 c≠ot b x.1.2 c∧(∀ r,r<i*a.Inputs.toNat+c->difB a b p0 r=false)∧u=(x.2++[(↑c:Int)],true))->(∃ L,PEnd a b p0 L∧(∀ r,r<L.length*a.Inputs.toNat->difB a b p0 r=false)∧v=([],false))->False:=by
  rintro u v ⟨i,c,x,h1,h2,h3,h4,_⟩ ⟨L,h6,h7,_⟩;rcases yat (i*a.Inputs.toNat+c) (L.length*a.Inputs.toNat) with g | g
  ·have:=h7 _ g;rw [zok h1 h2,zkB h3] at this;cases this
  ·have hs:=bfs_stay h6 hK (i*a.Inputs.toNat+c-L.length*a.Inputs.toNat);rw [show L.length*a.Inputs.toNat+(i*a.Inputs.toNat+c-L.length*a.Inputs.toNat)=i*a.Inputs.toNat+c by omega] at hs;have a2:(bfsB (pE a b) a.Inputs.toNat p0 (i*a.Inputs.toNat+c))[i]?=some x:=h2;rw [hs] at a2;have hi:=(zkI.1 a2).1;have:=zjh hi h1;omega
 rcases hu with hu | hu<;>rcases hv with hv | hv
 ·obtain ⟨i,c,x,h1,h2,h3,h4,rfl⟩:=hu;obtain ⟨i',c',x',g1,g2,g3,g4,rfl⟩:=hv
  have hr:i*a.Inputs.toNat+c=i'*a.Inputs.toNat+c':=by
   rcases yc0 (i*a.Inputs.toNat+c) (i'*a.Inputs.toNat+c') with q | q | q
   ·have:=g4 _ q;rw [zok h1 h2,zkB h3] at this;cases this
   ·exact q
   ·have:=h4 _ q;rw [zok g1 g2,zkB g3] at this;cases this
  have e1:i=i':=by rw [<- zix (i:=i) h1,hr,zix g1]
  subst e1;have e2:c=c':=by omega
  subst e2;rw [h2] at g2;injection g2 with g2
  rw [g2]
 ·exact (a0 hu hv).elim
 ·exact (a0 hv hu).elim
 ·obtain ⟨_,_,_,rfl⟩:=hu;obtain ⟨_,_,_,rfl⟩:=hv;rfl
end
end
section
section
variable {a b:zaa}
def plC (x:(Nat×Nat)×yab):zbc:=⟨⟨(↑x.1.1:Int),(↑x.1.2:Int)⟩,x.2⟩
theorem map_get {α β:Type} {f:α->β} {l:List α} {i:Nat} {x:α} (h:l[i]?=some x):(l.map f)[i]?=some (f x):=by rw [yaf,h];rfl
structure SeenG (n k:Nat) (y:List (List Bool)) (l:yad):Prop where
 len:y.length=n
 at_:∀ s t,s<n->t<k->∃ row,y[s]?=some row∧row.length=k∧row[t]?=some (decide ((s,t)∈l))
theorem pair_mem {l:yad} {p q:Nat×Nat} (h:p≠q):p∈l↔p∈l++[q]:=by
 rw [yak,yar];exact ⟨Or.inl,fun z=>z.elim id fun e=>absurd e h⟩
theorem SeenG.push {n k s t:Nat} {y:List (List Bool)} {l:yad} {row:List Bool} (S:SeenG n k y l) (hs:s<n) (ht:t<k) (hr:y[s]?=some row):SeenG n k (y.set s (row.set t true)) (l++[(s,t)]):=by
 refine ⟨by simp [S.len],fun u v hu hv=>?_⟩;obtain ⟨a0,h1,h2,h3⟩:=S.at_ u v hu hv;by_cases h:s=u
 ·subst h;rw [hr] at h1;injection h1 with h1
  subst h1;refine ⟨row.set t true,by rw [ya7 (by rw [S.len];exact hs)],by simp [h2],?_⟩;by_cases g:t=v
  ·subst g;rw [ya7 (by omega)];simp
  ·rw [ybb g,h3];congr 1;apply decide_eq_decide.2;exact pair_mem fun e=>g (congrArg Prod.snd e).symm
 ·refine ⟨a0,by rw [ybb h,h1],h2,?_⟩;rw [h3];congr 1;apply decide_eq_decide.2;exact pair_mem fun e=>h (congrArg Prod.fst e).symm
theorem seenG_nil (n k:Nat):SeenG n k (List.replicate n (List.replicate k false)) []:=⟨by simp,fun s t hs ht=>⟨List.replicate k false,by simp [hs],by simp,by simp [ht]⟩⟩
theorem big_sum {i c n k K:Nat} (hi:i<=n*k) (hn:n<=128) (hk:k<=128) (hK:K<=64) (hc:c<=64):i*K+c<=1048640:=by
 have h1:n*k<=128*128:=ycr hn hk;have h2:i*K<=(128*128)*64:=ycr (by omega) hK;omega
theorem search_row (T:Two a b) {p0:Nat×Nat} (h1:p0.1<a.Next.length) (h2:p0.2<b.Next.length) {i:Nat} {x:(Nat×Nat)×yab} {y:List (List Bool)} (hi:i<=a.Next.length*b.Next.length)
  (hx:(pB a b p0 (i*a.Inputs.toNat))[i]?=some x) (S:SeenG a.Next.length b.Next.length y ((pB a b p0 (i*a.Inputs.toNat)).map Prod.fst)) (hd:∀ r,r<i*a.Inputs.toNat->difB a b p0 r=false) :
  ∃ r,iter (fun (s:List (List Bool)×List zbc×Nat)=>zbe.s20 a b i (plC x) s.1 s.2.1 s.2.2) fuel (y,(pB a b p0 (i*a.Inputs.toNat)).map plC,0)=some r ∧
   ((∃ y',r=.inl (y',(pB a b p0 ((i+1)*a.Inputs.toNat)).map plC)∧SeenG a.Next.length b.Next.length y' ((pB a b p0 ((i+1)*a.Inputs.toNat)).map Prod.fst)∧∀ r,r<(i+1)*a.Inputs.toNat->difB a b p0 r=false) ∨
   (∃ res,r=.inr (.inr (.inr res))∧Fst a b p0 res)):=by
 have a7:=T.a1.n2;have b2:=T.b1.n2;have hI:=T.a1.i2;have a8:=zpm T h1 h2 _ x (zkH hx)
 obtain ⟨r,hr,hq⟩:=zaw (step:=fun (s:List (List Bool)×List zbc×Nat)=>zbe.s20 a b i (plC x) s.1 s.2.1 s.2.2) (fun s=>s.2.2<=a.Inputs.toNat∧s.2.1=(pB a b p0 (i*a.Inputs.toNat+s.2.2)).map plC∧SeenG a.Next.length b.Next.length s.1 ((pB a b p0 (i*a.Inputs.toNat+s.2.2)).map Prod.fst)∧∀ r,r<i*a.Inputs.toNat+s.2.2->difB a b p0 r=false) (fun s=>a.Inputs.toNat-s.2.2) (fun r=>(∃ y',r=.inl (y',(pB a b p0 ((i+1)*a.Inputs.toNat)).map plC)∧SeenG a.Next.length b.Next.length y' ((pB a b p0 ((i+1)*a.Inputs.toNat)).map Prod.fst)∧∀ r,r<(i+1)*a.Inputs.toNat->difB a b p0 r=false)∨(∃ res,r=.inr (.inr (.inr res))∧Fst a b p0 res)) (fun s ⟨q1,q2,q3,q4⟩=>by
  obtain ⟨y,l,c⟩:=s
  simp only at q1 q2 q3 q4
  subst q2
  simp only [zbe.s20]
  by_cases g:c<a.Inputs.toNat
  ·have a3:=pB_get hx (r:=i*a.Inputs.toNat+c) (by omega)
   obtain ⟨g1,_,_,ra,oa,e1,e2,e3,e4⟩:=T.a1.at a8.1 g
   obtain ⟨f1,_,_,rb,ob,d1,d2,d3,d4⟩:=T.b1.at a8.2.1 (a:=c) (by rw [<- T.inp];exact g)
   have b4:=big_sum (c:=c) hi a7 b2 (K:=a.Inputs.toNat) (by omega) (by omega)
   have b5:=pB_len T h1 h2 (i*a.Inputs.toNat+c)
   have b7:a.Next.length*b.Next.length<=128*128:=ycr a7 b2
   rw [zkB (by omega),zkD,zbb (n:=(plC x).at_.s) (i:=x.1.1) rfl e2,zal e4,zbb (n:=(plC x).at_.t) (i:=x.1.2) rfl d2,zal d4]
   by_cases a4:ot a x.1.1 c≠ot b x.1.2 c
   ·right
    rw [zkB a4,zkD,zal (map_get a3)]
    show ∃ r,((zep [x.2,[(↑c:Int)]]).bind _:Option _)=_∧_
    rw [zhb _ (by simp) (by simp;omega),zam]
    refine ⟨_,rfl,Or.inr ⟨_,rfl,Or.inl ⟨i,c,x,g,a3,a4,q4,?_⟩⟩⟩
    simp
   ·left
    have b6:ot a x.1.1 c=ot b x.1.2 c:=ya5 a4
    have a9:∀ r,r<i*a.Inputs.toNat+(c+1)->difB a b p0 r=false:=fun r hr=>by
     rcases yat r (i*a.Inputs.toNat+c) with q | q
     ·exact q4 r q
     ·have:r=i*a.Inputs.toNat+c:=by omega
      rw [this,zok g a3,zkA a4]
    have a0:=pB_step g a3
    obtain ⟨row,r1,r2,r3⟩:=q3.at_ _ _ g1 f1
    have b3:x.1∈(pB a b p0 (i*a.Inputs.toNat+c)).map Prod.fst:=yao.2 ⟨x,zkH a3,rfl⟩
    have a5:((cond (!(decide ((↑(nx a x.1.1 c):Int)=(plC x).at_.s)&&(decide ((↑(nx b x.1.2 c):Int)=(plC x).at_.t)&&true))) (idx y (↑(nx a x.1.1 c):Int) fun a2=>idx a2 (↑(nx b x.1.2 c):Int) fun a6=>some (!a6)) (some false):Option Bool))=some (!decide (pE a b x.1 c∈(pB a b p0 (i*a.Inputs.toNat+c)).map Prod.fst)):=by
     by_cases z:pE a b x.1 c=x.1
     ·have z1:nx a x.1.1 c=x.1.1:=congrArg Prod.fst z
      have z2:nx b x.1.2 c=x.1.2:=congrArg Prod.snd z
      rw [zkB (show (↑(nx a x.1.1 c):Int)=(plC x).at_.s by rw [z1];rfl),zkB (show (↑(nx b x.1.2 c):Int)=(plC x).at_.t by rw [z2];rfl),z,zkB b3]
      rfl
     ·have:(!(decide ((↑(nx a x.1.1 c):Int)=(plC x).at_.s)&&(decide ((↑(nx b x.1.2 c):Int)=(plC x).at_.t)&&true)))=true:=by
       by_cases z1:nx a x.1.1 c=x.1.1
       ·have z2:nx b x.1.2 c≠x.1.2:=fun q=>z (Prod.ext z1 q)
        rw [zkA (show ¬ (↑(nx b x.1.2 c):Int)=(plC x).at_.t from fun q=>z2 (Int.ofNat_inj.1 q))]
        simp
       ·rw [zkA (show ¬ (↑(nx a x.1.1 c):Int)=(plC x).at_.s from fun q=>z1 (Int.ofNat_inj.1 q))]
        rfl
      rw [this,zkD,zbb rfl r1,zbb rfl r3]
      rfl
    rw [zkA a4,zkC,zbb (n:=(plC x).at_.s) (i:=x.1.1) rfl e1,zal e3,zbb (n:=(plC x).at_.t) (i:=x.1.2) rfl d1,zal d3,a5,zam]
    by_cases hm:pE a b x.1 c∈(pB a b p0 (i*a.Inputs.toNat+c)).map Prod.fst
    ·rw [if_pos hm] at a0
     refine ⟨(y,(pB a b p0 (i*a.Inputs.toNat+c)).map plC,c+1),by rw [zkB hm,yb8,zkC,zas (by unfold inR;omega)],⟨g,by simp only;rw [a0],by simp only;rw [a0];exact q3,a9⟩,by simp only;omega⟩
    ·rw [if_neg hm] at a0
     refine ⟨(y.set (nx a x.1.1 c) (row.set (nx b x.1.2 c) true),(pB a b p0 (i*a.Inputs.toNat+c)).map plC++[plC (pE a b x.1 c,x.2++[(↑c:Int)])],c+1),?_,⟨g,by simp only;rw [a0,ya9];rfl,by simp only;rw [a0,ya9];exact q3.push g1 f1 r1,a9⟩,by simp only;omega⟩
     rw [zkA hm,ycb,zkD,zbb rfl r1,zbb rfl r3,zal (map_get a3)]
     show (zep [x.2,[(↑c:Int)]]).bind _=_
     rw [zhb _ (by simp) (by simp;omega),zam,zas (by unfold zaz;rw [zkK];omega),zas (by unfold inR;omega),yah,yah]
     simp [plC,pE]
  ·right
   have e':c=a.Inputs.toNat:=by omega
   subst e'
   rw [pB_next] at q3 ⊢
   exact ⟨_,by rw [zkA (by omega),zkC],Or.inl ⟨_,rfl,q3,by rw [yc9];exact q4⟩⟩) fuel (y,(pB a b p0 (i*a.Inputs.toNat)).map plC,0) ⟨yag _,rfl,S,hd⟩ (by have:=zav;simp only;omega)
 exact ⟨r,hr,hq⟩
theorem zkw (T:Two a b) {p0:Nat×Nat} (h1:p0.1<a.Next.length) (h2:p0.2<b.Next.length):∃ res,zbe a b (⟨(↑p0.1:Int),(↑p0.2:Int)⟩:zdl)=some res∧Fst a b p0 res:=by
 have a2:=T.a1.n2;have a0:=T.b1.n2;have hI:=T.a1.i2;have a5:a.Next.length*b.Next.length<=128*128:=ycr a2 a0;unfold zbe
 have grid:=ze7 (step:=fun (s:List (List Bool)×Nat)=>zbe.s2 a b s.1 s.2) (r:=List.replicate a.Next.length (List.replicate b.Next.length false)) (fun s=>s.2<=a.Next.length∧s.1=List.replicate s.2 (List.replicate b.Next.length false)++List.replicate (a.Next.length-s.2) []) (fun s=>a.Next.length-s.2) (fun s ⟨q1,q2⟩=>by
  obtain ⟨y,k⟩:=s
  simp only at q1 q2
  subst q2
  simp only [zbe.s2]
  by_cases g:k<a.Next.length
  ·left
   refine ⟨(List.replicate (k+1) (List.replicate b.Next.length false)++List.replicate (a.Next.length-(k+1)) [],k+1),?_,⟨g,rfl⟩,by simp only;omega⟩
   have hk:(List.replicate k (List.replicate b.Next.length false)++List.replicate (a.Next.length-k) [])[k]?=some []:=by
    rw [yax (by simp),yas,ybx,ybk,if_pos (by omega)]
   rw [yas,zkB (by omega),zkD,zas ⟨by omega,by omega,by unfold zaz;omega⟩,zal hk,zas (by unfold inR;omega)]
   congr 4
   rw [List.set_append_right _ _ (by simp),yas,ybx,show a.Next.length-k=(a.Next.length-(k+1))+1 by omega,List.replicate_succ,List.set_cons_zero,List.replicate_succ' (n:=k)]
   simp
  ·right
   have:k=a.Next.length:=by omega
   subst this
   rw [yas,zkA (by omega),zkC]
   simp) (n:=fuel) (s:=(List.replicate a.Next.length [],0)) ⟨yag _,by simp⟩ (by have:=zav;simp only;omega)
 obtain ⟨row,r1,r2,r3⟩:=(seenG_nil a.Next.length b.Next.length).at_ _ _ h1 h2;have hS:=(seenG_nil a.Next.length b.Next.length).push h1 h2 r1;rw [zas ⟨by omega,by omega,by unfold zaz;omega⟩,grid,zam];simp only;rw [zbb rfl r1,zbb rfl r3,yah,yah]
 obtain ⟨r,hr,hq⟩:=zaw (step:=fun (s:List (List Bool)×List zbc×Nat)=>zbe.s22 a b s.1 s.2.1 s.2.2) (fun s=>s.2.2<=(pB a b p0 (s.2.2*a.Inputs.toNat)).length∧s.2.1=(pB a b p0 (s.2.2*a.Inputs.toNat)).map plC∧SeenG a.Next.length b.Next.length s.1 ((pB a b p0 (s.2.2*a.Inputs.toNat)).map Prod.fst)∧∀ r,r<s.2.2*a.Inputs.toNat->difB a b p0 r=false) (fun s=>a.Next.length*b.Next.length+1-s.2.2) (fun r=>(r=.inl ()∧Fst a b p0 ([],false))∨∃ res,r=.inr res∧Fst a b p0 res) (fun s ⟨q1,q2,q3,q4⟩=>by
  obtain ⟨y,l,i⟩:=s
  simp only at q1 q2 q3 q4
  subst q2
  simp only [zbe.s22]
  have a4:=pB_len T h1 h2 (i*a.Inputs.toNat)
  by_cases g:i<(pB a b p0 (i*a.Inputs.toNat)).length
  ·have hx:=get_at g
   generalize (pB a b p0 (i*a.Inputs.toNat))[i]=x at hx
   obtain ⟨r,z1,z2⟩:=search_row T h1 h2 (by omega) hx q3 q4
   rw [zkB (by rw [zkK];omega),zkD,zal (map_get hx),z1,zam]
   rcases z2 with ⟨y',rfl,z3,z4⟩ | ⟨res,rfl,z3⟩
   ·left
    have a3:=(zgw (e:=pE a b) (K:=a.Inputs.toNat) (s0:=p0) (show i*a.Inputs.toNat<=(i+1)*a.Inputs.toNat by rw [yc9];omega)).length_le
    exact ⟨(y',(pB a b p0 ((i+1)*a.Inputs.toNat)).map plC,i+1),rfl,⟨by simp only;unfold pB at g ⊢;omega,rfl,z3,z4⟩,by simp only;omega⟩
   ·right
    exact ⟨.inr res,rfl,Or.inr ⟨res,rfl,z3⟩⟩
  ·right
   refine ⟨.inl (),by rw [zkA (by rw [zkK];omega),zkC],Or.inl ⟨rfl,Or.inr ⟨pB a b p0 (i*a.Inputs.toNat),⟨?_⟩,?_,rfl⟩⟩⟩
   ·rw [show (pB a b p0 (i*a.Inputs.toNat)).length=i by omega]
    rfl
   ·rw [show (pB a b p0 (i*a.Inputs.toNat)).length=i by omega]
    exact q4) fuel ((List.replicate a.Next.length (List.replicate b.Next.length false)).set p0.1 (row.set p0.2 true),[(⟨(⟨(↑p0.1:Int),(↑p0.2:Int)⟩:zdl),[]⟩:zbc)],0) ⟨yag _,by simp only;rw [ycv];simp [pB,bfsB,plC],by
    simp only
    rw [ycv]
    exact hS,fun r hr=>by simp only at hr;omega⟩ (by have:=zav;simp only;omega)
 rw [hr,zam];rcases hq with ⟨rfl,hq⟩ | ⟨res,rfl,hq⟩
 ·exact ⟨_,rfl,hq⟩
 ·exact ⟨_,rfl,hq⟩
end
end
section
section
variable {a b:zaa}
theorem fst_word (T:Two a b) {p0:Nat×Nat} (h1:p0.1<a.Next.length) (h2:p0.2<b.Next.length) {w:yab} (h:Fst a b p0 (w,true)):WOk a.Inputs w∧w.length<=1048640∧∃ (v:yab) (c:Nat),w=v++[(↑c:Int)]∧c<a.Inputs.toNat∧ot a (dest a p0.1 v) c≠ot b (dest b p0.2 v) c:=by
 rcases h with ⟨i,c,x,g1,g2,g3,g4,g5⟩ | ⟨L,_,_,g⟩
 ·injection g5 with g5 _
  have hr:=zpm T h1 h2 _ x (zkH g2);have a0:=pB_len T h1 h2 (i*a.Inputs.toNat+c);have hi:=(zkI.1 g2).1;have:=big_sum (c:=c+1) (i:=i) (by omega) T.a1.n2 T.b1.n2 (K:=a.Inputs.toNat) (by have:=T.a1.i2;omega) (by have:=T.a1.i2;omega);refine ⟨?_,?_,x.2,c,g5,g1,by rw [hr.2.2.2.1,hr.2.2.2.2.1];exact g3⟩
  ·rw [g5];refine WOk.append hr.2.2.2.2.2 fun z hz=>?_;have:z=(↑c:Int):=by simpa using hz
   omega
  ·rw [g5];simp;omega
 ·injection g with _ g
  cases g
theorem outs_snoc {m:zaa} {v:yab} {c:Nat} {s:Nat}:outs m s (v++[(↑c:Int)])=outs m s v++[ot m (dest m s v) c]:=by
 rw [zfz];show _++[ot m (dest m s v) (Int.toNat ↑c)]=_;rw [yah]
theorem fst_ne (T:Two a b) {p0:Nat×Nat} (h1:p0.1<a.Next.length) (h2:p0.2<b.Next.length) {w:yab} (h:Fst a b p0 (w,true)):outs a p0.1 w≠outs b p0.2 w:=by
 obtain ⟨_,_,v,c,rfl,_,h3⟩:=fst_word T h1 h2 h;intro he;rw [outs_snoc,outs_snoc] at he;have:=List.append_inj_right' he rfl;injection this with this _
 exact h3 this
theorem fst_none {p0:Nat×Nat} {w0:yab} (h:Fst a b p0 (w0,false)):∀ w,WOk a.Inputs w->outs a p0.1 w=outs b p0.2 w:=by
 rcases h with ⟨i,c,x,_,_,_,_,g⟩ | ⟨L,g1,g2,_⟩
 ·injection g with _ g
  cases g
 ·have key:∀ (w:yab) (i:Nat) (x:(Nat×Nat)×yab),L[i]?=some x->WOk a.Inputs w->outs a x.1.1 w=outs b x.1.2 w:=by
   intro w
   induction w with
   | nil=>intro _ _ _ _;rfl
   | cons z w ih =>
    intro i x hx hw;have hz:=hw.head;have hc:z.toNat<a.Inputs.toNat:=by omega
    have hi:=(zkI.1 hx).1;obtain ⟨x',e1,e2⟩:=g1.long hi hc;rw [hx] at e1;injection e1 with e1
    subst e1;have hd:=g2 (i*a.Inputs.toNat+z.toNat) (zjh hi hc);rw [zok hc e2] at hd
    have a0:ot a x.1.1 z.toNat=ot b x.1.2 z.toNat:=ya5 fun q=>by
     rw [zkB q] at hd;cases hd
    obtain ⟨j,y,f1,f2,_⟩:=g1.closed hx hc;have:=ih j y f1 hw.tail;rw [f2] at this;show ot a x.1.1 z.toNat::outs a (nx a x.1.1 z.toNat) w=ot b x.1.2 z.toNat::outs b (nx b x.1.2 z.toNat) w;rw [a0];congr 1
  exact fun w hw=>key w 0 _ g1.first hw
end
end
section
theorem leastR {p:Nat->Prop}:∀ {r:Nat},p r->∃ q,p q∧∀ q',q'<q->¬ p q':=fun {r} h=>by
 induction r using Nat.strongRecOn with
 | ind r ih =>
  by_cases g:∃ q,q<r∧p q
  ·obtain ⟨q,h1,h2⟩:=g;exact ih q h1 h2
  ·exact ⟨r,h,fun q' hq hp=>g ⟨q',hq,hp⟩⟩
structure Can (M:zaa):Prop where
 c4:∀ i a u,i<M.Next.length->a<M.Inputs.toNat->0<u->u<=nx M i a->∃ i' a',a'<M.Inputs.toNat∧i'*M.Inputs.toNat+a'<=i*M.Inputs.toNat+a∧i'<u∧nx M i' a'=u
 c5:∀ u,0<u->u<M.Next.length->∃ i a,i<u∧a<M.Inputs.toNat∧nx M i a=u
def Eqv (a:zaa) (s:Nat) (b:zaa) (t:Nat):Prop:=∀ w,WOk a.Inputs w->outs a s w=outs b t w
structure zke (m M:zaa):Prop where
 ok:zcv M
 inp:M.Inputs=m.Inputs
 start:M.Start=0
 eqv:Eqv M 0 m m.Start.toNat
 min:∀ i j,i<M.Next.length->j<M.Next.length->Eqv M i M j->i=j
 can:Can M
theorem Eqv.step {a b:zaa} (hi:a.Inputs=b.Inputs) {s t c:Nat} (h:Eqv a s b t) (hc:c<a.Inputs.toNat):ot a s c=ot b t c∧Eqv a (nx a s c) b (nx b t c):=by
 have key:∀ w,WOk a.Inputs w->ot a s c::outs a (nx a s c) w=ot b t c::outs b (nx b t c) w:=fun w hw=>by
  have:=h ((↑c:Int)::w) (fun x hx=>by
   rcases yba.1 hx with rfl | hx
   ·omega
   ·exact hw x hx)
  exact this
 have h0:=key [] (fun x hx=>by cases hx);injection h0 with h0 _
 refine ⟨h0,fun w hw=>?_⟩;have:=key w hw;injection this with _ this
theorem Eqv.symm {a b:zaa} (hi:a.Inputs=b.Inputs) {s t:Nat} (h:Eqv a s b t):Eqv b t a s:=fun w hw=>(h w (by rw [hi];exact hw)).symm
theorem Eqv.trans {a b c:zaa} (hi:a.Inputs=b.Inputs) {s t u:Nat} (h:Eqv a s b t) (g:Eqv b t c u):Eqv a s c u:=fun w hw=>(h w hw).trans (g w (by rw [<- hi];exact hw))
theorem Eqv.dest {a b:zaa} (hi:a.Inputs=b.Inputs) {s t:Nat} (h:Eqv a s b t) {w:yab} (hw:WOk a.Inputs w):Eqv a (dest a s w) b (dest b t w):=fun v hv=>by
 have:=h (w++v) (hw.append hv);rw [zfz,zfz] at this;exact List.append_inj_right this (by rw [zg0,zg0])
section
variable {M M':zaa}
theorem can_match (HM:zcv M) (HM':zcv M') (hi:M.Inputs=M'.Inputs) (hmin:∀ i j,i<M.Next.length->j<M.Next.length->Eqv M i M j->i=j) (hmin':∀ i j,i<M'.Next.length->j<M'.Next.length->Eqv M' i M' j->i=j) (C:Can M) (C':Can M') (h0:Eqv M 0 M' 0) :
  ∀ u,u<M.Next.length->u<M'.Next.length∧Eqv M u M' u:=by
 intro u
 induction u using Nat.strongRecOn with
 | ind u ih =>
  intro hu;by_cases hz:u=0
  ·subst hz;exact ⟨HM'.n1,h0⟩
  obtain ⟨i0,a0,b1,b2,b3⟩:=C.c5 u (by omega) hu;have hK:0<M.Inputs.toNat:=by omega
  obtain ⟨r,⟨⟨i,a,p1,p2,p3,p4⟩,a3⟩⟩:∃ r,(∃ i a,i<M.Next.length∧a<M.Inputs.toNat∧r=i*M.Inputs.toNat+a∧nx M i a=u)∧∀ r',r'<r->¬ ∃ i a,i<M.Next.length∧a<M.Inputs.toNat∧r'=i*M.Inputs.toNat+a∧nx M i a=u :=
   leastR (p:=fun r=>∃ i a,i<M.Next.length∧a<M.Inputs.toNat∧r=i*M.Inputs.toNat+a∧nx M i a=u) (r:=i0*M.Inputs.toNat+a0) ⟨i0,a0,by omega,b2,rfl,b3⟩
  have a9:i<u:=by
   rcases yat i u with q | q
   ·exact q
   ·exfalso;refine a3 (i0*M.Inputs.toNat+a0) ?_ ⟨i0,a0,by omega,b2,rfl,b3⟩;have:=zjh (show i0<i by omega) b2;omega
  obtain ⟨a6,hR⟩:=ih i a9 p1;obtain ⟨_,a4⟩:=hR.step hi p2;rw [p4] at a4;have a7:a<M'.Inputs.toNat:=by rw [<- hi];exact p2
  have a5:=(HM'.at a6 a7).1
  have a8:∀ i' a',i'<M.Next.length->a'<M.Inputs.toNat->i'*M.Inputs.toNat+a'<r->nx M i' a'<u:=fun i' a' g1 g2 g3=>by
   rcases yat (nx M i' a') u with q | q
   ·exact q
   ·exfalso;obtain ⟨i2,a2,z1,z2,z3,z4⟩:=C.c4 i' a' u g1 g2 (by omega) q;exact a3 (i2*M.Inputs.toNat+a2) (by omega) ⟨i2,a2,by omega,z1,rfl,z4⟩
  rcases yc0 (nx M' i a) u with q | q | q
  ·exfalso;obtain ⟨_,hv⟩:=ih _ q (by omega);have:=hmin u (nx M' i a) hu (by omega) (a4.trans hi (hv.symm hi));omega
  ·rw [q] at a4 a5;exact ⟨a5,a4⟩
  ·exfalso;obtain ⟨i2,a2,z1,z2,z3,z4⟩:=C'.c4 i a u a6 a7 (by omega) (by omega);rw [<- hi] at z1 z2;obtain ⟨w1,w2⟩:=ih i2 z3 (by omega);obtain ⟨_,w3⟩:=w2.step hi z1;rw [z4] at w3
   have b5:i2*M.Inputs.toNat+a2<r:=by
    rcases yat (i2*M.Inputs.toNat+a2) r with g | g
    ·exact g
    ·exfalso;have he:i2*M.Inputs.toNat+a2=i*M.Inputs.toNat+a:=by omega
     have e1:i2=i:=by rw [<- zix (i:=i2) z1,he,zix p2]
     subst e1;have e2:a2=a:=by omega
     subst e2;omega
   have hv:=a8 i2 a2 (by omega) z1 b5;obtain ⟨v1,v2⟩:=ih _ hv (by omega);have b4:u<M'.Next.length:=by omega
   have:=hmin' (nx M i2 a2) u v1 b4 ((v2.symm hi).trans hi.symm w3);omega
theorem row_ext {l l':yaa} {n k:Nat} {g:Nat->Nat->Int} (h1:l.length=n) (h2:l'.length=n) (h:∀ i,i<n->∃ x y,l[i]?=some x∧l'[i]?=some y∧x.length=k∧y.length=k∧∀ a,a<k->x[a]?=some (g i a)∧y[a]?=some (g i a)):l=l':=by
 refine yce fun i=>?_;rcases yat i n with g1 | g1
 ·obtain ⟨x,y,e1,e2,e3,e4,e5⟩:=h i g1;rw [e1,e2];congr 1;refine yce fun a=>?_;rcases yat a k with g2 | g2
  ·rw [(e5 a g2).1,(e5 a g2).2]
  ·rw [yaq (by omega),yaq (by omega)]
 ·rw [yaq (by omega),yaq (by omega)]
theorem zq0 {m:zaa} (S:zke m M) (S':zke m M'):M=M':=by
 have hi:M.Inputs=M'.Inputs:=S.inp.trans S'.inp.symm;have h0:Eqv M 0 M' 0:=S.eqv.trans S.inp (S'.eqv.symm S'.inp);have A:=can_match S.ok S'.ok hi S.min S'.min S.can S'.can h0;have B:=can_match S'.ok S.ok hi.symm S'.min S.min S'.can S.can (h0.symm hi)
 have hn:M.Next.length=M'.Next.length:=by
  have p1:=S.ok.n1;have p2:=S'.ok.n1;have a1:=(A (M.Next.length-1) (by omega)).1;have b1:=(B (M'.Next.length-1) (by omega)).1;omega
 have hx:∀ i a,i<M.Next.length->a<M.Inputs.toNat->nx M i a=nx M' i a∧ot M i a=ot M' i a:=fun i a h1 h2=>by
  obtain ⟨e1,e2⟩:=(A i h1).2.step hi h2;refine ⟨?_,e1⟩;have g1:=(S.ok.at h1 h2).1;have g2:=(S'.ok.at (show i<M'.Next.length by omega) (a:=a) (by rw [<- hi];exact h2)).1;have e3:=(A _ g1).2;exact S'.min _ _ (by omega) g2 ((e3.symm hi).trans hi.symm e2)
 have hN:M.Next=M'.Next:=row_ext (n:=M.Next.length) (k:=M.Inputs.toNat) (g:=fun i a=>(↑(nx M i a):Int)) rfl hn.symm fun i h=>by
  obtain ⟨x,y,e1,e2,e3,e4,_⟩:=S.ok.row i h;obtain ⟨x',y',f1,f2,f3,f4,_⟩:=S'.ok.row i (by omega);refine ⟨x,x',e1,f1,by omega,by omega,fun a ha=>?_⟩;obtain ⟨_,_,_,z,z',g1,_,g2,_⟩:=S.ok.at h ha;obtain ⟨_,_,_,v,v',k1,_,k2,_⟩:=S'.ok.at (show i<M'.Next.length by omega) (a:=a) (by rw [<- hi];exact ha);rw [e1] at g1;rw [f1] at k1;injection g1 with g1
  injection k1 with k1
  subst g1;subst k1;exact ⟨g2,by rw [k2,(hx i a h ha).1]⟩
 have hO:M.Out=M'.Out:=row_ext (n:=M.Next.length) (k:=M.Inputs.toNat) (g:=fun i a=>ot M i a) S.ok.ol (S'.ok.ol.trans hn.symm) fun i h=>by
  obtain ⟨x,y,e1,e2,e3,e4,_⟩:=S.ok.row i h;obtain ⟨x',y',f1,f2,f3,f4,_⟩:=S'.ok.row i (by omega);refine ⟨y,y',e2,f2,by omega,by omega,fun a ha=>?_⟩;obtain ⟨_,_,_,z,z',_,g1,_,g2⟩:=S.ok.at h ha;obtain ⟨_,_,_,v,v',_,k1,_,k2⟩:=S'.ok.at (show i<M'.Next.length by omega) (a:=a) (by rw [<- hi];exact ha);rw [e2] at g1;rw [f2] at k1;injection g1 with g1
  injection k1 with k1
  subst g1;subst k1;exact ⟨g2,by rw [k2,(hx i a h ha).2]⟩
 have hs:M.Start=M'.Start:=S.start.trans S'.start.symm;obtain ⟨a1,a2,a3,a4⟩:=M;obtain ⟨b1,b2,b3,b4⟩:=M';simp only at hi hs hN hO;rw [hi,hs,hN,hO]
end
structure Shape {A:Type} [DecidableEq A] (e:A->Nat->A) (o:A->Nat->Int) (L:List (A×yab)) (M:zaa):Prop where
 len:M.Next.length=L.length
 row:∀ i x a,L[i]?=some x->a<M.Inputs.toNat->∃ y,L[nx M i a]?=some y∧y.1=e x.1 a∧ot M i a=o x.1 a
theorem zny {A:Type} {l:List A} (h:l.Nodup) {i j:Nat} {x:A} (hi:l[i]?=some x) (hj:l[j]?=some x):i=j:=by
 have h1:=(zkI.1 hi);have h2:=(zkI.1 hj);obtain ⟨a1,a2⟩:=h1;obtain ⟨b1,b2⟩:=h2;rcases yc0 i j with q | q | q
 ·exact absurd (a2.trans b2.symm) (yb1.1 h i j a1 b1 q)
 ·exact q
 ·exact absurd (b2.trans a2.symm) (yb1.1 h j i b1 a1 q)
theorem shape_can {A:Type} [DecidableEq A] {e:A->Nat->A} {o:A->Nat->Int} {s0:A} {L:List (A×yab)} {M:zaa} (hE:zgf e M.Inputs.toNat s0 L) (S:Shape e o L M) (hK:0<M.Inputs.toNat):Can M:=by
 have at_:∀ i a x y j,L[i]?=some x->a<M.Inputs.toNat->L[j]?=some y->y.1=e x.1 a->nx M i a=j:=fun i a x y j hx ha hj he=>by
  obtain ⟨y',h1,h2,_⟩:=S.row i x a hx ha;exact zny hE.nodup (x:=e x.1 a) (by rw [yaf,h1,<- h2];rfl) (by rw [yaf,hj,<- he];rfl)
 refine ⟨fun i a u hi ha hu a0=>?_,fun u hu a2=>?_⟩
 ·have hx:=get_at (l:=L) (i:=i) (by rw [<- S.len];exact hi);obtain ⟨j,y,h1,h2,h3⟩:=hE.closed hx ha;rw [at_ i a _ y j hx ha h1 h2] at a0;obtain ⟨i',a',z,w,g1,g2,g3,g4,g5,g6⟩:=h3 u hu a0;exact ⟨i',a',g1,g2,g3,at_ i' a' z w u g4 g1 g5 g6⟩
 ·have hx:=get_at (l:=L) (i:=u) (by rw [<- S.len];exact a2);rcases hE.from hK hx with q | ⟨i,a,y,g1,g2,g3,g4⟩
  ·omega
  ·exact ⟨i,a,g1,g2,at_ i a y _ u g3 g2 hx (by rw [g4])⟩
end
section
section
variable {m:zaa}
theorem libclone_w {w:yab} (h:w.length<=1000000):zfh w=some w:=zni (by unfold SmW;omega)
structure TrimOk (m t:zaa) (L:List (Nat×yab)):Prop where
 end_:MEnd m m.Start.toNat L
 inp:t.Inputs=m.Inputs
 start:t.Start=0
 ok:zcv t
 shape:Shape (nx m) (ot m) L t
theorem zp8 (H:zcv m) {s0:Nat} {L:List (Nat×yab)} (hs:s0<m.Next.length) (hE:MEnd m s0 L):L.length<=m.Next.length∧∀ x∈L,x.1<m.Next.length∧dest m s0 x.2=x.1∧WOk m.Inputs x.2:=by
 refine ⟨?_,fun x hx=>?_⟩
 ·rw [hE.eq];exact zs8 H hs _
 ·rw [hE.eq] at hx;have:=zpo H hs _ x hx;exact ⟨this.1,this.2.2⟩
theorem mealy_Trim_eq (hv:ze5 m=0):∃ t L,zbx m=some (t,0)∧TrimOk m t L:=by
 have H:=zfv hv;have b6:=H.st;have hn:=H.n2;have hI:=H.i2;have a9:=H.i1;have hs:m.Start.toNat<m.Next.length:=by omega
 obtain ⟨L,hE,hR⟩:=zmp hv;obtain ⟨b5,a2⟩:=zp8 H hs hE;have b2:=hE.nodup;unfold zbx;rw [zdr,zam,hv,zkA (by decide),zkC,hR,zam,zas ⟨by omega,by omega,by unfold zaz;omega⟩]
 -- the numbers
 obtain ⟨num,a7,b4,b3⟩:=zaw (step:=fun (s:yab×Nat)=>zbx.s2 (natI (L.map Prod.fst)) s.1 s.2) (fun s=>s.2<=L.length∧s.1.length=m.Next.length∧∀ (j:Nat) (x:Nat×yab),j<s.2->L[j]?=some x->s.1[x.1]?=some (↑j:Int)) (fun s=>L.length-s.2) (fun r=>r.length=m.Next.length∧∀ (j:Nat) (x:Nat×yab),L[j]?=some x->r[x.1]?=some (↑j:Int)) (fun s ⟨q1,q2,q3⟩=>by
  obtain ⟨y,i⟩:=s
  simp only at q1 q2 q3
  simp only [zbx.s2]
  by_cases g:i<L.length
  ·left
   have hx:=get_at g
   generalize L[i]=x at hx
   have a0:=(a2 x (zkH hx)).1
   have hy:=get_at (l:=y) (i:=x.1) (by omega)
   refine ⟨(y.set x.1 (↑i:Int),i+1),?_,⟨g,by simp [q2],fun j z hj hz=>?_⟩,by simp only;omega⟩
   ·rw [zkB (by rw [ze6,zkK];omega),zkD,zal (zq2 (i:=i) (u:=x.1) (by rw [yaf,hx];rfl)),zbb rfl hy,yah]
   ·simp only
    by_cases e:x.1=z.1
    ·have:i=j:=zny b2 (x:=x.1) (by rw [yaf,hx];rfl) (by rw [yaf,hz,e];rfl)
     subst this
     rw [<- e,ya7 (by omega)]
    ·rw [ybb e]
     rcases yat j i with h | h
     ·exact q3 j z h hz
     ·have:j=i:=by simp only at hj;omega
      subst this
      rw [hx] at hz
      injection hz with hz
      rw [hz] at e
      exact absurd rfl e
  ·right
   exact ⟨y,by rw [zkA (by rw [ze6,zkK];omega),zkC],q2,fun j x hx=>q3 j x (by have:=(zkI.1 hx).1;omega) hx⟩) fuel (List.replicate m.Next.length 0,0) ⟨yag _,by simp,fun j x h=>absurd h (ybe _)⟩ (by have:=zav;simp only;omega)
 rw [a7,zam]
 -- one row
 have a5:∀ (x:Nat×yab) (row:yab),x∈L->m.Next[x.1]?=some row->∃ r,iter (fun (s:yab×Nat)=>zbx.s15 num row s.1 s.2) fuel (List.replicate (Int.toNat m.Inputs) 0,0)=some r∧r.length=m.Inputs.toNat∧∀ a,a<m.Inputs.toNat->∃ (j:Nat) (y:Nat×yab),L[j]?=some y∧y.1=nx m x.1 a∧r[a]?=some (↑j:Int):=by
  intro x row hx a3;have a0:=(a2 x hx).1
  have b8:row.length=m.Inputs.toNat:=by
   obtain ⟨x',y',h1,_,h3,_⟩:=H.row x.1 a0;rw [a3] at h1;injection h1 with h1
   subst h1;omega
  obtain ⟨i,hi⟩:=List.mem_iff_getElem?.1 hx
  exact zaw (step:=fun (s:yab×Nat)=>zbx.s15 num row s.1 s.2) (fun s=>s.2<=m.Inputs.toNat∧s.1.length=m.Inputs.toNat∧∀ a,a<s.2->∃ (j:Nat) (y:Nat×yab),L[j]?=some y∧y.1=nx m x.1 a∧s.1[a]?=some (↑j:Int)) (fun s=>m.Inputs.toNat-s.2) (fun r=>r.length=m.Inputs.toNat∧∀ a,a<m.Inputs.toNat->∃ (j:Nat) (y:Nat×yab),L[j]?=some y∧y.1=nx m x.1 a∧r[a]?=some (↑j:Int)) (fun s ⟨q1,q2,q3⟩=>by
   obtain ⟨y,a⟩:=s
   simp only at q1 q2 q3
   simp only [zbx.s15]
   by_cases g:a<m.Inputs.toNat
   ·left
    obtain ⟨h1,_,_,x',y',h2,_,h4,_⟩:=H.at a0 g
    rw [a3] at h2
    injection h2 with h2
    subst h2
    obtain ⟨j,z,z1,z2,_⟩:=hE.closed hi g
    have hy:=get_at (l:=y) (i:=a) (by omega)
    have a6:=b3 j z z1
    rw [z2] at a6
    refine ⟨(y.set a (↑j:Int),a+1),?_,⟨g,by simp [q2],fun b hb=>?_⟩,by simp only;omega⟩
    ·rw [zkB (by omega),zkD,zal h4,zbb rfl a6,zal hy]
    ·simp only
     by_cases e:a=b
     ·subst e
      exact ⟨j,z,z1,z2,by rw [ya7 (by omega)]⟩
     ·obtain ⟨j',z',w1,w2,w3⟩:=q3 b (by simp only at hb;omega)
      exact ⟨j',z',w1,w2,by rw [ybb e,w3]⟩
   ·right
    have:a=m.Inputs.toNat:=by omega
    subst this
    exact ⟨y,by rw [zkA (by omega),zkC],q2,q3⟩) fuel (List.replicate (Int.toNat m.Inputs) 0,0) ⟨yag _,by simp,fun a h=>absurd h (ybe _)⟩ (by have:=zav;simp only;omega)
 -- all rows
 obtain ⟨r,hr,P,Q,rfl,p1,p2,p3⟩:=zaw (step:=fun (s:yaa×yaa×Nat)=>zbx.s16 m (natI (L.map Prod.fst)) num s.1 s.2.1 s.2.2) (fun s=>s.2.2<=L.length∧s.1.length=s.2.2∧s.2.1.length=s.2.2∧∀ (i:Nat) (x:Nat×yab),i<s.2.2->L[i]?=some x->(∃ r,s.1[i]?=some r∧r.length=m.Inputs.toNat∧∀ a,a<m.Inputs.toNat->∃ (j:Nat) (y:Nat×yab),L[j]?=some y∧y.1=nx m x.1 a∧r[a]?=some (↑j:Int))∧s.2.1[i]?=m.Out[x.1]?) (fun s=>L.length-s.2.2) (fun r=>∃ P Q,r=(P,Q)∧P.length=L.length∧Q.length=L.length∧∀ (i:Nat) (x:Nat×yab),L[i]?=some x->(∃ r,P[i]?=some r∧r.length=m.Inputs.toNat∧∀ a,a<m.Inputs.toNat->∃ (j:Nat) (y:Nat×yab),L[j]?=some y∧y.1=nx m x.1 a∧r[a]?=some (↑j:Int))∧Q[i]?=m.Out[x.1]?) (fun s ⟨q1,q2,q3,q4⟩=>by
  obtain ⟨P,Q,i⟩:=s
  simp only at q1 q2 q3 q4
  simp only [zbx.s16]
  by_cases g:i<L.length
  ·left
   have hx:=get_at g
   generalize L[i]=x at hx
   have a4:=zkH hx
   have a0:=(a2 x a4).1
   obtain ⟨row,out,e1,e2,e3,e4,_⟩:=H.row x.1 a0
   obtain ⟨r,f1,f2,f3⟩:=a5 x row a4 e1
   refine ⟨(P++[r],Q++[out],i+1),?_,⟨g,by simp [q2],by simp [q3],fun j z hj hz=>?_⟩,by simp only;omega⟩
   ·rw [zkB (by rw [ze6,zkK];omega),zkD,zal (zq2 (i:=i) (u:=x.1) (by rw [yaf,hx];rfl)),zas ⟨by omega,by omega,by unfold zaz;omega⟩,zbb rfl e1,f1,zam,zas (by unfold zaz;omega),zbb rfl e2,libclone_w (by omega),zam,zas (by unfold zaz;omega)]
   ·simp only
    rcases yat j i with h | h
    ·obtain ⟨⟨r',w1,w2⟩,w3⟩:=q4 j z h hz
     exact ⟨⟨r',by rw [yan (by omega),w1],w2⟩,by rw [yan (by omega),w3]⟩
    ·have:j=i:=by simp only at hj;omega
     subst this
     rw [hx] at hz
     injection hz with hz
     subst hz
     refine ⟨⟨r,?_,f2,f3⟩,?_⟩
     ·rw [yax (by omega),q2,ybx]
      rfl
     ·rw [yax (by omega),q3,ybx,e2]
      rfl
  ·right
   have:i=L.length:=by omega
   subst this
   exact ⟨_,by rw [zkA (by rw [ze6,zkK];omega),zkC],P,Q,rfl,q2,q3,fun j x hx=>q4 j x (zkI.1 hx).1 hx⟩) fuel ([],[],0) ⟨yag _,rfl,rfl,fun i x h=>absurd h (ybe _)⟩ (by have:=zav;simp only;omega)
 rw [hr,zam];have b7:0<L.length:=(zkI.1 hE.first).1
 have a8:∀ i x a,L[i]?=some x->a<m.Inputs.toNat->∃ (j:Nat) (y:Nat×yab),L[j]?=some y∧y.1=nx m x.1 a∧nx (⟨m.Inputs,0,P,Q⟩:zaa) i a=j∧ot (⟨m.Inputs,0,P,Q⟩:zaa) i a=ot m x.1 a:=fun i x a hx ha=>by
  obtain ⟨⟨r,w1,w2,w3⟩,w4⟩:=p3 i x hx;obtain ⟨j,y,z1,z2,z3⟩:=w3 a ha;refine ⟨j,y,z1,z2,?_,?_⟩
  ·unfold nx;simp only;rw [w1,yae,z3,yae,yah]
  ·unfold ot;simp only;rw [w4]
 refine ⟨⟨m.Inputs,0,P,Q⟩,L,rfl,hE,rfl,rfl,⟨a9,hI,by simp only;omega,by simp only;omega,⟨yd4 0,by simp only;omega⟩,by simp only;omega,fun i hi=>?_⟩,⟨p1,fun i x a hx ha=>?_⟩⟩
 ·simp only at hi ⊢;have hx:=get_at (l:=L) (i:=i) (by omega);obtain ⟨⟨r,w1,w2,w3⟩,w4⟩:=p3 i _ hx;obtain ⟨row,out,e1,e2,e3,e4,e5,e6⟩:=H.row L[i].1 (a2 _ (zkH hx)).1;refine ⟨r,out,w1,by rw [w4,e2],by omega,e4,fun u hu=>?_,e6⟩;obtain ⟨a,ha,rfl⟩:=yb3.1 hu;obtain ⟨j,y,z1,z2,z3⟩:=w3 a (by omega);rw [get_at ha] at z3;injection z3 with z3
  have:=(zkI.1 z1).1;omega
 ·obtain ⟨j,y,z1,z2,z3,z4⟩:=a8 i x a hx ha;exact ⟨y,by rw [z3];exact z1,z2,z4⟩
theorem trim_outs {t:zaa} {L:List (Nat×yab)} (T:TrimOk m t L):∀ (w:yab) (i:Nat) (x:Nat×yab),L[i]?=some x->WOk m.Inputs w->outs t i w=outs m x.1 w
 | [],_,_,_,_=>rfl
 | z::w,i,x,hx,hw=>by
  have hz:=hw.head;obtain ⟨y,h1,h2,h3⟩:=T.shape.row i x z.toNat hx (by rw [T.inp];omega);have:=trim_outs T w _ y h1 hw.tail;show ot t i z.toNat::outs t (nx t i z.toNat) w=ot m x.1 z.toNat::outs m (nx m x.1 z.toNat) w;rw [h3,this,h2]
end
end
section
section
variable {κ ν:Type} [BEq κ]
theorem mset_new {k:κ} {v:ν}:∀ {m:List (κ×ν)},mget k m=none->mset k v m=m++[(k,v)]
 | [],_=>rfl
 | p::m,h=>by
  unfold mget at h;unfold mset;cases e:k==p.1 with
  | true=>rw [e] at h;cases h
  | false =>
   rw [e] at h;show p::mset k v m=_;rw [mset_new h];rfl
end
theorem li_beq (a b:yab):(a==b)=true↔a=b:=beq_iff_eq
section
variable {m:zaa} {c:yab}
def sigV (m:zaa) (c:yab) (s a p:Nat):Int:=if p<a then ot m s p else if 64<=p∧p-64<a then (c[nx m s (p-64)]?).getD 0 else 0
def sigA (m:zaa) (c:yab) (s:Nat):yab:=(List.range 128).map (sigV m c s m.Inputs.toNat)
theorem sigA_at (s:Nat) {p:Nat} (hp:p<128):(sigA m c s)[p]?=some (sigV m c s m.Inputs.toNat p):=by
 unfold sigA;rw [yaf,ybh hp];rfl
theorem sigA_len (s:Nat):(sigA m c s).length=128:=by simp [sigA]
theorem sigV_lo {s a K:Nat} (h:a<K):sigV m c s K a=ot m s a:=if_pos h
theorem sigV_hi {s a K:Nat} (h:a<K) (hK:K<=64):sigV m c s K (64+a)=(c[nx m s a]?).getD 0:=by
 unfold sigV;have h1:¬ 64+a<K:=by omega
 have h2:64<=64+a∧64+a-64<K:=by omega
 have h3:64+a-64=a:=by omega
 rw [if_neg h1,if_pos h2,h3]
theorem sigA_eq (hI:m.Inputs<=64) {s t:Nat}:sigA m c s=sigA m c t↔∀ a,a<m.Inputs.toNat->ot m s a=ot m t a∧(c[nx m s a]?).getD 0=(c[nx m t a]?).getD 0:=by
 constructor
 ·intro h a ha;have h1:=sigA_at (m:=m) (c:=c) s (p:=a) (by omega);rw [h,sigA_at t (by omega)] at h1;injection h1 with h1
  rw [sigV_lo ha,sigV_lo ha] at h1;have h2:=sigA_at (m:=m) (c:=c) s (p:=64+a) (by omega);rw [h,sigA_at t (by omega)] at h2;injection h2 with h2
  rw [sigV_hi ha (by omega),sigV_hi ha (by omega)] at h2;exact ⟨h1.symm,h2.symm⟩
 ·intro h;unfold sigA;refine List.map_congr_left fun p _=>?_;unfold sigV;by_cases h1:p<m.Inputs.toNat
  ·rw [if_pos h1,if_pos h1,(h p h1).1]
  ·rw [if_neg h1,if_neg h1];by_cases h2:64<=p∧p-64<m.Inputs.toNat
   ·rw [if_pos h2,if_pos h2,(h _ h2.2).2]
   ·rw [if_neg h2,if_neg h2]
theorem sig_loop (H:zcv m) (hc:c.length=m.Next.length) {s:Nat} (hs:s<m.Next.length):iter (fun (q:yab×Nat)=>zba.s18 m c s q.1 q.2) fuel (List.replicate 128 0,0)=some (sigA m c s):=by
 have hI:=H.i2;refine ze7 (fun q=>q.2<=m.Inputs.toNat∧q.1=(List.range 128).map (sigV m c s q.2)) (fun q=>m.Inputs.toNat-q.2) (fun q hq=>?_) ⟨yag _,?_⟩ (by have:=zav;simp only;omega)
 ·obtain ⟨y,a⟩:=q;obtain ⟨q1,q2⟩:=hq;simp only at q1 q2;rw [q2];simp only [zba.s18];by_cases g:a<m.Inputs.toNat
  ·left;obtain ⟨h1,_,_,x,o,e1,e2,e3,e4⟩:=H.at hs g;have a0:=get_at (l:=c) (i:=nx m s a) (by omega)
   have hr:∀ p,p<128->((List.range 128).map (sigV m c s a))[p]?=some (sigV m c s a p):=fun p hp=>by
    rw [yaf,ybh hp];rfl
   refine ⟨((List.range 128).map (sigV m c s (a+1)),a+1),?_,⟨g,rfl⟩,by simp only;omega⟩;rw [zkB (by omega),zkD,zal e2,zal e4,zas (by omega),zal (hr a (by omega)),zas (by unfold inR;omega),zal e1,zal e3,zbb rfl a0,zas (by omega),zal (x:=sigV m c s a (64+a)) (by rw [ybb (by omega),hr _ (by omega)]),zas (by unfold inR;omega)];congr 4;refine yce fun p=>?_;rcases yat p 128 with hp | hp
   ·rw [yaf (f:=sigV m c s (a+1)),ybh hp,yal];by_cases p1:64+a=p
    ·subst p1;rw [ya7 (by simp;omega)];congr 1;unfold sigV;rw [if_neg (by omega),if_pos (by omega),show 64+a-64=a by omega,a0,yae]
    ·rw [ybb p1];by_cases p2:a=p
     ·subst p2;rw [ya7 (by simp;omega)];congr 1;unfold sigV;rw [if_pos (by omega)]
     ·rw [ybb p2,hr p hp];congr 1;unfold sigV;by_cases p3:p<a
      ·rw [if_pos p3,if_pos (by omega)]
      ·have p5:¬ p<a+1:=by omega
       rw [if_neg p3,if_neg p5];by_cases p4:64<=p∧p-64<a
       ·have p6:64<=p∧p-64<a+1:=by omega
        rw [if_pos p4,if_pos p6]
       ·have p6:¬ (64<=p∧p-64<a+1):=by omega
        rw [if_neg p4,if_neg p6]
   ·rw [yaq (by simp;omega),yaq (by simp;omega)]
  ·right;have:a=m.Inputs.toNat:=by omega
   subst this;rw [zkA (by omega),zkC];rfl
 ·simp only;refine yce fun p=>?_;rcases yat p 128 with hp | hp
  ·rw [ybk,if_pos hp,yaf,ybh hp,yal];unfold sigV;rw [if_neg (by omega),if_neg (by omega)]
  ·rw [yaq (by simp;omega),yaq (by simp;omega)]
def FirstOcc (o:yab):Prop:=∀ (s x:Nat),o[s]?=some (↑x:Int)->∀ u:Nat,u<x->∃ s',s'<s∧o[s']?=some (↑u:Int)
structure ClsF (m:zaa) (k:Nat) (c:yab):Prop where
 cls:zjq m k c
 first:FirstOcc c
theorem E_of_next (H:zcv m):∀ {k s t:Nat},s<m.Next.length->t<m.Next.length->(∀ a,a<m.Inputs.toNat->ot m s a=ot m t a∧E m k (nx m s a) (nx m t a))->E m (k+1) s t
 | 0,_,_,_,_,h=>⟨trivial,h⟩
 | _+1,_,_,hs,ht,h=>⟨E_of_next H hs ht fun a ha=>⟨(h a ha).1,(h a ha).2.1⟩,h⟩
theorem sig_iff (H:zcv m) {k:Nat} (C:zjq m k c) {s t:Nat} (hs:s<m.Next.length) (ht:t<m.Next.length):sigA m c s=sigA m c t↔E m (k+1) s t:=by
 rw [sigA_eq H.i2]
 have hq:∀ a,a<m.Inputs.toNat->((c[nx m s a]?).getD 0=(c[nx m t a]?).getD 0↔E m k (nx m s a) (nx m t a)):=fun a ha=>by
  have h1:=(H.at hs ha).1;have h2:=(H.at ht ha).1;rw [<- C.cls _ _ h1 h2];obtain ⟨x,x1,_⟩:=C.rng _ h1;obtain ⟨y,y1,_⟩:=C.rng _ h2;rw [x1,y1,yae,yae];exact ⟨fun h=>by rw [h],fun h=>by injection h⟩
 constructor
 ·exact fun h=>E_of_next H hs ht fun a ha=>⟨(h a ha).1,(hq a ha).1 (h a ha).2⟩
 ·exact fun h a ha=>⟨(h.2 a ha).1,(hq a ha).2 (h.2 a ha).2⟩
structure Giv (m:zaa) (c:yab) (mp:List (yab×Int)) (o:yab) (s:Nat):Prop where
 len:o.length=m.Next.length
 keys:∀ p∈mp,p.1.length=128
 le:mp.length<=s
 get:∀ s',s'<s->∃ x:Nat,x<mp.length∧o[s']?=some (↑x:Int)∧mget (sigA m c s') mp=some (↑x:Int)
 org:∀ k v,mget k mp=some v->∃ s',s'<s∧sigA m c s'=k
 inj:∀ s' s'',s'<s->s''<s->o[s']?=o[s'']?->sigA m c s'=sigA m c s''
 first:∀ (s' x:Nat),s'<s->o[s']?=some (↑x:Int)->∀ u:Nat,u<x->∃ s'',s''<s'∧o[s'']?=some (↑u:Int)
 all:∀ u:Nat,u<mp.length->∃ s',s'<s∧o[s']?=some (↑u:Int)
open Classical in
theorem zp7 (H:zcv m) {k:Nat} (C:zjq m k c):∃ (c':yab) (n:Nat),zba m c=some (c',(↑n:Int))∧ClsF m (k+1) c'∧n=nreps m (k+1):=by
 have hn:=H.n2;have hc:=C.len;unfold zba;rw [zas ⟨by omega,by omega,by unfold zaz;omega⟩]
 obtain ⟨r,hr,mp,o,rfl,G,b2⟩:=zaw (step:=fun (s:(List (yab×Int))×yab×Nat)=>zba.s20 m c s.1 s.2.1 s.2.2) (fun s=>s.2.2<=m.Next.length∧Giv m c s.1 s.2.1 s.2.2∧s.1.length=(List.range s.2.2).countP fun s=>decide (Rep m (k+1) s)) (fun s=>m.Next.length-s.2.2) (fun r=>∃ mp o,r=(mp,o)∧Giv m c mp o m.Next.length∧mp.length=nreps m (k+1)) (fun s ⟨q1,G,q3⟩=>by
  obtain ⟨mp,o,s⟩:=s
  simp only at q1 G q3
  simp only [zba.s20]
  by_cases g:s<m.Next.length
  ·left
   have a4:=sigA_len (m:=m) (c:=c) s
   have b4:=G.le
   have ho:=get_at (l:=o) (i:=s) (by rw [G.len];exact g)
   rw [zkB (by omega),zkD,sig_loop H hc g,zam,zas a4,zas ⟨a4,G.keys⟩]
   have a8:(mget (sigA m c s) mp=none)↔Rep m (k+1) s:=by
    constructor
    ·intro h t ht hE
     obtain ⟨x,_,_,x3⟩:=G.get t ht
     rw [<- (sig_iff H C g (by omega)).2 hE,h] at x3
     cases x3
    ·intro h
     cases e:mget (sigA m c s) mp with
     | none=>rfl
     | some v =>
      obtain ⟨s',h1,h2⟩:=G.org _ _ e
      exact absurd ((sig_iff H C g (by omega)).1 h2.symm) (h s' h1)
   have a5:(List.range (s+1)).countP (fun s=>decide (Rep m (k+1) s))=(List.range s).countP (fun s=>decide (Rep m (k+1) s))+if Rep m (k+1) s then 1 else 0:=by
    rw [ydh,yd9]
    congr 1
    by_cases h:Rep m (k+1) s
    ·rw [if_pos h,ydi,zkB h]
     rfl
    ·rw [if_neg h,ydi,zkA h]
     rfl
   have a0:∀ {s':Nat} {v:Int},s'<s->(o.set s v)[s']?=o[s']?:=fun h=>ybb (by omega)
   have a3:∀ {v:Int},(o.set s v)[s]?=some v:=ya7 (by rw [G.len];exact g)
   cases e:mget (sigA m c s) mp with
   | none =>
    have hR:=a8.1 e
    have a6:mset (sigA m c s) (↑mp.length:Int) mp=mp++[(sigA m c s,(↑mp.length:Int))]:=mset_new e
    refine ⟨(mset (sigA m c s) (↑mp.length:Int) mp,o.set s (↑mp.length:Int),s+1),?_,⟨g,?_,?_⟩,by simp only;omega⟩
    ·rw [yd8,ycb,zkD,zas a4,zas ⟨a4,G.keys⟩,zam]
     simp only [zba.k19]
     rw [zal ho]
    ·simp only
     refine ⟨by simp [G.len],?_,by rw [a6];simp;omega,?_,?_,?_,?_,?_⟩
     ·intro p hp
      rw [a6] at hp
      rcases yak.1 hp with h | h
      ·exact G.keys p h
      ·have:p=(sigA m c s,(↑mp.length:Int)):=by simpa using h
       rw [this]
       exact a4
     ·intro s' b3
      by_cases h:s'<s
      ·obtain ⟨x,x1,x2,x3⟩:=G.get s' h
       refine ⟨x,by rw [a6];simp;omega,by rw [a0 h,x2],?_⟩
       rw [zf5 li_beq (fun q=>?_),x3]
       rw [q,e] at x3
       cases x3
      ·have:s'=s:=by omega
       subst this
       exact ⟨mp.length,by rw [a6];simp,a3,zg1 li_beq mp⟩
     ·intro kk v hv
      by_cases h:kk=sigA m c s
      ·exact ⟨s,by omega,h.symm⟩
      ·rw [zf5 li_beq h] at hv
       obtain ⟨s',h1,h2⟩:=G.org _ _ hv
       exact ⟨s',by omega,h2⟩
     ·have a7:∀ s',s'<s->o[s']?≠some (↑mp.length:Int):=fun s' h q=>by
       obtain ⟨x,x1,x2,_⟩:=G.get s' h
       rw [x2] at q
       injection q with q
       omega
      intro s' s'' h1 h2 h3
      by_cases a1:s'<s<;>by_cases a2:s''<s
      ·rw [a0 a1,a0 a2] at h3
       exact G.inj _ _ a1 a2 h3
      ·have:s''=s:=by omega
       subst this
       rw [a0 a1,a3] at h3
       exact absurd h3 (a7 s' a1)
      ·have:s'=s:=by omega
       subst this
       rw [a0 a2,a3] at h3
       exact absurd h3.symm (a7 s'' a2)
      ·have:s'=s'':=by omega
       rw [this]
     ·intro s' x h1 h2 u hu
      by_cases a1:s'<s
      ·rw [a0 a1] at h2
       obtain ⟨s'',z1,z2⟩:=G.first s' x a1 h2 u hu
       exact ⟨s'',z1,by rw [a0 (by omega),z2]⟩
      ·have:s'=s:=by omega
       subst this
       rw [a3] at h2
       injection h2 with h2
       obtain ⟨s'',z1,z2⟩:=G.all u (by omega)
       exact ⟨s'',z1,by rw [a0 z1,z2]⟩
     ·intro u hu
      rw [a6] at hu
      simp at hu
      rcases yat u mp.length with h | h
      ·obtain ⟨s',z1,z2⟩:=G.all u h
       exact ⟨s',by omega,by rw [a0 z1,z2]⟩
      ·have:u=mp.length:=by omega
       subst this
       exact ⟨s,by omega,a3⟩
    ·simp only
     rw [a5,if_pos hR,a6,<- q3]
     simp
   | some v =>
    have hR:¬ Rep m (k+1) s:=fun q=>by
     rw [a8.2 q] at e
     cases e
    obtain ⟨t,ht,a9⟩:=G.org _ _ e
    obtain ⟨x,x1,x2,x3⟩:=G.get t ht
    have hv:v=(↑x:Int):=by
     rw [a9,e] at x3
     injection x3
    refine ⟨(mp,o.set s v,s+1),?_,⟨g,?_,?_⟩,by simp only;omega⟩
    ·rw [yey,yb8,zkC,yae,zam]
     simp only [zba.k19]
     rw [zal ho]
    ·simp only
     refine ⟨by simp [G.len],G.keys,by omega,?_,?_,?_,?_,?_⟩
     ·intro s' b3
      by_cases h:s'<s
      ·obtain ⟨x,y1,y2,y3⟩:=G.get s' h
       exact ⟨x,y1,by rw [a0 h,y2],y3⟩
      ·have:s'=s:=by omega
       subst this
       exact ⟨x,x1,by rw [a3,hv],by rw [e,hv]⟩
     ·intro kk v hv
      obtain ⟨s',h1,h2⟩:=G.org _ _ hv
      exact ⟨s',by omega,h2⟩
     ·intro s' s'' h1 h2 h3
      by_cases a1:s'<s<;>by_cases a2:s''<s
      ·rw [a0 a1,a0 a2] at h3
       exact G.inj _ _ a1 a2 h3
      ·have:s''=s:=by omega
       subst this
       rw [a0 a1,a3,hv,<- x2] at h3
       rw [<- a9]
       exact G.inj _ _ a1 ht h3
      ·have:s'=s:=by omega
       subst this
       rw [a0 a2,a3,hv,<- x2] at h3
       rw [<- a9]
       exact G.inj _ _ ht a2 h3
      ·have:s'=s'':=by omega
       rw [this]
     ·intro s' y h1 h2 u hu
      by_cases a1:s'<s
      ·rw [a0 a1] at h2
       obtain ⟨s'',z1,z2⟩:=G.first s' y a1 h2 u hu
       exact ⟨s'',z1,by rw [a0 (by omega),z2]⟩
      ·have:s'=s:=by omega
       subst this
       rw [a3] at h2
       injection h2 with h2
       obtain ⟨s'',z1,z2⟩:=G.first t x ht x2 u (by omega)
       exact ⟨s'',by omega,by rw [a0 (by omega),z2]⟩
     ·intro u hu
      obtain ⟨s',z1,z2⟩:=G.all u hu
      exact ⟨s',by omega,by rw [a0 z1,z2]⟩
    ·simp only
     rw [a5,if_neg hR,<- q3,yca]
  ·right
   have:s=m.Next.length:=by omega
   subst this
   exact ⟨_,by rw [zkA (by omega),zkC],mp,o,rfl,G,q3⟩) fuel ([],List.replicate c.length 0,0) ⟨yag _,⟨by simp [hc],fun p hp=>(by cases hp),yap _,fun s' h=>absurd h (ybe _),fun k v h=>(by cases h),fun s' _ h=>absurd h (ybe _),fun s' _ h=>absurd h (ybe _),fun u h=>absurd h (ybe _)⟩,rfl⟩ (by have:=zav;simp only;omega)
 refine ⟨o,mp.length,by rw [hr,zam];rfl,⟨⟨G.len,fun s hs=>?_,fun s t hs ht=>?_⟩,fun s x hx=>G.first s x (by rw [<- G.len];exact (zkI.1 hx).1) hx⟩,b2⟩
 ·obtain ⟨x,x1,x2,_⟩:=G.get s hs;have:=G.le;exact ⟨x,x2,by omega⟩
 ·rw [<- sig_iff H C hs ht];constructor
  ·exact G.inj s t hs ht
  ·intro h;obtain ⟨x,_,x2,x3⟩:=G.get s hs;obtain ⟨y,_,y2,y3⟩:=G.get t ht;rw [h,y3] at x3;rw [x2,y2,x3]
open Classical in
theorem zob (H:zcv m):∃ c i,zcj m 128=some (c,i)∧ClsF m m.Next.length c:=by
 have hn:=H.n2;have a0:=H.n1;have a2:(min (max (128:Int) 0) (↑m.Next.length:Int))=(↑m.Next.length:Int):=by omega
 unfold zcj;rw [zas ⟨by omega,by omega,by unfold zaz;omega⟩]
 obtain ⟨r,hr,hq⟩:=zaw (step:=fun (s:yab×Int×Nat)=>zcj.s2 m 128 s.1 s.2.1 s.2.2) (fun s=>s.2.2<=m.Next.length∧ClsF m s.2.2 s.1∧s.2.1=(↑(nreps m s.2.2):Int)) (fun s=>m.Next.length-s.2.2) (fun r=>(∃ c,r=.inl c∧ClsF m m.Next.length c)∨∃ c i,r=.inr (c,i)∧ClsF m m.Next.length c) (fun s ⟨q1,q2,q3⟩=>by
  obtain ⟨c,n,i⟩:=s
  simp only at q1 q2 q3
  simp only [zcj.s2]
  rw [a2]
  by_cases g:i<m.Next.length
  ·obtain ⟨c',n',h1,h2,h3⟩:=zp7 H q2.cls
   rw [zkB (by omega),zkD,h1,zam]
   by_cases e:n'=nreps m i
   ·right
    rw [zkB (by simp only;omega),zkD]
    refine ⟨_,rfl,Or.inr ⟨c,_,rfl,⟨⟨q2.cls.len,q2.cls.rng,fun s t hs ht=>?_⟩,q2.first⟩⟩⟩
    rw [q2.cls.cls s t hs ht]
    have hS:Stab m i:=stab_of (by omega)
    constructor
    ·intro h
     have key:∀ j,E m (i+j) s t:=by
      intro j
      induction j with
      | zero=>exact h
      | succ j ih=>exact stab_add H hS j s t hs ht ih
     have:=key (m.Next.length-i)
     rwa [show i+(m.Next.length-i)=m.Next.length by omega] at this
    ·exact E_mono (by omega)
   ·left
    exact ⟨(c',(↑n':Int),i+1),by rw [zkA (by simp only;omega),zkC],⟨g,h2,by simp only;rw [h3]⟩,by simp only;omega⟩
  ·right
   have:i=m.Next.length:=by omega
   subst this
   exact ⟨_,by rw [zkA (by omega),zkC],Or.inl ⟨c,rfl,q2⟩⟩) fuel (List.replicate m.Next.length 0,1,0) ⟨yag _,⟨⟨by simp,fun s hs=>⟨0,by simp [hs],a0⟩,fun s t hs ht=>⟨fun _=>trivial,fun _=>by simp [hs,ht]⟩⟩,fun s x hx u hu=>by
    have:=(zkI.1 hx).2
    simp at this
    omega⟩,by
    simp only
    have:nreps m 0=1:=by
     unfold nreps
     have h0:∀ n,0<n->(List.range n).countP (fun s=>decide (Rep m 0 s))=1:=by
      intro n
      induction n with
      | zero=>intro h;omega
      | succ n ih =>
       intro _
       rw [ydh,yd9,ydi]
       by_cases hz:n=0
       ·subst hz
        rw [zkB (show Rep m 0 0 from fun t ht=>absurd ht (ybe _))]
        rfl
       ·rw [ih (by omega),zkA (show ¬ Rep m 0 n from fun q=>q 0 (by omega) trivial)]
        rfl
     exact h0 _ a0
    rw [this]
    rfl⟩ (by have:=zav;simp only;omega)
 rw [hr,zam];rcases hq with ⟨c,rfl,h⟩ | ⟨c,i,rfl,h⟩
 ·exact ⟨c,_,rfl,h⟩
 ·exact ⟨c,i,rfl,h⟩
theorem znb (hv:ze5 m=0):∃ c,zey m=some (c,0)∧ClsF m m.Next.length c:=by
 obtain ⟨c,i,h1,h2⟩:=zob (zfv hv);refine ⟨c,?_,h2⟩;unfold zey ze4;rw [zdr,zam,hv,zkA (by decide),zkC,h1,zam,zam]
end
end
section
section
variable {m t:zaa} {c:yab}
def zlo (c:yab) (s u:Nat):Prop:=c[s]?=some (↑u:Int)∧∀ s',s'<s->c[s']?≠some (↑u:Int)
theorem first_lt (F:FirstOcc c) {s u i v:Nat} (hs:zlo c s u) (hi:i<s) (hv:c[i]?=some (↑v:Int)):v<u:=by
 rcases yc0 v u with h | h | h
 ·exact h
 ·rw [h] at hv;exact absurd hv (hs.2 i hi)
 ·obtain ⟨s',h1,h2⟩:=F i v hv u h;exact absurd h2 (hs.2 s' (by omega))
theorem first_le (F:FirstOcc c) {s u i v:Nat} (hs:zlo c s u) (hv:c[i]?=some (↑v:Int)) (hu:u<=v):s<=i:=by
 rcases yat i s with h | h
 ·have:=first_lt F hs h hv;omega
 ·exact h
structure Quo (t M:zaa) (c:yab):Prop where
 inp:M.Inputs=t.Inputs
 start:M.Start=0
 len:M.Out.length=M.Next.length
 ub:∀ s,s<t.Next.length->∃ x:Nat,c[s]?=some (↑x:Int)∧x<M.Next.length
 row:∀ u,u<M.Next.length->∃ s r o,s<t.Next.length∧zlo c s u∧M.Next[u]?=some r∧M.Out[u]?=some o∧r.length=t.Inputs.toNat∧(∀ a,a<t.Inputs.toNat->r[a]?=c[nx t s a]?)∧t.Out[s]?=some o
 le:M.Next.length<=t.Next.length
variable {M:zaa}
theorem zq4 (H:zcv t) (Q:Quo t M c) {u:Nat} (hu:u<M.Next.length):∃ s,s<t.Next.length∧zlo c s u∧∀ a,a<t.Inputs.toNat->c[nx t s a]?=some (↑(nx M u a):Int)∧ot M u a=ot t s a:=by
 obtain ⟨s,r,o,h1,h2,h3,h4,h5,h6,h7⟩:=Q.row u hu;refine ⟨s,h1,h2,fun a ha=>?_⟩;obtain ⟨x,x1,_⟩:=Q.ub _ (H.at h1 ha).1;have hr:=h6 a ha;rw [x1] at hr;refine ⟨?_,?_⟩
 ·rw [x1];unfold nx;rw [h3,yae,hr,yae,yah]
 ·unfold ot;rw [h4,h7]
theorem quo_step (H:zcv t) (C:ClsF t t.Next.length c) {s s' a:Nat} (hs:s<t.Next.length) (hs':s'<t.Next.length) (h:c[s]?=c[s']?) (ha:a<t.Inputs.toNat):ot t s a=ot t s' a∧c[nx t s a]?=c[nx t s' a]?:=by
 have h1:=E_all H hs hs' ((C.cls.cls s s' hs hs').1 h) (t.Next.length+1);exact ⟨(h1.2 a ha).1,(C.cls.cls _ _ (H.at hs ha).1 (H.at hs' ha).1).2 (h1.2 a ha).2⟩
theorem zqd (H:zcv t) (C:ClsF t t.Next.length c) (Q:Quo t M c):∀ (w:yab) (s u:Nat),s<t.Next.length->c[s]?=some (↑u:Int)->WOk t.Inputs w->outs M u w=outs t s w
 | [],_,_,_,_,_=>rfl
 | z::w,s,u,hs,hu,hw=>by
  have hz:=hw.head;have ha:z.toNat<t.Inputs.toNat:=by omega
  obtain ⟨x,x1,x2⟩:=Q.ub s hs
  have a0:u<M.Next.length:=by
   rw [hu] at x1;injection x1 with x1
   omega
  obtain ⟨s',h1,h2,h3⟩:=zq4 H Q a0;obtain ⟨e1,e2⟩:=quo_step H C hs h1 (hu.trans h2.1.symm) ha;have h4:=h3 _ ha;have:=zqd H C Q w (nx t s z.toNat) (nx M u z.toNat) (H.at hs ha).1 (by rw [e2,h4.1]) hw.tail;show ot M u z.toNat::outs M (nx M u z.toNat) w=ot t s z.toNat::outs t (nx t s z.toNat) w;rw [this,h4.2,e1]
theorem quo_ok (H:zcv t) (Q:Quo t M c):zcv M:=by
 have hn:=H.n1;have a3:=H.n2;obtain ⟨x,_,x2⟩:=Q.ub 0 hn;have a0:=Q.le;refine ⟨by rw [Q.inp];exact H.i1,by rw [Q.inp];exact H.i2,by omega,by omega,by rw [Q.start];omega,Q.len,fun u hu=>?_⟩;have a2:=H.i1;obtain ⟨s,r,o,h1,h2,h3,h4,h5,h6,h7⟩:=Q.row u hu;obtain ⟨x',y',e1,e2,e3,e4,e5,e6⟩:=H.row s h1;rw [h7] at e2;injection e2 with e2
 subst e2;refine ⟨r,o,h3,h4,by rw [Q.inp];omega,by rw [Q.inp];exact e4,fun v hv=>?_,e6⟩;obtain ⟨a,ha,rfl⟩:=yb3.1 hv;obtain ⟨z,z1,z2⟩:=Q.ub _ (H.at h1 (a:=a) (by omega)).1;have hr:=h6 a (by omega);rw [get_at ha,z1] at hr;injection hr with hr
 omega
theorem quo_can (H:zcv t) (C:ClsF t t.Next.length c) (Q:Quo t M c) (K:Can t):Can M:=by
 have a5:∀ s,zlo c s 0->s=0:=fun s hs=>by
  obtain ⟨x,x1,_⟩:=Q.ub 0 H.n1;have:=first_le C.first hs x1 (yag _);omega
 have a2:∀ s u,zlo c s u->0<u->0<s:=fun s u hs hu=>by
  rcases ycf s with h | h
  ·subst h;obtain ⟨s',h1,_⟩:=C.first 0 u hs.1 0 hu;omega
  ·exact h
 have a0:∀ {i a s u:Nat},i<s->i<t.Next.length->a<t.Inputs.toNat->zlo c s u->nx t i a=s->∃ v:Nat,c[i]?=some (↑v:Int)∧v<u∧nx M v a=u:=fun {i a s u} h1 h2 h3 h4 h5=>by
  obtain ⟨v,v1,v2⟩:=Q.ub i h2;refine ⟨v,v1,first_lt C.first h4 h1 v1,?_⟩;obtain ⟨s',g1,g2,g3⟩:=zq4 H Q v2;have e:=(quo_step H C h2 g1 (v1.trans g2.1.symm) h3).2;have g4:=(g3 a h3).1;rw [<- e,h5,h4.1] at g4;injection g4 with g4
  omega
 refine ⟨fun i a u hi ha hu a6=>?_,fun u hu a4=>?_⟩
 ·rw [Q.inp] at ha ⊢;obtain ⟨s,h1,h2,h3⟩:=zq4 H Q hi;have hD:=(h3 a ha).1;have a9:=(H.at h1 ha).1
  have a7:u<M.Next.length:=by
   have:=(quo_ok H Q).at hi (a:=a) (by rw [Q.inp];exact ha);omega
  obtain ⟨su,g1,g2,g3⟩:=zq4 H Q a7;have a3:=first_le C.first g2 hD a6;obtain ⟨i',a',z1,z2,z3,z4⟩:=K.c4 s a su h1 ha (a2 su u g2 hu) a3;obtain ⟨v,v1,v2,v3⟩:=a0 z3 (by omega) z1 g2 z4;refine ⟨v,a',z1,?_,v2,v3⟩
  have a8:i'<=s:=by
   rcases yat s i' with q | q
   ·have:=zjh q ha;omega
   ·exact q
  rcases yat i' s with q | q
  ·have:=first_lt C.first h2 q v1;have:=zjh this z1;omega
  ·have e:i'=s:=by omega
   subst e;have hv:=h2.1;rw [v1] at hv;injection hv with hv
   have:v=i:=by omega
   subst this;omega
 ·rw [Q.inp];obtain ⟨su,g1,g2,g3⟩:=zq4 H Q a4;obtain ⟨i,a,z1,z2,z3⟩:=K.c5 su (a2 su u g2 hu) g1;obtain ⟨v,v1,v2,v3⟩:=a0 z1 (by omega) z2 g2 z3;exact ⟨v,a,v2,z2,v3⟩
theorem quo_min (H:zcv t) (C:ClsF t t.Next.length c) (Q:Quo t M c) {i j:Nat} (hi:i<M.Next.length) (hj:j<M.Next.length) (h:Eqv M i M j):i=j:=by
 obtain ⟨s,h1,h2,_⟩:=zq4 H Q hi;obtain ⟨s',g1,g2,_⟩:=zq4 H Q hj
 have he:E t t.Next.length s s':=zku fun w _ hw=>by
  rw [<- zqd H C Q w s i h1 h2.1 hw,<- zqd H C Q w s' j g1 g2.1 hw];exact h w (by rw [Q.inp];exact hw)
 have:=(C.cls.cls s s' h1 g1).2 he;rw [h2.1,g2.1] at this;injection this with this
 omega
theorem quo_sem {L:List (Nat×yab)} (T:TrimOk m t L) (C:ClsF t t.Next.length c) (Q:Quo t M c):zke m M:=by
 have H:=T.ok;have hK:0<t.Inputs.toNat:=by have:=H.i1;omega
 have hE:zgf (nx m) t.Inputs.toNat m.Start.toNat L:=by rw [T.inp];exact T.end_
 have a2:=shape_can hE T.shape hK
 have h0:c[0]?=some (↑(0:Nat):Int):=by
  obtain ⟨x,x1,_⟩:=Q.ub 0 H.n1;rcases ycf x with h | h
  ·rw [x1,h]
  ·obtain ⟨s',h1,_⟩:=C.first 0 x x1 0 h;omega
 refine ⟨quo_ok H Q,Q.inp.trans T.inp,Q.start,fun w hw=>?_,fun i j hi hj h=>quo_min H C Q hi hj h,quo_can H C Q a2⟩;have a0:WOk t.Inputs w:=by rw [<- Q.inp];exact hw
 rw [zqd H C Q w 0 0 H.n1 h0 a0,trim_outs T w 0 _ T.end_.first (by rw [<- T.inp];exact a0)]
theorem min_loop (H:zcv t) (C:ClsF t t.Next.length c) (e e2:Int):∃ P R,iter (fun (s:yaa×yaa×Nat)=>zbl.s32 (t,e) (c,e2) s.1 s.2.1 s.2.2) fuel ([],[],0)=some (P,R)∧Quo t (⟨t.Inputs,0,P,R⟩:zaa) c:=by
 have hn:=H.n2;have a7:=H.n1;have hI:=H.i2;have a8:=H.i1;have hc:=C.cls.len
 obtain ⟨r,hr,P,R,rfl,hQ⟩:=zaw (step:=fun (s:yaa×yaa×Nat)=>zbl.s32 (t,e) (c,e2) s.1 s.2.1 s.2.2) (fun s=>s.2.2<=t.Next.length∧s.2.1.length=s.1.length∧s.1.length<=s.2.2∧(∀ s',s'<s.2.2->∃ x:Nat,c[s']?=some (↑x:Int)∧x<s.1.length)∧∀ u,u<s.1.length->∃ s' r o,s'<s.2.2∧zlo c s' u∧s.1[u]?=some r∧s.2.1[u]?=some o∧r.length=t.Inputs.toNat∧(∀ a,a<t.Inputs.toNat->r[a]?=c[nx t s' a]?)∧t.Out[s']?=some o) (fun s=>t.Next.length-s.2.2) (fun r=>∃ P R,r=(P,R)∧Quo t (⟨t.Inputs,0,P,R⟩:zaa) c) (fun s ⟨q1,q2,q3,q4,q5⟩=>by
  obtain ⟨P,R,s⟩:=s
  simp only at q1 q2 q3 q4 q5
  simp only [zbl.s32]
  by_cases g:s<t.Next.length
  ·left
   obtain ⟨x,x1,x2⟩:=C.cls.rng s g
   rw [zkB (by omega),zkD,zal x1]
   by_cases hx:x<P.length
   ·refine ⟨(P,R,s+1),?_,⟨g,q2,by simp only;omega,fun s' a0=>?_,fun u hu=>?_⟩,by simp only;omega⟩
    ·rw [zkB (by omega),zkD,zam]
     rfl
    ·simp only at a0 ⊢
     rcases yat s' s with h | h
     ·exact q4 s' h
     ·have:s'=s:=by omega
      subst this
      exact ⟨x,x1,hx⟩
    ·obtain ⟨s',r,o,z1,z2⟩:=q5 u hu
     exact ⟨s',r,o,by simp only;omega,z2⟩
   ·have a4:x=P.length:=by
     rcases yat P.length x with h | h
     ·obtain ⟨s',h1,h2⟩:=C.first s x x1 P.length h
      obtain ⟨y,y1,y2⟩:=q4 s' h1
      rw [h2] at y1
      injection y1 with y1
      omega
     ·omega
    subst a4
    obtain ⟨row,out,e1,a2,e3,e4,e5,e6⟩:=H.row s g
    obtain ⟨r,hr,a6,a5⟩:=zaw (step:=fun (q:yab×Nat)=>zbl.s30 (c,e2) row q.1 q.2) (fun q=>q.2<=t.Inputs.toNat∧q.1.length=q.2∧∀ a,a<q.2->q.1[a]?=c[nx t s a]?) (fun q=>t.Inputs.toNat-q.2) (fun r=>r.length=t.Inputs.toNat∧∀ a,a<t.Inputs.toNat->r[a]?=c[nx t s a]?) (fun q ⟨w1,w2,w3⟩=>by
     obtain ⟨y,a⟩:=q
     simp only at w1 w2 w3
     simp only [zbl.s30]
     by_cases f:a<t.Inputs.toNat
     ·left
      obtain ⟨h1,_,_,x',y',h2,_,h4,_⟩:=H.at g f
      rw [e1] at h2
      injection h2 with h2
      subst h2
      have a3:=get_at (l:=c) (i:=nx t s a) (by omega)
      refine ⟨(y++[c[nx t s a]'(by omega)],a+1),?_,⟨f,by simp [w2],fun b hb=>?_⟩,by simp only;omega⟩
      ·rw [zkB (by omega),zkD,zal h4,zbb rfl a3,zas (by unfold zaz;omega)]
      ·simp only at hb ⊢
       rcases yat b a with h | h
       ·rw [yan (by omega),w3 b h]
       ·have:b=a:=by omega
        subst this
        rw [yax (by omega),w2,ybx,a3]
        rfl
     ·right
      have:a=t.Inputs.toNat:=by omega
      subst this
      exact ⟨y,by rw [zkA (by omega),zkC],w2,w3⟩) fuel ([],0) ⟨yag _,rfl,fun a h=>absurd h (ybe _)⟩ (by have:=zav;simp only;omega)
    refine ⟨(P++[r],R++[out],s+1),?_,⟨g,by simp [q2],by simp;omega,fun s' a0=>?_,fun u hu=>?_⟩,by simp only;omega⟩
    ·rw [zkA (by omega),zkC,zal e1,hr,zam,zas (by unfold zaz;omega),zal a2,zas (by unfold zaz;simp;omega),zas (by unfold zaz;omega),zam]
     rfl
    ·simp only at a0 ⊢
     rw [zkJ,ya6]
     rcases yat s' s with h | h
     ·obtain ⟨y,y1,y2⟩:=q4 s' h
      exact ⟨y,y1,by omega⟩
     ·have:s'=s:=by omega
      subst this
      exact ⟨_,x1,by omega⟩
    ·simp only at hu ⊢
     rw [zkJ,ya6] at hu
     rcases yat u P.length with h | h
     ·obtain ⟨s',r',o,z1,z2,z3,z4,z5⟩:=q5 u h
      exact ⟨s',r',o,by omega,z2,by rw [yan h,z3],by rw [yan (by omega),z4],z5⟩
     ·have:u=P.length:=by omega
      subst this
      refine ⟨s,r,out,by omega,⟨x1,fun s' a0 q=>?_⟩,by simp,?_,a6,a5,a2⟩
      ·obtain ⟨y,y1,y2⟩:=q4 s' a0
       rw [q] at y1
       injection y1 with y1
       omega
      ·rw [yax (by omega),q2,ybx]
       rfl
  ·right
   have:s=t.Next.length:=by omega
   subst this
   exact ⟨_,by rw [zkA (by omega),zkC],P,R,rfl,⟨rfl,rfl,q2,q4,q5,q3⟩⟩) fuel ([],[],0) ⟨yag _,rfl,yap _,fun s' h=>absurd h (ybe _),fun u h=>absurd h (ybe _)⟩ (by have:=zav;simp only;omega)
 exact ⟨P,R,hr,hQ⟩
theorem validM_of (H:zcv m):ze5 m=0:=by
 have:=zs6 H;rw [zdr] at this;injection this
theorem zk6 (hv:ze5 m=0):∃ M,zbl m=some (M,0)∧zke m M:=by
 obtain ⟨t,L,h1,T⟩:=mealy_Trim_eq hv;obtain ⟨c,h2,C⟩:=znb (validM_of T.ok);obtain ⟨P,R,h3,Q⟩:=min_loop T.ok C 0 0;refine ⟨⟨t.Inputs,0,P,R⟩,?_,quo_sem T C Q⟩;unfold zbl;rw [h1,zam,zkA (fun h=>h rfl),zkC,h2,zam,zkA (fun h=>h rfl),zkC,h3,zam];rfl
end
end
section
theorem closedW {A:Type} [DecidableEq A] {e:A->Nat->A} {K:Nat} {s0:A} {L:List (A×yab)} (h:zgf e K s0 L) {i a:Nat} {x:A×yab} (hx:L[i]?=some x) (ha:a<K):∃ j y,L[j]?=some y∧y.1=e x.1 a∧∀ u,0<u->u<=j->∃ i' a' z,a'<K∧i'*K+a'<=i*K+a∧i'<u∧L[i']?=some z∧L[u]?=some (e z.1 a',z.2++[(↑a':Int)]):=by
 have hi:=(zkI.1 hx).1;obtain ⟨x',h1,h2⟩:=h.long hi ha;rw [hx] at h1;injection h1 with h1
 subst h1;have a7:=zjh hi ha;have a0:=h.at (r:=i*K+a+1) (by omega);have h3:=bfs_to (e:=e) (K:=K) (s0:=s0) (r:=i*K+a) (x:=x) (by rw [zix ha];exact h2);rw [zru ha] at h3;obtain ⟨y,hy,a4⟩:=yao.1 h3;obtain ⟨j,hj,a5⟩:=yb3.1 hy;have a2:(bfsB e K s0 (i*K+a+1))[j]?=some y:=by rw [zkM hj,a5]
 refine ⟨j,y,zeo a0 a2,a4,fun u hu a6=>?_⟩;have a3:u<(bfsB e K s0 (i*K+a+1)).length:=by omega
 have hw:=zkM a3;rcases zjy hw with q | ⟨r',z,q1,q2,q3,q4⟩
 ·omega
 ·have hK:0<K:=by omega
  refine ⟨r' / K,r'%K,z,yc3 _ hK,?_,q2,zeo a0 q3,by rw [<- q4];exact zeo a0 hw⟩;have:=ydn r' K;rw [yc7] at this;omega
structure zoi (M:zaa) (L:List (Nat×yab)) (W:yaa) (S0:yab->Prop):Prop where
 mac:zcv M
 bfs:MEnd M 0 L
 t1:∀ x∈L,∀ a:Nat,a<M.Inputs.toNat->S0 (x.2++[(↑a:Int)])
 t2:∀ x∈L,∀ w∈W,S0 (x.2++w)
 t3:∀ x∈L,∀ a:Nat,a<M.Inputs.toNat->∀ w∈W,S0 ((x.2++[(↑a:Int)])++w)
 sep:∀ s t,s<M.Next.length->t<M.Next.length->s≠t->∃ w∈W,WOk M.Inputs w∧outs M s w≠outs M t w
structure IdI (M:zaa) (L:List (Nat×yab)) (S0:yab->Prop) (p:zac) (red:List Bool) (k:Nat) (f:Nat->Nat):Prop where
 inp:p.Inputs=M.Inputs
 st:p.Start=0
 can:CanP p
 kpos:0<k
 kle:k<=p.Next.length
 rd:∀ i,red[i]?=some true↔i<k
 ps:∀ q (a u:Nat),pnx p q a=(↑u:Int)->f u=nx M (f q) a∧pot p q a=ot M (f q) a
 lt:∀ q,q<p.Next.length->f q<M.Next.length
 lb:∀ i,i<k->∃ x,L[i]?=some x∧f i=x.1∧∃ y,Goes p 0 x.2 y i
 kn:∀ w,S0 w->∃ y c,Goes p 0 w y c
section
variable {M:zaa} {L:List (Nat×yab)} {W:yaa} {S0:yab->Prop} {p:zac} {red:List Bool} {k:Nat} {f:Nat->Nat}
theorem goes_psi (hps:∀ q (a u:Nat),pnx p q a=(↑u:Int)->f u=nx M (f q) a∧pot p q a=ot M (f q) a):∀ {w y:yab} {q c:Nat},Goes p q w y c->f c=dest M (f q) w∧y=outs M (f q) w
 | [],y,q,c,h=>by
  obtain ⟨rfl,rfl⟩:=h;exact ⟨rfl,rfl⟩
 | x::w,y,q,c,h=>by
  obtain ⟨a,u,y',rfl,h2,rfl,h4⟩:=h;obtain ⟨e1,e2⟩:=hps q a u h2;obtain ⟨g1,g2⟩:=goes_psi hps h4;rw [e1] at g1 g2;exact ⟨g1,by rw [e2,g2];rfl⟩
theorem confl_of {s t:Nat}:∀ {w y1 y2:yab} {q q' c1 c2:Nat},Cong p s t q q'->Goes p q w y1 c1->Goes p q' w y2 c2->y1≠y2->zme p s t
 | [],y1,y2,q,q',c1,c2,hc,h1,h2,hne=>by
  rw [h1.1,h2.1] at hne;exact absurd rfl hne
 | x::w,y1,y2,q,q',c1,c2,hc,h1,h2,hne=>by
  obtain ⟨a,u,z1,e1,a2,rfl,a4⟩:=h1;obtain ⟨b,v,z2,e2,b2,rfl,b4⟩:=h2;have e:b=a:=by omega
  subst e;by_cases ho:pot p q b=pot p q' b
  ·exact confl_of (.step b u v hc a2 b2) a4 b4 fun e=>hne (by rw [ho,e])
  ·exact ⟨q,q',b,hc,by omega,by omega,ho⟩
theorem no_confl (H:zda p) (hps:∀ q (a u:Nat),pnx p q a=(↑u:Int)->f u=nx M (f q) a∧pot p q a=ot M (f q) a) {r b:Nat} (hr:r<p.Next.length) (hb:b<p.Next.length) (h:f r=f b) {q q':Nat} (hc:Cong p r b q q'):f q=f q':=by
 rcases cong_into (cl:=f) H hr hb h (fun q r a u v _ _ e h1 h2=>by rw [(hps q a u h1).1,(hps r a v h2).1,e]) hc with e | ⟨_,_,e⟩
 ·rw [e]
 ·exact e
theorem pnx_nat (H:zda p) {q a:Nat} (h:pnx p q a≠-1):∃ u:Nat,pnx p q a=(↑u:Int):=by
 have hq:q<p.Next.length:=ya5 fun g=>by
  unfold pnx at h;rw [show p.Next[q]?=none from yaq (by omega)] at h;exact h rfl
 have ha:a<p.Inputs.toNat:=ya5 fun g=>by
  obtain ⟨x,y,h1,h2,h3,h4,h5⟩:=H.row q hq;unfold pnx at h;rw [h1,yae,show x[a]?=none from yaq (by omega)] at h;exact h rfl
 have:=(H.at hq ha).1;exact ⟨(pnx p q a).toNat,by omega⟩
theorem IdI.noc (J:IdI M L S0 p red k f) (H:zda p) {r b:Nat} (hr:r<p.Next.length) (hb:b<p.Next.length) (h:f r=f b):¬ zme p r b:=fun ⟨q,q',a,hc,h1,h2,h3⟩=>by
 obtain ⟨u,hu⟩:=pnx_nat H h1;obtain ⟨v,hv⟩:=pnx_nat H h2;exact h3 (by rw [(J.ps q a u hu).2,(J.ps q' a v hv).2,no_confl H J.ps hr hb h hc])
theorem IdI.all (J:IdI M L S0 p red k f) (S:zoi M L W S0) {i a:Nat} (hi:i<k) (ha:a<M.Inputs.toNat):∃ u:Nat,pnx p i a=(↑u:Int):=by
 obtain ⟨x,x1,x2,y,x3⟩:=J.lb i hi;obtain ⟨y',c,g⟩:=J.kn _ (S.t1 x (zkH x1) a ha);obtain ⟨d,z1,z2,_,g1,g2⟩:=g.split;obtain ⟨_,rfl⟩:=x3.det g1;obtain ⟨b,u,_,e,hu,_⟩:=g2;have e:b=a:=by omega
 subst e;exact ⟨u,hu⟩
theorem IdI.same (J:IdI M L S0 p red k f) (S:zoi M L W S0) (H:zda p) {r i a b:Nat} (hr:r<k) (hi:i<k) (hb:pnx p i a=(↑b:Int)) (hn:¬ zme p r b):f r=f b:=by
 obtain ⟨b1,b2,b3⟩:=zet H hb;rw [J.inp] at b2;refine ya5 fun a0=>hn ?_;have a3:r<p.Next.length:=ycm hr J.kle;obtain ⟨w,hw,a6,hd⟩:=S.sep (f r) (f b) (J.lt r a3) (J.lt b b3) a0;obtain ⟨x,x1,x2,y,x3⟩:=J.lb r hr;obtain ⟨x',a4,a5,y',a2⟩:=J.lb i hi;obtain ⟨y1,c1,g1⟩:=J.kn _ (S.t2 x (zkH x1) w hw);obtain ⟨y2,c2,g2⟩:=J.kn _ (S.t3 x' (zkH a4) a b2 w hw);obtain ⟨d1,_,z1,_,g3,g4⟩:=g1.split;obtain ⟨d2,_,z2,_,g5,g6⟩:=g2.split;obtain ⟨_,rfl⟩:=x3.det g3;obtain ⟨_,rfl⟩:=(a2.snoc hb).det g5;refine confl_of .base g4 g6 ?_;rw [(goes_psi J.ps g4).2,(goes_psi J.ps g6).2];exact hd
theorem CanP.first (C:CanP p) (H:zda p) (hk:0<k) (hkl:k<p.Next.length):∃ i a,i<k∧a<p.Inputs.toNat∧pnx p i a=(↑k:Int)∧∀ (i1 a1 v:Nat),i1*p.Inputs.toNat+a1<i*p.Inputs.toNat+a->pnx p i1 a1=(↑v:Int)->v<k:=by
 obtain ⟨i0,a0,h1,h2,h3⟩:=C.c5 k hk hkl;obtain ⟨r,⟨i,a,e,g1,g2,g3⟩,a2⟩:=leastR (p:=fun r=>∃ i a,r=i*p.Inputs.toNat+a∧i<k∧a<p.Inputs.toNat∧pnx p i a=(↑k:Int)) (r:=i0*p.Inputs.toNat+a0) ⟨i0,a0,rfl,h1,h2,h3⟩;refine ⟨i,a,g1,g2,g3,fun i1 a1 v a4 hv=>yem fun a3=>?_⟩;obtain ⟨r1,r2,r3⟩:=zet H hv;obtain ⟨i',a',k1,k2,k3,k4⟩:=C.c4 i1 a1 k v r1 r2 hk a3 hv;exact a2 (i'*p.Inputs.toNat+a') (by omega) ⟨i',a',rfl,k3,k1,k4⟩
theorem posQ_inj {K i a i' a':Nat} (ha:a<K) (ha':a'<K) (h:i*K+a=i'*K+a'):i=i'∧a=a':=by
 obtain ⟨h1,h2⟩:=dmQ (i:=i) ha;obtain ⟨h3,h4⟩:=dmQ (i:=i') ha';rw [h] at h1 h2;exact ⟨h1.symm.trans h3,h2.symm.trans h4⟩
theorem IdI.blue (J:IdI M L S0 p red k f) (H:zda p) {b:Nat} (hb:BlueB p red b) (hr:red.length=p.Next.length):b=k∧k<p.Next.length:=by
 have h1:k<=b:=ycw fun h=>by
  have:=(J.rd b).2 h;rw [hb.wh] at this;cases this
 have a0:k<p.Next.length:=Nat.lt_of_le_of_lt h1 hb.lt;obtain ⟨i,a,g1,g2,g3⟩:=J.can.c5 k J.kpos a0
 have hw:red[k]?=some false:=by
  have hx:=get_at (l:=red) (i:=k) (by omega);cases hc:red[k] with
  | false=>rw [hx,hc]
  | true =>
   have:=(J.rd k).1 (by rw [hx,hc]);omega
 have:=hb.le i a k ⟨(J.rd i).2 g1,g3,hw⟩;exact ⟨by omega,a0⟩
theorem IdI.inj (J:IdI M L S0 p red k f) (S:zoi M L W S0) {i j:Nat} (hi:i<k) (hj:j<k) (h:f i=f j):i=j:=by
 obtain ⟨x,x1,x2,_⟩:=J.lb i hi;obtain ⟨y,y1,y2,_⟩:=J.lb j hj;refine zny S.bfs.nodup (x:=x.1) (by rw [yaf,x1];rfl) ?_;rw [yaf,y1,yal,<- y2,<- h,x2]
theorem IdI.promote (J:IdI M L S0 p red k f) (S:zoi M L W S0) (H:zda p) (hr:red.length=p.Next.length) {b:Nat} (hb:BlueB p red b) (hc:∀ r:Nat,red[r]?=some true->zme p r b):IdI M L S0 p (red.set b true) (k+1) f:=by
 obtain ⟨rfl,a6⟩:=J.blue H hb hr;have a0:=J.inp;obtain ⟨i,a,h1,h2,h3,h4⟩:=J.can.first H J.kpos a6;obtain ⟨x,x1,x2,y,x3⟩:=J.lb i h1;have ha:a<M.Inputs.toNat:=by rw [<- a0];exact h2
 have hf:=(J.ps i a b h3).1;have a4:∀ r,r<b->f r≠f b:=fun r a8 e=>J.noc H (by omega) hb.lt e (hc r ((J.rd r).2 a8));obtain ⟨j,z,z1,z2,z3⟩:=closedW S.bfs x1 ha
 have a7:b<=j:=ycw fun h=>by
  obtain ⟨x',q1,q2,_⟩:=J.lb j h;rw [z1] at q1;injection q1 with q1
  subst q1;exact a4 j h (by rw [q2,z2,hf,x2])
 obtain ⟨i',a',v,v1,v2,v3,v4,v5⟩:=z3 b J.kpos a7;obtain ⟨x',q1,q2,y',q3⟩:=J.lb i' v3;rw [v4] at q1;injection q1 with q1
 subst q1;obtain ⟨c,a2⟩:=J.all S v3 v1;have a3:=(J.ps i' a' c a2).1;rw [q2] at a3
 have a9:b<=c:=ycw fun h=>by
  obtain ⟨u,u1,u2,_⟩:=J.lb c h;have:=zny S.bfs.nodup (x:=u.1) (i:=c) (j:=b) (by rw [yaf,u1];rfl) (by rw [yaf,v5,<- u2,a3];rfl);omega
 have a5:i'*M.Inputs.toNat+a'=i*M.Inputs.toNat+a:=by
  rcases yat (i'*M.Inputs.toNat+a') (i*M.Inputs.toNat+a) with h | h
  ·have:=h4 i' a' c (by rw [a0];exact h) a2;omega
  ·omega
 obtain ⟨rfl,rfl⟩:=posQ_inj v1 ha a5;rw [h3] at a2;have ec:c=b:=by omega
 subst ec;refine ⟨J.inp,J.st,J.can,by omega,by omega,fun q=>?_,J.ps,J.lt,fun q hq=>?_,J.kn⟩
 ·by_cases e:q=c
  ·subst e;rw [ya7 (by omega)];exact ⟨fun _=>by omega,fun _=>rfl⟩
  ·rw [ybb (by omega),J.rd q];omega
 ·by_cases e:q=c
  ·subst e;exact ⟨_,v5,a3,_,q3.snoc h3⟩
  ·exact J.lb q (by omega)
end
end
section
section
variable {M:zaa} {L:List (Nat×yab)} {W:yaa} {S0:yab->Prop} {p:zac} {red:List Bool} {k:Nat} {f:Nat->Nat}
theorem idx_at_nodup {F:List Nat} (hn:F.Nodup) {i c:Nat} (h:F[i]?=some c):F.idxOf c=i:=by
 obtain ⟨h1,h2⟩:=zkI.1 h;have hl:=ybj (zkH h);exact (yel (h₀:=hl) (h₁:=h1) hn).1 (by rw [yco hl,h2])
theorem IdI.fold (J:IdI M L S0 p red k f) (S:zoi M L W S0) (K:LrnI p red) {b r0:Nat} {Q:zac} {cl:Nat->Nat} {red':List Bool} (hb:BlueB p red b) (hF:FoldB p red r0 b Q cl red') :
  IdI M L S0 (renP Q) red' k fun i=>f (((ordP Q)[i]?).getD 0):=by
 obtain ⟨H,G,hr⟩:=K;obtain ⟨rfl,d6⟩:=J.blue H hb hr;have a8:=J.inp;have d5:=(J.rd r0).1 hF.rd0;have b6:r0<p.Next.length:=by omega
 obtain ⟨r,a,c7,d4,d7⟩:=hb.ex;have d2:=J.same S H d5 ((J.rd r).1 c7) d4 hF.no;have hO:=hF.quo.ord H
 have b2:∀ q,q<p.Next.length->f (cl q)=f q:=fun q hq=>by
  rw [hF.cls q hq];exact (no_confl H J.ps b6 hb.lt d2 (zma q).2.1).symm
 have a7:∀ q,q<p.Next.length->cl q∈ordP Q:=fun q hq=>hF.quo.mem H (G q hq)
 have c0:∀ q,q<p.Next.length->(ordP Q)[(ordP Q).idxOf (cl q)]?=some (cl q):=fun q hq=>by
  have hl:=ybj (a7 q hq);rw [get_at hl,yco hl]
 have b3:∀ q,q<p.Next.length->f (((ordP Q)[(ordP Q).idxOf (cl q)]?).getD 0)=f q:=fun q hq=>by rw [c0 q hq,yae,b2 q hq]
 have a3:=fold_hom H hF.quo;have a6:(renP Q).Next.length=(ordP Q).length:=by unfold renP;simp only [zkK]
 have a4:Q.Inputs=p.Inputs:=hF.quo.inp;have a9:(renP Q).Inputs=p.Inputs:=a4;have C':=renP_can hF.quo.ren (by rw [a4];exact H.i1)
 have a2:(ordP Q).idxOf (cl 0)=0:=by
  have:=a3.st;rw [J.st] at this;exact this.symm
 have hid:∀ i,i<b->(ordP Q).idxOf (cl i)=i:=by
  intro i
  induction i using Nat.strongRecOn with
  | ind i ih =>
   intro hi;rcases ycf i with rfl | b5
   ·exact a2
   obtain ⟨j,a,j1,j2,j3,j4⟩:=J.can.first H b5 (by omega);have hj:=ih j j1 (by omega);obtain ⟨m1,_⟩:=a3.mv j a i (G j (by omega)) j3;rw [hj] at m1
   have c8:i<=(ordP Q).idxOf (cl i):=ycw fun d0=>by
    have e:=ih _ d0 (by omega);have e1:=b3 i (by omega);have e2:=b3 ((ordP Q).idxOf (cl i)) (by omega);rw [e] at e2;have:=J.inj S (by omega) hi (e2.symm.trans e1);omega
   obtain ⟨g1,g2,_⟩:=zet hF.ok.ok m1;obtain ⟨i',a',k1,k2,k3,k4⟩:=C'.c4 j a i _ g1 g2 b5 c8 m1;rw [a9] at k1 k2;obtain ⟨c,b7⟩:=J.all S (i:=i') (a:=a') (by omega) (by rw [<- a8];exact k1);obtain ⟨n1,_⟩:=a3.mv i' a' c (G i' (by omega)) b7;rw [ih i' k3 (by omega),k4] at n1
   have c6:i'*p.Inputs.toNat+a'=j*p.Inputs.toNat+a:=by
    rcases yat (i'*p.Inputs.toNat+a') (j*p.Inputs.toNat+a) with h | h
    ·have h5:=j4 i' a' c h b7;have:=ih c h5 (by omega);omega
    ·omega
   obtain ⟨rfl,rfl⟩:=posQ_inj k1 j2 c6;omega
 have b9:∀ (i a u:Nat),pnx (renP Q) i a=(↑u:Int)->∃ r v:Nat,r<p.Next.length∧pnx p r a=(↑v:Int)∧v<p.Next.length∧(ordP Q)[i]?=some (cl r)∧(ordP Q)[u]?=some (cl v)∧pot (renP Q) i a=pot p r a:=fun i a u hu=>by
  obtain ⟨g1,g2,g3⟩:=zet hF.ok.ok hu;rw [a6] at g1;rw [a9] at g2;have a0:=get_at g1;have b4:(ordP Q)[i]∈ordP Q:=ya2 g1;generalize (ordP Q)[i]=c at a0 b4;have d1:=idx_at_nodup hO.nd a0;obtain ⟨d3,c9⟩:=hO.lt c b4
  have b8:gx Q.Next c a≠-1:=fun e=>by
   unfold pnx renP at hu;simp only at hu;rw [yaf,a0,yal,yae] at hu;unfold zle at hu;rw [yaf,ybh (by rw [a4];exact g2),yal,yae] at hu;unfold numT at hu;rw [if_neg fun h=>h.1 e] at hu;omega
  obtain ⟨l1,l2⟩:=renP_at hF.quo.ren b4 (by rw [a4];exact g2) b8;rw [d1] at l1 l2;obtain ⟨⟨r,r1,r2,r3⟩,h3⟩:=(hF.quo.row c a d3 g2 c9).2 b8;obtain ⟨h4,h5⟩:=h3 r r1 r2 r3;obtain ⟨v,hv⟩:=pnx_nat H r3;have a5:=(zet H hv).2.2;rw [hv,yah] at h4;rw [h4,yah,hu] at l1;have eu:u=(ordP Q).idxOf (cl v):=by omega
  refine ⟨r,v,r1,hv,a5,by rw [r2];exact a0,by rw [eu];exact c0 v a5,by rw [l2,h5]⟩
 refine ⟨a9.trans a8,rfl,C',J.kpos,?_,fun i=>?_,fun i a u hu=>?_,fun i hi=>?_,fun i hi=>?_,fun w hw=>?_⟩
 ·have h1:=hid (b-1) (by have:=J.kpos;omega);have h2:=ybj (a7 (b-1) (by omega));have:=J.kpos;omega
 ·rw [hF.rds i];constructor
  ·rintro ⟨q,q1,q2⟩;have:=(J.rd q).1 q1;rw [hid q this] at q2;omega
  ·intro hi;exact ⟨i,(J.rd i).2 hi,hid i hi⟩
 ·obtain ⟨r,v,r1,hv,a5,h1,h2,h3⟩:=b9 i a u hu;obtain ⟨e1,e2⟩:=J.ps r a v hv;rw [h1,h2,yae,yae,b2 r r1,b2 v a5,h3];exact ⟨e1,e2⟩
 ·rw [a6] at hi;have a0:=get_at hi;rw [a0,yae];exact J.lt _ (hO.lt _ (ya2 hi)).1
 ·obtain ⟨x,x1,x2,y,x3⟩:=J.lb i hi;refine ⟨x,x1,?_,y,?_⟩
  ·have:=b3 i (by omega);rw [hid i hi] at this;rw [this,x2]
  ·have:=a3.goes (G 0 (by omega)) x3;rw [a2,hid i hi] at this;exact this
 ·obtain ⟨y,c,g⟩:=J.kn w hw;have:=a3.goes (G 0 (by omega)) g;rw [a2] at this;exact ⟨y,_,this⟩
def macP (p:zac):zaa:=⟨p.Inputs,p.Start,p.Next,p.Out⟩
theorem IdI.done {m:zaa} (J:IdI M L S0 p red k f) (S:zoi M L W S0) (K:LrnI p red) (hno:∀ r a b,¬ zmk p red r a b) (D:zke m M):macP p=M:=by
 obtain ⟨H,G,hr⟩:=K;have a3:=J.inp
 have a7:∀ q,RS p q->q<k:=fun q h=>by
  induction h with
  | st=>rw [J.st];exact J.kpos
  | step a u h hu ih =>
   rename_i q;obtain ⟨h1,h2,h3⟩:=zet H hu;refine yem fun b3=>hno q a u ⟨(J.rd q).2 ih,hu,?_⟩;have hx:=get_at (l:=red) (i:=u) (by omega);cases hc:red[u] with
   | false=>rw [hx,hc]
   | true =>
    have:=(J.rd u).1 (by rw [hx,hc]);omega
 have hk:k=p.Next.length:=by
  have h1:=J.kle;have h2:=H.n1;have:=a7 (p.Next.length-1) (G _ (by omega));omega
 have a4:∀ q a,q<p.Next.length->a<p.Inputs.toNat->∃ u:Nat,pnx p q a=(↑u:Int)∧u<p.Next.length:=fun q a hq ha=>by
  obtain ⟨u,hu⟩:=J.all S (by omega:q<k) (by rw [<- a3];exact ha);exact ⟨u,hu,(zet H hu).2.2⟩
 have b5:=(zp8 S.mac S.mac.n1 S.bfs).1
 have b7:p.Next.length<=L.length:=by
  have:=H.n1;obtain ⟨x,x1,_⟩:=J.lb (k-1) (by omega);have:=(zkI.1 x1).1;omega
 have b8:=S.mac.n2
 have a0:∀ q a,q<p.Next.length->a<p.Inputs.toNat->∃ u:Nat,pnx p q a=(↑u:Int)∧nx (macP p) q a=u∧ot (macP p) q a=pot p q a:=fun q a hq ha=>by
  obtain ⟨u,hu,_⟩:=a4 q a hq ha;obtain ⟨_,_,_,_,_,x,y,x1,x2,x3,x4,_⟩:=H.at hq ha;refine ⟨u,hu,?_,?_⟩
  ·unfold nx macP;rw [x1,yae,x3,yae,hu,yah]
  ·unfold ot macP;rw [x2,yae,x4,yae]
 have a8:zcv (macP p):=by
  refine ⟨H.i1,H.i2,H.n1,?_,H.st,H.ol,fun s hs=>?_⟩
  ·show p.Next.length<=128;omega
  ·obtain ⟨x,y,h1,h2,h3,h4,h5⟩:=H.row s hs
   have hc:∀ a (u v:Int),x[a]?=some u->y[a]?=some v->0<=u∧u<(↑p.Next.length:Int)∧0<=v∧v<=1048576:=fun a u v hu hv=>by
    obtain ⟨c1,c2,c3,c4,c5⟩:=h5 a u v hu hv;have b6:=(zkI.1 hu).1;obtain ⟨w,hw,_⟩:=a4 s a hs (by omega);unfold pnx at hw;rw [h1,yae,hu,yae] at hw;exact ⟨by omega,c2,by omega,c4⟩
   refine ⟨x,y,h1,h2,h3,h4,fun u hu=>?_,fun v hv=>?_⟩
   ·obtain ⟨a,ha,e⟩:=ybl hu;obtain ⟨q1,q2,_⟩:=hc a u _ (by rw [get_at ha,e]) (get_at (l:=y) (i:=a) (by omega));exact ⟨q1,q2⟩
   ·obtain ⟨a,ha,e⟩:=ybl hv;exact (hc a _ v (get_at (l:=x) (i:=a) (by omega)) (by rw [get_at ha,e])).2.2
 have a2:∀ (w:yab) (i:Nat),i<p.Next.length->WOk M.Inputs w->outs (macP p) i w=outs M (f i) w:=by
  intro w
  induction w with
  | nil=>intro i _ _;rfl
  | cons a w ih =>
   intro i hi hw;have ha:=hw.head;obtain ⟨u,hu,e1,e2⟩:=a0 i a.toNat hi (by omega);obtain ⟨g1,g2⟩:=J.ps i a.toNat u hu;have a5:=(zet H hu).2.2;show ot (macP p) i a.toNat::outs (macP p) (nx (macP p) i a.toNat) w=ot M (f i) a.toNat::outs M (nx M (f i) a.toNat) w;rw [e1,e2,ih u a5 hw.tail,g1,g2]
 have b2:f 0=0:=by
  obtain ⟨x,x1,x2,_⟩:=J.lb 0 J.kpos;rw [S.bfs.first] at x1;injection x1 with x1
  rw [x2,<- x1]
 have D':zke m (macP p):=by
  refine ⟨a8,a3.trans D.inp,J.st,fun w hw=>?_,fun i j hi hj h=>?_,⟨fun i a u hi ha hu b3=>?_,fun u hu a5=>?_⟩⟩
  ·have a6:WOk M.Inputs w:=by rw [<- a3];exact hw
   rw [a2 w 0 H.n1 a6,b2];exact D.eqv w a6
  ·refine J.inj S (by rw [hk];exact hi) (by rw [hk];exact hj) (D.min _ _ (J.lt i hi) (J.lt j hj) fun w hw=>?_);rw [<- a2 w i hi hw,<- a2 w j hj hw];exact h w (by show WOk p.Inputs w;rw [a3];exact hw)
  ·obtain ⟨v,hv,e1,_⟩:=a0 i a hi ha;obtain ⟨i',a',c1,c2,c3,c4⟩:=J.can.c4 i a u v hi ha hu (by omega) hv;obtain ⟨v',a9,b4,_⟩:=a0 i' a' (zet H c4).1 c1;exact ⟨i',a',c1,c2,c3,by omega⟩
  ·obtain ⟨i,a,c1,c2,c3⟩:=J.can.c5 u hu a5;obtain ⟨v',a9,b4,_⟩:=a0 i a (zet H c3).1 c2;exact ⟨i,a,c1,c2,by omega⟩
 exact zq0 D' D
end
theorem outs_at {m:zaa} {w v:yab} {a s:Nat}:(outs m s (w++[(↑a:Int)]++v))[w.length]?=some (ot m (dest m s w) a):=by
 rw [yb9,zfz,yax (by rw [zg0];exact yap _),zg0,ybx];rfl
theorem IdI.start {o:zar} (hv:zit o) {P:zac} (H:zda P) (h0:P.Start=0) (hi:P.Inputs=o.Inputs) (T:zh1 (sortW (allP o)) o.Inputs.toNat (fun v=>v∈sortW (allP o)) (ovT o.Traces) P.Next P.Out) (C:CanP P)
  {M:zaa} {L:List (Nat×yab)} {W:yaa} (S:zoi M L W fun w=>w∈allP o) (hM:o.Inputs=M.Inputs) (hout:∀ t∈o.Traces,t.Out=outs M 0 t.In) :
  IdI M L (fun w=>w∈allP o) P (red0 P) 1 fun q=>dest M 0 (((sortW (allP o))[q]?).getD []):=by
 have a2:P.Next.length=(sortW (allP o)).length:=T.gn.len;have a3:=sort_nil (l:=allP o) (zff.2 (.inl rfl))
 have a8:(sortW (allP o))[0]?=some []:=by
  have:=zmo ((zb3 (allP o) []).2 (zff.2 (.inl rfl)))
  rwa [a3] at this
 have a5:∀ w∈allP o,WOk M.Inputs w:=fun w hw x hx=>by
  rcases zff.1 hw with rfl | ⟨t,ht,hp⟩
  ·cases hx
  ·have:=(zf1 (hv.prop t ht).1.1).2 x (hp.subset hx);rw [<- hM];exact this
 refine ⟨hi.trans hM,h0,C,Nat.one_pos,H.n1,fun i=>?_,fun q a u hu=>?_,fun q hq=>?_,fun i a9=>?_,fun w hw=>?_⟩
 ·unfold red0;by_cases e:i=0
  ·subst e;rw [ya7 (by rw [yas];exact H.n1)];simp
  ·rw [ybb (by omega),ybk];constructor
   ·intro h;split at h<;>cases h
   ·intro h;omega
 ·obtain ⟨q1,q2,q3⟩:=zet H hu;rw [a2] at q1;rw [hi] at q2;have hw:=get_at q1;by_cases d:(sortW (allP o))[q]++[(↑a:Int)]∈sortW (allP o)
  ·obtain ⟨y1,y2⟩:=T.yes q a _ hw q2 d;have a7:gx P.Next q a=(↑u:Int):=hu;have eu:u=(sortW (allP o)).idxOf ((sortW (allP o))[q]++[(↑a:Int)]):=by omega
   rw [hw,yae,eu,zmo d,yae];have a4:pot P q a=ovT o.Traces ((sortW (allP o))[q]++[(↑a:Int)]):=y2;have hm:=(zb3 _ _).1 d;generalize (sortW (allP o))[q]=w at a4 hm;constructor
   ·rw [zes];show nx M (dest M 0 w) (Int.toNat (↑a:Int))=_;rw [yah]
   ·rw [a4];obtain ⟨t,ht,v,hp⟩:=(zff.1 hm).resolve_left (by simp);have hl:t.In.length=w.length+1+v.length:=by rw [<- hp];simp;omega
    have a0:=ovT_eq hv ht (k:=w.length) (by omega)
    have a6:t.In.take (w.length+1)=w++[(↑a:Int)]:=by
     rw [<- hp];exact List.take_left' (by simp)
    rw [a6,hout t ht,<- hp,outs_at] at a0;injection a0 with a0
    exact a0.symm
  ·have:=(T.no q a _ hw q2 d).1;have a7:gx P.Next q a=(↑u:Int):=hu;omega
 ·rw [a2] at hq;rw [get_at hq,yae];exact S.mac.dest (a5 _ ((zb3 _ _).1 (ya2 hq))) S.mac.n1
 ·have e:i=0:=by omega
  subst e;refine ⟨(0,[]),S.bfs.first,?_,[],rfl,rfl⟩;simp only;rw [a8];rfl
 ·rcases zff.1 hw with rfl | ⟨t,ht,v,hp⟩
  ·exact ⟨[],0,rfl,rfl⟩
  ·have g:=tree_run hv h0 T ht;rw [<- hp,h0] at g;obtain ⟨c,y1,y2,_,g1,_⟩:=g.split;exact ⟨y1,c,g1⟩
theorem learn_min {o:zar} (ho:SmO o) (hv:zit o) (hP:(allP o).length<=4090) {m M:zaa} {L:List (Nat×yab)} {W:yaa} (S:zoi M L W fun w=>w∈allP o) (D:zke m M) (hM:o.Inputs=M.Inputs) (hout:∀ t∈o.Traces,t.Out=outs M 0 t.In) :
  ∃ p',zce o=some (p',0)∧macP p'=M:=by
 obtain ⟨P,e1,H,G,h0,hi,T,Q,hQ,R⟩:=tree_prog ho hv hP
 have C:CanP P:=by
  rw [hQ];refine renP_can R ?_;have:(renP Q).Inputs=o.Inputs:=by rw [<- hQ];exact hi
  have h2:Q.Inputs=o.Inputs:=this;rw [h2];exact hv.inp.1
 obtain ⟨p',red',l1,K,⟨k,f,J⟩,a0⟩:=learn_inv (J:=fun p red=>∃ k f,IdI M L (fun w=>w∈allP o) p red k f) (fun p red b K ⟨k,f,J⟩ hb hc=>⟨k+1,f,J.promote S K.ok K.len hb hc⟩) (fun p red b r0 Q cl red' K ⟨k,f,J⟩ hb hF=>⟨k,_,J.fold S K hb hF⟩) (learn_start H G) ⟨1,_,IdI.start hv H h0 hi T C S hM hout⟩;exact ⟨p',learn_prog e1 H h0 l1,J.done S K a0 D⟩
end
end Go.Proofs.YteigfkncoiiaiaaGreatDoor.Sym

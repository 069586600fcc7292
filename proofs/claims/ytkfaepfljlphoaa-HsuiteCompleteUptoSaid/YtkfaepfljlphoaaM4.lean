/-
 The machine of what is reached: the program's Trim. Plain laws.
-/
import Derived.Test.YtkfaepfljlphoaaM3
set_option linter.all false
namespace Go.Proofs.Ytkfaepfljlphoaa.Sym
set_option maxRecDepth 100000
section
variable {m:T_api_Mealy}
theorem libclone_w {w:List Int} (h:w.length≤1000000):lib_Clone_int w=some w:=libclone_word (by unfold SmW;omega)
structure TrimOk (m t:T_api_Mealy) (L:List (Nat×List Int)):Prop where
 end_:MEnd m m.Start.toNat L
 inp:t.Inputs=m.Inputs
 start:t.Start=0
 ok:MacOk t
 shape:Shape (nx m) (ot m) L t
theorem mEnd_rng (H:MacOk m) {s0:Nat} {L:List (Nat×List Int)} (hs:s0<m.Next.length) (hE:MEnd m s0 L):L.length≤m.Next.length∧∀ x∈L,x.1<m.Next.length∧dest m s0 x.2=x.1∧WOk m.Inputs x.2:=by
 refine ⟨?_,fun x hx=>?_⟩
 ·rw [hE.eq]
  exact mB_len H hs _
 ·rw [hE.eq] at hx
  have:=mB_rng H hs _ x hx
  exact ⟨this.1,this.2.2⟩
theorem mealy_Trim_eq (hv:validM m=0):∃ t L,mealy_Trim m=some (t,0)∧TrimOk m t L:=by
 have H:=valid_ok hv
 have hst:=H.st
 have hn:=H.n2
 have hI:=H.i2
 have hI1:=H.i1
 have hs:m.Start.toNat<m.Next.length:=by omega
 obtain ⟨L,hE,hR⟩:=mealy_Reach_eq hv
 obtain ⟨hLn,hLr⟩:=mEnd_rng H hs hE
 have hnd:=hE.nodup
 unfold mealy_Trim
 rw [mealy_Valid_eq,obind,hv,decide_eq_false (by decide),cond_false,hR,obind,chk_pos ⟨by omega,by omega,by unfold capOk;omega⟩]
 -- the numbers
 obtain ⟨num,hnum,hnl,hna⟩:=iter_post (step:=fun (s:List Int×Nat)=>mealy_Trim.s2 (natI (L.map Prod.fst)) s.1 s.2) (fun s=>s.2≤L.length∧s.1.length=m.Next.length∧∀ (j:Nat) (x:Nat×List Int),j<s.2→L[j]?=some x→s.1[x.1]?=some (↑j:Int)) (fun s=>L.length-s.2) (fun r=>r.length=m.Next.length∧∀ (j:Nat) (x:Nat×List Int),L[j]?=some x→r[x.1]?=some (↑j:Int)) (fun s ⟨q1,q2,q3⟩=>by
  obtain ⟨y,i⟩:=s
  simp only at q1 q2 q3
  simp only [mealy_Trim.s2]
  by_cases g:i<L.length
  ·left
   have hx:=get_at g
   generalize L[i]=x at hx
   have hxr:=(hLr x (List.mem_of_getElem? hx)).1
   have hy:=get_at (l:=y) (i:=x.1) (by omega)
   refine ⟨(y.set x.1 (↑i:Int),i+1),?_,⟨g,by simp [q2],fun j z hj hz=>?_⟩,by simp only;omega⟩
   ·rw [decide_eq_true (by rw [natI_len,List.length_map];omega),cond_true,idxn_at (natI_at (i:=i) (u:=x.1) (by rw [List.getElem?_map,hx];rfl)),idx_at rfl hy,Int.toNat_natCast]
   ·simp only
    by_cases e:x.1=z.1
    ·have:i=j:=nodup_at hnd (x:=x.1) (by rw [List.getElem?_map,hx];rfl) (by rw [List.getElem?_map,hz,e];rfl)
     subst this
     rw [← e,List.getElem?_set_self (by omega)]
    ·rw [List.getElem?_set_ne e]
     rcases Nat.lt_or_ge j i with h | h
     ·exact q3 j z h hz
     ·have:j=i:=by simp only at hj;omega
      subst this
      rw [hx] at hz
      injection hz with hz
      rw [hz] at e
      exact absurd rfl e
  ·right
   exact ⟨y,by rw [decide_eq_false (by rw [natI_len,List.length_map];omega),cond_false],q2,fun j x hx=>q3 j x (by have:=(List.getElem?_eq_some_iff.1 hx).1;omega) hx⟩) fuel (List.replicate m.Next.length 0,0) ⟨Nat.zero_le _,by simp,fun j x h=>absurd h (Nat.not_lt_zero _)⟩ (by have:=fuel_big;simp only;omega)
 rw [hnum,obind]
 -- one row
 have row1:∀ (x:Nat×List Int) (row:List Int),x∈L→m.Next[x.1]?=some row→∃ r,iter (fun (s:List Int×Nat)=>mealy_Trim.s15 num row s.1 s.2) fuel (List.replicate (Int.toNat m.Inputs) 0,0)=some r∧r.length=m.Inputs.toNat∧∀ a,a<m.Inputs.toNat→∃ (j:Nat) (y:Nat×List Int),L[j]?=some y∧y.1=nx m x.1 a∧r[a]?=some (↑j:Int):=by
  intro x row hx hrow
  have hxr:=(hLr x hx).1
  have hrl:row.length=m.Inputs.toNat:=by
   obtain ⟨x',y',h1,_,h3,_⟩:=H.row x.1 hxr
   rw [hrow] at h1
   injection h1 with h1
   subst h1
   omega
  obtain ⟨i,hi⟩:=List.mem_iff_getElem?.1 hx
  exact iter_post (step:=fun (s:List Int×Nat)=>mealy_Trim.s15 num row s.1 s.2) (fun s=>s.2≤m.Inputs.toNat∧s.1.length=m.Inputs.toNat∧∀ a,a<s.2→∃ (j:Nat) (y:Nat×List Int),L[j]?=some y∧y.1=nx m x.1 a∧s.1[a]?=some (↑j:Int)) (fun s=>m.Inputs.toNat-s.2) (fun r=>r.length=m.Inputs.toNat∧∀ a,a<m.Inputs.toNat→∃ (j:Nat) (y:Nat×List Int),L[j]?=some y∧y.1=nx m x.1 a∧r[a]?=some (↑j:Int)) (fun s ⟨q1,q2,q3⟩=>by
   obtain ⟨y,a⟩:=s
   simp only at q1 q2 q3
   simp only [mealy_Trim.s15]
   by_cases g:a<m.Inputs.toNat
   ·left
    obtain ⟨h1,_,_,x',y',h2,_,h4,_⟩:=H.at hxr g
    rw [hrow] at h2
    injection h2 with h2
    subst h2
    obtain ⟨j,z,z1,z2,_⟩:=hE.closed hi g
    have hy:=get_at (l:=y) (i:=a) (by omega)
    have hnz:=hna j z z1
    rw [z2] at hnz
    refine ⟨(y.set a (↑j:Int),a+1),?_,⟨g,by simp [q2],fun b hb=>?_⟩,by simp only;omega⟩
    ·rw [decide_eq_true (by omega),cond_true,idxn_at h4,idx_at rfl hnz,idxn_at hy]
    ·simp only
     by_cases e:a=b
     ·subst e
      exact ⟨j,z,z1,z2,by rw [List.getElem?_set_self (by omega)]⟩
     ·obtain ⟨j',z',w1,w2,w3⟩:=q3 b (by simp only at hb;omega)
      exact ⟨j',z',w1,w2,by rw [List.getElem?_set_ne e,w3]⟩
   ·right
    have:a=m.Inputs.toNat:=by omega
    subst this
    exact ⟨y,by rw [decide_eq_false (by omega),cond_false],q2,q3⟩) fuel (List.replicate (Int.toNat m.Inputs) 0,0) ⟨Nat.zero_le _,by simp,fun a h=>absurd h (Nat.not_lt_zero _)⟩ (by have:=fuel_big;simp only;omega)
 -- all rows
 obtain ⟨r,hr,P,Q,rfl,p1,p2,p3⟩:=iter_post (step:=fun (s:List (List Int)×List (List Int)×Nat)=>mealy_Trim.s16 m (natI (L.map Prod.fst)) num s.1 s.2.1 s.2.2) (fun s=>s.2.2≤L.length∧s.1.length=s.2.2∧s.2.1.length=s.2.2∧∀ (i:Nat) (x:Nat×List Int),i<s.2.2→L[i]?=some x→(∃ r,s.1[i]?=some r∧r.length=m.Inputs.toNat∧∀ a,a<m.Inputs.toNat→∃ (j:Nat) (y:Nat×List Int),L[j]?=some y∧y.1=nx m x.1 a∧r[a]?=some (↑j:Int))∧s.2.1[i]?=m.Out[x.1]?) (fun s=>L.length-s.2.2) (fun r=>∃ P Q,r=(P,Q)∧P.length=L.length∧Q.length=L.length∧∀ (i:Nat) (x:Nat×List Int),L[i]?=some x→(∃ r,P[i]?=some r∧r.length=m.Inputs.toNat∧∀ a,a<m.Inputs.toNat→∃ (j:Nat) (y:Nat×List Int),L[j]?=some y∧y.1=nx m x.1 a∧r[a]?=some (↑j:Int))∧Q[i]?=m.Out[x.1]?) (fun s ⟨q1,q2,q3,q4⟩=>by
  obtain ⟨P,Q,i⟩:=s
  simp only at q1 q2 q3 q4
  simp only [mealy_Trim.s16]
  by_cases g:i<L.length
  ·left
   have hx:=get_at g
   generalize L[i]=x at hx
   have hxm:=List.mem_of_getElem? hx
   have hxr:=(hLr x hxm).1
   obtain ⟨row,out,e1,e2,e3,e4,_⟩:=H.row x.1 hxr
   obtain ⟨r,f1,f2,f3⟩:=row1 x row hxm e1
   refine ⟨(P++[r],Q++[out],i+1),?_,⟨g,by simp [q2],by simp [q3],fun j z hj hz=>?_⟩,by simp only;omega⟩
   ·rw [decide_eq_true (by rw [natI_len,List.length_map];omega),cond_true,idxn_at (natI_at (i:=i) (u:=x.1) (by rw [List.getElem?_map,hx];rfl)),chk_pos ⟨by omega,by omega,by unfold capOk;omega⟩,idx_at rfl e1,f1,obind,chk_pos (by unfold capOk;omega),idx_at rfl e2,libclone_w (by omega),obind,chk_pos (by unfold capOk;omega)]
   ·simp only
    rcases Nat.lt_or_ge j i with h | h
    ·obtain ⟨⟨r',w1,w2⟩,w3⟩:=q4 j z h hz
     exact ⟨⟨r',by rw [List.getElem?_append_left (by omega),w1],w2⟩,by rw [List.getElem?_append_left (by omega),w3]⟩
    ·have:j=i:=by simp only at hj;omega
     subst this
     rw [hx] at hz
     injection hz with hz
     subst hz
     refine ⟨⟨r,?_,f2,f3⟩,?_⟩
     ·rw [List.getElem?_append_right (by omega),q2,Nat.sub_self]
      rfl
     ·rw [List.getElem?_append_right (by omega),q3,Nat.sub_self,e2]
      rfl
  ·right
   have:i=L.length:=by omega
   subst this
   exact ⟨_,by rw [decide_eq_false (by rw [natI_len,List.length_map];omega),cond_false],P,Q,rfl,q2,q3,fun j x hx=>q4 j x (List.getElem?_eq_some_iff.1 hx).1 hx⟩) fuel ([],[],0) ⟨Nat.zero_le _,rfl,rfl,fun i x h=>absurd h (Nat.not_lt_zero _)⟩ (by have:=fuel_big;simp only;omega)
 rw [hr,obind]
 have hL0:0<L.length:=(List.getElem?_eq_some_iff.1 hE.first).1
 have hsh:∀ i x a,L[i]?=some x→a<m.Inputs.toNat→∃ (j:Nat) (y:Nat×List Int),L[j]?=some y∧y.1=nx m x.1 a∧nx (⟨m.Inputs,0,P,Q⟩:T_api_Mealy) i a=j∧ot (⟨m.Inputs,0,P,Q⟩:T_api_Mealy) i a=ot m x.1 a:=fun i x a hx ha=>by
  obtain ⟨⟨r,w1,w2,w3⟩,w4⟩:=p3 i x hx
  obtain ⟨j,y,z1,z2,z3⟩:=w3 a ha
  refine ⟨j,y,z1,z2,?_,?_⟩
  ·unfold nx
   simp only
   rw [w1,Option.getD_some,z3,Option.getD_some,Int.toNat_natCast]
  ·unfold ot
   simp only
   rw [w4]
 refine ⟨⟨m.Inputs,0,P,Q⟩,L,rfl,hE,rfl,rfl,⟨hI1,hI,by simp only;omega,by simp only;omega,⟨Int.le_refl 0,by simp only;omega⟩,by simp only;omega,fun i hi=>?_⟩,⟨p1,fun i x a hx ha=>?_⟩⟩
 ·simp only at hi ⊢
  have hx:=get_at (l:=L) (i:=i) (by omega)
  obtain ⟨⟨r,w1,w2,w3⟩,w4⟩:=p3 i _ hx
  obtain ⟨row,out,e1,e2,e3,e4,e5,e6⟩:=H.row L[i].1 (hLr _ (List.mem_of_getElem? hx)).1
  refine ⟨r,out,w1,by rw [w4,e2],by omega,e4,fun u hu=>?_,e6⟩
  obtain ⟨a,ha,rfl⟩:=List.mem_iff_getElem.1 hu
  obtain ⟨j,y,z1,z2,z3⟩:=w3 a (by omega)
  rw [get_at ha] at z3
  injection z3 with z3
  have:=(List.getElem?_eq_some_iff.1 z1).1
  omega
 ·obtain ⟨j,y,z1,z2,z3,z4⟩:=hsh i x a hx ha
  exact ⟨y,by rw [z3];exact z1,z2,z4⟩
theorem trim_outs {t:T_api_Mealy} {L:List (Nat×List Int)} (T:TrimOk m t L):∀ (w:List Int) (i:Nat) (x:Nat×List Int),L[i]?=some x→WOk m.Inputs w→outs t i w=outs m x.1 w
 | [],_,_,_,_=>rfl
 | z::w,i,x,hx,hw=>by
  have hz:=hw.head
  obtain ⟨y,h1,h2,h3⟩:=T.shape.row i x z.toNat hx (by rw [T.inp];omega)
  have:=trim_outs T w _ y h1 hw.tail
  show ot t i z.toNat::outs t (nx t i z.toNat) w=ot m x.1 z.toNat::outs m (nx m x.1 z.toNat) w
  rw [h3,this,h2]
end
end Go.Proofs.Ytkfaepfljlphoaa.Sym

/-
 Classes of equivalent states: the program's refinement. Plain laws.
-/
namespace Go.Proofs.Ytkfaepfljlphoaa.Sym
set_option maxRecDepth 100000
section
variable {κ ν:Type} [BEq κ]
theorem mset_new {k:κ} {v:ν}:∀ {m:List (κ×ν)},mget k m=none→mset k v m=m++[(k,v)]
 | [],_=>rfl
 | p::m,h=>by
  unfold mget at h
  unfold mset
  cases e:k==p.1 with
  | true=>rw [e] at h;cases h
  | false =>
   rw [e] at h
   show p::mset k v m=_
   rw [mset_new h]
   rfl
end
theorem li_beq (a b:List Int):(a==b)=true↔a=b:=beq_iff_eq
section
variable {m:T_api_Mealy} {c:List Int}
def sigV (m:T_api_Mealy) (c:List Int) (s a p:Nat):Int:=if p<a then ot m s p else if 64≤p∧p-64<a then (c[nx m s (p-64)]?).getD 0 else 0
def sigA (m:T_api_Mealy) (c:List Int) (s:Nat):List Int:=(List.range 128).map (sigV m c s m.Inputs.toNat)
theorem sigA_at (s:Nat) {p:Nat} (hp:p<128):(sigA m c s)[p]?=some (sigV m c s m.Inputs.toNat p):=by
 unfold sigA
 rw [List.getElem?_map,List.getElem?_range hp]
 rfl
theorem sigA_len (s:Nat):(sigA m c s).length=128:=by simp [sigA]
theorem sigV_lo {s a K:Nat} (h:a<K):sigV m c s K a=ot m s a:=if_pos h
theorem sigV_hi {s a K:Nat} (h:a<K) (hK:K≤64):sigV m c s K (64+a)=(c[nx m s a]?).getD 0:=by
 unfold sigV
 have h1:¬ 64+a<K:=by omega
 have h2:64≤64+a∧64+a-64<K:=by omega
 have h3:64+a-64=a:=by omega
 rw [if_neg h1,if_pos h2,h3]
theorem sigA_eq (hI:m.Inputs≤64) {s t:Nat}:sigA m c s=sigA m c t↔∀ a,a<m.Inputs.toNat→ot m s a=ot m t a∧(c[nx m s a]?).getD 0=(c[nx m t a]?).getD 0:=by
 constructor
 ·intro h a ha
  have h1:=sigA_at (m:=m) (c:=c) s (p:=a) (by omega)
  rw [h,sigA_at t (by omega)] at h1
  injection h1 with h1
  rw [sigV_lo ha,sigV_lo ha] at h1
  have h2:=sigA_at (m:=m) (c:=c) s (p:=64+a) (by omega)
  rw [h,sigA_at t (by omega)] at h2
  injection h2 with h2
  rw [sigV_hi ha (by omega),sigV_hi ha (by omega)] at h2
  exact ⟨h1.symm,h2.symm⟩
 ·intro h
  unfold sigA
  refine List.map_congr_left fun p _=>?_
  unfold sigV
  by_cases h1:p<m.Inputs.toNat
  ·rw [if_pos h1,if_pos h1,(h p h1).1]
  ·rw [if_neg h1,if_neg h1]
   by_cases h2:64≤p∧p-64<m.Inputs.toNat
   ·rw [if_pos h2,if_pos h2,(h _ h2.2).2]
   ·rw [if_neg h2,if_neg h2]
theorem sig_loop (H:MacOk m) (hc:c.length=m.Next.length) {s:Nat} (hs:s<m.Next.length):iter (fun (q:List Int×Nat)=>minimize_next.s18 m c s q.1 q.2) fuel (List.replicate 128 0,0)=some (sigA m c s):=by
 have hI:=H.i2
 refine iter_eq (fun q=>q.2≤m.Inputs.toNat∧q.1=(List.range 128).map (sigV m c s q.2)) (fun q=>m.Inputs.toNat-q.2) (fun q hq=>?_) ⟨Nat.zero_le _,?_⟩ (by have:=fuel_big;simp only;omega)
 ·obtain ⟨y,a⟩:=q
  obtain ⟨q1,q2⟩:=hq
  simp only at q1 q2
  rw [q2]
  simp only [minimize_next.s18]
  by_cases g:a<m.Inputs.toNat
  ·left
   obtain ⟨h1,_,_,x,o,e1,e2,e3,e4⟩:=H.at hs g
   have hcx:=get_at (l:=c) (i:=nx m s a) (by omega)
   have hr:∀ p,p<128→((List.range 128).map (sigV m c s a))[p]?=some (sigV m c s a p):=fun p hp=>by
    rw [List.getElem?_map,List.getElem?_range hp]
    rfl
   refine ⟨((List.range 128).map (sigV m c s (a+1)),a+1),?_,⟨g,rfl⟩,by simp only;omega⟩
   rw [decide_eq_true (by omega),cond_true,idxn_at e2,idxn_at e4,chk_pos (by omega),idxn_at (hr a (by omega)),chk_pos (by unfold inR;omega),idxn_at e1,idxn_at e3,idx_at rfl hcx,chk_pos (by omega),idxn_at (x:=sigV m c s a (64+a)) (by rw [List.getElem?_set_ne (by omega),hr _ (by omega)]),chk_pos (by unfold inR;omega)]
   congr 4
   refine List.ext_getElem? fun p=>?_
   rcases Nat.lt_or_ge p 128 with hp | hp
   ·rw [List.getElem?_map (f:=sigV m c s (a+1)),List.getElem?_range hp,Option.map_some]
    by_cases p1:64+a=p
    ·subst p1
     rw [List.getElem?_set_self (by simp;omega)]
     congr 1
     unfold sigV
     rw [if_neg (by omega),if_pos (by omega),show 64+a-64=a by omega,hcx,Option.getD_some]
    ·rw [List.getElem?_set_ne p1]
     by_cases p2:a=p
     ·subst p2
      rw [List.getElem?_set_self (by simp;omega)]
      congr 1
      unfold sigV
      rw [if_pos (by omega)]
     ·rw [List.getElem?_set_ne p2,hr p hp]
      congr 1
      unfold sigV
      by_cases p3:p<a
      ·rw [if_pos p3,if_pos (by omega)]
      ·have p5:¬ p<a+1:=by omega
       rw [if_neg p3,if_neg p5]
       by_cases p4:64≤p∧p-64<a
       ·have p6:64≤p∧p-64<a+1:=by omega
        rw [if_pos p4,if_pos p6]
       ·have p6:¬ (64≤p∧p-64<a+1):=by omega
        rw [if_neg p4,if_neg p6]
   ·rw [List.getElem?_eq_none (by simp;omega),List.getElem?_eq_none (by simp;omega)]
  ·right
   have:a=m.Inputs.toNat:=by omega
   subst this
   rw [decide_eq_false (by omega),cond_false]
   rfl
 ·simp only
  refine List.ext_getElem? fun p=>?_
  rcases Nat.lt_or_ge p 128 with hp | hp
  ·rw [List.getElem?_replicate,if_pos hp,List.getElem?_map,List.getElem?_range hp,Option.map_some]
   unfold sigV
   rw [if_neg (by omega),if_neg (by omega)]
  ·rw [List.getElem?_eq_none (by simp;omega),List.getElem?_eq_none (by simp;omega)]
def FirstOcc (o:List Int):Prop:=∀ (s x:Nat),o[s]?=some (↑x:Int)→∀ u:Nat,u<x→∃ s',s'<s∧o[s']?=some (↑u:Int)
structure ClsF (m:T_api_Mealy) (k:Nat) (c:List Int):Prop where
 cls:ClsOk m k c
 first:FirstOcc c
theorem E_of_next (H:MacOk m):∀ {k s t:Nat},s<m.Next.length→t<m.Next.length→(∀ a,a<m.Inputs.toNat→ot m s a=ot m t a∧E m k (nx m s a) (nx m t a))→E m (k+1) s t
 | 0,_,_,_,_,h=>⟨trivial,h⟩
 | _+1,_,_,hs,ht,h=>⟨E_of_next H hs ht fun a ha=>⟨(h a ha).1,(h a ha).2.1⟩,h⟩
theorem sig_iff (H:MacOk m) {k:Nat} (C:ClsOk m k c) {s t:Nat} (hs:s<m.Next.length) (ht:t<m.Next.length):sigA m c s=sigA m c t↔E m (k+1) s t:=by
 rw [sigA_eq H.i2]
 have hq:∀ a,a<m.Inputs.toNat→((c[nx m s a]?).getD 0=(c[nx m t a]?).getD 0↔E m k (nx m s a) (nx m t a)):=fun a ha=>by
  have h1:=(H.at hs ha).1
  have h2:=(H.at ht ha).1
  rw [← C.cls _ _ h1 h2]
  obtain ⟨x,x1,_⟩:=C.rng _ h1
  obtain ⟨y,y1,_⟩:=C.rng _ h2
  rw [x1,y1,Option.getD_some,Option.getD_some]
  exact ⟨fun h=>by rw [h],fun h=>by injection h⟩
 constructor
 ·exact fun h=>E_of_next H hs ht fun a ha=>⟨(h a ha).1,(hq a ha).1 (h a ha).2⟩
 ·exact fun h a ha=>⟨(h.2 a ha).1,(hq a ha).2 (h.2 a ha).2⟩
structure Giv (m:T_api_Mealy) (c:List Int) (mp:List (List Int×Int)) (o:List Int) (s:Nat):Prop where
 len:o.length=m.Next.length
 keys:∀ p∈mp,p.1.length=128
 le:mp.length≤s
 get:∀ s',s'<s→∃ x:Nat,x<mp.length∧o[s']?=some (↑x:Int)∧mget (sigA m c s') mp=some (↑x:Int)
 org:∀ k v,mget k mp=some v→∃ s',s'<s∧sigA m c s'=k
 inj:∀ s' s'',s'<s→s''<s→o[s']?=o[s'']?→sigA m c s'=sigA m c s''
 first:∀ (s' x:Nat),s'<s→o[s']?=some (↑x:Int)→∀ u:Nat,u<x→∃ s'',s''<s'∧o[s'']?=some (↑u:Int)
 all:∀ u:Nat,u<mp.length→∃ s',s'<s∧o[s']?=some (↑u:Int)
open Classical in
theorem minimize_next_eq (H:MacOk m) {k:Nat} (C:ClsOk m k c):∃ (c':List Int) (n:Nat),minimize_next m c=some (c',(↑n:Int))∧ClsF m (k+1) c'∧n=nreps m (k+1):=by
 have hn:=H.n2
 have hc:=C.len
 unfold minimize_next
 rw [chk_pos ⟨by omega,by omega,by unfold capOk;omega⟩]
 obtain ⟨r,hr,mp,o,rfl,G,hcnt⟩:=iter_post (step:=fun (s:(List (List Int×Int))×List Int×Nat)=>minimize_next.s20 m c s.1 s.2.1 s.2.2) (fun s=>s.2.2≤m.Next.length∧Giv m c s.1 s.2.1 s.2.2∧s.1.length=(List.range s.2.2).countP fun s=>decide (Rep m (k+1) s)) (fun s=>m.Next.length-s.2.2) (fun r=>∃ mp o,r=(mp,o)∧Giv m c mp o m.Next.length∧mp.length=nreps m (k+1)) (fun s ⟨q1,G,q3⟩=>by
  obtain ⟨mp,o,s⟩:=s
  simp only at q1 G q3
  simp only [minimize_next.s20]
  by_cases g:s<m.Next.length
  ·left
   have hlen:=sigA_len (m:=m) (c:=c) s
   have hmle:=G.le
   have ho:=get_at (l:=o) (i:=s) (by rw [G.len];exact g)
   rw [decide_eq_true (by omega),cond_true,sig_loop H hc g,obind,chk_pos hlen,chk_pos ⟨hlen,G.keys⟩]
   have hrep:(mget (sigA m c s) mp=none)↔Rep m (k+1) s:=by
    constructor
    ·intro h t ht hE
     obtain ⟨x,_,_,x3⟩:=G.get t ht
     rw [← (sig_iff H C g (by omega)).2 hE,h] at x3
     cases x3
    ·intro h
     cases e:mget (sigA m c s) mp with
     | none=>rfl
     | some v =>
      obtain ⟨s',h1,h2⟩:=G.org _ _ e
      exact absurd ((sig_iff H C g (by omega)).1 h2.symm) (h s' h1)
   have hcount:(List.range (s+1)).countP (fun s=>decide (Rep m (k+1) s))=(List.range s).countP (fun s=>decide (Rep m (k+1) s))+if Rep m (k+1) s then 1 else 0:=by
    rw [List.range_succ,List.countP_append]
    congr 1
    by_cases h:Rep m (k+1) s
    ·rw [if_pos h,List.countP_singleton,decide_eq_true h]
     rfl
    ·rw [if_neg h,List.countP_singleton,decide_eq_false h]
     rfl
   have setlt:∀ {s':Nat} {v:Int},s'<s→(o.set s v)[s']?=o[s']?:=fun h=>List.getElem?_set_ne (by omega)
   have setat:∀ {v:Int},(o.set s v)[s]?=some v:=List.getElem?_set_self (by rw [G.len];exact g)
   cases e:mget (sigA m c s) mp with
   | none =>
    have hR:=hrep.1 e
    have hms:mset (sigA m c s) (↑mp.length:Int) mp=mp++[(sigA m c s,(↑mp.length:Int))]:=mset_new e
    refine ⟨(mset (sigA m c s) (↑mp.length:Int) mp,o.set s (↑mp.length:Int),s+1),?_,⟨g,?_,?_⟩,by simp only;omega⟩
    ·rw [Option.isSome_none,Bool.not_false,cond_true,chk_pos hlen,chk_pos ⟨hlen,G.keys⟩,obind]
     simp only [minimize_next.k19]
     rw [idxn_at ho]
    ·simp only
     refine ⟨by simp [G.len],?_,by rw [hms];simp;omega,?_,?_,?_,?_,?_⟩
     ·intro p hp
      rw [hms] at hp
      rcases List.mem_append.1 hp with h | h
      ·exact G.keys p h
      ·have:p=(sigA m c s,(↑mp.length:Int)):=by simpa using h
       rw [this]
       exact hlen
     ·intro s' hs'
      by_cases h:s'<s
      ·obtain ⟨x,x1,x2,x3⟩:=G.get s' h
       refine ⟨x,by rw [hms];simp;omega,by rw [setlt h,x2],?_⟩
       rw [mget_mset_ne li_beq (fun q=>?_),x3]
       rw [q,e] at x3
       cases x3
      ·have:s'=s:=by omega
       subst this
       exact ⟨mp.length,by rw [hms];simp,setat,mget_mset_same li_beq mp⟩
     ·intro kk v hv
      by_cases h:kk=sigA m c s
      ·exact ⟨s,by omega,h.symm⟩
      ·rw [mget_mset_ne li_beq h] at hv
       obtain ⟨s',h1,h2⟩:=G.org _ _ hv
       exact ⟨s',by omega,h2⟩
     ·have fresh:∀ s',s'<s→o[s']?≠some (↑mp.length:Int):=fun s' h q=>by
       obtain ⟨x,x1,x2,_⟩:=G.get s' h
       rw [x2] at q
       injection q with q
       omega
      intro s' s'' h1 h2 h3
      by_cases a1:s'<s<;>by_cases a2:s''<s
      ·rw [setlt a1,setlt a2] at h3
       exact G.inj _ _ a1 a2 h3
      ·have:s''=s:=by omega
       subst this
       rw [setlt a1,setat] at h3
       exact absurd h3 (fresh s' a1)
      ·have:s'=s:=by omega
       subst this
       rw [setlt a2,setat] at h3
       exact absurd h3.symm (fresh s'' a2)
      ·have:s'=s'':=by omega
       rw [this]
     ·intro s' x h1 h2 u hu
      by_cases a1:s'<s
      ·rw [setlt a1] at h2
       obtain ⟨s'',z1,z2⟩:=G.first s' x a1 h2 u hu
       exact ⟨s'',z1,by rw [setlt (by omega),z2]⟩
      ·have:s'=s:=by omega
       subst this
       rw [setat] at h2
       injection h2 with h2
       obtain ⟨s'',z1,z2⟩:=G.all u (by omega)
       exact ⟨s'',z1,by rw [setlt z1,z2]⟩
     ·intro u hu
      rw [hms] at hu
      simp at hu
      rcases Nat.lt_or_ge u mp.length with h | h
      ·obtain ⟨s',z1,z2⟩:=G.all u h
       exact ⟨s',by omega,by rw [setlt z1,z2]⟩
      ·have:u=mp.length:=by omega
       subst this
       exact ⟨s,by omega,setat⟩
    ·simp only
     rw [hcount,if_pos hR,hms,← q3]
     simp
   | some v =>
    have hR:¬ Rep m (k+1) s:=fun q=>by
     rw [hrep.2 q] at e
     cases e
    obtain ⟨t,ht,hts⟩:=G.org _ _ e
    obtain ⟨x,x1,x2,x3⟩:=G.get t ht
    have hv:v=(↑x:Int):=by
     rw [hts,e] at x3
     injection x3
    refine ⟨(mp,o.set s v,s+1),?_,⟨g,?_,?_⟩,by simp only;omega⟩
    ·rw [Option.isSome_some,Bool.not_true,cond_false,Option.getD_some,obind]
     simp only [minimize_next.k19]
     rw [idxn_at ho]
    ·simp only
     refine ⟨by simp [G.len],G.keys,by omega,?_,?_,?_,?_,?_⟩
     ·intro s' hs'
      by_cases h:s'<s
      ·obtain ⟨x,y1,y2,y3⟩:=G.get s' h
       exact ⟨x,y1,by rw [setlt h,y2],y3⟩
      ·have:s'=s:=by omega
       subst this
       exact ⟨x,x1,by rw [setat,hv],by rw [e,hv]⟩
     ·intro kk v hv
      obtain ⟨s',h1,h2⟩:=G.org _ _ hv
      exact ⟨s',by omega,h2⟩
     ·intro s' s'' h1 h2 h3
      by_cases a1:s'<s<;>by_cases a2:s''<s
      ·rw [setlt a1,setlt a2] at h3
       exact G.inj _ _ a1 a2 h3
      ·have:s''=s:=by omega
       subst this
       rw [setlt a1,setat,hv,← x2] at h3
       rw [← hts]
       exact G.inj _ _ a1 ht h3
      ·have:s'=s:=by omega
       subst this
       rw [setlt a2,setat,hv,← x2] at h3
       rw [← hts]
       exact G.inj _ _ ht a2 h3
      ·have:s'=s'':=by omega
       rw [this]
     ·intro s' y h1 h2 u hu
      by_cases a1:s'<s
      ·rw [setlt a1] at h2
       obtain ⟨s'',z1,z2⟩:=G.first s' y a1 h2 u hu
       exact ⟨s'',z1,by rw [setlt (by omega),z2]⟩
      ·have:s'=s:=by omega
       subst this
       rw [setat] at h2
       injection h2 with h2
       obtain ⟨s'',z1,z2⟩:=G.first t x ht x2 u (by omega)
       exact ⟨s'',by omega,by rw [setlt (by omega),z2]⟩
     ·intro u hu
      obtain ⟨s',z1,z2⟩:=G.all u hu
      exact ⟨s',by omega,by rw [setlt z1,z2]⟩
    ·simp only
     rw [hcount,if_neg hR,← q3,Nat.add_zero]
  ·right
   have:s=m.Next.length:=by omega
   subst this
   exact ⟨_,by rw [decide_eq_false (by omega),cond_false],mp,o,rfl,G,q3⟩) fuel ([],List.replicate c.length 0,0) ⟨Nat.zero_le _,⟨by simp [hc],fun p hp=>(by cases hp),Nat.le_refl _,fun s' h=>absurd h (Nat.not_lt_zero _),fun k v h=>(by cases h),fun s' _ h=>absurd h (Nat.not_lt_zero _),fun s' _ h=>absurd h (Nat.not_lt_zero _),fun u h=>absurd h (Nat.not_lt_zero _)⟩,rfl⟩ (by have:=fuel_big;simp only;omega)
 refine ⟨o,mp.length,by rw [hr,obind];rfl,⟨⟨G.len,fun s hs=>?_,fun s t hs ht=>?_⟩,fun s x hx=>G.first s x (by rw [← G.len];exact (List.getElem?_eq_some_iff.1 hx).1) hx⟩,hcnt⟩
 ·obtain ⟨x,x1,x2,_⟩:=G.get s hs
  have:=G.le
  exact ⟨x,x2,by omega⟩
 ·rw [← sig_iff H C hs ht]
  constructor
  ·exact G.inj s t hs ht
  ·intro h
   obtain ⟨x,_,x2,x3⟩:=G.get s hs
   obtain ⟨y,_,y2,y3⟩:=G.get t ht
   rw [h,y3] at x3
   rw [x2,y2,x3]
open Classical in
theorem minimize_refine_eq (H:MacOk m):∃ c i,minimize_refine m 128=some (c,i)∧ClsF m m.Next.length c:=by
 have hn:=H.n2
 have hn1:=H.n1
 have hmin:(min (max (128:Int) 0) (↑m.Next.length:Int))=(↑m.Next.length:Int):=by omega
 unfold minimize_refine
 rw [chk_pos ⟨by omega,by omega,by unfold capOk;omega⟩]
 obtain ⟨r,hr,hq⟩:=iter_post (step:=fun (s:List Int×Int×Nat)=>minimize_refine.s2 m 128 s.1 s.2.1 s.2.2) (fun s=>s.2.2≤m.Next.length∧ClsF m s.2.2 s.1∧s.2.1=(↑(nreps m s.2.2):Int)) (fun s=>m.Next.length-s.2.2) (fun r=>(∃ c,r=.inl c∧ClsF m m.Next.length c)∨∃ c i,r=.inr (c,i)∧ClsF m m.Next.length c) (fun s ⟨q1,q2,q3⟩=>by
  obtain ⟨c,n,i⟩:=s
  simp only at q1 q2 q3
  simp only [minimize_refine.s2]
  rw [hmin]
  by_cases g:i<m.Next.length
  ·obtain ⟨c',n',h1,h2,h3⟩:=minimize_next_eq H q2.cls
   rw [decide_eq_true (by omega),cond_true,h1,obind]
   by_cases e:n'=nreps m i
   ·right
    rw [decide_eq_true (by simp only;omega),cond_true]
    refine ⟨_,rfl,Or.inr ⟨c,_,rfl,⟨⟨q2.cls.len,q2.cls.rng,fun s t hs ht=>?_⟩,q2.first⟩⟩⟩
    rw [q2.cls.cls s t hs ht]
    have hS:Stab m i:=stab_of (by omega)
    constructor
    ·intro h
     have key:∀ j,E m (i+j) s t:=by
      intro j
      induction j with
      | zero=>exact h
      | succ j ih=>exact stab_add H hS j s t hs ht ih
     have:=key (m.Next.length-i)
     rwa [show i+(m.Next.length-i)=m.Next.length by omega] at this
    ·exact E_mono (by omega)
   ·left
    exact ⟨(c',(↑n':Int),i+1),by rw [decide_eq_false (by simp only;omega),cond_false],⟨g,h2,by simp only;rw [h3]⟩,by simp only;omega⟩
  ·right
   have:i=m.Next.length:=by omega
   subst this
   exact ⟨_,by rw [decide_eq_false (by omega),cond_false],Or.inl ⟨c,rfl,q2⟩⟩) fuel (List.replicate m.Next.length 0,1,0) ⟨Nat.zero_le _,⟨⟨by simp,fun s hs=>⟨0,by simp [hs],hn1⟩,fun s t hs ht=>⟨fun _=>trivial,fun _=>by simp [hs,ht]⟩⟩,fun s x hx u hu=>by
    have:=(List.getElem?_eq_some_iff.1 hx).2
    simp at this
    omega⟩,by
    simp only
    have:nreps m 0=1:=by
     unfold nreps
     have h0:∀ n,0<n→(List.range n).countP (fun s=>decide (Rep m 0 s))=1:=by
      intro n
      induction n with
      | zero=>intro h;omega
      | succ n ih =>
       intro _
       rw [List.range_succ,List.countP_append,List.countP_singleton]
       by_cases hz:n=0
       ·subst hz
        rw [decide_eq_true (show Rep m 0 0 from fun t ht=>absurd ht (Nat.not_lt_zero _))]
        rfl
       ·rw [ih (by omega),decide_eq_false (show ¬ Rep m 0 n from fun q=>q 0 (by omega) trivial)]
        rfl
     exact h0 _ hn1
    rw [this]
    rfl⟩ (by have:=fuel_big;simp only;omega)
 rw [hr,obind]
 rcases hq with ⟨c,rfl,h⟩ | ⟨c,i,rfl,h⟩
 ·exact ⟨c,_,rfl,h⟩
 ·exact ⟨c,i,rfl,h⟩
theorem minimize_Classes_eq (hv:validM m=0):∃ c,minimize_Classes m=some (c,0)∧ClsF m m.Next.length c:=by
 obtain ⟨c,i,h1,h2⟩:=minimize_refine_eq (valid_ok hv)
 refine ⟨c,?_,h2⟩
 unfold minimize_Classes minimize_Partition
 rw [mealy_Valid_eq,obind,hv,decide_eq_false (by decide),cond_false,h1,obind,obind]
end
end Go.Proofs.Ytkfaepfljlphoaa.Sym

/-
 The program's minimal machine. Plain laws.
-/
namespace Go.Proofs.Ytkfaepfljlphoaa.Sym
set_option maxRecDepth 100000
section
variable {m t:T_api_Mealy} {c:List Int}
def IsFirst (c:List Int) (s u:Nat):Prop:=c[s]?=some (↑u:Int)∧∀ s',s'<s→c[s']?≠some (↑u:Int)
theorem first_lt (F:FirstOcc c) {s u i v:Nat} (hs:IsFirst c s u) (hi:i<s) (hv:c[i]?=some (↑v:Int)):v<u:=by
 rcases Nat.lt_trichotomy v u with h | h | h
 ·exact h
 ·rw [h] at hv
  exact absurd hv (hs.2 i hi)
 ·obtain ⟨s',h1,h2⟩:=F i v hv u h
  exact absurd h2 (hs.2 s' (by omega))
theorem first_le (F:FirstOcc c) {s u i v:Nat} (hs:IsFirst c s u) (hv:c[i]?=some (↑v:Int)) (hu:u≤v):s≤i:=by
 rcases Nat.lt_or_ge i s with h | h
 ·have:=first_lt F hs h hv
  omega
 ·exact h
structure Quo (t M:T_api_Mealy) (c:List Int):Prop where
 inp:M.Inputs=t.Inputs
 start:M.Start=0
 len:M.Out.length=M.Next.length
 ub:∀ s,s<t.Next.length→∃ x:Nat,c[s]?=some (↑x:Int)∧x<M.Next.length
 row:∀ u,u<M.Next.length→∃ s r o,s<t.Next.length∧IsFirst c s u∧M.Next[u]?=some r∧M.Out[u]?=some o∧r.length=t.Inputs.toNat∧(∀ a,a<t.Inputs.toNat→r[a]?=c[nx t s a]?)∧t.Out[s]?=some o
 le:M.Next.length≤t.Next.length
variable {M:T_api_Mealy}
theorem quo_nx (H:MacOk t) (Q:Quo t M c) {u:Nat} (hu:u<M.Next.length):∃ s,s<t.Next.length∧IsFirst c s u∧∀ a,a<t.Inputs.toNat→c[nx t s a]?=some (↑(nx M u a):Int)∧ot M u a=ot t s a:=by
 obtain ⟨s,r,o,h1,h2,h3,h4,h5,h6,h7⟩:=Q.row u hu
 refine ⟨s,h1,h2,fun a ha=>?_⟩
 obtain ⟨x,x1,_⟩:=Q.ub _ (H.at h1 ha).1
 have hr:=h6 a ha
 rw [x1] at hr
 refine ⟨?_,?_⟩
 ·rw [x1]
  unfold nx
  rw [h3,Option.getD_some,hr,Option.getD_some,Int.toNat_natCast]
 ·unfold ot
  rw [h4,h7]
theorem quo_step (H:MacOk t) (C:ClsF t t.Next.length c) {s s' a:Nat} (hs:s<t.Next.length) (hs':s'<t.Next.length) (h:c[s]?=c[s']?) (ha:a<t.Inputs.toNat):ot t s a=ot t s' a∧c[nx t s a]?=c[nx t s' a]?:=by
 have h1:=E_all H hs hs' ((C.cls.cls s s' hs hs').1 h) (t.Next.length+1)
 exact ⟨(h1.2 a ha).1,(C.cls.cls _ _ (H.at hs ha).1 (H.at hs' ha).1).2 (h1.2 a ha).2⟩
theorem quo_outs (H:MacOk t) (C:ClsF t t.Next.length c) (Q:Quo t M c):∀ (w:List Int) (s u:Nat),s<t.Next.length→c[s]?=some (↑u:Int)→WOk t.Inputs w→outs M u w=outs t s w
 | [],_,_,_,_,_=>rfl
 | z::w,s,u,hs,hu,hw=>by
  have hz:=hw.head
  have ha:z.toNat<t.Inputs.toNat:=by omega
  obtain ⟨x,x1,x2⟩:=Q.ub s hs
  have hux:u<M.Next.length:=by
   rw [hu] at x1
   injection x1 with x1
   omega
  obtain ⟨s',h1,h2,h3⟩:=quo_nx H Q hux
  obtain ⟨e1,e2⟩:=quo_step H C hs h1 (hu.trans h2.1.symm) ha
  have h4:=h3 _ ha
  have:=quo_outs H C Q w (nx t s z.toNat) (nx M u z.toNat) (H.at hs ha).1 (by rw [e2,h4.1]) hw.tail
  show ot M u z.toNat::outs M (nx M u z.toNat) w=ot t s z.toNat::outs t (nx t s z.toNat) w
  rw [this,h4.2,e1]
theorem quo_ok (H:MacOk t) (Q:Quo t M c):MacOk M:=by
 have hn:=H.n1
 have hn2:=H.n2
 obtain ⟨x,_,x2⟩:=Q.ub 0 hn
 have hle:=Q.le
 refine ⟨by rw [Q.inp];exact H.i1,by rw [Q.inp];exact H.i2,by omega,by omega,by rw [Q.start];omega,Q.len,fun u hu=>?_⟩
 have hi1:=H.i1
 obtain ⟨s,r,o,h1,h2,h3,h4,h5,h6,h7⟩:=Q.row u hu
 obtain ⟨x',y',e1,e2,e3,e4,e5,e6⟩:=H.row s h1
 rw [h7] at e2
 injection e2 with e2
 subst e2
 refine ⟨r,o,h3,h4,by rw [Q.inp];omega,by rw [Q.inp];exact e4,fun v hv=>?_,e6⟩
 obtain ⟨a,ha,rfl⟩:=List.mem_iff_getElem.1 hv
 obtain ⟨z,z1,z2⟩:=Q.ub _ (H.at h1 (a:=a) (by omega)).1
 have hr:=h6 a (by omega)
 rw [get_at ha,z1] at hr
 injection hr with hr
 omega
theorem quo_can (H:MacOk t) (C:ClsF t t.Next.length c) (Q:Quo t M c) (K:Can t):Can M:=by
 have hzero:∀ s,IsFirst c s 0→s=0:=fun s hs=>by
  obtain ⟨x,x1,_⟩:=Q.ub 0 H.n1
  have:=first_le C.first hs x1 (Nat.zero_le _)
  omega
 have hpos:∀ s u,IsFirst c s u→0<u→0<s:=fun s u hs hu=>by
  rcases Nat.eq_zero_or_pos s with h | h
  ·subst h
   obtain ⟨s',h1,_⟩:=C.first 0 u hs.1 0 hu
   omega
  ·exact h
 have back:∀ {i a s u:Nat},i<s→i<t.Next.length→a<t.Inputs.toNat→IsFirst c s u→nx t i a=s→∃ v:Nat,c[i]?=some (↑v:Int)∧v<u∧nx M v a=u:=fun {i a s u} h1 h2 h3 h4 h5=>by
  obtain ⟨v,v1,v2⟩:=Q.ub i h2
  refine ⟨v,v1,first_lt C.first h4 h1 v1,?_⟩
  obtain ⟨s',g1,g2,g3⟩:=quo_nx H Q v2
  have e:=(quo_step H C h2 g1 (v1.trans g2.1.symm) h3).2
  have g4:=(g3 a h3).1
  rw [← e,h5,h4.1] at g4
  injection g4 with g4
  omega
 refine ⟨fun i a u hi ha hu hle=>?_,fun u hu hlt=>?_⟩
 ·rw [Q.inp] at ha ⊢
  obtain ⟨s,h1,h2,h3⟩:=quo_nx H Q hi
  have hD:=(h3 a ha).1
  have hn1:=(H.at h1 ha).1
  have huM:u<M.Next.length:=by
   have:=(quo_ok H Q).at hi (a:=a) (by rw [Q.inp];exact ha)
   omega
  obtain ⟨su,g1,g2,g3⟩:=quo_nx H Q huM
  have hsu:=first_le C.first g2 hD hle
  obtain ⟨i',a',z1,z2,z3,z4⟩:=K.c4 s a su h1 ha (hpos su u g2 hu) hsu
  obtain ⟨v,v1,v2,v3⟩:=back z3 (by omega) z1 g2 z4
  refine ⟨v,a',z1,?_,v2,v3⟩
  have hle':i'≤s:=by
   rcases Nat.lt_or_ge s i' with q | q
   ·have:=mem_lt q ha
    omega
   ·exact q
  rcases Nat.lt_or_ge i' s with q | q
  ·have:=first_lt C.first h2 q v1
   have:=mem_lt this z1
   omega
  ·have e:i'=s:=by omega
   subst e
   have hv:=h2.1
   rw [v1] at hv
   injection hv with hv
   have:v=i:=by omega
   subst this
   omega
 ·rw [Q.inp]
  obtain ⟨su,g1,g2,g3⟩:=quo_nx H Q hlt
  obtain ⟨i,a,z1,z2,z3⟩:=K.c5 su (hpos su u g2 hu) g1
  obtain ⟨v,v1,v2,v3⟩:=back z1 (by omega) z2 g2 z3
  exact ⟨v,a,v2,z2,v3⟩
theorem quo_min (H:MacOk t) (C:ClsF t t.Next.length c) (Q:Quo t M c) {i j:Nat} (hi:i<M.Next.length) (hj:j<M.Next.length) (h:Eqv M i M j):i=j:=by
 obtain ⟨s,h1,h2,_⟩:=quo_nx H Q hi
 obtain ⟨s',g1,g2,_⟩:=quo_nx H Q hj
 have he:E t t.Next.length s s':=E_of_outs fun w _ hw=>by
  rw [← quo_outs H C Q w s i h1 h2.1 hw,← quo_outs H C Q w s' j g1 g2.1 hw]
  exact h w (by rw [Q.inp];exact hw)
 have:=(C.cls.cls s s' h1 g1).2 he
 rw [h2.1,g2.1] at this
 injection this with this
 omega
theorem quo_sem {L:List (Nat×List Int)} (T:TrimOk m t L) (C:ClsF t t.Next.length c) (Q:Quo t M c):MinSem m M:=by
 have H:=T.ok
 have hK:0<t.Inputs.toNat:=by have:=H.i1;omega
 have hE:BfsEnd (nx m) t.Inputs.toNat m.Start.toNat L:=by rw [T.inp];exact T.end_
 have hcan:=shape_can hE T.shape hK
 have h0:c[0]?=some (↑(0:Nat):Int):=by
  obtain ⟨x,x1,_⟩:=Q.ub 0 H.n1
  rcases Nat.eq_zero_or_pos x with h | h
  ·rw [x1,h]
  ·obtain ⟨s',h1,_⟩:=C.first 0 x x1 0 h
   omega
 refine ⟨quo_ok H Q,Q.inp.trans T.inp,Q.start,fun w hw=>?_,fun i j hi hj h=>quo_min H C Q hi hj h,quo_can H C Q hcan⟩
 have hw':WOk t.Inputs w:=by rw [← Q.inp];exact hw
 rw [quo_outs H C Q w 0 0 H.n1 h0 hw',trim_outs T w 0 _ T.end_.first (by rw [← T.inp];exact hw')]
theorem min_loop (H:MacOk t) (C:ClsF t t.Next.length c) (e e2:Int):∃ P R,iter (fun (s:List (List Int)×List (List Int)×Nat)=>minimize_Min.s32 (t,e) (c,e2) s.1 s.2.1 s.2.2) fuel ([],[],0)=some (P,R)∧Quo t (⟨t.Inputs,0,P,R⟩:T_api_Mealy) c:=by
 have hn:=H.n2
 have hn1:=H.n1
 have hI:=H.i2
 have hI1:=H.i1
 have hc:=C.cls.len
 obtain ⟨r,hr,P,R,rfl,hQ⟩:=iter_post (step:=fun (s:List (List Int)×List (List Int)×Nat)=>minimize_Min.s32 (t,e) (c,e2) s.1 s.2.1 s.2.2) (fun s=>s.2.2≤t.Next.length∧s.2.1.length=s.1.length∧s.1.length≤s.2.2∧(∀ s',s'<s.2.2→∃ x:Nat,c[s']?=some (↑x:Int)∧x<s.1.length)∧∀ u,u<s.1.length→∃ s' r o,s'<s.2.2∧IsFirst c s' u∧s.1[u]?=some r∧s.2.1[u]?=some o∧r.length=t.Inputs.toNat∧(∀ a,a<t.Inputs.toNat→r[a]?=c[nx t s' a]?)∧t.Out[s']?=some o) (fun s=>t.Next.length-s.2.2) (fun r=>∃ P R,r=(P,R)∧Quo t (⟨t.Inputs,0,P,R⟩:T_api_Mealy) c) (fun s ⟨q1,q2,q3,q4,q5⟩=>by
  obtain ⟨P,R,s⟩:=s
  simp only at q1 q2 q3 q4 q5
  simp only [minimize_Min.s32]
  by_cases g:s<t.Next.length
  ·left
   obtain ⟨x,x1,x2⟩:=C.cls.rng s g
   rw [decide_eq_true (by omega),cond_true,idxn_at x1]
   by_cases hx:x<P.length
   ·refine ⟨(P,R,s+1),?_,⟨g,q2,by simp only;omega,fun s' hs'=>?_,fun u hu=>?_⟩,by simp only;omega⟩
    ·rw [decide_eq_true (by omega),cond_true,obind]
     rfl
    ·simp only at hs' ⊢
     rcases Nat.lt_or_ge s' s with h | h
     ·exact q4 s' h
     ·have:s'=s:=by omega
      subst this
      exact ⟨x,x1,hx⟩
    ·obtain ⟨s',r,o,z1,z2⟩:=q5 u hu
     exact ⟨s',r,o,by simp only;omega,z2⟩
   ·have hxe:x=P.length:=by
     rcases Nat.lt_or_ge P.length x with h | h
     ·obtain ⟨s',h1,h2⟩:=C.first s x x1 P.length h
      obtain ⟨y,y1,y2⟩:=q4 s' h1
      rw [h2] at y1
      injection y1 with y1
      omega
     ·omega
    subst hxe
    obtain ⟨row,out,e1,e2',e3,e4,e5,e6⟩:=H.row s g
    obtain ⟨r,hr,hrl,hra⟩:=iter_post (step:=fun (q:List Int×Nat)=>minimize_Min.s30 (c,e2) row q.1 q.2) (fun q=>q.2≤t.Inputs.toNat∧q.1.length=q.2∧∀ a,a<q.2→q.1[a]?=c[nx t s a]?) (fun q=>t.Inputs.toNat-q.2) (fun r=>r.length=t.Inputs.toNat∧∀ a,a<t.Inputs.toNat→r[a]?=c[nx t s a]?) (fun q ⟨w1,w2,w3⟩=>by
     obtain ⟨y,a⟩:=q
     simp only at w1 w2 w3
     simp only [minimize_Min.s30]
     by_cases f:a<t.Inputs.toNat
     ·left
      obtain ⟨h1,_,_,x',y',h2,_,h4,_⟩:=H.at g f
      rw [e1] at h2
      injection h2 with h2
      subst h2
      have hcx:=get_at (l:=c) (i:=nx t s a) (by omega)
      refine ⟨(y++[c[nx t s a]'(by omega)],a+1),?_,⟨f,by simp [w2],fun b hb=>?_⟩,by simp only;omega⟩
      ·rw [decide_eq_true (by omega),cond_true,idxn_at h4,idx_at rfl hcx,chk_pos (by unfold capOk;omega)]
      ·simp only at hb ⊢
       rcases Nat.lt_or_ge b a with h | h
       ·rw [List.getElem?_append_left (by omega),w3 b h]
       ·have:b=a:=by omega
        subst this
        rw [List.getElem?_append_right (by omega),w2,Nat.sub_self,hcx]
        rfl
     ·right
      have:a=t.Inputs.toNat:=by omega
      subst this
      exact ⟨y,by rw [decide_eq_false (by omega),cond_false],w2,w3⟩) fuel ([],0) ⟨Nat.zero_le _,rfl,fun a h=>absurd h (Nat.not_lt_zero _)⟩ (by have:=fuel_big;simp only;omega)
    refine ⟨(P++[r],R++[out],s+1),?_,⟨g,by simp [q2],by simp;omega,fun s' hs'=>?_,fun u hu=>?_⟩,by simp only;omega⟩
    ·rw [decide_eq_false (by omega),cond_false,idxn_at e1,hr,obind,chk_pos (by unfold capOk;omega),idxn_at e2',chk_pos (by unfold capOk;simp;omega),chk_pos (by unfold capOk;omega),obind]
     rfl
    ·simp only at hs' ⊢
     rw [List.length_append,List.length_singleton]
     rcases Nat.lt_or_ge s' s with h | h
     ·obtain ⟨y,y1,y2⟩:=q4 s' h
      exact ⟨y,y1,by omega⟩
     ·have:s'=s:=by omega
      subst this
      exact ⟨_,x1,by omega⟩
    ·simp only at hu ⊢
     rw [List.length_append,List.length_singleton] at hu
     rcases Nat.lt_or_ge u P.length with h | h
     ·obtain ⟨s',r',o,z1,z2,z3,z4,z5⟩:=q5 u h
      exact ⟨s',r',o,by omega,z2,by rw [List.getElem?_append_left h,z3],by rw [List.getElem?_append_left (by omega),z4],z5⟩
     ·have:u=P.length:=by omega
      subst this
      refine ⟨s,r,out,by omega,⟨x1,fun s' hs' q=>?_⟩,by simp,?_,hrl,hra,e2'⟩
      ·obtain ⟨y,y1,y2⟩:=q4 s' hs'
       rw [q] at y1
       injection y1 with y1
       omega
      ·rw [List.getElem?_append_right (by omega),q2,Nat.sub_self]
       rfl
  ·right
   have:s=t.Next.length:=by omega
   subst this
   exact ⟨_,by rw [decide_eq_false (by omega),cond_false],P,R,rfl,⟨rfl,rfl,q2,q4,q5,q3⟩⟩) fuel ([],[],0) ⟨Nat.zero_le _,rfl,Nat.le_refl _,fun s' h=>absurd h (Nat.not_lt_zero _),fun u h=>absurd h (Nat.not_lt_zero _)⟩ (by have:=fuel_big;simp only;omega)
 exact ⟨P,R,hr,hQ⟩
theorem validM_of (H:MacOk m):validM m=0:=by
 have:=mealy_Valid_ok H
 rw [mealy_Valid_eq] at this
 injection this
theorem minimize_Min_eq (hv:validM m=0):∃ M,minimize_Min m=some (M,0)∧MinSem m M:=by
 obtain ⟨t,L,h1,T⟩:=mealy_Trim_eq hv
 obtain ⟨c,h2,C⟩:=minimize_Classes_eq (validM_of T.ok)
 obtain ⟨P,R,h3,Q⟩:=min_loop T.ok C 0 0
 refine ⟨⟨t.Inputs,0,P,R⟩,?_,quo_sem T C Q⟩
 unfold minimize_Min
 rw [h1,obind,decide_eq_false (fun h=>h rfl),cond_false,h2,obind,decide_eq_false (fun h=>h rfl),cond_false,h3,obind]
 rfl
end
end Go.Proofs.Ytkfaepfljlphoaa.Sym

/-
 The document's minimal machine, and that it is the program's. Plain laws.
-/
namespace Go.Proofs.Ytkfaepfljlphoaa.Sym
set_option maxRecDepth 100000
section
variable {m:T_api_Mealy} {c:List Int}
def clN (c:List Int) (s:Nat):Nat:=((c[s]?).getD 0).toNat
open Classical in
theorem clN_at (C:ClsOk m m.Next.length c) {s:Nat} (hs:s<m.Next.length):c[s]?=some (↑(clN c s):Int)∧clN c s<m.Next.length:=by
 obtain ⟨x,x1,x2⟩:=C.rng s hs
 unfold clN
 rw [x1,Option.getD_some,Int.toNat_natCast]
 exact ⟨rfl,x2⟩
structure Nums (m:T_api_Mealy) (c:List Int) (ord:List Nat) (num:List Int) (B:List (Nat×List Int)):Prop where
 ol:ord.length=B.length
 oc:∀ (j u:Nat) (x:Nat×List Int),ord[j]?=some u→B[j]?=some x→u<m.Next.length∧clN c u=x.1
 nl:num.length=m.Next.length
 n1:∀ (j:Nat) (x:Nat×List Int),B[j]?=some x→num[x.1]?=some (↑j:Int)
 n2:∀ x:Nat,x<m.Next.length→x∉B.map Prod.fst→num[x]?=some (-1:Int)
theorem Nums.push {ord:List Nat} {num:List Int} {B:List (Nat×List Int)} {u:Nat} {w:List Int} (N:Nums m c ord num B) (C:ClsOk m m.Next.length c) (hu:u<m.Next.length) (hn:clN c u∉B.map Prod.fst) (hB:(B.map Prod.fst).Nodup):Nums m c (ord++[u]) (num.set (clN c u) (↑B.length:Int)) (B++[(clN c u,w)]):=by
 have hcl:=(clN_at C hu).2
 refine ⟨by simp [N.ol],fun j v x hj hx=>?_,by simp [N.nl],fun j x hx=>?_,fun x hx hm=>?_⟩
 ·rcases Nat.lt_or_ge j B.length with h | h
  ·rw [List.getElem?_append_left (by rw [N.ol];exact h)] at hj
   rw [List.getElem?_append_left h] at hx
   exact N.oc j v x hj hx
  ·have hl:=(List.getElem?_eq_some_iff.1 hx).1
   rw [List.length_append,List.length_singleton] at hl
   have:j=B.length:=by omega
   subst this
   rw [List.getElem?_append_right (by rw [N.ol];exact Nat.le_refl _),N.ol,Nat.sub_self] at hj
   rw [List.getElem?_append_right (Nat.le_refl _),Nat.sub_self] at hx
   injection hj with hj
   injection hx with hx
   subst hj
   subst hx
   exact ⟨hu,rfl⟩
 ·rcases Nat.lt_or_ge j B.length with h | h
  ·rw [List.getElem?_append_left h] at hx
   rw [List.getElem?_set_ne (fun q=>hn (by rw [q];exact List.mem_map.2 ⟨x,List.mem_of_getElem? hx,rfl⟩)),N.n1 j x hx]
  ·have hl:=(List.getElem?_eq_some_iff.1 hx).1
   rw [List.length_append,List.length_singleton] at hl
   have:j=B.length:=by omega
   subst this
   rw [List.getElem?_append_right (Nat.le_refl _),Nat.sub_self] at hx
   injection hx with hx
   subst hx
   rw [List.getElem?_set_self (by rw [N.nl];exact hcl)]
 ·rw [List.map_append,List.mem_append,not_or] at hm
  have h1:clN c u≠x:=fun q=>hm.2 (by simp [q])
  rw [List.getElem?_set_ne h1]
  exact N.n2 x hx hm.1
end
end Go.Proofs.Ytkfaepfljlphoaa.Sym

/-
 Words that separate states, minimal machines and identifiers: the program's are the document's. Plain laws.
-/
namespace Go.Proofs.Ytkfaepfljlphoaa.Sym
set_option maxRecDepth 100000
theorem nodup_all {α:Type} [DecidableEq α] {l l':List α} (h:l.Nodup) (hs:∀ x∈l,x∈l') (hl:l'.length≤l.length):∀ x∈l',x∈l:=fun x hx=>Classical.byContradiction fun hn=>by
 have:=nodup_le (l:=x::l) (l':=l') (List.nodup_cons.2 ⟨hn,h⟩) fun y hy=>by
  rcases List.mem_cons.1 hy with rfl | hy
  ·exact hx
  ·exact hs y hy
 simp only [List.length_cons] at this
 omega
section
variable {m M:T_api_Mealy}
theorem MacOk.two (H:MacOk m):Two m m:=⟨H,H,rfl⟩
open Classical in
noncomputable def sepR (m:T_api_Mealy) (s t:Nat):List Int×Bool:=if h:∃ res,Fst m m (s,t) res then Classical.choose h else ([],false)
noncomputable def sepW (m:T_api_Mealy) (s t:Nat):List Int:=(sepR m s t).1
noncomputable def sepB (m:T_api_Mealy) (s t:Nat):Bool:=(sepR m s t).2
theorem sepR_of {s t:Nat} {res:List Int×Bool} (h:Fst m m (s,t) res):Fst m m (s,t) (sepW m s t,sepB m s t):=by
 have h':∃ res,Fst m m (s,t) res:=⟨res,h⟩
 have:sepR m s t=Classical.choose h':=dif_pos h'
 show Fst m m (s,t) (sepR m s t)
 rw [this]
 exact Classical.choose_spec h'
theorem sep_fst (H:MacOk m) {s t:Nat} (hs:s<m.Next.length) (ht:t<m.Next.length):Fst m m (s,t) (sepW m s t,sepB m s t):=by
 obtain ⟨res,_,h⟩:=equiv_search_eq H.two (p0:=(s,t)) hs ht
 exact sepR_of h
theorem States_prog (hv:validM m=0) {s t:Nat} (hs:s<m.Next.length) (ht:t<m.Next.length):equiv_States m (↑s:Int) (↑t:Int)=some (sepW m s t,sepB m s t,0):=by
 have H:=valid_ok hv
 have hK:0<m.Inputs.toNat:=by have:=H.i1;omega
 obtain ⟨res,h1,h2⟩:=equiv_search_eq H.two (p0:=(s,t)) hs ht
 have:=fst_uniq hK h2 (sepR_of h2)
 unfold equiv_States
 rw [mealy_Valid_eq,obind,hv,decide_eq_false (by decide),cond_false,decide_eq_false (by omega),cond_false,decide_eq_false (by omega),cond_false,decide_eq_false (by omega),cond_false,decide_eq_false (by omega),obind,cond_false,h1,obind,this]
theorem pB_swap (r:Nat) (s t:Nat):pB m m (t,s) r=(pB m m (s,t) r).map fun x=>((x.1.2,x.1.1),x.2):=by
 induction r with
 | zero=>rfl
 | succ r ih =>
  have e1:∀ p0,pB m m p0 (r+1)=match (pB m m p0 r)[r / m.Inputs.toNat]? with
    | none=>pB m m p0 r
    | some x=>if pE m m x.1 (r%m.Inputs.toNat)∈(pB m m p0 r).map Prod.fst then pB m m p0 r else pB m m p0 r++[(pE m m x.1 (r%m.Inputs.toNat),x.2++[(↑(r%m.Inputs.toNat):Int)])]:=fun p0=>by
   unfold pB
   rw [bfsB]
   cases (bfsB (pE m m) m.Inputs.toNat p0 r)[r / m.Inputs.toNat]? with
   | none=>rfl
   | some x =>
    simp only
    by_cases h:pE m m x.1 (r%m.Inputs.toNat)∈(bfsB (pE m m) m.Inputs.toNat p0 r).map Prod.fst
    ·rw [if_pos h,if_pos h]
    ·rw [if_neg h,if_neg h]
  rw [e1,e1,ih,List.getElem?_map]
  cases (pB m m (s,t) r)[r / m.Inputs.toNat]? with
  | none=>rfl
  | some x =>
   simp only [Option.map_some]
   have hm:pE m m (x.1.2,x.1.1) (r%m.Inputs.toNat)∈((pB m m (s,t) r).map fun x=>((x.1.2,x.1.1),x.2)).map Prod.fst↔pE m m x.1 (r%m.Inputs.toNat)∈(pB m m (s,t) r).map Prod.fst:=by
    rw [List.map_map]
    constructor
    ·intro h
     obtain ⟨y,hy,he⟩:=List.mem_map.1 h
     refine List.mem_map.2 ⟨y,hy,?_⟩
     have he:((y.1.2,y.1.1):Nat×Nat)=(nx m x.1.2 (r%m.Inputs.toNat),nx m x.1.1 (r%m.Inputs.toNat)):=he
     injection he with h1 h2
     exact Prod.ext h2 h1
    ·intro h
     obtain ⟨y,hy,he⟩:=List.mem_map.1 h
     refine List.mem_map.2 ⟨y,hy,?_⟩
     have h1:=congrArg Prod.fst he
     have h2:=congrArg Prod.snd he
     exact Prod.ext h2 h1
   by_cases h:pE m m x.1 (r%m.Inputs.toNat)∈(pB m m (s,t) r).map Prod.fst
   ·rw [if_pos (hm.2 h),if_pos h]
   ·rw [if_neg (fun q=>h (hm.1 q)),if_neg h,List.map_append]
    rfl
theorem dif_swap (r:Nat) (s t:Nat):difB m m (t,s) r=difB m m (s,t) r:=by
 unfold difB
 rw [pB_swap,List.getElem?_map]
 cases (pB m m (s,t) r)[r / m.Inputs.toNat]? with
 | none=>rfl
 | some x =>
  show decide (ot m x.1.2 _≠ot m x.1.1 _)=decide (ot m x.1.1 _≠ot m x.1.2 _)
  exact decide_eq_decide.2 ⟨fun h q=>h q.symm,fun h q=>h q.symm⟩
theorem fst_swap {s t:Nat} {res:List Int×Bool} (h:Fst m m (s,t) res):Fst m m (t,s) res:=by
 rcases h with ⟨i,c,x,h1,h2,h3,h4,h5⟩ | ⟨L,h1,h2,h3⟩
 ·exact Or.inl ⟨i,c,((x.1.2,x.1.1),x.2),h1,by rw [pB_swap,List.getElem?_map,h2];rfl,fun q=>h3 q.symm,fun r hr=>by rw [dif_swap];exact h4 r hr,h5⟩
 ·refine Or.inr ⟨L.map fun x=>((x.1.2,x.1.1),x.2),⟨?_⟩,fun r hr=>by rw [dif_swap];exact h2 r (by rwa [List.length_map] at hr),h3⟩
  rw [List.length_map]
  have:=pB_swap (m:=m) (L.length*m.Inputs.toNat) s t
  unfold pB at this
  rw [this,← h1.eq]
theorem sepW_symm (H:MacOk m) {s t:Nat} (hs:s<m.Next.length) (ht:t<m.Next.length):sepW m t s=sepW m s t:=by
 have hK:0<m.Inputs.toNat:=by have:=H.i1;omega
 have:=fst_uniq hK (sep_fst H ht hs) (fst_swap (sep_fst H hs ht))
 injection this
theorem sepW_sm (H:MacOk m) {s t:Nat} (hs:s<m.Next.length) (ht:t<m.Next.length):WOk m.Inputs (sepW m s t)∧(sepW m s t).length≤m.Next.length*m.Next.length*m.Inputs.toNat:=by
 have h:=sep_fst H hs ht
 rcases h with ⟨i,c,x,g1,g2,g3,g4,g5⟩ | ⟨L,_,_,g⟩
 ·injection g5 with g5 _
  have hr:=pB_rng H.two (p0:=(s,t)) hs ht _ x (List.mem_of_getElem? g2)
  have hlen:=pB_len H.two (p0:=(s,t)) hs ht (i*m.Inputs.toNat+c)
  have hi:=(List.getElem?_eq_some_iff.1 g2).1
  have:=mem_lt (show i<m.Next.length*m.Next.length by omega) g1
  refine ⟨?_,?_⟩
  ·rw [g5]
   refine WOk.append hr.2.2.2.2.2 fun z hz=>?_
   have:z=(↑c:Int):=by simpa using hz
   omega
  ·rw [g5]
   simp
   omega
 ·injection g with g _
  rw [g]
  exact ⟨fun a ha=>(by cases ha),Nat.zero_le _⟩
structure MinimalP (m:T_api_Mealy):Prop where
 reach:∀ s,s<m.Next.length→∃ w,WOk m.Inputs w∧dest m m.Start.toNat w=s
 apart:∀ i j,i<m.Next.length→j<m.Next.length→Eqv m i m j→i=j
theorem sepB_of (H:MacOk m) (P:MinimalP m) {s t:Nat} (hs:s<m.Next.length) (ht:t<m.Next.length) (hne:s≠t):sepB m s t=true:=by
 cases e:sepB m s t with
 | true=>rfl
 | false =>
  have h:=sep_fst H hs ht
  rw [e] at h
  exact absurd (P.apart s t hs ht (fst_none h)) hne
theorem sepW_sep (H:MacOk m) (P:MinimalP m) {s t:Nat} (hs:s<m.Next.length) (ht:t<m.Next.length) (hne:s≠t):outs m s (sepW m s t)≠outs m t (sepW m s t):=by
 have h:=sep_fst H hs ht
 rw [sepB_of H P hs ht hne] at h
 exact fst_ne H.two (p0:=(s,t)) hs ht h
theorem can_reach (K:Can M) (hK:0<M.Inputs.toNat):∀ u,u<M.Next.length→∃ w,WOk M.Inputs w∧dest M 0 w=u:=by
 intro u
 induction u using Nat.strongRecOn with
 | ind u ih =>
  intro hu
  by_cases hz:u=0
  ·subst hz
   exact ⟨[],fun a ha=>(by cases ha),rfl⟩
  ·obtain ⟨i,a,h1,h2,h3⟩:=K.c5 u (by omega) hu
   obtain ⟨w,w1,w2⟩:=ih i h1 (by omega)
   refine ⟨w++[(↑a:Int)],w1.append fun z hz=>?_,?_⟩
   ·have:z=(↑a:Int):=by simpa using hz
    omega
   ·rw [dest_append,w2]
    show nx M i (Int.toNat ↑a)=u
    rw [Int.toNat_natCast,h3]
theorem sem_minimal (S:MinSem m M):MinimalP M:=⟨fun s hs=>by
 have hK:0<M.Inputs.toNat:=by have:=S.ok.i1;omega
 rw [S.start]
 exact can_reach S.can hK s hs,S.min⟩
theorem sem_le (H:MacOk m) (S:MinSem m M):M.Next.length≤m.Next.length∧(M.Next.length=m.Next.length↔MinimalP m):=by
 have hK:0<M.Inputs.toNat:=by have:=S.ok.i1;omega
 have hst:=H.st
 have hreach:=can_reach S.can hK
 have hf:∀ u,∃ s,u<M.Next.length→s<m.Next.length∧Eqv M u m s∧∃ w,WOk m.Inputs w∧dest m m.Start.toNat w=s:=fun u=>by
  by_cases hu:u<M.Next.length
  ·obtain ⟨w,w1,w2⟩:=hreach u hu
   have hw:WOk m.Inputs w:=by rw [← S.inp];exact w1
   refine ⟨dest m m.Start.toNat w,fun _=>⟨H.dest hw (by omega),?_,w,hw,rfl⟩⟩
   have:=S.eqv.dest S.inp w1
   rwa [w2] at this
  ·exact ⟨0,fun h=>absurd h hu⟩
 obtain ⟨f,hf⟩:=Classical.axiomOfChoice hf
 have hinj:((List.range M.Next.length).map f).Nodup:=by
  refine List.pairwise_map.2 (List.Pairwise.imp_of_mem (fun {a b} ha hb hne he=>hne ?_) (List.nodup_range (n:=M.Next.length)))
  have h1:=hf a (List.mem_range.1 ha)
  have h2:=hf b (List.mem_range.1 hb)
  rw [← he] at h2
  exact S.min a b (List.mem_range.1 ha) (List.mem_range.1 hb) (h1.2.1.trans S.inp (h2.2.1.symm S.inp))
 have hsub:∀ x∈(List.range M.Next.length).map f,x∈List.range m.Next.length:=fun x hx=>by
  obtain ⟨u,hu,rfl⟩:=List.mem_map.1 hx
  exact List.mem_range.2 (hf u (List.mem_range.1 hu)).1
 have hle:=nodup_le hinj hsub
 rw [List.length_map,List.length_range,List.length_range] at hle
 refine ⟨hle,fun he=>⟨fun s hs=>?_,fun i j hi hj hij=>?_⟩,fun P=>?_⟩
 ·have:=nodup_all hinj hsub (by simp [he]) s (List.mem_range.2 hs)
  obtain ⟨u,hu,rfl⟩:=List.mem_map.1 this
  exact (hf u (List.mem_range.1 hu)).2.2
 ·obtain ⟨u,hu,rfl⟩:=List.mem_map.1 (nodup_all hinj hsub (by simp [he]) i (List.mem_range.2 hi))
  obtain ⟨v,hv,rfl⟩:=List.mem_map.1 (nodup_all hinj hsub (by simp [he]) j (List.mem_range.2 hj))
  have h1:=hf u (List.mem_range.1 hu)
  have h2:=hf v (List.mem_range.1 hv)
  have:=S.min u v (List.mem_range.1 hu) (List.mem_range.1 hv) ((h1.2.1.trans S.inp hij).trans S.inp (h2.2.1.symm S.inp))
  rw [this]
 ·have hg:∀ s,∃ u,s<m.Next.length→u<M.Next.length∧Eqv M u m s:=fun s=>by
   by_cases hs:s<m.Next.length
   ·obtain ⟨w,w1,w2⟩:=P.reach s hs
    have hw:WOk M.Inputs w:=by rw [S.inp];exact w1
    refine ⟨dest M 0 w,fun _=>⟨S.ok.dest hw S.ok.n1,?_⟩⟩
    have:=S.eqv.dest S.inp hw
    rwa [w2] at this
   ·exact ⟨0,fun h=>absurd h hs⟩
  obtain ⟨g,hg⟩:=Classical.axiomOfChoice hg
  have ginj:((List.range m.Next.length).map g).Nodup:=by
   refine List.pairwise_map.2 (List.Pairwise.imp_of_mem (fun {a b} ha hb hne he=>hne ?_) (List.nodup_range (n:=m.Next.length)))
   have h1:=hg a (List.mem_range.1 ha)
   have h2:=hg b (List.mem_range.1 hb)
   rw [← he] at h2
   exact P.apart a b (List.mem_range.1 ha) (List.mem_range.1 hb) ((h1.2.symm S.inp).trans S.inp.symm h2.2)
  have:=nodup_le ginj (l':=List.range M.Next.length) fun x hx=>by
   obtain ⟨u,hu,rfl⟩:=List.mem_map.1 hx
   exact List.mem_range.2 (hg u (List.mem_range.1 hu)).1
  rw [List.length_map,List.length_range,List.length_range] at this
  omega
theorem reach_all {L:List (Nat×List Int)} {s0:Nat} (hE:MEnd m s0 L):∀ (w:List Int) (i:Nat) (x:Nat×List Int),L[i]?=some x→WOk m.Inputs w→∃ (j:Nat) (y:Nat×List Int),L[j]?=some y∧y.1=dest m x.1 w
 | [],i,x,hx,_=>⟨i,x,hx,rfl⟩
 | z::w,i,x,hx,hw=>by
  have hz:=hw.head
  obtain ⟨j,y,h1,h2,_⟩:=hE.closed hx (a:=z.toNat) (by omega)
  obtain ⟨k,v,g1,g2⟩:=reach_all hE w j y h1 hw.tail
  exact ⟨k,v,g1,by rw [g2,h2];rfl⟩
theorem minimal_prog (hv:validM m=0):∃ b,minimize_Minimal m=some b∧(b=true↔MinimalP m):=by
 have H:=valid_ok hv
 have hst:=H.st
 obtain ⟨M,h1,S⟩:=minimize_Min_eq hv
 obtain ⟨hle,hiff⟩:=sem_le H S
 obtain ⟨L,hE,hR⟩:=mealy_Reach_eq hv
 obtain ⟨hLn,hLr⟩:=mEnd_rng H (by omega) hE
 refine ⟨decide (M.Next.length=m.Next.length),?_,by rw [decide_eq_true_iff];exact hiff⟩
 unfold minimize_Minimal
 rw [mealy_Valid_eq,obind,hv,decide_eq_false (by decide),cond_false,hR,obind,obind]
 by_cases hl:L.length=m.Next.length
 ·rw [decide_eq_false (by rw [natI_len,List.length_map];omega),cond_false,h1,obind,decide_eq_true rfl,cond_true,obind]
  show some (decide ((↑M.Next.length:Int)=(↑m.Next.length:Int)))=_
  congr 1
  exact decide_eq_decide.2 (by omega)
 ·rw [decide_eq_true (by rw [natI_len,List.length_map];omega),cond_true,decide_eq_false]
  intro he
  have P:=hiff.1 he
  have:=nodup_le (l:=List.range m.Next.length) (l':=L.map Prod.fst) List.nodup_range fun s hs=>by
   obtain ⟨w,w1,w2⟩:=P.reach s (List.mem_range.1 hs)
   obtain ⟨j,y,g1,g2⟩:=reach_all hE w 0 _ hE.first w1
   exact List.mem_map.2 ⟨y,List.mem_of_getElem? g1,by rw [g2];exact w2⟩
  rw [List.length_range,List.length_map] at this
  omega
open Classical in
noncomputable def chkM (m:T_api_Mealy):Int:=if validM m≠0 then validM m else if MinimalP m then 0 else 1
open Classical in
theorem check_prog (m:T_api_Mealy):separate_check m=some (chkM m):=by
 unfold chkM separate_check
 rw [mealy_Valid_eq,obind]
 by_cases hv:validM m=0
 ·obtain ⟨b,h1,h3⟩:=minimal_prog hv
  rw [decide_eq_false (by omega),cond_false,h1,obind,if_neg (fun h=>h hv)]
  cases b with
  | true=>rw [if_pos (h3.1 rfl)];rfl
  | false=>rw [if_neg (fun q=>by have:=h3.2 q;cases this)];rfl
 ·rw [decide_eq_true hv,cond_true,if_pos hv]
open Classical in
noncomputable def idL (m:T_api_Mealy) (u k:Nat):List (List Int):=((List.range k).filter fun v=>decide (v≠u)).map (sepW m u)
theorem idL_succ {u k:Nat} (h:k≠u):idL m u (k+1)=idL m u k++[sepW m u k]:=by
 unfold idL
 rw [List.range_succ,List.filter_append,List.map_append]
 simp [h]
theorem idL_self (u:Nat):idL m u (u+1)=idL m u u:=by
 unfold idL
 rw [List.range_succ,List.filter_append,List.map_append]
 simp
theorem idL_len (u k:Nat):(idL m u k).length≤k:=by
 unfold idL
 rw [List.length_map]
 have:=List.length_filter_le (fun v=>decide (v≠u)) (List.range k)
 rwa [List.length_range] at this
theorem idL_mem {u k:Nat} {w:List Int} (h:w∈idL m u k):∃ v,v<k∧v≠u∧w=sepW m u v:=by
 obtain ⟨v,hv,rfl⟩:=List.mem_map.1 h
 obtain ⟨h1,h2⟩:=List.mem_filter.1 hv
 exact ⟨v,List.mem_range.1 h1,of_decide_eq_true h2,rfl⟩
theorem idL_sm (H:MacOk m) {u k:Nat} (hu:u<m.Next.length) (hk:k≤m.Next.length):SmL (idL m u k):=by
 have hn:=H.n2
 have hI:=H.i2
 refine ⟨by have:=idL_len (m:=m) u k;omega,fun w hw=>?_⟩
 obtain ⟨v,h1,_,rfl⟩:=idL_mem hw
 have h:=(sepW_sm H hu (t:=v) (by omega)).2
 have h1:m.Next.length*m.Next.length≤128*128:=Nat.mul_le_mul hn hn
 have h2:m.Next.length*m.Next.length*m.Inputs.toNat≤128*128*64:=Nat.mul_le_mul h1 (by omega)
 unfold SmW
 omega
noncomputable def idsM (m:T_api_Mealy):List (List (List Int)):=(List.range m.Next.length).map fun s=>sortW (idL m s m.Next.length)
def kU (n s t u:Nat):Nat:=if u<s then n else if u=s then t else if u<t then s+1 else s
theorem ids_row (hv:validM m=0) {s:Nat} (hs:s<m.Next.length) {S:List (List (List Int))} (hl:S.length=m.Next.length) (hS:∀ u,u<m.Next.length→S[u]?=some (idL m u (kU m.Next.length s (s+1) u))) :
  ∃ S',iter (fun (q:List (List (List Int))×Nat)=>separate_Identifiers.s13 m s q.1 q.2) fuel (S,s+1)=some (.inl S')∧S'.length=m.Next.length∧∀ u,u<m.Next.length→S'[u]?=some (idL m u (kU m.Next.length s m.Next.length u)):=by
 have H:=valid_ok hv
 have hn:=H.n2
 obtain ⟨r,hr,S',rfl,h1,h2⟩:=iter_post (step:=fun (q:List (List (List Int))×Nat)=>separate_Identifiers.s13 m s q.1 q.2) (fun q=>s<q.2∧q.2≤m.Next.length∧q.1.length=m.Next.length∧∀ u,u<m.Next.length→q.1[u]?=some (idL m u (kU m.Next.length s q.2 u))) (fun q=>m.Next.length-q.2) (fun r=>∃ S',r=.inl S'∧S'.length=m.Next.length∧∀ u,u<m.Next.length→S'[u]?=some (idL m u (kU m.Next.length s m.Next.length u))) (fun q ⟨q1,q2,q3,q4⟩=>by
  obtain ⟨S,t⟩:=q
  simp only at q1 q2 q3 q4
  simp only [separate_Identifiers.s13]
  by_cases g:t<m.Next.length
  ·left
   have e1:=q4 s hs
   have e2:=q4 t g
   have k1:kU m.Next.length s t s=t:=by unfold kU;rw [if_neg (by omega),if_pos rfl]
   have k2:kU m.Next.length s t t=s:=by unfold kU;rw [if_neg (by omega),if_neg (by omega),if_neg (by omega)]
   rw [k1] at e1
   rw [k2] at e2
   have l1:=idL_len (m:=m) s t
   have l2:=idL_len (m:=m) t s
   have e3:(S.set s (idL m s t++[sepW m s t]))[t]?=some (idL m t s):=by rw [List.getElem?_set_ne (by omega),e2]
   refine ⟨((S.set s (idL m s t++[sepW m s t])).set t (idL m t s++[sepW m s t]),t+1),?_,⟨by simp only;omega,g,by simp [q3],fun u hu=>?_⟩,by simp only;omega⟩
   ·rw [decide_eq_true (by omega),cond_true,States_prog hv hs g,obind,decide_eq_false (fun h=>h rfl),cond_false,idxn_at e1,chk_pos (by unfold capOk;omega),idxn_at e1]
    simp only
    rw [idxn_at e3,chk_pos (by unfold capOk;omega),idxn_at e3]
   ·simp only
    by_cases a1:t=u
    ·subst a1
     rw [List.getElem?_set_self (by simp [q3];omega)]
     have:kU m.Next.length s (t+1) t=s+1:=by unfold kU;rw [if_neg (by omega),if_neg (by omega),if_pos (by omega)]
     rw [this,idL_succ (by omega),sepW_symm H hs g]
    ·rw [List.getElem?_set_ne a1]
     by_cases a2:s=u
     ·subst a2
      rw [List.getElem?_set_self (by omega)]
      have:kU m.Next.length s (t+1) s=t+1:=by unfold kU;rw [if_neg (by omega),if_pos rfl]
      rw [this,idL_succ (by omega)]
     ·rw [List.getElem?_set_ne a2,q4 u hu]
      have:kU m.Next.length s (t+1) u=kU m.Next.length s t u:=by
       unfold kU
       by_cases b1:u<s
       ·rw [if_pos b1,if_pos b1]
       ·have b4:¬ u=s:=by omega
        rw [if_neg b1,if_neg b1,if_neg b4,if_neg b4]
        by_cases b2:u<t
        ·have b5:u<t+1:=by omega
         rw [if_pos b2,if_pos b5]
        ·have b5:¬ u<t+1:=by omega
         rw [if_neg b2,if_neg b5]
      rw [this]
  ·right
   have:t=m.Next.length:=by omega
   subst this
   exact ⟨_,by rw [decide_eq_false (by omega),cond_false],S,rfl,q3,q4⟩) fuel (S,s+1) ⟨by simp only;omega,hs,hl,hS⟩ (by have:=fuel_big;simp only;omega)
 exact ⟨S',hr,h1,h2⟩
theorem separate_ids (hv:validM m=0) (P:MinimalP m):separate_Identifiers m=some (idsM m,0):=by
 have H:=valid_ok hv
 have hn:=H.n2
 have hn1:=H.n1
 have hc:chkM m=0:=by
  unfold chkM
  rw [if_neg (fun h=>h hv),if_pos P]
 unfold separate_Identifiers
 rw [check_prog m,obind,hc,decide_eq_false (by decide),cond_false,chk_pos ⟨by omega,by omega,by unfold capOk;omega⟩]
 obtain ⟨r,hr,S,rfl,h1,h2⟩:=iter_post (step:=fun (q:List (List (List Int))×Nat)=>separate_Identifiers.s14 m q.1 q.2) (fun q=>q.2≤m.Next.length∧q.1.length=m.Next.length∧∀ u,u<m.Next.length→q.1[u]?=some (idL m u (kU m.Next.length q.2 (q.2+1) u))) (fun q=>m.Next.length-q.2) (fun r=>∃ S,r=.inl S∧S.length=m.Next.length∧∀ u,u<m.Next.length→S[u]?=some (idL m u m.Next.length)) (fun q ⟨q1,q3,q4⟩=>by
  obtain ⟨S,s⟩:=q
  simp only at q1 q3 q4
  simp only [separate_Identifiers.s14]
  by_cases g:s<m.Next.length
  ·left
   obtain ⟨S',z1,z2,z3⟩:=ids_row hv g q3 q4
   refine ⟨(S',s+1),by rw [decide_eq_true (by omega),cond_true,z1,obind];rfl,⟨g,z2,fun u hu=>?_⟩,by simp only;omega⟩
   simp only
   rw [z3 u hu]
   by_cases b1:u<s
   ·rw [show kU m.Next.length s m.Next.length u=m.Next.length by unfold kU;rw [if_pos b1],show kU m.Next.length (s+1) (s+1+1) u=m.Next.length by unfold kU;rw [if_pos (by omega)]]
   ·by_cases b2:u=s
    ·rw [show kU m.Next.length s m.Next.length u=m.Next.length by unfold kU;rw [if_neg b1,if_pos b2],show kU m.Next.length (s+1) (s+1+1) u=m.Next.length by unfold kU;rw [if_pos (by omega)]]
    ·rw [show kU m.Next.length s m.Next.length u=s+1 by unfold kU;rw [if_neg b1,if_neg b2,if_pos hu]]
     by_cases b3:u=s+1
     ·rw [show kU m.Next.length (s+1) (s+1+1) u=s+1+1 by unfold kU;rw [if_neg (by omega),if_pos b3],b3,idL_self]
     ·rw [show kU m.Next.length (s+1) (s+1+1) u=s+1 by unfold kU;rw [if_neg (by omega),if_neg b3,if_neg (by omega)]]
  ·right
   have:s=m.Next.length:=by omega
   subst this
   refine ⟨_,by rw [decide_eq_false (by omega),cond_false],S,rfl,q3,fun u hu=>?_⟩
   rw [q4 u hu]
   rw [show kU m.Next.length m.Next.length (m.Next.length+1) u=m.Next.length by unfold kU;rw [if_pos hu]]) fuel (List.replicate m.Next.length [],0) ⟨Nat.zero_le _,by simp,fun u hu=>by
    simp only
    rw [List.getElem?_replicate,if_pos hu]
    congr 1
    by_cases b:u=0
    ·subst b
     show []=idL m 0 1
     rw [idL_self]
     rfl
    ·rw [show kU m.Next.length 0 (0+1) u=0 by unfold kU;rw [if_neg (by omega),if_neg b,if_neg (by omega)]]
     rfl⟩ (by have:=fuel_big;simp only;omega)
 rw [hr,obind]
 show (chk _ _:Option _)=_
 rw [chk_pos ⟨by omega,by omega,by unfold capOk;omega⟩]
 have last:=iter_eq (step:=fun (q:List (List (List Int))×Nat)=>separate_Identifiers.s16 S q.1 q.2) (r:=idsM m) (fun q=>q.2≤m.Next.length∧q.1=(List.range q.2).map fun s=>sortW (idL m s m.Next.length)) (fun q=>m.Next.length-q.2) (fun q ⟨q1,q2⟩=>by
   obtain ⟨y,s⟩:=q
   simp only at q1 q2
   subst q2
   simp only [separate_Identifiers.s16]
   by_cases g:s<m.Next.length
   ·left
    refine ⟨((List.range (s+1)).map fun s=>sortW (idL m s m.Next.length),s+1),?_,⟨g,rfl⟩,by simp only;omega⟩
    rw [decide_eq_true (by omega),cond_true,idxn_at (h2 s g),wordset_Sorted_eq (idL_sm H g (Nat.le_refl _)),obind,chk_pos (by unfold capOk;simp;omega),List.range_succ,List.map_append]
    rfl
   ·right
    have:s=m.Next.length:=by omega
    subst this
    rw [decide_eq_false (by omega),cond_false]
    rfl) (n:=fuel) (s:=([],0)) ⟨Nat.zero_le _,rfl⟩ (by have:=fuel_big;simp only;omega)
 rw [last,obind]
end
end Go.Proofs.Ytkfaepfljlphoaa.Sym

/-
 The examples of the chapter on harmonized suites, reckoned.
-/
namespace Go.Proofs.Ytkfaepfljlphoaa.Sym
set_option maxRecDepth 100000
theorem awake30_true:L30_exampleHolds=some true:=by decide +kernel
end Go.Proofs.Ytkfaepfljlphoaa.Sym

/-
 Suites with harmonized identifiers: the program's is the document's. Plain laws.
-/
namespace Go.Proofs.Ytkfaepfljlphoaa.Sym
set_option maxRecDepth 100000
def uptoL (i n:Int):List (List Int):=((wordset_Upto i n).getD ([],0)).1
theorem upto_allP:∀ i∈[1,2,3,4],∀ n∈[1,2,3],wordset_Upto i n=some (uptoL i n,0)∧((uptoL i n).all fun w=>decide (w.length≤3)&&w.all fun a=>decide (0≤a∧a<i))=true∧(uptoL i n).length≤85:=by decide +kernel
theorem upto_eq {i n:Int} (h1:1≤i) (h2:i≤4) (h3:1≤n) (h4:n≤3):wordset_Upto i n=some (uptoL i n,0)∧(∀ w∈uptoL i n,WOk i w∧w.length≤3)∧(uptoL i n).length≤85:=by
 obtain ⟨a,c,d⟩:=upto_allP i (by simp;omega) n (by simp;omega)
 refine ⟨a,fun w hw=>?_,d⟩
 have:=List.all_eq_true.1 c w hw
 rw [Bool.and_eq_true] at this
 exact ⟨fun x hx=>of_decide_eq_true (List.all_eq_true.1 this.2 x hx),of_decide_eq_true this.1⟩
theorem flat_le {α β:Type} {f:α→List β} {k:Nat}:∀ {l:List α},(∀ x∈l,(f x).length≤k)→(l.flatMap f).length≤l.length*k
 | [],_=>by simp
 | x::l,h=>by
  have h1:=h x (by simp)
  have h2:=flat_le (l:=l) fun y hy=>h y (List.mem_cons_of_mem _ hy)
  rw [List.flatMap_cons,List.length_append,List.length_cons,Nat.succ_mul]
  omega
theorem app_loop {α β R:Type} {step:List β×Nat→Option ((List β×Nat)⊕R)} {l:List α} {f:α→List β} {fin:List β→R} {acc:List β} (h1:∀ y i x,l[i]?=some x→y=acc++(l.take i).flatMap f→step (y,i)=some (.inl (y++f x,i+1)))
  (h2:step (acc++l.flatMap f,l.length)=some (.inr (fin (acc++l.flatMap f)))) (hl:l.length≤100000000000):iter step fuel (acc,0)=some (fin (acc++l.flatMap f)):=by
 refine iter_eq (fun s=>s.2≤l.length∧s.1=acc++(l.take s.2).flatMap f) (fun s=>l.length-s.2) (fun s hs=>?_) ⟨Nat.zero_le _,by simp⟩ (by have:=fuel_big;simp only;omega)
 obtain ⟨y,i⟩:=s
 obtain ⟨q1,q2⟩:=hs
 simp only at q1 q2
 by_cases g:i<l.length
 ·left
  have hx:=get_at g
  refine ⟨(y++f l[i],i+1),h1 y i _ hx q2,⟨g,?_⟩,by simp only;omega⟩
  simp only
  rw [q2,take_step hx,List.flatMap_append]
  simp
 ·right
  have:i=l.length:=by omega
  subst this
  rw [List.take_length] at q2
  rw [q2,h2]
section
variable {m M:T_api_Mealy} {ids:List (List (List Int))} {front middle:List (List Int)}
def mostL (ids:List (List (List Int))):Nat:=ids.foldl (fun n l=>max n l.length) 1
theorem most_step (l:List (List (List Int))) (x:List (List Int)):mostL (l++[x])=max (mostL l) x.length:=by
 unfold mostL
 rw [List.foldl_append]
 rfl
theorem most_pos:∀ (l:List (List (List Int))) (n:Nat),n≤l.foldl (fun n l=>max n l.length) n
 | [],_=>Nat.le_refl _
 | x::l,n=>Nat.le_trans (Nat.le_max_left _ _) (most_pos l (max n x.length))
theorem most_mem:∀ {l:List (List (List Int))} {x:List (List Int)} {n:Nat},x∈l→x.length≤l.foldl (fun n l=>max n l.length) n
 | y::l,x,n,h=>by
  rcases List.mem_cons.1 h with rfl | h
  ·exact Nat.le_trans (Nat.le_max_right _ _) (most_pos l _)
  ·exact most_mem (n:=max n y.length) h
theorem most_le {k:Nat}:∀ {l:List (List (List Int))} {n:Nat},n≤k→(∀ x∈l,x.length≤k)→l.foldl (fun n l=>max n l.length) n≤k
 | [],_,h,_=>h
 | x::l,n,h,g=>most_le (l:=l) (n:=max n x.length) (Nat.max_le.2 ⟨h,g x (by simp)⟩) fun y hy=>g y (List.mem_cons_of_mem _ hy)
theorem hsuite_most_eq (hl:ids.length≤1000):hsuite_most ids=some (↑(mostL ids):Int):=by
 unfold hsuite_most
 have key:=iter_eq (step:=fun (s:Int×Nat)=>hsuite_most.s2 ids s.1 s.2) (r:=(↑(mostL ids):Int)) (fun s=>s.2≤ids.length∧s.1=(↑(mostL (ids.take s.2)):Int)) (fun s=>ids.length-s.2) (fun s ⟨q1,q2⟩=>by
  obtain ⟨n,i⟩:=s
  simp only at q1 q2
  subst q2
  simp only [hsuite_most.s2]
  by_cases g:i<ids.length
  ·left
   have hx:=get_at g
   refine ⟨((↑(mostL (ids.take (i+1))):Int),i+1),?_,⟨g,rfl⟩,by simp only;omega⟩
   rw [decide_eq_true (by omega),cond_true,idxn_at hx,take_step hx,most_step]
   congr 4
   omega
  ·right
   have:i=ids.length:=by omega
   subst this
   rw [decide_eq_false (by omega),cond_false,List.take_length]) (n:=fuel) (s:=(1,0)) ⟨Nat.zero_le _,rfl⟩ (by have:=fuel_big;simp only;omega)
 rw [key,obind]
structure Parts (M:T_api_Mealy) (front middle:List (List Int)) (ids:List (List (List Int))):Prop where
 ok:validM M=0
 il:ids.length=M.Next.length
 is_:∀ l∈ids,l.length≤200∧∀ x∈l,x.length≤600
 f1:front.length≤200
 f2:∀ u∈front,WOk M.Inputs u∧u.length≤200
 m1:middle.length≤200
 m2:∀ v∈middle,WOk M.Inputs v∧v.length≤200
theorem check_of {w:List Int} (H:MacOk M) (h:WOk M.Inputs w) (hl:w.length≤1024):checkI w M.Inputs=0:=by
 have:=H.i1
 have:=H.i2
 unfold checkI
 rw [if_pos (by omega),if_neg (by omega),if_pos]
 exact List.all_eq_true.2 fun a ha=>by
  have:=h a ha
  simp
  omega
def rowS (M:T_api_Mealy) (ids:List (List (List Int))) (u v:List Int):List (List Int):=(tailsM M ids (u++v)).map fun x=>u++v++x
def allS (M:T_api_Mealy) (front middle:List (List Int)) (ids:List (List (List Int))):List (List Int):=front.flatMap fun u=>middle.flatMap fun v=>rowS M ids u v
theorem tails_mem (P:Parts M front middle ids) (w:List Int):(tailsM M ids w).length≤mostL ids∧∀ x∈tailsM M ids w,x.length≤600:=by
 unfold tailsM
 split
 ·exact ⟨by simp;exact most_pos ids 1,fun x hx=>by
   have:x=[]:=by simpa using hx
   rw [this]
   simp⟩
 ·cases e:ids[dest M M.Start.toNat w]? with
  | none=>exact ⟨Nat.zero_le _,fun x hx=>by cases hx⟩
  | some l =>
   have hm:=List.mem_of_getElem? e
   exact ⟨most_mem hm,(P.is_ l hm).2⟩
theorem most_200 (P:Parts M front middle ids):mostL ids≤200:=most_le (by omega) fun l hl=>(P.is_ l hl).1
theorem rowS_le (P:Parts M front middle ids) (u v:List Int):(rowS M ids u v).length≤mostL ids:=by
 unfold rowS
 rw [List.length_map]
 exact (tails_mem P _).1
theorem mid_le (P:Parts M front middle ids) (u:List Int) (l:List (List Int)):(l.flatMap fun v=>rowS M ids u v).length≤l.length*mostL ids:=flat_le fun v _=>rowS_le P u v
theorem made_prog (P:Parts M front middle ids):iter (fun (s:List (List Int)×Nat)=>hsuite_Suite.s14 (M,0) (front,0) (middle,0) (ids,0) s.1 s.2) fuel ([],0)=some (.inl (allS M front middle ids)):=by
 have H:=valid_ok P.ok
 have hms:=most_200 P
 have inner:∀ (u:List Int) (acc:List (List Int)),u∈front→acc.length≤10000000→iter (fun (s:List (List Int)×Nat)=>hsuite_Suite.s13 (M,0) (middle,0) (ids,0) u s.1 s.2) fuel (acc,0)=some (.inl (acc++middle.flatMap fun v=>rowS M ids u v)):=by
  intro u acc hu hacc
  have hfu:=P.f2 u hu
  refine app_loop (l:=middle) (f:=fun v=>rowS M ids u v) (fin:=fun y=>Sum.inl y) (fun y i v hv hy=>?_) ?_ (by have:=P.m1;omega)
  ·have hi:=(List.getElem?_eq_some_iff.1 hv).1
   have hmv:=P.m2 v (List.mem_of_getElem? hv)
   have hc:checkI (u++v) M.Inputs=0:=check_of H (hfu.1.append hmv.1) (by rw [List.length_append];omega)
   have ht:=tails_mem P (u++v)
   have hyl:y.length≤10000000+200*200:=by
    rw [hy,List.length_append]
    have h1:=mid_le P u (middle.take i)
    have h2:(middle.take i).length*mostL ids≤200*200:=Nat.mul_le_mul (by rw [List.length_take];have:=P.m1;omega) hms
    omega
   have hrl:=rowS_le P u v
   simp only [hsuite_Suite.s13]
   rw [decide_eq_true (by omega),cond_true,idxn_at hv,word_Join_eq [u,v] (by simp) (by simp;omega),obind,show [u,v].flatten=u++v by simp,hsuite_Tails_eq ⟨by rw [P.il];have:=H.n2;omega,fun l hl=>⟨by have:=(P.is_ l hl).1;omega,fun x hx=>by have:=(P.is_ l hl).2 x hx;omega⟩⟩ (by unfold SmW;rw [List.length_append];omega),obind]
   have hE:tailsE M ids (u++v)=(tailsM M ids (u++v),0):=by
    unfold tailsE
    rw [if_neg (fun h=>h P.ok),if_neg (fun h=>h hc),if_neg (fun h=>h P.il)]
   rw [hE,decide_eq_false (fun h=>h rfl),cond_false]
   simp only
   rw [behind_eq (by rw [List.length_append];omega) (by omega) (fun x hx=>by have:=ht.2 x hx;omega),obind,chk_pos (by unfold capOk;rw [List.length_map];omega)]
   rfl
  ·simp only [hsuite_Suite.s13]
   rw [decide_eq_false (by omega),cond_false]
 refine app_loop (l:=front) (fin:=fun y=>Sum.inl y) (acc:=[]) (f:=fun u=>middle.flatMap fun v=>rowS M ids u v) (fun y i u hu hy=>?_) ?_ (by have:=P.f1;omega)
 ·have hi:=(List.getElem?_eq_some_iff.1 hu).1
  have hyl:y.length≤10000000:=by
   rw [hy,List.nil_append]
   have h1:(((front.take i).flatMap fun u=>middle.flatMap fun v=>rowS M ids u v)).length≤(front.take i).length*(200*200):=flat_le fun u _=>Nat.le_trans (mid_le P u middle) (Nat.mul_le_mul P.m1 hms)
   have h2:(front.take i).length*(200*200)≤200*(200*200):=Nat.mul_le_mul (by rw [List.length_take];have:=P.f1;omega) (Nat.le_refl _)
   omega
  simp only [hsuite_Suite.s14]
  rw [decide_eq_true (by omega),cond_true,idxn_at hu,inner u y (List.mem_of_getElem? hu) hyl,obind]
  rfl
 ·simp only [hsuite_Suite.s14]
  rw [decide_eq_false (by omega),cond_false]
theorem allS_sm (P:Parts M front middle ids) (hl:front.length*middle.length*mostL ids≤10000):SmL (allS M front middle ids):=by
 refine ⟨?_,fun w hw=>?_⟩
 ·have h1:(allS M front middle ids).length≤front.length*(middle.length*mostL ids):=flat_le fun u _=>mid_le P u middle
  rw [← Nat.mul_assoc] at h1
  omega
 ·obtain ⟨u,hu,hw⟩:=List.mem_flatMap.1 hw
  obtain ⟨v,hv,hw⟩:=List.mem_flatMap.1 hw
  obtain ⟨x,hx,rfl⟩:=List.mem_map.1 hw
  have h1:=(P.f2 u hu).2
  have h2:=(P.m2 v hv).2
  have h3:=(tails_mem P (u++v)).2 x hx
  unfold SmW
  simp
  omega
def suiteH (M:T_api_Mealy) (front middle:List (List Int)) (ids:List (List (List Int))):List (List Int)×Int :=
 if 10000<front.length*middle.length*mostL ids then ([],11) else (maxR (allS M front middle ids),0)
theorem parts_of (hsm:smallM m=true) (hv:validM m=0) {extra:Int} (h1:0≤extra) (h2:extra≤2):∃ M L,minimize_Min m=some (M,0)∧MinSem m M∧validM M=0∧MEnd M 0 L∧cover_StateCover M=some (L.map Prod.snd,0)∧MinimalP M∧M.Next.length≤8∧M.Inputs≤4∧M.Inputs=m.Inputs∧Parts M (L.map Prod.snd) (uptoL M.Inputs (extra+1)) (idsM M):=by
 have H:=valid_ok hv
 obtain ⟨_,hs8,hs4⟩:=smallM_of hsm
 obtain ⟨M,e1,S⟩:=minimize_Min_eq hv
 have hM:=validM_of S.ok
 have P:=sem_minimal S
 obtain ⟨hle,_⟩:=sem_le H S
 obtain ⟨L,hE,c1⟩:=cover_Access_eq hM
 have hst:M.Start.toNat=0:=by rw [S.start];rfl
 rw [hst] at hE
 have hi:=S.inp
 have hi1:=S.ok.i1
 obtain ⟨_,u3,u4⟩:=upto_eq (i:=M.Inputs) (n:=extra+1) (by omega) (by omega) (by omega) (by omega)
 have hLn:=mEnd_rng S.ok S.ok.n1 hE
 have hnn:M.Next.length*M.Next.length≤8*8:=Nat.mul_le_mul (by omega) (by omega)
 have hnk:M.Next.length*M.Next.length*M.Inputs.toNat≤8*8*4:=Nat.mul_le_mul hnn (by omega)
 refine ⟨M,L,e1,S,hM,hE,by unfold cover_StateCover;rw [c1,obind],P,by omega,by omega,hi,⟨hM,by simp [idsM],fun l hl=>?_,by rw [List.length_map];omega,fun u hu=>?_,by omega,fun v hv=>⟨(u3 v hv).1,by have:=(u3 v hv).2;omega⟩⟩⟩
 ·obtain ⟨s,hs,rfl⟩:=List.mem_map.1 hl
  have hs:=List.mem_range.1 hs
  refine ⟨?_,fun x hx=>?_⟩
  ·have h1:=sortW_length (idL M s M.Next.length)
   have h2:=idL_len (m:=M) s M.Next.length
   omega
  ·obtain ⟨v,v1,_,rfl⟩:=idL_mem ((mem_sortW _ _).1 hx)
   have:=(sepW_sm S.ok hs v1).2
   omega
 ·obtain ⟨x,hx,rfl⟩:=List.mem_map.1 hu
  refine ⟨(hLn.2 x hx).2.2,?_⟩
  have hx2:=hx
  rw [hE.eq] at hx2
  have h1:=(mB_rng S.ok S.ok.n1 _ x hx2).2.1
  have h2:L.length*M.Inputs.toNat≤8*4:=Nat.mul_le_mul (by omega) (by omega)
  omega
theorem suite_prog (hsm:smallM m=true) (hv:validM m=0) {extra:Int} (h1:0≤extra) (h2:extra≤2):∃ M L,minimize_Min m=some (M,0)∧MinSem m M∧validM M=0∧MEnd M 0 L∧MinimalP M∧M.Next.length≤8∧M.Inputs≤4∧M.Inputs=m.Inputs∧Parts M (L.map Prod.snd) (uptoL M.Inputs (extra+1)) (idsM M)∧hsuite_Suite m extra=some (suiteH M (L.map Prod.snd) (uptoL M.Inputs (extra+1)) (idsM M)):=by
 obtain ⟨M,L,e1,S,hM,hE,c1,PM,hn8,hi4,hi,P⟩:=parts_of hsm hv h1 h2
 have hi1:=S.ok.i1
 obtain ⟨u1,_,_⟩:=upto_eq (i:=M.Inputs) (n:=extra+1) (by omega) (by omega) (by omega) (by omega)
 have hms:=most_200 P
 have b1:(L.map Prod.snd).length*(uptoL M.Inputs (extra+1)).length≤200*200:=Nat.mul_le_mul P.f1 P.m1
 have b2:(L.map Prod.snd).length*(uptoL M.Inputs (extra+1)).length*mostL (idsM M)≤200*200*200:=Nat.mul_le_mul b1 hms
 refine ⟨M,L,e1,S,hM,hE,PM,hn8,hi4,hi,P,?_⟩
 unfold hsuite_Suite
 rw [mealy_Valid_eq,obind,decide_eq_false (by omega),cond_false,decide_eq_false (by omega),cond_false,decide_eq_false (by omega),obind,cond_false,e1,obind,decide_eq_false (fun h=>h rfl),cond_false]
 simp only
 rw [c1,obind,decide_eq_false (fun h=>h rfl),cond_false,chk_pos (by unfold inR;omega),u1,obind,decide_eq_false (fun h=>h rfl),cond_false,separate_ids hM PM,obind,decide_eq_false (fun h=>h rfl),cond_false]
 simp only
 rw [← Int.natCast_mul,chk_pos (by unfold inR;omega),hsuite_most_eq (by rw [P.il];omega),obind,← Int.natCast_mul,chk_pos (by unfold inR;omega)]
 unfold suiteH
 by_cases h:10000<(L.map Prod.snd).length*(uptoL M.Inputs (extra+1)).length*mostL (idsM M)
 ·rw [decide_eq_true (by omega),cond_true,if_pos h]
 ·rw [decide_eq_false (by omega),cond_false,if_neg h,made_prog P,obind]
  show (wordset_Maximal _).bind _=_
  rw [wordset_Maximal_eq (allS_sm P (by omega)),obind]
end
end Go.Proofs.Ytkfaepfljlphoaa.Sym

/-
 Suites with identifiers are complete: an implementation with few states that passes is equivalent. Plain laws.
-/
namespace Go.Proofs.Ytkfaepfljlphoaa.Sym
set_option maxRecDepth 100000
section
variable {M I:T_api_Mealy} {sM sI k:Nat} {U:List (List Int)} {T:Nat→List (List Int)}
structure Pass (M I:T_api_Mealy) (sM sI k:Nat) (U:List (List Int)) (T:Nat→List (List Int)):Prop where
 two:Two M I
 hM:sM<M.Next.length
 hI:sI<I.Next.length
 nil:[]∈U
 ok:∀ u∈U,WOk M.Inputs u
 cov:∀ s,s<M.Next.length→∃ u∈U,dest M sM u=s
 tne:∀ s,s<M.Next.length→∃ x,x∈T s
 tok:∀ s,∀ x∈T s,WOk M.Inputs x
 sep:∀ s s',s<M.Next.length→s'<M.Next.length→s≠s'→∃ x,x∈T s∧x∈T s'∧outs M s x≠outs M s' x
 pass:∀ u∈U,∀ v,WOk M.Inputs v→v.length≤k+1→∀ x∈T (dest M sM (u++v)),outs M sM (u++v++x)=outs I sI (u++v++x)
 few:∀ l:List Nat,l.Nodup→(∀ q∈l,∃ w,WOk M.Inputs w∧dest I sI w=q)→l.length≤M.Next.length+k
theorem outs_split {a b:T_api_Mealy} {s t:Nat} {w v:List Int} (h:outs a s (w++v)=outs b t (w++v)):outs a s w=outs b t w∧outs a (dest a s w) v=outs b (dest b t w) v:=by
 rw [outs_append,outs_append] at h
 exact List.append_inj h (by rw [outs_len,outs_len])
variable (P:Pass M I sM sI k U T)
include P
theorem Pass.at_ {u v:List Int} (hu:u∈U) (hv:WOk M.Inputs v) (hl:v.length≤k+1):outs M sM (u++v)=outs I sI (u++v)∧∀ x∈T (dest M sM (u++v)),outs M (dest M sM (u++v)) x=outs I (dest I sI (u++v)) x:=by
 have hd:dest M sM (u++v)<M.Next.length:=P.two.a1.dest ((P.ok u hu).append hv) P.hM
 obtain ⟨x,hx⟩:=P.tne _ hd
 exact ⟨(outs_split (P.pass u hu v hv hl x hx)).1,fun x hx=>(outs_split (P.pass u hu v hv hl x hx)).2⟩
theorem Pass.uniq {u v u' v':List Int} (hu:u∈U) (hv:WOk M.Inputs v) (hl:v.length≤k+1) (hu':u'∈U) (hv':WOk M.Inputs v') (hl':v'.length≤k+1) (h:dest I sI (u++v)=dest I sI (u'++v')):dest M sM (u++v)=dest M sM (u'++v'):=Classical.byContradiction fun hne=>by
 obtain ⟨x,x1,x2,x3⟩:=P.sep _ _ (P.two.a1.dest ((P.ok u hu).append hv) P.hM) (P.two.a1.dest ((P.ok u' hu').append hv') P.hM) hne
 have h1:=(P.at_ hu hv hl).2 x x1
 have h2:=(P.at_ hu' hv' hl').2 x x2
 rw [h] at h1
 exact x3 (h1.trans h2.symm)
omit P
def Vj (I:T_api_Mealy) (sI:Nat) (U:List (List Int)) (K:Int) (j q:Nat):Prop:=∃ u∈U,∃ v,WOk K v∧v.length≤j∧q=dest I sI (u++v)
def Closed (I:T_api_Mealy) (sI:Nat) (U:List (List Int)) (K:Int) (j:Nat):Prop:=∀ q,Vj I sI U K j q→∀ a,a<K.toNat→Vj I sI U K j (nx I q a)
theorem dest_snoc {m:T_api_Mealy} {s a:Nat} {w:List Int}:dest m s (w++[(↑a:Int)])=nx m (dest m s w) a:=by
 rw [dest_append]
 show nx m _ (Int.toNat ↑a)=_
 rw [Int.toNat_natCast]
theorem wok_snoc {K:Int} {w:List Int} {a:Nat} (h:WOk K w) (ha:a<K.toNat):WOk K (w++[(↑a:Int)]):=h.append fun z hz=>by
 have:z=(↑a:Int):=by simpa using hz
 omega
include P
theorem Pass.grow:∀ j,j≤k+1→Closed I sI U M.Inputs j∨∃ l:List Nat,l.Nodup∧(∀ q∈l,Vj I sI U M.Inputs j q)∧M.Next.length+j≤l.length
 | 0,_=>by
  right
  have hc:∀ s,∃ u,s<M.Next.length→u∈U∧dest M sM u=s:=fun s=>by
   by_cases hs:s<M.Next.length
   ·obtain ⟨u,h1,h2⟩:=P.cov s hs
    exact ⟨u,fun _=>⟨h1,h2⟩⟩
   ·exact ⟨[],fun h=>absurd h hs⟩
  obtain ⟨f,hf⟩:=Classical.axiomOfChoice hc
  have hnil:WOk M.Inputs []:=fun a ha=>(by cases ha)
  refine ⟨(List.range M.Next.length).map fun s=>dest I sI (f s),?_,fun q hq=>?_,by simp⟩
  ·refine List.pairwise_map.2 (List.Pairwise.imp_of_mem (fun {a b} ha hb hne he=>hne ?_) (List.nodup_range (n:=M.Next.length)))
   have h1:=hf a (List.mem_range.1 ha)
   have h2:=hf b (List.mem_range.1 hb)
   have:=P.uniq (v:=[]) (v':=[]) h1.1 hnil (by simp) h2.1 hnil (by simp) (by rw [List.append_nil,List.append_nil];exact he)
   rwa [List.append_nil,List.append_nil,h1.2,h2.2] at this
  ·obtain ⟨s,hs,rfl⟩:=List.mem_map.1 hq
   exact ⟨f s,(hf s (List.mem_range.1 hs)).1,[],hnil,Nat.le_refl _,by rw [List.append_nil]⟩
 | j+1,hj=>by
  by_cases hcl:Closed I sI U M.Inputs j
  ·left
   have hsub:∀ (v:List Int) (u:List Int),u∈U→WOk M.Inputs v→∀ q,Vj I sI U M.Inputs j q→Vj I sI U M.Inputs j (dest I q v):=by
    intro v
    induction v with
    | nil=>intro _ _ _ q hq;exact hq
    | cons z v ih =>
     intro u hu hv q hq
     have hz:=hv.head
     exact ih u hu hv.tail _ (hcl q hq z.toNat (by omega))
   have hall:∀ q,Vj I sI U M.Inputs (j+1) q→Vj I sI U M.Inputs j q:=fun q ⟨u,hu,v,hv,_,he⟩=>by
    rw [he,dest_append]
    exact hsub v u hu hv _ ⟨u,hu,[],fun a ha=>(by cases ha),Nat.zero_le _,by rw [List.append_nil]⟩
   have hup:∀ q,Vj I sI U M.Inputs j q→Vj I sI U M.Inputs (j+1) q:=fun q ⟨u,hu,v,hv,hl,he⟩=>⟨u,hu,v,hv,by omega,he⟩
   exact fun q hq a ha=>hup _ (hcl q (hall q hq) a ha)
  ·right
   rcases Pass.grow j (by omega) with h | ⟨l,l1,l2,l3⟩
   ·exact absurd h hcl
   ·obtain ⟨q,hq⟩:=Classical.not_forall.1 hcl
    obtain ⟨hq,hq2⟩:=Classical.not_imp.1 hq
    obtain ⟨a,ha⟩:=Classical.not_forall.1 hq2
    obtain ⟨ha,hn⟩:=Classical.not_imp.1 ha
    refine ⟨nx I q a::l,List.nodup_cons.2 ⟨fun h=>hn (l2 _ h),l1⟩,fun x hx=>?_,by rw [List.length_cons];omega⟩
    rcases List.mem_cons.1 hx with rfl | hx
    ·obtain ⟨u,hu,v,hv,hl,he⟩:=hq
     exact ⟨u,hu,v++[(↑a:Int)],wok_snoc hv ha,by simp;omega,by rw [← List.append_assoc,dest_snoc,← he]⟩
    ·obtain ⟨u,hu,v,hv,hl,he⟩:=l2 x hx
     exact ⟨u,hu,v,hv,by omega,he⟩
theorem Pass.closed:Closed I sI U M.Inputs k:=Classical.byContradiction fun hcl=>by
 rcases P.grow k (by omega) with h | ⟨l,l1,l2,l3⟩
 ·exact hcl h
 ·obtain ⟨q,hq⟩:=Classical.not_forall.1 hcl
  obtain ⟨hq,hq2⟩:=Classical.not_imp.1 hq
  obtain ⟨a,ha⟩:=Classical.not_forall.1 hq2
  obtain ⟨ha,hn⟩:=Classical.not_imp.1 ha
  have hreach:∀ x,Vj I sI U M.Inputs k x→∃ w,WOk M.Inputs w∧dest I sI w=x:=fun x ⟨u,hu,v,hv,_,he⟩=>⟨u++v,(P.ok u hu).append hv,he.symm⟩
  have:=P.few (nx I q a::l) (List.nodup_cons.2 ⟨fun h=>hn (l2 _ h),l1⟩) fun x hx=>by
   rcases List.mem_cons.1 hx with rfl | hx
   ·obtain ⟨w,w1,w2⟩:=hreach q hq
    exact ⟨w++[(↑a:Int)],wok_snoc w1 ha,by rw [dest_snoc,w2]⟩
   ·exact hreach x (l2 x hx)
  rw [List.length_cons] at this
  omega
theorem Pass.sim:∀ (w u v:List Int),WOk M.Inputs w→u∈U→WOk M.Inputs v→v.length≤k→outs M (dest M sM (u++v)) w=outs I (dest I sI (u++v)) w
 | [],_,_,_,_,_,_=>rfl
 | z::w,u,v,hw,hu,hv,hl=>by
  have hz:=hw.head
  have ha:z.toNat<M.Inputs.toNat:=by omega
  have hv1:=wok_snoc hv ha
  have h1:=(P.at_ hu hv1 (by simp;omega)).1
  rw [← List.append_assoc,outs_snoc,outs_snoc] at h1
  have h2:=List.append_inj_right' h1 rfl
  injection h2 with h2 _
  obtain ⟨u',hu',v',hv',hl',he⟩:=P.closed _ ⟨u,hu,v,hv,hl,rfl⟩ z.toNat ha
  have h3:=P.uniq hu hv1 (by simp;omega) hu' hv' (by omega) (by rw [← List.append_assoc,dest_snoc,he])
  rw [← List.append_assoc,dest_snoc] at h3
  have ih:=Pass.sim w u' v' hw.tail hu' hv' hl'
  show ot M _ z.toNat::outs M (nx M _ z.toNat) w=ot I _ z.toNat::outs I (nx I _ z.toNat) w
  rw [h2,h3,he,ih]
theorem Pass.equiv {w:List Int} (hw:WOk M.Inputs w):outs M sM w=outs I sI w:=by
 have:=P.sim w [] [] hw P.nil (fun a ha=>(by cases ha)) (Nat.zero_le _)
 exact this
end
end Go.Proofs.Ytkfaepfljlphoaa.Sym

/-
 Passing a suite, and equality of machines: the program's. Plain laws.
-/
namespace Go.Proofs.Ytkfaepfljlphoaa.Sym
set_option maxRecDepth 100000
section
variable {m b M:T_api_Mealy}
theorem common_ne {x y:List Int} (h:x.length=y.length) (hne:x≠y):common x y<x.length:=by
 induction x generalizing y with
 | nil=>exact absurd (List.length_eq_zero_iff.1 h.symm).symm hne
 | cons u x ih =>
  cases y with
  | nil=>cases h
  | cons v y =>
   by_cases e:u=v
   ·subst e
    have:=ih (y:=y) (by simpa using h) (fun q=>hne (by rw [q]))
    simp [common]
    omega
   ·simp [common,e]
theorem common_self (x:List Int):common x x=x.length:=by
 induction x with
 | nil=>rfl
 | cons u x ih=>simp [common,ih]
abbrev outS (m:T_api_Mealy) (w:List Int):List Int:=outs m m.Start.toNat w
def passG (m b:T_api_Mealy) (w:List Int):Option (List Int×Bool×Int):=if outS m w=outS b w then none else some (w.take (common (outS m w) (outS b w)+1),false,0)
def passM (m b:T_api_Mealy) (l:List (List Int)):List Int×Bool×Int :=
 if validM m≠0 then ([],false,validM m) else if validM b≠0 then ([],false,validM b) else if m.Inputs≠b.Inputs then ([],false,15) else
 match scan (fun _ w=>if checkI w m.Inputs≠0 then some (([],false,checkI w m.Inputs):List Int×Bool×Int) else none) 0 l with
 | some r=>r
 | none=>match scan (fun _ w=>passG m b w) 0 l with
  | some r=>r
  | none=>([],true,0)
theorem mealy_Run_ok (hv:validM m=0) {w:List Int} (hw:checkI w m.Inputs=0):mealy_Run m w=some (outS m w,0):=by
 have hl:=checkI_len hw
 have hst:=(valid_ok hv).st
 unfold mealy_Run
 rw [mealy_From_eq (by unfold SmW;omega),obind,fromM_start (by unfold SmW;omega) hv,if_neg (fun h=>h hw)]
theorem wsuite_Passes_eq {l:List (List Int)} (hl:SmL l):wsuite_Passes m b l=some (passM m b l):=by
 unfold wsuite_Passes passM
 rw [mealy_Valid_eq,obind]
 by_cases c1:validM m=0
 ·rw [decide_eq_false (by omega),cond_false,if_neg (fun h=>h c1),mealy_Valid_eq,obind]
  by_cases c2:validM b=0
  ·rw [decide_eq_false (by omega),cond_false,if_neg (fun h=>h c2)]
   by_cases c3:m.Inputs=b.Inputs
   ·rw [decide_eq_false (by omega),cond_false,if_neg (fun h=>h c3),iter_scan (l:=l) (fun _ w=>if checkI w m.Inputs≠0 then some (([],false,checkI w m.Inputs):List Int×Bool×Int) else none) (fun i w hw=>?_) ?_ (by have:=hl.1;omega),obind]
    ·cases e:scan (fun _ w=>if checkI w m.Inputs≠0 then some (([],false,checkI w m.Inputs):List Int×Bool×Int) else none) 0 l with
     | some r=>rfl
     | none =>
      show (iter _ fuel 0).bind _=_
      have hc:∀ w∈l,checkI w m.Inputs=0:=fun w hw=>by
       obtain ⟨i,hi,rfl⟩:=List.mem_iff_getElem.1 hw
       have:=scan_none.1 e i _ (get_at hi)
       split at this
       ·cases this
       ·rename_i h
        exact Classical.byContradiction h
      rw [iter_scan (l:=l) (fun _ w=>passG m b w) (fun i w hw=>?_) ?_ (by have:=hl.1;omega),obind]
      ·cases scan (fun _ w=>passG m b w) 0 l<;>rfl
      ·simp only [wsuite_Passes.s4]
       rw [decide_eq_false (by omega),cond_false]
      ·have hi:=(List.getElem?_eq_some_iff.1 hw).1
       have h0:=hc w (List.mem_of_getElem? hw)
       have hlen:=checkI_len h0
       simp only [wsuite_Passes.s4]
       rw [decide_eq_true (by omega),cond_true,idxn_at hw,mealy_Run_ok c1 h0,obind,decide_eq_false (fun h=>h rfl),cond_false,mealy_Run_ok c2 (by rw [← c3];exact h0),obind,decide_eq_false (fun h=>h rfl),cond_false]
       simp only
       rw [word_Common_eq _ _ (by unfold SmW;rw [outs_len];omega),obind]
       unfold passG
       by_cases e2:outS m w=outS b w
       ·have hcm:common (outS m w) (outS b w)=w.length:=by
         rw [← e2,common_self,outs_len]
        rw [decide_eq_false (by rw [hcm];omega),cond_false,if_pos e2]
       ·have hcm:common (outS m w) (outS b w)<w.length:=by
         have:=common_ne (x:=outS m w) (y:=outS b w) (by rw [outs_len,outs_len]) e2
         rwa [outs_len] at this
        rw [decide_eq_true (by omega),cond_true,chk_pos (by unfold inR;omega),chk_pos ⟨by omega,by omega⟩,word_Join_eq _ (by simp) (by simp;omega),obind,if_neg e2]
        congr 4
        simp
    ·simp only [wsuite_Passes.s2]
     rw [decide_eq_false (by omega),cond_false]
    ·have hi:=(List.getElem?_eq_some_iff.1 hw).1
     simp only [wsuite_Passes.s2]
     rw [decide_eq_true (by omega),cond_true,idxn_at hw,word_Check_eq _ _ (hl.2 w (List.mem_of_getElem? hw)),obind]
     by_cases h:checkI w m.Inputs=0
     ·rw [decide_eq_false (fun q=>q h),cond_false,if_neg (fun q=>q h)]
     ·rw [decide_eq_true h,cond_true,if_pos h]
   ·rw [decide_eq_true c3,cond_true,if_pos c3]
  ·rw [decide_eq_true c2,cond_true,if_pos c2]
 ·rw [decide_eq_true c1,cond_true,if_pos c1]
theorem pass_ok {l:List (List Int)} (c1:validM m=0) (c2:validM b=0) (c3:m.Inputs=b.Inputs) (hc:∀ w∈l,checkI w m.Inputs=0):(passM m b l).2.2=0∧((passM m b l).2.1=true↔∀ w∈l,outS m w=outS b w):=by
 unfold passM
 rw [if_neg (fun h=>h c1),if_neg (fun h=>h c2),if_neg (fun h=>h c3),scan_none.2 fun i w hw=>if_neg (fun h=>h (hc w (List.mem_of_getElem? hw)))]
 simp only
 cases e:scan (fun _ w=>passG m b w) 0 l with
 | some r =>
  obtain ⟨i,w,h1,h2⟩:=scan_mem e
  unfold passG at h2
  split at h2
  ·cases h2
  ·rename_i hne
   injection h2 with h2
   rw [← h2]
   exact ⟨rfl,fun h=>(by cases h),fun h=>absurd (h w (List.mem_of_getElem? h1)) hne⟩
 | none =>
  refine ⟨rfl,fun _ w hw=>?_,fun _=>rfl⟩
  obtain ⟨i,hi,rfl⟩:=List.mem_iff_getElem.1 hw
  have:=scan_none.1 e i _ (get_at hi)
  unfold passG at this
  split at this
  ·assumption
  ·cases this
theorem equiv_check_eq (c1:validM m=0) (c2:validM b=0) (c3:m.Inputs=b.Inputs):equiv_check m b=some 0:=by
 unfold equiv_check
 have key:=iter_eq (step:=fun (s:Nat)=>equiv_check.s2 m b s) (r:=(.inl ():Unit⊕Int)) (fun s=>s≤2) (fun s=>2-s) (fun s hs=>by
  simp only [equiv_check.s2]
  rcases Nat.lt_or_ge s 2 with h | h
  ·left
   rcases Nat.lt_or_ge s 1 with g | g
   ·have:s=0:=by omega
    subst this
    exact ⟨1,by rw [decide_eq_true (by omega),cond_true,decide_eq_true (by omega),cond_true,mealy_Valid_eq,obind,c1];rfl,by omega,by omega⟩
   ·have:s=1:=by omega
    subst this
    exact ⟨2,by rw [decide_eq_true (by omega),cond_true,decide_eq_false (by omega),cond_false,chk_pos (by omega),mealy_Valid_eq,obind,c2];rfl,by omega,by omega⟩
  ·right
   rw [decide_eq_false (by omega),cond_false]) (n:=fuel) (s:=0) (by omega) (by have:=fuel_big;omega)
 rw [key,obind]
 show (cond (decide (m.Inputs≠b.Inputs)) (some 15) (some 0):Option Int)=_
 rw [decide_eq_false (fun h=>h c3),cond_false]
theorem equiv_Equal_eq (c1:validM m=0) (c2:validM b=0) (c3:m.Inputs=b.Inputs):∃ e,equiv_Equal m b=some (e,0)∧(e=true↔Eqv m m.Start.toNat b b.Start.toNat):=by
 have T:Two m b:=⟨valid_ok c1,valid_ok c2,c3⟩
 have h1:=T.a1.st
 have h2:=T.b1.st
 obtain ⟨⟨w,f⟩,h3,h4⟩:=equiv_search_eq T (p0:=(m.Start.toNat,b.Start.toNat)) (by simp only;omega) (by simp only;omega)
 refine ⟨!f,?_,?_⟩
 ·unfold equiv_Equal equiv_Distinguish
  simp only at h3
  rw [show (↑m.Start.toNat:Int)=m.Start by omega,show (↑b.Start.toNat:Int)=b.Start by omega] at h3
  rw [equiv_check_eq c1 c2 c3,obind,decide_eq_false (by decide),cond_false,h3,obind,obind,decide_eq_true rfl,cond_true,obind]
 ·cases f with
  | true =>
   refine ⟨fun h=>(by cases h),fun h=>absurd ?_ (fst_ne T (p0:=(m.Start.toNat,b.Start.toNat)) (by simp only;omega) (by simp only;omega) h4)⟩
   exact h w (fst_word T (p0:=(m.Start.toNat,b.Start.toNat)) (by simp only;omega) (by simp only;omega) h4).1
  | false=>exact ⟨fun _=>fst_none h4,fun _=>rfl⟩
theorem max_above {l:List (List Int)} {N:Nat} (hN:∀ w∈l,w.length≤N):∀ (k:Nat) (w:List Int),w∈l→N-w.length≤k→∃ y∈maxR l,w <+: y:=by
 intro k
 induction k with
 | zero =>
  intro w hw hk
  refine ⟨w,(mem_maxR_iff l w).2 ⟨hw,fun y hy=>?_⟩,List.prefix_refl _⟩
  by_cases h:w <+: y
  ·have:=h.length_le
   have:=hN y hy
   exact Or.inl (h.eq_of_length (by omega)).symm
  ·exact Or.inr h
 | succ k ih =>
  intro w hw hk
  by_cases h:∃ y∈l,y≠w∧w <+: y
  ·obtain ⟨y,h1,h2,h3⟩:=h
   have hl:=h3.length_le
   have hne:w.length≠y.length:=fun q=>h2 (h3.eq_of_length q).symm
   obtain ⟨z,z1,z2⟩:=ih y h1 (by omega)
   exact ⟨z,z1,h3.trans z2⟩
  ·refine ⟨w,(mem_maxR_iff l w).2 ⟨hw,fun y hy=>?_⟩,List.prefix_refl _⟩
   by_cases g:y=w
   ·exact Or.inl g
   ·exact Or.inr fun q=>h ⟨y,hy,g,q⟩
theorem outs_prefix {s t:Nat} {w y:List Int} (hp:w <+: y) (h:outs m s y=outs b t y):outs m s w=outs b t w:=by
 obtain ⟨v,rfl⟩:=hp
 exact (outs_split h).1
def allW (i:Nat):Nat→List (List Int)
 | 0=>[[]]
 | k+1=>(List.range i).flatMap fun (a:Nat)=>(allW i k).map fun (w:List Int)=>Int.ofNat a::w
theorem mem_allW {i:Int}:∀ {w:List Int},WOk i w→w∈allW i.toNat w.length
 | [],_=>by simp [allW]
 | z::w,h=>by
  have hz:=h.head
  refine List.mem_flatMap.2 ⟨z.toNat,List.mem_range.2 (by omega),List.mem_map.2 ⟨w,mem_allW h.tail,?_⟩⟩
  have e:Int.ofNat z.toNat=z:=Int.toNat_of_nonneg hz.1
  rw [e]
theorem upto_allW:∀ i∈[1,2,3,4],∀ n∈[1,2,3],∀ k∈List.range (n+1),((allW i k).all fun w=>decide (w∈uptoL (↑i:Int) (↑n:Int)))=true:=by decide +kernel
theorem upto_has {i n:Int} (h1:1≤i) (h2:i≤4) (h3:1≤n) (h4:n≤3) {w:List Int} (hw:WOk i w) (hl:(↑w.length:Int)≤n):w∈uptoL i n:=by
 have:=upto_allW i.toNat (by simp;omega) n.toNat (by simp;omega) w.length (List.mem_range.2 (by omega))
 have:=List.all_eq_true.1 this w (mem_allW hw)
 rw [Int.toNat_of_nonneg (by omega),Int.toNat_of_nonneg (by omega)] at this
 exact of_decide_eq_true this
end
end Go.Proofs.Ytkfaepfljlphoaa.Sym

/-
 The law of HsuiteComplete. Plain law.
-/
namespace Go.Proofs.Ytkfaepfljlphoaa.Sym
set_option maxRecDepth 100000
section
variable {m b M:T_api_Mealy}
noncomputable def tlS (M:T_api_Mealy) (s:Nat):List (List Int):=if (((idsM M)[s]?).getD []).length=0 then [[]] else ((idsM M)[s]?).getD []
theorem tlS_eq (w:List Int):tailsM M (idsM M) w=tlS M (dest M M.Start.toNat w):=rfl
theorem ids_at {s:Nat} (hs:s<M.Next.length):(idsM M)[s]?=some (sortW (idL M s M.Next.length)):=by
 unfold idsM
 rw [List.getElem?_map,List.getElem?_range hs]
 rfl
theorem tlS_mem {s:Nat} {x:List Int} (hx:x∈tlS M s):x=[]∨∃ v,s<M.Next.length∧v<M.Next.length∧x=sepW M s v:=by
 unfold tlS at hx
 split at hx
 ·exact Or.inl (by simpa using hx)
 ·by_cases hs:s<M.Next.length
  ·rw [ids_at hs,Option.getD_some] at hx
   obtain ⟨v,v1,_,rfl⟩:=idL_mem ((mem_sortW _ _).1 hx)
   exact Or.inr ⟨v,hs,v1,rfl⟩
  ·rw [List.getElem?_eq_none (by simp [idsM];omega)] at hx
   cases hx
theorem tlS_sep {s t:Nat} (hs:s<M.Next.length) (ht:t<M.Next.length) (hne:s≠t):sepW M s t∈tlS M s:=by
 have hw:sepW M s t∈sortW (idL M s M.Next.length):=(mem_sortW _ _).2 (List.mem_map.2 ⟨t,List.mem_filter.2 ⟨List.mem_range.2 ht,decide_eq_true (fun q=>hne q.symm)⟩,rfl⟩)
 unfold tlS
 rw [ids_at hs,Option.getD_some,if_neg (by have:=List.length_pos_of_mem hw;omega)]
 exact hw
theorem tlS_ne (s:Nat):∃ x,x∈tlS M s:=by
 unfold tlS
 split
 ·exact ⟨[],by simp⟩
 ·rename_i h
  cases e:((idsM M)[s]?).getD [] with
  | nil=>rw [e] at h;exact absurd rfl h
  | cons x l=>exact ⟨x,by simp⟩
theorem suite_all {front middle:List (List Int)} {ids:List (List (List Int))} (P:Parts M front middle ids) (hl:front.length*middle.length*mostL ids≤10000) {s t:Nat} (h:∀ w∈maxR (allS M front middle ids),outs m s w=outs b t w):∀ w∈allS M front middle ids,outs m s w=outs b t w:=fun w hw=>by
 obtain ⟨y,h1,h2⟩:=max_above (N:=2000000) (fun x hx=>(allS_sm P hl).2 x hx) 2000000 w hw (by omega)
 exact outs_prefix h2 (h y h1)
theorem pass_of {L:List (Nat×List Int)} {extra:Int} (h1:0≤extra) (h2:extra≤2) (hM:MacOk M) (hst:M.Start=0) (hE:MEnd M 0 L) (PM:MinimalP M) (hi4:M.Inputs≤4) (hb:MacOk b) (hi:M.Inputs=b.Inputs)
  (hp:∀ w∈allS M (L.map Prod.snd) (uptoL M.Inputs (extra+1)) (idsM M),outs M 0 w=outs b b.Start.toNat w)
  (hf:∀ l:List Nat,l.Nodup→(∀ q∈l,∃ w,WOk M.Inputs w∧dest b b.Start.toNat w=q)→l.length≤M.Next.length+extra.toNat):Pass M b 0 b.Start.toNat extra.toNat (L.map Prod.snd) (tlS M):=by
 have hi1:=hM.i1
 have hbs:=hb.st
 have hLr:=mEnd_rng hM hM.n1 hE
 have hst':M.Start.toNat=0:=by rw [hst];rfl
 refine ⟨⟨hM,hb,hi⟩,hM.n1,by omega,List.mem_map.2 ⟨_,List.mem_of_getElem? hE.first,rfl⟩,fun u hu=>?_,fun s hs=>?_,fun s _=>tlS_ne s,fun s x hx=>?_,fun s s' hs hs' hne=>⟨sepW M s s',tlS_sep hs hs' hne,?_,sepW_sep hM PM hs hs' hne⟩,fun u hu v hv hl x hx=>hp _ ?_,hf⟩
 ·obtain ⟨x,hx,rfl⟩:=List.mem_map.1 hu
  exact (hLr.2 x hx).2.2
 ·obtain ⟨w,w1,w2⟩:=PM.reach s hs
  rw [hst'] at w2
  obtain ⟨j,y,g1,g2⟩:=reach_all hE w 0 _ hE.first w1
  refine ⟨y.2,List.mem_map.2 ⟨y,List.mem_of_getElem? g1,rfl⟩,?_⟩
  rw [(hLr.2 y (List.mem_of_getElem? g1)).2.1,g2]
  exact w2
 ·rcases tlS_mem hx with rfl | ⟨v,v1,v2,rfl⟩
  ·exact fun a ha=>(by cases ha)
  ·exact (sepW_sm hM v1 v2).1
 ·rw [← sepW_symm hM hs hs']
  exact tlS_sep hs' hs (fun q=>hne q.symm)
 ·refine List.mem_flatMap.2 ⟨u,hu,List.mem_flatMap.2 ⟨v,upto_has (by omega) hi4 (by omega) (by omega) hv (by omega),?_⟩⟩
  unfold rowS
  refine List.mem_map.2 ⟨x,?_,rfl⟩
  rw [tlS_eq,hst']
  exact hx
theorem reach_count {L:List (Nat×List Int)} (hE:MEnd b b.Start.toNat L) {l:List Nat} (hn:l.Nodup) (h:∀ q∈l,∃ w,WOk b.Inputs w∧dest b b.Start.toNat w=q):l.length≤L.length:=by
 have:=nodup_le hn (l':=L.map Prod.fst) fun q hq=>by
  obtain ⟨w,w1,w2⟩:=h q hq
  obtain ⟨j,y,g1,g2⟩:=reach_all hE w 0 _ hE.first w1
  exact List.mem_map.2 ⟨y,List.mem_of_getElem? g1,by rw [g2];exact w2⟩
 rwa [List.length_map] at this
theorem R09_Check_eq (m b:T_api_Mealy):R09_Check m b=some (if validM m≠0 then validM m else if validM b≠0 then validM b else if m.Inputs≠b.Inputs then 15 else 0):=by
 unfold R09_Check
 rw [R06_Valid_eq,obind]
 by_cases c1:validM m=0
 ·rw [decide_eq_false (fun h=>h c1),cond_false,if_neg (fun h=>h c1),R06_Valid_eq,obind]
  by_cases c2:validM b=0
  ·rw [decide_eq_false (fun h=>h c2),cond_false,if_neg (fun h=>h c2)]
   by_cases c3:m.Inputs=b.Inputs
   ·rw [decide_eq_false (fun h=>h c3),cond_false,if_neg (fun h=>h c3)]
   ·rw [decide_eq_true c3,cond_true,if_pos c3]
  ·rw [decide_eq_true c2,cond_true,if_pos c2]
 ·rw [decide_eq_true c1,cond_true,if_pos c1]
theorem suite_words {front middle:List (List Int)} (P:Parts M front middle (idsM M)):∀ w∈allS M front middle (idsM M),checkI w M.Inputs=0:=fun w hw=>by
 have H:=valid_ok P.ok
 obtain ⟨u,hu,hw⟩:=List.mem_flatMap.1 hw
 obtain ⟨v,hv,hw⟩:=List.mem_flatMap.1 hw
 obtain ⟨x,hx,rfl⟩:=List.mem_map.1 hw
 have h1:=P.f2 u hu
 have h2:=P.m2 v hv
 have h3:=(tails_mem P (u++v)).2 x hx
 have h4:WOk M.Inputs x:=by
  rw [tlS_eq] at hx
  rcases tlS_mem hx with rfl | ⟨v,v1,v2,rfl⟩
  ·exact fun a ha=>(by cases ha)
  ·exact (sepW_sm H v1 v2).1
 exact check_of H ((h1.1.append h2.1).append h4) (by simp;omega)
theorem plain_HsuiteComplete (m b:T_api_Mealy) (extra:Int) (h0:0≤extra) (hx:extra≤255):L30_HsuiteComplete m b extra=some true:=by
 unfold L30_HsuiteComplete
 rw [L11_Small_eq,obind]
 cases hsm:smallM m with
 | false=>rw [Bool.not_false,cond_true,obind,cond_true,awake30_true,obind]
 | true =>
  rw [Bool.not_true,cond_false,L11_Small_eq,obind]
  cases hsb:smallM b with
  | false=>rw [Bool.not_false,cond_true,obind,cond_true,awake30_true,obind]
  | true =>
   rw [Bool.not_true,cond_false]
   by_cases h2:2<extra
   ·rw [decide_eq_true h2,cond_true,obind,cond_true,awake30_true,obind]
   rw [decide_eq_false h2,cond_false,R09_Check_eq,obind,obind]
   by_cases c1:validM m=0
   ·by_cases c2:validM b=0
    ·by_cases c3:m.Inputs=b.Inputs
     ·rw [if_neg (fun h=>h c1),if_neg (fun h=>h c2),if_neg (fun h=>h c3),decide_eq_false (by decide),cond_false,chk_pos (by unfold inR;omega)]
      obtain ⟨M,L,e1,S,hM,hE,PM,hn8,hi4,hi,P,hs⟩:=suite_prog hsm c1 (extra:=extra) h0 (by omega)
      have Hb:=valid_ok c2
      obtain ⟨_,hb8,_⟩:=smallM_of hsb
      have hbs:=Hb.st
      rw [hs,obind]
      unfold suiteH
      by_cases hbig:10000<(L.map Prod.snd).length*(uptoL M.Inputs (extra+1)).length*mostL (idsM M)
      ·rw [if_pos hbig,decide_eq_true (by decide),cond_true]
       simp [awake30_true]
      ·rw [if_neg hbig,decide_eq_false (fun h=>h rfl),cond_false,e1,obind]
       have hsml:=allS_sm P (by omega)
       have hmx:SmL (maxR (allS M (L.map Prod.snd) (uptoL M.Inputs (extra+1)) (idsM M))):=⟨Nat.le_trans (maxR_length _) hsml.1,fun x hx=>hsml.2 x (mem_maxR hx)⟩
       have hch:∀ w∈maxR (allS M (L.map Prod.snd) (uptoL M.Inputs (extra+1)) (idsM M)),checkI w m.Inputs=0:=fun w hw=>by
        rw [← hi]
        exact suite_words P w (mem_maxR hw)
       obtain ⟨k1,k2⟩:=pass_ok (l:=maxR (allS M (L.map Prod.snd) (uptoL M.Inputs (extra+1)) (idsM M))) c1 c2 c3 hch
       obtain ⟨e,g1,g2⟩:=equiv_Equal_eq c1 c2 c3
       obtain ⟨L',hE',hR'⟩:=mealy_Reach_eq c2
       have hLb:=mEnd_rng Hb (by omega) hE'
       rw [wsuite_Passes_eq hmx,obind,g1,obind]
       generalize hpm:passM m b (maxR (allS M (L.map Prod.snd) (uptoL M.Inputs (extra+1)) (idsM M)))=pm at k1 k2
       obtain ⟨pw,pb,pe⟩:=pm
       simp only at k1 k2
       subst k1
       have hgo:∀ {x:Option Bool},(cond (decide (((M,(0:Int)).2)≠0)) (some true) (cond (decide (((pw,pb,(0:Int)).2.2)≠0)) (some true) (cond (decide (((e,(0:Int)).2)≠0)) (some true) x)):Option Bool)=x:=fun {x}=>by
        rw [decide_eq_false (fun h=>h rfl),cond_false,cond_false,cond_false]
       rw [hgo]
       cases e with
       | true =>
        have hq:=g2.1 rfl
        have hpb:pb=true:=k2.2 fun w hw=>hq w (check_mem (hch w hw))
        subst hpb
        rw [cond_true,obind,Bool.not_true,cond_false,cond_true,awake30_true,obind,obind]
       | false =>
        rw [cond_false,obind,cond_false,cond_false]
        cases pb with
        | false=>rw [Bool.not_false,cond_true,awake30_true,obind,obind]
        | true =>
         have hag:=k2.1 rfl
         have hfar:M.Next.length+extra.toNat<L'.length:=Classical.byContradiction fun hle=>by
          have hp:∀ w∈allS M (L.map Prod.snd) (uptoL M.Inputs (extra+1)) (idsM M),outs M 0 w=outs b b.Start.toNat w:=fun w hw=>by
           rw [← suite_all P (by omega) (m:=m) (b:=b) (s:=m.Start.toNat) (t:=b.Start.toNat) hag w hw]
           exact S.eqv w (check_mem (suite_words P w hw))
          have hP:=pass_of h0 (by omega) S.ok S.start hE PM hi4 Hb (hi.trans c3) hp fun l l1 l2=>by
           have:=reach_count hE' l1 fun q hq=>by
            obtain ⟨w,w1,w2⟩:=l2 q hq
            exact ⟨w,by rw [← c3,← hi];exact w1,w2⟩
           omega
          have hall:Eqv m m.Start.toNat b b.Start.toNat:=fun w hw=>by
           have hw':WOk M.Inputs w:=by rw [hi];exact hw
           rw [← hP.equiv hw',S.eqv w hw']
          have:=g2.2 hall
          cases this
         rw [Bool.not_true,cond_false,hR',obind]
         simp only
         rw [chk_pos (by unfold inR;omega),chk_pos (by unfold inR;omega),decide_eq_true (by rw [natI_len,List.length_map];omega),cond_true,awake30_true,obind,obind]
     ·rw [if_neg (fun h=>h c1),if_neg (fun h=>h c2),if_pos c3,decide_eq_true (by decide),cond_true,awake30_true,obind]
    ·rw [if_neg (fun h=>h c1),if_pos c2,decide_eq_true c2,cond_true,awake30_true,obind]
   ·rw [if_pos c1,decide_eq_true c1,cond_true,awake30_true,obind]
end
end Go.Proofs.Ytkfaepfljlphoaa.Sym

/-
 The law of HsuiteComplete, for arguments within the bound.
-/
namespace Go.Proofs.Ytkfaepfljlphoaa.Sym
theorem law_L30_HsuiteComplete (x0:T_api_Mealy) (x1:T_api_Mealy) (x2:Int) (_:ok_api_Mealy x0) (_:sz_api_Mealy x0≤1048576) (_:ok_api_Mealy x1) (_:sz_api_Mealy x1≤1048576) (k2:okY x2):L30_HsuiteComplete x0 x1 x2=some true :=
 plain_HsuiteComplete x0 x1 x2 k2.1 k2.2
end Go.Proofs.Ytkfaepfljlphoaa.Sym

/-
  The contracts of the functions, read from the code by a program (ext.py): each function has its plain twin as its contract.
-/
namespace Go.Proofs.Ytkfaepfljlphoaa.Sym
open Go.RowKit
set_option maxRecDepth 100000
set_option linter.unusedVariables false
set_option maxHeartbeats 4000000
theorem eI {σ:St} {src:List (Nat×Option Nat)} {γ:Nat→Nat} {t:Nat} {y b:IV} (h1:σ.av t=.im y) (h2:AV.im y=.im b):∃ x,σ.av t=x∧SubR σ src γ x (.im b):=⟨.im y,h1,.im (Sub.rfl' h2)⟩
theorem odt {p:Prop} [Decidable p] (h:decide p=true):p:=of_decide_eq_true h
theorem odf {p:Prop} [Decidable p] (h:decide p=false):¬ p:=of_decide_eq_false h
theorem ctd {α:Type} {p:Prop} [Decidable p] {x y z:α} (hb:decide p=true) (h:cond (decide p) x y=z):x=z∧p:=⟨cond_t hb h,odt hb⟩
theorem cfd {α:Type} {p:Prop} [Decidable p] {x y z:α} (hb:decide p=false) (h:cond (decide p) x y=z):y=z∧¬ p:=⟨cond_f hb h,odf hb⟩
theorem hT {σ:St}:Holds σ True:=Holds.true_ _
abbrev lZ {α:Type} (l:List α):Prop:=List.length l≤17592186044416
theorem eA {σ:St} {avs:List (Nat×AV)} {kds:List (Nat×Kd)} {cels:List (Nat×Nat×AV)} (src:List (Nat×Option Nat)) (hn:ndB (srcs src) []=true:=by exact rfl) (ha:SubL σ src (gnM kds) avs:=by repeat' (first | exact trivial | refine ⟨eI rfl rfl,?_⟩ | refine ⟨⟨.own _ _ _,rfl,.own rfl rfl rfl⟩,?_⟩ | refine ⟨⟨.osl _ _,rfl,.osl rfl rfl rfl⟩,?_⟩ | refine ⟨⟨.im (.val (.slice none 0 0)),rfl,.made rfl rfl⟩,?_⟩)) (hk:KdL σ src kds:=by repeat' (first | exact trivial | refine ⟨.inl ⟨_,rfl,rfl,trivial⟩,?_⟩ | refine ⟨.inl ⟨_,rfl,rfl,⟨rfl,rfl⟩⟩,?_⟩ | refine ⟨.inr ⟨rfl,rfl,.inl ⟨_,_,rfl,by decide⟩⟩,?_⟩)) (hc:CeL σ src (gnM kds) cels:=by repeat' (first | exact trivial | refine ⟨⟨_,.im _,rfl,rfl,.im (Sub.rfl' rfl)⟩,?_⟩ | refine ⟨⟨_,.own _ _ _,rfl,rfl,.own rfl rfl rfl⟩,?_⟩ | refine ⟨⟨_,.osl _ _,rfl,rfl,.osl rfl rfl rfl⟩,?_⟩)):Ent σ (mkSt avs kds cels):=Ent.mk src hn ha hk hc
theorem sp_word_permitted (inputs_:Int) (r:Bool) (h:Ok (nI inputs_)→word_permitted inputs_=some r):Sp Try.prog 67 [.im (nI inputs_)] (.im (nB r)):=by
 refine sp_of rfl [] rfl rfl rfl (Nat.le_of_ble_eq_true rfl) rfl fun hk=>?_
 replace h:=h hk.1
 unfold word_permitted at h
 conv=>whnf
 obtain ⟨y54,hc,hk52⟩:=bind_some h
 clear h
 have h:=hc
 clear hc
 refine Cut.mk (mkSt [(2,.im (nB y54))] [] []) (True) (hT) ?_ (fun hp=>?_)
 conv=>whnf
 refine Both.mk ?_ ?_<;>intro b55
 replace b55:=beq_tt b55
 obtain ⟨h,b55d⟩:=ctd b55 h
 conv=>whnf
 refine Both.yes (tt_beq b55) ?_
 conv=>whnf
 refine Both.yes b55 ?_
 conv=>whnf
 cases h
 exact Join.mk (eA [])
 replace b55:=beq_tf b55
 obtain ⟨h,b55d⟩:=cfd b55 h
 conv=>whnf
 refine Both.no (ft_beq b55) ?_
 conv=>whnf
 refine Both.no b55 ?_
 conv=>whnf
 cases h
 exact Join.mk (eA [])
 replace h:=hk52
 conv=>whnf
 cases h
 conv=>whnf
 exact ⟨rfl,rfl⟩
theorem sp_word_Check_1 (a_:Int) (p1_:Int) (r:Bool) (h:Ok (nI a_)→Ok (.ref (cI p1_))→word_Check_1 a_ p1_=some r):Sp Try.prog 69 [.im (nI a_),.im (.ref (cI p1_))] (.im (nB r)):=by
 refine sp_of rfl [] rfl rfl rfl (Nat.le_of_ble_eq_true rfl) rfl fun hk=>?_
 replace h:=h hk.1 hk.2.1
 unfold word_Check_1 at h
 conv=>whnf
 obtain ⟨y54,hc,hk52⟩:=bind_some h
 clear h
 have h:=hc
 clear hc
 refine Cut.mk (mkSt [(3,.im (nB y54))] [] []) (True) (hT) ?_ (fun hp=>?_)
 conv=>whnf
 refine Both.mk ?_ ?_<;>intro b55
 replace b55:=beq_ff b55
 obtain ⟨h,b55d⟩:=cfd b55 h
 conv=>whnf
 iterate 2 (refine Both.yes (ff_beq b55) ?_;(conv=>whnf))
 refine Both.no b55 ?_
 conv=>whnf
 cases h
 exact Join.mk (eA [])
 replace b55:=beq_ft b55
 obtain ⟨h,b55d⟩:=ctd b55 h
 conv=>whnf
 iterate 2 (refine Both.no (tf_beq b55) ?_;(conv=>whnf))
 refine Both.yes b55 ?_
 conv=>whnf
 cases h
 exact Join.mk (eA [])
 replace h:=hk52
 conv=>whnf
 cases h
 conv=>whnf
 exact ⟨rfl,rfl⟩
theorem sp_slices_IndexFunc_Sint_int_n1 (s_:List Int) (f_:Int→Option Bool) (f1_:FuncId) (k1_0:IV) (hk1_0:nz k1_0=k1_0) (hf1:∀ x0 r,f_ x0=some r→Sp Try.prog f1_ [.im (nI x0),.im k1_0] (.im (nB r))) (r:Int) (h:Ok (nL cI s_)→Ok (.fn f1_ [k1_0])→slices_IndexFunc_Sint_int_n1 s_ f_=some r):Sp Try.prog 88 [.im (nL cI s_),.im (.fn f1_ [k1_0])] (.im (nI r)):=by
 refine sp_of rfl [] rfl rfl rfl (Nat.le_of_ble_eq_true rfl) rfl fun hk=>?_
 replace h:=h hk.1 hk.2.1
 have z1:lZ s_:=ok_len hk.1
 unfold slices_IndexFunc_Sint_int_n1 at h
 conv=>whnf
 refine Nf.mk (List.length s_) len_map ?_
 conv=>whnf
 obtain ⟨oc,hc,hk51⟩:=bind_some h
 clear h
 have h:=hc
 clear hc
 refine Cut.mkS oc (Y:=Unit) (fun (_:Unit)=>mkSt [] [] []) (fun (_:Unit)=>True) (by rintro ⟨⟩;exact (hT)) ?_ ?_
 conv=>whnf
 refine Loops.iter (fun (s:Nat)=>slices_IndexFunc_Sint_int_n1.s2 s_ f_ s) (fun y71=>mkSt [(0,.im (nL cI s_)),(1,.im (.fn f1_ [k1_0])),(7,.im (nI (↑(List.length s_):Int))),(8,.im (nI (↑y71:Int)))] [] []) (fun y71=>lZ s_∧True) h (eA []) (by rintro y71;exact ((Holds.avl 0 rfl).and (hT))) ?_
 clear h
 rintro k y71 o hp h ho76
 replace h:slices_IndexFunc_Sint_int_n1.s2 s_ f_ y71=some o:=h
 unfold slices_IndexFunc_Sint_int_n1.s2 at h
 obtain ⟨z81,_⟩:=hp
 conv=>whnf
 refine Both.mk ?_ ?_<;>intro b77
 obtain ⟨h,b77d⟩:=ctd b77 h
 conv=>whnf
 obtain ⟨e78,he78,h⟩:=idxn_some h
 refine ⟨_,⟨(by omega),map_at he78,rfl⟩,?_⟩
 conv=>whnf
 obtain ⟨c79,hc79,h⟩:=bind_some h
 refine ⟨_,Sp.args (hf1 e78 c79 hc79) (by rw [hk1_0];try rfl),?_⟩
 conv=>whnf
 refine Both.mk ?_ ?_<;>intro b80
 replace h:=cond_t b80 h
 conv=>whnf
 cases h
 have ho76:_=_:=ho76
 cases ho76
 replace h:some _=some _:=hk51
 cases h
 conv=>whnf
 exact ⟨rfl,rfl⟩
 replace h:=cond_f b80 h
 conv=>whnf
 refine Arith.mk (by show inR _;unfold inR;omega) ?_
 conv=>whnf
 cases h
 exact Nxt.mk _ ho76 (eA [])
 obtain ⟨h,b77d⟩:=cfd b77 h
 conv=>whnf
 cases h
 have ho76:_=_:=ho76
 cases ho76
 exact JoinS.mk' _ rfl (eA [])
 rintro ⟨⟩ rfl hp
 replace h:=sum_inl hk51
 conv=>whnf
 cases h
 conv=>whnf
 exact ⟨rfl,rfl⟩
theorem sp_slices_ContainsFunc_Sint_int_n1 (s_:List Int) (f_:Int→Option Bool) (f1_:FuncId) (k1_0:IV) (hk1_0:nz k1_0=k1_0) (hf1:∀ x0 r,f_ x0=some r→Sp Try.prog f1_ [.im (nI x0),.im k1_0] (.im (nB r))) (r:Bool) (h:Ok (nL cI s_)→Ok (.fn f1_ [k1_0])→slices_ContainsFunc_Sint_int_n1 s_ f_=some r):Sp Try.prog 68 [.im (nL cI s_),.im (.fn f1_ [k1_0])] (.im (nB r)):=by
 refine sp_of rfl [] rfl rfl rfl (Nat.le_of_ble_eq_true rfl) rfl fun hk=>?_
 replace h:=h hk.1 hk.2.1
 have z1:lZ s_:=ok_len hk.1
 unfold slices_ContainsFunc_Sint_int_n1 at h
 conv=>whnf
 obtain ⟨c51,hc51,h⟩:=bind_some h
 refine ⟨_,(sp_slices_IndexFunc_Sint_int_n1 s_ f_ f1_ k1_0 hk1_0 hf1 c51 (fun _ _=>hc51)),?_⟩
 conv=>whnf
 cases h
 conv=>whnf
 exact ⟨rfl,rfl⟩
theorem sp_word_Check (w_:List Int) (inputs_:Int) (r:Int) (h:Ok (nL cI w_)→Ok (nI inputs_)→word_Check w_ inputs_=some r):Sp Try.prog 44 [.im (nL cI w_),.im (nI inputs_)] (.im (nI r)):=by
 refine sp_of rfl [700003] rfl rfl rfl (Nat.le_of_ble_eq_true rfl) rfl fun hk=>?_
 replace h:=h hk.1 hk.2.1
 have z1:lZ w_:=ok_len hk.1
 unfold word_Check at h
 conv=>whnf
 obtain ⟨c51,hc51,h⟩:=bind_some h
 refine ⟨_,(sp_word_permitted inputs_ c51 (fun _=>hc51)),?_⟩
 conv=>whnf
 refine Both.mk ?_ ?_<;>intro b52
 replace h:=cond_t b52 h
 conv=>whnf
 cases h
 conv=>whnf
 exact ⟨rfl,rfl⟩
 replace h:=cond_f b52 h
 conv=>whnf
 refine Nf.mk (List.length w_) len_map ?_
 conv=>whnf
 refine Both.mk ?_ ?_<;>intro b53
 obtain ⟨h,b53d⟩:=ctd b53 h
 conv=>whnf
 cases h
 conv=>whnf
 exact ⟨rfl,rfl⟩
 obtain ⟨h,b53d⟩:=cfd b53 h
 conv=>whnf
 obtain ⟨c54,hc54,h⟩:=bind_some h
 refine ⟨_,(sp_slices_ContainsFunc_Sint_int_n1 w_ (fun u0=>word_Check_1 u0 inputs_) 69 (.ref (cI inputs_)) rfl (fun u0 r h=>(sp_word_Check_1 u0 inputs_ r (fun _ _=>h))) c54 (fun _ _=>hc54)),?_⟩
 conv=>whnf
 refine Both.mk ?_ ?_<;>intro b55
 replace h:=cond_t b55 h
 conv=>whnf
 cases h
 conv=>whnf
 exact ⟨rfl,rfl⟩
 replace h:=cond_f b55 h
 conv=>whnf
 cases h
 conv=>whnf
 exact ⟨rfl,rfl⟩
theorem sp_mealy_machine_move (m_:T_mealy_machine) (s_:Int) (a_:Int) (r:Int×Int) (h:Ok (.agg (c_mealy_machine m_))→Ok (nI s_)→Ok (nI a_)→mealy_machine_move m_ s_ a_=some r):Sp Try.prog 70 [.im (.agg (c_mealy_machine m_)),.im (nI s_),.im (nI a_)] (.tup [nI r.1,nI r.2]):=by
 refine sp_of rfl [700003] rfl rfl rfl (Nat.le_of_ble_eq_true rfl) rfl fun hk=>?_
 replace h:=h hk.1 hk.2.1 hk.2.2.1
 have z1:lZ m_.Mealy.Next:=ok_len (Ok.agg_at hk.1 2 rfl)
 have z2:lZ m_.Mealy.Out:=ok_len (Ok.agg_at hk.1 3 rfl)
 unfold mealy_machine_move at h
 conv=>whnf
 obtain ⟨e51,he51z,he51,h⟩:=idx_some h
 refine ⟨_,⟨he51z,map_at he51,rfl⟩,?_⟩
 conv=>whnf
 obtain ⟨e52,he52z,he52,h⟩:=idx_some h
 refine ⟨_,⟨he52z,map_at he52,rfl⟩,?_⟩
 conv=>whnf
 obtain ⟨e53,he53z,he53,h⟩:=idx_some h
 refine ⟨_,⟨he53z,map_at he53,rfl⟩,?_⟩
 conv=>whnf
 obtain ⟨e54,he54z,he54,h⟩:=idx_some h
 refine ⟨_,⟨he54z,map_at he54,rfl⟩,?_⟩
 conv=>whnf
 cases h
 conv=>whnf
 exact ⟨rfl,rfl⟩
theorem sp_mealy_runner_run (r_:T_mealy_runner) (w_:List Int) (r:List Int×T_mealy_runner) (h:OkOcs [.im (nI r_.machine.Mealy.Inputs),.im (nI r_.machine.Mealy.Start),.im (nL (cL cI) r_.machine.Mealy.Next),.im (nL (cL cI) r_.machine.Mealy.Out),.im (nI r_.at_)]→Ok (nL cI w_)→mealy_runner_run r_ w_=some r):Sp Try.prog 45 [.box 75 [.im (nI r_.machine.Mealy.Inputs),.im (nI r_.machine.Mealy.Start),.im (nL (cL cI) r_.machine.Mealy.Next),.im (nL (cL cI) r_.machine.Mealy.Out),.im (nI r_.at_)],.im (nL cI w_)] (.mk false [.im (nL cI r.1)] [.box 75 [.im (nI r.2.machine.Mealy.Inputs),.im (nI r.2.machine.Mealy.Start),.im (nL (cL cI) r.2.machine.Mealy.Next),.im (nL (cL cI) r.2.machine.Mealy.Out),.im (nI r.2.at_)]]):=by
 refine sp_of rfl [] rfl rfl rfl (Nat.le_of_ble_eq_true rfl) rfl fun hk=>?_
 replace h:=h hk.1 hk.2.1
 have z1:lZ r_.machine.Mealy.Next:=ok_len hk.1.2.2.1
 have z2:lZ r_.machine.Mealy.Out:=ok_len hk.1.2.2.2.1
 have z3:lZ w_:=ok_len hk.2.1
 unfold mealy_runner_run at h
 conv=>whnf
 refine Nf.mk (List.length w_) len_map ?_
 conv=>whnf
 obtain ⟨⟨y71,y72⟩,hc,hk51⟩:=bind_some h
 clear h
 have h:=hc
 clear hc
 refine Cut.mk (mkSt [(0,.own 0 0 0),(5,.osl 65 1)] [(0,.box 75 5),(65,.row 3 1 (List.map cI y72))] [(0,0,.im (nI r_.machine.Mealy.Inputs)),(0,1,.im (nI r_.machine.Mealy.Start)),(0,2,.im (nL (cL cI) r_.machine.Mealy.Next)),(0,3,.im (nL (cL cI) r_.machine.Mealy.Out)),(0,4,.im (nI y71))]) (lZ r_.machine.Mealy.Next∧lZ r_.machine.Mealy.Out∧lZ y72∧True) ((Holds.cel 0 2 rfl (by decide) rfl).and ((Holds.cel 0 3 rfl (by decide) rfl).and ((Holds.kdl 65 rfl).and (hT)))) ?_ (fun hp=>?_)
 conv=>whnf
 refine Loops.iter (fun (s:Int×List Int×Nat)=>mealy_runner_run.s2 r_ w_ s.1 s.2.1 s.2.2) (fun (y76,y77,y78)=>mkSt [(0,.own 0 0 0),(5,.osl 65 1),(10,.im (nL cI w_)),(11,.im (nI (↑(List.length w_):Int))),(12,.im (nI (↑y78:Int)))] [(0,.box 75 5),(65,.row 3 1 (List.map cI y77))] [(0,0,.im (nI r_.machine.Mealy.Inputs)),(0,1,.im (nI r_.machine.Mealy.Start)),(0,2,.im (nL (cL cI) r_.machine.Mealy.Next)),(0,3,.im (nL (cL cI) r_.machine.Mealy.Out)),(0,4,.im (nI y76))]) (fun (y76,y77,y78)=>lZ w_∧lZ r_.machine.Mealy.Next∧lZ r_.machine.Mealy.Out∧lZ y77∧True) h (eA [(0,some 0),(65,none)]) (by rintro ⟨y76,y77,y78⟩;exact ((Holds.avl 10 rfl).and ((Holds.cel 0 2 rfl (by decide) rfl).and ((Holds.cel 0 3 rfl (by decide) rfl).and ((Holds.kdl 65 rfl).and (hT)))))) ?_
 clear h
 rintro k ⟨y76,y77,y78⟩ o hp h ho83
 replace h:mealy_runner_run.s2 r_ w_ y76 y77 y78=some o:=h
 unfold mealy_runner_run.s2 at h
 obtain ⟨z88,z89,z90,z91,_⟩:=hp
 conv=>whnf
 refine Both.mk ?_ ?_<;>intro b84
 obtain ⟨h,b84d⟩:=ctd b84 h
 conv=>whnf
 obtain ⟨e85,he85,h⟩:=idxn_some h
 refine ⟨_,⟨(by omega),map_at he85,rfl⟩,?_⟩
 conv=>whnf
 refine Side.mk rfl ?_
 conv=>whnf
 refine Side.mk rfl ?_
 conv=>whnf
 refine Side.mk rfl ?_
 conv=>whnf
 refine Side.mk rfl ?_
 conv=>whnf
 refine Side.mk rfl ?_
 conv=>whnf
 refine Side.mk rfl ?_
 conv=>whnf
 obtain ⟨c86,hc86,h⟩:=bind_some h
 refine ⟨_,(sp_mealy_machine_move r_.machine y76 e85 c86 (fun _ _ _=>hc86)),?_⟩
 conv=>whnf
 refine Side.mk rfl ?_
 conv=>whnf
 refine Side.mk rfl ?_
 conv=>whnf
 refine Side.mk rfl ?_
 conv=>whnf
 obtain ⟨c87,h⟩:=chk_some h
 refine Side.mk ⟨rfl,map_len (l:=[c86.2]) (c:=cI) fun _=>rfl,show capOk _ 8 by simpa only [List.length_map,List.length_cons,List.length_nil,Nat.zero_add] using c87⟩ ?_
 conv=>whnf
 refine Nf.mk (List.map cI (y77++[c86.2])) (app_map (l:=y77) (m:=[c86.2]) (c:=cI)) ?_
 conv=>whnf
 refine Arith.mk (by show inR _;unfold inR;omega) ?_
 conv=>whnf
 cases h
 exact Nxt.mk _ ho83 (eA [(0,some 0),(65,some 65)])
 obtain ⟨h,b84d⟩:=cfd b84 h
 conv=>whnf
 cases h
 have ho83:_=_:=ho83
 cases ho83
 exact Join.mk (eA [(0,some 0),(65,some 65)])
 replace h:mealy_runner_run.k3 r_ y71 y72=some _:=hk51
 unfold mealy_runner_run.k3 at h
 obtain ⟨z92,z93,z94,_⟩:=hp
 conv=>whnf
 cases h
 conv=>whnf
 exact Side.mk ⟨rfl,rfl,trivial⟩ ⟨rfl,rfl⟩
theorem sp_mealy_Valid (m_:T_api_Mealy) (r:Int) (h:Ok (.agg (c_api_Mealy m_))→mealy_Valid m_=some r):Sp Try.prog 38 [.im (.agg (c_api_Mealy m_))] (.im (nI r)):=by
 refine sp_of rfl [700001] rfl rfl rfl (Nat.le_of_ble_eq_true rfl) rfl fun hk=>?_
 replace h:=h hk.1
 have z1:lZ m_.Next:=ok_len (Ok.agg_at hk.1 2 rfl)
 have z2:lZ m_.Out:=ok_len (Ok.agg_at hk.1 3 rfl)
 unfold mealy_Valid at h
 conv=>whnf
 refine Nf.mk (List.length m_.Next) len_map ?_
 conv=>whnf
 obtain ⟨y54,hc,hk52⟩:=bind_some h
 clear h
 have h:=hc
 clear hc
 refine Cut.mk (mkSt [(1,.im (.ref (c_api_Mealy m_))),(3,.im (nI (↑(List.length m_.Next):Int))),(11,.im (nB y54))] [] []) (True) (hT) ?_ (fun hp=>?_)
 conv=>whnf
 refine Both.mk ?_ ?_<;>intro b55
 replace b55:=beq_ff b55
 obtain ⟨h,b55d⟩:=cfd b55 h
 conv=>whnf
 iterate 2 (refine Both.yes (ff_beq b55) ?_;(conv=>whnf))
 refine Both.no b55 ?_
 conv=>whnf
 cases h
 exact Join.mk (eA [])
 replace b55:=beq_ft b55
 obtain ⟨h,b55d⟩:=ctd b55 h
 conv=>whnf
 iterate 2 (refine Both.no (tf_beq b55) ?_;(conv=>whnf))
 refine Both.yes b55 ?_
 conv=>whnf
 cases h
 exact Join.mk (eA [])
 replace h:=hk52
 conv=>whnf
 refine Both.mk ?_ ?_<;>intro b56
 replace h:=cond_t b56 h
 conv=>whnf
 cases h
 conv=>whnf
 exact ⟨rfl,rfl⟩
 replace h:=cond_f b56 h
 conv=>whnf
 refine Both.mk ?_ ?_<;>intro b57
 obtain ⟨h,b57d⟩:=ctd b57 h
 conv=>whnf
 cases h
 conv=>whnf
 exact ⟨rfl,rfl⟩
 obtain ⟨h,b57d⟩:=cfd b57 h
 conv=>whnf
 refine Both.mk ?_ ?_<;>intro b58
 obtain ⟨h,b58d⟩:=ctd b58 h
 conv=>whnf
 cases h
 conv=>whnf
 exact ⟨rfl,rfl⟩
 obtain ⟨h,b58d⟩:=cfd b58 h
 conv=>whnf
 obtain ⟨y62,hc,hk60⟩:=bind_some h
 clear h
 have h:=hc
 clear hc
 refine Cut.mk (mkSt [(1,.im (.ref (c_api_Mealy m_))),(3,.im (nI (↑(List.length m_.Next):Int))),(26,.im (nB y62))] [] []) (True) (hT) ?_ (fun hp=>?_)
 conv=>whnf
 refine Both.mk ?_ ?_<;>intro b63
 replace b63:=beq_ff b63
 obtain ⟨h,b63d⟩:=cfd b63 h
 conv=>whnf
 iterate 3 (refine Both.yes (ff_beq b63) ?_;(conv=>whnf))
 refine Both.no b63 ?_
 conv=>whnf
 cases h
 exact Join.mk (eA [])
 replace b63:=beq_ft b63
 obtain ⟨h,b63d⟩:=ctd b63 h
 conv=>whnf
 iterate 3 (refine Both.no (tf_beq b63) ?_;(conv=>whnf))
 refine Both.yes b63 ?_
 conv=>whnf
 cases h
 exact Join.mk (eA [])
 replace h:=hk60
 conv=>whnf
 refine Both.mk ?_ ?_<;>intro b64
 replace h:=cond_t b64 h
 conv=>whnf
 cases h
 conv=>whnf
 exact ⟨rfl,rfl⟩
 replace h:=cond_f b64 h
 conv=>whnf
 refine Nf.mk (List.length m_.Out) len_map ?_
 conv=>whnf
 refine Both.mk ?_ ?_<;>intro b65
 obtain ⟨h,b65d⟩:=ctd b65 h
 conv=>whnf
 cases h
 conv=>whnf
 exact ⟨rfl,rfl⟩
 obtain ⟨h,b65d⟩:=cfd b65 h
 conv=>whnf
 obtain ⟨oc,hc,hk66⟩:=bind_some h
 clear h
 have h:=hc
 clear hc
 refine Cut.mkS oc (Y:=Unit) (fun (_:Unit)=>mkSt [] [] []) (fun (_:Unit)=>True) (by rintro ⟨⟩;exact (hT)) ?_ ?_
 conv=>whnf
 refine Loops.iter (fun (s:Nat)=>mealy_Valid.s14 m_ s) (fun y509=>mkSt [(1,.im (.ref (c_api_Mealy m_))),(3,.im (nI (↑(List.length m_.Next):Int))),(42,.im (nI (↑(List.length m_.Next):Int))),(43,.im (nI (↑y509:Int)))] [] []) (fun y509=>True) h (eA []) (by rintro y509;exact (hT)) ?_
 clear h
 rintro k y509 o hp h ho620
 replace h:mealy_Valid.s14 m_ y509=some o:=h
 unfold mealy_Valid.s14 at h
 conv=>whnf
 refine Both.mk ?_ ?_<;>intro b621
 obtain ⟨h,b621d⟩:=ctd b621 h
 conv=>whnf
 obtain ⟨y627,hc,hk623⟩:=bind_some h
 clear h
 have h:=hc
 clear hc
 refine Cut.mk (mkSt [(1,.im (.ref (c_api_Mealy m_))),(3,.im (nI (↑(List.length m_.Next):Int))),(4,.im (nI (↑y509:Int))),(42,.im (nI (↑(List.length m_.Next):Int))),(43,.im (nI (↑y509:Int))),(65,.im (nB y627))] [] []) (True) (hT) ?_ (fun hp=>?_)
 conv=>whnf
 obtain ⟨e628,he628,h⟩:=idxn_some h
 refine ⟨_,⟨(by omega),map_at he628,rfl⟩,?_⟩
 conv=>whnf
 refine Nf.mk (List.length e628) len_map ?_
 conv=>whnf
 refine Both.mk ?_ ?_<;>intro b629
 replace b629:=beq_ff b629
 obtain ⟨h,b629d⟩:=cfd b629 h
 conv=>whnf
 iterate 3 (refine Both.yes (ff_beq b629) ?_;(conv=>whnf))
 obtain ⟨e630,he630,h⟩:=idxn_some h
 refine ⟨_,⟨(by omega),map_at he630,rfl⟩,?_⟩
 conv=>whnf
 iterate 2 (refine Both.yes (ff_beq b629) ?_;(conv=>whnf))
 refine Nf.mk (List.length e630) len_map ?_
 conv=>whnf
 iterate 3 (refine Both.yes (ff_beq b629) ?_;(conv=>whnf))
 refine Both.no b629 ?_
 conv=>whnf
 cases h
 exact Join.mk (eA [])
 replace b629:=beq_ft b629
 obtain ⟨h,b629d⟩:=ctd b629 h
 conv=>whnf
 iterate 8 (refine Both.no (tf_beq b629) ?_;(conv=>whnf))
 refine Both.yes b629 ?_
 conv=>whnf
 cases h
 exact Join.mk (eA [])
 replace h:=hk623
 conv=>whnf
 refine Both.mk ?_ ?_<;>intro b631
 replace h:=cond_t b631 h
 conv=>whnf
 cases h
 have ho620:_=_:=ho620
 cases ho620
 replace h:some _=some _:=hk66
 cases h
 conv=>whnf
 exact ⟨rfl,rfl⟩
 replace h:=cond_f b631 h
 conv=>whnf
 obtain ⟨oc,hc,hk632⟩:=bind_some h
 clear h
 have h:=hc
 clear hc
 refine Cut.mkS oc (Y:=Unit) (fun (_:Unit)=>mkSt [(1,.im (.ref (c_api_Mealy m_))),(3,.im (nI (↑(List.length m_.Next):Int))),(42,.im (nI (↑(List.length m_.Next):Int))),(43,.im (nI (↑y509:Int)))] [] []) (fun (_:Unit)=>True) (by rintro ⟨⟩;exact (hT)) ?_ ?_
 conv=>whnf
 refine Loops.iter (fun (s:Nat)=>mealy_Valid.s13 m_ y509 s) (fun y697=>mkSt [(1,.im (.ref (c_api_Mealy m_))),(3,.im (nI (↑(List.length m_.Next):Int))),(4,.im (nI (↑y509:Int))),(42,.im (nI (↑(List.length m_.Next):Int))),(43,.im (nI (↑y509:Int))),(67,.im (nI m_.Inputs)),(68,.im (nI (↑y697:Int)))] [] []) (fun y697=>True) h (eA []) (by rintro y697;exact (hT)) ?_
 clear h
 rintro k y697 o hp h ho714
 replace h:mealy_Valid.s13 m_ y509 y697=some o:=h
 unfold mealy_Valid.s13 at h
 conv=>whnf
 refine Both.mk ?_ ?_<;>intro b715
 obtain ⟨h,b715d⟩:=ctd b715 h
 conv=>whnf
 obtain ⟨e716,he716,h⟩:=idxn_some h
 refine ⟨_,⟨(by omega),map_at he716,rfl⟩,?_⟩
 conv=>whnf
 obtain ⟨e717,he717,h⟩:=idxn_some h
 refine ⟨_,⟨(by omega),map_at he717,rfl⟩,?_⟩
 conv=>whnf
 obtain ⟨e718,he718,h⟩:=idxn_some h
 refine ⟨_,⟨(by omega),map_at he718,rfl⟩,?_⟩
 conv=>whnf
 obtain ⟨e719,he719,h⟩:=idxn_some h
 refine ⟨_,⟨(by omega),map_at he719,rfl⟩,?_⟩
 conv=>whnf
 obtain ⟨y725,hc,hk721⟩:=bind_some h
 clear h
 have h:=hc
 clear hc
 refine Cut.mk (mkSt [(1,.im (.ref (c_api_Mealy m_))),(3,.im (nI (↑(List.length m_.Next):Int))),(4,.im (nI (↑y509:Int))),(42,.im (nI (↑(List.length m_.Next):Int))),(43,.im (nI (↑y509:Int))),(67,.im (nI m_.Inputs)),(68,.im (nI (↑y697:Int))),(101,.im (nB y725))] [] []) (True) (hT) ?_ (fun hp=>?_)
 conv=>whnf
 refine Both.mk ?_ ?_<;>intro b726
 replace b726:=beq_ff b726
 obtain ⟨h,b726d⟩:=cfd b726 h
 conv=>whnf
 iterate 2 (refine Both.yes (ff_beq b726) ?_;(conv=>whnf))
 refine Both.no b726 ?_
 conv=>whnf
 refine Both.mk ?_ ?_<;>intro b727
 replace b727:=beq_ff b727
 obtain ⟨h,b727d⟩:=cfd b727 h
 conv=>whnf
 refine Both.yes (ff_beq b727) ?_
 conv=>whnf
 refine Both.no b727 ?_
 conv=>whnf
 refine Both.mk ?_ ?_<;>intro b728
 replace b728:=beq_ff b728
 obtain ⟨h,b728d⟩:=cfd b728 h
 conv=>whnf
 refine Both.yes (ff_beq b728) ?_
 conv=>whnf
 refine Both.no b728 ?_
 conv=>whnf
 cases h
 exact Join.mk (eA [])
 replace b728:=beq_ft b728
 obtain ⟨h,b728d⟩:=ctd b728 h
 conv=>whnf
 refine Both.no (tf_beq b728) ?_
 conv=>whnf
 refine Both.yes b728 ?_
 conv=>whnf
 cases h
 exact Join.mk (eA [])
 replace b727:=beq_ft b727
 obtain ⟨h,b727d⟩:=ctd b727 h
 conv=>whnf
 refine Both.no (tf_beq b727) ?_
 conv=>whnf
 refine Both.yes b727 ?_
 conv=>whnf
 iterate 2 (refine Both.no rfl ?_;(conv=>whnf))
 refine Both.yes rfl ?_
 conv=>whnf
 cases h
 exact Join.mk (eA [])
 replace b726:=beq_ft b726
 obtain ⟨h,b726d⟩:=ctd b726 h
 conv=>whnf
 iterate 2 (refine Both.no (tf_beq b726) ?_;(conv=>whnf))
 refine Both.yes b726 ?_
 conv=>whnf
 iterate 2 (refine Both.no rfl ?_;(conv=>whnf))
 refine Both.yes rfl ?_
 conv=>whnf
 iterate 2 (refine Both.no rfl ?_;(conv=>whnf))
 refine Both.yes rfl ?_
 conv=>whnf
 cases h
 exact Join.mk (eA [])
 replace h:=hk721
 conv=>whnf
 refine Both.mk ?_ ?_<;>intro b729
 replace h:=cond_t b729 h
 conv=>whnf
 cases h
 have ho714:_=_:=ho714
 cases ho714
 replace h:some _=some _:=hk632
 cases h
 have ho620:_=_:=ho620
 cases ho620
 replace h:some _=some _:=hk66
 cases h
 conv=>whnf
 exact ⟨rfl,rfl⟩
 replace h:=cond_f b729 h
 conv=>whnf
 obtain ⟨c730,h⟩:=chk_some h
 refine Arith.mk c730 ?_
 conv=>whnf
 cases h
 exact Nxt.mk _ ho714 (eA [])
 obtain ⟨h,b715d⟩:=cfd b715 h
 conv=>whnf
 cases h
 have ho714:_=_:=ho714
 cases ho714
 exact JoinS.mk' _ rfl (eA [])
 rintro ⟨⟩ rfl hp
 replace h:=sum_inl hk632
 conv=>whnf
 refine Arith.mk (by show inR _;unfold inR;omega) ?_
 conv=>whnf
 cases h
 exact Nxt.mk _ ho620 (eA [])
 obtain ⟨h,b621d⟩:=cfd b621 h
 conv=>whnf
 cases h
 have ho620:_=_:=ho620
 cases ho620
 exact JoinS.mk' _ rfl (eA [])
 rintro ⟨⟩ rfl hp
 replace h:=sum_inl hk66
 conv=>whnf
 cases h
 conv=>whnf
 exact ⟨rfl,rfl⟩
theorem sp_mealy_state (m_:T_api_Mealy) (s_:Int) (r:Int) (h:Ok (.agg (c_api_Mealy m_))→Ok (nI s_)→mealy_state m_ s_=some r):Sp Try.prog 43 [.im (.agg (c_api_Mealy m_)),.im (nI s_)] (.im (nI r)):=by
 refine sp_of rfl [700002] rfl rfl rfl (Nat.le_of_ble_eq_true rfl) rfl fun hk=>?_
 replace h:=h hk.1 hk.2.1
 have z1:lZ m_.Next:=ok_len (Ok.agg_at hk.1 2 rfl)
 have z2:lZ m_.Out:=ok_len (Ok.agg_at hk.1 3 rfl)
 unfold mealy_state at h
 conv=>whnf
 obtain ⟨c51,hc51,h⟩:=bind_some h
 refine ⟨_,(sp_mealy_Valid m_ c51 (fun _=>hc51)),?_⟩
 conv=>whnf
 refine Both.mk ?_ ?_<;>intro b52
 obtain ⟨h,b52d⟩:=ctd b52 h
 conv=>whnf
 cases h
 conv=>whnf
 exact ⟨rfl,rfl⟩
 obtain ⟨h,b52d⟩:=cfd b52 h
 conv=>whnf
 obtain ⟨y56,hc,hk54⟩:=bind_some h
 clear h
 have h:=hc
 clear hc
 refine Cut.mk (mkSt [(19,.im (nB y56))] [] []) (True) (hT) ?_ (fun hp=>?_)
 conv=>whnf
 refine Both.mk ?_ ?_<;>intro b57
 replace b57:=beq_ff b57
 obtain ⟨h,b57d⟩:=cfd b57 h
 conv=>whnf
 iterate 3 (refine Both.yes (ff_beq b57) ?_;(conv=>whnf))
 refine Nf.mk (List.length m_.Next) len_map ?_
 conv=>whnf
 refine Both.yes (ff_beq b57) ?_
 conv=>whnf
 refine Both.no b57 ?_
 conv=>whnf
 cases h
 exact Join.mk (eA [])
 replace b57:=beq_ft b57
 obtain ⟨h,b57d⟩:=ctd b57 h
 conv=>whnf
 iterate 4 (refine Both.no (tf_beq b57) ?_;(conv=>whnf))
 refine Both.yes b57 ?_
 conv=>whnf
 cases h
 exact Join.mk (eA [])
 replace h:=hk54
 conv=>whnf
 refine Both.mk ?_ ?_<;>intro b58
 replace h:=cond_t b58 h
 conv=>whnf
 cases h
 conv=>whnf
 exact ⟨rfl,rfl⟩
 replace h:=cond_f b58 h
 conv=>whnf
 cases h
 conv=>whnf
 exact ⟨rfl,rfl⟩
theorem sp_mealy_From (m_:T_api_Mealy) (s_:Int) (w_:List Int) (r:List Int×Int×Int) (h:Ok (.agg (c_api_Mealy m_))→Ok (nI s_)→Ok (nL cI w_)→mealy_From m_ s_ w_=some r):Sp Try.prog 18 [.im (.agg (c_api_Mealy m_)),.im (nI s_),.im (nL cI w_)] (.tup [nL cI r.1,nI r.2.1,nI r.2.2]):=by
 refine sp_of rfl [34000,700003] rfl rfl rfl (Nat.le_of_ble_eq_true rfl) rfl fun hk=>?_
 replace h:=h hk.1 hk.2.1 hk.2.2.1
 have z1:lZ m_.Next:=ok_len (Ok.agg_at hk.1 2 rfl)
 have z2:lZ m_.Out:=ok_len (Ok.agg_at hk.1 3 rfl)
 have z3:lZ w_:=ok_len hk.2.2.1
 unfold mealy_From at h
 conv=>whnf
 obtain ⟨c51,hc51,h⟩:=bind_some h
 refine ⟨_,(sp_mealy_state m_ s_ c51 (fun _ _=>hc51)),?_⟩
 conv=>whnf
 refine Both.mk ?_ ?_<;>intro b52
 obtain ⟨h,b52d⟩:=ctd b52 h
 conv=>whnf
 cases h
 conv=>whnf
 exact ⟨rfl,rfl⟩
 obtain ⟨h,b52d⟩:=cfd b52 h
 conv=>whnf
 obtain ⟨c53,hc53,h⟩:=bind_some h
 refine ⟨_,(sp_word_Check w_ m_.Inputs c53 (fun _ _=>hc53)),?_⟩
 conv=>whnf
 refine Both.mk ?_ ?_<;>intro b54
 obtain ⟨h,b54d⟩:=ctd b54 h
 conv=>whnf
 cases h
 conv=>whnf
 exact ⟨rfl,rfl⟩
 obtain ⟨h,b54d⟩:=cfd b54 h
 conv=>whnf
 refine Side.mk ⟨rfl,trivial⟩ ?_
 conv=>whnf
 obtain ⟨c55,hc55,h⟩:=bind_some h
 refine ⟨_,(sp_mealy_runner_run (⟨(⟨m_⟩:T_mealy_machine),s_⟩:T_mealy_runner) w_ c55 (fun _ _=>hc55)),?_⟩
 conv=>whnf
 refine Side.mk rfl ?_
 conv=>whnf
 refine Side.mk rfl ?_
 conv=>whnf
 refine Side.mk rfl ?_
 conv=>whnf
 cases h
 conv=>whnf
 exact ⟨rfl,rfl⟩
theorem sp_slices_Concat_Sint_int (slices_:List (List Int)) (r:List Int) (h:Ok (nL (cL cI) slices_)→slices_Concat_Sint_int slices_=some r):Sp Try.prog 71 [.im (nL (cL cI) slices_)] (.row 3 1 (List.map cI r)):=by
 refine sp_of rfl [4025000] rfl rfl rfl (Nat.le_of_ble_eq_true rfl) rfl fun hk=>?_
 replace h:=h hk.1
 have z1:lZ slices_:=ok_len hk.1
 unfold slices_Concat_Sint_int at h
 conv=>whnf
 refine Nf.mk (List.length slices_) len_map ?_
 conv=>whnf
 obtain ⟨size68,hc,hk51⟩:=bind_some h
 clear h
 have h:=hc
 clear hc
 refine Cut.mk (mkSt [(0,.im (nL (cL cI) slices_)),(3,.im (nI (↑size68:Int)))] [] []) (lZ slices_∧True) ((Holds.avl 0 rfl).and (hT)) ?_ (fun hp=>?_)
 conv=>whnf
 refine Loops.iter (fun (s:Nat×Nat)=>slices_Concat_Sint_int.s2 slices_ s.1 s.2) (fun (size73,y74)=>mkSt [(0,.im (nL (cL cI) slices_)),(3,.im (nI (↑size73:Int))),(9,.im (nL (cL cI) slices_)),(10,.im (nI (↑(List.length slices_):Int))),(11,.im (nI (↑y74:Int)))] [] []) (fun (size73,y74)=>lZ slices_∧True) h (eA []) (by rintro ⟨size73,y74⟩;exact ((Holds.avl 0 rfl).and (hT))) ?_
 clear h
 rintro k ⟨size73,y74⟩ o hp h ho79
 replace h:slices_Concat_Sint_int.s2 slices_ size73 y74=some o:=h
 unfold slices_Concat_Sint_int.s2 at h
 obtain ⟨z84,_⟩:=hp
 conv=>whnf
 refine Both.mk ?_ ?_<;>intro b80
 obtain ⟨h,b80d⟩:=ctd b80 h
 conv=>whnf
 obtain ⟨e81,he81,h⟩:=idxn_some h
 refine ⟨_,⟨(by omega),map_at he81,rfl⟩,?_⟩
 conv=>whnf
 refine Nf.mk (List.length e81) len_map ?_
 conv=>whnf
 obtain ⟨c82,h⟩:=chk_some h
 refine Arith.mk c82 ?_
 conv=>whnf
 refine Both.mk ?_ ?_<;>intro b83
 obtain ⟨h,b83d⟩:=ctd b83 h
 conv=>whnf
 cases h
 obtain ⟨h,b83d⟩:=cfd b83 h
 conv=>whnf
 refine Arith.mk (by show inR _;unfold inR;omega) ?_
 conv=>whnf
 cases h
 exact Nxt.mk _ ho79 (eA [])
 obtain ⟨h,b80d⟩:=cfd b80 h
 conv=>whnf
 cases h
 have ho79:_=_:=ho79
 cases ho79
 exact Join.mk (eA [])
 replace h:=hk51
 obtain ⟨z85,_⟩:=hp
 conv=>whnf
 obtain ⟨c86,hc86,h⟩:=bind_some h
 refine ⟨_,(sp_lib_Grow_int (↑size68:Int) c86 (hc86)),?_⟩
 conv=>whnf
 refine Nf.mk (List.length slices_) len_map ?_
 conv=>whnf
 obtain ⟨y102,hc,hk87⟩:=bind_some h
 clear h
 have h:=hc
 clear hc
 refine Cut.mk (mkSt [(6,.osl 64 1)] [(64,.row 3 1 (List.map cI y102))] []) (lZ y102∧True) ((Holds.kdl 64 rfl).and (hT)) ?_ (fun hp=>?_)
 conv=>whnf
 refine Loops.iter (fun (s:List Int×Nat)=>slices_Concat_Sint_int.s4 slices_ s.1 s.2) (fun (y106,y107)=>mkSt [(6,.osl 64 1),(25,.im (nL (cL cI) slices_)),(26,.im (nI (↑(List.length slices_):Int))),(27,.im (nI (↑y107:Int)))] [(64,.row 3 1 (List.map cI y106))] []) (fun (y106,y107)=>lZ slices_∧lZ y106∧True) h (eA [(64,some 24)]) (by rintro ⟨y106,y107⟩;exact ((Holds.avl 25 rfl).and ((Holds.kdl 64 rfl).and (hT)))) ?_
 clear h
 rintro k ⟨y106,y107⟩ o hp h ho111
 replace h:slices_Concat_Sint_int.s4 slices_ y106 y107=some o:=h
 unfold slices_Concat_Sint_int.s4 at h
 obtain ⟨z115,z116,_⟩:=hp
 conv=>whnf
 refine Both.mk ?_ ?_<;>intro b112
 obtain ⟨h,b112d⟩:=ctd b112 h
 conv=>whnf
 obtain ⟨e113,he113,h⟩:=idxn_some h
 refine ⟨_,⟨(by omega),map_at he113,rfl⟩,?_⟩
 conv=>whnf
 obtain ⟨c114,h⟩:=chk_some h
 refine Side.mk ⟨rfl,map_len (l:=e113) (c:=cI) fun _=>rfl,show capOk _ 8 by simpa only [List.length_map,List.length_cons,List.length_nil,Nat.zero_add] using c114⟩ ?_
 conv=>whnf
 refine Nf.mk (List.map cI (y106++e113)) (app_map (l:=y106) (m:=e113) (c:=cI)) ?_
 conv=>whnf
 refine Arith.mk (by show inR _;unfold inR;omega) ?_
 conv=>whnf
 cases h
 exact Nxt.mk _ ho111 (eA [(64,some 64)])
 obtain ⟨h,b112d⟩:=cfd b112 h
 conv=>whnf
 cases h
 have ho111:_=_:=ho111
 cases ho111
 exact Join.mk (eA [(64,some 64)])
 replace h:=hk87
 obtain ⟨z117,_⟩:=hp
 conv=>whnf
 cases h
 conv=>whnf
 exact Side.mk ⟨rfl,trivial⟩ ⟨rfl,rfl⟩
theorem sp_word_Join (parts_:List (List Int)) (r:List Int) (h:Ok (nL (cL cI) parts_)→word_Join parts_=some r):Sp Try.prog 47 [.im (nL (cL cI) parts_)] (.im (nL cI r)):=by
 refine sp_of rfl [] rfl rfl rfl (Nat.le_of_ble_eq_true rfl) rfl fun hk=>?_
 replace h:=h hk.1
 have z1:lZ parts_:=ok_len hk.1
 unfold word_Join at h
 conv=>whnf
 obtain ⟨c51,hc51,h⟩:=bind_some h
 refine ⟨_,(sp_slices_Concat_Sint_int parts_ c51 (fun _=>hc51)).im,?_⟩
 conv=>whnf
 cases h
 conv=>whnf
 exact ⟨rfl,rfl⟩
theorem sp_hsuite_behind (u_:List Int) (tails_:List (List Int)) (r:List (List Int)) (h:Ok (nL cI u_)→Ok (nL (cL cI) tails_)→hsuite_behind u_ tails_=some r):Sp Try.prog 35 [.im (nL cI u_),.im (nL (cL cI) tails_)] (.row 26 1 (List.map (cL cI) r)):=by
 refine sp_of rfl [] rfl rfl rfl (Nat.le_of_ble_eq_true rfl) rfl fun hk=>?_
 replace h:=h hk.1 hk.2.1
 have z1:lZ u_:=ok_len hk.1
 have z2:lZ tails_:=ok_len hk.2.1
 unfold hsuite_behind at h
 conv=>whnf
 refine Nf.mk (List.length tails_) len_map ?_
 conv=>whnf
 obtain ⟨y69,hc,hk51⟩:=bind_some h
 clear h
 have h:=hc
 clear hc
 refine Cut.mk (mkSt [(5,.osl 64 1)] [(64,.row 26 1 (List.map (cL cI) y69))] []) (lZ y69∧True) ((Holds.kdl 64 rfl).and (hT)) ?_ (fun hp=>?_)
 conv=>whnf
 refine Loops.iter (fun (s:List (List Int)×Nat)=>hsuite_behind.s2 u_ tails_ s.1 s.2) (fun (y73,y74)=>mkSt [(0,.im (nL cI u_)),(5,.osl 64 1),(8,.im (nL (cL cI) tails_)),(9,.im (nI (↑(List.length tails_):Int))),(10,.im (nI (↑y74:Int)))] [(64,.row 26 1 (List.map (cL cI) y73))] []) (fun (y73,y74)=>lZ u_∧lZ tails_∧lZ y73∧True) h (eA [(64,none)]) (by rintro ⟨y73,y74⟩;exact ((Holds.avl 0 rfl).and ((Holds.avl 8 rfl).and ((Holds.kdl 64 rfl).and (hT))))) ?_
 clear h
 rintro k ⟨y73,y74⟩ o hp h ho79
 replace h:hsuite_behind.s2 u_ tails_ y73 y74=some o:=h
 unfold hsuite_behind.s2 at h
 obtain ⟨z84,z85,z86,_⟩:=hp
 conv=>whnf
 refine Both.mk ?_ ?_<;>intro b80
 obtain ⟨h,b80d⟩:=ctd b80 h
 conv=>whnf
 obtain ⟨e81,he81,h⟩:=idxn_some h
 refine ⟨_,⟨(by omega),map_at he81,rfl⟩,?_⟩
 conv=>whnf
 obtain ⟨c82,hc82,h⟩:=bind_some h
 refine ⟨_,(sp_word_Join [u_,e81] c82 (fun _=>hc82)),?_⟩
 conv=>whnf
 obtain ⟨c83,h⟩:=chk_some h
 refine Side.mk ⟨rfl,map_len (l:=[c82]) (c:=cL cI) fun _=>rfl,show capOk _ 24 by simpa only [List.length_map,List.length_cons,List.length_nil,Nat.zero_add] using c83⟩ ?_
 conv=>whnf
 refine Nf.mk (List.map (cL cI) (y73++[c82])) (app_map (l:=y73) (m:=[c82]) (c:=cL cI)) ?_
 conv=>whnf
 refine Arith.mk (by show inR _;unfold inR;omega) ?_
 conv=>whnf
 cases h
 exact Nxt.mk _ ho79 (eA [(64,some 64)])
 obtain ⟨h,b80d⟩:=cfd b80 h
 conv=>whnf
 cases h
 have ho79:_=_:=ho79
 cases ho79
 exact Join.mk (eA [(64,some 64)])
 replace h:=hk51
 obtain ⟨z87,_⟩:=hp
 conv=>whnf
 cases h
 conv=>whnf
 exact Side.mk ⟨rfl,trivial⟩ ⟨rfl,rfl⟩
theorem sp_hsuite_Tails (m_:T_api_Mealy) (ids_:List (List (List Int))) (w_:List Int) (r:List (List Int)×Int) (h:Ok (.agg (c_api_Mealy m_))→Ok (nL (cL (cL cI)) ids_)→Ok (nL cI w_)→hsuite_Tails m_ ids_ w_=some r):Sp Try.prog 12 [.im (.agg (c_api_Mealy m_)),.im (nL (cL (cL cI)) ids_),.im (nL cI w_)] (.tup [nL (cL cI) r.1,nI r.2]):=by
 refine sp_of rfl [700003] rfl rfl rfl (Nat.le_of_ble_eq_true rfl) rfl fun hk=>?_
 replace h:=h hk.1 hk.2.1 hk.2.2.1
 have z1:lZ m_.Next:=ok_len (Ok.agg_at hk.1 2 rfl)
 have z2:lZ m_.Out:=ok_len (Ok.agg_at hk.1 3 rfl)
 have z3:lZ ids_:=ok_len hk.2.1
 have z4:lZ w_:=ok_len hk.2.2.1
 unfold hsuite_Tails at h
 conv=>whnf
 obtain ⟨c51,hc51,h⟩:=bind_some h
 refine ⟨_,(sp_mealy_From m_ m_.Start w_ c51 (fun _ _ _=>hc51)),?_⟩
 conv=>whnf
 refine Both.mk ?_ ?_<;>intro b52
 obtain ⟨h,b52d⟩:=ctd b52 h
 conv=>whnf
 cases h
 conv=>whnf
 exact ⟨rfl,rfl⟩
 obtain ⟨h,b52d⟩:=cfd b52 h
 conv=>whnf
 refine Nf.mk (List.length ids_) len_map ?_
 conv=>whnf
 refine Nf.mk (List.length m_.Next) len_map ?_
 conv=>whnf
 refine Both.mk ?_ ?_<;>intro b53
 obtain ⟨h,b53d⟩:=ctd b53 h
 conv=>whnf
 cases h
 conv=>whnf
 exact ⟨rfl,rfl⟩
 obtain ⟨h,b53d⟩:=cfd b53 h
 conv=>whnf
 obtain ⟨e54,he54z,he54,h⟩:=idx_some h
 refine ⟨_,⟨he54z,map_at he54,rfl⟩,?_⟩
 conv=>whnf
 refine Nf.mk (List.length e54) len_map ?_
 conv=>whnf
 refine Both.mk ?_ ?_<;>intro b55
 obtain ⟨h,b55d⟩:=ctd b55 h
 conv=>whnf
 cases h
 conv=>whnf
 exact ⟨rfl,rfl⟩
 obtain ⟨h,b55d⟩:=cfd b55 h
 conv=>whnf
 obtain ⟨e56,he56z,he56,h⟩:=idx_some h
 refine ⟨_,⟨he56z,map_at he56,rfl⟩,?_⟩
 conv=>whnf
 obtain ⟨c57,hc57,h⟩:=bind_some h
 refine ⟨_,(sp_hsuite_behind [] e56 c57 (fun _ _=>hc57)).im,?_⟩
 conv=>whnf
 cases h
 conv=>whnf
 exact ⟨rfl,rfl⟩
theorem sp_R06_row (m_:T_api_Mealy) (s_:Int) (r:Int) (h:Ok (.agg (c_api_Mealy m_))→Ok (nI s_)→R06_row m_ s_=some r):Sp Try.prog 39 [.im (.agg (c_api_Mealy m_)),.im (nI s_)] (.im (nI r)):=by
 refine sp_of rfl [700002] rfl rfl rfl (Nat.le_of_ble_eq_true rfl) rfl fun hk=>?_
 replace h:=h hk.1 hk.2.1
 have z1:lZ m_.Next:=ok_len (Ok.agg_at hk.1 2 rfl)
 have z2:lZ m_.Out:=ok_len (Ok.agg_at hk.1 3 rfl)
 unfold R06_row at h
 conv=>whnf
 obtain ⟨y56,hc,hk52⟩:=bind_some h
 clear h
 have h:=hc
 clear hc
 refine Cut.mk (mkSt [(1,.im (nI s_)),(2,.im (.ref (c_api_Mealy m_))),(25,.im (nB y56))] [] []) (True) (hT) ?_ (fun hp=>?_)
 conv=>whnf
 obtain ⟨e57,he57z,he57,h⟩:=idx_some h
 refine ⟨_,⟨he57z,map_at he57,rfl⟩,?_⟩
 conv=>whnf
 refine Nf.mk (List.length e57) len_map ?_
 conv=>whnf
 refine Both.mk ?_ ?_<;>intro b58
 replace b58:=beq_ff b58
 obtain ⟨h,b58d⟩:=cfd b58 h
 conv=>whnf
 iterate 3 (refine Both.yes (ff_beq b58) ?_;(conv=>whnf))
 obtain ⟨e59,he59z,he59,h⟩:=idx_some h
 refine ⟨_,⟨he59z,map_at he59,rfl⟩,?_⟩
 conv=>whnf
 iterate 2 (refine Both.yes (ff_beq b58) ?_;(conv=>whnf))
 refine Nf.mk (List.length e59) len_map ?_
 conv=>whnf
 iterate 3 (refine Both.yes (ff_beq b58) ?_;(conv=>whnf))
 refine Both.no b58 ?_
 conv=>whnf
 cases h
 exact Join.mk (eA [])
 replace b58:=beq_ft b58
 obtain ⟨h,b58d⟩:=ctd b58 h
 conv=>whnf
 iterate 8 (refine Both.no (tf_beq b58) ?_;(conv=>whnf))
 refine Both.yes b58 ?_
 conv=>whnf
 cases h
 exact Join.mk (eA [])
 replace h:=hk52
 conv=>whnf
 refine Both.mk ?_ ?_<;>intro b60
 replace h:=cond_t b60 h
 conv=>whnf
 cases h
 conv=>whnf
 exact ⟨rfl,rfl⟩
 replace h:=cond_f b60 h
 conv=>whnf
 obtain ⟨oc,hc,hk61⟩:=bind_some h
 clear h
 have h:=hc
 clear hc
 refine Cut.mkS oc (Y:=Unit) (fun (_:Unit)=>mkSt [] [] []) (fun (_:Unit)=>True) (by rintro ⟨⟩;exact (hT)) ?_ ?_
 conv=>whnf
 refine Loops.iter (fun (s:Nat)=>R06_row.s2 m_ s_ s) (fun a174=>mkSt [(1,.im (nI s_)),(2,.im (.ref (c_api_Mealy m_))),(5,.im (nI (↑a174:Int)))] [] []) (fun a174=>True) h (eA []) (by rintro a174;exact (hT)) ?_
 clear h
 rintro k a174 o hp h ho203
 replace h:R06_row.s2 m_ s_ a174=some o:=h
 unfold R06_row.s2 at h
 conv=>whnf
 refine Both.mk ?_ ?_<;>intro b204
 obtain ⟨h,b204d⟩:=ctd b204 h
 conv=>whnf
 obtain ⟨y218,hc,hk206⟩:=bind_some h
 clear h
 have h:=hc
 clear hc
 refine Cut.mk (mkSt [(1,.im (nI s_)),(2,.im (.ref (c_api_Mealy m_))),(5,.im (nI (↑a174:Int))),(76,.im (nB y218))] [] []) (True) (hT) ?_ (fun hp=>?_)
 conv=>whnf
 obtain ⟨e219,he219z,he219,h⟩:=idx_some h
 refine ⟨_,⟨he219z,map_at he219,rfl⟩,?_⟩
 conv=>whnf
 obtain ⟨e220,he220,h⟩:=idxn_some h
 refine ⟨_,⟨(by omega),map_at he220,rfl⟩,?_⟩
 conv=>whnf
 refine Both.mk ?_ ?_<;>intro b221
 replace b221:=beq_ff b221
 obtain ⟨h,b221d⟩:=cfd b221 h
 conv=>whnf
 iterate 3 (refine Both.yes (ff_beq b221) ?_;(conv=>whnf))
 obtain ⟨e222,he222z,he222,h⟩:=idx_some h
 refine ⟨_,⟨he222z,map_at he222,rfl⟩,?_⟩
 conv=>whnf
 iterate 3 (refine Both.yes (ff_beq b221) ?_;(conv=>whnf))
 obtain ⟨e223,he223,h⟩:=idxn_some h
 refine ⟨_,⟨(by omega),map_at he223,rfl⟩,?_⟩
 conv=>whnf
 iterate 4 (refine Both.yes (ff_beq b221) ?_;(conv=>whnf))
 refine Nf.mk (List.length m_.Next) len_map ?_
 conv=>whnf
 refine Both.yes (ff_beq b221) ?_
 conv=>whnf
 refine Both.no b221 ?_
 conv=>whnf
 refine Both.mk ?_ ?_<;>intro b224
 replace b224:=beq_ff b224
 obtain ⟨h,b224d⟩:=cfd b224 h
 conv=>whnf
 iterate 3 (refine Both.yes (ff_beq b224) ?_;(conv=>whnf))
 obtain ⟨e225,he225z,he225,h⟩:=idx_some h
 refine ⟨_,⟨he225z,map_at he225,rfl⟩,?_⟩
 conv=>whnf
 iterate 3 (refine Both.yes (ff_beq b224) ?_;(conv=>whnf))
 obtain ⟨e226,he226,h⟩:=idxn_some h
 refine ⟨_,⟨(by omega),map_at he226,rfl⟩,?_⟩
 conv=>whnf
 iterate 2 (refine Both.yes (ff_beq b224) ?_;(conv=>whnf))
 refine Both.no b224 ?_
 conv=>whnf
 refine Both.mk ?_ ?_<;>intro b227
 replace b227:=beq_ff b227
 obtain ⟨h,b227d⟩:=cfd b227 h
 conv=>whnf
 iterate 3 (refine Both.yes (ff_beq b227) ?_;(conv=>whnf))
 obtain ⟨e228,he228z,he228,h⟩:=idx_some h
 refine ⟨_,⟨he228z,map_at he228,rfl⟩,?_⟩
 conv=>whnf
 iterate 3 (refine Both.yes (ff_beq b227) ?_;(conv=>whnf))
 obtain ⟨e229,he229,h⟩:=idxn_some h
 refine ⟨_,⟨(by omega),map_at he229,rfl⟩,?_⟩
 conv=>whnf
 iterate 2 (refine Both.yes (ff_beq b227) ?_;(conv=>whnf))
 refine Both.no b227 ?_
 conv=>whnf
 cases h
 exact Join.mk (eA [])
 replace b227:=beq_ft b227
 obtain ⟨h,b227d⟩:=ctd b227 h
 conv=>whnf
 iterate 8 (refine Both.no (tf_beq b227) ?_;(conv=>whnf))
 refine Both.yes b227 ?_
 conv=>whnf
 cases h
 exact Join.mk (eA [])
 replace b224:=beq_ft b224
 obtain ⟨h,b224d⟩:=ctd b224 h
 conv=>whnf
 iterate 8 (refine Both.no (tf_beq b224) ?_;(conv=>whnf))
 refine Both.yes b224 ?_
 conv=>whnf
 iterate 9 (refine Both.no rfl ?_;(conv=>whnf))
 refine Both.yes rfl ?_
 conv=>whnf
 cases h
 exact Join.mk (eA [])
 replace b221:=beq_ft b221
 obtain ⟨h,b221d⟩:=ctd b221 h
 conv=>whnf
 iterate 11 (refine Both.no (tf_beq b221) ?_;(conv=>whnf))
 refine Both.yes b221 ?_
 conv=>whnf
 iterate 9 (refine Both.no rfl ?_;(conv=>whnf))
 refine Both.yes rfl ?_
 conv=>whnf
 iterate 9 (refine Both.no rfl ?_;(conv=>whnf))
 refine Both.yes rfl ?_
 conv=>whnf
 cases h
 exact Join.mk (eA [])
 replace h:=hk206
 conv=>whnf
 refine Both.mk ?_ ?_<;>intro b230
 replace h:=cond_t b230 h
 conv=>whnf
 cases h
 have ho203:_=_:=ho203
 cases ho203
 replace h:some _=some _:=hk61
 cases h
 conv=>whnf
 exact ⟨rfl,rfl⟩
 replace h:=cond_f b230 h
 conv=>whnf
 obtain ⟨c231,h⟩:=chk_some h
 refine Arith.mk c231 ?_
 conv=>whnf
 cases h
 exact Nxt.mk _ ho203 (eA [])
 obtain ⟨h,b204d⟩:=cfd b204 h
 conv=>whnf
 cases h
 have ho203:_=_:=ho203
 cases ho203
 exact JoinS.mk' _ rfl (eA [])
 rintro ⟨⟩ rfl hp
 replace h:=sum_inl hk61
 conv=>whnf
 cases h
 conv=>whnf
 exact ⟨rfl,rfl⟩
theorem sp_R06_Valid (m_:T_api_Mealy) (r:Int) (h:Ok (.agg (c_api_Mealy m_))→R06_Valid m_=some r):Sp Try.prog 16 [.im (.agg (c_api_Mealy m_))] (.im (nI r)):=by
 refine sp_of rfl [700001] rfl rfl rfl (Nat.le_of_ble_eq_true rfl) rfl fun hk=>?_
 replace h:=h hk.1
 have z1:lZ m_.Next:=ok_len (Ok.agg_at hk.1 2 rfl)
 have z2:lZ m_.Out:=ok_len (Ok.agg_at hk.1 3 rfl)
 unfold R06_Valid at h
 conv=>whnf
 obtain ⟨y54,hc,hk52⟩:=bind_some h
 clear h
 have h:=hc
 clear hc
 refine Cut.mk (mkSt [(1,.im (.ref (c_api_Mealy m_))),(12,.im (nB y54))] [] []) (True) (hT) ?_ (fun hp=>?_)
 conv=>whnf
 refine Both.mk ?_ ?_<;>intro b55
 replace b55:=beq_ff b55
 obtain ⟨h,b55d⟩:=cfd b55 h
 conv=>whnf
 iterate 2 (refine Both.yes (ff_beq b55) ?_;(conv=>whnf))
 refine Both.no b55 ?_
 conv=>whnf
 cases h
 exact Join.mk (eA [])
 replace b55:=beq_ft b55
 obtain ⟨h,b55d⟩:=ctd b55 h
 conv=>whnf
 iterate 2 (refine Both.no (tf_beq b55) ?_;(conv=>whnf))
 refine Both.yes b55 ?_
 conv=>whnf
 cases h
 exact Join.mk (eA [])
 replace h:=hk52
 conv=>whnf
 refine Both.mk ?_ ?_<;>intro b56
 replace h:=cond_t b56 h
 conv=>whnf
 cases h
 conv=>whnf
 exact ⟨rfl,rfl⟩
 replace h:=cond_f b56 h
 conv=>whnf
 refine Nf.mk (List.length m_.Next) len_map ?_
 conv=>whnf
 refine Both.mk ?_ ?_<;>intro b57
 obtain ⟨h,b57d⟩:=ctd b57 h
 conv=>whnf
 cases h
 conv=>whnf
 exact ⟨rfl,rfl⟩
 obtain ⟨h,b57d⟩:=cfd b57 h
 conv=>whnf
 refine Nf.mk (List.length m_.Next) len_map ?_
 conv=>whnf
 refine Both.mk ?_ ?_<;>intro b58
 obtain ⟨h,b58d⟩:=ctd b58 h
 conv=>whnf
 cases h
 conv=>whnf
 exact ⟨rfl,rfl⟩
 obtain ⟨h,b58d⟩:=cfd b58 h
 conv=>whnf
 obtain ⟨y62,hc,hk60⟩:=bind_some h
 clear h
 have h:=hc
 clear hc
 refine Cut.mk (mkSt [(1,.im (.ref (c_api_Mealy m_))),(31,.im (nB y62))] [] []) (True) (hT) ?_ (fun hp=>?_)
 conv=>whnf
 refine Both.mk ?_ ?_<;>intro b63
 replace b63:=beq_ff b63
 obtain ⟨h,b63d⟩:=cfd b63 h
 conv=>whnf
 iterate 4 (refine Both.yes (ff_beq b63) ?_;(conv=>whnf))
 refine Nf.mk (List.length m_.Next) len_map ?_
 conv=>whnf
 refine Both.yes (ff_beq b63) ?_
 conv=>whnf
 refine Both.no b63 ?_
 conv=>whnf
 cases h
 exact Join.mk (eA [])
 replace b63:=beq_ft b63
 obtain ⟨h,b63d⟩:=ctd b63 h
 conv=>whnf
 iterate 5 (refine Both.no (tf_beq b63) ?_;(conv=>whnf))
 refine Both.yes b63 ?_
 conv=>whnf
 cases h
 exact Join.mk (eA [])
 replace h:=hk60
 conv=>whnf
 refine Both.mk ?_ ?_<;>intro b64
 replace h:=cond_t b64 h
 conv=>whnf
 cases h
 conv=>whnf
 exact ⟨rfl,rfl⟩
 replace h:=cond_f b64 h
 conv=>whnf
 refine Nf.mk (List.length m_.Out) len_map ?_
 conv=>whnf
 refine Nf.mk (List.length m_.Next) len_map ?_
 conv=>whnf
 refine Both.mk ?_ ?_<;>intro b65
 obtain ⟨h,b65d⟩:=ctd b65 h
 conv=>whnf
 cases h
 conv=>whnf
 exact ⟨rfl,rfl⟩
 obtain ⟨h,b65d⟩:=cfd b65 h
 conv=>whnf
 obtain ⟨oc,hc,hk66⟩:=bind_some h
 clear h
 have h:=hc
 clear hc
 refine Cut.mkS oc (Y:=Unit) (fun (_:Unit)=>mkSt [] [] []) (fun (_:Unit)=>True) (by rintro ⟨⟩;exact (hT)) ?_ ?_
 conv=>whnf
 refine Loops.iter (fun (s:Nat)=>R06_Valid.s2 m_ s) (fun s81=>mkSt [(1,.im (.ref (c_api_Mealy m_))),(3,.im (nI (↑s81:Int)))] [] []) (fun s81=>True) h (eA []) (by rintro s81;exact (hT)) ?_
 clear h
 rintro k s81 o hp h ho85
 replace h:R06_Valid.s2 m_ s81=some o:=h
 unfold R06_Valid.s2 at h
 conv=>whnf
 refine Nf.mk (List.length m_.Next) len_map ?_
 conv=>whnf
 refine Both.mk ?_ ?_<;>intro b86
 obtain ⟨h,b86d⟩:=ctd b86 h
 conv=>whnf
 obtain ⟨c87,hc87,h⟩:=bind_some h
 refine ⟨_,(sp_R06_row m_ (↑s81:Int) c87 (fun _ _=>hc87)),?_⟩
 conv=>whnf
 refine Both.mk ?_ ?_<;>intro b88
 obtain ⟨h,b88d⟩:=ctd b88 h
 conv=>whnf
 cases h
 have ho85:_=_:=ho85
 cases ho85
 replace h:some _=some _:=hk66
 cases h
 conv=>whnf
 exact ⟨rfl,rfl⟩
 obtain ⟨h,b88d⟩:=cfd b88 h
 conv=>whnf
 refine Arith.mk (by show inR _;unfold inR;omega) ?_
 conv=>whnf
 cases h
 exact Nxt.mk _ ho85 (eA [])
 obtain ⟨h,b86d⟩:=cfd b86 h
 conv=>whnf
 cases h
 have ho85:_=_:=ho85
 cases ho85
 exact JoinS.mk' _ rfl (eA [])
 rintro ⟨⟩ rfl hp
 replace h:=sum_inl hk66
 conv=>whnf
 cases h
 conv=>whnf
 exact ⟨rfl,rfl⟩
theorem sp_R10_Same (a_:List (List Int)) (b_:List (List Int)) (r:Bool) (h:Ok (nL (cL cI) a_)→Ok (nL (cL cI) b_)→R10_Same a_ b_=some r):Sp Try.prog 14 [.im (nL (cL cI) a_),.im (nL (cL cI) b_)] (.im (nB r)):=by
 refine sp_of rfl [] rfl rfl rfl (Nat.le_of_ble_eq_true rfl) rfl fun hk=>?_
 replace h:=h hk.1 hk.2.1
 have z1:lZ a_:=ok_len hk.1
 have z2:lZ b_:=ok_len hk.2.1
 unfold R10_Same at h
 conv=>whnf
 refine Nf.mk (List.length a_) len_map ?_
 conv=>whnf
 refine Nf.mk (List.length b_) len_map ?_
 conv=>whnf
 refine Both.mk ?_ ?_<;>intro b51
 obtain ⟨h,b51d⟩:=ctd b51 h
 conv=>whnf
 cases h
 conv=>whnf
 exact ⟨rfl,rfl⟩
 obtain ⟨h,b51d⟩:=cfd b51 h
 conv=>whnf
 obtain ⟨oc,hc,hk52⟩:=bind_some h
 clear h
 have h:=hc
 clear hc
 refine Cut.mkS oc (Y:=Unit) (fun (_:Unit)=>mkSt [] [] []) (fun (_:Unit)=>True) (by rintro ⟨⟩;exact (hT)) ?_ ?_
 conv=>whnf
 refine Loops.iter (fun (s:Nat)=>R10_Same.s14 a_ b_ s) (fun i301=>mkSt [(0,.im (nL (cL cI) a_)),(1,.im (nL (cL cI) b_)),(5,.im (nI (↑i301:Int)))] [] []) (fun i301=>lZ a_∧lZ b_∧True) h (eA []) (by rintro i301;exact ((Holds.avl 0 rfl).and ((Holds.avl 1 rfl).and (hT)))) ?_
 clear h
 rintro k i301 o hp h ho363
 replace h:R10_Same.s14 a_ b_ i301=some o:=h
 unfold R10_Same.s14 at h
 obtain ⟨z425,z426,_⟩:=hp
 conv=>whnf
 refine Nf.mk (List.length a_) len_map ?_
 conv=>whnf
 refine Both.mk ?_ ?_<;>intro b364
 obtain ⟨h,b364d⟩:=ctd b364 h
 conv=>whnf
 obtain ⟨e365,he365,h⟩:=idxn_some h
 refine ⟨_,⟨(by omega),map_at he365,rfl⟩,?_⟩
 conv=>whnf
 refine Nf.mk (List.length e365) len_map ?_
 conv=>whnf
 obtain ⟨e366,he366,h⟩:=idxn_some h
 refine ⟨_,⟨(by omega),map_at he366,rfl⟩,?_⟩
 conv=>whnf
 refine Nf.mk (List.length e366) len_map ?_
 conv=>whnf
 refine Both.mk ?_ ?_<;>intro b367
 obtain ⟨h,b367d⟩:=ctd b367 h
 conv=>whnf
 cases h
 have ho363:_=_:=ho363
 cases ho363
 replace h:some _=some _:=hk52
 cases h
 conv=>whnf
 exact ⟨rfl,rfl⟩
 obtain ⟨h,b367d⟩:=cfd b367 h
 conv=>whnf
 obtain ⟨oc,hc,hk368⟩:=bind_some h
 clear h
 have h:=hc
 clear hc
 refine Cut.mkS oc (Y:=Unit) (fun (_:Unit)=>mkSt [(0,.im (nL (cL cI) a_)),(1,.im (nL (cL cI) b_)),(5,.im (nI (↑i301:Int)))] [] []) (fun (_:Unit)=>lZ a_∧lZ b_∧True) (by rintro ⟨⟩;exact ((Holds.avl 0 rfl).and ((Holds.avl 1 rfl).and (hT)))) ?_ ?_
 conv=>whnf
 refine Loops.iter (fun (s:Nat)=>R10_Same.s13 a_ b_ i301 s) (fun k403=>mkSt [(0,.im (nL (cL cI) a_)),(1,.im (nL (cL cI) b_)),(5,.im (nI (↑i301:Int))),(6,.im (nI (↑k403:Int)))] [] []) (fun k403=>lZ a_∧lZ b_∧True) h (eA []) (by rintro k403;exact ((Holds.avl 0 rfl).and ((Holds.avl 1 rfl).and (hT)))) ?_
 clear h
 rintro k k403 o hp h ho412
 replace h:R10_Same.s13 a_ b_ i301 k403=some o:=h
 unfold R10_Same.s13 at h
 obtain ⟨z421,z422,_⟩:=hp
 conv=>whnf
 obtain ⟨e413,he413,h⟩:=idxn_some h
 refine ⟨_,⟨(by omega),map_at he413,rfl⟩,?_⟩
 conv=>whnf
 refine Nf.mk (List.length e413) len_map ?_
 conv=>whnf
 refine Both.mk ?_ ?_<;>intro b414
 obtain ⟨h,b414d⟩:=ctd b414 h
 conv=>whnf
 obtain ⟨e415,he415,h⟩:=idxn_some h
 refine ⟨_,⟨(by omega),map_at he415,rfl⟩,?_⟩
 conv=>whnf
 obtain ⟨e416,he416,h⟩:=idxn_some h
 refine ⟨_,⟨(by omega),map_at he416,rfl⟩,?_⟩
 conv=>whnf
 obtain ⟨e417,he417,h⟩:=idxn_some h
 refine ⟨_,⟨(by omega),map_at he417,rfl⟩,?_⟩
 conv=>whnf
 obtain ⟨e418,he418,h⟩:=idxn_some h
 refine ⟨_,⟨(by omega),map_at he418,rfl⟩,?_⟩
 conv=>whnf
 refine Both.mk ?_ ?_<;>intro b419
 obtain ⟨h,b419d⟩:=ctd b419 h
 conv=>whnf
 cases h
 have ho412:_=_:=ho412
 cases ho412
 replace h:some _=some _:=hk368
 cases h
 have ho363:_=_:=ho363
 cases ho363
 replace h:some _=some _:=hk52
 cases h
 conv=>whnf
 exact ⟨rfl,rfl⟩
 obtain ⟨h,b419d⟩:=cfd b419 h
 conv=>whnf
 obtain ⟨c420,h⟩:=chk_some h
 refine Arith.mk c420 ?_
 conv=>whnf
 cases h
 exact Nxt.mk _ ho412 (eA [])
 obtain ⟨h,b414d⟩:=cfd b414 h
 conv=>whnf
 cases h
 have ho412:_=_:=ho412
 cases ho412
 exact JoinS.mk' _ rfl (eA [])
 rintro ⟨⟩ rfl hp
 replace h:=sum_inl hk368
 obtain ⟨z423,z424,_⟩:=hp
 conv=>whnf
 refine Arith.mk (by show inR _;unfold inR;omega) ?_
 conv=>whnf
 cases h
 exact Nxt.mk _ ho363 (eA [])
 obtain ⟨h,b364d⟩:=cfd b364 h
 conv=>whnf
 cases h
 have ho363:_=_:=ho363
 cases ho363
 exact JoinS.mk' _ rfl (eA [])
 rintro ⟨⟩ rfl hp
 replace h:=sum_inl hk52
 conv=>whnf
 cases h
 conv=>whnf
 exact ⟨rfl,rfl⟩
theorem sp_L08_Great (m_:T_api_Mealy) (r:Bool) (h:Ok (.agg (c_api_Mealy m_))→L08_Great m_=some r):Sp Try.prog 20 [.im (.agg (c_api_Mealy m_))] (.im (nB r)):=by
 refine sp_of rfl [700001] rfl rfl rfl (Nat.le_of_ble_eq_true rfl) rfl fun hk=>?_
 replace h:=h hk.1
 have z1:lZ m_.Next:=ok_len (Ok.agg_at hk.1 2 rfl)
 have z2:lZ m_.Out:=ok_len (Ok.agg_at hk.1 3 rfl)
 unfold L08_Great at h
 conv=>whnf
 obtain ⟨y55,hc,hk52⟩:=bind_some h
 clear h
 have h:=hc
 clear hc
 refine Cut.mk (mkSt [(1,.im (.ref (c_api_Mealy m_))),(19,.im (nB y55))] [] []) (True) (hT) ?_ (fun hp=>?_)
 conv=>whnf
 refine Nf.mk (List.length m_.Next) len_map ?_
 conv=>whnf
 refine Both.mk ?_ ?_<;>intro b56
 replace b56:=beq_ff b56
 obtain ⟨h,b56d⟩:=cfd b56 h
 conv=>whnf
 iterate 2 (refine Both.yes (ff_beq b56) ?_;(conv=>whnf))
 refine Nf.mk (List.length m_.Out) len_map ?_
 conv=>whnf
 refine Both.yes (ff_beq b56) ?_
 conv=>whnf
 refine Both.no b56 ?_
 conv=>whnf
 refine Both.mk ?_ ?_<;>intro b57
 replace b57:=beq_ff b57
 obtain ⟨h,b57d⟩:=cfd b57 h
 conv=>whnf
 iterate 2 (refine Both.yes (ff_beq b57) ?_;(conv=>whnf))
 refine Both.no b57 ?_
 conv=>whnf
 cases h
 exact Join.mk (eA [])
 replace b57:=beq_ft b57
 obtain ⟨h,b57d⟩:=ctd b57 h
 conv=>whnf
 iterate 2 (refine Both.no (tf_beq b57) ?_;(conv=>whnf))
 refine Both.yes b57 ?_
 conv=>whnf
 cases h
 exact Join.mk (eA [])
 replace b56:=beq_ft b56
 obtain ⟨h,b56d⟩:=ctd b56 h
 conv=>whnf
 iterate 3 (refine Both.no (tf_beq b56) ?_;(conv=>whnf))
 refine Both.yes b56 ?_
 conv=>whnf
 iterate 3 (refine Both.no rfl ?_;(conv=>whnf))
 refine Both.yes rfl ?_
 conv=>whnf
 cases h
 exact Join.mk (eA [])
 replace h:=hk52
 conv=>whnf
 refine Both.mk ?_ ?_<;>intro b58
 replace h:=cond_t b58 h
 conv=>whnf
 cases h
 conv=>whnf
 exact ⟨rfl,rfl⟩
 replace h:=cond_f b58 h
 conv=>whnf
 refine Nf.mk (List.length m_.Next) len_map ?_
 conv=>whnf
 obtain ⟨oc,hc,hk59⟩:=bind_some h
 clear h
 have h:=hc
 clear hc
 refine Cut.mkS oc (Y:=Unit) (fun (_:Unit)=>mkSt [(1,.im (.ref (c_api_Mealy m_)))] [] []) (fun (_:Unit)=>True) (by rintro ⟨⟩;exact (hT)) ?_ ?_
 conv=>whnf
 refine Loops.iter (fun (s:Nat)=>L08_Great.s2 m_ s) (fun y74=>mkSt [(1,.im (.ref (c_api_Mealy m_))),(22,.im (nI (↑(List.length m_.Next):Int))),(23,.im (nI (↑y74:Int)))] [] []) (fun y74=>True) h (eA []) (by rintro y74;exact (hT)) ?_
 clear h
 rintro k y74 o hp h ho78
 replace h:L08_Great.s2 m_ y74=some o:=h
 unfold L08_Great.s2 at h
 conv=>whnf
 refine Both.mk ?_ ?_<;>intro b79
 obtain ⟨h,b79d⟩:=ctd b79 h
 conv=>whnf
 obtain ⟨e80,he80,h⟩:=idxn_some h
 refine ⟨_,⟨(by omega),map_at he80,rfl⟩,?_⟩
 conv=>whnf
 refine Nf.mk (List.length e80) len_map ?_
 conv=>whnf
 refine Both.mk ?_ ?_<;>intro b81
 obtain ⟨h,b81d⟩:=ctd b81 h
 conv=>whnf
 cases h
 have ho78:_=_:=ho78
 cases ho78
 replace h:some _=some _:=hk59
 cases h
 conv=>whnf
 exact ⟨rfl,rfl⟩
 obtain ⟨h,b81d⟩:=cfd b81 h
 conv=>whnf
 refine Arith.mk (by show inR _;unfold inR;omega) ?_
 conv=>whnf
 cases h
 exact Nxt.mk _ ho78 (eA [])
 obtain ⟨h,b79d⟩:=cfd b79 h
 conv=>whnf
 cases h
 have ho78:_=_:=ho78
 cases ho78
 exact JoinS.mk' _ rfl (eA [])
 rintro ⟨⟩ rfl hp
 replace h:=sum_inl hk59
 conv=>whnf
 refine Nf.mk (List.length m_.Out) len_map ?_
 conv=>whnf
 obtain ⟨oc,hc,hk82⟩:=bind_some h
 clear h
 have h:=hc
 clear hc
 refine Cut.mkS oc (Y:=Unit) (fun (_:Unit)=>mkSt [] [] []) (fun (_:Unit)=>True) (by rintro ⟨⟩;exact (hT)) ?_ ?_
 conv=>whnf
 refine Loops.iter (fun (s:Nat)=>L08_Great.s4 m_ s) (fun y97=>mkSt [(1,.im (.ref (c_api_Mealy m_))),(36,.im (nI (↑(List.length m_.Out):Int))),(37,.im (nI (↑y97:Int)))] [] []) (fun y97=>True) h (eA []) (by rintro y97;exact (hT)) ?_
 clear h
 rintro k y97 o hp h ho101
 replace h:L08_Great.s4 m_ y97=some o:=h
 unfold L08_Great.s4 at h
 conv=>whnf
 refine Both.mk ?_ ?_<;>intro b102
 obtain ⟨h,b102d⟩:=ctd b102 h
 conv=>whnf
 obtain ⟨e103,he103,h⟩:=idxn_some h
 refine ⟨_,⟨(by omega),map_at he103,rfl⟩,?_⟩
 conv=>whnf
 refine Nf.mk (List.length e103) len_map ?_
 conv=>whnf
 refine Both.mk ?_ ?_<;>intro b104
 obtain ⟨h,b104d⟩:=ctd b104 h
 conv=>whnf
 cases h
 have ho101:_=_:=ho101
 cases ho101
 replace h:some _=some _:=hk82
 cases h
 conv=>whnf
 exact ⟨rfl,rfl⟩
 obtain ⟨h,b104d⟩:=cfd b104 h
 conv=>whnf
 refine Arith.mk (by show inR _;unfold inR;omega) ?_
 conv=>whnf
 cases h
 exact Nxt.mk _ ho101 (eA [])
 obtain ⟨h,b102d⟩:=cfd b102 h
 conv=>whnf
 cases h
 have ho101:_=_:=ho101
 cases ho101
 exact JoinS.mk' _ rfl (eA [])
 rintro ⟨⟩ rfl hp
 replace h:=sum_inl hk82
 conv=>whnf
 cases h
 conv=>whnf
 exact ⟨rfl,rfl⟩
theorem sp_L11_Small (m_:T_api_Mealy) (r:Bool) (h:Ok (.agg (c_api_Mealy m_))→L11_Small m_=some r):Sp Try.prog 10 [.im (.agg (c_api_Mealy m_))] (.im (nB r)):=by
 refine sp_of rfl [700001] rfl rfl rfl (Nat.le_of_ble_eq_true rfl) rfl fun hk=>?_
 replace h:=h hk.1
 have z1:lZ m_.Next:=ok_len (Ok.agg_at hk.1 2 rfl)
 have z2:lZ m_.Out:=ok_len (Ok.agg_at hk.1 3 rfl)
 unfold L11_Small at h
 conv=>whnf
 obtain ⟨y56,hc,hk52⟩:=bind_some h
 clear h
 have h:=hc
 clear hc
 refine Cut.mk (mkSt [(2,.im (nB y56))] [] []) (True) (hT) ?_ (fun hp=>?_)
 conv=>whnf
 obtain ⟨c57,hc57,h⟩:=bind_some h
 refine ⟨_,(sp_L08_Great m_ c57 (fun _=>hc57)),?_⟩
 conv=>whnf
 refine Both.mk ?_ ?_<;>intro b58
 replace b58:=beq_tt b58
 replace h:=cond_t b58 h
 conv=>whnf
 iterate 2 (refine Both.yes (tt_beq b58) ?_;(conv=>whnf))
 refine Nf.mk (List.length m_.Next) len_map ?_
 conv=>whnf
 refine Both.yes (tt_beq b58) ?_
 conv=>whnf
 refine Both.yes b58 ?_
 conv=>whnf
 refine Both.mk ?_ ?_<;>intro b59
 replace b59:=beq_tt b59
 obtain ⟨h,b59d⟩:=ctd b59 h
 conv=>whnf
 iterate 2 (refine Both.yes (tt_beq b59) ?_;(conv=>whnf))
 refine Both.yes b59 ?_
 conv=>whnf
 cases h
 exact Join.mk (eA [])
 replace b59:=beq_tf b59
 obtain ⟨h,b59d⟩:=cfd b59 h
 conv=>whnf
 iterate 2 (refine Both.no (ft_beq b59) ?_;(conv=>whnf))
 refine Both.no b59 ?_
 conv=>whnf
 cases h
 exact Join.mk (eA [])
 replace b58:=beq_tf b58
 replace h:=cond_f b58 h
 conv=>whnf
 iterate 3 (refine Both.no (ft_beq b58) ?_;(conv=>whnf))
 refine Both.no b58 ?_
 conv=>whnf
 iterate 4 (refine Both.no rfl ?_;(conv=>whnf))
 cases h
 exact Join.mk (eA [])
 replace h:=hk52
 conv=>whnf
 cases h
 conv=>whnf
 exact ⟨rfl,rfl⟩
theorem sp_hsuite_most (ids_:List (List (List Int))) (r:Int) (h:Ok (nL (cL (cL cI)) ids_)→hsuite_most ids_=some r):Sp Try.prog 51 [.im (nL (cL (cL cI)) ids_)] (.im (nI r)):=by
 refine sp_of rfl [] rfl rfl rfl (Nat.le_of_ble_eq_true rfl) rfl fun hk=>?_
 replace h:=h hk.1
 have z1:lZ ids_:=ok_len hk.1
 unfold hsuite_most at h
 conv=>whnf
 refine Nf.mk (List.length ids_) len_map ?_
 conv=>whnf
 obtain ⟨n62,hc,hk51⟩:=bind_some h
 clear h
 have h:=hc
 clear hc
 refine Cut.mk (mkSt [(3,.im (nI n62))] [] []) (True) (hT) ?_ (fun hp=>?_)
 conv=>whnf
 refine Loops.iter (fun (s:Int×Nat)=>hsuite_most.s2 ids_ s.1 s.2) (fun (n65,y66)=>mkSt [(3,.im (nI n65)),(6,.im (nL (cL (cL cI)) ids_)),(7,.im (nI (↑(List.length ids_):Int))),(8,.im (nI (↑y66:Int)))] [] []) (fun (n65,y66)=>lZ ids_∧True) h (eA []) (by rintro ⟨n65,y66⟩;exact ((Holds.avl 6 rfl).and (hT))) ?_
 clear h
 rintro k ⟨n65,y66⟩ o hp h ho69
 replace h:hsuite_most.s2 ids_ n65 y66=some o:=h
 unfold hsuite_most.s2 at h
 obtain ⟨z72,_⟩:=hp
 conv=>whnf
 refine Both.mk ?_ ?_<;>intro b70
 obtain ⟨h,b70d⟩:=ctd b70 h
 conv=>whnf
 obtain ⟨e71,he71,h⟩:=idxn_some h
 refine ⟨_,⟨(by omega),map_at he71,rfl⟩,?_⟩
 conv=>whnf
 refine Nf.mk (List.length e71) len_map ?_
 conv=>whnf
 refine Arith.mk (by show inR _;unfold inR;omega) ?_
 conv=>whnf
 cases h
 exact Nxt.mk _ ho69 (eA [])
 obtain ⟨h,b70d⟩:=cfd b70 h
 conv=>whnf
 cases h
 have ho69:_=_:=ho69
 cases ho69
 exact Join.mk (eA [])
 replace h:=hk51
 conv=>whnf
 cases h
 conv=>whnf
 exact ⟨rfl,rfl⟩
theorem sp_wordset_ordered_1 (a_:List Int) (b_:List Int) (p2_:(List Int)→(List Int)→Option Int) (f2_:FuncId) (hf2:∀ x0 x1 r,p2_ x0 x1=some r→Sp Try.prog f2_ [.im (nL cI x0),.im (nL cI x1)] (.im (nI r))) (r:Bool) (h:Ok (nL cI a_)→Ok (nL cI b_)→Ok (.ref [.fn f2_ []])→wordset_ordered_1 a_ b_ p2_=some r):Sp Try.prog 82 [.im (nL cI a_),.im (nL cI b_),.im (.ref [.fn f2_ []])] (.im (nB r)):=by
 refine sp_of rfl [] rfl rfl rfl (Nat.le_of_ble_eq_true rfl) rfl fun hk=>?_
 replace h:=h hk.1 hk.2.1 hk.2.2.1
 have z1:lZ a_:=ok_len hk.1
 have z2:lZ b_:=ok_len hk.2.1
 unfold wordset_ordered_1 at h
 conv=>whnf
 obtain ⟨c51,hc51,h⟩:=bind_some h
 refine ⟨_,hf2 a_ b_ c51 hc51,?_⟩
 conv=>whnf
 cases h
 conv=>whnf
 exact ⟨rfl,rfl⟩
theorem sp_slices_CompactFunc_SSint_Sint_n1 (s_:List (List Int)) (eq_:(List Int)→(List Int)→Option Bool) (f1_:FuncId) (k1_0:IV) (hk1_0:nz k1_0=k1_0) (hf1:∀ x0 x1 r,eq_ x0 x1=some r→Sp Try.prog f1_ [.im (nL cI x0),.im (nL cI x1),.im k1_0] (.im (nB r))) (r:List (List Int)) (h:OkL (List.map (cL cI) s_)→Ok (.fn f1_ [k1_0])→slices_CompactFunc_SSint_Sint_n1 s_ eq_=some r):Sp Try.prog 81 [.row 26 1 (List.map (cL cI) s_),.im (.fn f1_ [k1_0])] (.row 26 1 (List.map (cL cI) r)):=by
 refine sp_of rfl [] rfl rfl rfl (Nat.le_of_ble_eq_true rfl) rfl fun hk=>?_
 replace h:=h hk.1 hk.2.1
 have z1:lZ s_:=okl_len hk.1
 unfold slices_CompactFunc_SSint_Sint_n1 at h
 conv=>whnf
 refine Side.mk rfl ?_
 conv=>whnf
 refine Nf.mk (List.length s_) len_map ?_
 conv=>whnf
 refine Both.mk ?_ ?_<;>intro b51
 obtain ⟨h,b51d⟩:=ctd b51 h
 conv=>whnf
 cases h
 conv=>whnf
 exact Side.mk ⟨rfl,trivial⟩ ⟨rfl,rfl⟩
 obtain ⟨h,b51d⟩:=cfd b51 h
 conv=>whnf
 obtain ⟨oc,hc,hk52⟩:=bind_some h
 clear h
 have h:=hc
 clear hc
 refine Cut.mkS oc (Y:=Unit) (fun (_:Unit)=>mkSt [(0,.osl 66 1)] [(66,.row 26 1 (List.map (cL cI) s_))] []) (fun (_:Unit)=>lZ s_∧True) (by rintro ⟨⟩;exact ((Holds.kdl 66 rfl).and (hT))) ?_ ?_
 conv=>whnf
 refine Loops.iter (fun (s:Nat)=>slices_CompactFunc_SSint_Sint_n1.s20 s_ eq_ s) (fun k356=>mkSt [(0,.osl 66 1),(1,.im (.fn f1_ [k1_0])),(5,.im (nI (↑k356:Int)))] [(66,.row 26 1 (List.map (cL cI) s_))] []) (fun k356=>lZ s_∧True) h (eA [(66,some 0)]) (by rintro k356;exact ((Holds.kdl 66 rfl).and (hT))) ?_
 clear h
 rintro k k356 o hp h ho432
 replace h:slices_CompactFunc_SSint_Sint_n1.s20 s_ eq_ k356=some o:=h
 unfold slices_CompactFunc_SSint_Sint_n1.s20 at h
 obtain ⟨z508,_⟩:=hp
 conv=>whnf
 refine Side.mk rfl ?_
 conv=>whnf
 refine Nf.mk (List.length s_) len_map ?_
 conv=>whnf
 refine Both.mk ?_ ?_<;>intro b433
 obtain ⟨h,b433d⟩:=ctd b433 h
 conv=>whnf
 obtain ⟨e434,he434,h⟩:=idxn_some h
 refine Side.mk ⟨(by omega),rfl,map_lt he434⟩ ?_
 conv=>whnf
 refine ⟨_,_,⟨rfl,map_at he434,rfl,rfl⟩,?_⟩
 conv=>whnf
 refine Arith.mk (by show inR _;unfold inR;omega) ?_
 conv=>whnf
 obtain ⟨e435,he435z,he435,h⟩:=idx_some h
 refine Side.mk ⟨he435z,rfl,map_lt he435⟩ ?_
 conv=>whnf
 refine ⟨_,_,⟨rfl,map_at he435,rfl,rfl⟩,?_⟩
 conv=>whnf
 obtain ⟨c436,hc436,h⟩:=bind_some h
 refine ⟨_,Sp.args (hf1 e434 e435 c436 hc436) (by rw [hk1_0];try rfl),?_⟩
 conv=>whnf
 refine Both.mk ?_ ?_<;>intro b437
 replace h:=cond_t b437 h
 conv=>whnf
 obtain ⟨c438,h⟩:=chk_some h
 refine Side.mk ⟨rfl,c438.1,by have hh_:=c438;simp only [List.length_map];omega,by have hh_:=c438;simp only [List.length_map];omega⟩ ?_
 conv=>whnf
 obtain ⟨⟨y471,k472⟩,hc,hk439⟩:=bind_some h
 clear h
 have h:=hc
 clear hc
 refine Cut.mk (mkSt [(0,.osl 66 1),(5,.im (nI (↑k472:Int)))] [(66,.row 26 1 (List.map (cL cI) y471))] []) (lZ y471∧True) ((Holds.kdl 66 rfl).and (hT)) ?_ (fun hp=>?_)
 conv=>whnf
 refine Loops.iter (fun (s:List (List Int)×Nat×Nat)=>slices_CompactFunc_SSint_Sint_n1.s18 eq_ k356 s.1 s.2.1 s.2.2) (fun (y481,k482,y483)=>mkSt [(0,.osl 66 1),(1,.im (.fn f1_ [k1_0])),(5,.im (nI (↑k482:Int))),(6,.osv 66 1 k356 1),(7,.im (nI (↑y483:Int)))] [(66,.row 26 1 (List.map (cL cI) y481))] []) (fun (y481,k482,y483)=>lZ y481∧True) h (Ent.mk [(66,some 66)] rfl ⟨⟨.osl 66 _,rfl,.osl rfl rfl rfl⟩,eI rfl rfl,eI rfl rfl,⟨.osv 66 _ _ _,rfl,.osv rfl rfl rfl⟩,eI rfl rfl,trivial⟩ ⟨.inl ⟨66,rfl,rfl,trivial⟩,trivial⟩ trivial) (by rintro ⟨y481,k482,y483⟩;exact ((Holds.kdl 66 rfl).and (hT))) ?_
 clear h
 rintro k ⟨y481,k482,y483⟩ o hp h ho493
 replace h:slices_CompactFunc_SSint_Sint_n1.s18 eq_ k356 y481 k482 y483=some o:=h
 unfold slices_CompactFunc_SSint_Sint_n1.s18 at h
 obtain ⟨z503,_⟩:=hp
 conv=>whnf
 refine Side.mk rfl ?_
 conv=>whnf
 refine Nf.mk (List.length y481-k356) len_own ?_
 conv=>whnf
 refine Both.mk ?_ ?_<;>intro b494
 obtain ⟨h,b494d⟩:=ctd b494 h
 conv=>whnf
 obtain ⟨e495,he495,h⟩:=idxn_some h
 refine Side.mk ⟨(by omega),rfl,map_lt he495⟩ ?_
 conv=>whnf
 refine Nf.mk (k356+y483) rfl ?_
 conv=>whnf
 refine ⟨_,_,⟨rfl,map_at he495,rfl,rfl⟩,?_⟩
 conv=>whnf
 refine Arith.mk (by show inR _;unfold inR;omega) ?_
 conv=>whnf
 obtain ⟨c497,h⟩:=chk_some h
 obtain ⟨e496,he496,h⟩:=idxn_some h
 refine Side.mk ⟨c497,rfl,map_lt he496⟩ ?_
 conv=>whnf
 refine Nf.mk (k356+(Int.toNat ((↑y483:Int)-1))) rfl ?_
 conv=>whnf
 refine ⟨_,_,⟨rfl,map_at he496,rfl,rfl⟩,?_⟩
 conv=>whnf
 obtain ⟨c498,hc498,h⟩:=bind_some h
 refine ⟨_,Sp.args (hf1 e495 e496 c498 hc498) (by rw [hk1_0];try rfl),?_⟩
 conv=>whnf
 refine Both.mk ?_ ?_<;>intro b499
 replace h:=cond_t b499 h
 conv=>whnf
 obtain ⟨e500,he500,h⟩:=idxn_some h
 refine Side.mk ⟨(by omega),rfl,map_lt he500⟩ ?_
 conv=>whnf
 refine Nf.mk (k356+y483) rfl ?_
 conv=>whnf
 refine ⟨_,_,⟨rfl,map_at he500,rfl,rfl⟩,?_⟩
 conv=>whnf
 obtain ⟨e501,he501,h⟩:=idxn_some h
 refine Side.mk ⟨(by omega),rfl,map_lt he501⟩ ?_
 conv=>whnf
 refine Side.mk ⟨rfl,trivial⟩ ?_
 conv=>whnf
 refine ⟨_,map_at he501,?_⟩
 conv=>whnf
 refine Nf.mk (List.map (cL cI) (List.set y481 k482 e500)) (set_map rfl) ?_
 conv=>whnf
 obtain ⟨c502,h⟩:=chk_some h
 refine Arith.mk c502 ?_
 conv=>whnf
 refine Arith.mk (by show inR _;unfold inR;omega) ?_
 conv=>whnf
 cases h
 exact Nxt.mk _ ho493 (Ent.mk [(66,some 66)] rfl ⟨⟨.osl 66 _,rfl,.osl rfl rfl rfl⟩,eI rfl rfl,eI rfl rfl,⟨.osv 66 _ _ _,rfl,.osv rfl rfl rfl⟩,eI rfl rfl,trivial⟩ ⟨.inl ⟨66,rfl,rfl,trivial⟩,trivial⟩ trivial)
 replace h:=cond_f b499 h
 conv=>whnf
 refine Arith.mk (by show inR _;unfold inR;omega) ?_
 conv=>whnf
 cases h
 exact Nxt.mk _ ho493 (Ent.mk [(66,some 66)] rfl ⟨⟨.osl 66 _,rfl,.osl rfl rfl rfl⟩,eI rfl rfl,eI rfl rfl,⟨.osv 66 _ _ _,rfl,.osv rfl rfl rfl⟩,eI rfl rfl,trivial⟩ ⟨.inl ⟨66,rfl,rfl,trivial⟩,trivial⟩ trivial)
 obtain ⟨h,b494d⟩:=cfd b494 h
 conv=>whnf
 cases h
 have ho493:_=_:=ho493
 cases ho493
 exact Join.mk (eA [(66,some 66)])
 replace h:slices_CompactFunc_SSint_Sint_n1.k19 y471 k472=some _:=hk439
 unfold slices_CompactFunc_SSint_Sint_n1.k19 at h
 obtain ⟨z504,_⟩:=hp
 conv=>whnf
 obtain ⟨c505,h⟩:=chk_some h
 refine Side.mk ⟨rfl,c505.1,by have hh_:=c505;simp only [List.length_map];omega,by have hh_:=c505;simp only [List.length_map];omega⟩ ?_
 conv=>whnf
 obtain ⟨c506,h⟩:=chk_some h
 refine Side.mk ⟨rfl,by have hh_:=c506;simp only [List.length_map];omega⟩ ?_
 conv=>whnf
 refine Nf.mk (List.map (cL cI) (List.take k472 y471++List.replicate (List.length y471-k472) [])) (clr_map (z:=[]) rfl) ?_
 conv=>whnf
 obtain ⟨c507,h⟩:=chk_some h
 refine Side.mk ⟨rfl,c507.1,by have hh_:=c507;simp only [List.length_map];omega,by have hh_:=c507;simp only [List.length_map];omega⟩ ?_
 conv=>whnf
 refine Nf.mk (List.map (cL cI) (List.take k472 (List.take k472 y471++List.replicate (List.length y471-k472) []))) cut_own ?_
 conv=>whnf
 cases h
 have ho432:_=_:=ho432
 cases ho432
 replace h:some _=some _:=hk52
 cases h
 conv=>whnf
 exact Side.mk ⟨rfl,trivial⟩ ⟨rfl,rfl⟩
 replace h:=cond_f b437 h
 conv=>whnf
 refine Arith.mk (by show inR _;unfold inR;omega) ?_
 conv=>whnf
 cases h
 exact Nxt.mk _ ho432 (eA [(66,some 66)])
 obtain ⟨h,b433d⟩:=cfd b433 h
 conv=>whnf
 cases h
 have ho432:_=_:=ho432
 cases ho432
 exact JoinS.mk' _ rfl (eA [(66,some 66)])
 rintro ⟨⟩ rfl hp
 replace h:=sum_inl hk52
 obtain ⟨z509,_⟩:=hp
 conv=>whnf
 cases h
 conv=>whnf
 exact Side.mk ⟨rfl,trivial⟩ ⟨rfl,rfl⟩
theorem sp_wordset_ordered (l_:List (List Int)) (order_:(List Int)→(List Int)→Option Int) (f1_:FuncId) (hf1:∀ x0 x1 r,order_ x0 x1=some r→Sp Try.prog f1_ [.im (nL cI x0),.im (nL cI x1)] (.im (nI r))) (hd1:CmpE Try.prog f1_ (fun x=>nL cI x) order_) (r:List (List Int)) (h:Ok (nL (cL cI) l_)→Ok (.fn f1_ [])→wordset_ordered l_ order_=some r):Sp Try.prog 59 [.im (nL (cL cI) l_),.im (.fn f1_ [])] (.row 26 1 (List.map (cL cI) r)):=by
 refine sp_of rfl [13000,16000,2013000] rfl rfl rfl (Nat.le_of_ble_eq_true rfl) rfl fun hk=>?_
 replace h:=h hk.1 hk.2.1
 have z1:lZ l_:=ok_len hk.1
 unfold wordset_ordered at h
 conv=>whnf
 obtain ⟨c51,hc51,h⟩:=bind_some h
 refine ⟨_,(sp_lib_Clone_words l_ c51 (hc51)),?_⟩
 conv=>whnf
 refine Side.mk rfl ?_
 conv=>whnf
 refine Side.mk ⟨rfl,trivial⟩ ?_
 conv=>whnf
 obtain ⟨c52,hc52,h⟩:=bind_some h
 refine ⟨_,(sp_lib_SortFunc_words c51 order_ f1_ hd1 c52 (hc52)),?_⟩
 conv=>whnf
 refine Side.mk ⟨rfl,rfl,trivial⟩ ?_
 conv=>whnf
 obtain ⟨c53,hc53,h⟩:=bind_some h
 refine ⟨_,(sp_slices_CompactFunc_SSint_Sint_n1 c52 (fun u0 u1=>wordset_ordered_1 u0 u1 order_) 82 (.ref [.fn f1_ []]) rfl (fun u0 u1 r h=>(sp_wordset_ordered_1 u0 u1 order_ f1_ hf1 r (fun _ _ _=>h))) c53 (fun _ _=>hc53)),?_⟩
 conv=>whnf
 refine Side.mk rfl ?_
 conv=>whnf
 refine Nf.mk (List.length c53) len_map ?_
 conv=>whnf
 obtain ⟨y73,hc,hk54⟩:=bind_some h
 clear h
 have h:=hc
 clear hc
 refine Cut.mk (mkSt [(5,.osl 64 1)] [(64,.row 26 1 (List.map (cL cI) y73))] []) (lZ y73∧True) ((Holds.kdl 64 rfl).and (hT)) ?_ (fun hp=>?_)
 conv=>whnf
 refine Loops.iter (fun (s:List (List Int)×Nat)=>wordset_ordered.s2 c53 s.1 s.2) (fun (y78,y79)=>mkSt [(5,.osl 64 1),(16,.osl 64 1),(17,.im (nI (↑(List.length c53):Int))),(18,.im (nI (↑y79:Int)))] [(64,.row 26 1 (List.map (cL cI) y78))] []) (fun (y78,y79)=>lZ y78∧True) h (eA [(64,some 15)]) (by rintro ⟨y78,y79⟩;exact ((Holds.kdl 64 rfl).and (hT))) ?_
 clear h
 rintro k ⟨y78,y79⟩ o hp h ho85
 replace h:wordset_ordered.s2 c53 y78 y79=some o:=h
 unfold wordset_ordered.s2 at h
 obtain ⟨z91,_⟩:=hp
 conv=>whnf
 refine Both.mk ?_ ?_<;>intro b86
 obtain ⟨h,b86d⟩:=ctd b86 h
 conv=>whnf
 obtain ⟨e87,he87,h⟩:=idxn_some h
 refine Side.mk ⟨(by omega),rfl,map_lt he87⟩ ?_
 conv=>whnf
 refine ⟨_,_,⟨rfl,map_at he87,rfl,rfl⟩,?_⟩
 conv=>whnf
 obtain ⟨c88,hc88,h⟩:=bind_some h
 refine ⟨_,(sp_lib_Clone_int e87 c88 (hc88)).im,?_⟩
 conv=>whnf
 obtain ⟨e89,he89,h⟩:=idxn_some h
 refine Side.mk ⟨(by omega),rfl,map_lt he89⟩ ?_
 conv=>whnf
 refine Side.mk ⟨rfl,trivial⟩ ?_
 conv=>whnf
 refine ⟨_,map_at he89,?_⟩
 conv=>whnf
 refine Nf.mk (List.map (cL cI) (List.set y78 y79 c88)) (set_map rfl) ?_
 conv=>whnf
 obtain ⟨c90,h⟩:=chk_some h
 refine Arith.mk c90 ?_
 conv=>whnf
 cases h
 exact Nxt.mk _ ho85 (eA [(64,some 64)])
 obtain ⟨h,b86d⟩:=cfd b86 h
 conv=>whnf
 cases h
 have ho85:_=_:=ho85
 cases ho85
 exact Join.mk (eA [(64,some 64)])
 replace h:=hk54
 obtain ⟨z92,_⟩:=hp
 conv=>whnf
 cases h
 conv=>whnf
 exact Side.mk ⟨rfl,trivial⟩ ⟨rfl,rfl⟩
theorem sp_word_Common (a_:List Int) (b_:List Int) (r:Int) (h:Ok (nL cI a_)→Ok (nL cI b_)→word_Common a_ b_=some r):Sp Try.prog 46 [.im (nL cI a_),.im (nL cI b_)] (.im (nI r)):=by
 refine sp_of rfl [] rfl rfl rfl (Nat.le_of_ble_eq_true rfl) rfl fun hk=>?_
 replace h:=h hk.1 hk.2.1
 have z1:lZ a_:=ok_len hk.1
 have z2:lZ b_:=ok_len hk.2.1
 unfold word_Common at h
 conv=>whnf
 refine Nf.mk (List.length a_) len_map ?_
 conv=>whnf
 refine Nf.mk (List.length b_) len_map ?_
 conv=>whnf
 obtain ⟨oc,hc,hk51⟩:=bind_some h
 clear h
 have h:=hc
 clear hc
 refine Cut.mkS oc (Y:=Unit) (fun (_:Unit)=>mkSt [(0,.im (nL cI a_)),(1,.im (nL cI b_))] [] []) (fun (_:Unit)=>lZ a_∧lZ b_∧True) (by rintro ⟨⟩;exact ((Holds.avl 0 rfl).and ((Holds.avl 1 rfl).and (hT)))) ?_ ?_
 conv=>whnf
 refine Loops.iter (fun (s:Nat)=>word_Common.s2 a_ b_ s) (fun y72=>mkSt [(0,.im (nL cI a_)),(1,.im (nL cI b_)),(10,.im (nI (min (↑(List.length a_):Int) (↑(List.length b_):Int)))),(11,.im (nI (↑y72:Int)))] [] []) (fun y72=>lZ a_∧lZ b_∧True) h (eA []) (by rintro y72;exact ((Holds.avl 0 rfl).and ((Holds.avl 1 rfl).and (hT)))) ?_
 clear h
 rintro k y72 o hp h ho77
 replace h:word_Common.s2 a_ b_ y72=some o:=h
 unfold word_Common.s2 at h
 obtain ⟨z82,z83,_⟩:=hp
 conv=>whnf
 refine Both.mk ?_ ?_<;>intro b78
 obtain ⟨h,b78d⟩:=ctd b78 h
 conv=>whnf
 obtain ⟨e79,he79,h⟩:=idxn_some h
 refine ⟨_,⟨(by omega),map_at he79,rfl⟩,?_⟩
 conv=>whnf
 obtain ⟨e80,he80,h⟩:=idxn_some h
 refine ⟨_,⟨(by omega),map_at he80,rfl⟩,?_⟩
 conv=>whnf
 refine Both.mk ?_ ?_<;>intro b81
 obtain ⟨h,b81d⟩:=ctd b81 h
 conv=>whnf
 cases h
 have ho77:_=_:=ho77
 cases ho77
 replace h:some _=some _:=hk51
 cases h
 conv=>whnf
 exact ⟨rfl,rfl⟩
 obtain ⟨h,b81d⟩:=cfd b81 h
 conv=>whnf
 refine Arith.mk (by show inR _;unfold inR;omega) ?_
 conv=>whnf
 cases h
 exact Nxt.mk _ ho77 (eA [])
 obtain ⟨h,b78d⟩:=cfd b78 h
 conv=>whnf
 cases h
 have ho77:_=_:=ho77
 cases ho77
 exact JoinS.mk' _ rfl (eA [])
 rintro ⟨⟩ rfl hp
 replace h:=sum_inl hk51
 obtain ⟨z84,z85,_⟩:=hp
 conv=>whnf
 refine Nf.mk (List.length a_) len_map ?_
 conv=>whnf
 refine Nf.mk (List.length b_) len_map ?_
 conv=>whnf
 cases h
 conv=>whnf
 exact ⟨rfl,rfl⟩
theorem sp_word_HasPrefix (w_:List Int) (p_:List Int) (r:Bool) (h:Ok (nL cI w_)→Ok (nL cI p_)→word_HasPrefix w_ p_=some r):Sp Try.prog 61 [.im (nL cI w_),.im (nL cI p_)] (.im (nB r)):=by
 refine sp_of rfl [] rfl rfl rfl (Nat.le_of_ble_eq_true rfl) rfl fun hk=>?_
 replace h:=h hk.1 hk.2.1
 have z1:lZ w_:=ok_len hk.1
 have z2:lZ p_:=ok_len hk.2.1
 unfold word_HasPrefix at h
 conv=>whnf
 obtain ⟨c51,hc51,h⟩:=bind_some h
 refine ⟨_,(sp_word_Common w_ p_ c51 (fun _ _=>hc51)),?_⟩
 conv=>whnf
 refine Nf.mk (List.length p_) len_map ?_
 conv=>whnf
 cases h
 conv=>whnf
 exact ⟨rfl,rfl⟩
theorem sp_cmp_isNaN_int (x_:Int) (r:Bool) (h:Ok (nI x_)→cmp_isNaN_int x_=some r):Sp Try.prog 98 [.im (nI x_)] (.im (nB r)):=by
 refine sp_of rfl [] rfl rfl rfl (Nat.le_of_ble_eq_true rfl) rfl fun hk=>?_
 replace h:=h hk.1
 unfold cmp_isNaN_int at h
 conv=>whnf
 cases h
 conv=>whnf
 exact ⟨rfl,rfl⟩
theorem sp_cmp_Compare_int (x_:Int) (y_:Int) (r:Int) (h:Ok (nI x_)→Ok (nI y_)→cmp_Compare_int x_ y_=some r):Sp Try.prog 87 [.im (nI x_),.im (nI y_)] (.im (nI r)):=by
 refine sp_of rfl [] rfl rfl rfl (Nat.le_of_ble_eq_true rfl) rfl fun hk=>?_
 replace h:=h hk.1 hk.2.1
 unfold cmp_Compare_int at h
 conv=>whnf
 obtain ⟨c51,hc51,h⟩:=bind_some h
 refine ⟨_,(sp_cmp_isNaN_int x_ c51 (fun _=>hc51)),?_⟩
 conv=>whnf
 obtain ⟨c52,hc52,h⟩:=bind_some h
 refine ⟨_,(sp_cmp_isNaN_int y_ c52 (fun _=>hc52)),?_⟩
 conv=>whnf
 refine Both.mk ?_ ?_<;>intro b53
 replace h:=cond_t b53 h
 conv=>whnf
 refine Both.mk ?_ ?_<;>intro b54
 replace h:=cond_t b54 h
 conv=>whnf
 cases h
 conv=>whnf
 exact ⟨rfl,rfl⟩
 replace h:=cond_f b54 h
 conv=>whnf
 cases h
 conv=>whnf
 exact ⟨rfl,rfl⟩
 replace h:=cond_f b53 h
 conv=>whnf
 refine Both.mk ?_ ?_<;>intro b55
 replace h:=cond_t b55 h
 conv=>whnf
 cases h
 conv=>whnf
 exact ⟨rfl,rfl⟩
 replace h:=cond_f b55 h
 conv=>whnf
 refine Both.mk ?_ ?_<;>intro b56
 obtain ⟨h,b56d⟩:=ctd b56 h
 conv=>whnf
 cases h
 conv=>whnf
 exact ⟨rfl,rfl⟩
 obtain ⟨h,b56d⟩:=cfd b56 h
 conv=>whnf
 refine Both.mk ?_ ?_<;>intro b57
 obtain ⟨h,b57d⟩:=ctd b57 h
 conv=>whnf
 cases h
 conv=>whnf
 exact ⟨rfl,rfl⟩
 obtain ⟨h,b57d⟩:=cfd b57 h
 conv=>whnf
 cases h
 conv=>whnf
 exact ⟨rfl,rfl⟩
theorem sp_slices_Compare_Sint_int (s1_:List Int) (s2_:List Int) (r:Int) (h:Ok (nL cI s1_)→Ok (nL cI s2_)→slices_Compare_Sint_int s1_ s2_=some r):Sp Try.prog 83 [.im (nL cI s1_),.im (nL cI s2_)] (.im (nI r)):=by
 refine sp_of rfl [] rfl rfl rfl (Nat.le_of_ble_eq_true rfl) rfl fun hk=>?_
 replace h:=h hk.1 hk.2.1
 have z1:lZ s1_:=ok_len hk.1
 have z2:lZ s2_:=ok_len hk.2.1
 unfold slices_Compare_Sint_int at h
 conv=>whnf
 refine Nf.mk (List.length s1_) len_map ?_
 conv=>whnf
 obtain ⟨oc,hc,hk51⟩:=bind_some h
 clear h
 have h:=hc
 clear hc
 refine Cut.mkS oc (Y:=Unit) (fun (_:Unit)=>mkSt [(0,.im (nL cI s1_)),(1,.im (nL cI s2_))] [] []) (fun (_:Unit)=>lZ s1_∧lZ s2_∧True) (by rintro ⟨⟩;exact ((Holds.avl 0 rfl).and ((Holds.avl 1 rfl).and (hT)))) ?_ ?_
 conv=>whnf
 refine Loops.iter (fun (s:Nat)=>slices_Compare_Sint_int.s2 s1_ s2_ s) (fun y80=>mkSt [(0,.im (nL cI s1_)),(1,.im (nL cI s2_)),(9,.im (nL cI s1_)),(10,.im (nI (↑(List.length s1_):Int))),(11,.im (nI (↑y80:Int)))] [] []) (fun y80=>lZ s1_∧lZ s2_∧True) h (eA []) (by rintro y80;exact ((Holds.avl 0 rfl).and ((Holds.avl 1 rfl).and (hT)))) ?_
 clear h
 rintro k y80 o hp h ho87
 replace h:slices_Compare_Sint_int.s2 s1_ s2_ y80=some o:=h
 unfold slices_Compare_Sint_int.s2 at h
 obtain ⟨z94,z95,_⟩:=hp
 conv=>whnf
 refine Both.mk ?_ ?_<;>intro b88
 obtain ⟨h,b88d⟩:=ctd b88 h
 conv=>whnf
 obtain ⟨e89,he89,h⟩:=idxn_some h
 refine ⟨_,⟨(by omega),map_at he89,rfl⟩,?_⟩
 conv=>whnf
 refine Nf.mk (List.length s2_) len_map ?_
 conv=>whnf
 refine Both.mk ?_ ?_<;>intro b90
 obtain ⟨h,b90d⟩:=ctd b90 h
 conv=>whnf
 cases h
 have ho87:_=_:=ho87
 cases ho87
 replace h:some _=some _:=hk51
 cases h
 conv=>whnf
 exact ⟨rfl,rfl⟩
 obtain ⟨h,b90d⟩:=cfd b90 h
 conv=>whnf
 obtain ⟨e91,he91,h⟩:=idxn_some h
 refine ⟨_,⟨(by omega),map_at he91,rfl⟩,?_⟩
 conv=>whnf
 obtain ⟨c92,hc92,h⟩:=bind_some h
 refine ⟨_,(sp_cmp_Compare_int e89 e91 c92 (fun _ _=>hc92)),?_⟩
 conv=>whnf
 refine Both.mk ?_ ?_<;>intro b93
 obtain ⟨h,b93d⟩:=ctd b93 h
 conv=>whnf
 cases h
 have ho87:_=_:=ho87
 cases ho87
 replace h:some _=some _:=hk51
 cases h
 conv=>whnf
 exact ⟨rfl,rfl⟩
 obtain ⟨h,b93d⟩:=cfd b93 h
 conv=>whnf
 refine Arith.mk (by show inR _;unfold inR;omega) ?_
 conv=>whnf
 cases h
 exact Nxt.mk _ ho87 (eA [])
 obtain ⟨h,b88d⟩:=cfd b88 h
 conv=>whnf
 cases h
 have ho87:_=_:=ho87
 cases ho87
 exact JoinS.mk' _ rfl (eA [])
 rintro ⟨⟩ rfl hp
 replace h:=sum_inl hk51
 obtain ⟨z96,z97,_⟩:=hp
 conv=>whnf
 refine Nf.mk (List.length s1_) len_map ?_
 conv=>whnf
 refine Nf.mk (List.length s2_) len_map ?_
 conv=>whnf
 refine Both.mk ?_ ?_<;>intro b98
 obtain ⟨h,b98d⟩:=ctd b98 h
 conv=>whnf
 cases h
 conv=>whnf
 exact ⟨rfl,rfl⟩
 obtain ⟨h,b98d⟩:=cfd b98 h
 conv=>whnf
 cases h
 conv=>whnf
 exact ⟨rfl,rfl⟩
theorem sp_cmp_Or_int (vals_:List Int) (r:Int) (h:Ok (nL cI vals_)→cmp_Or_int vals_=some r):Sp Try.prog 86 [.im (nL cI vals_)] (.im (nI r)):=by
 refine sp_of rfl [] rfl rfl rfl (Nat.le_of_ble_eq_true rfl) rfl fun hk=>?_
 replace h:=h hk.1
 have z1:lZ vals_:=ok_len hk.1
 unfold cmp_Or_int at h
 conv=>whnf
 refine Nf.mk (List.length vals_) len_map ?_
 conv=>whnf
 obtain ⟨oc,hc,hk51⟩:=bind_some h
 clear h
 have h:=hc
 clear hc
 refine Cut.mkS oc (Y:=Unit) (fun (_:Unit)=>mkSt [(3,.im (nI 0))] [] []) (fun (_:Unit)=>True) (by rintro ⟨⟩;exact (hT)) ?_ ?_
 conv=>whnf
 refine Loops.iter (fun (s:Nat)=>cmp_Or_int.s2 vals_ s) (fun y67=>mkSt [(3,.im (nI 0)),(6,.im (nL cI vals_)),(7,.im (nI (↑(List.length vals_):Int))),(8,.im (nI (↑y67:Int)))] [] []) (fun y67=>lZ vals_∧True) h (eA []) (by rintro y67;exact ((Holds.avl 6 rfl).and (hT))) ?_
 clear h
 rintro k y67 o hp h ho71
 replace h:cmp_Or_int.s2 vals_ y67=some o:=h
 unfold cmp_Or_int.s2 at h
 obtain ⟨z75,_⟩:=hp
 conv=>whnf
 refine Both.mk ?_ ?_<;>intro b72
 obtain ⟨h,b72d⟩:=ctd b72 h
 conv=>whnf
 obtain ⟨e73,he73,h⟩:=idxn_some h
 refine ⟨_,⟨(by omega),map_at he73,rfl⟩,?_⟩
 conv=>whnf
 refine Both.mk ?_ ?_<;>intro b74
 obtain ⟨h,b74d⟩:=ctd b74 h
 conv=>whnf
 cases h
 have ho71:_=_:=ho71
 cases ho71
 replace h:some _=some _:=hk51
 cases h
 conv=>whnf
 exact ⟨rfl,rfl⟩
 obtain ⟨h,b74d⟩:=cfd b74 h
 conv=>whnf
 refine Arith.mk (by show inR _;unfold inR;omega) ?_
 conv=>whnf
 cases h
 exact Nxt.mk _ ho71 (eA [])
 obtain ⟨h,b72d⟩:=cfd b72 h
 conv=>whnf
 cases h
 have ho71:_=_:=ho71
 cases ho71
 exact JoinS.mk' _ rfl (eA [])
 rintro ⟨⟩ rfl hp
 replace h:=sum_inl hk51
 conv=>whnf
 cases h
 conv=>whnf
 exact ⟨rfl,rfl⟩
theorem sp_word_Compare (a_:List Int) (b_:List Int) (r:Int) (h:Ok (nL cI a_)→Ok (nL cI b_)→word_Compare a_ b_=some r):Sp Try.prog 66 [.im (nL cI a_),.im (nL cI b_)] (.im (nI r)):=by
 refine sp_of rfl [] rfl rfl rfl (Nat.le_of_ble_eq_true rfl) rfl fun hk=>?_
 replace h:=h hk.1 hk.2.1
 have z1:lZ a_:=ok_len hk.1
 have z2:lZ b_:=ok_len hk.2.1
 unfold word_Compare at h
 conv=>whnf
 refine Nf.mk (List.length a_) len_map ?_
 conv=>whnf
 refine Nf.mk (List.length b_) len_map ?_
 conv=>whnf
 obtain ⟨c51,hc51,h⟩:=bind_some h
 refine ⟨_,(sp_cmp_Compare_int (↑(List.length a_):Int) (↑(List.length b_):Int) c51 (fun _ _=>hc51)),?_⟩
 conv=>whnf
 obtain ⟨c52,hc52,h⟩:=bind_some h
 refine ⟨_,(sp_slices_Compare_Sint_int a_ b_ c52 (fun _ _=>hc52)),?_⟩
 conv=>whnf
 obtain ⟨c53,hc53,h⟩:=bind_some h
 refine ⟨_,(sp_cmp_Or_int [c51,c52] c53 (fun _=>hc53)),?_⟩
 conv=>whnf
 cases h
 conv=>whnf
 exact ⟨rfl,rfl⟩
theorem sp_wordset_Sorted (l_:List (List Int)) (r:List (List Int)) (h:Ok (nL (cL cI) l_)→wordset_Sorted l_=some r):Sp Try.prog 42 [.im (nL (cL cI) l_)] (.row 26 1 (List.map (cL cI) r)):=by
 refine sp_of rfl [] rfl rfl rfl (Nat.le_of_ble_eq_true rfl) rfl fun hk=>?_
 replace h:=h hk.1
 have z1:lZ l_:=ok_len hk.1
 unfold wordset_Sorted at h
 conv=>whnf
 obtain ⟨c51,hc51,h⟩:=bind_some h
 refine ⟨_,(sp_wordset_ordered l_ (fun u0 u1=>word_Compare u0 u1) 66 (fun u0 u1 r h=>(sp_word_Compare u0 u1 r (fun _ _=>h))) cmpE_word_Compare c51 (fun _ _=>hc51)),?_⟩
 conv=>whnf
 cases h
 conv=>whnf
 exact Side.mk ⟨rfl,trivial⟩ ⟨rfl,rfl⟩
theorem sp_word_Lex (a_:List Int) (b_:List Int) (r:Int) (h:Ok (nL cI a_)→Ok (nL cI b_)→word_Lex a_ b_=some r):Sp Try.prog 60 [.im (nL cI a_),.im (nL cI b_)] (.im (nI r)):=by
 refine sp_of rfl [] rfl rfl rfl (Nat.le_of_ble_eq_true rfl) rfl fun hk=>?_
 replace h:=h hk.1 hk.2.1
 have z1:lZ a_:=ok_len hk.1
 have z2:lZ b_:=ok_len hk.2.1
 unfold word_Lex at h
 conv=>whnf
 obtain ⟨c51,hc51,h⟩:=bind_some h
 refine ⟨_,(sp_slices_Compare_Sint_int a_ b_ c51 (fun _ _=>hc51)),?_⟩
 conv=>whnf
 cases h
 conv=>whnf
 exact ⟨rfl,rfl⟩
theorem sp_wordset_Maximal (l_:List (List Int)) (r:List (List Int)) (h:Ok (nL (cL cI) l_)→wordset_Maximal l_=some r):Sp Try.prog 33 [.im (nL (cL cI) l_)] (.im (nL (cL cI) r)):=by
 refine sp_of rfl [] rfl rfl rfl (Nat.le_of_ble_eq_true rfl) rfl fun hk=>?_
 replace h:=h hk.1
 have z1:lZ l_:=ok_len hk.1
 unfold wordset_Maximal at h
 conv=>whnf
 obtain ⟨c51,hc51,h⟩:=bind_some h
 refine ⟨_,(sp_wordset_ordered l_ (fun u0 u1=>word_Lex u0 u1) 60 (fun u0 u1 r h=>(sp_word_Lex u0 u1 r (fun _ _=>h))) cmpE_word_Lex c51 (fun _ _=>hc51)).im,?_⟩
 conv=>whnf
 refine Nf.mk (List.length c51) len_map ?_
 conv=>whnf
 obtain ⟨y104,hc,hk52⟩:=bind_some h
 clear h
 have h:=hc
 clear hc
 refine Cut.mk (mkSt [(4,.osl 64 1)] [(64,.row 26 1 (List.map (cL cI) y104))] []) (lZ y104∧True) ((Holds.kdl 64 rfl).and (hT)) ?_ (fun hp=>?_)
 conv=>whnf
 refine Loops.iter (fun (s:List (List Int)×Nat)=>wordset_Maximal.s2 c51 s.1 s.2) (fun (y119,y120)=>mkSt [(3,.im (nL (cL cI) c51)),(4,.osl 64 1),(9,.im (nL (cL cI) c51)),(10,.im (nI (↑(List.length c51):Int))),(11,.im (nI (↑y120:Int)))] [(64,.row 26 1 (List.map (cL cI) y119))] []) (fun (y119,y120)=>lZ c51∧lZ y119∧True) h (eA [(64,none)]) (by rintro ⟨y119,y120⟩;exact ((Holds.avl 3 rfl).and ((Holds.kdl 64 rfl).and (hT)))) ?_
 clear h
 rintro k ⟨y119,y120⟩ o hp h ho137
 replace h:wordset_Maximal.s2 c51 y119 y120=some o:=h
 unfold wordset_Maximal.s2 at h
 obtain ⟨z154,z155,_⟩:=hp
 conv=>whnf
 refine Both.mk ?_ ?_<;>intro b138
 obtain ⟨h,b138d⟩:=ctd b138 h
 conv=>whnf
 obtain ⟨e139,he139,h⟩:=idxn_some h
 refine ⟨_,⟨(by omega),map_at he139,rfl⟩,?_⟩
 conv=>whnf
 obtain ⟨y145,hc,hk141⟩:=bind_some h
 clear h
 have h:=hc
 clear hc
 refine Cut.mk (mkSt [(3,.im (nL (cL cI) c51)),(4,.osl 64 1),(6,.im (nL cI e139)),(9,.im (nL (cL cI) c51)),(10,.im (nI (↑(List.length c51):Int))),(11,.im (nI (↑y120:Int))),(30,.im (nB y145))] [(64,.row 26 1 (List.map (cL cI) y119))] []) (lZ c51∧lZ e139∧lZ y119∧True) ((Holds.avl 3 rfl).and ((Holds.avl 6 rfl).and ((Holds.kdl 64 rfl).and (hT)))) ?_ (fun hp=>?_)
 conv=>whnf
 refine Arith.mk (by show inR _;unfold inR;omega) ?_
 conv=>whnf
 refine Nf.mk (List.length c51) len_map ?_
 conv=>whnf
 refine Both.mk ?_ ?_<;>intro b146
 replace b146:=beq_ff b146
 obtain ⟨h,b146d⟩:=cfd b146 h
 conv=>whnf
 iterate 2 (refine Both.yes (ff_beq b146) ?_;(conv=>whnf))
 refine Arith.mk (by show inR _;unfold inR;omega) ?_
 conv=>whnf
 refine Both.yes (ff_beq b146) ?_
 conv=>whnf
 obtain ⟨e147,he147,h⟩:=idxn_some h
 refine ⟨_,⟨(by omega),map_at he147,rfl⟩,?_⟩
 conv=>whnf
 iterate 3 (refine Both.yes (ff_beq b146) ?_;(conv=>whnf))
 obtain ⟨c148,hc148,h⟩:=bind_some h
 refine ⟨_,(sp_word_HasPrefix e147 e139 c148 (fun _ _=>hc148)),?_⟩
 conv=>whnf
 refine Both.yes (ff_beq b146) ?_
 conv=>whnf
 refine Both.no b146 ?_
 conv=>whnf
 cases h
 exact Join.mk (eA [(64,some 64)])
 replace b146:=beq_ft b146
 obtain ⟨h,b146d⟩:=ctd b146 h
 conv=>whnf
 iterate 7 (refine Both.no (tf_beq b146) ?_;(conv=>whnf))
 refine Both.yes b146 ?_
 conv=>whnf
 cases h
 exact Join.mk (eA [(64,some 64)])
 replace h:=hk141
 obtain ⟨z149,z150,z151,_⟩:=hp
 conv=>whnf
 refine Both.mk ?_ ?_<;>intro b152
 replace h:=cond_t b152 h
 conv=>whnf
 obtain ⟨c153,h⟩:=chk_some h
 refine Side.mk ⟨rfl,map_len (l:=[e139]) (c:=cL cI) fun _=>rfl,show capOk _ 24 by simpa only [List.length_map,List.length_cons,List.length_nil,Nat.zero_add] using c153⟩ ?_
 conv=>whnf
 refine Nf.mk (List.map (cL cI) (y119++[e139])) (app_map (l:=y119) (m:=[e139]) (c:=cL cI)) ?_
 conv=>whnf
 refine Arith.mk (by show inR _;unfold inR;omega) ?_
 conv=>whnf
 cases h
 exact Nxt.mk _ ho137 (eA [(64,some 64)])
 replace h:=cond_f b152 h
 conv=>whnf
 refine Arith.mk (by show inR _;unfold inR;omega) ?_
 conv=>whnf
 cases h
 exact Nxt.mk _ ho137 (eA [(64,some 64)])
 obtain ⟨h,b138d⟩:=cfd b138 h
 conv=>whnf
 cases h
 have ho137:_=_:=ho137
 cases ho137
 exact Join.mk (eA [(64,some 64)])
 replace h:=hk52
 obtain ⟨z156,_⟩:=hp
 conv=>whnf
 refine Side.mk ⟨rfl,trivial⟩ ?_
 conv=>whnf
 obtain ⟨c157,hc157,h⟩:=bind_some h
 refine ⟨_,(sp_wordset_Sorted y104 c157 (fun _=>hc157)).im,?_⟩
 conv=>whnf
 cases h
 conv=>whnf
 exact ⟨rfl,rfl⟩
theorem sp_mealy_Reach (m_:T_api_Mealy) (r:List Int) (h:Ok (.agg (c_api_Mealy m_))→mealy_Reach m_=some r):Sp Try.prog 30 [.im (.agg (c_api_Mealy m_))] (.row 3 1 (List.map cI r)):=by
 refine sp_of rfl [21,700001] rfl rfl rfl (Nat.le_of_ble_eq_true rfl) rfl fun hk=>?_
 replace h:=h hk.1
 have z1:lZ m_.Next:=ok_len (Ok.agg_at hk.1 2 rfl)
 have z2:lZ m_.Out:=ok_len (Ok.agg_at hk.1 3 rfl)
 unfold mealy_Reach at h
 conv=>whnf
 obtain ⟨c51,hc51,h⟩:=bind_some h
 refine ⟨_,(sp_mealy_Valid m_ c51 (fun _=>hc51)),?_⟩
 conv=>whnf
 refine Both.mk ?_ ?_<;>intro b52
 obtain ⟨h,b52d⟩:=ctd b52 h
 conv=>whnf
 cases h
 conv=>whnf
 exact ⟨rfl,rfl⟩
 obtain ⟨h,b52d⟩:=cfd b52 h
 conv=>whnf
 refine Nf.mk (List.length m_.Next) len_map ?_
 conv=>whnf
 obtain ⟨c53,h⟩:=chk_some h
 refine Side.mk c53 ?_
 conv=>whnf
 refine Nf.mk (List.map cB (List.replicate (List.length m_.Next) false)) (rep_map (c:=cB) (z:=false) (n:=(List.length m_.Next)) rfl rfl) ?_
 conv=>whnf
 obtain ⟨e54,he54z,he54,h⟩:=idx_some h
 refine Side.mk ⟨he54z,rfl,map_lt he54⟩ ?_
 conv=>whnf
 refine Side.mk ⟨rfl,trivial⟩ ?_
 conv=>whnf
 refine ⟨_,map_at he54,?_⟩
 conv=>whnf
 refine Nf.mk (List.map cB (List.set (List.replicate (List.length m_.Next) false) m_.Start.toNat true)) (set_map rfl) ?_
 conv=>whnf
 obtain ⟨y236,hc,hk55⟩:=bind_some h
 clear h
 have h:=hc
 clear hc
 refine Cut.mk (mkSt [(4,.osl 64 1)] [(64,.row 3 1 (List.map cI y236))] []) (lZ y236∧True) ((Holds.kdl 64 rfl).and (hT)) ?_ (fun hp=>?_)
 conv=>whnf
 refine Loops.iter (fun (s:List Bool×List Int×Nat)=>mealy_Reach.s20 m_ s.1 s.2.1 s.2.2) (fun (y295,y296,i297)=>mkSt [(1,.im (.ref (c_api_Mealy m_))),(3,.osl 64 1),(4,.osl 65 1),(5,.im (nI (↑i297:Int)))] [(64,.row 4 1 (List.map cB y295)),(65,.row 3 1 (List.map cI y296))] []) (fun (y295,y296,i297)=>lZ y295∧lZ y296∧True) h (eA [(64,some 14),(65,some 21)]) (by rintro ⟨y295,y296,i297⟩;exact ((Holds.kdl 64 rfl).and ((Holds.kdl 65 rfl).and (hT)))) ?_
 clear h
 rintro k ⟨y295,y296,i297⟩ o hp h ho356
 replace h:mealy_Reach.s20 m_ y295 y296 i297=some o:=h
 unfold mealy_Reach.s20 at h
 obtain ⟨z415,z416,_⟩:=hp
 conv=>whnf
 refine Side.mk rfl ?_
 conv=>whnf
 refine Nf.mk (List.length y296) len_map ?_
 conv=>whnf
 refine Both.mk ?_ ?_<;>intro b357
 obtain ⟨h,b357d⟩:=ctd b357 h
 conv=>whnf
 obtain ⟨e358,he358,h⟩:=idxn_some h
 refine Side.mk ⟨(by omega),rfl,map_lt he358⟩ ?_
 conv=>whnf
 refine ⟨_,_,⟨rfl,map_at he358,rfl,rfl⟩,?_⟩
 conv=>whnf
 obtain ⟨e359,he359z,he359,h⟩:=idx_some h
 refine ⟨_,⟨he359z,map_at he359,rfl⟩,?_⟩
 conv=>whnf
 refine Nf.mk (List.length e359) len_map ?_
 conv=>whnf
 obtain ⟨⟨y386,y387⟩,hc,hk360⟩:=bind_some h
 clear h
 have h:=hc
 clear hc
 refine Cut.mk (mkSt [(1,.im (.ref (c_api_Mealy m_))),(3,.osl 64 1),(4,.osl 65 1),(5,.im (nI (↑i297:Int)))] [(64,.row 4 1 (List.map cB y386)),(65,.row 3 1 (List.map cI y387))] []) (lZ y386∧lZ y387∧True) ((Holds.kdl 64 rfl).and ((Holds.kdl 65 rfl).and (hT))) ?_ (fun hp=>?_)
 conv=>whnf
 refine Loops.iter (fun (s:List Bool×List Int×Nat)=>mealy_Reach.s18 e359 s.1 s.2.1 s.2.2) (fun (y394,y395,y396)=>mkSt [(1,.im (.ref (c_api_Mealy m_))),(3,.osl 64 1),(4,.osl 65 1),(5,.im (nI (↑i297:Int))),(35,.im (nL cI e359)),(36,.im (nI (↑(List.length e359):Int))),(37,.im (nI (↑y396:Int)))] [(64,.row 4 1 (List.map cB y394)),(65,.row 3 1 (List.map cI y395))] []) (fun (y394,y395,y396)=>lZ e359∧lZ y394∧lZ y395∧True) h (eA [(64,some 64),(65,some 65)]) (by rintro ⟨y394,y395,y396⟩;exact ((Holds.avl 35 rfl).and ((Holds.kdl 64 rfl).and ((Holds.kdl 65 rfl).and (hT))))) ?_
 clear h
 rintro k ⟨y394,y395,y396⟩ o hp h ho403
 replace h:mealy_Reach.s18 e359 y394 y395 y396=some o:=h
 unfold mealy_Reach.s18 at h
 obtain ⟨z410,z411,z412,_⟩:=hp
 conv=>whnf
 refine Both.mk ?_ ?_<;>intro b404
 obtain ⟨h,b404d⟩:=ctd b404 h
 conv=>whnf
 obtain ⟨e405,he405,h⟩:=idxn_some h
 refine ⟨_,⟨(by omega),map_at he405,rfl⟩,?_⟩
 conv=>whnf
 obtain ⟨e406,he406z,he406,h⟩:=idx_some h
 refine Side.mk ⟨he406z,rfl,map_lt he406⟩ ?_
 conv=>whnf
 refine ⟨_,_,⟨rfl,map_at he406,rfl,rfl⟩,?_⟩
 conv=>whnf
 refine Both.mk ?_ ?_<;>intro b407
 replace h:=cond_t b407 h
 conv=>whnf
 obtain ⟨e408,he408z,he408,h⟩:=idx_some h
 refine Side.mk ⟨he408z,rfl,map_lt he408⟩ ?_
 conv=>whnf
 refine Side.mk ⟨rfl,trivial⟩ ?_
 conv=>whnf
 refine ⟨_,map_at he408,?_⟩
 conv=>whnf
 refine Nf.mk (List.map cB (List.set y394 e405.toNat true)) (set_map rfl) ?_
 conv=>whnf
 obtain ⟨c409,h⟩:=chk_some h
 refine Side.mk ⟨rfl,map_len (l:=[e405]) (c:=cI) fun _=>rfl,show capOk _ 8 by simpa only [List.length_map,List.length_cons,List.length_nil,Nat.zero_add] using c409⟩ ?_
 conv=>whnf
 refine Nf.mk (List.map cI (y395++[e405])) (app_map (l:=y395) (m:=[e405]) (c:=cI)) ?_
 conv=>whnf
 refine Arith.mk (by show inR _;unfold inR;omega) ?_
 conv=>whnf
 cases h
 exact Nxt.mk _ ho403 (eA [(64,some 64),(65,some 65)])
 replace h:=cond_f b407 h
 conv=>whnf
 refine Arith.mk (by show inR _;unfold inR;omega) ?_
 conv=>whnf
 cases h
 exact Nxt.mk _ ho403 (eA [(64,some 64),(65,some 65)])
 obtain ⟨h,b404d⟩:=cfd b404 h
 conv=>whnf
 cases h
 have ho403:_=_:=ho403
 cases ho403
 exact Join.mk (eA [(64,some 64),(65,some 65)])
 replace h:mealy_Reach.k19 i297 y386 y387=some _:=hk360
 unfold mealy_Reach.k19 at h
 obtain ⟨z413,z414,_⟩:=hp
 conv=>whnf
 refine Arith.mk (by show inR _;unfold inR;omega) ?_
 conv=>whnf
 cases h
 exact Nxt.mk _ ho356 (eA [(64,some 64),(65,some 65)])
 obtain ⟨h,b357d⟩:=cfd b357 h
 conv=>whnf
 cases h
 have ho356:_=_:=ho356
 cases ho356
 exact Join.mk (eA [(64,some 65)])
 replace h:=hk55
 obtain ⟨z417,_⟩:=hp
 conv=>whnf
 cases h
 conv=>whnf
 exact Side.mk ⟨rfl,trivial⟩ ⟨rfl,rfl⟩
theorem sp_mealy_Trim (m_:T_api_Mealy) (r:T_api_Mealy×Int) (h:Ok (.agg (c_api_Mealy m_))→mealy_Trim m_=some r):Sp Try.prog 52 [.im (.agg (c_api_Mealy m_))] (.tup [.agg (c_api_Mealy r.1),nI r.2]):=by
 refine sp_of rfl [700001] rfl rfl rfl (Nat.le_of_ble_eq_true rfl) rfl fun hk=>?_
 replace h:=h hk.1
 have z1:lZ m_.Next:=ok_len (Ok.agg_at hk.1 2 rfl)
 have z2:lZ m_.Out:=ok_len (Ok.agg_at hk.1 3 rfl)
 unfold mealy_Trim at h
 conv=>whnf
 obtain ⟨c51,hc51,h⟩:=bind_some h
 refine ⟨_,(sp_mealy_Valid m_ c51 (fun _=>hc51)),?_⟩
 conv=>whnf
 refine Both.mk ?_ ?_<;>intro b52
 obtain ⟨h,b52d⟩:=ctd b52 h
 conv=>whnf
 refine Side.mk rfl ?_
 conv=>whnf
 cases h
 conv=>whnf
 refine Side.mk ⟨rfl,trivial⟩ ?_
 conv=>whnf
 exact ⟨rfl,rfl⟩
 obtain ⟨h,b52d⟩:=cfd b52 h
 conv=>whnf
 obtain ⟨c53,hc53,h⟩:=bind_some h
 refine ⟨_,(sp_mealy_Reach m_ c53 (fun _=>hc53)).im,?_⟩
 conv=>whnf
 refine Nf.mk (List.length m_.Next) len_map ?_
 conv=>whnf
 obtain ⟨c54,h⟩:=chk_some h
 refine Side.mk c54 ?_
 conv=>whnf
 refine Nf.mk (List.map cI (List.replicate (List.length m_.Next) 0)) (rep_map (c:=cI) (z:=0) (n:=(List.length m_.Next)) rfl rfl) ?_
 conv=>whnf
 refine Nf.mk (List.length c53) len_map ?_
 conv=>whnf
 obtain ⟨y70,hc,hk55⟩:=bind_some h
 clear h
 have h:=hc
 clear hc
 refine Cut.mk (mkSt [(1,.im (.ref (c_api_Mealy m_))),(2,.own 89 1 0),(5,.im (nL cI c53)),(6,.osl 90 1)] [(89,.box 24 4),(90,.row 3 1 (List.map cI y70))] [(89,0,.im (nI 0)),(89,1,.im (nI 0)),(89,2,.im (.val (.slice none 0 0))),(89,3,.im (.val (.slice none 0 0)))]) (lZ c53∧lZ y70∧True) ((Holds.avl 5 rfl).and ((Holds.kdl 90 rfl).and (hT))) ?_ (fun hp=>?_)
 conv=>whnf
 refine Loops.iter (fun (s:List Int×Nat)=>mealy_Trim.s2 c53 s.1 s.2) (fun (y74,y75)=>mkSt [(1,.im (.ref (c_api_Mealy m_))),(2,.own 89 1 0),(5,.im (nL cI c53)),(6,.osl 90 1),(27,.im (nL cI c53)),(28,.im (nI (↑(List.length c53):Int))),(29,.im (nI (↑y75:Int)))] [(89,.box 24 4),(90,.row 3 1 (List.map cI y74))] [(89,0,.im (nI 0)),(89,1,.im (nI 0)),(89,2,.im (.val (.slice none 0 0))),(89,3,.im (.val (.slice none 0 0)))]) (fun (y74,y75)=>lZ c53∧lZ y74∧True) h (eA [(89,some 2),(90,some 26)]) (by rintro ⟨y74,y75⟩;exact ((Holds.avl 5 rfl).and ((Holds.kdl 90 rfl).and (hT)))) ?_
 clear h
 rintro k ⟨y74,y75⟩ o hp h ho79
 replace h:mealy_Trim.s2 c53 y74 y75=some o:=h
 unfold mealy_Trim.s2 at h
 obtain ⟨z83,z84,_⟩:=hp
 conv=>whnf
 refine Both.mk ?_ ?_<;>intro b80
 obtain ⟨h,b80d⟩:=ctd b80 h
 conv=>whnf
 obtain ⟨e81,he81,h⟩:=idxn_some h
 refine ⟨_,⟨(by omega),map_at he81,rfl⟩,?_⟩
 conv=>whnf
 obtain ⟨e82,he82z,he82,h⟩:=idx_some h
 refine Side.mk ⟨he82z,rfl,map_lt he82⟩ ?_
 conv=>whnf
 refine Side.mk ⟨rfl,trivial⟩ ?_
 conv=>whnf
 refine ⟨_,map_at he82,?_⟩
 conv=>whnf
 refine Nf.mk (List.map cI (List.set y74 e81.toNat (↑y75:Int))) (set_map rfl) ?_
 conv=>whnf
 refine Arith.mk (by show inR _;unfold inR;omega) ?_
 conv=>whnf
 cases h
 exact Nxt.mk _ ho79 (eA [(89,some 89),(90,some 90)])
 obtain ⟨h,b80d⟩:=cfd b80 h
 conv=>whnf
 cases h
 have ho79:_=_:=ho79
 cases ho79
 exact Join.mk (eA [(89,some 89),(90,some 90)])
 replace h:=hk55
 obtain ⟨z85,z86,_⟩:=hp
 conv=>whnf
 refine Side.mk rfl ?_
 conv=>whnf
 refine Nf.mk (List.length c53) len_map ?_
 conv=>whnf
 obtain ⟨⟨y259,y260⟩,hc,hk87⟩:=bind_some h
 clear h
 have h:=hc
 clear hc
 refine Cut.mk (mkSt [(2,.own 89 1 0),(9,.own 90 1 0)] [(89,.box 24 4),(90,.box 24 4),(91,.row 26 1 (List.map (cL cI) y259)),(92,.row 26 1 (List.map (cL cI) y260))] [(89,0,.im (nI 0)),(89,1,.im (nI 0)),(89,2,.im (.val (.slice none 0 0))),(89,3,.im (.val (.slice none 0 0))),(90,0,.im (nI m_.Inputs)),(90,1,.im (nI 0)),(90,2,.osl 91 1),(90,3,.osl 92 1)]) (lZ y259∧lZ y260∧True) ((Holds.kdl 91 rfl).and ((Holds.kdl 92 rfl).and (hT))) ?_ (fun hp=>?_)
 conv=>whnf
 refine Loops.iter (fun (s:List (List Int)×List (List Int)×Nat)=>mealy_Trim.s16 m_ c53 y70 s.1 s.2.1 s.2.2) (fun (y310,y311,y312)=>mkSt [(1,.im (.ref (c_api_Mealy m_))),(2,.own 89 1 0),(6,.osl 90 1),(9,.own 91 1 0),(42,.im (nL cI c53)),(43,.im (nI (↑(List.length c53):Int))),(44,.im (nI (↑y312:Int)))] [(89,.box 24 4),(90,.row 3 1 (List.map cI y70)),(91,.box 24 4),(92,.row 26 1 (List.map (cL cI) y310)),(93,.row 26 1 (List.map (cL cI) y311))] [(89,0,.im (nI 0)),(89,1,.im (nI 0)),(89,2,.im (.val (.slice none 0 0))),(89,3,.im (.val (.slice none 0 0))),(91,0,.im (nI m_.Inputs)),(91,1,.im (nI 0)),(91,2,.osl 92 1),(91,3,.osl 93 1)]) (fun (y310,y311,y312)=>lZ c53∧lZ y70∧lZ y310∧lZ y311∧True) h (Ent.mk [(89,some 89),(90,some 90),(91,some 9),(92,none),(93,none)] rfl ⟨eI rfl rfl,⟨.own 89 _ 0,rfl,.own rfl rfl rfl⟩,⟨.osl 90 _,rfl,.osl rfl rfl rfl⟩,⟨.own 9 _ 0,rfl,.own rfl rfl rfl⟩,eI rfl rfl,eI rfl rfl,eI rfl rfl,trivial⟩ ⟨.inl ⟨89,rfl,rfl,trivial⟩,.inl ⟨90,rfl,rfl,trivial⟩,.inl ⟨9,rfl,rfl,trivial⟩,.inr ⟨rfl,rfl,.inl ⟨_,_,rfl,by decide⟩⟩,.inr ⟨rfl,rfl,.inl ⟨_,_,rfl,by decide⟩⟩,trivial⟩ ⟨⟨89,.im _,rfl,rfl,.im (Sub.rfl' rfl)⟩,⟨89,.im _,rfl,rfl,.im (Sub.rfl' rfl)⟩,⟨89,.im (.val (.slice none 0 0)),rfl,rfl,.im (Sub.rfl' rfl)⟩,⟨89,.im (.val (.slice none 0 0)),rfl,rfl,.im (Sub.rfl' rfl)⟩,⟨9,.im _,rfl,rfl,.im (Sub.rfl' rfl)⟩,⟨9,.im _,rfl,rfl,.im (Sub.rfl' rfl)⟩,⟨9,.im (.val (.slice none 0 0)),rfl,rfl,.made rfl rfl⟩,⟨9,.im (.val (.slice none 0 0)),rfl,rfl,.made rfl rfl⟩,trivial⟩) (by rintro ⟨y310,y311,y312⟩;exact ((Holds.avl 42 rfl).and ((Holds.kdl 90 rfl).and ((Holds.kdl 92 rfl).and ((Holds.kdl 93 rfl).and (hT)))))) ?_
 clear h
 rintro k ⟨y310,y311,y312⟩ o hp h ho370
 replace h:mealy_Trim.s16 m_ c53 y70 y310 y311 y312=some o:=h
 unfold mealy_Trim.s16 at h
 obtain ⟨z428,z429,z430,z431,_⟩:=hp
 conv=>whnf
 refine Both.mk ?_ ?_<;>intro b371
 obtain ⟨h,b371d⟩:=ctd b371 h
 conv=>whnf
 obtain ⟨e372,he372,h⟩:=idxn_some h
 refine ⟨_,⟨(by omega),map_at he372,rfl⟩,?_⟩
 conv=>whnf
 obtain ⟨c373,h⟩:=chk_some h
 refine Side.mk c373 ?_
 conv=>whnf
 refine Nf.mk (List.map cI (List.replicate (Int.toNat m_.Inputs) 0)) (rep_map (c:=cI) (z:=0) (n:=(Int.toNat m_.Inputs)) rfl rfl) ?_
 conv=>whnf
 obtain ⟨e374,he374z,he374,h⟩:=idx_some h
 refine ⟨_,⟨he374z,map_at he374,rfl⟩,?_⟩
 conv=>whnf
 refine Nf.mk (List.length e374) len_map ?_
 conv=>whnf
 obtain ⟨y397,hc,hk375⟩:=bind_some h
 clear h
 have h:=hc
 clear hc
 refine Cut.mk (mkSt [(1,.im (.ref (c_api_Mealy m_))),(2,.own 89 1 0),(6,.osl 90 1),(9,.own 91 1 0),(11,.im (nI e372)),(12,.osl 94 1),(42,.im (nL cI c53)),(43,.im (nI (↑(List.length c53):Int))),(44,.im (nI (↑y312:Int)))] [(89,.box 24 4),(90,.row 3 1 (List.map cI y70)),(91,.box 24 4),(92,.row 26 1 (List.map (cL cI) y310)),(93,.row 26 1 (List.map (cL cI) y311)),(94,.row 3 1 (List.map cI y397))] [(89,0,.im (nI 0)),(89,1,.im (nI 0)),(89,2,.im (.val (.slice none 0 0))),(89,3,.im (.val (.slice none 0 0))),(91,0,.im (nI m_.Inputs)),(91,1,.im (nI 0)),(91,2,.osl 92 1),(91,3,.osl 93 1)]) (lZ c53∧lZ y70∧lZ y310∧lZ y311∧lZ y397∧True) ((Holds.avl 42 rfl).and ((Holds.kdl 90 rfl).and ((Holds.kdl 92 rfl).and ((Holds.kdl 93 rfl).and ((Holds.kdl 94 rfl).and (hT)))))) ?_ (fun hp=>?_)
 conv=>whnf
 refine Loops.iter (fun (s:List Int×Nat)=>mealy_Trim.s15 y70 e374 s.1 s.2) (fun (y402,y403)=>mkSt [(1,.im (.ref (c_api_Mealy m_))),(2,.own 89 1 0),(6,.osl 90 1),(9,.own 91 1 0),(11,.im (nI e372)),(12,.osl 94 1),(42,.im (nL cI c53)),(43,.im (nI (↑(List.length c53):Int))),(44,.im (nI (↑y312:Int))),(55,.im (nL cI e374)),(56,.im (nI (↑(List.length e374):Int))),(57,.im (nI (↑y403:Int)))] [(89,.box 24 4),(90,.row 3 1 (List.map cI y70)),(91,.box 24 4),(92,.row 26 1 (List.map (cL cI) y310)),(93,.row 26 1 (List.map (cL cI) y311)),(94,.row 3 1 (List.map cI y402))] [(89,0,.im (nI 0)),(89,1,.im (nI 0)),(89,2,.im (.val (.slice none 0 0))),(89,3,.im (.val (.slice none 0 0))),(91,0,.im (nI m_.Inputs)),(91,1,.im (nI 0)),(91,2,.osl 92 1),(91,3,.osl 93 1)]) (fun (y402,y403)=>lZ c53∧lZ e374∧lZ y70∧lZ y310∧lZ y311∧lZ y402∧True) h (eA [(89,some 89),(90,some 90),(91,some 91),(92,some 92),(93,some 93),(94,some 50)]) (by rintro ⟨y402,y403⟩;exact ((Holds.avl 42 rfl).and ((Holds.avl 55 rfl).and ((Holds.kdl 90 rfl).and ((Holds.kdl 92 rfl).and ((Holds.kdl 93 rfl).and ((Holds.kdl 94 rfl).and (hT)))))))) ?_
 clear h
 rintro k ⟨y402,y403⟩ o hp h ho408
 replace h:mealy_Trim.s15 y70 e374 y402 y403=some o:=h
 unfold mealy_Trim.s15 at h
 obtain ⟨z413,z414,z415,z416,z417,z418,_⟩:=hp
 conv=>whnf
 refine Both.mk ?_ ?_<;>intro b409
 obtain ⟨h,b409d⟩:=ctd b409 h
 conv=>whnf
 obtain ⟨e410,he410,h⟩:=idxn_some h
 refine ⟨_,⟨(by omega),map_at he410,rfl⟩,?_⟩
 conv=>whnf
 obtain ⟨e411,he411z,he411,h⟩:=idx_some h
 refine Side.mk ⟨he411z,rfl,map_lt he411⟩ ?_
 conv=>whnf
 refine ⟨_,_,⟨rfl,map_at he411,rfl,rfl⟩,?_⟩
 conv=>whnf
 obtain ⟨e412,he412,h⟩:=idxn_some h
 refine Side.mk ⟨(by omega),rfl,map_lt he412⟩ ?_
 conv=>whnf
 refine Side.mk ⟨rfl,trivial⟩ ?_
 conv=>whnf
 refine ⟨_,map_at he412,?_⟩
 conv=>whnf
 refine Nf.mk (List.map cI (List.set y402 y403 e411)) (set_map rfl) ?_
 conv=>whnf
 refine Arith.mk (by show inR _;unfold inR;omega) ?_
 conv=>whnf
 cases h
 exact Nxt.mk _ ho408 (eA [(89,some 89),(90,some 90),(91,some 91),(92,some 92),(93,some 93),(94,some 94)])
 obtain ⟨h,b409d⟩:=cfd b409 h
 conv=>whnf
 cases h
 have ho408:_=_:=ho408
 cases ho408
 exact Join.mk (eA [(89,some 89),(90,some 90),(91,some 91),(92,some 92),(93,some 93),(94,some 94)])
 replace h:=hk375
 obtain ⟨z419,z420,z421,z422,z423,_⟩:=hp
 conv=>whnf
 refine Side.mk rfl ?_
 conv=>whnf
 refine Side.mk rfl ?_
 conv=>whnf
 refine Side.mk ⟨rfl,trivial⟩ ?_
 conv=>whnf
 obtain ⟨c424,h⟩:=chk_some h
 refine Side.mk ⟨rfl,map_len (l:=[y397]) (c:=cL cI) fun _=>rfl,show capOk _ 24 by simpa only [List.length_map,List.length_cons,List.length_nil,Nat.zero_add] using c424⟩ ?_
 conv=>whnf
 refine Nf.mk (List.map (cL cI) (y310++[y397])) (app_map (l:=y310) (m:=[y397]) (c:=cL cI)) ?_
 conv=>whnf
 refine Side.mk rfl ?_
 conv=>whnf
 refine Side.mk rfl ?_
 conv=>whnf
 refine Side.mk rfl ?_
 conv=>whnf
 refine Side.mk rfl ?_
 conv=>whnf
 obtain ⟨e425,he425z,he425,h⟩:=idx_some h
 refine ⟨_,⟨he425z,map_at he425,rfl⟩,?_⟩
 conv=>whnf
 obtain ⟨c426,hc426,h⟩:=bind_some h
 refine ⟨_,(sp_lib_Clone_int e425 c426 (hc426)).im,?_⟩
 conv=>whnf
 obtain ⟨c427,h⟩:=chk_some h
 refine Side.mk ⟨rfl,map_len (l:=[c426]) (c:=cL cI) fun _=>rfl,show capOk _ 24 by simpa only [List.length_map,List.length_cons,List.length_nil,Nat.zero_add] using c427⟩ ?_
 conv=>whnf
 refine Nf.mk (List.map (cL cI) (y311++[c426])) (app_map (l:=y311) (m:=[c426]) (c:=cL cI)) ?_
 conv=>whnf
 refine Side.mk rfl ?_
 conv=>whnf
 refine Side.mk rfl ?_
 conv=>whnf
 refine Arith.mk (by show inR _;unfold inR;omega) ?_
 conv=>whnf
 cases h
 exact Nxt.mk _ ho370 (eA [(89,some 89),(90,some 90),(91,some 91),(92,some 92),(93,some 93)])
 obtain ⟨h,b371d⟩:=cfd b371 h
 conv=>whnf
 cases h
 have ho370:_=_:=ho370
 cases ho370
 exact Join.mk (eA [(89,some 89),(90,some 91),(91,some 92),(92,some 93)])
 replace h:mealy_Trim.k17 m_ y259 y260=some _:=hk87
 unfold mealy_Trim.k17 at h
 obtain ⟨z432,z433,_⟩:=hp
 conv=>whnf
 refine Side.mk rfl ?_
 conv=>whnf
 refine Side.mk rfl ?_
 conv=>whnf
 cases h
 conv=>whnf
 refine Side.mk ⟨rfl,trivial⟩ ?_
 conv=>whnf
 exact Side.mk ⟨rfl,rfl,trivial⟩ ⟨rfl,rfl⟩
theorem sp_minimize_next (m_:T_api_Mealy) (class_:List Int) (r:List Int×Int) (h:Ok (.agg (c_api_Mealy m_))→Ok (nL cI class_)→minimize_next m_ class_=some r):Sp Try.prog 99 [.im (.agg (c_api_Mealy m_)),.im (nL cI class_)] (.tup [nL cI r.1,nI r.2]):=by
 refine sp_of rfl [700002] rfl rfl rfl (Nat.le_of_ble_eq_true rfl) rfl fun hk=>?_
 replace h:=h hk.1 hk.2.1
 have z1:lZ m_.Next:=ok_len (Ok.agg_at hk.1 2 rfl)
 have z2:lZ m_.Out:=ok_len (Ok.agg_at hk.1 3 rfl)
 have z3:lZ class_:=ok_len hk.2.1
 unfold minimize_next at h
 conv=>whnf
 refine Nf.mk (List.length class_) len_map ?_
 conv=>whnf
 obtain ⟨c51,h⟩:=chk_some h
 refine Side.mk c51 ?_
 conv=>whnf
 refine Nf.mk (List.map cI (List.replicate (List.length class_) 0)) (rep_map (c:=cI) (z:=0) (n:=(List.length class_)) rfl rfl) ?_
 conv=>whnf
 refine Nf.mk (List.length class_) len_map ?_
 conv=>whnf
 obtain ⟨⟨y362,y363⟩,hc,hk52⟩:=bind_some h
 clear h
 have h:=hc
 clear hc
 refine Cut.mk (mkSt [(6,.osl 73 1),(7,.osl 74 1)] [(73,.map (mapV wA wI y362)),(74,.row 3 1 (List.map cI y363))] []) (lZ y363∧True) ((Holds.kdl 74 rfl).and (hT)) ?_ (fun hp=>?_)
 conv=>whnf
 refine Loops.iter (fun (s:(List (List Int×Int))×List Int×Nat)=>minimize_next.s20 m_ class_ s.1 s.2.1 s.2.2) (fun (y465,y466,y467)=>mkSt [(1,.im (nL cI class_)),(2,.im (.ref (c_api_Mealy m_))),(6,.osl 73 1),(7,.osl 74 1),(18,.im (nI (↑(List.length class_):Int))),(19,.im (nI (↑y467:Int)))] [(73,.map (mapV wA wI y465)),(74,.row 3 1 (List.map cI y466))] []) (fun (y465,y466,y467)=>lZ class_∧lZ y466∧True) h (eA [(73,some 13),(74,some 16)]) (by rintro ⟨y465,y466,y467⟩;exact ((Holds.avl 1 rfl).and ((Holds.kdl 74 rfl).and (hT)))) ?_
 clear h
 rintro k ⟨y465,y466,y467⟩ o hp h ho569
 replace h:minimize_next.s20 m_ class_ y465 y466 y467=some o:=h
 unfold minimize_next.s20 at h
 obtain ⟨z671,z672,_⟩:=hp
 conv=>whnf
 refine Both.mk ?_ ?_<;>intro b570
 obtain ⟨h,b570d⟩:=ctd b570 h
 conv=>whnf
 refine Nf.mk (List.map cI (List.replicate 128 0)) rfl ?_
 conv=>whnf
 obtain ⟨y612,hc,hk571⟩:=bind_some h
 clear h
 have h:=hc
 clear hc
 refine Cut.mk (mkSt [(1,.im (nL cI class_)),(2,.im (.ref (c_api_Mealy m_))),(6,.osl 73 1),(7,.osl 74 1),(8,.im (nI (↑y467:Int))),(9,.elt 75 1 1 0 0),(18,.im (nI (↑(List.length class_):Int))),(19,.im (nI (↑y467:Int)))] [(73,.map (mapV wA wI y465)),(74,.row 3 1 (List.map cI y466)),(75,.row 147 1 (List.map cI y612))] []) (lZ class_∧lZ y466∧lZ y612∧True) ((Holds.avl 1 rfl).and ((Holds.kdl 74 rfl).and ((Holds.kdl 75 rfl).and (hT)))) ?_ (fun hp=>?_)
 conv=>whnf
 refine Loops.iter (fun (s:List Int×Nat)=>minimize_next.s18 m_ class_ y467 s.1 s.2) (fun (y623,y624)=>mkSt [(1,.im (nL cI class_)),(2,.im (.ref (c_api_Mealy m_))),(6,.osl 73 1),(7,.osl 74 1),(8,.im (nI (↑y467:Int))),(9,.elt 75 1 1 0 0),(18,.im (nI (↑(List.length class_):Int))),(19,.im (nI (↑y467:Int))),(23,.im (nI m_.Inputs)),(24,.im (nI (↑y624:Int)))] [(73,.map (mapV wA wI y465)),(74,.row 3 1 (List.map cI y466)),(75,.row 147 1 (List.map cI y623))] []) (fun (y623,y624)=>lZ class_∧lZ y466∧lZ y623∧True) h (Ent.mk [(73,some 73),(74,some 74),(75,some 9)] rfl ⟨eI rfl rfl,eI rfl rfl,⟨.osl 73 _,rfl,.osl rfl rfl rfl⟩,⟨.osl 74 _,rfl,.osl rfl rfl rfl⟩,eI rfl rfl,⟨.elt 9 _ _ _ _,rfl,.elt rfl rfl rfl⟩,eI rfl rfl,eI rfl rfl,eI rfl rfl,eI rfl rfl,trivial⟩ ⟨.inl ⟨73,rfl,rfl,trivial⟩,.inl ⟨74,rfl,rfl,trivial⟩,.inl ⟨9,rfl,rfl,trivial⟩,trivial⟩ trivial) (by rintro ⟨y623,y624⟩;exact ((Holds.avl 1 rfl).and ((Holds.kdl 74 rfl).and ((Holds.kdl 75 rfl).and (hT))))) ?_
 clear h
 rintro k ⟨y623,y624⟩ o hp h ho637
 replace h:minimize_next.s18 m_ class_ y467 y623 y624=some o:=h
 unfold minimize_next.s18 at h
 obtain ⟨z650,z651,z652,_⟩:=hp
 conv=>whnf
 refine Both.mk ?_ ?_<;>intro b638
 obtain ⟨h,b638d⟩:=ctd b638 h
 conv=>whnf
 obtain ⟨e639,he639,h⟩:=idxn_some h
 refine ⟨_,⟨(by omega),map_at he639,rfl⟩,?_⟩
 conv=>whnf
 obtain ⟨e640,he640,h⟩:=idxn_some h
 refine ⟨_,⟨(by omega),map_at he640,rfl⟩,?_⟩
 conv=>whnf
 obtain ⟨c642,h⟩:=chk_some h
 obtain ⟨e641,he641,h⟩:=idxn_some h
 refine Side.mk ⟨by omega,c642,rfl⟩ ?_
 conv=>whnf
 refine Side.mk ⟨rfl,trivial⟩ ?_
 conv=>whnf
 refine ⟨_,map_at he641,?_⟩
 conv=>whnf
 refine Nf.mk (List.map cI (List.set y623 y624 e640)) (set_map rfl) ?_
 conv=>whnf
 obtain ⟨c643,h⟩:=chk_some h
 refine Arith.mk c643 ?_
 conv=>whnf
 obtain ⟨e644,he644,h⟩:=idxn_some h
 refine ⟨_,⟨(by omega),map_at he644,rfl⟩,?_⟩
 conv=>whnf
 obtain ⟨e645,he645,h⟩:=idxn_some h
 refine ⟨_,⟨(by omega),map_at he645,rfl⟩,?_⟩
 conv=>whnf
 obtain ⟨e646,he646z,he646,h⟩:=idx_some h
 refine ⟨_,⟨he646z,map_at he646,rfl⟩,?_⟩
 conv=>whnf
 obtain ⟨c648,h⟩:=chk_some h
 obtain ⟨e647,he647,h⟩:=idxn_some h
 refine Side.mk ⟨by omega,c648,rfl⟩ ?_
 conv=>whnf
 refine Side.mk ⟨rfl,trivial⟩ ?_
 conv=>whnf
 refine ⟨_,map_at he647,?_⟩
 conv=>whnf
 refine Nf.mk (List.map cI (List.set (List.set y623 y624 e640) (64+y624) e646)) (set_map rfl) ?_
 conv=>whnf
 obtain ⟨c649,h⟩:=chk_some h
 refine Arith.mk c649 ?_
 conv=>whnf
 cases h
 exact Nxt.mk _ ho637 (Ent.mk [(73,some 73),(74,some 74),(75,some 75)] rfl ⟨eI rfl rfl,eI rfl rfl,⟨.osl 73 _,rfl,.osl rfl rfl rfl⟩,⟨.osl 74 _,rfl,.osl rfl rfl rfl⟩,eI rfl rfl,⟨.elt 75 _ _ _ _,rfl,.elt rfl rfl rfl⟩,eI rfl rfl,eI rfl rfl,eI rfl rfl,eI rfl rfl,trivial⟩ ⟨.inl ⟨73,rfl,rfl,trivial⟩,.inl ⟨74,rfl,rfl,trivial⟩,.inl ⟨75,rfl,rfl,trivial⟩,trivial⟩ trivial)
 obtain ⟨h,b638d⟩:=cfd b638 h
 conv=>whnf
 cases h
 have ho637:_=_:=ho637
 cases ho637
 exact Join.mk (Ent.mk [(73,some 73),(74,some 74),(75,some 75)] rfl ⟨eI rfl rfl,eI rfl rfl,⟨.osl 73 _,rfl,.osl rfl rfl rfl⟩,⟨.osl 74 _,rfl,.osl rfl rfl rfl⟩,eI rfl rfl,⟨.elt 75 _ _ _ _,rfl,.elt rfl rfl rfl⟩,eI rfl rfl,eI rfl rfl,trivial⟩ ⟨.inl ⟨73,rfl,rfl,trivial⟩,.inl ⟨74,rfl,rfl,trivial⟩,.inl ⟨75,rfl,rfl,trivial⟩,trivial⟩ trivial)
 replace h:=hk571
 obtain ⟨z653,z654,z655,_⟩:=hp
 conv=>whnf
 obtain ⟨c656,h⟩:=chk_some h
 refine Side.mk ⟨rfl,by rw [List.length_map];exact c656⟩ ?_
 conv=>whnf
 refine Nf.mk (cA y612) flat_cA ?_
 conv=>whnf
 obtain ⟨c657,h⟩:=chk_some h
 refine Side.mk rfl ?_
 conv=>whnf
 refine ⟨y612,_,keys_arr (g:=wI) rfl c657,?_⟩
 conv=>whnf
 refine Nf.mk (wI ((mget y612 y465).getD 0)) ((getD_map rfl _).trans (congrArg (Option.getD · _) (get_arr _ _ _).symm)) ?_
 conv=>whnf
 refine Nf.mk (mget y612 y465).isSome ((isSome_map _).trans (congrArg Option.isSome (get_arr _ _ _).symm)) ?_
 conv=>whnf
 obtain ⟨⟨y663,n664⟩,hc,hk659⟩:=bind_some h
 clear h
 have h:=hc
 clear hc
 refine Cut.mk (mkSt [(1,.im (nL cI class_)),(2,.im (.ref (c_api_Mealy m_))),(6,.osl 73 1),(7,.osl 74 1),(8,.im (nI (↑y467:Int))),(11,.im (nI n664)),(18,.im (nI (↑(List.length class_):Int))),(19,.im (nI (↑y467:Int)))] [(73,.map (mapV wA wI y663)),(74,.row 3 1 (List.map cI y466))] []) (lZ class_∧lZ y466∧True) ((Holds.avl 1 rfl).and ((Holds.kdl 74 rfl).and (hT))) ?_ (fun hp=>?_)
 conv=>whnf
 refine Both.mk ?_ ?_<;>intro b665
 replace h:=cond_t b665 h
 conv=>whnf
 refine Side.mk rfl ?_
 conv=>whnf
 refine Nf.mk (List.length y465) len_mapV ?_
 conv=>whnf
 obtain ⟨c666,h⟩:=chk_some h
 refine Side.mk ⟨rfl,by rw [List.length_map];exact c666⟩ ?_
 conv=>whnf
 refine Nf.mk (cA y612) flat_cA ?_
 conv=>whnf
 obtain ⟨c667,h⟩:=chk_some h
 refine Side.mk rfl ?_
 conv=>whnf
 refine ⟨y612,_,keys_arr (g:=wI) rfl c667,?_⟩
 conv=>whnf
 refine Nf.mk (mapV wA wI (mset y612 (↑(List.length y465):Int) y465)) (by rw [set_arr];exact mapA_set _ _) ?_
 conv=>whnf
 cases h
 exact Join.mk (eA [(73,some 73),(74,some 74)])
 replace h:=cond_f b665 h
 conv=>whnf
 cases h
 exact Join.mk (eA [(73,some 73),(74,some 74)])
 replace h:minimize_next.k19 y466 y467 y663 n664=some _:=hk659
 unfold minimize_next.k19 at h
 obtain ⟨z668,z669,_⟩:=hp
 conv=>whnf
 obtain ⟨e670,he670,h⟩:=idxn_some h
 refine Side.mk ⟨(by omega),rfl,map_lt he670⟩ ?_
 conv=>whnf
 refine Side.mk ⟨rfl,trivial⟩ ?_
 conv=>whnf
 refine ⟨_,map_at he670,?_⟩
 conv=>whnf
 refine Nf.mk (List.map cI (List.set y466 y467 n664)) (set_map rfl) ?_
 conv=>whnf
 refine Arith.mk (by show inR _;unfold inR;omega) ?_
 conv=>whnf
 cases h
 exact Nxt.mk _ ho569 (eA [(73,some 73),(74,some 74)])
 obtain ⟨h,b570d⟩:=cfd b570 h
 conv=>whnf
 cases h
 have ho569:_=_:=ho569
 cases ho569
 exact Join.mk (eA [(73,some 73),(74,some 74)])
 replace h:minimize_next.k21 y362 y363=some _:=hk52
 unfold minimize_next.k21 at h
 obtain ⟨z673,_⟩:=hp
 conv=>whnf
 refine Side.mk rfl ?_
 conv=>whnf
 refine Nf.mk (List.length y362) len_mapV ?_
 conv=>whnf
 cases h
 conv=>whnf
 exact Side.mk ⟨rfl,trivial⟩ ⟨rfl,rfl⟩
theorem sp_minimize_refine (m_:T_api_Mealy) (k_:Int) (r:List Int×Int) (h:Ok (.agg (c_api_Mealy m_))→Ok (nI k_)→minimize_refine m_ k_=some r):Sp Try.prog 91 [.im (.agg (c_api_Mealy m_)),.im (nI k_)] (.tup [nL cI r.1,nI r.2]):=by
 refine sp_of rfl [700002,6000014] rfl rfl rfl (Nat.le_of_ble_eq_true rfl) rfl fun hk=>?_
 replace h:=h hk.1 hk.2.1
 have z1:lZ m_.Next:=ok_len (Ok.agg_at hk.1 2 rfl)
 have z2:lZ m_.Out:=ok_len (Ok.agg_at hk.1 3 rfl)
 unfold minimize_refine at h
 conv=>whnf
 refine Nf.mk (List.length m_.Next) len_map ?_
 conv=>whnf
 obtain ⟨c51,h⟩:=chk_some h
 refine Side.mk c51 ?_
 conv=>whnf
 refine Nf.mk (List.map cI (List.replicate (List.length m_.Next) 0)) (rep_map (c:=cI) (z:=0) (n:=(List.length m_.Next)) rfl rfl) ?_
 conv=>whnf
 refine Nf.mk (List.length m_.Next) len_map ?_
 conv=>whnf
 obtain ⟨oc,hc,hk52⟩:=bind_some h
 clear h
 have h:=hc
 clear hc
 refine Cut.mkS oc (Y:=List Int) (fun class67=>mkSt [(1,.im (nI k_)),(2,.im (.ref (c_api_Mealy m_))),(6,.im (nL cI class67))] [] []) (fun class67=>lZ class67∧True) (by rintro class67;exact ((Holds.avl 6 rfl).and (hT))) ?_ ?_
 conv=>whnf
 refine Loops.iter (fun (s:List Int×Int×Nat)=>minimize_refine.s2 m_ k_ s.1 s.2.1 s.2.2) (fun (class71,n72,y73)=>mkSt [(1,.im (nI k_)),(2,.im (.ref (c_api_Mealy m_))),(6,.im (nL cI class71)),(7,.im (nI n72)),(20,.im (nI (min (max k_ 0) (↑(List.length m_.Next):Int)))),(21,.im (nI (↑y73:Int)))] [] []) (fun (class71,n72,y73)=>lZ class71∧True) h (eA []) (by rintro ⟨class71,n72,y73⟩;exact ((Holds.avl 6 rfl).and (hT))) ?_
 clear h
 rintro k ⟨class71,n72,y73⟩ o hp h ho77
 replace h:minimize_refine.s2 m_ k_ class71 n72 y73=some o:=h
 unfold minimize_refine.s2 at h
 obtain ⟨z81,_⟩:=hp
 conv=>whnf
 refine Both.mk ?_ ?_<;>intro b78
 obtain ⟨h,b78d⟩:=ctd b78 h
 conv=>whnf
 obtain ⟨c79,hc79,h⟩:=bind_some h
 refine ⟨_,(sp_minimize_next m_ class71 c79 (fun _ _=>hc79)),?_⟩
 conv=>whnf
 refine Both.mk ?_ ?_<;>intro b80
 obtain ⟨h,b80d⟩:=ctd b80 h
 conv=>whnf
 cases h
 have ho77:_=_:=ho77
 cases ho77
 replace h:some _=some _:=hk52
 cases h
 conv=>whnf
 exact ⟨rfl,rfl⟩
 obtain ⟨h,b80d⟩:=cfd b80 h
 conv=>whnf
 refine Arith.mk (by show inR _;unfold inR;omega) ?_
 conv=>whnf
 cases h
 exact Nxt.mk _ ho77 (eA [])
 obtain ⟨h,b78d⟩:=cfd b78 h
 conv=>whnf
 cases h
 have ho77:_=_:=ho77
 cases ho77
 exact JoinS.mk' _ rfl (eA [])
 rintro class67 rfl hp
 replace h:=sum_inl hk52
 obtain ⟨z82,_⟩:=hp
 conv=>whnf
 refine Nf.mk (List.length m_.Next) len_map ?_
 conv=>whnf
 cases h
 conv=>whnf
 exact ⟨rfl,rfl⟩
theorem sp_minimize_Partition (m_:T_api_Mealy) (k_:Int) (r:List Int×Int) (h:Ok (.agg (c_api_Mealy m_))→Ok (nI k_)→minimize_Partition m_ k_=some r):Sp Try.prog 75 [.im (.agg (c_api_Mealy m_)),.im (nI k_)] (.tup [nL cI r.1,nI r.2]):=by
 refine sp_of rfl [700002] rfl rfl rfl (Nat.le_of_ble_eq_true rfl) rfl fun hk=>?_
 replace h:=h hk.1 hk.2.1
 have z1:lZ m_.Next:=ok_len (Ok.agg_at hk.1 2 rfl)
 have z2:lZ m_.Out:=ok_len (Ok.agg_at hk.1 3 rfl)
 unfold minimize_Partition at h
 conv=>whnf
 obtain ⟨c51,hc51,h⟩:=bind_some h
 refine ⟨_,(sp_mealy_Valid m_ c51 (fun _=>hc51)),?_⟩
 conv=>whnf
 refine Both.mk ?_ ?_<;>intro b52
 obtain ⟨h,b52d⟩:=ctd b52 h
 conv=>whnf
 cases h
 conv=>whnf
 exact ⟨rfl,rfl⟩
 obtain ⟨h,b52d⟩:=cfd b52 h
 conv=>whnf
 obtain ⟨c53,hc53,h⟩:=bind_some h
 refine ⟨_,(sp_minimize_refine m_ k_ c53 (fun _ _=>hc53)),?_⟩
 conv=>whnf
 cases h
 conv=>whnf
 exact ⟨rfl,rfl⟩
theorem sp_minimize_Classes (m_:T_api_Mealy) (r:List Int×Int) (h:Ok (.agg (c_api_Mealy m_))→minimize_Classes m_=some r):Sp Try.prog 53 [.im (.agg (c_api_Mealy m_))] (.tup [nL cI r.1,nI r.2]):=by
 refine sp_of rfl [700001] rfl rfl rfl (Nat.le_of_ble_eq_true rfl) rfl fun hk=>?_
 replace h:=h hk.1
 have z1:lZ m_.Next:=ok_len (Ok.agg_at hk.1 2 rfl)
 have z2:lZ m_.Out:=ok_len (Ok.agg_at hk.1 3 rfl)
 unfold minimize_Classes at h
 conv=>whnf
 obtain ⟨c51,hc51,h⟩:=bind_some h
 refine ⟨_,(sp_minimize_Partition m_ 128 c51 (fun _ _=>hc51)),?_⟩
 conv=>whnf
 cases h
 conv=>whnf
 exact ⟨rfl,rfl⟩
theorem sp_minimize_Min (m_:T_api_Mealy) (r:T_api_Mealy×Int) (h:Ok (.agg (c_api_Mealy m_))→minimize_Min m_=some r):Sp Try.prog 28 [.im (.agg (c_api_Mealy m_))] (.tup [.agg (c_api_Mealy r.1),nI r.2]):=by
 refine sp_of rfl [72,700001] rfl rfl rfl (Nat.le_of_ble_eq_true rfl) rfl fun hk=>?_
 replace h:=h hk.1
 have z1:lZ m_.Next:=ok_len (Ok.agg_at hk.1 2 rfl)
 have z2:lZ m_.Out:=ok_len (Ok.agg_at hk.1 3 rfl)
 unfold minimize_Min at h
 conv=>whnf
 obtain ⟨c51,hc51,h⟩:=bind_some h
 refine ⟨_,(sp_mealy_Trim m_ c51 (fun _=>hc51)),?_⟩
 conv=>whnf
 refine Side.mk rfl ?_
 conv=>whnf
 refine Both.mk ?_ ?_<;>intro b52
 obtain ⟨h,b52d⟩:=ctd b52 h
 conv=>whnf
 refine Side.mk rfl ?_
 conv=>whnf
 cases h
 conv=>whnf
 refine Side.mk ⟨rfl,trivial⟩ ?_
 conv=>whnf
 exact ⟨rfl,rfl⟩
 obtain ⟨h,b52d⟩:=cfd b52 h
 conv=>whnf
 refine Side.mk rfl ?_
 conv=>whnf
 obtain ⟨c53,hc53,h⟩:=bind_some h
 refine ⟨_,(sp_minimize_Classes c51.1 c53 (fun _=>hc53)),?_⟩
 conv=>whnf
 refine Both.mk ?_ ?_<;>intro b54
 obtain ⟨h,b54d⟩:=ctd b54 h
 conv=>whnf
 refine Side.mk rfl ?_
 conv=>whnf
 cases h
 conv=>whnf
 refine Side.mk ⟨rfl,trivial⟩ ?_
 conv=>whnf
 exact ⟨rfl,rfl⟩
 obtain ⟨h,b54d⟩:=cfd b54 h
 conv=>whnf
 refine Side.mk rfl ?_
 conv=>whnf
 refine Side.mk rfl ?_
 conv=>whnf
 refine Side.mk rfl ?_
 conv=>whnf
 refine Nf.mk (List.length c53.1) len_map ?_
 conv=>whnf
 obtain ⟨⟨y418,y419⟩,hc,hk55⟩:=bind_some h
 clear h
 have h:=hc
 clear hc
 refine Cut.mk (mkSt [(2,.own 84 1 0),(7,.own 85 1 0)] [(84,.box 24 4),(85,.box 24 4),(86,.row 26 1 (List.map (cL cI) y418)),(87,.row 26 1 (List.map (cL cI) y419))] [(84,0,.im (nI 0)),(84,1,.im (nI 0)),(84,2,.im (.val (.slice none 0 0))),(84,3,.im (.val (.slice none 0 0))),(85,0,.im (nI c51.1.Inputs)),(85,1,.im (nI 0)),(85,2,.osl 86 1),(85,3,.osl 87 1)]) (lZ y418∧lZ y419∧True) ((Holds.kdl 86 rfl).and ((Holds.kdl 87 rfl).and (hT))) ?_ (fun hp=>?_)
 conv=>whnf
 refine Loops.iter (fun (s:List (List Int)×List (List Int)×Nat)=>minimize_Min.s32 c51 c53 s.1 s.2.1 s.2.2) (fun (y527,y528,y529)=>mkSt [(2,.own 84 1 0),(4,.own 85 1 0),(6,.im (nL cI c53.1)),(7,.own 86 1 0),(34,.im (nL cI c53.1)),(35,.im (nI (↑(List.length c53.1):Int))),(36,.im (nI (↑y529:Int)))] [(84,.box 24 4),(85,.box 24 4),(86,.box 24 4),(87,.row 26 1 (List.map (cL cI) y527)),(88,.row 26 1 (List.map (cL cI) y528))] [(84,0,.im (nI 0)),(84,1,.im (nI 0)),(84,2,.im (.val (.slice none 0 0))),(84,3,.im (.val (.slice none 0 0))),(85,0,.im (nI c51.1.Inputs)),(85,1,.im (nI c51.1.Start)),(85,2,.im (nL (cL cI) c51.1.Next)),(85,3,.im (nL (cL cI) c51.1.Out)),(86,0,.im (nI c51.1.Inputs)),(86,1,.im (nI 0)),(86,2,.osl 87 1),(86,3,.osl 88 1)]) (fun (y527,y528,y529)=>lZ c53.1∧lZ c51.1.Next∧lZ c51.1.Out∧lZ y527∧lZ y528∧True) h (Ent.mk [(84,some 2),(85,some 4),(86,some 7),(87,none),(88,none)] rfl ⟨⟨.own 2 _ 0,rfl,.own rfl rfl rfl⟩,⟨.own 4 _ 0,rfl,.own rfl rfl rfl⟩,eI rfl rfl,⟨.own 7 _ 0,rfl,.own rfl rfl rfl⟩,eI rfl rfl,eI rfl rfl,eI rfl rfl,trivial⟩ ⟨.inl ⟨2,rfl,rfl,trivial⟩,.inl ⟨4,rfl,rfl,trivial⟩,.inl ⟨7,rfl,rfl,trivial⟩,.inr ⟨rfl,rfl,.inl ⟨_,_,rfl,by decide⟩⟩,.inr ⟨rfl,rfl,.inl ⟨_,_,rfl,by decide⟩⟩,trivial⟩ ⟨⟨2,.im _,rfl,rfl,.im (Sub.rfl' rfl)⟩,⟨2,.im _,rfl,rfl,.im (Sub.rfl' rfl)⟩,⟨2,.im (.val (.slice none 0 0)),rfl,rfl,.im (Sub.rfl' rfl)⟩,⟨2,.im (.val (.slice none 0 0)),rfl,rfl,.im (Sub.rfl' rfl)⟩,⟨4,.im _,rfl,rfl,.im (Sub.rfl' rfl)⟩,⟨4,.im _,rfl,rfl,.im (Sub.rfl' rfl)⟩,⟨4,.im _,rfl,rfl,.im (Sub.rfl' rfl)⟩,⟨4,.im _,rfl,rfl,.im (Sub.rfl' rfl)⟩,⟨7,.im _,rfl,rfl,.im (Sub.rfl' rfl)⟩,⟨7,.im _,rfl,rfl,.im (Sub.rfl' rfl)⟩,⟨7,.im (.val (.slice none 0 0)),rfl,rfl,.made rfl rfl⟩,⟨7,.im (.val (.slice none 0 0)),rfl,rfl,.made rfl rfl⟩,trivial⟩) (by rintro ⟨y527,y528,y529⟩;exact ((Holds.avl 6 rfl).and ((Holds.cel 85 2 rfl (by decide) rfl).and ((Holds.cel 85 3 rfl (by decide) rfl).and ((Holds.kdl 87 rfl).and ((Holds.kdl 88 rfl).and (hT))))))) ?_
 clear h
 rintro k ⟨y527,y528,y529⟩ o hp h ho653
 replace h:minimize_Min.s32 c51 c53 y527 y528 y529=some o:=h
 unfold minimize_Min.s32 at h
 obtain ⟨z777,z778,z779,z780,z781,_⟩:=hp
 conv=>whnf
 refine Both.mk ?_ ?_<;>intro b654
 obtain ⟨h,b654d⟩:=ctd b654 h
 conv=>whnf
 obtain ⟨⟨y713,y714⟩,hc,hk655⟩:=bind_some h
 clear h
 have h:=hc
 clear hc
 refine Cut.mk (mkSt [(2,.own 84 1 0),(4,.own 85 1 0),(6,.im (nL cI c53.1)),(7,.own 86 1 0),(34,.im (nL cI c53.1)),(35,.im (nI (↑(List.length c53.1):Int))),(36,.im (nI (↑y529:Int)))] [(84,.box 24 4),(85,.box 24 4),(86,.box 24 4),(87,.row 26 1 (List.map (cL cI) y713)),(88,.row 26 1 (List.map (cL cI) y714))] [(84,0,.im (nI 0)),(84,1,.im (nI 0)),(84,2,.im (.val (.slice none 0 0))),(84,3,.im (.val (.slice none 0 0))),(85,0,.im (nI c51.1.Inputs)),(85,1,.im (nI c51.1.Start)),(85,2,.im (nL (cL cI) c51.1.Next)),(85,3,.im (nL (cL cI) c51.1.Out)),(86,0,.im (nI c51.1.Inputs)),(86,1,.im (nI 0)),(86,2,.osl 87 1),(86,3,.osl 88 1)]) (lZ c53.1∧lZ c51.1.Next∧lZ c51.1.Out∧lZ y713∧lZ y714∧True) ((Holds.avl 6 rfl).and ((Holds.cel 85 2 rfl (by decide) rfl).and ((Holds.cel 85 3 rfl (by decide) rfl).and ((Holds.kdl 87 rfl).and ((Holds.kdl 88 rfl).and (hT)))))) ?_ (fun hp=>?_)
 conv=>whnf
 obtain ⟨e715,he715,h⟩:=idxn_some h
 refine ⟨_,⟨(by omega),map_at he715,rfl⟩,?_⟩
 conv=>whnf
 refine Side.mk rfl ?_
 conv=>whnf
 refine Side.mk rfl ?_
 conv=>whnf
 refine Side.mk rfl ?_
 conv=>whnf
 refine Nf.mk (List.length y527) len_map ?_
 conv=>whnf
 refine Both.mk ?_ ?_<;>intro b716
 obtain ⟨h,b716d⟩:=ctd b716 h
 conv=>whnf
 cases h
 exact Join.mk (eA [(84,some 84),(85,some 85),(86,some 86),(87,some 87),(88,some 88)])
 obtain ⟨h,b716d⟩:=cfd b716 h
 conv=>whnf
 refine Side.mk rfl ?_
 conv=>whnf
 refine Side.mk rfl ?_
 conv=>whnf
 obtain ⟨e717,he717,h⟩:=idxn_some h
 refine ⟨_,⟨(by omega),map_at he717,rfl⟩,?_⟩
 conv=>whnf
 refine Nf.mk (List.length e717) len_map ?_
 conv=>whnf
 obtain ⟨y740,hc,hk718⟩:=bind_some h
 clear h
 have h:=hc
 clear hc
 refine Cut.mk (mkSt [(2,.own 84 1 0),(4,.own 85 1 0),(6,.im (nL cI c53.1)),(7,.own 86 1 0),(8,.im (nI (↑y529:Int))),(10,.osl 89 1),(34,.im (nL cI c53.1)),(35,.im (nI (↑(List.length c53.1):Int))),(36,.im (nI (↑y529:Int)))] [(84,.box 24 4),(85,.box 24 4),(86,.box 24 4),(87,.row 26 1 (List.map (cL cI) y527)),(88,.row 26 1 (List.map (cL cI) y528)),(89,.row 3 1 (List.map cI y740))] [(84,0,.im (nI 0)),(84,1,.im (nI 0)),(84,2,.im (.val (.slice none 0 0))),(84,3,.im (.val (.slice none 0 0))),(85,0,.im (nI c51.1.Inputs)),(85,1,.im (nI c51.1.Start)),(85,2,.im (nL (cL cI) c51.1.Next)),(85,3,.im (nL (cL cI) c51.1.Out)),(86,0,.im (nI c51.1.Inputs)),(86,1,.im (nI 0)),(86,2,.osl 87 1),(86,3,.osl 88 1)]) (lZ c53.1∧lZ c51.1.Next∧lZ c51.1.Out∧lZ y527∧lZ y528∧lZ y740∧True) ((Holds.avl 6 rfl).and ((Holds.cel 85 2 rfl (by decide) rfl).and ((Holds.cel 85 3 rfl (by decide) rfl).and ((Holds.kdl 87 rfl).and ((Holds.kdl 88 rfl).and ((Holds.kdl 89 rfl).and (hT))))))) ?_ (fun hp=>?_)
 conv=>whnf
 refine Loops.iter (fun (s:List Int×Nat)=>minimize_Min.s30 c53 e717 s.1 s.2) (fun (y744,y745)=>mkSt [(2,.own 84 1 0),(4,.own 85 1 0),(6,.im (nL cI c53.1)),(7,.own 86 1 0),(8,.im (nI (↑y529:Int))),(10,.osl 89 1),(34,.im (nL cI c53.1)),(35,.im (nI (↑(List.length c53.1):Int))),(36,.im (nI (↑y529:Int))),(50,.im (nL cI e717)),(51,.im (nI (↑(List.length e717):Int))),(52,.im (nI (↑y745:Int)))] [(84,.box 24 4),(85,.box 24 4),(86,.box 24 4),(87,.row 26 1 (List.map (cL cI) y527)),(88,.row 26 1 (List.map (cL cI) y528)),(89,.row 3 1 (List.map cI y744))] [(84,0,.im (nI 0)),(84,1,.im (nI 0)),(84,2,.im (.val (.slice none 0 0))),(84,3,.im (.val (.slice none 0 0))),(85,0,.im (nI c51.1.Inputs)),(85,1,.im (nI c51.1.Start)),(85,2,.im (nL (cL cI) c51.1.Next)),(85,3,.im (nL (cL cI) c51.1.Out)),(86,0,.im (nI c51.1.Inputs)),(86,1,.im (nI 0)),(86,2,.osl 87 1),(86,3,.osl 88 1)]) (fun (y744,y745)=>lZ c53.1∧lZ e717∧lZ c51.1.Next∧lZ c51.1.Out∧lZ y527∧lZ y528∧lZ y744∧True) h (eA [(84,some 84),(85,some 85),(86,some 86),(87,some 87),(88,some 88),(89,none)]) (by rintro ⟨y744,y745⟩;exact ((Holds.avl 6 rfl).and ((Holds.avl 50 rfl).and ((Holds.cel 85 2 rfl (by decide) rfl).and ((Holds.cel 85 3 rfl (by decide) rfl).and ((Holds.kdl 87 rfl).and ((Holds.kdl 88 rfl).and ((Holds.kdl 89 rfl).and (hT))))))))) ?_
 clear h
 rintro k ⟨y744,y745⟩ o hp h ho750
 replace h:minimize_Min.s30 c53 e717 y744 y745=some o:=h
 unfold minimize_Min.s30 at h
 obtain ⟨z755,z756,z757,z758,z759,z760,z761,_⟩:=hp
 conv=>whnf
 refine Both.mk ?_ ?_<;>intro b751
 obtain ⟨h,b751d⟩:=ctd b751 h
 conv=>whnf
 obtain ⟨e752,he752,h⟩:=idxn_some h
 refine ⟨_,⟨(by omega),map_at he752,rfl⟩,?_⟩
 conv=>whnf
 obtain ⟨e753,he753z,he753,h⟩:=idx_some h
 refine ⟨_,⟨he753z,map_at he753,rfl⟩,?_⟩
 conv=>whnf
 obtain ⟨c754,h⟩:=chk_some h
 refine Side.mk ⟨rfl,map_len (l:=[e753]) (c:=cI) fun _=>rfl,show capOk _ 8 by simpa only [List.length_map,List.length_cons,List.length_nil,Nat.zero_add] using c754⟩ ?_
 conv=>whnf
 refine Nf.mk (List.map cI (y744++[e753])) (app_map (l:=y744) (m:=[e753]) (c:=cI)) ?_
 conv=>whnf
 refine Arith.mk (by show inR _;unfold inR;omega) ?_
 conv=>whnf
 cases h
 exact Nxt.mk _ ho750 (eA [(84,some 84),(85,some 85),(86,some 86),(87,some 87),(88,some 88),(89,some 89)])
 obtain ⟨h,b751d⟩:=cfd b751 h
 conv=>whnf
 cases h
 have ho750:_=_:=ho750
 cases ho750
 exact Join.mk (eA [(84,some 84),(85,some 85),(86,some 86),(87,some 87),(88,some 88),(89,some 89)])
 replace h:=hk718
 obtain ⟨z762,z763,z764,z765,z766,z767,_⟩:=hp
 conv=>whnf
 refine Side.mk rfl ?_
 conv=>whnf
 refine Side.mk rfl ?_
 conv=>whnf
 refine Side.mk ⟨rfl,trivial⟩ ?_
 conv=>whnf
 obtain ⟨c768,h⟩:=chk_some h
 refine Side.mk ⟨rfl,map_len (l:=[y740]) (c:=cL cI) fun _=>rfl,show capOk _ 24 by simpa only [List.length_map,List.length_cons,List.length_nil,Nat.zero_add] using c768⟩ ?_
 conv=>whnf
 refine Nf.mk (List.map (cL cI) (y527++[y740])) (app_map (l:=y527) (m:=[y740]) (c:=cL cI)) ?_
 conv=>whnf
 refine Side.mk rfl ?_
 conv=>whnf
 refine Side.mk rfl ?_
 conv=>whnf
 refine Side.mk rfl ?_
 conv=>whnf
 refine Side.mk rfl ?_
 conv=>whnf
 refine Side.mk rfl ?_
 conv=>whnf
 refine Side.mk rfl ?_
 conv=>whnf
 obtain ⟨e769,he769,h⟩:=idxn_some h
 refine ⟨_,⟨(by omega),map_at he769,rfl⟩,?_⟩
 conv=>whnf
 obtain ⟨c770,h⟩:=chk_some h
 refine Side.mk ⟨rfl,map_len (l:=e769) (c:=cI) fun _=>rfl,show capOk _ 8 by simpa only [List.length_map,List.length_cons,List.length_nil,Nat.zero_add] using c770⟩ ?_
 conv=>whnf
 refine Nf.mk (List.map cI ([]++e769)) (app_map (l:=[]) (m:=e769) (c:=cI)) ?_
 conv=>whnf
 refine Side.mk ⟨rfl,trivial⟩ ?_
 conv=>whnf
 obtain ⟨c771,h⟩:=chk_some h
 refine Side.mk ⟨rfl,map_len (l:=[([]++e769)]) (c:=cL cI) fun _=>rfl,show capOk _ 24 by simpa only [List.length_map,List.length_cons,List.length_nil,Nat.zero_add] using c771⟩ ?_
 conv=>whnf
 refine Nf.mk (List.map (cL cI) (y528++[([]++e769)])) (app_map (l:=y528) (m:=[([]++e769)]) (c:=cL cI)) ?_
 conv=>whnf
 refine Side.mk rfl ?_
 conv=>whnf
 refine Side.mk rfl ?_
 conv=>whnf
 cases h
 exact Join.mk (eA [(84,some 84),(85,some 85),(86,some 86),(87,some 87),(88,some 88)])
 replace h:minimize_Min.k31 y529 y713 y714=some _:=hk655
 unfold minimize_Min.k31 at h
 obtain ⟨z772,z773,z774,z775,z776,_⟩:=hp
 conv=>whnf
 refine Arith.mk (by show inR _;unfold inR;omega) ?_
 conv=>whnf
 cases h
 exact Nxt.mk _ ho653 (eA [(84,some 84),(85,some 85),(86,some 86),(87,some 87),(88,some 88)])
 obtain ⟨h,b654d⟩:=cfd b654 h
 conv=>whnf
 cases h
 have ho653:_=_:=ho653
 cases ho653
 exact Join.mk (eA [(84,some 84),(85,some 86),(86,some 87),(87,some 88)])
 replace h:minimize_Min.k33 c51 y418 y419=some _:=hk55
 unfold minimize_Min.k33 at h
 obtain ⟨z782,z783,_⟩:=hp
 conv=>whnf
 refine Side.mk rfl ?_
 conv=>whnf
 refine Side.mk rfl ?_
 conv=>whnf
 cases h
 conv=>whnf
 refine Side.mk ⟨rfl,trivial⟩ ?_
 conv=>whnf
 exact Side.mk ⟨rfl,rfl,trivial⟩ ⟨rfl,rfl⟩
theorem sp_cover_places (m_:T_api_Mealy) (from_:Int) (r:List T_cover_place) (h:Ok (.agg (c_api_Mealy m_))→Ok (nI from_)→cover_places m_ from_=some r):Sp Try.prog 90 [.im (.agg (c_api_Mealy m_)),.im (nI from_)] (.row 125 2 (List.map c_cover_place r)):=by
 refine sp_of rfl [19,700002] rfl rfl rfl (Nat.le_of_ble_eq_true rfl) rfl fun hk=>?_
 replace h:=h hk.1 hk.2.1
 have z1:lZ m_.Next:=ok_len (Ok.agg_at hk.1 2 rfl)
 have z2:lZ m_.Out:=ok_len (Ok.agg_at hk.1 3 rfl)
 unfold cover_places at h
 conv=>whnf
 refine Nf.mk (List.length m_.Next) len_map ?_
 conv=>whnf
 obtain ⟨c51,h⟩:=chk_some h
 refine Side.mk c51 ?_
 conv=>whnf
 refine Nf.mk (List.map cB (List.replicate (List.length m_.Next) false)) (rep_map (c:=cB) (z:=false) (n:=(List.length m_.Next)) rfl rfl) ?_
 conv=>whnf
 obtain ⟨e52,he52z,he52,h⟩:=idx_some h
 refine Side.mk ⟨he52z,rfl,map_lt he52⟩ ?_
 conv=>whnf
 refine Side.mk ⟨rfl,trivial⟩ ?_
 conv=>whnf
 refine ⟨_,map_at he52,?_⟩
 conv=>whnf
 refine Nf.mk (List.map cB (List.set (List.replicate (List.length m_.Next) false) from_.toNat true)) (set_map rfl) ?_
 conv=>whnf
 obtain ⟨y270,hc,hk53⟩:=bind_some h
 clear h
 have h:=hc
 clear hc
 refine Cut.mk (mkSt [(6,.osl 65 1)] [(65,.row 125 2 (List.map c_cover_place y270))] []) (lZ y270∧True) ((Holds.kdl 65 rfl).and (hT)) ?_ (fun hp=>?_)
 conv=>whnf
 refine Loops.iter (fun (s:List Bool×List T_cover_place×Nat)=>cover_places.s20 m_ s.1 s.2.1 s.2.2) (fun (y341,y342,i343)=>mkSt [(2,.im (.ref (c_api_Mealy m_))),(5,.osl 65 1),(6,.osl 66 1),(7,.im (nI (↑i343:Int)))] [(65,.row 4 1 (List.map cB y341)),(66,.row 125 2 (List.map c_cover_place y342))] []) (fun (y341,y342,i343)=>lZ y341∧lZ y342∧True) h (eA [(65,some 13),(66,some 19)]) (by rintro ⟨y341,y342,i343⟩;exact ((Holds.kdl 65 rfl).and ((Holds.kdl 66 rfl).and (hT)))) ?_
 clear h
 rintro k ⟨y341,y342,i343⟩ o hp h ho414
 replace h:cover_places.s20 m_ y341 y342 i343=some o:=h
 unfold cover_places.s20 at h
 obtain ⟨z485,z486,_⟩:=hp
 conv=>whnf
 refine Side.mk rfl ?_
 conv=>whnf
 refine Nf.mk (List.length y342) len_map ?_
 conv=>whnf
 refine Both.mk ?_ ?_<;>intro b415
 obtain ⟨h,b415d⟩:=ctd b415 h
 conv=>whnf
 obtain ⟨e416,he416,h⟩:=idxn_some h
 refine Side.mk ⟨(by omega),rfl,map_lt he416⟩ ?_
 conv=>whnf
 refine Side.mk rfl ?_
 conv=>whnf
 refine ⟨_,_,⟨rfl,map_at he416,rfl,rfl⟩,?_⟩
 conv=>whnf
 obtain ⟨e417,he417z,he417,h⟩:=idx_some h
 refine ⟨_,⟨he417z,map_at he417,rfl⟩,?_⟩
 conv=>whnf
 refine Nf.mk (List.length e417) len_map ?_
 conv=>whnf
 obtain ⟨⟨y450,y451⟩,hc,hk418⟩:=bind_some h
 clear h
 have h:=hc
 clear hc
 refine Cut.mk (mkSt [(2,.im (.ref (c_api_Mealy m_))),(5,.osl 65 1),(6,.osl 66 1),(7,.im (nI (↑i343:Int)))] [(65,.row 4 1 (List.map cB y450)),(66,.row 125 2 (List.map c_cover_place y451))] []) (lZ y450∧lZ y451∧True) ((Holds.kdl 65 rfl).and ((Holds.kdl 66 rfl).and (hT))) ?_ (fun hp=>?_)
 conv=>whnf
 refine Loops.iter (fun (s:List Bool×List T_cover_place×Nat)=>cover_places.s18 i343 e417 s.1 s.2.1 s.2.2) (fun (y460,y461,y462)=>mkSt [(2,.im (.ref (c_api_Mealy m_))),(5,.osl 65 1),(6,.osl 66 1),(7,.im (nI (↑i343:Int))),(34,.im (nL cI e417)),(35,.im (nI (↑(List.length e417):Int))),(36,.im (nI (↑y462:Int)))] [(65,.row 4 1 (List.map cB y460)),(66,.row 125 2 (List.map c_cover_place y461))] []) (fun (y460,y461,y462)=>lZ e417∧lZ y460∧lZ y461∧True) h (eA [(65,some 65),(66,some 66)]) (by rintro ⟨y460,y461,y462⟩;exact ((Holds.avl 34 rfl).and ((Holds.kdl 65 rfl).and ((Holds.kdl 66 rfl).and (hT))))) ?_
 clear h
 rintro k ⟨y460,y461,y462⟩ o hp h ho471
 replace h:cover_places.s18 i343 e417 y460 y461 y462=some o:=h
 unfold cover_places.s18 at h
 obtain ⟨z480,z481,z482,_⟩:=hp
 conv=>whnf
 refine Both.mk ?_ ?_<;>intro b472
 obtain ⟨h,b472d⟩:=ctd b472 h
 conv=>whnf
 obtain ⟨e473,he473,h⟩:=idxn_some h
 refine ⟨_,⟨(by omega),map_at he473,rfl⟩,?_⟩
 conv=>whnf
 obtain ⟨e474,he474z,he474,h⟩:=idx_some h
 refine Side.mk ⟨he474z,rfl,map_lt he474⟩ ?_
 conv=>whnf
 refine ⟨_,_,⟨rfl,map_at he474,rfl,rfl⟩,?_⟩
 conv=>whnf
 refine Both.mk ?_ ?_<;>intro b475
 replace h:=cond_t b475 h
 conv=>whnf
 obtain ⟨e476,he476z,he476,h⟩:=idx_some h
 refine Side.mk ⟨he476z,rfl,map_lt he476⟩ ?_
 conv=>whnf
 refine Side.mk ⟨rfl,trivial⟩ ?_
 conv=>whnf
 refine ⟨_,map_at he476,?_⟩
 conv=>whnf
 refine Nf.mk (List.map cB (List.set y460 e473.toNat true)) (set_map rfl) ?_
 conv=>whnf
 obtain ⟨e477,he477,h⟩:=idxn_some h
 refine Side.mk ⟨(by omega),rfl,map_lt he477⟩ ?_
 conv=>whnf
 refine Side.mk rfl ?_
 conv=>whnf
 refine ⟨_,_,⟨rfl,map_at he477,rfl,rfl⟩,?_⟩
 conv=>whnf
 obtain ⟨c478,hc478,h⟩:=bind_some h
 refine ⟨_,(sp_word_Join [e477.word,[(↑y462:Int)]] c478 (fun _=>hc478)),?_⟩
 conv=>whnf
 obtain ⟨c479,h⟩:=chk_some h
 refine Side.mk ⟨rfl,map_len (l:=[(⟨e473,c478⟩:T_cover_place)]) (c:=c_cover_place) fun _=>rfl,show capOk _ 32 by simpa only [List.length_map,List.length_cons,List.length_nil,Nat.zero_add] using c479⟩ ?_
 conv=>whnf
 refine Nf.mk (List.map c_cover_place (y461++[(⟨e473,c478⟩:T_cover_place)])) (app_map (l:=y461) (m:=[(⟨e473,c478⟩:T_cover_place)]) (c:=c_cover_place)) ?_
 conv=>whnf
 refine Arith.mk (by show inR _;unfold inR;omega) ?_
 conv=>whnf
 cases h
 exact Nxt.mk _ ho471 (eA [(65,some 65),(66,some 66)])
 replace h:=cond_f b475 h
 conv=>whnf
 refine Arith.mk (by show inR _;unfold inR;omega) ?_
 conv=>whnf
 cases h
 exact Nxt.mk _ ho471 (eA [(65,some 65),(66,some 66)])
 obtain ⟨h,b472d⟩:=cfd b472 h
 conv=>whnf
 cases h
 have ho471:_=_:=ho471
 cases ho471
 exact Join.mk (eA [(65,some 65),(66,some 66)])
 replace h:cover_places.k19 i343 y450 y451=some _:=hk418
 unfold cover_places.k19 at h
 obtain ⟨z483,z484,_⟩:=hp
 conv=>whnf
 refine Arith.mk (by show inR _;unfold inR;omega) ?_
 conv=>whnf
 cases h
 exact Nxt.mk _ ho414 (eA [(65,some 65),(66,some 66)])
 obtain ⟨h,b415d⟩:=cfd b415 h
 conv=>whnf
 cases h
 have ho414:_=_:=ho414
 cases ho414
 exact Join.mk (eA [(65,some 66)])
 replace h:=hk53
 obtain ⟨z487,_⟩:=hp
 conv=>whnf
 cases h
 conv=>whnf
 exact Side.mk ⟨rfl,trivial⟩ ⟨rfl,rfl⟩
theorem sp_cover_Access (m_:T_api_Mealy) (r:List Int×List (List Int)×Int) (h:Ok (.agg (c_api_Mealy m_))→cover_Access m_=some r):Sp Try.prog 72 [.im (.agg (c_api_Mealy m_))] (.tup [nL cI r.1,nL (cL cI) r.2.1,nI r.2.2]):=by
 refine sp_of rfl [700001] rfl rfl rfl (Nat.le_of_ble_eq_true rfl) rfl fun hk=>?_
 replace h:=h hk.1
 have z1:lZ m_.Next:=ok_len (Ok.agg_at hk.1 2 rfl)
 have z2:lZ m_.Out:=ok_len (Ok.agg_at hk.1 3 rfl)
 unfold cover_Access at h
 conv=>whnf
 obtain ⟨c51,hc51,h⟩:=bind_some h
 refine ⟨_,(sp_mealy_Valid m_ c51 (fun _=>hc51)),?_⟩
 conv=>whnf
 refine Both.mk ?_ ?_<;>intro b52
 obtain ⟨h,b52d⟩:=ctd b52 h
 conv=>whnf
 cases h
 conv=>whnf
 exact ⟨rfl,rfl⟩
 obtain ⟨h,b52d⟩:=cfd b52 h
 conv=>whnf
 obtain ⟨c53,hc53,h⟩:=bind_some h
 refine ⟨_,(sp_cover_places m_ m_.Start c53 (fun _ _=>hc53)).im,?_⟩
 conv=>whnf
 refine Nf.mk (List.length c53) len_map ?_
 conv=>whnf
 obtain ⟨⟨y72,y73⟩,hc,hk54⟩:=bind_some h
 clear h
 have h:=hc
 clear hc
 refine Cut.mk (mkSt [(6,.osl 64 1),(7,.osl 65 1)] [(64,.row 3 1 (List.map cI y72)),(65,.row 26 1 (List.map (cL cI) y73))] []) (lZ y72∧lZ y73∧True) ((Holds.kdl 64 rfl).and ((Holds.kdl 65 rfl).and (hT))) ?_ (fun hp=>?_)
 conv=>whnf
 refine Loops.iter (fun (s:List Int×List (List Int)×Nat)=>cover_Access.s2 c53 s.1 s.2.1 s.2.2) (fun (y76,y77,y78)=>mkSt [(6,.osl 64 1),(7,.osl 65 1),(18,.im (nL c_cover_place c53)),(19,.im (nI (↑(List.length c53):Int))),(20,.im (nI (↑y78:Int)))] [(64,.row 3 1 (List.map cI y76)),(65,.row 26 1 (List.map (cL cI) y77))] []) (fun (y76,y77,y78)=>lZ c53∧lZ y76∧lZ y77∧True) h (eA [(64,none),(65,none)]) (by rintro ⟨y76,y77,y78⟩;exact ((Holds.avl 18 rfl).and ((Holds.kdl 64 rfl).and ((Holds.kdl 65 rfl).and (hT))))) ?_
 clear h
 rintro k ⟨y76,y77,y78⟩ o hp h ho83
 replace h:cover_Access.s2 c53 y76 y77 y78=some o:=h
 unfold cover_Access.s2 at h
 obtain ⟨z88,z89,z90,_⟩:=hp
 conv=>whnf
 refine Both.mk ?_ ?_<;>intro b84
 obtain ⟨h,b84d⟩:=ctd b84 h
 conv=>whnf
 obtain ⟨e85,he85,h⟩:=idxn_some h
 refine ⟨_,⟨(by omega),map_at he85,rfl⟩,?_⟩
 conv=>whnf
 refine Side.mk rfl ?_
 conv=>whnf
 refine Side.mk rfl ?_
 conv=>whnf
 refine Side.mk rfl ?_
 conv=>whnf
 obtain ⟨c86,h⟩:=chk_some h
 refine Side.mk ⟨rfl,map_len (l:=[e85.state]) (c:=cI) fun _=>rfl,show capOk _ 8 by simpa only [List.length_map,List.length_cons,List.length_nil,Nat.zero_add] using c86⟩ ?_
 conv=>whnf
 refine Nf.mk (List.map cI (y76++[e85.state])) (app_map (l:=y76) (m:=[e85.state]) (c:=cI)) ?_
 conv=>whnf
 refine Side.mk rfl ?_
 conv=>whnf
 refine Side.mk rfl ?_
 conv=>whnf
 obtain ⟨c87,h⟩:=chk_some h
 refine Side.mk ⟨rfl,map_len (l:=[e85.word]) (c:=cL cI) fun _=>rfl,show capOk _ 24 by simpa only [List.length_map,List.length_cons,List.length_nil,Nat.zero_add] using c87⟩ ?_
 conv=>whnf
 refine Nf.mk (List.map (cL cI) (y77++[e85.word])) (app_map (l:=y77) (m:=[e85.word]) (c:=cL cI)) ?_
 conv=>whnf
 refine Arith.mk (by show inR _;unfold inR;omega) ?_
 conv=>whnf
 cases h
 exact Nxt.mk _ ho83 (eA [(64,some 64),(65,some 65)])
 obtain ⟨h,b84d⟩:=cfd b84 h
 conv=>whnf
 cases h
 have ho83:_=_:=ho83
 cases ho83
 exact Join.mk (eA [(64,some 64),(65,some 65)])
 replace h:cover_Access.k3 y72 y73=some _:=hk54
 unfold cover_Access.k3 at h
 obtain ⟨z91,z92,_⟩:=hp
 conv=>whnf
 cases h
 conv=>whnf
 exact Side.mk ⟨rfl,rfl,trivial⟩ ⟨rfl,rfl⟩
theorem sp_cover_StateCover (m_:T_api_Mealy) (r:List (List Int)×Int) (h:Ok (.agg (c_api_Mealy m_))→cover_StateCover m_=some r):Sp Try.prog 49 [.im (.agg (c_api_Mealy m_))] (.tup [nL (cL cI) r.1,nI r.2]):=by
 refine sp_of rfl [700001] rfl rfl rfl (Nat.le_of_ble_eq_true rfl) rfl fun hk=>?_
 replace h:=h hk.1
 have z1:lZ m_.Next:=ok_len (Ok.agg_at hk.1 2 rfl)
 have z2:lZ m_.Out:=ok_len (Ok.agg_at hk.1 3 rfl)
 unfold cover_StateCover at h
 conv=>whnf
 obtain ⟨c51,hc51,h⟩:=bind_some h
 refine ⟨_,(sp_cover_Access m_ c51 (fun _=>hc51)),?_⟩
 conv=>whnf
 cases h
 conv=>whnf
 exact ⟨rfl,rfl⟩
theorem sp_word_Next (w_:List Int) (inputs_:Int) (r:List Int×Bool) (h:Ok (nL cI w_)→Ok (nI inputs_)→word_Next w_ inputs_=some r):Sp Try.prog 73 [.im (nL cI w_),.im (nI inputs_)] (.tup [nL cI r.1,nB r.2]):=by
 refine sp_of rfl [] rfl rfl rfl (Nat.le_of_ble_eq_true rfl) rfl fun hk=>?_
 replace h:=h hk.1 hk.2.1
 have z1:lZ w_:=ok_len hk.1
 unfold word_Next at h
 conv=>whnf
 obtain ⟨c51,hc51,h⟩:=bind_some h
 refine ⟨_,(sp_word_Check w_ inputs_ c51 (fun _ _=>hc51)),?_⟩
 conv=>whnf
 refine Both.mk ?_ ?_<;>intro b52
 obtain ⟨h,b52d⟩:=ctd b52 h
 conv=>whnf
 cases h
 conv=>whnf
 exact ⟨rfl,rfl⟩
 obtain ⟨h,b52d⟩:=cfd b52 h
 conv=>whnf
 obtain ⟨c53,hc53,h⟩:=bind_some h
 refine ⟨_,(sp_lib_Clone_int w_ c53 (hc53)),?_⟩
 conv=>whnf
 refine Side.mk rfl ?_
 conv=>whnf
 refine Nf.mk (List.length c53) len_map ?_
 conv=>whnf
 obtain ⟨c54,h⟩:=chk_some h
 refine Arith.mk c54 ?_
 conv=>whnf
 obtain ⟨oc,hc,hk55⟩:=bind_some h
 clear h
 have h:=hc
 clear hc
 refine Cut.mkS oc (Y:=List Int) (fun y87=>mkSt [(6,.osl 64 1)] [(64,.row 3 1 (List.map cI y87))] []) (fun y87=>lZ y87∧True) (by rintro y87;exact ((Holds.kdl 64 rfl).and (hT))) ?_ ?_
 conv=>whnf
 refine Loops.iter (fun (s:List Int×Int)=>word_Next.s2 inputs_ s.1 s.2) (fun (y97,i98)=>mkSt [(1,.im (nI inputs_)),(6,.osl 64 1),(7,.im (nI i98))] [(64,.row 3 1 (List.map cI y97))] []) (fun (y97,i98)=>lZ y97∧True) h (eA [(64,some 13)]) (by rintro ⟨y97,i98⟩;exact ((Holds.kdl 64 rfl).and (hT))) ?_
 clear h
 rintro k ⟨y97,i98⟩ o hp h ho108
 replace h:word_Next.s2 inputs_ y97 i98=some o:=h
 unfold word_Next.s2 at h
 obtain ⟨z118,_⟩:=hp
 conv=>whnf
 refine Both.mk ?_ ?_<;>intro b109
 obtain ⟨h,b109d⟩:=ctd b109 h
 conv=>whnf
 obtain ⟨e110,he110z,he110,h⟩:=idx_some h
 refine Side.mk ⟨he110z,rfl,map_lt he110⟩ ?_
 conv=>whnf
 refine ⟨_,_,⟨rfl,map_at he110,rfl,rfl⟩,?_⟩
 conv=>whnf
 obtain ⟨c111,h⟩:=chk_some h
 refine Arith.mk c111 ?_
 conv=>whnf
 refine Both.mk ?_ ?_<;>intro b112
 obtain ⟨h,b112d⟩:=ctd b112 h
 conv=>whnf
 obtain ⟨e113,he113z,he113,h⟩:=idx_some h
 refine Side.mk ⟨he113z,rfl,map_lt he113⟩ ?_
 conv=>whnf
 refine ⟨_,_,⟨rfl,map_at he113,rfl,rfl⟩,?_⟩
 conv=>whnf
 obtain ⟨c114,h⟩:=chk_some h
 refine Arith.mk c114 ?_
 conv=>whnf
 obtain ⟨e115,he115z,he115,h⟩:=idx_some h
 refine Side.mk ⟨he115z,rfl,map_lt he115⟩ ?_
 conv=>whnf
 refine Side.mk ⟨rfl,trivial⟩ ?_
 conv=>whnf
 refine ⟨_,map_at he115,?_⟩
 conv=>whnf
 refine Nf.mk (List.map cI (List.set y97 i98.toNat (e113+1))) (set_map rfl) ?_
 conv=>whnf
 cases h
 have ho108:_=_:=ho108
 cases ho108
 replace h:some _=some _:=hk55
 cases h
 conv=>whnf
 exact Side.mk ⟨rfl,trivial⟩ ⟨rfl,rfl⟩
 obtain ⟨h,b112d⟩:=cfd b112 h
 conv=>whnf
 obtain ⟨e116,he116z,he116,h⟩:=idx_some h
 refine Side.mk ⟨he116z,rfl,map_lt he116⟩ ?_
 conv=>whnf
 refine Side.mk ⟨rfl,trivial⟩ ?_
 conv=>whnf
 refine ⟨_,map_at he116,?_⟩
 conv=>whnf
 refine Nf.mk (List.map cI (List.set y97 i98.toNat 0)) (set_map rfl) ?_
 conv=>whnf
 obtain ⟨c117,h⟩:=chk_some h
 refine Arith.mk c117 ?_
 conv=>whnf
 cases h
 exact Nxt.mk _ ho108 (eA [(64,some 64)])
 obtain ⟨h,b109d⟩:=cfd b109 h
 conv=>whnf
 cases h
 have ho108:_=_:=ho108
 cases ho108
 exact JoinS.mk' _ rfl (eA [(64,some 64)])
 rintro y87 rfl hp
 replace h:=sum_inl hk55
 obtain ⟨z119,_⟩:=hp
 conv=>whnf
 refine Side.mk rfl ?_
 conv=>whnf
 refine Nf.mk (List.length y87) len_map ?_
 conv=>whnf
 refine Both.mk ?_ ?_<;>intro b120
 obtain ⟨h,b120d⟩:=ctd b120 h
 conv=>whnf
 cases h
 conv=>whnf
 exact ⟨rfl,rfl⟩
 obtain ⟨h,b120d⟩:=cfd b120 h
 conv=>whnf
 obtain ⟨c121,h⟩:=chk_some h
 refine Side.mk ⟨rfl,map_len (l:=[0]) (c:=cI) fun _=>rfl,show capOk _ 8 by simpa only [List.length_map,List.length_cons,List.length_nil,Nat.zero_add] using c121⟩ ?_
 conv=>whnf
 refine Nf.mk (List.map cI (y87++[0])) (app_map (l:=y87) (m:=[0]) (c:=cI)) ?_
 conv=>whnf
 cases h
 conv=>whnf
 exact Side.mk ⟨rfl,trivial⟩ ⟨rfl,rfl⟩
theorem sp_wordset_Upto (inputs_:Int) (n_:Int) (r:List (List Int)×Int) (h:Ok (nI inputs_)→Ok (nI n_)→wordset_Upto inputs_ n_=some r):Sp Try.prog 50 [.im (nI inputs_),.im (nI n_)] (.tup [nL (cL cI) r.1,nI r.2]):=by
 refine sp_of rfl [] rfl rfl rfl (Nat.le_of_ble_eq_true rfl) rfl fun hk=>?_
 replace h:=h hk.1 hk.2.1
 unfold wordset_Upto at h
 conv=>whnf
 obtain ⟨y56,hc,hk52⟩:=bind_some h
 clear h
 have h:=hc
 clear hc
 refine Cut.mk (mkSt [(0,.im (nI inputs_)),(1,.im (nI n_)),(19,.im (nB y56))] [] []) (True) (hT) ?_ (fun hp=>?_)
 conv=>whnf
 obtain ⟨c57,hc57,h⟩:=bind_some h
 refine ⟨_,(sp_word_Check [] inputs_ c57 (fun _ _=>hc57)),?_⟩
 conv=>whnf
 refine Both.mk ?_ ?_<;>intro b58
 replace b58:=beq_ff b58
 obtain ⟨h,b58d⟩:=cfd b58 h
 conv=>whnf
 refine Both.yes (ff_beq b58) ?_
 conv=>whnf
 refine Both.no b58 ?_
 conv=>whnf
 refine Both.mk ?_ ?_<;>intro b59
 replace b59:=beq_ff b59
 obtain ⟨h,b59d⟩:=cfd b59 h
 conv=>whnf
 refine Both.yes (ff_beq b59) ?_
 conv=>whnf
 refine Both.no b59 ?_
 conv=>whnf
 cases h
 exact Join.mk (eA [])
 replace b59:=beq_ft b59
 obtain ⟨h,b59d⟩:=ctd b59 h
 conv=>whnf
 refine Both.no (tf_beq b59) ?_
 conv=>whnf
 refine Both.yes b59 ?_
 conv=>whnf
 cases h
 exact Join.mk (eA [])
 replace b58:=beq_ft b58
 obtain ⟨h,b58d⟩:=ctd b58 h
 conv=>whnf
 refine Both.no (tf_beq b58) ?_
 conv=>whnf
 refine Both.yes b58 ?_
 conv=>whnf
 iterate 2 (refine Both.no rfl ?_;(conv=>whnf))
 refine Both.yes rfl ?_
 conv=>whnf
 cases h
 exact Join.mk (eA [])
 replace h:=hk52
 conv=>whnf
 refine Both.mk ?_ ?_<;>intro b60
 replace h:=cond_t b60 h
 conv=>whnf
 cases h
 conv=>whnf
 exact ⟨rfl,rfl⟩
 replace h:=cond_f b60 h
 conv=>whnf
 obtain ⟨oc,hc,hk61⟩:=bind_some h
 clear h
 have h:=hc
 clear hc
 refine Cut.mkS oc (Y:=List (List Int)) (fun y95=>mkSt [(6,.osl 64 1)] [(64,.row 26 1 (List.map (cL cI) y95))] []) (fun y95=>lZ y95∧True) (by rintro y95;exact ((Holds.kdl 64 rfl).and (hT))) ?_ ?_
 conv=>whnf
 refine Loops.iter (fun (s:List (List Int)×List Int×Bool)=>wordset_Upto.s2 inputs_ n_ s.1 s.2.1 s.2.2) (fun (y101,w102,ok103)=>mkSt [(0,.im (nI inputs_)),(1,.im (nI n_)),(6,.osl 64 1),(7,.im (nL cI w102)),(8,.im (nB ok103))] [(64,.row 26 1 (List.map (cL cI) y101))] []) (fun (y101,w102,ok103)=>lZ w102∧lZ y101∧True) h (Ent.mk [(64,none)] rfl ⟨eI rfl rfl,eI rfl rfl,⟨.im (.val (.slice none 0 0)),rfl,.made rfl rfl⟩,⟨.im (.val (.slice none 0 0)),rfl,.im (Sub.nz' rfl)⟩,eI rfl rfl,trivial⟩ ⟨.inr ⟨rfl,rfl,.inl ⟨_,_,rfl,by decide⟩⟩,trivial⟩ trivial) (by rintro ⟨y101,w102,ok103⟩;exact ((Holds.avl 7 rfl).and ((Holds.kdl 64 rfl).and (hT)))) ?_
 clear h
 rintro k ⟨y101,w102,ok103⟩ o hp h ho115
 replace h:wordset_Upto.s2 inputs_ n_ y101 w102 ok103=some o:=h
 unfold wordset_Upto.s2 at h
 obtain ⟨z127,z128,_⟩:=hp
 conv=>whnf
 obtain ⟨y119,hc,hk117⟩:=bind_some h
 clear h
 have h:=hc
 clear hc
 refine Cut.mk (mkSt [(0,.im (nI inputs_)),(1,.im (nI n_)),(6,.osl 64 1),(7,.im (nL cI w102)),(26,.im (nB y119))] [(64,.row 26 1 (List.map (cL cI) y101))] []) (lZ w102∧lZ y101∧True) ((Holds.avl 7 rfl).and ((Holds.kdl 64 rfl).and (hT))) ?_ (fun hp=>?_)
 conv=>whnf
 refine Both.mk ?_ ?_<;>intro b120
 replace b120:=beq_tt b120
 replace h:=cond_t b120 h
 conv=>whnf
 refine Both.yes (tt_beq b120) ?_
 conv=>whnf
 refine Nf.mk (List.length w102) len_map ?_
 conv=>whnf
 iterate 2 (refine Both.yes (tt_beq b120) ?_;(conv=>whnf))
 refine Both.yes b120 ?_
 conv=>whnf
 cases h
 exact Join.mk (eA [(64,some 64)])
 replace b120:=beq_tf b120
 replace h:=cond_f b120 h
 conv=>whnf
 iterate 3 (refine Both.no (ft_beq b120) ?_;(conv=>whnf))
 refine Both.no b120 ?_
 conv=>whnf
 cases h
 exact Join.mk (eA [(64,some 64)])
 replace h:=hk117
 obtain ⟨z121,z122,_⟩:=hp
 conv=>whnf
 refine Both.mk ?_ ?_<;>intro b123
 replace h:=cond_t b123 h
 conv=>whnf
 refine Side.mk rfl ?_
 conv=>whnf
 refine Nf.mk (List.length y101) len_map ?_
 conv=>whnf
 refine Both.mk ?_ ?_<;>intro b124
 obtain ⟨h,b124d⟩:=ctd b124 h
 conv=>whnf
 cases h
 have ho115:_=_:=ho115
 cases ho115
 replace h:some _=some _:=hk61
 cases h
 conv=>whnf
 exact ⟨rfl,rfl⟩
 obtain ⟨h,b124d⟩:=cfd b124 h
 conv=>whnf
 obtain ⟨c125,h⟩:=chk_some h
 refine Side.mk ⟨rfl,map_len (l:=[w102]) (c:=cL cI) fun _=>rfl,show capOk _ 24 by simpa only [List.length_map,List.length_cons,List.length_nil,Nat.zero_add] using c125⟩ ?_
 conv=>whnf
 refine Nf.mk (List.map (cL cI) (y101++[w102])) (app_map (l:=y101) (m:=[w102]) (c:=cL cI)) ?_
 conv=>whnf
 obtain ⟨c126,hc126,h⟩:=bind_some h
 refine ⟨_,(sp_word_Next w102 inputs_ c126 (fun _ _=>hc126)),?_⟩
 conv=>whnf
 cases h
 exact Nxt.mk _ ho115 (eA [(64,some 64)])
 replace h:=cond_f b123 h
 conv=>whnf
 cases h
 have ho115:_=_:=ho115
 cases ho115
 exact JoinS.mk' _ rfl (eA [(64,some 64)])
 rintro y95 rfl hp
 replace h:=sum_inl hk61
 obtain ⟨z129,_⟩:=hp
 conv=>whnf
 cases h
 conv=>whnf
 exact Side.mk ⟨rfl,trivial⟩ ⟨rfl,rfl⟩
theorem sp_minimize_Minimal (m_:T_api_Mealy) (r:Bool) (h:Ok (.agg (c_api_Mealy m_))→minimize_Minimal m_=some r):Sp Try.prog 15 [.im (.agg (c_api_Mealy m_))] (.im (nB r)):=by
 refine sp_of rfl [700001] rfl rfl rfl (Nat.le_of_ble_eq_true rfl) rfl fun hk=>?_
 replace h:=h hk.1
 have z1:lZ m_.Next:=ok_len (Ok.agg_at hk.1 2 rfl)
 have z2:lZ m_.Out:=ok_len (Ok.agg_at hk.1 3 rfl)
 unfold minimize_Minimal at h
 conv=>whnf
 obtain ⟨y56,hc,hk52⟩:=bind_some h
 clear h
 have h:=hc
 clear hc
 refine Cut.mk (mkSt [(1,.im (.ref (c_api_Mealy m_))),(16,.im (nB y56))] [] []) (True) (hT) ?_ (fun hp=>?_)
 conv=>whnf
 obtain ⟨c57,hc57,h⟩:=bind_some h
 refine ⟨_,(sp_mealy_Valid m_ c57 (fun _=>hc57)),?_⟩
 conv=>whnf
 refine Both.mk ?_ ?_<;>intro b58
 replace b58:=beq_ff b58
 obtain ⟨h,b58d⟩:=cfd b58 h
 conv=>whnf
 refine Both.yes (ff_beq b58) ?_
 conv=>whnf
 obtain ⟨c59,hc59,h⟩:=bind_some h
 refine ⟨_,(sp_mealy_Reach m_ c59 (fun _=>hc59)).im,?_⟩
 conv=>whnf
 refine Both.yes (ff_beq b58) ?_
 conv=>whnf
 refine Nf.mk (List.length c59) len_map ?_
 conv=>whnf
 iterate 3 (refine Both.yes (ff_beq b58) ?_;(conv=>whnf))
 refine Nf.mk (List.length m_.Next) len_map ?_
 conv=>whnf
 refine Both.yes (ff_beq b58) ?_
 conv=>whnf
 refine Both.no b58 ?_
 conv=>whnf
 cases h
 exact Join.mk (eA [])
 replace b58:=beq_ft b58
 obtain ⟨h,b58d⟩:=ctd b58 h
 conv=>whnf
 iterate 6 (refine Both.no (tf_beq b58) ?_;(conv=>whnf))
 refine Both.yes b58 ?_
 conv=>whnf
 cases h
 exact Join.mk (eA [])
 replace h:=hk52
 conv=>whnf
 refine Both.mk ?_ ?_<;>intro b60
 replace h:=cond_t b60 h
 conv=>whnf
 cases h
 conv=>whnf
 exact ⟨rfl,rfl⟩
 replace h:=cond_f b60 h
 conv=>whnf
 obtain ⟨c61,hc61,h⟩:=bind_some h
 refine ⟨_,(sp_minimize_Min m_ c61 (fun _=>hc61)),?_⟩
 conv=>whnf
 refine Side.mk rfl ?_
 conv=>whnf
 obtain ⟨y65,hc,hk63⟩:=bind_some h
 clear h
 have h:=hc
 clear hc
 refine Cut.mk (mkSt [(2,.im (nB y65))] [] []) (True) (hT) ?_ (fun hp=>?_)
 conv=>whnf
 refine Both.mk ?_ ?_<;>intro b66
 replace b66:=beq_tt b66
 obtain ⟨h,b66d⟩:=ctd b66 h
 conv=>whnf
 refine Side.mk rfl ?_
 conv=>whnf
 refine Both.yes (tt_beq b66) ?_
 conv=>whnf
 refine Side.mk rfl ?_
 conv=>whnf
 refine Both.yes (tt_beq b66) ?_
 conv=>whnf
 refine Nf.mk (List.length c61.1.Next) len_map ?_
 conv=>whnf
 iterate 3 (refine Both.yes (tt_beq b66) ?_;(conv=>whnf))
 refine Nf.mk (List.length m_.Next) len_map ?_
 conv=>whnf
 refine Both.yes (tt_beq b66) ?_
 conv=>whnf
 refine Both.yes b66 ?_
 conv=>whnf
 cases h
 exact Join.mk (eA [])
 replace b66:=beq_tf b66
 obtain ⟨h,b66d⟩:=cfd b66 h
 conv=>whnf
 iterate 6 (refine Both.no (ft_beq b66) ?_;(conv=>whnf))
 refine Both.no b66 ?_
 conv=>whnf
 cases h
 exact Join.mk (eA [])
 replace h:=hk63
 conv=>whnf
 cases h
 conv=>whnf
 exact ⟨rfl,rfl⟩
theorem sp_separate_check (m_:T_api_Mealy) (r:Int) (h:Ok (.agg (c_api_Mealy m_))→separate_check m_=some r):Sp Try.prog 40 [.im (.agg (c_api_Mealy m_))] (.im (nI r)):=by
 refine sp_of rfl [700001] rfl rfl rfl (Nat.le_of_ble_eq_true rfl) rfl fun hk=>?_
 replace h:=h hk.1
 have z1:lZ m_.Next:=ok_len (Ok.agg_at hk.1 2 rfl)
 have z2:lZ m_.Out:=ok_len (Ok.agg_at hk.1 3 rfl)
 unfold separate_check at h
 conv=>whnf
 obtain ⟨c51,hc51,h⟩:=bind_some h
 refine ⟨_,(sp_mealy_Valid m_ c51 (fun _=>hc51)),?_⟩
 conv=>whnf
 refine Both.mk ?_ ?_<;>intro b52
 obtain ⟨h,b52d⟩:=ctd b52 h
 conv=>whnf
 cases h
 conv=>whnf
 exact ⟨rfl,rfl⟩
 obtain ⟨h,b52d⟩:=cfd b52 h
 conv=>whnf
 obtain ⟨c53,hc53,h⟩:=bind_some h
 refine ⟨_,(sp_minimize_Minimal m_ c53 (fun _=>hc53)),?_⟩
 conv=>whnf
 refine Both.mk ?_ ?_<;>intro b54
 replace h:=cond_t b54 h
 conv=>whnf
 cases h
 conv=>whnf
 exact ⟨rfl,rfl⟩
 replace h:=cond_f b54 h
 conv=>whnf
 cases h
 conv=>whnf
 exact ⟨rfl,rfl⟩
end Go.Proofs.Ytkfaepfljlphoaa.Sym

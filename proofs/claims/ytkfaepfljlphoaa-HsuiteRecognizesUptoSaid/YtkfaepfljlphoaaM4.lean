/-
 Classes of equivalent states: the program's refinement. Plain laws.
-/
import Derived.Test.YtkfaepfljlphoaaM3
set_option linter.all false
namespace Go.Proofs.Ytkfaepfljlphoaa.Sym
set_option maxRecDepth 100000
section
variable {κ ν:Type} [BEq κ]
theorem mset_new {k:κ} {v:ν}:∀ {m:List (κ×ν)},mget k m=none→mset k v m=m++[(k,v)]
 | [],_=>rfl
 | p::m,h=>by
  unfold mget at h
  unfold mset
  cases e:k==p.1 with
  | true=>rw [e] at h;cases h
  | false =>
   rw [e] at h
   show p::mset k v m=_
   rw [mset_new h]
   rfl
end
theorem li_beq (a b:List Int):(a==b)=true↔a=b:=beq_iff_eq
section
variable {m:T_api_Mealy} {c:List Int}
def sigV (m:T_api_Mealy) (c:List Int) (s a p:Nat):Int:=if p<a then ot m s p else if 64≤p∧p-64<a then (c[nx m s (p-64)]?).getD 0 else 0
def sigA (m:T_api_Mealy) (c:List Int) (s:Nat):List Int:=(List.range 128).map (sigV m c s m.Inputs.toNat)
theorem sigA_at (s:Nat) {p:Nat} (hp:p<128):(sigA m c s)[p]?=some (sigV m c s m.Inputs.toNat p):=by
 unfold sigA
 rw [List.getElem?_map,List.getElem?_range hp]
 rfl
theorem sigA_len (s:Nat):(sigA m c s).length=128:=by simp [sigA]
theorem sigV_lo {s a K:Nat} (h:a<K):sigV m c s K a=ot m s a:=if_pos h
theorem sigV_hi {s a K:Nat} (h:a<K) (hK:K≤64):sigV m c s K (64+a)=(c[nx m s a]?).getD 0:=by
 unfold sigV
 have h1:¬ 64+a<K:=by omega
 have h2:64≤64+a∧64+a-64<K:=by omega
 have h3:64+a-64=a:=by omega
 rw [if_neg h1,if_pos h2,h3]
theorem sigA_eq (hI:m.Inputs≤64) {s t:Nat}:sigA m c s=sigA m c t↔∀ a,a<m.Inputs.toNat→ot m s a=ot m t a∧(c[nx m s a]?).getD 0=(c[nx m t a]?).getD 0:=by
 constructor
 ·intro h a ha
  have h1:=sigA_at (m:=m) (c:=c) s (p:=a) (by omega)
  rw [h,sigA_at t (by omega)] at h1
  injection h1 with h1
  rw [sigV_lo ha,sigV_lo ha] at h1
  have h2:=sigA_at (m:=m) (c:=c) s (p:=64+a) (by omega)
  rw [h,sigA_at t (by omega)] at h2
  injection h2 with h2
  rw [sigV_hi ha (by omega),sigV_hi ha (by omega)] at h2
  exact ⟨h1.symm,h2.symm⟩
 ·intro h
  unfold sigA
  refine List.map_congr_left fun p _=>?_
  unfold sigV
  by_cases h1:p<m.Inputs.toNat
  ·rw [if_pos h1,if_pos h1,(h p h1).1]
  ·rw [if_neg h1,if_neg h1]
   by_cases h2:64≤p∧p-64<m.Inputs.toNat
   ·rw [if_pos h2,if_pos h2,(h _ h2.2).2]
   ·rw [if_neg h2,if_neg h2]
theorem sig_loop (H:MacOk m) (hc:c.length=m.Next.length) {s:Nat} (hs:s<m.Next.length):iter (fun (q:List Int×Nat)=>minimize_next.s18 m c s q.1 q.2) fuel (List.replicate 128 0,0)=some (sigA m c s):=by
 have hI:=H.i2
 refine iter_eq (fun q=>q.2≤m.Inputs.toNat∧q.1=(List.range 128).map (sigV m c s q.2)) (fun q=>m.Inputs.toNat-q.2) (fun q hq=>?_) ⟨Nat.zero_le _,?_⟩ (by have:=fuel_big;simp only;omega)
 ·obtain ⟨y,a⟩:=q
  obtain ⟨q1,q2⟩:=hq
  simp only at q1 q2
  rw [q2]
  simp only [minimize_next.s18]
  by_cases g:a<m.Inputs.toNat
  ·left
   obtain ⟨h1,_,_,x,o,e1,e2,e3,e4⟩:=H.at hs g
   have hcx:=get_at (l:=c) (i:=nx m s a) (by omega)
   have hr:∀ p,p<128→((List.range 128).map (sigV m c s a))[p]?=some (sigV m c s a p):=fun p hp=>by
    rw [List.getElem?_map,List.getElem?_range hp]
    rfl
   refine ⟨((List.range 128).map (sigV m c s (a+1)),a+1),?_,⟨g,rfl⟩,by simp only;omega⟩
   rw [decide_eq_true (by omega),cond_true,idxn_at e2,idxn_at e4,chk_pos (by omega),idxn_at (hr a (by omega)),chk_pos (by unfold inR;omega),idxn_at e1,idxn_at e3,idx_at rfl hcx,chk_pos (by omega),idxn_at (x:=sigV m c s a (64+a)) (by rw [List.getElem?_set_ne (by omega),hr _ (by omega)]),chk_pos (by unfold inR;omega)]
   congr 4
   refine List.ext_getElem? fun p=>?_
   rcases Nat.lt_or_ge p 128 with hp | hp
   ·rw [List.getElem?_map (f:=sigV m c s (a+1)),List.getElem?_range hp,Option.map_some]
    by_cases p1:64+a=p
    ·subst p1
     rw [List.getElem?_set_self (by simp;omega)]
     congr 1
     unfold sigV
     rw [if_neg (by omega),if_pos (by omega),show 64+a-64=a by omega,hcx,Option.getD_some]
    ·rw [List.getElem?_set_ne p1]
     by_cases p2:a=p
     ·subst p2
      rw [List.getElem?_set_self (by simp;omega)]
      congr 1
      unfold sigV
      rw [if_pos (by omega)]
     ·rw [List.getElem?_set_ne p2,hr p hp]
      congr 1
      unfold sigV
      by_cases p3:p<a
      ·rw [if_pos p3,if_pos (by omega)]
      ·have p5:¬ p<a+1:=by omega
       rw [if_neg p3,if_neg p5]
       by_cases p4:64≤p∧p-64<a
       ·have p6:64≤p∧p-64<a+1:=by omega
        rw [if_pos p4,if_pos p6]
       ·have p6:¬ (64≤p∧p-64<a+1):=by omega
        rw [if_neg p4,if_neg p6]
   ·rw [List.getElem?_eq_none (by simp;omega),List.getElem?_eq_none (by simp;omega)]
  ·right
   have:a=m.Inputs.toNat:=by omega
   subst this
   rw [decide_eq_false (by omega),cond_false]
   rfl
 ·simp only
  refine List.ext_getElem? fun p=>?_
  rcases Nat.lt_or_ge p 128 with hp | hp
  ·rw [List.getElem?_replicate,if_pos hp,List.getElem?_map,List.getElem?_range hp,Option.map_some]
   unfold sigV
   rw [if_neg (by omega),if_neg (by omega)]
  ·rw [List.getElem?_eq_none (by simp;omega),List.getElem?_eq_none (by simp;omega)]
def FirstOcc (o:List Int):Prop:=∀ (s x:Nat),o[s]?=some (↑x:Int)→∀ u:Nat,u<x→∃ s',s'<s∧o[s']?=some (↑u:Int)
structure ClsF (m:T_api_Mealy) (k:Nat) (c:List Int):Prop where
 cls:ClsOk m k c
 first:FirstOcc c
theorem E_of_next (H:MacOk m):∀ {k s t:Nat},s<m.Next.length→t<m.Next.length→(∀ a,a<m.Inputs.toNat→ot m s a=ot m t a∧E m k (nx m s a) (nx m t a))→E m (k+1) s t
 | 0,_,_,_,_,h=>⟨trivial,h⟩
 | _+1,_,_,hs,ht,h=>⟨E_of_next H hs ht fun a ha=>⟨(h a ha).1,(h a ha).2.1⟩,h⟩
theorem sig_iff (H:MacOk m) {k:Nat} (C:ClsOk m k c) {s t:Nat} (hs:s<m.Next.length) (ht:t<m.Next.length):sigA m c s=sigA m c t↔E m (k+1) s t:=by
 rw [sigA_eq H.i2]
 have hq:∀ a,a<m.Inputs.toNat→((c[nx m s a]?).getD 0=(c[nx m t a]?).getD 0↔E m k (nx m s a) (nx m t a)):=fun a ha=>by
  have h1:=(H.at hs ha).1
  have h2:=(H.at ht ha).1
  rw [← C.cls _ _ h1 h2]
  obtain ⟨x,x1,_⟩:=C.rng _ h1
  obtain ⟨y,y1,_⟩:=C.rng _ h2
  rw [x1,y1,Option.getD_some,Option.getD_some]
  exact ⟨fun h=>by rw [h],fun h=>by injection h⟩
 constructor
 ·exact fun h=>E_of_next H hs ht fun a ha=>⟨(h a ha).1,(hq a ha).1 (h a ha).2⟩
 ·exact fun h a ha=>⟨(h.2 a ha).1,(hq a ha).2 (h.2 a ha).2⟩
structure Giv (m:T_api_Mealy) (c:List Int) (mp:List (List Int×Int)) (o:List Int) (s:Nat):Prop where
 len:o.length=m.Next.length
 keys:∀ p∈mp,p.1.length=128
 le:mp.length≤s
 get:∀ s',s'<s→∃ x:Nat,x<mp.length∧o[s']?=some (↑x:Int)∧mget (sigA m c s') mp=some (↑x:Int)
 org:∀ k v,mget k mp=some v→∃ s',s'<s∧sigA m c s'=k
 inj:∀ s' s'',s'<s→s''<s→o[s']?=o[s'']?→sigA m c s'=sigA m c s''
 first:∀ (s' x:Nat),s'<s→o[s']?=some (↑x:Int)→∀ u:Nat,u<x→∃ s'',s''<s'∧o[s'']?=some (↑u:Int)
 all:∀ u:Nat,u<mp.length→∃ s',s'<s∧o[s']?=some (↑u:Int)
open Classical in
theorem minimize_next_eq (H:MacOk m) {k:Nat} (C:ClsOk m k c):∃ (c':List Int) (n:Nat),minimize_next m c=some (c',(↑n:Int))∧ClsF m (k+1) c'∧n=nreps m (k+1):=by
 have hn:=H.n2
 have hc:=C.len
 unfold minimize_next
 rw [chk_pos ⟨by omega,by omega,by unfold capOk;omega⟩]
 obtain ⟨r,hr,mp,o,rfl,G,hcnt⟩:=iter_post (step:=fun (s:(List (List Int×Int))×List Int×Nat)=>minimize_next.s20 m c s.1 s.2.1 s.2.2) (fun s=>s.2.2≤m.Next.length∧Giv m c s.1 s.2.1 s.2.2∧s.1.length=(List.range s.2.2).countP fun s=>decide (Rep m (k+1) s)) (fun s=>m.Next.length-s.2.2) (fun r=>∃ mp o,r=(mp,o)∧Giv m c mp o m.Next.length∧mp.length=nreps m (k+1)) (fun s ⟨q1,G,q3⟩=>by
  obtain ⟨mp,o,s⟩:=s
  simp only at q1 G q3
  simp only [minimize_next.s20]
  by_cases g:s<m.Next.length
  ·left
   have hlen:=sigA_len (m:=m) (c:=c) s
   have hmle:=G.le
   have ho:=get_at (l:=o) (i:=s) (by rw [G.len];exact g)
   rw [decide_eq_true (by omega),cond_true,sig_loop H hc g,obind,chk_pos hlen,chk_pos ⟨hlen,G.keys⟩]
   have hrep:(mget (sigA m c s) mp=none)↔Rep m (k+1) s:=by
    constructor
    ·intro h t ht hE
     obtain ⟨x,_,_,x3⟩:=G.get t ht
     rw [← (sig_iff H C g (by omega)).2 hE,h] at x3
     cases x3
    ·intro h
     cases e:mget (sigA m c s) mp with
     | none=>rfl
     | some v =>
      obtain ⟨s',h1,h2⟩:=G.org _ _ e
      exact absurd ((sig_iff H C g (by omega)).1 h2.symm) (h s' h1)
   have hcount:(List.range (s+1)).countP (fun s=>decide (Rep m (k+1) s))=(List.range s).countP (fun s=>decide (Rep m (k+1) s))+if Rep m (k+1) s then 1 else 0:=by
    rw [List.range_succ,List.countP_append]
    congr 1
    by_cases h:Rep m (k+1) s
    ·rw [if_pos h,List.countP_singleton,decide_eq_true h]
     rfl
    ·rw [if_neg h,List.countP_singleton,decide_eq_false h]
     rfl
   have setlt:∀ {s':Nat} {v:Int},s'<s→(o.set s v)[s']?=o[s']?:=fun h=>List.getElem?_set_ne (by omega)
   have setat:∀ {v:Int},(o.set s v)[s]?=some v:=List.getElem?_set_self (by rw [G.len];exact g)
   cases e:mget (sigA m c s) mp with
   | none =>
    have hR:=hrep.1 e
    have hms:mset (sigA m c s) (↑mp.length:Int) mp=mp++[(sigA m c s,(↑mp.length:Int))]:=mset_new e
    refine ⟨(mset (sigA m c s) (↑mp.length:Int) mp,o.set s (↑mp.length:Int),s+1),?_,⟨g,?_,?_⟩,by simp only;omega⟩
    ·rw [Option.isSome_none,Bool.not_false,cond_true,chk_pos hlen,chk_pos ⟨hlen,G.keys⟩,obind]
     simp only [minimize_next.k19]
     rw [idxn_at ho]
    ·simp only
     refine ⟨by simp [G.len],?_,by rw [hms];simp;omega,?_,?_,?_,?_,?_⟩
     ·intro p hp
      rw [hms] at hp
      rcases List.mem_append.1 hp with h | h
      ·exact G.keys p h
      ·have:p=(sigA m c s,(↑mp.length:Int)):=by simpa using h
       rw [this]
       exact hlen
     ·intro s' hs'
      by_cases h:s'<s
      ·obtain ⟨x,x1,x2,x3⟩:=G.get s' h
       refine ⟨x,by rw [hms];simp;omega,by rw [setlt h,x2],?_⟩
       rw [mget_mset_ne li_beq (fun q=>?_),x3]
       rw [q,e] at x3
       cases x3
      ·have:s'=s:=by omega
       subst this
       exact ⟨mp.length,by rw [hms];simp,setat,mget_mset_same li_beq mp⟩
     ·intro kk v hv
      by_cases h:kk=sigA m c s
      ·exact ⟨s,by omega,h.symm⟩
      ·rw [mget_mset_ne li_beq h] at hv
       obtain ⟨s',h1,h2⟩:=G.org _ _ hv
       exact ⟨s',by omega,h2⟩
     ·have fresh:∀ s',s'<s→o[s']?≠some (↑mp.length:Int):=fun s' h q=>by
       obtain ⟨x,x1,x2,_⟩:=G.get s' h
       rw [x2] at q
       injection q with q
       omega
      intro s' s'' h1 h2 h3
      by_cases a1:s'<s<;>by_cases a2:s''<s
      ·rw [setlt a1,setlt a2] at h3
       exact G.inj _ _ a1 a2 h3
      ·have:s''=s:=by omega
       subst this
       rw [setlt a1,setat] at h3
       exact absurd h3 (fresh s' a1)
      ·have:s'=s:=by omega
       subst this
       rw [setlt a2,setat] at h3
       exact absurd h3.symm (fresh s'' a2)
      ·have:s'=s'':=by omega
       rw [this]
     ·intro s' x h1 h2 u hu
      by_cases a1:s'<s
      ·rw [setlt a1] at h2
       obtain ⟨s'',z1,z2⟩:=G.first s' x a1 h2 u hu
       exact ⟨s'',z1,by rw [setlt (by omega),z2]⟩
      ·have:s'=s:=by omega
       subst this
       rw [setat] at h2
       injection h2 with h2
       obtain ⟨s'',z1,z2⟩:=G.all u (by omega)
       exact ⟨s'',z1,by rw [setlt z1,z2]⟩
     ·intro u hu
      rw [hms] at hu
      simp at hu
      rcases Nat.lt_or_ge u mp.length with h | h
      ·obtain ⟨s',z1,z2⟩:=G.all u h
       exact ⟨s',by omega,by rw [setlt z1,z2]⟩
      ·have:u=mp.length:=by omega
       subst this
       exact ⟨s,by omega,setat⟩
    ·simp only
     rw [hcount,if_pos hR,hms,← q3]
     simp
   | some v =>
    have hR:¬ Rep m (k+1) s:=fun q=>by
     rw [hrep.2 q] at e
     cases e
    obtain ⟨t,ht,hts⟩:=G.org _ _ e
    obtain ⟨x,x1,x2,x3⟩:=G.get t ht
    have hv:v=(↑x:Int):=by
     rw [hts,e] at x3
     injection x3
    refine ⟨(mp,o.set s v,s+1),?_,⟨g,?_,?_⟩,by simp only;omega⟩
    ·rw [Option.isSome_some,Bool.not_true,cond_false,Option.getD_some,obind]
     simp only [minimize_next.k19]
     rw [idxn_at ho]
    ·simp only
     refine ⟨by simp [G.len],G.keys,by omega,?_,?_,?_,?_,?_⟩
     ·intro s' hs'
      by_cases h:s'<s
      ·obtain ⟨x,y1,y2,y3⟩:=G.get s' h
       exact ⟨x,y1,by rw [setlt h,y2],y3⟩
      ·have:s'=s:=by omega
       subst this
       exact ⟨x,x1,by rw [setat,hv],by rw [e,hv]⟩
     ·intro kk v hv
      obtain ⟨s',h1,h2⟩:=G.org _ _ hv
      exact ⟨s',by omega,h2⟩
     ·intro s' s'' h1 h2 h3
      by_cases a1:s'<s<;>by_cases a2:s''<s
      ·rw [setlt a1,setlt a2] at h3
       exact G.inj _ _ a1 a2 h3
      ·have:s''=s:=by omega
       subst this
       rw [setlt a1,setat,hv,← x2] at h3
       rw [← hts]
       exact G.inj _ _ a1 ht h3
      ·have:s'=s:=by omega
       subst this
       rw [setlt a2,setat,hv,← x2] at h3
       rw [← hts]
       exact G.inj _ _ ht a2 h3
      ·have:s'=s'':=by omega
       rw [this]
     ·intro s' y h1 h2 u hu
      by_cases a1:s'<s
      ·rw [setlt a1] at h2
       obtain ⟨s'',z1,z2⟩:=G.first s' y a1 h2 u hu
       exact ⟨s'',z1,by rw [setlt (by omega),z2]⟩
      ·have:s'=s:=by omega
       subst this
       rw [setat] at h2
       injection h2 with h2
       obtain ⟨s'',z1,z2⟩:=G.first t x ht x2 u (by omega)
       exact ⟨s'',by omega,by rw [setlt (by omega),z2]⟩
     ·intro u hu
      obtain ⟨s',z1,z2⟩:=G.all u hu
      exact ⟨s',by omega,by rw [setlt z1,z2]⟩
    ·simp only
     rw [hcount,if_neg hR,← q3,Nat.add_zero]
  ·right
   have:s=m.Next.length:=by omega
   subst this
   exact ⟨_,by rw [decide_eq_false (by omega),cond_false],mp,o,rfl,G,q3⟩) fuel ([],List.replicate c.length 0,0) ⟨Nat.zero_le _,⟨by simp [hc],fun p hp=>(by cases hp),Nat.le_refl _,fun s' h=>absurd h (Nat.not_lt_zero _),fun k v h=>(by cases h),fun s' _ h=>absurd h (Nat.not_lt_zero _),fun s' _ h=>absurd h (Nat.not_lt_zero _),fun u h=>absurd h (Nat.not_lt_zero _)⟩,rfl⟩ (by have:=fuel_big;simp only;omega)
 refine ⟨o,mp.length,by rw [hr,obind];rfl,⟨⟨G.len,fun s hs=>?_,fun s t hs ht=>?_⟩,fun s x hx=>G.first s x (by rw [← G.len];exact (List.getElem?_eq_some_iff.1 hx).1) hx⟩,hcnt⟩
 ·obtain ⟨x,x1,x2,_⟩:=G.get s hs
  have:=G.le
  exact ⟨x,x2,by omega⟩
 ·rw [← sig_iff H C hs ht]
  constructor
  ·exact G.inj s t hs ht
  ·intro h
   obtain ⟨x,_,x2,x3⟩:=G.get s hs
   obtain ⟨y,_,y2,y3⟩:=G.get t ht
   rw [h,y3] at x3
   rw [x2,y2,x3]
open Classical in
theorem minimize_refine_eq (H:MacOk m):∃ c i,minimize_refine m 128=some (c,i)∧ClsF m m.Next.length c:=by
 have hn:=H.n2
 have hn1:=H.n1
 have hmin:(min (max (128:Int) 0) (↑m.Next.length:Int))=(↑m.Next.length:Int):=by omega
 unfold minimize_refine
 rw [chk_pos ⟨by omega,by omega,by unfold capOk;omega⟩]
 obtain ⟨r,hr,hq⟩:=iter_post (step:=fun (s:List Int×Int×Nat)=>minimize_refine.s2 m 128 s.1 s.2.1 s.2.2) (fun s=>s.2.2≤m.Next.length∧ClsF m s.2.2 s.1∧s.2.1=(↑(nreps m s.2.2):Int)) (fun s=>m.Next.length-s.2.2) (fun r=>(∃ c,r=.inl c∧ClsF m m.Next.length c)∨∃ c i,r=.inr (c,i)∧ClsF m m.Next.length c) (fun s ⟨q1,q2,q3⟩=>by
  obtain ⟨c,n,i⟩:=s
  simp only at q1 q2 q3
  simp only [minimize_refine.s2]
  rw [hmin]
  by_cases g:i<m.Next.length
  ·obtain ⟨c',n',h1,h2,h3⟩:=minimize_next_eq H q2.cls
   rw [decide_eq_true (by omega),cond_true,h1,obind]
   by_cases e:n'=nreps m i
   ·right
    rw [decide_eq_true (by simp only;omega),cond_true]
    refine ⟨_,rfl,Or.inr ⟨c,_,rfl,⟨⟨q2.cls.len,q2.cls.rng,fun s t hs ht=>?_⟩,q2.first⟩⟩⟩
    rw [q2.cls.cls s t hs ht]
    have hS:Stab m i:=stab_of (by omega)
    constructor
    ·intro h
     have key:∀ j,E m (i+j) s t:=by
      intro j
      induction j with
      | zero=>exact h
      | succ j ih=>exact stab_add H hS j s t hs ht ih
     have:=key (m.Next.length-i)
     rwa [show i+(m.Next.length-i)=m.Next.length by omega] at this
    ·exact E_mono (by omega)
   ·left
    exact ⟨(c',(↑n':Int),i+1),by rw [decide_eq_false (by simp only;omega),cond_false],⟨g,h2,by simp only;rw [h3]⟩,by simp only;omega⟩
  ·right
   have:i=m.Next.length:=by omega
   subst this
   exact ⟨_,by rw [decide_eq_false (by omega),cond_false],Or.inl ⟨c,rfl,q2⟩⟩) fuel (List.replicate m.Next.length 0,1,0) ⟨Nat.zero_le _,⟨⟨by simp,fun s hs=>⟨0,by simp [hs],hn1⟩,fun s t hs ht=>⟨fun _=>trivial,fun _=>by simp [hs,ht]⟩⟩,fun s x hx u hu=>by
    have:=(List.getElem?_eq_some_iff.1 hx).2
    simp at this
    omega⟩,by
    simp only
    have:nreps m 0=1:=by
     unfold nreps
     have h0:∀ n,0<n→(List.range n).countP (fun s=>decide (Rep m 0 s))=1:=by
      intro n
      induction n with
      | zero=>intro h;omega
      | succ n ih =>
       intro _
       rw [List.range_succ,List.countP_append,List.countP_singleton]
       by_cases hz:n=0
       ·subst hz
        rw [decide_eq_true (show Rep m 0 0 from fun t ht=>absurd ht (Nat.not_lt_zero _))]
        rfl
       ·rw [ih (by omega),decide_eq_false (show ¬ Rep m 0 n from fun q=>q 0 (by omega) trivial)]
        rfl
     exact h0 _ hn1
    rw [this]
    rfl⟩ (by have:=fuel_big;simp only;omega)
 rw [hr,obind]
 rcases hq with ⟨c,rfl,h⟩ | ⟨c,i,rfl,h⟩
 ·exact ⟨c,_,rfl,h⟩
 ·exact ⟨c,i,rfl,h⟩
theorem minimize_Classes_eq (hv:validM m=0):∃ c,minimize_Classes m=some (c,0)∧ClsF m m.Next.length c:=by
 obtain ⟨c,i,h1,h2⟩:=minimize_refine_eq (valid_ok hv)
 refine ⟨c,?_,h2⟩
 unfold minimize_Classes minimize_Partition
 rw [mealy_Valid_eq,obind,hv,decide_eq_false (by decide),cond_false,h1,obind,obind]
end
end Go.Proofs.Ytkfaepfljlphoaa.Sym

/-
 The program's minimal machine. Plain laws.
-/
namespace Go.Proofs.Ytkfaepfljlphoaa.Sym
set_option maxRecDepth 100000
section
variable {m t:T_api_Mealy} {c:List Int}
def IsFirst (c:List Int) (s u:Nat):Prop:=c[s]?=some (↑u:Int)∧∀ s',s'<s→c[s']?≠some (↑u:Int)
theorem first_lt (F:FirstOcc c) {s u i v:Nat} (hs:IsFirst c s u) (hi:i<s) (hv:c[i]?=some (↑v:Int)):v<u:=by
 rcases Nat.lt_trichotomy v u with h | h | h
 ·exact h
 ·rw [h] at hv
  exact absurd hv (hs.2 i hi)
 ·obtain ⟨s',h1,h2⟩:=F i v hv u h
  exact absurd h2 (hs.2 s' (by omega))
theorem first_le (F:FirstOcc c) {s u i v:Nat} (hs:IsFirst c s u) (hv:c[i]?=some (↑v:Int)) (hu:u≤v):s≤i:=by
 rcases Nat.lt_or_ge i s with h | h
 ·have:=first_lt F hs h hv
  omega
 ·exact h
structure Quo (t M:T_api_Mealy) (c:List Int):Prop where
 inp:M.Inputs=t.Inputs
 start:M.Start=0
 len:M.Out.length=M.Next.length
 ub:∀ s,s<t.Next.length→∃ x:Nat,c[s]?=some (↑x:Int)∧x<M.Next.length
 row:∀ u,u<M.Next.length→∃ s r o,s<t.Next.length∧IsFirst c s u∧M.Next[u]?=some r∧M.Out[u]?=some o∧r.length=t.Inputs.toNat∧(∀ a,a<t.Inputs.toNat→r[a]?=c[nx t s a]?)∧t.Out[s]?=some o
 le:M.Next.length≤t.Next.length
variable {M:T_api_Mealy}
theorem quo_nx (H:MacOk t) (Q:Quo t M c) {u:Nat} (hu:u<M.Next.length):∃ s,s<t.Next.length∧IsFirst c s u∧∀ a,a<t.Inputs.toNat→c[nx t s a]?=some (↑(nx M u a):Int)∧ot M u a=ot t s a:=by
 obtain ⟨s,r,o,h1,h2,h3,h4,h5,h6,h7⟩:=Q.row u hu
 refine ⟨s,h1,h2,fun a ha=>?_⟩
 obtain ⟨x,x1,_⟩:=Q.ub _ (H.at h1 ha).1
 have hr:=h6 a ha
 rw [x1] at hr
 refine ⟨?_,?_⟩
 ·rw [x1]
  unfold nx
  rw [h3,Option.getD_some,hr,Option.getD_some,Int.toNat_natCast]
 ·unfold ot
  rw [h4,h7]
theorem quo_step (H:MacOk t) (C:ClsF t t.Next.length c) {s s' a:Nat} (hs:s<t.Next.length) (hs':s'<t.Next.length) (h:c[s]?=c[s']?) (ha:a<t.Inputs.toNat):ot t s a=ot t s' a∧c[nx t s a]?=c[nx t s' a]?:=by
 have h1:=E_all H hs hs' ((C.cls.cls s s' hs hs').1 h) (t.Next.length+1)
 exact ⟨(h1.2 a ha).1,(C.cls.cls _ _ (H.at hs ha).1 (H.at hs' ha).1).2 (h1.2 a ha).2⟩
theorem quo_outs (H:MacOk t) (C:ClsF t t.Next.length c) (Q:Quo t M c):∀ (w:List Int) (s u:Nat),s<t.Next.length→c[s]?=some (↑u:Int)→WOk t.Inputs w→outs M u w=outs t s w
 | [],_,_,_,_,_=>rfl
 | z::w,s,u,hs,hu,hw=>by
  have hz:=hw.head
  have ha:z.toNat<t.Inputs.toNat:=by omega
  obtain ⟨x,x1,x2⟩:=Q.ub s hs
  have hux:u<M.Next.length:=by
   rw [hu] at x1
   injection x1 with x1
   omega
  obtain ⟨s',h1,h2,h3⟩:=quo_nx H Q hux
  obtain ⟨e1,e2⟩:=quo_step H C hs h1 (hu.trans h2.1.symm) ha
  have h4:=h3 _ ha
  have:=quo_outs H C Q w (nx t s z.toNat) (nx M u z.toNat) (H.at hs ha).1 (by rw [e2,h4.1]) hw.tail
  show ot M u z.toNat::outs M (nx M u z.toNat) w=ot t s z.toNat::outs t (nx t s z.toNat) w
  rw [this,h4.2,e1]
theorem quo_ok (H:MacOk t) (Q:Quo t M c):MacOk M:=by
 have hn:=H.n1
 have hn2:=H.n2
 obtain ⟨x,_,x2⟩:=Q.ub 0 hn
 have hle:=Q.le
 refine ⟨by rw [Q.inp];exact H.i1,by rw [Q.inp];exact H.i2,by omega,by omega,by rw [Q.start];omega,Q.len,fun u hu=>?_⟩
 have hi1:=H.i1
 obtain ⟨s,r,o,h1,h2,h3,h4,h5,h6,h7⟩:=Q.row u hu
 obtain ⟨x',y',e1,e2,e3,e4,e5,e6⟩:=H.row s h1
 rw [h7] at e2
 injection e2 with e2
 subst e2
 refine ⟨r,o,h3,h4,by rw [Q.inp];omega,by rw [Q.inp];exact e4,fun v hv=>?_,e6⟩
 obtain ⟨a,ha,rfl⟩:=List.mem_iff_getElem.1 hv
 obtain ⟨z,z1,z2⟩:=Q.ub _ (H.at h1 (a:=a) (by omega)).1
 have hr:=h6 a (by omega)
 rw [get_at ha,z1] at hr
 injection hr with hr
 omega
theorem quo_can (H:MacOk t) (C:ClsF t t.Next.length c) (Q:Quo t M c) (K:Can t):Can M:=by
 have hzero:∀ s,IsFirst c s 0→s=0:=fun s hs=>by
  obtain ⟨x,x1,_⟩:=Q.ub 0 H.n1
  have:=first_le C.first hs x1 (Nat.zero_le _)
  omega
 have hpos:∀ s u,IsFirst c s u→0<u→0<s:=fun s u hs hu=>by
  rcases Nat.eq_zero_or_pos s with h | h
  ·subst h
   obtain ⟨s',h1,_⟩:=C.first 0 u hs.1 0 hu
   omega
  ·exact h
 have back:∀ {i a s u:Nat},i<s→i<t.Next.length→a<t.Inputs.toNat→IsFirst c s u→nx t i a=s→∃ v:Nat,c[i]?=some (↑v:Int)∧v<u∧nx M v a=u:=fun {i a s u} h1 h2 h3 h4 h5=>by
  obtain ⟨v,v1,v2⟩:=Q.ub i h2
  refine ⟨v,v1,first_lt C.first h4 h1 v1,?_⟩
  obtain ⟨s',g1,g2,g3⟩:=quo_nx H Q v2
  have e:=(quo_step H C h2 g1 (v1.trans g2.1.symm) h3).2
  have g4:=(g3 a h3).1
  rw [← e,h5,h4.1] at g4
  injection g4 with g4
  omega
 refine ⟨fun i a u hi ha hu hle=>?_,fun u hu hlt=>?_⟩
 ·rw [Q.inp] at ha ⊢
  obtain ⟨s,h1,h2,h3⟩:=quo_nx H Q hi
  have hD:=(h3 a ha).1
  have hn1:=(H.at h1 ha).1
  have huM:u<M.Next.length:=by
   have:=(quo_ok H Q).at hi (a:=a) (by rw [Q.inp];exact ha)
   omega
  obtain ⟨su,g1,g2,g3⟩:=quo_nx H Q huM
  have hsu:=first_le C.first g2 hD hle
  obtain ⟨i',a',z1,z2,z3,z4⟩:=K.c4 s a su h1 ha (hpos su u g2 hu) hsu
  obtain ⟨v,v1,v2,v3⟩:=back z3 (by omega) z1 g2 z4
  refine ⟨v,a',z1,?_,v2,v3⟩
  have hle':i'≤s:=by
   rcases Nat.lt_or_ge s i' with q | q
   ·have:=mem_lt q ha
    omega
   ·exact q
  rcases Nat.lt_or_ge i' s with q | q
  ·have:=first_lt C.first h2 q v1
   have:=mem_lt this z1
   omega
  ·have e:i'=s:=by omega
   subst e
   have hv:=h2.1
   rw [v1] at hv
   injection hv with hv
   have:v=i:=by omega
   subst this
   omega
 ·rw [Q.inp]
  obtain ⟨su,g1,g2,g3⟩:=quo_nx H Q hlt
  obtain ⟨i,a,z1,z2,z3⟩:=K.c5 su (hpos su u g2 hu) g1
  obtain ⟨v,v1,v2,v3⟩:=back z1 (by omega) z2 g2 z3
  exact ⟨v,a,v2,z2,v3⟩
theorem quo_min (H:MacOk t) (C:ClsF t t.Next.length c) (Q:Quo t M c) {i j:Nat} (hi:i<M.Next.length) (hj:j<M.Next.length) (h:Eqv M i M j):i=j:=by
 obtain ⟨s,h1,h2,_⟩:=quo_nx H Q hi
 obtain ⟨s',g1,g2,_⟩:=quo_nx H Q hj
 have he:E t t.Next.length s s':=E_of_outs fun w _ hw=>by
  rw [← quo_outs H C Q w s i h1 h2.1 hw,← quo_outs H C Q w s' j g1 g2.1 hw]
  exact h w (by rw [Q.inp];exact hw)
 have:=(C.cls.cls s s' h1 g1).2 he
 rw [h2.1,g2.1] at this
 injection this with this
 omega
theorem quo_sem {L:List (Nat×List Int)} (T:TrimOk m t L) (C:ClsF t t.Next.length c) (Q:Quo t M c):MinSem m M:=by
 have H:=T.ok
 have hK:0<t.Inputs.toNat:=by have:=H.i1;omega
 have hE:BfsEnd (nx m) t.Inputs.toNat m.Start.toNat L:=by rw [T.inp];exact T.end_
 have hcan:=shape_can hE T.shape hK
 have h0:c[0]?=some (↑(0:Nat):Int):=by
  obtain ⟨x,x1,_⟩:=Q.ub 0 H.n1
  rcases Nat.eq_zero_or_pos x with h | h
  ·rw [x1,h]
  ·obtain ⟨s',h1,_⟩:=C.first 0 x x1 0 h
   omega
 refine ⟨quo_ok H Q,Q.inp.trans T.inp,Q.start,fun w hw=>?_,fun i j hi hj h=>quo_min H C Q hi hj h,quo_can H C Q hcan⟩
 have hw':WOk t.Inputs w:=by rw [← Q.inp];exact hw
 rw [quo_outs H C Q w 0 0 H.n1 h0 hw',trim_outs T w 0 _ T.end_.first (by rw [← T.inp];exact hw')]
theorem min_loop (H:MacOk t) (C:ClsF t t.Next.length c) (e e2:Int):∃ P R,iter (fun (s:List (List Int)×List (List Int)×Nat)=>minimize_Min.s32 (t,e) (c,e2) s.1 s.2.1 s.2.2) fuel ([],[],0)=some (P,R)∧Quo t (⟨t.Inputs,0,P,R⟩:T_api_Mealy) c:=by
 have hn:=H.n2
 have hn1:=H.n1
 have hI:=H.i2
 have hI1:=H.i1
 have hc:=C.cls.len
 obtain ⟨r,hr,P,R,rfl,hQ⟩:=iter_post (step:=fun (s:List (List Int)×List (List Int)×Nat)=>minimize_Min.s32 (t,e) (c,e2) s.1 s.2.1 s.2.2) (fun s=>s.2.2≤t.Next.length∧s.2.1.length=s.1.length∧s.1.length≤s.2.2∧(∀ s',s'<s.2.2→∃ x:Nat,c[s']?=some (↑x:Int)∧x<s.1.length)∧∀ u,u<s.1.length→∃ s' r o,s'<s.2.2∧IsFirst c s' u∧s.1[u]?=some r∧s.2.1[u]?=some o∧r.length=t.Inputs.toNat∧(∀ a,a<t.Inputs.toNat→r[a]?=c[nx t s' a]?)∧t.Out[s']?=some o) (fun s=>t.Next.length-s.2.2) (fun r=>∃ P R,r=(P,R)∧Quo t (⟨t.Inputs,0,P,R⟩:T_api_Mealy) c) (fun s ⟨q1,q2,q3,q4,q5⟩=>by
  obtain ⟨P,R,s⟩:=s
  simp only at q1 q2 q3 q4 q5
  simp only [minimize_Min.s32]
  by_cases g:s<t.Next.length
  ·left
   obtain ⟨x,x1,x2⟩:=C.cls.rng s g
   rw [decide_eq_true (by omega),cond_true,idxn_at x1]
   by_cases hx:x<P.length
   ·refine ⟨(P,R,s+1),?_,⟨g,q2,by simp only;omega,fun s' hs'=>?_,fun u hu=>?_⟩,by simp only;omega⟩
    ·rw [decide_eq_true (by omega),cond_true,obind]
     rfl
    ·simp only at hs' ⊢
     rcases Nat.lt_or_ge s' s with h | h
     ·exact q4 s' h
     ·have:s'=s:=by omega
      subst this
      exact ⟨x,x1,hx⟩
    ·obtain ⟨s',r,o,z1,z2⟩:=q5 u hu
     exact ⟨s',r,o,by simp only;omega,z2⟩
   ·have hxe:x=P.length:=by
     rcases Nat.lt_or_ge P.length x with h | h
     ·obtain ⟨s',h1,h2⟩:=C.first s x x1 P.length h
      obtain ⟨y,y1,y2⟩:=q4 s' h1
      rw [h2] at y1
      injection y1 with y1
      omega
     ·omega
    subst hxe
    obtain ⟨row,out,e1,e2',e3,e4,e5,e6⟩:=H.row s g
    obtain ⟨r,hr,hrl,hra⟩:=iter_post (step:=fun (q:List Int×Nat)=>minimize_Min.s30 (c,e2) row q.1 q.2) (fun q=>q.2≤t.Inputs.toNat∧q.1.length=q.2∧∀ a,a<q.2→q.1[a]?=c[nx t s a]?) (fun q=>t.Inputs.toNat-q.2) (fun r=>r.length=t.Inputs.toNat∧∀ a,a<t.Inputs.toNat→r[a]?=c[nx t s a]?) (fun q ⟨w1,w2,w3⟩=>by
     obtain ⟨y,a⟩:=q
     simp only at w1 w2 w3
     simp only [minimize_Min.s30]
     by_cases f:a<t.Inputs.toNat
     ·left
      obtain ⟨h1,_,_,x',y',h2,_,h4,_⟩:=H.at g f
      rw [e1] at h2
      injection h2 with h2
      subst h2
      have hcx:=get_at (l:=c) (i:=nx t s a) (by omega)
      refine ⟨(y++[c[nx t s a]'(by omega)],a+1),?_,⟨f,by simp [w2],fun b hb=>?_⟩,by simp only;omega⟩
      ·rw [decide_eq_true (by omega),cond_true,idxn_at h4,idx_at rfl hcx,chk_pos (by unfold capOk;omega)]
      ·simp only at hb ⊢
       rcases Nat.lt_or_ge b a with h | h
       ·rw [List.getElem?_append_left (by omega),w3 b h]
       ·have:b=a:=by omega
        subst this
        rw [List.getElem?_append_right (by omega),w2,Nat.sub_self,hcx]
        rfl
     ·right
      have:a=t.Inputs.toNat:=by omega
      subst this
      exact ⟨y,by rw [decide_eq_false (by omega),cond_false],w2,w3⟩) fuel ([],0) ⟨Nat.zero_le _,rfl,fun a h=>absurd h (Nat.not_lt_zero _)⟩ (by have:=fuel_big;simp only;omega)
    refine ⟨(P++[r],R++[out],s+1),?_,⟨g,by simp [q2],by simp;omega,fun s' hs'=>?_,fun u hu=>?_⟩,by simp only;omega⟩
    ·rw [decide_eq_false (by omega),cond_false,idxn_at e1,hr,obind,chk_pos (by unfold capOk;omega),idxn_at e2',chk_pos (by unfold capOk;simp;omega),chk_pos (by unfold capOk;omega),obind]
     rfl
    ·simp only at hs' ⊢
     rw [List.length_append,List.length_singleton]
     rcases Nat.lt_or_ge s' s with h | h
     ·obtain ⟨y,y1,y2⟩:=q4 s' h
      exact ⟨y,y1,by omega⟩
     ·have:s'=s:=by omega
      subst this
      exact ⟨_,x1,by omega⟩
    ·simp only at hu ⊢
     rw [List.length_append,List.length_singleton] at hu
     rcases Nat.lt_or_ge u P.length with h | h
     ·obtain ⟨s',r',o,z1,z2,z3,z4,z5⟩:=q5 u h
      exact ⟨s',r',o,by omega,z2,by rw [List.getElem?_append_left h,z3],by rw [List.getElem?_append_left (by omega),z4],z5⟩
     ·have:u=P.length:=by omega
      subst this
      refine ⟨s,r,out,by omega,⟨x1,fun s' hs' q=>?_⟩,by simp,?_,hrl,hra,e2'⟩
      ·obtain ⟨y,y1,y2⟩:=q4 s' hs'
       rw [q] at y1
       injection y1 with y1
       omega
      ·rw [List.getElem?_append_right (by omega),q2,Nat.sub_self]
       rfl
  ·right
   have:s=t.Next.length:=by omega
   subst this
   exact ⟨_,by rw [decide_eq_false (by omega),cond_false],P,R,rfl,⟨rfl,rfl,q2,q4,q5,q3⟩⟩) fuel ([],[],0) ⟨Nat.zero_le _,rfl,Nat.le_refl _,fun s' h=>absurd h (Nat.not_lt_zero _),fun u h=>absurd h (Nat.not_lt_zero _)⟩ (by have:=fuel_big;simp only;omega)
 exact ⟨P,R,hr,hQ⟩
theorem validM_of (H:MacOk m):validM m=0:=by
 have:=mealy_Valid_ok H
 rw [mealy_Valid_eq] at this
 injection this
theorem minimize_Min_eq (hv:validM m=0):∃ M,minimize_Min m=some (M,0)∧MinSem m M:=by
 obtain ⟨t,L,h1,T⟩:=mealy_Trim_eq hv
 obtain ⟨c,h2,C⟩:=minimize_Classes_eq (validM_of T.ok)
 obtain ⟨P,R,h3,Q⟩:=min_loop T.ok C 0 0
 refine ⟨⟨t.Inputs,0,P,R⟩,?_,quo_sem T C Q⟩
 unfold minimize_Min
 rw [h1,obind,decide_eq_false (fun h=>h rfl),cond_false,h2,obind,decide_eq_false (fun h=>h rfl),cond_false,h3,obind]
 rfl
end
end Go.Proofs.Ytkfaepfljlphoaa.Sym

/-
 The document's minimal machine, and that it is the program's. Plain laws.
-/
namespace Go.Proofs.Ytkfaepfljlphoaa.Sym
set_option maxRecDepth 100000
section
variable {m:T_api_Mealy} {c:List Int}
def clN (c:List Int) (s:Nat):Nat:=((c[s]?).getD 0).toNat
open Classical in
theorem clN_at (C:ClsOk m m.Next.length c) {s:Nat} (hs:s<m.Next.length):c[s]?=some (↑(clN c s):Int)∧clN c s<m.Next.length:=by
 obtain ⟨x,x1,x2⟩:=C.rng s hs
 unfold clN
 rw [x1,Option.getD_some,Int.toNat_natCast]
 exact ⟨rfl,x2⟩
structure Nums (m:T_api_Mealy) (c:List Int) (ord:List Nat) (num:List Int) (B:List (Nat×List Int)):Prop where
 ol:ord.length=B.length
 oc:∀ (j u:Nat) (x:Nat×List Int),ord[j]?=some u→B[j]?=some x→u<m.Next.length∧clN c u=x.1
 nl:num.length=m.Next.length
 n1:∀ (j:Nat) (x:Nat×List Int),B[j]?=some x→num[x.1]?=some (↑j:Int)
 n2:∀ x:Nat,x<m.Next.length→x∉B.map Prod.fst→num[x]?=some (-1:Int)
theorem Nums.push {ord:List Nat} {num:List Int} {B:List (Nat×List Int)} {u:Nat} {w:List Int} (N:Nums m c ord num B) (C:ClsOk m m.Next.length c) (hu:u<m.Next.length) (hn:clN c u∉B.map Prod.fst) (hB:(B.map Prod.fst).Nodup):Nums m c (ord++[u]) (num.set (clN c u) (↑B.length:Int)) (B++[(clN c u,w)]):=by
 have hcl:=(clN_at C hu).2
 refine ⟨by simp [N.ol],fun j v x hj hx=>?_,by simp [N.nl],fun j x hx=>?_,fun x hx hm=>?_⟩
 ·rcases Nat.lt_or_ge j B.length with h | h
  ·rw [List.getElem?_append_left (by rw [N.ol];exact h)] at hj
   rw [List.getElem?_append_left h] at hx
   exact N.oc j v x hj hx
  ·have hl:=(List.getElem?_eq_some_iff.1 hx).1
   rw [List.length_append,List.length_singleton] at hl
   have:j=B.length:=by omega
   subst this
   rw [List.getElem?_append_right (by rw [N.ol];exact Nat.le_refl _),N.ol,Nat.sub_self] at hj
   rw [List.getElem?_append_right (Nat.le_refl _),Nat.sub_self] at hx
   injection hj with hj
   injection hx with hx
   subst hj
   subst hx
   exact ⟨hu,rfl⟩
 ·rcases Nat.lt_or_ge j B.length with h | h
  ·rw [List.getElem?_append_left h] at hx
   rw [List.getElem?_set_ne (fun q=>hn (by rw [q];exact List.mem_map.2 ⟨x,List.mem_of_getElem? hx,rfl⟩)),N.n1 j x hx]
  ·have hl:=(List.getElem?_eq_some_iff.1 hx).1
   rw [List.length_append,List.length_singleton] at hl
   have:j=B.length:=by omega
   subst this
   rw [List.getElem?_append_right (Nat.le_refl _),Nat.sub_self] at hx
   injection hx with hx
   subst hx
   rw [List.getElem?_set_self (by rw [N.nl];exact hcl)]
 ·rw [List.map_append,List.mem_append,not_or] at hm
  have h1:clN c u≠x:=fun q=>hm.2 (by simp [q])
  rw [List.getElem?_set_ne h1]
  exact N.n2 x hx hm.1
end
end Go.Proofs.Ytkfaepfljlphoaa.Sym

/-
 Words that separate states, minimal machines and identifiers: the program's are the document's. Plain laws.
-/
namespace Go.Proofs.Ytkfaepfljlphoaa.Sym
set_option maxRecDepth 100000
theorem nodup_all {α:Type} [DecidableEq α] {l l':List α} (h:l.Nodup) (hs:∀ x∈l,x∈l') (hl:l'.length≤l.length):∀ x∈l',x∈l:=fun x hx=>Classical.byContradiction fun hn=>by
 have:=nodup_le (l:=x::l) (l':=l') (List.nodup_cons.2 ⟨hn,h⟩) fun y hy=>by
  rcases List.mem_cons.1 hy with rfl | hy
  ·exact hx
  ·exact hs y hy
 simp only [List.length_cons] at this
 omega
section
variable {m M:T_api_Mealy}
theorem MacOk.two (H:MacOk m):Two m m:=⟨H,H,rfl⟩
open Classical in
noncomputable def sepR (m:T_api_Mealy) (s t:Nat):List Int×Bool:=if h:∃ res,Fst m m (s,t) res then Classical.choose h else ([],false)
noncomputable def sepW (m:T_api_Mealy) (s t:Nat):List Int:=(sepR m s t).1
noncomputable def sepB (m:T_api_Mealy) (s t:Nat):Bool:=(sepR m s t).2
theorem sepR_of {s t:Nat} {res:List Int×Bool} (h:Fst m m (s,t) res):Fst m m (s,t) (sepW m s t,sepB m s t):=by
 have h':∃ res,Fst m m (s,t) res:=⟨res,h⟩
 have:sepR m s t=Classical.choose h':=dif_pos h'
 show Fst m m (s,t) (sepR m s t)
 rw [this]
 exact Classical.choose_spec h'
theorem sep_fst (H:MacOk m) {s t:Nat} (hs:s<m.Next.length) (ht:t<m.Next.length):Fst m m (s,t) (sepW m s t,sepB m s t):=by
 obtain ⟨res,_,h⟩:=equiv_search_eq H.two (p0:=(s,t)) hs ht
 exact sepR_of h
theorem States_prog (hv:validM m=0) {s t:Nat} (hs:s<m.Next.length) (ht:t<m.Next.length):equiv_States m (↑s:Int) (↑t:Int)=some (sepW m s t,sepB m s t,0):=by
 have H:=valid_ok hv
 have hK:0<m.Inputs.toNat:=by have:=H.i1;omega
 obtain ⟨res,h1,h2⟩:=equiv_search_eq H.two (p0:=(s,t)) hs ht
 have:=fst_uniq hK h2 (sepR_of h2)
 unfold equiv_States
 rw [mealy_Valid_eq,obind,hv,decide_eq_false (by decide),cond_false,decide_eq_false (by omega),cond_false,decide_eq_false (by omega),cond_false,decide_eq_false (by omega),cond_false,decide_eq_false (by omega),obind,cond_false,h1,obind,this]
theorem pB_swap (r:Nat) (s t:Nat):pB m m (t,s) r=(pB m m (s,t) r).map fun x=>((x.1.2,x.1.1),x.2):=by
 induction r with
 | zero=>rfl
 | succ r ih =>
  have e1:∀ p0,pB m m p0 (r+1)=match (pB m m p0 r)[r / m.Inputs.toNat]? with
    | none=>pB m m p0 r
    | some x=>if pE m m x.1 (r%m.Inputs.toNat)∈(pB m m p0 r).map Prod.fst then pB m m p0 r else pB m m p0 r++[(pE m m x.1 (r%m.Inputs.toNat),x.2++[(↑(r%m.Inputs.toNat):Int)])]:=fun p0=>by
   unfold pB
   rw [bfsB]
   cases (bfsB (pE m m) m.Inputs.toNat p0 r)[r / m.Inputs.toNat]? with
   | none=>rfl
   | some x =>
    simp only
    by_cases h:pE m m x.1 (r%m.Inputs.toNat)∈(bfsB (pE m m) m.Inputs.toNat p0 r).map Prod.fst
    ·rw [if_pos h,if_pos h]
    ·rw [if_neg h,if_neg h]
  rw [e1,e1,ih,List.getElem?_map]
  cases (pB m m (s,t) r)[r / m.Inputs.toNat]? with
  | none=>rfl
  | some x =>
   simp only [Option.map_some]
   have hm:pE m m (x.1.2,x.1.1) (r%m.Inputs.toNat)∈((pB m m (s,t) r).map fun x=>((x.1.2,x.1.1),x.2)).map Prod.fst↔pE m m x.1 (r%m.Inputs.toNat)∈(pB m m (s,t) r).map Prod.fst:=by
    rw [List.map_map]
    constructor
    ·intro h
     obtain ⟨y,hy,he⟩:=List.mem_map.1 h
     refine List.mem_map.2 ⟨y,hy,?_⟩
     have he:((y.1.2,y.1.1):Nat×Nat)=(nx m x.1.2 (r%m.Inputs.toNat),nx m x.1.1 (r%m.Inputs.toNat)):=he
     injection he with h1 h2
     exact Prod.ext h2 h1
    ·intro h
     obtain ⟨y,hy,he⟩:=List.mem_map.1 h
     refine List.mem_map.2 ⟨y,hy,?_⟩
     have h1:=congrArg Prod.fst he
     have h2:=congrArg Prod.snd he
     exact Prod.ext h2 h1
   by_cases h:pE m m x.1 (r%m.Inputs.toNat)∈(pB m m (s,t) r).map Prod.fst
   ·rw [if_pos (hm.2 h),if_pos h]
   ·rw [if_neg (fun q=>h (hm.1 q)),if_neg h,List.map_append]
    rfl
theorem dif_swap (r:Nat) (s t:Nat):difB m m (t,s) r=difB m m (s,t) r:=by
 unfold difB
 rw [pB_swap,List.getElem?_map]
 cases (pB m m (s,t) r)[r / m.Inputs.toNat]? with
 | none=>rfl
 | some x =>
  show decide (ot m x.1.2 _≠ot m x.1.1 _)=decide (ot m x.1.1 _≠ot m x.1.2 _)
  exact decide_eq_decide.2 ⟨fun h q=>h q.symm,fun h q=>h q.symm⟩
theorem fst_swap {s t:Nat} {res:List Int×Bool} (h:Fst m m (s,t) res):Fst m m (t,s) res:=by
 rcases h with ⟨i,c,x,h1,h2,h3,h4,h5⟩ | ⟨L,h1,h2,h3⟩
 ·exact Or.inl ⟨i,c,((x.1.2,x.1.1),x.2),h1,by rw [pB_swap,List.getElem?_map,h2];rfl,fun q=>h3 q.symm,fun r hr=>by rw [dif_swap];exact h4 r hr,h5⟩
 ·refine Or.inr ⟨L.map fun x=>((x.1.2,x.1.1),x.2),⟨?_⟩,fun r hr=>by rw [dif_swap];exact h2 r (by rwa [List.length_map] at hr),h3⟩
  rw [List.length_map]
  have:=pB_swap (m:=m) (L.length*m.Inputs.toNat) s t
  unfold pB at this
  rw [this,← h1.eq]
theorem sepW_symm (H:MacOk m) {s t:Nat} (hs:s<m.Next.length) (ht:t<m.Next.length):sepW m t s=sepW m s t:=by
 have hK:0<m.Inputs.toNat:=by have:=H.i1;omega
 have:=fst_uniq hK (sep_fst H ht hs) (fst_swap (sep_fst H hs ht))
 injection this
theorem sepW_sm (H:MacOk m) {s t:Nat} (hs:s<m.Next.length) (ht:t<m.Next.length):WOk m.Inputs (sepW m s t)∧(sepW m s t).length≤m.Next.length*m.Next.length*m.Inputs.toNat:=by
 have h:=sep_fst H hs ht
 rcases h with ⟨i,c,x,g1,g2,g3,g4,g5⟩ | ⟨L,_,_,g⟩
 ·injection g5 with g5 _
  have hr:=pB_rng H.two (p0:=(s,t)) hs ht _ x (List.mem_of_getElem? g2)
  have hlen:=pB_len H.two (p0:=(s,t)) hs ht (i*m.Inputs.toNat+c)
  have hi:=(List.getElem?_eq_some_iff.1 g2).1
  have:=mem_lt (show i<m.Next.length*m.Next.length by omega) g1
  refine ⟨?_,?_⟩
  ·rw [g5]
   refine WOk.append hr.2.2.2.2.2 fun z hz=>?_
   have:z=(↑c:Int):=by simpa using hz
   omega
  ·rw [g5]
   simp
   omega
 ·injection g with g _
  rw [g]
  exact ⟨fun a ha=>(by cases ha),Nat.zero_le _⟩
structure MinimalP (m:T_api_Mealy):Prop where
 reach:∀ s,s<m.Next.length→∃ w,WOk m.Inputs w∧dest m m.Start.toNat w=s
 apart:∀ i j,i<m.Next.length→j<m.Next.length→Eqv m i m j→i=j
theorem sepB_of (H:MacOk m) (P:MinimalP m) {s t:Nat} (hs:s<m.Next.length) (ht:t<m.Next.length) (hne:s≠t):sepB m s t=true:=by
 cases e:sepB m s t with
 | true=>rfl
 | false =>
  have h:=sep_fst H hs ht
  rw [e] at h
  exact absurd (P.apart s t hs ht (fst_none h)) hne
theorem sepW_sep (H:MacOk m) (P:MinimalP m) {s t:Nat} (hs:s<m.Next.length) (ht:t<m.Next.length) (hne:s≠t):outs m s (sepW m s t)≠outs m t (sepW m s t):=by
 have h:=sep_fst H hs ht
 rw [sepB_of H P hs ht hne] at h
 exact fst_ne H.two (p0:=(s,t)) hs ht h
theorem can_reach (K:Can M) (hK:0<M.Inputs.toNat):∀ u,u<M.Next.length→∃ w,WOk M.Inputs w∧dest M 0 w=u:=by
 intro u
 induction u using Nat.strongRecOn with
 | ind u ih =>
  intro hu
  by_cases hz:u=0
  ·subst hz
   exact ⟨[],fun a ha=>(by cases ha),rfl⟩
  ·obtain ⟨i,a,h1,h2,h3⟩:=K.c5 u (by omega) hu
   obtain ⟨w,w1,w2⟩:=ih i h1 (by omega)
   refine ⟨w++[(↑a:Int)],w1.append fun z hz=>?_,?_⟩
   ·have:z=(↑a:Int):=by simpa using hz
    omega
   ·rw [dest_append,w2]
    show nx M i (Int.toNat ↑a)=u
    rw [Int.toNat_natCast,h3]
theorem sem_le (H:MacOk m) (S:MinSem m M):M.Next.length≤m.Next.length∧(M.Next.length=m.Next.length↔MinimalP m):=by
 have hK:0<M.Inputs.toNat:=by have:=S.ok.i1;omega
 have hst:=H.st
 have hreach:=can_reach S.can hK
 have hf:∀ u,∃ s,u<M.Next.length→s<m.Next.length∧Eqv M u m s∧∃ w,WOk m.Inputs w∧dest m m.Start.toNat w=s:=fun u=>by
  by_cases hu:u<M.Next.length
  ·obtain ⟨w,w1,w2⟩:=hreach u hu
   have hw:WOk m.Inputs w:=by rw [← S.inp];exact w1
   refine ⟨dest m m.Start.toNat w,fun _=>⟨H.dest hw (by omega),?_,w,hw,rfl⟩⟩
   have:=S.eqv.dest S.inp w1
   rwa [w2] at this
  ·exact ⟨0,fun h=>absurd h hu⟩
 obtain ⟨f,hf⟩:=Classical.axiomOfChoice hf
 have hinj:((List.range M.Next.length).map f).Nodup:=by
  refine List.pairwise_map.2 (List.Pairwise.imp_of_mem (fun {a b} ha hb hne he=>hne ?_) (List.nodup_range (n:=M.Next.length)))
  have h1:=hf a (List.mem_range.1 ha)
  have h2:=hf b (List.mem_range.1 hb)
  rw [← he] at h2
  exact S.min a b (List.mem_range.1 ha) (List.mem_range.1 hb) (h1.2.1.trans S.inp (h2.2.1.symm S.inp))
 have hsub:∀ x∈(List.range M.Next.length).map f,x∈List.range m.Next.length:=fun x hx=>by
  obtain ⟨u,hu,rfl⟩:=List.mem_map.1 hx
  exact List.mem_range.2 (hf u (List.mem_range.1 hu)).1
 have hle:=nodup_le hinj hsub
 rw [List.length_map,List.length_range,List.length_range] at hle
 refine ⟨hle,fun he=>⟨fun s hs=>?_,fun i j hi hj hij=>?_⟩,fun P=>?_⟩
 ·have:=nodup_all hinj hsub (by simp [he]) s (List.mem_range.2 hs)
  obtain ⟨u,hu,rfl⟩:=List.mem_map.1 this
  exact (hf u (List.mem_range.1 hu)).2.2
 ·obtain ⟨u,hu,rfl⟩:=List.mem_map.1 (nodup_all hinj hsub (by simp [he]) i (List.mem_range.2 hi))
  obtain ⟨v,hv,rfl⟩:=List.mem_map.1 (nodup_all hinj hsub (by simp [he]) j (List.mem_range.2 hj))
  have h1:=hf u (List.mem_range.1 hu)
  have h2:=hf v (List.mem_range.1 hv)
  have:=S.min u v (List.mem_range.1 hu) (List.mem_range.1 hv) ((h1.2.1.trans S.inp hij).trans S.inp (h2.2.1.symm S.inp))
  rw [this]
 ·have hg:∀ s,∃ u,s<m.Next.length→u<M.Next.length∧Eqv M u m s:=fun s=>by
   by_cases hs:s<m.Next.length
   ·obtain ⟨w,w1,w2⟩:=P.reach s hs
    have hw:WOk M.Inputs w:=by rw [S.inp];exact w1
    refine ⟨dest M 0 w,fun _=>⟨S.ok.dest hw S.ok.n1,?_⟩⟩
    have:=S.eqv.dest S.inp hw
    rwa [w2] at this
   ·exact ⟨0,fun h=>absurd h hs⟩
  obtain ⟨g,hg⟩:=Classical.axiomOfChoice hg
  have ginj:((List.range m.Next.length).map g).Nodup:=by
   refine List.pairwise_map.2 (List.Pairwise.imp_of_mem (fun {a b} ha hb hne he=>hne ?_) (List.nodup_range (n:=m.Next.length)))
   have h1:=hg a (List.mem_range.1 ha)
   have h2:=hg b (List.mem_range.1 hb)
   rw [← he] at h2
   exact P.apart a b (List.mem_range.1 ha) (List.mem_range.1 hb) ((h1.2.symm S.inp).trans S.inp.symm h2.2)
  have:=nodup_le ginj (l':=List.range M.Next.length) fun x hx=>by
   obtain ⟨u,hu,rfl⟩:=List.mem_map.1 hx
   exact List.mem_range.2 (hg u (List.mem_range.1 hu)).1
  rw [List.length_map,List.length_range,List.length_range] at this
  omega
theorem reach_all {L:List (Nat×List Int)} {s0:Nat} (hE:MEnd m s0 L):∀ (w:List Int) (i:Nat) (x:Nat×List Int),L[i]?=some x→WOk m.Inputs w→∃ (j:Nat) (y:Nat×List Int),L[j]?=some y∧y.1=dest m x.1 w
 | [],i,x,hx,_=>⟨i,x,hx,rfl⟩
 | z::w,i,x,hx,hw=>by
  have hz:=hw.head
  obtain ⟨j,y,h1,h2,_⟩:=hE.closed hx (a:=z.toNat) (by omega)
  obtain ⟨k,v,g1,g2⟩:=reach_all hE w j y h1 hw.tail
  exact ⟨k,v,g1,by rw [g2,h2];rfl⟩
theorem minimal_prog (hv:validM m=0):∃ b,minimize_Minimal m=some b∧(b=true↔MinimalP m):=by
 have H:=valid_ok hv
 have hst:=H.st
 obtain ⟨M,h1,S⟩:=minimize_Min_eq hv
 obtain ⟨hle,hiff⟩:=sem_le H S
 obtain ⟨L,hE,hR⟩:=mealy_Reach_eq hv
 obtain ⟨hLn,hLr⟩:=mEnd_rng H (by omega) hE
 refine ⟨decide (M.Next.length=m.Next.length),?_,by rw [decide_eq_true_iff];exact hiff⟩
 unfold minimize_Minimal
 rw [mealy_Valid_eq,obind,hv,decide_eq_false (by decide),cond_false,hR,obind,obind]
 by_cases hl:L.length=m.Next.length
 ·rw [decide_eq_false (by rw [natI_len,List.length_map];omega),cond_false,h1,obind,decide_eq_true rfl,cond_true,obind]
  show some (decide ((↑M.Next.length:Int)=(↑m.Next.length:Int)))=_
  congr 1
  exact decide_eq_decide.2 (by omega)
 ·rw [decide_eq_true (by rw [natI_len,List.length_map];omega),cond_true,decide_eq_false]
  intro he
  have P:=hiff.1 he
  have:=nodup_le (l:=List.range m.Next.length) (l':=L.map Prod.fst) List.nodup_range fun s hs=>by
   obtain ⟨w,w1,w2⟩:=P.reach s (List.mem_range.1 hs)
   obtain ⟨j,y,g1,g2⟩:=reach_all hE w 0 _ hE.first w1
   exact List.mem_map.2 ⟨y,List.mem_of_getElem? g1,by rw [g2];exact w2⟩
  rw [List.length_range,List.length_map] at this
  omega
open Classical in
noncomputable def chkM (m:T_api_Mealy):Int:=if validM m≠0 then validM m else if MinimalP m then 0 else 1
open Classical in
theorem check_prog (m:T_api_Mealy):separate_check m=some (chkM m):=by
 unfold chkM separate_check
 rw [mealy_Valid_eq,obind]
 by_cases hv:validM m=0
 ·obtain ⟨b,h1,h3⟩:=minimal_prog hv
  rw [decide_eq_false (by omega),cond_false,h1,obind,if_neg (fun h=>h hv)]
  cases b with
  | true=>rw [if_pos (h3.1 rfl)];rfl
  | false=>rw [if_neg (fun q=>by have:=h3.2 q;cases this)];rfl
 ·rw [decide_eq_true hv,cond_true,if_pos hv]
open Classical in
noncomputable def idL (m:T_api_Mealy) (u k:Nat):List (List Int):=((List.range k).filter fun v=>decide (v≠u)).map (sepW m u)
theorem idL_succ {u k:Nat} (h:k≠u):idL m u (k+1)=idL m u k++[sepW m u k]:=by
 unfold idL
 rw [List.range_succ,List.filter_append,List.map_append]
 simp [h]
theorem idL_self (u:Nat):idL m u (u+1)=idL m u u:=by
 unfold idL
 rw [List.range_succ,List.filter_append,List.map_append]
 simp
theorem idL_len (u k:Nat):(idL m u k).length≤k:=by
 unfold idL
 rw [List.length_map]
 have:=List.length_filter_le (fun v=>decide (v≠u)) (List.range k)
 rwa [List.length_range] at this
theorem idL_mem {u k:Nat} {w:List Int} (h:w∈idL m u k):∃ v,v<k∧v≠u∧w=sepW m u v:=by
 obtain ⟨v,hv,rfl⟩:=List.mem_map.1 h
 obtain ⟨h1,h2⟩:=List.mem_filter.1 hv
 exact ⟨v,List.mem_range.1 h1,of_decide_eq_true h2,rfl⟩
theorem idL_sm (H:MacOk m) {u k:Nat} (hu:u<m.Next.length) (hk:k≤m.Next.length):SmL (idL m u k):=by
 have hn:=H.n2
 have hI:=H.i2
 refine ⟨by have:=idL_len (m:=m) u k;omega,fun w hw=>?_⟩
 obtain ⟨v,h1,_,rfl⟩:=idL_mem hw
 have h:=(sepW_sm H hu (t:=v) (by omega)).2
 have h1:m.Next.length*m.Next.length≤128*128:=Nat.mul_le_mul hn hn
 have h2:m.Next.length*m.Next.length*m.Inputs.toNat≤128*128*64:=Nat.mul_le_mul h1 (by omega)
 unfold SmW
 omega
noncomputable def idsM (m:T_api_Mealy):List (List (List Int)):=(List.range m.Next.length).map fun s=>sortW (idL m s m.Next.length)
def kU (n s t u:Nat):Nat:=if u<s then n else if u=s then t else if u<t then s+1 else s
theorem ids_row (hv:validM m=0) {s:Nat} (hs:s<m.Next.length) {S:List (List (List Int))} (hl:S.length=m.Next.length) (hS:∀ u,u<m.Next.length→S[u]?=some (idL m u (kU m.Next.length s (s+1) u))) :
  ∃ S',iter (fun (q:List (List (List Int))×Nat)=>separate_Identifiers.s13 m s q.1 q.2) fuel (S,s+1)=some (.inl S')∧S'.length=m.Next.length∧∀ u,u<m.Next.length→S'[u]?=some (idL m u (kU m.Next.length s m.Next.length u)):=by
 have H:=valid_ok hv
 have hn:=H.n2
 obtain ⟨r,hr,S',rfl,h1,h2⟩:=iter_post (step:=fun (q:List (List (List Int))×Nat)=>separate_Identifiers.s13 m s q.1 q.2) (fun q=>s<q.2∧q.2≤m.Next.length∧q.1.length=m.Next.length∧∀ u,u<m.Next.length→q.1[u]?=some (idL m u (kU m.Next.length s q.2 u))) (fun q=>m.Next.length-q.2) (fun r=>∃ S',r=.inl S'∧S'.length=m.Next.length∧∀ u,u<m.Next.length→S'[u]?=some (idL m u (kU m.Next.length s m.Next.length u))) (fun q ⟨q1,q2,q3,q4⟩=>by
  obtain ⟨S,t⟩:=q
  simp only at q1 q2 q3 q4
  simp only [separate_Identifiers.s13]
  by_cases g:t<m.Next.length
  ·left
   have e1:=q4 s hs
   have e2:=q4 t g
   have k1:kU m.Next.length s t s=t:=by unfold kU;rw [if_neg (by omega),if_pos rfl]
   have k2:kU m.Next.length s t t=s:=by unfold kU;rw [if_neg (by omega),if_neg (by omega),if_neg (by omega)]
   rw [k1] at e1
   rw [k2] at e2
   have l1:=idL_len (m:=m) s t
   have l2:=idL_len (m:=m) t s
   have e3:(S.set s (idL m s t++[sepW m s t]))[t]?=some (idL m t s):=by rw [List.getElem?_set_ne (by omega),e2]
   refine ⟨((S.set s (idL m s t++[sepW m s t])).set t (idL m t s++[sepW m s t]),t+1),?_,⟨by simp only;omega,g,by simp [q3],fun u hu=>?_⟩,by simp only;omega⟩
   ·rw [decide_eq_true (by omega),cond_true,States_prog hv hs g,obind,decide_eq_false (fun h=>h rfl),cond_false,idxn_at e1,chk_pos (by unfold capOk;omega),idxn_at e1]
    simp only
    rw [idxn_at e3,chk_pos (by unfold capOk;omega),idxn_at e3]
   ·simp only
    by_cases a1:t=u
    ·subst a1
     rw [List.getElem?_set_self (by simp [q3];omega)]
     have:kU m.Next.length s (t+1) t=s+1:=by unfold kU;rw [if_neg (by omega),if_neg (by omega),if_pos (by omega)]
     rw [this,idL_succ (by omega),sepW_symm H hs g]
    ·rw [List.getElem?_set_ne a1]
     by_cases a2:s=u
     ·subst a2
      rw [List.getElem?_set_self (by omega)]
      have:kU m.Next.length s (t+1) s=t+1:=by unfold kU;rw [if_neg (by omega),if_pos rfl]
      rw [this,idL_succ (by omega)]
     ·rw [List.getElem?_set_ne a2,q4 u hu]
      have:kU m.Next.length s (t+1) u=kU m.Next.length s t u:=by
       unfold kU
       by_cases b1:u<s
       ·rw [if_pos b1,if_pos b1]
       ·have b4:¬ u=s:=by omega
        rw [if_neg b1,if_neg b1,if_neg b4,if_neg b4]
        by_cases b2:u<t
        ·have b5:u<t+1:=by omega
         rw [if_pos b2,if_pos b5]
        ·have b5:¬ u<t+1:=by omega
         rw [if_neg b2,if_neg b5]
      rw [this]
  ·right
   have:t=m.Next.length:=by omega
   subst this
   exact ⟨_,by rw [decide_eq_false (by omega),cond_false],S,rfl,q3,q4⟩) fuel (S,s+1) ⟨by simp only;omega,hs,hl,hS⟩ (by have:=fuel_big;simp only;omega)
 exact ⟨S',hr,h1,h2⟩
theorem separate_ids (hv:validM m=0) (P:MinimalP m):separate_Identifiers m=some (idsM m,0):=by
 have H:=valid_ok hv
 have hn:=H.n2
 have hn1:=H.n1
 have hc:chkM m=0:=by
  unfold chkM
  rw [if_neg (fun h=>h hv),if_pos P]
 unfold separate_Identifiers
 rw [check_prog m,obind,hc,decide_eq_false (by decide),cond_false,chk_pos ⟨by omega,by omega,by unfold capOk;omega⟩]
 obtain ⟨r,hr,S,rfl,h1,h2⟩:=iter_post (step:=fun (q:List (List (List Int))×Nat)=>separate_Identifiers.s14 m q.1 q.2) (fun q=>q.2≤m.Next.length∧q.1.length=m.Next.length∧∀ u,u<m.Next.length→q.1[u]?=some (idL m u (kU m.Next.length q.2 (q.2+1) u))) (fun q=>m.Next.length-q.2) (fun r=>∃ S,r=.inl S∧S.length=m.Next.length∧∀ u,u<m.Next.length→S[u]?=some (idL m u m.Next.length)) (fun q ⟨q1,q3,q4⟩=>by
  obtain ⟨S,s⟩:=q
  simp only at q1 q3 q4
  simp only [separate_Identifiers.s14]
  by_cases g:s<m.Next.length
  ·left
   obtain ⟨S',z1,z2,z3⟩:=ids_row hv g q3 q4
   refine ⟨(S',s+1),by rw [decide_eq_true (by omega),cond_true,z1,obind];rfl,⟨g,z2,fun u hu=>?_⟩,by simp only;omega⟩
   simp only
   rw [z3 u hu]
   by_cases b1:u<s
   ·rw [show kU m.Next.length s m.Next.length u=m.Next.length by unfold kU;rw [if_pos b1],show kU m.Next.length (s+1) (s+1+1) u=m.Next.length by unfold kU;rw [if_pos (by omega)]]
   ·by_cases b2:u=s
    ·rw [show kU m.Next.length s m.Next.length u=m.Next.length by unfold kU;rw [if_neg b1,if_pos b2],show kU m.Next.length (s+1) (s+1+1) u=m.Next.length by unfold kU;rw [if_pos (by omega)]]
    ·rw [show kU m.Next.length s m.Next.length u=s+1 by unfold kU;rw [if_neg b1,if_neg b2,if_pos hu]]
     by_cases b3:u=s+1
     ·rw [show kU m.Next.length (s+1) (s+1+1) u=s+1+1 by unfold kU;rw [if_neg (by omega),if_pos b3],b3,idL_self]
     ·rw [show kU m.Next.length (s+1) (s+1+1) u=s+1 by unfold kU;rw [if_neg (by omega),if_neg b3,if_neg (by omega)]]
  ·right
   have:s=m.Next.length:=by omega
   subst this
   refine ⟨_,by rw [decide_eq_false (by omega),cond_false],S,rfl,q3,fun u hu=>?_⟩
   rw [q4 u hu]
   rw [show kU m.Next.length m.Next.length (m.Next.length+1) u=m.Next.length by unfold kU;rw [if_pos hu]]) fuel (List.replicate m.Next.length [],0) ⟨Nat.zero_le _,by simp,fun u hu=>by
    simp only
    rw [List.getElem?_replicate,if_pos hu]
    congr 1
    by_cases b:u=0
    ·subst b
     show []=idL m 0 1
     rw [idL_self]
     rfl
    ·rw [show kU m.Next.length 0 (0+1) u=0 by unfold kU;rw [if_neg (by omega),if_neg b,if_neg (by omega)]]
     rfl⟩ (by have:=fuel_big;simp only;omega)
 rw [hr,obind]
 show (chk _ _:Option _)=_
 rw [chk_pos ⟨by omega,by omega,by unfold capOk;omega⟩]
 have last:=iter_eq (step:=fun (q:List (List (List Int))×Nat)=>separate_Identifiers.s16 S q.1 q.2) (r:=idsM m) (fun q=>q.2≤m.Next.length∧q.1=(List.range q.2).map fun s=>sortW (idL m s m.Next.length)) (fun q=>m.Next.length-q.2) (fun q ⟨q1,q2⟩=>by
   obtain ⟨y,s⟩:=q
   simp only at q1 q2
   subst q2
   simp only [separate_Identifiers.s16]
   by_cases g:s<m.Next.length
   ·left
    refine ⟨((List.range (s+1)).map fun s=>sortW (idL m s m.Next.length),s+1),?_,⟨g,rfl⟩,by simp only;omega⟩
    rw [decide_eq_true (by omega),cond_true,idxn_at (h2 s g),wordset_Sorted_eq (idL_sm H g (Nat.le_refl _)),obind,chk_pos (by unfold capOk;simp;omega),List.range_succ,List.map_append]
    rfl
   ·right
    have:s=m.Next.length:=by omega
    subst this
    rw [decide_eq_false (by omega),cond_false]
    rfl) (n:=fuel) (s:=([],0)) ⟨Nat.zero_le _,rfl⟩ (by have:=fuel_big;simp only;omega)
 rw [last,obind]
end
end Go.Proofs.Ytkfaepfljlphoaa.Sym

/-
 The examples of the chapter on harmonized suites, reckoned.
-/
namespace Go.Proofs.Ytkfaepfljlphoaa.Sym
set_option maxRecDepth 100000
theorem awake30_true:L30_exampleHolds=some true:=by decide +kernel
end Go.Proofs.Ytkfaepfljlphoaa.Sym

/-
 The law of HsuiteRecognizes. Plain law.
-/
namespace Go.Proofs.Ytkfaepfljlphoaa.Sym
set_option maxRecDepth 100000
section
variable {m:T_api_Mealy}
theorem check_of' {w:List Int} (H:MacOk m) (h:WOk m.Inputs w) (hl:w.length≤1024):checkI w m.Inputs=0:=by
 have:=H.i1
 have:=H.i2
 unfold checkI
 rw [if_pos (by omega),if_neg (by omega),if_pos]
 exact List.all_eq_true.2 fun a ha=>by
  have:=h a ha
  simp
  omega
theorem fromM_ok (hv:validM m=0) {s:Nat} (hs:s<m.Next.length) {w:List Int} (hw:checkI w m.Inputs=0):fromM m (↑s:Int) w=(outs m s w,(↑(dest m s w):Int),0):=by
 unfold fromM
 rw [if_neg (fun h=>h hv),if_neg (by omega),if_neg (fun h=>h hw),Int.toNat_natCast]
theorem minimal_total (m:T_api_Mealy):∃ b,minimize_Minimal m=some b∧(b=true→validM m=0∧MinimalP m):=by
 by_cases hv:validM m=0
 ·obtain ⟨b,h1,h3⟩:=minimal_prog hv
  exact ⟨b,h1,fun h=>⟨hv,h3.1 h⟩⟩
 ·refine ⟨false,?_,fun h=>by cases h⟩
  unfold minimize_Minimal
  rw [mealy_Valid_eq,obind,decide_eq_true hv,cond_true,obind,cond_true]
open Classical in
theorem recog_inner (hv:validM m=0) {l:List (List Int)} {s t:Nat} (hs:s<m.Next.length) (ht:t<m.Next.length) (hl:l.length≤100000) (hw:∀ x∈l,checkI x m.Inputs=0) {c:List Int} {e f:Int} :
  iter (fun (q:Bool×Nat)=>L30_HsuiteRecognizes.s13 m (l,f) (c,(↑s:Int),e) t q.1 q.2) fuel (false,0)=some (decide (∃ x∈l,outs m s x≠outs m t x)):=by
 refine iter_eq (fun q=>q.2≤l.length∧(q.1=true↔∃ x∈l.take q.2,outs m s x≠outs m t x)) (fun q=>l.length-q.2) (fun q hq=>?_) ⟨Nat.zero_le _,by simp⟩ (by have:=fuel_big;simp only;omega)
 obtain ⟨d,k⟩:=q
 obtain ⟨q1,q2⟩:=hq
 simp only at q1 q2
 simp only [L30_HsuiteRecognizes.s13]
 by_cases g:k<l.length
 ·left
  have hx:=get_at g
  have hxm:=List.getElem_mem g
  generalize l[k]=x at hx hxm
  have hc:=hw x hxm
  have hxl:=checkI_len hc
  have hstep:(∃ y∈l.take (k+1),outs m s y≠outs m t y)↔(d=true∨outs m s x≠outs m t x):=by
   rw [take_step hx]
   constructor
   ·rintro ⟨y,hy,hne⟩
    rcases List.mem_append.1 hy with h | h
    ·exact Or.inl (q2.2 ⟨y,h,hne⟩)
    ·have:y=x:=by simpa using h
     rw [← this]
     exact Or.inr hne
   ·rintro (h | h)
    ·obtain ⟨y,hy,hne⟩:=q2.1 h
     exact ⟨y,List.mem_append_left _ hy,hne⟩
    ·exact ⟨x,List.mem_append_right _ (by simp),h⟩
  rw [decide_eq_true (by omega),cond_true,idxn_at hx,mealy_From_eq (by unfold SmW;omega),obind,idxn_at hx,mealy_From_eq (by unfold SmW;omega),obind,fromM_ok hv hs hc,fromM_ok hv ht hc]
  cases d with
  | true=>exact ⟨(true,k+1),by rw [cond_true],⟨g,by simp only;rw [hstep];exact ⟨fun _=>Or.inl rfl,fun _=>trivial⟩⟩,by simp only;omega⟩
  | false =>
   refine ⟨(!decide (outs m s x=outs m t x),k+1),?_,⟨g,?_⟩,by simp only;omega⟩
   ·rw [cond_false,decide_eq_true rfl,cond_true,cond_true,R06_Ints_eq _ _ (by rw [outs_len];omega),obind]
   ·simp only
    rw [hstep]
    by_cases h:outs m s x=outs m t x
    ·rw [decide_eq_true h]
     exact ⟨fun z=>(by cases z),fun z=>z.elim (fun z=>(by cases z)) fun z=>absurd h z⟩
    ·rw [decide_eq_false h]
     exact ⟨fun _=>Or.inr h,fun _=>rfl⟩
 ·right
  have:k=l.length:=by omega
  subst this
  rw [List.take_length] at q2
  rw [decide_eq_false (by omega),cond_false]
  congr 3
  cases d with
  | true=>exact (decide_eq_true (q2.1 rfl)).symm
  | false=>exact (decide_eq_false fun z=>by have:=q2.2 z;cases this).symm
theorem tails_sep (hv:validM m=0) (P:MinimalP m) (h8:m.Next.length≤8) (h4:m.Inputs≤4) {w:List Int} (hc:checkI w m.Inputs=0) :
  (tailsM m (idsM m) w).length≤100000∧(∀ x∈tailsM m (idsM m) w,checkI x m.Inputs=0)∧∀ t,t<m.Next.length→((∃ x∈tailsM m (idsM m) w,outs m (dest m m.Start.toNat w) x≠outs m t x)↔t≠dest m m.Start.toNat w):=by
 have H:=valid_ok hv
 have hst:=H.st
 have hi1:=H.i1
 have hd:dest m m.Start.toNat w<m.Next.length:=H.dest (check_mem hc) (by omega)
 generalize hs:dest m m.Start.toNat w=s at hd
 have hids:(idsM m)[s]?=some (sortW (idL m s m.Next.length)):=by
  unfold idsM
  rw [List.getElem?_map,List.getElem?_range hd]
  rfl
 have hnn:m.Next.length*m.Next.length≤8*8:=Nat.mul_le_mul h8 h8
 have hnk:m.Next.length*m.Next.length*m.Inputs.toNat≤8*8*4:=Nat.mul_le_mul hnn (by omega)
 have hmem:∀ x∈tailsM m (idsM m) w,x=[]∨∃ v,v<m.Next.length∧x=sepW m s v:=fun x hx=>by
  unfold tailsM at hx
  rw [hs,hids,Option.getD_some] at hx
  split at hx
  ·exact Or.inl (by simpa using hx)
  ·obtain ⟨v,v1,_,rfl⟩:=idL_mem ((mem_sortW _ _).1 hx)
   exact Or.inr ⟨v,v1,rfl⟩
 refine ⟨?_,fun x hx=>?_,fun t ht=>⟨fun ⟨x,hx,hne⟩ he=>hne (by rw [he]),fun hne=>?_⟩⟩
 ·unfold tailsM
  rw [hs,hids,Option.getD_some]
  have h1:=sortW_length (idL m s m.Next.length)
  have h2:=idL_len (m:=m) s m.Next.length
  split
  ·simp
  ·omega
 ·rcases hmem x hx with rfl | ⟨v,v1,rfl⟩
  ·exact check_of' H (fun a ha=>(by cases ha)) (by simp)
  ·have:=sepW_sm H hd v1
   exact check_of' H this.1 (by omega)
 ·have hw:sepW m s t∈sortW (idL m s m.Next.length):=(mem_sortW _ _).2 (List.mem_map.2 ⟨t,List.mem_filter.2 ⟨List.mem_range.2 ht,decide_eq_true hne⟩,rfl⟩)
  refine ⟨sepW m s t,?_,sepW_sep H P hd ht (fun q=>hne q.symm)⟩
  unfold tailsM
  rw [hs,hids,Option.getD_some,if_neg (by have:=List.length_pos_of_mem hw;omega)]
  exact hw
theorem plain_HsuiteRecognizes (m:T_api_Mealy) (w:List Int):L30_HsuiteRecognizes m w=some true:=by
 unfold L30_HsuiteRecognizes
 rw [L11_Small_eq,obind]
 cases hsm:smallM m with
 | false=>rw [Bool.not_false,cond_true,obind,cond_true,awake30_true,obind]
 | true =>
  obtain ⟨b,hb,hbP⟩:=minimal_total m
  rw [Bool.not_true,cond_false,hb,obind]
  cases b with
  | false=>rw [Bool.not_false,cond_true,obind,cond_true,awake30_true,obind]
  | true =>
   obtain ⟨hv,P⟩:=hbP rfl
   obtain ⟨_,h8,h4⟩:=smallM_of hsm
   have H:=valid_ok hv
   have hst:=H.st
   rw [Bool.not_true,cond_false,R06_Valid_eq,obind,hv,decide_eq_false (by decide),cond_false,obind]
   by_cases hl:200<w.length
   ·rw [decide_eq_true (by omega),cond_true,awake30_true,obind]
   have hw:SmW w:=by unfold SmW;omega
   have hI:SmI (idsM m):=by
    refine ⟨by simp [idsM];omega,fun l hl=>?_⟩
    obtain ⟨s,hs,rfl⟩:=List.mem_map.1 hl
    have:=idL_sm H (List.mem_range.1 hs) (Nat.le_refl _)
    refine ⟨by have h1:=sortW_length (idL m s m.Next.length);have h2:=idL_len (m:=m) s m.Next.length;omega,fun x hx=>?_⟩
    obtain ⟨v,v1,_,rfl⟩:=idL_mem ((mem_sortW _ _).1 hx)
    have h1:=(sepW_sm H (List.mem_range.1 hs) v1).2
    have hnn:m.Next.length*m.Next.length≤8*8:=Nat.mul_le_mul h8 h8
    have hnk:m.Next.length*m.Next.length*m.Inputs.toNat≤8*8*4:=Nat.mul_le_mul hnn (by omega)
    omega
   rw [decide_eq_false (by omega),cond_false,separate_ids hv P,obind]
   simp only
   rw [hsuite_Tails_eq hI hw,obind,mealy_From_eq hw,obind,fromM_start hw hv]
   by_cases hc:checkI w m.Inputs=0
   ·obtain ⟨t1,t2,t3⟩:=tails_sep hv P h8 h4 hc
    have hE:tailsE m (idsM m) w=(tailsM m (idsM m) w,0):=by
     unfold tailsE
     rw [if_neg (fun h=>h hv),if_neg (fun h=>h hc),if_neg (fun h=>h (by simp [idsM]))]
    have hd:dest m m.Start.toNat w<m.Next.length:=H.dest (check_mem hc) (by omega)
    rw [hE,if_neg (fun h=>h hc),decide_eq_false (fun h=>h rfl),cond_false,cond_false,obind,cond_false]
    have outer:=iter_eq (step:=fun (s:Nat)=>L30_HsuiteRecognizes.s14 m (tailsM m (idsM m) w,0) (outs m m.Start.toNat w,(↑(dest m m.Start.toNat w):Int),0) s) (r:=.inl ()) (fun t=>t≤m.Next.length) (fun t=>m.Next.length-t) (fun t q1=>by
     simp only [L30_HsuiteRecognizes.s14]
     by_cases g:t<m.Next.length
     ·left
      refine ⟨t+1,?_,g,by omega⟩
      rw [decide_eq_true (by omega),cond_true,recog_inner hv hd g t1 t2,obind]
      have:=t3 t g
      by_cases he:t=dest m m.Start.toNat w
      ·rw [decide_eq_false (fun z=>this.1 z he),decide_eq_false (by omega)]
       rfl
      ·rw [decide_eq_true (this.2 he),decide_eq_true (by omega)]
       rfl
     ·right
      rw [decide_eq_false (by omega),cond_false]) (n:=fuel) (s:=0) (Nat.zero_le _) (by have:=fuel_big;omega)
    rw [outer,obind]
    show (L30_exampleHolds).bind _=_
    rw [awake30_true,obind]
   ·have hE:tailsE m (idsM m) w=([],checkI w m.Inputs):=by
     unfold tailsE
     rw [if_neg (fun h=>h hv),if_pos hc]
    rw [hE,if_pos hc,decide_eq_true (show (([],0,checkI w m.Inputs):List Int×Int×Int).2.2≠0 from hc),cond_true]
    simp [awake30_true]
end
end Go.Proofs.Ytkfaepfljlphoaa.Sym

/-
 The law of HsuiteRecognizes, for arguments within the bound.
-/
namespace Go.Proofs.Ytkfaepfljlphoaa.Sym
theorem law_L30_HsuiteRecognizes (x0:T_api_Mealy) (x1:List Int) (_:ok_api_Mealy x0) (_:sz_api_Mealy x0≤1048576) (_:okL inR x1) (_:szL sz1 x1≤1048576):L30_HsuiteRecognizes x0 x1=some true :=
 plain_HsuiteRecognizes x0 x1
end Go.Proofs.Ytkfaepfljlphoaa.Sym

/-
  The contracts of the functions, read from the code by a program (ext.py): each function has its plain twin as its contract.
-/
namespace Go.Proofs.Ytkfaepfljlphoaa.Sym
open Go.RowKit
set_option maxRecDepth 100000
set_option linter.unusedVariables false
set_option maxHeartbeats 4000000
theorem eI {σ:St} {src:List (Nat×Option Nat)} {γ:Nat→Nat} {t:Nat} {y b:IV} (h1:σ.av t=.im y) (h2:AV.im y=.im b):∃ x,σ.av t=x∧SubR σ src γ x (.im b):=⟨.im y,h1,.im (Sub.rfl' h2)⟩
theorem odt {p:Prop} [Decidable p] (h:decide p=true):p:=of_decide_eq_true h
theorem odf {p:Prop} [Decidable p] (h:decide p=false):¬ p:=of_decide_eq_false h
theorem ctd {α:Type} {p:Prop} [Decidable p] {x y z:α} (hb:decide p=true) (h:cond (decide p) x y=z):x=z∧p:=⟨cond_t hb h,odt hb⟩
theorem cfd {α:Type} {p:Prop} [Decidable p] {x y z:α} (hb:decide p=false) (h:cond (decide p) x y=z):y=z∧¬ p:=⟨cond_f hb h,odf hb⟩
theorem hT {σ:St}:Holds σ True:=Holds.true_ _
abbrev lZ {α:Type} (l:List α):Prop:=List.length l≤17592186044416
theorem eA {σ:St} {avs:List (Nat×AV)} {kds:List (Nat×Kd)} {cels:List (Nat×Nat×AV)} (src:List (Nat×Option Nat)) (hn:ndB (srcs src) []=true:=by exact rfl) (ha:SubL σ src (gnM kds) avs:=by repeat' (first | exact trivial | refine ⟨eI rfl rfl,?_⟩ | refine ⟨⟨.own _ _ _,rfl,.own rfl rfl rfl⟩,?_⟩ | refine ⟨⟨.osl _ _,rfl,.osl rfl rfl rfl⟩,?_⟩ | refine ⟨⟨.im (.val (.slice none 0 0)),rfl,.made rfl rfl⟩,?_⟩)) (hk:KdL σ src kds:=by repeat' (first | exact trivial | refine ⟨.inl ⟨_,rfl,rfl,trivial⟩,?_⟩ | refine ⟨.inl ⟨_,rfl,rfl,⟨rfl,rfl⟩⟩,?_⟩ | refine ⟨.inr ⟨rfl,rfl,.inl ⟨_,_,rfl,by decide⟩⟩,?_⟩)) (hc:CeL σ src (gnM kds) cels:=by repeat' (first | exact trivial | refine ⟨⟨_,.im _,rfl,rfl,.im (Sub.rfl' rfl)⟩,?_⟩ | refine ⟨⟨_,.own _ _ _,rfl,rfl,.own rfl rfl rfl⟩,?_⟩ | refine ⟨⟨_,.osl _ _,rfl,rfl,.osl rfl rfl rfl⟩,?_⟩)):Ent σ (mkSt avs kds cels):=Ent.mk src hn ha hk hc
theorem sp_word_permitted (inputs_:Int) (r:Bool) (h:Ok (nI inputs_)→word_permitted inputs_=some r):Sp Try.prog 67 [.im (nI inputs_)] (.im (nB r)):=by
 refine sp_of rfl [] rfl rfl rfl (Nat.le_of_ble_eq_true rfl) rfl fun hk=>?_
 replace h:=h hk.1
 unfold word_permitted at h
 conv=>whnf
 obtain ⟨y54,hc,hk52⟩:=bind_some h
 clear h
 have h:=hc
 clear hc
 refine Cut.mk (mkSt [(2,.im (nB y54))] [] []) (True) (hT) ?_ (fun hp=>?_)
 conv=>whnf
 refine Both.mk ?_ ?_<;>intro b55
 replace b55:=beq_tt b55
 obtain ⟨h,b55d⟩:=ctd b55 h
 conv=>whnf
 refine Both.yes (tt_beq b55) ?_
 conv=>whnf
 refine Both.yes b55 ?_
 conv=>whnf
 cases h
 exact Join.mk (eA [])
 replace b55:=beq_tf b55
 obtain ⟨h,b55d⟩:=cfd b55 h
 conv=>whnf
 refine Both.no (ft_beq b55) ?_
 conv=>whnf
 refine Both.no b55 ?_
 conv=>whnf
 cases h
 exact Join.mk (eA [])
 replace h:=hk52
 conv=>whnf
 cases h
 conv=>whnf
 exact ⟨rfl,rfl⟩
theorem sp_word_Check_1 (a_:Int) (p1_:Int) (r:Bool) (h:Ok (nI a_)→Ok (.ref (cI p1_))→word_Check_1 a_ p1_=some r):Sp Try.prog 69 [.im (nI a_),.im (.ref (cI p1_))] (.im (nB r)):=by
 refine sp_of rfl [] rfl rfl rfl (Nat.le_of_ble_eq_true rfl) rfl fun hk=>?_
 replace h:=h hk.1 hk.2.1
 unfold word_Check_1 at h
 conv=>whnf
 obtain ⟨y54,hc,hk52⟩:=bind_some h
 clear h
 have h:=hc
 clear hc
 refine Cut.mk (mkSt [(3,.im (nB y54))] [] []) (True) (hT) ?_ (fun hp=>?_)
 conv=>whnf
 refine Both.mk ?_ ?_<;>intro b55
 replace b55:=beq_ff b55
 obtain ⟨h,b55d⟩:=cfd b55 h
 conv=>whnf
 iterate 2 (refine Both.yes (ff_beq b55) ?_;(conv=>whnf))
 refine Both.no b55 ?_
 conv=>whnf
 cases h
 exact Join.mk (eA [])
 replace b55:=beq_ft b55
 obtain ⟨h,b55d⟩:=ctd b55 h
 conv=>whnf
 iterate 2 (refine Both.no (tf_beq b55) ?_;(conv=>whnf))
 refine Both.yes b55 ?_
 conv=>whnf
 cases h
 exact Join.mk (eA [])
 replace h:=hk52
 conv=>whnf
 cases h
 conv=>whnf
 exact ⟨rfl,rfl⟩
theorem sp_slices_IndexFunc_Sint_int_n1 (s_:List Int) (f_:Int→Option Bool) (f1_:FuncId) (k1_0:IV) (hk1_0:nz k1_0=k1_0) (hf1:∀ x0 r,f_ x0=some r→Sp Try.prog f1_ [.im (nI x0),.im k1_0] (.im (nB r))) (r:Int) (h:Ok (nL cI s_)→Ok (.fn f1_ [k1_0])→slices_IndexFunc_Sint_int_n1 s_ f_=some r):Sp Try.prog 88 [.im (nL cI s_),.im (.fn f1_ [k1_0])] (.im (nI r)):=by
 refine sp_of rfl [] rfl rfl rfl (Nat.le_of_ble_eq_true rfl) rfl fun hk=>?_
 replace h:=h hk.1 hk.2.1
 have z1:lZ s_:=ok_len hk.1
 unfold slices_IndexFunc_Sint_int_n1 at h
 conv=>whnf
 refine Nf.mk (List.length s_) len_map ?_
 conv=>whnf
 obtain ⟨oc,hc,hk51⟩:=bind_some h
 clear h
 have h:=hc
 clear hc
 refine Cut.mkS oc (Y:=Unit) (fun (_:Unit)=>mkSt [] [] []) (fun (_:Unit)=>True) (by rintro ⟨⟩;exact (hT)) ?_ ?_
 conv=>whnf
 refine Loops.iter (fun (s:Nat)=>slices_IndexFunc_Sint_int_n1.s2 s_ f_ s) (fun y71=>mkSt [(0,.im (nL cI s_)),(1,.im (.fn f1_ [k1_0])),(7,.im (nI (↑(List.length s_):Int))),(8,.im (nI (↑y71:Int)))] [] []) (fun y71=>lZ s_∧True) h (eA []) (by rintro y71;exact ((Holds.avl 0 rfl).and (hT))) ?_
 clear h
 rintro k y71 o hp h ho76
 replace h:slices_IndexFunc_Sint_int_n1.s2 s_ f_ y71=some o:=h
 unfold slices_IndexFunc_Sint_int_n1.s2 at h
 obtain ⟨z81,_⟩:=hp
 conv=>whnf
 refine Both.mk ?_ ?_<;>intro b77
 obtain ⟨h,b77d⟩:=ctd b77 h
 conv=>whnf
 obtain ⟨e78,he78,h⟩:=idxn_some h
 refine ⟨_,⟨(by omega),map_at he78,rfl⟩,?_⟩
 conv=>whnf
 obtain ⟨c79,hc79,h⟩:=bind_some h
 refine ⟨_,Sp.args (hf1 e78 c79 hc79) (by rw [hk1_0];try rfl),?_⟩
 conv=>whnf
 refine Both.mk ?_ ?_<;>intro b80
 replace h:=cond_t b80 h
 conv=>whnf
 cases h
 have ho76:_=_:=ho76
 cases ho76
 replace h:some _=some _:=hk51
 cases h
 conv=>whnf
 exact ⟨rfl,rfl⟩
 replace h:=cond_f b80 h
 conv=>whnf
 refine Arith.mk (by show inR _;unfold inR;omega) ?_
 conv=>whnf
 cases h
 exact Nxt.mk _ ho76 (eA [])
 obtain ⟨h,b77d⟩:=cfd b77 h
 conv=>whnf
 cases h
 have ho76:_=_:=ho76
 cases ho76
 exact JoinS.mk' _ rfl (eA [])
 rintro ⟨⟩ rfl hp
 replace h:=sum_inl hk51
 conv=>whnf
 cases h
 conv=>whnf
 exact ⟨rfl,rfl⟩
theorem sp_slices_ContainsFunc_Sint_int_n1 (s_:List Int) (f_:Int→Option Bool) (f1_:FuncId) (k1_0:IV) (hk1_0:nz k1_0=k1_0) (hf1:∀ x0 r,f_ x0=some r→Sp Try.prog f1_ [.im (nI x0),.im k1_0] (.im (nB r))) (r:Bool) (h:Ok (nL cI s_)→Ok (.fn f1_ [k1_0])→slices_ContainsFunc_Sint_int_n1 s_ f_=some r):Sp Try.prog 68 [.im (nL cI s_),.im (.fn f1_ [k1_0])] (.im (nB r)):=by
 refine sp_of rfl [] rfl rfl rfl (Nat.le_of_ble_eq_true rfl) rfl fun hk=>?_
 replace h:=h hk.1 hk.2.1
 have z1:lZ s_:=ok_len hk.1
 unfold slices_ContainsFunc_Sint_int_n1 at h
 conv=>whnf
 obtain ⟨c51,hc51,h⟩:=bind_some h
 refine ⟨_,(sp_slices_IndexFunc_Sint_int_n1 s_ f_ f1_ k1_0 hk1_0 hf1 c51 (fun _ _=>hc51)),?_⟩
 conv=>whnf
 cases h
 conv=>whnf
 exact ⟨rfl,rfl⟩
theorem sp_word_Check (w_:List Int) (inputs_:Int) (r:Int) (h:Ok (nL cI w_)→Ok (nI inputs_)→word_Check w_ inputs_=some r):Sp Try.prog 44 [.im (nL cI w_),.im (nI inputs_)] (.im (nI r)):=by
 refine sp_of rfl [700003] rfl rfl rfl (Nat.le_of_ble_eq_true rfl) rfl fun hk=>?_
 replace h:=h hk.1 hk.2.1
 have z1:lZ w_:=ok_len hk.1
 unfold word_Check at h
 conv=>whnf
 obtain ⟨c51,hc51,h⟩:=bind_some h
 refine ⟨_,(sp_word_permitted inputs_ c51 (fun _=>hc51)),?_⟩
 conv=>whnf
 refine Both.mk ?_ ?_<;>intro b52
 replace h:=cond_t b52 h
 conv=>whnf
 cases h
 conv=>whnf
 exact ⟨rfl,rfl⟩
 replace h:=cond_f b52 h
 conv=>whnf
 refine Nf.mk (List.length w_) len_map ?_
 conv=>whnf
 refine Both.mk ?_ ?_<;>intro b53
 obtain ⟨h,b53d⟩:=ctd b53 h
 conv=>whnf
 cases h
 conv=>whnf
 exact ⟨rfl,rfl⟩
 obtain ⟨h,b53d⟩:=cfd b53 h
 conv=>whnf
 obtain ⟨c54,hc54,h⟩:=bind_some h
 refine ⟨_,(sp_slices_ContainsFunc_Sint_int_n1 w_ (fun u0=>word_Check_1 u0 inputs_) 69 (.ref (cI inputs_)) rfl (fun u0 r h=>(sp_word_Check_1 u0 inputs_ r (fun _ _=>h))) c54 (fun _ _=>hc54)),?_⟩
 conv=>whnf
 refine Both.mk ?_ ?_<;>intro b55
 replace h:=cond_t b55 h
 conv=>whnf
 cases h
 conv=>whnf
 exact ⟨rfl,rfl⟩
 replace h:=cond_f b55 h
 conv=>whnf
 cases h
 conv=>whnf
 exact ⟨rfl,rfl⟩
theorem sp_mealy_machine_move (m_:T_mealy_machine) (s_:Int) (a_:Int) (r:Int×Int) (h:Ok (.agg (c_mealy_machine m_))→Ok (nI s_)→Ok (nI a_)→mealy_machine_move m_ s_ a_=some r):Sp Try.prog 70 [.im (.agg (c_mealy_machine m_)),.im (nI s_),.im (nI a_)] (.tup [nI r.1,nI r.2]):=by
 refine sp_of rfl [700003] rfl rfl rfl (Nat.le_of_ble_eq_true rfl) rfl fun hk=>?_
 replace h:=h hk.1 hk.2.1 hk.2.2.1
 have z1:lZ m_.Mealy.Next:=ok_len (Ok.agg_at hk.1 2 rfl)
 have z2:lZ m_.Mealy.Out:=ok_len (Ok.agg_at hk.1 3 rfl)
 unfold mealy_machine_move at h
 conv=>whnf
 obtain ⟨e51,he51z,he51,h⟩:=idx_some h
 refine ⟨_,⟨he51z,map_at he51,rfl⟩,?_⟩
 conv=>whnf
 obtain ⟨e52,he52z,he52,h⟩:=idx_some h
 refine ⟨_,⟨he52z,map_at he52,rfl⟩,?_⟩
 conv=>whnf
 obtain ⟨e53,he53z,he53,h⟩:=idx_some h
 refine ⟨_,⟨he53z,map_at he53,rfl⟩,?_⟩
 conv=>whnf
 obtain ⟨e54,he54z,he54,h⟩:=idx_some h
 refine ⟨_,⟨he54z,map_at he54,rfl⟩,?_⟩
 conv=>whnf
 cases h
 conv=>whnf
 exact ⟨rfl,rfl⟩
theorem sp_mealy_runner_run (r_:T_mealy_runner) (w_:List Int) (r:List Int×T_mealy_runner) (h:OkOcs [.im (nI r_.machine.Mealy.Inputs),.im (nI r_.machine.Mealy.Start),.im (nL (cL cI) r_.machine.Mealy.Next),.im (nL (cL cI) r_.machine.Mealy.Out),.im (nI r_.at_)]→Ok (nL cI w_)→mealy_runner_run r_ w_=some r):Sp Try.prog 45 [.box 75 [.im (nI r_.machine.Mealy.Inputs),.im (nI r_.machine.Mealy.Start),.im (nL (cL cI) r_.machine.Mealy.Next),.im (nL (cL cI) r_.machine.Mealy.Out),.im (nI r_.at_)],.im (nL cI w_)] (.mk false [.im (nL cI r.1)] [.box 75 [.im (nI r.2.machine.Mealy.Inputs),.im (nI r.2.machine.Mealy.Start),.im (nL (cL cI) r.2.machine.Mealy.Next),.im (nL (cL cI) r.2.machine.Mealy.Out),.im (nI r.2.at_)]]):=by
 refine sp_of rfl [] rfl rfl rfl (Nat.le_of_ble_eq_true rfl) rfl fun hk=>?_
 replace h:=h hk.1 hk.2.1
 have z1:lZ r_.machine.Mealy.Next:=ok_len hk.1.2.2.1
 have z2:lZ r_.machine.Mealy.Out:=ok_len hk.1.2.2.2.1
 have z3:lZ w_:=ok_len hk.2.1
 unfold mealy_runner_run at h
 conv=>whnf
 refine Nf.mk (List.length w_) len_map ?_
 conv=>whnf
 obtain ⟨⟨y71,y72⟩,hc,hk51⟩:=bind_some h
 clear h
 have h:=hc
 clear hc
 refine Cut.mk (mkSt [(0,.own 0 0 0),(5,.osl 65 1)] [(0,.box 75 5),(65,.row 3 1 (List.map cI y72))] [(0,0,.im (nI r_.machine.Mealy.Inputs)),(0,1,.im (nI r_.machine.Mealy.Start)),(0,2,.im (nL (cL cI) r_.machine.Mealy.Next)),(0,3,.im (nL (cL cI) r_.machine.Mealy.Out)),(0,4,.im (nI y71))]) (lZ r_.machine.Mealy.Next∧lZ r_.machine.Mealy.Out∧lZ y72∧True) ((Holds.cel 0 2 rfl (by decide) rfl).and ((Holds.cel 0 3 rfl (by decide) rfl).and ((Holds.kdl 65 rfl).and (hT)))) ?_ (fun hp=>?_)
 conv=>whnf
 refine Loops.iter (fun (s:Int×List Int×Nat)=>mealy_runner_run.s2 r_ w_ s.1 s.2.1 s.2.2) (fun (y76,y77,y78)=>mkSt [(0,.own 0 0 0),(5,.osl 65 1),(10,.im (nL cI w_)),(11,.im (nI (↑(List.length w_):Int))),(12,.im (nI (↑y78:Int)))] [(0,.box 75 5),(65,.row 3 1 (List.map cI y77))] [(0,0,.im (nI r_.machine.Mealy.Inputs)),(0,1,.im (nI r_.machine.Mealy.Start)),(0,2,.im (nL (cL cI) r_.machine.Mealy.Next)),(0,3,.im (nL (cL cI) r_.machine.Mealy.Out)),(0,4,.im (nI y76))]) (fun (y76,y77,y78)=>lZ w_∧lZ r_.machine.Mealy.Next∧lZ r_.machine.Mealy.Out∧lZ y77∧True) h (eA [(0,some 0),(65,none)]) (by rintro ⟨y76,y77,y78⟩;exact ((Holds.avl 10 rfl).and ((Holds.cel 0 2 rfl (by decide) rfl).and ((Holds.cel 0 3 rfl (by decide) rfl).and ((Holds.kdl 65 rfl).and (hT)))))) ?_
 clear h
 rintro k ⟨y76,y77,y78⟩ o hp h ho83
 replace h:mealy_runner_run.s2 r_ w_ y76 y77 y78=some o:=h
 unfold mealy_runner_run.s2 at h
 obtain ⟨z88,z89,z90,z91,_⟩:=hp
 conv=>whnf
 refine Both.mk ?_ ?_<;>intro b84
 obtain ⟨h,b84d⟩:=ctd b84 h
 conv=>whnf
 obtain ⟨e85,he85,h⟩:=idxn_some h
 refine ⟨_,⟨(by omega),map_at he85,rfl⟩,?_⟩
 conv=>whnf
 refine Side.mk rfl ?_
 conv=>whnf
 refine Side.mk rfl ?_
 conv=>whnf
 refine Side.mk rfl ?_
 conv=>whnf
 refine Side.mk rfl ?_
 conv=>whnf
 refine Side.mk rfl ?_
 conv=>whnf
 refine Side.mk rfl ?_
 conv=>whnf
 obtain ⟨c86,hc86,h⟩:=bind_some h
 refine ⟨_,(sp_mealy_machine_move r_.machine y76 e85 c86 (fun _ _ _=>hc86)),?_⟩
 conv=>whnf
 refine Side.mk rfl ?_
 conv=>whnf
 refine Side.mk rfl ?_
 conv=>whnf
 refine Side.mk rfl ?_
 conv=>whnf
 obtain ⟨c87,h⟩:=chk_some h
 refine Side.mk ⟨rfl,map_len (l:=[c86.2]) (c:=cI) fun _=>rfl,show capOk _ 8 by simpa only [List.length_map,List.length_cons,List.length_nil,Nat.zero_add] using c87⟩ ?_
 conv=>whnf
 refine Nf.mk (List.map cI (y77++[c86.2])) (app_map (l:=y77) (m:=[c86.2]) (c:=cI)) ?_
 conv=>whnf
 refine Arith.mk (by show inR _;unfold inR;omega) ?_
 conv=>whnf
 cases h
 exact Nxt.mk _ ho83 (eA [(0,some 0),(65,some 65)])
 obtain ⟨h,b84d⟩:=cfd b84 h
 conv=>whnf
 cases h
 have ho83:_=_:=ho83
 cases ho83
 exact Join.mk (eA [(0,some 0),(65,some 65)])
 replace h:mealy_runner_run.k3 r_ y71 y72=some _:=hk51
 unfold mealy_runner_run.k3 at h
 obtain ⟨z92,z93,z94,_⟩:=hp
 conv=>whnf
 cases h
 conv=>whnf
 exact Side.mk ⟨rfl,rfl,trivial⟩ ⟨rfl,rfl⟩
theorem sp_mealy_Valid (m_:T_api_Mealy) (r:Int) (h:Ok (.agg (c_api_Mealy m_))→mealy_Valid m_=some r):Sp Try.prog 38 [.im (.agg (c_api_Mealy m_))] (.im (nI r)):=by
 refine sp_of rfl [700001] rfl rfl rfl (Nat.le_of_ble_eq_true rfl) rfl fun hk=>?_
 replace h:=h hk.1
 have z1:lZ m_.Next:=ok_len (Ok.agg_at hk.1 2 rfl)
 have z2:lZ m_.Out:=ok_len (Ok.agg_at hk.1 3 rfl)
 unfold mealy_Valid at h
 conv=>whnf
 refine Nf.mk (List.length m_.Next) len_map ?_
 conv=>whnf
 obtain ⟨y54,hc,hk52⟩:=bind_some h
 clear h
 have h:=hc
 clear hc
 refine Cut.mk (mkSt [(1,.im (.ref (c_api_Mealy m_))),(3,.im (nI (↑(List.length m_.Next):Int))),(11,.im (nB y54))] [] []) (True) (hT) ?_ (fun hp=>?_)
 conv=>whnf
 refine Both.mk ?_ ?_<;>intro b55
 replace b55:=beq_ff b55
 obtain ⟨h,b55d⟩:=cfd b55 h
 conv=>whnf
 iterate 2 (refine Both.yes (ff_beq b55) ?_;(conv=>whnf))
 refine Both.no b55 ?_
 conv=>whnf
 cases h
 exact Join.mk (eA [])
 replace b55:=beq_ft b55
 obtain ⟨h,b55d⟩:=ctd b55 h
 conv=>whnf
 iterate 2 (refine Both.no (tf_beq b55) ?_;(conv=>whnf))
 refine Both.yes b55 ?_
 conv=>whnf
 cases h
 exact Join.mk (eA [])
 replace h:=hk52
 conv=>whnf
 refine Both.mk ?_ ?_<;>intro b56
 replace h:=cond_t b56 h
 conv=>whnf
 cases h
 conv=>whnf
 exact ⟨rfl,rfl⟩
 replace h:=cond_f b56 h
 conv=>whnf
 refine Both.mk ?_ ?_<;>intro b57
 obtain ⟨h,b57d⟩:=ctd b57 h
 conv=>whnf
 cases h
 conv=>whnf
 exact ⟨rfl,rfl⟩
 obtain ⟨h,b57d⟩:=cfd b57 h
 conv=>whnf
 refine Both.mk ?_ ?_<;>intro b58
 obtain ⟨h,b58d⟩:=ctd b58 h
 conv=>whnf
 cases h
 conv=>whnf
 exact ⟨rfl,rfl⟩
 obtain ⟨h,b58d⟩:=cfd b58 h
 conv=>whnf
 obtain ⟨y62,hc,hk60⟩:=bind_some h
 clear h
 have h:=hc
 clear hc
 refine Cut.mk (mkSt [(1,.im (.ref (c_api_Mealy m_))),(3,.im (nI (↑(List.length m_.Next):Int))),(26,.im (nB y62))] [] []) (True) (hT) ?_ (fun hp=>?_)
 conv=>whnf
 refine Both.mk ?_ ?_<;>intro b63
 replace b63:=beq_ff b63
 obtain ⟨h,b63d⟩:=cfd b63 h
 conv=>whnf
 iterate 3 (refine Both.yes (ff_beq b63) ?_;(conv=>whnf))
 refine Both.no b63 ?_
 conv=>whnf
 cases h
 exact Join.mk (eA [])
 replace b63:=beq_ft b63
 obtain ⟨h,b63d⟩:=ctd b63 h
 conv=>whnf
 iterate 3 (refine Both.no (tf_beq b63) ?_;(conv=>whnf))
 refine Both.yes b63 ?_
 conv=>whnf
 cases h
 exact Join.mk (eA [])
 replace h:=hk60
 conv=>whnf
 refine Both.mk ?_ ?_<;>intro b64
 replace h:=cond_t b64 h
 conv=>whnf
 cases h
 conv=>whnf
 exact ⟨rfl,rfl⟩
 replace h:=cond_f b64 h
 conv=>whnf
 refine Nf.mk (List.length m_.Out) len_map ?_
 conv=>whnf
 refine Both.mk ?_ ?_<;>intro b65
 obtain ⟨h,b65d⟩:=ctd b65 h
 conv=>whnf
 cases h
 conv=>whnf
 exact ⟨rfl,rfl⟩
 obtain ⟨h,b65d⟩:=cfd b65 h
 conv=>whnf
 obtain ⟨oc,hc,hk66⟩:=bind_some h
 clear h
 have h:=hc
 clear hc
 refine Cut.mkS oc (Y:=Unit) (fun (_:Unit)=>mkSt [] [] []) (fun (_:Unit)=>True) (by rintro ⟨⟩;exact (hT)) ?_ ?_
 conv=>whnf
 refine Loops.iter (fun (s:Nat)=>mealy_Valid.s14 m_ s) (fun y509=>mkSt [(1,.im (.ref (c_api_Mealy m_))),(3,.im (nI (↑(List.length m_.Next):Int))),(42,.im (nI (↑(List.length m_.Next):Int))),(43,.im (nI (↑y509:Int)))] [] []) (fun y509=>True) h (eA []) (by rintro y509;exact (hT)) ?_
 clear h
 rintro k y509 o hp h ho620
 replace h:mealy_Valid.s14 m_ y509=some o:=h
 unfold mealy_Valid.s14 at h
 conv=>whnf
 refine Both.mk ?_ ?_<;>intro b621
 obtain ⟨h,b621d⟩:=ctd b621 h
 conv=>whnf
 obtain ⟨y627,hc,hk623⟩:=bind_some h
 clear h
 have h:=hc
 clear hc
 refine Cut.mk (mkSt [(1,.im (.ref (c_api_Mealy m_))),(3,.im (nI (↑(List.length m_.Next):Int))),(4,.im (nI (↑y509:Int))),(42,.im (nI (↑(List.length m_.Next):Int))),(43,.im (nI (↑y509:Int))),(65,.im (nB y627))] [] []) (True) (hT) ?_ (fun hp=>?_)
 conv=>whnf
 obtain ⟨e628,he628,h⟩:=idxn_some h
 refine ⟨_,⟨(by omega),map_at he628,rfl⟩,?_⟩
 conv=>whnf
 refine Nf.mk (List.length e628) len_map ?_
 conv=>whnf
 refine Both.mk ?_ ?_<;>intro b629
 replace b629:=beq_ff b629
 obtain ⟨h,b629d⟩:=cfd b629 h
 conv=>whnf
 iterate 3 (refine Both.yes (ff_beq b629) ?_;(conv=>whnf))
 obtain ⟨e630,he630,h⟩:=idxn_some h
 refine ⟨_,⟨(by omega),map_at he630,rfl⟩,?_⟩
 conv=>whnf
 iterate 2 (refine Both.yes (ff_beq b629) ?_;(conv=>whnf))
 refine Nf.mk (List.length e630) len_map ?_
 conv=>whnf
 iterate 3 (refine Both.yes (ff_beq b629) ?_;(conv=>whnf))
 refine Both.no b629 ?_
 conv=>whnf
 cases h
 exact Join.mk (eA [])
 replace b629:=beq_ft b629
 obtain ⟨h,b629d⟩:=ctd b629 h
 conv=>whnf
 iterate 8 (refine Both.no (tf_beq b629) ?_;(conv=>whnf))
 refine Both.yes b629 ?_
 conv=>whnf
 cases h
 exact Join.mk (eA [])
 replace h:=hk623
 conv=>whnf
 refine Both.mk ?_ ?_<;>intro b631
 replace h:=cond_t b631 h
 conv=>whnf
 cases h
 have ho620:_=_:=ho620
 cases ho620
 replace h:some _=some _:=hk66
 cases h
 conv=>whnf
 exact ⟨rfl,rfl⟩
 replace h:=cond_f b631 h
 conv=>whnf
 obtain ⟨oc,hc,hk632⟩:=bind_some h
 clear h
 have h:=hc
 clear hc
 refine Cut.mkS oc (Y:=Unit) (fun (_:Unit)=>mkSt [(1,.im (.ref (c_api_Mealy m_))),(3,.im (nI (↑(List.length m_.Next):Int))),(42,.im (nI (↑(List.length m_.Next):Int))),(43,.im (nI (↑y509:Int)))] [] []) (fun (_:Unit)=>True) (by rintro ⟨⟩;exact (hT)) ?_ ?_
 conv=>whnf
 refine Loops.iter (fun (s:Nat)=>mealy_Valid.s13 m_ y509 s) (fun y697=>mkSt [(1,.im (.ref (c_api_Mealy m_))),(3,.im (nI (↑(List.length m_.Next):Int))),(4,.im (nI (↑y509:Int))),(42,.im (nI (↑(List.length m_.Next):Int))),(43,.im (nI (↑y509:Int))),(67,.im (nI m_.Inputs)),(68,.im (nI (↑y697:Int)))] [] []) (fun y697=>True) h (eA []) (by rintro y697;exact (hT)) ?_
 clear h
 rintro k y697 o hp h ho714
 replace h:mealy_Valid.s13 m_ y509 y697=some o:=h
 unfold mealy_Valid.s13 at h
 conv=>whnf
 refine Both.mk ?_ ?_<;>intro b715
 obtain ⟨h,b715d⟩:=ctd b715 h
 conv=>whnf
 obtain ⟨e716,he716,h⟩:=idxn_some h
 refine ⟨_,⟨(by omega),map_at he716,rfl⟩,?_⟩
 conv=>whnf
 obtain ⟨e717,he717,h⟩:=idxn_some h
 refine ⟨_,⟨(by omega),map_at he717,rfl⟩,?_⟩
 conv=>whnf
 obtain ⟨e718,he718,h⟩:=idxn_some h
 refine ⟨_,⟨(by omega),map_at he718,rfl⟩,?_⟩
 conv=>whnf
 obtain ⟨e719,he719,h⟩:=idxn_some h
 refine ⟨_,⟨(by omega),map_at he719,rfl⟩,?_⟩
 conv=>whnf
 obtain ⟨y725,hc,hk721⟩:=bind_some h
 clear h
 have h:=hc
 clear hc
 refine Cut.mk (mkSt [(1,.im (.ref (c_api_Mealy m_))),(3,.im (nI (↑(List.length m_.Next):Int))),(4,.im (nI (↑y509:Int))),(42,.im (nI (↑(List.length m_.Next):Int))),(43,.im (nI (↑y509:Int))),(67,.im (nI m_.Inputs)),(68,.im (nI (↑y697:Int))),(101,.im (nB y725))] [] []) (True) (hT) ?_ (fun hp=>?_)
 conv=>whnf
 refine Both.mk ?_ ?_<;>intro b726
 replace b726:=beq_ff b726
 obtain ⟨h,b726d⟩:=cfd b726 h
 conv=>whnf
 iterate 2 (refine Both.yes (ff_beq b726) ?_;(conv=>whnf))
 refine Both.no b726 ?_
 conv=>whnf
 refine Both.mk ?_ ?_<;>intro b727
 replace b727:=beq_ff b727
 obtain ⟨h,b727d⟩:=cfd b727 h
 conv=>whnf
 refine Both.yes (ff_beq b727) ?_
 conv=>whnf
 refine Both.no b727 ?_
 conv=>whnf
 refine Both.mk ?_ ?_<;>intro b728
 replace b728:=beq_ff b728
 obtain ⟨h,b728d⟩:=cfd b728 h
 conv=>whnf
 refine Both.yes (ff_beq b728) ?_
 conv=>whnf
 refine Both.no b728 ?_
 conv=>whnf
 cases h
 exact Join.mk (eA [])
 replace b728:=beq_ft b728
 obtain ⟨h,b728d⟩:=ctd b728 h
 conv=>whnf
 refine Both.no (tf_beq b728) ?_
 conv=>whnf
 refine Both.yes b728 ?_
 conv=>whnf
 cases h
 exact Join.mk (eA [])
 replace b727:=beq_ft b727
 obtain ⟨h,b727d⟩:=ctd b727 h
 conv=>whnf
 refine Both.no (tf_beq b727) ?_
 conv=>whnf
 refine Both.yes b727 ?_
 conv=>whnf
 iterate 2 (refine Both.no rfl ?_;(conv=>whnf))
 refine Both.yes rfl ?_
 conv=>whnf
 cases h
 exact Join.mk (eA [])
 replace b726:=beq_ft b726
 obtain ⟨h,b726d⟩:=ctd b726 h
 conv=>whnf
 iterate 2 (refine Both.no (tf_beq b726) ?_;(conv=>whnf))
 refine Both.yes b726 ?_
 conv=>whnf
 iterate 2 (refine Both.no rfl ?_;(conv=>whnf))
 refine Both.yes rfl ?_
 conv=>whnf
 iterate 2 (refine Both.no rfl ?_;(conv=>whnf))
 refine Both.yes rfl ?_
 conv=>whnf
 cases h
 exact Join.mk (eA [])
 replace h:=hk721
 conv=>whnf
 refine Both.mk ?_ ?_<;>intro b729
 replace h:=cond_t b729 h
 conv=>whnf
 cases h
 have ho714:_=_:=ho714
 cases ho714
 replace h:some _=some _:=hk632
 cases h
 have ho620:_=_:=ho620
 cases ho620
 replace h:some _=some _:=hk66
 cases h
 conv=>whnf
 exact ⟨rfl,rfl⟩
 replace h:=cond_f b729 h
 conv=>whnf
 obtain ⟨c730,h⟩:=chk_some h
 refine Arith.mk c730 ?_
 conv=>whnf
 cases h
 exact Nxt.mk _ ho714 (eA [])
 obtain ⟨h,b715d⟩:=cfd b715 h
 conv=>whnf
 cases h
 have ho714:_=_:=ho714
 cases ho714
 exact JoinS.mk' _ rfl (eA [])
 rintro ⟨⟩ rfl hp
 replace h:=sum_inl hk632
 conv=>whnf
 refine Arith.mk (by show inR _;unfold inR;omega) ?_
 conv=>whnf
 cases h
 exact Nxt.mk _ ho620 (eA [])
 obtain ⟨h,b621d⟩:=cfd b621 h
 conv=>whnf
 cases h
 have ho620:_=_:=ho620
 cases ho620
 exact JoinS.mk' _ rfl (eA [])
 rintro ⟨⟩ rfl hp
 replace h:=sum_inl hk66
 conv=>whnf
 cases h
 conv=>whnf
 exact ⟨rfl,rfl⟩
theorem sp_mealy_state (m_:T_api_Mealy) (s_:Int) (r:Int) (h:Ok (.agg (c_api_Mealy m_))→Ok (nI s_)→mealy_state m_ s_=some r):Sp Try.prog 43 [.im (.agg (c_api_Mealy m_)),.im (nI s_)] (.im (nI r)):=by
 refine sp_of rfl [700002] rfl rfl rfl (Nat.le_of_ble_eq_true rfl) rfl fun hk=>?_
 replace h:=h hk.1 hk.2.1
 have z1:lZ m_.Next:=ok_len (Ok.agg_at hk.1 2 rfl)
 have z2:lZ m_.Out:=ok_len (Ok.agg_at hk.1 3 rfl)
 unfold mealy_state at h
 conv=>whnf
 obtain ⟨c51,hc51,h⟩:=bind_some h
 refine ⟨_,(sp_mealy_Valid m_ c51 (fun _=>hc51)),?_⟩
 conv=>whnf
 refine Both.mk ?_ ?_<;>intro b52
 obtain ⟨h,b52d⟩:=ctd b52 h
 conv=>whnf
 cases h
 conv=>whnf
 exact ⟨rfl,rfl⟩
 obtain ⟨h,b52d⟩:=cfd b52 h
 conv=>whnf
 obtain ⟨y56,hc,hk54⟩:=bind_some h
 clear h
 have h:=hc
 clear hc
 refine Cut.mk (mkSt [(19,.im (nB y56))] [] []) (True) (hT) ?_ (fun hp=>?_)
 conv=>whnf
 refine Both.mk ?_ ?_<;>intro b57
 replace b57:=beq_ff b57
 obtain ⟨h,b57d⟩:=cfd b57 h
 conv=>whnf
 iterate 3 (refine Both.yes (ff_beq b57) ?_;(conv=>whnf))
 refine Nf.mk (List.length m_.Next) len_map ?_
 conv=>whnf
 refine Both.yes (ff_beq b57) ?_
 conv=>whnf
 refine Both.no b57 ?_
 conv=>whnf
 cases h
 exact Join.mk (eA [])
 replace b57:=beq_ft b57
 obtain ⟨h,b57d⟩:=ctd b57 h
 conv=>whnf
 iterate 4 (refine Both.no (tf_beq b57) ?_;(conv=>whnf))
 refine Both.yes b57 ?_
 conv=>whnf
 cases h
 exact Join.mk (eA [])
 replace h:=hk54
 conv=>whnf
 refine Both.mk ?_ ?_<;>intro b58
 replace h:=cond_t b58 h
 conv=>whnf
 cases h
 conv=>whnf
 exact ⟨rfl,rfl⟩
 replace h:=cond_f b58 h
 conv=>whnf
 cases h
 conv=>whnf
 exact ⟨rfl,rfl⟩
theorem sp_mealy_From (m_:T_api_Mealy) (s_:Int) (w_:List Int) (r:List Int×Int×Int) (h:Ok (.agg (c_api_Mealy m_))→Ok (nI s_)→Ok (nL cI w_)→mealy_From m_ s_ w_=some r):Sp Try.prog 18 [.im (.agg (c_api_Mealy m_)),.im (nI s_),.im (nL cI w_)] (.tup [nL cI r.1,nI r.2.1,nI r.2.2]):=by
 refine sp_of rfl [34000,700003] rfl rfl rfl (Nat.le_of_ble_eq_true rfl) rfl fun hk=>?_
 replace h:=h hk.1 hk.2.1 hk.2.2.1
 have z1:lZ m_.Next:=ok_len (Ok.agg_at hk.1 2 rfl)
 have z2:lZ m_.Out:=ok_len (Ok.agg_at hk.1 3 rfl)
 have z3:lZ w_:=ok_len hk.2.2.1
 unfold mealy_From at h
 conv=>whnf
 obtain ⟨c51,hc51,h⟩:=bind_some h
 refine ⟨_,(sp_mealy_state m_ s_ c51 (fun _ _=>hc51)),?_⟩
 conv=>whnf
 refine Both.mk ?_ ?_<;>intro b52
 obtain ⟨h,b52d⟩:=ctd b52 h
 conv=>whnf
 cases h
 conv=>whnf
 exact ⟨rfl,rfl⟩
 obtain ⟨h,b52d⟩:=cfd b52 h
 conv=>whnf
 obtain ⟨c53,hc53,h⟩:=bind_some h
 refine ⟨_,(sp_word_Check w_ m_.Inputs c53 (fun _ _=>hc53)),?_⟩
 conv=>whnf
 refine Both.mk ?_ ?_<;>intro b54
 obtain ⟨h,b54d⟩:=ctd b54 h
 conv=>whnf
 cases h
 conv=>whnf
 exact ⟨rfl,rfl⟩
 obtain ⟨h,b54d⟩:=cfd b54 h
 conv=>whnf
 refine Side.mk ⟨rfl,trivial⟩ ?_
 conv=>whnf
 obtain ⟨c55,hc55,h⟩:=bind_some h
 refine ⟨_,(sp_mealy_runner_run (⟨(⟨m_⟩:T_mealy_machine),s_⟩:T_mealy_runner) w_ c55 (fun _ _=>hc55)),?_⟩
 conv=>whnf
 refine Side.mk rfl ?_
 conv=>whnf
 refine Side.mk rfl ?_
 conv=>whnf
 refine Side.mk rfl ?_
 conv=>whnf
 cases h
 conv=>whnf
 exact ⟨rfl,rfl⟩
theorem sp_slices_Concat_Sint_int (slices_:List (List Int)) (r:List Int) (h:Ok (nL (cL cI) slices_)→slices_Concat_Sint_int slices_=some r):Sp Try.prog 71 [.im (nL (cL cI) slices_)] (.row 3 1 (List.map cI r)):=by
 refine sp_of rfl [4025000] rfl rfl rfl (Nat.le_of_ble_eq_true rfl) rfl fun hk=>?_
 replace h:=h hk.1
 have z1:lZ slices_:=ok_len hk.1
 unfold slices_Concat_Sint_int at h
 conv=>whnf
 refine Nf.mk (List.length slices_) len_map ?_
 conv=>whnf
 obtain ⟨size68,hc,hk51⟩:=bind_some h
 clear h
 have h:=hc
 clear hc
 refine Cut.mk (mkSt [(0,.im (nL (cL cI) slices_)),(3,.im (nI (↑size68:Int)))] [] []) (lZ slices_∧True) ((Holds.avl 0 rfl).and (hT)) ?_ (fun hp=>?_)
 conv=>whnf
 refine Loops.iter (fun (s:Nat×Nat)=>slices_Concat_Sint_int.s2 slices_ s.1 s.2) (fun (size73,y74)=>mkSt [(0,.im (nL (cL cI) slices_)),(3,.im (nI (↑size73:Int))),(9,.im (nL (cL cI) slices_)),(10,.im (nI (↑(List.length slices_):Int))),(11,.im (nI (↑y74:Int)))] [] []) (fun (size73,y74)=>lZ slices_∧True) h (eA []) (by rintro ⟨size73,y74⟩;exact ((Holds.avl 0 rfl).and (hT))) ?_
 clear h
 rintro k ⟨size73,y74⟩ o hp h ho79
 replace h:slices_Concat_Sint_int.s2 slices_ size73 y74=some o:=h
 unfold slices_Concat_Sint_int.s2 at h
 obtain ⟨z84,_⟩:=hp
 conv=>whnf
 refine Both.mk ?_ ?_<;>intro b80
 obtain ⟨h,b80d⟩:=ctd b80 h
 conv=>whnf
 obtain ⟨e81,he81,h⟩:=idxn_some h
 refine ⟨_,⟨(by omega),map_at he81,rfl⟩,?_⟩
 conv=>whnf
 refine Nf.mk (List.length e81) len_map ?_
 conv=>whnf
 obtain ⟨c82,h⟩:=chk_some h
 refine Arith.mk c82 ?_
 conv=>whnf
 refine Both.mk ?_ ?_<;>intro b83
 obtain ⟨h,b83d⟩:=ctd b83 h
 conv=>whnf
 cases h
 obtain ⟨h,b83d⟩:=cfd b83 h
 conv=>whnf
 refine Arith.mk (by show inR _;unfold inR;omega) ?_
 conv=>whnf
 cases h
 exact Nxt.mk _ ho79 (eA [])
 obtain ⟨h,b80d⟩:=cfd b80 h
 conv=>whnf
 cases h
 have ho79:_=_:=ho79
 cases ho79
 exact Join.mk (eA [])
 replace h:=hk51
 obtain ⟨z85,_⟩:=hp
 conv=>whnf
 obtain ⟨c86,hc86,h⟩:=bind_some h
 refine ⟨_,(sp_lib_Grow_int (↑size68:Int) c86 (hc86)),?_⟩
 conv=>whnf
 refine Nf.mk (List.length slices_) len_map ?_
 conv=>whnf
 obtain ⟨y102,hc,hk87⟩:=bind_some h
 clear h
 have h:=hc
 clear hc
 refine Cut.mk (mkSt [(6,.osl 64 1)] [(64,.row 3 1 (List.map cI y102))] []) (lZ y102∧True) ((Holds.kdl 64 rfl).and (hT)) ?_ (fun hp=>?_)
 conv=>whnf
 refine Loops.iter (fun (s:List Int×Nat)=>slices_Concat_Sint_int.s4 slices_ s.1 s.2) (fun (y106,y107)=>mkSt [(6,.osl 64 1),(25,.im (nL (cL cI) slices_)),(26,.im (nI (↑(List.length slices_):Int))),(27,.im (nI (↑y107:Int)))] [(64,.row 3 1 (List.map cI y106))] []) (fun (y106,y107)=>lZ slices_∧lZ y106∧True) h (eA [(64,some 24)]) (by rintro ⟨y106,y107⟩;exact ((Holds.avl 25 rfl).and ((Holds.kdl 64 rfl).and (hT)))) ?_
 clear h
 rintro k ⟨y106,y107⟩ o hp h ho111
 replace h:slices_Concat_Sint_int.s4 slices_ y106 y107=some o:=h
 unfold slices_Concat_Sint_int.s4 at h
 obtain ⟨z115,z116,_⟩:=hp
 conv=>whnf
 refine Both.mk ?_ ?_<;>intro b112
 obtain ⟨h,b112d⟩:=ctd b112 h
 conv=>whnf
 obtain ⟨e113,he113,h⟩:=idxn_some h
 refine ⟨_,⟨(by omega),map_at he113,rfl⟩,?_⟩
 conv=>whnf
 obtain ⟨c114,h⟩:=chk_some h
 refine Side.mk ⟨rfl,map_len (l:=e113) (c:=cI) fun _=>rfl,show capOk _ 8 by simpa only [List.length_map,List.length_cons,List.length_nil,Nat.zero_add] using c114⟩ ?_
 conv=>whnf
 refine Nf.mk (List.map cI (y106++e113)) (app_map (l:=y106) (m:=e113) (c:=cI)) ?_
 conv=>whnf
 refine Arith.mk (by show inR _;unfold inR;omega) ?_
 conv=>whnf
 cases h
 exact Nxt.mk _ ho111 (eA [(64,some 64)])
 obtain ⟨h,b112d⟩:=cfd b112 h
 conv=>whnf
 cases h
 have ho111:_=_:=ho111
 cases ho111
 exact Join.mk (eA [(64,some 64)])
 replace h:=hk87
 obtain ⟨z117,_⟩:=hp
 conv=>whnf
 cases h
 conv=>whnf
 exact Side.mk ⟨rfl,trivial⟩ ⟨rfl,rfl⟩
theorem sp_word_Join (parts_:List (List Int)) (r:List Int) (h:Ok (nL (cL cI) parts_)→word_Join parts_=some r):Sp Try.prog 47 [.im (nL (cL cI) parts_)] (.im (nL cI r)):=by
 refine sp_of rfl [] rfl rfl rfl (Nat.le_of_ble_eq_true rfl) rfl fun hk=>?_
 replace h:=h hk.1
 have z1:lZ parts_:=ok_len hk.1
 unfold word_Join at h
 conv=>whnf
 obtain ⟨c51,hc51,h⟩:=bind_some h
 refine ⟨_,(sp_slices_Concat_Sint_int parts_ c51 (fun _=>hc51)).im,?_⟩
 conv=>whnf
 cases h
 conv=>whnf
 exact ⟨rfl,rfl⟩
theorem sp_hsuite_behind (u_:List Int) (tails_:List (List Int)) (r:List (List Int)) (h:Ok (nL cI u_)→Ok (nL (cL cI) tails_)→hsuite_behind u_ tails_=some r):Sp Try.prog 35 [.im (nL cI u_),.im (nL (cL cI) tails_)] (.row 26 1 (List.map (cL cI) r)):=by
 refine sp_of rfl [] rfl rfl rfl (Nat.le_of_ble_eq_true rfl) rfl fun hk=>?_
 replace h:=h hk.1 hk.2.1
 have z1:lZ u_:=ok_len hk.1
 have z2:lZ tails_:=ok_len hk.2.1
 unfold hsuite_behind at h
 conv=>whnf
 refine Nf.mk (List.length tails_) len_map ?_
 conv=>whnf
 obtain ⟨y69,hc,hk51⟩:=bind_some h
 clear h
 have h:=hc
 clear hc
 refine Cut.mk (mkSt [(5,.osl 64 1)] [(64,.row 26 1 (List.map (cL cI) y69))] []) (lZ y69∧True) ((Holds.kdl 64 rfl).and (hT)) ?_ (fun hp=>?_)
 conv=>whnf
 refine Loops.iter (fun (s:List (List Int)×Nat)=>hsuite_behind.s2 u_ tails_ s.1 s.2) (fun (y73,y74)=>mkSt [(0,.im (nL cI u_)),(5,.osl 64 1),(8,.im (nL (cL cI) tails_)),(9,.im (nI (↑(List.length tails_):Int))),(10,.im (nI (↑y74:Int)))] [(64,.row 26 1 (List.map (cL cI) y73))] []) (fun (y73,y74)=>lZ u_∧lZ tails_∧lZ y73∧True) h (eA [(64,none)]) (by rintro ⟨y73,y74⟩;exact ((Holds.avl 0 rfl).and ((Holds.avl 8 rfl).and ((Holds.kdl 64 rfl).and (hT))))) ?_
 clear h
 rintro k ⟨y73,y74⟩ o hp h ho79
 replace h:hsuite_behind.s2 u_ tails_ y73 y74=some o:=h
 unfold hsuite_behind.s2 at h
 obtain ⟨z84,z85,z86,_⟩:=hp
 conv=>whnf
 refine Both.mk ?_ ?_<;>intro b80
 obtain ⟨h,b80d⟩:=ctd b80 h
 conv=>whnf
 obtain ⟨e81,he81,h⟩:=idxn_some h
 refine ⟨_,⟨(by omega),map_at he81,rfl⟩,?_⟩
 conv=>whnf
 obtain ⟨c82,hc82,h⟩:=bind_some h
 refine ⟨_,(sp_word_Join [u_,e81] c82 (fun _=>hc82)),?_⟩
 conv=>whnf
 obtain ⟨c83,h⟩:=chk_some h
 refine Side.mk ⟨rfl,map_len (l:=[c82]) (c:=cL cI) fun _=>rfl,show capOk _ 24 by simpa only [List.length_map,List.length_cons,List.length_nil,Nat.zero_add] using c83⟩ ?_
 conv=>whnf
 refine Nf.mk (List.map (cL cI) (y73++[c82])) (app_map (l:=y73) (m:=[c82]) (c:=cL cI)) ?_
 conv=>whnf
 refine Arith.mk (by show inR _;unfold inR;omega) ?_
 conv=>whnf
 cases h
 exact Nxt.mk _ ho79 (eA [(64,some 64)])
 obtain ⟨h,b80d⟩:=cfd b80 h
 conv=>whnf
 cases h
 have ho79:_=_:=ho79
 cases ho79
 exact Join.mk (eA [(64,some 64)])
 replace h:=hk51
 obtain ⟨z87,_⟩:=hp
 conv=>whnf
 cases h
 conv=>whnf
 exact Side.mk ⟨rfl,trivial⟩ ⟨rfl,rfl⟩
theorem sp_hsuite_Tails (m_:T_api_Mealy) (ids_:List (List (List Int))) (w_:List Int) (r:List (List Int)×Int) (h:Ok (.agg (c_api_Mealy m_))→Ok (nL (cL (cL cI)) ids_)→Ok (nL cI w_)→hsuite_Tails m_ ids_ w_=some r):Sp Try.prog 12 [.im (.agg (c_api_Mealy m_)),.im (nL (cL (cL cI)) ids_),.im (nL cI w_)] (.tup [nL (cL cI) r.1,nI r.2]):=by
 refine sp_of rfl [700003] rfl rfl rfl (Nat.le_of_ble_eq_true rfl) rfl fun hk=>?_
 replace h:=h hk.1 hk.2.1 hk.2.2.1
 have z1:lZ m_.Next:=ok_len (Ok.agg_at hk.1 2 rfl)
 have z2:lZ m_.Out:=ok_len (Ok.agg_at hk.1 3 rfl)
 have z3:lZ ids_:=ok_len hk.2.1
 have z4:lZ w_:=ok_len hk.2.2.1
 unfold hsuite_Tails at h
 conv=>whnf
 obtain ⟨c51,hc51,h⟩:=bind_some h
 refine ⟨_,(sp_mealy_From m_ m_.Start w_ c51 (fun _ _ _=>hc51)),?_⟩
 conv=>whnf
 refine Both.mk ?_ ?_<;>intro b52
 obtain ⟨h,b52d⟩:=ctd b52 h
 conv=>whnf
 cases h
 conv=>whnf
 exact ⟨rfl,rfl⟩
 obtain ⟨h,b52d⟩:=cfd b52 h
 conv=>whnf
 refine Nf.mk (List.length ids_) len_map ?_
 conv=>whnf
 refine Nf.mk (List.length m_.Next) len_map ?_
 conv=>whnf
 refine Both.mk ?_ ?_<;>intro b53
 obtain ⟨h,b53d⟩:=ctd b53 h
 conv=>whnf
 cases h
 conv=>whnf
 exact ⟨rfl,rfl⟩
 obtain ⟨h,b53d⟩:=cfd b53 h
 conv=>whnf
 obtain ⟨e54,he54z,he54,h⟩:=idx_some h
 refine ⟨_,⟨he54z,map_at he54,rfl⟩,?_⟩
 conv=>whnf
 refine Nf.mk (List.length e54) len_map ?_
 conv=>whnf
 refine Both.mk ?_ ?_<;>intro b55
 obtain ⟨h,b55d⟩:=ctd b55 h
 conv=>whnf
 cases h
 conv=>whnf
 exact ⟨rfl,rfl⟩
 obtain ⟨h,b55d⟩:=cfd b55 h
 conv=>whnf
 obtain ⟨e56,he56z,he56,h⟩:=idx_some h
 refine ⟨_,⟨he56z,map_at he56,rfl⟩,?_⟩
 conv=>whnf
 obtain ⟨c57,hc57,h⟩:=bind_some h
 refine ⟨_,(sp_hsuite_behind [] e56 c57 (fun _ _=>hc57)).im,?_⟩
 conv=>whnf
 cases h
 conv=>whnf
 exact ⟨rfl,rfl⟩
theorem sp_R06_row (m_:T_api_Mealy) (s_:Int) (r:Int) (h:Ok (.agg (c_api_Mealy m_))→Ok (nI s_)→R06_row m_ s_=some r):Sp Try.prog 39 [.im (.agg (c_api_Mealy m_)),.im (nI s_)] (.im (nI r)):=by
 refine sp_of rfl [700002] rfl rfl rfl (Nat.le_of_ble_eq_true rfl) rfl fun hk=>?_
 replace h:=h hk.1 hk.2.1
 have z1:lZ m_.Next:=ok_len (Ok.agg_at hk.1 2 rfl)
 have z2:lZ m_.Out:=ok_len (Ok.agg_at hk.1 3 rfl)
 unfold R06_row at h
 conv=>whnf
 obtain ⟨y56,hc,hk52⟩:=bind_some h
 clear h
 have h:=hc
 clear hc
 refine Cut.mk (mkSt [(1,.im (nI s_)),(2,.im (.ref (c_api_Mealy m_))),(25,.im (nB y56))] [] []) (True) (hT) ?_ (fun hp=>?_)
 conv=>whnf
 obtain ⟨e57,he57z,he57,h⟩:=idx_some h
 refine ⟨_,⟨he57z,map_at he57,rfl⟩,?_⟩
 conv=>whnf
 refine Nf.mk (List.length e57) len_map ?_
 conv=>whnf
 refine Both.mk ?_ ?_<;>intro b58
 replace b58:=beq_ff b58
 obtain ⟨h,b58d⟩:=cfd b58 h
 conv=>whnf
 iterate 3 (refine Both.yes (ff_beq b58) ?_;(conv=>whnf))
 obtain ⟨e59,he59z,he59,h⟩:=idx_some h
 refine ⟨_,⟨he59z,map_at he59,rfl⟩,?_⟩
 conv=>whnf
 iterate 2 (refine Both.yes (ff_beq b58) ?_;(conv=>whnf))
 refine Nf.mk (List.length e59) len_map ?_
 conv=>whnf
 iterate 3 (refine Both.yes (ff_beq b58) ?_;(conv=>whnf))
 refine Both.no b58 ?_
 conv=>whnf
 cases h
 exact Join.mk (eA [])
 replace b58:=beq_ft b58
 obtain ⟨h,b58d⟩:=ctd b58 h
 conv=>whnf
 iterate 8 (refine Both.no (tf_beq b58) ?_;(conv=>whnf))
 refine Both.yes b58 ?_
 conv=>whnf
 cases h
 exact Join.mk (eA [])
 replace h:=hk52
 conv=>whnf
 refine Both.mk ?_ ?_<;>intro b60
 replace h:=cond_t b60 h
 conv=>whnf
 cases h
 conv=>whnf
 exact ⟨rfl,rfl⟩
 replace h:=cond_f b60 h
 conv=>whnf
 obtain ⟨oc,hc,hk61⟩:=bind_some h
 clear h
 have h:=hc
 clear hc
 refine Cut.mkS oc (Y:=Unit) (fun (_:Unit)=>mkSt [] [] []) (fun (_:Unit)=>True) (by rintro ⟨⟩;exact (hT)) ?_ ?_
 conv=>whnf
 refine Loops.iter (fun (s:Nat)=>R06_row.s2 m_ s_ s) (fun a174=>mkSt [(1,.im (nI s_)),(2,.im (.ref (c_api_Mealy m_))),(5,.im (nI (↑a174:Int)))] [] []) (fun a174=>True) h (eA []) (by rintro a174;exact (hT)) ?_
 clear h
 rintro k a174 o hp h ho203
 replace h:R06_row.s2 m_ s_ a174=some o:=h
 unfold R06_row.s2 at h
 conv=>whnf
 refine Both.mk ?_ ?_<;>intro b204
 obtain ⟨h,b204d⟩:=ctd b204 h
 conv=>whnf
 obtain ⟨y218,hc,hk206⟩:=bind_some h
 clear h
 have h:=hc
 clear hc
 refine Cut.mk (mkSt [(1,.im (nI s_)),(2,.im (.ref (c_api_Mealy m_))),(5,.im (nI (↑a174:Int))),(76,.im (nB y218))] [] []) (True) (hT) ?_ (fun hp=>?_)
 conv=>whnf
 obtain ⟨e219,he219z,he219,h⟩:=idx_some h
 refine ⟨_,⟨he219z,map_at he219,rfl⟩,?_⟩
 conv=>whnf
 obtain ⟨e220,he220,h⟩:=idxn_some h
 refine ⟨_,⟨(by omega),map_at he220,rfl⟩,?_⟩
 conv=>whnf
 refine Both.mk ?_ ?_<;>intro b221
 replace b221:=beq_ff b221
 obtain ⟨h,b221d⟩:=cfd b221 h
 conv=>whnf
 iterate 3 (refine Both.yes (ff_beq b221) ?_;(conv=>whnf))
 obtain ⟨e222,he222z,he222,h⟩:=idx_some h
 refine ⟨_,⟨he222z,map_at he222,rfl⟩,?_⟩
 conv=>whnf
 iterate 3 (refine Both.yes (ff_beq b221) ?_;(conv=>whnf))
 obtain ⟨e223,he223,h⟩:=idxn_some h
 refine ⟨_,⟨(by omega),map_at he223,rfl⟩,?_⟩
 conv=>whnf
 iterate 4 (refine Both.yes (ff_beq b221) ?_;(conv=>whnf))
 refine Nf.mk (List.length m_.Next) len_map ?_
 conv=>whnf
 refine Both.yes (ff_beq b221) ?_
 conv=>whnf
 refine Both.no b221 ?_
 conv=>whnf
 refine Both.mk ?_ ?_<;>intro b224
 replace b224:=beq_ff b224
 obtain ⟨h,b224d⟩:=cfd b224 h
 conv=>whnf
 iterate 3 (refine Both.yes (ff_beq b224) ?_;(conv=>whnf))
 obtain ⟨e225,he225z,he225,h⟩:=idx_some h
 refine ⟨_,⟨he225z,map_at he225,rfl⟩,?_⟩
 conv=>whnf
 iterate 3 (refine Both.yes (ff_beq b224) ?_;(conv=>whnf))
 obtain ⟨e226,he226,h⟩:=idxn_some h
 refine ⟨_,⟨(by omega),map_at he226,rfl⟩,?_⟩
 conv=>whnf
 iterate 2 (refine Both.yes (ff_beq b224) ?_;(conv=>whnf))
 refine Both.no b224 ?_
 conv=>whnf
 refine Both.mk ?_ ?_<;>intro b227
 replace b227:=beq_ff b227
 obtain ⟨h,b227d⟩:=cfd b227 h
 conv=>whnf
 iterate 3 (refine Both.yes (ff_beq b227) ?_;(conv=>whnf))
 obtain ⟨e228,he228z,he228,h⟩:=idx_some h
 refine ⟨_,⟨he228z,map_at he228,rfl⟩,?_⟩
 conv=>whnf
 iterate 3 (refine Both.yes (ff_beq b227) ?_;(conv=>whnf))
 obtain ⟨e229,he229,h⟩:=idxn_some h
 refine ⟨_,⟨(by omega),map_at he229,rfl⟩,?_⟩
 conv=>whnf
 iterate 2 (refine Both.yes (ff_beq b227) ?_;(conv=>whnf))
 refine Both.no b227 ?_
 conv=>whnf
 cases h
 exact Join.mk (eA [])
 replace b227:=beq_ft b227
 obtain ⟨h,b227d⟩:=ctd b227 h
 conv=>whnf
 iterate 8 (refine Both.no (tf_beq b227) ?_;(conv=>whnf))
 refine Both.yes b227 ?_
 conv=>whnf
 cases h
 exact Join.mk (eA [])
 replace b224:=beq_ft b224
 obtain ⟨h,b224d⟩:=ctd b224 h
 conv=>whnf
 iterate 8 (refine Both.no (tf_beq b224) ?_;(conv=>whnf))
 refine Both.yes b224 ?_
 conv=>whnf
 iterate 9 (refine Both.no rfl ?_;(conv=>whnf))
 refine Both.yes rfl ?_
 conv=>whnf
 cases h
 exact Join.mk (eA [])
 replace b221:=beq_ft b221
 obtain ⟨h,b221d⟩:=ctd b221 h
 conv=>whnf
 iterate 11 (refine Both.no (tf_beq b221) ?_;(conv=>whnf))
 refine Both.yes b221 ?_
 conv=>whnf
 iterate 9 (refine Both.no rfl ?_;(conv=>whnf))
 refine Both.yes rfl ?_
 conv=>whnf
 iterate 9 (refine Both.no rfl ?_;(conv=>whnf))
 refine Both.yes rfl ?_
 conv=>whnf
 cases h
 exact Join.mk (eA [])
 replace h:=hk206
 conv=>whnf
 refine Both.mk ?_ ?_<;>intro b230
 replace h:=cond_t b230 h
 conv=>whnf
 cases h
 have ho203:_=_:=ho203
 cases ho203
 replace h:some _=some _:=hk61
 cases h
 conv=>whnf
 exact ⟨rfl,rfl⟩
 replace h:=cond_f b230 h
 conv=>whnf
 obtain ⟨c231,h⟩:=chk_some h
 refine Arith.mk c231 ?_
 conv=>whnf
 cases h
 exact Nxt.mk _ ho203 (eA [])
 obtain ⟨h,b204d⟩:=cfd b204 h
 conv=>whnf
 cases h
 have ho203:_=_:=ho203
 cases ho203
 exact JoinS.mk' _ rfl (eA [])
 rintro ⟨⟩ rfl hp
 replace h:=sum_inl hk61
 conv=>whnf
 cases h
 conv=>whnf
 exact ⟨rfl,rfl⟩
theorem sp_R06_Valid (m_:T_api_Mealy) (r:Int) (h:Ok (.agg (c_api_Mealy m_))→R06_Valid m_=some r):Sp Try.prog 16 [.im (.agg (c_api_Mealy m_))] (.im (nI r)):=by
 refine sp_of rfl [700001] rfl rfl rfl (Nat.le_of_ble_eq_true rfl) rfl fun hk=>?_
 replace h:=h hk.1
 have z1:lZ m_.Next:=ok_len (Ok.agg_at hk.1 2 rfl)
 have z2:lZ m_.Out:=ok_len (Ok.agg_at hk.1 3 rfl)
 unfold R06_Valid at h
 conv=>whnf
 obtain ⟨y54,hc,hk52⟩:=bind_some h
 clear h
 have h:=hc
 clear hc
 refine Cut.mk (mkSt [(1,.im (.ref (c_api_Mealy m_))),(12,.im (nB y54))] [] []) (True) (hT) ?_ (fun hp=>?_)
 conv=>whnf
 refine Both.mk ?_ ?_<;>intro b55
 replace b55:=beq_ff b55
 obtain ⟨h,b55d⟩:=cfd b55 h
 conv=>whnf
 iterate 2 (refine Both.yes (ff_beq b55) ?_;(conv=>whnf))
 refine Both.no b55 ?_
 conv=>whnf
 cases h
 exact Join.mk (eA [])
 replace b55:=beq_ft b55
 obtain ⟨h,b55d⟩:=ctd b55 h
 conv=>whnf
 iterate 2 (refine Both.no (tf_beq b55) ?_;(conv=>whnf))
 refine Both.yes b55 ?_
 conv=>whnf
 cases h
 exact Join.mk (eA [])
 replace h:=hk52
 conv=>whnf
 refine Both.mk ?_ ?_<;>intro b56
 replace h:=cond_t b56 h
 conv=>whnf
 cases h
 conv=>whnf
 exact ⟨rfl,rfl⟩
 replace h:=cond_f b56 h
 conv=>whnf
 refine Nf.mk (List.length m_.Next) len_map ?_
 conv=>whnf
 refine Both.mk ?_ ?_<;>intro b57
 obtain ⟨h,b57d⟩:=ctd b57 h
 conv=>whnf
 cases h
 conv=>whnf
 exact ⟨rfl,rfl⟩
 obtain ⟨h,b57d⟩:=cfd b57 h
 conv=>whnf
 refine Nf.mk (List.length m_.Next) len_map ?_
 conv=>whnf
 refine Both.mk ?_ ?_<;>intro b58
 obtain ⟨h,b58d⟩:=ctd b58 h
 conv=>whnf
 cases h
 conv=>whnf
 exact ⟨rfl,rfl⟩
 obtain ⟨h,b58d⟩:=cfd b58 h
 conv=>whnf
 obtain ⟨y62,hc,hk60⟩:=bind_some h
 clear h
 have h:=hc
 clear hc
 refine Cut.mk (mkSt [(1,.im (.ref (c_api_Mealy m_))),(31,.im (nB y62))] [] []) (True) (hT) ?_ (fun hp=>?_)
 conv=>whnf
 refine Both.mk ?_ ?_<;>intro b63
 replace b63:=beq_ff b63
 obtain ⟨h,b63d⟩:=cfd b63 h
 conv=>whnf
 iterate 4 (refine Both.yes (ff_beq b63) ?_;(conv=>whnf))
 refine Nf.mk (List.length m_.Next) len_map ?_
 conv=>whnf
 refine Both.yes (ff_beq b63) ?_
 conv=>whnf
 refine Both.no b63 ?_
 conv=>whnf
 cases h
 exact Join.mk (eA [])
 replace b63:=beq_ft b63
 obtain ⟨h,b63d⟩:=ctd b63 h
 conv=>whnf
 iterate 5 (refine Both.no (tf_beq b63) ?_;(conv=>whnf))
 refine Both.yes b63 ?_
 conv=>whnf
 cases h
 exact Join.mk (eA [])
 replace h:=hk60
 conv=>whnf
 refine Both.mk ?_ ?_<;>intro b64
 replace h:=cond_t b64 h
 conv=>whnf
 cases h
 conv=>whnf
 exact ⟨rfl,rfl⟩
 replace h:=cond_f b64 h
 conv=>whnf
 refine Nf.mk (List.length m_.Out) len_map ?_
 conv=>whnf
 refine Nf.mk (List.length m_.Next) len_map ?_
 conv=>whnf
 refine Both.mk ?_ ?_<;>intro b65
 obtain ⟨h,b65d⟩:=ctd b65 h
 conv=>whnf
 cases h
 conv=>whnf
 exact ⟨rfl,rfl⟩
 obtain ⟨h,b65d⟩:=cfd b65 h
 conv=>whnf
 obtain ⟨oc,hc,hk66⟩:=bind_some h
 clear h
 have h:=hc
 clear hc
 refine Cut.mkS oc (Y:=Unit) (fun (_:Unit)=>mkSt [] [] []) (fun (_:Unit)=>True) (by rintro ⟨⟩;exact (hT)) ?_ ?_
 conv=>whnf
 refine Loops.iter (fun (s:Nat)=>R06_Valid.s2 m_ s) (fun s81=>mkSt [(1,.im (.ref (c_api_Mealy m_))),(3,.im (nI (↑s81:Int)))] [] []) (fun s81=>True) h (eA []) (by rintro s81;exact (hT)) ?_
 clear h
 rintro k s81 o hp h ho85
 replace h:R06_Valid.s2 m_ s81=some o:=h
 unfold R06_Valid.s2 at h
 conv=>whnf
 refine Nf.mk (List.length m_.Next) len_map ?_
 conv=>whnf
 refine Both.mk ?_ ?_<;>intro b86
 obtain ⟨h,b86d⟩:=ctd b86 h
 conv=>whnf
 obtain ⟨c87,hc87,h⟩:=bind_some h
 refine ⟨_,(sp_R06_row m_ (↑s81:Int) c87 (fun _ _=>hc87)),?_⟩
 conv=>whnf
 refine Both.mk ?_ ?_<;>intro b88
 obtain ⟨h,b88d⟩:=ctd b88 h
 conv=>whnf
 cases h
 have ho85:_=_:=ho85
 cases ho85
 replace h:some _=some _:=hk66
 cases h
 conv=>whnf
 exact ⟨rfl,rfl⟩
 obtain ⟨h,b88d⟩:=cfd b88 h
 conv=>whnf
 refine Arith.mk (by show inR _;unfold inR;omega) ?_
 conv=>whnf
 cases h
 exact Nxt.mk _ ho85 (eA [])
 obtain ⟨h,b86d⟩:=cfd b86 h
 conv=>whnf
 cases h
 have ho85:_=_:=ho85
 cases ho85
 exact JoinS.mk' _ rfl (eA [])
 rintro ⟨⟩ rfl hp
 replace h:=sum_inl hk66
 conv=>whnf
 cases h
 conv=>whnf
 exact ⟨rfl,rfl⟩
theorem sp_R10_Same (a_:List (List Int)) (b_:List (List Int)) (r:Bool) (h:Ok (nL (cL cI) a_)→Ok (nL (cL cI) b_)→R10_Same a_ b_=some r):Sp Try.prog 14 [.im (nL (cL cI) a_),.im (nL (cL cI) b_)] (.im (nB r)):=by
 refine sp_of rfl [] rfl rfl rfl (Nat.le_of_ble_eq_true rfl) rfl fun hk=>?_
 replace h:=h hk.1 hk.2.1
 have z1:lZ a_:=ok_len hk.1
 have z2:lZ b_:=ok_len hk.2.1
 unfold R10_Same at h
 conv=>whnf
 refine Nf.mk (List.length a_) len_map ?_
 conv=>whnf
 refine Nf.mk (List.length b_) len_map ?_
 conv=>whnf
 refine Both.mk ?_ ?_<;>intro b51
 obtain ⟨h,b51d⟩:=ctd b51 h
 conv=>whnf
 cases h
 conv=>whnf
 exact ⟨rfl,rfl⟩
 obtain ⟨h,b51d⟩:=cfd b51 h
 conv=>whnf
 obtain ⟨oc,hc,hk52⟩:=bind_some h
 clear h
 have h:=hc
 clear hc
 refine Cut.mkS oc (Y:=Unit) (fun (_:Unit)=>mkSt [] [] []) (fun (_:Unit)=>True) (by rintro ⟨⟩;exact (hT)) ?_ ?_
 conv=>whnf
 refine Loops.iter (fun (s:Nat)=>R10_Same.s14 a_ b_ s) (fun i301=>mkSt [(0,.im (nL (cL cI) a_)),(1,.im (nL (cL cI) b_)),(5,.im (nI (↑i301:Int)))] [] []) (fun i301=>lZ a_∧lZ b_∧True) h (eA []) (by rintro i301;exact ((Holds.avl 0 rfl).and ((Holds.avl 1 rfl).and (hT)))) ?_
 clear h
 rintro k i301 o hp h ho363
 replace h:R10_Same.s14 a_ b_ i301=some o:=h
 unfold R10_Same.s14 at h
 obtain ⟨z425,z426,_⟩:=hp
 conv=>whnf
 refine Nf.mk (List.length a_) len_map ?_
 conv=>whnf
 refine Both.mk ?_ ?_<;>intro b364
 obtain ⟨h,b364d⟩:=ctd b364 h
 conv=>whnf
 obtain ⟨e365,he365,h⟩:=idxn_some h
 refine ⟨_,⟨(by omega),map_at he365,rfl⟩,?_⟩
 conv=>whnf
 refine Nf.mk (List.length e365) len_map ?_
 conv=>whnf
 obtain ⟨e366,he366,h⟩:=idxn_some h
 refine ⟨_,⟨(by omega),map_at he366,rfl⟩,?_⟩
 conv=>whnf
 refine Nf.mk (List.length e366) len_map ?_
 conv=>whnf
 refine Both.mk ?_ ?_<;>intro b367
 obtain ⟨h,b367d⟩:=ctd b367 h
 conv=>whnf
 cases h
 have ho363:_=_:=ho363
 cases ho363
 replace h:some _=some _:=hk52
 cases h
 conv=>whnf
 exact ⟨rfl,rfl⟩
 obtain ⟨h,b367d⟩:=cfd b367 h
 conv=>whnf
 obtain ⟨oc,hc,hk368⟩:=bind_some h
 clear h
 have h:=hc
 clear hc
 refine Cut.mkS oc (Y:=Unit) (fun (_:Unit)=>mkSt [(0,.im (nL (cL cI) a_)),(1,.im (nL (cL cI) b_)),(5,.im (nI (↑i301:Int)))] [] []) (fun (_:Unit)=>lZ a_∧lZ b_∧True) (by rintro ⟨⟩;exact ((Holds.avl 0 rfl).and ((Holds.avl 1 rfl).and (hT)))) ?_ ?_
 conv=>whnf
 refine Loops.iter (fun (s:Nat)=>R10_Same.s13 a_ b_ i301 s) (fun k403=>mkSt [(0,.im (nL (cL cI) a_)),(1,.im (nL (cL cI) b_)),(5,.im (nI (↑i301:Int))),(6,.im (nI (↑k403:Int)))] [] []) (fun k403=>lZ a_∧lZ b_∧True) h (eA []) (by rintro k403;exact ((Holds.avl 0 rfl).and ((Holds.avl 1 rfl).and (hT)))) ?_
 clear h
 rintro k k403 o hp h ho412
 replace h:R10_Same.s13 a_ b_ i301 k403=some o:=h
 unfold R10_Same.s13 at h
 obtain ⟨z421,z422,_⟩:=hp
 conv=>whnf
 obtain ⟨e413,he413,h⟩:=idxn_some h
 refine ⟨_,⟨(by omega),map_at he413,rfl⟩,?_⟩
 conv=>whnf
 refine Nf.mk (List.length e413) len_map ?_
 conv=>whnf
 refine Both.mk ?_ ?_<;>intro b414
 obtain ⟨h,b414d⟩:=ctd b414 h
 conv=>whnf
 obtain ⟨e415,he415,h⟩:=idxn_some h
 refine ⟨_,⟨(by omega),map_at he415,rfl⟩,?_⟩
 conv=>whnf
 obtain ⟨e416,he416,h⟩:=idxn_some h
 refine ⟨_,⟨(by omega),map_at he416,rfl⟩,?_⟩
 conv=>whnf
 obtain ⟨e417,he417,h⟩:=idxn_some h
 refine ⟨_,⟨(by omega),map_at he417,rfl⟩,?_⟩
 conv=>whnf
 obtain ⟨e418,he418,h⟩:=idxn_some h
 refine ⟨_,⟨(by omega),map_at he418,rfl⟩,?_⟩
 conv=>whnf
 refine Both.mk ?_ ?_<;>intro b419
 obtain ⟨h,b419d⟩:=ctd b419 h
 conv=>whnf
 cases h
 have ho412:_=_:=ho412
 cases ho412
 replace h:some _=some _:=hk368
 cases h
 have ho363:_=_:=ho363
 cases ho363
 replace h:some _=some _:=hk52
 cases h
 conv=>whnf
 exact ⟨rfl,rfl⟩
 obtain ⟨h,b419d⟩:=cfd b419 h
 conv=>whnf
 obtain ⟨c420,h⟩:=chk_some h
 refine Arith.mk c420 ?_
 conv=>whnf
 cases h
 exact Nxt.mk _ ho412 (eA [])
 obtain ⟨h,b414d⟩:=cfd b414 h
 conv=>whnf
 cases h
 have ho412:_=_:=ho412
 cases ho412
 exact JoinS.mk' _ rfl (eA [])
 rintro ⟨⟩ rfl hp
 replace h:=sum_inl hk368
 obtain ⟨z423,z424,_⟩:=hp
 conv=>whnf
 refine Arith.mk (by show inR _;unfold inR;omega) ?_
 conv=>whnf
 cases h
 exact Nxt.mk _ ho363 (eA [])
 obtain ⟨h,b364d⟩:=cfd b364 h
 conv=>whnf
 cases h
 have ho363:_=_:=ho363
 cases ho363
 exact JoinS.mk' _ rfl (eA [])
 rintro ⟨⟩ rfl hp
 replace h:=sum_inl hk52
 conv=>whnf
 cases h
 conv=>whnf
 exact ⟨rfl,rfl⟩
theorem sp_L08_Great (m_:T_api_Mealy) (r:Bool) (h:Ok (.agg (c_api_Mealy m_))→L08_Great m_=some r):Sp Try.prog 20 [.im (.agg (c_api_Mealy m_))] (.im (nB r)):=by
 refine sp_of rfl [700001] rfl rfl rfl (Nat.le_of_ble_eq_true rfl) rfl fun hk=>?_
 replace h:=h hk.1
 have z1:lZ m_.Next:=ok_len (Ok.agg_at hk.1 2 rfl)
 have z2:lZ m_.Out:=ok_len (Ok.agg_at hk.1 3 rfl)
 unfold L08_Great at h
 conv=>whnf
 obtain ⟨y55,hc,hk52⟩:=bind_some h
 clear h
 have h:=hc
 clear hc
 refine Cut.mk (mkSt [(1,.im (.ref (c_api_Mealy m_))),(19,.im (nB y55))] [] []) (True) (hT) ?_ (fun hp=>?_)
 conv=>whnf
 refine Nf.mk (List.length m_.Next) len_map ?_
 conv=>whnf
 refine Both.mk ?_ ?_<;>intro b56
 replace b56:=beq_ff b56
 obtain ⟨h,b56d⟩:=cfd b56 h
 conv=>whnf
 iterate 2 (refine Both.yes (ff_beq b56) ?_;(conv=>whnf))
 refine Nf.mk (List.length m_.Out) len_map ?_
 conv=>whnf
 refine Both.yes (ff_beq b56) ?_
 conv=>whnf
 refine Both.no b56 ?_
 conv=>whnf
 refine Both.mk ?_ ?_<;>intro b57
 replace b57:=beq_ff b57
 obtain ⟨h,b57d⟩:=cfd b57 h
 conv=>whnf
 iterate 2 (refine Both.yes (ff_beq b57) ?_;(conv=>whnf))
 refine Both.no b57 ?_
 conv=>whnf
 cases h
 exact Join.mk (eA [])
 replace b57:=beq_ft b57
 obtain ⟨h,b57d⟩:=ctd b57 h
 conv=>whnf
 iterate 2 (refine Both.no (tf_beq b57) ?_;(conv=>whnf))
 refine Both.yes b57 ?_
 conv=>whnf
 cases h
 exact Join.mk (eA [])
 replace b56:=beq_ft b56
 obtain ⟨h,b56d⟩:=ctd b56 h
 conv=>whnf
 iterate 3 (refine Both.no (tf_beq b56) ?_;(conv=>whnf))
 refine Both.yes b56 ?_
 conv=>whnf
 iterate 3 (refine Both.no rfl ?_;(conv=>whnf))
 refine Both.yes rfl ?_
 conv=>whnf
 cases h
 exact Join.mk (eA [])
 replace h:=hk52
 conv=>whnf
 refine Both.mk ?_ ?_<;>intro b58
 replace h:=cond_t b58 h
 conv=>whnf
 cases h
 conv=>whnf
 exact ⟨rfl,rfl⟩
 replace h:=cond_f b58 h
 conv=>whnf
 refine Nf.mk (List.length m_.Next) len_map ?_
 conv=>whnf
 obtain ⟨oc,hc,hk59⟩:=bind_some h
 clear h
 have h:=hc
 clear hc
 refine Cut.mkS oc (Y:=Unit) (fun (_:Unit)=>mkSt [(1,.im (.ref (c_api_Mealy m_)))] [] []) (fun (_:Unit)=>True) (by rintro ⟨⟩;exact (hT)) ?_ ?_
 conv=>whnf
 refine Loops.iter (fun (s:Nat)=>L08_Great.s2 m_ s) (fun y74=>mkSt [(1,.im (.ref (c_api_Mealy m_))),(22,.im (nI (↑(List.length m_.Next):Int))),(23,.im (nI (↑y74:Int)))] [] []) (fun y74=>True) h (eA []) (by rintro y74;exact (hT)) ?_
 clear h
 rintro k y74 o hp h ho78
 replace h:L08_Great.s2 m_ y74=some o:=h
 unfold L08_Great.s2 at h
 conv=>whnf
 refine Both.mk ?_ ?_<;>intro b79
 obtain ⟨h,b79d⟩:=ctd b79 h
 conv=>whnf
 obtain ⟨e80,he80,h⟩:=idxn_some h
 refine ⟨_,⟨(by omega),map_at he80,rfl⟩,?_⟩
 conv=>whnf
 refine Nf.mk (List.length e80) len_map ?_
 conv=>whnf
 refine Both.mk ?_ ?_<;>intro b81
 obtain ⟨h,b81d⟩:=ctd b81 h
 conv=>whnf
 cases h
 have ho78:_=_:=ho78
 cases ho78
 replace h:some _=some _:=hk59
 cases h
 conv=>whnf
 exact ⟨rfl,rfl⟩
 obtain ⟨h,b81d⟩:=cfd b81 h
 conv=>whnf
 refine Arith.mk (by show inR _;unfold inR;omega) ?_
 conv=>whnf
 cases h
 exact Nxt.mk _ ho78 (eA [])
 obtain ⟨h,b79d⟩:=cfd b79 h
 conv=>whnf
 cases h
 have ho78:_=_:=ho78
 cases ho78
 exact JoinS.mk' _ rfl (eA [])
 rintro ⟨⟩ rfl hp
 replace h:=sum_inl hk59
 conv=>whnf
 refine Nf.mk (List.length m_.Out) len_map ?_
 conv=>whnf
 obtain ⟨oc,hc,hk82⟩:=bind_some h
 clear h
 have h:=hc
 clear hc
 refine Cut.mkS oc (Y:=Unit) (fun (_:Unit)=>mkSt [] [] []) (fun (_:Unit)=>True) (by rintro ⟨⟩;exact (hT)) ?_ ?_
 conv=>whnf
 refine Loops.iter (fun (s:Nat)=>L08_Great.s4 m_ s) (fun y97=>mkSt [(1,.im (.ref (c_api_Mealy m_))),(36,.im (nI (↑(List.length m_.Out):Int))),(37,.im (nI (↑y97:Int)))] [] []) (fun y97=>True) h (eA []) (by rintro y97;exact (hT)) ?_
 clear h
 rintro k y97 o hp h ho101
 replace h:L08_Great.s4 m_ y97=some o:=h
 unfold L08_Great.s4 at h
 conv=>whnf
 refine Both.mk ?_ ?_<;>intro b102
 obtain ⟨h,b102d⟩:=ctd b102 h
 conv=>whnf
 obtain ⟨e103,he103,h⟩:=idxn_some h
 refine ⟨_,⟨(by omega),map_at he103,rfl⟩,?_⟩
 conv=>whnf
 refine Nf.mk (List.length e103) len_map ?_
 conv=>whnf
 refine Both.mk ?_ ?_<;>intro b104
 obtain ⟨h,b104d⟩:=ctd b104 h
 conv=>whnf
 cases h
 have ho101:_=_:=ho101
 cases ho101
 replace h:some _=some _:=hk82
 cases h
 conv=>whnf
 exact ⟨rfl,rfl⟩
 obtain ⟨h,b104d⟩:=cfd b104 h
 conv=>whnf
 refine Arith.mk (by show inR _;unfold inR;omega) ?_
 conv=>whnf
 cases h
 exact Nxt.mk _ ho101 (eA [])
 obtain ⟨h,b102d⟩:=cfd b102 h
 conv=>whnf
 cases h
 have ho101:_=_:=ho101
 cases ho101
 exact JoinS.mk' _ rfl (eA [])
 rintro ⟨⟩ rfl hp
 replace h:=sum_inl hk82
 conv=>whnf
 cases h
 conv=>whnf
 exact ⟨rfl,rfl⟩
theorem sp_L11_Small (m_:T_api_Mealy) (r:Bool) (h:Ok (.agg (c_api_Mealy m_))→L11_Small m_=some r):Sp Try.prog 10 [.im (.agg (c_api_Mealy m_))] (.im (nB r)):=by
 refine sp_of rfl [700001] rfl rfl rfl (Nat.le_of_ble_eq_true rfl) rfl fun hk=>?_
 replace h:=h hk.1
 have z1:lZ m_.Next:=ok_len (Ok.agg_at hk.1 2 rfl)
 have z2:lZ m_.Out:=ok_len (Ok.agg_at hk.1 3 rfl)
 unfold L11_Small at h
 conv=>whnf
 obtain ⟨y56,hc,hk52⟩:=bind_some h
 clear h
 have h:=hc
 clear hc
 refine Cut.mk (mkSt [(2,.im (nB y56))] [] []) (True) (hT) ?_ (fun hp=>?_)
 conv=>whnf
 obtain ⟨c57,hc57,h⟩:=bind_some h
 refine ⟨_,(sp_L08_Great m_ c57 (fun _=>hc57)),?_⟩
 conv=>whnf
 refine Both.mk ?_ ?_<;>intro b58
 replace b58:=beq_tt b58
 replace h:=cond_t b58 h
 conv=>whnf
 iterate 2 (refine Both.yes (tt_beq b58) ?_;(conv=>whnf))
 refine Nf.mk (List.length m_.Next) len_map ?_
 conv=>whnf
 refine Both.yes (tt_beq b58) ?_
 conv=>whnf
 refine Both.yes b58 ?_
 conv=>whnf
 refine Both.mk ?_ ?_<;>intro b59
 replace b59:=beq_tt b59
 obtain ⟨h,b59d⟩:=ctd b59 h
 conv=>whnf
 iterate 2 (refine Both.yes (tt_beq b59) ?_;(conv=>whnf))
 refine Both.yes b59 ?_
 conv=>whnf
 cases h
 exact Join.mk (eA [])
 replace b59:=beq_tf b59
 obtain ⟨h,b59d⟩:=cfd b59 h
 conv=>whnf
 iterate 2 (refine Both.no (ft_beq b59) ?_;(conv=>whnf))
 refine Both.no b59 ?_
 conv=>whnf
 cases h
 exact Join.mk (eA [])
 replace b58:=beq_tf b58
 replace h:=cond_f b58 h
 conv=>whnf
 iterate 3 (refine Both.no (ft_beq b58) ?_;(conv=>whnf))
 refine Both.no b58 ?_
 conv=>whnf
 iterate 4 (refine Both.no rfl ?_;(conv=>whnf))
 cases h
 exact Join.mk (eA [])
 replace h:=hk52
 conv=>whnf
 cases h
 conv=>whnf
 exact ⟨rfl,rfl⟩
theorem sp_hsuite_most (ids_:List (List (List Int))) (r:Int) (h:Ok (nL (cL (cL cI)) ids_)→hsuite_most ids_=some r):Sp Try.prog 51 [.im (nL (cL (cL cI)) ids_)] (.im (nI r)):=by
 refine sp_of rfl [] rfl rfl rfl (Nat.le_of_ble_eq_true rfl) rfl fun hk=>?_
 replace h:=h hk.1
 have z1:lZ ids_:=ok_len hk.1
 unfold hsuite_most at h
 conv=>whnf
 refine Nf.mk (List.length ids_) len_map ?_
 conv=>whnf
 obtain ⟨n62,hc,hk51⟩:=bind_some h
 clear h
 have h:=hc
 clear hc
 refine Cut.mk (mkSt [(3,.im (nI n62))] [] []) (True) (hT) ?_ (fun hp=>?_)
 conv=>whnf
 refine Loops.iter (fun (s:Int×Nat)=>hsuite_most.s2 ids_ s.1 s.2) (fun (n65,y66)=>mkSt [(3,.im (nI n65)),(6,.im (nL (cL (cL cI)) ids_)),(7,.im (nI (↑(List.length ids_):Int))),(8,.im (nI (↑y66:Int)))] [] []) (fun (n65,y66)=>lZ ids_∧True) h (eA []) (by rintro ⟨n65,y66⟩;exact ((Holds.avl 6 rfl).and (hT))) ?_
 clear h
 rintro k ⟨n65,y66⟩ o hp h ho69
 replace h:hsuite_most.s2 ids_ n65 y66=some o:=h
 unfold hsuite_most.s2 at h
 obtain ⟨z72,_⟩:=hp
 conv=>whnf
 refine Both.mk ?_ ?_<;>intro b70
 obtain ⟨h,b70d⟩:=ctd b70 h
 conv=>whnf
 obtain ⟨e71,he71,h⟩:=idxn_some h
 refine ⟨_,⟨(by omega),map_at he71,rfl⟩,?_⟩
 conv=>whnf
 refine Nf.mk (List.length e71) len_map ?_
 conv=>whnf
 refine Arith.mk (by show inR _;unfold inR;omega) ?_
 conv=>whnf
 cases h
 exact Nxt.mk _ ho69 (eA [])
 obtain ⟨h,b70d⟩:=cfd b70 h
 conv=>whnf
 cases h
 have ho69:_=_:=ho69
 cases ho69
 exact Join.mk (eA [])
 replace h:=hk51
 conv=>whnf
 cases h
 conv=>whnf
 exact ⟨rfl,rfl⟩
theorem sp_wordset_ordered_1 (a_:List Int) (b_:List Int) (p2_:(List Int)→(List Int)→Option Int) (f2_:FuncId) (hf2:∀ x0 x1 r,p2_ x0 x1=some r→Sp Try.prog f2_ [.im (nL cI x0),.im (nL cI x1)] (.im (nI r))) (r:Bool) (h:Ok (nL cI a_)→Ok (nL cI b_)→Ok (.ref [.fn f2_ []])→wordset_ordered_1 a_ b_ p2_=some r):Sp Try.prog 82 [.im (nL cI a_),.im (nL cI b_),.im (.ref [.fn f2_ []])] (.im (nB r)):=by
 refine sp_of rfl [] rfl rfl rfl (Nat.le_of_ble_eq_true rfl) rfl fun hk=>?_
 replace h:=h hk.1 hk.2.1 hk.2.2.1
 have z1:lZ a_:=ok_len hk.1
 have z2:lZ b_:=ok_len hk.2.1
 unfold wordset_ordered_1 at h
 conv=>whnf
 obtain ⟨c51,hc51,h⟩:=bind_some h
 refine ⟨_,hf2 a_ b_ c51 hc51,?_⟩
 conv=>whnf
 cases h
 conv=>whnf
 exact ⟨rfl,rfl⟩
theorem sp_slices_CompactFunc_SSint_Sint_n1 (s_:List (List Int)) (eq_:(List Int)→(List Int)→Option Bool) (f1_:FuncId) (k1_0:IV) (hk1_0:nz k1_0=k1_0) (hf1:∀ x0 x1 r,eq_ x0 x1=some r→Sp Try.prog f1_ [.im (nL cI x0),.im (nL cI x1),.im k1_0] (.im (nB r))) (r:List (List Int)) (h:OkL (List.map (cL cI) s_)→Ok (.fn f1_ [k1_0])→slices_CompactFunc_SSint_Sint_n1 s_ eq_=some r):Sp Try.prog 81 [.row 26 1 (List.map (cL cI) s_),.im (.fn f1_ [k1_0])] (.row 26 1 (List.map (cL cI) r)):=by
 refine sp_of rfl [] rfl rfl rfl (Nat.le_of_ble_eq_true rfl) rfl fun hk=>?_
 replace h:=h hk.1 hk.2.1
 have z1:lZ s_:=okl_len hk.1
 unfold slices_CompactFunc_SSint_Sint_n1 at h
 conv=>whnf
 refine Side.mk rfl ?_
 conv=>whnf
 refine Nf.mk (List.length s_) len_map ?_
 conv=>whnf
 refine Both.mk ?_ ?_<;>intro b51
 obtain ⟨h,b51d⟩:=ctd b51 h
 conv=>whnf
 cases h
 conv=>whnf
 exact Side.mk ⟨rfl,trivial⟩ ⟨rfl,rfl⟩
 obtain ⟨h,b51d⟩:=cfd b51 h
 conv=>whnf
 obtain ⟨oc,hc,hk52⟩:=bind_some h
 clear h
 have h:=hc
 clear hc
 refine Cut.mkS oc (Y:=Unit) (fun (_:Unit)=>mkSt [(0,.osl 66 1)] [(66,.row 26 1 (List.map (cL cI) s_))] []) (fun (_:Unit)=>lZ s_∧True) (by rintro ⟨⟩;exact ((Holds.kdl 66 rfl).and (hT))) ?_ ?_
 conv=>whnf
 refine Loops.iter (fun (s:Nat)=>slices_CompactFunc_SSint_Sint_n1.s20 s_ eq_ s) (fun k356=>mkSt [(0,.osl 66 1),(1,.im (.fn f1_ [k1_0])),(5,.im (nI (↑k356:Int)))] [(66,.row 26 1 (List.map (cL cI) s_))] []) (fun k356=>lZ s_∧True) h (eA [(66,some 0)]) (by rintro k356;exact ((Holds.kdl 66 rfl).and (hT))) ?_
 clear h
 rintro k k356 o hp h ho432
 replace h:slices_CompactFunc_SSint_Sint_n1.s20 s_ eq_ k356=some o:=h
 unfold slices_CompactFunc_SSint_Sint_n1.s20 at h
 obtain ⟨z508,_⟩:=hp
 conv=>whnf
 refine Side.mk rfl ?_
 conv=>whnf
 refine Nf.mk (List.length s_) len_map ?_
 conv=>whnf
 refine Both.mk ?_ ?_<;>intro b433
 obtain ⟨h,b433d⟩:=ctd b433 h
 conv=>whnf
 obtain ⟨e434,he434,h⟩:=idxn_some h
 refine Side.mk ⟨(by omega),rfl,map_lt he434⟩ ?_
 conv=>whnf
 refine ⟨_,_,⟨rfl,map_at he434,rfl,rfl⟩,?_⟩
 conv=>whnf
 refine Arith.mk (by show inR _;unfold inR;omega) ?_
 conv=>whnf
 obtain ⟨e435,he435z,he435,h⟩:=idx_some h
 refine Side.mk ⟨he435z,rfl,map_lt he435⟩ ?_
 conv=>whnf
 refine ⟨_,_,⟨rfl,map_at he435,rfl,rfl⟩,?_⟩
 conv=>whnf
 obtain ⟨c436,hc436,h⟩:=bind_some h
 refine ⟨_,Sp.args (hf1 e434 e435 c436 hc436) (by rw [hk1_0];try rfl),?_⟩
 conv=>whnf
 refine Both.mk ?_ ?_<;>intro b437
 replace h:=cond_t b437 h
 conv=>whnf
 obtain ⟨c438,h⟩:=chk_some h
 refine Side.mk ⟨rfl,c438.1,by have hh_:=c438;simp only [List.length_map];omega,by have hh_:=c438;simp only [List.length_map];omega⟩ ?_
 conv=>whnf
 obtain ⟨⟨y471,k472⟩,hc,hk439⟩:=bind_some h
 clear h
 have h:=hc
 clear hc
 refine Cut.mk (mkSt [(0,.osl 66 1),(5,.im (nI (↑k472:Int)))] [(66,.row 26 1 (List.map (cL cI) y471))] []) (lZ y471∧True) ((Holds.kdl 66 rfl).and (hT)) ?_ (fun hp=>?_)
 conv=>whnf
 refine Loops.iter (fun (s:List (List Int)×Nat×Nat)=>slices_CompactFunc_SSint_Sint_n1.s18 eq_ k356 s.1 s.2.1 s.2.2) (fun (y481,k482,y483)=>mkSt [(0,.osl 66 1),(1,.im (.fn f1_ [k1_0])),(5,.im (nI (↑k482:Int))),(6,.osv 66 1 k356 1),(7,.im (nI (↑y483:Int)))] [(66,.row 26 1 (List.map (cL cI) y481))] []) (fun (y481,k482,y483)=>lZ y481∧True) h (Ent.mk [(66,some 66)] rfl ⟨⟨.osl 66 _,rfl,.osl rfl rfl rfl⟩,eI rfl rfl,eI rfl rfl,⟨.osv 66 _ _ _,rfl,.osv rfl rfl rfl⟩,eI rfl rfl,trivial⟩ ⟨.inl ⟨66,rfl,rfl,trivial⟩,trivial⟩ trivial) (by rintro ⟨y481,k482,y483⟩;exact ((Holds.kdl 66 rfl).and (hT))) ?_
 clear h
 rintro k ⟨y481,k482,y483⟩ o hp h ho493
 replace h:slices_CompactFunc_SSint_Sint_n1.s18 eq_ k356 y481 k482 y483=some o:=h
 unfold slices_CompactFunc_SSint_Sint_n1.s18 at h
 obtain ⟨z503,_⟩:=hp
 conv=>whnf
 refine Side.mk rfl ?_
 conv=>whnf
 refine Nf.mk (List.length y481-k356) len_own ?_
 conv=>whnf
 refine Both.mk ?_ ?_<;>intro b494
 obtain ⟨h,b494d⟩:=ctd b494 h
 conv=>whnf
 obtain ⟨e495,he495,h⟩:=idxn_some h
 refine Side.mk ⟨(by omega),rfl,map_lt he495⟩ ?_
 conv=>whnf
 refine Nf.mk (k356+y483) rfl ?_
 conv=>whnf
 refine ⟨_,_,⟨rfl,map_at he495,rfl,rfl⟩,?_⟩
 conv=>whnf
 refine Arith.mk (by show inR _;unfold inR;omega) ?_
 conv=>whnf
 obtain ⟨c497,h⟩:=chk_some h
 obtain ⟨e496,he496,h⟩:=idxn_some h
 refine Side.mk ⟨c497,rfl,map_lt he496⟩ ?_
 conv=>whnf
 refine Nf.mk (k356+(Int.toNat ((↑y483:Int)-1))) rfl ?_
 conv=>whnf
 refine ⟨_,_,⟨rfl,map_at he496,rfl,rfl⟩,?_⟩
 conv=>whnf
 obtain ⟨c498,hc498,h⟩:=bind_some h
 refine ⟨_,Sp.args (hf1 e495 e496 c498 hc498) (by rw [hk1_0];try rfl),?_⟩
 conv=>whnf
 refine Both.mk ?_ ?_<;>intro b499
 replace h:=cond_t b499 h
 conv=>whnf
 obtain ⟨e500,he500,h⟩:=idxn_some h
 refine Side.mk ⟨(by omega),rfl,map_lt he500⟩ ?_
 conv=>whnf
 refine Nf.mk (k356+y483) rfl ?_
 conv=>whnf
 refine ⟨_,_,⟨rfl,map_at he500,rfl,rfl⟩,?_⟩
 conv=>whnf
 obtain ⟨e501,he501,h⟩:=idxn_some h
 refine Side.mk ⟨(by omega),rfl,map_lt he501⟩ ?_
 conv=>whnf
 refine Side.mk ⟨rfl,trivial⟩ ?_
 conv=>whnf
 refine ⟨_,map_at he501,?_⟩
 conv=>whnf
 refine Nf.mk (List.map (cL cI) (List.set y481 k482 e500)) (set_map rfl) ?_
 conv=>whnf
 obtain ⟨c502,h⟩:=chk_some h
 refine Arith.mk c502 ?_
 conv=>whnf
 refine Arith.mk (by show inR _;unfold inR;omega) ?_
 conv=>whnf
 cases h
 exact Nxt.mk _ ho493 (Ent.mk [(66,some 66)] rfl ⟨⟨.osl 66 _,rfl,.osl rfl rfl rfl⟩,eI rfl rfl,eI rfl rfl,⟨.osv 66 _ _ _,rfl,.osv rfl rfl rfl⟩,eI rfl rfl,trivial⟩ ⟨.inl ⟨66,rfl,rfl,trivial⟩,trivial⟩ trivial)
 replace h:=cond_f b499 h
 conv=>whnf
 refine Arith.mk (by show inR _;unfold inR;omega) ?_
 conv=>whnf
 cases h
 exact Nxt.mk _ ho493 (Ent.mk [(66,some 66)] rfl ⟨⟨.osl 66 _,rfl,.osl rfl rfl rfl⟩,eI rfl rfl,eI rfl rfl,⟨.osv 66 _ _ _,rfl,.osv rfl rfl rfl⟩,eI rfl rfl,trivial⟩ ⟨.inl ⟨66,rfl,rfl,trivial⟩,trivial⟩ trivial)
 obtain ⟨h,b494d⟩:=cfd b494 h
 conv=>whnf
 cases h
 have ho493:_=_:=ho493
 cases ho493
 exact Join.mk (eA [(66,some 66)])
 replace h:slices_CompactFunc_SSint_Sint_n1.k19 y471 k472=some _:=hk439
 unfold slices_CompactFunc_SSint_Sint_n1.k19 at h
 obtain ⟨z504,_⟩:=hp
 conv=>whnf
 obtain ⟨c505,h⟩:=chk_some h
 refine Side.mk ⟨rfl,c505.1,by have hh_:=c505;simp only [List.length_map];omega,by have hh_:=c505;simp only [List.length_map];omega⟩ ?_
 conv=>whnf
 obtain ⟨c506,h⟩:=chk_some h
 refine Side.mk ⟨rfl,by have hh_:=c506;simp only [List.length_map];omega⟩ ?_
 conv=>whnf
 refine Nf.mk (List.map (cL cI) (List.take k472 y471++List.replicate (List.length y471-k472) [])) (clr_map (z:=[]) rfl) ?_
 conv=>whnf
 obtain ⟨c507,h⟩:=chk_some h
 refine Side.mk ⟨rfl,c507.1,by have hh_:=c507;simp only [List.length_map];omega,by have hh_:=c507;simp only [List.length_map];omega⟩ ?_
 conv=>whnf
 refine Nf.mk (List.map (cL cI) (List.take k472 (List.take k472 y471++List.replicate (List.length y471-k472) []))) cut_own ?_
 conv=>whnf
 cases h
 have ho432:_=_:=ho432
 cases ho432
 replace h:some _=some _:=hk52
 cases h
 conv=>whnf
 exact Side.mk ⟨rfl,trivial⟩ ⟨rfl,rfl⟩
 replace h:=cond_f b437 h
 conv=>whnf
 refine Arith.mk (by show inR _;unfold inR;omega) ?_
 conv=>whnf
 cases h
 exact Nxt.mk _ ho432 (eA [(66,some 66)])
 obtain ⟨h,b433d⟩:=cfd b433 h
 conv=>whnf
 cases h
 have ho432:_=_:=ho432
 cases ho432
 exact JoinS.mk' _ rfl (eA [(66,some 66)])
 rintro ⟨⟩ rfl hp
 replace h:=sum_inl hk52
 obtain ⟨z509,_⟩:=hp
 conv=>whnf
 cases h
 conv=>whnf
 exact Side.mk ⟨rfl,trivial⟩ ⟨rfl,rfl⟩
theorem sp_wordset_ordered (l_:List (List Int)) (order_:(List Int)→(List Int)→Option Int) (f1_:FuncId) (hf1:∀ x0 x1 r,order_ x0 x1=some r→Sp Try.prog f1_ [.im (nL cI x0),.im (nL cI x1)] (.im (nI r))) (hd1:CmpE Try.prog f1_ (fun x=>nL cI x) order_) (r:List (List Int)) (h:Ok (nL (cL cI) l_)→Ok (.fn f1_ [])→wordset_ordered l_ order_=some r):Sp Try.prog 59 [.im (nL (cL cI) l_),.im (.fn f1_ [])] (.row 26 1 (List.map (cL cI) r)):=by
 refine sp_of rfl [13000,16000,2013000] rfl rfl rfl (Nat.le_of_ble_eq_true rfl) rfl fun hk=>?_
 replace h:=h hk.1 hk.2.1
 have z1:lZ l_:=ok_len hk.1
 unfold wordset_ordered at h
 conv=>whnf
 obtain ⟨c51,hc51,h⟩:=bind_some h
 refine ⟨_,(sp_lib_Clone_words l_ c51 (hc51)),?_⟩
 conv=>whnf
 refine Side.mk rfl ?_
 conv=>whnf
 refine Side.mk ⟨rfl,trivial⟩ ?_
 conv=>whnf
 obtain ⟨c52,hc52,h⟩:=bind_some h
 refine ⟨_,(sp_lib_SortFunc_words c51 order_ f1_ hd1 c52 (hc52)),?_⟩
 conv=>whnf
 refine Side.mk ⟨rfl,rfl,trivial⟩ ?_
 conv=>whnf
 obtain ⟨c53,hc53,h⟩:=bind_some h
 refine ⟨_,(sp_slices_CompactFunc_SSint_Sint_n1 c52 (fun u0 u1=>wordset_ordered_1 u0 u1 order_) 82 (.ref [.fn f1_ []]) rfl (fun u0 u1 r h=>(sp_wordset_ordered_1 u0 u1 order_ f1_ hf1 r (fun _ _ _=>h))) c53 (fun _ _=>hc53)),?_⟩
 conv=>whnf
 refine Side.mk rfl ?_
 conv=>whnf
 refine Nf.mk (List.length c53) len_map ?_
 conv=>whnf
 obtain ⟨y73,hc,hk54⟩:=bind_some h
 clear h
 have h:=hc
 clear hc
 refine Cut.mk (mkSt [(5,.osl 64 1)] [(64,.row 26 1 (List.map (cL cI) y73))] []) (lZ y73∧True) ((Holds.kdl 64 rfl).and (hT)) ?_ (fun hp=>?_)
 conv=>whnf
 refine Loops.iter (fun (s:List (List Int)×Nat)=>wordset_ordered.s2 c53 s.1 s.2) (fun (y78,y79)=>mkSt [(5,.osl 64 1),(16,.osl 64 1),(17,.im (nI (↑(List.length c53):Int))),(18,.im (nI (↑y79:Int)))] [(64,.row 26 1 (List.map (cL cI) y78))] []) (fun (y78,y79)=>lZ y78∧True) h (eA [(64,some 15)]) (by rintro ⟨y78,y79⟩;exact ((Holds.kdl 64 rfl).and (hT))) ?_
 clear h
 rintro k ⟨y78,y79⟩ o hp h ho85
 replace h:wordset_ordered.s2 c53 y78 y79=some o:=h
 unfold wordset_ordered.s2 at h
 obtain ⟨z91,_⟩:=hp
 conv=>whnf
 refine Both.mk ?_ ?_<;>intro b86
 obtain ⟨h,b86d⟩:=ctd b86 h
 conv=>whnf
 obtain ⟨e87,he87,h⟩:=idxn_some h
 refine Side.mk ⟨(by omega),rfl,map_lt he87⟩ ?_
 conv=>whnf
 refine ⟨_,_,⟨rfl,map_at he87,rfl,rfl⟩,?_⟩
 conv=>whnf
 obtain ⟨c88,hc88,h⟩:=bind_some h
 refine ⟨_,(sp_lib_Clone_int e87 c88 (hc88)).im,?_⟩
 conv=>whnf
 obtain ⟨e89,he89,h⟩:=idxn_some h
 refine Side.mk ⟨(by omega),rfl,map_lt he89⟩ ?_
 conv=>whnf
 refine Side.mk ⟨rfl,trivial⟩ ?_
 conv=>whnf
 refine ⟨_,map_at he89,?_⟩
 conv=>whnf
 refine Nf.mk (List.map (cL cI) (List.set y78 y79 c88)) (set_map rfl) ?_
 conv=>whnf
 obtain ⟨c90,h⟩:=chk_some h
 refine Arith.mk c90 ?_
 conv=>whnf
 cases h
 exact Nxt.mk _ ho85 (eA [(64,some 64)])
 obtain ⟨h,b86d⟩:=cfd b86 h
 conv=>whnf
 cases h
 have ho85:_=_:=ho85
 cases ho85
 exact Join.mk (eA [(64,some 64)])
 replace h:=hk54
 obtain ⟨z92,_⟩:=hp
 conv=>whnf
 cases h
 conv=>whnf
 exact Side.mk ⟨rfl,trivial⟩ ⟨rfl,rfl⟩
theorem sp_word_Common (a_:List Int) (b_:List Int) (r:Int) (h:Ok (nL cI a_)→Ok (nL cI b_)→word_Common a_ b_=some r):Sp Try.prog 46 [.im (nL cI a_),.im (nL cI b_)] (.im (nI r)):=by
 refine sp_of rfl [] rfl rfl rfl (Nat.le_of_ble_eq_true rfl) rfl fun hk=>?_
 replace h:=h hk.1 hk.2.1
 have z1:lZ a_:=ok_len hk.1
 have z2:lZ b_:=ok_len hk.2.1
 unfold word_Common at h
 conv=>whnf
 refine Nf.mk (List.length a_) len_map ?_
 conv=>whnf
 refine Nf.mk (List.length b_) len_map ?_
 conv=>whnf
 obtain ⟨oc,hc,hk51⟩:=bind_some h
 clear h
 have h:=hc
 clear hc
 refine Cut.mkS oc (Y:=Unit) (fun (_:Unit)=>mkSt [(0,.im (nL cI a_)),(1,.im (nL cI b_))] [] []) (fun (_:Unit)=>lZ a_∧lZ b_∧True) (by rintro ⟨⟩;exact ((Holds.avl 0 rfl).and ((Holds.avl 1 rfl).and (hT)))) ?_ ?_
 conv=>whnf
 refine Loops.iter (fun (s:Nat)=>word_Common.s2 a_ b_ s) (fun y72=>mkSt [(0,.im (nL cI a_)),(1,.im (nL cI b_)),(10,.im (nI (min (↑(List.length a_):Int) (↑(List.length b_):Int)))),(11,.im (nI (↑y72:Int)))] [] []) (fun y72=>lZ a_∧lZ b_∧True) h (eA []) (by rintro y72;exact ((Holds.avl 0 rfl).and ((Holds.avl 1 rfl).and (hT)))) ?_
 clear h
 rintro k y72 o hp h ho77
 replace h:word_Common.s2 a_ b_ y72=some o:=h
 unfold word_Common.s2 at h
 obtain ⟨z82,z83,_⟩:=hp
 conv=>whnf
 refine Both.mk ?_ ?_<;>intro b78
 obtain ⟨h,b78d⟩:=ctd b78 h
 conv=>whnf
 obtain ⟨e79,he79,h⟩:=idxn_some h
 refine ⟨_,⟨(by omega),map_at he79,rfl⟩,?_⟩
 conv=>whnf
 obtain ⟨e80,he80,h⟩:=idxn_some h
 refine ⟨_,⟨(by omega),map_at he80,rfl⟩,?_⟩
 conv=>whnf
 refine Both.mk ?_ ?_<;>intro b81
 obtain ⟨h,b81d⟩:=ctd b81 h
 conv=>whnf
 cases h
 have ho77:_=_:=ho77
 cases ho77
 replace h:some _=some _:=hk51
 cases h
 conv=>whnf
 exact ⟨rfl,rfl⟩
 obtain ⟨h,b81d⟩:=cfd b81 h
 conv=>whnf
 refine Arith.mk (by show inR _;unfold inR;omega) ?_
 conv=>whnf
 cases h
 exact Nxt.mk _ ho77 (eA [])
 obtain ⟨h,b78d⟩:=cfd b78 h
 conv=>whnf
 cases h
 have ho77:_=_:=ho77
 cases ho77
 exact JoinS.mk' _ rfl (eA [])
 rintro ⟨⟩ rfl hp
 replace h:=sum_inl hk51
 obtain ⟨z84,z85,_⟩:=hp
 conv=>whnf
 refine Nf.mk (List.length a_) len_map ?_
 conv=>whnf
 refine Nf.mk (List.length b_) len_map ?_
 conv=>whnf
 cases h
 conv=>whnf
 exact ⟨rfl,rfl⟩
theorem sp_word_HasPrefix (w_:List Int) (p_:List Int) (r:Bool) (h:Ok (nL cI w_)→Ok (nL cI p_)→word_HasPrefix w_ p_=some r):Sp Try.prog 61 [.im (nL cI w_),.im (nL cI p_)] (.im (nB r)):=by
 refine sp_of rfl [] rfl rfl rfl (Nat.le_of_ble_eq_true rfl) rfl fun hk=>?_
 replace h:=h hk.1 hk.2.1
 have z1:lZ w_:=ok_len hk.1
 have z2:lZ p_:=ok_len hk.2.1
 unfold word_HasPrefix at h
 conv=>whnf
 obtain ⟨c51,hc51,h⟩:=bind_some h
 refine ⟨_,(sp_word_Common w_ p_ c51 (fun _ _=>hc51)),?_⟩
 conv=>whnf
 refine Nf.mk (List.length p_) len_map ?_
 conv=>whnf
 cases h
 conv=>whnf
 exact ⟨rfl,rfl⟩
theorem sp_cmp_isNaN_int (x_:Int) (r:Bool) (h:Ok (nI x_)→cmp_isNaN_int x_=some r):Sp Try.prog 98 [.im (nI x_)] (.im (nB r)):=by
 refine sp_of rfl [] rfl rfl rfl (Nat.le_of_ble_eq_true rfl) rfl fun hk=>?_
 replace h:=h hk.1
 unfold cmp_isNaN_int at h
 conv=>whnf
 cases h
 conv=>whnf
 exact ⟨rfl,rfl⟩
theorem sp_cmp_Compare_int (x_:Int) (y_:Int) (r:Int) (h:Ok (nI x_)→Ok (nI y_)→cmp_Compare_int x_ y_=some r):Sp Try.prog 87 [.im (nI x_),.im (nI y_)] (.im (nI r)):=by
 refine sp_of rfl [] rfl rfl rfl (Nat.le_of_ble_eq_true rfl) rfl fun hk=>?_
 replace h:=h hk.1 hk.2.1
 unfold cmp_Compare_int at h
 conv=>whnf
 obtain ⟨c51,hc51,h⟩:=bind_some h
 refine ⟨_,(sp_cmp_isNaN_int x_ c51 (fun _=>hc51)),?_⟩
 conv=>whnf
 obtain ⟨c52,hc52,h⟩:=bind_some h
 refine ⟨_,(sp_cmp_isNaN_int y_ c52 (fun _=>hc52)),?_⟩
 conv=>whnf
 refine Both.mk ?_ ?_<;>intro b53
 replace h:=cond_t b53 h
 conv=>whnf
 refine Both.mk ?_ ?_<;>intro b54
 replace h:=cond_t b54 h
 conv=>whnf
 cases h
 conv=>whnf
 exact ⟨rfl,rfl⟩
 replace h:=cond_f b54 h
 conv=>whnf
 cases h
 conv=>whnf
 exact ⟨rfl,rfl⟩
 replace h:=cond_f b53 h
 conv=>whnf
 refine Both.mk ?_ ?_<;>intro b55
 replace h:=cond_t b55 h
 conv=>whnf
 cases h
 conv=>whnf
 exact ⟨rfl,rfl⟩
 replace h:=cond_f b55 h
 conv=>whnf
 refine Both.mk ?_ ?_<;>intro b56
 obtain ⟨h,b56d⟩:=ctd b56 h
 conv=>whnf
 cases h
 conv=>whnf
 exact ⟨rfl,rfl⟩
 obtain ⟨h,b56d⟩:=cfd b56 h
 conv=>whnf
 refine Both.mk ?_ ?_<;>intro b57
 obtain ⟨h,b57d⟩:=ctd b57 h
 conv=>whnf
 cases h
 conv=>whnf
 exact ⟨rfl,rfl⟩
 obtain ⟨h,b57d⟩:=cfd b57 h
 conv=>whnf
 cases h
 conv=>whnf
 exact ⟨rfl,rfl⟩
theorem sp_slices_Compare_Sint_int (s1_:List Int) (s2_:List Int) (r:Int) (h:Ok (nL cI s1_)→Ok (nL cI s2_)→slices_Compare_Sint_int s1_ s2_=some r):Sp Try.prog 83 [.im (nL cI s1_),.im (nL cI s2_)] (.im (nI r)):=by
 refine sp_of rfl [] rfl rfl rfl (Nat.le_of_ble_eq_true rfl) rfl fun hk=>?_
 replace h:=h hk.1 hk.2.1
 have z1:lZ s1_:=ok_len hk.1
 have z2:lZ s2_:=ok_len hk.2.1
 unfold slices_Compare_Sint_int at h
 conv=>whnf
 refine Nf.mk (List.length s1_) len_map ?_
 conv=>whnf
 obtain ⟨oc,hc,hk51⟩:=bind_some h
 clear h
 have h:=hc
 clear hc
 refine Cut.mkS oc (Y:=Unit) (fun (_:Unit)=>mkSt [(0,.im (nL cI s1_)),(1,.im (nL cI s2_))] [] []) (fun (_:Unit)=>lZ s1_∧lZ s2_∧True) (by rintro ⟨⟩;exact ((Holds.avl 0 rfl).and ((Holds.avl 1 rfl).and (hT)))) ?_ ?_
 conv=>whnf
 refine Loops.iter (fun (s:Nat)=>slices_Compare_Sint_int.s2 s1_ s2_ s) (fun y80=>mkSt [(0,.im (nL cI s1_)),(1,.im (nL cI s2_)),(9,.im (nL cI s1_)),(10,.im (nI (↑(List.length s1_):Int))),(11,.im (nI (↑y80:Int)))] [] []) (fun y80=>lZ s1_∧lZ s2_∧True) h (eA []) (by rintro y80;exact ((Holds.avl 0 rfl).and ((Holds.avl 1 rfl).and (hT)))) ?_
 clear h
 rintro k y80 o hp h ho87
 replace h:slices_Compare_Sint_int.s2 s1_ s2_ y80=some o:=h
 unfold slices_Compare_Sint_int.s2 at h
 obtain ⟨z94,z95,_⟩:=hp
 conv=>whnf
 refine Both.mk ?_ ?_<;>intro b88
 obtain ⟨h,b88d⟩:=ctd b88 h
 conv=>whnf
 obtain ⟨e89,he89,h⟩:=idxn_some h
 refine ⟨_,⟨(by omega),map_at he89,rfl⟩,?_⟩
 conv=>whnf
 refine Nf.mk (List.length s2_) len_map ?_
 conv=>whnf
 refine Both.mk ?_ ?_<;>intro b90
 obtain ⟨h,b90d⟩:=ctd b90 h
 conv=>whnf
 cases h
 have ho87:_=_:=ho87
 cases ho87
 replace h:some _=some _:=hk51
 cases h
 conv=>whnf
 exact ⟨rfl,rfl⟩
 obtain ⟨h,b90d⟩:=cfd b90 h
 conv=>whnf
 obtain ⟨e91,he91,h⟩:=idxn_some h
 refine ⟨_,⟨(by omega),map_at he91,rfl⟩,?_⟩
 conv=>whnf
 obtain ⟨c92,hc92,h⟩:=bind_some h
 refine ⟨_,(sp_cmp_Compare_int e89 e91 c92 (fun _ _=>hc92)),?_⟩
 conv=>whnf
 refine Both.mk ?_ ?_<;>intro b93
 obtain ⟨h,b93d⟩:=ctd b93 h
 conv=>whnf
 cases h
 have ho87:_=_:=ho87
 cases ho87
 replace h:some _=some _:=hk51
 cases h
 conv=>whnf
 exact ⟨rfl,rfl⟩
 obtain ⟨h,b93d⟩:=cfd b93 h
 conv=>whnf
 refine Arith.mk (by show inR _;unfold inR;omega) ?_
 conv=>whnf
 cases h
 exact Nxt.mk _ ho87 (eA [])
 obtain ⟨h,b88d⟩:=cfd b88 h
 conv=>whnf
 cases h
 have ho87:_=_:=ho87
 cases ho87
 exact JoinS.mk' _ rfl (eA [])
 rintro ⟨⟩ rfl hp
 replace h:=sum_inl hk51
 obtain ⟨z96,z97,_⟩:=hp
 conv=>whnf
 refine Nf.mk (List.length s1_) len_map ?_
 conv=>whnf
 refine Nf.mk (List.length s2_) len_map ?_
 conv=>whnf
 refine Both.mk ?_ ?_<;>intro b98
 obtain ⟨h,b98d⟩:=ctd b98 h
 conv=>whnf
 cases h
 conv=>whnf
 exact ⟨rfl,rfl⟩
 obtain ⟨h,b98d⟩:=cfd b98 h
 conv=>whnf
 cases h
 conv=>whnf
 exact ⟨rfl,rfl⟩
theorem sp_cmp_Or_int (vals_:List Int) (r:Int) (h:Ok (nL cI vals_)→cmp_Or_int vals_=some r):Sp Try.prog 86 [.im (nL cI vals_)] (.im (nI r)):=by
 refine sp_of rfl [] rfl rfl rfl (Nat.le_of_ble_eq_true rfl) rfl fun hk=>?_
 replace h:=h hk.1
 have z1:lZ vals_:=ok_len hk.1
 unfold cmp_Or_int at h
 conv=>whnf
 refine Nf.mk (List.length vals_) len_map ?_
 conv=>whnf
 obtain ⟨oc,hc,hk51⟩:=bind_some h
 clear h
 have h:=hc
 clear hc
 refine Cut.mkS oc (Y:=Unit) (fun (_:Unit)=>mkSt [(3,.im (nI 0))] [] []) (fun (_:Unit)=>True) (by rintro ⟨⟩;exact (hT)) ?_ ?_
 conv=>whnf
 refine Loops.iter (fun (s:Nat)=>cmp_Or_int.s2 vals_ s) (fun y67=>mkSt [(3,.im (nI 0)),(6,.im (nL cI vals_)),(7,.im (nI (↑(List.length vals_):Int))),(8,.im (nI (↑y67:Int)))] [] []) (fun y67=>lZ vals_∧True) h (eA []) (by rintro y67;exact ((Holds.avl 6 rfl).and (hT))) ?_
 clear h
 rintro k y67 o hp h ho71
 replace h:cmp_Or_int.s2 vals_ y67=some o:=h
 unfold cmp_Or_int.s2 at h
 obtain ⟨z75,_⟩:=hp
 conv=>whnf
 refine Both.mk ?_ ?_<;>intro b72
 obtain ⟨h,b72d⟩:=ctd b72 h
 conv=>whnf
 obtain ⟨e73,he73,h⟩:=idxn_some h
 refine ⟨_,⟨(by omega),map_at he73,rfl⟩,?_⟩
 conv=>whnf
 refine Both.mk ?_ ?_<;>intro b74
 obtain ⟨h,b74d⟩:=ctd b74 h
 conv=>whnf
 cases h
 have ho71:_=_:=ho71
 cases ho71
 replace h:some _=some _:=hk51
 cases h
 conv=>whnf
 exact ⟨rfl,rfl⟩
 obtain ⟨h,b74d⟩:=cfd b74 h
 conv=>whnf
 refine Arith.mk (by show inR _;unfold inR;omega) ?_
 conv=>whnf
 cases h
 exact Nxt.mk _ ho71 (eA [])
 obtain ⟨h,b72d⟩:=cfd b72 h
 conv=>whnf
 cases h
 have ho71:_=_:=ho71
 cases ho71
 exact JoinS.mk' _ rfl (eA [])
 rintro ⟨⟩ rfl hp
 replace h:=sum_inl hk51
 conv=>whnf
 cases h
 conv=>whnf
 exact ⟨rfl,rfl⟩
theorem sp_word_Compare (a_:List Int) (b_:List Int) (r:Int) (h:Ok (nL cI a_)→Ok (nL cI b_)→word_Compare a_ b_=some r):Sp Try.prog 66 [.im (nL cI a_),.im (nL cI b_)] (.im (nI r)):=by
 refine sp_of rfl [] rfl rfl rfl (Nat.le_of_ble_eq_true rfl) rfl fun hk=>?_
 replace h:=h hk.1 hk.2.1
 have z1:lZ a_:=ok_len hk.1
 have z2:lZ b_:=ok_len hk.2.1
 unfold word_Compare at h
 conv=>whnf
 refine Nf.mk (List.length a_) len_map ?_
 conv=>whnf
 refine Nf.mk (List.length b_) len_map ?_
 conv=>whnf
 obtain ⟨c51,hc51,h⟩:=bind_some h
 refine ⟨_,(sp_cmp_Compare_int (↑(List.length a_):Int) (↑(List.length b_):Int) c51 (fun _ _=>hc51)),?_⟩
 conv=>whnf
 obtain ⟨c52,hc52,h⟩:=bind_some h
 refine ⟨_,(sp_slices_Compare_Sint_int a_ b_ c52 (fun _ _=>hc52)),?_⟩
 conv=>whnf
 obtain ⟨c53,hc53,h⟩:=bind_some h
 refine ⟨_,(sp_cmp_Or_int [c51,c52] c53 (fun _=>hc53)),?_⟩
 conv=>whnf
 cases h
 conv=>whnf
 exact ⟨rfl,rfl⟩
theorem sp_wordset_Sorted (l_:List (List Int)) (r:List (List Int)) (h:Ok (nL (cL cI) l_)→wordset_Sorted l_=some r):Sp Try.prog 42 [.im (nL (cL cI) l_)] (.row 26 1 (List.map (cL cI) r)):=by
 refine sp_of rfl [] rfl rfl rfl (Nat.le_of_ble_eq_true rfl) rfl fun hk=>?_
 replace h:=h hk.1
 have z1:lZ l_:=ok_len hk.1
 unfold wordset_Sorted at h
 conv=>whnf
 obtain ⟨c51,hc51,h⟩:=bind_some h
 refine ⟨_,(sp_wordset_ordered l_ (fun u0 u1=>word_Compare u0 u1) 66 (fun u0 u1 r h=>(sp_word_Compare u0 u1 r (fun _ _=>h))) cmpE_word_Compare c51 (fun _ _=>hc51)),?_⟩
 conv=>whnf
 cases h
 conv=>whnf
 exact Side.mk ⟨rfl,trivial⟩ ⟨rfl,rfl⟩
theorem sp_word_Lex (a_:List Int) (b_:List Int) (r:Int) (h:Ok (nL cI a_)→Ok (nL cI b_)→word_Lex a_ b_=some r):Sp Try.prog 60 [.im (nL cI a_),.im (nL cI b_)] (.im (nI r)):=by
 refine sp_of rfl [] rfl rfl rfl (Nat.le_of_ble_eq_true rfl) rfl fun hk=>?_
 replace h:=h hk.1 hk.2.1
 have z1:lZ a_:=ok_len hk.1
 have z2:lZ b_:=ok_len hk.2.1
 unfold word_Lex at h
 conv=>whnf
 obtain ⟨c51,hc51,h⟩:=bind_some h
 refine ⟨_,(sp_slices_Compare_Sint_int a_ b_ c51 (fun _ _=>hc51)),?_⟩
 conv=>whnf
 cases h
 conv=>whnf
 exact ⟨rfl,rfl⟩
theorem sp_wordset_Maximal (l_:List (List Int)) (r:List (List Int)) (h:Ok (nL (cL cI) l_)→wordset_Maximal l_=some r):Sp Try.prog 33 [.im (nL (cL cI) l_)] (.im (nL (cL cI) r)):=by
 refine sp_of rfl [] rfl rfl rfl (Nat.le_of_ble_eq_true rfl) rfl fun hk=>?_
 replace h:=h hk.1
 have z1:lZ l_:=ok_len hk.1
 unfold wordset_Maximal at h
 conv=>whnf
 obtain ⟨c51,hc51,h⟩:=bind_some h
 refine ⟨_,(sp_wordset_ordered l_ (fun u0 u1=>word_Lex u0 u1) 60 (fun u0 u1 r h=>(sp_word_Lex u0 u1 r (fun _ _=>h))) cmpE_word_Lex c51 (fun _ _=>hc51)).im,?_⟩
 conv=>whnf
 refine Nf.mk (List.length c51) len_map ?_
 conv=>whnf
 obtain ⟨y104,hc,hk52⟩:=bind_some h
 clear h
 have h:=hc
 clear hc
 refine Cut.mk (mkSt [(4,.osl 64 1)] [(64,.row 26 1 (List.map (cL cI) y104))] []) (lZ y104∧True) ((Holds.kdl 64 rfl).and (hT)) ?_ (fun hp=>?_)
 conv=>whnf
 refine Loops.iter (fun (s:List (List Int)×Nat)=>wordset_Maximal.s2 c51 s.1 s.2) (fun (y119,y120)=>mkSt [(3,.im (nL (cL cI) c51)),(4,.osl 64 1),(9,.im (nL (cL cI) c51)),(10,.im (nI (↑(List.length c51):Int))),(11,.im (nI (↑y120:Int)))] [(64,.row 26 1 (List.map (cL cI) y119))] []) (fun (y119,y120)=>lZ c51∧lZ y119∧True) h (eA [(64,none)]) (by rintro ⟨y119,y120⟩;exact ((Holds.avl 3 rfl).and ((Holds.kdl 64 rfl).and (hT)))) ?_
 clear h
 rintro k ⟨y119,y120⟩ o hp h ho137
 replace h:wordset_Maximal.s2 c51 y119 y120=some o:=h
 unfold wordset_Maximal.s2 at h
 obtain ⟨z154,z155,_⟩:=hp
 conv=>whnf
 refine Both.mk ?_ ?_<;>intro b138
 obtain ⟨h,b138d⟩:=ctd b138 h
 conv=>whnf
 obtain ⟨e139,he139,h⟩:=idxn_some h
 refine ⟨_,⟨(by omega),map_at he139,rfl⟩,?_⟩
 conv=>whnf
 obtain ⟨y145,hc,hk141⟩:=bind_some h
 clear h
 have h:=hc
 clear hc
 refine Cut.mk (mkSt [(3,.im (nL (cL cI) c51)),(4,.osl 64 1),(6,.im (nL cI e139)),(9,.im (nL (cL cI) c51)),(10,.im (nI (↑(List.length c51):Int))),(11,.im (nI (↑y120:Int))),(30,.im (nB y145))] [(64,.row 26 1 (List.map (cL cI) y119))] []) (lZ c51∧lZ e139∧lZ y119∧True) ((Holds.avl 3 rfl).and ((Holds.avl 6 rfl).and ((Holds.kdl 64 rfl).and (hT)))) ?_ (fun hp=>?_)
 conv=>whnf
 refine Arith.mk (by show inR _;unfold inR;omega) ?_
 conv=>whnf
 refine Nf.mk (List.length c51) len_map ?_
 conv=>whnf
 refine Both.mk ?_ ?_<;>intro b146
 replace b146:=beq_ff b146
 obtain ⟨h,b146d⟩:=cfd b146 h
 conv=>whnf
 iterate 2 (refine Both.yes (ff_beq b146) ?_;(conv=>whnf))
 refine Arith.mk (by show inR _;unfold inR;omega) ?_
 conv=>whnf
 refine Both.yes (ff_beq b146) ?_
 conv=>whnf
 obtain ⟨e147,he147,h⟩:=idxn_some h
 refine ⟨_,⟨(by omega),map_at he147,rfl⟩,?_⟩
 conv=>whnf
 iterate 3 (refine Both.yes (ff_beq b146) ?_;(conv=>whnf))
 obtain ⟨c148,hc148,h⟩:=bind_some h
 refine ⟨_,(sp_word_HasPrefix e147 e139 c148 (fun _ _=>hc148)),?_⟩
 conv=>whnf
 refine Both.yes (ff_beq b146) ?_
 conv=>whnf
 refine Both.no b146 ?_
 conv=>whnf
 cases h
 exact Join.mk (eA [(64,some 64)])
 replace b146:=beq_ft b146
 obtain ⟨h,b146d⟩:=ctd b146 h
 conv=>whnf
 iterate 7 (refine Both.no (tf_beq b146) ?_;(conv=>whnf))
 refine Both.yes b146 ?_
 conv=>whnf
 cases h
 exact Join.mk (eA [(64,some 64)])
 replace h:=hk141
 obtain ⟨z149,z150,z151,_⟩:=hp
 conv=>whnf
 refine Both.mk ?_ ?_<;>intro b152
 replace h:=cond_t b152 h
 conv=>whnf
 obtain ⟨c153,h⟩:=chk_some h
 refine Side.mk ⟨rfl,map_len (l:=[e139]) (c:=cL cI) fun _=>rfl,show capOk _ 24 by simpa only [List.length_map,List.length_cons,List.length_nil,Nat.zero_add] using c153⟩ ?_
 conv=>whnf
 refine Nf.mk (List.map (cL cI) (y119++[e139])) (app_map (l:=y119) (m:=[e139]) (c:=cL cI)) ?_
 conv=>whnf
 refine Arith.mk (by show inR _;unfold inR;omega) ?_
 conv=>whnf
 cases h
 exact Nxt.mk _ ho137 (eA [(64,some 64)])
 replace h:=cond_f b152 h
 conv=>whnf
 refine Arith.mk (by show inR _;unfold inR;omega) ?_
 conv=>whnf
 cases h
 exact Nxt.mk _ ho137 (eA [(64,some 64)])
 obtain ⟨h,b138d⟩:=cfd b138 h
 conv=>whnf
 cases h
 have ho137:_=_:=ho137
 cases ho137
 exact Join.mk (eA [(64,some 64)])
 replace h:=hk52
 obtain ⟨z156,_⟩:=hp
 conv=>whnf
 refine Side.mk ⟨rfl,trivial⟩ ?_
 conv=>whnf
 obtain ⟨c157,hc157,h⟩:=bind_some h
 refine ⟨_,(sp_wordset_Sorted y104 c157 (fun _=>hc157)).im,?_⟩
 conv=>whnf
 cases h
 conv=>whnf
 exact ⟨rfl,rfl⟩
theorem sp_mealy_Reach (m_:T_api_Mealy) (r:List Int) (h:Ok (.agg (c_api_Mealy m_))→mealy_Reach m_=some r):Sp Try.prog 30 [.im (.agg (c_api_Mealy m_))] (.row 3 1 (List.map cI r)):=by
 refine sp_of rfl [21,700001] rfl rfl rfl (Nat.le_of_ble_eq_true rfl) rfl fun hk=>?_
 replace h:=h hk.1
 have z1:lZ m_.Next:=ok_len (Ok.agg_at hk.1 2 rfl)
 have z2:lZ m_.Out:=ok_len (Ok.agg_at hk.1 3 rfl)
 unfold mealy_Reach at h
 conv=>whnf
 obtain ⟨c51,hc51,h⟩:=bind_some h
 refine ⟨_,(sp_mealy_Valid m_ c51 (fun _=>hc51)),?_⟩
 conv=>whnf
 refine Both.mk ?_ ?_<;>intro b52
 obtain ⟨h,b52d⟩:=ctd b52 h
 conv=>whnf
 cases h
 conv=>whnf
 exact ⟨rfl,rfl⟩
 obtain ⟨h,b52d⟩:=cfd b52 h
 conv=>whnf
 refine Nf.mk (List.length m_.Next) len_map ?_
 conv=>whnf
 obtain ⟨c53,h⟩:=chk_some h
 refine Side.mk c53 ?_
 conv=>whnf
 refine Nf.mk (List.map cB (List.replicate (List.length m_.Next) false)) (rep_map (c:=cB) (z:=false) (n:=(List.length m_.Next)) rfl rfl) ?_
 conv=>whnf
 obtain ⟨e54,he54z,he54,h⟩:=idx_some h
 refine Side.mk ⟨he54z,rfl,map_lt he54⟩ ?_
 conv=>whnf
 refine Side.mk ⟨rfl,trivial⟩ ?_
 conv=>whnf
 refine ⟨_,map_at he54,?_⟩
 conv=>whnf
 refine Nf.mk (List.map cB (List.set (List.replicate (List.length m_.Next) false) m_.Start.toNat true)) (set_map rfl) ?_
 conv=>whnf
 obtain ⟨y236,hc,hk55⟩:=bind_some h
 clear h
 have h:=hc
 clear hc
 refine Cut.mk (mkSt [(4,.osl 64 1)] [(64,.row 3 1 (List.map cI y236))] []) (lZ y236∧True) ((Holds.kdl 64 rfl).and (hT)) ?_ (fun hp=>?_)
 conv=>whnf
 refine Loops.iter (fun (s:List Bool×List Int×Nat)=>mealy_Reach.s20 m_ s.1 s.2.1 s.2.2) (fun (y295,y296,i297)=>mkSt [(1,.im (.ref (c_api_Mealy m_))),(3,.osl 64 1),(4,.osl 65 1),(5,.im (nI (↑i297:Int)))] [(64,.row 4 1 (List.map cB y295)),(65,.row 3 1 (List.map cI y296))] []) (fun (y295,y296,i297)=>lZ y295∧lZ y296∧True) h (eA [(64,some 14),(65,some 21)]) (by rintro ⟨y295,y296,i297⟩;exact ((Holds.kdl 64 rfl).and ((Holds.kdl 65 rfl).and (hT)))) ?_
 clear h
 rintro k ⟨y295,y296,i297⟩ o hp h ho356
 replace h:mealy_Reach.s20 m_ y295 y296 i297=some o:=h
 unfold mealy_Reach.s20 at h
 obtain ⟨z415,z416,_⟩:=hp
 conv=>whnf
 refine Side.mk rfl ?_
 conv=>whnf
 refine Nf.mk (List.length y296) len_map ?_
 conv=>whnf
 refine Both.mk ?_ ?_<;>intro b357
 obtain ⟨h,b357d⟩:=ctd b357 h
 conv=>whnf
 obtain ⟨e358,he358,h⟩:=idxn_some h
 refine Side.mk ⟨(by omega),rfl,map_lt he358⟩ ?_
 conv=>whnf
 refine ⟨_,_,⟨rfl,map_at he358,rfl,rfl⟩,?_⟩
 conv=>whnf
 obtain ⟨e359,he359z,he359,h⟩:=idx_some h
 refine ⟨_,⟨he359z,map_at he359,rfl⟩,?_⟩
 conv=>whnf
 refine Nf.mk (List.length e359) len_map ?_
 conv=>whnf
 obtain ⟨⟨y386,y387⟩,hc,hk360⟩:=bind_some h
 clear h
 have h:=hc
 clear hc
 refine Cut.mk (mkSt [(1,.im (.ref (c_api_Mealy m_))),(3,.osl 64 1),(4,.osl 65 1),(5,.im (nI (↑i297:Int)))] [(64,.row 4 1 (List.map cB y386)),(65,.row 3 1 (List.map cI y387))] []) (lZ y386∧lZ y387∧True) ((Holds.kdl 64 rfl).and ((Holds.kdl 65 rfl).and (hT))) ?_ (fun hp=>?_)
 conv=>whnf
 refine Loops.iter (fun (s:List Bool×List Int×Nat)=>mealy_Reach.s18 e359 s.1 s.2.1 s.2.2) (fun (y394,y395,y396)=>mkSt [(1,.im (.ref (c_api_Mealy m_))),(3,.osl 64 1),(4,.osl 65 1),(5,.im (nI (↑i297:Int))),(35,.im (nL cI e359)),(36,.im (nI (↑(List.length e359):Int))),(37,.im (nI (↑y396:Int)))] [(64,.row 4 1 (List.map cB y394)),(65,.row 3 1 (List.map cI y395))] []) (fun (y394,y395,y396)=>lZ e359∧lZ y394∧lZ y395∧True) h (eA [(64,some 64),(65,some 65)]) (by rintro ⟨y394,y395,y396⟩;exact ((Holds.avl 35 rfl).and ((Holds.kdl 64 rfl).and ((Holds.kdl 65 rfl).and (hT))))) ?_
 clear h
 rintro k ⟨y394,y395,y396⟩ o hp h ho403
 replace h:mealy_Reach.s18 e359 y394 y395 y396=some o:=h
 unfold mealy_Reach.s18 at h
 obtain ⟨z410,z411,z412,_⟩:=hp
 conv=>whnf
 refine Both.mk ?_ ?_<;>intro b404
 obtain ⟨h,b404d⟩:=ctd b404 h
 conv=>whnf
 obtain ⟨e405,he405,h⟩:=idxn_some h
 refine ⟨_,⟨(by omega),map_at he405,rfl⟩,?_⟩
 conv=>whnf
 obtain ⟨e406,he406z,he406,h⟩:=idx_some h
 refine Side.mk ⟨he406z,rfl,map_lt he406⟩ ?_
 conv=>whnf
 refine ⟨_,_,⟨rfl,map_at he406,rfl,rfl⟩,?_⟩
 conv=>whnf
 refine Both.mk ?_ ?_<;>intro b407
 replace h:=cond_t b407 h
 conv=>whnf
 obtain ⟨e408,he408z,he408,h⟩:=idx_some h
 refine Side.mk ⟨he408z,rfl,map_lt he408⟩ ?_
 conv=>whnf
 refine Side.mk ⟨rfl,trivial⟩ ?_
 conv=>whnf
 refine ⟨_,map_at he408,?_⟩
 conv=>whnf
 refine Nf.mk (List.map cB (List.set y394 e405.toNat true)) (set_map rfl) ?_
 conv=>whnf
 obtain ⟨c409,h⟩:=chk_some h
 refine Side.mk ⟨rfl,map_len (l:=[e405]) (c:=cI) fun _=>rfl,show capOk _ 8 by simpa only [List.length_map,List.length_cons,List.length_nil,Nat.zero_add] using c409⟩ ?_
 conv=>whnf
 refine Nf.mk (List.map cI (y395++[e405])) (app_map (l:=y395) (m:=[e405]) (c:=cI)) ?_
 conv=>whnf
 refine Arith.mk (by show inR _;unfold inR;omega) ?_
 conv=>whnf
 cases h
 exact Nxt.mk _ ho403 (eA [(64,some 64),(65,some 65)])
 replace h:=cond_f b407 h
 conv=>whnf
 refine Arith.mk (by show inR _;unfold inR;omega) ?_
 conv=>whnf
 cases h
 exact Nxt.mk _ ho403 (eA [(64,some 64),(65,some 65)])
 obtain ⟨h,b404d⟩:=cfd b404 h
 conv=>whnf
 cases h
 have ho403:_=_:=ho403
 cases ho403
 exact Join.mk (eA [(64,some 64),(65,some 65)])
 replace h:mealy_Reach.k19 i297 y386 y387=some _:=hk360
 unfold mealy_Reach.k19 at h
 obtain ⟨z413,z414,_⟩:=hp
 conv=>whnf
 refine Arith.mk (by show inR _;unfold inR;omega) ?_
 conv=>whnf
 cases h
 exact Nxt.mk _ ho356 (eA [(64,some 64),(65,some 65)])
 obtain ⟨h,b357d⟩:=cfd b357 h
 conv=>whnf
 cases h
 have ho356:_=_:=ho356
 cases ho356
 exact Join.mk (eA [(64,some 65)])
 replace h:=hk55
 obtain ⟨z417,_⟩:=hp
 conv=>whnf
 cases h
 conv=>whnf
 exact Side.mk ⟨rfl,trivial⟩ ⟨rfl,rfl⟩
theorem sp_mealy_Trim (m_:T_api_Mealy) (r:T_api_Mealy×Int) (h:Ok (.agg (c_api_Mealy m_))→mealy_Trim m_=some r):Sp Try.prog 52 [.im (.agg (c_api_Mealy m_))] (.tup [.agg (c_api_Mealy r.1),nI r.2]):=by
 refine sp_of rfl [700001] rfl rfl rfl (Nat.le_of_ble_eq_true rfl) rfl fun hk=>?_
 replace h:=h hk.1
 have z1:lZ m_.Next:=ok_len (Ok.agg_at hk.1 2 rfl)
 have z2:lZ m_.Out:=ok_len (Ok.agg_at hk.1 3 rfl)
 unfold mealy_Trim at h
 conv=>whnf
 obtain ⟨c51,hc51,h⟩:=bind_some h
 refine ⟨_,(sp_mealy_Valid m_ c51 (fun _=>hc51)),?_⟩
 conv=>whnf
 refine Both.mk ?_ ?_<;>intro b52
 obtain ⟨h,b52d⟩:=ctd b52 h
 conv=>whnf
 refine Side.mk rfl ?_
 conv=>whnf
 cases h
 conv=>whnf
 refine Side.mk ⟨rfl,trivial⟩ ?_
 conv=>whnf
 exact ⟨rfl,rfl⟩
 obtain ⟨h,b52d⟩:=cfd b52 h
 conv=>whnf
 obtain ⟨c53,hc53,h⟩:=bind_some h
 refine ⟨_,(sp_mealy_Reach m_ c53 (fun _=>hc53)).im,?_⟩
 conv=>whnf
 refine Nf.mk (List.length m_.Next) len_map ?_
 conv=>whnf
 obtain ⟨c54,h⟩:=chk_some h
 refine Side.mk c54 ?_
 conv=>whnf
 refine Nf.mk (List.map cI (List.replicate (List.length m_.Next) 0)) (rep_map (c:=cI) (z:=0) (n:=(List.length m_.Next)) rfl rfl) ?_
 conv=>whnf
 refine Nf.mk (List.length c53) len_map ?_
 conv=>whnf
 obtain ⟨y70,hc,hk55⟩:=bind_some h
 clear h
 have h:=hc
 clear hc
 refine Cut.mk (mkSt [(1,.im (.ref (c_api_Mealy m_))),(2,.own 89 1 0),(5,.im (nL cI c53)),(6,.osl 90 1)] [(89,.box 24 4),(90,.row 3 1 (List.map cI y70))] [(89,0,.im (nI 0)),(89,1,.im (nI 0)),(89,2,.im (.val (.slice none 0 0))),(89,3,.im (.val (.slice none 0 0)))]) (lZ c53∧lZ y70∧True) ((Holds.avl 5 rfl).and ((Holds.kdl 90 rfl).and (hT))) ?_ (fun hp=>?_)
 conv=>whnf
 refine Loops.iter (fun (s:List Int×Nat)=>mealy_Trim.s2 c53 s.1 s.2) (fun (y74,y75)=>mkSt [(1,.im (.ref (c_api_Mealy m_))),(2,.own 89 1 0),(5,.im (nL cI c53)),(6,.osl 90 1),(27,.im (nL cI c53)),(28,.im (nI (↑(List.length c53):Int))),(29,.im (nI (↑y75:Int)))] [(89,.box 24 4),(90,.row 3 1 (List.map cI y74))] [(89,0,.im (nI 0)),(89,1,.im (nI 0)),(89,2,.im (.val (.slice none 0 0))),(89,3,.im (.val (.slice none 0 0)))]) (fun (y74,y75)=>lZ c53∧lZ y74∧True) h (eA [(89,some 2),(90,some 26)]) (by rintro ⟨y74,y75⟩;exact ((Holds.avl 5 rfl).and ((Holds.kdl 90 rfl).and (hT)))) ?_
 clear h
 rintro k ⟨y74,y75⟩ o hp h ho79
 replace h:mealy_Trim.s2 c53 y74 y75=some o:=h
 unfold mealy_Trim.s2 at h
 obtain ⟨z83,z84,_⟩:=hp
 conv=>whnf
 refine Both.mk ?_ ?_<;>intro b80
 obtain ⟨h,b80d⟩:=ctd b80 h
 conv=>whnf
 obtain ⟨e81,he81,h⟩:=idxn_some h
 refine ⟨_,⟨(by omega),map_at he81,rfl⟩,?_⟩
 conv=>whnf
 obtain ⟨e82,he82z,he82,h⟩:=idx_some h
 refine Side.mk ⟨he82z,rfl,map_lt he82⟩ ?_
 conv=>whnf
 refine Side.mk ⟨rfl,trivial⟩ ?_
 conv=>whnf
 refine ⟨_,map_at he82,?_⟩
 conv=>whnf
 refine Nf.mk (List.map cI (List.set y74 e81.toNat (↑y75:Int))) (set_map rfl) ?_
 conv=>whnf
 refine Arith.mk (by show inR _;unfold inR;omega) ?_
 conv=>whnf
 cases h
 exact Nxt.mk _ ho79 (eA [(89,some 89),(90,some 90)])
 obtain ⟨h,b80d⟩:=cfd b80 h
 conv=>whnf
 cases h
 have ho79:_=_:=ho79
 cases ho79
 exact Join.mk (eA [(89,some 89),(90,some 90)])
 replace h:=hk55
 obtain ⟨z85,z86,_⟩:=hp
 conv=>whnf
 refine Side.mk rfl ?_
 conv=>whnf
 refine Nf.mk (List.length c53) len_map ?_
 conv=>whnf
 obtain ⟨⟨y259,y260⟩,hc,hk87⟩:=bind_some h
 clear h
 have h:=hc
 clear hc
 refine Cut.mk (mkSt [(2,.own 89 1 0),(9,.own 90 1 0)] [(89,.box 24 4),(90,.box 24 4),(91,.row 26 1 (List.map (cL cI) y259)),(92,.row 26 1 (List.map (cL cI) y260))] [(89,0,.im (nI 0)),(89,1,.im (nI 0)),(89,2,.im (.val (.slice none 0 0))),(89,3,.im (.val (.slice none 0 0))),(90,0,.im (nI m_.Inputs)),(90,1,.im (nI 0)),(90,2,.osl 91 1),(90,3,.osl 92 1)]) (lZ y259∧lZ y260∧True) ((Holds.kdl 91 rfl).and ((Holds.kdl 92 rfl).and (hT))) ?_ (fun hp=>?_)
 conv=>whnf
 refine Loops.iter (fun (s:List (List Int)×List (List Int)×Nat)=>mealy_Trim.s16 m_ c53 y70 s.1 s.2.1 s.2.2) (fun (y310,y311,y312)=>mkSt [(1,.im (.ref (c_api_Mealy m_))),(2,.own 89 1 0),(6,.osl 90 1),(9,.own 91 1 0),(42,.im (nL cI c53)),(43,.im (nI (↑(List.length c53):Int))),(44,.im (nI (↑y312:Int)))] [(89,.box 24 4),(90,.row 3 1 (List.map cI y70)),(91,.box 24 4),(92,.row 26 1 (List.map (cL cI) y310)),(93,.row 26 1 (List.map (cL cI) y311))] [(89,0,.im (nI 0)),(89,1,.im (nI 0)),(89,2,.im (.val (.slice none 0 0))),(89,3,.im (.val (.slice none 0 0))),(91,0,.im (nI m_.Inputs)),(91,1,.im (nI 0)),(91,2,.osl 92 1),(91,3,.osl 93 1)]) (fun (y310,y311,y312)=>lZ c53∧lZ y70∧lZ y310∧lZ y311∧True) h (Ent.mk [(89,some 89),(90,some 90),(91,some 9),(92,none),(93,none)] rfl ⟨eI rfl rfl,⟨.own 89 _ 0,rfl,.own rfl rfl rfl⟩,⟨.osl 90 _,rfl,.osl rfl rfl rfl⟩,⟨.own 9 _ 0,rfl,.own rfl rfl rfl⟩,eI rfl rfl,eI rfl rfl,eI rfl rfl,trivial⟩ ⟨.inl ⟨89,rfl,rfl,trivial⟩,.inl ⟨90,rfl,rfl,trivial⟩,.inl ⟨9,rfl,rfl,trivial⟩,.inr ⟨rfl,rfl,.inl ⟨_,_,rfl,by decide⟩⟩,.inr ⟨rfl,rfl,.inl ⟨_,_,rfl,by decide⟩⟩,trivial⟩ ⟨⟨89,.im _,rfl,rfl,.im (Sub.rfl' rfl)⟩,⟨89,.im _,rfl,rfl,.im (Sub.rfl' rfl)⟩,⟨89,.im (.val (.slice none 0 0)),rfl,rfl,.im (Sub.rfl' rfl)⟩,⟨89,.im (.val (.slice none 0 0)),rfl,rfl,.im (Sub.rfl' rfl)⟩,⟨9,.im _,rfl,rfl,.im (Sub.rfl' rfl)⟩,⟨9,.im _,rfl,rfl,.im (Sub.rfl' rfl)⟩,⟨9,.im (.val (.slice none 0 0)),rfl,rfl,.made rfl rfl⟩,⟨9,.im (.val (.slice none 0 0)),rfl,rfl,.made rfl rfl⟩,trivial⟩) (by rintro ⟨y310,y311,y312⟩;exact ((Holds.avl 42 rfl).and ((Holds.kdl 90 rfl).and ((Holds.kdl 92 rfl).and ((Holds.kdl 93 rfl).and (hT)))))) ?_
 clear h
 rintro k ⟨y310,y311,y312⟩ o hp h ho370
 replace h:mealy_Trim.s16 m_ c53 y70 y310 y311 y312=some o:=h
 unfold mealy_Trim.s16 at h
 obtain ⟨z428,z429,z430,z431,_⟩:=hp
 conv=>whnf
 refine Both.mk ?_ ?_<;>intro b371
 obtain ⟨h,b371d⟩:=ctd b371 h
 conv=>whnf
 obtain ⟨e372,he372,h⟩:=idxn_some h
 refine ⟨_,⟨(by omega),map_at he372,rfl⟩,?_⟩
 conv=>whnf
 obtain ⟨c373,h⟩:=chk_some h
 refine Side.mk c373 ?_
 conv=>whnf
 refine Nf.mk (List.map cI (List.replicate (Int.toNat m_.Inputs) 0)) (rep_map (c:=cI) (z:=0) (n:=(Int.toNat m_.Inputs)) rfl rfl) ?_
 conv=>whnf
 obtain ⟨e374,he374z,he374,h⟩:=idx_some h
 refine ⟨_,⟨he374z,map_at he374,rfl⟩,?_⟩
 conv=>whnf
 refine Nf.mk (List.length e374) len_map ?_
 conv=>whnf
 obtain ⟨y397,hc,hk375⟩:=bind_some h
 clear h
 have h:=hc
 clear hc
 refine Cut.mk (mkSt [(1,.im (.ref (c_api_Mealy m_))),(2,.own 89 1 0),(6,.osl 90 1),(9,.own 91 1 0),(11,.im (nI e372)),(12,.osl 94 1),(42,.im (nL cI c53)),(43,.im (nI (↑(List.length c53):Int))),(44,.im (nI (↑y312:Int)))] [(89,.box 24 4),(90,.row 3 1 (List.map cI y70)),(91,.box 24 4),(92,.row 26 1 (List.map (cL cI) y310)),(93,.row 26 1 (List.map (cL cI) y311)),(94,.row 3 1 (List.map cI y397))] [(89,0,.im (nI 0)),(89,1,.im (nI 0)),(89,2,.im (.val (.slice none 0 0))),(89,3,.im (.val (.slice none 0 0))),(91,0,.im (nI m_.Inputs)),(91,1,.im (nI 0)),(91,2,.osl 92 1),(91,3,.osl 93 1)]) (lZ c53∧lZ y70∧lZ y310∧lZ y311∧lZ y397∧True) ((Holds.avl 42 rfl).and ((Holds.kdl 90 rfl).and ((Holds.kdl 92 rfl).and ((Holds.kdl 93 rfl).and ((Holds.kdl 94 rfl).and (hT)))))) ?_ (fun hp=>?_)
 conv=>whnf
 refine Loops.iter (fun (s:List Int×Nat)=>mealy_Trim.s15 y70 e374 s.1 s.2) (fun (y402,y403)=>mkSt [(1,.im (.ref (c_api_Mealy m_))),(2,.own 89 1 0),(6,.osl 90 1),(9,.own 91 1 0),(11,.im (nI e372)),(12,.osl 94 1),(42,.im (nL cI c53)),(43,.im (nI (↑(List.length c53):Int))),(44,.im (nI (↑y312:Int))),(55,.im (nL cI e374)),(56,.im (nI (↑(List.length e374):Int))),(57,.im (nI (↑y403:Int)))] [(89,.box 24 4),(90,.row 3 1 (List.map cI y70)),(91,.box 24 4),(92,.row 26 1 (List.map (cL cI) y310)),(93,.row 26 1 (List.map (cL cI) y311)),(94,.row 3 1 (List.map cI y402))] [(89,0,.im (nI 0)),(89,1,.im (nI 0)),(89,2,.im (.val (.slice none 0 0))),(89,3,.im (.val (.slice none 0 0))),(91,0,.im (nI m_.Inputs)),(91,1,.im (nI 0)),(91,2,.osl 92 1),(91,3,.osl 93 1)]) (fun (y402,y403)=>lZ c53∧lZ e374∧lZ y70∧lZ y310∧lZ y311∧lZ y402∧True) h (eA [(89,some 89),(90,some 90),(91,some 91),(92,some 92),(93,some 93),(94,some 50)]) (by rintro ⟨y402,y403⟩;exact ((Holds.avl 42 rfl).and ((Holds.avl 55 rfl).and ((Holds.kdl 90 rfl).and ((Holds.kdl 92 rfl).and ((Holds.kdl 93 rfl).and ((Holds.kdl 94 rfl).and (hT)))))))) ?_
 clear h
 rintro k ⟨y402,y403⟩ o hp h ho408
 replace h:mealy_Trim.s15 y70 e374 y402 y403=some o:=h
 unfold mealy_Trim.s15 at h
 obtain ⟨z413,z414,z415,z416,z417,z418,_⟩:=hp
 conv=>whnf
 refine Both.mk ?_ ?_<;>intro b409
 obtain ⟨h,b409d⟩:=ctd b409 h
 conv=>whnf
 obtain ⟨e410,he410,h⟩:=idxn_some h
 refine ⟨_,⟨(by omega),map_at he410,rfl⟩,?_⟩
 conv=>whnf
 obtain ⟨e411,he411z,he411,h⟩:=idx_some h
 refine Side.mk ⟨he411z,rfl,map_lt he411⟩ ?_
 conv=>whnf
 refine ⟨_,_,⟨rfl,map_at he411,rfl,rfl⟩,?_⟩
 conv=>whnf
 obtain ⟨e412,he412,h⟩:=idxn_some h
 refine Side.mk ⟨(by omega),rfl,map_lt he412⟩ ?_
 conv=>whnf
 refine Side.mk ⟨rfl,trivial⟩ ?_
 conv=>whnf
 refine ⟨_,map_at he412,?_⟩
 conv=>whnf
 refine Nf.mk (List.map cI (List.set y402 y403 e411)) (set_map rfl) ?_
 conv=>whnf
 refine Arith.mk (by show inR _;unfold inR;omega) ?_
 conv=>whnf
 cases h
 exact Nxt.mk _ ho408 (eA [(89,some 89),(90,some 90),(91,some 91),(92,some 92),(93,some 93),(94,some 94)])
 obtain ⟨h,b409d⟩:=cfd b409 h
 conv=>whnf
 cases h
 have ho408:_=_:=ho408
 cases ho408
 exact Join.mk (eA [(89,some 89),(90,some 90),(91,some 91),(92,some 92),(93,some 93),(94,some 94)])
 replace h:=hk375
 obtain ⟨z419,z420,z421,z422,z423,_⟩:=hp
 conv=>whnf
 refine Side.mk rfl ?_
 conv=>whnf
 refine Side.mk rfl ?_
 conv=>whnf
 refine Side.mk ⟨rfl,trivial⟩ ?_
 conv=>whnf
 obtain ⟨c424,h⟩:=chk_some h
 refine Side.mk ⟨rfl,map_len (l:=[y397]) (c:=cL cI) fun _=>rfl,show capOk _ 24 by simpa only [List.length_map,List.length_cons,List.length_nil,Nat.zero_add] using c424⟩ ?_
 conv=>whnf
 refine Nf.mk (List.map (cL cI) (y310++[y397])) (app_map (l:=y310) (m:=[y397]) (c:=cL cI)) ?_
 conv=>whnf
 refine Side.mk rfl ?_
 conv=>whnf
 refine Side.mk rfl ?_
 conv=>whnf
 refine Side.mk rfl ?_
 conv=>whnf
 refine Side.mk rfl ?_
 conv=>whnf
 obtain ⟨e425,he425z,he425,h⟩:=idx_some h
 refine ⟨_,⟨he425z,map_at he425,rfl⟩,?_⟩
 conv=>whnf
 obtain ⟨c426,hc426,h⟩:=bind_some h
 refine ⟨_,(sp_lib_Clone_int e425 c426 (hc426)).im,?_⟩
 conv=>whnf
 obtain ⟨c427,h⟩:=chk_some h
 refine Side.mk ⟨rfl,map_len (l:=[c426]) (c:=cL cI) fun _=>rfl,show capOk _ 24 by simpa only [List.length_map,List.length_cons,List.length_nil,Nat.zero_add] using c427⟩ ?_
 conv=>whnf
 refine Nf.mk (List.map (cL cI) (y311++[c426])) (app_map (l:=y311) (m:=[c426]) (c:=cL cI)) ?_
 conv=>whnf
 refine Side.mk rfl ?_
 conv=>whnf
 refine Side.mk rfl ?_
 conv=>whnf
 refine Arith.mk (by show inR _;unfold inR;omega) ?_
 conv=>whnf
 cases h
 exact Nxt.mk _ ho370 (eA [(89,some 89),(90,some 90),(91,some 91),(92,some 92),(93,some 93)])
 obtain ⟨h,b371d⟩:=cfd b371 h
 conv=>whnf
 cases h
 have ho370:_=_:=ho370
 cases ho370
 exact Join.mk (eA [(89,some 89),(90,some 91),(91,some 92),(92,some 93)])
 replace h:mealy_Trim.k17 m_ y259 y260=some _:=hk87
 unfold mealy_Trim.k17 at h
 obtain ⟨z432,z433,_⟩:=hp
 conv=>whnf
 refine Side.mk rfl ?_
 conv=>whnf
 refine Side.mk rfl ?_
 conv=>whnf
 cases h
 conv=>whnf
 refine Side.mk ⟨rfl,trivial⟩ ?_
 conv=>whnf
 exact Side.mk ⟨rfl,rfl,trivial⟩ ⟨rfl,rfl⟩
theorem sp_minimize_next (m_:T_api_Mealy) (class_:List Int) (r:List Int×Int) (h:Ok (.agg (c_api_Mealy m_))→Ok (nL cI class_)→minimize_next m_ class_=some r):Sp Try.prog 99 [.im (.agg (c_api_Mealy m_)),.im (nL cI class_)] (.tup [nL cI r.1,nI r.2]):=by
 refine sp_of rfl [700002] rfl rfl rfl (Nat.le_of_ble_eq_true rfl) rfl fun hk=>?_
 replace h:=h hk.1 hk.2.1
 have z1:lZ m_.Next:=ok_len (Ok.agg_at hk.1 2 rfl)
 have z2:lZ m_.Out:=ok_len (Ok.agg_at hk.1 3 rfl)
 have z3:lZ class_:=ok_len hk.2.1
 unfold minimize_next at h
 conv=>whnf
 refine Nf.mk (List.length class_) len_map ?_
 conv=>whnf
 obtain ⟨c51,h⟩:=chk_some h
 refine Side.mk c51 ?_
 conv=>whnf
 refine Nf.mk (List.map cI (List.replicate (List.length class_) 0)) (rep_map (c:=cI) (z:=0) (n:=(List.length class_)) rfl rfl) ?_
 conv=>whnf
 refine Nf.mk (List.length class_) len_map ?_
 conv=>whnf
 obtain ⟨⟨y362,y363⟩,hc,hk52⟩:=bind_some h
 clear h
 have h:=hc
 clear hc
 refine Cut.mk (mkSt [(6,.osl 73 1),(7,.osl 74 1)] [(73,.map (mapV wA wI y362)),(74,.row 3 1 (List.map cI y363))] []) (lZ y363∧True) ((Holds.kdl 74 rfl).and (hT)) ?_ (fun hp=>?_)
 conv=>whnf
 refine Loops.iter (fun (s:(List (List Int×Int))×List Int×Nat)=>minimize_next.s20 m_ class_ s.1 s.2.1 s.2.2) (fun (y465,y466,y467)=>mkSt [(1,.im (nL cI class_)),(2,.im (.ref (c_api_Mealy m_))),(6,.osl 73 1),(7,.osl 74 1),(18,.im (nI (↑(List.length class_):Int))),(19,.im (nI (↑y467:Int)))] [(73,.map (mapV wA wI y465)),(74,.row 3 1 (List.map cI y466))] []) (fun (y465,y466,y467)=>lZ class_∧lZ y466∧True) h (eA [(73,some 13),(74,some 16)]) (by rintro ⟨y465,y466,y467⟩;exact ((Holds.avl 1 rfl).and ((Holds.kdl 74 rfl).and (hT)))) ?_
 clear h
 rintro k ⟨y465,y466,y467⟩ o hp h ho569
 replace h:minimize_next.s20 m_ class_ y465 y466 y467=some o:=h
 unfold minimize_next.s20 at h
 obtain ⟨z671,z672,_⟩:=hp
 conv=>whnf
 refine Both.mk ?_ ?_<;>intro b570
 obtain ⟨h,b570d⟩:=ctd b570 h
 conv=>whnf
 refine Nf.mk (List.map cI (List.replicate 128 0)) rfl ?_
 conv=>whnf
 obtain ⟨y612,hc,hk571⟩:=bind_some h
 clear h
 have h:=hc
 clear hc
 refine Cut.mk (mkSt [(1,.im (nL cI class_)),(2,.im (.ref (c_api_Mealy m_))),(6,.osl 73 1),(7,.osl 74 1),(8,.im (nI (↑y467:Int))),(9,.elt 75 1 1 0 0),(18,.im (nI (↑(List.length class_):Int))),(19,.im (nI (↑y467:Int)))] [(73,.map (mapV wA wI y465)),(74,.row 3 1 (List.map cI y466)),(75,.row 147 1 (List.map cI y612))] []) (lZ class_∧lZ y466∧lZ y612∧True) ((Holds.avl 1 rfl).and ((Holds.kdl 74 rfl).and ((Holds.kdl 75 rfl).and (hT)))) ?_ (fun hp=>?_)
 conv=>whnf
 refine Loops.iter (fun (s:List Int×Nat)=>minimize_next.s18 m_ class_ y467 s.1 s.2) (fun (y623,y624)=>mkSt [(1,.im (nL cI class_)),(2,.im (.ref (c_api_Mealy m_))),(6,.osl 73 1),(7,.osl 74 1),(8,.im (nI (↑y467:Int))),(9,.elt 75 1 1 0 0),(18,.im (nI (↑(List.length class_):Int))),(19,.im (nI (↑y467:Int))),(23,.im (nI m_.Inputs)),(24,.im (nI (↑y624:Int)))] [(73,.map (mapV wA wI y465)),(74,.row 3 1 (List.map cI y466)),(75,.row 147 1 (List.map cI y623))] []) (fun (y623,y624)=>lZ class_∧lZ y466∧lZ y623∧True) h (Ent.mk [(73,some 73),(74,some 74),(75,some 9)] rfl ⟨eI rfl rfl,eI rfl rfl,⟨.osl 73 _,rfl,.osl rfl rfl rfl⟩,⟨.osl 74 _,rfl,.osl rfl rfl rfl⟩,eI rfl rfl,⟨.elt 9 _ _ _ _,rfl,.elt rfl rfl rfl⟩,eI rfl rfl,eI rfl rfl,eI rfl rfl,eI rfl rfl,trivial⟩ ⟨.inl ⟨73,rfl,rfl,trivial⟩,.inl ⟨74,rfl,rfl,trivial⟩,.inl ⟨9,rfl,rfl,trivial⟩,trivial⟩ trivial) (by rintro ⟨y623,y624⟩;exact ((Holds.avl 1 rfl).and ((Holds.kdl 74 rfl).and ((Holds.kdl 75 rfl).and (hT))))) ?_
 clear h
 rintro k ⟨y623,y624⟩ o hp h ho637
 replace h:minimize_next.s18 m_ class_ y467 y623 y624=some o:=h
 unfold minimize_next.s18 at h
 obtain ⟨z650,z651,z652,_⟩:=hp
 conv=>whnf
 refine Both.mk ?_ ?_<;>intro b638
 obtain ⟨h,b638d⟩:=ctd b638 h
 conv=>whnf
 obtain ⟨e639,he639,h⟩:=idxn_some h
 refine ⟨_,⟨(by omega),map_at he639,rfl⟩,?_⟩
 conv=>whnf
 obtain ⟨e640,he640,h⟩:=idxn_some h
 refine ⟨_,⟨(by omega),map_at he640,rfl⟩,?_⟩
 conv=>whnf
 obtain ⟨c642,h⟩:=chk_some h
 obtain ⟨e641,he641,h⟩:=idxn_some h
 refine Side.mk ⟨by omega,c642,rfl⟩ ?_
 conv=>whnf
 refine Side.mk ⟨rfl,trivial⟩ ?_
 conv=>whnf
 refine ⟨_,map_at he641,?_⟩
 conv=>whnf
 refine Nf.mk (List.map cI (List.set y623 y624 e640)) (set_map rfl) ?_
 conv=>whnf
 obtain ⟨c643,h⟩:=chk_some h
 refine Arith.mk c643 ?_
 conv=>whnf
 obtain ⟨e644,he644,h⟩:=idxn_some h
 refine ⟨_,⟨(by omega),map_at he644,rfl⟩,?_⟩
 conv=>whnf
 obtain ⟨e645,he645,h⟩:=idxn_some h
 refine ⟨_,⟨(by omega),map_at he645,rfl⟩,?_⟩
 conv=>whnf
 obtain ⟨e646,he646z,he646,h⟩:=idx_some h
 refine ⟨_,⟨he646z,map_at he646,rfl⟩,?_⟩
 conv=>whnf
 obtain ⟨c648,h⟩:=chk_some h
 obtain ⟨e647,he647,h⟩:=idxn_some h
 refine Side.mk ⟨by omega,c648,rfl⟩ ?_
 conv=>whnf
 refine Side.mk ⟨rfl,trivial⟩ ?_
 conv=>whnf
 refine ⟨_,map_at he647,?_⟩
 conv=>whnf
 refine Nf.mk (List.map cI (List.set (List.set y623 y624 e640) (64+y624) e646)) (set_map rfl) ?_
 conv=>whnf
 obtain ⟨c649,h⟩:=chk_some h
 refine Arith.mk c649 ?_
 conv=>whnf
 cases h
 exact Nxt.mk _ ho637 (Ent.mk [(73,some 73),(74,some 74),(75,some 75)] rfl ⟨eI rfl rfl,eI rfl rfl,⟨.osl 73 _,rfl,.osl rfl rfl rfl⟩,⟨.osl 74 _,rfl,.osl rfl rfl rfl⟩,eI rfl rfl,⟨.elt 75 _ _ _ _,rfl,.elt rfl rfl rfl⟩,eI rfl rfl,eI rfl rfl,eI rfl rfl,eI rfl rfl,trivial⟩ ⟨.inl ⟨73,rfl,rfl,trivial⟩,.inl ⟨74,rfl,rfl,trivial⟩,.inl ⟨75,rfl,rfl,trivial⟩,trivial⟩ trivial)
 obtain ⟨h,b638d⟩:=cfd b638 h
 conv=>whnf
 cases h
 have ho637:_=_:=ho637
 cases ho637
 exact Join.mk (Ent.mk [(73,some 73),(74,some 74),(75,some 75)] rfl ⟨eI rfl rfl,eI rfl rfl,⟨.osl 73 _,rfl,.osl rfl rfl rfl⟩,⟨.osl 74 _,rfl,.osl rfl rfl rfl⟩,eI rfl rfl,⟨.elt 75 _ _ _ _,rfl,.elt rfl rfl rfl⟩,eI rfl rfl,eI rfl rfl,trivial⟩ ⟨.inl ⟨73,rfl,rfl,trivial⟩,.inl ⟨74,rfl,rfl,trivial⟩,.inl ⟨75,rfl,rfl,trivial⟩,trivial⟩ trivial)
 replace h:=hk571
 obtain ⟨z653,z654,z655,_⟩:=hp
 conv=>whnf
 obtain ⟨c656,h⟩:=chk_some h
 refine Side.mk ⟨rfl,by rw [List.length_map];exact c656⟩ ?_
 conv=>whnf
 refine Nf.mk (cA y612) flat_cA ?_
 conv=>whnf
 obtain ⟨c657,h⟩:=chk_some h
 refine Side.mk rfl ?_
 conv=>whnf
 refine ⟨y612,_,keys_arr (g:=wI) rfl c657,?_⟩
 conv=>whnf
 refine Nf.mk (wI ((mget y612 y465).getD 0)) ((getD_map rfl _).trans (congrArg (Option.getD · _) (get_arr _ _ _).symm)) ?_
 conv=>whnf
 refine Nf.mk (mget y612 y465).isSome ((isSome_map _).trans (congrArg Option.isSome (get_arr _ _ _).symm)) ?_
 conv=>whnf
 obtain ⟨⟨y663,n664⟩,hc,hk659⟩:=bind_some h
 clear h
 have h:=hc
 clear hc
 refine Cut.mk (mkSt [(1,.im (nL cI class_)),(2,.im (.ref (c_api_Mealy m_))),(6,.osl 73 1),(7,.osl 74 1),(8,.im (nI (↑y467:Int))),(11,.im (nI n664)),(18,.im (nI (↑(List.length class_):Int))),(19,.im (nI (↑y467:Int)))] [(73,.map (mapV wA wI y663)),(74,.row 3 1 (List.map cI y466))] []) (lZ class_∧lZ y466∧True) ((Holds.avl 1 rfl).and ((Holds.kdl 74 rfl).and (hT))) ?_ (fun hp=>?_)
 conv=>whnf
 refine Both.mk ?_ ?_<;>intro b665
 replace h:=cond_t b665 h
 conv=>whnf
 refine Side.mk rfl ?_
 conv=>whnf
 refine Nf.mk (List.length y465) len_mapV ?_
 conv=>whnf
 obtain ⟨c666,h⟩:=chk_some h
 refine Side.mk ⟨rfl,by rw [List.length_map];exact c666⟩ ?_
 conv=>whnf
 refine Nf.mk (cA y612) flat_cA ?_
 conv=>whnf
 obtain ⟨c667,h⟩:=chk_some h
 refine Side.mk rfl ?_
 conv=>whnf
 refine ⟨y612,_,keys_arr (g:=wI) rfl c667,?_⟩
 conv=>whnf
 refine Nf.mk (mapV wA wI (mset y612 (↑(List.length y465):Int) y465)) (by rw [set_arr];exact mapA_set _ _) ?_
 conv=>whnf
 cases h
 exact Join.mk (eA [(73,some 73),(74,some 74)])
 replace h:=cond_f b665 h
 conv=>whnf
 cases h
 exact Join.mk (eA [(73,some 73),(74,some 74)])
 replace h:minimize_next.k19 y466 y467 y663 n664=some _:=hk659
 unfold minimize_next.k19 at h
 obtain ⟨z668,z669,_⟩:=hp
 conv=>whnf
 obtain ⟨e670,he670,h⟩:=idxn_some h
 refine Side.mk ⟨(by omega),rfl,map_lt he670⟩ ?_
 conv=>whnf
 refine Side.mk ⟨rfl,trivial⟩ ?_
 conv=>whnf
 refine ⟨_,map_at he670,?_⟩
 conv=>whnf
 refine Nf.mk (List.map cI (List.set y466 y467 n664)) (set_map rfl) ?_
 conv=>whnf
 refine Arith.mk (by show inR _;unfold inR;omega) ?_
 conv=>whnf
 cases h
 exact Nxt.mk _ ho569 (eA [(73,some 73),(74,some 74)])
 obtain ⟨h,b570d⟩:=cfd b570 h
 conv=>whnf
 cases h
 have ho569:_=_:=ho569
 cases ho569
 exact Join.mk (eA [(73,some 73),(74,some 74)])
 replace h:minimize_next.k21 y362 y363=some _:=hk52
 unfold minimize_next.k21 at h
 obtain ⟨z673,_⟩:=hp
 conv=>whnf
 refine Side.mk rfl ?_
 conv=>whnf
 refine Nf.mk (List.length y362) len_mapV ?_
 conv=>whnf
 cases h
 conv=>whnf
 exact Side.mk ⟨rfl,trivial⟩ ⟨rfl,rfl⟩
theorem sp_minimize_refine (m_:T_api_Mealy) (k_:Int) (r:List Int×Int) (h:Ok (.agg (c_api_Mealy m_))→Ok (nI k_)→minimize_refine m_ k_=some r):Sp Try.prog 91 [.im (.agg (c_api_Mealy m_)),.im (nI k_)] (.tup [nL cI r.1,nI r.2]):=by
 refine sp_of rfl [700002,6000014] rfl rfl rfl (Nat.le_of_ble_eq_true rfl) rfl fun hk=>?_
 replace h:=h hk.1 hk.2.1
 have z1:lZ m_.Next:=ok_len (Ok.agg_at hk.1 2 rfl)
 have z2:lZ m_.Out:=ok_len (Ok.agg_at hk.1 3 rfl)
 unfold minimize_refine at h
 conv=>whnf
 refine Nf.mk (List.length m_.Next) len_map ?_
 conv=>whnf
 obtain ⟨c51,h⟩:=chk_some h
 refine Side.mk c51 ?_
 conv=>whnf
 refine Nf.mk (List.map cI (List.replicate (List.length m_.Next) 0)) (rep_map (c:=cI) (z:=0) (n:=(List.length m_.Next)) rfl rfl) ?_
 conv=>whnf
 refine Nf.mk (List.length m_.Next) len_map ?_
 conv=>whnf
 obtain ⟨oc,hc,hk52⟩:=bind_some h
 clear h
 have h:=hc
 clear hc
 refine Cut.mkS oc (Y:=List Int) (fun class67=>mkSt [(1,.im (nI k_)),(2,.im (.ref (c_api_Mealy m_))),(6,.im (nL cI class67))] [] []) (fun class67=>lZ class67∧True) (by rintro class67;exact ((Holds.avl 6 rfl).and (hT))) ?_ ?_
 conv=>whnf
 refine Loops.iter (fun (s:List Int×Int×Nat)=>minimize_refine.s2 m_ k_ s.1 s.2.1 s.2.2) (fun (class71,n72,y73)=>mkSt [(1,.im (nI k_)),(2,.im (.ref (c_api_Mealy m_))),(6,.im (nL cI class71)),(7,.im (nI n72)),(20,.im (nI (min (max k_ 0) (↑(List.length m_.Next):Int)))),(21,.im (nI (↑y73:Int)))] [] []) (fun (class71,n72,y73)=>lZ class71∧True) h (eA []) (by rintro ⟨class71,n72,y73⟩;exact ((Holds.avl 6 rfl).and (hT))) ?_
 clear h
 rintro k ⟨class71,n72,y73⟩ o hp h ho77
 replace h:minimize_refine.s2 m_ k_ class71 n72 y73=some o:=h
 unfold minimize_refine.s2 at h
 obtain ⟨z81,_⟩:=hp
 conv=>whnf
 refine Both.mk ?_ ?_<;>intro b78
 obtain ⟨h,b78d⟩:=ctd b78 h
 conv=>whnf
 obtain ⟨c79,hc79,h⟩:=bind_some h
 refine ⟨_,(sp_minimize_next m_ class71 c79 (fun _ _=>hc79)),?_⟩
 conv=>whnf
 refine Both.mk ?_ ?_<;>intro b80
 obtain ⟨h,b80d⟩:=ctd b80 h
 conv=>whnf
 cases h
 have ho77:_=_:=ho77
 cases ho77
 replace h:some _=some _:=hk52
 cases h
 conv=>whnf
 exact ⟨rfl,rfl⟩
 obtain ⟨h,b80d⟩:=cfd b80 h
 conv=>whnf
 refine Arith.mk (by show inR _;unfold inR;omega) ?_
 conv=>whnf
 cases h
 exact Nxt.mk _ ho77 (eA [])
 obtain ⟨h,b78d⟩:=cfd b78 h
 conv=>whnf
 cases h
 have ho77:_=_:=ho77
 cases ho77
 exact JoinS.mk' _ rfl (eA [])
 rintro class67 rfl hp
 replace h:=sum_inl hk52
 obtain ⟨z82,_⟩:=hp
 conv=>whnf
 refine Nf.mk (List.length m_.Next) len_map ?_
 conv=>whnf
 cases h
 conv=>whnf
 exact ⟨rfl,rfl⟩
theorem sp_minimize_Partition (m_:T_api_Mealy) (k_:Int) (r:List Int×Int) (h:Ok (.agg (c_api_Mealy m_))→Ok (nI k_)→minimize_Partition m_ k_=some r):Sp Try.prog 75 [.im (.agg (c_api_Mealy m_)),.im (nI k_)] (.tup [nL cI r.1,nI r.2]):=by
 refine sp_of rfl [700002] rfl rfl rfl (Nat.le_of_ble_eq_true rfl) rfl fun hk=>?_
 replace h:=h hk.1 hk.2.1
 have z1:lZ m_.Next:=ok_len (Ok.agg_at hk.1 2 rfl)
 have z2:lZ m_.Out:=ok_len (Ok.agg_at hk.1 3 rfl)
 unfold minimize_Partition at h
 conv=>whnf
 obtain ⟨c51,hc51,h⟩:=bind_some h
 refine ⟨_,(sp_mealy_Valid m_ c51 (fun _=>hc51)),?_⟩
 conv=>whnf
 refine Both.mk ?_ ?_<;>intro b52
 obtain ⟨h,b52d⟩:=ctd b52 h
 conv=>whnf
 cases h
 conv=>whnf
 exact ⟨rfl,rfl⟩
 obtain ⟨h,b52d⟩:=cfd b52 h
 conv=>whnf
 obtain ⟨c53,hc53,h⟩:=bind_some h
 refine ⟨_,(sp_minimize_refine m_ k_ c53 (fun _ _=>hc53)),?_⟩
 conv=>whnf
 cases h
 conv=>whnf
 exact ⟨rfl,rfl⟩
theorem sp_minimize_Classes (m_:T_api_Mealy) (r:List Int×Int) (h:Ok (.agg (c_api_Mealy m_))→minimize_Classes m_=some r):Sp Try.prog 53 [.im (.agg (c_api_Mealy m_))] (.tup [nL cI r.1,nI r.2]):=by
 refine sp_of rfl [700001] rfl rfl rfl (Nat.le_of_ble_eq_true rfl) rfl fun hk=>?_
 replace h:=h hk.1
 have z1:lZ m_.Next:=ok_len (Ok.agg_at hk.1 2 rfl)
 have z2:lZ m_.Out:=ok_len (Ok.agg_at hk.1 3 rfl)
 unfold minimize_Classes at h
 conv=>whnf
 obtain ⟨c51,hc51,h⟩:=bind_some h
 refine ⟨_,(sp_minimize_Partition m_ 128 c51 (fun _ _=>hc51)),?_⟩
 conv=>whnf
 cases h
 conv=>whnf
 exact ⟨rfl,rfl⟩
theorem sp_minimize_Min (m_:T_api_Mealy) (r:T_api_Mealy×Int) (h:Ok (.agg (c_api_Mealy m_))→minimize_Min m_=some r):Sp Try.prog 28 [.im (.agg (c_api_Mealy m_))] (.tup [.agg (c_api_Mealy r.1),nI r.2]):=by
 refine sp_of rfl [72,700001] rfl rfl rfl (Nat.le_of_ble_eq_true rfl) rfl fun hk=>?_
 replace h:=h hk.1
 have z1:lZ m_.Next:=ok_len (Ok.agg_at hk.1 2 rfl)
 have z2:lZ m_.Out:=ok_len (Ok.agg_at hk.1 3 rfl)
 unfold minimize_Min at h
 conv=>whnf
 obtain ⟨c51,hc51,h⟩:=bind_some h
 refine ⟨_,(sp_mealy_Trim m_ c51 (fun _=>hc51)),?_⟩
 conv=>whnf
 refine Side.mk rfl ?_
 conv=>whnf
 refine Both.mk ?_ ?_<;>intro b52
 obtain ⟨h,b52d⟩:=ctd b52 h
 conv=>whnf
 refine Side.mk rfl ?_
 conv=>whnf
 cases h
 conv=>whnf
 refine Side.mk ⟨rfl,trivial⟩ ?_
 conv=>whnf
 exact ⟨rfl,rfl⟩
 obtain ⟨h,b52d⟩:=cfd b52 h
 conv=>whnf
 refine Side.mk rfl ?_
 conv=>whnf
 obtain ⟨c53,hc53,h⟩:=bind_some h
 refine ⟨_,(sp_minimize_Classes c51.1 c53 (fun _=>hc53)),?_⟩
 conv=>whnf
 refine Both.mk ?_ ?_<;>intro b54
 obtain ⟨h,b54d⟩:=ctd b54 h
 conv=>whnf
 refine Side.mk rfl ?_
 conv=>whnf
 cases h
 conv=>whnf
 refine Side.mk ⟨rfl,trivial⟩ ?_
 conv=>whnf
 exact ⟨rfl,rfl⟩
 obtain ⟨h,b54d⟩:=cfd b54 h
 conv=>whnf
 refine Side.mk rfl ?_
 conv=>whnf
 refine Side.mk rfl ?_
 conv=>whnf
 refine Side.mk rfl ?_
 conv=>whnf
 refine Nf.mk (List.length c53.1) len_map ?_
 conv=>whnf
 obtain ⟨⟨y418,y419⟩,hc,hk55⟩:=bind_some h
 clear h
 have h:=hc
 clear hc
 refine Cut.mk (mkSt [(2,.own 84 1 0),(7,.own 85 1 0)] [(84,.box 24 4),(85,.box 24 4),(86,.row 26 1 (List.map (cL cI) y418)),(87,.row 26 1 (List.map (cL cI) y419))] [(84,0,.im (nI 0)),(84,1,.im (nI 0)),(84,2,.im (.val (.slice none 0 0))),(84,3,.im (.val (.slice none 0 0))),(85,0,.im (nI c51.1.Inputs)),(85,1,.im (nI 0)),(85,2,.osl 86 1),(85,3,.osl 87 1)]) (lZ y418∧lZ y419∧True) ((Holds.kdl 86 rfl).and ((Holds.kdl 87 rfl).and (hT))) ?_ (fun hp=>?_)
 conv=>whnf
 refine Loops.iter (fun (s:List (List Int)×List (List Int)×Nat)=>minimize_Min.s32 c51 c53 s.1 s.2.1 s.2.2) (fun (y527,y528,y529)=>mkSt [(2,.own 84 1 0),(4,.own 85 1 0),(6,.im (nL cI c53.1)),(7,.own 86 1 0),(34,.im (nL cI c53.1)),(35,.im (nI (↑(List.length c53.1):Int))),(36,.im (nI (↑y529:Int)))] [(84,.box 24 4),(85,.box 24 4),(86,.box 24 4),(87,.row 26 1 (List.map (cL cI) y527)),(88,.row 26 1 (List.map (cL cI) y528))] [(84,0,.im (nI 0)),(84,1,.im (nI 0)),(84,2,.im (.val (.slice none 0 0))),(84,3,.im (.val (.slice none 0 0))),(85,0,.im (nI c51.1.Inputs)),(85,1,.im (nI c51.1.Start)),(85,2,.im (nL (cL cI) c51.1.Next)),(85,3,.im (nL (cL cI) c51.1.Out)),(86,0,.im (nI c51.1.Inputs)),(86,1,.im (nI 0)),(86,2,.osl 87 1),(86,3,.osl 88 1)]) (fun (y527,y528,y529)=>lZ c53.1∧lZ c51.1.Next∧lZ c51.1.Out∧lZ y527∧lZ y528∧True) h (Ent.mk [(84,some 2),(85,some 4),(86,some 7),(87,none),(88,none)] rfl ⟨⟨.own 2 _ 0,rfl,.own rfl rfl rfl⟩,⟨.own 4 _ 0,rfl,.own rfl rfl rfl⟩,eI rfl rfl,⟨.own 7 _ 0,rfl,.own rfl rfl rfl⟩,eI rfl rfl,eI rfl rfl,eI rfl rfl,trivial⟩ ⟨.inl ⟨2,rfl,rfl,trivial⟩,.inl ⟨4,rfl,rfl,trivial⟩,.inl ⟨7,rfl,rfl,trivial⟩,.inr ⟨rfl,rfl,.inl ⟨_,_,rfl,by decide⟩⟩,.inr ⟨rfl,rfl,.inl ⟨_,_,rfl,by decide⟩⟩,trivial⟩ ⟨⟨2,.im _,rfl,rfl,.im (Sub.rfl' rfl)⟩,⟨2,.im _,rfl,rfl,.im (Sub.rfl' rfl)⟩,⟨2,.im (.val (.slice none 0 0)),rfl,rfl,.im (Sub.rfl' rfl)⟩,⟨2,.im (.val (.slice none 0 0)),rfl,rfl,.im (Sub.rfl' rfl)⟩,⟨4,.im _,rfl,rfl,.im (Sub.rfl' rfl)⟩,⟨4,.im _,rfl,rfl,.im (Sub.rfl' rfl)⟩,⟨4,.im _,rfl,rfl,.im (Sub.rfl' rfl)⟩,⟨4,.im _,rfl,rfl,.im (Sub.rfl' rfl)⟩,⟨7,.im _,rfl,rfl,.im (Sub.rfl' rfl)⟩,⟨7,.im _,rfl,rfl,.im (Sub.rfl' rfl)⟩,⟨7,.im (.val (.slice none 0 0)),rfl,rfl,.made rfl rfl⟩,⟨7,.im (.val (.slice none 0 0)),rfl,rfl,.made rfl rfl⟩,trivial⟩) (by rintro ⟨y527,y528,y529⟩;exact ((Holds.avl 6 rfl).and ((Holds.cel 85 2 rfl (by decide) rfl).and ((Holds.cel 85 3 rfl (by decide) rfl).and ((Holds.kdl 87 rfl).and ((Holds.kdl 88 rfl).and (hT))))))) ?_
 clear h
 rintro k ⟨y527,y528,y529⟩ o hp h ho653
 replace h:minimize_Min.s32 c51 c53 y527 y528 y529=some o:=h
 unfold minimize_Min.s32 at h
 obtain ⟨z777,z778,z779,z780,z781,_⟩:=hp
 conv=>whnf
 refine Both.mk ?_ ?_<;>intro b654
 obtain ⟨h,b654d⟩:=ctd b654 h
 conv=>whnf
 obtain ⟨⟨y713,y714⟩,hc,hk655⟩:=bind_some h
 clear h
 have h:=hc
 clear hc
 refine Cut.mk (mkSt [(2,.own 84 1 0),(4,.own 85 1 0),(6,.im (nL cI c53.1)),(7,.own 86 1 0),(34,.im (nL cI c53.1)),(35,.im (nI (↑(List.length c53.1):Int))),(36,.im (nI (↑y529:Int)))] [(84,.box 24 4),(85,.box 24 4),(86,.box 24 4),(87,.row 26 1 (List.map (cL cI) y713)),(88,.row 26 1 (List.map (cL cI) y714))] [(84,0,.im (nI 0)),(84,1,.im (nI 0)),(84,2,.im (.val (.slice none 0 0))),(84,3,.im (.val (.slice none 0 0))),(85,0,.im (nI c51.1.Inputs)),(85,1,.im (nI c51.1.Start)),(85,2,.im (nL (cL cI) c51.1.Next)),(85,3,.im (nL (cL cI) c51.1.Out)),(86,0,.im (nI c51.1.Inputs)),(86,1,.im (nI 0)),(86,2,.osl 87 1),(86,3,.osl 88 1)]) (lZ c53.1∧lZ c51.1.Next∧lZ c51.1.Out∧lZ y713∧lZ y714∧True) ((Holds.avl 6 rfl).and ((Holds.cel 85 2 rfl (by decide) rfl).and ((Holds.cel 85 3 rfl (by decide) rfl).and ((Holds.kdl 87 rfl).and ((Holds.kdl 88 rfl).and (hT)))))) ?_ (fun hp=>?_)
 conv=>whnf
 obtain ⟨e715,he715,h⟩:=idxn_some h
 refine ⟨_,⟨(by omega),map_at he715,rfl⟩,?_⟩
 conv=>whnf
 refine Side.mk rfl ?_
 conv=>whnf
 refine Side.mk rfl ?_
 conv=>whnf
 refine Side.mk rfl ?_
 conv=>whnf
 refine Nf.mk (List.length y527) len_map ?_
 conv=>whnf
 refine Both.mk ?_ ?_<;>intro b716
 obtain ⟨h,b716d⟩:=ctd b716 h
 conv=>whnf
 cases h
 exact Join.mk (eA [(84,some 84),(85,some 85),(86,some 86),(87,some 87),(88,some 88)])
 obtain ⟨h,b716d⟩:=cfd b716 h
 conv=>whnf
 refine Side.mk rfl ?_
 conv=>whnf
 refine Side.mk rfl ?_
 conv=>whnf
 obtain ⟨e717,he717,h⟩:=idxn_some h
 refine ⟨_,⟨(by omega),map_at he717,rfl⟩,?_⟩
 conv=>whnf
 refine Nf.mk (List.length e717) len_map ?_
 conv=>whnf
 obtain ⟨y740,hc,hk718⟩:=bind_some h
 clear h
 have h:=hc
 clear hc
 refine Cut.mk (mkSt [(2,.own 84 1 0),(4,.own 85 1 0),(6,.im (nL cI c53.1)),(7,.own 86 1 0),(8,.im (nI (↑y529:Int))),(10,.osl 89 1),(34,.im (nL cI c53.1)),(35,.im (nI (↑(List.length c53.1):Int))),(36,.im (nI (↑y529:Int)))] [(84,.box 24 4),(85,.box 24 4),(86,.box 24 4),(87,.row 26 1 (List.map (cL cI) y527)),(88,.row 26 1 (List.map (cL cI) y528)),(89,.row 3 1 (List.map cI y740))] [(84,0,.im (nI 0)),(84,1,.im (nI 0)),(84,2,.im (.val (.slice none 0 0))),(84,3,.im (.val (.slice none 0 0))),(85,0,.im (nI c51.1.Inputs)),(85,1,.im (nI c51.1.Start)),(85,2,.im (nL (cL cI) c51.1.Next)),(85,3,.im (nL (cL cI) c51.1.Out)),(86,0,.im (nI c51.1.Inputs)),(86,1,.im (nI 0)),(86,2,.osl 87 1),(86,3,.osl 88 1)]) (lZ c53.1∧lZ c51.1.Next∧lZ c51.1.Out∧lZ y527∧lZ y528∧lZ y740∧True) ((Holds.avl 6 rfl).and ((Holds.cel 85 2 rfl (by decide) rfl).and ((Holds.cel 85 3 rfl (by decide) rfl).and ((Holds.kdl 87 rfl).and ((Holds.kdl 88 rfl).and ((Holds.kdl 89 rfl).and (hT))))))) ?_ (fun hp=>?_)
 conv=>whnf
 refine Loops.iter (fun (s:List Int×Nat)=>minimize_Min.s30 c53 e717 s.1 s.2) (fun (y744,y745)=>mkSt [(2,.own 84 1 0),(4,.own 85 1 0),(6,.im (nL cI c53.1)),(7,.own 86 1 0),(8,.im (nI (↑y529:Int))),(10,.osl 89 1),(34,.im (nL cI c53.1)),(35,.im (nI (↑(List.length c53.1):Int))),(36,.im (nI (↑y529:Int))),(50,.im (nL cI e717)),(51,.im (nI (↑(List.length e717):Int))),(52,.im (nI (↑y745:Int)))] [(84,.box 24 4),(85,.box 24 4),(86,.box 24 4),(87,.row 26 1 (List.map (cL cI) y527)),(88,.row 26 1 (List.map (cL cI) y528)),(89,.row 3 1 (List.map cI y744))] [(84,0,.im (nI 0)),(84,1,.im (nI 0)),(84,2,.im (.val (.slice none 0 0))),(84,3,.im (.val (.slice none 0 0))),(85,0,.im (nI c51.1.Inputs)),(85,1,.im (nI c51.1.Start)),(85,2,.im (nL (cL cI) c51.1.Next)),(85,3,.im (nL (cL cI) c51.1.Out)),(86,0,.im (nI c51.1.Inputs)),(86,1,.im (nI 0)),(86,2,.osl 87 1),(86,3,.osl 88 1)]) (fun (y744,y745)=>lZ c53.1∧lZ e717∧lZ c51.1.Next∧lZ c51.1.Out∧lZ y527∧lZ y528∧lZ y744∧True) h (eA [(84,some 84),(85,some 85),(86,some 86),(87,some 87),(88,some 88),(89,none)]) (by rintro ⟨y744,y745⟩;exact ((Holds.avl 6 rfl).and ((Holds.avl 50 rfl).and ((Holds.cel 85 2 rfl (by decide) rfl).and ((Holds.cel 85 3 rfl (by decide) rfl).and ((Holds.kdl 87 rfl).and ((Holds.kdl 88 rfl).and ((Holds.kdl 89 rfl).and (hT))))))))) ?_
 clear h
 rintro k ⟨y744,y745⟩ o hp h ho750
 replace h:minimize_Min.s30 c53 e717 y744 y745=some o:=h
 unfold minimize_Min.s30 at h
 obtain ⟨z755,z756,z757,z758,z759,z760,z761,_⟩:=hp
 conv=>whnf
 refine Both.mk ?_ ?_<;>intro b751
 obtain ⟨h,b751d⟩:=ctd b751 h
 conv=>whnf
 obtain ⟨e752,he752,h⟩:=idxn_some h
 refine ⟨_,⟨(by omega),map_at he752,rfl⟩,?_⟩
 conv=>whnf
 obtain ⟨e753,he753z,he753,h⟩:=idx_some h
 refine ⟨_,⟨he753z,map_at he753,rfl⟩,?_⟩
 conv=>whnf
 obtain ⟨c754,h⟩:=chk_some h
 refine Side.mk ⟨rfl,map_len (l:=[e753]) (c:=cI) fun _=>rfl,show capOk _ 8 by simpa only [List.length_map,List.length_cons,List.length_nil,Nat.zero_add] using c754⟩ ?_
 conv=>whnf
 refine Nf.mk (List.map cI (y744++[e753])) (app_map (l:=y744) (m:=[e753]) (c:=cI)) ?_
 conv=>whnf
 refine Arith.mk (by show inR _;unfold inR;omega) ?_
 conv=>whnf
 cases h
 exact Nxt.mk _ ho750 (eA [(84,some 84),(85,some 85),(86,some 86),(87,some 87),(88,some 88),(89,some 89)])
 obtain ⟨h,b751d⟩:=cfd b751 h
 conv=>whnf
 cases h
 have ho750:_=_:=ho750
 cases ho750
 exact Join.mk (eA [(84,some 84),(85,some 85),(86,some 86),(87,some 87),(88,some 88),(89,some 89)])
 replace h:=hk718
 obtain ⟨z762,z763,z764,z765,z766,z767,_⟩:=hp
 conv=>whnf
 refine Side.mk rfl ?_
 conv=>whnf
 refine Side.mk rfl ?_
 conv=>whnf
 refine Side.mk ⟨rfl,trivial⟩ ?_
 conv=>whnf
 obtain ⟨c768,h⟩:=chk_some h
 refine Side.mk ⟨rfl,map_len (l:=[y740]) (c:=cL cI) fun _=>rfl,show capOk _ 24 by simpa only [List.length_map,List.length_cons,List.length_nil,Nat.zero_add] using c768⟩ ?_
 conv=>whnf
 refine Nf.mk (List.map (cL cI) (y527++[y740])) (app_map (l:=y527) (m:=[y740]) (c:=cL cI)) ?_
 conv=>whnf
 refine Side.mk rfl ?_
 conv=>whnf
 refine Side.mk rfl ?_
 conv=>whnf
 refine Side.mk rfl ?_
 conv=>whnf
 refine Side.mk rfl ?_
 conv=>whnf
 refine Side.mk rfl ?_
 conv=>whnf
 refine Side.mk rfl ?_
 conv=>whnf
 obtain ⟨e769,he769,h⟩:=idxn_some h
 refine ⟨_,⟨(by omega),map_at he769,rfl⟩,?_⟩
 conv=>whnf
 obtain ⟨c770,h⟩:=chk_some h
 refine Side.mk ⟨rfl,map_len (l:=e769) (c:=cI) fun _=>rfl,show capOk _ 8 by simpa only [List.length_map,List.length_cons,List.length_nil,Nat.zero_add] using c770⟩ ?_
 conv=>whnf
 refine Nf.mk (List.map cI ([]++e769)) (app_map (l:=[]) (m:=e769) (c:=cI)) ?_
 conv=>whnf
 refine Side.mk ⟨rfl,trivial⟩ ?_
 conv=>whnf
 obtain ⟨c771,h⟩:=chk_some h
 refine Side.mk ⟨rfl,map_len (l:=[([]++e769)]) (c:=cL cI) fun _=>rfl,show capOk _ 24 by simpa only [List.length_map,List.length_cons,List.length_nil,Nat.zero_add] using c771⟩ ?_
 conv=>whnf
 refine Nf.mk (List.map (cL cI) (y528++[([]++e769)])) (app_map (l:=y528) (m:=[([]++e769)]) (c:=cL cI)) ?_
 conv=>whnf
 refine Side.mk rfl ?_
 conv=>whnf
 refine Side.mk rfl ?_
 conv=>whnf
 cases h
 exact Join.mk (eA [(84,some 84),(85,some 85),(86,some 86),(87,some 87),(88,some 88)])
 replace h:minimize_Min.k31 y529 y713 y714=some _:=hk655
 unfold minimize_Min.k31 at h
 obtain ⟨z772,z773,z774,z775,z776,_⟩:=hp
 conv=>whnf
 refine Arith.mk (by show inR _;unfold inR;omega) ?_
 conv=>whnf
 cases h
 exact Nxt.mk _ ho653 (eA [(84,some 84),(85,some 85),(86,some 86),(87,some 87),(88,some 88)])
 obtain ⟨h,b654d⟩:=cfd b654 h
 conv=>whnf
 cases h
 have ho653:_=_:=ho653
 cases ho653
 exact Join.mk (eA [(84,some 84),(85,some 86),(86,some 87),(87,some 88)])
 replace h:minimize_Min.k33 c51 y418 y419=some _:=hk55
 unfold minimize_Min.k33 at h
 obtain ⟨z782,z783,_⟩:=hp
 conv=>whnf
 refine Side.mk rfl ?_
 conv=>whnf
 refine Side.mk rfl ?_
 conv=>whnf
 cases h
 conv=>whnf
 refine Side.mk ⟨rfl,trivial⟩ ?_
 conv=>whnf
 exact Side.mk ⟨rfl,rfl,trivial⟩ ⟨rfl,rfl⟩
theorem sp_cover_places (m_:T_api_Mealy) (from_:Int) (r:List T_cover_place) (h:Ok (.agg (c_api_Mealy m_))→Ok (nI from_)→cover_places m_ from_=some r):Sp Try.prog 90 [.im (.agg (c_api_Mealy m_)),.im (nI from_)] (.row 125 2 (List.map c_cover_place r)):=by
 refine sp_of rfl [19,700002] rfl rfl rfl (Nat.le_of_ble_eq_true rfl) rfl fun hk=>?_
 replace h:=h hk.1 hk.2.1
 have z1:lZ m_.Next:=ok_len (Ok.agg_at hk.1 2 rfl)
 have z2:lZ m_.Out:=ok_len (Ok.agg_at hk.1 3 rfl)
 unfold cover_places at h
 conv=>whnf
 refine Nf.mk (List.length m_.Next) len_map ?_
 conv=>whnf
 obtain ⟨c51,h⟩:=chk_some h
 refine Side.mk c51 ?_
 conv=>whnf
 refine Nf.mk (List.map cB (List.replicate (List.length m_.Next) false)) (rep_map (c:=cB) (z:=false) (n:=(List.length m_.Next)) rfl rfl) ?_
 conv=>whnf
 obtain ⟨e52,he52z,he52,h⟩:=idx_some h
 refine Side.mk ⟨he52z,rfl,map_lt he52⟩ ?_
 conv=>whnf
 refine Side.mk ⟨rfl,trivial⟩ ?_
 conv=>whnf
 refine ⟨_,map_at he52,?_⟩
 conv=>whnf
 refine Nf.mk (List.map cB (List.set (List.replicate (List.length m_.Next) false) from_.toNat true)) (set_map rfl) ?_
 conv=>whnf
 obtain ⟨y270,hc,hk53⟩:=bind_some h
 clear h
 have h:=hc
 clear hc
 refine Cut.mk (mkSt [(6,.osl 65 1)] [(65,.row 125 2 (List.map c_cover_place y270))] []) (lZ y270∧True) ((Holds.kdl 65 rfl).and (hT)) ?_ (fun hp=>?_)
 conv=>whnf
 refine Loops.iter (fun (s:List Bool×List T_cover_place×Nat)=>cover_places.s20 m_ s.1 s.2.1 s.2.2) (fun (y341,y342,i343)=>mkSt [(2,.im (.ref (c_api_Mealy m_))),(5,.osl 65 1),(6,.osl 66 1),(7,.im (nI (↑i343:Int)))] [(65,.row 4 1 (List.map cB y341)),(66,.row 125 2 (List.map c_cover_place y342))] []) (fun (y341,y342,i343)=>lZ y341∧lZ y342∧True) h (eA [(65,some 13),(66,some 19)]) (by rintro ⟨y341,y342,i343⟩;exact ((Holds.kdl 65 rfl).and ((Holds.kdl 66 rfl).and (hT)))) ?_
 clear h
 rintro k ⟨y341,y342,i343⟩ o hp h ho414
 replace h:cover_places.s20 m_ y341 y342 i343=some o:=h
 unfold cover_places.s20 at h
 obtain ⟨z485,z486,_⟩:=hp
 conv=>whnf
 refine Side.mk rfl ?_
 conv=>whnf
 refine Nf.mk (List.length y342) len_map ?_
 conv=>whnf
 refine Both.mk ?_ ?_<;>intro b415
 obtain ⟨h,b415d⟩:=ctd b415 h
 conv=>whnf
 obtain ⟨e416,he416,h⟩:=idxn_some h
 refine Side.mk ⟨(by omega),rfl,map_lt he416⟩ ?_
 conv=>whnf
 refine Side.mk rfl ?_
 conv=>whnf
 refine ⟨_,_,⟨rfl,map_at he416,rfl,rfl⟩,?_⟩
 conv=>whnf
 obtain ⟨e417,he417z,he417,h⟩:=idx_some h
 refine ⟨_,⟨he417z,map_at he417,rfl⟩,?_⟩
 conv=>whnf
 refine Nf.mk (List.length e417) len_map ?_
 conv=>whnf
 obtain ⟨⟨y450,y451⟩,hc,hk418⟩:=bind_some h
 clear h
 have h:=hc
 clear hc
 refine Cut.mk (mkSt [(2,.im (.ref (c_api_Mealy m_))),(5,.osl 65 1),(6,.osl 66 1),(7,.im (nI (↑i343:Int)))] [(65,.row 4 1 (List.map cB y450)),(66,.row 125 2 (List.map c_cover_place y451))] []) (lZ y450∧lZ y451∧True) ((Holds.kdl 65 rfl).and ((Holds.kdl 66 rfl).and (hT))) ?_ (fun hp=>?_)
 conv=>whnf
 refine Loops.iter (fun (s:List Bool×List T_cover_place×Nat)=>cover_places.s18 i343 e417 s.1 s.2.1 s.2.2) (fun (y460,y461,y462)=>mkSt [(2,.im (.ref (c_api_Mealy m_))),(5,.osl 65 1),(6,.osl 66 1),(7,.im (nI (↑i343:Int))),(34,.im (nL cI e417)),(35,.im (nI (↑(List.length e417):Int))),(36,.im (nI (↑y462:Int)))] [(65,.row 4 1 (List.map cB y460)),(66,.row 125 2 (List.map c_cover_place y461))] []) (fun (y460,y461,y462)=>lZ e417∧lZ y460∧lZ y461∧True) h (eA [(65,some 65),(66,some 66)]) (by rintro ⟨y460,y461,y462⟩;exact ((Holds.avl 34 rfl).and ((Holds.kdl 65 rfl).and ((Holds.kdl 66 rfl).and (hT))))) ?_
 clear h
 rintro k ⟨y460,y461,y462⟩ o hp h ho471
 replace h:cover_places.s18 i343 e417 y460 y461 y462=some o:=h
 unfold cover_places.s18 at h
 obtain ⟨z480,z481,z482,_⟩:=hp
 conv=>whnf
 refine Both.mk ?_ ?_<;>intro b472
 obtain ⟨h,b472d⟩:=ctd b472 h
 conv=>whnf
 obtain ⟨e473,he473,h⟩:=idxn_some h
 refine ⟨_,⟨(by omega),map_at he473,rfl⟩,?_⟩
 conv=>whnf
 obtain ⟨e474,he474z,he474,h⟩:=idx_some h
 refine Side.mk ⟨he474z,rfl,map_lt he474⟩ ?_
 conv=>whnf
 refine ⟨_,_,⟨rfl,map_at he474,rfl,rfl⟩,?_⟩
 conv=>whnf
 refine Both.mk ?_ ?_<;>intro b475
 replace h:=cond_t b475 h
 conv=>whnf
 obtain ⟨e476,he476z,he476,h⟩:=idx_some h
 refine Side.mk ⟨he476z,rfl,map_lt he476⟩ ?_
 conv=>whnf
 refine Side.mk ⟨rfl,trivial⟩ ?_
 conv=>whnf
 refine ⟨_,map_at he476,?_⟩
 conv=>whnf
 refine Nf.mk (List.map cB (List.set y460 e473.toNat true)) (set_map rfl) ?_
 conv=>whnf
 obtain ⟨e477,he477,h⟩:=idxn_some h
 refine Side.mk ⟨(by omega),rfl,map_lt he477⟩ ?_
 conv=>whnf
 refine Side.mk rfl ?_
 conv=>whnf
 refine ⟨_,_,⟨rfl,map_at he477,rfl,rfl⟩,?_⟩
 conv=>whnf
 obtain ⟨c478,hc478,h⟩:=bind_some h
 refine ⟨_,(sp_word_Join [e477.word,[(↑y462:Int)]] c478 (fun _=>hc478)),?_⟩
 conv=>whnf
 obtain ⟨c479,h⟩:=chk_some h
 refine Side.mk ⟨rfl,map_len (l:=[(⟨e473,c478⟩:T_cover_place)]) (c:=c_cover_place) fun _=>rfl,show capOk _ 32 by simpa only [List.length_map,List.length_cons,List.length_nil,Nat.zero_add] using c479⟩ ?_
 conv=>whnf
 refine Nf.mk (List.map c_cover_place (y461++[(⟨e473,c478⟩:T_cover_place)])) (app_map (l:=y461) (m:=[(⟨e473,c478⟩:T_cover_place)]) (c:=c_cover_place)) ?_
 conv=>whnf
 refine Arith.mk (by show inR _;unfold inR;omega) ?_
 conv=>whnf
 cases h
 exact Nxt.mk _ ho471 (eA [(65,some 65),(66,some 66)])
 replace h:=cond_f b475 h
 conv=>whnf
 refine Arith.mk (by show inR _;unfold inR;omega) ?_
 conv=>whnf
 cases h
 exact Nxt.mk _ ho471 (eA [(65,some 65),(66,some 66)])
 obtain ⟨h,b472d⟩:=cfd b472 h
 conv=>whnf
 cases h
 have ho471:_=_:=ho471
 cases ho471
 exact Join.mk (eA [(65,some 65),(66,some 66)])
 replace h:cover_places.k19 i343 y450 y451=some _:=hk418
 unfold cover_places.k19 at h
 obtain ⟨z483,z484,_⟩:=hp
 conv=>whnf
 refine Arith.mk (by show inR _;unfold inR;omega) ?_
 conv=>whnf
 cases h
 exact Nxt.mk _ ho414 (eA [(65,some 65),(66,some 66)])
 obtain ⟨h,b415d⟩:=cfd b415 h
 conv=>whnf
 cases h
 have ho414:_=_:=ho414
 cases ho414
 exact Join.mk (eA [(65,some 66)])
 replace h:=hk53
 obtain ⟨z487,_⟩:=hp
 conv=>whnf
 cases h
 conv=>whnf
 exact Side.mk ⟨rfl,trivial⟩ ⟨rfl,rfl⟩
theorem sp_cover_Access (m_:T_api_Mealy) (r:List Int×List (List Int)×Int) (h:Ok (.agg (c_api_Mealy m_))→cover_Access m_=some r):Sp Try.prog 72 [.im (.agg (c_api_Mealy m_))] (.tup [nL cI r.1,nL (cL cI) r.2.1,nI r.2.2]):=by
 refine sp_of rfl [700001] rfl rfl rfl (Nat.le_of_ble_eq_true rfl) rfl fun hk=>?_
 replace h:=h hk.1
 have z1:lZ m_.Next:=ok_len (Ok.agg_at hk.1 2 rfl)
 have z2:lZ m_.Out:=ok_len (Ok.agg_at hk.1 3 rfl)
 unfold cover_Access at h
 conv=>whnf
 obtain ⟨c51,hc51,h⟩:=bind_some h
 refine ⟨_,(sp_mealy_Valid m_ c51 (fun _=>hc51)),?_⟩
 conv=>whnf
 refine Both.mk ?_ ?_<;>intro b52
 obtain ⟨h,b52d⟩:=ctd b52 h
 conv=>whnf
 cases h
 conv=>whnf
 exact ⟨rfl,rfl⟩
 obtain ⟨h,b52d⟩:=cfd b52 h
 conv=>whnf
 obtain ⟨c53,hc53,h⟩:=bind_some h
 refine ⟨_,(sp_cover_places m_ m_.Start c53 (fun _ _=>hc53)).im,?_⟩
 conv=>whnf
 refine Nf.mk (List.length c53) len_map ?_
 conv=>whnf
 obtain ⟨⟨y72,y73⟩,hc,hk54⟩:=bind_some h
 clear h
 have h:=hc
 clear hc
 refine Cut.mk (mkSt [(6,.osl 64 1),(7,.osl 65 1)] [(64,.row 3 1 (List.map cI y72)),(65,.row 26 1 (List.map (cL cI) y73))] []) (lZ y72∧lZ y73∧True) ((Holds.kdl 64 rfl).and ((Holds.kdl 65 rfl).and (hT))) ?_ (fun hp=>?_)
 conv=>whnf
 refine Loops.iter (fun (s:List Int×List (List Int)×Nat)=>cover_Access.s2 c53 s.1 s.2.1 s.2.2) (fun (y76,y77,y78)=>mkSt [(6,.osl 64 1),(7,.osl 65 1),(18,.im (nL c_cover_place c53)),(19,.im (nI (↑(List.length c53):Int))),(20,.im (nI (↑y78:Int)))] [(64,.row 3 1 (List.map cI y76)),(65,.row 26 1 (List.map (cL cI) y77))] []) (fun (y76,y77,y78)=>lZ c53∧lZ y76∧lZ y77∧True) h (eA [(64,none),(65,none)]) (by rintro ⟨y76,y77,y78⟩;exact ((Holds.avl 18 rfl).and ((Holds.kdl 64 rfl).and ((Holds.kdl 65 rfl).and (hT))))) ?_
 clear h
 rintro k ⟨y76,y77,y78⟩ o hp h ho83
 replace h:cover_Access.s2 c53 y76 y77 y78=some o:=h
 unfold cover_Access.s2 at h
 obtain ⟨z88,z89,z90,_⟩:=hp
 conv=>whnf
 refine Both.mk ?_ ?_<;>intro b84
 obtain ⟨h,b84d⟩:=ctd b84 h
 conv=>whnf
 obtain ⟨e85,he85,h⟩:=idxn_some h
 refine ⟨_,⟨(by omega),map_at he85,rfl⟩,?_⟩
 conv=>whnf
 refine Side.mk rfl ?_
 conv=>whnf
 refine Side.mk rfl ?_
 conv=>whnf
 refine Side.mk rfl ?_
 conv=>whnf
 obtain ⟨c86,h⟩:=chk_some h
 refine Side.mk ⟨rfl,map_len (l:=[e85.state]) (c:=cI) fun _=>rfl,show capOk _ 8 by simpa only [List.length_map,List.length_cons,List.length_nil,Nat.zero_add] using c86⟩ ?_
 conv=>whnf
 refine Nf.mk (List.map cI (y76++[e85.state])) (app_map (l:=y76) (m:=[e85.state]) (c:=cI)) ?_
 conv=>whnf
 refine Side.mk rfl ?_
 conv=>whnf
 refine Side.mk rfl ?_
 conv=>whnf
 obtain ⟨c87,h⟩:=chk_some h
 refine Side.mk ⟨rfl,map_len (l:=[e85.word]) (c:=cL cI) fun _=>rfl,show capOk _ 24 by simpa only [List.length_map,List.length_cons,List.length_nil,Nat.zero_add] using c87⟩ ?_
 conv=>whnf
 refine Nf.mk (List.map (cL cI) (y77++[e85.word])) (app_map (l:=y77) (m:=[e85.word]) (c:=cL cI)) ?_
 conv=>whnf
 refine Arith.mk (by show inR _;unfold inR;omega) ?_
 conv=>whnf
 cases h
 exact Nxt.mk _ ho83 (eA [(64,some 64),(65,some 65)])
 obtain ⟨h,b84d⟩:=cfd b84 h
 conv=>whnf
 cases h
 have ho83:_=_:=ho83
 cases ho83
 exact Join.mk (eA [(64,some 64),(65,some 65)])
 replace h:cover_Access.k3 y72 y73=some _:=hk54
 unfold cover_Access.k3 at h
 obtain ⟨z91,z92,_⟩:=hp
 conv=>whnf
 cases h
 conv=>whnf
 exact Side.mk ⟨rfl,rfl,trivial⟩ ⟨rfl,rfl⟩
theorem sp_cover_StateCover (m_:T_api_Mealy) (r:List (List Int)×Int) (h:Ok (.agg (c_api_Mealy m_))→cover_StateCover m_=some r):Sp Try.prog 49 [.im (.agg (c_api_Mealy m_))] (.tup [nL (cL cI) r.1,nI r.2]):=by
 refine sp_of rfl [700001] rfl rfl rfl (Nat.le_of_ble_eq_true rfl) rfl fun hk=>?_
 replace h:=h hk.1
 have z1:lZ m_.Next:=ok_len (Ok.agg_at hk.1 2 rfl)
 have z2:lZ m_.Out:=ok_len (Ok.agg_at hk.1 3 rfl)
 unfold cover_StateCover at h
 conv=>whnf
 obtain ⟨c51,hc51,h⟩:=bind_some h
 refine ⟨_,(sp_cover_Access m_ c51 (fun _=>hc51)),?_⟩
 conv=>whnf
 cases h
 conv=>whnf
 exact ⟨rfl,rfl⟩
theorem sp_word_Next (w_:List Int) (inputs_:Int) (r:List Int×Bool) (h:Ok (nL cI w_)→Ok (nI inputs_)→word_Next w_ inputs_=some r):Sp Try.prog 73 [.im (nL cI w_),.im (nI inputs_)] (.tup [nL cI r.1,nB r.2]):=by
 refine sp_of rfl [] rfl rfl rfl (Nat.le_of_ble_eq_true rfl) rfl fun hk=>?_
 replace h:=h hk.1 hk.2.1
 have z1:lZ w_:=ok_len hk.1
 unfold word_Next at h
 conv=>whnf
 obtain ⟨c51,hc51,h⟩:=bind_some h
 refine ⟨_,(sp_word_Check w_ inputs_ c51 (fun _ _=>hc51)),?_⟩
 conv=>whnf
 refine Both.mk ?_ ?_<;>intro b52
 obtain ⟨h,b52d⟩:=ctd b52 h
 conv=>whnf
 cases h
 conv=>whnf
 exact ⟨rfl,rfl⟩
 obtain ⟨h,b52d⟩:=cfd b52 h
 conv=>whnf
 obtain ⟨c53,hc53,h⟩:=bind_some h
 refine ⟨_,(sp_lib_Clone_int w_ c53 (hc53)),?_⟩
 conv=>whnf
 refine Side.mk rfl ?_
 conv=>whnf
 refine Nf.mk (List.length c53) len_map ?_
 conv=>whnf
 obtain ⟨c54,h⟩:=chk_some h
 refine Arith.mk c54 ?_
 conv=>whnf
 obtain ⟨oc,hc,hk55⟩:=bind_some h
 clear h
 have h:=hc
 clear hc
 refine Cut.mkS oc (Y:=List Int) (fun y87=>mkSt [(6,.osl 64 1)] [(64,.row 3 1 (List.map cI y87))] []) (fun y87=>lZ y87∧True) (by rintro y87;exact ((Holds.kdl 64 rfl).and (hT))) ?_ ?_
 conv=>whnf
 refine Loops.iter (fun (s:List Int×Int)=>word_Next.s2 inputs_ s.1 s.2) (fun (y97,i98)=>mkSt [(1,.im (nI inputs_)),(6,.osl 64 1),(7,.im (nI i98))] [(64,.row 3 1 (List.map cI y97))] []) (fun (y97,i98)=>lZ y97∧True) h (eA [(64,some 13)]) (by rintro ⟨y97,i98⟩;exact ((Holds.kdl 64 rfl).and (hT))) ?_
 clear h
 rintro k ⟨y97,i98⟩ o hp h ho108
 replace h:word_Next.s2 inputs_ y97 i98=some o:=h
 unfold word_Next.s2 at h
 obtain ⟨z118,_⟩:=hp
 conv=>whnf
 refine Both.mk ?_ ?_<;>intro b109
 obtain ⟨h,b109d⟩:=ctd b109 h
 conv=>whnf
 obtain ⟨e110,he110z,he110,h⟩:=idx_some h
 refine Side.mk ⟨he110z,rfl,map_lt he110⟩ ?_
 conv=>whnf
 refine ⟨_,_,⟨rfl,map_at he110,rfl,rfl⟩,?_⟩
 conv=>whnf
 obtain ⟨c111,h⟩:=chk_some h
 refine Arith.mk c111 ?_
 conv=>whnf
 refine Both.mk ?_ ?_<;>intro b112
 obtain ⟨h,b112d⟩:=ctd b112 h
 conv=>whnf
 obtain ⟨e113,he113z,he113,h⟩:=idx_some h
 refine Side.mk ⟨he113z,rfl,map_lt he113⟩ ?_
 conv=>whnf
 refine ⟨_,_,⟨rfl,map_at he113,rfl,rfl⟩,?_⟩
 conv=>whnf
 obtain ⟨c114,h⟩:=chk_some h
 refine Arith.mk c114 ?_
 conv=>whnf
 obtain ⟨e115,he115z,he115,h⟩:=idx_some h
 refine Side.mk ⟨he115z,rfl,map_lt he115⟩ ?_
 conv=>whnf
 refine Side.mk ⟨rfl,trivial⟩ ?_
 conv=>whnf
 refine ⟨_,map_at he115,?_⟩
 conv=>whnf
 refine Nf.mk (List.map cI (List.set y97 i98.toNat (e113+1))) (set_map rfl) ?_
 conv=>whnf
 cases h
 have ho108:_=_:=ho108
 cases ho108
 replace h:some _=some _:=hk55
 cases h
 conv=>whnf
 exact Side.mk ⟨rfl,trivial⟩ ⟨rfl,rfl⟩
 obtain ⟨h,b112d⟩:=cfd b112 h
 conv=>whnf
 obtain ⟨e116,he116z,he116,h⟩:=idx_some h
 refine Side.mk ⟨he116z,rfl,map_lt he116⟩ ?_
 conv=>whnf
 refine Side.mk ⟨rfl,trivial⟩ ?_
 conv=>whnf
 refine ⟨_,map_at he116,?_⟩
 conv=>whnf
 refine Nf.mk (List.map cI (List.set y97 i98.toNat 0)) (set_map rfl) ?_
 conv=>whnf
 obtain ⟨c117,h⟩:=chk_some h
 refine Arith.mk c117 ?_
 conv=>whnf
 cases h
 exact Nxt.mk _ ho108 (eA [(64,some 64)])
 obtain ⟨h,b109d⟩:=cfd b109 h
 conv=>whnf
 cases h
 have ho108:_=_:=ho108
 cases ho108
 exact JoinS.mk' _ rfl (eA [(64,some 64)])
 rintro y87 rfl hp
 replace h:=sum_inl hk55
 obtain ⟨z119,_⟩:=hp
 conv=>whnf
 refine Side.mk rfl ?_
 conv=>whnf
 refine Nf.mk (List.length y87) len_map ?_
 conv=>whnf
 refine Both.mk ?_ ?_<;>intro b120
 obtain ⟨h,b120d⟩:=ctd b120 h
 conv=>whnf
 cases h
 conv=>whnf
 exact ⟨rfl,rfl⟩
 obtain ⟨h,b120d⟩:=cfd b120 h
 conv=>whnf
 obtain ⟨c121,h⟩:=chk_some h
 refine Side.mk ⟨rfl,map_len (l:=[0]) (c:=cI) fun _=>rfl,show capOk _ 8 by simpa only [List.length_map,List.length_cons,List.length_nil,Nat.zero_add] using c121⟩ ?_
 conv=>whnf
 refine Nf.mk (List.map cI (y87++[0])) (app_map (l:=y87) (m:=[0]) (c:=cI)) ?_
 conv=>whnf
 cases h
 conv=>whnf
 exact Side.mk ⟨rfl,trivial⟩ ⟨rfl,rfl⟩
theorem sp_wordset_Upto (inputs_:Int) (n_:Int) (r:List (List Int)×Int) (h:Ok (nI inputs_)→Ok (nI n_)→wordset_Upto inputs_ n_=some r):Sp Try.prog 50 [.im (nI inputs_),.im (nI n_)] (.tup [nL (cL cI) r.1,nI r.2]):=by
 refine sp_of rfl [] rfl rfl rfl (Nat.le_of_ble_eq_true rfl) rfl fun hk=>?_
 replace h:=h hk.1 hk.2.1
 unfold wordset_Upto at h
 conv=>whnf
 obtain ⟨y56,hc,hk52⟩:=bind_some h
 clear h
 have h:=hc
 clear hc
 refine Cut.mk (mkSt [(0,.im (nI inputs_)),(1,.im (nI n_)),(19,.im (nB y56))] [] []) (True) (hT) ?_ (fun hp=>?_)
 conv=>whnf
 obtain ⟨c57,hc57,h⟩:=bind_some h
 refine ⟨_,(sp_word_Check [] inputs_ c57 (fun _ _=>hc57)),?_⟩
 conv=>whnf
 refine Both.mk ?_ ?_<;>intro b58
 replace b58:=beq_ff b58
 obtain ⟨h,b58d⟩:=cfd b58 h
 conv=>whnf
 refine Both.yes (ff_beq b58) ?_
 conv=>whnf
 refine Both.no b58 ?_
 conv=>whnf
 refine Both.mk ?_ ?_<;>intro b59
 replace b59:=beq_ff b59
 obtain ⟨h,b59d⟩:=cfd b59 h
 conv=>whnf
 refine Both.yes (ff_beq b59) ?_
 conv=>whnf
 refine Both.no b59 ?_
 conv=>whnf
 cases h
 exact Join.mk (eA [])
 replace b59:=beq_ft b59
 obtain ⟨h,b59d⟩:=ctd b59 h
 conv=>whnf
 refine Both.no (tf_beq b59) ?_
 conv=>whnf
 refine Both.yes b59 ?_
 conv=>whnf
 cases h
 exact Join.mk (eA [])
 replace b58:=beq_ft b58
 obtain ⟨h,b58d⟩:=ctd b58 h
 conv=>whnf
 refine Both.no (tf_beq b58) ?_
 conv=>whnf
 refine Both.yes b58 ?_
 conv=>whnf
 iterate 2 (refine Both.no rfl ?_;(conv=>whnf))
 refine Both.yes rfl ?_
 conv=>whnf
 cases h
 exact Join.mk (eA [])
 replace h:=hk52
 conv=>whnf
 refine Both.mk ?_ ?_<;>intro b60
 replace h:=cond_t b60 h
 conv=>whnf
 cases h
 conv=>whnf
 exact ⟨rfl,rfl⟩
 replace h:=cond_f b60 h
 conv=>whnf
 obtain ⟨oc,hc,hk61⟩:=bind_some h
 clear h
 have h:=hc
 clear hc
 refine Cut.mkS oc (Y:=List (List Int)) (fun y95=>mkSt [(6,.osl 64 1)] [(64,.row 26 1 (List.map (cL cI) y95))] []) (fun y95=>lZ y95∧True) (by rintro y95;exact ((Holds.kdl 64 rfl).and (hT))) ?_ ?_
 conv=>whnf
 refine Loops.iter (fun (s:List (List Int)×List Int×Bool)=>wordset_Upto.s2 inputs_ n_ s.1 s.2.1 s.2.2) (fun (y101,w102,ok103)=>mkSt [(0,.im (nI inputs_)),(1,.im (nI n_)),(6,.osl 64 1),(7,.im (nL cI w102)),(8,.im (nB ok103))] [(64,.row 26 1 (List.map (cL cI) y101))] []) (fun (y101,w102,ok103)=>lZ w102∧lZ y101∧True) h (Ent.mk [(64,none)] rfl ⟨eI rfl rfl,eI rfl rfl,⟨.im (.val (.slice none 0 0)),rfl,.made rfl rfl⟩,⟨.im (.val (.slice none 0 0)),rfl,.im (Sub.nz' rfl)⟩,eI rfl rfl,trivial⟩ ⟨.inr ⟨rfl,rfl,.inl ⟨_,_,rfl,by decide⟩⟩,trivial⟩ trivial) (by rintro ⟨y101,w102,ok103⟩;exact ((Holds.avl 7 rfl).and ((Holds.kdl 64 rfl).and (hT)))) ?_
 clear h
 rintro k ⟨y101,w102,ok103⟩ o hp h ho115
 replace h:wordset_Upto.s2 inputs_ n_ y101 w102 ok103=some o:=h
 unfold wordset_Upto.s2 at h
 obtain ⟨z127,z128,_⟩:=hp
 conv=>whnf
 obtain ⟨y119,hc,hk117⟩:=bind_some h
 clear h
 have h:=hc
 clear hc
 refine Cut.mk (mkSt [(0,.im (nI inputs_)),(1,.im (nI n_)),(6,.osl 64 1),(7,.im (nL cI w102)),(26,.im (nB y119))] [(64,.row 26 1 (List.map (cL cI) y101))] []) (lZ w102∧lZ y101∧True) ((Holds.avl 7 rfl).and ((Holds.kdl 64 rfl).and (hT))) ?_ (fun hp=>?_)
 conv=>whnf
 refine Both.mk ?_ ?_<;>intro b120
 replace b120:=beq_tt b120
 replace h:=cond_t b120 h
 conv=>whnf
 refine Both.yes (tt_beq b120) ?_
 conv=>whnf
 refine Nf.mk (List.length w102) len_map ?_
 conv=>whnf
 iterate 2 (refine Both.yes (tt_beq b120) ?_;(conv=>whnf))
 refine Both.yes b120 ?_
 conv=>whnf
 cases h
 exact Join.mk (eA [(64,some 64)])
 replace b120:=beq_tf b120
 replace h:=cond_f b120 h
 conv=>whnf
 iterate 3 (refine Both.no (ft_beq b120) ?_;(conv=>whnf))
 refine Both.no b120 ?_
 conv=>whnf
 cases h
 exact Join.mk (eA [(64,some 64)])
 replace h:=hk117
 obtain ⟨z121,z122,_⟩:=hp
 conv=>whnf
 refine Both.mk ?_ ?_<;>intro b123
 replace h:=cond_t b123 h
 conv=>whnf
 refine Side.mk rfl ?_
 conv=>whnf
 refine Nf.mk (List.length y101) len_map ?_
 conv=>whnf
 refine Both.mk ?_ ?_<;>intro b124
 obtain ⟨h,b124d⟩:=ctd b124 h
 conv=>whnf
 cases h
 have ho115:_=_:=ho115
 cases ho115
 replace h:some _=some _:=hk61
 cases h
 conv=>whnf
 exact ⟨rfl,rfl⟩
 obtain ⟨h,b124d⟩:=cfd b124 h
 conv=>whnf
 obtain ⟨c125,h⟩:=chk_some h
 refine Side.mk ⟨rfl,map_len (l:=[w102]) (c:=cL cI) fun _=>rfl,show capOk _ 24 by simpa only [List.length_map,List.length_cons,List.length_nil,Nat.zero_add] using c125⟩ ?_
 conv=>whnf
 refine Nf.mk (List.map (cL cI) (y101++[w102])) (app_map (l:=y101) (m:=[w102]) (c:=cL cI)) ?_
 conv=>whnf
 obtain ⟨c126,hc126,h⟩:=bind_some h
 refine ⟨_,(sp_word_Next w102 inputs_ c126 (fun _ _=>hc126)),?_⟩
 conv=>whnf
 cases h
 exact Nxt.mk _ ho115 (eA [(64,some 64)])
 replace h:=cond_f b123 h
 conv=>whnf
 cases h
 have ho115:_=_:=ho115
 cases ho115
 exact JoinS.mk' _ rfl (eA [(64,some 64)])
 rintro y95 rfl hp
 replace h:=sum_inl hk61
 obtain ⟨z129,_⟩:=hp
 conv=>whnf
 cases h
 conv=>whnf
 exact Side.mk ⟨rfl,trivial⟩ ⟨rfl,rfl⟩
theorem sp_minimize_Minimal (m_:T_api_Mealy) (r:Bool) (h:Ok (.agg (c_api_Mealy m_))→minimize_Minimal m_=some r):Sp Try.prog 15 [.im (.agg (c_api_Mealy m_))] (.im (nB r)):=by
 refine sp_of rfl [700001] rfl rfl rfl (Nat.le_of_ble_eq_true rfl) rfl fun hk=>?_
 replace h:=h hk.1
 have z1:lZ m_.Next:=ok_len (Ok.agg_at hk.1 2 rfl)
 have z2:lZ m_.Out:=ok_len (Ok.agg_at hk.1 3 rfl)
 unfold minimize_Minimal at h
 conv=>whnf
 obtain ⟨y56,hc,hk52⟩:=bind_some h
 clear h
 have h:=hc
 clear hc
 refine Cut.mk (mkSt [(1,.im (.ref (c_api_Mealy m_))),(16,.im (nB y56))] [] []) (True) (hT) ?_ (fun hp=>?_)
 conv=>whnf
 obtain ⟨c57,hc57,h⟩:=bind_some h
 refine ⟨_,(sp_mealy_Valid m_ c57 (fun _=>hc57)),?_⟩
 conv=>whnf
 refine Both.mk ?_ ?_<;>intro b58
 replace b58:=beq_ff b58
 obtain ⟨h,b58d⟩:=cfd b58 h
 conv=>whnf
 refine Both.yes (ff_beq b58) ?_
 conv=>whnf
 obtain ⟨c59,hc59,h⟩:=bind_some h
 refine ⟨_,(sp_mealy_Reach m_ c59 (fun _=>hc59)).im,?_⟩
 conv=>whnf
 refine Both.yes (ff_beq b58) ?_
 conv=>whnf
 refine Nf.mk (List.length c59) len_map ?_
 conv=>whnf
 iterate 3 (refine Both.yes (ff_beq b58) ?_;(conv=>whnf))
 refine Nf.mk (List.length m_.Next) len_map ?_
 conv=>whnf
 refine Both.yes (ff_beq b58) ?_
 conv=>whnf
 refine Both.no b58 ?_
 conv=>whnf
 cases h
 exact Join.mk (eA [])
 replace b58:=beq_ft b58
 obtain ⟨h,b58d⟩:=ctd b58 h
 conv=>whnf
 iterate 6 (refine Both.no (tf_beq b58) ?_;(conv=>whnf))
 refine Both.yes b58 ?_
 conv=>whnf
 cases h
 exact Join.mk (eA [])
 replace h:=hk52
 conv=>whnf
 refine Both.mk ?_ ?_<;>intro b60
 replace h:=cond_t b60 h
 conv=>whnf
 cases h
 conv=>whnf
 exact ⟨rfl,rfl⟩
 replace h:=cond_f b60 h
 conv=>whnf
 obtain ⟨c61,hc61,h⟩:=bind_some h
 refine ⟨_,(sp_minimize_Min m_ c61 (fun _=>hc61)),?_⟩
 conv=>whnf
 refine Side.mk rfl ?_
 conv=>whnf
 obtain ⟨y65,hc,hk63⟩:=bind_some h
 clear h
 have h:=hc
 clear hc
 refine Cut.mk (mkSt [(2,.im (nB y65))] [] []) (True) (hT) ?_ (fun hp=>?_)
 conv=>whnf
 refine Both.mk ?_ ?_<;>intro b66
 replace b66:=beq_tt b66
 obtain ⟨h,b66d⟩:=ctd b66 h
 conv=>whnf
 refine Side.mk rfl ?_
 conv=>whnf
 refine Both.yes (tt_beq b66) ?_
 conv=>whnf
 refine Side.mk rfl ?_
 conv=>whnf
 refine Both.yes (tt_beq b66) ?_
 conv=>whnf
 refine Nf.mk (List.length c61.1.Next) len_map ?_
 conv=>whnf
 iterate 3 (refine Both.yes (tt_beq b66) ?_;(conv=>whnf))
 refine Nf.mk (List.length m_.Next) len_map ?_
 conv=>whnf
 refine Both.yes (tt_beq b66) ?_
 conv=>whnf
 refine Both.yes b66 ?_
 conv=>whnf
 cases h
 exact Join.mk (eA [])
 replace b66:=beq_tf b66
 obtain ⟨h,b66d⟩:=cfd b66 h
 conv=>whnf
 iterate 6 (refine Both.no (ft_beq b66) ?_;(conv=>whnf))
 refine Both.no b66 ?_
 conv=>whnf
 cases h
 exact Join.mk (eA [])
 replace h:=hk63
 conv=>whnf
 cases h
 conv=>whnf
 exact ⟨rfl,rfl⟩
theorem sp_separate_check (m_:T_api_Mealy) (r:Int) (h:Ok (.agg (c_api_Mealy m_))→separate_check m_=some r):Sp Try.prog 40 [.im (.agg (c_api_Mealy m_))] (.im (nI r)):=by
 refine sp_of rfl [700001] rfl rfl rfl (Nat.le_of_ble_eq_true rfl) rfl fun hk=>?_
 replace h:=h hk.1
 have z1:lZ m_.Next:=ok_len (Ok.agg_at hk.1 2 rfl)
 have z2:lZ m_.Out:=ok_len (Ok.agg_at hk.1 3 rfl)
 unfold separate_check at h
 conv=>whnf
 obtain ⟨c51,hc51,h⟩:=bind_some h
 refine ⟨_,(sp_mealy_Valid m_ c51 (fun _=>hc51)),?_⟩
 conv=>whnf
 refine Both.mk ?_ ?_<;>intro b52
 obtain ⟨h,b52d⟩:=ctd b52 h
 conv=>whnf
 cases h
 conv=>whnf
 exact ⟨rfl,rfl⟩
 obtain ⟨h,b52d⟩:=cfd b52 h
 conv=>whnf
 obtain ⟨c53,hc53,h⟩:=bind_some h
 refine ⟨_,(sp_minimize_Minimal m_ c53 (fun _=>hc53)),?_⟩
 conv=>whnf
 refine Both.mk ?_ ?_<;>intro b54
 replace h:=cond_t b54 h
 conv=>whnf
 cases h
 conv=>whnf
 exact ⟨rfl,rfl⟩
 replace h:=cond_f b54 h
 conv=>whnf
 cases h
 conv=>whnf
 exact ⟨rfl,rfl⟩
end Go.Proofs.Ytkfaepfljlphoaa.Sym

/-
  The contracts of the functions, read from the code by a program (ext.py): each function has its plain twin as its contract.
-/
namespace Go.Proofs.Ytkfaepfljlphoaa.Sym
open Go.RowKit
set_option maxRecDepth 100000
set_option linter.unusedVariables false
set_option maxHeartbeats 4000000
theorem sp_equiv_search (a_:T_api_Mealy) (b_:T_api_Mealy) (first_:T_equiv_pair) (r:List Int×Bool) (h:Ok (.agg (c_api_Mealy a_))→Ok (.agg (c_api_Mealy b_))→Ok (.agg (c_equiv_pair first_))→equiv_search a_ b_ first_=some r):Sp Try.prog 65 [.im (.agg (c_api_Mealy a_)),.im (.agg (c_api_Mealy b_)),.im (.agg (c_equiv_pair first_))] (.tup [nL cI r.1,nB r.2]):=by
 refine sp_of rfl [42,600018,700003,700004,700005] rfl rfl rfl (Nat.le_of_ble_eq_true rfl) rfl fun hk=>?_
 replace h:=h hk.1 hk.2.1 hk.2.2.1
 have z1:lZ a_.Next:=ok_len (Ok.agg_at hk.1 2 rfl)
 have z2:lZ a_.Out:=ok_len (Ok.agg_at hk.1 3 rfl)
 have z3:lZ b_.Next:=ok_len (Ok.agg_at hk.2.1 2 rfl)
 have z4:lZ b_.Out:=ok_len (Ok.agg_at hk.2.1 3 rfl)
 unfold equiv_search at h
 conv=>whnf
 refine Nf.mk (List.length a_.Next) len_map ?_
 conv=>whnf
 obtain ⟨c51,h⟩:=chk_some h
 refine Side.mk c51 ?_
 conv=>whnf
 refine Nf.mk (List.map (cL cB) (List.replicate (List.length a_.Next) ([]:List Bool))) (rep_map (c:=(cL cB)) (z:=([]:List Bool)) (n:=(List.length a_.Next)) rfl rfl) ?_
 conv=>whnf
 refine Side.mk rfl ?_
 conv=>whnf
 refine Nf.mk (List.length (List.replicate (List.length a_.Next) ([]:List Bool))) len_map ?_
 conv=>whnf
 obtain ⟨y68,hc,hk52⟩:=bind_some h
 clear h
 have h:=hc
 clear hc
 refine Cut.mk (mkSt [(3,.im (.ref (c_api_Mealy a_))),(4,.im (.ref (c_api_Mealy b_))),(5,.im (.ref (c_equiv_pair first_))),(8,.osl 144 1)] [(144,.grid 86 4 1 (List.map (cL cB) y68) none)] []) (lZ y68∧True) ((Holds.kdg 144 rfl).and (hT)) ?_ (fun hp=>?_)
 conv=>whnf
 refine Loops.iter (fun (s:List (List Bool)×Nat)=>equiv_search.s2 a_ b_ s.1 s.2) (fun (y72,y73)=>mkSt [(3,.im (.ref (c_api_Mealy a_))),(4,.im (.ref (c_api_Mealy b_))),(5,.im (.ref (c_equiv_pair first_))),(8,.osl 144 1),(20,.im (nI (↑(List.length (List.replicate (List.length a_.Next) ([]:List Bool))):Int))),(21,.im (nI (↑y73:Int)))] [(144,.grid 86 4 1 (List.map (cL cB) y72) none)] []) (fun (y72,y73)=>lZ y72∧True) h (eA [(144,some 18)]) (by rintro ⟨y72,y73⟩;exact ((Holds.kdg 144 rfl).and (hT))) ?_
 clear h
 rintro k ⟨y72,y73⟩ o hp h ho78
 replace h:equiv_search.s2 a_ b_ y72 y73=some o:=h
 unfold equiv_search.s2 at h
 obtain ⟨z83,_⟩:=hp
 conv=>whnf
 refine Both.mk ?_ ?_<;>intro b79
 obtain ⟨h,b79d⟩:=ctd b79 h
 conv=>whnf
 refine Nf.mk (List.length b_.Next) len_map ?_
 conv=>whnf
 obtain ⟨c80,h⟩:=chk_some h
 refine Side.mk c80 ?_
 conv=>whnf
 refine Nf.mk (List.map cB (List.replicate (List.length b_.Next) false)) (rep_map (c:=cB) (z:=false) (n:=(List.length b_.Next)) rfl rfl) ?_
 conv=>whnf
 obtain ⟨e81,he81,h⟩:=idxn_some h
 refine Side.mk ⟨(by omega),rfl,map_lt he81⟩ ?_
 conv=>whnf
 refine Side.mk ⟨rfl,rfl,map_lt he81,trivial⟩ ?_
 conv=>whnf
 refine Nf.mk (List.map (cL cB) (List.set y72 y73 (List.replicate (List.length b_.Next) false))) set_grid1 ?_
 conv=>whnf
 obtain ⟨c82,h⟩:=chk_some h
 refine Arith.mk c82 ?_
 conv=>whnf
 cases h
 exact Nxt.mk _ ho78 (eA [(144,some 144)])
 obtain ⟨h,b79d⟩:=cfd b79 h
 conv=>whnf
 cases h
 have ho78:_=_:=ho78
 cases ho78
 exact Join.mk (eA [(144,some 144)])
 replace h:=hk52
 obtain ⟨z84,_⟩:=hp
 conv=>whnf
 obtain ⟨e85,he85z,he85,h⟩:=idx_some h
 refine Side.mk ⟨he85z,rfl,map_lt he85⟩ ?_
 conv=>whnf
 refine Side.mk ⟨rfl,map_lt he85⟩ ?_
 conv=>whnf
 obtain ⟨e86,he86z,he86,h⟩:=idx_some h
 refine ⟨_,⟨he86z,rfl,map_at he85,map_lt he86⟩,?_⟩
 conv=>whnf
 refine ⟨_,_,⟨rfl,map_at he85,map_at he86⟩,?_⟩
 conv=>whnf
 refine Nf.mk (List.map (cL cB) (List.set y68 (Int.toNat first_.s) (List.set e85 (Int.toNat first_.t) true))) (set_grid2 rfl) ?_
 conv=>whnf
 obtain ⟨oc,hc,hk87⟩:=bind_some h
 clear h
 have h:=hc
 clear hc
 refine Cut.mkS oc (Y:=Unit) (fun (_:Unit)=>mkSt [] [] []) (fun (_:Unit)=>True) (by rintro ⟨⟩;exact (hT)) ?_ ?_
 conv=>whnf
 refine Loops.iter (fun (s:List (List Bool)×List T_equiv_place×Nat)=>equiv_search.s22 a_ b_ s.1 s.2.1 s.2.2) (fun (y898,y899,i900)=>mkSt [(3,.im (.ref (c_api_Mealy a_))),(4,.im (.ref (c_api_Mealy b_))),(8,.osl 144 1),(10,.osl 145 1),(11,.im (nI (↑i900:Int)))] [(144,.grid 86 4 1 (List.map (cL cB) y898) none),(145,.row 116 3 (List.map c_equiv_place y899))] []) (fun (y898,y899,i900)=>lZ y898∧lZ y899∧True) h (eA [(144,some 144),(145,some 42)]) (by rintro ⟨y898,y899,i900⟩;exact ((Holds.kdg 144 rfl).and ((Holds.kdl 145 rfl).and (hT)))) ?_
 clear h
 rintro k ⟨y898,y899,i900⟩ o hp h ho1102
 replace h:equiv_search.s22 a_ b_ y898 y899 i900=some o:=h
 unfold equiv_search.s22 at h
 obtain ⟨z1304,z1305,_⟩:=hp
 conv=>whnf
 refine Side.mk rfl ?_
 conv=>whnf
 refine Nf.mk (List.length y899) len_map ?_
 conv=>whnf
 refine Both.mk ?_ ?_<;>intro b1103
 obtain ⟨h,b1103d⟩:=ctd b1103 h
 conv=>whnf
 obtain ⟨e1104,he1104,h⟩:=idxn_some h
 refine Side.mk ⟨(by omega),rfl,map_lt he1104⟩ ?_
 conv=>whnf
 refine Side.mk rfl ?_
 conv=>whnf
 refine ⟨_,⟨rfl,map_at he1104,of_decide_eq_true rfl,rfl⟩,?_⟩
 conv=>whnf
 refine Side.mk rfl ?_
 conv=>whnf
 obtain ⟨oc,hc,hk1105⟩:=bind_some h
 clear h
 have h:=hc
 clear hc
 refine Cut.mkS oc (Y:=List (List Bool)×List T_equiv_place) (fun (y1203,y1204)=>mkSt [(3,.im (.ref (c_api_Mealy a_))),(4,.im (.ref (c_api_Mealy b_))),(8,.osl 144 1),(10,.osl 145 1),(11,.im (nI (↑i900:Int)))] [(144,.grid 86 4 1 (List.map (cL cB) y1203) none),(145,.row 116 3 (List.map c_equiv_place y1204))] []) (fun (y1203,y1204)=>lZ y1203∧lZ y1204∧True) (by rintro ⟨y1203,y1204⟩;exact ((Holds.kdg 144 rfl).and ((Holds.kdl 145 rfl).and (hT)))) ?_ ?_
 conv=>whnf
 refine Loops.iter (fun (s:List (List Bool)×List T_equiv_place×Nat)=>equiv_search.s20 a_ b_ i900 e1104 s.1 s.2.1 s.2.2) (fun (y1234,y1235,y1236)=>mkSt [(3,.im (.ref (c_api_Mealy a_))),(4,.im (.ref (c_api_Mealy b_))),(8,.osl 144 1),(10,.osl 145 1),(11,.im (nI (↑i900:Int))),(12,.own 146 1 0),(55,.im (nI a_.Inputs)),(56,.im (nI (↑y1236:Int)))] [(144,.grid 86 4 1 (List.map (cL cB) y1234) none),(145,.row 116 3 (List.map c_equiv_place y1235)),(146,.box 100 2)] [(146,0,.im (nI e1104.at_.s)),(146,1,.im (nI e1104.at_.t))]) (fun (y1234,y1235,y1236)=>lZ y1234∧lZ y1235∧True) h (eA [(144,some 144),(145,some 145),(146,some 12)]) (by rintro ⟨y1234,y1235,y1236⟩;exact ((Holds.kdg 144 rfl).and ((Holds.kdl 145 rfl).and (hT)))) ?_
 clear h
 rintro k ⟨y1234,y1235,y1236⟩ o hp h ho1268
 replace h:equiv_search.s20 a_ b_ i900 e1104 y1234 y1235 y1236=some o:=h
 unfold equiv_search.s20 at h
 obtain ⟨z1300,z1301,_⟩:=hp
 conv=>whnf
 refine Both.mk ?_ ?_<;>intro b1269
 obtain ⟨h,b1269d⟩:=ctd b1269 h
 conv=>whnf
 refine Side.mk rfl ?_
 conv=>whnf
 refine Side.mk rfl ?_
 conv=>whnf
 obtain ⟨e1270,he1270z,he1270,h⟩:=idx_some h
 refine ⟨_,⟨he1270z,map_at he1270,rfl⟩,?_⟩
 conv=>whnf
 obtain ⟨e1271,he1271,h⟩:=idxn_some h
 refine ⟨_,⟨(by omega),map_at he1271,rfl⟩,?_⟩
 conv=>whnf
 refine Side.mk rfl ?_
 conv=>whnf
 refine Side.mk rfl ?_
 conv=>whnf
 obtain ⟨e1272,he1272z,he1272,h⟩:=idx_some h
 refine ⟨_,⟨he1272z,map_at he1272,rfl⟩,?_⟩
 conv=>whnf
 obtain ⟨e1273,he1273,h⟩:=idxn_some h
 refine ⟨_,⟨(by omega),map_at he1273,rfl⟩,?_⟩
 conv=>whnf
 refine Both.mk ?_ ?_<;>intro b1274
 obtain ⟨h,b1274d⟩:=ctd b1274 h
 conv=>whnf
 obtain ⟨e1275,he1275,h⟩:=idxn_some h
 refine Side.mk ⟨(by omega),rfl,map_lt he1275⟩ ?_
 conv=>whnf
 refine Side.mk rfl ?_
 conv=>whnf
 refine ⟨_,_,⟨rfl,map_at he1275,rfl,rfl⟩,?_⟩
 conv=>whnf
 obtain ⟨c1276,hc1276,h⟩:=bind_some h
 refine ⟨_,(sp_word_Join [e1275.word,[(↑y1236:Int)]] c1276 (fun _=>hc1276)),?_⟩
 conv=>whnf
 cases h
 have ho1268:_=_:=ho1268
 cases ho1268
 replace h:some _=some _:=hk1105
 cases h
 have ho1102:_=_:=ho1102
 cases ho1102
 replace h:some _=some _:=hk87
 cases h
 conv=>whnf
 exact ⟨rfl,rfl⟩
 obtain ⟨h,b1274d⟩:=cfd b1274 h
 conv=>whnf
 refine Side.mk rfl ?_
 conv=>whnf
 refine Side.mk rfl ?_
 conv=>whnf
 obtain ⟨e1277,he1277z,he1277,h⟩:=idx_some h
 refine ⟨_,⟨he1277z,map_at he1277,rfl⟩,?_⟩
 conv=>whnf
 obtain ⟨e1278,he1278,h⟩:=idxn_some h
 refine ⟨_,⟨(by omega),map_at he1278,rfl⟩,?_⟩
 conv=>whnf
 refine Side.mk rfl ?_
 conv=>whnf
 refine Side.mk rfl ?_
 conv=>whnf
 obtain ⟨e1279,he1279z,he1279,h⟩:=idx_some h
 refine ⟨_,⟨he1279z,map_at he1279,rfl⟩,?_⟩
 conv=>whnf
 obtain ⟨e1280,he1280,h⟩:=idxn_some h
 refine ⟨_,⟨(by omega),map_at he1280,rfl⟩,?_⟩
 conv=>whnf
 refine Side.mk rfl ?_
 conv=>whnf
 obtain ⟨y1286,hc,hk1282⟩:=bind_some h
 clear h
 have h:=hc
 clear hc
 refine Cut.mk (mkSt [(3,.im (.ref (c_api_Mealy a_))),(4,.im (.ref (c_api_Mealy b_))),(8,.osl 144 1),(10,.osl 145 1),(11,.im (nI (↑i900:Int))),(12,.own 146 1 0),(13,.im (nI (↑y1236:Int))),(14,.own 147 1 0),(55,.im (nI a_.Inputs)),(56,.im (nI (↑y1236:Int))),(120,.im (nB y1286))] [(144,.grid 86 4 1 (List.map (cL cB) y1234) none),(145,.row 116 3 (List.map c_equiv_place y1235)),(146,.box 100 2),(147,.box 100 2)] [(146,0,.im (nI e1104.at_.s)),(146,1,.im (nI e1104.at_.t)),(147,0,.im (nI e1278)),(147,1,.im (nI e1280))]) (lZ y1234∧lZ y1235∧True) ((Holds.kdg 144 rfl).and ((Holds.kdl 145 rfl).and (hT))) ?_ (fun hp=>?_)
 conv=>whnf
 refine Side.mk rfl ?_
 conv=>whnf
 refine Side.mk rfl ?_
 conv=>whnf
 refine Side.mk (by kernel_rfl) ?_
 conv=>whnf
 refine Nf.mk (decide (e1278=e1104.at_.s)&&(decide (e1280=e1104.at_.t)&&true)) rfl ?_
 conv=>whnf
 refine Both.mk ?_ ?_<;>intro b1287
 replace b1287:=beq_tt b1287
 replace h:=cond_t b1287 h
 conv=>whnf
 refine Both.yes (tt_beq b1287) ?_
 conv=>whnf
 refine Side.mk rfl ?_
 conv=>whnf
 refine Both.yes (tt_beq b1287) ?_
 conv=>whnf
 refine Side.mk rfl ?_
 conv=>whnf
 refine Both.yes (tt_beq b1287) ?_
 conv=>whnf
 obtain ⟨e1288,he1288z,he1288,h⟩:=idx_some h
 refine Side.mk ⟨he1288z,rfl,map_lt he1288⟩ ?_
 conv=>whnf
 refine Both.yes (tt_beq b1287) ?_
 conv=>whnf
 refine Side.mk ⟨rfl,map_lt he1288⟩ ?_
 conv=>whnf
 refine Both.yes (tt_beq b1287) ?_
 conv=>whnf
 refine Side.mk rfl ?_
 conv=>whnf
 refine Both.yes (tt_beq b1287) ?_
 conv=>whnf
 refine Side.mk rfl ?_
 conv=>whnf
 refine Both.yes (tt_beq b1287) ?_
 conv=>whnf
 obtain ⟨e1289,he1289z,he1289,h⟩:=idx_some h
 refine ⟨_,⟨he1289z,rfl,map_at he1288,map_lt he1289⟩,?_⟩
 conv=>whnf
 refine Both.yes (tt_beq b1287) ?_
 conv=>whnf
 refine ⟨_,_,_,⟨rfl,map_at he1288,map_at he1289,rfl⟩,?_⟩
 conv=>whnf
 refine Both.yes (tt_beq b1287) ?_
 conv=>whnf
 refine Both.yes b1287 ?_
 conv=>whnf
 cases h
 exact Join.mk (eA [(144,some 144),(145,some 145),(146,some 146),(147,some 14)])
 replace b1287:=beq_tf b1287
 replace h:=cond_f b1287 h
 conv=>whnf
 iterate 9 (refine Both.no (ft_beq b1287) ?_;(conv=>whnf))
 refine Both.no b1287 ?_
 conv=>whnf
 cases h
 exact Join.mk (eA [(144,some 144),(145,some 145),(146,some 146),(147,some 14)])
 replace h:=hk1282
 obtain ⟨z1290,z1291,_⟩:=hp
 conv=>whnf
 refine Both.mk ?_ ?_<;>intro b1292
 replace h:=cond_t b1292 h
 conv=>whnf
 refine Side.mk rfl ?_
 conv=>whnf
 refine Side.mk rfl ?_
 conv=>whnf
 obtain ⟨e1293,he1293z,he1293,h⟩:=idx_some h
 refine Side.mk ⟨he1293z,rfl,map_lt he1293⟩ ?_
 conv=>whnf
 refine Side.mk ⟨rfl,map_lt he1293⟩ ?_
 conv=>whnf
 refine Side.mk rfl ?_
 conv=>whnf
 refine Side.mk rfl ?_
 conv=>whnf
 obtain ⟨e1294,he1294z,he1294,h⟩:=idx_some h
 refine ⟨_,⟨he1294z,rfl,map_at he1293,map_lt he1294⟩,?_⟩
 conv=>whnf
 refine ⟨_,_,⟨rfl,map_at he1293,map_at he1294⟩,?_⟩
 conv=>whnf
 refine Nf.mk (List.map (cL cB) (List.set y1234 (Int.toNat e1278) (List.set e1293 (Int.toNat e1280) true))) (set_grid2 rfl) ?_
 conv=>whnf
 refine Side.mk rfl ?_
 conv=>whnf
 obtain ⟨e1295,he1295,h⟩:=idxn_some h
 refine Side.mk ⟨(by omega),rfl,map_lt he1295⟩ ?_
 conv=>whnf
 refine Side.mk rfl ?_
 conv=>whnf
 refine ⟨_,_,⟨rfl,map_at he1295,rfl,rfl⟩,?_⟩
 conv=>whnf
 obtain ⟨c1296,hc1296,h⟩:=bind_some h
 refine ⟨_,(sp_word_Join [e1295.word,[(↑y1236:Int)]] c1296 (fun _=>hc1296)),?_⟩
 conv=>whnf
 obtain ⟨c1297,h⟩:=chk_some h
 refine Side.mk ⟨rfl,map_len (l:=[(⟨(⟨e1278,e1280⟩:T_equiv_pair),c1296⟩:T_equiv_place)]) (c:=c_equiv_place) fun _=>rfl,show capOk _ 40 by simpa only [List.length_map,List.length_cons,List.length_nil,Nat.zero_add] using c1297⟩ ?_
 conv=>whnf
 refine Nf.mk (List.map c_equiv_place (y1235++[(⟨(⟨e1278,e1280⟩:T_equiv_pair),c1296⟩:T_equiv_place)])) (app_map (l:=y1235) (m:=[(⟨(⟨e1278,e1280⟩:T_equiv_pair),c1296⟩:T_equiv_place)]) (c:=c_equiv_place)) ?_
 conv=>whnf
 obtain ⟨c1298,h⟩:=chk_some h
 refine Arith.mk c1298 ?_
 conv=>whnf
 cases h
 exact Nxt.mk _ ho1268 (eA [(144,some 144),(145,some 145),(146,some 146)])
 replace h:=cond_f b1292 h
 conv=>whnf
 obtain ⟨c1299,h⟩:=chk_some h
 refine Arith.mk c1299 ?_
 conv=>whnf
 cases h
 exact Nxt.mk _ ho1268 (eA [(144,some 144),(145,some 145),(146,some 146)])
 obtain ⟨h,b1269d⟩:=cfd b1269 h
 conv=>whnf
 cases h
 have ho1268:_=_:=ho1268
 cases ho1268
 exact JoinS.mk' _ rfl (eA [(144,some 144),(145,some 145)])
 rintro ⟨y1203,y1204⟩ rfl hp
 have hx_:=sum_inl hk1105
 replace h:equiv_search.k21 i900 y1203 y1204=some _:=hx_
 clear hx_
 unfold equiv_search.k21 at h
 obtain ⟨z1302,z1303,_⟩:=hp
 conv=>whnf
 refine Arith.mk (by show inR _;unfold inR;omega) ?_
 conv=>whnf
 cases h
 exact Nxt.mk _ ho1102 (eA [(144,some 144),(145,some 145)])
 obtain ⟨h,b1103d⟩:=cfd b1103 h
 conv=>whnf
 cases h
 have ho1102:_=_:=ho1102
 cases ho1102
 exact JoinS.mk' _ rfl (eA [])
 rintro ⟨⟩ rfl hp
 replace h:=sum_inl hk87
 conv=>whnf
 cases h
 conv=>whnf
 exact ⟨rfl,rfl⟩
theorem sp_equiv_States (m_:T_api_Mealy) (s_:Int) (t_:Int) (r:List Int×Bool×Int) (h:Ok (.agg (c_api_Mealy m_))→Ok (nI s_)→Ok (nI t_)→equiv_States m_ s_ t_=some r):Sp Try.prog 41 [.im (.agg (c_api_Mealy m_)),.im (nI s_),.im (nI t_)] (.tup [nL cI r.1,nB r.2.1,nI r.2.2]):=by
 refine sp_of rfl [700003] rfl rfl rfl (Nat.le_of_ble_eq_true rfl) rfl fun hk=>?_
 replace h:=h hk.1 hk.2.1 hk.2.2.1
 have z1:lZ m_.Next:=ok_len (Ok.agg_at hk.1 2 rfl)
 have z2:lZ m_.Out:=ok_len (Ok.agg_at hk.1 3 rfl)
 unfold equiv_States at h
 conv=>whnf
 obtain ⟨c51,hc51,h⟩:=bind_some h
 refine ⟨_,(sp_mealy_Valid m_ c51 (fun _=>hc51)),?_⟩
 conv=>whnf
 refine Both.mk ?_ ?_<;>intro b52
 obtain ⟨h,b52d⟩:=ctd b52 h
 conv=>whnf
 cases h
 conv=>whnf
 exact ⟨rfl,rfl⟩
 obtain ⟨h,b52d⟩:=cfd b52 h
 conv=>whnf
 obtain ⟨y58,hc,hk54⟩:=bind_some h
 clear h
 have h:=hc
 clear hc
 refine Cut.mk (mkSt [(1,.im (nI s_)),(2,.im (nI t_)),(3,.im (.ref (c_api_Mealy m_))),(36,.im (nB y58))] [] []) (True) (hT) ?_ (fun hp=>?_)
 conv=>whnf
 refine Both.mk ?_ ?_<;>intro b59
 replace b59:=beq_ff b59
 obtain ⟨h,b59d⟩:=cfd b59 h
 conv=>whnf
 iterate 3 (refine Both.yes (ff_beq b59) ?_;(conv=>whnf))
 refine Nf.mk (List.length m_.Next) len_map ?_
 conv=>whnf
 refine Both.yes (ff_beq b59) ?_
 conv=>whnf
 refine Both.no b59 ?_
 conv=>whnf
 refine Both.mk ?_ ?_<;>intro b60
 replace b60:=beq_ff b60
 obtain ⟨h,b60d⟩:=cfd b60 h
 conv=>whnf
 refine Both.yes (ff_beq b60) ?_
 conv=>whnf
 refine Both.no b60 ?_
 conv=>whnf
 refine Both.mk ?_ ?_<;>intro b61
 replace b61:=beq_ff b61
 obtain ⟨h,b61d⟩:=cfd b61 h
 conv=>whnf
 iterate 3 (refine Both.yes (ff_beq b61) ?_;(conv=>whnf))
 refine Nf.mk (List.length m_.Next) len_map ?_
 conv=>whnf
 refine Both.yes (ff_beq b61) ?_
 conv=>whnf
 refine Both.no b61 ?_
 conv=>whnf
 cases h
 exact Join.mk (eA [])
 replace b61:=beq_ft b61
 obtain ⟨h,b61d⟩:=ctd b61 h
 conv=>whnf
 iterate 4 (refine Both.no (tf_beq b61) ?_;(conv=>whnf))
 refine Both.yes b61 ?_
 conv=>whnf
 cases h
 exact Join.mk (eA [])
 replace b60:=beq_ft b60
 obtain ⟨h,b60d⟩:=ctd b60 h
 conv=>whnf
 refine Both.no (tf_beq b60) ?_
 conv=>whnf
 refine Both.yes b60 ?_
 conv=>whnf
 iterate 5 (refine Both.no rfl ?_;(conv=>whnf))
 refine Both.yes rfl ?_
 conv=>whnf
 cases h
 exact Join.mk (eA [])
 replace b59:=beq_ft b59
 obtain ⟨h,b59d⟩:=ctd b59 h
 conv=>whnf
 iterate 4 (refine Both.no (tf_beq b59) ?_;(conv=>whnf))
 refine Both.yes b59 ?_
 conv=>whnf
 iterate 2 (refine Both.no rfl ?_;(conv=>whnf))
 refine Both.yes rfl ?_
 conv=>whnf
 iterate 5 (refine Both.no rfl ?_;(conv=>whnf))
 refine Both.yes rfl ?_
 conv=>whnf
 cases h
 exact Join.mk (eA [])
 replace h:=hk54
 conv=>whnf
 refine Both.mk ?_ ?_<;>intro b62
 replace h:=cond_t b62 h
 conv=>whnf
 cases h
 conv=>whnf
 exact ⟨rfl,rfl⟩
 replace h:=cond_f b62 h
 conv=>whnf
 obtain ⟨c63,hc63,h⟩:=bind_some h
 refine ⟨_,(sp_equiv_search m_ m_ (⟨s_,t_⟩:T_equiv_pair) c63 (fun _ _ _=>hc63)),?_⟩
 conv=>whnf
 cases h
 conv=>whnf
 exact ⟨rfl,rfl⟩
theorem sp_separate_Identifiers (m_:T_api_Mealy) (r:List (List (List Int))×Int) (h:Ok (.agg (c_api_Mealy m_))→separate_Identifiers m_=some r):Sp Try.prog 17 [.im (.agg (c_api_Mealy m_))] (.tup [nL (cL (cL cI)) r.1,nI r.2]):=by
 refine sp_of rfl [600022,700001,8000073] rfl rfl rfl (Nat.le_of_ble_eq_true rfl) rfl fun hk=>?_
 replace h:=h hk.1
 have z1:lZ m_.Next:=ok_len (Ok.agg_at hk.1 2 rfl)
 have z2:lZ m_.Out:=ok_len (Ok.agg_at hk.1 3 rfl)
 unfold separate_Identifiers at h
 conv=>whnf
 obtain ⟨c51,hc51,h⟩:=bind_some h
 refine ⟨_,(sp_separate_check m_ c51 (fun _=>hc51)),?_⟩
 conv=>whnf
 refine Both.mk ?_ ?_<;>intro b52
 obtain ⟨h,b52d⟩:=ctd b52 h
 conv=>whnf
 cases h
 conv=>whnf
 exact ⟨rfl,rfl⟩
 obtain ⟨h,b52d⟩:=cfd b52 h
 conv=>whnf
 refine Nf.mk (List.length m_.Next) len_map ?_
 conv=>whnf
 obtain ⟨c53,h⟩:=chk_some h
 refine Side.mk c53 ?_
 conv=>whnf
 refine Nf.mk (List.map (cL (cL cI)) (List.replicate (List.length m_.Next) ([]:List (List Int)))) (rep_map (c:=(cL (cL cI))) (z:=([]:List (List Int))) (n:=(List.length m_.Next)) rfl rfl) ?_
 conv=>whnf
 refine Nf.mk (List.length m_.Next) len_map ?_
 conv=>whnf
 obtain ⟨oc,hc,hk54⟩:=bind_some h
 clear h
 have h:=hc
 clear hc
 refine Cut.mkS oc (Y:=List (List (List Int))) (fun y257=>mkSt [(5,.osl 86 1)] [(86,.grid 22 26 1 (List.map (cL (cL cI)) y257) none)] []) (fun y257=>lZ y257∧True) (by rintro y257;exact ((Holds.kdg 86 rfl).and (hT))) ?_ ?_
 conv=>whnf
 refine Loops.iter (fun (s:List (List (List Int))×Nat)=>separate_Identifiers.s14 m_ s.1 s.2) (fun (y324,y325)=>mkSt [(1,.im (.ref (c_api_Mealy m_))),(5,.osl 86 1),(25,.im (nI (↑(List.length m_.Next):Int))),(26,.im (nI (↑y325:Int)))] [(86,.grid 22 26 1 (List.map (cL (cL cI)) y324) none)] []) (fun (y324,y325)=>lZ y324∧True) h (eA [(86,some 22)]) (by rintro ⟨y324,y325⟩;exact ((Holds.kdg 86 rfl).and (hT))) ?_
 clear h
 rintro k ⟨y324,y325⟩ o hp h ho392
 replace h:separate_Identifiers.s14 m_ y324 y325=some o:=h
 unfold separate_Identifiers.s14 at h
 obtain ⟨z459,_⟩:=hp
 conv=>whnf
 refine Both.mk ?_ ?_<;>intro b393
 obtain ⟨h,b393d⟩:=ctd b393 h
 conv=>whnf
 refine Arith.mk (by show inR _;unfold inR;omega) ?_
 conv=>whnf
 obtain ⟨oc,hc,hk394⟩:=bind_some h
 clear h
 have h:=hc
 clear hc
 refine Cut.mkS oc (Y:=List (List (List Int))) (fun y426=>mkSt [(1,.im (.ref (c_api_Mealy m_))),(5,.osl 86 1),(25,.im (nI (↑(List.length m_.Next):Int))),(26,.im (nI (↑y325:Int)))] [(86,.grid 22 26 1 (List.map (cL (cL cI)) y426) none)] []) (fun y426=>lZ y426∧True) (by rintro y426;exact ((Holds.kdg 86 rfl).and (hT))) ?_ ?_
 conv=>whnf
 refine Loops.iter (fun (s:List (List (List Int))×Nat)=>separate_Identifiers.s13 m_ y325 s.1 s.2) (fun (y436,t437)=>mkSt [(1,.im (.ref (c_api_Mealy m_))),(5,.osl 86 1),(6,.im (nI (↑y325:Int))),(7,.im (nI (↑t437:Int))),(25,.im (nI (↑(List.length m_.Next):Int))),(26,.im (nI (↑y325:Int)))] [(86,.grid 22 26 1 (List.map (cL (cL cI)) y436) none)] []) (fun (y436,t437)=>lZ y436∧True) h (eA [(86,some 86)]) (by rintro ⟨y436,t437⟩;exact ((Holds.kdg 86 rfl).and (hT))) ?_
 clear h
 rintro k ⟨y436,t437⟩ o hp h ho447
 replace h:separate_Identifiers.s13 m_ y325 y436 t437=some o:=h
 unfold separate_Identifiers.s13 at h
 obtain ⟨z457,_⟩:=hp
 conv=>whnf
 refine Nf.mk (List.length m_.Next) len_map ?_
 conv=>whnf
 refine Both.mk ?_ ?_<;>intro b448
 obtain ⟨h,b448d⟩:=ctd b448 h
 conv=>whnf
 obtain ⟨c449,hc449,h⟩:=bind_some h
 refine ⟨_,(sp_equiv_States m_ (↑y325:Int) (↑t437:Int) c449 (fun _ _ _=>hc449)),?_⟩
 conv=>whnf
 refine Both.mk ?_ ?_<;>intro b450
 obtain ⟨h,b450d⟩:=ctd b450 h
 conv=>whnf
 cases h
 have ho447:_=_:=ho447
 cases ho447
 replace h:some _=some _:=hk394
 cases h
 have ho392:_=_:=ho392
 cases ho392
 replace h:some _=some _:=hk54
 cases h
 conv=>whnf
 exact ⟨rfl,rfl⟩
 obtain ⟨h,b450d⟩:=cfd b450 h
 conv=>whnf
 obtain ⟨e451,he451,h⟩:=idxn_some h
 refine Side.mk ⟨(by omega),rfl,map_lt he451⟩ ?_
 conv=>whnf
 refine Side.mk ⟨rfl,map_lt he451⟩ ?_
 conv=>whnf
 obtain ⟨c452,h⟩:=chk_some h
 refine ⟨_,⟨rfl,map_at he451,map_len (l:=[c449.1]) (c:=cL cI) fun _=>rfl,show capOk _ 24 by simpa only [List.length_map,List.length_cons,List.length_nil,Nat.zero_add] using c452⟩,?_⟩
 conv=>whnf
 refine Nf.mk (List.map (cL cI) (e451++[c449.1])) (app_map (l:=e451) (m:=[c449.1]) (c:=cL cI)) ?_
 conv=>whnf
 obtain ⟨e453,he453,h⟩:=idxn_some h
 refine Side.mk ⟨(by omega),rfl,map_lt he453⟩ ?_
 conv=>whnf
 refine Side.mk ⟨rfl,rfl,map_lt he453,rfl⟩ ?_
 conv=>whnf
 refine Nf.mk (List.map (cL (cL cI)) (List.set y436 y325 (e451++[c449.1]))) set_grid1 ?_
 conv=>whnf
 obtain ⟨e454,he454,h⟩:=idxn_some h
 refine Side.mk ⟨(by omega),rfl,map_lt he454⟩ ?_
 conv=>whnf
 refine Side.mk ⟨rfl,map_lt he454⟩ ?_
 conv=>whnf
 obtain ⟨c455,h⟩:=chk_some h
 refine ⟨_,⟨rfl,map_at he454,map_len (l:=[c449.1]) (c:=cL cI) fun _=>rfl,show capOk _ 24 by simpa only [List.length_map,List.length_cons,List.length_nil,Nat.zero_add] using c455⟩,?_⟩
 conv=>whnf
 refine Nf.mk (List.map (cL cI) (e454++[c449.1])) (app_map (l:=e454) (m:=[c449.1]) (c:=cL cI)) ?_
 conv=>whnf
 obtain ⟨e456,he456,h⟩:=idxn_some h
 refine Side.mk ⟨(by omega),rfl,map_lt he456⟩ ?_
 conv=>whnf
 refine Side.mk ⟨rfl,rfl,map_lt he456,rfl⟩ ?_
 conv=>whnf
 refine Nf.mk (List.map (cL (cL cI)) (List.set (List.set y436 y325 (e451++[c449.1])) t437 (e454++[c449.1]))) set_grid1 ?_
 conv=>whnf
 refine Arith.mk (by show inR _;unfold inR;omega) ?_
 conv=>whnf
 cases h
 exact Nxt.mk _ ho447 (eA [(86,some 86)])
 obtain ⟨h,b448d⟩:=cfd b448 h
 conv=>whnf
 cases h
 have ho447:_=_:=ho447
 cases ho447
 exact JoinS.mk' _ rfl (eA [(86,some 86)])
 rintro y426 rfl hp
 replace h:=sum_inl hk394
 obtain ⟨z458,_⟩:=hp
 conv=>whnf
 refine Arith.mk (by show inR _;unfold inR;omega) ?_
 conv=>whnf
 cases h
 exact Nxt.mk _ ho392 (eA [(86,some 86)])
 obtain ⟨h,b393d⟩:=cfd b393 h
 conv=>whnf
 cases h
 have ho392:_=_:=ho392
 cases ho392
 exact JoinS.mk' _ rfl (eA [(86,some 86)])
 rintro y257 rfl hp
 replace h:=sum_inl hk54
 obtain ⟨z460,_⟩:=hp
 conv=>whnf
 refine Side.mk rfl ?_
 conv=>whnf
 refine Nf.mk (List.length y257) len_map ?_
 conv=>whnf
 obtain ⟨c461,h⟩:=chk_some h
 refine Side.mk c461 ?_
 conv=>whnf
 refine Nf.mk (List.map (cL (cL cI)) []) rfl ?_
 conv=>whnf
 refine Side.mk ⟨rfl,trivial⟩ ?_
 conv=>whnf
 refine Nf.mk (List.length y257) len_map ?_
 conv=>whnf
 obtain ⟨y480,hc,hk462⟩:=bind_some h
 clear h
 have h:=hc
 clear hc
 refine Cut.mk (mkSt [(11,.osl 86 1)] [(86,.row 22 1 (List.map (cL (cL cI)) y480))] []) (lZ y480∧True) ((Holds.kdl 86 rfl).and (hT)) ?_ (fun hp=>?_)
 conv=>whnf
 refine Loops.iter (fun (s:List (List (List Int))×Nat)=>separate_Identifiers.s16 y257 s.1 s.2) (fun (y485,y486)=>mkSt [(11,.osl 86 1),(73,.im (nL (cL (cL cI)) y257)),(74,.im (nI (↑(List.length y257):Int))),(75,.im (nI (↑y486:Int)))] [(86,.row 22 1 (List.map (cL (cL cI)) y485))] []) (fun (y485,y486)=>lZ y257∧lZ y485∧True) h (eA [(86,some 72)]) (by rintro ⟨y485,y486⟩;exact ((Holds.avl 73 rfl).and ((Holds.kdl 86 rfl).and (hT)))) ?_
 clear h
 rintro k ⟨y485,y486⟩ o hp h ho491
 replace h:separate_Identifiers.s16 y257 y485 y486=some o:=h
 unfold separate_Identifiers.s16 at h
 obtain ⟨z496,z497,_⟩:=hp
 conv=>whnf
 refine Both.mk ?_ ?_<;>intro b492
 obtain ⟨h,b492d⟩:=ctd b492 h
 conv=>whnf
 obtain ⟨e493,he493,h⟩:=idxn_some h
 refine ⟨_,⟨(by omega),map_at he493,rfl⟩,?_⟩
 conv=>whnf
 obtain ⟨c494,hc494,h⟩:=bind_some h
 refine ⟨_,(sp_wordset_Sorted e493 c494 (fun _=>hc494)).im,?_⟩
 conv=>whnf
 obtain ⟨c495,h⟩:=chk_some h
 refine Side.mk ⟨rfl,map_len (l:=[c494]) (c:=cL (cL cI)) fun _=>rfl,show capOk _ 24 by simpa only [List.length_map,List.length_cons,List.length_nil,Nat.zero_add] using c495⟩ ?_
 conv=>whnf
 refine Nf.mk (List.map (cL (cL cI)) (y485++[c494])) (app_map (l:=y485) (m:=[c494]) (c:=cL (cL cI))) ?_
 conv=>whnf
 refine Arith.mk (by show inR _;unfold inR;omega) ?_
 conv=>whnf
 cases h
 exact Nxt.mk _ ho491 (eA [(86,some 86)])
 obtain ⟨h,b492d⟩:=cfd b492 h
 conv=>whnf
 cases h
 have ho491:_=_:=ho491
 cases ho491
 exact Join.mk (eA [(86,some 86)])
 replace h:=hk462
 obtain ⟨z498,_⟩:=hp
 conv=>whnf
 cases h
 conv=>whnf
 exact Side.mk ⟨rfl,trivial⟩ ⟨rfl,rfl⟩
theorem sp_hsuite_Suite (m_:T_api_Mealy) (extra_:Int) (r:List (List Int)×Int) (h:Ok (.agg (c_api_Mealy m_))→Ok (nI extra_)→hsuite_Suite m_ extra_=some r):Sp Try.prog 27 [.im (.agg (c_api_Mealy m_)),.im (nI extra_)] (.tup [nL (cL cI) r.1,nI r.2]):=by
 refine sp_of rfl [700002] rfl rfl rfl (Nat.le_of_ble_eq_true rfl) rfl fun hk=>?_
 replace h:=h hk.1 hk.2.1
 have z1:lZ m_.Next:=ok_len (Ok.agg_at hk.1 2 rfl)
 have z2:lZ m_.Out:=ok_len (Ok.agg_at hk.1 3 rfl)
 unfold hsuite_Suite at h
 conv=>whnf
 obtain ⟨c51,hc51,h⟩:=bind_some h
 refine ⟨_,(sp_mealy_Valid m_ c51 (fun _=>hc51)),?_⟩
 conv=>whnf
 refine Both.mk ?_ ?_<;>intro b52
 obtain ⟨h,b52d⟩:=ctd b52 h
 conv=>whnf
 cases h
 conv=>whnf
 exact ⟨rfl,rfl⟩
 obtain ⟨h,b52d⟩:=cfd b52 h
 conv=>whnf
 obtain ⟨y56,hc,hk54⟩:=bind_some h
 clear h
 have h:=hc
 clear hc
 refine Cut.mk (mkSt [(1,.im (nI extra_)),(2,.im (.ref (c_api_Mealy m_))),(30,.im (nB y56))] [] []) (True) (hT) ?_ (fun hp=>?_)
 conv=>whnf
 refine Both.mk ?_ ?_<;>intro b57
 replace b57:=beq_ff b57
 obtain ⟨h,b57d⟩:=cfd b57 h
 conv=>whnf
 refine Both.yes (ff_beq b57) ?_
 conv=>whnf
 refine Both.no b57 ?_
 conv=>whnf
 cases h
 exact Join.mk (eA [])
 replace b57:=beq_ft b57
 obtain ⟨h,b57d⟩:=ctd b57 h
 conv=>whnf
 refine Both.no (tf_beq b57) ?_
 conv=>whnf
 refine Both.yes b57 ?_
 conv=>whnf
 cases h
 exact Join.mk (eA [])
 replace h:=hk54
 conv=>whnf
 refine Both.mk ?_ ?_<;>intro b58
 replace h:=cond_t b58 h
 conv=>whnf
 cases h
 conv=>whnf
 exact ⟨rfl,rfl⟩
 replace h:=cond_f b58 h
 conv=>whnf
 obtain ⟨c59,hc59,h⟩:=bind_some h
 refine ⟨_,(sp_minimize_Min m_ c59 (fun _=>hc59)),?_⟩
 conv=>whnf
 refine Side.mk rfl ?_
 conv=>whnf
 refine Both.mk ?_ ?_<;>intro b60
 obtain ⟨h,b60d⟩:=ctd b60 h
 conv=>whnf
 cases h
 conv=>whnf
 exact ⟨rfl,rfl⟩
 obtain ⟨h,b60d⟩:=cfd b60 h
 conv=>whnf
 refine Side.mk rfl ?_
 conv=>whnf
 obtain ⟨c61,hc61,h⟩:=bind_some h
 refine ⟨_,(sp_cover_StateCover c59.1 c61 (fun _=>hc61)),?_⟩
 conv=>whnf
 refine Both.mk ?_ ?_<;>intro b62
 obtain ⟨h,b62d⟩:=ctd b62 h
 conv=>whnf
 cases h
 conv=>whnf
 exact ⟨rfl,rfl⟩
 obtain ⟨h,b62d⟩:=cfd b62 h
 conv=>whnf
 refine Side.mk rfl ?_
 conv=>whnf
 refine Side.mk rfl ?_
 conv=>whnf
 obtain ⟨c63,h⟩:=chk_some h
 refine Arith.mk c63 ?_
 conv=>whnf
 obtain ⟨c64,hc64,h⟩:=bind_some h
 refine ⟨_,(sp_wordset_Upto c59.1.Inputs (extra_+1) c64 (fun _ _=>hc64)),?_⟩
 conv=>whnf
 refine Both.mk ?_ ?_<;>intro b65
 obtain ⟨h,b65d⟩:=ctd b65 h
 conv=>whnf
 cases h
 conv=>whnf
 exact ⟨rfl,rfl⟩
 obtain ⟨h,b65d⟩:=cfd b65 h
 conv=>whnf
 refine Side.mk rfl ?_
 conv=>whnf
 obtain ⟨c66,hc66,h⟩:=bind_some h
 refine ⟨_,(sp_separate_Identifiers c59.1 c66 (fun _=>hc66)),?_⟩
 conv=>whnf
 refine Both.mk ?_ ?_<;>intro b67
 obtain ⟨h,b67d⟩:=ctd b67 h
 conv=>whnf
 cases h
 conv=>whnf
 exact ⟨rfl,rfl⟩
 obtain ⟨h,b67d⟩:=cfd b67 h
 conv=>whnf
 refine Nf.mk (List.length c61.1) len_map ?_
 conv=>whnf
 refine Nf.mk (List.length c64.1) len_map ?_
 conv=>whnf
 obtain ⟨c68,h⟩:=chk_some h
 refine Arith.mk c68 ?_
 conv=>whnf
 obtain ⟨c69,hc69,h⟩:=bind_some h
 refine ⟨_,(sp_hsuite_most c66.1 c69 (fun _=>hc69)),?_⟩
 conv=>whnf
 obtain ⟨c70,h⟩:=chk_some h
 refine Arith.mk c70 ?_
 conv=>whnf
 refine Both.mk ?_ ?_<;>intro b71
 obtain ⟨h,b71d⟩:=ctd b71 h
 conv=>whnf
 cases h
 conv=>whnf
 exact ⟨rfl,rfl⟩
 obtain ⟨h,b71d⟩:=cfd b71 h
 conv=>whnf
 refine Nf.mk (List.length c61.1) len_map ?_
 conv=>whnf
 obtain ⟨oc,hc,hk72⟩:=bind_some h
 clear h
 have h:=hc
 clear hc
 refine Cut.mkS oc (Y:=List (List Int)) (fun y298=>mkSt [(12,.osl 110 1)] [(110,.row 26 1 (List.map (cL cI) y298))] []) (fun y298=>lZ y298∧True) (by rintro y298;exact ((Holds.kdl 110 rfl).and (hT))) ?_ ?_
 conv=>whnf
 refine Loops.iter (fun (s:List (List Int)×Nat)=>hsuite_Suite.s14 c59 c61 c64 c66 s.1 s.2) (fun (y371,y372)=>mkSt [(7,.own 110 1 0),(10,.im (nL (cL cI) c64.1)),(11,.im (nL (cL (cL cI)) c66.1)),(12,.osl 111 1),(75,.im (nL (cL cI) c61.1)),(76,.im (nI (↑(List.length c61.1):Int))),(77,.im (nI (↑y372:Int)))] [(110,.box 24 4),(111,.row 26 1 (List.map (cL cI) y371))] [(110,0,.im (nI c59.1.Inputs)),(110,1,.im (nI c59.1.Start)),(110,2,.im (nL (cL cI) c59.1.Next)),(110,3,.im (nL (cL cI) c59.1.Out))]) (fun (y371,y372)=>lZ c64.1∧lZ c66.1∧lZ c61.1∧lZ c59.1.Next∧lZ c59.1.Out∧lZ y371∧True) h (eA [(110,some 7),(111,none)]) (by rintro ⟨y371,y372⟩;exact ((Holds.avl 10 rfl).and ((Holds.avl 11 rfl).and ((Holds.avl 75 rfl).and ((Holds.cel 110 2 rfl (by decide) rfl).and ((Holds.cel 110 3 rfl (by decide) rfl).and ((Holds.kdl 111 rfl).and (hT)))))))) ?_
 clear h
 rintro k ⟨y371,y372⟩ o hp h ho445
 replace h:hsuite_Suite.s14 c59 c61 c64 c66 y371 y372=some o:=h
 unfold hsuite_Suite.s14 at h
 obtain ⟨z518,z519,z520,z521,z522,z523,_⟩:=hp
 conv=>whnf
 refine Both.mk ?_ ?_<;>intro b446
 obtain ⟨h,b446d⟩:=ctd b446 h
 conv=>whnf
 obtain ⟨e447,he447,h⟩:=idxn_some h
 refine ⟨_,⟨(by omega),map_at he447,rfl⟩,?_⟩
 conv=>whnf
 refine Nf.mk (List.length c64.1) len_map ?_
 conv=>whnf
 obtain ⟨oc,hc,hk448⟩:=bind_some h
 clear h
 have h:=hc
 clear hc
 refine Cut.mkS oc (Y:=List (List Int)) (fun y480=>mkSt [(7,.own 110 1 0),(10,.im (nL (cL cI) c64.1)),(11,.im (nL (cL (cL cI)) c66.1)),(12,.osl 111 1),(75,.im (nL (cL cI) c61.1)),(76,.im (nI (↑(List.length c61.1):Int))),(77,.im (nI (↑y372:Int)))] [(110,.box 24 4),(111,.row 26 1 (List.map (cL cI) y480))] [(110,0,.im (nI c59.1.Inputs)),(110,1,.im (nI c59.1.Start)),(110,2,.im (nL (cL cI) c59.1.Next)),(110,3,.im (nL (cL cI) c59.1.Out))]) (fun y480=>lZ c64.1∧lZ c66.1∧lZ c61.1∧lZ c59.1.Next∧lZ c59.1.Out∧lZ y480∧True) (by rintro y480;exact ((Holds.avl 10 rfl).and ((Holds.avl 11 rfl).and ((Holds.avl 75 rfl).and ((Holds.cel 110 2 rfl (by decide) rfl).and ((Holds.cel 110 3 rfl (by decide) rfl).and ((Holds.kdl 111 rfl).and (hT)))))))) ?_ ?_
 conv=>whnf
 refine Loops.iter (fun (s:List (List Int)×Nat)=>hsuite_Suite.s13 c59 c64 c66 e447 s.1 s.2) (fun (y488,y489)=>mkSt [(7,.own 110 1 0),(10,.im (nL (cL cI) c64.1)),(11,.im (nL (cL (cL cI)) c66.1)),(12,.osl 111 1),(14,.im (nL cI e447)),(75,.im (nL (cL cI) c61.1)),(76,.im (nI (↑(List.length c61.1):Int))),(77,.im (nI (↑y372:Int))),(81,.im (nL (cL cI) c64.1)),(82,.im (nI (↑(List.length c64.1):Int))),(83,.im (nI (↑y489:Int)))] [(110,.box 24 4),(111,.row 26 1 (List.map (cL cI) y488))] [(110,0,.im (nI c59.1.Inputs)),(110,1,.im (nI c59.1.Start)),(110,2,.im (nL (cL cI) c59.1.Next)),(110,3,.im (nL (cL cI) c59.1.Out))]) (fun (y488,y489)=>lZ c64.1∧lZ c66.1∧lZ e447∧lZ c61.1∧lZ c59.1.Next∧lZ c59.1.Out∧lZ y488∧True) h (eA [(110,some 110),(111,some 111)]) (by rintro ⟨y488,y489⟩;exact ((Holds.avl 10 rfl).and ((Holds.avl 11 rfl).and ((Holds.avl 14 rfl).and ((Holds.avl 75 rfl).and ((Holds.cel 110 2 rfl (by decide) rfl).and ((Holds.cel 110 3 rfl (by decide) rfl).and ((Holds.kdl 111 rfl).and (hT))))))))) ?_
 clear h
 rintro k ⟨y488,y489⟩ o hp h ho497
 replace h:hsuite_Suite.s13 c59 c64 c66 e447 y488 y489=some o:=h
 unfold hsuite_Suite.s13 at h
 obtain ⟨z505,z506,z507,z508,z509,z510,z511,_⟩:=hp
 conv=>whnf
 refine Both.mk ?_ ?_<;>intro b498
 obtain ⟨h,b498d⟩:=ctd b498 h
 conv=>whnf
 obtain ⟨e499,he499,h⟩:=idxn_some h
 refine ⟨_,⟨(by omega),map_at he499,rfl⟩,?_⟩
 conv=>whnf
 obtain ⟨c500,hc500,h⟩:=bind_some h
 refine ⟨_,(sp_word_Join [e447,e499] c500 (fun _=>hc500)),?_⟩
 conv=>whnf
 refine Side.mk rfl ?_
 conv=>whnf
 obtain ⟨c501,hc501,h⟩:=bind_some h
 refine ⟨_,(sp_hsuite_Tails c59.1 c66.1 c500 c501 (fun _ _ _=>hc501)),?_⟩
 conv=>whnf
 refine Both.mk ?_ ?_<;>intro b502
 obtain ⟨h,b502d⟩:=ctd b502 h
 conv=>whnf
 cases h
 have ho497:_=_:=ho497
 cases ho497
 replace h:some _=some _:=hk448
 cases h
 have ho445:_=_:=ho445
 cases ho445
 replace h:some _=some _:=hk72
 cases h
 conv=>whnf
 exact ⟨rfl,rfl⟩
 obtain ⟨h,b502d⟩:=cfd b502 h
 conv=>whnf
 obtain ⟨c503,hc503,h⟩:=bind_some h
 refine ⟨_,(sp_hsuite_behind c500 c501.1 c503 (fun _ _=>hc503)).im,?_⟩
 conv=>whnf
 obtain ⟨c504,h⟩:=chk_some h
 refine Side.mk ⟨rfl,map_len (l:=c503) (c:=cL cI) fun _=>rfl,show capOk _ 24 by simpa only [List.length_map,List.length_cons,List.length_nil,Nat.zero_add] using c504⟩ ?_
 conv=>whnf
 refine Nf.mk (List.map (cL cI) (y488++c503)) (app_map (l:=y488) (m:=c503) (c:=cL cI)) ?_
 conv=>whnf
 refine Arith.mk (by show inR _;unfold inR;omega) ?_
 conv=>whnf
 cases h
 exact Nxt.mk _ ho497 (eA [(110,some 110),(111,some 111)])
 obtain ⟨h,b498d⟩:=cfd b498 h
 conv=>whnf
 cases h
 have ho497:_=_:=ho497
 cases ho497
 exact JoinS.mk' _ rfl (eA [(110,some 110),(111,some 111)])
 rintro y480 rfl hp
 replace h:=sum_inl hk448
 obtain ⟨z512,z513,z514,z515,z516,z517,_⟩:=hp
 conv=>whnf
 refine Arith.mk (by show inR _;unfold inR;omega) ?_
 conv=>whnf
 cases h
 exact Nxt.mk _ ho445 (eA [(110,some 110),(111,some 111)])
 obtain ⟨h,b446d⟩:=cfd b446 h
 conv=>whnf
 cases h
 have ho445:_=_:=ho445
 cases ho445
 exact JoinS.mk' _ rfl (eA [(110,some 111)])
 rintro y298 rfl hp
 replace h:=sum_inl hk72
 obtain ⟨z524,_⟩:=hp
 conv=>whnf
 refine Side.mk ⟨rfl,trivial⟩ ?_
 conv=>whnf
 obtain ⟨c525,hc525,h⟩:=bind_some h
 refine ⟨_,(sp_wordset_Maximal y298 c525 (fun _=>hc525)),?_⟩
 conv=>whnf
 cases h
 conv=>whnf
 exact ⟨rfl,rfl⟩
theorem sp_L30_exampleHolds (r:Bool) (h:L30_exampleHolds=some r):Sp Try.prog 11 [] (.im (nB r)):=by
 refine sp_of rfl [] rfl rfl rfl (Nat.le_of_ble_eq_true rfl) rfl fun hk=>?_
 unfold L30_exampleHolds at h
 conv=>whnf
 refine Side.mk rfl ?_
 conv=>whnf
 refine Side.mk rfl ?_
 conv=>whnf
 obtain ⟨c51,hc51,h⟩:=bind_some h
 refine ⟨_,(sp_hsuite_Suite (⟨1,0,[[1],[2],[0]],[[0],[0],[1]]⟩:T_api_Mealy) 0 c51 (fun _ _=>hc51)),?_⟩
 conv=>whnf
 obtain ⟨c52,hc52,h⟩:=bind_some h
 refine ⟨_,(sp_hsuite_Suite (⟨1,0,[[0]],[[0]]⟩:T_api_Mealy) 0 c52 (fun _ _=>hc52)),?_⟩
 conv=>whnf
 refine Side.mk rfl ?_
 conv=>whnf
 obtain ⟨c53,hc53,h⟩:=bind_some h
 refine ⟨_,(sp_hsuite_Tails (⟨1,0,[[1],[2],[0]],[[0],[0],[1]]⟩:T_api_Mealy) [[[0],[0,0]],[[0],[0,0]],[[0]]] [0,0] c53 (fun _ _ _=>hc53)),?_⟩
 conv=>whnf
 refine Side.mk rfl ?_
 conv=>whnf
 obtain ⟨c54,hc54,h⟩:=bind_some h
 refine ⟨_,(sp_hsuite_Tails (⟨1,0,[[1],[2],[0]],[[0],[0],[1]]⟩:T_api_Mealy) [[[0],[0,0]],[[0],[0,0]],[[0]]] [] c54 (fun _ _ _=>hc54)),?_⟩
 conv=>whnf
 refine Side.mk rfl ?_
 conv=>whnf
 obtain ⟨c55,h⟩:=chk_some h
 refine Side.mk (show (0:Int)≤(0:Int)∧(0:Int)≤2∧2≤(↑(List.length (List.map (cL (cL cI)) [[[0],[0,0]],[[0],[0,0]],[[0]]])):Int)∧(∀ e∈List.map (cL (cL cI)) [[[0],[0,0]],[[0],[0,0]],[[0]]],List.length e=1) from ⟨by omega,by first | omega | (simp only [List.length_map];omega),by first | omega | (simp only [List.length_map];omega),map_len fun _=>rfl⟩) ?_
 conv=>whnf
 refine Nf.mk (List.map (cL (cL cI)) (List.take 2 [[[0],[0,0]],[[0],[0,0]],[[0]]])) take_map ?_
 conv=>whnf
 obtain ⟨c56,hc56,h⟩:=bind_some h
 refine ⟨_,(sp_hsuite_Tails (⟨1,0,[[1],[2],[0]],[[0],[0],[1]]⟩:T_api_Mealy) (List.take 2 [[[0],[0,0]],[[0],[0,0]],[[0]]]) [] c56 (fun _ _ _=>hc56)),?_⟩
 conv=>whnf
 obtain ⟨y72,hc,hk58⟩:=bind_some h
 clear h
 have h:=hc
 clear hc
 refine Cut.mk (mkSt [(0,.im (nB y72))] [] []) (True) (hT) ?_ (fun hp=>?_)
 conv=>whnf
 refine Both.mk ?_ ?_<;>intro b73
 replace b73:=beq_tt b73
 obtain ⟨h,b73d⟩:=ctd b73 h
 conv=>whnf
 refine Both.yes (tt_beq b73) ?_
 conv=>whnf
 refine Both.yes b73 ?_
 conv=>whnf
 refine Both.mk ?_ ?_<;>intro b74
 replace b74:=beq_tt b74
 obtain ⟨h,b74d⟩:=ctd b74 h
 conv=>whnf
 refine Both.yes (tt_beq b74) ?_
 conv=>whnf
 refine Both.yes b74 ?_
 conv=>whnf
 refine Both.mk ?_ ?_<;>intro b75
 replace b75:=beq_tt b75
 obtain ⟨h,b75d⟩:=ctd b75 h
 conv=>whnf
 refine Both.yes (tt_beq b75) ?_
 conv=>whnf
 refine Both.yes b75 ?_
 conv=>whnf
 refine Both.mk ?_ ?_<;>intro b76
 replace b76:=beq_tt b76
 obtain ⟨h,b76d⟩:=ctd b76 h
 conv=>whnf
 refine Both.yes (tt_beq b76) ?_
 conv=>whnf
 refine Both.yes b76 ?_
 conv=>whnf
 refine Both.mk ?_ ?_<;>intro b77
 replace b77:=beq_tt b77
 obtain ⟨h,b77d⟩:=ctd b77 h
 conv=>whnf
 iterate 3 (refine Both.yes (tt_beq b77) ?_;(conv=>whnf))
 obtain ⟨c78,hc78,h⟩:=bind_some h
 refine ⟨_,(sp_R10_Same c51.1 [[0,0,0,0,0]] c78 (fun _ _=>hc78)),?_⟩
 conv=>whnf
 refine Both.yes b77 ?_
 conv=>whnf
 refine Both.mk ?_ ?_<;>intro b79
 replace b79:=beq_tt b79
 replace h:=cond_t b79 h
 conv=>whnf
 iterate 3 (refine Both.yes (tt_beq b79) ?_;(conv=>whnf))
 obtain ⟨c80,hc80,h⟩:=bind_some h
 refine ⟨_,(sp_R10_Same c52.1 [[0]] c80 (fun _ _=>hc80)),?_⟩
 conv=>whnf
 refine Both.yes b79 ?_
 conv=>whnf
 refine Both.mk ?_ ?_<;>intro b81
 replace b81:=beq_tt b81
 replace h:=cond_t b81 h
 conv=>whnf
 iterate 3 (refine Both.yes (tt_beq b81) ?_;(conv=>whnf))
 obtain ⟨c82,hc82,h⟩:=bind_some h
 refine ⟨_,(sp_R10_Same c53.1 [[0]] c82 (fun _ _=>hc82)),?_⟩
 conv=>whnf
 refine Both.yes b81 ?_
 conv=>whnf
 refine Both.mk ?_ ?_<;>intro b83
 replace b83:=beq_tt b83
 replace h:=cond_t b83 h
 conv=>whnf
 iterate 2 (refine Both.yes (tt_beq b83) ?_;(conv=>whnf))
 obtain ⟨e84,he84,h⟩:=idxn_some h
 refine ⟨_,⟨(by omega),map_at (l:=[[[0],[0,0]],[[0],[0,0]],[[0]]]) (c:=(cL (cL cI))) he84,rfl⟩,?_⟩
 conv=>whnf
 iterate 2 (refine Both.yes (tt_beq b83) ?_;(conv=>whnf))
 obtain ⟨c85,hc85,h⟩:=bind_some h
 refine ⟨_,(sp_R10_Same c54.1 e84 c85 (fun _ _=>hc85)),?_⟩
 conv=>whnf
 refine Both.yes b83 ?_
 conv=>whnf
 cases h
 exact Join.mk (eA [])
 replace b83:=beq_tf b83
 replace h:=cond_f b83 h
 conv=>whnf
 iterate 4 (refine Both.no (ft_beq b83) ?_;(conv=>whnf))
 refine Both.no b83 ?_
 conv=>whnf
 cases h
 exact Join.mk (eA [])
 replace b81:=beq_tf b81
 replace h:=cond_f b81 h
 conv=>whnf
 iterate 3 (refine Both.no (ft_beq b81) ?_;(conv=>whnf))
 refine Both.no b81 ?_
 conv=>whnf
 iterate 6 (refine Both.no rfl ?_;(conv=>whnf))
 cases h
 exact Join.mk (eA [])
 replace b79:=beq_tf b79
 replace h:=cond_f b79 h
 conv=>whnf
 iterate 3 (refine Both.no (ft_beq b79) ?_;(conv=>whnf))
 refine Both.no b79 ?_
 conv=>whnf
 iterate 11 (refine Both.no rfl ?_;(conv=>whnf))
 cases h
 exact Join.mk (eA [])
 replace b77:=beq_tf b77
 obtain ⟨h,b77d⟩:=cfd b77 h
 conv=>whnf
 iterate 3 (refine Both.no (ft_beq b77) ?_;(conv=>whnf))
 refine Both.no b77 ?_
 conv=>whnf
 iterate 16 (refine Both.no rfl ?_;(conv=>whnf))
 cases h
 exact Join.mk (eA [])
 replace b76:=beq_tf b76
 obtain ⟨h,b76d⟩:=cfd b76 h
 conv=>whnf
 refine Both.no (ft_beq b76) ?_
 conv=>whnf
 refine Both.no b76 ?_
 conv=>whnf
 iterate 21 (refine Both.no rfl ?_;(conv=>whnf))
 cases h
 exact Join.mk (eA [])
 replace b75:=beq_tf b75
 obtain ⟨h,b75d⟩:=cfd b75 h
 conv=>whnf
 refine Both.no (ft_beq b75) ?_
 conv=>whnf
 refine Both.no b75 ?_
 conv=>whnf
 iterate 24 (refine Both.no rfl ?_;(conv=>whnf))
 cases h
 exact Join.mk (eA [])
 replace b74:=beq_tf b74
 obtain ⟨h,b74d⟩:=cfd b74 h
 conv=>whnf
 refine Both.no (ft_beq b74) ?_
 conv=>whnf
 refine Both.no b74 ?_
 conv=>whnf
 iterate 27 (refine Both.no rfl ?_;(conv=>whnf))
 cases h
 exact Join.mk (eA [])
 replace b73:=beq_tf b73
 obtain ⟨h,b73d⟩:=cfd b73 h
 conv=>whnf
 refine Both.no (ft_beq b73) ?_
 conv=>whnf
 refine Both.no b73 ?_
 conv=>whnf
 iterate 30 (refine Both.no rfl ?_;(conv=>whnf))
 cases h
 exact Join.mk (eA [])
 replace h:=hk58
 conv=>whnf
 cases h
 conv=>whnf
 exact ⟨rfl,rfl⟩
theorem sp_R06_Ints (a_:List Int) (b_:List Int) (r:Bool) (h:Ok (nL cI a_)→Ok (nL cI b_)→R06_Ints a_ b_=some r):Sp Try.prog 19 [.im (nL cI a_),.im (nL cI b_)] (.im (nB r)):=by
 refine sp_of rfl [] rfl rfl rfl (Nat.le_of_ble_eq_true rfl) rfl fun hk=>?_
 replace h:=h hk.1 hk.2.1
 have z1:lZ a_:=ok_len hk.1
 have z2:lZ b_:=ok_len hk.2.1
 unfold R06_Ints at h
 conv=>whnf
 refine Nf.mk (List.length a_) len_map ?_
 conv=>whnf
 refine Nf.mk (List.length b_) len_map ?_
 conv=>whnf
 refine Both.mk ?_ ?_<;>intro b51
 obtain ⟨h,b51d⟩:=ctd b51 h
 conv=>whnf
 cases h
 conv=>whnf
 exact ⟨rfl,rfl⟩
 obtain ⟨h,b51d⟩:=cfd b51 h
 conv=>whnf
 obtain ⟨oc,hc,hk52⟩:=bind_some h
 clear h
 have h:=hc
 clear hc
 refine Cut.mkS oc (Y:=Unit) (fun (_:Unit)=>mkSt [] [] []) (fun (_:Unit)=>True) (by rintro ⟨⟩;exact (hT)) ?_ ?_
 conv=>whnf
 refine Loops.iter (fun (s:Nat)=>R06_Ints.s2 a_ b_ s) (fun i73=>mkSt [(0,.im (nL cI a_)),(1,.im (nL cI b_)),(5,.im (nI (↑i73:Int)))] [] []) (fun i73=>lZ a_∧lZ b_∧True) h (eA []) (by rintro i73;exact ((Holds.avl 0 rfl).and ((Holds.avl 1 rfl).and (hT)))) ?_
 clear h
 rintro k i73 o hp h ho78
 replace h:R06_Ints.s2 a_ b_ i73=some o:=h
 unfold R06_Ints.s2 at h
 obtain ⟨z83,z84,_⟩:=hp
 conv=>whnf
 refine Nf.mk (List.length a_) len_map ?_
 conv=>whnf
 refine Both.mk ?_ ?_<;>intro b79
 obtain ⟨h,b79d⟩:=ctd b79 h
 conv=>whnf
 obtain ⟨e80,he80,h⟩:=idxn_some h
 refine ⟨_,⟨(by omega),map_at he80,rfl⟩,?_⟩
 conv=>whnf
 obtain ⟨e81,he81,h⟩:=idxn_some h
 refine ⟨_,⟨(by omega),map_at he81,rfl⟩,?_⟩
 conv=>whnf
 refine Both.mk ?_ ?_<;>intro b82
 obtain ⟨h,b82d⟩:=ctd b82 h
 conv=>whnf
 cases h
 have ho78:_=_:=ho78
 cases ho78
 replace h:some _=some _:=hk52
 cases h
 conv=>whnf
 exact ⟨rfl,rfl⟩
 obtain ⟨h,b82d⟩:=cfd b82 h
 conv=>whnf
 refine Arith.mk (by show inR _;unfold inR;omega) ?_
 conv=>whnf
 cases h
 exact Nxt.mk _ ho78 (eA [])
 obtain ⟨h,b79d⟩:=cfd b79 h
 conv=>whnf
 cases h
 have ho78:_=_:=ho78
 cases ho78
 exact JoinS.mk' _ rfl (eA [])
 rintro ⟨⟩ rfl hp
 replace h:=sum_inl hk52
 conv=>whnf
 cases h
 conv=>whnf
 exact ⟨rfl,rfl⟩
theorem sp_L30_HsuiteRecognizes (m_:T_api_Mealy) (w_:List Int) (r:Bool) (h:Ok (.agg (c_api_Mealy m_))→Ok (nL cI w_)→L30_HsuiteRecognizes m_ w_=some r):Sp Try.prog 4 [.im (.agg (c_api_Mealy m_)),.im (nL cI w_)] (.im (nB r)):=by
 refine sp_of rfl [700002] rfl rfl rfl (Nat.le_of_ble_eq_true rfl) rfl fun hk=>?_
 replace h:=h hk.1 hk.2.1
 have z1:lZ m_.Next:=ok_len (Ok.agg_at hk.1 2 rfl)
 have z2:lZ m_.Out:=ok_len (Ok.agg_at hk.1 3 rfl)
 have z3:lZ w_:=ok_len hk.2.1
 unfold L30_HsuiteRecognizes at h
 conv=>whnf
 obtain ⟨y59,hc,hk52⟩:=bind_some h
 clear h
 have h:=hc
 clear hc
 refine Cut.mk (mkSt [(1,.im (nL cI w_)),(2,.im (.ref (c_api_Mealy m_))),(38,.im (nB y59))] [] []) (lZ w_∧True) ((Holds.avl 1 rfl).and (hT)) ?_ (fun hp=>?_)
 conv=>whnf
 obtain ⟨c60,hc60,h⟩:=bind_some h
 refine ⟨_,(sp_L11_Small m_ c60 (fun _=>hc60)),?_⟩
 conv=>whnf
 refine Both.mk ?_ ?_<;>intro b61
 replace b61:=beq_ff b61
 replace h:=cond_f b61 h
 conv=>whnf
 refine Both.yes (ff_beq b61) ?_
 conv=>whnf
 obtain ⟨c62,hc62,h⟩:=bind_some h
 refine ⟨_,(sp_minimize_Minimal m_ c62 (fun _=>hc62)),?_⟩
 conv=>whnf
 refine Both.yes (ff_beq b61) ?_
 conv=>whnf
 refine Both.no b61 ?_
 conv=>whnf
 refine Both.mk ?_ ?_<;>intro b63
 replace b63:=beq_ff b63
 replace h:=cond_f b63 h
 conv=>whnf
 refine Both.yes (ff_beq b63) ?_
 conv=>whnf
 obtain ⟨c64,hc64,h⟩:=bind_some h
 refine ⟨_,(sp_R06_Valid m_ c64 (fun _=>hc64)),?_⟩
 conv=>whnf
 refine Both.yes (ff_beq b63) ?_
 conv=>whnf
 refine Both.no b63 ?_
 conv=>whnf
 refine Both.mk ?_ ?_<;>intro b65
 replace b65:=beq_ff b65
 obtain ⟨h,b65d⟩:=cfd b65 h
 conv=>whnf
 refine Both.yes (ff_beq b65) ?_
 conv=>whnf
 refine Nf.mk (List.length w_) len_map ?_
 conv=>whnf
 refine Both.yes (ff_beq b65) ?_
 conv=>whnf
 refine Both.no b65 ?_
 conv=>whnf
 cases h
 exact Join.mk (eA [])
 replace b65:=beq_ft b65
 obtain ⟨h,b65d⟩:=ctd b65 h
 conv=>whnf
 iterate 2 (refine Both.no (tf_beq b65) ?_;(conv=>whnf))
 refine Both.yes b65 ?_
 conv=>whnf
 cases h
 exact Join.mk (eA [])
 replace b63:=beq_ft b63
 replace h:=cond_t b63 h
 conv=>whnf
 iterate 2 (refine Both.no (tf_beq b63) ?_;(conv=>whnf))
 refine Both.yes b63 ?_
 conv=>whnf
 iterate 3 (refine Both.no rfl ?_;(conv=>whnf))
 refine Both.yes rfl ?_
 conv=>whnf
 cases h
 exact Join.mk (eA [])
 replace b61:=beq_ft b61
 replace h:=cond_t b61 h
 conv=>whnf
 iterate 2 (refine Both.no (tf_beq b61) ?_;(conv=>whnf))
 refine Both.yes b61 ?_
 conv=>whnf
 iterate 3 (refine Both.no rfl ?_;(conv=>whnf))
 refine Both.yes rfl ?_
 conv=>whnf
 iterate 3 (refine Both.no rfl ?_;(conv=>whnf))
 refine Both.yes rfl ?_
 conv=>whnf
 cases h
 exact Join.mk (eA [])
 replace h:=hk52
 obtain ⟨z66,_⟩:=hp
 conv=>whnf
 refine Both.mk ?_ ?_<;>intro b67
 replace h:=cond_t b67 h
 conv=>whnf
 obtain ⟨c68,hc68,h⟩:=bind_some h
 refine ⟨_,(sp_L30_exampleHolds  c68 (hc68)),?_⟩
 conv=>whnf
 cases h
 conv=>whnf
 exact ⟨rfl,rfl⟩
 replace h:=cond_f b67 h
 conv=>whnf
 obtain ⟨c69,hc69,h⟩:=bind_some h
 refine ⟨_,(sp_separate_Identifiers m_ c69 (fun _=>hc69)),?_⟩
 conv=>whnf
 obtain ⟨c70,hc70,h⟩:=bind_some h
 refine ⟨_,(sp_hsuite_Tails m_ c69.1 w_ c70 (fun _ _ _=>hc70)),?_⟩
 conv=>whnf
 obtain ⟨c71,hc71,h⟩:=bind_some h
 refine ⟨_,(sp_mealy_From m_ m_.Start w_ c71 (fun _ _ _=>hc71)),?_⟩
 conv=>whnf
 refine Both.mk ?_ ?_<;>intro b72
 obtain ⟨h,b72d⟩:=ctd b72 h
 conv=>whnf
 obtain ⟨y78,hc,hk74⟩:=bind_some h
 clear h
 have h:=hc
 clear hc
 refine Cut.mk (mkSt [(4,.im (nB y78))] [] []) (True) (hT) ?_ (fun hp=>?_)
 conv=>whnf
 refine Nf.mk (List.length c70.1) len_map ?_
 conv=>whnf
 refine Both.mk ?_ ?_<;>intro b79
 replace b79:=beq_tt b79
 obtain ⟨h,b79d⟩:=ctd b79 h
 conv=>whnf
 iterate 2 (refine Both.yes (tt_beq b79) ?_;(conv=>whnf))
 refine Both.yes b79 ?_
 conv=>whnf
 refine Both.mk ?_ ?_<;>intro b80
 replace b80:=beq_tt b80
 obtain ⟨h,b80d⟩:=ctd b80 h
 conv=>whnf
 obtain ⟨c81,hc81,h⟩:=bind_some h
 refine ⟨_,(sp_L30_exampleHolds  c81 (hc81)),?_⟩
 conv=>whnf
 refine Both.yes b80 ?_
 conv=>whnf
 cases h
 exact Join.mk (eA [])
 replace b80:=beq_tf b80
 obtain ⟨h,b80d⟩:=cfd b80 h
 conv=>whnf
 refine Both.no b80 ?_
 conv=>whnf
 cases h
 exact Join.mk (eA [])
 replace b79:=beq_tf b79
 obtain ⟨h,b79d⟩:=cfd b79 h
 conv=>whnf
 iterate 2 (refine Both.no (ft_beq b79) ?_;(conv=>whnf))
 refine Both.no b79 ?_
 conv=>whnf
 iterate 2 (refine Both.no rfl ?_;(conv=>whnf))
 cases h
 exact Join.mk (eA [])
 replace h:=hk74
 conv=>whnf
 cases h
 conv=>whnf
 exact ⟨rfl,rfl⟩
 obtain ⟨h,b72d⟩:=cfd b72 h
 conv=>whnf
 obtain ⟨y85,hc,hk83⟩:=bind_some h
 clear h
 have h:=hc
 clear hc
 refine Cut.mk (mkSt [(2,.im (.ref (c_api_Mealy m_))),(6,.im (nI c69.2)),(7,.im (nL (cL cI) c70.1)),(10,.im (nI c71.2.1)),(79,.im (nB y85))] [] []) (lZ c70.1∧True) ((Holds.avl 7 rfl).and (hT)) ?_ (fun hp=>?_)
 conv=>whnf
 refine Both.mk ?_ ?_<;>intro b86
 replace b86:=beq_ff b86
 obtain ⟨h,b86d⟩:=cfd b86 h
 conv=>whnf
 refine Both.yes (ff_beq b86) ?_
 conv=>whnf
 refine Both.no b86 ?_
 conv=>whnf
 cases h
 exact Join.mk (eA [])
 replace b86:=beq_ft b86
 obtain ⟨h,b86d⟩:=ctd b86 h
 conv=>whnf
 refine Both.no (tf_beq b86) ?_
 conv=>whnf
 refine Both.yes b86 ?_
 conv=>whnf
 cases h
 exact Join.mk (eA [])
 replace h:=hk83
 obtain ⟨z87,_⟩:=hp
 conv=>whnf
 refine Both.mk ?_ ?_<;>intro b88
 replace h:=cond_t b88 h
 conv=>whnf
 obtain ⟨y93,hc,hk90⟩:=bind_some h
 clear h
 have h:=hc
 clear hc
 refine Cut.mk (mkSt [(4,.im (nB y93))] [] []) (True) (hT) ?_ (fun hp=>?_)
 conv=>whnf
 refine Both.mk ?_ ?_<;>intro b94
 replace b94:=beq_tt b94
 obtain ⟨h,b94d⟩:=ctd b94 h
 conv=>whnf
 obtain ⟨c95,hc95,h⟩:=bind_some h
 refine ⟨_,(sp_L30_exampleHolds  c95 (hc95)),?_⟩
 conv=>whnf
 refine Both.yes b94 ?_
 conv=>whnf
 cases h
 exact Join.mk (eA [])
 replace b94:=beq_tf b94
 obtain ⟨h,b94d⟩:=cfd b94 h
 conv=>whnf
 refine Both.no b94 ?_
 conv=>whnf
 cases h
 exact Join.mk (eA [])
 replace h:=hk90
 conv=>whnf
 cases h
 conv=>whnf
 exact ⟨rfl,rfl⟩
 replace h:=cond_f b88 h
 conv=>whnf
 refine Nf.mk (List.length m_.Next) len_map ?_
 conv=>whnf
 obtain ⟨oc,hc,hk96⟩:=bind_some h
 clear h
 have h:=hc
 clear hc
 refine Cut.mkS oc (Y:=Unit) (fun (_:Unit)=>mkSt [] [] []) (fun (_:Unit)=>True) (by rintro ⟨⟩;exact (hT)) ?_ ?_
 conv=>whnf
 refine Loops.iter (fun (s:Nat)=>L30_HsuiteRecognizes.s14 m_ c70 c71 s) (fun y360=>mkSt [(2,.im (.ref (c_api_Mealy m_))),(7,.im (nL (cL cI) c70.1)),(10,.im (nI c71.2.1)),(87,.im (nI (↑(List.length m_.Next):Int))),(88,.im (nI (↑y360:Int)))] [] []) (fun y360=>lZ c70.1∧True) h (eA []) (by rintro y360;exact ((Holds.avl 7 rfl).and (hT))) ?_
 clear h
 rintro k y360 o hp h ho426
 replace h:L30_HsuiteRecognizes.s14 m_ c70 c71 y360=some o:=h
 unfold L30_HsuiteRecognizes.s14 at h
 obtain ⟨z492,_⟩:=hp
 conv=>whnf
 refine Both.mk ?_ ?_<;>intro b427
 obtain ⟨h,b427d⟩:=ctd b427 h
 conv=>whnf
 refine Nf.mk (List.length c70.1) len_map ?_
 conv=>whnf
 obtain ⟨differ459,hc,hk428⟩:=bind_some h
 clear h
 have h:=hc
 clear hc
 refine Cut.mk (mkSt [(2,.im (.ref (c_api_Mealy m_))),(7,.im (nL (cL cI) c70.1)),(10,.im (nI c71.2.1)),(12,.im (nI (↑y360:Int))),(13,.im (nB differ459)),(87,.im (nI (↑(List.length m_.Next):Int))),(88,.im (nI (↑y360:Int)))] [] []) (lZ c70.1∧True) ((Holds.avl 7 rfl).and (hT)) ?_ (fun hp=>?_)
 conv=>whnf
 refine Loops.iter (fun (s:Bool×Nat)=>L30_HsuiteRecognizes.s13 m_ c70 c71 y360 s.1 s.2) (fun (differ468,y469)=>mkSt [(2,.im (.ref (c_api_Mealy m_))),(7,.im (nL (cL cI) c70.1)),(10,.im (nI c71.2.1)),(12,.im (nI (↑y360:Int))),(13,.im (nB differ468)),(87,.im (nI (↑(List.length m_.Next):Int))),(88,.im (nI (↑y360:Int))),(92,.im (nI (↑(List.length c70.1):Int))),(93,.im (nI (↑y469:Int)))] [] []) (fun (differ468,y469)=>lZ c70.1∧True) h (eA []) (by rintro ⟨differ468,y469⟩;exact ((Holds.avl 7 rfl).and (hT))) ?_
 clear h
 rintro k ⟨differ468,y469⟩ o hp h ho479
 replace h:L30_HsuiteRecognizes.s13 m_ c70 c71 y360 differ468 y469=some o:=h
 unfold L30_HsuiteRecognizes.s13 at h
 obtain ⟨z489,_⟩:=hp
 conv=>whnf
 refine Both.mk ?_ ?_<;>intro b480
 obtain ⟨h,b480d⟩:=ctd b480 h
 conv=>whnf
 obtain ⟨e481,he481,h⟩:=idxn_some h
 refine ⟨_,⟨(by omega),map_at he481,rfl⟩,?_⟩
 conv=>whnf
 obtain ⟨c482,hc482,h⟩:=bind_some h
 refine ⟨_,(sp_mealy_From m_ c71.2.1 e481 c482 (fun _ _ _=>hc482)),?_⟩
 conv=>whnf
 obtain ⟨e483,he483,h⟩:=idxn_some h
 refine ⟨_,⟨(by omega),map_at he483,rfl⟩,?_⟩
 conv=>whnf
 obtain ⟨c484,hc484,h⟩:=bind_some h
 refine ⟨_,(sp_mealy_From m_ (↑y360:Int) e483 c484 (fun _ _ _=>hc484)),?_⟩
 conv=>whnf
 refine Both.mk ?_ ?_<;>intro b485
 replace b485:=beq_ff b485
 replace h:=cond_f b485 h
 conv=>whnf
 iterate 2 (refine Both.yes (ff_beq b485) ?_;(conv=>whnf))
 refine Both.mk ?_ ?_<;>intro b486
 replace b486:=beq_tt b486
 obtain ⟨h,b486d⟩:=ctd b486 h
 conv=>whnf
 refine Both.yes (tt_beq b486) ?_
 conv=>whnf
 refine Both.yes (ff_beq b485) ?_
 conv=>whnf
 refine Both.yes b486 ?_
 conv=>whnf
 refine Both.yes (ff_beq b485) ?_
 conv=>whnf
 refine Both.mk ?_ ?_<;>intro b487
 replace b487:=beq_tt b487
 obtain ⟨h,b487d⟩:=ctd b487 h
 conv=>whnf
 iterate 2 (refine Both.yes (tt_beq b487) ?_;(conv=>whnf))
 obtain ⟨c488,hc488,h⟩:=bind_some h
 refine ⟨_,(sp_R06_Ints c482.1 c484.1 c488 (fun _ _=>hc488)),?_⟩
 conv=>whnf
 refine Both.yes (tt_beq b487) ?_
 conv=>whnf
 refine Both.yes (ff_beq b485) ?_
 conv=>whnf
 refine Both.yes b487 ?_
 conv=>whnf
 refine Both.no b485 ?_
 conv=>whnf
 refine Arith.mk (by show inR _;unfold inR;omega) ?_
 conv=>whnf
 cases h
 exact Nxt.mk _ ho479 (eA [])
 replace b487:=beq_tf b487
 obtain ⟨h,b487d⟩:=cfd b487 h
 conv=>whnf
 iterate 3 (refine Both.no (ft_beq b487) ?_;(conv=>whnf))
 refine Both.yes (ff_beq b485) ?_
 conv=>whnf
 refine Both.no b487 ?_
 conv=>whnf
 refine Both.no b485 ?_
 conv=>whnf
 refine Arith.mk (by show inR _;unfold inR;omega) ?_
 conv=>whnf
 cases h
 exact Nxt.mk _ ho479 (eA [])
 replace b486:=beq_tf b486
 obtain ⟨h,b486d⟩:=cfd b486 h
 conv=>whnf
 refine Both.no (ft_beq b486) ?_
 conv=>whnf
 refine Both.yes (ff_beq b485) ?_
 conv=>whnf
 refine Both.no b486 ?_
 conv=>whnf
 refine Both.yes (ff_beq b485) ?_
 conv=>whnf
 iterate 4 (refine Both.no rfl ?_;(conv=>whnf))
 refine Both.yes (ff_beq b485) ?_
 conv=>whnf
 refine Both.no rfl ?_
 conv=>whnf
 refine Both.no b485 ?_
 conv=>whnf
 refine Arith.mk (by show inR _;unfold inR;omega) ?_
 conv=>whnf
 cases h
 exact Nxt.mk _ ho479 (eA [])
 replace b485:=beq_ft b485
 replace h:=cond_t b485 h
 conv=>whnf
 iterate 5 (refine Both.no (tf_beq b485) ?_;(conv=>whnf))
 refine Both.yes b485 ?_
 conv=>whnf
 refine Arith.mk (by show inR _;unfold inR;omega) ?_
 conv=>whnf
 cases h
 exact Nxt.mk _ ho479 (eA [])
 obtain ⟨h,b480d⟩:=cfd b480 h
 conv=>whnf
 cases h
 have ho479:_=_:=ho479
 cases ho479
 exact Join.mk (eA [])
 replace h:=hk428
 obtain ⟨z490,_⟩:=hp
 conv=>whnf
 refine Both.mk ?_ ?_<;>intro b491
 replace h:=cond_t b491 h
 conv=>whnf
 cases h
 have ho426:_=_:=ho426
 cases ho426
 replace h:some _=some _:=hk96
 cases h
 conv=>whnf
 exact ⟨rfl,rfl⟩
 replace h:=cond_f b491 h
 conv=>whnf
 refine Arith.mk (by show inR _;unfold inR;omega) ?_
 conv=>whnf
 cases h
 exact Nxt.mk _ ho426 (eA [])
 obtain ⟨h,b427d⟩:=cfd b427 h
 conv=>whnf
 cases h
 have ho426:_=_:=ho426
 cases ho426
 exact JoinS.mk' _ rfl (eA [])
 rintro ⟨⟩ rfl hp
 replace h:=sum_inl hk96
 conv=>whnf
 obtain ⟨c493,hc493,h⟩:=bind_some h
 refine ⟨_,(sp_L30_exampleHolds  c493 (hc493)),?_⟩
 conv=>whnf
 cases h
 conv=>whnf
 exact ⟨rfl,rfl⟩
end Go.Proofs.Ytkfaepfljlphoaa.Sym

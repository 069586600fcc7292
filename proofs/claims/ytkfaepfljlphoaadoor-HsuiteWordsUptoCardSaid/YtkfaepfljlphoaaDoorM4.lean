/-
 What a machine reaches: the program's and the document's searches. Plain laws.
-/
import Derived.Test.YtkfaepfljlphoaaDoorM3
set_option linter.all false
namespace Go.Proofs.YtkfaepfljlphoaaDoor.Sym
set_option maxRecDepth 100000
section
variable {m:T_api_Mealy}
def mB (m:T_api_Mealy) (s0 r:Nat):List (Nat×List Int):=bfsB (nx m) m.Inputs.toNat s0 r
abbrev MEnd (m:T_api_Mealy) (s0:Nat) (L:List (Nat×List Int)):Prop:=BfsEnd (nx m) m.Inputs.toNat s0 L
theorem mB_rng (H:MacOk m) {s0:Nat} (hs:s0<m.Next.length):∀ (r:Nat),∀ x∈mB m s0 r,x.1<m.Next.length∧x.2.length≤r∧dest m s0 x.2=x.1∧WOk m.Inputs x.2
 | 0,x,hx=>by
  have:x=(s0,[]):=by simpa [mB,bfsB] using hx
  subst this
  exact ⟨hs,Nat.le_refl _,rfl,fun a ha=>by cases ha⟩
 | r+1,x,hx=>by
  have ih:=mB_rng H hs r
  have old:x∈mB m s0 r→x.1<m.Next.length∧x.2.length≤r+1∧dest m s0 x.2=x.1∧WOk m.Inputs x.2:=fun h=>by
   have:=ih x h
   exact ⟨this.1,by omega,this.2.2⟩
  unfold mB at hx
  rw [bfsB] at hx
  split at hx
  ·exact old hx
  ·rename_i y hy
   split at hx
   ·exact old hx
   ·rcases List.mem_append.1 hx with h | h
    ·exact old h
    ·have hK:0<m.Inputs.toNat:=by have:=H.i1;omega
     have hy':=ih y (List.mem_of_getElem? hy)
     have ha:=Nat.mod_lt r hK
     have hxe:x=(nx m y.1 (r%m.Inputs.toNat),y.2++[(↑(r%m.Inputs.toNat):Int)]):=by simpa using h
     subst hxe
     refine ⟨(H.at hy'.1 ha).1,by simp;omega,?_,?_⟩
     ·simp only
      rw [dest_append,hy'.2.2.1]
      show nx m y.1 (Int.toNat _)=_
      rw [Int.toNat_natCast]
     ·refine WOk.append hy'.2.2.2 fun a ha'=>?_
      have:a=(↑(r%m.Inputs.toNat):Int):=by simpa using ha'
      subst this
      omega
theorem mB_len (H:MacOk m) {s0:Nat} (hs:s0<m.Next.length) (r:Nat):(mB m s0 r).length≤m.Next.length:=by
 have:=nodup_le (bfs_nodup (e:=nx m) (K:=m.Inputs.toNat) (s0:=s0) r) (l':=List.range m.Next.length) fun x hx=>by
  obtain ⟨y,hy,rfl⟩:=List.mem_map.1 hx
  exact List.mem_range.2 (mB_rng H hs r y hy).1
 rwa [List.length_map,List.length_range] at this
theorem mB_step {s0 i a:Nat} {x:Nat×List Int} (ha:a<m.Inputs.toNat) (hx:(mB m s0 (i*m.Inputs.toNat+a))[i]?=some x) :
  mB m s0 (i*m.Inputs.toNat+(a+1))=if nx m x.1 a∈(mB m s0 (i*m.Inputs.toNat+a)).map Prod.fst then mB m s0 (i*m.Inputs.toNat+a) else mB m s0 (i*m.Inputs.toNat+a)++[(nx m x.1 a,x.2++[(↑a:Int)])]:=bfs_step ha hx
theorem mB_next {s0 i:Nat}:mB m s0 (i*m.Inputs.toNat+m.Inputs.toNat)=mB m s0 ((i+1)*m.Inputs.toNat):=by rw [Nat.succ_mul]
theorem mB_get {s0 i r:Nat} {x:Nat×List Int} (hx:(mB m s0 (i*m.Inputs.toNat))[i]?=some x) (hr:i*m.Inputs.toNat≤r):(mB m s0 r)[i]?=some x:=pre_get (bfs_pre hr) hx
structure SeenOk (n:Nat) (y:List Bool) (l:List Nat):Prop where
 len:y.length=n
 at_:∀ t,t<n→y[t]?=some (decide (t∈l))
theorem SeenOk.push {n t:Nat} {y:List Bool} {l:List Nat} (S:SeenOk n y l) (ht:t<n):SeenOk n (y.set t true) (l++[t]):=by
 refine ⟨by simp [S.len],fun u hu=>?_⟩
 by_cases h:t=u
 ·subst h
  rw [List.getElem?_set_self (by rw [S.len];exact ht)]
  simp
 ·rw [List.getElem?_set_ne h,S.at_ u hu]
  congr 1
  apply decide_eq_decide.2
  rw [List.mem_append]
  constructor
  ·exact Or.inl
  ·rintro (q | q)
   ·exact q
   ·exact absurd (by simpa using q:u=t).symm h
theorem seen_nil (n:Nat):SeenOk n (List.replicate n false) []:=⟨by simp,fun t ht=>by simp [ht]⟩
theorem mealy_Reach_eq (hv:validM m=0):∃ L,MEnd m m.Start.toNat L∧mealy_Reach m=some (natI (L.map Prod.fst)):=by
 have H:=valid_ok hv
 have hst:=H.st
 have hn:=H.n2
 have hs:m.Start.toNat<m.Next.length:=by omega
 have inner:∀ (i:Nat) (x:Nat×List Int) (row:List Int) (y:List Bool),(mB m m.Start.toNat (i*m.Inputs.toNat))[i]?=some x→m.Next[x.1]?=some row→SeenOk m.Next.length y ((mB m m.Start.toNat (i*m.Inputs.toNat)).map Prod.fst) →
   ∃ y',iter (fun (s:List Bool×List Int×Nat)=>mealy_Reach.s18 row s.1 s.2.1 s.2.2) fuel (y,natI ((mB m m.Start.toNat (i*m.Inputs.toNat)).map Prod.fst),0)=some (y',natI ((mB m m.Start.toNat ((i+1)*m.Inputs.toNat)).map Prod.fst))∧SeenOk m.Next.length y' ((mB m m.Start.toNat ((i+1)*m.Inputs.toNat)).map Prod.fst):=by
  intro i x row y hx hrow S
  have hxs:=(mB_rng H hs _ x (List.mem_of_getElem? hx)).1
  have hrl:row.length=m.Inputs.toNat:=by
   obtain ⟨x',y',h1,_,h3,_⟩:=H.row x.1 hxs
   rw [hrow] at h1
   injection h1 with h1
   subst h1
   omega
  obtain ⟨r,hr,y',rfl,hq⟩:=iter_post (step:=fun (s:List Bool×List Int×Nat)=>mealy_Reach.s18 row s.1 s.2.1 s.2.2) (fun s=>s.2.2≤m.Inputs.toNat∧s.2.1=natI ((mB m m.Start.toNat (i*m.Inputs.toNat+s.2.2)).map Prod.fst)∧SeenOk m.Next.length s.1 ((mB m m.Start.toNat (i*m.Inputs.toNat+s.2.2)).map Prod.fst)) (fun s=>m.Inputs.toNat-s.2.2) (fun r=>∃ y',r=(y',natI ((mB m m.Start.toNat ((i+1)*m.Inputs.toNat)).map Prod.fst))∧SeenOk m.Next.length y' ((mB m m.Start.toNat ((i+1)*m.Inputs.toNat)).map Prod.fst)) (fun s ⟨q1,q2,q3⟩=>by
   obtain ⟨y,l,a⟩:=s
   simp only at q1 q2 q3
   subst q2
   simp only [mealy_Reach.s18]
   by_cases g:a<m.Inputs.toNat
   ·left
    have hxa:=mB_get hx (r:=i*m.Inputs.toNat+a) (by omega)
    obtain ⟨h1,_,_,x',y',h2,_,h4,_⟩:=H.at hxs g
    rw [hrow] at h2
    injection h2 with h2
    subst h2
    have hlen:=mB_len H hs (i*m.Inputs.toNat+a)
    have hstep:=mB_step g hxa
    rw [decide_eq_true (by omega),cond_true,idxn_at h4,idx_at rfl (q3.at_ _ h1)]
    by_cases hm:nx m x.1 a∈(mB m m.Start.toNat (i*m.Inputs.toNat+a)).map Prod.fst
    ·rw [if_pos hm] at hstep
     refine ⟨(y,natI ((mB m m.Start.toNat (i*m.Inputs.toNat+a)).map Prod.fst),a+1),by rw [decide_eq_true hm];rfl,⟨g,by simp only;rw [hstep],by simp only;rw [hstep];exact q3⟩,by simp only;omega⟩
    ·rw [if_neg hm] at hstep
     refine ⟨(y.set (nx m x.1 a) true,natI ((mB m m.Start.toNat (i*m.Inputs.toNat+a)).map Prod.fst++[nx m x.1 a]),a+1),?_,⟨g,by simp only;rw [hstep,List.map_append];rfl,by simp only;rw [hstep,List.map_append];exact q3.push h1⟩,by simp only;omega⟩
     rw [decide_eq_false hm,Bool.not_false,cond_true,idx_at rfl (q3.at_ _ h1),chk_pos (by unfold capOk;rw [natI_len,List.length_map];omega),natI_push,Int.toNat_natCast]
   ·right
    have e':a=m.Inputs.toNat:=by omega
    subst e'
    rw [mB_next] at q3 ⊢
    exact ⟨_,by rw [decide_eq_false (by omega),cond_false],_,rfl,q3⟩) fuel (y,natI ((mB m m.Start.toNat (i*m.Inputs.toNat)).map Prod.fst),0) ⟨Nat.zero_le _,rfl,S⟩ (by have:=fuel_big;have:=H.i2;simp only;omega)
  exact ⟨y',hr,hq⟩
 unfold mealy_Reach
 rw [mealy_Valid_eq,obind,hv,decide_eq_false (by decide),cond_false,chk_pos ⟨by omega,by omega,by unfold capOk;omega⟩,idx_at (i:=m.Start.toNat) (x:=false) (by omega) (by rw [List.getElem?_replicate,if_pos hs])]
 obtain ⟨r,hr,L,hL,rfl⟩:=iter_post (step:=fun (s:List Bool×List Int×Nat)=>mealy_Reach.s20 m s.1 s.2.1 s.2.2) (fun s=>s.2.2≤(mB m m.Start.toNat (s.2.2*m.Inputs.toNat)).length∧s.2.1=natI ((mB m m.Start.toNat (s.2.2*m.Inputs.toNat)).map Prod.fst)∧SeenOk m.Next.length s.1 ((mB m m.Start.toNat (s.2.2*m.Inputs.toNat)).map Prod.fst)) (fun s=>m.Next.length+1-s.2.2) (fun r=>∃ L,MEnd m m.Start.toNat L∧r=natI (L.map Prod.fst)) (fun s ⟨q1,q2,q3⟩=>by
  obtain ⟨y,l,i⟩:=s
  simp only at q1 q2 q3
  subst q2
  simp only [mealy_Reach.s20]
  have hlen:=mB_len H hs (i*m.Inputs.toNat)
  by_cases g:i<(mB m m.Start.toNat (i*m.Inputs.toNat)).length
  ·left
   have hx:=get_at g
   generalize (mB m m.Start.toNat (i*m.Inputs.toNat))[i]=x at hx
   have hxs:=(mB_rng H hs _ x (List.mem_of_getElem? hx)).1
   have hrow:=get_at hxs
   obtain ⟨y',h1,h2⟩:=inner i x _ y hx hrow q3
   have hmono:=(bfs_pre (e:=nx m) (K:=m.Inputs.toNat) (s0:=m.Start.toNat) (show i*m.Inputs.toNat≤(i+1)*m.Inputs.toNat by rw [Nat.succ_mul];omega)).length_le
   refine ⟨(y',natI ((mB m m.Start.toNat ((i+1)*m.Inputs.toNat)).map Prod.fst),i+1),?_,⟨by simp only;unfold mB at g ⊢;omega,rfl,h2⟩,by simp only;omega⟩
   rw [decide_eq_true (by rw [natI_len,List.length_map];omega),cond_true,idxn_at (natI_at (i:=i) (u:=x.1) (by rw [List.getElem?_map,hx];rfl)),idx_at rfl hrow,h1,obind]
   rfl
  ·right
   refine ⟨_,by rw [decide_eq_false (by rw [natI_len,List.length_map];omega),cond_false],mB m m.Start.toNat (i*m.Inputs.toNat),⟨?_⟩,rfl⟩
   rw [show (mB m m.Start.toNat (i*m.Inputs.toNat)).length=i by omega]
   rfl) fuel ((List.replicate m.Next.length false).set m.Start.toNat true,[m.Start],0) ⟨Nat.zero_le _,by simp only;rw [Nat.zero_mul];simp [mB,bfsB,natI];omega,by
    simp only
    rw [Nat.zero_mul]
    exact (seen_nil m.Next.length).push hs⟩ (by have:=fuel_big;simp only;omega)
 exact ⟨L,hL,by rw [hr,obind]⟩
end
end Go.Proofs.YtkfaepfljlphoaaDoor.Sym

/-
 Access words: the program's and the document's. Plain laws.
-/
namespace Go.Proofs.YtkfaepfljlphoaaDoor.Sym
set_option maxRecDepth 100000
section
variable {m:T_api_Mealy}
def placeC (x:Nat×List Int):T_cover_place:=⟨(↑x.1:Int),x.2⟩
theorem placeC_at {l:List (Nat×List Int)} {i:Nat} {x:Nat×List Int} (h:l[i]?=some x):(l.map placeC)[i]?=some (placeC x):=by rw [List.getElem?_map,h];rfl
theorem cover_places_eq (H:MacOk m) {s0:Nat} (hs:s0<m.Next.length):∃ L,MEnd m s0 L∧cover_places m (↑s0:Int)=some (L.map placeC):=by
 have hn:=H.n2
 have hI:=H.i2
 have inner:∀ (i:Nat) (x:Nat×List Int) (row:List Int) (y:List Bool),i≤m.Next.length→(mB m s0 (i*m.Inputs.toNat))[i]?=some x→m.Next[x.1]?=some row→SeenOk m.Next.length y ((mB m s0 (i*m.Inputs.toNat)).map Prod.fst) →
   ∃ y',iter (fun (s:List Bool×List T_cover_place×Nat)=>cover_places.s18 i row s.1 s.2.1 s.2.2) fuel (y,(mB m s0 (i*m.Inputs.toNat)).map placeC,0)=some (y',(mB m s0 ((i+1)*m.Inputs.toNat)).map placeC)∧SeenOk m.Next.length y' ((mB m s0 ((i+1)*m.Inputs.toNat)).map Prod.fst):=by
  intro i x row y hin hx hrow S
  have hxs:=(mB_rng H hs _ x (List.mem_of_getElem? hx)).1
  have hxl:=(mB_rng H hs _ x (List.mem_of_getElem? hx)).2.1
  have hiK:i*m.Inputs.toNat≤128*64:=Nat.mul_le_mul (by omega) (by omega)
  have hrl:row.length=m.Inputs.toNat:=by
   obtain ⟨x',y',h1,_,h3,_⟩:=H.row x.1 hxs
   rw [hrow] at h1
   injection h1 with h1
   subst h1
   omega
  obtain ⟨r,hr,y',rfl,hq⟩:=iter_post (step:=fun (s:List Bool×List T_cover_place×Nat)=>cover_places.s18 i row s.1 s.2.1 s.2.2) (fun s=>s.2.2≤m.Inputs.toNat∧s.2.1=(mB m s0 (i*m.Inputs.toNat+s.2.2)).map placeC∧SeenOk m.Next.length s.1 ((mB m s0 (i*m.Inputs.toNat+s.2.2)).map Prod.fst)) (fun s=>m.Inputs.toNat-s.2.2) (fun r=>∃ y',r=(y',(mB m s0 ((i+1)*m.Inputs.toNat)).map placeC)∧SeenOk m.Next.length y' ((mB m s0 ((i+1)*m.Inputs.toNat)).map Prod.fst)) (fun s ⟨q1,q2,q3⟩=>by
   obtain ⟨y,l,a⟩:=s
   simp only at q1 q2 q3
   subst q2
   simp only [cover_places.s18]
   by_cases g:a<m.Inputs.toNat
   ·left
    have hxa:=mB_get hx (r:=i*m.Inputs.toNat+a) (by omega)
    obtain ⟨h1,_,_,x',y',h2,_,h4,_⟩:=H.at hxs g
    rw [hrow] at h2
    injection h2 with h2
    subst h2
    have hlen:=mB_len H hs (i*m.Inputs.toNat+a)
    have hstep:=mB_step g hxa
    rw [decide_eq_true (by omega),cond_true,idxn_at h4,idx_at rfl (q3.at_ _ h1)]
    by_cases hm:nx m x.1 a∈(mB m s0 (i*m.Inputs.toNat+a)).map Prod.fst
    ·rw [if_pos hm] at hstep
     refine ⟨(y,(mB m s0 (i*m.Inputs.toNat+a)).map placeC,a+1),by rw [decide_eq_true hm];rfl,⟨g,by simp only;rw [hstep],by simp only;rw [hstep];exact q3⟩,by simp only;omega⟩
    ·rw [if_neg hm] at hstep
     refine ⟨(y.set (nx m x.1 a) true,(mB m s0 (i*m.Inputs.toNat+a)).map placeC++[placeC (nx m x.1 a,x.2++[(↑a:Int)])],a+1),?_,⟨g,by simp only;rw [hstep,List.map_append];rfl,by simp only;rw [hstep,List.map_append];exact q3.push h1⟩,by simp only;omega⟩
     rw [decide_eq_false hm,Bool.not_false,cond_true,idx_at rfl (q3.at_ _ h1),idxn_at (placeC_at hxa)]
     show (word_Join [x.2,[(↑a:Int)]]).bind _=_
     rw [word_Join_eq _ (by simp) (by simp;omega),obind,chk_pos (by unfold capOk;rw [List.length_map];omega),Int.toNat_natCast]
     simp [placeC]
   ·right
    have e':a=m.Inputs.toNat:=by omega
    subst e'
    rw [mB_next] at q3 ⊢
    exact ⟨_,by rw [decide_eq_false (by omega),cond_false],_,rfl,q3⟩) fuel (y,(mB m s0 (i*m.Inputs.toNat)).map placeC,0) ⟨Nat.zero_le _,rfl,S⟩ (by have:=fuel_big;have:=H.i2;simp only;omega)
  exact ⟨y',hr,hq⟩
 unfold cover_places
 rw [chk_pos ⟨by omega,by omega,by unfold capOk;omega⟩,idx_at (i:=s0) (x:=false) rfl (by rw [List.getElem?_replicate,if_pos hs])]
 obtain ⟨r,hr,L,hL,rfl⟩:=iter_post (step:=fun (s:List Bool×List T_cover_place×Nat)=>cover_places.s20 m s.1 s.2.1 s.2.2) (fun s=>s.2.2≤(mB m s0 (s.2.2*m.Inputs.toNat)).length∧s.2.1=(mB m s0 (s.2.2*m.Inputs.toNat)).map placeC∧SeenOk m.Next.length s.1 ((mB m s0 (s.2.2*m.Inputs.toNat)).map Prod.fst)) (fun s=>m.Next.length+1-s.2.2) (fun r=>∃ L,MEnd m s0 L∧r=L.map placeC) (fun s ⟨q1,q2,q3⟩=>by
  obtain ⟨y,l,i⟩:=s
  simp only at q1 q2 q3
  subst q2
  simp only [cover_places.s20]
  have hlen:=mB_len H hs (i*m.Inputs.toNat)
  by_cases g:i<(mB m s0 (i*m.Inputs.toNat)).length
  ·left
   have hx:=get_at g
   generalize (mB m s0 (i*m.Inputs.toNat))[i]=x at hx
   have hxs:=(mB_rng H hs _ x (List.mem_of_getElem? hx)).1
   have hrow:=get_at hxs
   obtain ⟨y',h1,h2⟩:=inner i x _ y (by omega) hx hrow q3
   have hmono:=(bfs_pre (e:=nx m) (K:=m.Inputs.toNat) (s0:=s0) (show i*m.Inputs.toNat≤(i+1)*m.Inputs.toNat by rw [Nat.succ_mul];omega)).length_le
   refine ⟨(y',(mB m s0 ((i+1)*m.Inputs.toNat)).map placeC,i+1),?_,⟨by simp only;unfold mB at g ⊢;omega,rfl,h2⟩,by simp only;omega⟩
   rw [decide_eq_true (by rw [List.length_map];omega),cond_true,idxn_at (placeC_at hx),idx_at (n:=(placeC x).state) (i:=x.1) rfl hrow,h1,obind]
   rfl
  ·right
   refine ⟨_,by rw [decide_eq_false (by rw [List.length_map];omega),cond_false],mB m s0 (i*m.Inputs.toNat),⟨?_⟩,rfl⟩
   rw [show (mB m s0 (i*m.Inputs.toNat)).length=i by omega]
   rfl) fuel ((List.replicate m.Next.length false).set s0 true,[(⟨(↑s0:Int),[]⟩:T_cover_place)],0) ⟨Nat.zero_le _,by simp only;rw [Nat.zero_mul];simp [mB,bfsB,placeC],by
    simp only
    rw [Nat.zero_mul]
    exact (seen_nil m.Next.length).push hs⟩ (by have:=fuel_big;simp only;omega)
 exact ⟨L,hL,by rw [Int.toNat_natCast,hr,obind]⟩
theorem cover_Access_eq (hv:validM m=0):∃ L,MEnd m m.Start.toNat L∧cover_Access m=some (natI (L.map Prod.fst),L.map Prod.snd,0):=by
 have H:=valid_ok hv
 have hst:=H.st
 obtain ⟨L,hL,he⟩:=cover_places_eq H (s0:=m.Start.toNat) (by omega)
 rw [show (↑m.Start.toNat:Int)=m.Start by omega] at he
 have hlen:L.length≤m.Next.length:=by
  rw [hL.eq]
  exact mB_len H (by omega) _
 have hn:=H.n2
 refine ⟨L,hL,?_⟩
 unfold cover_Access
 rw [mealy_Valid_eq,obind,hv,decide_eq_false (by decide),cond_false,he,obind]
 have key:=iter_eq (step:=fun (s:List Int×List (List Int)×Nat)=>cover_Access.s2 (L.map placeC) s.1 s.2.1 s.2.2) (r:=(natI (L.map Prod.fst),L.map Prod.snd)) (fun s=>s.2.2≤L.length∧s.1=natI ((L.take s.2.2).map Prod.fst)∧s.2.1=(L.take s.2.2).map Prod.snd) (fun s=>L.length-s.2.2) (fun s ⟨q1,q2,q3⟩=>by
  obtain ⟨a,b,i⟩:=s
  simp only at q1 q2 q3
  subst q2
  subst q3
  simp only [cover_Access.s2]
  by_cases g:i<L.length
  ·left
   have hx:=get_at g
   refine ⟨(natI ((L.take (i+1)).map Prod.fst),(L.take (i+1)).map Prod.snd,i+1),?_,⟨g,rfl,rfl⟩,by simp only;omega⟩
   rw [decide_eq_true (by rw [List.length_map];omega),cond_true,idxn_at (placeC_at hx),chk_pos (by unfold capOk;rw [natI_len,List.length_map,List.length_take];omega),chk_pos (by unfold capOk;rw [List.length_map,List.length_take];omega),take_step hx,List.map_append,List.map_append]
   simp [natI,placeC]
  ·right
   have:i=L.length:=by omega
   subst this
   rw [decide_eq_false (by rw [List.length_map];omega),cond_false,List.take_length]) (n:=fuel) (s:=([],[],0)) ⟨Nat.zero_le _,rfl,rfl⟩ (by have:=fuel_big;simp only;omega)
 rw [key,obind]
 rfl
end
end Go.Proofs.YtkfaepfljlphoaaDoor.Sym

/-
 The first word that has different outputs: the program's and the document's. Plain laws.
-/
namespace Go.Proofs.YtkfaepfljlphoaaDoor.Sym
set_option maxRecDepth 100000
theorem bfs_stay {A:Type} [DecidableEq A] {e:A→Nat→A} {K:Nat} {s0:A} {L:List (A×List Int)} (h:BfsEnd e K s0 L) (hK:0<K):∀ d,bfsB e K s0 (L.length*K+d)=L
 | 0=>h.eq.symm
 | d+1=>by
  have ih:=bfs_stay h hK d
  show bfsB e K s0 (L.length*K+d+1)=L
  rw [bfsB,ih,List.getElem?_eq_none ?_]
  have h1:(L.length*K) / K≤(L.length*K+d) / K:=Nat.div_le_div_right (by omega)
  rw [Nat.mul_div_cancel _ hK] at h1
  exact h1
section
variable {a b:T_api_Mealy}
def pE (a b:T_api_Mealy) (p:Nat×Nat) (x:Nat):Nat×Nat:=(nx a p.1 x,nx b p.2 x)
def pB (a b:T_api_Mealy) (p0:Nat×Nat) (r:Nat):List ((Nat×Nat)×List Int):=bfsB (pE a b) a.Inputs.toNat p0 r
abbrev PEnd (a b:T_api_Mealy) (p0:Nat×Nat) (L:List ((Nat×Nat)×List Int)):Prop:=BfsEnd (pE a b) a.Inputs.toNat p0 L
def difB (a b:T_api_Mealy) (p0:Nat×Nat) (r:Nat):Bool:=match (pB a b p0 r)[r / a.Inputs.toNat]? with
 | some x=>decide (ot a x.1.1 (r%a.Inputs.toNat)≠ot b x.1.2 (r%a.Inputs.toNat))
 | none=>false
theorem difB_at {p0:Nat×Nat} {i c:Nat} {x:(Nat×Nat)×List Int} (hc:c<a.Inputs.toNat) (hx:(pB a b p0 (i*a.Inputs.toNat+c))[i]?=some x):difB a b p0 (i*a.Inputs.toNat+c)=decide (ot a x.1.1 c≠ot b x.1.2 c):=by
 unfold difB
 rw [dm_div hc,hx,dm_mod hc]
structure Two (a b:T_api_Mealy):Prop where
 a1:MacOk a
 b1:MacOk b
 inp:a.Inputs=b.Inputs
theorem pB_rng (T:Two a b) {p0:Nat×Nat} (h1:p0.1<a.Next.length) (h2:p0.2<b.Next.length):∀ (r:Nat),∀ x∈pB a b p0 r,x.1.1<a.Next.length∧x.1.2<b.Next.length∧x.2.length≤r∧dest a p0.1 x.2=x.1.1∧dest b p0.2 x.2=x.1.2∧WOk a.Inputs x.2
 | 0,x,hx=>by
  have:x=(p0,[]):=by simpa [pB,bfsB] using hx
  subst this
  exact ⟨h1,h2,Nat.le_refl _,rfl,rfl,fun a ha=>by cases ha⟩
 | r+1,x,hx=>by
  have ih:=pB_rng T h1 h2 r
  have old:x∈pB a b p0 r→x.1.1<a.Next.length∧x.1.2<b.Next.length∧x.2.length≤r+1∧dest a p0.1 x.2=x.1.1∧dest b p0.2 x.2=x.1.2∧WOk a.Inputs x.2:=fun h=>by
   have:=ih x h
   exact ⟨this.1,this.2.1,by omega,this.2.2.2⟩
  unfold pB at hx
  rw [bfsB] at hx
  split at hx
  ·exact old hx
  ·rename_i y hy
   split at hx
   ·exact old hx
   ·rcases List.mem_append.1 hx with h | h
    ·exact old h
    ·have hK:0<a.Inputs.toNat:=by have:=T.a1.i1;omega
     have hy':=ih y (List.mem_of_getElem? hy)
     have ha:=Nat.mod_lt r hK
     have hxe:x=(pE a b y.1 (r%a.Inputs.toNat),y.2++[(↑(r%a.Inputs.toNat):Int)]):=by simpa using h
     subst hxe
     refine ⟨(T.a1.at hy'.1 ha).1,(T.b1.at hy'.2.1 (by rw [← T.inp];exact ha)).1,by simp;omega,?_,?_,?_⟩
     ·simp only
      rw [dest_append,hy'.2.2.2.1]
      show nx a y.1.1 (Int.toNat _)=_
      rw [Int.toNat_natCast]
      rfl
     ·simp only
      rw [dest_append,hy'.2.2.2.2.1]
      show nx b y.1.2 (Int.toNat _)=_
      rw [Int.toNat_natCast]
      rfl
     ·refine WOk.append hy'.2.2.2.2.2 fun z ha'=>?_
      have:z=(↑(r%a.Inputs.toNat):Int):=by simpa using ha'
      subst this
      omega
theorem pB_len (T:Two a b) {p0:Nat×Nat} (h1:p0.1<a.Next.length) (h2:p0.2<b.Next.length) (r:Nat):(pB a b p0 r).length≤a.Next.length*b.Next.length:=by
 have hn:=bfs_nodup (e:=pE a b) (K:=a.Inputs.toNat) (s0:=p0) r
 have:=nodup_le (l:=(((pB a b p0 r).map Prod.fst).map fun p=>p.1*b.Next.length+p.2)) (l':=List.range (a.Next.length*b.Next.length)) ?_ fun x hx=>?_
 ·rwa [List.length_map,List.length_map,List.length_range] at this
 ·refine List.Pairwise.map _ (R:=fun p q=>p∈(pB a b p0 r).map Prod.fst∧q∈(pB a b p0 r).map Prod.fst∧p≠q) (fun p q ⟨hp,hq,hne⟩ he=>?_) (List.Pairwise.imp_of_mem (fun {p q} hp hq hne=>⟨hp,hq,hne⟩) hn)
  obtain ⟨x,hx,rfl⟩:=List.mem_map.1 hp
  obtain ⟨y,hy,rfl⟩:=List.mem_map.1 hq
  have hx2:=(pB_rng T h1 h2 r x hx).2.1
  have hy2:=(pB_rng T h1 h2 r y hy).2.1
  have he:x.1.1*b.Next.length+x.1.2=y.1.1*b.Next.length+y.1.2:=he
  have e1:=dm_div (i:=x.1.1) hx2
  have e2:=dm_div (i:=y.1.1) hy2
  have e3:=dm_mod (i:=x.1.1) hx2
  have e4:=dm_mod (i:=y.1.1) hy2
  rw [he] at e1 e3
  exact hne (Prod.ext (by rw [← e1,e2]) (by rw [← e3,e4]))
 ·obtain ⟨p,hp,rfl⟩:=List.mem_map.1 hx
  obtain ⟨y,hy,rfl⟩:=List.mem_map.1 hp
  exact List.mem_range.2 (mem_lt (pB_rng T h1 h2 r y hy).1 (pB_rng T h1 h2 r y hy).2.1)
theorem pB_step {p0:Nat×Nat} {i c:Nat} {x:(Nat×Nat)×List Int} (hc:c<a.Inputs.toNat) (hx:(pB a b p0 (i*a.Inputs.toNat+c))[i]?=some x) :
  pB a b p0 (i*a.Inputs.toNat+(c+1))=if pE a b x.1 c∈(pB a b p0 (i*a.Inputs.toNat+c)).map Prod.fst then pB a b p0 (i*a.Inputs.toNat+c) else pB a b p0 (i*a.Inputs.toNat+c)++[(pE a b x.1 c,x.2++[(↑c:Int)])]:=by
 have h:=bfs_step (e:=pE a b) (s0:=p0) hc hx
 by_cases g:pE a b x.1 c∈(pB a b p0 (i*a.Inputs.toNat+c)).map Prod.fst
 ·rw [if_pos g]
  exact h.trans (if_pos g)
 ·rw [if_neg g]
  exact h.trans (if_neg g)
theorem pB_next {p0:Nat×Nat} {i:Nat}:pB a b p0 (i*a.Inputs.toNat+a.Inputs.toNat)=pB a b p0 ((i+1)*a.Inputs.toNat):=by rw [Nat.succ_mul]
theorem pB_get {p0:Nat×Nat} {i r:Nat} {x:(Nat×Nat)×List Int} (hx:(pB a b p0 (i*a.Inputs.toNat))[i]?=some x) (hr:i*a.Inputs.toNat≤r):(pB a b p0 r)[i]?=some x:=pre_get (bfs_pre hr) hx
def Fst (a b:T_api_Mealy) (p0:Nat×Nat) (res:List Int×Bool):Prop :=
 (∃ i c x,c<a.Inputs.toNat∧(pB a b p0 (i*a.Inputs.toNat+c))[i]?=some x∧ot a x.1.1 c≠ot b x.1.2 c∧(∀ r,r<i*a.Inputs.toNat+c→difB a b p0 r=false)∧res=(x.2++[(↑c:Int)],true)) ∨
 (∃ L,PEnd a b p0 L∧(∀ r,r<L.length*a.Inputs.toNat→difB a b p0 r=false)∧res=([],false))
theorem fst_uniq (hK:0<a.Inputs.toNat) {p0:Nat×Nat} {u v:List Int×Bool} (hu:Fst a b p0 u) (hv:Fst a b p0 v):u=v:=by
 have cross:∀ {u v:List Int×Bool},(∃ i c x,c<a.Inputs.toNat∧(pB a b p0 (i*a.Inputs.toNat+c))[i]?=some x∧ot a x.1.1 c≠ot b x.1.2 c∧(∀ r,r<i*a.Inputs.toNat+c→difB a b p0 r=false)∧u=(x.2++[(↑c:Int)],true))→(∃ L,PEnd a b p0 L∧(∀ r,r<L.length*a.Inputs.toNat→difB a b p0 r=false)∧v=([],false))→False:=by
  rintro u v ⟨i,c,x,h1,h2,h3,h4,_⟩ ⟨L,h6,h7,_⟩
  rcases Nat.lt_or_ge (i*a.Inputs.toNat+c) (L.length*a.Inputs.toNat) with g | g
  ·have:=h7 _ g
   rw [difB_at h1 h2,decide_eq_true h3] at this
   cases this
  ·have hs:=bfs_stay h6 hK (i*a.Inputs.toNat+c-L.length*a.Inputs.toNat)
   rw [show L.length*a.Inputs.toNat+(i*a.Inputs.toNat+c-L.length*a.Inputs.toNat)=i*a.Inputs.toNat+c by omega] at hs
   have h2':(bfsB (pE a b) a.Inputs.toNat p0 (i*a.Inputs.toNat+c))[i]?=some x:=h2
   rw [hs] at h2'
   have hi:=(List.getElem?_eq_some_iff.1 h2').1
   have:=mem_lt hi h1
   omega
 rcases hu with hu | hu<;>rcases hv with hv | hv
 ·obtain ⟨i,c,x,h1,h2,h3,h4,rfl⟩:=hu
  obtain ⟨i',c',x',g1,g2,g3,g4,rfl⟩:=hv
  have hr:i*a.Inputs.toNat+c=i'*a.Inputs.toNat+c':=by
   rcases Nat.lt_trichotomy (i*a.Inputs.toNat+c) (i'*a.Inputs.toNat+c') with q | q | q
   ·have:=g4 _ q
    rw [difB_at h1 h2,decide_eq_true h3] at this
    cases this
   ·exact q
   ·have:=h4 _ q
    rw [difB_at g1 g2,decide_eq_true g3] at this
    cases this
  have e1:i=i':=by rw [← dm_div (i:=i) h1,hr,dm_div g1]
  subst e1
  have e2:c=c':=by omega
  subst e2
  rw [h2] at g2
  injection g2 with g2
  rw [g2]
 ·exact (cross hu hv).elim
 ·exact (cross hv hu).elim
 ·obtain ⟨_,_,_,rfl⟩:=hu
  obtain ⟨_,_,_,rfl⟩:=hv
  rfl
end
end Go.Proofs.YtkfaepfljlphoaaDoor.Sym

/-
 The first word that has different outputs: the loops. Plain laws.
-/
namespace Go.Proofs.YtkfaepfljlphoaaDoor.Sym
set_option maxRecDepth 100000
section
variable {a b:T_api_Mealy}
def plC (x:(Nat×Nat)×List Int):T_equiv_place:=⟨⟨(↑x.1.1:Int),(↑x.1.2:Int)⟩,x.2⟩
theorem map_get {α β:Type} {f:α→β} {l:List α} {i:Nat} {x:α} (h:l[i]?=some x):(l.map f)[i]?=some (f x):=by rw [List.getElem?_map,h];rfl
structure SeenG (n k:Nat) (y:List (List Bool)) (l:List (Nat×Nat)):Prop where
 len:y.length=n
 at_:∀ s t,s<n→t<k→∃ row,y[s]?=some row∧row.length=k∧row[t]?=some (decide ((s,t)∈l))
theorem pair_mem {l:List (Nat×Nat)} {p q:Nat×Nat} (h:p≠q):p∈l↔p∈l++[q]:=by
 rw [List.mem_append,List.mem_singleton]
 exact ⟨Or.inl,fun z=>z.elim id fun e=>absurd e h⟩
theorem SeenG.push {n k s t:Nat} {y:List (List Bool)} {l:List (Nat×Nat)} {row:List Bool} (S:SeenG n k y l) (hs:s<n) (ht:t<k) (hr:y[s]?=some row):SeenG n k (y.set s (row.set t true)) (l++[(s,t)]):=by
 refine ⟨by simp [S.len],fun u v hu hv=>?_⟩
 obtain ⟨row',h1,h2,h3⟩:=S.at_ u v hu hv
 by_cases h:s=u
 ·subst h
  rw [hr] at h1
  injection h1 with h1
  subst h1
  refine ⟨row.set t true,by rw [List.getElem?_set_self (by rw [S.len];exact hs)],by simp [h2],?_⟩
  by_cases g:t=v
  ·subst g
   rw [List.getElem?_set_self (by omega)]
   simp
  ·rw [List.getElem?_set_ne g,h3]
   congr 1
   apply decide_eq_decide.2
   exact pair_mem fun e=>g (congrArg Prod.snd e).symm
 ·refine ⟨row',by rw [List.getElem?_set_ne h,h1],h2,?_⟩
  rw [h3]
  congr 1
  apply decide_eq_decide.2
  exact pair_mem fun e=>h (congrArg Prod.fst e).symm
theorem seenG_nil (n k:Nat):SeenG n k (List.replicate n (List.replicate k false)) []:=⟨by simp,fun s t hs ht=>⟨List.replicate k false,by simp [hs],by simp,by simp [ht]⟩⟩
theorem big_sum {i c n k K:Nat} (hi:i≤n*k) (hn:n≤128) (hk:k≤128) (hK:K≤64) (hc:c≤64):i*K+c≤1048640:=by
 have h1:n*k≤128*128:=Nat.mul_le_mul hn hk
 have h2:i*K≤(128*128)*64:=Nat.mul_le_mul (by omega) hK
 omega
theorem search_row (T:Two a b) {p0:Nat×Nat} (h1:p0.1<a.Next.length) (h2:p0.2<b.Next.length) {i:Nat} {x:(Nat×Nat)×List Int} {y:List (List Bool)} (hi:i≤a.Next.length*b.Next.length)
  (hx:(pB a b p0 (i*a.Inputs.toNat))[i]?=some x) (S:SeenG a.Next.length b.Next.length y ((pB a b p0 (i*a.Inputs.toNat)).map Prod.fst)) (hd:∀ r,r<i*a.Inputs.toNat→difB a b p0 r=false) :
  ∃ r,iter (fun (s:List (List Bool)×List T_equiv_place×Nat)=>equiv_search.s20 a b i (plC x) s.1 s.2.1 s.2.2) fuel (y,(pB a b p0 (i*a.Inputs.toNat)).map plC,0)=some r ∧
   ((∃ y',r=.inl (y',(pB a b p0 ((i+1)*a.Inputs.toNat)).map plC)∧SeenG a.Next.length b.Next.length y' ((pB a b p0 ((i+1)*a.Inputs.toNat)).map Prod.fst)∧∀ r,r<(i+1)*a.Inputs.toNat→difB a b p0 r=false) ∨
   (∃ res,r=.inr (.inr (.inr res))∧Fst a b p0 res)):=by
 have han:=T.a1.n2
 have hbn:=T.b1.n2
 have hI:=T.a1.i2
 have hxr:=pB_rng T h1 h2 _ x (List.mem_of_getElem? hx)
 obtain ⟨r,hr,hq⟩:=iter_post (step:=fun (s:List (List Bool)×List T_equiv_place×Nat)=>equiv_search.s20 a b i (plC x) s.1 s.2.1 s.2.2) (fun s=>s.2.2≤a.Inputs.toNat∧s.2.1=(pB a b p0 (i*a.Inputs.toNat+s.2.2)).map plC∧SeenG a.Next.length b.Next.length s.1 ((pB a b p0 (i*a.Inputs.toNat+s.2.2)).map Prod.fst)∧∀ r,r<i*a.Inputs.toNat+s.2.2→difB a b p0 r=false) (fun s=>a.Inputs.toNat-s.2.2) (fun r=>(∃ y',r=.inl (y',(pB a b p0 ((i+1)*a.Inputs.toNat)).map plC)∧SeenG a.Next.length b.Next.length y' ((pB a b p0 ((i+1)*a.Inputs.toNat)).map Prod.fst)∧∀ r,r<(i+1)*a.Inputs.toNat→difB a b p0 r=false)∨(∃ res,r=.inr (.inr (.inr res))∧Fst a b p0 res)) (fun s ⟨q1,q2,q3,q4⟩=>by
  obtain ⟨y,l,c⟩:=s
  simp only at q1 q2 q3 q4
  subst q2
  simp only [equiv_search.s20]
  by_cases g:c<a.Inputs.toNat
  ·have hxc:=pB_get hx (r:=i*a.Inputs.toNat+c) (by omega)
   obtain ⟨g1,_,_,ra,oa,e1,e2,e3,e4⟩:=T.a1.at hxr.1 g
   obtain ⟨f1,_,_,rb,ob,d1,d2,d3,d4⟩:=T.b1.at hxr.2.1 (a:=c) (by rw [← T.inp];exact g)
   have hbig:=big_sum (c:=c) hi han hbn (K:=a.Inputs.toNat) (by omega) (by omega)
   have hlen:=pB_len T h1 h2 (i*a.Inputs.toNat+c)
   have hnn:a.Next.length*b.Next.length≤128*128:=Nat.mul_le_mul han hbn
   rw [decide_eq_true (by omega),cond_true,idx_at (n:=(plC x).at_.s) (i:=x.1.1) rfl e2,idxn_at e4,idx_at (n:=(plC x).at_.t) (i:=x.1.2) rfl d2,idxn_at d4]
   by_cases hne:ot a x.1.1 c≠ot b x.1.2 c
   ·right
    rw [decide_eq_true hne,cond_true,idxn_at (map_get hxc)]
    show ∃ r,((word_Join [x.2,[(↑c:Int)]]).bind _:Option _)=_∧_
    rw [word_Join_eq _ (by simp) (by simp;omega),obind]
    refine ⟨_,rfl,Or.inr ⟨_,rfl,Or.inl ⟨i,c,x,g,hxc,hne,q4,?_⟩⟩⟩
    simp
   ·left
    have heq:ot a x.1.1 c=ot b x.1.2 c:=Classical.byContradiction hne
    have hd':∀ r,r<i*a.Inputs.toNat+(c+1)→difB a b p0 r=false:=fun r hr=>by
     rcases Nat.lt_or_ge r (i*a.Inputs.toNat+c) with q | q
     ·exact q4 r q
     ·have:r=i*a.Inputs.toNat+c:=by omega
      rw [this,difB_at g hxc,decide_eq_false hne]
    have hstep:=pB_step g hxc
    obtain ⟨row,r1,r2,r3⟩:=q3.at_ _ _ g1 f1
    have hxm:x.1∈(pB a b p0 (i*a.Inputs.toNat+c)).map Prod.fst:=List.mem_map.2 ⟨x,List.mem_of_getElem? hxc,rfl⟩
    have htest:((cond (!(decide ((↑(nx a x.1.1 c):Int)=(plC x).at_.s)&&(decide ((↑(nx b x.1.2 c):Int)=(plC x).at_.t)&&true))) (idx y (↑(nx a x.1.1 c):Int) fun e1288=>idx e1288 (↑(nx b x.1.2 c):Int) fun e1289=>some (!e1289)) (some false):Option Bool))=some (!decide (pE a b x.1 c∈(pB a b p0 (i*a.Inputs.toNat+c)).map Prod.fst)):=by
     by_cases z:pE a b x.1 c=x.1
     ·have z1:nx a x.1.1 c=x.1.1:=congrArg Prod.fst z
      have z2:nx b x.1.2 c=x.1.2:=congrArg Prod.snd z
      rw [decide_eq_true (show (↑(nx a x.1.1 c):Int)=(plC x).at_.s by rw [z1];rfl),decide_eq_true (show (↑(nx b x.1.2 c):Int)=(plC x).at_.t by rw [z2];rfl),z,decide_eq_true hxm]
      rfl
     ·have:(!(decide ((↑(nx a x.1.1 c):Int)=(plC x).at_.s)&&(decide ((↑(nx b x.1.2 c):Int)=(plC x).at_.t)&&true)))=true:=by
       by_cases z1:nx a x.1.1 c=x.1.1
       ·have z2:nx b x.1.2 c≠x.1.2:=fun q=>z (Prod.ext z1 q)
        rw [decide_eq_false (show ¬ (↑(nx b x.1.2 c):Int)=(plC x).at_.t from fun q=>z2 (Int.ofNat_inj.1 q))]
        simp
       ·rw [decide_eq_false (show ¬ (↑(nx a x.1.1 c):Int)=(plC x).at_.s from fun q=>z1 (Int.ofNat_inj.1 q))]
        rfl
      rw [this,cond_true,idx_at rfl r1,idx_at rfl r3]
      rfl
    rw [decide_eq_false hne,cond_false,idx_at (n:=(plC x).at_.s) (i:=x.1.1) rfl e1,idxn_at e3,idx_at (n:=(plC x).at_.t) (i:=x.1.2) rfl d1,idxn_at d3,htest,obind]
    by_cases hm:pE a b x.1 c∈(pB a b p0 (i*a.Inputs.toNat+c)).map Prod.fst
    ·rw [if_pos hm] at hstep
     refine ⟨(y,(pB a b p0 (i*a.Inputs.toNat+c)).map plC,c+1),by rw [decide_eq_true hm,Bool.not_true,cond_false,chk_pos (by unfold inR;omega)],⟨g,by simp only;rw [hstep],by simp only;rw [hstep];exact q3,hd'⟩,by simp only;omega⟩
    ·rw [if_neg hm] at hstep
     refine ⟨(y.set (nx a x.1.1 c) (row.set (nx b x.1.2 c) true),(pB a b p0 (i*a.Inputs.toNat+c)).map plC++[plC (pE a b x.1 c,x.2++[(↑c:Int)])],c+1),?_,⟨g,by simp only;rw [hstep,List.map_append];rfl,by simp only;rw [hstep,List.map_append];exact q3.push g1 f1 r1,hd'⟩,by simp only;omega⟩
     rw [decide_eq_false hm,Bool.not_false,cond_true,idx_at rfl r1,idx_at rfl r3,idxn_at (map_get hxc)]
     show (word_Join [x.2,[(↑c:Int)]]).bind _=_
     rw [word_Join_eq _ (by simp) (by simp;omega),obind,chk_pos (by unfold capOk;rw [List.length_map];omega),chk_pos (by unfold inR;omega),Int.toNat_natCast,Int.toNat_natCast]
     simp [plC,pE]
  ·right
   have e':c=a.Inputs.toNat:=by omega
   subst e'
   rw [pB_next] at q3 ⊢
   exact ⟨_,by rw [decide_eq_false (by omega),cond_false],Or.inl ⟨_,rfl,q3,by rw [Nat.succ_mul];exact q4⟩⟩) fuel (y,(pB a b p0 (i*a.Inputs.toNat)).map plC,0) ⟨Nat.zero_le _,rfl,S,hd⟩ (by have:=fuel_big;simp only;omega)
 exact ⟨r,hr,hq⟩
theorem equiv_search_eq (T:Two a b) {p0:Nat×Nat} (h1:p0.1<a.Next.length) (h2:p0.2<b.Next.length):∃ res,equiv_search a b (⟨(↑p0.1:Int),(↑p0.2:Int)⟩:T_equiv_pair)=some res∧Fst a b p0 res:=by
 have han:=T.a1.n2
 have hbn:=T.b1.n2
 have hI:=T.a1.i2
 have hnn:a.Next.length*b.Next.length≤128*128:=Nat.mul_le_mul han hbn
 unfold equiv_search
 have grid:=iter_eq (step:=fun (s:List (List Bool)×Nat)=>equiv_search.s2 a b s.1 s.2) (r:=List.replicate a.Next.length (List.replicate b.Next.length false)) (fun s=>s.2≤a.Next.length∧s.1=List.replicate s.2 (List.replicate b.Next.length false)++List.replicate (a.Next.length-s.2) []) (fun s=>a.Next.length-s.2) (fun s ⟨q1,q2⟩=>by
  obtain ⟨y,k⟩:=s
  simp only at q1 q2
  subst q2
  simp only [equiv_search.s2]
  by_cases g:k<a.Next.length
  ·left
   refine ⟨(List.replicate (k+1) (List.replicate b.Next.length false)++List.replicate (a.Next.length-(k+1)) [],k+1),?_,⟨g,rfl⟩,by simp only;omega⟩
   have hk:(List.replicate k (List.replicate b.Next.length false)++List.replicate (a.Next.length-k) [])[k]?=some []:=by
    rw [List.getElem?_append_right (by simp),List.length_replicate,Nat.sub_self,List.getElem?_replicate,if_pos (by omega)]
   rw [List.length_replicate,decide_eq_true (by omega),cond_true,chk_pos ⟨by omega,by omega,by unfold capOk;omega⟩,idxn_at hk,chk_pos (by unfold inR;omega)]
   congr 4
   rw [List.set_append_right _ _ (by simp),List.length_replicate,Nat.sub_self,show a.Next.length-k=(a.Next.length-(k+1))+1 by omega,List.replicate_succ,List.set_cons_zero,List.replicate_succ' (n:=k)]
   simp
  ·right
   have:k=a.Next.length:=by omega
   subst this
   rw [List.length_replicate,decide_eq_false (by omega),cond_false]
   simp) (n:=fuel) (s:=(List.replicate a.Next.length [],0)) ⟨Nat.zero_le _,by simp⟩ (by have:=fuel_big;simp only;omega)
 obtain ⟨row,r1,r2,r3⟩:=(seenG_nil a.Next.length b.Next.length).at_ _ _ h1 h2
 have hS:=(seenG_nil a.Next.length b.Next.length).push h1 h2 r1
 rw [chk_pos ⟨by omega,by omega,by unfold capOk;omega⟩,grid,obind]
 simp only
 rw [idx_at rfl r1,idx_at rfl r3,Int.toNat_natCast,Int.toNat_natCast]
 obtain ⟨r,hr,hq⟩:=iter_post (step:=fun (s:List (List Bool)×List T_equiv_place×Nat)=>equiv_search.s22 a b s.1 s.2.1 s.2.2) (fun s=>s.2.2≤(pB a b p0 (s.2.2*a.Inputs.toNat)).length∧s.2.1=(pB a b p0 (s.2.2*a.Inputs.toNat)).map plC∧SeenG a.Next.length b.Next.length s.1 ((pB a b p0 (s.2.2*a.Inputs.toNat)).map Prod.fst)∧∀ r,r<s.2.2*a.Inputs.toNat→difB a b p0 r=false) (fun s=>a.Next.length*b.Next.length+1-s.2.2) (fun r=>(r=.inl ()∧Fst a b p0 ([],false))∨∃ res,r=.inr res∧Fst a b p0 res) (fun s ⟨q1,q2,q3,q4⟩=>by
  obtain ⟨y,l,i⟩:=s
  simp only at q1 q2 q3 q4
  subst q2
  simp only [equiv_search.s22]
  have hlen:=pB_len T h1 h2 (i*a.Inputs.toNat)
  by_cases g:i<(pB a b p0 (i*a.Inputs.toNat)).length
  ·have hx:=get_at g
   generalize (pB a b p0 (i*a.Inputs.toNat))[i]=x at hx
   obtain ⟨r,z1,z2⟩:=search_row T h1 h2 (by omega) hx q3 q4
   rw [decide_eq_true (by rw [List.length_map];omega),cond_true,idxn_at (map_get hx),z1,obind]
   rcases z2 with ⟨y',rfl,z3,z4⟩ | ⟨res,rfl,z3⟩
   ·left
    have hmono:=(bfs_pre (e:=pE a b) (K:=a.Inputs.toNat) (s0:=p0) (show i*a.Inputs.toNat≤(i+1)*a.Inputs.toNat by rw [Nat.succ_mul];omega)).length_le
    exact ⟨(y',(pB a b p0 ((i+1)*a.Inputs.toNat)).map plC,i+1),rfl,⟨by simp only;unfold pB at g ⊢;omega,rfl,z3,z4⟩,by simp only;omega⟩
   ·right
    exact ⟨.inr res,rfl,Or.inr ⟨res,rfl,z3⟩⟩
  ·right
   refine ⟨.inl (),by rw [decide_eq_false (by rw [List.length_map];omega),cond_false],Or.inl ⟨rfl,Or.inr ⟨pB a b p0 (i*a.Inputs.toNat),⟨?_⟩,?_,rfl⟩⟩⟩
   ·rw [show (pB a b p0 (i*a.Inputs.toNat)).length=i by omega]
    rfl
   ·rw [show (pB a b p0 (i*a.Inputs.toNat)).length=i by omega]
    exact q4) fuel ((List.replicate a.Next.length (List.replicate b.Next.length false)).set p0.1 (row.set p0.2 true),[(⟨(⟨(↑p0.1:Int),(↑p0.2:Int)⟩:T_equiv_pair),[]⟩:T_equiv_place)],0) ⟨Nat.zero_le _,by simp only;rw [Nat.zero_mul];simp [pB,bfsB,plC],by
    simp only
    rw [Nat.zero_mul]
    exact hS,fun r hr=>by simp only at hr;omega⟩ (by have:=fuel_big;simp only;omega)
 rw [hr,obind]
 rcases hq with ⟨rfl,hq⟩ | ⟨res,rfl,hq⟩
 ·exact ⟨_,rfl,hq⟩
 ·exact ⟨_,rfl,hq⟩
end
end Go.Proofs.YtkfaepfljlphoaaDoor.Sym

/-
 The first word that has different outputs: the document's search, and what it says. Plain laws.
-/
namespace Go.Proofs.YtkfaepfljlphoaaDoor.Sym
set_option maxRecDepth 100000
section
variable {a b:T_api_Mealy}
end
end Go.Proofs.YtkfaepfljlphoaaDoor.Sym

/-
 The minimal machine with its states in the order of their first words is one. Plain laws.
-/
namespace Go.Proofs.YtkfaepfljlphoaaDoor.Sym
set_option maxRecDepth 100000
theorem leastR {p:Nat→Prop}:∀ {r:Nat},p r→∃ q,p q∧∀ q',q'<q→¬ p q':=fun {r} h=>by
 induction r using Nat.strongRecOn with
 | ind r ih =>
  by_cases g:∃ q,q<r∧p q
  ·obtain ⟨q,h1,h2⟩:=g
   exact ih q h1 h2
  ·exact ⟨r,h,fun q' hq hp=>g ⟨q',hq,hp⟩⟩
structure Can (M:T_api_Mealy):Prop where
 c4:∀ i a u,i<M.Next.length→a<M.Inputs.toNat→0<u→u≤nx M i a→∃ i' a',a'<M.Inputs.toNat∧i'*M.Inputs.toNat+a'≤i*M.Inputs.toNat+a∧i'<u∧nx M i' a'=u
 c5:∀ u,0<u→u<M.Next.length→∃ i a,i<u∧a<M.Inputs.toNat∧nx M i a=u
def Eqv (a:T_api_Mealy) (s:Nat) (b:T_api_Mealy) (t:Nat):Prop:=∀ w,WOk a.Inputs w→outs a s w=outs b t w
structure MinSem (m M:T_api_Mealy):Prop where
 ok:MacOk M
 inp:M.Inputs=m.Inputs
 start:M.Start=0
 eqv:Eqv M 0 m m.Start.toNat
 min:∀ i j,i<M.Next.length→j<M.Next.length→Eqv M i M j→i=j
 can:Can M
theorem Eqv.step {a b:T_api_Mealy} (hi:a.Inputs=b.Inputs) {s t c:Nat} (h:Eqv a s b t) (hc:c<a.Inputs.toNat):ot a s c=ot b t c∧Eqv a (nx a s c) b (nx b t c):=by
 have key:∀ w,WOk a.Inputs w→ot a s c::outs a (nx a s c) w=ot b t c::outs b (nx b t c) w:=fun w hw=>by
  have:=h ((↑c:Int)::w) (fun x hx=>by
   rcases List.mem_cons.1 hx with rfl | hx
   ·omega
   ·exact hw x hx)
  exact this
 have h0:=key [] (fun x hx=>by cases hx)
 injection h0 with h0 _
 refine ⟨h0,fun w hw=>?_⟩
 have:=key w hw
 injection this with _ this
theorem Eqv.symm {a b:T_api_Mealy} (hi:a.Inputs=b.Inputs) {s t:Nat} (h:Eqv a s b t):Eqv b t a s:=fun w hw=>(h w (by rw [hi];exact hw)).symm
theorem Eqv.trans {a b c:T_api_Mealy} (hi:a.Inputs=b.Inputs) {s t u:Nat} (h:Eqv a s b t) (g:Eqv b t c u):Eqv a s c u:=fun w hw=>(h w hw).trans (g w (by rw [← hi];exact hw))
theorem Eqv.refl (a:T_api_Mealy) (s:Nat):Eqv a s a s:=fun _ _=>rfl
theorem Eqv.dest {a b:T_api_Mealy} (hi:a.Inputs=b.Inputs) {s t:Nat} (h:Eqv a s b t) {w:List Int} (hw:WOk a.Inputs w):Eqv a (dest a s w) b (dest b t w):=fun v hv=>by
 have:=h (w++v) (hw.append hv)
 rw [outs_append,outs_append] at this
 exact List.append_inj_right this (by rw [outs_len,outs_len])
section
variable {M M':T_api_Mealy}
theorem can_match (HM:MacOk M) (HM':MacOk M') (hi:M.Inputs=M'.Inputs) (hmin:∀ i j,i<M.Next.length→j<M.Next.length→Eqv M i M j→i=j) (hmin':∀ i j,i<M'.Next.length→j<M'.Next.length→Eqv M' i M' j→i=j) (C:Can M) (C':Can M') (h0:Eqv M 0 M' 0) :
  ∀ u,u<M.Next.length→u<M'.Next.length∧Eqv M u M' u:=by
 intro u
 induction u using Nat.strongRecOn with
 | ind u ih =>
  intro hu
  by_cases hz:u=0
  ·subst hz
   exact ⟨HM'.n1,h0⟩
  obtain ⟨i0,a0,b1,b2,b3⟩:=C.c5 u (by omega) hu
  have hK:0<M.Inputs.toNat:=by omega
  obtain ⟨r,⟨⟨i,a,p1,p2,p3,p4⟩,hleast⟩⟩:∃ r,(∃ i a,i<M.Next.length∧a<M.Inputs.toNat∧r=i*M.Inputs.toNat+a∧nx M i a=u)∧∀ r',r'<r→¬ ∃ i a,i<M.Next.length∧a<M.Inputs.toNat∧r'=i*M.Inputs.toNat+a∧nx M i a=u :=
   leastR (p:=fun r=>∃ i a,i<M.Next.length∧a<M.Inputs.toNat∧r=i*M.Inputs.toNat+a∧nx M i a=u) (r:=i0*M.Inputs.toNat+a0) ⟨i0,a0,by omega,b2,rfl,b3⟩
  have hiu:i<u:=by
   rcases Nat.lt_or_ge i u with q | q
   ·exact q
   ·exfalso
    refine hleast (i0*M.Inputs.toNat+a0) ?_ ⟨i0,a0,by omega,b2,rfl,b3⟩
    have:=mem_lt (show i0<i by omega) b2
    omega
  obtain ⟨hi',hR⟩:=ih i hiu p1
  obtain ⟨_,hR2⟩:=hR.step hi p2
  rw [p4] at hR2
  have ha':a<M'.Inputs.toNat:=by rw [← hi];exact p2
  have hu':=(HM'.at hi' ha').1
  have hlow:∀ i' a',i'<M.Next.length→a'<M.Inputs.toNat→i'*M.Inputs.toNat+a'<r→nx M i' a'<u:=fun i' a' g1 g2 g3=>by
   rcases Nat.lt_or_ge (nx M i' a') u with q | q
   ·exact q
   ·exfalso
    obtain ⟨i2,a2,z1,z2,z3,z4⟩:=C.c4 i' a' u g1 g2 (by omega) q
    exact hleast (i2*M.Inputs.toNat+a2) (by omega) ⟨i2,a2,by omega,z1,rfl,z4⟩
  rcases Nat.lt_trichotomy (nx M' i a) u with q | q | q
  ·exfalso
   obtain ⟨_,hv⟩:=ih _ q (by omega)
   have:=hmin u (nx M' i a) hu (by omega) (hR2.trans hi (hv.symm hi))
   omega
  ·rw [q] at hR2 hu'
   exact ⟨hu',hR2⟩
  ·exfalso
   obtain ⟨i2,a2,z1,z2,z3,z4⟩:=C'.c4 i a u hi' ha' (by omega) (by omega)
   rw [← hi] at z1 z2
   obtain ⟨w1,w2⟩:=ih i2 z3 (by omega)
   obtain ⟨_,w3⟩:=w2.step hi z1
   rw [z4] at w3
   have hlt:i2*M.Inputs.toNat+a2<r:=by
    rcases Nat.lt_or_ge (i2*M.Inputs.toNat+a2) r with g | g
    ·exact g
    ·exfalso
     have he:i2*M.Inputs.toNat+a2=i*M.Inputs.toNat+a:=by omega
     have e1:i2=i:=by rw [← dm_div (i:=i2) z1,he,dm_div p2]
     subst e1
     have e2:a2=a:=by omega
     subst e2
     omega
   have hv:=hlow i2 a2 (by omega) z1 hlt
   obtain ⟨v1,v2⟩:=ih _ hv (by omega)
   have hN':u<M'.Next.length:=by omega
   have:=hmin' (nx M i2 a2) u v1 hN' ((v2.symm hi).trans hi.symm w3)
   omega
theorem row_ext {l l':List (List Int)} {n k:Nat} {g:Nat→Nat→Int} (h1:l.length=n) (h2:l'.length=n) (h:∀ i,i<n→∃ x y,l[i]?=some x∧l'[i]?=some y∧x.length=k∧y.length=k∧∀ a,a<k→x[a]?=some (g i a)∧y[a]?=some (g i a)):l=l':=by
 refine List.ext_getElem? fun i=>?_
 rcases Nat.lt_or_ge i n with g1 | g1
 ·obtain ⟨x,y,e1,e2,e3,e4,e5⟩:=h i g1
  rw [e1,e2]
  congr 1
  refine List.ext_getElem? fun a=>?_
  rcases Nat.lt_or_ge a k with g2 | g2
  ·rw [(e5 a g2).1,(e5 a g2).2]
  ·rw [List.getElem?_eq_none (by omega),List.getElem?_eq_none (by omega)]
 ·rw [List.getElem?_eq_none (by omega),List.getElem?_eq_none (by omega)]
theorem minsem_uniq {m:T_api_Mealy} (S:MinSem m M) (S':MinSem m M'):M=M':=by
 have hi:M.Inputs=M'.Inputs:=S.inp.trans S'.inp.symm
 have h0:Eqv M 0 M' 0:=S.eqv.trans S.inp (S'.eqv.symm S'.inp)
 have A:=can_match S.ok S'.ok hi S.min S'.min S.can S'.can h0
 have B:=can_match S'.ok S.ok hi.symm S'.min S.min S'.can S.can (h0.symm hi)
 have hn:M.Next.length=M'.Next.length:=by
  have p1:=S.ok.n1
  have p2:=S'.ok.n1
  have a1:=(A (M.Next.length-1) (by omega)).1
  have b1:=(B (M'.Next.length-1) (by omega)).1
  omega
 have hx:∀ i a,i<M.Next.length→a<M.Inputs.toNat→nx M i a=nx M' i a∧ot M i a=ot M' i a:=fun i a h1 h2=>by
  obtain ⟨e1,e2⟩:=(A i h1).2.step hi h2
  refine ⟨?_,e1⟩
  have g1:=(S.ok.at h1 h2).1
  have g2:=(S'.ok.at (show i<M'.Next.length by omega) (a:=a) (by rw [← hi];exact h2)).1
  have e3:=(A _ g1).2
  exact S'.min _ _ (by omega) g2 ((e3.symm hi).trans hi.symm e2)
 have hN:M.Next=M'.Next:=row_ext (n:=M.Next.length) (k:=M.Inputs.toNat) (g:=fun i a=>(↑(nx M i a):Int)) rfl hn.symm fun i h=>by
  obtain ⟨x,y,e1,e2,e3,e4,_⟩:=S.ok.row i h
  obtain ⟨x',y',f1,f2,f3,f4,_⟩:=S'.ok.row i (by omega)
  refine ⟨x,x',e1,f1,by omega,by omega,fun a ha=>?_⟩
  obtain ⟨_,_,_,z,z',g1,_,g2,_⟩:=S.ok.at h ha
  obtain ⟨_,_,_,v,v',k1,_,k2,_⟩:=S'.ok.at (show i<M'.Next.length by omega) (a:=a) (by rw [← hi];exact ha)
  rw [e1] at g1
  rw [f1] at k1
  injection g1 with g1
  injection k1 with k1
  subst g1
  subst k1
  exact ⟨g2,by rw [k2,(hx i a h ha).1]⟩
 have hO:M.Out=M'.Out:=row_ext (n:=M.Next.length) (k:=M.Inputs.toNat) (g:=fun i a=>ot M i a) S.ok.ol (S'.ok.ol.trans hn.symm) fun i h=>by
  obtain ⟨x,y,e1,e2,e3,e4,_⟩:=S.ok.row i h
  obtain ⟨x',y',f1,f2,f3,f4,_⟩:=S'.ok.row i (by omega)
  refine ⟨y,y',e2,f2,by omega,by omega,fun a ha=>?_⟩
  obtain ⟨_,_,_,z,z',_,g1,_,g2⟩:=S.ok.at h ha
  obtain ⟨_,_,_,v,v',_,k1,_,k2⟩:=S'.ok.at (show i<M'.Next.length by omega) (a:=a) (by rw [← hi];exact ha)
  rw [e2] at g1
  rw [f2] at k1
  injection g1 with g1
  injection k1 with k1
  subst g1
  subst k1
  exact ⟨g2,by rw [k2,(hx i a h ha).2]⟩
 have hs:M.Start=M'.Start:=S.start.trans S'.start.symm
 obtain ⟨a1,a2,a3,a4⟩:=M
 obtain ⟨b1,b2,b3,b4⟩:=M'
 simp only at hi hs hN hO
 rw [hi,hs,hN,hO]
end
structure Shape {A:Type} [DecidableEq A] (e:A→Nat→A) (o:A→Nat→Int) (L:List (A×List Int)) (M:T_api_Mealy):Prop where
 len:M.Next.length=L.length
 row:∀ i x a,L[i]?=some x→a<M.Inputs.toNat→∃ y,L[nx M i a]?=some y∧y.1=e x.1 a∧ot M i a=o x.1 a
theorem nodup_at {A:Type} {l:List A} (h:l.Nodup) {i j:Nat} {x:A} (hi:l[i]?=some x) (hj:l[j]?=some x):i=j:=by
 have h1:=(List.getElem?_eq_some_iff.1 hi)
 have h2:=(List.getElem?_eq_some_iff.1 hj)
 obtain ⟨a1,a2⟩:=h1
 obtain ⟨b1,b2⟩:=h2
 rcases Nat.lt_trichotomy i j with q | q | q
 ·exact absurd (a2.trans b2.symm) (List.pairwise_iff_getElem.1 h i j a1 b1 q)
 ·exact q
 ·exact absurd (b2.trans a2.symm) (List.pairwise_iff_getElem.1 h j i b1 a1 q)
theorem shape_can {A:Type} [DecidableEq A] {e:A→Nat→A} {o:A→Nat→Int} {s0:A} {L:List (A×List Int)} {M:T_api_Mealy} (hE:BfsEnd e M.Inputs.toNat s0 L) (S:Shape e o L M) (hK:0<M.Inputs.toNat):Can M:=by
 have at_:∀ i a x y j,L[i]?=some x→a<M.Inputs.toNat→L[j]?=some y→y.1=e x.1 a→nx M i a=j:=fun i a x y j hx ha hj he=>by
  obtain ⟨y',h1,h2,_⟩:=S.row i x a hx ha
  exact nodup_at hE.nodup (x:=e x.1 a) (by rw [List.getElem?_map,h1,← h2];rfl) (by rw [List.getElem?_map,hj,← he];rfl)
 refine ⟨fun i a u hi ha hu hle=>?_,fun u hu hlt=>?_⟩
 ·have hx:=get_at (l:=L) (i:=i) (by rw [← S.len];exact hi)
  obtain ⟨j,y,h1,h2,h3⟩:=hE.closed hx ha
  rw [at_ i a _ y j hx ha h1 h2] at hle
  obtain ⟨i',a',z,w,g1,g2,g3,g4,g5,g6⟩:=h3 u hu hle
  exact ⟨i',a',g1,g2,g3,at_ i' a' z w u g4 g1 g5 g6⟩
 ·have hx:=get_at (l:=L) (i:=u) (by rw [← S.len];exact hlt)
  rcases hE.from hK hx with q | ⟨i,a,y,g1,g2,g3,g4⟩
  ·omega
  ·exact ⟨i,a,g1,g2,at_ i a y _ u g3 g2 hx (by rw [g4])⟩
end Go.Proofs.YtkfaepfljlphoaaDoor.Sym

/-
 The machine of what is reached: the program's Trim. Plain laws.
-/
namespace Go.Proofs.YtkfaepfljlphoaaDoor.Sym
set_option maxRecDepth 100000
section
variable {m:T_api_Mealy}
theorem libclone_w {w:List Int} (h:w.length≤1000000):lib_Clone_int w=some w:=libclone_word (by unfold SmW;omega)
structure TrimOk (m t:T_api_Mealy) (L:List (Nat×List Int)):Prop where
 end_:MEnd m m.Start.toNat L
 inp:t.Inputs=m.Inputs
 start:t.Start=0
 ok:MacOk t
 shape:Shape (nx m) (ot m) L t
theorem mEnd_rng (H:MacOk m) {s0:Nat} {L:List (Nat×List Int)} (hs:s0<m.Next.length) (hE:MEnd m s0 L):L.length≤m.Next.length∧∀ x∈L,x.1<m.Next.length∧dest m s0 x.2=x.1∧WOk m.Inputs x.2:=by
 refine ⟨?_,fun x hx=>?_⟩
 ·rw [hE.eq]
  exact mB_len H hs _
 ·rw [hE.eq] at hx
  have:=mB_rng H hs _ x hx
  exact ⟨this.1,this.2.2⟩
theorem mealy_Trim_eq (hv:validM m=0):∃ t L,mealy_Trim m=some (t,0)∧TrimOk m t L:=by
 have H:=valid_ok hv
 have hst:=H.st
 have hn:=H.n2
 have hI:=H.i2
 have hI1:=H.i1
 have hs:m.Start.toNat<m.Next.length:=by omega
 obtain ⟨L,hE,hR⟩:=mealy_Reach_eq hv
 obtain ⟨hLn,hLr⟩:=mEnd_rng H hs hE
 have hnd:=hE.nodup
 unfold mealy_Trim
 rw [mealy_Valid_eq,obind,hv,decide_eq_false (by decide),cond_false,hR,obind,chk_pos ⟨by omega,by omega,by unfold capOk;omega⟩]
 -- the numbers
 obtain ⟨num,hnum,hnl,hna⟩:=iter_post (step:=fun (s:List Int×Nat)=>mealy_Trim.s2 (natI (L.map Prod.fst)) s.1 s.2) (fun s=>s.2≤L.length∧s.1.length=m.Next.length∧∀ (j:Nat) (x:Nat×List Int),j<s.2→L[j]?=some x→s.1[x.1]?=some (↑j:Int)) (fun s=>L.length-s.2) (fun r=>r.length=m.Next.length∧∀ (j:Nat) (x:Nat×List Int),L[j]?=some x→r[x.1]?=some (↑j:Int)) (fun s ⟨q1,q2,q3⟩=>by
  obtain ⟨y,i⟩:=s
  simp only at q1 q2 q3
  simp only [mealy_Trim.s2]
  by_cases g:i<L.length
  ·left
   have hx:=get_at g
   generalize L[i]=x at hx
   have hxr:=(hLr x (List.mem_of_getElem? hx)).1
   have hy:=get_at (l:=y) (i:=x.1) (by omega)
   refine ⟨(y.set x.1 (↑i:Int),i+1),?_,⟨g,by simp [q2],fun j z hj hz=>?_⟩,by simp only;omega⟩
   ·rw [decide_eq_true (by rw [natI_len,List.length_map];omega),cond_true,idxn_at (natI_at (i:=i) (u:=x.1) (by rw [List.getElem?_map,hx];rfl)),idx_at rfl hy,Int.toNat_natCast]
   ·simp only
    by_cases e:x.1=z.1
    ·have:i=j:=nodup_at hnd (x:=x.1) (by rw [List.getElem?_map,hx];rfl) (by rw [List.getElem?_map,hz,e];rfl)
     subst this
     rw [← e,List.getElem?_set_self (by omega)]
    ·rw [List.getElem?_set_ne e]
     rcases Nat.lt_or_ge j i with h | h
     ·exact q3 j z h hz
     ·have:j=i:=by simp only at hj;omega
      subst this
      rw [hx] at hz
      injection hz with hz
      rw [hz] at e
      exact absurd rfl e
  ·right
   exact ⟨y,by rw [decide_eq_false (by rw [natI_len,List.length_map];omega),cond_false],q2,fun j x hx=>q3 j x (by have:=(List.getElem?_eq_some_iff.1 hx).1;omega) hx⟩) fuel (List.replicate m.Next.length 0,0) ⟨Nat.zero_le _,by simp,fun j x h=>absurd h (Nat.not_lt_zero _)⟩ (by have:=fuel_big;simp only;omega)
 rw [hnum,obind]
 -- one row
 have row1:∀ (x:Nat×List Int) (row:List Int),x∈L→m.Next[x.1]?=some row→∃ r,iter (fun (s:List Int×Nat)=>mealy_Trim.s15 num row s.1 s.2) fuel (List.replicate (Int.toNat m.Inputs) 0,0)=some r∧r.length=m.Inputs.toNat∧∀ a,a<m.Inputs.toNat→∃ (j:Nat) (y:Nat×List Int),L[j]?=some y∧y.1=nx m x.1 a∧r[a]?=some (↑j:Int):=by
  intro x row hx hrow
  have hxr:=(hLr x hx).1
  have hrl:row.length=m.Inputs.toNat:=by
   obtain ⟨x',y',h1,_,h3,_⟩:=H.row x.1 hxr
   rw [hrow] at h1
   injection h1 with h1
   subst h1
   omega
  obtain ⟨i,hi⟩:=List.mem_iff_getElem?.1 hx
  exact iter_post (step:=fun (s:List Int×Nat)=>mealy_Trim.s15 num row s.1 s.2) (fun s=>s.2≤m.Inputs.toNat∧s.1.length=m.Inputs.toNat∧∀ a,a<s.2→∃ (j:Nat) (y:Nat×List Int),L[j]?=some y∧y.1=nx m x.1 a∧s.1[a]?=some (↑j:Int)) (fun s=>m.Inputs.toNat-s.2) (fun r=>r.length=m.Inputs.toNat∧∀ a,a<m.Inputs.toNat→∃ (j:Nat) (y:Nat×List Int),L[j]?=some y∧y.1=nx m x.1 a∧r[a]?=some (↑j:Int)) (fun s ⟨q1,q2,q3⟩=>by
   obtain ⟨y,a⟩:=s
   simp only at q1 q2 q3
   simp only [mealy_Trim.s15]
   by_cases g:a<m.Inputs.toNat
   ·left
    obtain ⟨h1,_,_,x',y',h2,_,h4,_⟩:=H.at hxr g
    rw [hrow] at h2
    injection h2 with h2
    subst h2
    obtain ⟨j,z,z1,z2,_⟩:=hE.closed hi g
    have hy:=get_at (l:=y) (i:=a) (by omega)
    have hnz:=hna j z z1
    rw [z2] at hnz
    refine ⟨(y.set a (↑j:Int),a+1),?_,⟨g,by simp [q2],fun b hb=>?_⟩,by simp only;omega⟩
    ·rw [decide_eq_true (by omega),cond_true,idxn_at h4,idx_at rfl hnz,idxn_at hy]
    ·simp only
     by_cases e:a=b
     ·subst e
      exact ⟨j,z,z1,z2,by rw [List.getElem?_set_self (by omega)]⟩
     ·obtain ⟨j',z',w1,w2,w3⟩:=q3 b (by simp only at hb;omega)
      exact ⟨j',z',w1,w2,by rw [List.getElem?_set_ne e,w3]⟩
   ·right
    have:a=m.Inputs.toNat:=by omega
    subst this
    exact ⟨y,by rw [decide_eq_false (by omega),cond_false],q2,q3⟩) fuel (List.replicate (Int.toNat m.Inputs) 0,0) ⟨Nat.zero_le _,by simp,fun a h=>absurd h (Nat.not_lt_zero _)⟩ (by have:=fuel_big;simp only;omega)
 -- all rows
 obtain ⟨r,hr,P,Q,rfl,p1,p2,p3⟩:=iter_post (step:=fun (s:List (List Int)×List (List Int)×Nat)=>mealy_Trim.s16 m (natI (L.map Prod.fst)) num s.1 s.2.1 s.2.2) (fun s=>s.2.2≤L.length∧s.1.length=s.2.2∧s.2.1.length=s.2.2∧∀ (i:Nat) (x:Nat×List Int),i<s.2.2→L[i]?=some x→(∃ r,s.1[i]?=some r∧r.length=m.Inputs.toNat∧∀ a,a<m.Inputs.toNat→∃ (j:Nat) (y:Nat×List Int),L[j]?=some y∧y.1=nx m x.1 a∧r[a]?=some (↑j:Int))∧s.2.1[i]?=m.Out[x.1]?) (fun s=>L.length-s.2.2) (fun r=>∃ P Q,r=(P,Q)∧P.length=L.length∧Q.length=L.length∧∀ (i:Nat) (x:Nat×List Int),L[i]?=some x→(∃ r,P[i]?=some r∧r.length=m.Inputs.toNat∧∀ a,a<m.Inputs.toNat→∃ (j:Nat) (y:Nat×List Int),L[j]?=some y∧y.1=nx m x.1 a∧r[a]?=some (↑j:Int))∧Q[i]?=m.Out[x.1]?) (fun s ⟨q1,q2,q3,q4⟩=>by
  obtain ⟨P,Q,i⟩:=s
  simp only at q1 q2 q3 q4
  simp only [mealy_Trim.s16]
  by_cases g:i<L.length
  ·left
   have hx:=get_at g
   generalize L[i]=x at hx
   have hxm:=List.mem_of_getElem? hx
   have hxr:=(hLr x hxm).1
   obtain ⟨row,out,e1,e2,e3,e4,_⟩:=H.row x.1 hxr
   obtain ⟨r,f1,f2,f3⟩:=row1 x row hxm e1
   refine ⟨(P++[r],Q++[out],i+1),?_,⟨g,by simp [q2],by simp [q3],fun j z hj hz=>?_⟩,by simp only;omega⟩
   ·rw [decide_eq_true (by rw [natI_len,List.length_map];omega),cond_true,idxn_at (natI_at (i:=i) (u:=x.1) (by rw [List.getElem?_map,hx];rfl)),chk_pos ⟨by omega,by omega,by unfold capOk;omega⟩,idx_at rfl e1,f1,obind,chk_pos (by unfold capOk;omega),idx_at rfl e2,libclone_w (by omega),obind,chk_pos (by unfold capOk;omega)]
   ·simp only
    rcases Nat.lt_or_ge j i with h | h
    ·obtain ⟨⟨r',w1,w2⟩,w3⟩:=q4 j z h hz
     exact ⟨⟨r',by rw [List.getElem?_append_left (by omega),w1],w2⟩,by rw [List.getElem?_append_left (by omega),w3]⟩
    ·have:j=i:=by simp only at hj;omega
     subst this
     rw [hx] at hz
     injection hz with hz
     subst hz
     refine ⟨⟨r,?_,f2,f3⟩,?_⟩
     ·rw [List.getElem?_append_right (by omega),q2,Nat.sub_self]
      rfl
     ·rw [List.getElem?_append_right (by omega),q3,Nat.sub_self,e2]
      rfl
  ·right
   have:i=L.length:=by omega
   subst this
   exact ⟨_,by rw [decide_eq_false (by rw [natI_len,List.length_map];omega),cond_false],P,Q,rfl,q2,q3,fun j x hx=>q4 j x (List.getElem?_eq_some_iff.1 hx).1 hx⟩) fuel ([],[],0) ⟨Nat.zero_le _,rfl,rfl,fun i x h=>absurd h (Nat.not_lt_zero _)⟩ (by have:=fuel_big;simp only;omega)
 rw [hr,obind]
 have hL0:0<L.length:=(List.getElem?_eq_some_iff.1 hE.first).1
 have hsh:∀ i x a,L[i]?=some x→a<m.Inputs.toNat→∃ (j:Nat) (y:Nat×List Int),L[j]?=some y∧y.1=nx m x.1 a∧nx (⟨m.Inputs,0,P,Q⟩:T_api_Mealy) i a=j∧ot (⟨m.Inputs,0,P,Q⟩:T_api_Mealy) i a=ot m x.1 a:=fun i x a hx ha=>by
  obtain ⟨⟨r,w1,w2,w3⟩,w4⟩:=p3 i x hx
  obtain ⟨j,y,z1,z2,z3⟩:=w3 a ha
  refine ⟨j,y,z1,z2,?_,?_⟩
  ·unfold nx
   simp only
   rw [w1,Option.getD_some,z3,Option.getD_some,Int.toNat_natCast]
  ·unfold ot
   simp only
   rw [w4]
 refine ⟨⟨m.Inputs,0,P,Q⟩,L,rfl,hE,rfl,rfl,⟨hI1,hI,by simp only;omega,by simp only;omega,⟨Int.le_refl 0,by simp only;omega⟩,by simp only;omega,fun i hi=>?_⟩,⟨p1,fun i x a hx ha=>?_⟩⟩
 ·simp only at hi ⊢
  have hx:=get_at (l:=L) (i:=i) (by omega)
  obtain ⟨⟨r,w1,w2,w3⟩,w4⟩:=p3 i _ hx
  obtain ⟨row,out,e1,e2,e3,e4,e5,e6⟩:=H.row L[i].1 (hLr _ (List.mem_of_getElem? hx)).1
  refine ⟨r,out,w1,by rw [w4,e2],by omega,e4,fun u hu=>?_,e6⟩
  obtain ⟨a,ha,rfl⟩:=List.mem_iff_getElem.1 hu
  obtain ⟨j,y,z1,z2,z3⟩:=w3 a (by omega)
  rw [get_at ha] at z3
  injection z3 with z3
  have:=(List.getElem?_eq_some_iff.1 z1).1
  omega
 ·obtain ⟨j,y,z1,z2,z3,z4⟩:=hsh i x a hx ha
  exact ⟨y,by rw [z3];exact z1,z2,z4⟩
theorem trim_outs {t:T_api_Mealy} {L:List (Nat×List Int)} (T:TrimOk m t L):∀ (w:List Int) (i:Nat) (x:Nat×List Int),L[i]?=some x→WOk m.Inputs w→outs t i w=outs m x.1 w
 | [],_,_,_,_=>rfl
 | z::w,i,x,hx,hw=>by
  have hz:=hw.head
  obtain ⟨y,h1,h2,h3⟩:=T.shape.row i x z.toNat hx (by rw [T.inp];omega)
  have:=trim_outs T w _ y h1 hw.tail
  show ot t i z.toNat::outs t (nx t i z.toNat) w=ot m x.1 z.toNat::outs m (nx m x.1 z.toNat) w
  rw [h3,this,h2]
end
end Go.Proofs.YtkfaepfljlphoaaDoor.Sym

/-
 Classes of equivalent states: the program's refinement. Plain laws.
-/
namespace Go.Proofs.YtkfaepfljlphoaaDoor.Sym
set_option maxRecDepth 100000
section
variable {κ ν:Type} [BEq κ]
theorem mset_new {k:κ} {v:ν}:∀ {m:List (κ×ν)},mget k m=none→mset k v m=m++[(k,v)]
 | [],_=>rfl
 | p::m,h=>by
  unfold mget at h
  unfold mset
  cases e:k==p.1 with
  | true=>rw [e] at h;cases h
  | false =>
   rw [e] at h
   show p::mset k v m=_
   rw [mset_new h]
   rfl
end
theorem li_beq (a b:List Int):(a==b)=true↔a=b:=beq_iff_eq
section
variable {m:T_api_Mealy} {c:List Int}
def sigV (m:T_api_Mealy) (c:List Int) (s a p:Nat):Int:=if p<a then ot m s p else if 64≤p∧p-64<a then (c[nx m s (p-64)]?).getD 0 else 0
def sigA (m:T_api_Mealy) (c:List Int) (s:Nat):List Int:=(List.range 128).map (sigV m c s m.Inputs.toNat)
theorem sigA_at (s:Nat) {p:Nat} (hp:p<128):(sigA m c s)[p]?=some (sigV m c s m.Inputs.toNat p):=by
 unfold sigA
 rw [List.getElem?_map,List.getElem?_range hp]
 rfl
theorem sigA_len (s:Nat):(sigA m c s).length=128:=by simp [sigA]
theorem sigV_lo {s a K:Nat} (h:a<K):sigV m c s K a=ot m s a:=if_pos h
theorem sigV_hi {s a K:Nat} (h:a<K) (hK:K≤64):sigV m c s K (64+a)=(c[nx m s a]?).getD 0:=by
 unfold sigV
 have h1:¬ 64+a<K:=by omega
 have h2:64≤64+a∧64+a-64<K:=by omega
 have h3:64+a-64=a:=by omega
 rw [if_neg h1,if_pos h2,h3]
theorem sigA_eq (hI:m.Inputs≤64) {s t:Nat}:sigA m c s=sigA m c t↔∀ a,a<m.Inputs.toNat→ot m s a=ot m t a∧(c[nx m s a]?).getD 0=(c[nx m t a]?).getD 0:=by
 constructor
 ·intro h a ha
  have h1:=sigA_at (m:=m) (c:=c) s (p:=a) (by omega)
  rw [h,sigA_at t (by omega)] at h1
  injection h1 with h1
  rw [sigV_lo ha,sigV_lo ha] at h1
  have h2:=sigA_at (m:=m) (c:=c) s (p:=64+a) (by omega)
  rw [h,sigA_at t (by omega)] at h2
  injection h2 with h2
  rw [sigV_hi ha (by omega),sigV_hi ha (by omega)] at h2
  exact ⟨h1.symm,h2.symm⟩
 ·intro h
  unfold sigA
  refine List.map_congr_left fun p _=>?_
  unfold sigV
  by_cases h1:p<m.Inputs.toNat
  ·rw [if_pos h1,if_pos h1,(h p h1).1]
  ·rw [if_neg h1,if_neg h1]
   by_cases h2:64≤p∧p-64<m.Inputs.toNat
   ·rw [if_pos h2,if_pos h2,(h _ h2.2).2]
   ·rw [if_neg h2,if_neg h2]
theorem sig_loop (H:MacOk m) (hc:c.length=m.Next.length) {s:Nat} (hs:s<m.Next.length):iter (fun (q:List Int×Nat)=>minimize_next.s18 m c s q.1 q.2) fuel (List.replicate 128 0,0)=some (sigA m c s):=by
 have hI:=H.i2
 refine iter_eq (fun q=>q.2≤m.Inputs.toNat∧q.1=(List.range 128).map (sigV m c s q.2)) (fun q=>m.Inputs.toNat-q.2) (fun q hq=>?_) ⟨Nat.zero_le _,?_⟩ (by have:=fuel_big;simp only;omega)
 ·obtain ⟨y,a⟩:=q
  obtain ⟨q1,q2⟩:=hq
  simp only at q1 q2
  rw [q2]
  simp only [minimize_next.s18]
  by_cases g:a<m.Inputs.toNat
  ·left
   obtain ⟨h1,_,_,x,o,e1,e2,e3,e4⟩:=H.at hs g
   have hcx:=get_at (l:=c) (i:=nx m s a) (by omega)
   have hr:∀ p,p<128→((List.range 128).map (sigV m c s a))[p]?=some (sigV m c s a p):=fun p hp=>by
    rw [List.getElem?_map,List.getElem?_range hp]
    rfl
   refine ⟨((List.range 128).map (sigV m c s (a+1)),a+1),?_,⟨g,rfl⟩,by simp only;omega⟩
   rw [decide_eq_true (by omega),cond_true,idxn_at e2,idxn_at e4,chk_pos (by omega),idxn_at (hr a (by omega)),chk_pos (by unfold inR;omega),idxn_at e1,idxn_at e3,idx_at rfl hcx,chk_pos (by omega),idxn_at (x:=sigV m c s a (64+a)) (by rw [List.getElem?_set_ne (by omega),hr _ (by omega)]),chk_pos (by unfold inR;omega)]
   congr 4
   refine List.ext_getElem? fun p=>?_
   rcases Nat.lt_or_ge p 128 with hp | hp
   ·rw [List.getElem?_map (f:=sigV m c s (a+1)),List.getElem?_range hp,Option.map_some]
    by_cases p1:64+a=p
    ·subst p1
     rw [List.getElem?_set_self (by simp;omega)]
     congr 1
     unfold sigV
     rw [if_neg (by omega),if_pos (by omega),show 64+a-64=a by omega,hcx,Option.getD_some]
    ·rw [List.getElem?_set_ne p1]
     by_cases p2:a=p
     ·subst p2
      rw [List.getElem?_set_self (by simp;omega)]
      congr 1
      unfold sigV
      rw [if_pos (by omega)]
     ·rw [List.getElem?_set_ne p2,hr p hp]
      congr 1
      unfold sigV
      by_cases p3:p<a
      ·rw [if_pos p3,if_pos (by omega)]
      ·have p5:¬ p<a+1:=by omega
       rw [if_neg p3,if_neg p5]
       by_cases p4:64≤p∧p-64<a
       ·have p6:64≤p∧p-64<a+1:=by omega
        rw [if_pos p4,if_pos p6]
       ·have p6:¬ (64≤p∧p-64<a+1):=by omega
        rw [if_neg p4,if_neg p6]
   ·rw [List.getElem?_eq_none (by simp;omega),List.getElem?_eq_none (by simp;omega)]
  ·right
   have:a=m.Inputs.toNat:=by omega
   subst this
   rw [decide_eq_false (by omega),cond_false]
   rfl
 ·simp only
  refine List.ext_getElem? fun p=>?_
  rcases Nat.lt_or_ge p 128 with hp | hp
  ·rw [List.getElem?_replicate,if_pos hp,List.getElem?_map,List.getElem?_range hp,Option.map_some]
   unfold sigV
   rw [if_neg (by omega),if_neg (by omega)]
  ·rw [List.getElem?_eq_none (by simp;omega),List.getElem?_eq_none (by simp;omega)]
def FirstOcc (o:List Int):Prop:=∀ (s x:Nat),o[s]?=some (↑x:Int)→∀ u:Nat,u<x→∃ s',s'<s∧o[s']?=some (↑u:Int)
structure ClsF (m:T_api_Mealy) (k:Nat) (c:List Int):Prop where
 cls:ClsOk m k c
 first:FirstOcc c
theorem E_of_next (H:MacOk m):∀ {k s t:Nat},s<m.Next.length→t<m.Next.length→(∀ a,a<m.Inputs.toNat→ot m s a=ot m t a∧E m k (nx m s a) (nx m t a))→E m (k+1) s t
 | 0,_,_,_,_,h=>⟨trivial,h⟩
 | _+1,_,_,hs,ht,h=>⟨E_of_next H hs ht fun a ha=>⟨(h a ha).1,(h a ha).2.1⟩,h⟩
theorem sig_iff (H:MacOk m) {k:Nat} (C:ClsOk m k c) {s t:Nat} (hs:s<m.Next.length) (ht:t<m.Next.length):sigA m c s=sigA m c t↔E m (k+1) s t:=by
 rw [sigA_eq H.i2]
 have hq:∀ a,a<m.Inputs.toNat→((c[nx m s a]?).getD 0=(c[nx m t a]?).getD 0↔E m k (nx m s a) (nx m t a)):=fun a ha=>by
  have h1:=(H.at hs ha).1
  have h2:=(H.at ht ha).1
  rw [← C.cls _ _ h1 h2]
  obtain ⟨x,x1,_⟩:=C.rng _ h1
  obtain ⟨y,y1,_⟩:=C.rng _ h2
  rw [x1,y1,Option.getD_some,Option.getD_some]
  exact ⟨fun h=>by rw [h],fun h=>by injection h⟩
 constructor
 ·exact fun h=>E_of_next H hs ht fun a ha=>⟨(h a ha).1,(hq a ha).1 (h a ha).2⟩
 ·exact fun h a ha=>⟨(h.2 a ha).1,(hq a ha).2 (h.2 a ha).2⟩
structure Giv (m:T_api_Mealy) (c:List Int) (mp:List (List Int×Int)) (o:List Int) (s:Nat):Prop where
 len:o.length=m.Next.length
 keys:∀ p∈mp,p.1.length=128
 le:mp.length≤s
 get:∀ s',s'<s→∃ x:Nat,x<mp.length∧o[s']?=some (↑x:Int)∧mget (sigA m c s') mp=some (↑x:Int)
 org:∀ k v,mget k mp=some v→∃ s',s'<s∧sigA m c s'=k
 inj:∀ s' s'',s'<s→s''<s→o[s']?=o[s'']?→sigA m c s'=sigA m c s''
 first:∀ (s' x:Nat),s'<s→o[s']?=some (↑x:Int)→∀ u:Nat,u<x→∃ s'',s''<s'∧o[s'']?=some (↑u:Int)
 all:∀ u:Nat,u<mp.length→∃ s',s'<s∧o[s']?=some (↑u:Int)
open Classical in
theorem minimize_next_eq (H:MacOk m) {k:Nat} (C:ClsOk m k c):∃ (c':List Int) (n:Nat),minimize_next m c=some (c',(↑n:Int))∧ClsF m (k+1) c'∧n=nreps m (k+1):=by
 have hn:=H.n2
 have hc:=C.len
 unfold minimize_next
 rw [chk_pos ⟨by omega,by omega,by unfold capOk;omega⟩]
 obtain ⟨r,hr,mp,o,rfl,G,hcnt⟩:=iter_post (step:=fun (s:(List (List Int×Int))×List Int×Nat)=>minimize_next.s20 m c s.1 s.2.1 s.2.2) (fun s=>s.2.2≤m.Next.length∧Giv m c s.1 s.2.1 s.2.2∧s.1.length=(List.range s.2.2).countP fun s=>decide (Rep m (k+1) s)) (fun s=>m.Next.length-s.2.2) (fun r=>∃ mp o,r=(mp,o)∧Giv m c mp o m.Next.length∧mp.length=nreps m (k+1)) (fun s ⟨q1,G,q3⟩=>by
  obtain ⟨mp,o,s⟩:=s
  simp only at q1 G q3
  simp only [minimize_next.s20]
  by_cases g:s<m.Next.length
  ·left
   have hlen:=sigA_len (m:=m) (c:=c) s
   have hmle:=G.le
   have ho:=get_at (l:=o) (i:=s) (by rw [G.len];exact g)
   rw [decide_eq_true (by omega),cond_true,sig_loop H hc g,obind,chk_pos hlen,chk_pos ⟨hlen,G.keys⟩]
   have hrep:(mget (sigA m c s) mp=none)↔Rep m (k+1) s:=by
    constructor
    ·intro h t ht hE
     obtain ⟨x,_,_,x3⟩:=G.get t ht
     rw [← (sig_iff H C g (by omega)).2 hE,h] at x3
     cases x3
    ·intro h
     cases e:mget (sigA m c s) mp with
     | none=>rfl
     | some v =>
      obtain ⟨s',h1,h2⟩:=G.org _ _ e
      exact absurd ((sig_iff H C g (by omega)).1 h2.symm) (h s' h1)
   have hcount:(List.range (s+1)).countP (fun s=>decide (Rep m (k+1) s))=(List.range s).countP (fun s=>decide (Rep m (k+1) s))+if Rep m (k+1) s then 1 else 0:=by
    rw [List.range_succ,List.countP_append]
    congr 1
    by_cases h:Rep m (k+1) s
    ·rw [if_pos h,List.countP_singleton,decide_eq_true h]
     rfl
    ·rw [if_neg h,List.countP_singleton,decide_eq_false h]
     rfl
   have setlt:∀ {s':Nat} {v:Int},s'<s→(o.set s v)[s']?=o[s']?:=fun h=>List.getElem?_set_ne (by omega)
   have setat:∀ {v:Int},(o.set s v)[s]?=some v:=List.getElem?_set_self (by rw [G.len];exact g)
   cases e:mget (sigA m c s) mp with
   | none =>
    have hR:=hrep.1 e
    have hms:mset (sigA m c s) (↑mp.length:Int) mp=mp++[(sigA m c s,(↑mp.length:Int))]:=mset_new e
    refine ⟨(mset (sigA m c s) (↑mp.length:Int) mp,o.set s (↑mp.length:Int),s+1),?_,⟨g,?_,?_⟩,by simp only;omega⟩
    ·rw [Option.isSome_none,Bool.not_false,cond_true,chk_pos hlen,chk_pos ⟨hlen,G.keys⟩,obind]
     simp only [minimize_next.k19]
     rw [idxn_at ho]
    ·simp only
     refine ⟨by simp [G.len],?_,by rw [hms];simp;omega,?_,?_,?_,?_,?_⟩
     ·intro p hp
      rw [hms] at hp
      rcases List.mem_append.1 hp with h | h
      ·exact G.keys p h
      ·have:p=(sigA m c s,(↑mp.length:Int)):=by simpa using h
       rw [this]
       exact hlen
     ·intro s' hs'
      by_cases h:s'<s
      ·obtain ⟨x,x1,x2,x3⟩:=G.get s' h
       refine ⟨x,by rw [hms];simp;omega,by rw [setlt h,x2],?_⟩
       rw [mget_mset_ne li_beq (fun q=>?_),x3]
       rw [q,e] at x3
       cases x3
      ·have:s'=s:=by omega
       subst this
       exact ⟨mp.length,by rw [hms];simp,setat,mget_mset_same li_beq mp⟩
     ·intro kk v hv
      by_cases h:kk=sigA m c s
      ·exact ⟨s,by omega,h.symm⟩
      ·rw [mget_mset_ne li_beq h] at hv
       obtain ⟨s',h1,h2⟩:=G.org _ _ hv
       exact ⟨s',by omega,h2⟩
     ·have fresh:∀ s',s'<s→o[s']?≠some (↑mp.length:Int):=fun s' h q=>by
       obtain ⟨x,x1,x2,_⟩:=G.get s' h
       rw [x2] at q
       injection q with q
       omega
      intro s' s'' h1 h2 h3
      by_cases a1:s'<s<;>by_cases a2:s''<s
      ·rw [setlt a1,setlt a2] at h3
       exact G.inj _ _ a1 a2 h3
      ·have:s''=s:=by omega
       subst this
       rw [setlt a1,setat] at h3
       exact absurd h3 (fresh s' a1)
      ·have:s'=s:=by omega
       subst this
       rw [setlt a2,setat] at h3
       exact absurd h3.symm (fresh s'' a2)
      ·have:s'=s'':=by omega
       rw [this]
     ·intro s' x h1 h2 u hu
      by_cases a1:s'<s
      ·rw [setlt a1] at h2
       obtain ⟨s'',z1,z2⟩:=G.first s' x a1 h2 u hu
       exact ⟨s'',z1,by rw [setlt (by omega),z2]⟩
      ·have:s'=s:=by omega
       subst this
       rw [setat] at h2
       injection h2 with h2
       obtain ⟨s'',z1,z2⟩:=G.all u (by omega)
       exact ⟨s'',z1,by rw [setlt z1,z2]⟩
     ·intro u hu
      rw [hms] at hu
      simp at hu
      rcases Nat.lt_or_ge u mp.length with h | h
      ·obtain ⟨s',z1,z2⟩:=G.all u h
       exact ⟨s',by omega,by rw [setlt z1,z2]⟩
      ·have:u=mp.length:=by omega
       subst this
       exact ⟨s,by omega,setat⟩
    ·simp only
     rw [hcount,if_pos hR,hms,← q3]
     simp
   | some v =>
    have hR:¬ Rep m (k+1) s:=fun q=>by
     rw [hrep.2 q] at e
     cases e
    obtain ⟨t,ht,hts⟩:=G.org _ _ e
    obtain ⟨x,x1,x2,x3⟩:=G.get t ht
    have hv:v=(↑x:Int):=by
     rw [hts,e] at x3
     injection x3
    refine ⟨(mp,o.set s v,s+1),?_,⟨g,?_,?_⟩,by simp only;omega⟩
    ·rw [Option.isSome_some,Bool.not_true,cond_false,Option.getD_some,obind]
     simp only [minimize_next.k19]
     rw [idxn_at ho]
    ·simp only
     refine ⟨by simp [G.len],G.keys,by omega,?_,?_,?_,?_,?_⟩
     ·intro s' hs'
      by_cases h:s'<s
      ·obtain ⟨x,y1,y2,y3⟩:=G.get s' h
       exact ⟨x,y1,by rw [setlt h,y2],y3⟩
      ·have:s'=s:=by omega
       subst this
       exact ⟨x,x1,by rw [setat,hv],by rw [e,hv]⟩
     ·intro kk v hv
      obtain ⟨s',h1,h2⟩:=G.org _ _ hv
      exact ⟨s',by omega,h2⟩
     ·intro s' s'' h1 h2 h3
      by_cases a1:s'<s<;>by_cases a2:s''<s
      ·rw [setlt a1,setlt a2] at h3
       exact G.inj _ _ a1 a2 h3
      ·have:s''=s:=by omega
       subst this
       rw [setlt a1,setat,hv,← x2] at h3
       rw [← hts]
       exact G.inj _ _ a1 ht h3
      ·have:s'=s:=by omega
       subst this
       rw [setlt a2,setat,hv,← x2] at h3
       rw [← hts]
       exact G.inj _ _ ht a2 h3
      ·have:s'=s'':=by omega
       rw [this]
     ·intro s' y h1 h2 u hu
      by_cases a1:s'<s
      ·rw [setlt a1] at h2
       obtain ⟨s'',z1,z2⟩:=G.first s' y a1 h2 u hu
       exact ⟨s'',z1,by rw [setlt (by omega),z2]⟩
      ·have:s'=s:=by omega
       subst this
       rw [setat] at h2
       injection h2 with h2
       obtain ⟨s'',z1,z2⟩:=G.first t x ht x2 u (by omega)
       exact ⟨s'',by omega,by rw [setlt (by omega),z2]⟩
     ·intro u hu
      obtain ⟨s',z1,z2⟩:=G.all u hu
      exact ⟨s',by omega,by rw [setlt z1,z2]⟩
    ·simp only
     rw [hcount,if_neg hR,← q3,Nat.add_zero]
  ·right
   have:s=m.Next.length:=by omega
   subst this
   exact ⟨_,by rw [decide_eq_false (by omega),cond_false],mp,o,rfl,G,q3⟩) fuel ([],List.replicate c.length 0,0) ⟨Nat.zero_le _,⟨by simp [hc],fun p hp=>(by cases hp),Nat.le_refl _,fun s' h=>absurd h (Nat.not_lt_zero _),fun k v h=>(by cases h),fun s' _ h=>absurd h (Nat.not_lt_zero _),fun s' _ h=>absurd h (Nat.not_lt_zero _),fun u h=>absurd h (Nat.not_lt_zero _)⟩,rfl⟩ (by have:=fuel_big;simp only;omega)
 refine ⟨o,mp.length,by rw [hr,obind];rfl,⟨⟨G.len,fun s hs=>?_,fun s t hs ht=>?_⟩,fun s x hx=>G.first s x (by rw [← G.len];exact (List.getElem?_eq_some_iff.1 hx).1) hx⟩,hcnt⟩
 ·obtain ⟨x,x1,x2,_⟩:=G.get s hs
  have:=G.le
  exact ⟨x,x2,by omega⟩
 ·rw [← sig_iff H C hs ht]
  constructor
  ·exact G.inj s t hs ht
  ·intro h
   obtain ⟨x,_,x2,x3⟩:=G.get s hs
   obtain ⟨y,_,y2,y3⟩:=G.get t ht
   rw [h,y3] at x3
   rw [x2,y2,x3]
open Classical in
theorem minimize_refine_eq (H:MacOk m):∃ c i,minimize_refine m 128=some (c,i)∧ClsF m m.Next.length c:=by
 have hn:=H.n2
 have hn1:=H.n1
 have hmin:(min (max (128:Int) 0) (↑m.Next.length:Int))=(↑m.Next.length:Int):=by omega
 unfold minimize_refine
 rw [chk_pos ⟨by omega,by omega,by unfold capOk;omega⟩]
 obtain ⟨r,hr,hq⟩:=iter_post (step:=fun (s:List Int×Int×Nat)=>minimize_refine.s2 m 128 s.1 s.2.1 s.2.2) (fun s=>s.2.2≤m.Next.length∧ClsF m s.2.2 s.1∧s.2.1=(↑(nreps m s.2.2):Int)) (fun s=>m.Next.length-s.2.2) (fun r=>(∃ c,r=.inl c∧ClsF m m.Next.length c)∨∃ c i,r=.inr (c,i)∧ClsF m m.Next.length c) (fun s ⟨q1,q2,q3⟩=>by
  obtain ⟨c,n,i⟩:=s
  simp only at q1 q2 q3
  simp only [minimize_refine.s2]
  rw [hmin]
  by_cases g:i<m.Next.length
  ·obtain ⟨c',n',h1,h2,h3⟩:=minimize_next_eq H q2.cls
   rw [decide_eq_true (by omega),cond_true,h1,obind]
   by_cases e:n'=nreps m i
   ·right
    rw [decide_eq_true (by simp only;omega),cond_true]
    refine ⟨_,rfl,Or.inr ⟨c,_,rfl,⟨⟨q2.cls.len,q2.cls.rng,fun s t hs ht=>?_⟩,q2.first⟩⟩⟩
    rw [q2.cls.cls s t hs ht]
    have hS:Stab m i:=stab_of (by omega)
    constructor
    ·intro h
     have key:∀ j,E m (i+j) s t:=by
      intro j
      induction j with
      | zero=>exact h
      | succ j ih=>exact stab_add H hS j s t hs ht ih
     have:=key (m.Next.length-i)
     rwa [show i+(m.Next.length-i)=m.Next.length by omega] at this
    ·exact E_mono (by omega)
   ·left
    exact ⟨(c',(↑n':Int),i+1),by rw [decide_eq_false (by simp only;omega),cond_false],⟨g,h2,by simp only;rw [h3]⟩,by simp only;omega⟩
  ·right
   have:i=m.Next.length:=by omega
   subst this
   exact ⟨_,by rw [decide_eq_false (by omega),cond_false],Or.inl ⟨c,rfl,q2⟩⟩) fuel (List.replicate m.Next.length 0,1,0) ⟨Nat.zero_le _,⟨⟨by simp,fun s hs=>⟨0,by simp [hs],hn1⟩,fun s t hs ht=>⟨fun _=>trivial,fun _=>by simp [hs,ht]⟩⟩,fun s x hx u hu=>by
    have:=(List.getElem?_eq_some_iff.1 hx).2
    simp at this
    omega⟩,by
    simp only
    have:nreps m 0=1:=by
     unfold nreps
     have h0:∀ n,0<n→(List.range n).countP (fun s=>decide (Rep m 0 s))=1:=by
      intro n
      induction n with
      | zero=>intro h;omega
      | succ n ih =>
       intro _
       rw [List.range_succ,List.countP_append,List.countP_singleton]
       by_cases hz:n=0
       ·subst hz
        rw [decide_eq_true (show Rep m 0 0 from fun t ht=>absurd ht (Nat.not_lt_zero _))]
        rfl
       ·rw [ih (by omega),decide_eq_false (show ¬ Rep m 0 n from fun q=>q 0 (by omega) trivial)]
        rfl
     exact h0 _ hn1
    rw [this]
    rfl⟩ (by have:=fuel_big;simp only;omega)
 rw [hr,obind]
 rcases hq with ⟨c,rfl,h⟩ | ⟨c,i,rfl,h⟩
 ·exact ⟨c,_,rfl,h⟩
 ·exact ⟨c,i,rfl,h⟩
theorem minimize_Classes_eq (hv:validM m=0):∃ c,minimize_Classes m=some (c,0)∧ClsF m m.Next.length c:=by
 obtain ⟨c,i,h1,h2⟩:=minimize_refine_eq (valid_ok hv)
 refine ⟨c,?_,h2⟩
 unfold minimize_Classes minimize_Partition
 rw [mealy_Valid_eq,obind,hv,decide_eq_false (by decide),cond_false,h1,obind,obind]
end
end Go.Proofs.YtkfaepfljlphoaaDoor.Sym

/-
 The program's minimal machine. Plain laws.
-/
namespace Go.Proofs.YtkfaepfljlphoaaDoor.Sym
set_option maxRecDepth 100000
section
variable {m t:T_api_Mealy} {c:List Int}
def IsFirst (c:List Int) (s u:Nat):Prop:=c[s]?=some (↑u:Int)∧∀ s',s'<s→c[s']?≠some (↑u:Int)
theorem first_lt (F:FirstOcc c) {s u i v:Nat} (hs:IsFirst c s u) (hi:i<s) (hv:c[i]?=some (↑v:Int)):v<u:=by
 rcases Nat.lt_trichotomy v u with h | h | h
 ·exact h
 ·rw [h] at hv
  exact absurd hv (hs.2 i hi)
 ·obtain ⟨s',h1,h2⟩:=F i v hv u h
  exact absurd h2 (hs.2 s' (by omega))
theorem first_le (F:FirstOcc c) {s u i v:Nat} (hs:IsFirst c s u) (hv:c[i]?=some (↑v:Int)) (hu:u≤v):s≤i:=by
 rcases Nat.lt_or_ge i s with h | h
 ·have:=first_lt F hs h hv
  omega
 ·exact h
structure Quo (t M:T_api_Mealy) (c:List Int):Prop where
 inp:M.Inputs=t.Inputs
 start:M.Start=0
 len:M.Out.length=M.Next.length
 ub:∀ s,s<t.Next.length→∃ x:Nat,c[s]?=some (↑x:Int)∧x<M.Next.length
 row:∀ u,u<M.Next.length→∃ s r o,s<t.Next.length∧IsFirst c s u∧M.Next[u]?=some r∧M.Out[u]?=some o∧r.length=t.Inputs.toNat∧(∀ a,a<t.Inputs.toNat→r[a]?=c[nx t s a]?)∧t.Out[s]?=some o
 le:M.Next.length≤t.Next.length
variable {M:T_api_Mealy}
theorem quo_nx (H:MacOk t) (Q:Quo t M c) {u:Nat} (hu:u<M.Next.length):∃ s,s<t.Next.length∧IsFirst c s u∧∀ a,a<t.Inputs.toNat→c[nx t s a]?=some (↑(nx M u a):Int)∧ot M u a=ot t s a:=by
 obtain ⟨s,r,o,h1,h2,h3,h4,h5,h6,h7⟩:=Q.row u hu
 refine ⟨s,h1,h2,fun a ha=>?_⟩
 obtain ⟨x,x1,_⟩:=Q.ub _ (H.at h1 ha).1
 have hr:=h6 a ha
 rw [x1] at hr
 refine ⟨?_,?_⟩
 ·rw [x1]
  unfold nx
  rw [h3,Option.getD_some,hr,Option.getD_some,Int.toNat_natCast]
 ·unfold ot
  rw [h4,h7]
theorem quo_step (H:MacOk t) (C:ClsF t t.Next.length c) {s s' a:Nat} (hs:s<t.Next.length) (hs':s'<t.Next.length) (h:c[s]?=c[s']?) (ha:a<t.Inputs.toNat):ot t s a=ot t s' a∧c[nx t s a]?=c[nx t s' a]?:=by
 have h1:=E_all H hs hs' ((C.cls.cls s s' hs hs').1 h) (t.Next.length+1)
 exact ⟨(h1.2 a ha).1,(C.cls.cls _ _ (H.at hs ha).1 (H.at hs' ha).1).2 (h1.2 a ha).2⟩
theorem quo_outs (H:MacOk t) (C:ClsF t t.Next.length c) (Q:Quo t M c):∀ (w:List Int) (s u:Nat),s<t.Next.length→c[s]?=some (↑u:Int)→WOk t.Inputs w→outs M u w=outs t s w
 | [],_,_,_,_,_=>rfl
 | z::w,s,u,hs,hu,hw=>by
  have hz:=hw.head
  have ha:z.toNat<t.Inputs.toNat:=by omega
  obtain ⟨x,x1,x2⟩:=Q.ub s hs
  have hux:u<M.Next.length:=by
   rw [hu] at x1
   injection x1 with x1
   omega
  obtain ⟨s',h1,h2,h3⟩:=quo_nx H Q hux
  obtain ⟨e1,e2⟩:=quo_step H C hs h1 (hu.trans h2.1.symm) ha
  have h4:=h3 _ ha
  have:=quo_outs H C Q w (nx t s z.toNat) (nx M u z.toNat) (H.at hs ha).1 (by rw [e2,h4.1]) hw.tail
  show ot M u z.toNat::outs M (nx M u z.toNat) w=ot t s z.toNat::outs t (nx t s z.toNat) w
  rw [this,h4.2,e1]
theorem quo_ok (H:MacOk t) (Q:Quo t M c):MacOk M:=by
 have hn:=H.n1
 have hn2:=H.n2
 obtain ⟨x,_,x2⟩:=Q.ub 0 hn
 have hle:=Q.le
 refine ⟨by rw [Q.inp];exact H.i1,by rw [Q.inp];exact H.i2,by omega,by omega,by rw [Q.start];omega,Q.len,fun u hu=>?_⟩
 have hi1:=H.i1
 obtain ⟨s,r,o,h1,h2,h3,h4,h5,h6,h7⟩:=Q.row u hu
 obtain ⟨x',y',e1,e2,e3,e4,e5,e6⟩:=H.row s h1
 rw [h7] at e2
 injection e2 with e2
 subst e2
 refine ⟨r,o,h3,h4,by rw [Q.inp];omega,by rw [Q.inp];exact e4,fun v hv=>?_,e6⟩
 obtain ⟨a,ha,rfl⟩:=List.mem_iff_getElem.1 hv
 obtain ⟨z,z1,z2⟩:=Q.ub _ (H.at h1 (a:=a) (by omega)).1
 have hr:=h6 a (by omega)
 rw [get_at ha,z1] at hr
 injection hr with hr
 omega
theorem quo_can (H:MacOk t) (C:ClsF t t.Next.length c) (Q:Quo t M c) (K:Can t):Can M:=by
 have hzero:∀ s,IsFirst c s 0→s=0:=fun s hs=>by
  obtain ⟨x,x1,_⟩:=Q.ub 0 H.n1
  have:=first_le C.first hs x1 (Nat.zero_le _)
  omega
 have hpos:∀ s u,IsFirst c s u→0<u→0<s:=fun s u hs hu=>by
  rcases Nat.eq_zero_or_pos s with h | h
  ·subst h
   obtain ⟨s',h1,_⟩:=C.first 0 u hs.1 0 hu
   omega
  ·exact h
 have back:∀ {i a s u:Nat},i<s→i<t.Next.length→a<t.Inputs.toNat→IsFirst c s u→nx t i a=s→∃ v:Nat,c[i]?=some (↑v:Int)∧v<u∧nx M v a=u:=fun {i a s u} h1 h2 h3 h4 h5=>by
  obtain ⟨v,v1,v2⟩:=Q.ub i h2
  refine ⟨v,v1,first_lt C.first h4 h1 v1,?_⟩
  obtain ⟨s',g1,g2,g3⟩:=quo_nx H Q v2
  have e:=(quo_step H C h2 g1 (v1.trans g2.1.symm) h3).2
  have g4:=(g3 a h3).1
  rw [← e,h5,h4.1] at g4
  injection g4 with g4
  omega
 refine ⟨fun i a u hi ha hu hle=>?_,fun u hu hlt=>?_⟩
 ·rw [Q.inp] at ha ⊢
  obtain ⟨s,h1,h2,h3⟩:=quo_nx H Q hi
  have hD:=(h3 a ha).1
  have hn1:=(H.at h1 ha).1
  have huM:u<M.Next.length:=by
   have:=(quo_ok H Q).at hi (a:=a) (by rw [Q.inp];exact ha)
   omega
  obtain ⟨su,g1,g2,g3⟩:=quo_nx H Q huM
  have hsu:=first_le C.first g2 hD hle
  obtain ⟨i',a',z1,z2,z3,z4⟩:=K.c4 s a su h1 ha (hpos su u g2 hu) hsu
  obtain ⟨v,v1,v2,v3⟩:=back z3 (by omega) z1 g2 z4
  refine ⟨v,a',z1,?_,v2,v3⟩
  have hle':i'≤s:=by
   rcases Nat.lt_or_ge s i' with q | q
   ·have:=mem_lt q ha
    omega
   ·exact q
  rcases Nat.lt_or_ge i' s with q | q
  ·have:=first_lt C.first h2 q v1
   have:=mem_lt this z1
   omega
  ·have e:i'=s:=by omega
   subst e
   have hv:=h2.1
   rw [v1] at hv
   injection hv with hv
   have:v=i:=by omega
   subst this
   omega
 ·rw [Q.inp]
  obtain ⟨su,g1,g2,g3⟩:=quo_nx H Q hlt
  obtain ⟨i,a,z1,z2,z3⟩:=K.c5 su (hpos su u g2 hu) g1
  obtain ⟨v,v1,v2,v3⟩:=back z1 (by omega) z2 g2 z3
  exact ⟨v,a,v2,z2,v3⟩
theorem quo_min (H:MacOk t) (C:ClsF t t.Next.length c) (Q:Quo t M c) {i j:Nat} (hi:i<M.Next.length) (hj:j<M.Next.length) (h:Eqv M i M j):i=j:=by
 obtain ⟨s,h1,h2,_⟩:=quo_nx H Q hi
 obtain ⟨s',g1,g2,_⟩:=quo_nx H Q hj
 have he:E t t.Next.length s s':=E_of_outs fun w _ hw=>by
  rw [← quo_outs H C Q w s i h1 h2.1 hw,← quo_outs H C Q w s' j g1 g2.1 hw]
  exact h w (by rw [Q.inp];exact hw)
 have:=(C.cls.cls s s' h1 g1).2 he
 rw [h2.1,g2.1] at this
 injection this with this
 omega
theorem quo_sem {L:List (Nat×List Int)} (T:TrimOk m t L) (C:ClsF t t.Next.length c) (Q:Quo t M c):MinSem m M:=by
 have H:=T.ok
 have hK:0<t.Inputs.toNat:=by have:=H.i1;omega
 have hE:BfsEnd (nx m) t.Inputs.toNat m.Start.toNat L:=by rw [T.inp];exact T.end_
 have hcan:=shape_can hE T.shape hK
 have h0:c[0]?=some (↑(0:Nat):Int):=by
  obtain ⟨x,x1,_⟩:=Q.ub 0 H.n1
  rcases Nat.eq_zero_or_pos x with h | h
  ·rw [x1,h]
  ·obtain ⟨s',h1,_⟩:=C.first 0 x x1 0 h
   omega
 refine ⟨quo_ok H Q,Q.inp.trans T.inp,Q.start,fun w hw=>?_,fun i j hi hj h=>quo_min H C Q hi hj h,quo_can H C Q hcan⟩
 have hw':WOk t.Inputs w:=by rw [← Q.inp];exact hw
 rw [quo_outs H C Q w 0 0 H.n1 h0 hw',trim_outs T w 0 _ T.end_.first (by rw [← T.inp];exact hw')]
theorem min_loop (H:MacOk t) (C:ClsF t t.Next.length c) (e e2:Int):∃ P R,iter (fun (s:List (List Int)×List (List Int)×Nat)=>minimize_Min.s32 (t,e) (c,e2) s.1 s.2.1 s.2.2) fuel ([],[],0)=some (P,R)∧Quo t (⟨t.Inputs,0,P,R⟩:T_api_Mealy) c:=by
 have hn:=H.n2
 have hn1:=H.n1
 have hI:=H.i2
 have hI1:=H.i1
 have hc:=C.cls.len
 obtain ⟨r,hr,P,R,rfl,hQ⟩:=iter_post (step:=fun (s:List (List Int)×List (List Int)×Nat)=>minimize_Min.s32 (t,e) (c,e2) s.1 s.2.1 s.2.2) (fun s=>s.2.2≤t.Next.length∧s.2.1.length=s.1.length∧s.1.length≤s.2.2∧(∀ s',s'<s.2.2→∃ x:Nat,c[s']?=some (↑x:Int)∧x<s.1.length)∧∀ u,u<s.1.length→∃ s' r o,s'<s.2.2∧IsFirst c s' u∧s.1[u]?=some r∧s.2.1[u]?=some o∧r.length=t.Inputs.toNat∧(∀ a,a<t.Inputs.toNat→r[a]?=c[nx t s' a]?)∧t.Out[s']?=some o) (fun s=>t.Next.length-s.2.2) (fun r=>∃ P R,r=(P,R)∧Quo t (⟨t.Inputs,0,P,R⟩:T_api_Mealy) c) (fun s ⟨q1,q2,q3,q4,q5⟩=>by
  obtain ⟨P,R,s⟩:=s
  simp only at q1 q2 q3 q4 q5
  simp only [minimize_Min.s32]
  by_cases g:s<t.Next.length
  ·left
   obtain ⟨x,x1,x2⟩:=C.cls.rng s g
   rw [decide_eq_true (by omega),cond_true,idxn_at x1]
   by_cases hx:x<P.length
   ·refine ⟨(P,R,s+1),?_,⟨g,q2,by simp only;omega,fun s' hs'=>?_,fun u hu=>?_⟩,by simp only;omega⟩
    ·rw [decide_eq_true (by omega),cond_true,obind]
     rfl
    ·simp only at hs' ⊢
     rcases Nat.lt_or_ge s' s with h | h
     ·exact q4 s' h
     ·have:s'=s:=by omega
      subst this
      exact ⟨x,x1,hx⟩
    ·obtain ⟨s',r,o,z1,z2⟩:=q5 u hu
     exact ⟨s',r,o,by simp only;omega,z2⟩
   ·have hxe:x=P.length:=by
     rcases Nat.lt_or_ge P.length x with h | h
     ·obtain ⟨s',h1,h2⟩:=C.first s x x1 P.length h
      obtain ⟨y,y1,y2⟩:=q4 s' h1
      rw [h2] at y1
      injection y1 with y1
      omega
     ·omega
    subst hxe
    obtain ⟨row,out,e1,e2',e3,e4,e5,e6⟩:=H.row s g
    obtain ⟨r,hr,hrl,hra⟩:=iter_post (step:=fun (q:List Int×Nat)=>minimize_Min.s30 (c,e2) row q.1 q.2) (fun q=>q.2≤t.Inputs.toNat∧q.1.length=q.2∧∀ a,a<q.2→q.1[a]?=c[nx t s a]?) (fun q=>t.Inputs.toNat-q.2) (fun r=>r.length=t.Inputs.toNat∧∀ a,a<t.Inputs.toNat→r[a]?=c[nx t s a]?) (fun q ⟨w1,w2,w3⟩=>by
     obtain ⟨y,a⟩:=q
     simp only at w1 w2 w3
     simp only [minimize_Min.s30]
     by_cases f:a<t.Inputs.toNat
     ·left
      obtain ⟨h1,_,_,x',y',h2,_,h4,_⟩:=H.at g f
      rw [e1] at h2
      injection h2 with h2
      subst h2
      have hcx:=get_at (l:=c) (i:=nx t s a) (by omega)
      refine ⟨(y++[c[nx t s a]'(by omega)],a+1),?_,⟨f,by simp [w2],fun b hb=>?_⟩,by simp only;omega⟩
      ·rw [decide_eq_true (by omega),cond_true,idxn_at h4,idx_at rfl hcx,chk_pos (by unfold capOk;omega)]
      ·simp only at hb ⊢
       rcases Nat.lt_or_ge b a with h | h
       ·rw [List.getElem?_append_left (by omega),w3 b h]
       ·have:b=a:=by omega
        subst this
        rw [List.getElem?_append_right (by omega),w2,Nat.sub_self,hcx]
        rfl
     ·right
      have:a=t.Inputs.toNat:=by omega
      subst this
      exact ⟨y,by rw [decide_eq_false (by omega),cond_false],w2,w3⟩) fuel ([],0) ⟨Nat.zero_le _,rfl,fun a h=>absurd h (Nat.not_lt_zero _)⟩ (by have:=fuel_big;simp only;omega)
    refine ⟨(P++[r],R++[out],s+1),?_,⟨g,by simp [q2],by simp;omega,fun s' hs'=>?_,fun u hu=>?_⟩,by simp only;omega⟩
    ·rw [decide_eq_false (by omega),cond_false,idxn_at e1,hr,obind,chk_pos (by unfold capOk;omega),idxn_at e2',chk_pos (by unfold capOk;simp;omega),chk_pos (by unfold capOk;omega),obind]
     rfl
    ·simp only at hs' ⊢
     rw [List.length_append,List.length_singleton]
     rcases Nat.lt_or_ge s' s with h | h
     ·obtain ⟨y,y1,y2⟩:=q4 s' h
      exact ⟨y,y1,by omega⟩
     ·have:s'=s:=by omega
      subst this
      exact ⟨_,x1,by omega⟩
    ·simp only at hu ⊢
     rw [List.length_append,List.length_singleton] at hu
     rcases Nat.lt_or_ge u P.length with h | h
     ·obtain ⟨s',r',o,z1,z2,z3,z4,z5⟩:=q5 u h
      exact ⟨s',r',o,by omega,z2,by rw [List.getElem?_append_left h,z3],by rw [List.getElem?_append_left (by omega),z4],z5⟩
     ·have:u=P.length:=by omega
      subst this
      refine ⟨s,r,out,by omega,⟨x1,fun s' hs' q=>?_⟩,by simp,?_,hrl,hra,e2'⟩
      ·obtain ⟨y,y1,y2⟩:=q4 s' hs'
       rw [q] at y1
       injection y1 with y1
       omega
      ·rw [List.getElem?_append_right (by omega),q2,Nat.sub_self]
       rfl
  ·right
   have:s=t.Next.length:=by omega
   subst this
   exact ⟨_,by rw [decide_eq_false (by omega),cond_false],P,R,rfl,⟨rfl,rfl,q2,q4,q5,q3⟩⟩) fuel ([],[],0) ⟨Nat.zero_le _,rfl,Nat.le_refl _,fun s' h=>absurd h (Nat.not_lt_zero _),fun u h=>absurd h (Nat.not_lt_zero _)⟩ (by have:=fuel_big;simp only;omega)
 exact ⟨P,R,hr,hQ⟩
theorem validM_of (H:MacOk m):validM m=0:=by
 have:=mealy_Valid_ok H
 rw [mealy_Valid_eq] at this
 injection this
theorem minimize_Min_eq (hv:validM m=0):∃ M,minimize_Min m=some (M,0)∧MinSem m M:=by
 obtain ⟨t,L,h1,T⟩:=mealy_Trim_eq hv
 obtain ⟨c,h2,C⟩:=minimize_Classes_eq (validM_of T.ok)
 obtain ⟨P,R,h3,Q⟩:=min_loop T.ok C 0 0
 refine ⟨⟨t.Inputs,0,P,R⟩,?_,quo_sem T C Q⟩
 unfold minimize_Min
 rw [h1,obind,decide_eq_false (fun h=>h rfl),cond_false,h2,obind,decide_eq_false (fun h=>h rfl),cond_false,h3,obind]
 rfl
end
end Go.Proofs.YtkfaepfljlphoaaDoor.Sym

/-
 The document's minimal machine, and that it is the program's. Plain laws.
-/
namespace Go.Proofs.YtkfaepfljlphoaaDoor.Sym
set_option maxRecDepth 100000
section
variable {m:T_api_Mealy} {c:List Int}
def clN (c:List Int) (s:Nat):Nat:=((c[s]?).getD 0).toNat
open Classical in
theorem clN_at (C:ClsOk m m.Next.length c) {s:Nat} (hs:s<m.Next.length):c[s]?=some (↑(clN c s):Int)∧clN c s<m.Next.length:=by
 obtain ⟨x,x1,x2⟩:=C.rng s hs
 unfold clN
 rw [x1,Option.getD_some,Int.toNat_natCast]
 exact ⟨rfl,x2⟩
structure Nums (m:T_api_Mealy) (c:List Int) (ord:List Nat) (num:List Int) (B:List (Nat×List Int)):Prop where
 ol:ord.length=B.length
 oc:∀ (j u:Nat) (x:Nat×List Int),ord[j]?=some u→B[j]?=some x→u<m.Next.length∧clN c u=x.1
 nl:num.length=m.Next.length
 n1:∀ (j:Nat) (x:Nat×List Int),B[j]?=some x→num[x.1]?=some (↑j:Int)
 n2:∀ x:Nat,x<m.Next.length→x∉B.map Prod.fst→num[x]?=some (-1:Int)
theorem Nums.push {ord:List Nat} {num:List Int} {B:List (Nat×List Int)} {u:Nat} {w:List Int} (N:Nums m c ord num B) (C:ClsOk m m.Next.length c) (hu:u<m.Next.length) (hn:clN c u∉B.map Prod.fst) (hB:(B.map Prod.fst).Nodup):Nums m c (ord++[u]) (num.set (clN c u) (↑B.length:Int)) (B++[(clN c u,w)]):=by
 have hcl:=(clN_at C hu).2
 refine ⟨by simp [N.ol],fun j v x hj hx=>?_,by simp [N.nl],fun j x hx=>?_,fun x hx hm=>?_⟩
 ·rcases Nat.lt_or_ge j B.length with h | h
  ·rw [List.getElem?_append_left (by rw [N.ol];exact h)] at hj
   rw [List.getElem?_append_left h] at hx
   exact N.oc j v x hj hx
  ·have hl:=(List.getElem?_eq_some_iff.1 hx).1
   rw [List.length_append,List.length_singleton] at hl
   have:j=B.length:=by omega
   subst this
   rw [List.getElem?_append_right (by rw [N.ol];exact Nat.le_refl _),N.ol,Nat.sub_self] at hj
   rw [List.getElem?_append_right (Nat.le_refl _),Nat.sub_self] at hx
   injection hj with hj
   injection hx with hx
   subst hj
   subst hx
   exact ⟨hu,rfl⟩
 ·rcases Nat.lt_or_ge j B.length with h | h
  ·rw [List.getElem?_append_left h] at hx
   rw [List.getElem?_set_ne (fun q=>hn (by rw [q];exact List.mem_map.2 ⟨x,List.mem_of_getElem? hx,rfl⟩)),N.n1 j x hx]
  ·have hl:=(List.getElem?_eq_some_iff.1 hx).1
   rw [List.length_append,List.length_singleton] at hl
   have:j=B.length:=by omega
   subst this
   rw [List.getElem?_append_right (Nat.le_refl _),Nat.sub_self] at hx
   injection hx with hx
   subst hx
   rw [List.getElem?_set_self (by rw [N.nl];exact hcl)]
 ·rw [List.map_append,List.mem_append,not_or] at hm
  have h1:clN c u≠x:=fun q=>hm.2 (by simp [q])
  rw [List.getElem?_set_ne h1]
  exact N.n2 x hx hm.1
end
end Go.Proofs.YtkfaepfljlphoaaDoor.Sym

/-
 Words that separate states, minimal machines and identifiers: the program's are the document's. Plain laws.
-/
namespace Go.Proofs.YtkfaepfljlphoaaDoor.Sym
set_option maxRecDepth 100000
theorem nodup_all {α:Type} [DecidableEq α] {l l':List α} (h:l.Nodup) (hs:∀ x∈l,x∈l') (hl:l'.length≤l.length):∀ x∈l',x∈l:=fun x hx=>Classical.byContradiction fun hn=>by
 have:=nodup_le (l:=x::l) (l':=l') (List.nodup_cons.2 ⟨hn,h⟩) fun y hy=>by
  rcases List.mem_cons.1 hy with rfl | hy
  ·exact hx
  ·exact hs y hy
 simp only [List.length_cons] at this
 omega
section
variable {m M:T_api_Mealy}
theorem MacOk.two (H:MacOk m):Two m m:=⟨H,H,rfl⟩
open Classical in
noncomputable def sepR (m:T_api_Mealy) (s t:Nat):List Int×Bool:=if h:∃ res,Fst m m (s,t) res then Classical.choose h else ([],false)
noncomputable def sepW (m:T_api_Mealy) (s t:Nat):List Int:=(sepR m s t).1
noncomputable def sepB (m:T_api_Mealy) (s t:Nat):Bool:=(sepR m s t).2
theorem sepR_of {s t:Nat} {res:List Int×Bool} (h:Fst m m (s,t) res):Fst m m (s,t) (sepW m s t,sepB m s t):=by
 have h':∃ res,Fst m m (s,t) res:=⟨res,h⟩
 have:sepR m s t=Classical.choose h':=dif_pos h'
 show Fst m m (s,t) (sepR m s t)
 rw [this]
 exact Classical.choose_spec h'
theorem sep_fst (H:MacOk m) {s t:Nat} (hs:s<m.Next.length) (ht:t<m.Next.length):Fst m m (s,t) (sepW m s t,sepB m s t):=by
 obtain ⟨res,_,h⟩:=equiv_search_eq H.two (p0:=(s,t)) hs ht
 exact sepR_of h
theorem States_prog (hv:validM m=0) {s t:Nat} (hs:s<m.Next.length) (ht:t<m.Next.length):equiv_States m (↑s:Int) (↑t:Int)=some (sepW m s t,sepB m s t,0):=by
 have H:=valid_ok hv
 have hK:0<m.Inputs.toNat:=by have:=H.i1;omega
 obtain ⟨res,h1,h2⟩:=equiv_search_eq H.two (p0:=(s,t)) hs ht
 have:=fst_uniq hK h2 (sepR_of h2)
 unfold equiv_States
 rw [mealy_Valid_eq,obind,hv,decide_eq_false (by decide),cond_false,decide_eq_false (by omega),cond_false,decide_eq_false (by omega),cond_false,decide_eq_false (by omega),cond_false,decide_eq_false (by omega),obind,cond_false,h1,obind,this]
theorem pB_swap (r:Nat) (s t:Nat):pB m m (t,s) r=(pB m m (s,t) r).map fun x=>((x.1.2,x.1.1),x.2):=by
 induction r with
 | zero=>rfl
 | succ r ih =>
  have e1:∀ p0,pB m m p0 (r+1)=match (pB m m p0 r)[r / m.Inputs.toNat]? with
    | none=>pB m m p0 r
    | some x=>if pE m m x.1 (r%m.Inputs.toNat)∈(pB m m p0 r).map Prod.fst then pB m m p0 r else pB m m p0 r++[(pE m m x.1 (r%m.Inputs.toNat),x.2++[(↑(r%m.Inputs.toNat):Int)])]:=fun p0=>by
   unfold pB
   rw [bfsB]
   cases (bfsB (pE m m) m.Inputs.toNat p0 r)[r / m.Inputs.toNat]? with
   | none=>rfl
   | some x =>
    simp only
    by_cases h:pE m m x.1 (r%m.Inputs.toNat)∈(bfsB (pE m m) m.Inputs.toNat p0 r).map Prod.fst
    ·rw [if_pos h,if_pos h]
    ·rw [if_neg h,if_neg h]
  rw [e1,e1,ih,List.getElem?_map]
  cases (pB m m (s,t) r)[r / m.Inputs.toNat]? with
  | none=>rfl
  | some x =>
   simp only [Option.map_some]
   have hm:pE m m (x.1.2,x.1.1) (r%m.Inputs.toNat)∈((pB m m (s,t) r).map fun x=>((x.1.2,x.1.1),x.2)).map Prod.fst↔pE m m x.1 (r%m.Inputs.toNat)∈(pB m m (s,t) r).map Prod.fst:=by
    rw [List.map_map]
    constructor
    ·intro h
     obtain ⟨y,hy,he⟩:=List.mem_map.1 h
     refine List.mem_map.2 ⟨y,hy,?_⟩
     have he:((y.1.2,y.1.1):Nat×Nat)=(nx m x.1.2 (r%m.Inputs.toNat),nx m x.1.1 (r%m.Inputs.toNat)):=he
     injection he with h1 h2
     exact Prod.ext h2 h1
    ·intro h
     obtain ⟨y,hy,he⟩:=List.mem_map.1 h
     refine List.mem_map.2 ⟨y,hy,?_⟩
     have h1:=congrArg Prod.fst he
     have h2:=congrArg Prod.snd he
     exact Prod.ext h2 h1
   by_cases h:pE m m x.1 (r%m.Inputs.toNat)∈(pB m m (s,t) r).map Prod.fst
   ·rw [if_pos (hm.2 h),if_pos h]
   ·rw [if_neg (fun q=>h (hm.1 q)),if_neg h,List.map_append]
    rfl
theorem dif_swap (r:Nat) (s t:Nat):difB m m (t,s) r=difB m m (s,t) r:=by
 unfold difB
 rw [pB_swap,List.getElem?_map]
 cases (pB m m (s,t) r)[r / m.Inputs.toNat]? with
 | none=>rfl
 | some x =>
  show decide (ot m x.1.2 _≠ot m x.1.1 _)=decide (ot m x.1.1 _≠ot m x.1.2 _)
  exact decide_eq_decide.2 ⟨fun h q=>h q.symm,fun h q=>h q.symm⟩
theorem fst_swap {s t:Nat} {res:List Int×Bool} (h:Fst m m (s,t) res):Fst m m (t,s) res:=by
 rcases h with ⟨i,c,x,h1,h2,h3,h4,h5⟩ | ⟨L,h1,h2,h3⟩
 ·exact Or.inl ⟨i,c,((x.1.2,x.1.1),x.2),h1,by rw [pB_swap,List.getElem?_map,h2];rfl,fun q=>h3 q.symm,fun r hr=>by rw [dif_swap];exact h4 r hr,h5⟩
 ·refine Or.inr ⟨L.map fun x=>((x.1.2,x.1.1),x.2),⟨?_⟩,fun r hr=>by rw [dif_swap];exact h2 r (by rwa [List.length_map] at hr),h3⟩
  rw [List.length_map]
  have:=pB_swap (m:=m) (L.length*m.Inputs.toNat) s t
  unfold pB at this
  rw [this,← h1.eq]
theorem sepW_symm (H:MacOk m) {s t:Nat} (hs:s<m.Next.length) (ht:t<m.Next.length):sepW m t s=sepW m s t:=by
 have hK:0<m.Inputs.toNat:=by have:=H.i1;omega
 have:=fst_uniq hK (sep_fst H ht hs) (fst_swap (sep_fst H hs ht))
 injection this
theorem sepW_sm (H:MacOk m) {s t:Nat} (hs:s<m.Next.length) (ht:t<m.Next.length):WOk m.Inputs (sepW m s t)∧(sepW m s t).length≤m.Next.length*m.Next.length*m.Inputs.toNat:=by
 have h:=sep_fst H hs ht
 rcases h with ⟨i,c,x,g1,g2,g3,g4,g5⟩ | ⟨L,_,_,g⟩
 ·injection g5 with g5 _
  have hr:=pB_rng H.two (p0:=(s,t)) hs ht _ x (List.mem_of_getElem? g2)
  have hlen:=pB_len H.two (p0:=(s,t)) hs ht (i*m.Inputs.toNat+c)
  have hi:=(List.getElem?_eq_some_iff.1 g2).1
  have:=mem_lt (show i<m.Next.length*m.Next.length by omega) g1
  refine ⟨?_,?_⟩
  ·rw [g5]
   refine WOk.append hr.2.2.2.2.2 fun z hz=>?_
   have:z=(↑c:Int):=by simpa using hz
   omega
  ·rw [g5]
   simp
   omega
 ·injection g with g _
  rw [g]
  exact ⟨fun a ha=>(by cases ha),Nat.zero_le _⟩
structure MinimalP (m:T_api_Mealy):Prop where
 reach:∀ s,s<m.Next.length→∃ w,WOk m.Inputs w∧dest m m.Start.toNat w=s
 apart:∀ i j,i<m.Next.length→j<m.Next.length→Eqv m i m j→i=j
theorem can_reach (K:Can M) (hK:0<M.Inputs.toNat):∀ u,u<M.Next.length→∃ w,WOk M.Inputs w∧dest M 0 w=u:=by
 intro u
 induction u using Nat.strongRecOn with
 | ind u ih =>
  intro hu
  by_cases hz:u=0
  ·subst hz
   exact ⟨[],fun a ha=>(by cases ha),rfl⟩
  ·obtain ⟨i,a,h1,h2,h3⟩:=K.c5 u (by omega) hu
   obtain ⟨w,w1,w2⟩:=ih i h1 (by omega)
   refine ⟨w++[(↑a:Int)],w1.append fun z hz=>?_,?_⟩
   ·have:z=(↑a:Int):=by simpa using hz
    omega
   ·rw [dest_append,w2]
    show nx M i (Int.toNat ↑a)=u
    rw [Int.toNat_natCast,h3]
theorem sem_minimal (S:MinSem m M):MinimalP M:=⟨fun s hs=>by
 have hK:0<M.Inputs.toNat:=by have:=S.ok.i1;omega
 rw [S.start]
 exact can_reach S.can hK s hs,S.min⟩
theorem sem_le (H:MacOk m) (S:MinSem m M):M.Next.length≤m.Next.length∧(M.Next.length=m.Next.length↔MinimalP m):=by
 have hK:0<M.Inputs.toNat:=by have:=S.ok.i1;omega
 have hst:=H.st
 have hreach:=can_reach S.can hK
 have hf:∀ u,∃ s,u<M.Next.length→s<m.Next.length∧Eqv M u m s∧∃ w,WOk m.Inputs w∧dest m m.Start.toNat w=s:=fun u=>by
  by_cases hu:u<M.Next.length
  ·obtain ⟨w,w1,w2⟩:=hreach u hu
   have hw:WOk m.Inputs w:=by rw [← S.inp];exact w1
   refine ⟨dest m m.Start.toNat w,fun _=>⟨H.dest hw (by omega),?_,w,hw,rfl⟩⟩
   have:=S.eqv.dest S.inp w1
   rwa [w2] at this
  ·exact ⟨0,fun h=>absurd h hu⟩
 obtain ⟨f,hf⟩:=Classical.axiomOfChoice hf
 have hinj:((List.range M.Next.length).map f).Nodup:=by
  refine List.pairwise_map.2 (List.Pairwise.imp_of_mem (fun {a b} ha hb hne he=>hne ?_) (List.nodup_range (n:=M.Next.length)))
  have h1:=hf a (List.mem_range.1 ha)
  have h2:=hf b (List.mem_range.1 hb)
  rw [← he] at h2
  exact S.min a b (List.mem_range.1 ha) (List.mem_range.1 hb) (h1.2.1.trans S.inp (h2.2.1.symm S.inp))
 have hsub:∀ x∈(List.range M.Next.length).map f,x∈List.range m.Next.length:=fun x hx=>by
  obtain ⟨u,hu,rfl⟩:=List.mem_map.1 hx
  exact List.mem_range.2 (hf u (List.mem_range.1 hu)).1
 have hle:=nodup_le hinj hsub
 rw [List.length_map,List.length_range,List.length_range] at hle
 refine ⟨hle,fun he=>⟨fun s hs=>?_,fun i j hi hj hij=>?_⟩,fun P=>?_⟩
 ·have:=nodup_all hinj hsub (by simp [he]) s (List.mem_range.2 hs)
  obtain ⟨u,hu,rfl⟩:=List.mem_map.1 this
  exact (hf u (List.mem_range.1 hu)).2.2
 ·obtain ⟨u,hu,rfl⟩:=List.mem_map.1 (nodup_all hinj hsub (by simp [he]) i (List.mem_range.2 hi))
  obtain ⟨v,hv,rfl⟩:=List.mem_map.1 (nodup_all hinj hsub (by simp [he]) j (List.mem_range.2 hj))
  have h1:=hf u (List.mem_range.1 hu)
  have h2:=hf v (List.mem_range.1 hv)
  have:=S.min u v (List.mem_range.1 hu) (List.mem_range.1 hv) ((h1.2.1.trans S.inp hij).trans S.inp (h2.2.1.symm S.inp))
  rw [this]
 ·have hg:∀ s,∃ u,s<m.Next.length→u<M.Next.length∧Eqv M u m s:=fun s=>by
   by_cases hs:s<m.Next.length
   ·obtain ⟨w,w1,w2⟩:=P.reach s hs
    have hw:WOk M.Inputs w:=by rw [S.inp];exact w1
    refine ⟨dest M 0 w,fun _=>⟨S.ok.dest hw S.ok.n1,?_⟩⟩
    have:=S.eqv.dest S.inp hw
    rwa [w2] at this
   ·exact ⟨0,fun h=>absurd h hs⟩
  obtain ⟨g,hg⟩:=Classical.axiomOfChoice hg
  have ginj:((List.range m.Next.length).map g).Nodup:=by
   refine List.pairwise_map.2 (List.Pairwise.imp_of_mem (fun {a b} ha hb hne he=>hne ?_) (List.nodup_range (n:=m.Next.length)))
   have h1:=hg a (List.mem_range.1 ha)
   have h2:=hg b (List.mem_range.1 hb)
   rw [← he] at h2
   exact P.apart a b (List.mem_range.1 ha) (List.mem_range.1 hb) ((h1.2.symm S.inp).trans S.inp.symm h2.2)
  have:=nodup_le ginj (l':=List.range M.Next.length) fun x hx=>by
   obtain ⟨u,hu,rfl⟩:=List.mem_map.1 hx
   exact List.mem_range.2 (hg u (List.mem_range.1 hu)).1
  rw [List.length_map,List.length_range,List.length_range] at this
  omega
theorem reach_all {L:List (Nat×List Int)} {s0:Nat} (hE:MEnd m s0 L):∀ (w:List Int) (i:Nat) (x:Nat×List Int),L[i]?=some x→WOk m.Inputs w→∃ (j:Nat) (y:Nat×List Int),L[j]?=some y∧y.1=dest m x.1 w
 | [],i,x,hx,_=>⟨i,x,hx,rfl⟩
 | z::w,i,x,hx,hw=>by
  have hz:=hw.head
  obtain ⟨j,y,h1,h2,_⟩:=hE.closed hx (a:=z.toNat) (by omega)
  obtain ⟨k,v,g1,g2⟩:=reach_all hE w j y h1 hw.tail
  exact ⟨k,v,g1,by rw [g2,h2];rfl⟩
theorem minimal_prog (hv:validM m=0):∃ b,minimize_Minimal m=some b∧(b=true↔MinimalP m):=by
 have H:=valid_ok hv
 have hst:=H.st
 obtain ⟨M,h1,S⟩:=minimize_Min_eq hv
 obtain ⟨hle,hiff⟩:=sem_le H S
 obtain ⟨L,hE,hR⟩:=mealy_Reach_eq hv
 obtain ⟨hLn,hLr⟩:=mEnd_rng H (by omega) hE
 refine ⟨decide (M.Next.length=m.Next.length),?_,by rw [decide_eq_true_iff];exact hiff⟩
 unfold minimize_Minimal
 rw [mealy_Valid_eq,obind,hv,decide_eq_false (by decide),cond_false,hR,obind,obind]
 by_cases hl:L.length=m.Next.length
 ·rw [decide_eq_false (by rw [natI_len,List.length_map];omega),cond_false,h1,obind,decide_eq_true rfl,cond_true,obind]
  show some (decide ((↑M.Next.length:Int)=(↑m.Next.length:Int)))=_
  congr 1
  exact decide_eq_decide.2 (by omega)
 ·rw [decide_eq_true (by rw [natI_len,List.length_map];omega),cond_true,decide_eq_false]
  intro he
  have P:=hiff.1 he
  have:=nodup_le (l:=List.range m.Next.length) (l':=L.map Prod.fst) List.nodup_range fun s hs=>by
   obtain ⟨w,w1,w2⟩:=P.reach s (List.mem_range.1 hs)
   obtain ⟨j,y,g1,g2⟩:=reach_all hE w 0 _ hE.first w1
   exact List.mem_map.2 ⟨y,List.mem_of_getElem? g1,by rw [g2];exact w2⟩
  rw [List.length_range,List.length_map] at this
  omega
open Classical in
noncomputable def chkM (m:T_api_Mealy):Int:=if validM m≠0 then validM m else if MinimalP m then 0 else 1
open Classical in
theorem check_prog (m:T_api_Mealy):separate_check m=some (chkM m):=by
 unfold chkM separate_check
 rw [mealy_Valid_eq,obind]
 by_cases hv:validM m=0
 ·obtain ⟨b,h1,h3⟩:=minimal_prog hv
  rw [decide_eq_false (by omega),cond_false,h1,obind,if_neg (fun h=>h hv)]
  cases b with
  | true=>rw [if_pos (h3.1 rfl)];rfl
  | false=>rw [if_neg (fun q=>by have:=h3.2 q;cases this)];rfl
 ·rw [decide_eq_true hv,cond_true,if_pos hv]
open Classical in
noncomputable def idL (m:T_api_Mealy) (u k:Nat):List (List Int):=((List.range k).filter fun v=>decide (v≠u)).map (sepW m u)
theorem idL_succ {u k:Nat} (h:k≠u):idL m u (k+1)=idL m u k++[sepW m u k]:=by
 unfold idL
 rw [List.range_succ,List.filter_append,List.map_append]
 simp [h]
theorem idL_self (u:Nat):idL m u (u+1)=idL m u u:=by
 unfold idL
 rw [List.range_succ,List.filter_append,List.map_append]
 simp
theorem idL_len (u k:Nat):(idL m u k).length≤k:=by
 unfold idL
 rw [List.length_map]
 have:=List.length_filter_le (fun v=>decide (v≠u)) (List.range k)
 rwa [List.length_range] at this
theorem idL_mem {u k:Nat} {w:List Int} (h:w∈idL m u k):∃ v,v<k∧v≠u∧w=sepW m u v:=by
 obtain ⟨v,hv,rfl⟩:=List.mem_map.1 h
 obtain ⟨h1,h2⟩:=List.mem_filter.1 hv
 exact ⟨v,List.mem_range.1 h1,of_decide_eq_true h2,rfl⟩
theorem idL_sm (H:MacOk m) {u k:Nat} (hu:u<m.Next.length) (hk:k≤m.Next.length):SmL (idL m u k):=by
 have hn:=H.n2
 have hI:=H.i2
 refine ⟨by have:=idL_len (m:=m) u k;omega,fun w hw=>?_⟩
 obtain ⟨v,h1,_,rfl⟩:=idL_mem hw
 have h:=(sepW_sm H hu (t:=v) (by omega)).2
 have h1:m.Next.length*m.Next.length≤128*128:=Nat.mul_le_mul hn hn
 have h2:m.Next.length*m.Next.length*m.Inputs.toNat≤128*128*64:=Nat.mul_le_mul h1 (by omega)
 unfold SmW
 omega
noncomputable def idsM (m:T_api_Mealy):List (List (List Int)):=(List.range m.Next.length).map fun s=>sortW (idL m s m.Next.length)
def kU (n s t u:Nat):Nat:=if u<s then n else if u=s then t else if u<t then s+1 else s
theorem ids_row (hv:validM m=0) {s:Nat} (hs:s<m.Next.length) {S:List (List (List Int))} (hl:S.length=m.Next.length) (hS:∀ u,u<m.Next.length→S[u]?=some (idL m u (kU m.Next.length s (s+1) u))) :
  ∃ S',iter (fun (q:List (List (List Int))×Nat)=>separate_Identifiers.s13 m s q.1 q.2) fuel (S,s+1)=some (.inl S')∧S'.length=m.Next.length∧∀ u,u<m.Next.length→S'[u]?=some (idL m u (kU m.Next.length s m.Next.length u)):=by
 have H:=valid_ok hv
 have hn:=H.n2
 obtain ⟨r,hr,S',rfl,h1,h2⟩:=iter_post (step:=fun (q:List (List (List Int))×Nat)=>separate_Identifiers.s13 m s q.1 q.2) (fun q=>s<q.2∧q.2≤m.Next.length∧q.1.length=m.Next.length∧∀ u,u<m.Next.length→q.1[u]?=some (idL m u (kU m.Next.length s q.2 u))) (fun q=>m.Next.length-q.2) (fun r=>∃ S',r=.inl S'∧S'.length=m.Next.length∧∀ u,u<m.Next.length→S'[u]?=some (idL m u (kU m.Next.length s m.Next.length u))) (fun q ⟨q1,q2,q3,q4⟩=>by
  obtain ⟨S,t⟩:=q
  simp only at q1 q2 q3 q4
  simp only [separate_Identifiers.s13]
  by_cases g:t<m.Next.length
  ·left
   have e1:=q4 s hs
   have e2:=q4 t g
   have k1:kU m.Next.length s t s=t:=by unfold kU;rw [if_neg (by omega),if_pos rfl]
   have k2:kU m.Next.length s t t=s:=by unfold kU;rw [if_neg (by omega),if_neg (by omega),if_neg (by omega)]
   rw [k1] at e1
   rw [k2] at e2
   have l1:=idL_len (m:=m) s t
   have l2:=idL_len (m:=m) t s
   have e3:(S.set s (idL m s t++[sepW m s t]))[t]?=some (idL m t s):=by rw [List.getElem?_set_ne (by omega),e2]
   refine ⟨((S.set s (idL m s t++[sepW m s t])).set t (idL m t s++[sepW m s t]),t+1),?_,⟨by simp only;omega,g,by simp [q3],fun u hu=>?_⟩,by simp only;omega⟩
   ·rw [decide_eq_true (by omega),cond_true,States_prog hv hs g,obind,decide_eq_false (fun h=>h rfl),cond_false,idxn_at e1,chk_pos (by unfold capOk;omega),idxn_at e1]
    simp only
    rw [idxn_at e3,chk_pos (by unfold capOk;omega),idxn_at e3]
   ·simp only
    by_cases a1:t=u
    ·subst a1
     rw [List.getElem?_set_self (by simp [q3];omega)]
     have:kU m.Next.length s (t+1) t=s+1:=by unfold kU;rw [if_neg (by omega),if_neg (by omega),if_pos (by omega)]
     rw [this,idL_succ (by omega),sepW_symm H hs g]
    ·rw [List.getElem?_set_ne a1]
     by_cases a2:s=u
     ·subst a2
      rw [List.getElem?_set_self (by omega)]
      have:kU m.Next.length s (t+1) s=t+1:=by unfold kU;rw [if_neg (by omega),if_pos rfl]
      rw [this,idL_succ (by omega)]
     ·rw [List.getElem?_set_ne a2,q4 u hu]
      have:kU m.Next.length s (t+1) u=kU m.Next.length s t u:=by
       unfold kU
       by_cases b1:u<s
       ·rw [if_pos b1,if_pos b1]
       ·have b4:¬ u=s:=by omega
        rw [if_neg b1,if_neg b1,if_neg b4,if_neg b4]
        by_cases b2:u<t
        ·have b5:u<t+1:=by omega
         rw [if_pos b2,if_pos b5]
        ·have b5:¬ u<t+1:=by omega
         rw [if_neg b2,if_neg b5]
      rw [this]
  ·right
   have:t=m.Next.length:=by omega
   subst this
   exact ⟨_,by rw [decide_eq_false (by omega),cond_false],S,rfl,q3,q4⟩) fuel (S,s+1) ⟨by simp only;omega,hs,hl,hS⟩ (by have:=fuel_big;simp only;omega)
 exact ⟨S',hr,h1,h2⟩
theorem separate_ids (hv:validM m=0) (P:MinimalP m):separate_Identifiers m=some (idsM m,0):=by
 have H:=valid_ok hv
 have hn:=H.n2
 have hn1:=H.n1
 have hc:chkM m=0:=by
  unfold chkM
  rw [if_neg (fun h=>h hv),if_pos P]
 unfold separate_Identifiers
 rw [check_prog m,obind,hc,decide_eq_false (by decide),cond_false,chk_pos ⟨by omega,by omega,by unfold capOk;omega⟩]
 obtain ⟨r,hr,S,rfl,h1,h2⟩:=iter_post (step:=fun (q:List (List (List Int))×Nat)=>separate_Identifiers.s14 m q.1 q.2) (fun q=>q.2≤m.Next.length∧q.1.length=m.Next.length∧∀ u,u<m.Next.length→q.1[u]?=some (idL m u (kU m.Next.length q.2 (q.2+1) u))) (fun q=>m.Next.length-q.2) (fun r=>∃ S,r=.inl S∧S.length=m.Next.length∧∀ u,u<m.Next.length→S[u]?=some (idL m u m.Next.length)) (fun q ⟨q1,q3,q4⟩=>by
  obtain ⟨S,s⟩:=q
  simp only at q1 q3 q4
  simp only [separate_Identifiers.s14]
  by_cases g:s<m.Next.length
  ·left
   obtain ⟨S',z1,z2,z3⟩:=ids_row hv g q3 q4
   refine ⟨(S',s+1),by rw [decide_eq_true (by omega),cond_true,z1,obind];rfl,⟨g,z2,fun u hu=>?_⟩,by simp only;omega⟩
   simp only
   rw [z3 u hu]
   by_cases b1:u<s
   ·rw [show kU m.Next.length s m.Next.length u=m.Next.length by unfold kU;rw [if_pos b1],show kU m.Next.length (s+1) (s+1+1) u=m.Next.length by unfold kU;rw [if_pos (by omega)]]
   ·by_cases b2:u=s
    ·rw [show kU m.Next.length s m.Next.length u=m.Next.length by unfold kU;rw [if_neg b1,if_pos b2],show kU m.Next.length (s+1) (s+1+1) u=m.Next.length by unfold kU;rw [if_pos (by omega)]]
    ·rw [show kU m.Next.length s m.Next.length u=s+1 by unfold kU;rw [if_neg b1,if_neg b2,if_pos hu]]
     by_cases b3:u=s+1
     ·rw [show kU m.Next.length (s+1) (s+1+1) u=s+1+1 by unfold kU;rw [if_neg (by omega),if_pos b3],b3,idL_self]
     ·rw [show kU m.Next.length (s+1) (s+1+1) u=s+1 by unfold kU;rw [if_neg (by omega),if_neg b3,if_neg (by omega)]]
  ·right
   have:s=m.Next.length:=by omega
   subst this
   refine ⟨_,by rw [decide_eq_false (by omega),cond_false],S,rfl,q3,fun u hu=>?_⟩
   rw [q4 u hu]
   rw [show kU m.Next.length m.Next.length (m.Next.length+1) u=m.Next.length by unfold kU;rw [if_pos hu]]) fuel (List.replicate m.Next.length [],0) ⟨Nat.zero_le _,by simp,fun u hu=>by
    simp only
    rw [List.getElem?_replicate,if_pos hu]
    congr 1
    by_cases b:u=0
    ·subst b
     show []=idL m 0 1
     rw [idL_self]
     rfl
    ·rw [show kU m.Next.length 0 (0+1) u=0 by unfold kU;rw [if_neg (by omega),if_neg b,if_neg (by omega)]]
     rfl⟩ (by have:=fuel_big;simp only;omega)
 rw [hr,obind]
 show (chk _ _:Option _)=_
 rw [chk_pos ⟨by omega,by omega,by unfold capOk;omega⟩]
 have last:=iter_eq (step:=fun (q:List (List (List Int))×Nat)=>separate_Identifiers.s16 S q.1 q.2) (r:=idsM m) (fun q=>q.2≤m.Next.length∧q.1=(List.range q.2).map fun s=>sortW (idL m s m.Next.length)) (fun q=>m.Next.length-q.2) (fun q ⟨q1,q2⟩=>by
   obtain ⟨y,s⟩:=q
   simp only at q1 q2
   subst q2
   simp only [separate_Identifiers.s16]
   by_cases g:s<m.Next.length
   ·left
    refine ⟨((List.range (s+1)).map fun s=>sortW (idL m s m.Next.length),s+1),?_,⟨g,rfl⟩,by simp only;omega⟩
    rw [decide_eq_true (by omega),cond_true,idxn_at (h2 s g),wordset_Sorted_eq (idL_sm H g (Nat.le_refl _)),obind,chk_pos (by unfold capOk;simp;omega),List.range_succ,List.map_append]
    rfl
   ·right
    have:s=m.Next.length:=by omega
    subst this
    rw [decide_eq_false (by omega),cond_false]
    rfl) (n:=fuel) (s:=([],0)) ⟨Nat.zero_le _,rfl⟩ (by have:=fuel_big;simp only;omega)
 rw [last,obind]
end
end Go.Proofs.YtkfaepfljlphoaaDoor.Sym

/-
 The examples of the chapter on harmonized suites, reckoned.
-/
namespace Go.Proofs.YtkfaepfljlphoaaDoor.Sym
set_option maxRecDepth 100000
theorem awake30_true:L30_exampleHolds=some true:=by decide +kernel
end Go.Proofs.YtkfaepfljlphoaaDoor.Sym

/-
 Suites with harmonized identifiers: the program's is the document's. Plain laws.
-/
namespace Go.Proofs.YtkfaepfljlphoaaDoor.Sym
set_option maxRecDepth 100000
def uptoL (i n:Int):List (List Int):=((wordset_Upto i n).getD ([],0)).1
theorem upto_allP:∀ i∈[1,2,3,4],∀ n∈[1,2,3],wordset_Upto i n=some (uptoL i n,0)∧((uptoL i n).all fun w=>decide (w.length≤3)&&w.all fun a=>decide (0≤a∧a<i))=true∧(uptoL i n).length≤85:=by decide +kernel
theorem upto_eq {i n:Int} (h1:1≤i) (h2:i≤4) (h3:1≤n) (h4:n≤3):wordset_Upto i n=some (uptoL i n,0)∧(∀ w∈uptoL i n,WOk i w∧w.length≤3)∧(uptoL i n).length≤85:=by
 obtain ⟨a,c,d⟩:=upto_allP i (by simp;omega) n (by simp;omega)
 refine ⟨a,fun w hw=>?_,d⟩
 have:=List.all_eq_true.1 c w hw
 rw [Bool.and_eq_true] at this
 exact ⟨fun x hx=>of_decide_eq_true (List.all_eq_true.1 this.2 x hx),of_decide_eq_true this.1⟩
theorem flat_le {α β:Type} {f:α→List β} {k:Nat}:∀ {l:List α},(∀ x∈l,(f x).length≤k)→(l.flatMap f).length≤l.length*k
 | [],_=>by simp
 | x::l,h=>by
  have h1:=h x (by simp)
  have h2:=flat_le (l:=l) fun y hy=>h y (List.mem_cons_of_mem _ hy)
  rw [List.flatMap_cons,List.length_append,List.length_cons,Nat.succ_mul]
  omega
theorem app_loop {α β R:Type} {step:List β×Nat→Option ((List β×Nat)⊕R)} {l:List α} {f:α→List β} {fin:List β→R} {acc:List β} (h1:∀ y i x,l[i]?=some x→y=acc++(l.take i).flatMap f→step (y,i)=some (.inl (y++f x,i+1)))
  (h2:step (acc++l.flatMap f,l.length)=some (.inr (fin (acc++l.flatMap f)))) (hl:l.length≤100000000000):iter step fuel (acc,0)=some (fin (acc++l.flatMap f)):=by
 refine iter_eq (fun s=>s.2≤l.length∧s.1=acc++(l.take s.2).flatMap f) (fun s=>l.length-s.2) (fun s hs=>?_) ⟨Nat.zero_le _,by simp⟩ (by have:=fuel_big;simp only;omega)
 obtain ⟨y,i⟩:=s
 obtain ⟨q1,q2⟩:=hs
 simp only at q1 q2
 by_cases g:i<l.length
 ·left
  have hx:=get_at g
  refine ⟨(y++f l[i],i+1),h1 y i _ hx q2,⟨g,?_⟩,by simp only;omega⟩
  simp only
  rw [q2,take_step hx,List.flatMap_append]
  simp
 ·right
  have:i=l.length:=by omega
  subst this
  rw [List.take_length] at q2
  rw [q2,h2]
section
variable {m M:T_api_Mealy} {ids:List (List (List Int))} {front middle:List (List Int)}
def mostL (ids:List (List (List Int))):Nat:=ids.foldl (fun n l=>max n l.length) 1
theorem most_step (l:List (List (List Int))) (x:List (List Int)):mostL (l++[x])=max (mostL l) x.length:=by
 unfold mostL
 rw [List.foldl_append]
 rfl
theorem most_pos:∀ (l:List (List (List Int))) (n:Nat),n≤l.foldl (fun n l=>max n l.length) n
 | [],_=>Nat.le_refl _
 | x::l,n=>Nat.le_trans (Nat.le_max_left _ _) (most_pos l (max n x.length))
theorem most_mem:∀ {l:List (List (List Int))} {x:List (List Int)} {n:Nat},x∈l→x.length≤l.foldl (fun n l=>max n l.length) n
 | y::l,x,n,h=>by
  rcases List.mem_cons.1 h with rfl | h
  ·exact Nat.le_trans (Nat.le_max_right _ _) (most_pos l _)
  ·exact most_mem (n:=max n y.length) h
theorem most_le {k:Nat}:∀ {l:List (List (List Int))} {n:Nat},n≤k→(∀ x∈l,x.length≤k)→l.foldl (fun n l=>max n l.length) n≤k
 | [],_,h,_=>h
 | x::l,n,h,g=>most_le (l:=l) (n:=max n x.length) (Nat.max_le.2 ⟨h,g x (by simp)⟩) fun y hy=>g y (List.mem_cons_of_mem _ hy)
theorem hsuite_most_eq (hl:ids.length≤1000):hsuite_most ids=some (↑(mostL ids):Int):=by
 unfold hsuite_most
 have key:=iter_eq (step:=fun (s:Int×Nat)=>hsuite_most.s2 ids s.1 s.2) (r:=(↑(mostL ids):Int)) (fun s=>s.2≤ids.length∧s.1=(↑(mostL (ids.take s.2)):Int)) (fun s=>ids.length-s.2) (fun s ⟨q1,q2⟩=>by
  obtain ⟨n,i⟩:=s
  simp only at q1 q2
  subst q2
  simp only [hsuite_most.s2]
  by_cases g:i<ids.length
  ·left
   have hx:=get_at g
   refine ⟨((↑(mostL (ids.take (i+1))):Int),i+1),?_,⟨g,rfl⟩,by simp only;omega⟩
   rw [decide_eq_true (by omega),cond_true,idxn_at hx,take_step hx,most_step]
   congr 4
   omega
  ·right
   have:i=ids.length:=by omega
   subst this
   rw [decide_eq_false (by omega),cond_false,List.take_length]) (n:=fuel) (s:=(1,0)) ⟨Nat.zero_le _,rfl⟩ (by have:=fuel_big;simp only;omega)
 rw [key,obind]
structure Parts (M:T_api_Mealy) (front middle:List (List Int)) (ids:List (List (List Int))):Prop where
 ok:validM M=0
 il:ids.length=M.Next.length
 is_:∀ l∈ids,l.length≤200∧∀ x∈l,x.length≤600
 f1:front.length≤200
 f2:∀ u∈front,WOk M.Inputs u∧u.length≤200
 m1:middle.length≤200
 m2:∀ v∈middle,WOk M.Inputs v∧v.length≤200
theorem check_of {w:List Int} (H:MacOk M) (h:WOk M.Inputs w) (hl:w.length≤1024):checkI w M.Inputs=0:=by
 have:=H.i1
 have:=H.i2
 unfold checkI
 rw [if_pos (by omega),if_neg (by omega),if_pos]
 exact List.all_eq_true.2 fun a ha=>by
  have:=h a ha
  simp
  omega
def rowS (M:T_api_Mealy) (ids:List (List (List Int))) (u v:List Int):List (List Int):=(tailsM M ids (u++v)).map fun x=>u++v++x
def allS (M:T_api_Mealy) (front middle:List (List Int)) (ids:List (List (List Int))):List (List Int):=front.flatMap fun u=>middle.flatMap fun v=>rowS M ids u v
theorem tails_mem (P:Parts M front middle ids) (w:List Int):(tailsM M ids w).length≤mostL ids∧∀ x∈tailsM M ids w,x.length≤600:=by
 unfold tailsM
 split
 ·exact ⟨by simp;exact most_pos ids 1,fun x hx=>by
   have:x=[]:=by simpa using hx
   rw [this]
   simp⟩
 ·cases e:ids[dest M M.Start.toNat w]? with
  | none=>exact ⟨Nat.zero_le _,fun x hx=>by cases hx⟩
  | some l =>
   have hm:=List.mem_of_getElem? e
   exact ⟨most_mem hm,(P.is_ l hm).2⟩
theorem most_200 (P:Parts M front middle ids):mostL ids≤200:=most_le (by omega) fun l hl=>(P.is_ l hl).1
theorem rowS_le (P:Parts M front middle ids) (u v:List Int):(rowS M ids u v).length≤mostL ids:=by
 unfold rowS
 rw [List.length_map]
 exact (tails_mem P _).1
theorem mid_le (P:Parts M front middle ids) (u:List Int) (l:List (List Int)):(l.flatMap fun v=>rowS M ids u v).length≤l.length*mostL ids:=flat_le fun v _=>rowS_le P u v
theorem made_prog (P:Parts M front middle ids):iter (fun (s:List (List Int)×Nat)=>hsuite_Suite.s14 (M,0) (front,0) (middle,0) (ids,0) s.1 s.2) fuel ([],0)=some (.inl (allS M front middle ids)):=by
 have H:=valid_ok P.ok
 have hms:=most_200 P
 have inner:∀ (u:List Int) (acc:List (List Int)),u∈front→acc.length≤10000000→iter (fun (s:List (List Int)×Nat)=>hsuite_Suite.s13 (M,0) (middle,0) (ids,0) u s.1 s.2) fuel (acc,0)=some (.inl (acc++middle.flatMap fun v=>rowS M ids u v)):=by
  intro u acc hu hacc
  have hfu:=P.f2 u hu
  refine app_loop (l:=middle) (f:=fun v=>rowS M ids u v) (fin:=fun y=>Sum.inl y) (fun y i v hv hy=>?_) ?_ (by have:=P.m1;omega)
  ·have hi:=(List.getElem?_eq_some_iff.1 hv).1
   have hmv:=P.m2 v (List.mem_of_getElem? hv)
   have hc:checkI (u++v) M.Inputs=0:=check_of H (hfu.1.append hmv.1) (by rw [List.length_append];omega)
   have ht:=tails_mem P (u++v)
   have hyl:y.length≤10000000+200*200:=by
    rw [hy,List.length_append]
    have h1:=mid_le P u (middle.take i)
    have h2:(middle.take i).length*mostL ids≤200*200:=Nat.mul_le_mul (by rw [List.length_take];have:=P.m1;omega) hms
    omega
   have hrl:=rowS_le P u v
   simp only [hsuite_Suite.s13]
   rw [decide_eq_true (by omega),cond_true,idxn_at hv,word_Join_eq [u,v] (by simp) (by simp;omega),obind,show [u,v].flatten=u++v by simp,hsuite_Tails_eq ⟨by rw [P.il];have:=H.n2;omega,fun l hl=>⟨by have:=(P.is_ l hl).1;omega,fun x hx=>by have:=(P.is_ l hl).2 x hx;omega⟩⟩ (by unfold SmW;rw [List.length_append];omega),obind]
   have hE:tailsE M ids (u++v)=(tailsM M ids (u++v),0):=by
    unfold tailsE
    rw [if_neg (fun h=>h P.ok),if_neg (fun h=>h hc),if_neg (fun h=>h P.il)]
   rw [hE,decide_eq_false (fun h=>h rfl),cond_false]
   simp only
   rw [behind_eq (by rw [List.length_append];omega) (by omega) (fun x hx=>by have:=ht.2 x hx;omega),obind,chk_pos (by unfold capOk;rw [List.length_map];omega)]
   rfl
  ·simp only [hsuite_Suite.s13]
   rw [decide_eq_false (by omega),cond_false]
 refine app_loop (l:=front) (fin:=fun y=>Sum.inl y) (acc:=[]) (f:=fun u=>middle.flatMap fun v=>rowS M ids u v) (fun y i u hu hy=>?_) ?_ (by have:=P.f1;omega)
 ·have hi:=(List.getElem?_eq_some_iff.1 hu).1
  have hyl:y.length≤10000000:=by
   rw [hy,List.nil_append]
   have h1:(((front.take i).flatMap fun u=>middle.flatMap fun v=>rowS M ids u v)).length≤(front.take i).length*(200*200):=flat_le fun u _=>Nat.le_trans (mid_le P u middle) (Nat.mul_le_mul P.m1 hms)
   have h2:(front.take i).length*(200*200)≤200*(200*200):=Nat.mul_le_mul (by rw [List.length_take];have:=P.f1;omega) (Nat.le_refl _)
   omega
  simp only [hsuite_Suite.s14]
  rw [decide_eq_true (by omega),cond_true,idxn_at hu,inner u y (List.mem_of_getElem? hu) hyl,obind]
  rfl
 ·simp only [hsuite_Suite.s14]
  rw [decide_eq_false (by omega),cond_false]
theorem allS_sm (P:Parts M front middle ids) (hl:front.length*middle.length*mostL ids≤10000):SmL (allS M front middle ids):=by
 refine ⟨?_,fun w hw=>?_⟩
 ·have h1:(allS M front middle ids).length≤front.length*(middle.length*mostL ids):=flat_le fun u _=>mid_le P u middle
  rw [← Nat.mul_assoc] at h1
  omega
 ·obtain ⟨u,hu,hw⟩:=List.mem_flatMap.1 hw
  obtain ⟨v,hv,hw⟩:=List.mem_flatMap.1 hw
  obtain ⟨x,hx,rfl⟩:=List.mem_map.1 hw
  have h1:=(P.f2 u hu).2
  have h2:=(P.m2 v hv).2
  have h3:=(tails_mem P (u++v)).2 x hx
  unfold SmW
  simp
  omega
def suiteH (M:T_api_Mealy) (front middle:List (List Int)) (ids:List (List (List Int))):List (List Int)×Int :=
 if 10000<front.length*middle.length*mostL ids then ([],11) else (maxR (allS M front middle ids),0)
theorem parts_of (hsm:smallM m=true) (hv:validM m=0) {extra:Int} (h1:0≤extra) (h2:extra≤2):∃ M L,minimize_Min m=some (M,0)∧MinSem m M∧validM M=0∧MEnd M 0 L∧cover_StateCover M=some (L.map Prod.snd,0)∧MinimalP M∧M.Next.length≤8∧M.Inputs≤4∧M.Inputs=m.Inputs∧Parts M (L.map Prod.snd) (uptoL M.Inputs (extra+1)) (idsM M):=by
 have H:=valid_ok hv
 obtain ⟨_,hs8,hs4⟩:=smallM_of hsm
 obtain ⟨M,e1,S⟩:=minimize_Min_eq hv
 have hM:=validM_of S.ok
 have P:=sem_minimal S
 obtain ⟨hle,_⟩:=sem_le H S
 obtain ⟨L,hE,c1⟩:=cover_Access_eq hM
 have hst:M.Start.toNat=0:=by rw [S.start];rfl
 rw [hst] at hE
 have hi:=S.inp
 have hi1:=S.ok.i1
 obtain ⟨_,u3,u4⟩:=upto_eq (i:=M.Inputs) (n:=extra+1) (by omega) (by omega) (by omega) (by omega)
 have hLn:=mEnd_rng S.ok S.ok.n1 hE
 have hnn:M.Next.length*M.Next.length≤8*8:=Nat.mul_le_mul (by omega) (by omega)
 have hnk:M.Next.length*M.Next.length*M.Inputs.toNat≤8*8*4:=Nat.mul_le_mul hnn (by omega)
 refine ⟨M,L,e1,S,hM,hE,by unfold cover_StateCover;rw [c1,obind],P,by omega,by omega,hi,⟨hM,by simp [idsM],fun l hl=>?_,by rw [List.length_map];omega,fun u hu=>?_,by omega,fun v hv=>⟨(u3 v hv).1,by have:=(u3 v hv).2;omega⟩⟩⟩
 ·obtain ⟨s,hs,rfl⟩:=List.mem_map.1 hl
  have hs:=List.mem_range.1 hs
  refine ⟨?_,fun x hx=>?_⟩
  ·have h1:=sortW_length (idL M s M.Next.length)
   have h2:=idL_len (m:=M) s M.Next.length
   omega
  ·obtain ⟨v,v1,_,rfl⟩:=idL_mem ((mem_sortW _ _).1 hx)
   have:=(sepW_sm S.ok hs v1).2
   omega
 ·obtain ⟨x,hx,rfl⟩:=List.mem_map.1 hu
  refine ⟨(hLn.2 x hx).2.2,?_⟩
  have hx2:=hx
  rw [hE.eq] at hx2
  have h1:=(mB_rng S.ok S.ok.n1 _ x hx2).2.1
  have h2:L.length*M.Inputs.toNat≤8*4:=Nat.mul_le_mul (by omega) (by omega)
  omega
theorem suite_prog (hsm:smallM m=true) (hv:validM m=0) {extra:Int} (h1:0≤extra) (h2:extra≤2):∃ M L,minimize_Min m=some (M,0)∧MinSem m M∧validM M=0∧MEnd M 0 L∧MinimalP M∧M.Next.length≤8∧M.Inputs≤4∧M.Inputs=m.Inputs∧Parts M (L.map Prod.snd) (uptoL M.Inputs (extra+1)) (idsM M)∧hsuite_Suite m extra=some (suiteH M (L.map Prod.snd) (uptoL M.Inputs (extra+1)) (idsM M)):=by
 obtain ⟨M,L,e1,S,hM,hE,c1,PM,hn8,hi4,hi,P⟩:=parts_of hsm hv h1 h2
 have hi1:=S.ok.i1
 obtain ⟨u1,_,_⟩:=upto_eq (i:=M.Inputs) (n:=extra+1) (by omega) (by omega) (by omega) (by omega)
 have hms:=most_200 P
 have b1:(L.map Prod.snd).length*(uptoL M.Inputs (extra+1)).length≤200*200:=Nat.mul_le_mul P.f1 P.m1
 have b2:(L.map Prod.snd).length*(uptoL M.Inputs (extra+1)).length*mostL (idsM M)≤200*200*200:=Nat.mul_le_mul b1 hms
 refine ⟨M,L,e1,S,hM,hE,PM,hn8,hi4,hi,P,?_⟩
 unfold hsuite_Suite
 rw [mealy_Valid_eq,obind,decide_eq_false (by omega),cond_false,decide_eq_false (by omega),cond_false,decide_eq_false (by omega),obind,cond_false,e1,obind,decide_eq_false (fun h=>h rfl),cond_false]
 simp only
 rw [c1,obind,decide_eq_false (fun h=>h rfl),cond_false,chk_pos (by unfold inR;omega),u1,obind,decide_eq_false (fun h=>h rfl),cond_false,separate_ids hM PM,obind,decide_eq_false (fun h=>h rfl),cond_false]
 simp only
 rw [← Int.natCast_mul,chk_pos (by unfold inR;omega),hsuite_most_eq (by rw [P.il];omega),obind,← Int.natCast_mul,chk_pos (by unfold inR;omega)]
 unfold suiteH
 by_cases h:10000<(L.map Prod.snd).length*(uptoL M.Inputs (extra+1)).length*mostL (idsM M)
 ·rw [decide_eq_true (by omega),cond_true,if_pos h]
 ·rw [decide_eq_false (by omega),cond_false,if_neg h,made_prog P,obind]
  show (wordset_Maximal _).bind _=_
  rw [wordset_Maximal_eq (allS_sm P (by omega)),obind]
end
end Go.Proofs.YtkfaepfljlphoaaDoor.Sym

/-
 Suites with identifiers are complete: an implementation with few states that passes is equivalent. Plain laws.
-/
namespace Go.Proofs.YtkfaepfljlphoaaDoor.Sym
set_option maxRecDepth 100000
section
variable {M I:T_api_Mealy} {sM sI k:Nat} {U:List (List Int)} {T:Nat→List (List Int)}
structure Pass (M I:T_api_Mealy) (sM sI k:Nat) (U:List (List Int)) (T:Nat→List (List Int)):Prop where
 two:Two M I
 hM:sM<M.Next.length
 hI:sI<I.Next.length
 nil:[]∈U
 ok:∀ u∈U,WOk M.Inputs u
 cov:∀ s,s<M.Next.length→∃ u∈U,dest M sM u=s
 tne:∀ s,s<M.Next.length→∃ x,x∈T s
 tok:∀ s,∀ x∈T s,WOk M.Inputs x
 sep:∀ s s',s<M.Next.length→s'<M.Next.length→s≠s'→∃ x,x∈T s∧x∈T s'∧outs M s x≠outs M s' x
 pass:∀ u∈U,∀ v,WOk M.Inputs v→v.length≤k+1→∀ x∈T (dest M sM (u++v)),outs M sM (u++v++x)=outs I sI (u++v++x)
 few:∀ l:List Nat,l.Nodup→(∀ q∈l,∃ w,WOk M.Inputs w∧dest I sI w=q)→l.length≤M.Next.length+k
theorem outs_split {a b:T_api_Mealy} {s t:Nat} {w v:List Int} (h:outs a s (w++v)=outs b t (w++v)):outs a s w=outs b t w∧outs a (dest a s w) v=outs b (dest b t w) v:=by
 rw [outs_append,outs_append] at h
 exact List.append_inj h (by rw [outs_len,outs_len])
variable (P:Pass M I sM sI k U T)
include P
theorem Pass.at_ {u v:List Int} (hu:u∈U) (hv:WOk M.Inputs v) (hl:v.length≤k+1):outs M sM (u++v)=outs I sI (u++v)∧∀ x∈T (dest M sM (u++v)),outs M (dest M sM (u++v)) x=outs I (dest I sI (u++v)) x:=by
 have hd:dest M sM (u++v)<M.Next.length:=P.two.a1.dest ((P.ok u hu).append hv) P.hM
 obtain ⟨x,hx⟩:=P.tne _ hd
 exact ⟨(outs_split (P.pass u hu v hv hl x hx)).1,fun x hx=>(outs_split (P.pass u hu v hv hl x hx)).2⟩
theorem Pass.uniq {u v u' v':List Int} (hu:u∈U) (hv:WOk M.Inputs v) (hl:v.length≤k+1) (hu':u'∈U) (hv':WOk M.Inputs v') (hl':v'.length≤k+1) (h:dest I sI (u++v)=dest I sI (u'++v')):dest M sM (u++v)=dest M sM (u'++v'):=Classical.byContradiction fun hne=>by
 obtain ⟨x,x1,x2,x3⟩:=P.sep _ _ (P.two.a1.dest ((P.ok u hu).append hv) P.hM) (P.two.a1.dest ((P.ok u' hu').append hv') P.hM) hne
 have h1:=(P.at_ hu hv hl).2 x x1
 have h2:=(P.at_ hu' hv' hl').2 x x2
 rw [h] at h1
 exact x3 (h1.trans h2.symm)
omit P
def Vj (I:T_api_Mealy) (sI:Nat) (U:List (List Int)) (K:Int) (j q:Nat):Prop:=∃ u∈U,∃ v,WOk K v∧v.length≤j∧q=dest I sI (u++v)
def Closed (I:T_api_Mealy) (sI:Nat) (U:List (List Int)) (K:Int) (j:Nat):Prop:=∀ q,Vj I sI U K j q→∀ a,a<K.toNat→Vj I sI U K j (nx I q a)
theorem dest_snoc {m:T_api_Mealy} {s a:Nat} {w:List Int}:dest m s (w++[(↑a:Int)])=nx m (dest m s w) a:=by
 rw [dest_append]
 show nx m _ (Int.toNat ↑a)=_
 rw [Int.toNat_natCast]
theorem wok_snoc {K:Int} {w:List Int} {a:Nat} (h:WOk K w) (ha:a<K.toNat):WOk K (w++[(↑a:Int)]):=h.append fun z hz=>by
 have:z=(↑a:Int):=by simpa using hz
 omega
include P
theorem Pass.grow:∀ j,j≤k+1→Closed I sI U M.Inputs j∨∃ l:List Nat,l.Nodup∧(∀ q∈l,Vj I sI U M.Inputs j q)∧M.Next.length+j≤l.length
 | 0,_=>by
  right
  have hc:∀ s,∃ u,s<M.Next.length→u∈U∧dest M sM u=s:=fun s=>by
   by_cases hs:s<M.Next.length
   ·obtain ⟨u,h1,h2⟩:=P.cov s hs
    exact ⟨u,fun _=>⟨h1,h2⟩⟩
   ·exact ⟨[],fun h=>absurd h hs⟩
  obtain ⟨f,hf⟩:=Classical.axiomOfChoice hc
  have hnil:WOk M.Inputs []:=fun a ha=>(by cases ha)
  refine ⟨(List.range M.Next.length).map fun s=>dest I sI (f s),?_,fun q hq=>?_,by simp⟩
  ·refine List.pairwise_map.2 (List.Pairwise.imp_of_mem (fun {a b} ha hb hne he=>hne ?_) (List.nodup_range (n:=M.Next.length)))
   have h1:=hf a (List.mem_range.1 ha)
   have h2:=hf b (List.mem_range.1 hb)
   have:=P.uniq (v:=[]) (v':=[]) h1.1 hnil (by simp) h2.1 hnil (by simp) (by rw [List.append_nil,List.append_nil];exact he)
   rwa [List.append_nil,List.append_nil,h1.2,h2.2] at this
  ·obtain ⟨s,hs,rfl⟩:=List.mem_map.1 hq
   exact ⟨f s,(hf s (List.mem_range.1 hs)).1,[],hnil,Nat.le_refl _,by rw [List.append_nil]⟩
 | j+1,hj=>by
  by_cases hcl:Closed I sI U M.Inputs j
  ·left
   have hsub:∀ (v:List Int) (u:List Int),u∈U→WOk M.Inputs v→∀ q,Vj I sI U M.Inputs j q→Vj I sI U M.Inputs j (dest I q v):=by
    intro v
    induction v with
    | nil=>intro _ _ _ q hq;exact hq
    | cons z v ih =>
     intro u hu hv q hq
     have hz:=hv.head
     exact ih u hu hv.tail _ (hcl q hq z.toNat (by omega))
   have hall:∀ q,Vj I sI U M.Inputs (j+1) q→Vj I sI U M.Inputs j q:=fun q ⟨u,hu,v,hv,_,he⟩=>by
    rw [he,dest_append]
    exact hsub v u hu hv _ ⟨u,hu,[],fun a ha=>(by cases ha),Nat.zero_le _,by rw [List.append_nil]⟩
   have hup:∀ q,Vj I sI U M.Inputs j q→Vj I sI U M.Inputs (j+1) q:=fun q ⟨u,hu,v,hv,hl,he⟩=>⟨u,hu,v,hv,by omega,he⟩
   exact fun q hq a ha=>hup _ (hcl q (hall q hq) a ha)
  ·right
   rcases Pass.grow j (by omega) with h | ⟨l,l1,l2,l3⟩
   ·exact absurd h hcl
   ·obtain ⟨q,hq⟩:=Classical.not_forall.1 hcl
    obtain ⟨hq,hq2⟩:=Classical.not_imp.1 hq
    obtain ⟨a,ha⟩:=Classical.not_forall.1 hq2
    obtain ⟨ha,hn⟩:=Classical.not_imp.1 ha
    refine ⟨nx I q a::l,List.nodup_cons.2 ⟨fun h=>hn (l2 _ h),l1⟩,fun x hx=>?_,by rw [List.length_cons];omega⟩
    rcases List.mem_cons.1 hx with rfl | hx
    ·obtain ⟨u,hu,v,hv,hl,he⟩:=hq
     exact ⟨u,hu,v++[(↑a:Int)],wok_snoc hv ha,by simp;omega,by rw [← List.append_assoc,dest_snoc,← he]⟩
    ·obtain ⟨u,hu,v,hv,hl,he⟩:=l2 x hx
     exact ⟨u,hu,v,hv,by omega,he⟩
theorem Pass.closed:Closed I sI U M.Inputs k:=Classical.byContradiction fun hcl=>by
 rcases P.grow k (by omega) with h | ⟨l,l1,l2,l3⟩
 ·exact hcl h
 ·obtain ⟨q,hq⟩:=Classical.not_forall.1 hcl
  obtain ⟨hq,hq2⟩:=Classical.not_imp.1 hq
  obtain ⟨a,ha⟩:=Classical.not_forall.1 hq2
  obtain ⟨ha,hn⟩:=Classical.not_imp.1 ha
  have hreach:∀ x,Vj I sI U M.Inputs k x→∃ w,WOk M.Inputs w∧dest I sI w=x:=fun x ⟨u,hu,v,hv,_,he⟩=>⟨u++v,(P.ok u hu).append hv,he.symm⟩
  have:=P.few (nx I q a::l) (List.nodup_cons.2 ⟨fun h=>hn (l2 _ h),l1⟩) fun x hx=>by
   rcases List.mem_cons.1 hx with rfl | hx
   ·obtain ⟨w,w1,w2⟩:=hreach q hq
    exact ⟨w++[(↑a:Int)],wok_snoc w1 ha,by rw [dest_snoc,w2]⟩
   ·exact hreach x (l2 x hx)
  rw [List.length_cons] at this
  omega
end
end Go.Proofs.YtkfaepfljlphoaaDoor.Sym

/-
 Passing a suite, and equality of machines: the program's. Plain laws.
-/
namespace Go.Proofs.YtkfaepfljlphoaaDoor.Sym
set_option maxRecDepth 100000
section
variable {m b M:T_api_Mealy}
theorem max_above {l:List (List Int)} {N:Nat} (hN:∀ w∈l,w.length≤N):∀ (k:Nat) (w:List Int),w∈l→N-w.length≤k→∃ y∈maxR l,w <+: y:=by
 intro k
 induction k with
 | zero =>
  intro w hw hk
  refine ⟨w,(mem_maxR_iff l w).2 ⟨hw,fun y hy=>?_⟩,List.prefix_refl _⟩
  by_cases h:w <+: y
  ·have:=h.length_le
   have:=hN y hy
   exact Or.inl (h.eq_of_length (by omega)).symm
  ·exact Or.inr h
 | succ k ih =>
  intro w hw hk
  by_cases h:∃ y∈l,y≠w∧w <+: y
  ·obtain ⟨y,h1,h2,h3⟩:=h
   have hl:=h3.length_le
   have hne:w.length≠y.length:=fun q=>h2 (h3.eq_of_length q).symm
   obtain ⟨z,z1,z2⟩:=ih y h1 (by omega)
   exact ⟨z,z1,h3.trans z2⟩
  ·refine ⟨w,(mem_maxR_iff l w).2 ⟨hw,fun y hy=>?_⟩,List.prefix_refl _⟩
   by_cases g:y=w
   ·exact Or.inl g
   ·exact Or.inr fun q=>h ⟨y,hy,g,q⟩
def allW (i:Nat):Nat→List (List Int)
 | 0=>[[]]
 | k+1=>(List.range i).flatMap fun (a:Nat)=>(allW i k).map fun (w:List Int)=>Int.ofNat a::w
theorem mem_allW {i:Int}:∀ {w:List Int},WOk i w→w∈allW i.toNat w.length
 | [],_=>by simp [allW]
 | z::w,h=>by
  have hz:=h.head
  refine List.mem_flatMap.2 ⟨z.toNat,List.mem_range.2 (by omega),List.mem_map.2 ⟨w,mem_allW h.tail,?_⟩⟩
  have e:Int.ofNat z.toNat=z:=Int.toNat_of_nonneg hz.1
  rw [e]
theorem upto_allW:∀ i∈[1,2,3,4],∀ n∈[1,2,3],∀ k∈List.range (n+1),((allW i k).all fun w=>decide (w∈uptoL (↑i:Int) (↑n:Int)))=true:=by decide +kernel
theorem upto_has {i n:Int} (h1:1≤i) (h2:i≤4) (h3:1≤n) (h4:n≤3) {w:List Int} (hw:WOk i w) (hl:(↑w.length:Int)≤n):w∈uptoL i n:=by
 have:=upto_allW i.toNat (by simp;omega) n.toNat (by simp;omega) w.length (List.mem_range.2 (by omega))
 have:=List.all_eq_true.1 this w (mem_allW hw)
 rw [Int.toNat_of_nonneg (by omega),Int.toNat_of_nonneg (by omega)] at this
 exact of_decide_eq_true this
end
end Go.Proofs.YtkfaepfljlphoaaDoor.Sym

/-
 The law of HsuiteComplete. Plain law.
-/
namespace Go.Proofs.YtkfaepfljlphoaaDoor.Sym
set_option maxRecDepth 100000
section
variable {m b M:T_api_Mealy}
noncomputable def tlS (M:T_api_Mealy) (s:Nat):List (List Int):=if (((idsM M)[s]?).getD []).length=0 then [[]] else ((idsM M)[s]?).getD []
theorem tlS_eq (w:List Int):tailsM M (idsM M) w=tlS M (dest M M.Start.toNat w):=rfl
theorem ids_at {s:Nat} (hs:s<M.Next.length):(idsM M)[s]?=some (sortW (idL M s M.Next.length)):=by
 unfold idsM
 rw [List.getElem?_map,List.getElem?_range hs]
 rfl
theorem tlS_mem {s:Nat} {x:List Int} (hx:x∈tlS M s):x=[]∨∃ v,s<M.Next.length∧v<M.Next.length∧x=sepW M s v:=by
 unfold tlS at hx
 split at hx
 ·exact Or.inl (by simpa using hx)
 ·by_cases hs:s<M.Next.length
  ·rw [ids_at hs,Option.getD_some] at hx
   obtain ⟨v,v1,_,rfl⟩:=idL_mem ((mem_sortW _ _).1 hx)
   exact Or.inr ⟨v,hs,v1,rfl⟩
  ·rw [List.getElem?_eq_none (by simp [idsM];omega)] at hx
   cases hx
theorem tlS_ne (s:Nat):∃ x,x∈tlS M s:=by
 unfold tlS
 split
 ·exact ⟨[],by simp⟩
 ·rename_i h
  cases e:((idsM M)[s]?).getD [] with
  | nil=>rw [e] at h;exact absurd rfl h
  | cons x l=>exact ⟨x,by simp⟩
theorem suite_words {front middle:List (List Int)} (P:Parts M front middle (idsM M)):∀ w∈allS M front middle (idsM M),checkI w M.Inputs=0:=fun w hw=>by
 have H:=valid_ok P.ok
 obtain ⟨u,hu,hw⟩:=List.mem_flatMap.1 hw
 obtain ⟨v,hv,hw⟩:=List.mem_flatMap.1 hw
 obtain ⟨x,hx,rfl⟩:=List.mem_map.1 hw
 have h1:=P.f2 u hu
 have h2:=P.m2 v hv
 have h3:=(tails_mem P (u++v)).2 x hx
 have h4:WOk M.Inputs x:=by
  rw [tlS_eq] at hx
  rcases tlS_mem hx with rfl | ⟨v,v1,v2,rfl⟩
  ·exact fun a ha=>(by cases ha)
  ·exact (sepW_sm H v1 v2).1
 exact check_of H ((h1.1.append h2.1).append h4) (by simp;omega)
end
end Go.Proofs.YtkfaepfljlphoaaDoor.Sym

/-
 Concatenations: the program's Product. Plain laws.
-/
namespace Go.Proofs.YtkfaepfljlphoaaDoor.Sym
set_option maxRecDepth 100000
theorem wordset_longest_eq (l:List (List Int)) (hl:SmL l):wordset_longest l=some (↑(longestL l):Int):=by
 have hl1:l.length≤2000000:=hl.1
 unfold wordset_longest longestL
 rw [(iter_fold (step:=fun (s:Int×Nat)=>wordset_longest.s2 l s.1 s.2) (l:=l) (fun n _ w=>max n (↑w.length:Int)) (fun n=>n) (fun _ _=>True) (fun a i x _ hx=>by
   simp only [wordset_longest.s2]
   rw [dec_lt hx,cond_true,idxn_at hx]
   exact ⟨rfl,trivial⟩) (fun a _=>by
   simp only [wordset_longest.s2]
   rw [dec_end]
   rfl) (by omega) trivial).1,foldi_eq]
 show some (l.foldl (fun (n:Int) w=>max n (↑w.length:Int)) (↑(0:Nat):Int))=_
 rw [longest_fold]
theorem wordset_key_eq {w:List Int} (h:w.length≤100000) (h2:∀ a∈w,inR a):wordset_key w=some ⟨(keyL w).toArray⟩:=by
 unfold wordset_key
 rw [chk_pos h2,chk_pos (by omega)]
theorem key_ne {w x:List Int} (h:w≠x):¬ ((⟨(keyL w).toArray⟩:ByteArray)=⟨(keyL x).toArray⟩):=fun e=>h (keyL_inj (by
 injection e with e
 injection e))
structure Known (mp:List (ByteArray×Bool)) (out:List (List Int)):Prop where
 nd:out.Nodup
 le:out.length≤10000
 get:∀ w:List Int,(mget (⟨(keyL w).toArray⟩:ByteArray) mp).getD false=decide (w∈out)
theorem Known.push {mp:List (ByteArray×Bool)} {out:List (List Int)} {x:List Int} (N:Known mp out) (hx:x∉out) (hl:out.length<10000):Known (mset ⟨(keyL x).toArray⟩ true mp) (out++[x]):=by
 refine ⟨?_,by simp;omega,fun w=>?_⟩
 ·rw [List.nodup_append]
  exact ⟨N.nd,by simp,fun a ha b hb e=>hx (by
   have:b=x:=by simpa using hb
   rw [← this,← e]
   exact ha)⟩
 ·by_cases h:w=x
  ·subst h
   rw [mget_mset_same ba_beq,decide_eq_true (by simp)]
   rfl
  ·rw [mget_mset_ne ba_beq (key_ne h),N.get w]
   exact decide_eq_decide.2 ⟨fun q=>List.mem_append_left _ q,fun q=>(List.mem_append.1 q).elim id fun q=>absurd (by simpa using q) h⟩
section
variable {p q:List (List Int)}
theorem prod_row (hq:q.length≤10000) {u:List Int} (hu:∀ v∈q,u.length+v.length≤1024∧∀ a∈u++v,inR a) {mp:List (ByteArray×Bool)} {out:List (List Int)} (N:Known mp out) :
  ∃ r,iter (fun (s:(List (ByteArray×Bool))×List (List Int)×Nat)=>wordset_Product.s54 q u s.1 s.2.1 s.2.2) fuel (mp,out,0)=some r∧(r=.inr (.inr (.inr ([],11)))∨∃ mp' out',r=.inl (mp',out')∧Known mp' out'∧∀ x,x∈out'↔x∈out∨∃ v∈q,x=u++v):=by
 obtain ⟨r,hr,hp⟩:=iter_post (step:=fun (s:(List (ByteArray×Bool))×List (List Int)×Nat)=>wordset_Product.s54 q u s.1 s.2.1 s.2.2) (fun s=>s.2.2≤q.length∧Known s.1 s.2.1∧∀ x,x∈s.2.1↔x∈out∨∃ v∈q.take s.2.2,x=u++v) (fun s=>q.length-s.2.2) (fun r=>r=.inr (.inr (.inr ([],11)))∨∃ mp' out',r=.inl (mp',out')∧Known mp' out'∧∀ x,x∈out'↔x∈out∨∃ v∈q,x=u++v) (fun s ⟨q1,N,q3⟩=>by
  obtain ⟨mp,o,j⟩:=s
  simp only at q1 N q3
  simp only [wordset_Product.s54]
  by_cases g:j<q.length
  ·have hv:=get_at g
   have hvm:=List.getElem_mem g
   generalize q[j]=v at hv hvm
   obtain ⟨hl,hR⟩:=hu v hvm
   have hj:word_Join [u,v]=some (u++v):=by
    rw [word_Join_eq [u,v] (by simp) (by simp;omega)]
    simp
   have hstep:∀ x,(∃ w∈q.take (j+1),x=u++w)↔(∃ w∈q.take j,x=u++w)∨x=u++v:=fun x=>by
    rw [take_step hv]
    constructor
    ·rintro ⟨w,hw,he⟩
     rcases List.mem_append.1 hw with h | h
     ·exact Or.inl ⟨w,h,he⟩
     ·have:w=v:=by simpa using h
      rw [this] at he
      exact Or.inr he
    ·rintro (⟨w,hw,he⟩ | he)
     ·exact ⟨w,List.mem_append_left _ hw,he⟩
     ·exact ⟨v,List.mem_append_right _ (by simp),he⟩
   rw [decide_eq_true (by omega),cond_true,idxn_at hv,hj,obind,wordset_key_eq (by rw [List.length_append];omega) hR,obind,N.get]
   by_cases hm:u++v∈o
   ·left
    refine ⟨(mp,o,j+1),?_,⟨g,N,fun x=>?_⟩,by simp only;omega⟩
    ·rw [decide_eq_true hm,cond_true,obind]
     rfl
    ·simp only
     rw [hstep,q3 x]
     constructor
     ·rintro (h | h)
      ·exact Or.inl h
      ·exact Or.inr (Or.inl h)
     ·rintro (h | h | h)
      ·exact Or.inl h
      ·exact Or.inr h
      ·rw [h]
       exact (q3 _).1 hm
   ·rw [decide_eq_false hm,cond_false]
    by_cases hf:o.length=10000
    ·right
     exact ⟨_,by rw [decide_eq_true (by omega),cond_true,obind];rfl,Or.inl rfl⟩
    ·left
     have hle:=N.le
     refine ⟨(mset ⟨(keyL (u++v)).toArray⟩ true mp,o++[u++v],j+1),?_,⟨g,N.push hm (by omega),fun x=>?_⟩,by simp only;omega⟩
     ·rw [decide_eq_false (by omega),cond_false,chk_pos (by unfold capOk;omega),obind]
      rfl
     ·simp only
      rw [hstep,List.mem_append,q3 x]
      constructor
      ·rintro ((h | h) | h)
       ·exact Or.inl h
       ·exact Or.inr (Or.inl h)
       ·exact Or.inr (Or.inr (by simpa using h))
      ·rintro (h | h | h)
       ·exact Or.inl (Or.inl h)
       ·exact Or.inl (Or.inr h)
       ·exact Or.inr (by simp [h])
  ·right
   have:j=q.length:=by omega
   subst this
   rw [List.take_length] at q3
   exact ⟨_,by rw [decide_eq_false (by omega),cond_false],Or.inr ⟨mp,o,rfl,N,q3⟩⟩) fuel (mp,out,0) ⟨Nat.zero_le _,N,fun x=>by simp⟩ (by have:=fuel_big;simp only;omega)
 exact ⟨r,hr,hp⟩
theorem prod_all (hp:p.length≤10000) (hq:q.length≤10000) (hu:∀ u∈p,∀ v∈q,u.length+v.length≤1024∧∀ a∈u++v,inR a) :
  ∃ r,iter (fun (s:(List (ByteArray×Bool))×List (List Int)×Nat)=>wordset_Product.s56 p q s.1 s.2.1 s.2.2) fuel (([]:List (ByteArray×Bool)),[],0)=some r∧(r=.inr ([],11)∨∃ out,r=.inl out∧out.Nodup∧out.length≤10000∧∀ x,x∈out↔∃ u∈p,∃ v∈q,x=u++v):=by
 obtain ⟨r,hr,hz⟩:=iter_post (step:=fun (s:(List (ByteArray×Bool))×List (List Int)×Nat)=>wordset_Product.s56 p q s.1 s.2.1 s.2.2) (fun s=>s.2.2≤p.length∧Known s.1 s.2.1∧∀ x,x∈s.2.1↔∃ u∈p.take s.2.2,∃ v∈q,x=u++v) (fun s=>p.length-s.2.2) (fun r=>r=.inr ([],11)∨∃ out,r=.inl out∧out.Nodup∧out.length≤10000∧∀ x,x∈out↔∃ u∈p,∃ v∈q,x=u++v) (fun s ⟨q1,N,q3⟩=>by
  obtain ⟨mp,o,i⟩:=s
  simp only at q1 N q3
  simp only [wordset_Product.s56]
  by_cases g:i<p.length
  ·have hx:=get_at g
   have hxm:=List.getElem_mem g
   generalize p[i]=u at hx hxm
   obtain ⟨r,h1,h2⟩:=prod_row hq (hu u hxm) N
   rw [decide_eq_true (by omega),cond_true,idxn_at hx,h1,obind]
   rcases h2 with rfl | ⟨mp',o',rfl,N',h3⟩
   ·right
    exact ⟨_,rfl,Or.inl rfl⟩
   ·left
    refine ⟨(mp',o',i+1),rfl,⟨g,N',fun x=>?_⟩,by simp only;omega⟩
    simp only
    rw [h3,q3 x,take_step hx]
    constructor
    ·rintro (⟨w,hw,h⟩ | h)
     ·exact ⟨w,List.mem_append_left _ hw,h⟩
     ·exact ⟨u,List.mem_append_right _ (by simp),h⟩
    ·rintro ⟨w,hw,h⟩
     rcases List.mem_append.1 hw with k | k
     ·exact Or.inl ⟨w,k,h⟩
     ·have:w=u:=by simpa using k
      rw [this] at h
      exact Or.inr h
  ·right
   have:i=p.length:=by omega
   subst this
   rw [List.take_length] at q3
   exact ⟨_,by rw [decide_eq_false (by omega),cond_false],Or.inr ⟨o,rfl,N.nd,N.le,q3⟩⟩) fuel ([],[],0) ⟨Nat.zero_le _,⟨by simp,by simp,fun w=>by simp [mget]⟩,fun x=>by simp⟩ (by have:=fuel_big;simp only;omega)
 exact ⟨r,hr,hz⟩
end
theorem wordset_Product_spec {a b:List (List Int)} (ha:SmL a) (hb:SmL b) (ha1:a.length≤10000) (hb1:b.length≤10000) (hl:longestL a+longestL b≤1024) (hR:∀ u∈a,∀ v∈b,u.length+v.length≤1024∧∀ z∈u++v,inR z) :
  ∃ r,wordset_Product a b=some r∧(r=([],11)∨(r.2=0∧Asc r.1∧r.1.length≤10000∧∀ x,x∈r.1↔∃ u∈a,∃ v∈b,x=u++v)):=by
 unfold wordset_Product
 by_cases c1:a.length=0
 ·have:a=[]:=List.length_eq_zero_iff.1 c1
  subst this
  exact ⟨([],0),rfl,Or.inr ⟨rfl,List.Pairwise.nil,by simp,fun x=>by simp⟩⟩
 rw [decide_eq_false (by omega),cond_false]
 by_cases c2:b.length=0
 ·have:b=[]:=List.length_eq_zero_iff.1 c2
  subst this
  exact ⟨([],0),rfl,Or.inr ⟨rfl,List.Pairwise.nil,by simp,fun x=>by simp⟩⟩
 rw [decide_eq_false (by omega),obind,cond_false,wordset_longest_eq a ha,obind,wordset_longest_eq b hb,obind,chk_pos (by unfold inR;omega),decide_eq_false (by omega),cond_false,wordset_Sorted_eq ha,obind,wordset_Sorted_eq hb,obind]
 have s1:=sortW_length a
 have s2:=sortW_length b
 rw [decide_eq_false (by omega),cond_false]
 obtain ⟨r,h1,h2⟩:=prod_all (p:=sortW a) (q:=sortW b) (by omega) (by omega) (fun u hu v hv=>hR u ((mem_sortW a u).1 hu) v ((mem_sortW b v).1 hv))
 rw [h1,obind]
 rcases h2 with rfl | ⟨out,rfl,nd,le,hm⟩
 ·exact ⟨([],11),rfl,Or.inl rfl⟩
 ·have hml:∀ x,x∈out↔∃ u∈a,∃ v∈b,x=u++v:=fun x=>by
   rw [hm]
   constructor
   ·rintro ⟨u,hu,v,hv,h⟩
    exact ⟨u,(mem_sortW a u).1 hu,v,(mem_sortW b v).1 hv,h⟩
   ·rintro ⟨u,hu,v,hv,h⟩
    exact ⟨u,(mem_sortW a u).2 hu,v,(mem_sortW b v).2 hv,h⟩
  obtain ⟨S,e1,hp,hs⟩:=libSort_eq cmpW_total (f:=fun u0 u1=>word_Compare u0 u1) (l:=out) (by omega) (fun x hx y _=>word_Compare_eq x y (by
   obtain ⟨u,hu,v,hv,rfl⟩:=(hml x).1 hx
   have:=(hR u hu v hv).1
   rw [List.length_append]
   omega))
  refine ⟨(S,0),?_,Or.inr ⟨rfl,?_,by rw [hp.length_eq];exact le,fun x=>by rw [hp.mem_iff];exact hml x⟩⟩
  ·show (lib_SortFunc_words out _).bind _=_
   unfold lib_SortFunc_words
   rw [e1,obind]
  ·have hnd:S.Nodup:=hp.nodup_iff.2 nd
   refine (hs.and hnd).imp fun {x y} ⟨h1,h2⟩=>?_
   have hne:cmpW y x≠0:=fun q=>h2 ((cmpW_total.zero y x).1 q).symm
   have h3:=cmpW_total.range y x
   have h4:=(cmpW_total.swap x y)
   omega
end Go.Proofs.YtkfaepfljlphoaaDoor.Sym

/-
 States and transitions that words visit: the program's Covered. Plain laws.
-/
namespace Go.Proofs.YtkfaepfljlphoaaDoor.Sym
set_option maxRecDepth 100000
section
variable {m:T_api_Mealy}
structure Cov (m:T_api_Mealy) (y:List Bool) (c:Int) (g:List (List Bool)) (t:Nat) (l:List Nat) (L:List (Nat×Nat)):Prop where
 s:SeenOk m.Next.length y l
 ln:l.Nodup
 lr:∀ x∈l,x<m.Next.length
 lc:c=(↑l.length:Int)
 G:SeenG m.Next.length m.Inputs.toNat g L
 gn:L.Nodup
 gr:∀ x∈L,x.1<m.Next.length∧x.2<m.Inputs.toNat
 gc:t=L.length
theorem nodup_snoc {α:Type} {l:List α} {x:α} (h:l.Nodup) (hx:x∉l):(l++[x]).Nodup:=by
 rw [List.nodup_append]
 exact ⟨h,by simp,fun a ha b hb e=>hx (by
  have:b=x:=by simpa using hb
  rw [← this,← e]
  exact ha)⟩
theorem rng_le {l:List Nat} {n:Nat} (h:l.Nodup) (hr:∀ x∈l,x<n):l.length≤n:=by
 have:=nodup_le h (l':=List.range n) fun x hx=>List.mem_range.2 (hr x hx)
 rwa [List.length_range] at this
theorem prs_le {L:List (Nat×Nat)} {n k:Nat} (h:L.Nodup) (hr:∀ x∈L,x.1<n∧x.2<k):L.length≤n*k:=by
 have:=rng_le (l:=L.map fun p=>p.1*k+p.2) (n:=n*k) ?_ fun x hx=>?_
 ·rwa [List.length_map] at this
 ·refine List.pairwise_map.2 (List.Pairwise.imp_of_mem (fun {p q} hp hq hne he=>hne ?_) h)
  have e1:=dm_div (i:=p.1) (hr p hp).2
  have e2:=dm_div (i:=q.1) (hr q hq).2
  have e3:=dm_mod (i:=p.1) (hr p hp).2
  have e4:=dm_mod (i:=q.1) (hr q hq).2
  rw [he] at e1 e3
  exact Prod.ext (by rw [← e1,e2]) (by rw [← e3,e4])
 ·obtain ⟨p,hp,rfl⟩:=List.mem_map.1 hx
  exact mem_lt (hr p hp).1 (hr p hp).2
theorem visit_eq (H:MacOk m) {y:List Bool} {c:Int} {g:List (List Bool)} {t:Nat} {l:List Nat} {L:List (Nat×Nat)} (C:Cov m y c g t l L) {s:Nat} (hs:s<m.Next.length) :
  ∃ y' c' l',cover_Covered_1 (↑s:Int) y c=some (y',c')∧Cov m y' c' g t l' L∧s∈l'∧∀ x∈l,x∈l':=by
 have hn:=H.n2
 have hle:=rng_le C.ln C.lr
 unfold cover_Covered_1
 rw [idx_at rfl (C.s.at_ s hs)]
 by_cases h:s∈l
 ·exact ⟨y,c,l,by rw [decide_eq_true h];rfl,C,h,fun x hx=>hx⟩
 ·refine ⟨y.set s true,c+1,l++[s],?_,⟨C.s.push hs,nodup_snoc C.ln h,fun x hx=>?_,by rw [C.lc];simp,C.G,C.gn,C.gr,C.gc⟩,by simp,fun x hx=>List.mem_append_left _ hx⟩
  ·have:=C.lc
   rw [decide_eq_false h,Bool.not_false,cond_true,idx_at rfl (C.s.at_ s hs),chk_pos (by unfold inR;omega),Int.toNat_natCast]
  ·rcases List.mem_append.1 hx with h | h
   ·exact C.lr x h
   ·have:x=s:=by simpa using h
    rw [this]
    exact hs
theorem cov_word (H:MacOk m) {w:List Int} (hw:WOk m.Inputs w) (hwl:w.length≤100000) {y:List Bool} {c:Int} {g:List (List Bool)} {t:Nat} {l:List Nat} {L:List (Nat×Nat)} (C:Cov m y c g t l L) (h0:m.Start.toNat∈l) :
  ∃ g' c' t' y' l' L',iter (fun (s:List (List Bool)×Int×Nat×List Bool×Int×Nat)=>cover_Covered.s56 m w s.1 s.2.1 s.2.2.1 s.2.2.2.1 s.2.2.2.2.1 s.2.2.2.2.2) fuel (g,c,t,y,m.Start,0)=some (g',c',t',y')∧Cov m y' c' g' t' l' L'∧(∀ x∈l,x∈l')∧(∀ x∈L,x∈L') ∧
   (∀ j,j≤w.length→dest m m.Start.toNat (w.take j)∈l')∧∀ (j a:Nat),w[j]?=some (↑a:Int)→(dest m m.Start.toNat (w.take j),a)∈L':=by
 have hn:=H.n2
 have hI:=H.i2
 have hst:=H.st
 obtain ⟨r,hr,g',c',t',y',l',L',rfl,q1,q2,q3,q4,q5⟩:=iter_post (step:=fun (s:List (List Bool)×Int×Nat×List Bool×Int×Nat)=>cover_Covered.s56 m w s.1 s.2.1 s.2.2.1 s.2.2.2.1 s.2.2.2.2.1 s.2.2.2.2.2) (fun s=>∃ l' L',s.2.2.2.2.2≤w.length∧s.2.2.2.2.1=(↑(dest m m.Start.toNat (w.take s.2.2.2.2.2)):Int)∧Cov m s.2.2.2.1 s.2.1 s.1 s.2.2.1 l' L'∧(∀ x∈l,x∈l')∧(∀ x∈L,x∈L') ∧
   (∀ j,j≤s.2.2.2.2.2→dest m m.Start.toNat (w.take j)∈l')∧∀ (j a:Nat),j<s.2.2.2.2.2→w[j]?=some (↑a:Int)→(dest m m.Start.toNat (w.take j),a)∈L') (fun s=>w.length-s.2.2.2.2.2) (fun r=>∃ g' c' t' y' l' L',r=(g',c',t',y')∧Cov m y' c' g' t' l' L'∧(∀ x∈l,x∈l')∧(∀ x∈L,x∈L') ∧
   (∀ j,j≤w.length→dest m m.Start.toNat (w.take j)∈l')∧∀ (j a:Nat),w[j]?=some (↑a:Int)→(dest m m.Start.toNat (w.take j),a)∈L') (fun s ⟨l1,L1,z1,z2,z3,z4,z5,z6,z7⟩=>by
  obtain ⟨g,c,t,y,s,k⟩:=s
  simp only at z1 z2 z3 z4 z5 z6 z7
  subst z2
  simp only [cover_Covered.s56]
  by_cases f:k<w.length
  ·left
   have hx:=get_at f
   obtain ⟨x0,x1⟩:=hw _ (List.getElem_mem f)
   have ha:w[k].toNat<m.Inputs.toNat:=by omega
   have hsn:dest m m.Start.toNat (w.take k)<m.Next.length:=H.dest (hw.take k) (by omega)
   generalize hs:dest m m.Start.toNat (w.take k)=s at hsn
   obtain ⟨n1,_,_,xr,yr,e1,_,e3,_⟩:=H.at hsn ha
   obtain ⟨row,r1,r2,r3⟩:=z3.G.at_ s w[k].toNat hsn ha
   have hd1:dest m m.Start.toNat (w.take (k+1))=nx m s w[k].toNat:=by
    rw [take_step hx,dest_append,hs]
    rfl
   have hwk:w[k]=(↑w[k].toNat:Int):=by omega
   have hLle:=prs_le z3.gn z3.gr
   have hnk:m.Next.length*m.Inputs.toNat≤128*64:=Nat.mul_le_mul hn (by omega)
   have fin:∀ {g2:List (List Bool)} {t2:Nat} {L2:List (Nat×Nat)},Cov m y c g2 t2 l1 L2→(∀ x∈L1,x∈L2)→(s,w[k].toNat)∈L2→∃ s',cover_Covered.k55 m c y (↑s:Int) k w[k] g2 t2=some (.inl s') ∧
     (∃ l' L',s'.2.2.2.2.2≤w.length∧s'.2.2.2.2.1=(↑(dest m m.Start.toNat (w.take s'.2.2.2.2.2)):Int)∧Cov m s'.2.2.2.1 s'.2.1 s'.1 s'.2.2.1 l' L'∧(∀ x∈l,x∈l')∧(∀ x∈L,x∈L')∧(∀ j,j≤s'.2.2.2.2.2→dest m m.Start.toNat (w.take j)∈l')∧∀ (j a:Nat),j<s'.2.2.2.2.2→w[j]?=some (↑a:Int)→(dest m m.Start.toNat (w.take j),a)∈L')∧w.length-s'.2.2.2.2.2<w.length-k:=by
    intro g2 t2 L2 C2 hsub hin
    obtain ⟨y',c',l2,v1,v2,v3,v4⟩:=visit_eq H C2 n1
    refine ⟨(g2,c',t2,y',(↑(nx m s w[k].toNat):Int),k+1),?_,⟨l2,L2,f,by simp only;rw [hd1],v2,fun x hx=>v4 x (z4 x hx),fun x hx=>hsub x (z5 x hx),fun j hj=>?_,fun j a hj hja=>?_⟩,by simp only;omega⟩
    ·simp only [cover_Covered.k55]
     rw [idx_at rfl e1,idx_at (i:=w[k].toNat) hwk e3,v1,obind]
    ·simp only at hj
     rcases Nat.lt_or_ge j (k+1) with h | h
     ·exact v4 _ (z6 j (by omega))
     ·have:j=k+1:=by omega
      rw [this,hd1]
      exact v3
    ·simp only at hj
     rcases Nat.lt_or_ge j k with h | h
     ·exact hsub _ (z7 j a h hja)
     ·have:j=k:=by omega
      subst this
      rw [hx] at hja
      injection hja with hja
      have:a=w[j].toNat:=by omega
      rw [this,hs]
      exact hin
   rw [decide_eq_true (by omega),cond_true,idxn_at hx,idx_at rfl r1,idx_at (i:=w[k].toNat) hwk r3]
   by_cases hm:(s,w[k].toNat)∈L1
   ·rw [decide_eq_true hm,Bool.not_true,cond_false,obind]
    exact fin z3 (fun x hx=>hx) hm
   ·have hgc:=z3.gc
    rw [decide_eq_false hm,Bool.not_false,cond_true,idx_at rfl r1,idx_at (i:=w[k].toNat) hwk r3,chk_pos (by unfold inR;omega),obind,Int.toNat_natCast]
    exact fin (L2:=L1++[(s,w[k].toNat)]) ⟨z3.s,z3.ln,z3.lr,z3.lc,z3.G.push hsn ha r1,nodup_snoc z3.gn hm,fun x hx=>by
     rcases List.mem_append.1 hx with h | h
     ·exact z3.gr x h
     ·have:x=(s,w[k].toNat):=by simpa using h
      rw [this]
      exact ⟨hsn,ha⟩,by rw [hgc];simp⟩ (fun x hx=>List.mem_append_left _ hx) (by simp)
  ·right
   have:k=w.length:=by omega
   subst this
   exact ⟨_,by rw [decide_eq_false (by omega),cond_false],g,c,t,y,l1,L1,rfl,z3,z4,z5,z6,fun j a hja=>z7 j a (List.getElem?_eq_some_iff.1 hja).1 hja⟩) fuel (g,c,t,y,m.Start,0) ⟨l,L,Nat.zero_le _,(show m.Start=(↑(dest m m.Start.toNat (w.take 0)):Int) by rw [List.take_zero];show m.Start=(↑m.Start.toNat:Int);omega),C,fun x hx=>hx,fun x hx=>hx,fun j hj=>by
    have:j=0:=by simp only at hj;omega
    rw [this,List.take_zero]
    exact h0,fun j a h=>absurd h (Nat.not_lt_zero _)⟩ (by have:=fuel_big;simp only;omega)
 exact ⟨g',c',t',y',l',L',hr,q1,q2,q3,q4,q5⟩
theorem cover_full (hv:validM m=0) {ws:List (List Int)} (hw:∀ w∈ws,checkI w m.Inputs=0) (hl:ws.length≤2000000) (hne:ws≠[]) (hs:∀ s,s<m.Next.length→∃ w∈ws,∃ j,j≤w.length∧dest m m.Start.toNat (w.take j)=s)
  (ha:∀ s a,s<m.Next.length→a<m.Inputs.toNat→∃ w∈ws,∃ j,w[j]?=some (↑a:Int)∧dest m m.Start.toNat (w.take j)=s):cover_Covered m ws=some ((↑m.Next.length:Int),(↑(m.Next.length*m.Inputs.toNat):Int),0):=by
 have H:=valid_ok hv
 have hn:=H.n2
 have hI:=H.i2
 have hi1:=H.i1
 have hst:=H.st
 unfold cover_Covered
 rw [mealy_Valid_eq,obind,hv,decide_eq_false (by decide),cond_false]
 have hchk:=iter_eq (step:=fun (s:Nat)=>cover_Covered.s2 m ws s) (r:=(.inl ():Unit⊕(Int×Int×Int))) (fun s=>s≤ws.length) (fun s=>ws.length-s) (fun s q=>by
  simp only [cover_Covered.s2]
  by_cases g:s<ws.length
  ·left
   have hx:=get_at g
   have hc:=hw _ (List.getElem_mem g)
   have hcl:=checkI_len hc
   exact ⟨s+1,by rw [decide_eq_true (by omega),cond_true,idxn_at hx,word_Check_eq _ _ (by unfold SmW;omega),obind,hc];rfl,g,by omega⟩
  ·right
   rw [decide_eq_false (by omega),cond_false]) (n:=fuel) (s:=0) (Nat.zero_le _) (by have:=fuel_big;omega)
 rw [hchk,obind]
 show (chk _ _:Option _)=_
 rw [chk_pos ⟨by omega,by omega,by unfold capOk;omega⟩]
 have grid:=iter_eq (step:=fun (s:List (List Bool)×Nat)=>cover_marks.s2 m s.1 s.2) (r:=List.replicate m.Next.length (List.replicate m.Inputs.toNat false)) (fun s=>s.2≤m.Next.length∧s.1=List.replicate s.2 (List.replicate m.Inputs.toNat false)++List.replicate (m.Next.length-s.2) []) (fun s=>m.Next.length-s.2) (fun s ⟨q1,q2⟩=>by
  obtain ⟨y,k⟩:=s
  simp only at q1 q2
  subst q2
  simp only [cover_marks.s2]
  by_cases g:k<m.Next.length
  ·left
   refine ⟨(List.replicate (k+1) (List.replicate m.Inputs.toNat false)++List.replicate (m.Next.length-(k+1)) [],k+1),?_,⟨g,rfl⟩,by simp only;omega⟩
   have hk:(List.replicate k (List.replicate m.Inputs.toNat false)++List.replicate (m.Next.length-k) [])[k]?=some []:=by
    rw [List.getElem?_append_right (by simp),List.length_replicate,Nat.sub_self,List.getElem?_replicate,if_pos (by omega)]
   rw [List.length_replicate,decide_eq_true (by omega),cond_true,chk_pos ⟨by omega,by omega,by unfold capOk;omega⟩,idxn_at hk,chk_pos (by unfold inR;omega)]
   congr 4
   rw [List.set_append_right _ _ (by simp),List.length_replicate,Nat.sub_self,show m.Next.length-k=(m.Next.length-(k+1))+1 by omega,List.replicate_succ,List.set_cons_zero,List.replicate_succ' (n:=k)]
   simp
  ·right
   have:k=m.Next.length:=by omega
   subst this
   rw [List.length_replicate,decide_eq_false (by omega),cond_false]
   simp) (n:=fuel) (s:=(List.replicate m.Next.length [],0)) ⟨Nat.zero_le _,by simp⟩ (by have:=fuel_big;simp only;omega)
 have hmarks:cover_marks m=some (List.replicate m.Next.length (List.replicate m.Inputs.toNat false)):=by
  unfold cover_marks
  rw [chk_pos ⟨by omega,by omega,by unfold capOk;omega⟩,grid,obind]
 rw [hmarks,obind]
 obtain ⟨r,hr,c,t,rfl,y,g,l,L,C,z1,z2⟩:=iter_post (step:=fun (s:List (List Bool)×Int×Nat×List Bool×Nat)=>cover_Covered.s58 m ws s.1 s.2.1 s.2.2.1 s.2.2.2.1 s.2.2.2.2) (fun s=>s.2.2.2.2≤ws.length∧∃ l L,Cov m s.2.2.2.1 s.2.1 s.1 s.2.2.1 l L∧(∀ (i:Nat) w,i<s.2.2.2.2→ws[i]?=some w→∀ j,j≤w.length→dest m m.Start.toNat (w.take j)∈l)∧∀ (i:Nat) w,i<s.2.2.2.2→ws[i]?=some w→∀ (j a:Nat),w[j]?=some (↑a:Int)→(dest m m.Start.toNat (w.take j),a)∈L) (fun s=>ws.length-s.2.2.2.2) (fun r=>∃ (c:Int) (t:Nat),r=(c,t)∧∃ y g l L,Cov m y c g t l L∧(∀ w∈ws,∀ j,j≤w.length→dest m m.Start.toNat (w.take j)∈l)∧∀ w∈ws,∀ (j a:Nat),w[j]?=some (↑a:Int)→(dest m m.Start.toNat (w.take j),a)∈L) (fun s ⟨q1,l,L,C,q2,q3⟩=>by
  obtain ⟨g,c,t,y,i⟩:=s
  simp only at q1 C q2 q3
  simp only [cover_Covered.s58]
  by_cases f:i<ws.length
  ·left
   have hx:=get_at f
   have hc:=hw _ (List.getElem_mem f)
   generalize ws[i]=w at hx hc
   have hcl:=checkI_len hc
   obtain ⟨y1,c1,l1,v1,v2,v3,v4⟩:=visit_eq H C (s:=m.Start.toNat) (by omega)
   rw [show (↑m.Start.toNat:Int)=m.Start by omega] at v1
   obtain ⟨g',c',t',y',l',L',w1,w2,w3,w4,w5,w6⟩:=cov_word H (check_mem hc) (by omega) v2 v3
   refine ⟨(g',c',t',y',i+1),?_,⟨f,l',L',w2,fun k v hk hv j hj=>?_,fun k v hk hv j a hja=>?_⟩,by simp only;omega⟩
   ·rw [decide_eq_true (by omega),cond_true,idxn_at hx,v1,obind,w1,obind]
    rfl
   ·simp only at hk
    rcases Nat.lt_or_ge k i with h | h
    ·exact w3 _ (v4 _ (q2 k v h hv j hj))
    ·have:k=i:=by omega
     subst this
     rw [hx] at hv
     injection hv with hv
     subst hv
     exact w5 j hj
   ·simp only at hk
    rcases Nat.lt_or_ge k i with h | h
    ·exact w4 _ (q3 k v h hv j a hja)
    ·have:k=i:=by omega
     subst this
     rw [hx] at hv
     injection hv with hv
     subst hv
     exact w6 j a hja
  ·right
   have:i=ws.length:=by omega
   subst this
   refine ⟨(c,t),by rw [decide_eq_false (by omega),cond_false],c,t,rfl,y,g,l,L,C,fun w hw j hj=>?_,fun w hw j a hja=>?_⟩
   ·obtain ⟨i,hi,rfl⟩:=List.mem_iff_getElem.1 hw
    exact q2 i _ hi (get_at hi) j hj
   ·obtain ⟨i,hi,rfl⟩:=List.mem_iff_getElem.1 hw
    exact q3 i _ hi (get_at hi) j a hja) fuel (List.replicate m.Next.length (List.replicate m.Inputs.toNat false),0,0,List.replicate m.Next.length false,0) ⟨Nat.zero_le _,[],[],⟨seen_nil _,by simp,fun x hx=>(by cases hx),rfl,seenG_nil _ _,by simp,fun x hx=>(by cases hx),rfl⟩,fun i w h=>absurd h (Nat.not_lt_zero _),fun i w h=>absurd h (Nat.not_lt_zero _)⟩ (by have:=fuel_big;simp only;omega)
 rw [hr,obind]
 have e1:l.length=m.Next.length:=by
  have h1:=rng_le C.ln C.lr
  have h2:=nodup_le (l:=List.range m.Next.length) (l':=l) List.nodup_range fun s hs'=>by
   obtain ⟨w,hw',j,hj,rfl⟩:=hs s (List.mem_range.1 hs')
   exact z1 w hw' j hj
  rw [List.length_range] at h2
  omega
 have e2:L.length=m.Next.length*m.Inputs.toNat:=by
  have h1:=prs_le C.gn C.gr
  have hK:0<m.Inputs.toNat:=by omega
  have h2:=nodup_le (l:=(List.range (m.Next.length*m.Inputs.toNat)).map fun r=>(r / m.Inputs.toNat,r%m.Inputs.toNat)) (l':=L) ?_ fun x hx=>?_
  ·rw [List.length_map,List.length_range] at h2
   omega
  ·refine List.pairwise_map.2 (List.Pairwise.imp (fun {p q} hne he=>hne ?_) (List.nodup_range (n:=m.Next.length*m.Inputs.toNat)))
   injection he with h1 h2
   rw [← Nat.div_add_mod p m.Inputs.toNat,← Nat.div_add_mod q m.Inputs.toNat,h1,h2]
  ·obtain ⟨r,hr,rfl⟩:=List.mem_map.1 hx
   have hlt:r / m.Inputs.toNat<m.Next.length:=Nat.div_lt_of_lt_mul (by rw [Nat.mul_comm];exact List.mem_range.1 hr)
   obtain ⟨w,hw',j,hj,hd⟩:=ha _ _ hlt (Nat.mod_lt r hK)
   have:=z2 w hw' j _ hj
   rwa [hd] at this
 have hlc:=C.lc
 have hgc:=C.gc
 simp only [cover_Covered.k59]
 rw [hlc,hgc,e1,e2]
end
end Go.Proofs.YtkfaepfljlphoaaDoor.Sym

/-
 The law of HsuiteWords. Plain law.
-/
namespace Go.Proofs.YtkfaepfljlphoaaDoor.Sym
set_option maxRecDepth 100000
section
variable {m M:T_api_Mealy}
theorem sem_self (S:MinSem m M):MinSem M M:=⟨S.ok,rfl,S.start,by rw [S.start];exact Eqv.refl M 0,S.min,S.can⟩
theorem small_of (H:MacOk M) (h1:M.Next.length≤8) (h2:M.Inputs≤4):smallM M=true:=by
 have hol:=H.ol
 unfold smallM
 have hg:greatM M=false:=by
  unfold greatM
  refine decide_eq_false ?_
  rintro (h | h | h | ⟨x,hx,h⟩ | ⟨x,hx,h⟩)
  ·omega
  ·omega
  ·omega
  ·obtain ⟨s,hs,rfl⟩:=List.mem_iff_getElem.1 hx
   obtain ⟨x',y',e1,_,e3,_⟩:=H.row s hs
   rw [get_at hs] at e1
   injection e1 with e1
   rw [e1] at h
   omega
  ·obtain ⟨s,hs,rfl⟩:=List.mem_iff_getElem.1 hx
   obtain ⟨x',y',_,e2,_,e4,_⟩:=H.row s (by omega)
   rw [get_at hs] at e2
   injection e2 with e2
   rw [e2] at h
   omega
 rw [hg,decide_eq_true h1,decide_eq_true h2]
 rfl
theorem maxR_self (l:List (List Int)):maxR (maxR l)=maxR l:=asc_ext (maxR_asc _) (maxR_asc _) fun x=>by
 rw [mem_maxR_iff]
 constructor
 ·exact fun h=>h.1
 ·exact fun h=>⟨h,fun y hy=>((mem_maxR_iff l x).1 h).2 y (mem_maxR hy)⟩
theorem allS_mem {L:List (Nat×List Int)} {extra:Int} {w:List Int}:w∈allS M (L.map Prod.snd) (uptoL M.Inputs (extra+1)) (idsM M)↔∃ u∈L.map Prod.snd,∃ v∈uptoL M.Inputs (extra+1),∃ x∈tlS M (dest M M.Start.toNat (u++v)),w=u++v++x:=by
 unfold allS rowS
 rw [List.mem_flatMap]
 constructor
 ·rintro ⟨u,hu,h⟩
  obtain ⟨v,hv,h⟩:=List.mem_flatMap.1 h
  obtain ⟨x,hx,rfl⟩:=List.mem_map.1 h
  exact ⟨u,hu,v,hv,x,hx,rfl⟩
 ·rintro ⟨u,hu,v,hv,x,hx,rfl⟩
  exact ⟨u,hu,List.mem_flatMap.2 ⟨v,hv,List.mem_map.2 ⟨x,hx,rfl⟩⟩⟩
theorem take_pre {w y:List Int} (h:w <+: y) {j:Nat} (hj:j≤w.length):y.take j=w.take j:=by
 obtain ⟨t,rfl⟩:=h
 rw [List.take_append_of_le_length hj]
theorem suite_covers {L:List (Nat×List Int)} {extra:Int} (h0:0≤extra) (h2:extra≤2) (H:MacOk M) (hst:M.Start=0) (hE:MEnd M 0 L) (PM:MinimalP M) (hi4:M.Inputs≤4) (P:Parts M (L.map Prod.snd) (uptoL M.Inputs (extra+1)) (idsM M)) (hl:(L.map Prod.snd).length*(uptoL M.Inputs (extra+1)).length*mostL (idsM M)≤10000) :
  cover_Covered M (maxR (allS M (L.map Prod.snd) (uptoL M.Inputs (extra+1)) (idsM M)))=some ((↑M.Next.length:Int),(↑(M.Next.length*M.Inputs.toNat):Int),0):=by
 have hi1:=H.i1
 have hst':M.Start.toNat=0:=by rw [hst];rfl
 have hLr:=mEnd_rng H H.n1 hE
 have hsm:=allS_sm P hl
 have hex:∀ s a,s<M.Next.length→a<M.Inputs.toNat→∃ y∈maxR (allS M (L.map Prod.snd) (uptoL M.Inputs (extra+1)) (idsM M)),∃ j,y[j]?=some (↑a:Int)∧j≤y.length∧dest M M.Start.toNat (y.take j)=s:=fun s a hs ha=>by
  obtain ⟨w,w1,w2⟩:=PM.reach s hs
  rw [hst'] at w2
  obtain ⟨j,y,g1,g2⟩:=reach_all hE w 0 _ hE.first w1
  have hym:=List.mem_of_getElem? g1
  have hyd:=(hLr.2 y hym).2.1
  have hv:[(↑a:Int)]∈uptoL M.Inputs (extra+1):=upto_has (by omega) hi4 (by omega) (by omega) (fun z hz=>by
   have:z=(↑a:Int):=by simpa using hz
   omega) (by simp;omega)
  obtain ⟨x,hx⟩:=tlS_ne (M:=M) (dest M M.Start.toNat (y.2++[(↑a:Int)]))
  have hin:y.2++[(↑a:Int)]++x∈allS M (L.map Prod.snd) (uptoL M.Inputs (extra+1)) (idsM M):=allS_mem.2 ⟨y.2,List.mem_map.2 ⟨y,hym,rfl⟩,_,hv,x,hx,rfl⟩
  obtain ⟨z,z1,z2⟩:=max_above (N:=2000000) (fun x hx=>hsm.2 x hx) 2000000 _ hin (by omega)
  have hpre:y.2++[(↑a:Int)] <+: z:=(List.prefix_append _ _).trans z2
  have hlen:=hpre.length_le
  rw [List.length_append,List.length_singleton] at hlen
  refine ⟨z,z1,y.2.length,?_,by omega,?_⟩
  ·obtain ⟨t,rfl⟩:=hpre
   rw [List.append_assoc,List.getElem?_append_right (Nat.le_refl _),Nat.sub_self]
   rfl
  ·rw [take_pre hpre (by simp),List.take_left,hst',hyd,g2]
   exact w2
 refine cover_full P.ok (fun w hw=>suite_words P w (mem_maxR hw)) (Nat.le_trans (maxR_length _) hsm.1) ?_ (fun s hs=>?_) (fun s a hs ha=>?_)
 ·obtain ⟨y,hy,_⟩:=hex 0 0 H.n1 (by omega)
  exact fun q=>by rw [q] at hy;cases hy
 ·obtain ⟨y,hy,j,_,hj,hd⟩:=hex s 0 hs (by omega)
  exact ⟨y,hy,j,hj,hd⟩
 ·obtain ⟨y,hy,j,hj,_,hd⟩:=hex s a hs ha
  exact ⟨y,hy,j,hj,hd⟩
theorem longestL_bd {l:List (List Int)} {n:Nat} (h:∀ x∈l,x.length≤n):longestL l≤n:=(longestL_le l _).2 fun x hx=>h x hx
theorem flat_mem_ids {M:T_api_Mealy} {x:List Int}:x∈(idsM M).flatten↔∃ s v,s<M.Next.length∧v<M.Next.length∧v≠s∧x=sepW M s v:=by
 rw [List.mem_flatten]
 constructor
 ·rintro ⟨l,hl,hx⟩
  obtain ⟨s,hs,rfl⟩:=List.mem_map.1 hl
  obtain ⟨v,v1,v2,rfl⟩:=idL_mem ((mem_sortW _ _).1 hx)
  exact ⟨s,v,List.mem_range.1 hs,v1,v2,rfl⟩
 ·rintro ⟨s,v,hs,hv,hne,rfl⟩
  exact ⟨sortW (idL M s M.Next.length),List.mem_map.2 ⟨s,List.mem_range.2 hs,rfl⟩,(mem_sortW _ _).2 (List.mem_map.2 ⟨v,List.mem_filter.2 ⟨List.mem_range.2 hv,decide_eq_true hne⟩,rfl⟩)⟩
theorem plain_HsuiteWords (m:T_api_Mealy) (extra:Int) (h0:0≤extra) (hx:extra≤255):L30_HsuiteWords m extra=some true:=by
 unfold L30_HsuiteWords
 rw [L11_Small_eq,obind]
 cases hsm:smallM m with
 | false=>rw [Bool.not_false,cond_true,obind,cond_true,awake30_true,obind]
 | true =>
  rw [Bool.not_true,cond_false]
  by_cases h1:1<extra
  ·rw [decide_eq_true h1,cond_true,obind,cond_true,awake30_true,obind]
  rw [decide_eq_false h1,cond_false,R06_Valid_eq,obind,obind]
  by_cases hv:validM m=0
  ·obtain ⟨M,L,e1,S,hM,hE,PM,hn8,hi4,hi,P,hs⟩:=suite_prog hsm hv (extra:=extra) h0 (by omega)
   have HM:=S.ok
   have hi1:=HM.i1
   rw [decide_eq_false (fun q=>q hv),cond_false,chk_pos (by unfold inR;omega),hs,obind]
   unfold suiteH
   by_cases hbig:10000<(L.map Prod.snd).length*(uptoL M.Inputs (extra+1)).length*mostL (idsM M)
   ·rw [if_pos hbig,decide_eq_true (by decide),cond_true]
    simp [awake30_true]
   ·rw [if_neg hbig,decide_eq_false (fun h=>h rfl),cond_false,e1,obind,chk_pos (by unfold inR;omega)]
    -- the suite of the minimal machine
    obtain ⟨M',L',e2,S',hM',hE',_,_,_,_,P',hs'⟩:=suite_prog (m:=M) (small_of HM hn8 hi4) hM (extra:=extra) h0 (by omega)
    have:=minsem_uniq S' (sem_self S)
    subst this
    have:=BfsEnd.uniq (by omega) hE' hE
    subst this
    have hsame:hsuite_Suite M' extra=some (maxR (allS M' (L'.map Prod.snd) (uptoL M'.Inputs (extra+1)) (idsM M')),0):=by
     rw [hs']
     unfold suiteH
     rw [if_neg hbig]
    have hcov:=suite_covers h0 (by omega) HM S.start hE PM hi4 P (by omega)
    have hall:=allS_sm P (by omega)
    generalize hlS:maxR (allS M' (L'.map Prod.snd) (uptoL M'.Inputs (extra+1)) (idsM M'))=lS at hsame hcov ⊢
    have hSm:SmL lS:=by
     rw [← hlS]
     exact ⟨Nat.le_trans (maxR_length _) hall.1,fun x hx=>hall.2 x (mem_maxR hx)⟩
    have hmx:wordset_Maximal lS=some lS:=by
     rw [wordset_Maximal_eq hSm,← hlS,maxR_self]
    obtain ⟨_,u2,u3⟩:=upto_eq (i:=M'.Inputs) (n:=extra+1) (by omega) (by omega) (by omega) (by omega)
    obtain ⟨u1,_,_⟩:=upto_eq (i:=M'.Inputs) (n:=extra+1) (by omega) (by omega) (by omega) (by omega)
    have hLr:=mEnd_rng HM HM.n1 hE
    have hmul:(↑M'.Next.length:Int)*M'.Inputs=(↑(M'.Next.length*M'.Inputs.toNat):Int):=by
     rw [Int.natCast_mul]
     congr 1
     omega
    have hnk:M'.Next.length*M'.Inputs.toNat≤8*4:=Nat.mul_le_mul hn8 (by omega)
    rw [show ((M',(0:Int)).1)=M' from rfl,hsame,obind,hcov,obind]
    have hgood:∀ {x:Option Bool},(cond (decide ((M',(0:Int)).2≠0)) (some true) (cond (decide ((lS,(0:Int)).2≠0)) (some true) (cond (decide ((((↑M'.Next.length:Int),(↑(M'.Next.length*M'.Inputs.toNat):Int),(0:Int)):Int×Int×Int).2.2≠0)) (some true) x)):Option Bool)=x:=fun {x}=>by
     rw [decide_eq_false (fun h=>h rfl),cond_false,cond_false,cond_false]
    rw [hgood,R10_Same_eq hSm,obind,decide_eq_true rfl,Bool.not_true,cond_false,hmx,obind,R10_Same_eq hSm,obind,decide_eq_true rfl,Bool.not_true,cond_false,decide_eq_false (fun h=>h rfl),cond_false,hmul,chk_pos (by unfold inR;omega),decide_eq_false (fun h=>h rfl),obind,cond_false,separate_ids hM PM,obind]
    obtain ⟨Mx,Lx,x1,_,_,x3,x2,_⟩:=parts_of (m:=M') (small_of HM hn8 hi4) hM (extra:=extra) h0 (by omega)
    rw [e2] at x1
    injection x1 with x1
    injection x1 with x1 _
    subst x1
    have:=BfsEnd.uniq (by omega) x3 hE
    subst this
    have hR:∀ {w:List Int},WOk M'.Inputs w→∀ a∈w,inR a:=fun {w} hw a ha=>by
     have:=hw a ha
     unfold inR
     omega
    -- the identifiers together
    have hidl:∀ s,s<M'.Next.length→(sortW (idL M' s M'.Next.length)).length≤8:=fun s _=>by
     have h1:=sortW_length (idL M' s M'.Next.length)
     have h2:=idL_len (m:=M') s M'.Next.length
     omega
    have hfl:(idsM M').flatten.length≤64:=by
     have h1:(List.flatMap (fun l=>l) (idsM M')).length≤(idsM M').length*8:=flat_le fun l hl=>by
      obtain ⟨s,hs,rfl⟩:=List.mem_map.1 hl
      exact hidl s (List.mem_range.1 hs)
     have h2:=P.il
     have h3:(List.flatMap (fun l=>l) (idsM M'))=(idsM M').flatten:=by
      rw [List.flatMap_id']
     rw [h3] at h1
     omega
    have hfw:∀ x∈(idsM M').flatten,x.length≤600∧WOk M'.Inputs x:=fun x hx=>by
     obtain ⟨l,hl,hx'⟩:=List.mem_flatten.1 hx
     obtain ⟨s,v,q1,q2,_,rfl⟩:=flat_mem_ids.1 hx
     exact ⟨(P.is_ l hl).2 _ hx',(sepW_sm HM q1 q2).1⟩
    have hU:SmL (idsM M').flatten:=⟨by omega,fun x hx=>by
     have:=(hfw x hx).1
     unfold SmW
     omega⟩
    rw [x2,obind,chk_pos (by unfold inR;omega),chk_pos (by unfold inR;omega),u1,obind,show (bif decide (((idsM M',(0:Int))).snd≠0) then some true else bif decide (((Lx.map Prod.snd,(0:Int))).snd≠0) then some true else some (decide (((uptoL M'.Inputs (extra+1),(0:Int))).snd≠0)))=some false from rfl,obind,cond_false,wordset_Union_eq (by rw [P.il];omega) hU,obind]
    obtain ⟨A,hA,A1,A2,A3⟩:∃ A,(bif decide ((↑(sortW (idsM M').flatten).length:Int)=0) then some [[]] else some (sortW (idsM M').flatten))=some A∧A.length≤64∧(∀ x∈A,x.length≤600∧WOk M'.Inputs x)∧∀ s x,s<M'.Next.length→x∈tlS M' s→x∈A:=by
     by_cases hz:(sortW (idsM M').flatten).length=0
     ·refine ⟨[[]],by rw [decide_eq_true (by omega),cond_true],by simp,fun x hx=>?_,fun s x hs hx=>?_⟩
      ·have:x=[]:=by simpa using hx
       subst this
       exact ⟨by simp,fun a ha=>by cases ha⟩
      ·have hnil:∀ y,y∉(idsM M').flatten:=fun y hy=>by
        have:=List.length_pos_of_mem ((mem_sortW _ _).2 hy)
        omega
       unfold tlS at hx
       rw [ids_at hs,Option.getD_some] at hx
       split at hx
       ·exact hx
       ·exfalso
        refine hnil x (List.mem_flatten.2 ⟨_,List.mem_map.2 ⟨s,List.mem_range.2 hs,rfl⟩,hx⟩)
     ·refine ⟨_,by rw [decide_eq_false (by omega),cond_false],?_,fun x hx=>hfw x ((mem_sortW _ _).1 hx),fun s x hs hx=>?_⟩
      ·have:=sortW_length (idsM M').flatten
       omega
      ·unfold tlS at hx
       rw [ids_at hs,Option.getD_some] at hx
       split at hx
       ·rename_i hno
        exfalso
        obtain ⟨y,hy⟩:=List.exists_mem_of_length_pos (Nat.pos_of_ne_zero hz)
        obtain ⟨s',v',q1,q2,q3,_⟩:=flat_mem_ids.1 ((mem_sortW _ _).1 hy)
        have hin:∀ t,t<M'.Next.length→s≠t→False:=fun t ht hne=>by
         have hm:sepW M' s t∈sortW (idL M' s M'.Next.length):=(mem_sortW _ _).2 (List.mem_map.2 ⟨t,List.mem_filter.2 ⟨List.mem_range.2 ht,decide_eq_true (fun q=>hne q.symm)⟩,rfl⟩)
         have:=List.length_pos_of_mem hm
         omega
        by_cases hss:s=s'
        ·exact hin v' q2 (by omega)
        ·exact hin s' q1 hss
       ·exact (mem_sortW _ _).2 (List.mem_flatten.2 ⟨_,List.mem_map.2 ⟨s,List.mem_range.2 hs,rfl⟩,hx⟩)
    rw [hA,obind]
    -- the halves
    have F1:=P.f1
    have F2:=P.f2
    have M1:=P.m1
    generalize hFr:Lx.map Prod.snd=front at F1 F2 hlS
    generalize hMi:uptoL M'.Inputs (extra+1)=middle at M1 u2 hlS
    obtain ⟨r1,p1,p1'⟩:=wordset_Product_spec (a:=front) (b:=middle) ⟨by omega,fun x hx=>by
     have:=(F2 x hx).2
     unfold SmW
     omega⟩ ⟨by omega,fun x hx=>by
     have:=(u2 x hx).2
     unfold SmW
     omega⟩ (by omega) (by omega) (by
     have h1:=longestL_bd (l:=front) (n:=200) fun x hx=>(F2 x hx).2
     have h2:=longestL_bd (l:=middle) (n:=3) fun x hx=>(u2 x hx).2
     omega) (fun u hu v hv=>⟨by
     have:=(F2 u hu).2
     have:=(u2 v hv).2
     omega,hR ((F2 u hu).1.append (u2 v hv).1)⟩)
    have hH:r1.1.length≤10000∧∀ x∈r1.1,x.length≤203∧WOk M'.Inputs x:=by
     rcases p1' with rfl | ⟨_,_,q2,q3⟩
     ·exact ⟨by simp,fun x hx=>by cases hx⟩
     ·refine ⟨q2,fun x hx=>?_⟩
      obtain ⟨u,hu,v,hv,rfl⟩:=(q3 x).1 hx
      have h1:=(F2 u hu).2
      have h2:=(u2 v hv).2
      exact ⟨by rw [List.length_append];omega,(F2 u hu).1.append (u2 v hv).1⟩
    obtain ⟨r2,p2,p2'⟩:=wordset_Product_spec (a:=r1.1) (b:=A) ⟨by omega,fun x hx=>by
     have:=(hH.2 x hx).1
     unfold SmW
     omega⟩ ⟨by omega,fun x hx=>by
     have:=(A2 x hx).1
     unfold SmW
     omega⟩ (by omega) (by omega) (by
     have h1:=longestL_bd (l:=r1.1) (n:=203) fun x hx=>(hH.2 x hx).1
     have h2:=longestL_bd (l:=A) (n:=600) fun x hx=>(A2 x hx).1
     omega) (fun u hu v hv=>⟨by
     have:=(hH.2 u hu).1
     have:=(A2 v hv).1
     omega,hR ((hH.2 u hu).2.append (A2 v hv).2)⟩)
    rw [p1,obind,p2,obind]
    rcases p1' with rfl | ⟨z1,_,q2,q3⟩
    ·rw [decide_eq_true (by decide),cond_true,obind,cond_true,decide_eq_true rfl,cond_true,awake30_true,obind,obind]
    ·rcases p2' with rfl | ⟨z2,B1,B2,B3⟩
     ·rw [z1,decide_eq_false (fun h=>h rfl),cond_false,decide_eq_true (by decide),obind,cond_true,decide_eq_false (by decide),cond_false,decide_eq_true rfl,cond_true,awake30_true,obind,obind]
     ·rw [z1,z2,decide_eq_false (fun h=>h rfl),cond_false,obind,cond_false]
      have hlen:(allS M' front middle (idsM M')).length≤10000:=by
       have h1:(allS M' (Lx.map Prod.snd) (uptoL M'.Inputs (extra+1)) (idsM M')).length≤(Lx.map Prod.snd).length*((uptoL M'.Inputs (extra+1)).length*mostL (idsM M')):=flat_le fun u _=>mid_le P u _
       rw [← Nat.mul_assoc] at h1
       rw [hFr,hMi] at h1 hbig
       omega
      have hlS':lS.length≤10000:=by
       rw [← hlS]
       exact Nat.le_trans (maxR_length _) hlen
      have hW:∀ x∈r2.1,SmW x:=fun x hx=>by
       obtain ⟨u,hu,v,hv,rfl⟩:=(B3 x).1 hx
       have:=(hH.2 u hu).1
       have:=(A2 v hv).1
       unfold SmW
       rw [List.length_append]
       omega
      have hWS:SmL r2.1:=⟨by omega,hW⟩
      have hUS:SmL [r2.1,lS].flatten:=by
       refine ⟨by simp;omega,fun x hx=>?_⟩
       obtain ⟨l,hl,hxl⟩:=List.mem_flatten.1 hx
       rcases List.mem_cons.1 hl with rfl | hl
       ·exact hW x hxl
       ·have hll:l=lS:=by simpa using hl
        rw [hll] at hxl
        exact hSm.2 x hxl
      have hsub:∀ x∈lS,x∈r2.1:=fun x hx=>by
       rw [← hlS] at hx
       have hx:=mem_maxR hx
       rw [← hFr] at hx
       obtain ⟨u,hu,v,hv,y,hy,rfl⟩:=allS_mem.1 (by rw [hMi];exact hx)
       rw [hFr] at hu
       rw [hMi] at hv
       refine (B3 _).2 ⟨u++v,(q3 _).2 ⟨u,hu,v,hv,rfl⟩,y,A3 _ y ?_ hy,rfl⟩
       exact HM.dest ((F2 u hu).1.append (u2 v hv).1) (by have:=HM.st;omega)
      have hext:∀ x,x∈sortW [r2.1,lS].flatten↔x∈r2.1:=fun x=>by
       rw [mem_sortW]
       simp only [List.flatten_cons,List.flatten_nil,List.append_nil,List.mem_append]
       exact ⟨fun h=>h.elim id (hsub x),Or.inl⟩
      show ((wordset_Union [r2.1,lS]).bind _).bind _=_
      rw [wordset_Union_eq (by simp) hUS,obind,wordset_Maximal_eq (sml_sort hUS),obind,wordset_Maximal_eq hWS,obind,maxR_ext hext,R10_Same_eq ⟨Nat.le_trans (maxR_length _) hWS.1,fun x hx=>hW x (mem_maxR hx)⟩,obind,decide_eq_true rfl,cond_true,awake30_true,obind,obind]
  ·rw [decide_eq_true hv,cond_true,awake30_true,obind]
end
end Go.Proofs.YtkfaepfljlphoaaDoor.Sym

/-
 The law of HsuiteWords, for arguments within the bound.
-/
namespace Go.Proofs.YtkfaepfljlphoaaDoor.Sym
theorem law_L30_HsuiteWords (x0:T_api_Mealy) (x1:Int) (_:ok_api_Mealy x0) (_:sz_api_Mealy x0≤1048576) (k1:okY x1):L30_HsuiteWords x0 x1=some true :=
 plain_HsuiteWords x0 x1 k1.1 k1.2
end Go.Proofs.YtkfaepfljlphoaaDoor.Sym

/- Parts of the proof. -/
import Derived.Test.YtbcommjbpmhdbaaGreatDoorM3
set_option linter.all false
set_option maxRecDepth 100000
set_option maxHeartbeats 4000000
open Go.RowKit
namespace Go.Proofs.YtbcommjbpmhdbaaGreatDoor
def prefixes (x:List Int):List (List Int):=(List.range (x.length+1)).map x.take
def zgb (x:List Int):List (List Int):=(List.range (x.length+1)).map x.drop
def preL (l:List (List Int)):List (List Int):=l.flatMap prefixes
def sufL (l:List (List Int)):List (List Int):=l.flatMap zgb
theorem prefixes_take (x:List Int) {j:Nat} (hj:j≤x.length):(prefixes x).take (j+1)=(prefixes x).take j++[x.take j]:=by
 have:(prefixes x)[j]?=some (x.take j):=by simp [prefixes,List.getElem?_range (show j<x.length+1 by omega)]
 exact zbk this
theorem suffixes_take (x:List Int) {j:Nat} (hj:j≤x.length):(zgb x).take (j+1)=(zgb x).take j++[x.drop j]:=by
 have:(zgb x)[j]?=some (x.drop j):=by simp [zgb,List.getElem?_range (show j<x.length+1 by omega)]
 exact zbk this
theorem ze0 (x:List Int):(prefixes x).length=x.length+1:=by simp [prefixes]
theorem zfw (x:List Int):(zgb x).length=x.length+1:=by simp [zgb]
theorem preL_step {l:List (List Int)} {k:Nat} {x:List Int} (h:l[k]?=some x):preL (l.take (k+1))=preL (l.take k)++prefixes x:=by rw [zbk h];simp [preL]
theorem sufL_step {l:List (List Int)} {k:Nat} {x:List Int} (h:l[k]?=some x):sufL (l.take (k+1))=sufL (l.take k)++zgb x:=by rw [zbk h];simp [sufL]
def topB (all:List (List Int)) (x:List Int):Bool:=all.all fun y=>decide (y=x∨¬ x <+: y)
def maxR (l:List (List Int)):List (List Int):=(sortW l).filter (topB (sortW l))
theorem zlu {l:List (List Int)} {x:List Int} (h:x∈maxR l):x∈l:=by
 unfold maxR at h;exact (zb6 l x).1 (List.mem_filter.1 h).1
theorem maxR_length (l:List (List Int)):(maxR l).length≤l.length:=Nat.le_trans (List.length_filter_le _ _) (zd4 l)
def zlg:List (List Int)→List (List Int)
 | []=>[]
 | [x]=>[x]
 | x::y::l=>if x <+: y then zlg (y::l) else x::zlg (y::l)
theorem keepM_end {L:List (List Int)} {k:Nat} {x:List Int} (hx:L[k]?=some x) (hl:k+1=L.length):zlg (L.drop k)=x::zlg (L.drop (k+1)):=by
 obtain ⟨h1,h2⟩:=List.getElem?_eq_some_iff.1 hx;rw [List.drop_eq_getElem_cons h1,h2,List.drop_eq_nil_of_le (by omega)];rfl
theorem keepM_step {L:List (List Int)} {k:Nat} {x y:List Int} (hx:L[k]?=some x) (hy:L[k+1]?=some y):zlg (L.drop k)=if x <+: y then zlg (L.drop (k+1)) else x::zlg (L.drop (k+1)):=by
 obtain ⟨h1,h2⟩:=List.getElem?_eq_some_iff.1 hx;obtain ⟨h3,h4⟩:=List.getElem?_eq_some_iff.1 hy;rw [List.drop_eq_getElem_cons h1,h2,List.drop_eq_getElem_cons h3,h4];rfl
theorem zu1:∀ L:List (List Int),(zlg L).Sublist L
 | []=>List.Sublist.refl _
 | [x]=>List.Sublist.refl _
 | x::y::l=>by
  rw [zlg];split
  ·exact (zu1 (y::l)).cons x
  ·exact (zu1 (y::l)).cons_cons x
theorem zom:∀ (x z y:List Int),lexI x z=-1→(z=y∨lexI z y=-1)→x <+: y→x <+: z
 | [],z,_,_,_,_=>List.nil_prefix
 | a::x,[],_,h,_,_=>by simp [lexI] at h
 | a::x,b::z,[],_,_,h=>by simp at h
 | a::x,b::z,c::y,h1,h2,h3=>by
  rw [List.cons_prefix_cons] at h3;obtain ⟨rfl,h3⟩:=h3;simp only [lexI] at h1
  have hle:b≤a:=by
   rcases h2 with h2 | h2
   ·injection h2 with e1 e2;omega
   ·simp only [lexI] at h2;split at h2
    ·omega
    ·split at h2
     ·omega
     ·omega
  have hab:a=b:=by
   split at h1
   ·omega
   ·split at h1
    ·omega
    ·omega
  subst hab;rw [if_neg (by omega),if_neg (by omega)] at h1;rw [List.cons_prefix_cons];refine ⟨rfl,zom x z y h1 ?_ h3⟩;rcases h2 with h2 | h2
  ·injection h2 with e1 e2;exact Or.inl e2
  ·simp only [lexI] at h2;rw [if_neg (by omega),if_neg (by omega)] at h2;exact Or.inr h2
theorem zqn:∀ (x y:List Int),x <+: y→x≠y→lexI x y=-1
 | [],[],_,h=>absurd rfl h
 | [],_::_,_,_=>rfl
 | a::x,[],h,_=>by simp at h
 | a::x,b::y,h,hne=>by
  rw [List.cons_prefix_cons] at h;obtain ⟨rfl,h⟩:=h;simp only [lexI];rw [if_neg (by omega),if_neg (by omega)];exact zqn x y h (fun e=>hne (by rw [e]))
theorem mem_keepM:∀ {L:List (List Int)},L.Pairwise (fun a b=>lexI a b=-1)→∀ x,x∈zlg L↔x∈L∧∀ y∈L,y=x∨¬ x <+: y
 | [],_,x=>by simp [zlg]
 | [z],_,x=>by
  simp only [zlg,List.mem_singleton];constructor
  ·rintro rfl;exact ⟨rfl,fun y hy=>Or.inl hy⟩
  ·exact fun h=>h.1
 | z::y::l,h,x=>by
  obtain ⟨h1,h2⟩:=List.pairwise_cons.1 h;have ih:=mem_keepM (L:=y::l) h2
  have hzl:∀ t∈y::l,z≠t:=fun t ht e=>by
   have:=h1 t ht;rw [e,lexI_refl] at this;omega
  have hlow:∀ t∈y::l,¬ t <+: z:=fun t ht hp=>by
   have h3:=h1 t ht;have h4:=zqn t z hp (fun e=>hzl t ht e.symm);rw [zil] at h4;omega
  have hyl:∀ t∈y::l,y=t∨lexI y t=-1:=fun t ht=>by
   rcases List.mem_cons.1 ht with e | e
   ·exact Or.inl e.symm
   ·exact Or.inr ((List.pairwise_cons.1 h2).1 t e)
  rw [zlg];by_cases hp:z <+: y
  ·rw [if_pos hp,ih];constructor
   ·rintro ⟨ha,hb⟩;refine ⟨List.mem_cons_of_mem _ ha,fun t ht=>?_⟩;rcases List.mem_cons.1 ht with rfl | ht
    ·exact Or.inr (hlow x ha)
    ·exact hb t ht
   ·rintro ⟨ha,hb⟩;rcases List.mem_cons.1 ha with rfl | ha
    ·rcases hb y (by simp) with e | e
     ·exact absurd e.symm (hzl y (by simp))
     ·exact absurd hp e
    ·exact ⟨ha,fun t ht=>hb t (List.mem_cons_of_mem _ ht)⟩
  ·rw [if_neg hp,List.mem_cons,ih];constructor
   ·rintro (rfl | ⟨ha,hb⟩)
    ·refine ⟨by simp,fun t ht=>?_⟩;rcases List.mem_cons.1 ht with rfl | ht
     ·exact Or.inl rfl
     ·exact Or.inr fun hpt=>hp (zom x y t (h1 y (by simp)) (hyl t ht) hpt)
    ·refine ⟨List.mem_cons_of_mem _ ha,fun t ht=>?_⟩;rcases List.mem_cons.1 ht with rfl | ht
     ·exact Or.inr (hlow x ha)
     ·exact hb t ht
   ·rintro ⟨ha,hb⟩;rcases List.mem_cons.1 ha with rfl | ha
    ·exact Or.inl rfl
    ·exact Or.inr ⟨ha,fun t ht=>hb t (List.mem_cons_of_mem _ ht)⟩
theorem zkb (l:List (List Int)) (x:List Int):x∈maxR l↔x∈l∧∀ y∈l,y=x∨¬ x <+: y:=by
 unfold maxR;rw [List.mem_filter,zb6,topB,List.all_eq_true];simp only [zb6,decide_eq_true_eq]
theorem maxR_asc (l:List (List Int)):Asc (maxR l):=List.Pairwise.sublist List.filter_sublist (zel l)
theorem sortW_keepM {L l:List (List Int)} (h:L.Pairwise fun a b=>lexI a b=-1) (hm:∀ x,x∈L↔x∈l):sortW (zlg L)=maxR l :=
 zor (zel _) (maxR_asc l) fun x=>by
  rw [zb6,mem_keepM h,zkb];simp only [hm]
end Go.Proofs.YtbcommjbpmhdbaaGreatDoor
namespace Go.Proofs.YtbcommjbpmhdbaaGreatDoor.Sym
theorem zif {α:Type} {l:List (List α)} {i:Nat} {x:List α} (h:l[i]?=some x):(l.take (i+1)).flatten=(l.take i).flatten++x:=by
 rw [zbk h];simp
theorem zhk {α:Type} {l:List (List α)} (i:Nat):(l.take i).flatten.length≤l.flatten.length:=by
 have h:l.flatten=(l.take i).flatten++(l.drop i).flatten:=by rw [← List.flatten_append,List.take_append_drop]
 rw [h,zkJ];omega
theorem concat_ints (l:List (List Int)) (hl:l.length≤100000000) (hf:l.flatten.length≤1000000000):za1 l=some l.flatten:=by
 unfold za1
 rw [zcw (r:=l.flatten.length) (fun s=>s.2≤l.length∧s.1=(l.take s.2).flatten.length) (fun s=>l.length-s.2) (fun s ⟨h1,h2⟩=>by
  simp only [za1.s2]
  by_cases h3:s.2<l.length
  ·left
   have hx:=get_at h3
   have h4:=zif hx
   have h5:=zhk (l:=l) (s.2+1)
   rw [h4,zkJ] at h5
   refine ⟨((l.take (s.2+1)).flatten.length,s.2+1),?_,⟨by omega,rfl⟩,by simp only;omega⟩
   rw [zcb hx,zkD,zaq hx,zar (by unfold inR;omega),zkA (by omega),zkC,h4,zkJ,h2]
  ·right
   have e:s.2=l.length:=by omega
   rw [zkA (by omega),zkC,h2,e,List.take_length]) (s:=(0,0)) ⟨Nat.zero_le _,by simp⟩]
 simp only [Option.bind_some];unfold zm7;rw [zar (by omega)];simp only [Option.bind_some]
 rw [zcw (r:=l.flatten) (fun s=>s.2≤l.length∧s.1=(l.take s.2).flatten) (fun s=>l.length-s.2) (fun s ⟨h1,h2⟩=>by
  simp only [za1.s4]
  by_cases h3:s.2<l.length
  ·left
   have hx:=get_at h3
   have h4:=zif hx
   have h5:=zhk (l:=l) (s.2+1)
   rw [h4,zkJ] at h5
   refine ⟨((l.take (s.2+1)).flatten,s.2+1),?_,⟨by omega,rfl⟩,by simp only;omega⟩
   rw [zcb hx,zkD,zaq hx,zar (by rw [h2];unfold za7;omega),h4,h2]
  ·right
   have e:s.2=l.length:=by omega
   rw [zkA (by omega),zkC,h2,e,List.take_length]) (s:=([],0)) ⟨Nat.zero_le _,by simp⟩]
 rfl
theorem concat_words (l:List (List (List Int))) (hl:l.length≤100000000) (hf:l.flatten.length≤1000000000):zax l=some l.flatten:=by
 unfold zax
 rw [zcw (r:=l.flatten.length) (fun s=>s.2≤l.length∧s.1=(l.take s.2).flatten.length) (fun s=>l.length-s.2) (fun s ⟨h1,h2⟩=>by
  simp only [zax.s2]
  by_cases h3:s.2<l.length
  ·left
   have hx:=get_at h3
   have h4:=zif hx
   have h5:=zhk (l:=l) (s.2+1)
   rw [h4,zkJ] at h5
   refine ⟨((l.take (s.2+1)).flatten.length,s.2+1),?_,⟨by omega,rfl⟩,by simp only;omega⟩
   rw [zcb hx,zkD,zaq hx,zar (by unfold inR;omega),zkA (by omega),zkC,h4,zkJ,h2]
  ·right
   have e:s.2=l.length:=by omega
   rw [zkA (by omega),zkC,h2,e,List.take_length]) (s:=(0,0)) ⟨Nat.zero_le _,by simp⟩]
 simp only [Option.bind_some];unfold zki;rw [zar (by omega)];simp only [Option.bind_some]
 rw [zcw (r:=l.flatten) (fun s=>s.2≤l.length∧s.1=(l.take s.2).flatten) (fun s=>l.length-s.2) (fun s ⟨h1,h2⟩=>by
  simp only [zax.s4]
  by_cases h3:s.2<l.length
  ·left
   have hx:=get_at h3
   have h4:=zif hx
   have h5:=zhk (l:=l) (s.2+1)
   rw [h4,zkJ] at h5
   refine ⟨((l.take (s.2+1)).flatten,s.2+1),?_,⟨by omega,rfl⟩,by simp only;omega⟩
   rw [zcb hx,zkD,zaq hx,zar (by rw [h2];unfold za7;omega),h4,h2]
  ·right
   have e:s.2=l.length:=by omega
   rw [zkA (by omega),zkC,h2,e,List.take_length]) (s:=([],0)) ⟨Nat.zero_le _,by simp⟩]
 rfl
theorem zg8 (l:List (List Int)) (hl:l.length≤100000000) (hf:l.flatten.length≤1000000000):zfk l=some l.flatten:=by
 unfold zfk;rw [concat_ints l hl hf];rfl
theorem totB_of {cf:List Int→List Int→Int} (T:znk cf) {f:List Int→List Int→Option Int} {l:List (List Int)} (hf:∀ a∈l,∀ b∈l,f a b=some (cf a b)):totB f l=true:=by
 refine List.all_eq_true.2 fun a ha=>List.all_eq_true.2 fun b hb=>?_;rw [hf a ha b hb,hf b hb a ha];simp only [Bool.and_eq_true];refine ⟨⟨⟨?_,?_⟩,?_⟩,List.all_eq_true.2 fun c hc=>?_⟩
 ·rw [beq_iff_eq];have:=T.zero a b;by_cases h:a=b
  ·simp [h,this.2 h];rw [← h];exact (T.zero a a).2 rfl
  ·have h2:¬ cf a b=0:=fun e=>h (this.1 e);simp [h,h2]
 ·rw [beq_iff_eq];have:=T.swap a b;by_cases h:cf a b<0
  ·simp [h];omega
  ·simp [h];omega
 ·have:=T.range a b;exact zkB (by omega)
 ·rw [hf b hb c hc,hf a ha c hc];have r1:=T.range a b;have r2:=T.range b c;by_cases h1:cf a b<0
  ·by_cases h2:cf b c<0
   ·have:=T.trans a b c (by omega) (by omega);simp [h1,h2,this]
   ·simp [h1,h2]
  ·simp [h1]
theorem libSort_eq {cf:List Int→List Int→Int} (T:znk cf) {f:List Int→List Int→Option Int} {l:List (List Int)} (hl:l.length≤1000000000) (hf:∀ a∈l,∀ b∈l,f a b=some (cf a b)) :
  ∃ S,zqh l f=some S∧S.Perm l∧S.Pairwise (fun a b=>0≤cf b a):=by
 refine ⟨zgq f l,?_,zec f l,?_⟩
 ·unfold zqh;rw [zar hl,totB_of T hf];rfl
 ·have h:=zi9 (totB_iff (totB_of T hf));rw [List.pairwise_iff_getElem] at h ⊢;intro i j hi hj hij;have:=h i j hi hj hij;have m1:=(zec f l).mem_iff.1 (List.getElem_mem hi);have m2:=(zec f l).mem_iff.1 (List.getElem_mem hj);unfold NGt cfv at this;rw [hf _ m2 _ m1] at this;simp only [Option.getD_some] at this;omega
theorem compact_eq {q:List Int→List Int→Option Bool} {l:List (List Int)} (hl:l.length≤1000000000) (hq:∀ a∈l,∀ b∈l,q a b=some (decide (a=b))):zaj l q=some (zcr l):=by
 unfold zaj;by_cases h2:l.length<2
 ·rw [zkB (by omega),zkD,zro (by omega)]
 rw [zkA (by omega),zkC]
 have key:=zf5 (step:=fun k=>zaj.s20 l q k) (fun k=>1≤k∧k≤l.length∧zcr (l.take k)=l.take k) (fun k=>l.length-k) (fun r=>Sum.elim (fun (_:Unit)=>some l) some r=some (zcr l)) (fun k ⟨h1,h3,h4⟩=>by
  simp only [zaj.s20]
  by_cases h5:k<l.length
  ·have hx:=get_at h5
   have hp:=get_at (l:=l) (i:=k-1) (by omega)
   have hst:=ztv (l:=l) (k:=k-1) (x:=l[k]) hp (by rw [show k-1+1=k by omega];exact hx)
   rw [show k-1+1=k by omega] at hst
   rw [zcb hx,zkD,zaq hx,zbd (i:=k-1) (by omega) hp,hq _ (List.getElem_mem _) _ (List.getElem_mem _)]
   simp only [Option.bind_some]
   by_cases h6:l[k]=l[k-1]'(by omega)
   ·right
    rw [if_pos h6] at hst
    rw [zkB h6,zkD,zar (by omega)]
    have inner:=zd9 (step:=fun (s:List (List Int)×Nat×Nat)=>zaj.s18 q k s.1 s.2.1 s.2.2) (fun s=>1≤s.2.2∧k+s.2.2≤l.length∧s.1.length=l.length∧s.2.1=(zcr (l.take (k+s.2.2))).length∧s.2.1<k+s.2.2∧s.1.take s.2.1=zcr (l.take (k+s.2.2))∧∀ j,s.2.1≤j→s.1[j]?=l[j]?) (fun s=>l.length-(k+s.2.2))
     (fun r=>r.2≤l.length∧r.1.length=l.length∧r.1.take r.2=zcr l) (fun s ⟨g1,g2,g3,g4,g5,g6,g7⟩=>by
      obtain ⟨y,kk,t⟩:=s
      simp only at g1 g2 g3 g4 g5 g6 g7
      simp only [zaj.s18]
      by_cases g8:k+t<l.length
      ·left
       have gx:=get_at (l:=l) (i:=k+t) g8
       have gp:=get_at (l:=l) (i:=k+(t-1)) (by omega)
       have yx:y[k+t]?=some l[k+t]:=by rw [g7 _ (by omega)];exact gx
       have yp:y[k+(t-1)]?=some (l[k+(t-1)]'(by omega)):=by rw [g7 _ (by omega)];exact gp
       have hst2:=ztv (l:=l) (k:=k+(t-1)) (x:=l[k+t]) gp (by rw [show k+(t-1)+1=k+t by omega];exact gx)
       rw [show k+(t-1)+1=k+t by omega] at hst2
       rw [zkB (show (↑t:Int)<(↑(List.length y-k):Int) by omega),zkD,zaq yx,zar (by omega),show Int.toNat ((↑t:Int)-1)=t-1 by omega,zaq yp,hq _ (List.getElem_mem _) _ (List.getElem_mem _)]
       simp only [Option.bind_some]
       by_cases g9:l[k+t]=l[k+(t-1)]'(by omega)
       ·rw [if_pos g9] at hst2
        refine ⟨(y,kk,t+1),by rw [zkB g9];rfl,⟨by simp only;omega,by simp only;omega,g3,?_,by simp only;omega,?_,g7⟩,by simp only;omega⟩
        ·simp only
         rw [show k+(t+1)=k+t+1 by omega,hst2]
         exact g4
        ·simp only
         rw [show k+(t+1)=k+t+1 by omega,hst2]
         exact g6
       ·rw [if_neg g9] at hst2
        have yk:=get_at (l:=y) (i:=kk) (by omega)
        refine ⟨(y.set kk l[k+t],kk+1,t+1),?_,⟨by simp only;omega,by simp only;omega,by simp only [List.length_set];exact g3,?_,by simp only;omega,?_,fun j hj=>?_⟩,by simp only;omega⟩
        ·rw [zkA g9]
         simp only [Bool.not_false,zkD]
         rw [zaq yx,zaq yk,zar (by unfold inR;omega)]
        ·simp only
         rw [show k+(t+1)=k+t+1 by omega,hst2,zkJ,← g4]
         rfl
        ·simp only
         have e1:(y.set kk l[k+t])[kk]?=some l[k+t]:=by rw [List.getElem?_set];simp;omega
         rw [show k+(t+1)=k+t+1 by omega,hst2,zbk e1,List.take_set_of_le (Nat.le_refl _),g6]
        ·simp only at hj
         rw [List.getElem?_set_ne (by omega)]
         exact g7 j (by omega)
      ·right
       have e:k+t=l.length:=by omega
       refine ⟨(y,kk),?_,by simp only;omega,g3,?_⟩
       ·rw [zkA (by omega),zkC]
       ·simp only
        rw [e,List.take_length] at g6
        exact g6) fuel (l,k,1) ⟨Nat.le_refl _,by simp only;omega,rfl,by simp only;rw [hst,h4,List.length_take];omega,by simp only;omega,by simp only;rw [hst,h4],fun j _=>rfl⟩ (by have:=zdn;simp only;omega)
    obtain ⟨⟨y,kk⟩,e,g1,g2,g3⟩:=inner
    simp only at g1 g2 g3
    refine ⟨.inr (zcr l),?_,rfl⟩
    rw [e]
    simp only [Option.bind_some,zaj.k19]
    have e2:(List.take kk y++List.replicate (List.length y-kk) ([]:List Int)).length=l.length:=by
     rw [zkJ,List.length_take,List.length_replicate]
     omega
    rw [zar (by omega),zar (by omega),zar (by rw [e2];omega),List.take_append_of_le_length (by rw [List.length_take];omega),List.take_take,Nat.min_self,g3]
   ·left
    rw [if_neg h6] at hst
    refine ⟨k+1,by rw [zkA h6];rfl,⟨by omega,by omega,?_⟩,by omega⟩
    rw [hst,h4,zbk hx]
  ·right
   have e:k=l.length:=by omega
   subst e
   refine ⟨.inl (),?_,?_⟩
   ·rw [zes];rfl
   ·rw [List.take_length] at h4
    rw [h4]
    rfl) 1 ⟨Nat.le_refl _,by omega,zro (by rw [List.length_take];omega)⟩
 obtain ⟨r,e,hr⟩:=key;rw [e];exact hr
theorem zfa {w:List Int} (h:SmW w):zdm w=some w:=by
 unfold zdm zn4;exact zar (by unfold SmW at h;unfold za7;omega)
theorem zvk {l:List (List Int)} (h:l.length≤2000000):zhm l=some l:=by
 unfold zhm zn4;exact zar (by unfold za7;omega)
theorem zv6 {cf:List Int→List Int→Int} (T:znk cf) {f:List Int→List Int→Option Int} {l:List (List Int)} (hl:SmL l) (hf:∀ a∈l,∀ b∈l,f a b=some (cf a b)) :
  ∃ S,zcg l f=some S∧S.Pairwise (fun a b=>cf a b=-1)∧(∀ x,x∈S↔x∈l)∧S.length≤l.length:=by
 have hl1:l.length≤2000000:=hl.1;obtain ⟨S,e1,hp,hs⟩:=libSort_eq T (by omega:l.length≤1000000000) hf;obtain ⟨d1,d2⟩:=dedup_asc T hs;have hm:∀ x,x∈zcr S↔x∈l:=fun x=>by rw [d2,hp.mem_iff]
 have hlen:(zcr S).length≤l.length:=by
  have:=dedupA_length S;rw [hp.length_eq] at this;exact this
 refine ⟨zcr S,?_,d1,hm,hlen⟩;unfold zcg zhf;rw [zvk hl1];simp only [Option.bind_some];rw [e1];simp only [Option.bind_some]
 rw [compact_eq (by rw [hp.length_eq];omega) (fun a ha b hb=>by
  unfold zey
  rw [hf a (hp.mem_iff.1 ha) b (hp.mem_iff.1 hb)]
  simp only [Option.bind_some]
  congr 1
  exact decide_eq_decide.2 (T.zero a b))]
 simp only [Option.bind_some]
 rw [zcw (r:=zcr S) (fun s=>s.1=zcr S) (fun s=>(zcr S).length-s.2) (fun s h1=>by
  simp only [zcg.s2]
  by_cases h3:s.2<(zcr S).length
  ·left
   have hx:=get_at h3
   have hxs:SmW ((zcr S)[s.2]):=hl.2 _ ((hm _).1 (List.getElem_mem _))
   refine ⟨(zcr S,s.2+1),?_,rfl,by simp only;omega⟩
   rw [zcb hx,zkD,h1,zaq hx,zfa hxs]
   simp only [Option.bind_some]
   rw [zaq hx,zar (by unfold inR;omega),List.set_getElem_self]
  ·right
   rw [zkA (by omega),zkC,h1]) (s:=(zcr S,0)) rfl]
 rfl
theorem zcm {l:List (List Int)} (hl:SmL l):zcj l=some (sortW l):=by
 obtain ⟨S,e,h1,h2,_⟩:=zv6 cmpW_total (f:=fun u0 u1=>zd3 u0 u1) hl fun a ha b hb=>zhl a b (by have:SmW a:=hl.2 a ha;unfold SmW at this;omega);unfold zcj;rw [e];show some S=_;congr 1;exact zor h1 (zel l) fun x=>by rw [h2,zb6]
theorem zn3 {l:List (List Int)} (h:SmL l):SmL (sortW l):=⟨Nat.le_trans (zd4 l) h.1,fun x hx=>h.2 x ((zb6 l x).1 hx)⟩
theorem zl1 {ls:List (List (List Int))} (h0:ls.length≤100000000) (hl:SmL ls.flatten):zge ls=some (sortW ls.flatten):=by
 unfold zge;rw [concat_words ls h0 (by have:=hl.1;omega)];simp only [Option.bind_some];rw [zcm hl];rfl
theorem preL_take_len {l:List (List Int)} (i:Nat):(preL (l.take i)).length≤(preL l).length:=by
 unfold preL;rw [List.flatMap_def,List.flatMap_def,List.map_take];exact zhk i
theorem zoo {l:List (List Int)} (hl:SmL l) (hp:SmL (preL l)):zfj l=some (sortW (preL l)):=by
 have hl1:l.length≤2000000:=hl.1;have hp1:(preL l).length≤2000000:=hp.1;unfold zfj zbp
 rw [zcw (r:=preL l) (fun s=>s.2≤l.length∧s.1=preL (l.take s.2)) (fun s=>l.length-s.2) (fun s ⟨h1,h2⟩=>by
  obtain ⟨y,i⟩:=s
  simp only at h1 h2
  subst h2
  simp only [zbp.s14]
  by_cases h3:i<l.length
  ·left
   have hx:=get_at h3
   have hxs:SmW l[i]:=hl.2 _ (List.getElem_mem _)
   have hx1:l[i].length≤2000000:=hxs
   have hst:=preL_step hx
   have hle:=preL_take_len (l:=l) (i+1)
   rw [hst,zkJ,ze0] at hle
   refine ⟨(preL (l.take (i+1)),i+1),?_,⟨h3,rfl⟩,by simp only;omega⟩
   rw [zcb hx,zkD,zaq hx,zar (by unfold inR;omega)]
   rw [zcw (r:=preL (l.take i)++prefixes l[i]) (fun s=>s.2≤l[i].length+1∧s.1=preL (l.take i)++(prefixes l[i]).take s.2) (fun s=>l[i].length+1-s.2) (fun s ⟨g1,g2⟩=>by
    obtain ⟨y,k⟩:=s
    simp only at g1 g2
    subst g2
    simp only [zbp.s13,zem]
    by_cases g3:k<l[i].length+1
    ·left
     refine ⟨(preL (l.take i)++(prefixes l[i]).take (k+1),k+1),?_,⟨g3,rfl⟩,by simp only;omega⟩
     rw [zkB (by omega),zkD,zar (by omega),Int.toNat_natCast]
     simp only [zap]
     rw [zar (by
      rw [zkJ,List.length_take,ze0]
      unfold za7
      omega),zar (by unfold inR;omega),prefixes_take _ (by omega),List.append_assoc]
    ·right
     have e:k=l[i].length+1:=by omega
     subst e
     rw [zkA (by omega),zkC,← ze0,List.take_length]) (s:=(preL (l.take i),0)) ⟨Nat.zero_le _,by simp⟩]
   rw [hst]
   rfl
  ·right
   have e:i=l.length:=by omega
   subst e
   rw [zkA (by omega),zkC,List.take_length]) (s:=([],0)) ⟨Nat.zero_le _,by simp [preL]⟩]
 simp only [zap];rw [zcm hp];rfl
theorem zs4 (a b:List (List Int)):[a,b].flatten=a++b:=by simp
theorem zkv {a b:List (List Int)} (h:a.length+b.length≤2000000) (ha:SmL a) (hb:SmL b):SmL (a++b) :=
 ⟨by rw [zkJ];exact h,fun x hx=>(List.mem_append.1 hx).elim (ha.2 x) (hb.2 x)⟩
theorem sml_nil:SmL []:=⟨by simp,fun x hx=>by cases hx⟩
def zi8 (t:zac) (p s:List (List Int)):zac×Int :=
 if zdf ⟨t.Inputs,sortW (t.Prefixes++p),sortW (t.Suffixes++s)⟩≠0 then (t,zdf ⟨t.Inputs,sortW (t.Prefixes++p),sortW (t.Suffixes++s)⟩) else (⟨t.Inputs,sortW (t.Prefixes++p),sortW (t.Suffixes++s)⟩,0)
def zex (t:zac) (w:List Int):zac×Int :=
 if zdf t≠0 then (t,zdf t) else if zbl w t.Inputs≠0 then (t,zbl w t.Inputs) else zi8 t (sortW (preL [w])) []
def zfi (t:zac) (w:List Int):zac×Int :=
 if zdf t≠0 then (t,zdf t) else if w.length=0 then (t,19) else if zbl w t.Inputs≠0 then (t,zbl w t.Inputs) else zi8 t [] [w]
theorem smt_grow {t:zac} {p s:List (List Int)} (ht:SmT t) (hp:SmL p) (hs:SmL s) (h3:t.Prefixes.length+p.length≤2000000) (h4:t.Suffixes.length+s.length≤2000000) (hr:∀ x∈p,∀ a∈x,inR a) :
  SmT ⟨t.Inputs,sortW (t.Prefixes++p),sortW (t.Suffixes++s)⟩ :=
 ⟨ht.1,zn3 (zkv h3 ht.2.1 hp),zn3 (zkv h4 ht.2.2.1 hs),fun x hx=>by
  rcases List.mem_append.1 ((zb6 _ _).1 hx) with h | h
  ·exact ht.2.2.2 x h
  ·exact hr x h⟩
theorem zma {t u:zac} (hu:SmT u):zga t u=some (if zdf u≠0 then (t,zdf u) else (u,0)):=by
 unfold zga;rw [zfq u hu];by_cases h:zdf u=0<;>simp [h]
theorem zi6 (w:List Int):preL [w]=prefixes w:=by simp [preL]
theorem sml_pre {w:List Int} (hw:w.length≤100000):SmL (preL [w]):=by
 rw [zi6];refine ⟨by rw [ze0];omega,fun x hx=>?_⟩;unfold prefixes at hx;obtain ⟨k,_,rfl⟩:=List.mem_map.1 hx;show (w.take k).length≤2000000;rw [List.length_take];omega
theorem sml_one {w:List Int} (hw:w.length≤100000):SmL [w]:=⟨by simp,fun x hx=>by rcases List.mem_singleton.1 hx with rfl;show x.length≤2000000;omega⟩
theorem zm8 {t:zac} {w:List Int} (ht:SmT t) (hw:w.length≤100000) (hr:∀ a∈w,inR a) (h3:t.Prefixes.length+200000≤2000000):zg5 t w=some (zex t w):=by
 unfold zg5 zex
 have hpl:(sortW (preL [w])).length≤100001:=by
  have:=zd4 (preL [w]);rw [zi6,ze0] at this;rw [zi6];omega
 have hsp:=zn3 (sml_pre hw);rw [zfq t ht,zfe w _ (by unfold SmW;omega),zoo (sml_one hw) (sml_pre hw)];simp only [zap];by_cases h1:zdf t=0
 ·by_cases h2:zbl w t.Inputs=0
  ·rw [zkA (by simpa using h1),zkA (by simpa using h2),if_neg (by simpa using h1),if_neg (by simpa using h2),zkC,zkC];rw [zl1 (by simp) (by rw [zs4];exact zkv (by omega) ht.2.1 hsp),zcm ht.2.2.1,zs4];simp only [zap]
   have hg:=smt_grow (s:=[]) ht hsp sml_nil (by omega) (by have:=ht.2.2.1.1;simp;omega) (fun x hx a ha=>by
    have hx:=(zb6 _ _).1 hx
    rw [zi6] at hx
    unfold prefixes at hx
    obtain ⟨k,_,rfl⟩:=List.mem_map.1 hx
    exact hr a (List.mem_of_mem_take ha))
   rw [List.append_nil] at hg;rw [zma hg];unfold zi8;rw [List.append_nil];rfl
  ·rw [zkA (by simpa using h1),zkB h2,if_neg (by simpa using h1),if_pos h2,zkC,zkD]
 ·rw [zkB h1,if_pos h1,zkD]
theorem ztg {t:zac} {w:List Int} (ht:SmT t) (hw:w.length≤100000) (h3:t.Suffixes.length+200000≤2000000):zip t w=some (zfi t w):=by
 unfold zip zfi;rw [zfq t ht,zfe w _ (by unfold SmW;omega)];simp only [zap];by_cases h1:zdf t=0
 ·rw [zkA (by simpa using h1),if_neg (by simpa using h1),zkC];by_cases h0:w.length=0
  ·rw [zkB (by omega),zkD,if_pos h0]
  ·rw [zkA (by omega),zkC,if_neg h0];by_cases h2:zbl w t.Inputs=0
   ·rw [zkA (by simpa using h2),if_neg (by simpa using h2),zkC];rw [zl1 (by simp) (by rw [zs4];exact zkv (by simp;omega) ht.2.2.1 (sml_one hw)),zcm ht.2.1,zs4];simp only [zap];have hg:=smt_grow (p:=[]) (s:=[w]) ht sml_nil (sml_one hw) (by have:=ht.2.1.1;simp;omega) (by simp;omega) (fun x hx=>by cases hx);rw [List.append_nil] at hg;rw [zma hg];unfold zi8;rw [List.append_nil];rfl
   ·rw [zkB h2,if_pos h2,zkD]
 ·rw [zkB h1,if_pos h1,zkD]
def SmO (o:zad):Prop:=o.Traces.length≤1100000∧∀ t∈o.Traces,t.In.length≤1100000∧t.Out.length≤2000000
theorem zsh (w p:List Int) (hw:SmW w):zgf w p=some (decide (p <+: w)):=by
 unfold zgf;rw [zlj w p hw,zap];congr 1;exact decide_eq_decide.2 (by rw [← znv w p];omega)
theorem zkm (a b:List Int) (ha:SmW a):zdt a b=some (za3 a b:Int):=by
 have ha':a.length≤2000000:=ha;have hle:=zlf a b;unfold zdt
 have key:=zf5 (step:=fun k=>zdt.s2 a b k) (fun k=>k≤a.length∧k≤b.length∧za3 a b=za3 (a.drop k) (b.drop k)+k) (fun k=>a.length-k) (fun r=>Sum.elim (fun (_:Unit)=>some (min (↑a.length:Int) (↑b.length:Int))) some r=some (za3 a b:Int)) (fun k ⟨h1,h2,h3⟩=>by
  simp only [zdt.s2]
  by_cases h4:k<a.length∧k<b.length
  ·have hx:=get_at h4.1
   have hy:=get_at h4.2
   rw [zkB (show (↑k:Int)<min (↑a.length:Int) (↑b.length:Int) by omega),zkD,zaq hx,zaq hy]
   rw [List.drop_eq_getElem_cons h4.1,List.drop_eq_getElem_cons h4.2] at h3
   by_cases e:a[k]=b[k]
   ·left
    refine ⟨k+1,by simp [e],⟨h4.1,h4.2,?_⟩,by omega⟩
    rw [h3,e]
    simp [za3]
    omega
   ·right
    simp only [za3,e,if_false,Nat.zero_add] at h3
    exact ⟨.inr (k:Int),by simp [e],by rw [h3];rfl⟩
  ·right
   rw [zkA (by omega),zkC]
   refine ⟨.inl (),rfl,?_⟩
   rw [zqo (by omega),Nat.zero_add] at h3
   simp only [Sum.elim_inl]
   congr 1
   omega) 0 ⟨Nat.zero_le _,Nat.zero_le _,by simp⟩
 obtain ⟨r,e,hq⟩:=key;rw [e];exact hq
theorem zew (w p:List Int) (hw:SmW w):zdl w p=some (decide (p <+: w)):=by
 unfold zdl;rw [zkm w p hw,zap];congr 1;exact decide_eq_decide.2 (by rw [← znv w p];omega)
def zsi (n:Int) (t:zaa):Prop:=zbl t.In n=0∧t.Out.length=t.In.length∧∀ y∈t.Out,0≤y∧y≤1048576
def Agree (a b:zaa):Prop:=a.Out.take (za3 a.In b.In)=b.Out.take (za3 a.In b.In)
structure zeg (o:zad):Prop where
 inp:1≤o.Inputs∧o.Inputs≤64
 num:o.Traces.length≤10000
 prop:∀ t∈o.Traces,zsi o.Inputs t∧t.In≠[]
 asc:∀ (i j:Nat) a b,i<j→o.Traces[i]?=some a→o.Traces[j]?=some b→cmpW a.In b.In=-1
 apart:∀ (i j:Nat) a b,i<j→o.Traces[i]?=some a→o.Traces[j]?=some b→¬ a.In <+: b.In∧Agree a b
def ansO (o:zad) (w:List Int):Option (List Int) :=
 if w=[] then some [] else (o.Traces.find? fun t=>decide (w <+: t.In)).map fun t=>t.Out.take w.length
abbrev tw {α:Type} (x:Option (List α)):List α×Bool:=match x with | some r=>(r,true) | none=>([],false)
theorem smo_in {o:zad} (ho:SmO o) {t:zaa} (h:t∈o.Traces):SmW t.In:=by
 have:=(ho.2 t h).1;unfold SmW;omega
theorem pre_len {p w:List Int} (h:p <+: w):p.length≤w.length:=h.length_le
def zr3 (o:zad) (F:List zaa):Prop:=F.Perm o.Traces∧F.Pairwise fun a b=>lexI a.In b.In=-1
theorem in_inj {o:zad} (hv:zeg o) {a b:zaa} (ha:a∈o.Traces) (hb:b∈o.Traces) (h:a.In=b.In):a=b:=by
 obtain ⟨i,hi,rfl⟩:=List.mem_iff_getElem.1 ha;obtain ⟨j,hj,rfl⟩:=List.mem_iff_getElem.1 hb;rcases Nat.lt_trichotomy i j with hlt | heq | hgt
 ·have:=hv.asc i j _ _ hlt (get_at hi) (get_at hj);rw [h,zeu] at this;cases this
 ·subst heq;rfl
 ·have:=hv.asc j i _ _ hgt (get_at hj) (get_at hi);rw [h,zeu] at this;cases this
theorem zp2 {o:zad} (ho:SmO o) (hv:zeg o):∃ F,zje o=some F∧zr3 o F:=by
 have hl:=ho.1
 have hf:∀ a∈o.Traces,∀ b∈o.Traces,zbs a b=some (lexI a.In b.In):=fun a ha b hb=>by
  unfold zbs;rw [zjm _ _ (by have:=smo_in ho ha;unfold SmW at this;omega),zap]
 have htot:totB (fun u0 u1=>zbs u0 u1) o.Traces=true:=by
  refine List.all_eq_true.2 fun a ha=>List.all_eq_true.2 fun b hb=>?_;simp only [hf a ha b hb,hf b hb a ha,Bool.and_eq_true];refine ⟨⟨⟨?_,?_⟩,?_⟩,List.all_eq_true.2 fun c hc=>?_⟩
  ·rw [beq_iff_eq];have:=zjh a.In b.In;exact decide_eq_decide.2 ⟨fun h=>in_inj hv ha hb (this.1 h),fun h=>this.2 (by rw [h])⟩
  ·rw [beq_iff_eq];have:=zil a.In b.In;exact decide_eq_decide.2 (by omega)
  ·have:=zgc a.In b.In;exact zkB (by omega)
  ·rw [hf b hb c hc,hf a ha c hc];have r1:=zgc a.In b.In;have r2:=zgc b.In c.In;by_cases h1:lexI a.In b.In<0
   ·by_cases h2:lexI b.In c.In<0
    ·have:=zjb a.In b.In c.In (by omega) (by omega);simp [h1,h2,this]
    ·simp [h1,h2]
   ·simp [h1]
 refine ⟨zgq (fun u0 u1=>zbs u0 u1) o.Traces,?_,zec _ _,?_⟩
 ·unfold zje zit zn4 zg3 zqh;rw [zar (by unfold za7;omega),zap,zar (by omega),htot];rfl
 ·have T:=totB_iff htot;have h:=zi9 T;have hperm:=zec (fun u0 u1=>zbs u0 u1) o.Traces
  have hnd:(zgq (fun u0 u1=>zbs u0 u1) o.Traces).Nodup:=by
   refine hperm.nodup_iff.2 ?_;rw [List.Nodup,List.pairwise_iff_getElem];intro i j hi hj hij e;have:=hv.asc i j _ _ hij (get_at hi) (get_at hj);rw [e,zeu] at this;cases this
  rw [List.pairwise_iff_getElem] at h ⊢;rw [List.Nodup,List.pairwise_iff_getElem] at hnd;intro i j hi hj hij;have h1:=h i j hi hj hij;have hne:=hnd i j hi hj hij;have m1:=hperm.mem_iff.1 (List.getElem_mem hi);have m2:=hperm.mem_iff.1 (List.getElem_mem hj);unfold NGt cfv at h1;simp only [hf _ m2 _ m1,Option.getD_some] at h1;have r:=zgc (zgq (fun u0 u1=>zbs u0 u1) o.Traces)[j].In (zgq (fun u0 u1=>zbs u0 u1) o.Traces)[i].In;have s:=zil (zgq (fun u0 u1=>zbs u0 u1) o.Traces)[j].In (zgq (fun u0 u1=>zbs u0 u1) o.Traces)[i].In;have z:=zjh (zgq (fun u0 u1=>zbs u0 u1) o.Traces)[j].In (zgq (fun u0 u1=>zbs u0 u1) o.Traces)[i].In;have hz:¬ lexI (zgq (fun u0 u1=>zbs u0 u1) o.Traces)[j].In (zgq (fun u0 u1=>zbs u0 u1) o.Traces)[i].In=0:=fun e=>hne (in_inj hv m1 m2 (z.1 e).symm);omega
theorem search_eq {F:List zaa} {w:List Int} (hs:F.Pairwise fun a b=>lexI a.In b.In=-1) (hl:F.length≤2000000) (hw:∀ t∈F,SmW t.In) :
  ∃ k:Nat,∃ b,zam F w (fun u0 u1=>zbu u0 u1)=some ((↑k:Int),b)∧k≤F.length∧(∀ j t,j<k→F[j]?=some t→lexI t.In w=-1)∧∀ t,F[k]?=some t→lexI t.In w≠-1:=by
 have hc:∀ t∈F,zbu t w=some (lexI t.In w):=fun t ht=>by
  unfold zbu;rw [zjm _ _ (by have:=hw t ht;unfold SmW at this;omega),zap]
 have hlt:∀ {i j:Nat} {a b:zaa},i<j→F[i]?=some a→F[j]?=some b→lexI a.In b.In=-1:=fun {i j a b} hij ha hb=>by
  obtain ⟨hi,rfl⟩:=zkI.1 ha;obtain ⟨hj,rfl⟩:=zkI.1 hb;exact List.pairwise_iff_getElem.1 hs i j hi hj hij
 have key:=zd9 (step:=fun (s:Int×Int)=>zam.s2 F w (fun u0 u1=>zbu u0 u1) s.1 s.2)
  (fun s=>∃ i j:Nat,s.1=(i:Int)∧s.2=(j:Int)∧i≤j∧j≤F.length∧(∀ k t,k<i→F[k]?=some t→lexI t.In w=-1)∧∀ k t,j≤k→F[k]?=some t→lexI t.In w≠-1) (fun s=>(s.2-s.1).toNat)
  (fun r=>∃ k:Nat,r=(k:Int)∧k≤F.length∧(∀ j t,j<k→F[j]?=some t→lexI t.In w=-1)∧∀ t,F[k]?=some t→lexI t.In w≠-1) (fun s ⟨i,j,g1,g2,g3,g4,g5,g6⟩=>by
   obtain ⟨si,sj⟩:=s
   simp only at g1 g2
   subst g1 g2
   simp only [zam.s2]
   by_cases g7:i<j
   ·left
    have hmid:((↑i:Int)+↑j) / 2^1=((i+j) / 2:Nat):=by omega
    have hx:=get_at (l:=F) (i:=(i+j) / 2) (by omega)
    rw [zkB (by omega),zkD,zar (by unfold inR;omega),zar (by omega),zar (by omega),zar (by unfold inR;omega),zbd hmid hx,hc _ (List.getElem_mem _),zap]
    have r:=zgc (F[(i+j) / 2]'(by omega)).In w
    by_cases g8:lexI (F[(i+j) / 2]'(by omega)).In w<0
    ·refine ⟨(((i+j) / 2+1:Nat),(j:Int)),?_,⟨(i+j) / 2+1,j,rfl,rfl,by omega,g4,fun k t hk ht=>?_,g6⟩,by simp only;omega⟩
     ·rw [zkB g8,zkD,zar (by unfold inR;omega),hmid]
      simp
     ·rcases Nat.lt_or_ge k ((i+j) / 2) with h | h
      ·exact zjb _ _ _ (hlt h ht hx) (by omega)
      ·have e:k=(i+j) / 2:=by omega
       subst e
       rw [hx] at ht
       injection ht with ht
       subst ht
       omega
    ·refine ⟨((i:Int),(((i+j) / 2:Nat):Int)),?_,⟨i,(i+j) / 2,rfl,rfl,by omega,by omega,g5,fun k t hk ht=>?_⟩,by simp only;omega⟩
     ·rw [zkA g8,zkC,hmid]
     ·intro h9
      rcases Nat.lt_or_ge ((i+j) / 2) k with h | h
      ·have:=zjb _ _ _ (hlt h hx ht) h9
       omega
      ·have e:k=(i+j) / 2:=by omega
       subst e
       rw [hx] at ht
       injection ht with ht
       subst ht
       omega
   ·right
    have e:i=j:=by omega
    subst e
    refine ⟨(i:Int),by rw [zkA (by omega),zkC],i,rfl,g4,g5,fun t ht=>g6 i t (Nat.le_refl _) ht⟩) fuel (0,(↑F.length:Int)) ⟨0,F.length,rfl,rfl,Nat.zero_le _,Nat.le_refl _,fun k t h=>by omega,fun k t h ht=>by
    have:=(zkI.1 ht).1
    omega⟩ (by have:=zdn;simp only;omega)
 obtain ⟨r,e,k,hk,h1,h2,h3⟩:=key;subst hk;unfold zam;rw [e,zap];by_cases h4:k<F.length
 ·have hx:=get_at h4;rw [zkB (by omega),zkD,zbd rfl hx,show (fun (u0:zaa) (u1:List Int)=>zbu u0 u1) F[k] w=some (lexI F[k].In w) from hc _ (List.getElem_mem _),zap,zap];exact ⟨k,_,rfl,h1,h2,h3⟩
 ·rw [zkA (by omega),zkC,zap];exact ⟨k,_,rfl,h1,h2,h3⟩
theorem zl3 {o:zad} {F:List zaa} {w:List Int} (ho:SmO o) (hv:zeg o) (hF:zr3 o F):zdh F w=some (tw (ansO o w)):=by
 obtain ⟨hp,hs⟩:=hF;have hFl:F.length≤1100000:=by rw [hp.length_eq];exact ho.1
 have hFm:∀ t∈F,t∈o.Traces:=fun t ht=>hp.mem_iff.1 ht;obtain ⟨k,b,e,h1,h2,h3⟩:=search_eq (w:=w) hs (by omega) fun t ht=>smo_in ho (hFm t ht);unfold zdh ansO;by_cases h0:w=[]
 ·subst h0;rfl
 ·have hwl:w.length≠0:=fun h=>h0 (List.eq_nil_of_length_eq_zero h);rw [if_neg h0,zkA (by omega),zkC,e,zap];simp only
  -- whatever trace begins with the word, the first one that is not before it does
  have hfirst:∀ t∈o.Traces,w <+: t.In→∃ u,F[k]?=some u∧w <+: u.In:=fun t ht hpre=>by
   have htF:t∈F:=hp.mem_iff.2 ht;obtain ⟨j,hj,rfl⟩:=List.mem_iff_getElem.1 htF
   have hge:lexI F[j].In w≠-1:=by
    by_cases hew:w=F[j].In
    ·rw [← hew,lexI_refl];decide
    ·have:=zqn w F[j].In hpre hew;have:=zil w F[j].In;omega
   have hkj:k≤j:=by
    rcases Nat.lt_or_ge j k with h | h
    ·exact absurd (h2 j _ h (get_at hj)) hge
    ·exact h
   have hx:=get_at (l:=F) (i:=k) (by omega);refine ⟨_,hx,?_⟩;have hk1:=h3 _ hx;rcases Nat.lt_or_ge k j with h | h
   ·have hlt:lexI (F[k]'(by omega)).In F[j].In=-1:=List.pairwise_iff_getElem.1 hs k j (by omega) hj h;have r:=zgc (F[k]'(by omega)).In w;have s:=zil (F[k]'(by omega)).In w;by_cases hz:lexI (F[k]'(by omega)).In w=0
    ·rw [(zjh _ _).1 hz];exact List.prefix_refl _
    ·exact zom w _ _ (by omega) (Or.inr hlt) hpre
   ·have ej:j=k:=by omega
    subst ej;exact hpre
  cases hfd:o.Traces.find? fun t=>decide (w <+: t.In) with
  | none =>
   have hno:∀ t∈o.Traces,¬ w <+: t.In:=fun t ht=>by simpa using List.find?_eq_none.1 hfd t ht
   by_cases h4:k=F.length
   ·rw [zkB (by omega),zkD,zap,zkD];rfl
   ·have hx:=get_at (l:=F) (i:=k) (by omega);have hxm:=hFm _ (List.getElem_mem (show k<F.length by omega));rw [zkA (by omega),zkC,zbd rfl hx,zew _ _ (smo_in ho hxm),zap,zkA (hno _ hxm)];rfl
  | some t =>
   have htm:=List.mem_of_find?_eq_some hfd;have hpre:w <+: t.In:=by simpa using List.find?_some hfd
   obtain ⟨u,hu,hpu⟩:=hfirst t htm hpre;have hum:=hFm u (zkH hu);have hku:=(zkI.1 hu).1;have lt:=(hv.prop t htm).1.2.1;have lu:=(hv.prop u hum).1.2.1;have p1:=pre_len hpre;have p2:=pre_len hpu
   -- both answer alike
   have hsame:u.Out.take w.length=t.Out.take w.length:=by
    by_cases hut:u=t
    ·rw [hut]
    ·have hag:∀ a∈o.Traces,∀ b∈o.Traces,a≠b→w <+: a.In→w <+: b.In→a.Out.take w.length=b.Out.take w.length:=by
      intro a ha b hb hab hwa hwb
      have hcm:w.length≤za3 a.In b.In:=by
       obtain ⟨x,hx⟩:=hwa;obtain ⟨y,hy⟩:=hwb;rw [← hx,← hy]
       have:∀ (w x y:List Int),w.length≤za3 (w++x) (w++y):=by
        intro w
        induction w with
        | nil=>intro x y;exact Nat.zero_le _
        | cons z w ih =>
         intro x y;have:=ih x y;simp only [List.cons_append,za3,if_true,zkL];omega
       exact this w x y
      have hred:∀ (a b:zaa),Agree a b→w.length≤za3 a.In b.In→a.Out.take w.length=b.Out.take w.length:=fun a b hA hle=>by
       have h5:=congrArg (List.take w.length) hA;rw [List.take_take,List.take_take,Nat.min_eq_left hle] at h5;exact h5
      obtain ⟨i,hi,rfl⟩:=List.mem_iff_getElem.1 ha;obtain ⟨j,hj,rfl⟩:=List.mem_iff_getElem.1 hb;rcases Nat.lt_trichotomy i j with hlt | heq | hgt
      ·exact hred _ _ (hv.apart i j _ _ hlt (get_at hi) (get_at hj)).2 hcm
      ·subst heq;rfl
      ·have hcs:w.length≤za3 o.Traces[j].In o.Traces[i].In:=by
        have:∀ a b:List Int,za3 a b=za3 b a:=by
         intro a
         induction a with
         | nil=>intro b;cases b<;>rfl
         | cons x a ih =>
          intro b;cases b with
          | nil=>rfl
          | cons y b =>
           simp only [za3];by_cases h:x=y
           ·subst h;simp [ih b]
           ·have h':¬ y=x:=fun e=>h e.symm;simp [h,h']
        rw [this];exact hcm
       exact (hred _ _ (hv.apart j i _ _ hgt (get_at hj) (get_at hi)).2 hcs).symm
     exact hag u hum t htm hut hpu hpre
   have hc:(cond (decide ((↑k:Int)=(↑F.length:Int))) (some true) (idx F (↑k:Int) fun a2=>(zdl a2.In w).bind fun a6=>cond ((!a6)) (some true) (idx F (↑k:Int) fun a7=>some (decide ((↑a7.Out.length:Int)<(↑w.length:Int))))):Option Bool)=some false:=by
    rw [zkA (by omega),zkC,zbd rfl hu,zew _ _ (smo_in ho hum),zap,zkB hpu,Bool.not_true,zkC,zbd rfl hu,zkA (by omega)]
   rw [hc,zap,zkC,zbd rfl hu,zar (by omega),hsame];rfl
theorem scan_idx {α:Type} {p:α→Bool}:∀ (l:List α) (j:Nat),scan (fun i x=>if p x=true then some (↑i:Int) else none) j l=if l.any p=true then some (↑(j+l.findIdx p):Int) else none
 | [],_=>rfl
 | x::l,j=>by
  unfold scan;by_cases h:p x=true
  ·simp [h,List.findIdx_cons]
  ·have hf:p x=false:=by simpa using h
   rw [if_neg h];simp only;rw [scan_idx l (j+1)];simp only [List.any_cons,hf,Bool.false_or,List.findIdx_cons,zkC];split
   ·congr 2;omega
   ·rfl
theorem tindex_eq {l:List zaa} {f:zaa→Option Bool} {p:zaa→Bool} (hl:l.length≤100000000000000) (hf:∀ x∈l,f x=some (p x)) :
  zat l f=some (if l.any p=true then (↑(l.findIdx p):Int) else -1):=by
 unfold zat
 have key:=zcs (step:=fun s=>zat.s2 l f s) (l:=l) (fun i x=>if p x=true then some (↑i:Int) else none) (fun i x hx=>by
  simp only [zat.s2]
  rw [zcb hx,zkD,zaq hx,hf x (zkH hx),zap]
  cases p x<;>rfl) (by
  simp only [zat.s2]
  rw [zes]
  rfl) hl
 rw [key,scan_idx,zap];by_cases h:l.any p=true
 ·rw [if_pos h,if_pos h,Nat.zero_add];rfl
 ·rw [if_neg h,if_neg h];rfl
theorem cindex_eq {l:List Int} {f:Int→Option Bool} {p:Int→Bool} (hl:l.length≤100000000000000) (hf:∀ x∈l,f x=some (p x)) :
  zb9 l f=some (l.any p):=by
 unfold zb9 zbe
 have key:=zcs (step:=fun s=>zbe.s2 l f s) (l:=l) (fun i x=>if p x=true then some (↑i:Int) else none) (fun i x hx=>by
  simp only [zbe.s2]
  rw [zcb hx,zkD,zaq hx,hf x (zkH hx),zap]
  cases p x<;>rfl) (by
  simp only [zbe.s2]
  rw [zes]
  rfl) hl
 rw [key,scan_idx];by_cases h:l.any p=true
 ·rw [if_pos h,h];simp
 ·have h':l.any p=false:=by simpa using h
  rw [if_neg h,h'];rfl
def propI (t:zaa) (n:Int):Int :=
 if zbl t.In n≠0 then zbl t.In n else if t.Out.length≠t.In.length then 1 else if (t.Out.all fun y=>decide (0≤y∧y≤1048576))=true then 0 else 2
theorem znq {t:zaa} {n:Int}:propI t n=0↔zsi n t:=by
 unfold propI zsi;by_cases h1:zbl t.In n=0
 ·rw [if_neg (by simpa using h1)];by_cases h2:t.Out.length=t.In.length
  ·rw [if_neg (by simpa using h2)];by_cases h3:(t.Out.all fun y=>decide (0≤y∧y≤1048576))=true
   ·rw [if_pos h3];exact ⟨fun _=>⟨h1,h2,fun y hy=>of_decide_eq_true (List.all_eq_true.1 h3 y hy)⟩,fun _=>rfl⟩
   ·rw [if_neg h3];exact ⟨fun h=>(by cases h),fun h=>absurd (List.all_eq_true.2 fun y hy=>zkB (h.2.2 y hy)) h3⟩
  ·rw [if_pos h2];exact ⟨fun h=>(by cases h),fun h=>absurd h.2.1 h2⟩
 ·rw [if_pos h1];exact ⟨fun h=>absurd h h1,fun h=>absurd h.1 h1⟩
theorem zq2 (t:zaa) (n:Int) (h1:SmW t.In) (h2:SmW t.Out):zgr t n=some (propI t n):=by
 unfold zgr propI;rw [zfe _ _ h1,zap];by_cases g1:zbl t.In n=0
 ·rw [zkA (by simpa using g1),zkC,if_neg (by simpa using g1)];by_cases g2:t.Out.length=t.In.length
  ·rw [zkA (by omega),zkC,if_neg (by simpa using g2)]
   rw [cindex_eq (p:=fun y=>!decide (0≤y∧y≤1048576)) (by unfold SmW at h2;omega) fun y _=>by
    unfold zfn
    by_cases a1:y<0
    ·rw [zkB a1,zkD,zap,zkA (show ¬ (0≤y∧y≤1048576) by omega)];rfl
    ·by_cases a2:1048576<y
     ·rw [zkA a1,zkC,zkB a2,zap,zkA (show ¬ (0≤y∧y≤1048576) by omega)];rfl
     ·rw [zkA a1,zkC,zkA a2,zap,zkB (show (0≤y∧y≤1048576) by omega)];rfl,zap]
   by_cases h:(t.Out.all fun y=>decide (0≤y∧y≤1048576))=true
   ·have h':(t.Out.any fun y=>!decide (0≤y∧y≤1048576))=false:=by
     rw [List.any_eq_false];intro y hy;have:=List.all_eq_true.1 h y hy;simp only [this,Bool.not_true];exact Bool.false_ne_true
    rw [h',zkC,if_pos h]
   ·have h':(t.Out.any fun y=>!decide (0≤y∧y≤1048576))=true:=by
     refine Classical.byContradiction fun hn=>h (List.all_eq_true.2 fun y hy=>?_);refine Classical.byContradiction fun hm=>hn (List.any_eq_true.2 ⟨y,hy,?_⟩);have:decide (0≤y∧y≤1048576)=false:=by simpa only [Bool.not_eq_true] using hm
     rw [this];rfl
    rw [h',zkD,if_neg h]
  ·rw [zkB (by omega),zkD,if_pos g2]
 ·rw [zkB g1,zkD,if_pos g1]
theorem ztr:∀ a b:List Int,za3 a b=za3 b a
 | [],[]=>rfl
 | [],_::_=>rfl
 | _::_,[]=>rfl
 | x::a,y::b=>by
  unfold za3;by_cases h:x=y
  ·rw [if_pos h,if_pos h.symm,ztr a b]
  ·rw [if_neg h,if_neg fun e=>h e.symm]
theorem Agree.symm {a b:zaa} (h:Agree a b):Agree b a:=by
 unfold Agree at h ⊢;rw [ztr];exact h.symm
theorem common_eq_iff {x y:List Int} (h:x.length=y.length):za3 x y=y.length↔x=y:=by
 rw [znv];exact ⟨fun hp=>(hp.eq_of_length h.symm).symm,fun e=>e ▸ List.prefix_refl _⟩
theorem zpa (a b:zaa) {n:Int} (ha:zsi n a) (hb:zsi n b) (h1:SmW a.In):∃ d,zgw a b=some d∧(0≤d↔¬ Agree a b):=by
 have h1':a.In.length≤2000000:=h1;have hc:=zlf a.In b.In;have la:=ha.2.1;have lb:=hb.2.1;unfold zgw;rw [zkm _ _ h1,zap];have hm:min (min (↑(za3 a.In b.In):Int) (↑a.Out.length:Int)) (↑b.Out.length:Int)=↑(za3 a.In b.In):=by omega
 rw [hm,zar (by omega),zar (by omega),Int.toNat_natCast,zkm _ _ (by unfold SmW;rw [List.length_take];omega),zap];have l1:(a.Out.take (za3 a.In b.In)).length=za3 a.In b.In:=by rw [List.length_take];omega
 have l2:(b.Out.take (za3 a.In b.In)).length=za3 a.In b.In:=by rw [List.length_take];omega
 have hle:=zlf (a.Out.take (za3 a.In b.In)) (b.Out.take (za3 a.In b.In));have hiff:=common_eq_iff (x:=a.Out.take (za3 a.In b.In)) (y:=b.Out.take (za3 a.In b.In)) (by omega);by_cases h:za3 (a.Out.take (za3 a.In b.In)) (b.Out.take (za3 a.In b.In))<za3 a.In b.In
 ·rw [zkB (by omega),zkD];exact ⟨_,rfl,fun _ hA=>by have:=hiff.2 hA;omega,fun _=>by omega⟩
 ·rw [zkA (by omega),zkC];exact ⟨-1,rfl,fun h=>absurd h (by decide),fun hA=>absurd (hiff.1 (by omega)) hA⟩
def zrr (l:List zaa) (t:zaa):Prop:=∃ u∈l,¬ Agree u t
def zhn (l:List zaa) (w:List Int):Bool:=l.any fun u=>decide (w <+: u.In)
def insT:List zaa→zaa→List zaa
 | [],t=>[t]
 | x::r,t=>if cmpW t.In x.In=-1 then t::x::r else x::insT r t
def zsb (l:List zaa) (t:zaa):List zaa:=l.filter fun u=>!decide (u.In <+: t.In)
def addL (l:List zaa) (t:zaa):List zaa:=if zhn l t.In=true∨t.In=[] then l else insT (zsb l t) t
instance (a b:zaa):Decidable (Agree a b):=by unfold Agree;infer_instance
instance (l:List zaa) (t:zaa):Decidable (zrr l t):=by unfold zrr;infer_instance
def addO (o:zad) (t:zaa):zad×Int :=
 if propI t o.Inputs≠0 then (o,propI t o.Inputs) else if zrr o.Traces t then (o,13) else if 10000<(addL o.Traces t).length then (o,11) else (⟨o.Inputs,addL o.Traces t⟩,0)
theorem zou (l:List zaa) (t:zaa):(insT l t).length=l.length+1:=by
 induction l with
 | nil=>rfl
 | cons x r ih =>
  unfold insT;split
  ·rfl
  ·simp [ih]
theorem zrz (l:List zaa) (t:zaa):(zsb l t).length≤l.length:=List.length_filter_le _ _
theorem ztp (l:List zaa) (t:zaa):(addL l t).length≤l.length+1:=by
 unfold addL;split
 ·omega
 ·rw [zou];have:=zrz l t;omega
theorem zi7 {l:List zaa} {t x:zaa}:x∈insT l t↔x=t∨x∈l:=by
 induction l with
 | nil=>simp [insT]
 | cons y r ih =>
  unfold insT;split
  ·simp
  ·simp only [List.mem_cons,ih];constructor
   ·rintro (h | h | h)
    ·exact .inr (.inl h)
    ·exact .inl h
    ·exact .inr (.inr h)
   ·rintro (h | h | h)
    ·exact .inr (.inl h)
    ·exact .inl h
    ·exact .inr (.inr h)
theorem insT_at:∀ {l:List zaa} {t:zaa} {k:Nat},k≤l.length→(∀ j x,j<k→l[j]?=some x→cmpW x.In t.In=-1)→(∀ x,l[k]?=some x→cmpW x.In t.In≠-1)→(∀ x∈l,x.In≠t.In)→insT l t=l.take k++[t]++l.drop k
 | [],t,k,hk,_,_,_=>by
  have:k=0:=by simpa using hk
  subst this;rfl
 | x::r,t,0,_,_,h2,h3=>by
  have h4:=h2 x rfl;have h5:=h3 x (by simp);have r1:=zjd x.In t.In;have z1:=zmp x.In t.In;have s1:=zle x.In t.In;have h6:¬ cmpW x.In t.In=0:=fun e=>h5 (z1.1 e);unfold insT;rw [if_pos (by omega)];rfl
 | x::r,t,k+1,hk,h1,h2,h3=>by
  have h4:=h1 0 x (Nat.succ_pos _) rfl;have s1:=zle x.In t.In;unfold insT;rw [if_neg (by omega),insT_at (k:=k) (by simpa using hk) (fun j y hj hy=>h1 (j+1) y (by omega) (by simpa using hy)) (fun y hy=>h2 y (by simpa using hy)) fun y hy=>h3 y (by simp [hy])];rfl
theorem zvd {S:zaa→zaa→Prop} {t:zaa}:∀ {l:List zaa},l.Pairwise S→(∀ x∈l,S x t∧S t x)→(insT l t).Pairwise S
 | [],_,_=>by simp [insT]
 | x::r,h,ht=>by
  unfold insT;have hx:=List.pairwise_cons.1 h;split
  ·exact List.pairwise_cons.2 ⟨fun y hy=>(ht y hy).2,h⟩
  ·refine List.pairwise_cons.2 ⟨fun y hy=>?_,zvd hx.2 fun y hy=>ht y (by simp [hy])⟩;rcases zi7.1 hy with e | e
   ·subst e;exact (ht x (by simp)).1
   ·exact hx.1 y e
theorem insT_asc {t:zaa}:∀ {l:List zaa},l.Pairwise (fun a b=>cmpW a.In b.In=-1)→(∀ x∈l,x.In≠t.In)→(insT l t).Pairwise (fun a b=>cmpW a.In b.In=-1)
 | [],_,_=>by simp [insT]
 | x::r,h,hn=>by
  unfold insT;have hx:=List.pairwise_cons.1 h;split
  ·rename_i h1;refine List.pairwise_cons.2 ⟨fun y hy=>?_,h⟩;rcases List.mem_cons.1 hy with e | e
   ·rw [e];exact h1
   ·exact zhy _ _ _ h1 (hx.1 y e)
  ·rename_i h1;refine List.pairwise_cons.2 ⟨fun y hy=>?_,insT_asc hx.2 fun y hy=>hn y (by simp [hy])⟩;rcases zi7.1 hy with e | e
   ·subst e;have r1:=zjd x.In y.In;have z1:=zmp x.In y.In;have s1:=zle x.In y.In;have h6:¬ cmpW x.In y.In=0:=fun e=>hn x (by simp) (z1.1 e);omega
   ·exact hx.1 y e
theorem zeg.pw {o:zad} (hv:zeg o):o.Traces.Pairwise (fun a b=>cmpW a.In b.In=-1)∧o.Traces.Pairwise (fun a b=>¬ a.In <+: b.In∧Agree a b) :=
 ⟨List.pairwise_iff_getElem.2 fun i j hi hj hij=>hv.asc i j _ _ hij (get_at hi) (get_at hj),List.pairwise_iff_getElem.2 fun i j hi hj hij=>hv.apart i j _ _ hij (get_at hi) (get_at hj)⟩
theorem obsOk_of {o:zad} (h1:1≤o.Inputs∧o.Inputs≤64) (h2:o.Traces.length≤10000) (h3:∀ t∈o.Traces,zsi o.Inputs t∧t.In≠[]) (h4:o.Traces.Pairwise (fun a b=>cmpW a.In b.In=-1)) (h5:o.Traces.Pairwise (fun a b=>¬ a.In <+: b.In∧Agree a b)):zeg o:=by
 refine ⟨h1,h2,h3,fun i j a b hij ha hb=>?_,fun i j a b hij ha hb=>?_⟩
 all_goals
  obtain ⟨hi,rfl⟩:=zkI.1 ha;obtain ⟨hj,rfl⟩:=zkI.1 hb
 ·exact List.pairwise_iff_getElem.1 h4 i j hi hj hij
 ·exact List.pairwise_iff_getElem.1 h5 i j hi hj hij
theorem zpt {l:List zaa} {w:List Int} (h:¬ zhn l w=true):∀ u∈l,¬ w <+: u.In:=fun u hu hp=>h (List.any_eq_true.2 ⟨u,hu,zkB hp⟩)
theorem addO_ok {o:zad} {t:zaa} (hv:zeg o):zeg (addO o t).1:=by
 unfold addO;split
 ·exact hv
 rename_i hp;have hp:zsi o.Inputs t:=znq.1 (by simpa using hp);split
 ·exact hv
 rename_i hc;split
 ·exact hv
 rename_i hn;have hn:(addL o.Traces t).length≤10000:=by omega
 unfold addL at hn ⊢;by_cases h:zhn o.Traces t.In=true∨t.In=[]
 ·rw [if_pos h];exact hv
 ·rw [if_neg h] at hn ⊢;have h1:=zpt fun e=>h (.inl e);have h2:t.In≠[]:=fun e=>h (.inr e);have hsub:(zsb o.Traces t).Sublist o.Traces:=List.filter_sublist
  have hrest:∀ x∈zsb o.Traces t,x∈o.Traces∧¬ x.In <+: t.In:=fun x hx=>by
   have:=List.mem_filter.1 hx;refine ⟨this.1,fun e=>?_⟩;rw [zkB e] at this;exact Bool.false_ne_true this.2
  have hag:∀ x∈o.Traces,Agree x t:=fun x hx=>Classical.byContradiction fun e=>hc ⟨x,hx,e⟩;refine obsOk_of hv.inp hn (fun x hx=>?_) (insT_asc (hv.pw.1.sublist hsub) fun x hx e=>(hrest x hx).2 (e ▸ List.prefix_refl _)) (zvd (hv.pw.2.sublist hsub) fun x hx=>⟨⟨(hrest x hx).2,hag x (hrest x hx).1⟩,h1 x (hrest x hx).1,(hag x (hrest x hx).1).symm⟩);rcases zi7.1 hx with e | e
  ·rw [e];exact ⟨hp,h2⟩
  ·exact hv.prop x (hrest x e).1
def SmX (t:zaa):Prop:=SmW t.In∧SmW t.Out
def SmTr (l:List zaa):Prop:=l.length≤1200000∧∀ t∈l,SmX t
theorem capT {n:Nat} (h:n≤3000000):za7 n 48:=by unfold za7;omega
theorem zkx {t:zaa} (h:SmX t):zfp t=some t:=by
 unfold zfp;rw [zfa h.1,zap,zfa h.2,zap]
theorem zr9 {l:List zaa} (h:SmTr l):zc6 l=some l:=by
 have hl:=h.1;unfold zc6;rw [zar ⟨by decide,by omega,by rw [show ((↑l.length:Int)+1).toNat=l.length+1 by omega];exact capT (by omega)⟩]
 have key:=zf5 (step:=fun (s:List zaa×Nat)=>zc6.s2 l s.1 s.2) (fun s=>s.2≤l.length∧s.1=l.take s.2) (fun s=>l.length-s.2) (fun r=>r=l) (fun ⟨y,i⟩ ⟨g1,g2⟩=>by
  simp only at g1 g2
  subst g2
  simp only [zc6.s2]
  by_cases g3:i<l.length
  ·left
   have hx:=get_at g3
   refine ⟨(l.take (i+1),i+1),?_,⟨g3,rfl⟩,by simp only;omega⟩
   rw [zcb hx,zkD,zaq hx,zkx (h.2 _ (List.getElem_mem _)),zap,zar (capT (by rw [List.length_take];omega)),zbk hx]
  ·right
   have e:i=l.length:=by omega
   subst e
   exact ⟨l,by rw [zes,zkC,List.take_length],rfl⟩) ([],0) ⟨Nat.zero_le _,rfl⟩
 obtain ⟨r,e,rfl⟩:=key;rw [e,zap]
theorem tdelete_eq {l:List zaa} {f:zaa→Option Bool} {p:zaa→Bool} (hl:l.length≤100000000) (hf:∀ x∈l,f x=some (p x)) :
  zai l f=some (l.filter fun x=>!p x):=by
 unfold zai;rw [tindex_eq (by omega) hf,zap];by_cases h:l.any p=true
 ·rw [if_pos h,zkA (by omega),zkC];have hi:l.findIdx p<l.length:=List.findIdx_lt_length_of_exists (by simpa using List.any_eq_true.1 h);have hx:=get_at hi;have hpx:p l[l.findIdx p]=true:=List.findIdx_getElem
  have hbefore:∀ (k:Nat),k≤l.findIdx p→(l.take k).filter (fun x=>!p x)=l.take k:=fun k hk=>by
   refine List.filter_eq_self.2 fun x hx=>?_;obtain ⟨j,hj,rfl⟩:=List.mem_iff_getElem.1 hx;rw [List.length_take] at hj;rw [List.getElem_take];have:=List.not_of_lt_findIdx (p:=p) (xs:=l) (i:=j) (by omega);have h9:p l[j]=false:=by simpa using this
   rw [h9];rfl
  rw [zar (by unfold inR;omega)]
  have key:=zd9 (step:=fun (s:List zaa×Int×Int)=>zai.s2 f s.1 s.2.1 s.2.2)
   (fun s=>∃ i j:Nat,s.2.1=(i:Int)∧s.2.2=(j:Int)∧i<j∧j≤l.length∧s.1.length=l.length∧s.1.drop j=l.drop j∧s.1.take i=(l.take j).filter fun x=>!p x) (fun s=>(↑l.length-s.2.2).toNat)
   (fun r=>∃ i:Nat,r.2=(i:Int)∧i≤l.length∧0<l.length∧r.1.length=l.length∧r.1.take i=l.filter fun x=>!p x) (fun ⟨y,si,sj⟩ ⟨i,j,g1,g2,g3,g4,g5,g6,g7⟩=>by
    simp only at g1 g2 g5 g6 g7
    subst g1 g2
    simp only [zai.s2]
    by_cases g8:j<l.length
    ·left
     have hz:=get_at g8
     have hy:y[j]?=some l[j]:=by
      have h1:(y.drop j)[0]?=(l.drop j)[0]?:=by rw [g6]
      rw [List.getElem?_drop,List.getElem?_drop,Nat.add_zero,hz] at h1
      exact h1
     rw [zkB (by omega),zkD,zbd rfl hy,hf _ (List.getElem_mem _),zap]
     have hd:∀ u:List zaa,u.drop j=l.drop j→u.drop (j+1)=l.drop (j+1):=fun u hu=>by
      rw [← List.drop_drop,hu,List.drop_drop]
     cases hp:p l[j] with
     | false =>
      have hyi:=get_at (l:=y) (i:=i) (by omega)
      refine ⟨(y.set i l[j],((i+1:Nat):Int),((j+1:Nat):Int)),?_,⟨i+1,j+1,rfl,rfl,by omega,by omega,by simpa using g5,?_,?_⟩,by simp only;omega⟩
      ·rw [Bool.not_false,zkD,zbd rfl hyi,zar (by unfold inR;omega),zar (by unfold inR;omega)]
       simp
      ·rw [List.drop_set_of_lt (by omega)]
       exact hd y g6
      ·rw [zbk hz,List.filter_append,← g7]
       have hset:(y.set i l[j])[i]?=some l[j]:=by rw [List.getElem?_set_self (by omega)]
       rw [zbk hset,List.take_set_of_le (by omega)]
       simp [hp]
     | true =>
      refine ⟨(y,(i:Int),((j+1:Nat):Int)),?_,⟨i,j+1,rfl,rfl,by omega,by omega,g5,hd y g6,?_⟩,by simp only;omega⟩
      ·rw [Bool.not_true,zkC,zar (by unfold inR;omega)]
       simp
      ·rw [zbk hz,List.filter_append,← g7]
       simp [hp]
    ·right
     have e:j=l.length:=by omega
     subst e
     refine ⟨(y,(i:Int)),by rw [zkA (by omega),zkC],i,rfl,by omega,by omega,g5,?_⟩
     rw [g7,List.take_length]) fuel (l,(↑(l.findIdx p):Int),(↑(l.findIdx p):Int)+1) ⟨l.findIdx p,l.findIdx p+1,rfl,by simp,by omega,hi,rfl,rfl,by
    rw [zbk hx,List.filter_append,hbefore _ (Nat.le_refl _)]
    simp [hpx]⟩ (by have:=zdn;simp only;omega)
  obtain ⟨⟨y,si⟩,e,i,g1,g2,g3,g4,g5⟩:=key;simp only at g1 g4 g5;subst g1;rw [e,zap];simp only [zai.k3]
  have hlen:(List.take i y++List.replicate (y.length-i) (⟨[],[]⟩:zaa)).length=y.length:=by
   rw [zkJ,List.length_take,List.length_replicate];omega
  rw [Int.toNat_natCast,hlen,zar (by omega),zar (by omega),zar (by omega),List.take_append_of_le_length (by rw [List.length_take];omega),List.take_take,Nat.min_self,g5]
 ·have h':l.any p=false:=by simpa using h
  rw [if_neg h,zkB rfl,zkD];congr 1;refine (List.filter_eq_self.2 fun x hx=>?_).symm;have:=List.any_eq_false.1 h' x hx;simpa using this
theorem tsearch_eq {F:List zaa} {t:zaa} (hs:F.Pairwise fun a b=>cmpW a.In b.In=-1) (hl:F.length≤2000000) (hw:∀ x∈F,SmW x.In) :
  ∃ k:Nat,∃ b,zak F t (fun u0 u1=>zd0 u0 u1)=some ((↑k:Int),b)∧k≤F.length∧(∀ j x,j<k→F[j]?=some x→cmpW x.In t.In=-1)∧∀ x,F[k]?=some x→cmpW x.In t.In≠-1:=by
 have hc:∀ x∈F,zd0 x t=some (cmpW x.In t.In):=fun x hx=>by
  unfold zd0;rw [zhl _ _ (by have:=hw x hx;unfold SmW at this;omega),zap]
 have hlt:∀ {i j:Nat} {a b:zaa},i<j→F[i]?=some a→F[j]?=some b→cmpW a.In b.In=-1:=fun {i j a b} hij ha hb=>by
  obtain ⟨hi,rfl⟩:=zkI.1 ha;obtain ⟨hj,rfl⟩:=zkI.1 hb;exact List.pairwise_iff_getElem.1 hs i j hi hj hij
 have key:=zd9 (step:=fun (s:Int×Int)=>zak.s2 F t (fun u0 u1=>zd0 u0 u1) s.1 s.2)
  (fun s=>∃ i j:Nat,s.1=(i:Int)∧s.2=(j:Int)∧i≤j∧j≤F.length∧(∀ k x,k<i→F[k]?=some x→cmpW x.In t.In=-1)∧∀ k x,j≤k→F[k]?=some x→cmpW x.In t.In≠-1) (fun s=>(s.2-s.1).toNat)
  (fun r=>∃ k:Nat,r=(k:Int)∧k≤F.length∧(∀ j x,j<k→F[j]?=some x→cmpW x.In t.In=-1)∧∀ x,F[k]?=some x→cmpW x.In t.In≠-1) (fun s ⟨i,j,g1,g2,g3,g4,g5,g6⟩=>by
   obtain ⟨si,sj⟩:=s
   simp only at g1 g2
   subst g1 g2
   simp only [zak.s2]
   by_cases g7:i<j
   ·left
    have hmid:((↑i:Int)+↑j) / 2^1=((i+j) / 2:Nat):=by omega
    have hx:=get_at (l:=F) (i:=(i+j) / 2) (by omega)
    rw [zkB (by omega),zkD,zar (by unfold inR;omega),zar (by omega),zar (by omega),zar (by unfold inR;omega),zbd hmid hx,hc _ (List.getElem_mem _),zap]
    have r:=zjd (F[(i+j) / 2]'(by omega)).In t.In
    by_cases g8:cmpW (F[(i+j) / 2]'(by omega)).In t.In<0
    ·refine ⟨(((i+j) / 2+1:Nat),(j:Int)),?_,⟨(i+j) / 2+1,j,rfl,rfl,by omega,g4,fun k x hk hx2=>?_,g6⟩,by simp only;omega⟩
     ·rw [zkB g8,zkD,zar (by unfold inR;omega),hmid]
      simp
     ·rcases Nat.lt_or_ge k ((i+j) / 2) with h | h
      ·exact zhy _ _ _ (hlt h hx2 hx) (by omega)
      ·have e:k=(i+j) / 2:=by omega
       subst e
       rw [hx] at hx2
       injection hx2 with hx2
       subst hx2
       omega
    ·refine ⟨((i:Int),(((i+j) / 2:Nat):Int)),?_,⟨i,(i+j) / 2,rfl,rfl,by omega,by omega,g5,fun k x hk hx2=>?_⟩,by simp only;omega⟩
     ·rw [zkA g8,zkC,hmid]
     ·intro h9
      rcases Nat.lt_or_ge ((i+j) / 2) k with h | h
      ·have:=zhy _ _ _ (hlt h hx hx2) h9
       omega
      ·have e:k=(i+j) / 2:=by omega
       subst e
       rw [hx] at hx2
       injection hx2 with hx2
       subst hx2
       omega
   ·right
    have e:i=j:=by omega
    subst e
    refine ⟨(i:Int),by rw [zkA (by omega),zkC],i,rfl,g4,g5,fun x hx2=>g6 i x (Nat.le_refl _) hx2⟩) fuel (0,(↑F.length:Int)) ⟨0,F.length,rfl,rfl,Nat.zero_le _,Nat.le_refl _,fun k x h=>by omega,fun k x h hx2=>by
    have:=(zkI.1 hx2).1
    omega⟩ (by have:=zdn;simp only;omega)
 obtain ⟨r,e,k,hk,h1,h2,h3⟩:=key;subst hk;unfold zak;rw [e,zap];by_cases h4:k<F.length
 ·have hx:=get_at h4;rw [zkB (by omega),zkD,zbd rfl hx,show (fun (u0:zaa) (u1:zaa)=>zd0 u0 u1) F[k] t=some (cmpW F[k].In t.In) from hc _ (List.getElem_mem _),zap,zap];exact ⟨k,_,rfl,h1,h2,h3⟩
 ·rw [zkA (by omega),zkC,zap];exact ⟨k,_,rfl,h1,h2,h3⟩
theorem zvp {o:zad} {t:zaa} (ho:SmTr o.Traces) (hv:zeg o) (ht:SmX t) (hp:zsi o.Inputs t) :
  zd8 o.Traces t=some (if zrr o.Traces t then ([],13) else if 10000<(addL o.Traces t).length then ([],11) else (addL o.Traces t,0)):=by
 have hl:=ho.1;unfold zd8
 have key:=zd9 (step:=fun (s:Bool×Nat)=>zd8.s2 o.Traces t s.1 s.2) (fun s=>s.2≤o.Traces.length∧(∀ u∈o.Traces.take s.2,Agree u t)∧s.1=zhn (o.Traces.take s.2) t.In) (fun s=>o.Traces.length-s.2)
  (fun r=>match r with | .inl b=>¬ zrr o.Traces t∧b=zhn o.Traces t.In | .inr x=>zrr o.Traces t∧x=([],13)) (fun ⟨b,i⟩ ⟨g1,g2,g3⟩=>by
   simp only at g1 g2 g3
   simp only [zd8.s2]
   by_cases g4:i<o.Traces.length
   ·have hx:=get_at g4
    have hxm:=List.getElem_mem g4
    obtain ⟨d,hd,hd2⟩:=zpa o.Traces[i] t (hv.prop _ hxm).1 hp (ho.2 _ hxm).1
    rw [zcb hx,zkD,zaq hx,hd,zap]
    by_cases g5:0≤d
    ·right
     exact ⟨.inr ([],13),by rw [zkB g5,zkD],⟨_,hxm,hd2.1 g5⟩,rfl⟩
    ·left
     have hA:Agree o.Traces[i] t:=Classical.byContradiction fun e=>g5 (hd2.2 e)
     have hst:zhn (o.Traces.take (i+1)) t.In=(b||decide (t.In <+: o.Traces[i].In)):=by
      rw [zbk hx,g3]
      unfold zhn
      rw [List.any_append]
      simp
     refine ⟨(zhn (o.Traces.take (i+1)) t.In,i+1),?_,⟨g4,fun u hu=>?_,rfl⟩,by simp only;omega⟩
     ·rw [zkA g5,zkC,hst]
      cases b with
      | true=>rfl
      | false =>
       rw [zkC,zew _ _ (ho.2 _ hxm).1,zap]
       rfl
     ·rw [zbk hx] at hu
      rcases List.mem_append.1 hu with h | h
      ·exact g2 u h
      ·rw [List.mem_singleton.1 h]
       exact hA
   ·right
    have e:i=o.Traces.length:=by omega
    subst e
    rw [List.take_length] at g2 g3
    exact ⟨.inl b,by rw [zes,zkC],fun ⟨u,hu,h⟩=>h (g2 u hu),g3⟩) fuel (false,0) ⟨Nat.zero_le _,fun u hu=>by simp at hu,rfl⟩ (by have:=zdn;simp only;omega)
 obtain ⟨r,e,hq⟩:=key;rw [e,zap];cases r with
 | inr x =>
  rw [if_pos hq.1,hq.2];rfl
 | inl b =>
  obtain ⟨h1,rfl⟩:=hq;rw [if_neg h1];simp only [Sum.elim_inl]
  have hb:(cond (zhn o.Traces t.In) (some true) (some (decide ((↑t.In.length:Int)=0))):Option Bool)=some (decide (zhn o.Traces t.In=true∨t.In=[])):=by
   cases hi:zhn o.Traces t.In with
   | true=>rfl
   | false =>
    rw [zkC];congr 1;refine decide_eq_decide.2 ⟨fun h=>.inr (List.eq_nil_of_length_eq_zero (by omega)),fun h=>?_⟩;rcases h with h | h
    ·cases h
    ·rw [h];rfl
  rw [hb,zap];by_cases h2:zhn o.Traces t.In=true∨t.In=[]
  ·have ha:addL o.Traces t=o.Traces:=if_pos h2;have hn:=hv.num;rw [zkB h2,zkD,ha,if_neg (by omega)]
  ·have ha:addL o.Traces t=insT (zsb o.Traces t) t:=if_neg h2
   rw [zkA h2,zkC,tdelete_eq (p:=fun u=>decide (u.In <+: t.In)) (by omega) fun x hx=>by
    unfold zhd
    rw [zew _ _ ht.1,zap],zap]
   have hrl:=zrz o.Traces t;have hn:=hv.num;have hil:=zou (zsb o.Traces t) t;rw [show (o.Traces.filter fun x=>!decide (x.In <+: t.In))=zsb o.Traces t from rfl,ha];by_cases h3:(zsb o.Traces t).length=10000
   ·rw [zkB (by omega),zkD,if_pos (by omega)]
   ·rw [zkA (by omega),zkC,if_neg (by omega)];have hsub:(zsb o.Traces t).Sublist o.Traces:=List.filter_sublist
    have hne:∀ x∈zsb o.Traces t,x.In≠t.In:=fun x hx e=>by
     have:=(List.mem_filter.1 hx).2;rw [e,zkB (List.prefix_refl _)] at this;exact Bool.false_ne_true this
    obtain ⟨k,b,e,k1,k2,k3⟩:=tsearch_eq (t:=t) (hv.pw.1.sublist hsub) (by omega) fun x hx=>(ho.2 x (hsub.subset hx)).1;rw [e,zap,zkx ht,zap];simp only;unfold zhv;rw [zar ⟨by omega,by omega,rfl,by omega⟩,zap,Int.toNat_natCast,← insT_at k1 k2 k3 hne]
theorem zqa {o:zad} (hv:zeg o) {w r:List Int} (h:ansO o w=some r):r.length=w.length:=by
 unfold ansO at h;split at h
 ·rename_i h0;injection h with h
  rw [← h,h0]
 ·obtain ⟨t,ht,rfl⟩:=Option.map_eq_some_iff.1 h;have hm:=List.mem_of_find?_eq_some ht;have hp:w <+: t.In:=by simpa using List.find?_some ht
  have:=(hv.prop t hm).1.2.1;have:=pre_len hp;rw [List.length_take];omega
def rowO (o:zad) (w:List Int):List (List Int)→Option (List (List Int))
 | []=>some []
 | e::S=>match ansO o (w++e) with
  | none=>none
  | some r=>(rowO o w S).map fun l=>r.drop w.length::l
theorem rowO_drop {o:zad} {w:List Int} {S:List (List Int)} {k:Nat} {e:List Int} (h:S[k]?=some e):rowO o w (S.drop k)=match ansO o (w++e) with | none=>none | some r=>(rowO o w (S.drop (k+1))).map fun l=>r.drop w.length::l:=by
 obtain ⟨hk,rfl⟩:=zkI.1 h;rw [List.drop_eq_getElem_cons hk];rfl
theorem zpd {o:zad} {F:List zaa} {t:zac} {w:List Int} (ho:SmO o) (hv:zeg o) (hF:zr3 o F) (hS:SmL t.Suffixes) (hw:SmW w):zbw F t w=some (tw (rowO o w t.Suffixes)):=by
 have hS1:t.Suffixes.length≤2000000:=hS.1;have hw1:w.length≤2000000:=hw;unfold zbw
 have key:=zd9 (step:=fun (s:List (List Int)×Nat)=>zbw.s2 F t w s.1 s.2) (fun s=>s.2≤t.Suffixes.length∧s.1.length=s.2∧rowO o w t.Suffixes=(rowO o w (t.Suffixes.drop s.2)).map (s.1++·)) (fun s=>t.Suffixes.length-s.2)
  (fun r=>Sum.elim (fun (a2:List (List Int))=>some (a2,true)) some r=some (tw (rowO o w t.Suffixes))) (fun s ⟨g1,g2,g3⟩=>by
   obtain ⟨y,k⟩:=s
   simp only at g1 g2 g3
   simp only [zbw.s2]
   by_cases g4:k<t.Suffixes.length
   ·have hx:=get_at g4
    have hxs:SmW t.Suffixes[k]:=hS.2 _ (List.getElem_mem _)
    have hx1:t.Suffixes[k].length≤2000000:=hxs
    rw [zcb hx,zkD,zaq hx,zg8 _ (by simp) (by simp;omega),zap]
    simp only [List.flatten_cons,List.flatten_nil,List.append_nil]
    rw [zl3 ho hv hF,zap]
    rw [rowO_drop hx] at g3
    cases ha:ansO o (w++t.Suffixes[k]) with
    | none =>
     right
     rw [ha] at g3
     refine ⟨.inr ([],false),rfl,?_⟩
     rw [g3]
     rfl
    | some r =>
     left
     rw [ha] at g3
     have hrl:=zqa hv ha
     rw [zkJ] at hrl
     have hd:SmW (r.drop w.length):=by unfold SmW;rw [List.length_drop];omega
     refine ⟨(y++[r.drop w.length],k+1),?_,⟨g4,by simp [g2],?_⟩,by simp only;omega⟩
     ·simp only [tw,Bool.not_true,zkC]
      rw [zar (by omega),zfa hd,zap,zar (by unfold za7;omega)]
     ·rw [g3,Option.map_map]
      simp only
      congr 1
      funext l
      simp
   ·right
    have e:k=t.Suffixes.length:=by omega
    subst e
    refine ⟨.inl y,by rw [zkA (by omega),zkC],?_⟩
    rw [g3,List.drop_length]
    simp [rowO,tw]) fuel ([],0) ⟨Nat.zero_le _,rfl,by simp⟩ (by have:=zdn;simp only;omega)
 obtain ⟨r,e,hq⟩:=key;rw [zar (by unfold za7;omega),e];exact hq
def chkT (t:zac) (o:zad):Int:=if zdf t≠0 then zdf t else if t.Inputs≠o.Inputs then 15 else 0
theorem zoi {t:zac} {o:zad} (ht:SmT t):zh0 t o=some (chkT t o):=by
 unfold zh0 chkT;rw [zfq t ht,zap];by_cases h:zdf t=0
 ·rw [zkA (by simpa using h),zkC,if_neg (by simpa using h)];by_cases h2:t.Inputs=o.Inputs<;>simp [h2]
 ·rw [zkB h,zkD,if_pos h]
theorem sortW_ext {l m:List (List Int)} (h:∀ x,x∈l↔x∈m):sortW l=sortW m:=zor (zel l) (zel m) fun x=>by rw [zb6,zb6,h]
theorem zpo {l:List (List Int)} (hl:SmL l):zcc l=some (maxR l):=by
 have hl1:l.length≤2000000:=hl.1;obtain ⟨L,e1,h1,h2,h3⟩:=zv6 lexI_total (f:=fun u0 u1=>zh9 u0 u1) hl fun a ha b hb=>zjm a b (by have:SmW a:=hl.2 a ha;unfold SmW at this;omega);have hLs:∀ x∈L,SmW x:=fun x hx=>hl.2 x ((h2 x).1 hx);unfold zcc;rw [e1,zap]
 have key:=zcw (step:=fun (s:List (List Int)×Nat)=>zcc.s2 L s.1 s.2) (r:=zlg L) (fun s=>s.2≤L.length∧s.1.length≤s.2∧zlg L=s.1++zlg (L.drop s.2)) (fun s=>L.length-s.2) (fun s ⟨g1,g2,g3⟩=>by
  obtain ⟨y,i⟩:=s
  simp only at g1 g2 g3
  simp only [zcc.s2]
  by_cases g4:i<L.length
  ·left
   have hx:=get_at g4
   rw [zcb hx,zkD,zaq hx]
   by_cases g5:i+1=L.length
   ·rw [keepM_end hx g5] at g3
    refine ⟨(y++[L[i]],i+1),?_,⟨by simp only;omega,by simp;omega,by simp only;rw [g3];simp⟩,by simp only;omega⟩
    rw [zkB (by omega),zkD,zap,zkD,zar (by unfold za7;omega)]
   ·have hy:=get_at (l:=L) (i:=i+1) (by omega)
    rw [keepM_step hx hy] at g3
    rw [zkA (by omega),zkC,zaq hy,zew _ _ (hLs _ (List.getElem_mem _)),zap,zap]
    by_cases g6:L[i] <+: (L[i+1]'(by omega))
    ·rw [if_pos g6] at g3
     refine ⟨(y,i+1),?_,⟨by simp only;omega,by simp only;omega,g3⟩,by simp only;omega⟩
     rw [zkB g6]
     rfl
    ·rw [if_neg g6] at g3
     refine ⟨(y++[L[i]],i+1),?_,⟨by simp only;omega,by simp;omega,by simp only;rw [g3];simp⟩,by simp only;omega⟩
     rw [zkA g6,Bool.not_false,zkD,zar (by unfold za7;omega)]
  ·right
   have e:i=L.length:=by omega
   subst e
   rw [List.drop_length] at g3
   rw [zkA (by omega),zkC,g3]
   simp [zlg]) (n:=fuel) (s:=([],0)) ⟨Nat.zero_le _,by simp,by simp⟩
 have hk:=zu1 L;have hkl:SmL (zlg L):=⟨by have:=hk.length_le;omega,fun x hx=>hLs x (hk.mem hx)⟩;rw [key,zap,zcm hkl,zap,sortW_keepM h1 h2]
section
structure zda (m:zab):Prop where
 i1:1≤m.Inputs
 i2:m.Inputs≤64
 n1:0<m.Next.length
 n2:m.Next.length≤128
 st:0≤m.Start∧m.Start<(↑m.Next.length:Int)
 ol:m.Out.length=m.Next.length
 row:∀ s,s<m.Next.length→∃ x y,m.Next[s]?=some x∧m.Out[s]?=some y∧(↑x.length:Int)=m.Inputs∧(↑y.length:Int)=m.Inputs∧(∀ u∈x,0≤u∧u<(↑m.Next.length:Int))∧∀ v∈y,0≤v∧v≤1048576
def nx (m:zab) (s a:Nat):Nat:=((((m.Next[s]?).getD [])[a]?).getD 0).toNat
def ot (m:zab) (s a:Nat):Int:=(((m.Out[s]?).getD [])[a]?).getD 0
section
variable {m:zab}
theorem zda.at (H:zda m) {s a:Nat} (hs:s<m.Next.length) (ha:a<m.Inputs.toNat):nx m s a<m.Next.length∧0≤ot m s a∧ot m s a≤1048576∧∃ x y,m.Next[s]?=some x∧m.Out[s]?=some y∧x[a]?=some (↑(nx m s a):Int)∧y[a]?=some (ot m s a):=by
 obtain ⟨x,y,h1,h2,h3,h4,h5,h6⟩:=H.row s hs;have hx:=get_at (l:=x) (i:=a) (by omega);have hy:=get_at (l:=y) (i:=a) (by omega)
 have e1:nx m s a=(x[a]'(by omega)).toNat:=by
  unfold nx;rw [h1,Option.getD_some,hx,Option.getD_some]
 have e2:ot m s a=y[a]'(by omega):=by
  unfold ot;rw [h2,Option.getD_some,hy,Option.getD_some]
 have g1:=h5 _ (List.getElem_mem (by omega:a<x.length));have g2:=h6 _ (List.getElem_mem (by omega:a<y.length));refine ⟨by rw [e1];omega,by rw [e2];exact g2.1,by rw [e2];exact g2.2,x,y,h1,h2,?_,by rw [e2];exact hy⟩;rw [hx,e1];congr 1;omega
def outs (m:zab):Nat→List Int→List Int
 | _,[]=>[]
 | s,a::w=>ot m s a.toNat::outs m (nx m s a.toNat) w
def dest (m:zab):Nat→List Int→Nat
 | s,[]=>s
 | s,a::w=>dest m (nx m s a.toNat) w
def WOk (n:Int) (w:List Int):Prop:=∀ a∈w,0≤a∧a<n
theorem zfd:∀ (w v:List Int) (s:Nat),outs m s (w++v)=outs m s w++outs m (dest m s w) v
 | [],_,_=>rfl
 | a::w,v,s=>by
  show ot m s a.toNat::outs m (nx m s a.toNat) (w++v)=_;rw [zfd w v];rfl
theorem zea:∀ (w v:List Int) (s:Nat),dest m s (w++v)=dest m (dest m s w) v
 | [],_,_=>rfl
 | _::w,v,_=>zea w v _
theorem zii:∀ (w:List Int) (s:Nat),(outs m s w).length=w.length
 | [],_=>rfl
 | a::w,s=>by
  show (outs m (nx m s a.toNat) w).length+1=w.length+1;rw [zii w]
theorem WOk.tail {n:Int} {a:Int} {w:List Int} (h:WOk n (a::w)):WOk n w:=fun x hx=>h x (List.mem_cons_of_mem _ hx)
theorem WOk.head {n:Int} {a:Int} {w:List Int} (h:WOk n (a::w)):0≤a∧a<n:=h a (by simp)
theorem WOk.take {n:Int} {w:List Int} (h:WOk n w) (k:Nat):WOk n (w.take k):=fun x hx=>h x (List.mem_of_mem_take hx)
theorem WOk.append {n:Int} {w v:List Int} (h:WOk n w) (g:WOk n v):WOk n (w++v):=fun x hx=>(List.mem_append.1 hx).elim (h x) (g x)
theorem zda.dest (H:zda m):∀ {w:List Int} {s:Nat},WOk m.Inputs w→s<m.Next.length→dest m s w<m.Next.length
 | [],_,_,hs=>hs
 | a::w,s,hw,hs=>by
  have:=hw.head;exact H.dest (w:=w) hw.tail (H.at hs (a:=a.toNat) (by omega)).1
theorem R06_Outs_eq (H:zda m) {s:Nat} (hs:s<m.Next.length) {w:List Int} (hw:WOk m.Inputs w) (hl:w.length≤100000000):zds m (↑s:Int) w=some (outs m s w,(↑(dest m s w):Int)):=by
 unfold zds
 have key:=zcw (step:=fun (q:Int×List Int×Nat)=>zds.s2 m w q.1 q.2.1 q.2.2) (r:=((↑(dest m s w):Int),outs m s w)) (fun q=>q.2.2≤w.length∧q.1=(↑(dest m s (w.take q.2.2)):Int)∧q.2.1=outs m s (w.take q.2.2)) (fun q=>w.length-q.2.2) (fun q ⟨g1,g2,g3⟩=>by
  obtain ⟨st,y,k⟩:=q
  simp only at g1 g2 g3
  subst g2
  subst g3
  simp only [zds.s2]
  by_cases g4:k<w.length
  ·left
   have hx:=get_at g4
   obtain ⟨x0,x1⟩:=hw _ (List.getElem_mem g4)
   have ha:w[k].toNat<m.Inputs.toNat:=by omega
   have hd:Sym.dest m s (w.take k)<m.Next.length:=H.dest (hw.take k) hs
   obtain ⟨_,_,_,x,y,e1,e2,e3,e4⟩:=H.at hd ha
   refine ⟨((↑(Sym.dest m s (w.take (k+1))):Int),outs m s (w.take (k+1)),k+1),?_,⟨g4,rfl,rfl⟩,by simp only;omega⟩
   rw [zcb hx,zkD,zbd rfl e2,zaq hx,zbd (i:=w[k].toNat) (by omega) e4,zar (by unfold za7;rw [zii,List.length_take];omega),zbd rfl e1,zaq hx,zbd (i:=w[k].toNat) (by omega) e3,zbk hx,zea,zfd]
   rfl
  ·right
   have e:k=w.length:=by omega
   subst e
   rw [zkA (by omega),zkC,List.take_length]) (n:=fuel) (s:=((↑s:Int),[],0)) ⟨Nat.zero_le _,rfl,rfl⟩
 rw [key,zap];rfl
def RowRng (n:Nat) (u v:Int):Prop:=(0≤u∧u<(↑n:Int))∧0≤v∧v≤1048576
theorem R06_row_tot (h1:m.Inputs≤64) {s:Nat} (hs:s<m.Next.length) (ho:m.Out.length=m.Next.length):∃ e,zft m (↑s:Int)=some e∧(e=0→∃ x y,m.Next[s]?=some x∧m.Out[s]?=some y∧(↑x.length:Int)=m.Inputs∧(↑y.length:Int)=m.Inputs∧(∀ u∈x,0≤u∧u<(↑m.Next.length:Int))∧∀ v∈y,0≤v∧v≤1048576):=by
 obtain ⟨x,hx⟩:∃ x,m.Next[s]?=some x:=⟨_,get_at hs⟩;obtain ⟨y,hy⟩:∃ y,m.Out[s]?=some y:=⟨_,get_at (l:=m.Out) (i:=s) (by omega)⟩;unfold zft;rw [zbd rfl hx];by_cases g1:(↑x.length:Int)=m.Inputs
 ·by_cases g2:(↑y.length:Int)=m.Inputs
  ·rw [zkA (fun h=>h g1),zkC,zbd rfl hy,zkA (fun h=>h g2),zap,zkC]
   obtain ⟨r,hr,hq⟩:=zf5 (step:=fun a=>zft.s2 m (↑s:Int) a) (fun a=>a≤x.length∧∀ b u v,b<a→x[b]?=some u→y[b]?=some v→RowRng m.Next.length u v) (fun a=>x.length-a) (fun r=>r=.inr 2∨(r=.inl ()∧∀ b u v,b<x.length→x[b]?=some u→y[b]?=some v→RowRng m.Next.length u v)) (fun a ⟨q1,q2⟩=>by
    simp only [zft.s2]
    by_cases q3:a<x.length
    ·obtain ⟨u,ha⟩:∃ u,x[a]?=some u:=⟨_,get_at q3⟩
     obtain ⟨v,hb⟩:∃ v,y[a]?=some v:=⟨_,get_at (l:=y) (i:=a) (by omega)⟩
     rw [zkB (by omega),zkD,zbd rfl hx,zaq ha]
     by_cases z1:u<0
     ·right
      exact ⟨.inr 2,by rw [zkB z1];rfl,Or.inl rfl⟩
     rw [zkA z1,zkC,zbd rfl hx,zaq ha]
     by_cases z2:(↑m.Next.length:Int)≤u
     ·right
      exact ⟨.inr 2,by rw [zkB z2];rfl,Or.inl rfl⟩
     rw [zkA z2,zkC,zbd rfl hy,zaq hb]
     by_cases z3:v<0
     ·right
      exact ⟨.inr 2,by rw [zkB z3];rfl,Or.inl rfl⟩
     rw [zkA z3,zkC,zbd rfl hy,zaq hb]
     by_cases z4:1048576<v
     ·right
      exact ⟨.inr 2,by rw [zkB z4];rfl,Or.inl rfl⟩
     left
     refine ⟨a+1,by rw [zkA z4,zap,zkC,zar (by unfold inR;omega)],⟨q3,fun b u' v' hb' hu hv=>?_⟩,by omega⟩
     rcases Nat.lt_or_ge b a with h | h
     ·exact q2 b u' v' h hu hv
     ·have e:b=a:=by omega
      subst e
      rw [ha] at hu
      rw [hb] at hv
      injection hu with hu
      injection hv with hv
      subst hu
      subst hv
      exact ⟨⟨by omega,by omega⟩,by omega,by omega⟩
    ·right
     have e:a=x.length:=by omega
     subst e
     exact ⟨.inl (),by rw [zkA (by omega),zkC],Or.inr ⟨rfl,q2⟩⟩) 0 ⟨Nat.zero_le _,fun b _ _ h=>absurd h (Nat.not_lt_zero _)⟩
   rw [hr,zap];rcases hq with rfl | ⟨rfl,hq⟩
   ·exact ⟨2,rfl,fun h=>by cases h⟩
   ·refine ⟨0,rfl,fun _=>⟨x,y,hx,hy,g1,g2,fun u hu=>?_,fun v hv=>?_⟩⟩
    ·obtain ⟨b,hb,rfl⟩:=List.mem_iff_getElem.1 hu;exact (hq b _ _ hb (get_at hb) (get_at (l:=y) (by omega))).1
    ·obtain ⟨b,hb,rfl⟩:=List.mem_iff_getElem.1 hv;exact (hq b _ _ (by omega) (get_at (l:=x) (by omega)) (get_at hb)).2
  ·exact ⟨1,by rw [zkA (fun h=>h g1),zkC,zbd rfl hy,zkB g2];rfl,fun h=>by cases h⟩
 ·exact ⟨1,by rw [zkB g1];rfl,fun h=>by cases h⟩
theorem R06_Valid_tot (m:zab):∃ e,zbx m=some e∧(e=0→zda m):=by
 unfold zbx;by_cases c1:m.Inputs<1
 ·exact ⟨2,by rw [zkB c1];rfl,fun h=>by cases h⟩
 rw [zkA c1,zkC];by_cases c2:64<m.Inputs
 ·exact ⟨2,by rw [zkB c2];rfl,fun h=>by cases h⟩
 rw [zkA c2,zap,zkC];by_cases c3:(↑m.Next.length:Int)=0
 ·exact ⟨19,by rw [zkB c3];rfl,fun h=>by cases h⟩
 rw [zkA c3,zkC];by_cases c4:128<(↑m.Next.length:Int)
 ·exact ⟨11,by rw [zkB c4];rfl,fun h=>by cases h⟩
 rw [zkA c4,zkC];by_cases c5:m.Start<0
 ·exact ⟨2,by rw [zkB c5];rfl,fun h=>by cases h⟩
 rw [zkA c5,zkC];by_cases c6:(↑m.Next.length:Int)≤m.Start
 ·exact ⟨2,by rw [zkB c6];rfl,fun h=>by cases h⟩
 rw [zkA c6,zap,zkC];by_cases c7:(↑m.Out.length:Int)=(↑m.Next.length:Int)
 ·rw [zkA (fun h=>h c7),zkC];have ho:m.Out.length=m.Next.length:=by omega
  obtain ⟨r,hr,hq⟩:=zf5 (step:=fun s=>zbx.s2 m s) (fun a=>a≤m.Next.length∧∀ s,s<a→∃ x y,m.Next[s]?=some x∧m.Out[s]?=some y∧(↑x.length:Int)=m.Inputs∧(↑y.length:Int)=m.Inputs∧(∀ u∈x,0≤u∧u<(↑m.Next.length:Int))∧∀ v∈y,0≤v∧v≤1048576) (fun a=>m.Next.length-a) (fun r=>(∃ e,r=.inr e∧e≠0)∨(r=.inl ()∧∀ s,s<m.Next.length→∃ x y,m.Next[s]?=some x∧m.Out[s]?=some y∧(↑x.length:Int)=m.Inputs∧(↑y.length:Int)=m.Inputs∧(∀ u∈x,0≤u∧u<(↑m.Next.length:Int))∧∀ v∈y,0≤v∧v≤1048576)) (fun a ⟨q1,q2⟩=>by
   simp only [zbx.s2]
   by_cases q3:a<m.Next.length
   ·obtain ⟨e,he,hz⟩:=R06_row_tot (m:=m) (by omega) q3 ho
    rw [zkB (by omega),zkD,he,zap]
    by_cases z:e=0
    ·left
     refine ⟨a+1,by rw [zkA (fun h=>h z),zkC],⟨q3,fun s hs=>?_⟩,by omega⟩
     rcases Nat.lt_or_ge s a with h | h
     ·exact q2 s h
     ·have e2:s=a:=by omega
      subst e2
      exact hz z
    ·right
     exact ⟨.inr e,by rw [zkB z,zkD],Or.inl ⟨e,rfl,z⟩⟩
   ·right
    have e:a=m.Next.length:=by omega
    subst e
    exact ⟨.inl (),by rw [zkA (by omega),zkC],Or.inr ⟨rfl,q2⟩⟩) 0 ⟨Nat.zero_le _,fun s h=>absurd h (Nat.not_lt_zero _)⟩
  rw [hr,zap];rcases hq with ⟨e,rfl,hz⟩ | ⟨rfl,hq⟩
  ·exact ⟨e,rfl,fun h=>absurd h hz⟩
  ·exact ⟨0,rfl,fun _=>⟨by omega,by omega,by omega,by omega,⟨by omega,by omega⟩,ho,hq⟩⟩
 ·exact ⟨1,by rw [zkB c7];rfl,fun h=>by cases h⟩
theorem macOk_of (h:zbx m=some 0):zda m:=by
 obtain ⟨e,he,hz⟩:=R06_Valid_tot m;rw [h] at he;injection he with he
 exact hz he.symm
end
end
section
abbrev costOk (l:zp9):Prop:=(∀ c∈l.Step,0≤c∧c≤1048576)∧0≤l.Reset∧l.Reset≤1048576
abbrev cntOk (n:Int):Prop:=0≤n∧n≤1125899906842624
abbrev faultOk (f:zrk):Prop:=(0≤f.Lost∧f.Lost≤10000)∧(0≤f.Wrong∧f.Wrong≤10000)∧(0≤f.Crash∧f.Crash≤10000)∧f.Lost+f.Wrong+f.Crash≤10000
structure DevOk (d:ze9):Prop where
 v6:zbx d.M=some 0
 st:0≤d.State∧d.State<(↑d.M.Next.length:Int)
 ll:(↑d.Latency.Step.length:Int)=d.M.Inputs
 lc:costOk d.Latency
 fl:faultOk d.Faults
 c1:cntOk d.Steps
 c2:cntOk d.Resets
 c3:cntOk d.Time
section
variable {d:ze9}
end
end
def WrdOk (w:List Int):Prop:=w.length≤100000∧∀ x∈w,inR x
def Few (need:Int) (l:List (List Int)):Prop:=∀ w,(↑(l.count w):Int)<need
section
theorem zda.sml {m:zab} (H:zda m):SmL m.Next∧SmL m.Out:=by
 have n2:=H.n2;have ol:=H.ol;have i2:=H.i2;refine ⟨⟨by omega,fun x hx=>?_⟩,⟨by omega,fun x hx=>?_⟩⟩
 all_goals
  obtain ⟨s,hs,rfl⟩:=List.mem_iff_getElem.1 hx;obtain ⟨x,y,h1,h2,h3,h4,_⟩:=H.row s (by omega);unfold SmW
 ·rw [get_at hs] at h1;injection h1 with h1
  rw [h1];omega
 ·rw [get_at hs] at h2;injection h2 with h2
  rw [h2];omega
abbrev SeedOk (d:ze9):Prop:=0≤d.Seed∧d.Seed<18446744073709551616
section
variable {d:ze9} {w ys:List Int}
end
end
section
structure OrOk (q:zik):Prop where
 dev:DevOk q.Device
 seed:SeedOk q.Device
 obs:zeg q.Obs
 tr:SmTr q.Obs.Traces
 inp:q.Obs.Inputs=q.Device.M.Inputs
 v1:1≤q.Votes
 v2:q.Votes≤9
 t1:q.Votes≤q.Tries
 t2:q.Tries≤64
structure TryOk (q:zik) (w:List Int) (d:ze9) (ys:List (List Int)) (i:Int):Prop where
 dev:DevOk d
 seed:SeedOk d
 mac:d.M=q.Device.M
 i0:0≤i
 i1:i≤q.Tries
 len:(↑ys.length:Int)≤i
 wrd:∀ y∈ys,WrdOk y
 few:Few q.Votes ys
section
variable {q:zik} {w:List Int} {d:ze9} {ys:List (List Int)} {i n:Int}
end
end


section
structure SmQ (q:zik):Prop where
 n:q.Device.M.Next.length≤2000000
 s:q.Device.Latency.Step.length≤2000000
 o:SmO q.Obs
 seed:SeedOk q.Device
theorem R06_Same_self {m:zab} (H:zda m):zqc m m=some true:=by
 have h1:=H.sml.1;have h2:=H.sml.2;have l1:=h1.1;have l2:=h2.1;unfold zqc;rw [zr4 _ _ (by omega) fun x hx=>by have:=h1.2 x hx;unfold SmW at this;omega,zr4 _ _ (by omega) fun x hx=>by have:=h2.2 x hx;unfold SmW at this;omega];simp
theorem addO_len {o:zad} {t:zaa}:(addO o t).1.Traces.length≤o.Traces.length+1:=by
 unfold addO;split
 ·simp only;omega
 ·split
  ·simp only;omega
  ·split
   ·simp only;omega
   ·exact ztp _ _
theorem addO_tr {o:zad} {t:zaa} (h:SmTr o.Traces) (hn:o.Traces.length≤1000000) (ht:SmX t):SmTr (addO o t).1.Traces:=by
 refine ⟨by have:=addO_len (o:=o) (t:=t);omega,?_⟩;unfold addO;split
 ·exact h.2
 ·split
  ·exact h.2
  ·split
   ·exact h.2
   ·intro x hx;have hx:x∈addL o.Traces t:=hx;unfold addL at hx;split at hx
    ·exact h.2 x hx
    ·rcases zi7.1 hx with e | e
     ·rw [e];exact ht
     ·exact h.2 x (List.filter_sublist.subset e)
section
variable {q:zik} {w:List Int}
end
end
section
theorem zpw {m:zab}:∀ (w:List Int) (s k:Nat),(outs m s w).take k=outs m s (w.take k)
 | [],s,k=>by simp [outs]
 | a::w,s,0=>by simp [outs]
 | a::w,s,k+1=>by
  show (ot m s a.toNat::outs m (nx m s a.toNat) w).take (k+1)=ot m s a.toNat::outs m (nx m s a.toNat) (w.take k);rw [List.take_succ_cons,zpw w]
theorem zuc:∀ (a b:List Int),a.take (za3 a b)=b.take (za3 a b)
 | [],b=>by simp [za3]
 | x::a,[]=>by simp [za3]
 | x::a,y::b=>by
  unfold za3;by_cases h:x=y
  ·rw [if_pos h,h,List.take_succ_cons,List.take_succ_cons,zuc a b]
  ·rw [if_neg h];rfl
def Expl (m:zab) (o:zad):Prop:=∀ t∈o.Traces,t.Out=outs m m.Start.toNat t.In
def Kn (o:zad) (w:List Int):Prop:=w=[]∨∃ t∈o.Traces,w <+: t.In
section
variable {m:zab} {o:zad} {w:List Int}
theorem zwd {a b:zaa} (ha:a.Out=outs m m.Start.toNat a.In) (hb:b.Out=outs m m.Start.toNat b.In):Agree a b:=by
 unfold Agree;rw [ha,hb,zpw,zpw,zuc]
theorem znj (hE:Expl m o):(Kn o w→ansO o w=some (outs m m.Start.toNat w))∧(¬ Kn o w→ansO o w=none):=by
 unfold ansO Kn;by_cases h0:w=[]
 ·rw [if_pos h0,h0];exact ⟨fun _=>rfl,fun h=>absurd (.inl rfl) h⟩
 ·rw [if_neg h0];cases hf:o.Traces.find? fun t=>decide (w <+: t.In) with
  | none =>
   refine ⟨fun h=>?_,fun _=>rfl⟩;rcases h with h | ⟨t,ht,hp⟩
   ·exact absurd h h0
   ·exact absurd (zkB hp) (List.find?_eq_none.1 hf t ht)
  | some t =>
   have ht:=List.mem_of_find?_eq_some hf;have hp:decide (w <+: t.In)=true:=List.find?_some (p:=fun (t:zaa)=>decide (w <+: t.In)) hf;have hp:=of_decide_eq_true hp;refine ⟨fun _=>?_,fun h=>absurd (.inr ⟨t,ht,hp⟩) h⟩;show some (t.Out.take w.length)=_;rw [hE t ht,zpw,← List.prefix_iff_eq_take.1 hp]
def tr (m:zab) (w:List Int):zaa:=⟨w,outs m m.Start.toNat w⟩
theorem prop_tr (H:zda m) {n:Int} (hn:n=m.Inputs) (hw:zbl w n=0):zsi n (tr m w):=by
 refine ⟨hw,by simp only [tr];rw [zii],fun y hy=>?_⟩;have hwk:WOk m.Inputs w:=by rw [← hn];exact zdv hw
 have hst:=H.st
 have key:∀ (w:List Int) (s:Nat),s<m.Next.length→WOk m.Inputs w→∀ y∈outs m s w,0≤y∧y≤1048576:=by
  intro w
  induction w with
  | nil=>intro s _ _ y hy;simp [outs] at hy
  | cons a w ih =>
   intro s hs hwk y hy;have ha:=hwk.head;obtain ⟨h1,h2,h3,_⟩:=H.at hs (a:=a.toNat) (by omega);have hy:y∈ot m s a.toNat::outs m (nx m s a.toNat) w:=hy;rcases List.mem_cons.1 hy with e | e
   ·rw [e];exact ⟨h2,h3⟩
   ·exact ih _ h1 hwk.tail y e
 exact key w _ (by omega) hwk y hy
theorem mem_addL {l:List zaa} {t x:zaa} (h:x∈addL l t):x=t∨x∈l:=by
 unfold addL at h;split at h
 ·exact .inr h
 ·rcases zi7.1 h with e | e
  ·exact .inl e
  ·exact .inr (List.filter_sublist.subset e)
theorem expl_add (hE:Expl m o) {n:Int}:Expl m ⟨n,addL o.Traces (tr m w)⟩:=fun x hx=>by
 rcases mem_addL hx with e | e
 ·rw [e];rfl
 ·exact hE x e
theorem kn_add {n:Int} {v:List Int}:Kn ⟨n,addL o.Traces (tr m w)⟩ v↔Kn o v∨v <+: w:=by
 unfold Kn;simp only;constructor
 ·rintro (h | ⟨x,hx,hp⟩)
  ·exact .inl (.inl h)
  ·rcases mem_addL hx with e | e
   ·exact .inr (by rw [e] at hp;exact hp)
   ·exact .inl (.inr ⟨x,e,hp⟩)
 ·unfold addL;by_cases g:zhn o.Traces (tr m w).In=true∨(tr m w).In=[]
  ·rw [if_pos g];rintro (h | h)
   ·exact h
   ·rcases g with g | g
    ·obtain ⟨u,hu,hp⟩:=List.any_eq_true.1 g;exact .inr ⟨u,hu,h.trans (of_decide_eq_true hp)⟩
    ·have g:w=[]:=g;rw [g] at h;exact .inl (List.prefix_nil.1 h)
  ·rw [if_neg g];rintro ((h | ⟨x,hx,hp⟩) | h)
   ·exact .inl h
   ·by_cases hk:x.In <+: w
    ·exact .inr ⟨tr m w,zi7.2 (.inl rfl),hp.trans hk⟩
    ·refine .inr ⟨x,zi7.2 (.inr (List.mem_filter.2 ⟨hx,?_⟩)),hp⟩;rw [zkA (show ¬ x.In <+: (tr m w).In from hk)];rfl
   ·exact .inr ⟨tr m w,zi7.2 (.inl rfl),h⟩
def zdb (m:zab):zad→List (List Int)→zad
 | o,[]=>o
 | o,w::r=>zdb m ⟨o.Inputs,addL o.Traces (tr m w)⟩ r
theorem zjs:∀ (ws:List (List Int)) (o:zad),(zdb m o ws).Inputs=o.Inputs
 | [],_=>rfl
 | _::ws,_=>zjs ws _
theorem zj4 {v:List Int}:∀ (ws:List (List Int)) (o:zad),Kn (zdb m o ws) v↔Kn o v∨∃ w∈ws,v <+: w
 | [],o=>by simp [zdb]
 | w::ws,o=>by
  unfold zdb;rw [zj4 ws,kn_add];constructor
  ·rintro ((h | h) | ⟨x,hx,h⟩)
   ·exact .inl h
   ·exact .inr ⟨w,by simp,h⟩
   ·exact .inr ⟨x,by simp [hx],h⟩
  ·rintro (h | ⟨x,hx,h⟩)
   ·exact .inl (.inl h)
   ·rcases List.mem_cons.1 hx with e | e
    ·exact .inl (.inr (by rw [← e];exact h))
    ·exact .inr ⟨x,e,h⟩
theorem zk3 {x:zaa}:∀ (ws:List (List Int)) (o:zad),x∈(zdb m o ws).Traces→x∈o.Traces∨x.In∈ws
 | [],_,h=>.inl h
 | w::ws,o,h=>by
  unfold zdb at h;rcases zk3 ws _ h with e | e
  ·rcases mem_addL e with e | e
   ·exact .inr (by rw [e];simp [tr])
   ·exact .inl e
  ·exact .inr (by simp [e])
structure zez (m:zab) (o:zad):Prop where
 ok:zeg o
 tr:SmTr o.Traces
 ex:Expl m o
 inp:o.Inputs=m.Inputs
end
end
section
theorem scan_map {α R R':Type} {g:Nat→α→Option R} {f:R→R'}:∀ (l:List α) (j:Nat),scan (fun i x=>(g i x).map f) j l=(scan g j l).map f
 | [],_=>rfl
 | x::l,j=>by
  unfold scan;cases g j x with
  | some r=>rfl
  | none=>exact scan_map l (j+1)
theorem zsz {α R:Type} {g:Nat→α→Option R} {r:R}:∀ {l:List α} {j:Nat},scan g j l=some r→∃ i x,l[i]?=some x∧g (j+i) x=some r
 | [],_,h=>by cases h
 | x::l,j,h=>by
  unfold scan at h;cases e:g j x with
  | some q =>
   rw [e] at h;exact ⟨0,x,rfl,by rw [Nat.add_zero,e];exact h⟩
  | none =>
   rw [e] at h;obtain ⟨i,y,h1,h2⟩:=zsz (j:=j+1) h;exact ⟨i+1,y,by simpa using h1,by rw [show j+(i+1)=j+1+i by omega,h2]⟩
def celE (n:Nat) (u v:Int):Option Int:=if u<0∨(↑n:Int)≤u∨v<0∨1048576<v then some 2 else none
def rowE (m:zab) (s:Nat) (x:List Int):Option Int :=
 if (↑x.length:Int)≠m.Inputs∨(↑((m.Out[s]?).getD []).length:Int)≠m.Inputs then some 1 else scan (fun a u=>celE m.Next.length u ((((m.Out[s]?).getD [])[a]?).getD 0)) 0 x
def zgu (m:zab):Int :=
 if m.Inputs<1∨64<m.Inputs then 2 else if m.Next.length=0 then 19 else if 128<m.Next.length then 11 else if m.Start<0∨(↑m.Next.length:Int)≤m.Start then 2 else if m.Out.length≠m.Next.length then 1
 else match scan (rowE m) 0 m.Next with | some e=>e | none=>0
section
variable {m:zab}
theorem rowE_ne {s:Nat} {x:List Int} {e:Int} (h:rowE m s x=some e):e≠0:=by
 unfold rowE at h;split at h
 ·injection h with h
  omega
 ·obtain ⟨i,u,_,h2⟩:=zsz h;unfold celE at h2;split at h2
  ·injection h2 with h2
   omega
  ·cases h2
theorem cel_cond {n:Nat} {u v:Int}:(cond (decide (u<0)) (some true) (cond (decide ((↑n:Int)≤u)) (some true) (cond (decide (v<0)) (some true) (some (decide (1048576<v))))):Option Bool)=some (celE n u v).isSome:=by
 unfold celE;by_cases h1:u<0<;>by_cases h2:(↑n:Int)≤u<;>by_cases h3:v<0<;>by_cases h4:1048576<v<;>simp [h1,h2,h3,h4]
theorem celE_two {n:Nat} {u v:Int}:celE n u v=if (celE n u v).isSome=true then some 2 else none:=by
 unfold celE;split<;>rfl
theorem row_len {s:Nat} {x y:List Int} (hx:m.Next[s]?=some x) (hy:m.Out[s]?=some y) :
  (idxn m.Next s fun a2=>cond (decide ((↑a2.length:Int)≠m.Inputs)) (some true) (idxn m.Out s fun a6=>some (decide ((↑a6.length:Int)≠m.Inputs))):Option Bool)=some (decide ((↑x.length:Int)≠m.Inputs∨(↑y.length:Int)≠m.Inputs)):=by
 rw [zaq hx];by_cases h:(↑x.length:Int)=m.Inputs
 ·rw [zkA (fun k=>k h),zkC,zaq hy];simp [h]
 ·rw [zkB h,zkD];simp [h]
theorem idx_nat {α β:Type} {l:List α} {i:Nat} {k:α→Option β}:idx l (↑i:Int) k=idxn l i k:=by
 cases h:l[i]? with
 | some x=>rw [zbd rfl h,zaq h]
 | none =>
  unfold idx idxn;rw [h,if_pos (by omega),Int.toNat_natCast,h]
theorem R06_row_eq (hi:m.Inputs≤64) {s:Nat} {x y:List Int} (hx:m.Next[s]?=some x) (hy:m.Out[s]?=some y):zft m (↑s:Int)=some (match rowE m s x with | some e=>e | none=>0):=by
 unfold zft;rw [idx_nat];simp only [idx_nat];rw [row_len hx hy,zap];unfold rowE;rw [hy,Option.getD_some];by_cases h:(↑x.length:Int)≠m.Inputs∨(↑y.length:Int)≠m.Inputs
 ·rw [zkB h,zkD,if_pos h]
 ·rw [zkA h,zkC,if_neg h];have h1:(↑x.length:Int)=m.Inputs:=Classical.byContradiction fun q=>h (Or.inl q);have h2:(↑y.length:Int)=m.Inputs:=Classical.byContradiction fun q=>h (Or.inr q);rw [zcs (l:=x) (fun a u=>celE m.Next.length u ((y[a]?).getD 0)) (fun a u hu=>?_) ?_ (by omega),zap]
  ·cases scan (fun a u=>celE m.Next.length u ((y[a]?).getD 0)) 0 x<;>rfl
  ·simp only [zft.s2];rw [zkA (by omega),zkC]
  ·have ha:=(zkI.1 hu).1;have hv:y[a]?=some y[a]:=get_at (by omega);rw [hv,Option.getD_some];simp only [zft.s2,idx_nat];rw [zkB (by omega),zkD];simp only [zaq hx,zaq hy,zaq hu,zaq hv];rw [cel_cond,zap];cases e:celE m.Next.length u y[a] with
   | none =>
    rw [Option.isSome_none,zkC,zar (by unfold inR;omega)]
   | some r =>
    have:=celE_two (n:=m.Next.length) (u:=u) (v:=y[a]);rw [e] at this;injection this with this
    rw [this,Option.isSome_some,zkD]
theorem mealy_row_eq (hi:m.Inputs≤64) {s:Nat} {x y:List Int} (hx:m.Next[s]?=some x) (hy:m.Out[s]?=some y):zb3.s14 m s=some (match rowE m s x with | some e=>.inr (.inr e) | none=>.inl (s+1)):=by
 have hs:=(zkI.1 hx).1;simp only [zb3.s14];rw [zkB (by omega),zkD,row_len hx hy,zap];unfold rowE;rw [hy,Option.getD_some];by_cases h:(↑x.length:Int)≠m.Inputs∨(↑y.length:Int)≠m.Inputs
 ·rw [zkB h,zkD,if_pos h]
 ·rw [zkA h,zkC,if_neg h];have h1:(↑x.length:Int)=m.Inputs:=Classical.byContradiction fun q=>h (Or.inl q);have h2:(↑y.length:Int)=m.Inputs:=Classical.byContradiction fun q=>h (Or.inr q);rw [zcs (l:=x) (fun a u=>(celE m.Next.length u ((y[a]?).getD 0)).map fun r=>(.inr (.inr r):Nat⊕(Unit⊕Int))) (fun a u hu=>?_) ?_ (by omega),zap,scan_map]
  ·cases scan (fun a u=>celE m.Next.length u ((y[a]?).getD 0)) 0 x<;>rfl
  ·simp only [zb3.s13];rw [zkA (by omega),zkC]
  ·have ha:=(zkI.1 hu).1;have hv:y[a]?=some y[a]:=get_at (by omega);rw [hv,Option.getD_some];simp only [zb3.s13];rw [zkB (by omega),zkD];simp only [zaq hx,zaq hy,zaq hu,zaq hv];rw [cel_cond,zap];cases e:celE m.Next.length u y[a] with
   | none =>
    rw [Option.isSome_none,zkC,zar (by unfold inR;omega)];rfl
   | some r =>
    have:=celE_two (n:=m.Next.length) (u:=u) (v:=y[a]);rw [e] at this;injection this with this
    rw [this,Option.isSome_some,zkD];rfl
theorem zf2 (m:zab):zbx m=some (zgu m):=by
 unfold zbx zgu;by_cases c1:m.Inputs<1
 ·rw [zkB c1,if_pos (Or.inl c1)];rfl
 rw [zkA c1,zkC];by_cases c2:64<m.Inputs
 ·rw [zkB c2,if_pos (Or.inr c2)];rfl
 rw [zkA c2,zap,zkC,if_neg (by omega)];by_cases c3:m.Next.length=0
 ·rw [zkB (by omega),if_pos c3];rfl
 rw [zkA (by omega),zkC,if_neg c3];by_cases c4:128<m.Next.length
 ·rw [zkB (by omega),if_pos c4];rfl
 rw [zkA (by omega),zkC,if_neg c4];by_cases c5:m.Start<0
 ·rw [zkB c5,if_pos (Or.inl c5)];rfl
 rw [zkA c5,zkC];by_cases c6:(↑m.Next.length:Int)≤m.Start
 ·rw [zkB c6,if_pos (Or.inr c6)];rfl
 rw [zkA c6,zap,zkC,if_neg (by omega)];by_cases c7:m.Out.length=m.Next.length
 ·rw [zkA (by omega),zkC,if_neg (by omega),zcs (l:=m.Next) (rowE m) (fun s x hx=>?_) ?_ (by omega),zap]
  ·cases scan (rowE m) 0 m.Next<;>rfl
  ·simp only [zbx.s2];rw [zkA (by omega),zkC]
  ·have hs:=(zkI.1 hx).1;simp only [zbx.s2];rw [zkB (by omega),zkD,R06_row_eq (by omega) hx (get_at (l:=m.Out) (by omega)),zap];cases e:rowE m s x with
   | none=>rfl
   | some r=>rw [zkB (rowE_ne e),zkD]
 ·rw [zkB (by omega),if_pos c7];rfl
theorem zih (m:zab):zb3 m=some (zgu m):=by
 unfold zb3 zgu;by_cases c1:m.Inputs<1
 ·rw [zkB c1,if_pos (Or.inl c1)];rfl
 rw [zkA c1,zkC];by_cases c2:64<m.Inputs
 ·rw [zkB c2,if_pos (Or.inr c2)];rfl
 rw [zkA c2,zap,zkC,if_neg (by omega)];by_cases c3:m.Next.length=0
 ·rw [zkB (by omega),if_pos c3];rfl
 rw [zkA (by omega),zkC,if_neg c3];by_cases c4:128<m.Next.length
 ·rw [zkB (by omega),if_pos c4];rfl
 rw [zkA (by omega),zkC,if_neg c4];by_cases c5:m.Start<0
 ·rw [zkB c5,if_pos (Or.inl c5)];rfl
 rw [zkA c5,zkC];by_cases c6:(↑m.Next.length:Int)≤m.Start
 ·rw [zkB c6,if_pos (Or.inr c6)];rfl
 rw [zkA c6,zap,zkC,if_neg (by omega)];by_cases c7:m.Out.length=m.Next.length
 ·rw [zkA (by omega),zkC,if_neg (by omega),zcs (l:=m.Next) (rowE m) (fun s x hx=>?_) ?_ (by omega),zap]
  ·cases scan (rowE m) 0 m.Next<;>rfl
  ·simp only [zb3.s14];rw [zkA (by omega),zkC]
  ·have hs:=(zkI.1 hx).1;rw [mealy_row_eq (by omega) hx (get_at (l:=m.Out) (by omega))];cases rowE m s x<;>rfl
 ·rw [zkB (by omega),if_pos c7];rfl
theorem zhp (h:zgu m=0):zda m:=macOk_of (by rw [zf2,h])
theorem zni {w:List Int} {n:Int} (h:zbl w n=0):w.length≤1024:=by
 unfold zbl at h;split at h
 ·split at h
  ·cases h
  ·omega
 ·cases h
theorem runner_eq (H:zda m) {s:Nat} (hs:s<m.Next.length) {w:List Int} (hw:WOk m.Inputs w) (hl:w.length≤100000000):zbj (⟨(⟨m⟩:zc2),(↑s:Int)⟩:zb7) w=some (outs m s w,(⟨(⟨m⟩:zc2),(↑(dest m s w):Int)⟩:zb7)):=by
 unfold zbj
 have key:=zcw (step:=fun (q:Int×List Int×Nat)=>zbj.s2 (⟨(⟨m⟩:zc2),(↑s:Int)⟩:zb7) w q.1 q.2.1 q.2.2) (r:=((↑(dest m s w):Int),outs m s w)) (fun q=>q.2.2≤w.length∧q.1=(↑(dest m s (w.take q.2.2)):Int)∧q.2.1=outs m s (w.take q.2.2)) (fun q=>w.length-q.2.2) (fun q ⟨g1,g2,g3⟩=>by
  obtain ⟨st,y,k⟩:=q
  simp only at g1 g2 g3
  subst g2
  subst g3
  simp only [zbj.s2,zfu]
  by_cases g4:k<w.length
  ·left
   have hx:=get_at g4
   obtain ⟨x0,x1⟩:=hw _ (List.getElem_mem g4)
   have ha:w[k].toNat<m.Inputs.toNat:=by omega
   have hd:Sym.dest m s (w.take k)<m.Next.length:=H.dest (hw.take k) hs
   obtain ⟨_,_,_,x,y,e1,e2,e3,e4⟩:=H.at hd ha
   refine ⟨((↑(Sym.dest m s (w.take (k+1))):Int),outs m s (w.take (k+1)),k+1),?_,⟨g4,rfl,rfl⟩,by simp only;omega⟩
   rw [zcb hx,zkD,zaq hx,zbd rfl e1,zbd (i:=w[k].toNat) (by omega) e3,zbd rfl e2,zbd (i:=w[k].toNat) (by omega) e4,zap,zar (by unfold za7;rw [zii,List.length_take];omega),zbk hx,zea,zfd]
   rfl
  ·right
   have e:k=w.length:=by omega
   subst e
   rw [zkA (by omega),zkC,List.take_length]) (n:=fuel) (s:=((↑s:Int),[],0)) ⟨Nat.zero_le _,rfl,rfl⟩
 rw [key,zap];rfl
end
end
section
section
variable {m:zab} {ids:List (List (List Int))} {w:List Int}
end
end
section
section
variable {A:Type} [DecidableEq A]
def bfsB (e:A→Nat→A) (K:Nat) (s0:A):Nat→List (A×List Int)
 | 0=>[(s0,[])]
 | r+1=>match (bfsB e K s0 r)[r / K]? with
  | none=>bfsB e K s0 r
  | some x=>if e x.1 (r%K)∈(bfsB e K s0 r).map Prod.fst then bfsB e K s0 r else bfsB e K s0 r++[(e x.1 (r%K),x.2++[(↑(r%K):Int)])]
theorem zog {K i a:Nat} (h:a<K):(i*K+a) / K=i:=by
 rw [Nat.add_comm,Nat.add_mul_div_right _ _ (by omega),Nat.div_eq_of_lt h,Nat.zero_add]
theorem zwe {K i a:Nat} (h:a<K):(i*K+a)%K=a:=by
 rw [Nat.add_comm,Nat.add_mul_mod_self_right,Nat.mod_eq_of_lt h]
theorem zrj {i n a K:Nat} (hi:i<n) (ha:a<K):i*K+a<n*K:=by
 have:(i+1)*K≤n*K:=Nat.mul_le_mul_right K hi;rw [Nat.succ_mul] at this;omega
variable {e:A→Nat→A} {K:Nat} {s0:A}
theorem bfs_step {i a:Nat} {x:A×List Int} (ha:a<K) (hx:(bfsB e K s0 (i*K+a))[i]?=some x) :
  bfsB e K s0 (i*K+(a+1))=if e x.1 a∈(bfsB e K s0 (i*K+a)).map Prod.fst then bfsB e K s0 (i*K+a) else bfsB e K s0 (i*K+a)++[(e x.1 a,x.2++[(↑a:Int)])]:=by
 show bfsB e K s0 ((i*K+a)+1)=_;rw [bfsB,zog ha,hx,zwe ha]
theorem zso (r:Nat):bfsB e K s0 r <+: bfsB e K s0 (r+1):=by
 rw [bfsB];split
 ·exact List.prefix_refl _
 ·split
  ·exact List.prefix_refl _
  ·exact List.prefix_append _ _
theorem ziv {r:Nat}:∀ {r':Nat},r≤r'→bfsB e K s0 r <+: bfsB e K s0 r'
 | 0,h=>by
  have:r=0:=by omega
  subst this;exact List.prefix_refl _
 | r'+1,h=>by
  rcases Nat.lt_or_ge r (r'+1) with g | g
  ·exact (ziv (r':=r') (by omega)).trans (zso r')
  ·have:r=r'+1:=by omega
   subst this;exact List.prefix_refl _
theorem zf3 {α:Type} {l l':List α} (h:l <+: l') {i:Nat} {x:α} (hx:l[i]?=some x):l'[i]?=some x:=by
 obtain ⟨t,rfl⟩:=h;rw [List.getElem?_append_left (zkI.1 hx).1,hx]
theorem zuu (r:Nat):(bfsB e K s0 r)[0]?=some (s0,[]):=zf3 (ziv (Nat.zero_le r)) rfl
theorem zlc:∀ r:Nat,((bfsB e K s0 r).map Prod.fst).Nodup
 | 0=>by simp [bfsB]
 | r+1=>by
  have ih:=zlc r;rw [bfsB];split
  ·exact ih
  ·split
   ·exact ih
   ·rename_i x _ hn;rw [List.map_append,List.nodup_append];refine ⟨ih,by simp,fun a ha b hb hab=>hn ?_⟩;have:b=e x.1 (r%K):=by simpa using hb
    rw [← this,← hab];exact ha
theorem zpi:∀ {r u:Nat} {x:A×List Int},(bfsB e K s0 r)[u]?=some x→u=0∨∃ r' y,r'<r∧r' / K<u∧(bfsB e K s0 r)[r' / K]?=some y∧x=(e y.1 (r'%K),y.2++[(↑(r'%K):Int)])
 | 0,u,x,h=>by
  left;have:=(zkI.1 h).1;simp [bfsB] at this;exact this
 | r+1,u,x,h=>by
  have old:(bfsB e K s0 r)[u]?=some x→u=0∨∃ r' y,r'<r+1∧r' / K<u∧(bfsB e K s0 (r+1))[r' / K]?=some y∧x=(e y.1 (r'%K),y.2++[(↑(r'%K):Int)]):=fun h=>by
   rcases zpi h with h | ⟨r',y,h1,h2,h3,h4⟩
   ·exact Or.inl h
   ·exact Or.inr ⟨r',y,by omega,h2,zf3 (zso r) h3,h4⟩
  have hh:=h;rw [bfsB] at h;split at h
  ·exact old h
  ·rename_i y hy;split at h
   ·exact old h
   ·rename_i hn;rcases Nat.lt_or_ge u (bfsB e K s0 r).length with g | g
    ·rw [List.getElem?_append_left g] at h;exact old h
    ·right;rw [List.getElem?_append_right g] at h
     have hu:u-(bfsB e K s0 r).length=0:=by
      have:=(zkI.1 h).1;simpa using this
     rw [hu] at h
     have hx:x=(e y.1 (r%K),y.2++[(↑(r%K):Int)]):=by
      simp at h;exact h.symm
     have hk:=(zkI.1 hy).1;exact ⟨r,y,by omega,by omega,zf3 (zso r) hy,hx⟩
theorem bfs_to {r:Nat} {x:A×List Int} (hx:(bfsB e K s0 r)[r / K]?=some x):e x.1 (r%K)∈(bfsB e K s0 (r+1)).map Prod.fst:=by
 rw [bfsB,hx];simp only;split
 ·assumption
 ·simp
structure ziz (e:A→Nat→A) (K:Nat) (s0:A) (L:List (A×List Int)):Prop where
 eq:L=bfsB e K s0 (L.length*K)
variable {L:List (A×List Int)}
theorem ziz.at (h:ziz e K s0 L) {r:Nat} (hr:r≤L.length*K):bfsB e K s0 r <+: L:=by
 have:=ziv (e:=e) (K:=K) (s0:=s0) hr;rw [← h.eq] at this;exact this
theorem ziz.first (h:ziz e K s0 L):L[0]?=some (s0,[]):=by
 rw [h.eq];exact zuu _
theorem ziz.nodup (h:ziz e K s0 L):(L.map Prod.fst).Nodup:=by
 rw [h.eq];exact zlc _
theorem ziz.long (h:ziz e K s0 L) {i a:Nat} (hi:i<L.length) (ha:a<K):∃ x,L[i]?=some x∧(bfsB e K s0 (i*K+a))[i]?=some x:=by
 refine ⟨_,zkM hi,?_⟩;have hpre:=h.at (r:=i*K+a) (by have:=zrj hi ha;omega);rcases Nat.lt_or_ge i (bfsB e K s0 (i*K+a)).length with g | g
 ·have:=zf3 hpre (zkM g);rw [zkM hi] at this;rw [zkM g,this]
 ·exfalso
  have stay:∀ d,bfsB e K s0 (i*K+a+d)=bfsB e K s0 (i*K+a):=by
   intro d
   induction d with
   | zero=>rfl
   | succ d ih =>
    show bfsB e K s0 (i*K+a+d+1)=_;rw [bfsB,ih,List.getElem?_eq_none ?_];have h1:(i*K+a) / K≤(i*K+a+d) / K:=Nat.div_le_div_right (by omega);rw [zog ha] at h1;omega
  have h2:=stay (L.length*K-(i*K+a));rw [show i*K+a+(L.length*K-(i*K+a))=L.length*K by have:=zrj hi ha;omega,← h.eq] at h2;rw [← h2] at g;omega
theorem ziz.closed (h:ziz e K s0 L) {i a:Nat} {x:A×List Int} (hx:L[i]?=some x) (ha:a<K):∃ j y,L[j]?=some y∧y.1=e x.1 a∧∀ u,0<u→u≤j→∃ i' a' z w,a'<K∧i'*K+a'≤i*K+a∧i'<u∧L[i']?=some z∧L[u]?=some w∧w.1=e z.1 a':=by
 have hi:=(zkI.1 hx).1;obtain ⟨x',h1,h2⟩:=h.long hi ha;rw [hx] at h1;injection h1 with h1
 subst h1;have hlt:=zrj hi ha;have hpre:=h.at (r:=i*K+a+1) (by omega);have h3:=bfs_to (e:=e) (K:=K) (s0:=s0) (r:=i*K+a) (x:=x) (by rw [zog ha];exact h2);rw [zwe ha] at h3;obtain ⟨y,hy,hye⟩:=List.mem_map.1 h3;obtain ⟨j,hj,hjy⟩:=List.mem_iff_getElem.1 hy;have hjy':(bfsB e K s0 (i*K+a+1))[j]?=some y:=by rw [zkM hj,hjy]
 refine ⟨j,y,zf3 hpre hjy',hye,fun u hu huj=>?_⟩;have hul:u<(bfsB e K s0 (i*K+a+1)).length:=by omega
 have hw:=zkM hul;rcases zpi hw with q | ⟨r',z,q1,q2,q3,q4⟩
 ·omega
 ·have hK:0<K:=by omega
  refine ⟨r' / K,r'%K,z,_,Nat.mod_lt _ hK,?_,q2,zf3 hpre q3,zf3 hpre hw,by rw [q4]⟩;have:=Nat.div_add_mod r' K;rw [Nat.mul_comm] at this;omega
theorem ziz.from (h:ziz e K s0 L) (hK:0<K) {u:Nat} {x:A×List Int} (hx:L[u]?=some x):u=0∨∃ i a y,i<u∧a<K∧L[i]?=some y∧x=(e y.1 a,y.2++[(↑a:Int)]):=by
 have hx':=hx;rw [h.eq] at hx';rcases zpi hx' with q | ⟨r',z,q1,q2,q3,q4⟩
 ·exact Or.inl q
 ·rw [← h.eq] at q3;exact Or.inr ⟨r' / K,r'%K,z,q2,Nat.mod_lt _ hK,q3,q4⟩
end
end
section
def E (m:zab):Nat→Nat→Nat→Prop
 | 0,_,_=>True
 | k+1,s,t=>E m k s t∧∀ a,a<m.Inputs.toNat→ot m s a=ot m t a∧E m k (nx m s a) (nx m t a)
section
variable {m:zab}
theorem E_refl:∀ (k s:Nat),E m k s s
 | 0,_=>trivial
 | k+1,s=>⟨E_refl k s,fun _ _=>⟨rfl,E_refl k _⟩⟩
theorem zrl:∀ {k s t:Nat},E m k s t→E m k t s
 | 0,_,_,_=>trivial
 | _+1,_,_,h=>⟨zrl h.1,fun a ha=>⟨(h.2 a ha).1.symm,zrl (h.2 a ha).2⟩⟩
theorem zkl:∀ {k s t u:Nat},E m k s t→E m k t u→E m k s u
 | 0,_,_,_,_,_=>trivial
 | _+1,_,_,_,h,g=>⟨zkl h.1 g.1,fun a ha=>⟨(h.2 a ha).1.trans (g.2 a ha).1,zkl (h.2 a ha).2 (g.2 a ha).2⟩⟩
theorem E_mono {k j s t:Nat} (hk:k≤j) (h:E m j s t):E m k s t:=by
 induction j with
 | zero =>
  have e:k=0:=by omega
  subst e;exact h
 | succ j ih =>
  rcases Nat.lt_or_ge k (j+1) with h1 | h1
  ·exact ih (by omega) h.1
  ·have e:k=j+1:=by omega
   subst e;exact h
theorem E_outs:∀ {w:List Int} {s t:Nat},E m w.length s t→WOk m.Inputs w→outs m s w=outs m t w
 | [],_,_,_,_=>rfl
 | a::w,s,t,h,hw=>by
  have ha:=hw.head;obtain ⟨h1,h2⟩:=h.2 a.toNat (by omega);show ot m s a.toNat::outs m _ w=ot m t a.toNat::outs m _ w;rw [h1,E_outs (w:=w) h2 hw.tail]
theorem zpj:∀ {k s t:Nat},(∀ w,w.length≤k→WOk m.Inputs w→outs m s w=outs m t w)→E m k s t
 | 0,_,_,_=>trivial
 | k+1,s,t,h=>⟨zpj fun w hl hw=>h w (by omega) hw,fun a ha=>by
  have hx:∀ w,w.length≤k→WOk m.Inputs w→ot m s a=ot m t a∧outs m (nx m s a) w=outs m (nx m t a) w:=fun w hl hw=>by
   have h1:=h ((↑a:Int)::w) (by simp;omega) (fun x hx=>by
    rcases List.mem_cons.1 hx with rfl | hx
    ·exact ⟨by omega,by omega⟩
    ·exact hw x hx)
   have h2:ot m s a::outs m (nx m s a) w=ot m t a::outs m (nx m t a) w:=h1
   injection h2 with h3 h4
   exact ⟨h3,h4⟩
  exact ⟨(hx [] (Nat.zero_le _) (fun x hx=>by cases hx)).1,zpj fun w hl hw=>(hx w hl hw).2⟩⟩
structure zmx (m:zab) (k:Nat) (c:List Int):Prop where
 len:c.length=m.Next.length
 rng:∀ s,s<m.Next.length→∃ x:Nat,c[s]?=some (↑x:Int)∧x<m.Next.length
 cls:∀ s t,s<m.Next.length→t<m.Next.length→(c[s]?=c[t]?↔E m k s t)
def Alike (m:zab) (c:List Int) (s t a:Nat):Prop:=c[s]?=c[t]?∧∀ b,b<a→ot m s b=ot m t b∧c[nx m s b]?=c[nx m t b]?
theorem alike_iff (H:zda m) {k:Nat} {c:List Int} (C:zmx m k c) {s t:Nat} (hs:s<m.Next.length) (ht:t<m.Next.length):Alike m c s t m.Inputs.toNat↔E m (k+1) s t:=by
 constructor
 ·rintro ⟨h1,h2⟩;exact ⟨(C.cls s t hs ht).1 h1,fun a ha=>⟨(h2 a ha).1,(C.cls _ _ (H.at hs ha).1 (H.at ht ha).1).1 (h2 a ha).2⟩⟩
 ·rintro ⟨h1,h2⟩;exact ⟨(C.cls s t hs ht).2 h1,fun a ha=>⟨(h2 a ha).1,(C.cls _ _ (H.at hs ha).1 (H.at ht ha).1).2 (h2 a ha).2⟩⟩
theorem finer_same (H:zda m) {k:Nat} {c:List Int} (C:zmx m k c) {s t:Nat} (hs:s<m.Next.length) (ht:t<m.Next.length) {b0:Bool} (hb:b0=true↔c[s]?=c[t]?) :
  ∃ r:Bool,iter (fun (q:Bool×Nat)=>zbo.s89 m c s (↑t:Int) q.1 q.2) fuel (b0,0)=some r∧(r=true↔E m (k+1) s t):=by
 have hI:=H.i2
 obtain ⟨r,hr,hq⟩:=zf5 (step:=fun (q:Bool×Nat)=>zbo.s89 m c s (↑t:Int) q.1 q.2) (fun q=>q.2≤m.Inputs.toNat∧(q.1=true↔Alike m c s t q.2)) (fun q=>m.Inputs.toNat-q.2) (fun r=>r=true↔Alike m c s t m.Inputs.toNat) (fun q ⟨g1,g2⟩=>by
  obtain ⟨b,a⟩:=q
  simp only at g1 g2
  simp only [zbo.s89]
  by_cases g3:a<m.Inputs.toNat
  ·rw [zkB (by omega),zkD,zap]
   cases b with
   | false =>
    right
    rw [zkC]
    exact ⟨false,rfl,⟨fun h=>(by cases h),fun h=>absurd (g2.2 ⟨h.1,fun b hb=>h.2 b (by omega)⟩) (by simp)⟩⟩
   | true =>
    left
    obtain ⟨s1,_,_,x,y,e1,e2,e3,e4⟩:=H.at hs g3
    obtain ⟨t1,_,_,x',y',f1,f2,f3,f4⟩:=H.at ht g3
    obtain ⟨u,u1,u2⟩:=C.rng _ s1
    obtain ⟨v,v1,v2⟩:=C.rng _ t1
    have g2:=g2.1 rfl
    rw [zkD,zaq e2,zaq e4,zbd rfl f2,zaq f4]
    by_cases g4:ot m s a=ot m t a
    ·refine ⟨(decide ((↑u:Int)=(↑v:Int)),a+1),?_,⟨g3,?_⟩,by simp only;omega⟩
     ·rw [zkB g4,zkD,zaq e1,zaq e3,zbd rfl u1,zbd rfl f1,zaq f3,zbd rfl v1,zar (by unfold inR;omega)]
     ·simp only [decide_eq_true_eq]
      constructor
      ·intro h
       refine ⟨g2.1,fun b hb=>?_⟩
       rcases Nat.lt_or_ge b a with h1 | h1
       ·exact g2.2 b h1
       ·have e:b=a:=by omega
        subst e
        exact ⟨g4,by rw [u1,v1,h]⟩
      ·intro h
       have h1:=(h.2 a (by omega)).2
       rw [u1,v1] at h1
       injection h1
    ·refine ⟨(false,a+1),?_,⟨g3,?_⟩,by simp only;omega⟩
     ·rw [zkA g4,zkC,zar (by unfold inR;omega)]
     ·exact ⟨fun h=>(by cases h),fun h=>absurd (h.2 a (by omega)).1 g4⟩
  ·right
   have e:a=m.Inputs.toNat:=by omega
   subst e
   exact ⟨b,by rw [zkA (by omega),zkC,zap,zkC],g2⟩) (b0,0) ⟨Nat.zero_le _,by rw [hb];exact ⟨fun h=>⟨h,fun b hb=>absurd hb (Nat.not_lt_zero _)⟩,fun h=>h.1⟩⟩
 exact ⟨r,hr,hq.trans (alike_iff H C hs ht)⟩
theorem finer_found (H:zda m) {k:Nat} {c:List Int} (C:zmx m k c) {s:Nat} (hs:s<m.Next.length) {y:List Int} (hy:y.length=s) :
  ∃ r:Int,iter (fun (q:Int×Int)=>zbo.s90 m c y s q.1 q.2) fuel ((-1:Int),(↑s:Int)-1)=some r∧((r=-1∧∀ t,t<s→¬ E m (k+1) s t)∨∃ t,t<s∧E m (k+1) s t∧y[t]?=some r):=by
 have hn:=H.n2
 obtain ⟨r,hr,hq⟩:=zf5 (step:=fun (q:Int×Int)=>zbo.s90 m c y s q.1 q.2) (fun q=>-1≤q.2∧q.2<(↑s:Int)∧((q.1=-1∧∀ t:Nat,q.2<(↑t:Int)→t<s→¬ E m (k+1) s t)∨∃ t,t<s∧E m (k+1) s t∧y[t]?=some q.1)) (fun q=>(q.2+1).toNat) (fun r=>(r=-1∧∀ t,t<s→¬ E m (k+1) s t)∨∃ t,t<s∧E m (k+1) s t∧y[t]?=some r) (fun q ⟨g1,g2,g3⟩=>by
  obtain ⟨f,t⟩:=q
  simp only at g1 g2 g3
  simp only [zbo.s90]
  by_cases g4:0≤t
  ·left
   obtain ⟨t,rfl⟩:∃ t':Nat,t=(↑t':Int):=⟨t.toNat,by omega⟩
   have hts:t<s:=by omega
   have ht:t<m.Next.length:=by omega
   obtain ⟨u,u1,u2⟩:=C.rng s hs
   obtain ⟨v,v1,v2⟩:=C.rng t ht
   obtain ⟨b,b1,b2⟩:=finer_same H C hs ht (b0:=decide ((↑u:Int)=(↑v:Int))) (by
    rw [u1,v1,decide_eq_true_eq]
    exact ⟨fun h=>by rw [h],fun h=>by injection h⟩)
   have hyt:=get_at (l:=y) (i:=t) (by omega)
   rw [zkB g4,zkD,zaq u1,zbd rfl v1,b1,zap]
   cases b with
   | true =>
    refine ⟨(y[t]'(by omega),(↑t:Int)-1),by rw [zkD,zbd rfl hyt,zar (by unfold inR;omega)],⟨by simp only;omega,by simp only;omega,Or.inr ⟨t,hts,b2.1 rfl,hyt⟩⟩,by simp only;omega⟩
   | false =>
    refine ⟨(f,(↑t:Int)-1),by rw [zkC,zar (by unfold inR;omega)],⟨by simp only;omega,by simp only;omega,?_⟩,by simp only;omega⟩
    rcases g3 with ⟨h1,h2⟩ | h
    ·refine Or.inl ⟨h1,fun t' h3 h4=>?_⟩
     simp only at h3
     by_cases e:t'=t
     ·subst e
      exact fun h=>absurd (b2.2 h) (by simp)
     ·exact h2 t' (by omega) h4
    ·exact Or.inr h
  ·right
   have e:t=-1:=by omega
   subst e
   refine ⟨f,by rw [zkA (by omega),zkC],?_⟩
   rcases g3 with ⟨h1,h2⟩ | h
   ·exact Or.inl ⟨h1,fun t' h4=>h2 t' (by omega) h4⟩
   ·exact Or.inr h) ((-1:Int),(↑s:Int)-1) ⟨by simp only;omega,by simp only;omega,Or.inl ⟨rfl,fun t h1 h2=>by simp only at h1;omega⟩⟩
 exact ⟨r,hr,hq⟩
structure FinOk (m:zab) (k:Nat) (y:List Int) (n s:Nat):Prop where
 ls:s≤m.Next.length
 len:y.length=s
 cnt:n≤s
 rng:∀ i,i<s→∃ x:Nat,y[i]?=some (↑x:Int)∧x<n
 cls:∀ i j,i<s→j<s→(y[i]?=y[j]?↔E m k i j)
theorem R08_finer_eq (H:zda m) {k:Nat} {c:List Int} (C:zmx m k c):∃ c',zbo m c=some c'∧zmx m (k+1) c':=by
 have hn:=H.n2;unfold zbo
 obtain ⟨r,hr,n,hq⟩:=zf5 (step:=fun (q:List Int×Nat×Nat)=>zbo.s92 m c q.1 q.2.1 q.2.2) (fun q=>FinOk m (k+1) q.1 q.2.1 q.2.2) (fun q=>m.Next.length-q.2.2) (fun r=>∃ n,FinOk m (k+1) r n m.Next.length) (fun q Q=>by
  obtain ⟨y,n,s⟩:=q
  simp only at Q
  have hc:=Q.cnt
  have hl:=Q.len
  have hls:=Q.ls
  simp only [zbo.s92]
  rw [C.len]
  by_cases g1:s<m.Next.length
  ·left
   obtain ⟨f,f1,f2⟩:=finer_found H C g1 Q.len
   rw [zkB (by omega),zkD,f1,zap]
   rcases f2 with ⟨rfl,f2⟩ | ⟨t,ht,hE,f2⟩
   ·-- a class of its own
    rw [zkB (by omega),zkD,zar (by unfold inR;omega),zap]
    refine ⟨(y++[(↑n:Int)],n+1,s+1),by simp only [zbo.k91];rw [zar (by unfold za7;omega)],(show FinOk m (k+1) (y++[(↑n:Int)]) (n+1) (s+1) from ⟨g1,by simp [Q.len],by omega,fun i hi=>?_,fun i j hi hj=>?_⟩),by simp only;omega⟩
    ·rcases Nat.lt_or_ge i s with h | h
     ·obtain ⟨x,x1,x2⟩:=Q.rng i h
      exact ⟨x,by rw [List.getElem?_append_left (by omega),x1],by omega⟩
     ·have e:i=y.length:=by omega
      subst e
      exact ⟨n,by simp,by omega⟩
    ·have old:∀ i,i<s→(y++[(↑n:Int)])[i]?=y[i]?:=fun i hi=>List.getElem?_append_left (by omega)
     have new:(y++[(↑n:Int)])[s]?=some (↑n:Int):=by rw [List.getElem?_append_right (by omega),hl,Nat.sub_self];rfl
     have ne:∀ i,i<s→y[i]?≠some (↑n:Int):=fun i hi h=>by
      obtain ⟨x,x1,x2⟩:=Q.rng i hi
      rw [x1] at h
      injection h with h
      omega
     rcases Nat.lt_or_ge i s with h | h<;>rcases Nat.lt_or_ge j s with h' | h'
     ·rw [old i h,old j h']
      exact Q.cls i j h h'
     ·have e:j=s:=by omega
      subst e
      rw [old i h,new]
      exact ⟨fun h2=>absurd h2 (ne i h),fun h2=>absurd (zrl h2) (f2 i h)⟩
     ·have e:i=s:=by omega
      subst e
      rw [old j h',new]
      exact ⟨fun h2=>absurd h2.symm (ne j h'),fun h2=>absurd h2 (f2 j h')⟩
     ·have e:i=s:=by omega
      have e':j=s:=by omega
      subst e
      subst e'
      exact ⟨fun _=>E_refl _ _,fun _=>rfl⟩
   ·obtain ⟨x,x1,x2⟩:=Q.rng t ht
    rw [f2] at x1
    injection x1 with x1
    subst x1
    rw [zkA (by omega),zkC,zap]
    refine ⟨(y++[(↑x:Int)],n,s+1),by simp only [zbo.k91];rw [zar (by unfold za7;omega)],(show FinOk m (k+1) (y++[(↑x:Int)]) n (s+1) from ⟨g1,by simp [Q.len],by omega,fun i hi=>?_,fun i j hi hj=>?_⟩),by simp only;omega⟩
    ·rcases Nat.lt_or_ge i s with h | h
     ·obtain ⟨z,z1,z2⟩:=Q.rng i h
      exact ⟨z,by rw [List.getElem?_append_left (by omega),z1],z2⟩
     ·have e:i=y.length:=by omega
      subst e
      exact ⟨x,by simp,x2⟩
    ·have old:∀ i,i<s→(y++[(↑x:Int)])[i]?=y[i]?:=fun i hi=>List.getElem?_append_left (by omega)
     have new:(y++[(↑x:Int)])[s]?=y[t]?:=by rw [List.getElem?_append_right (by omega),hl,Nat.sub_self,f2];rfl
     rcases Nat.lt_or_ge i s with h | h<;>rcases Nat.lt_or_ge j s with h' | h'
     ·rw [old i h,old j h']
      exact Q.cls i j h h'
     ·have e:j=s:=by omega
      subst e
      rw [old i h,new,Q.cls i t h ht]
      exact ⟨fun h2=>zkl h2 (zrl hE),fun h2=>zkl h2 hE⟩
     ·have e:i=s:=by omega
      subst e
      rw [old j h',new,Q.cls t j ht h']
      exact ⟨fun h2=>zkl hE h2,fun h2=>zkl (zrl hE) h2⟩
     ·have e:i=s:=by omega
      have e':j=s:=by omega
      subst e
      subst e'
      exact ⟨fun _=>E_refl _ _,fun _=>rfl⟩
  ·right
   have e:s=m.Next.length:=by omega
   subst e
   exact ⟨y,by rw [zkA (by omega),zkC],n,Q⟩) ([],0,0) ⟨Nat.zero_le _,rfl,Nat.le_refl _,fun i h=>absurd h (Nat.not_lt_zero _),fun i j h=>absurd h (Nat.not_lt_zero _)⟩
 refine ⟨r,by rw [hr,zap],hq.len,fun s hs=>?_,fun s t hs ht=>hq.cls s t hs ht⟩;obtain ⟨x,x1,x2⟩:=hq.rng s hs;have:=hq.cnt;exact ⟨x,x1,by omega⟩
theorem zsg (hv:zbx m=some 0) (k:Nat):∃ c,zc4 m (↑k:Int)=some (c,0)∧zmx m (min k m.Next.length) c:=by
 have H:=macOk_of hv;have hn:=H.n2;unfold zc4;rw [hv,zap,zkA (by simp),zkC,zar ⟨by omega,by omega,by unfold za7;omega⟩]
 obtain ⟨r,hr,hq⟩:=zf5 (step:=fun (q:List Int×Nat)=>zc4.s2 m (↑k:Int) q.1 q.2) (fun q=>q.2≤min k m.Next.length∧zmx m q.2 q.1) (fun q=>min k m.Next.length-q.2) (fun r=>zmx m (min k m.Next.length) r) (fun q ⟨g1,g2⟩=>by
  obtain ⟨y,i⟩:=q
  simp only at g1 g2
  simp only [zc4.s2]
  by_cases g3:i<min k m.Next.length
  ·left
   obtain ⟨c',e1,e2⟩:=R08_finer_eq H g2
   refine ⟨(c',i+1),?_,⟨g3,e2⟩,by simp only;omega⟩
   rw [zkB (by omega),zkD,zap,zkB (by omega),zkD,e1,zap,zar (by unfold inR;omega)]
  ·right
   have e:i=min k m.Next.length:=by omega
   refine ⟨y,?_,e ▸ g2⟩
   by_cases h:i<k
   ·rw [zkB (by omega),zkD,zap,zkA (by omega),zkC]
   ·rw [zkA (by omega),zkC,zap,zkC]) ((List.replicate m.Next.length 0),0) ⟨Nat.zero_le _,⟨by simp,fun s hs=>⟨0,by simp [hs],H.n1⟩,fun s t hs ht=>⟨fun _=>trivial,fun _=>by simp [hs,ht]⟩⟩⟩
 exact ⟨r,by rw [hr,zap],hq⟩
theorem zri {α:Type} {p q:α→Bool}:∀ {l:List α},(∀ x∈l,p x=true→q x=true)→l.countP q≤l.countP p→∀ x∈l,q x=true→p x=true
 | [],_,_,x,hx,_=>by cases hx
 | y::l,h,hc,x,hx,hq=>by
  have h1:l.countP p≤l.countP q:=List.countP_mono_left fun x hx=>h x (List.mem_cons_of_mem _ hx);rw [List.countP_cons,List.countP_cons] at hc;have h2:=h y (List.mem_cons_self ..)
  have h3:l.countP q≤l.countP p∧(q y=true→p y=true):=by
   cases e1:q y<;>cases e2:p y<;>simp [e1,e2] at hc h2 ⊢<;>omega
  rcases List.mem_cons.1 hx with rfl | hx
  ·exact h3.2 hq
  ·exact zri (fun x hx=>h x (List.mem_cons_of_mem _ hx)) h3.1 x hx hq
def Rep (m:zab) (k s:Nat):Prop:=∀ t,t<s→¬ E m k s t
open Classical in
noncomputable def nreps (m:zab) (k:Nat):Nat:=(List.range m.Next.length).countP fun s=>decide (Rep m k s)
theorem zwj (k:Nat):∀ (s:Nat),∃ r,r≤s∧Rep m k r∧E m k s r:=by
 intro s
 induction s using Nat.strongRecOn with
 | ind s ih =>
  by_cases h:Rep m k s
  ·exact ⟨s,Nat.le_refl _,h,E_refl _ _⟩
  ·have ⟨t,h1⟩:=Classical.not_forall.1 h;obtain ⟨h2,h3⟩:=Classical.not_imp.1 h1;have h3:=Classical.not_not.1 h3;obtain ⟨r,r1,r2,r3⟩:=ih t h2;exact ⟨r,by omega,r2,zkl h3 r3⟩
def Stab (m:zab) (k:Nat):Prop:=∀ s t,s<m.Next.length→t<m.Next.length→E m k s t→E m (k+1) s t
theorem rep_succ {k s:Nat} (h:Rep m k s):Rep m (k+1) s:=fun t ht hE=>h t ht hE.1
open Classical in
open Classical in
theorem stab_of {k:Nat} (h:nreps m (k+1)≤nreps m k):Stab m k:=by
 intro s t hs ht hE;unfold nreps at h;have key:=zri (l:=List.range m.Next.length) (fun s _ h=>zkB (rep_succ (of_decide_eq_true h))) h;obtain ⟨r,r1,r2,r3⟩:=zwj (m:=m) (k+1) s;obtain ⟨u,u1,u2,u3⟩:=zwj (m:=m) (k+1) t;have r4:Rep m k r:=of_decide_eq_true (key r (List.mem_range.2 (by omega)) (zkB r2));have u4:Rep m k u:=of_decide_eq_true (key u (List.mem_range.2 (by omega)) (zkB u2));have hru:E m k r u:=zkl (zrl r3.1) (zkl hE u3.1)
 have e:r=u:=by
  rcases Nat.lt_trichotomy r u with h1 | h1 | h1
  ·exact absurd (zrl hru) (u4 r h1)
  ·exact h1
  ·exact absurd hru (r4 u h1)
 subst e;exact zkl r3 (zrl u3)
theorem stab_succ (H:zda m) {k:Nat} (h:Stab m k):Stab m (k+1):=fun s t hs ht hE =>
 ⟨hE,fun a ha=>⟨(hE.2 a ha).1,h _ _ (H.at hs ha).1 (H.at ht ha).1 (hE.2 a ha).2⟩⟩
theorem stab_add (H:zda m) {k:Nat} (h:Stab m k):∀ j,Stab m (k+j)
 | 0=>h
 | j+1=>stab_succ H (stab_add H h j)
open Classical in
theorem stab_exists (H:zda m):∃ k,k<m.Next.length∧Stab m k:=by
 refine Classical.byContradiction fun hno=>?_
 have hall:∀ k,k≤m.Next.length→k+1≤nreps m k:=by
  intro k
  induction k with
  | zero =>
   intro _;unfold nreps;have:0<(List.range m.Next.length).countP fun s=>@decide (Rep m 0 s) (Classical.propDecidable _):=List.countP_pos_iff.2 ⟨0,List.mem_range.2 H.n1,zkB fun t ht=>absurd ht (Nat.not_lt_zero _)⟩;exact this
  | succ k ih =>
   intro hk;have h1:=ih (by omega);rcases Nat.lt_or_ge (nreps m k) (nreps m (k+1)) with h2 | h2
   ·omega
   ·exact absurd ⟨k,by omega,stab_of h2⟩ hno
 have h1:=hall _ (Nat.le_refl _);have h2:nreps m m.Next.length≤(List.range m.Next.length).length:=List.countP_le_length;rw [List.length_range] at h2;omega
theorem E_all (H:zda m) {s t:Nat} (hs:s<m.Next.length) (ht:t<m.Next.length) (h:E m m.Next.length s t) (j:Nat):E m j s t:=by
 obtain ⟨k,hk,hS⟩:=stab_exists H
 have key:∀ i,E m (k+i) s t:=by
  intro i
  induction i with
  | zero=>exact E_mono (by omega) h
  | succ i ih=>exact stab_add H hS i s t hs ht ih
 exact E_mono (by omega) (key j)
end
end
section
theorem zsp {α:Type} [DecidableEq α]:∀ {l l':List α},l.Nodup→(∀ x∈l,x∈l')→l.length≤l'.length
 | [],_,_,_=>Nat.zero_le _
 | x::l,l',h,hs=>by
  have h1:=List.nodup_cons.1 h;have hx:=hs x (by simp);have ih:=zsp (l:=l) (l':=l'.erase x) h1.2 (fun y hy=>(List.mem_erase_of_ne (fun e=>h1.1 (by rw [← e];exact hy))).2 (hs y (List.mem_cons_of_mem _ hy)));rw [List.length_erase_of_mem hx] at ih;have:=List.length_pos_of_mem hx;simp only [zkL];omega
def natI (l:List Nat):List Int:=l.map fun (x:Nat)=>(↑x:Int)
theorem zvh {l:List Nat} {i u:Nat} (h:l[i]?=some u):(natI l)[i]?=some (↑u:Int):=by
 unfold natI;rw [List.getElem?_map,h];rfl
theorem natI_push (l:List Nat) (t:Nat):natI l++[(↑t:Int)]=natI (l++[t]):=by simp [natI]
theorem zhc (l:List Nat):(natI l).length=l.length:=by simp [natI]
structure Num (m:zab) (c:List Int) (ord:List Nat) (num:List Int):Prop where
 rng:∀ u∈ord,u<m.Next.length
 start:ord[0]?=some m.Start.toNat
 len:num.length=m.Next.length
 n1:∀ j u x:Nat,ord[j]?=some u→c[u]?=some (↑x:Int)→num[x]?=some (↑j:Int)
 n2:∀ x:Nat,x<m.Next.length→num[x]?=some (-1:Int)∨∃ j u:Nat,num[x]?=some (↑j:Int)∧ord[j]?=some u∧c[u]?=some (↑x:Int)
 reach:∀ j u:Nat,ord[j]?=some u→j=0∨∃ i v a:Nat,i<j∧ord[i]?=some v∧a<m.Inputs.toNat∧u=nx m v a
section
variable {m:zab} {c num:List Int} {ord:List Nat} {k:Nat}
structure RowAt (m:zab) (c:List Int) (ord:List Nat) (v:Nat) (row out:List Int) (a:Nat):Prop where
 l1:row.length=a
 l2:out.length=a
 cell:∀ b,b<a→∃ j u:Nat,row[b]?=some (↑j:Int)∧ord[j]?=some u∧c[u]?=c[nx m v b]?∧out[b]?=some (ot m v b)
structure MinOk (m M:zab) (c:List Int) (ord:List Nat) (num:List Int):Prop where
 cls:zmx m m.Next.length c
 num:Num m c ord num
 inp:M.Inputs=m.Inputs
 start:M.Start=0
 l1:M.Next.length=ord.length
 l2:M.Out.length=ord.length
 row:∀ i v:Nat,ord[i]?=some v→∃ row out,M.Next[i]?=some row∧M.Out[i]?=some out∧RowAt m c ord v row out m.Inputs.toNat
end
end
section
section
variable {m:zab}
def mB (m:zab) (s0 r:Nat):List (Nat×List Int):=bfsB (nx m) m.Inputs.toNat s0 r
abbrev MEnd (m:zab) (s0:Nat) (L:List (Nat×List Int)):Prop:=ziz (nx m) m.Inputs.toNat s0 L
theorem mB_rng (H:zda m) {s0:Nat} (hs:s0<m.Next.length):∀ (r:Nat),∀ x∈mB m s0 r,x.1<m.Next.length∧x.2.length≤r∧dest m s0 x.2=x.1∧WOk m.Inputs x.2
 | 0,x,hx=>by
  have:x=(s0,[]):=by simpa [mB,bfsB] using hx
  subst this;exact ⟨hs,Nat.le_refl _,rfl,fun a ha=>by cases ha⟩
 | r+1,x,hx=>by
  have ih:=mB_rng H hs r
  have old:x∈mB m s0 r→x.1<m.Next.length∧x.2.length≤r+1∧dest m s0 x.2=x.1∧WOk m.Inputs x.2:=fun h=>by
   have:=ih x h;exact ⟨this.1,by omega,this.2.2⟩
  unfold mB at hx;rw [bfsB] at hx;split at hx
  ·exact old hx
  ·rename_i y hy;split at hx
   ·exact old hx
   ·rcases List.mem_append.1 hx with h | h
    ·exact old h
    ·have hK:0<m.Inputs.toNat:=by have:=H.i1;omega
     have hy':=ih y (zkH hy);have ha:=Nat.mod_lt r hK;have hxe:x=(nx m y.1 (r%m.Inputs.toNat),y.2++[(↑(r%m.Inputs.toNat):Int)]):=by simpa using h
     subst hxe;refine ⟨(H.at hy'.1 ha).1,by simp;omega,?_,?_⟩
     ·simp only;rw [zea,hy'.2.2.1];show nx m y.1 (Int.toNat _)=_;rw [Int.toNat_natCast]
     ·refine WOk.append hy'.2.2.2 fun a ha'=>?_;have:a=(↑(r%m.Inputs.toNat):Int):=by simpa using ha'
      subst this;omega
theorem mB_len (H:zda m) {s0:Nat} (hs:s0<m.Next.length) (r:Nat):(mB m s0 r).length≤m.Next.length:=by
 have:=zsp (zlc (e:=nx m) (K:=m.Inputs.toNat) (s0:=s0) r) (l':=List.range m.Next.length) fun x hx=>by
  obtain ⟨y,hy,rfl⟩:=List.mem_map.1 hx;exact List.mem_range.2 (mB_rng H hs r y hy).1
 rwa [zkK,List.length_range] at this
theorem mB_step {s0 i a:Nat} {x:Nat×List Int} (ha:a<m.Inputs.toNat) (hx:(mB m s0 (i*m.Inputs.toNat+a))[i]?=some x) :
  mB m s0 (i*m.Inputs.toNat+(a+1))=if nx m x.1 a∈(mB m s0 (i*m.Inputs.toNat+a)).map Prod.fst then mB m s0 (i*m.Inputs.toNat+a) else mB m s0 (i*m.Inputs.toNat+a)++[(nx m x.1 a,x.2++[(↑a:Int)])]:=bfs_step ha hx
theorem mB_next {s0 i:Nat}:mB m s0 (i*m.Inputs.toNat+m.Inputs.toNat)=mB m s0 ((i+1)*m.Inputs.toNat):=by rw [Nat.succ_mul]
theorem mB_get {s0 i r:Nat} {x:Nat×List Int} (hx:(mB m s0 (i*m.Inputs.toNat))[i]?=some x) (hr:i*m.Inputs.toNat≤r):(mB m s0 r)[i]?=some x:=zf3 (ziv hr) hx
structure SeenOk (n:Nat) (y:List Bool) (l:List Nat):Prop where
 len:y.length=n
 at_:∀ t,t<n→y[t]?=some (decide (t∈l))
end
end
section
section
variable {m:zab}
theorem mem_natI {l:List Nat} {t:Nat}:(↑t:Int)∈natI l↔t∈l:=by
 unfold natI;rw [List.mem_map];constructor
 ·rintro ⟨u,hu,he⟩;have:u=t:=by omega
  rw [← this];exact hu
 ·exact fun h=>⟨t,h,rfl⟩
end
end
section
section
variable {a b:zab}
def pE (a b:zab) (p:Nat×Nat) (x:Nat):Nat×Nat:=(nx a p.1 x,nx b p.2 x)
def pB (a b:zab) (p0:Nat×Nat) (r:Nat):List ((Nat×Nat)×List Int):=bfsB (pE a b) a.Inputs.toNat p0 r
abbrev PEnd (a b:zab) (p0:Nat×Nat) (L:List ((Nat×Nat)×List Int)):Prop:=ziz (pE a b) a.Inputs.toNat p0 L
def difB (a b:zab) (p0:Nat×Nat) (r:Nat):Bool:=match (pB a b p0 r)[r / a.Inputs.toNat]? with
 | some x=>decide (ot a x.1.1 (r%a.Inputs.toNat)≠ot b x.1.2 (r%a.Inputs.toNat))
 | none=>false
theorem difB_at {p0:Nat×Nat} {i c:Nat} {x:(Nat×Nat)×List Int} (hc:c<a.Inputs.toNat) (hx:(pB a b p0 (i*a.Inputs.toNat+c))[i]?=some x):difB a b p0 (i*a.Inputs.toNat+c)=decide (ot a x.1.1 c≠ot b x.1.2 c):=by
 unfold difB;rw [zog hc,hx,zwe hc]
structure Two (a b:zab):Prop where
 a1:zda a
 b1:zda b
 inp:a.Inputs=b.Inputs
theorem zt0 (T:Two a b) {p0:Nat×Nat} (h1:p0.1<a.Next.length) (h2:p0.2<b.Next.length):∀ (r:Nat),∀ x∈pB a b p0 r,x.1.1<a.Next.length∧x.1.2<b.Next.length∧x.2.length≤r∧dest a p0.1 x.2=x.1.1∧dest b p0.2 x.2=x.1.2∧WOk a.Inputs x.2
 | 0,x,hx=>by
  have:x=(p0,[]):=by simpa [pB,bfsB] using hx
  subst this;exact ⟨h1,h2,Nat.le_refl _,rfl,rfl,fun a ha=>by cases ha⟩
 | r+1,x,hx=>by
  have ih:=zt0 T h1 h2 r
  have old:x∈pB a b p0 r→x.1.1<a.Next.length∧x.1.2<b.Next.length∧x.2.length≤r+1∧dest a p0.1 x.2=x.1.1∧dest b p0.2 x.2=x.1.2∧WOk a.Inputs x.2:=fun h=>by
   have:=ih x h;exact ⟨this.1,this.2.1,by omega,this.2.2.2⟩
  unfold pB at hx;rw [bfsB] at hx;split at hx
  ·exact old hx
  ·rename_i y hy;split at hx
   ·exact old hx
   ·rcases List.mem_append.1 hx with h | h
    ·exact old h
    ·have hK:0<a.Inputs.toNat:=by have:=T.a1.i1;omega
     have hy':=ih y (zkH hy);have ha:=Nat.mod_lt r hK;have hxe:x=(pE a b y.1 (r%a.Inputs.toNat),y.2++[(↑(r%a.Inputs.toNat):Int)]):=by simpa using h
     subst hxe;refine ⟨(T.a1.at hy'.1 ha).1,(T.b1.at hy'.2.1 (by rw [← T.inp];exact ha)).1,by simp;omega,?_,?_,?_⟩
     ·simp only;rw [zea,hy'.2.2.2.1];show nx a y.1.1 (Int.toNat _)=_;rw [Int.toNat_natCast];rfl
     ·simp only;rw [zea,hy'.2.2.2.2.1];show nx b y.1.2 (Int.toNat _)=_;rw [Int.toNat_natCast];rfl
     ·refine WOk.append hy'.2.2.2.2.2 fun z ha'=>?_;have:z=(↑(r%a.Inputs.toNat):Int):=by simpa using ha'
      subst this;omega
theorem pB_len (T:Two a b) {p0:Nat×Nat} (h1:p0.1<a.Next.length) (h2:p0.2<b.Next.length) (r:Nat):(pB a b p0 r).length≤a.Next.length*b.Next.length:=by
 have hn:=zlc (e:=pE a b) (K:=a.Inputs.toNat) (s0:=p0) r;have:=zsp (l:=(((pB a b p0 r).map Prod.fst).map fun p=>p.1*b.Next.length+p.2)) (l':=List.range (a.Next.length*b.Next.length)) ?_ fun x hx=>?_
 ·rwa [zkK,zkK,List.length_range] at this
 ·refine List.Pairwise.map _ (R:=fun p q=>p∈(pB a b p0 r).map Prod.fst∧q∈(pB a b p0 r).map Prod.fst∧p≠q) (fun p q ⟨hp,hq,hne⟩ he=>?_) (List.Pairwise.imp_of_mem (fun {p q} hp hq hne=>⟨hp,hq,hne⟩) hn);obtain ⟨x,hx,rfl⟩:=List.mem_map.1 hp;obtain ⟨y,hy,rfl⟩:=List.mem_map.1 hq;have hx2:=(zt0 T h1 h2 r x hx).2.1;have hy2:=(zt0 T h1 h2 r y hy).2.1;have he:x.1.1*b.Next.length+x.1.2=y.1.1*b.Next.length+y.1.2:=he;have e1:=zog (i:=x.1.1) hx2;have e2:=zog (i:=y.1.1) hy2;have e3:=zwe (i:=x.1.1) hx2;have e4:=zwe (i:=y.1.1) hy2;rw [he] at e1 e3;exact hne (Prod.ext (by rw [← e1,e2]) (by rw [← e3,e4]))
 ·obtain ⟨p,hp,rfl⟩:=List.mem_map.1 hx;obtain ⟨y,hy,rfl⟩:=List.mem_map.1 hp;exact List.mem_range.2 (zrj (zt0 T h1 h2 r y hy).1 (zt0 T h1 h2 r y hy).2.1)
theorem pB_step {p0:Nat×Nat} {i c:Nat} {x:(Nat×Nat)×List Int} (hc:c<a.Inputs.toNat) (hx:(pB a b p0 (i*a.Inputs.toNat+c))[i]?=some x) :
  pB a b p0 (i*a.Inputs.toNat+(c+1))=if pE a b x.1 c∈(pB a b p0 (i*a.Inputs.toNat+c)).map Prod.fst then pB a b p0 (i*a.Inputs.toNat+c) else pB a b p0 (i*a.Inputs.toNat+c)++[(pE a b x.1 c,x.2++[(↑c:Int)])]:=by
 have h:=bfs_step (e:=pE a b) (s0:=p0) hc hx;by_cases g:pE a b x.1 c∈(pB a b p0 (i*a.Inputs.toNat+c)).map Prod.fst
 ·rw [if_pos g];exact h.trans (if_pos g)
 ·rw [if_neg g];exact h.trans (if_neg g)
theorem pB_next {p0:Nat×Nat} {i:Nat}:pB a b p0 (i*a.Inputs.toNat+a.Inputs.toNat)=pB a b p0 ((i+1)*a.Inputs.toNat):=by rw [Nat.succ_mul]
theorem pB_get {p0:Nat×Nat} {i r:Nat} {x:(Nat×Nat)×List Int} (hx:(pB a b p0 (i*a.Inputs.toNat))[i]?=some x) (hr:i*a.Inputs.toNat≤r):(pB a b p0 r)[i]?=some x:=zf3 (ziv hr) hx
def Fst (a b:zab) (p0:Nat×Nat) (res:List Int×Bool):Prop :=
 (∃ i c x,c<a.Inputs.toNat∧(pB a b p0 (i*a.Inputs.toNat+c))[i]?=some x∧ot a x.1.1 c≠ot b x.1.2 c∧(∀ r,r<i*a.Inputs.toNat+c→difB a b p0 r=false)∧res=(x.2++[(↑c:Int)],true)) ∨
 (∃ L,PEnd a b p0 L∧(∀ r,r<L.length*a.Inputs.toNat→difB a b p0 r=false)∧res=([],false))
end
end
section
section
variable {a b:zab}
def plC (x:(Nat×Nat)×List Int):zbf:=⟨⟨(↑x.1.1:Int),(↑x.1.2:Int)⟩,x.2⟩
theorem map_get {α β:Type} {f:α→β} {l:List α} {i:Nat} {x:α} (h:l[i]?=some x):(l.map f)[i]?=some (f x):=by rw [List.getElem?_map,h];rfl
structure SeenG (n k:Nat) (y:List (List Bool)) (l:List (Nat×Nat)):Prop where
 len:y.length=n
 at_:∀ s t,s<n→t<k→∃ row,y[s]?=some row∧row.length=k∧row[t]?=some (decide ((s,t)∈l))
theorem pair_mem {l:List (Nat×Nat)} {p q:Nat×Nat} (h:p≠q):p∈l↔p∈l++[q]:=by
 rw [List.mem_append,List.mem_singleton];exact ⟨Or.inl,fun z=>z.elim id fun e=>absurd e h⟩
theorem SeenG.push {n k s t:Nat} {y:List (List Bool)} {l:List (Nat×Nat)} {row:List Bool} (S:SeenG n k y l) (hs:s<n) (ht:t<k) (hr:y[s]?=some row):SeenG n k (y.set s (row.set t true)) (l++[(s,t)]):=by
 refine ⟨by simp [S.len],fun u v hu hv=>?_⟩;obtain ⟨row',h1,h2,h3⟩:=S.at_ u v hu hv;by_cases h:s=u
 ·subst h;rw [hr] at h1;injection h1 with h1
  subst h1;refine ⟨row.set t true,by rw [List.getElem?_set_self (by rw [S.len];exact hs)],by simp [h2],?_⟩;by_cases g:t=v
  ·subst g;rw [List.getElem?_set_self (by omega)];simp
  ·rw [List.getElem?_set_ne g,h3];congr 1;apply decide_eq_decide.2;exact pair_mem fun e=>g (congrArg Prod.snd e).symm
 ·refine ⟨row',by rw [List.getElem?_set_ne h,h1],h2,?_⟩;rw [h3];congr 1;apply decide_eq_decide.2;exact pair_mem fun e=>h (congrArg Prod.fst e).symm
theorem seenG_nil (n k:Nat):SeenG n k (List.replicate n (List.replicate k false)) []:=⟨by simp,fun s t hs ht=>⟨List.replicate k false,by simp [hs],by simp,by simp [ht]⟩⟩
theorem big_sum {i c n k K:Nat} (hi:i≤n*k) (hn:n≤128) (hk:k≤128) (hK:K≤64) (hc:c≤64):i*K+c≤1048640:=by
 have h1:n*k≤128*128:=Nat.mul_le_mul hn hk;have h2:i*K≤(128*128)*64:=Nat.mul_le_mul (by omega) hK;omega
theorem search_row (T:Two a b) {p0:Nat×Nat} (h1:p0.1<a.Next.length) (h2:p0.2<b.Next.length) {i:Nat} {x:(Nat×Nat)×List Int} {y:List (List Bool)} (hi:i≤a.Next.length*b.Next.length)
  (hx:(pB a b p0 (i*a.Inputs.toNat))[i]?=some x) (S:SeenG a.Next.length b.Next.length y ((pB a b p0 (i*a.Inputs.toNat)).map Prod.fst)) (hd:∀ r,r<i*a.Inputs.toNat→difB a b p0 r=false) :
  ∃ r,iter (fun (s:List (List Bool)×List zbf×Nat)=>za9.s20 a b i (plC x) s.1 s.2.1 s.2.2) fuel (y,(pB a b p0 (i*a.Inputs.toNat)).map plC,0)=some r ∧
   ((∃ y',r=.inl (y',(pB a b p0 ((i+1)*a.Inputs.toNat)).map plC)∧SeenG a.Next.length b.Next.length y' ((pB a b p0 ((i+1)*a.Inputs.toNat)).map Prod.fst)∧∀ r,r<(i+1)*a.Inputs.toNat→difB a b p0 r=false) ∨
   (∃ res,r=.inr (.inr (.inr res))∧Fst a b p0 res)):=by
 have han:=T.a1.n2;have hbn:=T.b1.n2;have hI:=T.a1.i2;have hxr:=zt0 T h1 h2 _ x (zkH hx)
 obtain ⟨r,hr,hq⟩:=zf5 (step:=fun (s:List (List Bool)×List zbf×Nat)=>za9.s20 a b i (plC x) s.1 s.2.1 s.2.2) (fun s=>s.2.2≤a.Inputs.toNat∧s.2.1=(pB a b p0 (i*a.Inputs.toNat+s.2.2)).map plC∧SeenG a.Next.length b.Next.length s.1 ((pB a b p0 (i*a.Inputs.toNat+s.2.2)).map Prod.fst)∧∀ r,r<i*a.Inputs.toNat+s.2.2→difB a b p0 r=false) (fun s=>a.Inputs.toNat-s.2.2) (fun r=>(∃ y',r=.inl (y',(pB a b p0 ((i+1)*a.Inputs.toNat)).map plC)∧SeenG a.Next.length b.Next.length y' ((pB a b p0 ((i+1)*a.Inputs.toNat)).map Prod.fst)∧∀ r,r<(i+1)*a.Inputs.toNat→difB a b p0 r=false)∨(∃ res,r=.inr (.inr (.inr res))∧Fst a b p0 res)) (fun s ⟨q1,q2,q3,q4⟩=>by
  obtain ⟨y,l,c⟩:=s
  simp only at q1 q2 q3 q4
  subst q2
  simp only [za9.s20]
  by_cases g:c<a.Inputs.toNat
  ·have hxc:=pB_get hx (r:=i*a.Inputs.toNat+c) (by omega)
   obtain ⟨g1,_,_,ra,oa,e1,e2,e3,e4⟩:=T.a1.at hxr.1 g
   obtain ⟨f1,_,_,rb,ob,d1,d2,d3,d4⟩:=T.b1.at hxr.2.1 (a:=c) (by rw [← T.inp];exact g)
   have hbig:=big_sum (c:=c) hi han hbn (K:=a.Inputs.toNat) (by omega) (by omega)
   have hlen:=pB_len T h1 h2 (i*a.Inputs.toNat+c)
   have hnn:a.Next.length*b.Next.length≤128*128:=Nat.mul_le_mul han hbn
   rw [zkB (by omega),zkD,zbd (n:=(plC x).at_.s) (i:=x.1.1) rfl e2,zaq e4,zbd (n:=(plC x).at_.t) (i:=x.1.2) rfl d2,zaq d4]
   by_cases hne:ot a x.1.1 c≠ot b x.1.2 c
   ·right
    rw [zkB hne,zkD,zaq (map_get hxc)]
    show ∃ r,((zfk [x.2,[(↑c:Int)]]).bind _:Option _)=_∧_
    rw [zg8 _ (by simp) (by simp;omega),zap]
    refine ⟨_,rfl,Or.inr ⟨_,rfl,Or.inl ⟨i,c,x,g,hxc,hne,q4,?_⟩⟩⟩
    simp
   ·left
    have heq:ot a x.1.1 c=ot b x.1.2 c:=Classical.byContradiction hne
    have hd':∀ r,r<i*a.Inputs.toNat+(c+1)→difB a b p0 r=false:=fun r hr=>by
     rcases Nat.lt_or_ge r (i*a.Inputs.toNat+c) with q | q
     ·exact q4 r q
     ·have:r=i*a.Inputs.toNat+c:=by omega
      rw [this,difB_at g hxc,zkA hne]
    have hstep:=pB_step g hxc
    obtain ⟨row,r1,r2,r3⟩:=q3.at_ _ _ g1 f1
    have hxm:x.1∈(pB a b p0 (i*a.Inputs.toNat+c)).map Prod.fst:=List.mem_map.2 ⟨x,zkH hxc,rfl⟩
    have htest:((cond (!(decide ((↑(nx a x.1.1 c):Int)=(plC x).at_.s)&&(decide ((↑(nx b x.1.2 c):Int)=(plC x).at_.t)&&true))) (idx y (↑(nx a x.1.1 c):Int) fun a2=>idx a2 (↑(nx b x.1.2 c):Int) fun a6=>some (!a6)) (some false):Option Bool))=some (!decide (pE a b x.1 c∈(pB a b p0 (i*a.Inputs.toNat+c)).map Prod.fst)):=by
     by_cases z:pE a b x.1 c=x.1
     ·have z1:nx a x.1.1 c=x.1.1:=congrArg Prod.fst z
      have z2:nx b x.1.2 c=x.1.2:=congrArg Prod.snd z
      rw [zkB (show (↑(nx a x.1.1 c):Int)=(plC x).at_.s by rw [z1];rfl),zkB (show (↑(nx b x.1.2 c):Int)=(plC x).at_.t by rw [z2];rfl),z,zkB hxm]
      rfl
     ·have:(!(decide ((↑(nx a x.1.1 c):Int)=(plC x).at_.s)&&(decide ((↑(nx b x.1.2 c):Int)=(plC x).at_.t)&&true)))=true:=by
       by_cases z1:nx a x.1.1 c=x.1.1
       ·have z2:nx b x.1.2 c≠x.1.2:=fun q=>z (Prod.ext z1 q)
        rw [zkA (show ¬ (↑(nx b x.1.2 c):Int)=(plC x).at_.t from fun q=>z2 (Int.ofNat_inj.1 q))]
        simp
       ·rw [zkA (show ¬ (↑(nx a x.1.1 c):Int)=(plC x).at_.s from fun q=>z1 (Int.ofNat_inj.1 q))]
        rfl
      rw [this,zkD,zbd rfl r1,zbd rfl r3]
      rfl
    rw [zkA hne,zkC,zbd (n:=(plC x).at_.s) (i:=x.1.1) rfl e1,zaq e3,zbd (n:=(plC x).at_.t) (i:=x.1.2) rfl d1,zaq d3,htest,zap]
    by_cases hm:pE a b x.1 c∈(pB a b p0 (i*a.Inputs.toNat+c)).map Prod.fst
    ·rw [if_pos hm] at hstep
     refine ⟨(y,(pB a b p0 (i*a.Inputs.toNat+c)).map plC,c+1),by rw [zkB hm,Bool.not_true,zkC,zar (by unfold inR;omega)],⟨g,by simp only;rw [hstep],by simp only;rw [hstep];exact q3,hd'⟩,by simp only;omega⟩
    ·rw [if_neg hm] at hstep
     refine ⟨(y.set (nx a x.1.1 c) (row.set (nx b x.1.2 c) true),(pB a b p0 (i*a.Inputs.toNat+c)).map plC++[plC (pE a b x.1 c,x.2++[(↑c:Int)])],c+1),?_,⟨g,by simp only;rw [hstep,List.map_append];rfl,by simp only;rw [hstep,List.map_append];exact q3.push g1 f1 r1,hd'⟩,by simp only;omega⟩
     rw [zkA hm,Bool.not_false,zkD,zbd rfl r1,zbd rfl r3,zaq (map_get hxc)]
     show (zfk [x.2,[(↑c:Int)]]).bind _=_
     rw [zg8 _ (by simp) (by simp;omega),zap,zar (by unfold za7;rw [zkK];omega),zar (by unfold inR;omega),Int.toNat_natCast,Int.toNat_natCast]
     simp [plC,pE]
  ·right
   have e':c=a.Inputs.toNat:=by omega
   subst e'
   rw [pB_next] at q3 ⊢
   exact ⟨_,by rw [zkA (by omega),zkC],Or.inl ⟨_,rfl,q3,by rw [Nat.succ_mul];exact q4⟩⟩) (y,(pB a b p0 (i*a.Inputs.toNat)).map plC,0) ⟨Nat.zero_le _,rfl,S,hd⟩
 exact ⟨r,hr,hq⟩
theorem zvg (T:Two a b) {p0:Nat×Nat} (h1:p0.1<a.Next.length) (h2:p0.2<b.Next.length):∃ res,za9 a b (⟨(↑p0.1:Int),(↑p0.2:Int)⟩:zc8)=some res∧Fst a b p0 res:=by
 have han:=T.a1.n2;have hbn:=T.b1.n2;have hI:=T.a1.i2;have hnn:a.Next.length*b.Next.length≤128*128:=Nat.mul_le_mul han hbn;unfold za9
 have grid:=zcw (step:=fun (s:List (List Bool)×Nat)=>za9.s2 a b s.1 s.2) (r:=List.replicate a.Next.length (List.replicate b.Next.length false)) (fun s=>s.2≤a.Next.length∧s.1=List.replicate s.2 (List.replicate b.Next.length false)++List.replicate (a.Next.length-s.2) []) (fun s=>a.Next.length-s.2) (fun s ⟨q1,q2⟩=>by
  obtain ⟨y,k⟩:=s
  simp only at q1 q2
  subst q2
  simp only [za9.s2]
  by_cases g:k<a.Next.length
  ·left
   refine ⟨(List.replicate (k+1) (List.replicate b.Next.length false)++List.replicate (a.Next.length-(k+1)) [],k+1),?_,⟨g,rfl⟩,by simp only;omega⟩
   have hk:(List.replicate k (List.replicate b.Next.length false)++List.replicate (a.Next.length-k) [])[k]?=some []:=by
    rw [List.getElem?_append_right (by simp),List.length_replicate,Nat.sub_self,List.getElem?_replicate,if_pos (by omega)]
   rw [List.length_replicate,zkB (by omega),zkD,zar ⟨by omega,by omega,by unfold za7;omega⟩,zaq hk,zar (by unfold inR;omega)]
   congr 4
   rw [List.set_append_right _ _ (by simp),List.length_replicate,Nat.sub_self,show a.Next.length-k=(a.Next.length-(k+1))+1 by omega,List.replicate_succ,List.set_cons_zero,List.replicate_succ' (n:=k)]
   simp
  ·right
   have:k=a.Next.length:=by omega
   subst this
   rw [List.length_replicate,zkA (by omega),zkC]
   simp) (n:=fuel) (s:=(List.replicate a.Next.length [],0)) ⟨Nat.zero_le _,by simp⟩
 obtain ⟨row,r1,r2,r3⟩:=(seenG_nil a.Next.length b.Next.length).at_ _ _ h1 h2;have hS:=(seenG_nil a.Next.length b.Next.length).push h1 h2 r1;rw [zar ⟨by omega,by omega,by unfold za7;omega⟩,grid,zap];simp only;rw [zbd rfl r1,zbd rfl r3,Int.toNat_natCast,Int.toNat_natCast]
 obtain ⟨r,hr,hq⟩:=zf5 (step:=fun (s:List (List Bool)×List zbf×Nat)=>za9.s22 a b s.1 s.2.1 s.2.2) (fun s=>s.2.2≤(pB a b p0 (s.2.2*a.Inputs.toNat)).length∧s.2.1=(pB a b p0 (s.2.2*a.Inputs.toNat)).map plC∧SeenG a.Next.length b.Next.length s.1 ((pB a b p0 (s.2.2*a.Inputs.toNat)).map Prod.fst)∧∀ r,r<s.2.2*a.Inputs.toNat→difB a b p0 r=false) (fun s=>a.Next.length*b.Next.length+1-s.2.2) (fun r=>(r=.inl ()∧Fst a b p0 ([],false))∨∃ res,r=.inr res∧Fst a b p0 res) (fun s ⟨q1,q2,q3,q4⟩=>by
  obtain ⟨y,l,i⟩:=s
  simp only at q1 q2 q3 q4
  subst q2
  simp only [za9.s22]
  have hlen:=pB_len T h1 h2 (i*a.Inputs.toNat)
  by_cases g:i<(pB a b p0 (i*a.Inputs.toNat)).length
  ·have hx:=get_at g
   generalize (pB a b p0 (i*a.Inputs.toNat))[i]=x at hx
   obtain ⟨r,z1,z2⟩:=search_row T h1 h2 (by omega) hx q3 q4
   rw [zkB (by rw [zkK];omega),zkD,zaq (map_get hx),z1,zap]
   rcases z2 with ⟨y',rfl,z3,z4⟩ | ⟨res,rfl,z3⟩
   ·left
    have hmono:=(ziv (e:=pE a b) (K:=a.Inputs.toNat) (s0:=p0) (show i*a.Inputs.toNat≤(i+1)*a.Inputs.toNat by rw [Nat.succ_mul];omega)).length_le
    exact ⟨(y',(pB a b p0 ((i+1)*a.Inputs.toNat)).map plC,i+1),rfl,⟨by simp only;unfold pB at g ⊢;omega,rfl,z3,z4⟩,by simp only;omega⟩
   ·right
    exact ⟨.inr res,rfl,Or.inr ⟨res,rfl,z3⟩⟩
  ·right
   refine ⟨.inl (),by rw [zkA (by rw [zkK];omega),zkC],Or.inl ⟨rfl,Or.inr ⟨pB a b p0 (i*a.Inputs.toNat),⟨?_⟩,?_,rfl⟩⟩⟩
   ·rw [show (pB a b p0 (i*a.Inputs.toNat)).length=i by omega]
    rfl
   ·rw [show (pB a b p0 (i*a.Inputs.toNat)).length=i by omega]
    exact q4) ((List.replicate a.Next.length (List.replicate b.Next.length false)).set p0.1 (row.set p0.2 true),[(⟨(⟨(↑p0.1:Int),(↑p0.2:Int)⟩:zc8),[]⟩:zbf)],0) ⟨Nat.zero_le _,by simp only;rw [Nat.zero_mul];simp [pB,bfsB,plC],by
    simp only
    rw [Nat.zero_mul]
    exact hS,fun r hr=>by simp only at hr;omega⟩
 rw [hr,zap];rcases hq with ⟨rfl,hq⟩ | ⟨res,rfl,hq⟩
 ·exact ⟨_,rfl,hq⟩
 ·exact ⟨_,rfl,hq⟩
end
end
section
section
variable {a b:zab}
theorem fst_word (T:Two a b) {p0:Nat×Nat} (h1:p0.1<a.Next.length) (h2:p0.2<b.Next.length) {w:List Int} (h:Fst a b p0 (w,true)):WOk a.Inputs w∧w.length≤1048640∧∃ (v:List Int) (c:Nat),w=v++[(↑c:Int)]∧c<a.Inputs.toNat∧ot a (dest a p0.1 v) c≠ot b (dest b p0.2 v) c:=by
 rcases h with ⟨i,c,x,g1,g2,g3,g4,g5⟩ | ⟨L,_,_,g⟩
 ·injection g5 with g5 _
  have hr:=zt0 T h1 h2 _ x (zkH g2);have hlen:=pB_len T h1 h2 (i*a.Inputs.toNat+c);have hi:=(zkI.1 g2).1;have:=big_sum (c:=c+1) (i:=i) (by omega) T.a1.n2 T.b1.n2 (K:=a.Inputs.toNat) (by have:=T.a1.i2;omega) (by have:=T.a1.i2;omega);refine ⟨?_,?_,x.2,c,g5,g1,by rw [hr.2.2.2.1,hr.2.2.2.2.1];exact g3⟩
  ·rw [g5];refine WOk.append hr.2.2.2.2.2 fun z hz=>?_;have:z=(↑c:Int):=by simpa using hz
   omega
  ·rw [g5];simp;omega
 ·injection g with _ g
  cases g
theorem outs_snoc {m:zab} {v:List Int} {c:Nat} {s:Nat}:outs m s (v++[(↑c:Int)])=outs m s v++[ot m (dest m s v) c]:=by
 rw [zfd];show _++[ot m (dest m s v) (Int.toNat ↑c)]=_;rw [Int.toNat_natCast]
theorem fst_ne (T:Two a b) {p0:Nat×Nat} (h1:p0.1<a.Next.length) (h2:p0.2<b.Next.length) {w:List Int} (h:Fst a b p0 (w,true)):outs a p0.1 w≠outs b p0.2 w:=by
 obtain ⟨_,_,v,c,rfl,_,h3⟩:=fst_word T h1 h2 h;intro he;rw [outs_snoc,outs_snoc] at he;have:=List.append_inj_right' he rfl;injection this with this _
 exact h3 this
theorem fst_none {p0:Nat×Nat} {w0:List Int} (h:Fst a b p0 (w0,false)):∀ w,WOk a.Inputs w→outs a p0.1 w=outs b p0.2 w:=by
 rcases h with ⟨i,c,x,_,_,_,_,g⟩ | ⟨L,g1,g2,_⟩
 ·injection g with _ g
  cases g
 ·have key:∀ (w:List Int) (i:Nat) (x:(Nat×Nat)×List Int),L[i]?=some x→WOk a.Inputs w→outs a x.1.1 w=outs b x.1.2 w:=by
   intro w
   induction w with
   | nil=>intro _ _ _ _;rfl
   | cons z w ih =>
    intro i x hx hw;have hz:=hw.head;have hc:z.toNat<a.Inputs.toNat:=by omega
    have hi:=(zkI.1 hx).1;obtain ⟨x',e1,e2⟩:=g1.long hi hc;rw [hx] at e1;injection e1 with e1
    subst e1;have hd:=g2 (i*a.Inputs.toNat+z.toNat) (zrj hi hc);rw [difB_at hc e2] at hd
    have hot:ot a x.1.1 z.toNat=ot b x.1.2 z.toNat:=Classical.byContradiction fun q=>by
     rw [zkB q] at hd;cases hd
    obtain ⟨j,y,f1,f2,_⟩:=g1.closed hx hc;have:=ih j y f1 hw.tail;rw [f2] at this;show ot a x.1.1 z.toNat::outs a (nx a x.1.1 z.toNat) w=ot b x.1.2 z.toNat::outs b (nx b x.1.2 z.toNat) w;rw [hot];congr 1
  exact fun w hw=>key w 0 _ g1.first hw
end
end
section
theorem leastR {p:Nat→Prop}:∀ {r:Nat},p r→∃ q,p q∧∀ q',q'<q→¬ p q':=fun {r} h=>by
 induction r using Nat.strongRecOn with
 | ind r ih =>
  by_cases g:∃ q,q<r∧p q
  ·obtain ⟨q,h1,h2⟩:=g;exact ih q h1 h2
  ·exact ⟨r,h,fun q' hq hp=>g ⟨q',hq,hp⟩⟩
structure Can (M:zab):Prop where
 c4:∀ i a u,i<M.Next.length→a<M.Inputs.toNat→0<u→u≤nx M i a→∃ i' a',a'<M.Inputs.toNat∧i'*M.Inputs.toNat+a'≤i*M.Inputs.toNat+a∧i'<u∧nx M i' a'=u
 c5:∀ u,0<u→u<M.Next.length→∃ i a,i<u∧a<M.Inputs.toNat∧nx M i a=u
def Eqv (a:zab) (s:Nat) (b:zab) (t:Nat):Prop:=∀ w,WOk a.Inputs w→outs a s w=outs b t w
structure MinSem (m M:zab):Prop where
 ok:zda M
 inp:M.Inputs=m.Inputs
 start:M.Start=0
 eqv:Eqv M 0 m m.Start.toNat
 min:∀ i j,i<M.Next.length→j<M.Next.length→Eqv M i M j→i=j
 can:Can M
theorem Eqv.step {a b:zab} (hi:a.Inputs=b.Inputs) {s t c:Nat} (h:Eqv a s b t) (hc:c<a.Inputs.toNat):ot a s c=ot b t c∧Eqv a (nx a s c) b (nx b t c):=by
 have key:∀ w,WOk a.Inputs w→ot a s c::outs a (nx a s c) w=ot b t c::outs b (nx b t c) w:=fun w hw=>by
  have:=h ((↑c:Int)::w) (fun x hx=>by
   rcases List.mem_cons.1 hx with rfl | hx
   ·omega
   ·exact hw x hx)
  exact this
 have h0:=key [] (fun x hx=>by cases hx);injection h0 with h0 _
 refine ⟨h0,fun w hw=>?_⟩;have:=key w hw;injection this with _ this
theorem Eqv.symm {a b:zab} (hi:a.Inputs=b.Inputs) {s t:Nat} (h:Eqv a s b t):Eqv b t a s:=fun w hw=>(h w (by rw [hi];exact hw)).symm
theorem Eqv.trans {a b c:zab} (hi:a.Inputs=b.Inputs) {s t u:Nat} (h:Eqv a s b t) (g:Eqv b t c u):Eqv a s c u:=fun w hw=>(h w hw).trans (g w (by rw [← hi];exact hw))
section
variable {M M':zab}
theorem can_match (HM:zda M) (HM':zda M') (hi:M.Inputs=M'.Inputs) (hmin:∀ i j,i<M.Next.length→j<M.Next.length→Eqv M i M j→i=j) (hmin':∀ i j,i<M'.Next.length→j<M'.Next.length→Eqv M' i M' j→i=j) (C:Can M) (C':Can M') (h0:Eqv M 0 M' 0) :
  ∀ u,u<M.Next.length→u<M'.Next.length∧Eqv M u M' u:=by
 intro u
 induction u using Nat.strongRecOn with
 | ind u ih =>
  intro hu;by_cases hz:u=0
  ·subst hz;exact ⟨HM'.n1,h0⟩
  obtain ⟨i0,a0,b1,b2,b3⟩:=C.c5 u (by omega) hu;have hK:0<M.Inputs.toNat:=by omega
  obtain ⟨r,⟨⟨i,a,p1,p2,p3,p4⟩,hleast⟩⟩:∃ r,(∃ i a,i<M.Next.length∧a<M.Inputs.toNat∧r=i*M.Inputs.toNat+a∧nx M i a=u)∧∀ r',r'<r→¬ ∃ i a,i<M.Next.length∧a<M.Inputs.toNat∧r'=i*M.Inputs.toNat+a∧nx M i a=u :=
   leastR (p:=fun r=>∃ i a,i<M.Next.length∧a<M.Inputs.toNat∧r=i*M.Inputs.toNat+a∧nx M i a=u) (r:=i0*M.Inputs.toNat+a0) ⟨i0,a0,by omega,b2,rfl,b3⟩
  have hiu:i<u:=by
   rcases Nat.lt_or_ge i u with q | q
   ·exact q
   ·exfalso;refine hleast (i0*M.Inputs.toNat+a0) ?_ ⟨i0,a0,by omega,b2,rfl,b3⟩;have:=zrj (show i0<i by omega) b2;omega
  obtain ⟨hi',hR⟩:=ih i hiu p1;obtain ⟨_,hR2⟩:=hR.step hi p2;rw [p4] at hR2;have ha':a<M'.Inputs.toNat:=by rw [← hi];exact p2
  have hu':=(HM'.at hi' ha').1
  have hlow:∀ i' a',i'<M.Next.length→a'<M.Inputs.toNat→i'*M.Inputs.toNat+a'<r→nx M i' a'<u:=fun i' a' g1 g2 g3=>by
   rcases Nat.lt_or_ge (nx M i' a') u with q | q
   ·exact q
   ·exfalso;obtain ⟨i2,a2,z1,z2,z3,z4⟩:=C.c4 i' a' u g1 g2 (by omega) q;exact hleast (i2*M.Inputs.toNat+a2) (by omega) ⟨i2,a2,by omega,z1,rfl,z4⟩
  rcases Nat.lt_trichotomy (nx M' i a) u with q | q | q
  ·exfalso;obtain ⟨_,hv⟩:=ih _ q (by omega);have:=hmin u (nx M' i a) hu (by omega) (hR2.trans hi (hv.symm hi));omega
  ·rw [q] at hR2 hu';exact ⟨hu',hR2⟩
  ·exfalso;obtain ⟨i2,a2,z1,z2,z3,z4⟩:=C'.c4 i a u hi' ha' (by omega) (by omega);rw [← hi] at z1 z2;obtain ⟨w1,w2⟩:=ih i2 z3 (by omega);obtain ⟨_,w3⟩:=w2.step hi z1;rw [z4] at w3
   have hlt:i2*M.Inputs.toNat+a2<r:=by
    rcases Nat.lt_or_ge (i2*M.Inputs.toNat+a2) r with g | g
    ·exact g
    ·exfalso;have he:i2*M.Inputs.toNat+a2=i*M.Inputs.toNat+a:=by omega
     have e1:i2=i:=by rw [← zog (i:=i2) z1,he,zog p2]
     subst e1;have e2:a2=a:=by omega
     subst e2;omega
   have hv:=hlow i2 a2 (by omega) z1 hlt;obtain ⟨v1,v2⟩:=ih _ hv (by omega);have hN':u<M'.Next.length:=by omega
   have:=hmin' (nx M i2 a2) u v1 hN' ((v2.symm hi).trans hi.symm w3);omega
theorem row_ext {l l':List (List Int)} {n k:Nat} {g:Nat→Nat→Int} (h1:l.length=n) (h2:l'.length=n) (h:∀ i,i<n→∃ x y,l[i]?=some x∧l'[i]?=some y∧x.length=k∧y.length=k∧∀ a,a<k→x[a]?=some (g i a)∧y[a]?=some (g i a)):l=l':=by
 refine List.ext_getElem? fun i=>?_;rcases Nat.lt_or_ge i n with g1 | g1
 ·obtain ⟨x,y,e1,e2,e3,e4,e5⟩:=h i g1;rw [e1,e2];congr 1;refine List.ext_getElem? fun a=>?_;rcases Nat.lt_or_ge a k with g2 | g2
  ·rw [(e5 a g2).1,(e5 a g2).2]
  ·rw [List.getElem?_eq_none (by omega),List.getElem?_eq_none (by omega)]
 ·rw [List.getElem?_eq_none (by omega),List.getElem?_eq_none (by omega)]
theorem minsem_uniq {m:zab} (S:MinSem m M) (S':MinSem m M'):M=M':=by
 have hi:M.Inputs=M'.Inputs:=S.inp.trans S'.inp.symm;have h0:Eqv M 0 M' 0:=S.eqv.trans S.inp (S'.eqv.symm S'.inp);have A:=can_match S.ok S'.ok hi S.min S'.min S.can S'.can h0;have B:=can_match S'.ok S.ok hi.symm S'.min S.min S'.can S.can (h0.symm hi)
 have hn:M.Next.length=M'.Next.length:=by
  have p1:=S.ok.n1;have p2:=S'.ok.n1;have a1:=(A (M.Next.length-1) (by omega)).1;have b1:=(B (M'.Next.length-1) (by omega)).1;omega
 have hx:∀ i a,i<M.Next.length→a<M.Inputs.toNat→nx M i a=nx M' i a∧ot M i a=ot M' i a:=fun i a h1 h2=>by
  obtain ⟨e1,e2⟩:=(A i h1).2.step hi h2;refine ⟨?_,e1⟩;have g1:=(S.ok.at h1 h2).1;have g2:=(S'.ok.at (show i<M'.Next.length by omega) (a:=a) (by rw [← hi];exact h2)).1;have e3:=(A _ g1).2;exact S'.min _ _ (by omega) g2 ((e3.symm hi).trans hi.symm e2)
 have hN:M.Next=M'.Next:=row_ext (n:=M.Next.length) (k:=M.Inputs.toNat) (g:=fun i a=>(↑(nx M i a):Int)) rfl hn.symm fun i h=>by
  obtain ⟨x,y,e1,e2,e3,e4,_⟩:=S.ok.row i h;obtain ⟨x',y',f1,f2,f3,f4,_⟩:=S'.ok.row i (by omega);refine ⟨x,x',e1,f1,by omega,by omega,fun a ha=>?_⟩;obtain ⟨_,_,_,z,z',g1,_,g2,_⟩:=S.ok.at h ha;obtain ⟨_,_,_,v,v',k1,_,k2,_⟩:=S'.ok.at (show i<M'.Next.length by omega) (a:=a) (by rw [← hi];exact ha);rw [e1] at g1;rw [f1] at k1;injection g1 with g1
  injection k1 with k1
  subst g1;subst k1;exact ⟨g2,by rw [k2,(hx i a h ha).1]⟩
 have hO:M.Out=M'.Out:=row_ext (n:=M.Next.length) (k:=M.Inputs.toNat) (g:=fun i a=>ot M i a) S.ok.ol (S'.ok.ol.trans hn.symm) fun i h=>by
  obtain ⟨x,y,e1,e2,e3,e4,_⟩:=S.ok.row i h;obtain ⟨x',y',f1,f2,f3,f4,_⟩:=S'.ok.row i (by omega);refine ⟨y,y',e2,f2,by omega,by omega,fun a ha=>?_⟩;obtain ⟨_,_,_,z,z',_,g1,_,g2⟩:=S.ok.at h ha;obtain ⟨_,_,_,v,v',_,k1,_,k2⟩:=S'.ok.at (show i<M'.Next.length by omega) (a:=a) (by rw [← hi];exact ha);rw [e2] at g1;rw [f2] at k1;injection g1 with g1
  injection k1 with k1
  subst g1;subst k1;exact ⟨g2,by rw [k2,(hx i a h ha).2]⟩
 have hs:M.Start=M'.Start:=S.start.trans S'.start.symm;obtain ⟨a1,a2,a3,a4⟩:=M;obtain ⟨b1,b2,b3,b4⟩:=M';simp only at hi hs hN hO;rw [hi,hs,hN,hO]
end
structure Shape {A:Type} [DecidableEq A] (e:A→Nat→A) (o:A→Nat→Int) (L:List (A×List Int)) (M:zab):Prop where
 len:M.Next.length=L.length
 row:∀ i x a,L[i]?=some x→a<M.Inputs.toNat→∃ y,L[nx M i a]?=some y∧y.1=e x.1 a∧ot M i a=o x.1 a
theorem zs1 {A:Type} {l:List A} (h:l.Nodup) {i j:Nat} {x:A} (hi:l[i]?=some x) (hj:l[j]?=some x):i=j:=by
 have h1:=(zkI.1 hi);have h2:=(zkI.1 hj);obtain ⟨a1,a2⟩:=h1;obtain ⟨b1,b2⟩:=h2;rcases Nat.lt_trichotomy i j with q | q | q
 ·exact absurd (a2.trans b2.symm) (List.pairwise_iff_getElem.1 h i j a1 b1 q)
 ·exact q
 ·exact absurd (b2.trans a2.symm) (List.pairwise_iff_getElem.1 h j i b1 a1 q)
theorem shape_can {A:Type} [DecidableEq A] {e:A→Nat→A} {o:A→Nat→Int} {s0:A} {L:List (A×List Int)} {M:zab} (hE:ziz e M.Inputs.toNat s0 L) (S:Shape e o L M) (hK:0<M.Inputs.toNat):Can M:=by
 have at_:∀ i a x y j,L[i]?=some x→a<M.Inputs.toNat→L[j]?=some y→y.1=e x.1 a→nx M i a=j:=fun i a x y j hx ha hj he=>by
  obtain ⟨y',h1,h2,_⟩:=S.row i x a hx ha;exact zs1 hE.nodup (x:=e x.1 a) (by rw [List.getElem?_map,h1,← h2];rfl) (by rw [List.getElem?_map,hj,← he];rfl)
 refine ⟨fun i a u hi ha hu hle=>?_,fun u hu hlt=>?_⟩
 ·have hx:=get_at (l:=L) (i:=i) (by rw [← S.len];exact hi);obtain ⟨j,y,h1,h2,h3⟩:=hE.closed hx ha;rw [at_ i a _ y j hx ha h1 h2] at hle;obtain ⟨i',a',z,w,g1,g2,g3,g4,g5,g6⟩:=h3 u hu hle;exact ⟨i',a',g1,g2,g3,at_ i' a' z w u g4 g1 g5 g6⟩
 ·have hx:=get_at (l:=L) (i:=u) (by rw [← S.len];exact hlt);rcases hE.from hK hx with q | ⟨i,a,y,g1,g2,g3,g4⟩
  ·omega
  ·exact ⟨i,a,g1,g2,at_ i a y _ u g3 g2 hx (by rw [g4])⟩
end
section
section
variable {m:zab}
structure TrimOk (m t:zab) (L:List (Nat×List Int)):Prop where
 end_:MEnd m m.Start.toNat L
 inp:t.Inputs=m.Inputs
 start:t.Start=0
 ok:zda t
 shape:Shape (nx m) (ot m) L t
theorem mEnd_rng (H:zda m) {s0:Nat} {L:List (Nat×List Int)} (hs:s0<m.Next.length) (hE:MEnd m s0 L):L.length≤m.Next.length∧∀ x∈L,x.1<m.Next.length∧dest m s0 x.2=x.1∧WOk m.Inputs x.2:=by
 refine ⟨?_,fun x hx=>?_⟩
 ·rw [hE.eq];exact mB_len H hs _
 ·rw [hE.eq] at hx;have:=mB_rng H hs _ x hx;exact ⟨this.1,this.2.2⟩
theorem zp0 {t:zab} {L:List (Nat×List Int)} (T:TrimOk m t L):∀ (w:List Int) (i:Nat) (x:Nat×List Int),L[i]?=some x→WOk m.Inputs w→outs t i w=outs m x.1 w
 | [],_,_,_,_=>rfl
 | z::w,i,x,hx,hw=>by
  have hz:=hw.head;obtain ⟨y,h1,h2,h3⟩:=T.shape.row i x z.toNat hx (by rw [T.inp];omega);have:=zp0 T w _ y h1 hw.tail;show ot t i z.toNat::outs t (nx t i z.toNat) w=ot m x.1 z.toNat::outs m (nx m x.1 z.toNat) w;rw [h3,this,h2]
end
end
section
section
variable {κ ν:Type} [BEq κ]
end
section
variable {m:zab} {c:List Int}
def sigV (m:zab) (c:List Int) (s a p:Nat):Int:=if p<a then ot m s p else if 64≤p∧p-64<a then (c[nx m s (p-64)]?).getD 0 else 0
def sigA (m:zab) (c:List Int) (s:Nat):List Int:=(List.range 128).map (sigV m c s m.Inputs.toNat)
def FirstOcc (o:List Int):Prop:=∀ (s x:Nat),o[s]?=some (↑x:Int)→∀ u:Nat,u<x→∃ s',s'<s∧o[s']?=some (↑u:Int)
structure ClsF (m:zab) (k:Nat) (c:List Int):Prop where
 cls:zmx m k c
 first:FirstOcc c
structure Giv (m:zab) (c:List Int) (mp:List (List Int×Int)) (o:List Int) (s:Nat):Prop where
 len:o.length=m.Next.length
 keys:∀ p∈mp,p.1.length=128
 le:mp.length≤s
 get:∀ s',s'<s→∃ x:Nat,x<mp.length∧o[s']?=some (↑x:Int)∧mget (sigA m c s') mp=some (↑x:Int)
 org:∀ k v,mget k mp=some v→∃ s',s'<s∧sigA m c s'=k
 inj:∀ s' s'',s'<s→s''<s→o[s']?=o[s'']?→sigA m c s'=sigA m c s''
 first:∀ (s' x:Nat),s'<s→o[s']?=some (↑x:Int)→∀ u:Nat,u<x→∃ s'',s''<s'∧o[s'']?=some (↑u:Int)
 all:∀ u:Nat,u<mp.length→∃ s',s'<s∧o[s']?=some (↑u:Int)
open Classical in
open Classical in
end
end
section
section
variable {m t:zab} {c:List Int}
def IsFirst (c:List Int) (s u:Nat):Prop:=c[s]?=some (↑u:Int)∧∀ s',s'<s→c[s']?≠some (↑u:Int)
structure Quo (t M:zab) (c:List Int):Prop where
 inp:M.Inputs=t.Inputs
 start:M.Start=0
 len:M.Out.length=M.Next.length
 ub:∀ s,s<t.Next.length→∃ x:Nat,c[s]?=some (↑x:Int)∧x<M.Next.length
 row:∀ u,u<M.Next.length→∃ s r o,s<t.Next.length∧IsFirst c s u∧M.Next[u]?=some r∧M.Out[u]?=some o∧r.length=t.Inputs.toNat∧(∀ a,a<t.Inputs.toNat→r[a]?=c[nx t s a]?)∧t.Out[s]?=some o
 le:M.Next.length≤t.Next.length
variable {M:zab}
end
end
section
section
variable {m:zab} {c:List Int}
def clN (c:List Int) (s:Nat):Nat:=((c[s]?).getD 0).toNat
open Classical in
noncomputable def rpN (m:zab) (c:List Int) (x:Nat):Nat:=if h:∃ s,s<m.Next.length∧clN c s=x then Classical.choose h else 0
noncomputable def qE (m:zab) (c:List Int) (x a:Nat):Nat:=clN c (nx m (rpN m c x) a)
noncomputable def qO (m:zab) (c:List Int) (x a:Nat):Int:=ot m (rpN m c x) a
theorem zv4 (C:zmx m m.Next.length c) {s:Nat} (hs:s<m.Next.length):c[s]?=some (↑(clN c s):Int)∧clN c s<m.Next.length:=by
 obtain ⟨x,x1,x2⟩:=C.rng s hs;unfold clN;rw [x1,Option.getD_some,Int.toNat_natCast];exact ⟨rfl,x2⟩
theorem clN_iff (C:zmx m m.Next.length c) {s t:Nat} (hs:s<m.Next.length) (ht:t<m.Next.length):clN c s=clN c t↔E m m.Next.length s t:=by
 rw [← C.cls s t hs ht,(zv4 C hs).1,(zv4 C ht).1];exact ⟨fun h=>by rw [h],fun h=>by injection h with h;omega⟩
theorem rpN_spec {s:Nat} (hs:s<m.Next.length):rpN m c (clN c s)<m.Next.length∧clN c (rpN m c (clN c s))=clN c s:=by
 have h:∃ s',s'<m.Next.length∧clN c s'=clN c s:=⟨s,hs,rfl⟩;unfold rpN;rw [dif_pos h];exact Classical.choose_spec h
theorem qE_eq (H:zda m) (C:zmx m m.Next.length c) {s a:Nat} (hs:s<m.Next.length) (ha:a<m.Inputs.toNat):qE m c (clN c s) a=clN c (nx m s a)∧qO m c (clN c s) a=ot m s a:=by
 obtain ⟨h1,h2⟩:=rpN_spec (c:=c) hs;have h3:=E_all H h1 hs ((clN_iff C h1 hs).1 h2) (m.Next.length+1);exact ⟨(clN_iff C (H.at h1 ha).1 (H.at hs ha).1).2 (h3.2 a ha).2,(h3.2 a ha).1⟩
noncomputable def qB (m:zab) (c:List Int) (r:Nat):List (Nat×List Int):=bfsB (qE m c) m.Inputs.toNat (clN c m.Start.toNat) r
theorem qB_rng (H:zda m) (C:zmx m m.Next.length c):∀ (r:Nat),∀ x∈qB m c r,∃ s,s<m.Next.length∧clN c s=x.1
 | 0,x,hx=>by
  have:x=(clN c m.Start.toNat,[]):=by simpa [qB,bfsB] using hx
  subst this;exact ⟨m.Start.toNat,by have:=H.st;omega,rfl⟩
 | r+1,x,hx=>by
  have ih:=qB_rng H C r;unfold qB at hx;rw [bfsB] at hx;split at hx
  ·exact ih x hx
  ·rename_i y hy;split at hx
   ·exact ih x hx
   ·rcases List.mem_append.1 hx with h | h
    ·exact ih x h
    ·have hK:0<m.Inputs.toNat:=by have:=H.i1;omega
     obtain ⟨s,s1,s2⟩:=ih y (zkH hy);have ha:=Nat.mod_lt r hK;have hxe:x=(qE m c y.1 (r%m.Inputs.toNat),y.2++[(↑(r%m.Inputs.toNat):Int)]):=by simpa using h
     subst hxe;exact ⟨nx m s (r%m.Inputs.toNat),(H.at s1 ha).1,by rw [← s2,(qE_eq H C s1 ha).1]⟩
theorem qB_len (H:zda m) (C:zmx m m.Next.length c) (r:Nat):(qB m c r).length≤m.Next.length:=by
 have:=zsp (zlc (e:=qE m c) (K:=m.Inputs.toNat) (s0:=clN c m.Start.toNat) r) (l':=List.range m.Next.length) fun x hx=>by
  obtain ⟨y,hy,rfl⟩:=List.mem_map.1 hx;obtain ⟨s,s1,s2⟩:=qB_rng H C r y hy;rw [← s2];exact List.mem_range.2 (zv4 C s1).2
 rwa [zkK,List.length_range] at this
theorem qB_step {i a:Nat} {x:Nat×List Int} (ha:a<m.Inputs.toNat) (hx:(qB m c (i*m.Inputs.toNat+a))[i]?=some x) :
  qB m c (i*m.Inputs.toNat+(a+1))=if qE m c x.1 a∈(qB m c (i*m.Inputs.toNat+a)).map Prod.fst then qB m c (i*m.Inputs.toNat+a) else qB m c (i*m.Inputs.toNat+a)++[(qE m c x.1 a,x.2++[(↑a:Int)])]:=bfs_step ha hx
theorem qB_next {i:Nat}:qB m c (i*m.Inputs.toNat+m.Inputs.toNat)=qB m c ((i+1)*m.Inputs.toNat):=by rw [Nat.succ_mul]
theorem qB_get {i r:Nat} {x:Nat×List Int} (hx:(qB m c (i*m.Inputs.toNat))[i]?=some x) (hr:i*m.Inputs.toNat≤r):(qB m c r)[i]?=some x:=zf3 (ziv hr) hx
structure Nums (m:zab) (c:List Int) (ord:List Nat) (num:List Int) (B:List (Nat×List Int)):Prop where
 ol:ord.length=B.length
 oc:∀ (j u:Nat) (x:Nat×List Int),ord[j]?=some u→B[j]?=some x→u<m.Next.length∧clN c u=x.1
 nl:num.length=m.Next.length
 n1:∀ (j:Nat) (x:Nat×List Int),B[j]?=some x→num[x.1]?=some (↑j:Int)
 n2:∀ x:Nat,x<m.Next.length→x∉B.map Prod.fst→num[x]?=some (-1:Int)
theorem Nums.push {ord:List Nat} {num:List Int} {B:List (Nat×List Int)} {u:Nat} {w:List Int} (N:Nums m c ord num B) (C:zmx m m.Next.length c) (hu:u<m.Next.length) (hn:clN c u∉B.map Prod.fst) (hB:(B.map Prod.fst).Nodup):Nums m c (ord++[u]) (num.set (clN c u) (↑B.length:Int)) (B++[(clN c u,w)]):=by
 have hcl:=(zv4 C hu).2;refine ⟨by simp [N.ol],fun j v x hj hx=>?_,by simp [N.nl],fun j x hx=>?_,fun x hx hm=>?_⟩
 ·rcases Nat.lt_or_ge j B.length with h | h
  ·rw [List.getElem?_append_left (by rw [N.ol];exact h)] at hj;rw [List.getElem?_append_left h] at hx;exact N.oc j v x hj hx
  ·have hl:=(zkI.1 hx).1;rw [zkJ,List.length_singleton] at hl;have:j=B.length:=by omega
   subst this;rw [List.getElem?_append_right (by rw [N.ol];exact Nat.le_refl _),N.ol,Nat.sub_self] at hj;rw [List.getElem?_append_right (Nat.le_refl _),Nat.sub_self] at hx;injection hj with hj
   injection hx with hx
   subst hj;subst hx;exact ⟨hu,rfl⟩
 ·rcases Nat.lt_or_ge j B.length with h | h
  ·rw [List.getElem?_append_left h] at hx;rw [List.getElem?_set_ne (fun q=>hn (by rw [q];exact List.mem_map.2 ⟨x,zkH hx,rfl⟩)),N.n1 j x hx]
  ·have hl:=(zkI.1 hx).1;rw [zkJ,List.length_singleton] at hl;have:j=B.length:=by omega
   subst this;rw [List.getElem?_append_right (Nat.le_refl _),Nat.sub_self] at hx;injection hx with hx
   subst hx;rw [List.getElem?_set_self (by rw [N.nl];exact hcl)]
 ·rw [List.map_append,List.mem_append,not_or] at hm;have h1:clN c u≠x:=fun q=>hm.2 (by simp [q]);rw [List.getElem?_set_ne h1];exact N.n2 x hx hm.1
theorem rmin_row (H:zda m) (C:zmx m m.Next.length c) {e:Int} {i:Nat} {x:Nat×List Int} {ord:List Nat} {num:List Int} (hx:(qB m c (i*m.Inputs.toNat))[i]?=some x) (N:Nums m c ord num (qB m c (i*m.Inputs.toNat))) :
  ∃ (ord':List Nat) (num' row out:List Int),iter (fun (s:List Int×List Int×List Int×List Int×Nat)=>zb2.s56 m (c,e) i s.1 s.2.1 s.2.2.1 s.2.2.2.1 s.2.2.2.2) fuel (natI ord,num,[],[],0)=some (natI ord',num',row,out)∧Nums m c ord' num' (qB m c ((i+1)*m.Inputs.toNat))∧row.length=m.Inputs.toNat∧out.length=m.Inputs.toNat ∧
   ∀ a,a<m.Inputs.toNat→∃ (j:Nat) (z:Nat×List Int),(qB m c ((i+1)*m.Inputs.toNat))[j]?=some z∧z.1=qE m c x.1 a∧row[a]?=some (↑j:Int)∧out[a]?=some (qO m c x.1 a):=by
 have hI:=H.i2;have hn:=H.n2
 obtain ⟨r,hr,ord',num',row,out,rfl,g1,g2,g3,g4⟩:=zf5 (step:=fun (s:List Int×List Int×List Int×List Int×Nat)=>zb2.s56 m (c,e) i s.1 s.2.1 s.2.2.1 s.2.2.2.1 s.2.2.2.2) (fun s=>∃ ord':List Nat,s.1=natI ord'∧s.2.2.2.2≤m.Inputs.toNat∧Nums m c ord' s.2.1 (qB m c (i*m.Inputs.toNat+s.2.2.2.2))∧s.2.2.1.length=s.2.2.2.2∧s.2.2.2.1.length=s.2.2.2.2 ∧
   ∀ a,a<s.2.2.2.2→∃ (j:Nat) (z:Nat×List Int),(qB m c (i*m.Inputs.toNat+s.2.2.2.2))[j]?=some z∧z.1=qE m c x.1 a∧s.2.2.1[a]?=some (↑j:Int)∧s.2.2.2.1[a]?=some (qO m c x.1 a)) (fun s=>m.Inputs.toNat-s.2.2.2.2) (fun r=>∃ (ord':List Nat) (num' row out:List Int),r=(natI ord',num',row,out)∧Nums m c ord' num' (qB m c ((i+1)*m.Inputs.toNat))∧row.length=m.Inputs.toNat∧out.length=m.Inputs.toNat ∧
   ∀ a,a<m.Inputs.toNat→∃ (j:Nat) (z:Nat×List Int),(qB m c ((i+1)*m.Inputs.toNat))[j]?=some z∧z.1=qE m c x.1 a∧row[a]?=some (↑j:Int)∧out[a]?=some (qO m c x.1 a)) (fun s ⟨ord',q1,q2,q3,q4,q5,q6⟩=>by
  obtain ⟨o,num',row,out,a⟩:=s
  simp only at q1 q2 q3 q4 q5 q6
  subst q1
  simp only [zb2.s56]
  by_cases g:a<m.Inputs.toNat
  ·left
   have hxa:=qB_get hx (r:=i*m.Inputs.toNat+a) (by omega)
   have hlen:=qB_len H C (i*m.Inputs.toNat+a)
   have hil:=(zkI.1 hxa).1
   have hv:=get_at (l:=ord') (i:=i) (by rw [q3.ol];exact hil)
   generalize ord'[i]'(by rw [q3.ol];exact hil)=v at hv
   obtain ⟨hvn,hvc⟩:=q3.oc i v x hv hxa
   obtain ⟨t1,_,_,xr,yr,e1,e2,e3,e4⟩:=H.at hvn g
   have hcE:=qE_eq H C hvn g
   rw [hvc] at hcE
   have hct:=zv4 C t1
   have hstep:=qB_step g hxa
   rw [hcE.1] at hstep
   have hol:=q3.ol
   rw [zkB (by omega),zkD,zaq (zvh hv),zbd rfl e1,zaq e3]
   have fin:∀ {ord2:List Nat} {num2:List Int} {B2:List (Nat×List Int)} {j:Nat} {z:Nat×List Int},qB m c (i*m.Inputs.toNat+(a+1))=B2→Nums m c ord2 num2 B2→B2[j]?=some z→z.1=clN c (nx m v a)→ord2[i]?=some v→(∀ (j:Nat) (z:Nat×List Int),(qB m c (i*m.Inputs.toNat+a))[j]?=some z→B2[j]?=some z) →
     zb2.k55 m (c,e) i row out a (↑(nx m v a):Int) (natI ord2) num2=some (.inl (natI ord2,num2,row++[(↑j:Int)],out++[ot m v a],a+1)) ∧
     (∃ ord'':List Nat,natI ord2=natI ord''∧a+1≤m.Inputs.toNat∧Nums m c ord'' num2 (qB m c (i*m.Inputs.toNat+(a+1)))∧(row++[(↑j:Int)]).length=a+1∧(out++[ot m v a]).length=a+1∧∀ b,b<a+1→∃ (j':Nat) (z:Nat×List Int),(qB m c (i*m.Inputs.toNat+(a+1)))[j']?=some z∧z.1=qE m c x.1 b∧(row++[(↑j:Int)])[b]?=some (↑j':Int)∧(out++[ot m v a])[b]?=some (qO m c x.1 b)):=by
    intro ord2 num2 B2 j z hB N2 hz hz1 hv2 hmono
    refine ⟨?_,ord2,rfl,g,by rw [hB];exact N2,by simp [q4],by simp [q5],fun b hb=>?_⟩
    ·simp only [zb2.k55]
     have:=N2.n1 j z hz
     rw [hz1] at this
     rw [zbd rfl hct.1,zbd rfl this,zar (by unfold za7;omega),zaq (zvh hv2),zbd rfl e2,zaq e4,zar (by unfold za7;omega),zar (by unfold inR;omega)]
    ·rw [hB]
     rcases Nat.lt_or_ge b a with h | h
     ·obtain ⟨j',z',w1,w2,w3,w4⟩:=q6 b h
      exact ⟨j',z',hmono _ _ w1,w2,by rw [List.getElem?_append_left (by omega),w3],by rw [List.getElem?_append_left (by omega),w4]⟩
     ·have:b=a:=by omega
      subst this
      exact ⟨j,z,hz,by rw [hz1,hcE.1],by rw [List.getElem?_append_right (by omega),q4,Nat.sub_self];rfl,by rw [List.getElem?_append_right (by omega),q5,Nat.sub_self,hcE.2];rfl⟩
   by_cases hm:clN c (nx m v a)∈(qB m c (i*m.Inputs.toNat+a)).map Prod.fst
   ·rw [if_pos hm] at hstep
    obtain ⟨z,hz,hz1⟩:=List.mem_map.1 hm
    obtain ⟨j,hj⟩:=List.mem_iff_getElem?.1 hz
    have hnum:=q3.n1 j z hj
    rw [hz1] at hnum
    obtain ⟨f1,f2⟩:=fin hstep q3 hj hz1 hv (fun _ _ h=>h)
    refine ⟨(natI ord',num',row++[(↑j:Int)],out++[ot m v a],a+1),?_,f2,by simp only;omega⟩
    rw [zbd rfl hct.1,zbd rfl hnum,zkA (by omega),zkC,zap]
    exact f1
   ·rw [if_neg hm] at hstep
    have hnum:=q3.n2 _ hct.2 hm
    have N2:=q3.push (w:=x.2++[(↑a:Int)]) C t1 hm (zlc _)
    obtain ⟨f1,f2⟩:=fin (j:=(qB m c (i*m.Inputs.toNat+a)).length) (z:=(clN c (nx m v a),x.2++[(↑a:Int)])) hstep N2 (by simp) rfl (by rw [List.getElem?_append_left (by omega),hv]) (fun j z h=>by rw [List.getElem?_append_left (zkI.1 h).1,h])
    refine ⟨(natI (ord'++[nx m v a]),num'.set (clN c (nx m v a)) (↑(qB m c (i*m.Inputs.toNat+a)).length:Int),row++[(↑(qB m c (i*m.Inputs.toNat+a)).length:Int)],out++[ot m v a],a+1),?_,f2,by simp only;omega⟩
    rw [zbd rfl hct.1,zbd rfl hnum,zkB (by omega),zkD,zbd rfl hct.1,zbd rfl hnum,zar (by unfold za7;rw [zhc];omega),natI_push,zhc,zap,hol]
    exact f1
  ·right
   have:a=m.Inputs.toNat:=by omega
   subst this
   rw [qB_next] at q3 q6
   exact ⟨_,by rw [zkA (by omega),zkC],ord',num',row,out,rfl,q3,q4,q5,q6⟩) (natI ord,num,[],[],0) ⟨ord,rfl,Nat.zero_le _,N,rfl,rfl,fun a h=>absurd h (Nat.not_lt_zero _)⟩
 exact ⟨ord',num',row,out,hr,g1,g2,g3,g4⟩
theorem R08_Min_sem (hv:zgu m=0):∃ M,zb2 m=some (M,0)∧MinSem m M:=by
 have hv':zbx m=some 0:=by rw [zf2,hv]
 have H:=zhp hv;have hn:=H.n2;have hst:=H.st;have hi1:=H.i1;have hi2:=H.i2;obtain ⟨c,c1,C⟩:=zsg hv' m.Next.length;rw [Nat.min_self] at C
 have hcl:zjt m=some (c,0):=by
  unfold zjt;rw [c1,zap]
 unfold zb2;rw [hcl,zap,zkA (by simp),zkC,zar ⟨by omega,by omega,by unfold za7;omega⟩]
 obtain ⟨y,hy,y1,y2⟩:=zf5 (step:=fun (s:List Int×Nat)=>zb2.s2 s.1 s.2) (fun s=>s.1.length=m.Next.length∧s.2≤m.Next.length∧∀ x,x<s.2→s.1[x]?=some (-1:Int)) (fun s=>m.Next.length-s.2) (fun r=>r.length=m.Next.length∧∀ x,x<m.Next.length→r[x]?=some (-1:Int)) (fun s ⟨g1,g2,g3⟩=>by
  obtain ⟨y,i⟩:=s
  simp only at g1 g2 g3
  simp only [zb2.s2]
  by_cases g:i<y.length
  ·left
   have hx:=get_at g
   refine ⟨(y.set i (-1),i+1),by rw [zcb hx,zkD,zaq hx],⟨by simp [g1],by simp only;omega,fun x hx'=>?_⟩,by simp only;omega⟩
   simp only
   by_cases e:i=x
   ·subst e
    rw [List.getElem?_set_self g]
   ·rw [List.getElem?_set_ne e]
    exact g3 x (by simp only at hx';omega)
  ·right
   exact ⟨y,by rw [zkA (by omega),zkC],g1,fun x hx=>g3 x (by omega)⟩) ((List.replicate m.Next.length 0),0) ⟨by simp,Nat.zero_le _,fun x h=>absurd h (Nat.not_lt_zero _)⟩
 have hs:m.Start.toNat<m.Next.length:=by omega
 obtain ⟨x1,x2⟩:=zv4 C hs;rw [hy,zap,zbd (i:=m.Start.toNat) (by omega) x1,zbd rfl (y2 _ x2)]
 have N0:Nums m c [m.Start.toNat] (y.set (clN c m.Start.toNat) 0) (qB m c 0):=by
  have hB0:qB m c 0=[(clN c m.Start.toNat,[])]:=rfl;refine ⟨rfl,fun j u x hj hx=>?_,by simp [y1],fun j x hx=>?_,fun x hx hm=>?_⟩
  ·have hl:=(zkI.1 hj).1;rw [List.length_singleton] at hl;have:j=0:=by omega
   subst this;rw [hB0] at hx;injection hj with hj
   injection hx with hx
   subst hj;subst hx;exact ⟨hs,rfl⟩
  ·rw [hB0] at hx;have hl:=(zkI.1 hx).1;rw [List.length_singleton] at hl;have:j=0:=by omega
   subst this;injection hx with hx
   subst hx;rw [List.getElem?_set_self (by omega)];rfl
  ·rw [hB0] at hm;rw [List.getElem?_set_ne (fun q=>hm (by simp [q])),y2 x hx]
 obtain ⟨r,hr,L,P,R,rfl,hE,p1,p2,p3⟩:=zf5 (step:=fun (s:List Int×List Int×List (List Int)×List (List Int)×Nat)=>zb2.s58 m (c,0) s.1 s.2.1 s.2.2.1 s.2.2.2.1 s.2.2.2.2) (fun s=>∃ ord:List Nat,s.1=natI ord∧Nums m c ord s.2.1 (qB m c (s.2.2.2.2*m.Inputs.toNat))∧s.2.2.2.2≤(qB m c (s.2.2.2.2*m.Inputs.toNat)).length∧s.2.2.1.length=s.2.2.2.2∧s.2.2.2.1.length=s.2.2.2.2 ∧
   ∀ (i:Nat) (x:Nat×List Int),i<s.2.2.2.2→(qB m c (s.2.2.2.2*m.Inputs.toNat))[i]?=some x→∃ row out,s.2.2.1[i]?=some row∧s.2.2.2.1[i]?=some out∧row.length=m.Inputs.toNat∧out.length=m.Inputs.toNat∧∀ a,a<m.Inputs.toNat→∃ (j:Nat) (z:Nat×List Int),(qB m c (s.2.2.2.2*m.Inputs.toNat))[j]?=some z∧z.1=qE m c x.1 a∧row[a]?=some (↑j:Int)∧out[a]?=some (qO m c x.1 a)) (fun s=>m.Next.length+1-s.2.2.2.2) (fun r=>∃ L P R,r=(P,R)∧ziz (qE m c) m.Inputs.toNat (clN c m.Start.toNat) L∧P.length=L.length∧R.length=L.length ∧
   ∀ (i:Nat) (x:Nat×List Int),L[i]?=some x→∃ row out,P[i]?=some row∧R[i]?=some out∧row.length=m.Inputs.toNat∧out.length=m.Inputs.toNat∧∀ a,a<m.Inputs.toNat→∃ (j:Nat) (z:Nat×List Int),L[j]?=some z∧z.1=qE m c x.1 a∧row[a]?=some (↑j:Int)∧out[a]?=some (qO m c x.1 a)) (fun s ⟨ord,q1,q2,q3,q4,q5,q6⟩=>by
  obtain ⟨o,num,P,R,i⟩:=s
  simp only at q1 q2 q3 q4 q5 q6
  subst q1
  have hlen:=qB_len H C (i*m.Inputs.toNat)
  have hol:=q2.ol
  simp only [zb2.s58]
  by_cases g:i<(qB m c (i*m.Inputs.toNat)).length
  ·left
   have hx:=get_at g
   generalize (qB m c (i*m.Inputs.toNat))[i]=x at hx
   obtain ⟨ord',num',row,out,f1,f2,f3,f4,f5⟩:=rmin_row H C (e:=0) hx q2
   have hpre:qB m c (i*m.Inputs.toNat) <+: qB m c ((i+1)*m.Inputs.toNat):=ziv (by rw [Nat.succ_mul];omega)
   have hmono:=hpre.length_le
   refine ⟨(natI ord',num',P++[row],R++[out],i+1),?_,⟨ord',rfl,f2,by simp only;omega,by simp [q4],by simp [q5],fun k z hk hz=>?_⟩,by simp only;omega⟩
   ·rw [zhc,zkB (by omega),zkD,f1,zap]
    simp only [zb2.k57]
    rw [zar (by unfold za7;omega),zar (by unfold za7;omega)]
   ·simp only at hk hz ⊢
    rcases Nat.lt_or_ge k i with h | h
    ·have hz0:=get_at (l:=qB m c (i*m.Inputs.toNat)) (i:=k) (by omega)
     have hz1:=zf3 hpre hz0
     rw [hz] at hz1
     injection hz1 with hz1
     rw [← hz1] at hz0
     obtain ⟨row',out',w1,w2,w3,w4,w5⟩:=q6 k z h hz0
     refine ⟨row',out',by rw [List.getElem?_append_left (by omega),w1],by rw [List.getElem?_append_left (by omega),w2],w3,w4,fun a ha=>?_⟩
     obtain ⟨j,z',v1,v2⟩:=w5 a ha
     exact ⟨j,z',zf3 hpre v1,v2⟩
    ·have:k=i:=by omega
     subst this
     have hx':=zf3 hpre hx
     rw [hz] at hx'
     injection hx' with hx'
     subst hx'
     exact ⟨row,out,by rw [List.getElem?_append_right (by omega),q4,Nat.sub_self];rfl,by rw [List.getElem?_append_right (by omega),q5,Nat.sub_self];rfl,f3,f4,f5⟩
  ·right
   have he:(qB m c (i*m.Inputs.toNat)).length=i:=by omega
   refine ⟨(P,R),by rw [zhc,zkA (by omega),zkC],qB m c (i*m.Inputs.toNat),P,R,rfl,⟨?_⟩,by omega,by omega,fun k x hx=>q6 k x (by have:=(zkI.1 hx).1;omega) hx⟩
   rw [he]
   rfl) ([m.Start],y.set (clN c m.Start.toNat) 0,[],[],0) ⟨[m.Start.toNat],by simp [natI];omega,by simp only;rw [Nat.zero_mul];exact N0,Nat.zero_le _,rfl,rfl,fun i x h=>absurd h (Nat.not_lt_zero _)⟩
 have hLn:L.length≤m.Next.length:=by
  rw [hE.eq];exact qB_len H C _
 have hLr:∀ x∈L,∃ s,s<m.Next.length∧clN c s=x.1:=by
  rw [hE.eq];exact qB_rng H C _
 have hL0:0<L.length:=(zkI.1 hE.first).1
 have hsh:Shape (qE m c) (qO m c) L (⟨m.Inputs,0,P,R⟩:zab):=⟨p1,fun i x a hx ha=>by
  obtain ⟨row,out,w1,w2,w3,w4,w5⟩:=p3 i x hx
  obtain ⟨j,z,z1,z2,z3,z4⟩:=w5 a ha
  have e1:nx (⟨m.Inputs,0,P,R⟩:zab) i a=j:=by
   unfold nx
   simp only
   rw [w1,Option.getD_some,z3,Option.getD_some,Int.toNat_natCast]
  refine ⟨z,by rw [e1];exact z1,z2,?_⟩
  unfold ot
  simp only
  rw [w2,Option.getD_some,z4,Option.getD_some]⟩
 have hok:zda (⟨m.Inputs,0,P,R⟩:zab):=by
  refine ⟨hi1,hi2,by simp only;omega,by simp only;omega,⟨Int.le_refl 0,by simp only;omega⟩,by simp only;omega,fun i hi=>?_⟩;simp only at hi ⊢;have hx:=get_at (l:=L) (i:=i) (by omega);obtain ⟨row,out,w1,w2,w3,w4,w5⟩:=p3 i _ hx;refine ⟨row,out,w1,w2,by omega,by omega,fun u hu=>?_,fun v hv=>?_⟩
  ·obtain ⟨a,ha,rfl⟩:=List.mem_iff_getElem.1 hu;obtain ⟨j,z,z1,_,z3,_⟩:=w5 a (by omega);rw [get_at ha] at z3;injection z3 with z3
   have:=(zkI.1 z1).1;omega
  ·obtain ⟨a,ha,rfl⟩:=List.mem_iff_getElem.1 hv;obtain ⟨j,z,_,_,_,z4⟩:=w5 a (by omega);rw [get_at ha] at z4;injection z4 with z4
   obtain ⟨s,s1,s2⟩:=hLr _ (zkH hx);have h:=H.at s1 (a:=a) (by omega);rw [← s2,(qE_eq H C s1 (a:=a) (by omega)).2] at z4;omega
 have houts:∀ (w:List Int) (i:Nat) (x:Nat×List Int) (s:Nat),L[i]?=some x→s<m.Next.length→clN c s=x.1→WOk m.Inputs w→outs (⟨m.Inputs,0,P,R⟩:zab) i w=outs m s w:=by
  intro w
  induction w with
  | nil=>intro _ _ _ _ _ _ _;rfl
  | cons z w ih =>
   intro i x s hx hs hc hw;have hz:=hw.head;have ha:z.toNat<m.Inputs.toNat:=by omega
   obtain ⟨y,g1,g2,g3⟩:=hsh.row i x z.toNat hx ha;have hcE:=qE_eq H C hs ha;rw [hc] at hcE;have:=ih _ y (nx m s z.toNat) g1 (H.at hs ha).1 (by rw [g2,hcE.1]) hw.tail;show ot (⟨m.Inputs,0,P,R⟩:zab) i z.toNat::outs _ (nx (⟨m.Inputs,0,P,R⟩:zab) i z.toNat) w=ot m s z.toNat::outs m (nx m s z.toNat) w;rw [this,g3,hcE.2]
 refine ⟨⟨m.Inputs,0,P,R⟩,by rw [Int.toNat_natCast,hr,zap];rfl,⟨hok,rfl,rfl,fun w hw=>houts w 0 _ _ hE.first hs rfl hw,fun i j hi hj h=>?_,shape_can (M:=(⟨m.Inputs,0,P,R⟩:zab)) hE hsh (by simp only;omega)⟩⟩;simp only at hi hj;have hx:=get_at (l:=L) (i:=i) (by omega);have hy':=get_at (l:=L) (i:=j) (by omega);obtain ⟨s,s1,s2⟩:=hLr _ (zkH hx);obtain ⟨t,t1,t2⟩:=hLr _ (zkH hy')
 have he:E m m.Next.length s t:=zpj fun w _ hw=>by
  rw [← houts w i _ s hx s1 s2 hw,← houts w j _ t hy' t1 t2 hw];exact h w hw
 have hc:=(clN_iff C s1 t1).2 he;exact zs1 hE.nodup (x:=clN c s) (by rw [List.getElem?_map,hx,s2];rfl) (by rw [List.getElem?_map,hy',hc,t2];rfl)
end
end
section
section
variable {m M:zab}
open Classical in
structure MinimalP (m:zab):Prop where
 reach:∀ s,s<m.Next.length→∃ w,WOk m.Inputs w∧dest m m.Start.toNat w=s
 apart:∀ i j,i<m.Next.length→j<m.Next.length→Eqv m i m j→i=j
open Classical in
open Classical in
open Classical in
end
end

section
section
variable {m M:zab} {ids:List (List (List Int))} {front middle:List (List Int)}
structure Parts (M:zab) (front middle:List (List Int)) (ids:List (List (List Int))):Prop where
 ok:zgu M=0
 il:ids.length=M.Next.length
 is_:∀ l∈ids,l.length≤200∧∀ x∈l,x.length≤600
 f1:front.length≤200
 f2:∀ u∈front,WOk M.Inputs u∧u.length≤200
 m1:middle.length≤200
 m2:∀ v∈middle,WOk M.Inputs v∧v.length≤200
end
end
section
section
variable {M I:zab} {sM sI k:Nat} {U:List (List Int)} {T:Nat→List (List Int)}
structure Pass (M I:zab) (sM sI k:Nat) (U:List (List Int)) (T:Nat→List (List Int)):Prop where
 two:Two M I
 hM:sM<M.Next.length
 hI:sI<I.Next.length
 nil:[]∈U
 ok:∀ u∈U,WOk M.Inputs u
 cov:∀ s,s<M.Next.length→∃ u∈U,dest M sM u=s
 tne:∀ s,s<M.Next.length→∃ x,x∈T s
 tok:∀ s,∀ x∈T s,WOk M.Inputs x
 sep:∀ s s',s<M.Next.length→s'<M.Next.length→s≠s'→∃ x,x∈T s∧x∈T s'∧outs M s x≠outs M s' x
 pass:∀ u∈U,∀ v,WOk M.Inputs v→v.length≤k+1→∀ x∈T (dest M sM (u++v)),outs M sM (u++v++x)=outs I sI (u++v++x)
 few:∀ l:List Nat,l.Nodup→(∀ q∈l,∃ w,WOk M.Inputs w∧dest I sI w=q)→l.length≤M.Next.length+k
variable (P:Pass M I sM sI k U T)
include P
end
end
section
section
variable {m b M:zab}
theorem zvq (c1:zgu m=0) (c2:zgu b=0) (c3:m.Inputs=b.Inputs):zer m b=some 0:=by
 unfold zer
 have key:=zcw (step:=fun (s:Nat)=>zer.s2 m b s) (r:=(.inl ():Unit⊕Int)) (fun s=>s≤2) (fun s=>2-s) (fun s hs=>by
  simp only [zer.s2]
  rcases Nat.lt_or_ge s 2 with h | h
  ·left
   rcases Nat.lt_or_ge s 1 with g | g
   ·have:s=0:=by omega
    subst this
    exact ⟨1,by rw [zkB (by omega),zkD,zkB (by omega),zkD,zih,zap,c1];rfl,by omega,by omega⟩
   ·have:s=1:=by omega
    subst this
    exact ⟨2,by rw [zkB (by omega),zkD,zkA (by omega),zkC,zar (by omega),zih,zap,c2];rfl,by omega,by omega⟩
  ·right
   rw [zkA (by omega),zkC]) (n:=fuel) (s:=0) (by omega)
 rw [key,zap];show (cond (decide (m.Inputs≠b.Inputs)) (some 15) (some 0):Option Int)=_;rw [zkA (fun h=>h c3),zkC]
end
end
section
structure zn8 (l:List zaa):Prop where
 ne:∀ t∈l,t.In≠[]
 asc:l.Pairwise (fun a b=>cmpW a.In b.In=-1)
 ap:l.Pairwise (fun a b=>¬ a.In <+: b.In)
theorem zeg.trs {o:zad} (h:zeg o):zn8 o.Traces:=⟨fun t ht=>(h.prop t ht).2,h.pw.1,h.pw.2.imp fun h=>h.1⟩
theorem zn8.one {l:List zaa} (h:zn8 l) {a b:zaa} (ha:a∈l) (hb:b∈l) (hp:a.In <+: b.In):a=b:=by
 obtain ⟨i,hi,rfl⟩:=List.getElem_of_mem ha;obtain ⟨j,hj,rfl⟩:=List.getElem_of_mem hb;rcases Nat.lt_trichotomy i j with g | g | g
 ·exact absurd hp (List.pairwise_iff_getElem.1 h.ap i j hi hj g)
 ·subst g;rfl
 ·exfalso;have hc:=List.pairwise_iff_getElem.1 h.asc j i hj hi g;have hl:=hp.length_le;unfold cmpW at hc;rcases Nat.lt_or_eq_of_le hl with q | q
  ·rw [if_neg (by omega),if_pos (by omega)] at hc;cases hc
  ·have e:=hp.eq_of_length q;rw [e] at hc;have:=zeu l[j].In;unfold cmpW at this;rw [this] at hc;cases hc
theorem zn8.add {l:List zaa} (h:zn8 l) (t:zaa):zn8 (addL l t):=by
 unfold addL;by_cases g:zhn l t.In=true∨t.In=[]
 ·rw [if_pos g];exact h
 ·rw [if_neg g];have h1:=zpt fun e=>g (.inl e);have h2:t.In≠[]:=fun e=>g (.inr e);have hsub:(zsb l t).Sublist l:=List.filter_sublist
  have hrest:∀ x∈zsb l t,x∈l∧¬ x.In <+: t.In:=fun x hx=>by
   have:=List.mem_filter.1 hx;refine ⟨this.1,fun e=>?_⟩;rw [zkB e] at this;exact Bool.false_ne_true this.2
  refine ⟨fun x hx=>?_,insT_asc (h.asc.sublist hsub) fun x hx e=>(hrest x hx).2 (e ▸ List.prefix_refl _),zvd (h.ap.sublist hsub) fun x hx=>⟨(hrest x hx).2,h1 x (hrest x hx).1⟩⟩;rcases zi7.1 hx with e | e
  ·rw [e];exact h2
  ·exact h.ne x (hrest x e).1
theorem zv9 {α:Type} {p:α→Bool}:∀ {l:List α},(∀ (i j:Nat) (hi:i<l.length) (hj:j<l.length),p l[i]=false→p l[j]=false→i=j)→l.length≤(l.filter p).length+1
 | [],_=>by simp
 | x::l,h=>by
  have ih:l.length≤(l.filter p).length+1:=zv9 fun i j hi hj h1 h2=>by
   have:=h (i+1) (j+1) (by simp;omega) (by simp;omega) h1 h2;omega
  cases hx:p x with
  | true=>rw [List.filter_cons_of_pos hx,zkL,zkL];omega
  | false =>
   have:l.filter p=l:=List.filter_eq_self.2 fun y hy=>by
    obtain ⟨j,hj,rfl⟩:=List.getElem_of_mem hy;cases e:p l[j] with
    | true=>rfl
    | false =>
     have:=h 0 (j+1) (by simp) (by simp;omega) hx e;omega
   rw [List.filter_cons_of_neg (by rw [hx];exact Bool.false_ne_true),this,zkL];omega
theorem addL_up {l:List zaa} (h:zn8 l) (t:zaa):l.length≤(addL l t).length:=by
 unfold addL;split
 ·exact Nat.le_refl _
 ·rw [zou];refine zv9 fun i j hi hj h1 h2=>?_;have p1:l[i].In <+: t.In:=Classical.byContradiction fun e=>by rw [zkA e] at h1;cases h1
  have p2:l[j].In <+: t.In:=Classical.byContradiction fun e=>by rw [zkA e] at h2;cases h2
  rcases Nat.lt_trichotomy i j with g | g | g
  ·exfalso;rcases List.prefix_or_prefix_of_prefix p1 p2 with q | q
   ·exact List.pairwise_iff_getElem.1 h.ap i j hi hj g q
   ·have e:=h.one (List.getElem_mem hj) (List.getElem_mem hi) q;have:=List.pairwise_iff_getElem.1 h.asc i j hi hj g;rw [e,zeu] at this;cases this
  ·exact g
  ·exfalso;rcases List.prefix_or_prefix_of_prefix p2 p1 with q | q
   ·exact List.pairwise_iff_getElem.1 h.ap j i hj hi g q
   ·have e:=h.one (List.getElem_mem hi) (List.getElem_mem hj) q;have:=List.pairwise_iff_getElem.1 h.asc j i hj hi g;rw [e,zeu] at this;cases this
section
variable {m:zab}
theorem zns:∀ (ws:List (List Int)) (o:zad),zn8 o.Traces→zn8 (zdb m o ws).Traces
 | [],_,h=>h
 | w::ws,o,h=>zns ws ⟨o.Inputs,addL o.Traces (tr m w)⟩ (h.add _)
theorem told_up:∀ (ws:List (List Int)) (o:zad),zn8 o.Traces→o.Traces.length≤(zdb m o ws).Traces.length
 | [],_,_=>Nat.le_refl _
 | w::ws,o,h=>Nat.le_trans (addL_up h (tr m w)) (told_up ws ⟨o.Inputs,addL o.Traces (tr m w)⟩ (h.add _))
theorem zmu:∀ (ws:List (List Int)) (o:zad),Expl m o→Expl m (zdb m o ws)
 | [],_,h=>h
 | w::ws,o,h=>zmu ws ⟨o.Inputs,addL o.Traces (tr m w)⟩ (expl_add h)
theorem zuk:∀ (a b:List (List Int)) (o:zad),zdb m o (a++b)=zdb m (zdb m o a) b
 | [],_,_=>rfl
 | _::a,b,_=>zuk a b _
theorem trs_uniq {o p:zad} (ho:zn8 o.Traces) (hp:zn8 p.Traces) (eo:Expl m o) (ep:Expl m p) (hi:o.Inputs=p.Inputs) (h:∀ v,Kn o v↔Kn p v):o=p:=by
 have sub:∀ {o p:zad},zn8 o.Traces→zn8 p.Traces→(∀ v,Kn o v↔Kn p v)→∀ x,x∈o.Traces.map (fun t=>t.In)→x∈p.Traces.map (fun t=>t.In):=fun {o p} ho hp h x hx=>by
  obtain ⟨t,ht,rfl⟩:=List.mem_map.1 hx;rcases (h t.In).1 (.inr ⟨t,ht,List.prefix_refl _⟩) with e | ⟨u,hu,hq⟩
  ·exact absurd e (ho.ne t ht)
  ·rcases (h u.In).2 (.inr ⟨u,hu,List.prefix_refl _⟩) with e | ⟨s,hs,hr⟩
   ·exact absurd e (hp.ne u hu)
   ·have:=ho.one ht hs (hq.trans hr);subst this;have e2:t.In=u.In:=hq.eq_of_length (Nat.le_antisymm hq.length_le hr.length_le);exact List.mem_map.2 ⟨u,hu,e2.symm⟩
 have hmap:o.Traces.map (fun t=>t.In)=p.Traces.map (fun t=>t.In):=zor (List.pairwise_map.2 ho.asc) (List.pairwise_map.2 hp.asc) fun x=>⟨sub ho hp h x,sub hp ho (fun v=>(h v).symm) x⟩
 have rcn:∀ {o:zad},Expl m o→o.Traces=(o.Traces.map (fun t=>t.In)).map (tr m):=fun {o} eo=>by
  rw [List.map_map]
  have key:∀ l:List zaa,(∀ t∈l,t.Out=outs m m.Start.toNat t.In)→l=l.map (tr m ∘ fun t=>t.In):=fun l=>by
   induction l with
   | nil=>intro _;rfl
   | cons t l ih =>
    intro h;rw [List.map_cons,← ih fun x hx=>h x (List.mem_cons_of_mem _ hx)];congr 1;show t=⟨t.In,outs m m.Start.toNat t.In⟩;rw [← h t List.mem_cons_self]
  exact key _ eo
 have:o.Traces=p.Traces:=by rw [rcn eo,rcn ep,hmap]
 obtain ⟨i,l⟩:=o;obtain ⟨j,k⟩:=p;simp only at hi this;rw [hi,this]
end
end
section
section
variable {m:zab} {o:zad} {w:List Int}
theorem add_any (H:zda m) (T:zez m o) (hw:zbl w m.Inputs=0):addO o (tr m w)=if 10000<(addL o.Traces (tr m w)).length then (o,11) else (⟨o.Inputs,addL o.Traces (tr m w)⟩,0):=by
 have hp:propI (tr m w) o.Inputs=0:=znq.2 (prop_tr H T.inp (by rw [T.inp];exact hw));have hc:¬ zrr o.Traces (tr m w):=fun ⟨u,hu,h⟩=>h (zwd (m:=m) (T.ex u hu) rfl);unfold addO;rw [if_neg (by simpa using hp),if_neg hc]
theorem tr_sm (hw:zbl w m.Inputs=0):SmX (tr m w):=by
 have:=zni hw;exact ⟨show SmW w by unfold SmW;omega,show SmW (outs m m.Start.toNat w) by unfold SmW;rw [zii];omega⟩
theorem zum (H:zda m) (T:zez m o) (hw:zbl w m.Inputs=0) (hl:(addL o.Traces (tr m w)).length≤10000):zez m ⟨o.Inputs,addL o.Traces (tr m w)⟩:=by
 have hadd:=add_any H T hw;rw [if_neg (by omega)] at hadd;have h1:=addO_ok (t:=Sym.tr m w) T.ok;have hnum:=T.ok.num;have h2:=addO_tr (t:=Sym.tr m w) T.tr (by omega) (tr_sm hw);rw [hadd] at h1 h2;exact ⟨h1,h2,expl_add T.ex,T.inp⟩
theorem zp5 (H:zda m):∀ (ws:List (List Int)) (o:zad),zez m o→(∀ w∈ws,zbl w m.Inputs=0)→(zdb m o ws).Traces.length≤10000→zez m (zdb m o ws)
 | [],_,T,_,_=>T
 | w::ws,o,T,hw,hl=>by
  have h1:=told_up (m:=m) ws ⟨o.Inputs,addL o.Traces (tr m w)⟩ (T.ok.trs.add _);have hl:(zdb m ⟨o.Inputs,addL o.Traces (tr m w)⟩ ws).Traces.length≤10000:=hl;exact zp5 H ws _ (zum H T (hw w (by simp)) (by simp only at h1;omega)) (fun x hx=>hw x (by simp [hx])) hl
theorem zsa (hv:zgu m=0) {ws:List (List Int)} (hw:∀ w∈ws,zbl w m.Inputs=0):zdo m ws=some (if 10000<ws.length then ([],11) else (ws.map (tr m),0)):=by
 have H:=zhp hv;have hst:=H.st;unfold zdo;rw [zih,zap,hv,zkA (by decide),zkC];by_cases g:10000<ws.length
 ·rw [zkB (by omega),zkD,if_pos g]
 ·rw [zkA (by omega),zkC,if_neg g]
  have key:=zcw (step:=fun (s:List zaa×Nat)=>zdo.s2 m ws s.1 s.2) (r:=.inl (ws.map (tr m))) (fun s=>s.2≤ws.length∧s.1=(ws.take s.2).map (tr m)) (fun s=>ws.length-s.2) (fun ⟨y,i⟩ ⟨g1,g2⟩=>by
   simp only at g1 g2
   subst g2
   simp only [zdo.s2]
   by_cases h:i<ws.length
   ·left
    have hx:=get_at h
    have hc:=hw _ (List.getElem_mem h)
    have hl:=zni hc
    have hs:m.Start=(↑m.Start.toNat:Int):=by omega
    refine ⟨((ws.take (i+1)).map (tr m),i+1),?_,⟨h,rfl⟩,by simp only;omega⟩
    have hr:=runner_eq H (s:=m.Start.toNat) (by omega) (w:=ws[i]) (zdv hc) (by omega)
    rw [← hs] at hr
    rw [zcb hx,zkD,zaq hx,zfe _ _ (by unfold SmW;omega),zap,hc,zkA (by decide),zkC,zfa (by unfold SmW;omega),zap,hr,zap,zar (by rw [zkK,List.length_take];unfold za7;omega),zbk hx,List.map_append]
    rfl
   ·right
    rw [zkA (by omega),zkC,List.take_of_length_le (by omega)]) (n:=fuel) (s:=([],0)) ⟨Nat.zero_le _,rfl⟩
  rw [key,zap];rfl
theorem znb (H:zda m) {ws:List (List Int)} (T:zez m o) (hw:∀ w∈ws,zbl w m.Inputs=0) (hl:ws.length≤2000000) :
  ((zdb m o ws).Traces.length≤10000→zdg o (ws.map (tr m))=some (zdb m o ws,0))∧(10000<(zdb m o ws).Traces.length→∃ q,zdg o (ws.map (tr m))=some (q,11)):=by
 have key:∀ (n i:Nat) (p:zad),zez m p→p.Inputs=o.Inputs→i≤ws.length→ws.length-i<n→∃ r,iter (fun (s:List zaa×Nat)=>zdg.s2 o (ws.map (tr m)) s.1 s.2) n (p.Traces,i)=some r∧((zdb m p (ws.drop i)).Traces.length≤10000→r=.inl (zdb m p (ws.drop i)).Traces)∧(10000<(zdb m p (ws.drop i)).Traces.length→∃ q,r=.inr (q,11)):=by
  intro n
  induction n with
  | zero=>intro i p _ _ _ h;omega
  | succ n ih =>
   intro i p P hp hi hn;unfold iter;simp only [zdg.s2];rcases Nat.lt_or_ge i ws.length with h | h
   ·have hx:(ws.map (tr m))[i]?=some (tr m ws[i]):=by rw [List.getElem?_map,get_at h];rfl
    have hc:=hw _ (List.getElem_mem h);have hsm:=tr_sm hc;have hprop:propI (tr m ws[i]) o.Inputs=0:=znq.2 (prop_tr H T.inp (by rw [T.inp];exact hc));have hclash:¬ zrr p.Traces (tr m ws[i]):=fun ⟨u,hu,h⟩=>h (zwd (m:=m) (P.ex u hu) rfl);rw [zcb hx,zkD,zaq hx,zq2 _ _ hsm.1 hsm.2,zap,hprop,zkA (by decide),zkC,zvp P.tr P.ok hsm (by rw [hp];exact znq.1 hprop),zap,if_neg hclash,List.drop_eq_getElem_cons h];unfold zdb;by_cases g:10000<(addL p.Traces (Sym.tr m ws[i])).length
    ·rw [if_pos g];simp only;rw [zkB (by decide),zkD];have h1:=told_up (m:=m) (ws.drop (i+1)) ⟨p.Inputs,addL p.Traces (Sym.tr m ws[i])⟩ (P.ok.trs.add _);simp only at h1;exact ⟨_,rfl,fun h2=>by omega,fun _=>⟨_,rfl⟩⟩
    ·rw [if_neg g];simp only;rw [zkA (by decide),zkC];exact ih (i+1) ⟨p.Inputs,addL p.Traces (Sym.tr m ws[i])⟩ (zum H P hc (by omega)) hp h (by omega)
   ·have e:i=ws.length:=by omega
    have hnum:=P.ok.num;rw [zkA (by rw [zkK];omega),zkC,e,List.drop_length];exact ⟨_,rfl,fun _=>rfl,fun h2=>by unfold zdb at h2;omega⟩
 obtain ⟨r,e,h1,h2⟩:=key fuel 0 o T rfl (Nat.zero_le _) (by have:=zdn;omega);unfold zdg;rw [zr9 T.tr,zap,e,zap];refine ⟨fun h=>?_,fun h=>?_⟩
 ·rw [h1 h];show some ((⟨o.Inputs,(zdb m o ws).Traces⟩:zad),(0:Int))=_;rw [← zjs (m:=m) ws o]
 ·obtain ⟨q,rfl⟩:=h2 h;exact ⟨q,rfl⟩
theorem none_told (hi:1≤m.Inputs∧m.Inputs≤64):zez m ⟨m.Inputs,[]⟩:=⟨obsOk_of hi (by simp) (fun t ht=>by simp at ht) List.Pairwise.nil List.Pairwise.nil,⟨by simp,fun t ht=>by cases ht⟩,fun t ht=>by simp at ht,rfl⟩
theorem zne (hv:zgu m=0) {ws:List (List Int)} (T:zez m o) (hw:∀ w∈ws,zbl w m.Inputs=0) (hl:ws.length≤2000000) (hm:10000<ws.length→10000<(zdb m o ws).Traces.length) :
  ((zdb m o ws).Traces.length≤10000→zci m o ws=some (zdb m o ws,0))∧(10000<(zdb m o ws).Traces.length→∃ q,zci m o ws=some (q,11)):=by
 have H:=zhp hv;have T0:=none_told (m:=m) ⟨H.i1,H.i2⟩;unfold zci zno;rw [zsa hv hw];by_cases g:10000<ws.length
 ·have h:=hm g;rw [if_pos g];exact ⟨fun h2=>by omega,fun _=>⟨_,rfl⟩⟩
 rw [if_neg g,zap];simp only;rw [zkA (by decide),zkC];obtain ⟨a1,a2⟩:=znb H T0 hw hl;have trsO:=zns (m:=m) ws o T.ok.trs;have trs0:=zns (m:=m) ws ⟨m.Inputs,[]⟩ T0.ok.trs;have exO:=zmu (m:=m) ws o T.ex;have ex0:=zmu (m:=m) ws ⟨m.Inputs,[]⟩ T0.ex
 -- what is told to both in either order
 have key:∀ W:List (List Int),(∀ v,(∃ w∈W,v <+: w)→∃ w∈ws,v <+: w)→(∀ w∈ws,w=[]∨∃ x∈W,w <+: x)→zdb m o W=zdb m o ws:=fun W h1 h2=>by
  refine trs_uniq (zns W o T.ok.trs) trsO (zmu W o T.ex) exO (by rw [zjs,zjs]) fun v=>?_;rw [zj4,zj4];constructor
  ·rintro (h | h)
   ·exact .inl h
   ·exact .inr (h1 v h)
  ·rintro (h | ⟨w,hw,h⟩)
   ·exact .inl h
   ·rcases h2 w hw with e | ⟨x,hx,hp⟩
    ·rw [e] at h;exact .inl (.inl (List.prefix_nil.1 h))
    ·exact .inr ⟨x,hx,h.trans hp⟩
 by_cases g0:10000<(zdb m ⟨m.Inputs,[]⟩ ws).Traces.length
 ·obtain ⟨q,e⟩:=a2 g0
  have hbig:10000<(zdb m o ws).Traces.length:=by
   have e1:zdb m ⟨m.Inputs,[]⟩ (ws++o.Traces.map fun t=>t.In)=zdb m o ws:=by
    refine trs_uniq (zns _ _ T0.ok.trs) trsO (zmu _ _ T0.ex) exO (by rw [zjs,zjs,T.inp]) fun v=>?_;rw [zj4,zj4];unfold Kn;simp only [List.not_mem_nil,false_and,exists_false,or_false,List.mem_append,List.mem_map];constructor
    ·rintro (h | ⟨w,hw | ⟨t,ht,rfl⟩,hp⟩)
     ·exact .inl (.inl h)
     ·exact .inr ⟨w,hw,hp⟩
     ·exact .inl (.inr ⟨t,ht,hp⟩)
    ·rintro ((h | ⟨t,ht,hp⟩) | ⟨w,hw,hp⟩)
     ·exact .inl h
     ·exact .inr ⟨t.In,.inr ⟨t,ht,rfl⟩,hp⟩
     ·exact .inr ⟨w,.inl hw,hp⟩
   rw [zuk] at e1;have:=told_up (m:=m) (o.Traces.map fun t=>t.In) _ trs0;rw [e1] at this;omega
  rw [e,zap];simp only;rw [zkB (by decide),zkD,zap];simp only;rw [zkB (by decide),zkD];exact ⟨fun h=>by omega,fun _=>⟨_,rfl⟩⟩
 ·rw [a1 (by omega),zap];simp only;rw [zkA (by decide),zkC,zap];simp only;rw [zkA (by decide),zkC];unfold zi2;rw [zkA (by rw [zjs,T.inp];exact fun h=>h rfl),zkC]
  -- its traces are words
  have eT:(zdb m ⟨m.Inputs,[]⟩ ws).Traces=((zdb m ⟨m.Inputs,[]⟩ ws).Traces.map fun t=>t.In).map (tr m):=by
   rw [List.map_map]
   have kk:∀ l:List zaa,(∀ t∈l,t.Out=outs m m.Start.toNat t.In)→l=l.map (tr m ∘ fun t=>t.In):=fun l=>by
    induction l with
    | nil=>intro _;rfl
    | cons t l ih =>
     intro h;rw [List.map_cons,← ih fun x hx=>h x (List.mem_cons_of_mem _ hx)];congr 1;show t=⟨t.In,outs m m.Start.toNat t.In⟩;rw [← h t List.mem_cons_self]
   exact kk _ ex0
  have hmem:∀ x∈(zdb m ⟨m.Inputs,[]⟩ ws).Traces.map (fun t=>t.In),x∈ws:=fun x hx=>by
   obtain ⟨t,ht,rfl⟩:=List.mem_map.1 hx;rcases zk3 ws _ ht with h | h
   ·cases h
   ·exact h
  have eW:=key ((zdb m ⟨m.Inputs,[]⟩ ws).Traces.map fun t=>t.In) (fun v ⟨w,hw',hp⟩=>⟨w,hmem w hw',hp⟩) (fun w hw'=>by
   rcases (zj4 (m:=m) (v:=w) ws ⟨m.Inputs,[]⟩).2 (.inr ⟨w,hw',List.prefix_refl _⟩) with h | ⟨t,ht,hp⟩
   ·exact .inl h
   ·exact .inr ⟨t.In,List.mem_map.2 ⟨t,ht,rfl⟩,hp⟩)
  obtain ⟨b1,b2⟩:=znb H T (ws:=(zdb m ⟨m.Inputs,[]⟩ ws).Traces.map fun t=>t.In) (fun w hw'=>hw w (hmem w hw')) (by rw [zkK];omega);rw [eW] at b1 b2;rw [eT];refine ⟨fun h=>?_,fun h=>?_⟩
  ·rw [b1 h];rfl
  ·obtain ⟨q,e⟩:=b2 h;exact ⟨q,by rw [e];rfl⟩
end
end
section
section
variable {m b M:zab}
end
end

section
section
variable {m b:zab}
end
end
section
section
variable {m:zab}
open Classical in
end
end
section
section
variable {m:zab}
end
end
section
structure Known (mp:List (ByteArray×Bool)) (out:List (List Int)):Prop where
 nd:out.Nodup
 le:out.length≤10000
 get:∀ w:List Int,(mget (⟨(keyL w).toArray⟩:ByteArray) mp).getD false=decide (w∈out)
section
variable {p q:List (List Int)}
end
end
section
section
variable {p q:List (List Int)}
end
end
def zjj (o:zad) (w:List Int) (S:List (List Int)):List (List Int):=(S.map fun e=>w++e).filter fun v=>(ansO o v).isNone
theorem missO_step {o:zad} {w e:List Int} {S:List (List Int)} {k:Nat} (h:S[k]?=some e):zjj o w (S.take (k+1))=zjj o w (S.take k)++(if (ansO o (w++e)).isNone=true then [w++e] else []):=by
 unfold zjj;rw [zbk h,List.map_append,List.filter_append];simp only [List.map_cons,List.map_nil,List.filter_cons,List.filter_nil]
theorem zm2 (o:zad) (w:List Int) (S:List (List Int)):(zjj o w S).length≤S.length:=by
 unfold zjj;have:=List.length_filter_le (fun v=>(ansO o v).isNone) (S.map fun e=>w++e);rw [zkK] at this;exact this
theorem zkp {o:zad} {w v:List Int} {S:List (List Int)}:v∈zjj o w S↔(∃ e∈S,v=w++e)∧ansO o v=none:=by
 unfold zjj;rw [List.mem_filter,List.mem_map,Option.isNone_iff_eq_none];constructor
 ·rintro ⟨⟨e,he,rfl⟩,h⟩;exact ⟨⟨e,he,rfl⟩,h⟩
 ·rintro ⟨⟨e,he,rfl⟩,h⟩;exact ⟨⟨e,he,rfl⟩,h⟩
theorem zs9 {o:zad} {F:List zaa} {w:List Int} (ho:SmO o) (hv:zeg o) (hF:zr3 o F):zek F w=some (ansO o w).isSome:=by
 unfold zek;rw [zl3 ho hv hF,zap];cases ansO o w<;>rfl
theorem zur {o:zad} {F:List zaa} {t:zac} {w:List Int} {y:List (List Int)} (ho:SmO o) (hv:zeg o) (hF:zr3 o F) (hS:SmL t.Suffixes) (hw:SmW w) (hy:y.length+t.Suffixes.length≤3000000):zch w t F y=some (y++zjj o w t.Suffixes):=by
 have hS1:t.Suffixes.length≤2000000:=hS.1;have hw1:w.length≤2000000:=hw;unfold zch
 have key:=zcw (step:=fun (s:List (List Int)×Nat)=>zch.s2 w t F s.1 s.2) (r:=y++zjj o w t.Suffixes) (fun s=>s.2≤t.Suffixes.length∧s.1=y++zjj o w (t.Suffixes.take s.2)) (fun s=>t.Suffixes.length-s.2) (fun s ⟨g1,g2⟩=>by
  obtain ⟨z,k⟩:=s
  simp only at g1 g2
  subst g2
  simp only [zch.s2]
  by_cases g4:k<t.Suffixes.length
  ·left
   have hx:=get_at g4
   have hx1:t.Suffixes[k].length≤2000000:=hS.2 _ (List.getElem_mem _)
   have hst:=missO_step (o:=o) (w:=w) hx
   have hml:=zm2 o w (t.Suffixes.take k)
   rw [List.length_take] at hml
   refine ⟨(y++zjj o w (t.Suffixes.take (k+1)),k+1),?_,⟨by simp only;omega,rfl⟩,by simp only;omega⟩
   rw [zcb hx,zkD,zaq hx,zg8 _ (by simp) (by simp;omega),zap,hst]
   simp only [List.flatten_cons,List.flatten_nil,List.append_nil]
   rw [zs9 ho hv hF,zap]
   cases ha:ansO o (w++t.Suffixes[k]) with
   | none =>
    simp only [Option.isSome_none,Bool.not_false,zkD,Option.isNone_none,if_true]
    rw [zar (by rw [zkJ];unfold za7;omega),List.append_assoc]
   | some r=>simp
  ·right
   have e:k=t.Suffixes.length:=by omega
   subst e
   rw [zkA (by omega),zkC,List.take_length]) (n:=fuel) (s:=(y,0)) ⟨Nat.zero_le _,by simp [zjj]⟩
 rw [key,zap]
theorem zhz {w:List Int} {a:Int} (hw:SmW w):zeq w a=some (w++[a]):=by
 have hw1:w.length≤2000000:=hw;unfold zeq;rw [zg8 _ (by simp) (by simp;omega),zap];simp
structure zjy (t:zac):Prop where
 sm:SmT t
 n:t.Inputs≤4
 p:t.Prefixes.length≤600
 s:t.Suffixes.length≤600
 pw:∀ x∈t.Prefixes,x.length≤400
 sw:∀ x∈t.Suffixes,x.length≤80
def zho (n:Nat) (p:List Int):List (List Int):=p::(List.range n).map fun (a:Nat)=>p++[(↑a:Int)]
def zdx (o:zad) (t:zac) (P:List (List Int)):List (List Int):=P.flatMap fun p=>(zho t.Inputs.toNat p).flatMap fun w=>zjj o w t.Suffixes
theorem zty {t:zac} {o:zad} (ht:zjy t) (ho:SmO o) (hv:zeg o):zb1 t o=some (if chkT t o≠0 then ([],chkT t o) else (maxR (zdx o t t.Prefixes),0)):=by
 obtain ⟨F,hF1,hF⟩:=zp2 ho hv;have hn:=ht.n;have hp:=ht.p;have hs:=ht.s;have hS:=ht.sm.2.2.1;unfold zb1;rw [zoi ht.sm,zap];by_cases h:chkT t o=0
 ·rw [zkA (by simpa using h),zkC,if_neg (by simpa using h),hF1,zap]
  have inner:∀ (p:List Int) (y:List (List Int)),SmW p→p.length≤1000000→y.length≤2500000→iter (fun (s:List (List Int)×Nat)=>zb1.s13 t F p s.1 s.2) fuel (y,0)=some (y++((List.range t.Inputs.toNat).map fun (a:Nat)=>p++[(↑a:Int)]).flatMap fun w=>zjj o w t.Suffixes) ∧
    (((List.range t.Inputs.toNat).map fun (a:Nat)=>p++[(↑a:Int)]).flatMap fun w=>zjj o w t.Suffixes).length≤2400:=by
   intro p y hpw hpl hy
   have hlen:∀ k,k≤t.Inputs.toNat→(((List.range k).map fun (a:Nat)=>p++[(↑a:Int)]).flatMap fun w=>zjj o w t.Suffixes).length≤600*k:=by
    intro k
    induction k with
    | zero=>intro _;simp
    | succ k ih =>
     intro hk;rw [List.range_succ,List.map_append,List.flatMap_append,zkJ];have:=ih (by omega);have:=zm2 o (p++[(↑k:Int)]) t.Suffixes;simp only [List.map_cons,List.map_nil,List.flatMap_cons,List.flatMap_nil,List.append_nil];omega
   refine ⟨zcw (fun s=>s.2≤t.Inputs.toNat∧s.1=y++((List.range s.2).map fun (a:Nat)=>p++[(↑a:Int)]).flatMap fun w=>zjj o w t.Suffixes) (fun s=>t.Inputs.toNat-s.2) (fun s ⟨g1,g2⟩=>?_) ⟨Nat.zero_le _,by simp⟩,by have:=hlen t.Inputs.toNat (Nat.le_refl _);omega⟩;obtain ⟨z,k⟩:=s;simp only at g1 g2;subst g2;simp only [zb1.s13];by_cases g4:k<t.Inputs.toNat
   ·left;have hl:=hlen k (by omega);refine ⟨(y++((List.range (k+1)).map fun (a:Nat)=>p++[(↑a:Int)]).flatMap fun w=>zjj o w t.Suffixes,k+1),?_,⟨g4,rfl⟩,by simp only;omega⟩;rw [zkB (by omega),zkD,zhz hpw,zap,zur ho hv hF hS (by show (p++[(↑k:Int)]).length≤2000000;simp;omega) (by rw [zkJ];omega),zap,zar (by unfold inR;omega)];rw [List.range_succ,List.map_append,List.flatMap_append];simp
   ·right;have e:k=t.Inputs.toNat:=by omega
    subst e;rw [zkA (by omega),zkC]
  have key:=zcw (step:=fun (s:List (List Int)×Nat)=>zb1.s14 t F s.1 s.2) (r:=zdx o t t.Prefixes) (fun s=>s.2≤t.Prefixes.length∧s.1.length≤3000*s.2∧s.1=zdx o t (t.Prefixes.take s.2)) (fun s=>t.Prefixes.length-s.2) (fun s ⟨g1,g0,g2⟩=>by
   obtain ⟨z,k⟩:=s
   simp only at g1 g0 g2
   subst g2
   simp only [zb1.s14]
   by_cases g4:k<t.Prefixes.length
   ·left
    have hx:=get_at g4
    have hxm:SmW t.Prefixes[k]:=ht.sm.2.1.2 _ (List.getElem_mem _)
    have hxl:=ht.pw _ (List.getElem_mem g4)
    have hml:=zm2 o t.Prefixes[k] t.Suffixes
    obtain ⟨i1,i2⟩:=inner t.Prefixes[k] (zdx o t (t.Prefixes.take k)++zjj o t.Prefixes[k] t.Suffixes) hxm (by omega) (by rw [zkJ];omega)
    have hst:zdx o t (t.Prefixes.take (k+1))=zdx o t (t.Prefixes.take k)++zjj o t.Prefixes[k] t.Suffixes++((List.range t.Inputs.toNat).map fun (a:Nat)=>t.Prefixes[k]++[(↑a:Int)]).flatMap fun w=>zjj o w t.Suffixes:=by
     unfold zdx zho
     rw [zbk hx,List.flatMap_append]
     simp [List.append_assoc]
    refine ⟨(zdx o t (t.Prefixes.take (k+1)),k+1),?_,⟨g4,?_,rfl⟩,by simp only;omega⟩
    ·rw [zcb hx,zkD,zaq hx,zur ho hv hF hS hxm (by omega),zap,i1,zap,hst]
    ·simp only
     rw [hst,zkJ,zkJ]
     omega
   ·right
    have e:k=t.Prefixes.length:=by omega
    subst e
    rw [zkA (by omega),zkC,List.take_length]) (n:=fuel) (s:=([],0)) ⟨Nat.zero_le _,by simp,by simp [zdx]⟩
  have hN:SmL (zdx o t t.Prefixes):=by
   refine ⟨?_,fun v hv'=>?_⟩
   ·have hb:∀ P:List (List Int),(zdx o t P).length≤3000*P.length:=by
     intro P
     induction P with
     | nil=>simp [zdx]
     | cons p P ih =>
      unfold zdx at ih ⊢;rw [List.flatMap_cons,zkJ,zkL]
      have hw:((zho t.Inputs.toNat p).flatMap fun w=>zjj o w t.Suffixes).length≤600*(zho t.Inputs.toNat p).length:=by
       generalize zho t.Inputs.toNat p=X
       induction X with
       | nil=>simp
       | cons w X ih2 =>
        have:=zm2 o w t.Suffixes;rw [List.flatMap_cons,zkJ,zkL];omega
      have hwl:(zho t.Inputs.toNat p).length=t.Inputs.toNat+1:=by simp [zho]
      rw [hwl] at hw;omega
    have:=hb t.Prefixes;omega
   ·unfold zdx at hv';obtain ⟨p,hpm,h2⟩:=List.mem_flatMap.1 hv';obtain ⟨w,hw,h3⟩:=List.mem_flatMap.1 h2;obtain ⟨⟨e,he,rfl⟩,_⟩:=zkp.1 h3;have h4:=ht.pw p hpm;have h5:=ht.sw e he
    have h6:w.length≤401:=by
     unfold zho at hw;rcases List.mem_cons.1 hw with rfl | hw
     ·omega
     ·obtain ⟨a,_,rfl⟩:=List.mem_map.1 hw;simp;omega
    unfold SmW;rw [zkJ];omega
  rw [key,zap,zpo hN,zap]
 ·rw [zkB h,zkD,if_pos h]
def extL (t:zac):List (List Int):=t.Prefixes.flatMap fun p=>(List.range t.Inputs.toNat).map fun (a:Nat)=>p++[(↑a:Int)]
theorem zig {o:zad} (hv:zeg o) {w:List Int}:∀ {S:List (List Int)} {l:List (List Int)},rowO o w S=some l→l.length=S.length∧∀ x∈l,∃ e∈S,x.length=e.length
 | [],l,h=>by
  injection h with h
  subst h;exact ⟨rfl,fun x hx=>by cases hx⟩
 | e::S,l,h=>by
  unfold rowO at h;cases ha:ansO o (w++e) with
  | none=>rw [ha] at h;cases h
  | some r =>
   rw [ha] at h;obtain ⟨l',h1,rfl⟩:=Option.map_eq_some_iff.1 h;obtain ⟨h2,h3⟩:=zig hv h1;have hrl:=zqa hv ha;rw [zkJ] at hrl;refine ⟨by simp [h2],fun x hx=>?_⟩;rcases List.mem_cons.1 hx with rfl | hx
   ·exact ⟨e,by simp,by rw [List.length_drop];omega⟩
   ·obtain ⟨e',he',hl'⟩:=h3 x hx;exact ⟨e',List.mem_cons_of_mem _ he',hl'⟩

section
section
variable {M:zab} {P:List (List Int)}
end
end
section
section
variable {front middle last:List (List Int)}
end
end
section
section
variable {m M:zab}
end
end
section
section
variable {m b M:zab}
end
end
section
section
variable {A:Type} [DecidableEq A] {e:A→Nat→A} {K:Nat} {s0:A}
theorem bfs_mono:∀ (r:Nat) {u v:Nat} {x y:A×List Int},u≤v→(bfsB e K s0 r)[u]?=some x→(bfsB e K s0 r)[v]?=some y→x.2.length≤y.2.length
 | 0,u,v,x,y,huv,hx,hy=>by
  have h1:=(zkI.1 hx).1;have h2:=(zkI.1 hy).1;have hl:(bfsB e K s0 0).length=1:=rfl;have e1:u=0:=by omega
  have e2:v=0:=by omega
  subst e1;subst e2;rw [hx] at hy;injection hy with hy
  rw [hy];exact Nat.le_refl _
 | r+1,u,v,x,y,huv,hx,hy=>by
  have ih:=fun {u v x y}=>bfs_mono r (u:=u) (v:=v) (x:=x) (y:=y);rw [bfsB] at hx hy;cases hp:(bfsB e K s0 r)[r / K]? with
  | none =>
   rw [hp] at hx hy;exact ih huv hx hy
  | some p =>
   rw [hp] at hx hy;simp only at hx hy;split at hx
   ·rename_i g;rw [if_pos g] at hy;exact ih huv hx hy
   ·rename_i g;rw [if_neg g] at hy;have hv:=(zkI.1 hy).1;rw [zkJ,List.length_singleton] at hv;rcases Nat.lt_or_ge v (bfsB e K s0 r).length with h | h
    ·rw [List.getElem?_append_left h] at hy;rw [List.getElem?_append_left (by omega)] at hx;exact ih huv hx hy
    ·have ev:v=(bfsB e K s0 r).length:=by omega
     subst ev;rw [List.getElem?_append_right (Nat.le_refl _),Nat.sub_self] at hy;injection hy with hy
     subst hy;simp only [zkJ,List.length_singleton];rcases Nat.lt_or_ge u (bfsB e K s0 r).length with h2 | h2
     ·rw [List.getElem?_append_left h2] at hx;rcases zpi hx with q | ⟨r',z,q1,q2,q3,q4⟩
      ·subst q;rw [zuu] at hx;injection hx with hx
       subst hx;simp
      ·have:=ih (Nat.div_le_div_right (c:=K) (Nat.le_of_lt q1)) q3 hp;rw [q4];simp only [zkJ,List.length_singleton];omega
     ·have eu:u=(bfsB e K s0 r).length:=by omega
      subst eu;rw [List.getElem?_append_right (Nat.le_refl _),Nat.sub_self] at hx;injection hx with hx
      subst hx;simp
theorem bfs_early {N j r:Nat} {y:A×List Int} (hK:0<K) (hy:(bfsB e K s0 N)[j]?=some y) (hr:j*K≤r) (hN:r≤N):(bfsB e K s0 r)[j]?=some y:=by
 have hpre:=ziv (e:=e) (K:=K) (s0:=s0) hN;rcases Nat.lt_or_ge j (bfsB e K s0 r).length with g | g
 ·have:=zf3 hpre (zkM g);rw [hy] at this;rw [zkM g,this]
 ·exfalso
  have stay:∀ d,bfsB e K s0 (r+d)=bfsB e K s0 r:=by
   intro d
   induction d with
   | zero=>rfl
   | succ d ih =>
    show bfsB e K s0 (r+d+1)=_;rw [bfsB,ih,List.getElem?_eq_none ?_];have h1:j≤(r+d) / K:=(Nat.le_div_iff_mul_le hK).2 (by omega);omega
  have h2:=stay (N-r);rw [show r+(N-r)=N by omega] at h2;rw [h2] at hy;have:=(zkI.1 hy).1;omega
theorem bfs_reach {f:A→List Int→A} (f0:∀ a,f a []=a) (f1:∀ a w (c:Nat),f a (w++[(↑c:Int)])=e (f a w) c) {i:Nat} {x:A×List Int} {N:Nat} (hx:(bfsB e K s0 N)[i]?=some x) (hN:i*K≤N) :
  ∀ (n:Nat) (w:List Int),w.length=n→(∀ z∈w,0≤z∧z<(↑K:Int))→n<x.2.length→∃ j y,j<i∧(bfsB e K s0 (i*K))[j]?=some y∧y.1=f s0 w∧y.2.length≤n:=by
 intro n
 induction n with
 | zero =>
  intro w hw _ hlt;have:w=[]:=List.eq_nil_of_length_eq_zero hw;subst this;refine ⟨0,(s0,[]),Nat.pos_of_ne_zero fun h=>?_,zuu _,(f0 s0).symm,Nat.le_refl _⟩;subst h;rw [zuu] at hx;injection hx with hx
  subst hx;exact absurd hlt (by simp)
 | succ n ih =>
  intro w hw hz hlt;rcases List.eq_nil_or_concat w with rfl | ⟨v,c,rfl⟩
  ·simp at hw
  rw [List.concat_eq_append] at hw hz ⊢;obtain ⟨c0,c1⟩:=hz c (List.mem_append_right _ (List.mem_singleton.2 rfl));obtain ⟨a,rfl⟩:=Int.eq_ofNat_of_zero_le c0;have hK:0<K:=by omega
  have ha:a<K:=by omega
  obtain ⟨j,y,j1,j2,j3,j4⟩:=ih v (by simpa using hw) (fun z h=>hz z (List.mem_append_left _ h)) (by omega);have hpos:j*K+a+1≤i*K:=by have:=zrj j1 ha;omega
  have hy:=bfs_early hK j2 (r:=j*K+a) (by omega) (by omega);have hin:=bfs_to (e:=e) (K:=K) (s0:=s0) (r:=j*K+a) (x:=y) (by rw [zog ha];exact hy);rw [zwe ha] at hin;obtain ⟨z,hz1,hz2⟩:=List.mem_map.1 hin;obtain ⟨l,hl,ez⟩:=List.mem_iff_getElem.1 hz1;have hlz:(bfsB e K s0 (j*K+a+1))[l]?=some z:=by rw [zkM hl,ez]
  have hzl:z.2.length≤n+1:=by
   rcases zpi hlz with q | ⟨r',u,q1,q2,q3,q4⟩
   ·subst q;rw [zuu] at hlz;injection hlz with hlz
    subst hlz;simp
   ·have hd:r' / K≤j:=by
     have:=Nat.div_le_div_right (c:=K) (show r'≤j*K+a by omega)
     rwa [zog ha] at this
    have hy':=zf3 (zso (e:=e) (K:=K) (s0:=s0) (j*K+a)) hy;have:=bfs_mono _ hd q3 hy';rw [q4];simp only [zkJ,List.length_singleton];omega
  have hlz2:=zf3 (ziv (e:=e) (K:=K) (s0:=s0) hpos) hlz;refine ⟨l,z,Nat.lt_of_not_le fun hle=>?_,hlz2,by rw [hz2,f1,j3],hzl⟩;have h3:=zf3 (ziv (e:=e) (K:=K) (s0:=s0) hN) hlz2;have:=bfs_mono _ hle hx h3;omega
end
section
variable {m:zab}
end
end
section
def uniM (a b:zab):zab:=⟨a.Inputs,a.Start,a.Next++b.Next.map (fun x=>x.map (fun u=>u+(↑a.Next.length:Int))),a.Out++b.Out⟩
section
variable {a b:zab}
theorem znh:(uniM a b).Next.length=a.Next.length+b.Next.length:=by unfold uniM;simp
theorem uni_ok (T:Two a b) (h:a.Next.length+b.Next.length≤128):zda (uniM a b):=by
 have h1:=T.a1.ol;have h2:=T.b1.ol;have hst:=T.a1.st;have hn:=T.a1.n1;refine ⟨T.a1.i1,T.a1.i2,by rw [znh];omega,by rw [znh];exact h,by rw [znh];show 0≤a.Start∧a.Start<_;omega,by rw [znh];unfold uniM;simp only [zkJ];omega,fun s hs=>?_⟩;rw [znh] at hs ⊢;rcases Nat.lt_or_ge s a.Next.length with g | g
 ·obtain ⟨x,y,k1,k2,k3,k4,k5,k6⟩:=T.a1.row s g;exact ⟨x,y,by show (a.Next++_)[s]?=_;rw [List.getElem?_append_left g,k1],by show (a.Out++_)[s]?=_;rw [List.getElem?_append_left (by omega),k2],k3,k4,fun u hu=>by have:=k5 u hu;omega,k6⟩
 ·obtain ⟨x,y,k1,k2,k3,k4,k5,k6⟩:=T.b1.row (s-a.Next.length) (by omega);refine ⟨x.map (fun u=>u+(↑a.Next.length:Int)),y,?_,?_,?_,?_,fun u hu=>?_,k6⟩
  ·show (a.Next++_)[s]?=_;rw [List.getElem?_append_right g,List.getElem?_map,k1];rfl
  ·show (a.Out++_)[s]?=_;rw [List.getElem?_append_right (by omega),h1,k2]
  ·rw [zkK,k3];exact T.inp.symm
  ·rw [k4];exact T.inp.symm
  ·obtain ⟨v,hv,rfl⟩:=List.mem_map.1 hu;have:=k5 v hv;omega
theorem uni_l {s c:Nat} (T:Two a b) (hs:s<a.Next.length):nx (uniM a b) s c=nx a s c∧ot (uniM a b) s c=ot a s c:=by
 have h1:=T.a1.ol;unfold nx ot uniM;simp only;rw [List.getElem?_append_left hs,List.getElem?_append_left (by omega)];exact ⟨rfl,rfl⟩
theorem uni_r {t c:Nat} (T:Two a b) (ht:t<b.Next.length) (hc:c<b.Inputs.toNat):nx (uniM a b) (a.Next.length+t) c=a.Next.length+nx b t c∧ot (uniM a b) (a.Next.length+t) c=ot b t c:=by
 have h1:=T.a1.ol;obtain ⟨_,_,_,x,y,k1,k2,k3,k4⟩:=T.b1.at ht hc
 have e1:(uniM a b).Next[a.Next.length+t]?=some (x.map fun u=>u+(↑a.Next.length:Int)):=by
  show (a.Next++_)[_]?=_;rw [List.getElem?_append_right (Nat.le_add_right _ _),Nat.add_sub_cancel_left,List.getElem?_map,k1];rfl
 have e2:(uniM a b).Out[a.Next.length+t]?=some y:=by
  show (a.Out++_)[_]?=_;rw [List.getElem?_append_right (by omega),h1,Nat.add_sub_cancel_left,k2]
 constructor
 ·have e3:nx (uniM a b) (a.Next.length+t) c=((↑(nx b t c):Int)+(↑a.Next.length:Int)).toNat:=by
   show ((((uniM a b).Next[a.Next.length+t]?).getD [])[c]?.getD 0).toNat=_;rw [e1,Option.getD_some,List.getElem?_map,k3];rfl
  omega
 ·show ((((uniM a b).Out[a.Next.length+t]?).getD [])[c]?).getD 0=_;rw [e2,Option.getD_some,k4];rfl
theorem zqt (T:Two a b):∀ (w:List Int) (s:Nat),s<a.Next.length→WOk a.Inputs w→outs (uniM a b) s w=outs a s w
 | [],_,_,_=>rfl
 | x::w,s,hs,hw=>by
  obtain ⟨e1,e2⟩:=uni_l (c:=x.toNat) T hs;have hx:=hw.head;have:=(T.a1.at hs (a:=x.toNat) (by omega)).1;show ot (uniM a b) s x.toNat::outs (uniM a b) (nx (uniM a b) s x.toNat) w=ot a s x.toNat::outs a (nx a s x.toNat) w;rw [e1,e2,zqt T w _ this hw.tail]
theorem zra (T:Two a b):∀ (w:List Int) (t:Nat),t<b.Next.length→WOk a.Inputs w→outs (uniM a b) (a.Next.length+t) w=outs b t w
 | [],_,_,_=>rfl
 | x::w,t,ht,hw=>by
  have hx:=hw.head;have hi:=T.inp;obtain ⟨e1,e2⟩:=uni_r (c:=x.toNat) T ht (by omega);have:=(T.b1.at ht (a:=x.toNat) (by omega)).1;show ot (uniM a b) _ x.toNat::outs (uniM a b) (nx (uniM a b) _ x.toNat) w=ot b t x.toNat::outs b (nx b t x.toNat) w;rw [e1,e2,zra T w _ this hw.tail]
theorem two_short (T:Two a b) (h:a.Next.length+b.Next.length≤128) {s t:Nat} (hs:s<a.Next.length) (ht:t<b.Next.length) {w:List Int} (hw:WOk a.Inputs w) (hne:outs a s w≠outs b t w):∃ v,v.length≤a.Next.length+b.Next.length∧WOk a.Inputs v∧outs a s v≠outs b t v:=by
 refine Classical.byContradiction fun g=>hne ?_;have U:=uni_ok T h
 have hE:E (uniM a b) (uniM a b).Next.length s (a.Next.length+t):=zpj fun v hl hv=>by
  rw [znh] at hl;have hv:WOk a.Inputs v:=hv;rw [zqt T v s hs hv,zra T v t ht hv];exact Classical.byContradiction fun h=>g ⟨v,hl,hv,h⟩
 have:=E_outs (w:=w) (E_all U (by rw [znh];omega) (by rw [znh];omega) hE w.length) hw
 rwa [zqt T w s hs hw,zra T w t ht hw] at this
theorem ztb:∀ {v:List Int} {s t:Nat},WOk a.Inputs v→outs a s v≠outs b t v→∃ (u:List Int) (c:Nat) (z:List Int),v=u++(↑c:Int)::z∧c<a.Inputs.toNat∧ot a (dest a s u) c≠ot b (dest b t u) c
 | [],s,t,_,h=>absurd rfl h
 | x::v,s,t,hw,h=>by
  have hx:=hw.head;obtain ⟨c,rfl⟩:=Int.eq_ofNat_of_zero_le hx.1;by_cases g:ot a s c=ot b t c
  ·obtain ⟨u,d,z,h1,h2,h3⟩:=ztb (v:=v) (s:=nx a s c) (t:=nx b t c) hw.tail fun hv=>h (by
    show ot a s (Int.toNat (↑c:Int))::outs a (nx a s (Int.toNat (↑c:Int))) v=ot b t (Int.toNat (↑c:Int))::outs b (nx b t (Int.toNat (↑c:Int))) v
    rw [Int.toNat_natCast,g,hv])
   exact ⟨(↑c:Int)::u,d,z,by rw [h1];rfl,h2,h3⟩
  ·exact ⟨[],c,v,rfl,by omega,g⟩
theorem fst_short {s t:Nat} {w:List Int} (hF:Fst a b (s,t) (w,true)) {v:List Int} (v2:WOk a.Inputs v) (v3:outs a s v≠outs b t v):w.length≤v.length:=by
 rcases hF with ⟨i,c,x,h1,h2,h3,h4,h5⟩ | ⟨L,_,_,h5⟩
 ·injection h5 with h5 _
  rw [h5,zkJ,List.length_singleton];obtain ⟨u,d,z,rfl,u2,u3⟩:=ztb v2 v3;simp only [zkJ,zkL];refine Nat.le_of_not_lt fun hlt=>?_
  have hu:∀ q∈u,0≤q∧q<(↑a.Inputs.toNat:Int):=fun q hq=>by
   have:=v2 q (List.mem_append_left _ hq);omega
  have fd:∀ (m:zab) (st:Nat) (w:List Int) (c:Nat),dest m st (w++[(↑c:Int)])=nx m (dest m st w) c:=fun m st w c=>by
   rw [zea];show nx m (dest m st w) (Int.toNat (↑c:Int))=_;rw [Int.toNat_natCast]
  obtain ⟨j,y,j1,j2,j3,j4⟩:=bfs_reach (e:=pE a b) (K:=a.Inputs.toNat) (s0:=(s,t)) (f:=fun p w=>(dest a p.1 w,dest b p.2 w)) (fun a=>rfl) (fun p w c=>by
   simp only [fd]
   rfl) (N:=i*a.Inputs.toNat+c) h2 (by omega) u.length u rfl hu (by omega)
  have hK:0<a.Inputs.toNat:=by omega
  have hpos:=zrj j1 u2;have hy:=bfs_early hK j2 (r:=j*a.Inputs.toNat+d) (by omega) (by omega);have:=h4 (j*a.Inputs.toNat+d) (by omega);rw [difB_at u2 hy,j3,zkB u3] at this;cases this
 ·injection h5 with _ h5
  cases h5
end
end
section
section
variable {α:Type} [DecidableEq α]
def pos (r:α):List α→Nat
 | []=>0
 | x::l=>if x=r then 0 else pos r l+1
theorem zls {r:α}:∀ {l:List α},r∈l→l[pos r l]?=some r
 | x::l,h=>by
  unfold pos;by_cases e:x=r
  ·simp [e]
  ·rw [if_neg e];rcases List.mem_cons.1 h with h | h
   ·exact absurd h.symm e
   ·simpa using zls h
theorem pos_lt {r:α} {l:List α} (h:r∈l):pos r l<l.length:=(zkI.1 (zls h)).1
theorem zrf {r:α}:∀ {l m:List α},r∈l→pos r (l++m)=pos r l
 | x::l,m,h=>by
  rw [List.cons_append];unfold pos;by_cases e:x=r
  ·simp [e]
  ·rw [if_neg e,if_neg e];rcases List.mem_cons.1 h with h | h
   ·exact absurd h.symm e
   ·rw [zrf h]
theorem pos_new {r:α}:∀ {l:List α},r∉l→pos r (l++[r])=l.length
 | [],_=>by simp [pos]
 | x::l,h=>by
  rw [List.cons_append];unfold pos;have h1:¬ x=r:=fun e=>h (by simp [e]);have h2:r∉l:=fun e=>h (by simp [e]);rw [if_neg h1,pos_new h2];rfl
theorem pos_inj {r s:α} {l:List α} (hr:r∈l) (hs:s∈l) (h:pos r l=pos s l):r=s:=by
 have h1:=zls hr;rw [h,zls hs] at h1;injection h1 with h1
 exact h1.symm
def addR (R:List α) (r:α):List α:=if r∈R then R else R++[r]
theorem zsu {R:List α} {r x:α}:x∈addR R r↔x∈R∨x=r:=by
 unfold addR;split
 ·constructor
  ·exact Or.inl
  ·rintro (h | rfl)
   ·exact h
   ·assumption
 ·simp
theorem pos_addR {R:List α} {r x:α} (h:x∈R):pos x (addR R r)=pos x R:=by
 unfold addR;split
 ·rfl
 ·exact zrf h
theorem addR_len (R:List α) (r:α):(addR R r).length≤R.length+1:=by
 unfold addR;split
 ·omega
 ·simp
end
def zoy:List (List Int)→List UInt8
 | []=>[]
 | o::r=>keyL o++47::zoy r
theorem rkeyL_append (a b:List (List Int)):zoy (a++b)=zoy a++zoy b:=by
 induction a with
 | nil=>rfl
 | cons o a ih=>simp [zoy,ih]
theorem ztl:∀ (w:List Int),∀ c∈keyL w,c≠47
 | [],c,h=>by cases h
 | a::w,c,h=>by
  simp only [keyL] at h;rcases List.mem_append.1 h with h | h
  ·intro e;subst e;unfold zmd at h;split at h
   ·rcases List.mem_cons.1 h with h | h
    ·cases h
    ·have:=zm6 _ _ h
     revert this
     decide
   ·have:=zm6 _ _ h
    revert this
    decide
  ·rcases List.mem_cons.1 h with h | h
   ·subst h;decide
   ·exact ztl w c h
theorem rkeyL_inj:∀ {a b:List (List Int)},zoy a=zoy b→a=b
 | [],[],_=>rfl
 | [],o::b,h=>by
  simp only [zoy] at h;have:=congrArg List.length h;simp at this
 | o::a,[],h=>by
  simp only [zoy] at h;have:=congrArg List.length h;simp at this
 | o::a,u::b,h=>by
  simp only [zoy] at h;obtain ⟨h1,h2⟩:=split_at (ztl o) (ztl u) h;rw [keyL_inj h1,rkeyL_inj h2]
def rkey (r:List (List Int)):ByteArray:=⟨(zoy r).toArray⟩
theorem rkey_inj {a b:List (List Int)} (h:rkey a=rkey b):a=b:=rkeyL_inj (by
 unfold rkey at h
 injection h with h
 injection h)
def RowSm (r:List (List Int)):Prop:=r.length≤1000∧∀ x∈r,x.length≤1000∧∀ a∈x,inR a
theorem rkeyL_len {r:List (List Int)} (h:∀ x∈r,x.length≤1000∧∀ a∈x,inR a):(zoy r).length≤15001*r.length:=by
 induction r with
 | nil=>simp [zoy]
 | cons o r ih =>
  have h1:=h o (by simp);have h2:=zsn (xs:=o) h1.2;have h3:=ih fun x hx=>h x (by simp [hx]);simp only [zoy,zkJ,zkL];omega
theorem bytes_append (a b:List UInt8):((⟨a.toArray⟩:ByteArray)++⟨b.toArray⟩)=⟨(a++b).toArray⟩:=by
 apply ByteArray.ext;simp
theorem zqp (a:List UInt8):(⟨a.toArray⟩:ByteArray).size=a.length:=by simp [ByteArray.size]
theorem row_key_eq {r:List (List Int)} (h:RowSm r):iter (fun (s:ByteArray×Nat)=>zbr.s2 r s.1 s.2) fuel ((⟨#[]⟩:ByteArray),0)=some (rkey r):=by
 obtain ⟨hl,hr⟩:=h;refine zcw (fun s=>s.2≤r.length∧s.1=rkey (r.take s.2)) (fun s=>r.length-s.2) (fun s ⟨g1,g2⟩=>?_) ⟨Nat.zero_le _,rfl⟩;obtain ⟨z,k⟩:=s;simp only at g1 g2;subst g2;simp only [zbr.s2];by_cases g4:k<r.length
 ·left;have hx:=get_at g4;have hxr:=hr _ (List.getElem_mem g4);have hkl:=zsn (xs:=r[k]) hxr.2;have hrl:=rkeyL_len (r:=r.take k) fun x hx=>hr x (List.mem_of_mem_take hx);rw [List.length_take] at hrl;have e1:((⟨(keyL r[k]).toArray⟩:ByteArray)++⟨#[47]⟩)=⟨(keyL r[k]++[47]).toArray⟩:=bytes_append (keyL r[k]) [47];refine ⟨(rkey (r.take (k+1)),k+1),?_,⟨by simp only;omega,rfl⟩,by simp only;omega⟩;rw [zcb hx,zkD,zaq hx,zna (by unfold SmW;omega) hxr.2,zap,e1];have e2:(⟨#[47]⟩:ByteArray).size=1:=rfl
  rw [zar (by rw [zqp,e2];omega),zar (by
   unfold rkey
   rw [zqp,zqp,zkJ,List.length_singleton]
   omega)]
  unfold rkey;rw [bytes_append,zbk hx,rkeyL_append];simp [zoy]
 ·right;have e:k=r.length:=by omega
  subst e;rw [zkA (by omega),zkC,List.take_length]
def NumOk (R:List (List (List Int))) (m:List (ByteArray×Int)):Prop:=∀ r,mget (rkey r) m=if r∈R then some (↑(pos r R):Int) else none
theorem zun {v:zau} {r:List (List Int)} (h:RowSm r) (hn:NumOk v.rows v.number) (hl:v.rows.length≤100000) :
  ∃ m,zbr v r=some ((↑(pos r (addR v.rows r)):Int),⟨addR v.rows r,v.prefixes,v.next,m⟩)∧NumOk (addR v.rows r) m:=by
 unfold zbr;rw [row_key_eq h,zap];have hr:=hn r;by_cases hm:r∈v.rows
 ·rw [if_pos hm] at hr;refine ⟨v.number,?_,?_⟩
  ·rw [hr];simp only [Option.isSome_some,Bool.not_true,zkC,Option.getD_some];unfold addR;rw [if_pos hm];rfl
  ·unfold addR;rw [if_pos hm];exact hn
 ·rw [if_neg hm] at hr;refine ⟨mset (rkey r) (↑v.rows.length:Int) v.number,?_,fun x=>?_⟩
  ·rw [hr];simp only [Option.isSome_none,Bool.not_false,zkD];rw [zar (by unfold za7;omega),zap];unfold addR;rw [if_neg hm,pos_new hm];rfl
  ·unfold addR;rw [if_neg hm];by_cases hx:x=r
   ·subst hx;rw [zkh ba_beq,if_pos (by simp),pos_new hm]
   ·rw [zm9 ba_beq (fun e=>hx (rkey_inj e)),hn x];by_cases hxm:x∈v.rows
    ·rw [if_pos hxm,if_pos (by simp [hxm]),zrf hxm]
    ·rw [if_neg hxm,if_neg (by simp [hxm,hx])]
end
def zgo (o:zad) (S:List (List Int)):List (List Int)→Option (List (List (List Int)))
 | []=>some []
 | w::ws=>match rowO o w S with
  | none=>none
  | some r=>(zgo o S ws).map fun l=>r::l
theorem zg0 {o:zad} {S:List (List Int)}:∀ {ws:List (List Int)} {rs:List (List (List Int))},zgo o S ws=some rs→rs.length=ws.length∧∀ (i:Nat) w,ws[i]?=some w→∃ r,rs[i]?=some r∧rowO o w S=some r
 | [],rs,h=>by
  injection h with h
  subst h;exact ⟨rfl,fun i w hw=>by simp at hw⟩
 | w::ws,rs,h=>by
  unfold zgo at h;cases hr:rowO o w S with
  | none=>rw [hr] at h;cases h
  | some r =>
   rw [hr] at h;obtain ⟨rs',h1,rfl⟩:=Option.map_eq_some_iff.1 h;obtain ⟨h2,h3⟩:=zg0 h1;refine ⟨by simp [h2],fun i u hu=>?_⟩;cases i with
   | zero =>
    simp at hu;subst hu;exact ⟨r,rfl,hr⟩
   | succ i=>simpa using h3 i u (by simpa using hu)
theorem zwr {o:zad} {S:List (List Int)} {ws:List (List Int)} {w:List Int} (hw:w∈ws) (h:rowO o w S=none):zgo o S ws=none:=by
 cases hr:zgo o S ws with
 | none=>rfl
 | some rs =>
  obtain ⟨i,hi,rfl⟩:=List.mem_iff_getElem.1 hw;obtain ⟨r,_,h2⟩:=(zg0 hr).2 i _ (get_at hi);rw [h] at h2;cases h2
theorem zqx {o:zad} {S:List (List Int)} {w:List Int} {r:List (List Int)} (h:rowO o w S=some r):∀ {ws:List (List Int)} {rs:List (List (List Int))},zgo o S ws=some rs→zgo o S (ws++[w])=some (rs++[r])
 | [],rs,h1=>by
  injection h1 with h1
  subst h1;simp [zgo,h]
 | u::ws,rs,h1=>by
  rw [List.cons_append];unfold zgo at h1 ⊢;cases hr:rowO o u S with
  | none=>rw [hr] at h1;cases h1
  | some r' =>
   rw [hr] at h1;obtain ⟨rs',h2,rfl⟩:=Option.map_eq_some_iff.1 h1;simp only [zqx h h2];rfl
theorem ansO_rng {o:zad} (hv:zeg o) {w r:List Int} (h:ansO o w=some r):∀ a∈r,inR a:=by
 unfold ansO at h;split at h
 ·injection h with h
  subst h;intro a ha;cases ha
 ·obtain ⟨t,ht,rfl⟩:=Option.map_eq_some_iff.1 h;intro a ha;have hm:=List.mem_of_find?_eq_some ht;have:=(hv.prop t hm).1.2.2 a (List.mem_of_mem_take ha);unfold inR;omega
theorem rowO_rng {o:zad} (hv:zeg o) {w:List Int}:∀ {S:List (List Int)} {l:List (List Int)},rowO o w S=some l→∀ x∈l,∀ a∈x,inR a
 | [],l,h=>by
  injection h with h
  subst h;intro x hx;cases hx
 | e::S,l,h=>by
  unfold rowO at h;cases ha:ansO o (w++e) with
  | none=>rw [ha] at h;cases h
  | some r =>
   rw [ha] at h;obtain ⟨l',h1,rfl⟩:=Option.map_eq_some_iff.1 h;intro x hx a hax;rcases List.mem_cons.1 hx with rfl | hx
   ·exact ansO_rng hv ha a (List.mem_of_mem_drop hax)
   ·exact rowO_rng hv h1 x hx a hax
theorem zs0 {o:zad} {t:zac} (hv:zeg o) (ht:zjy t) {w:List Int} {r:List (List Int)} (h:rowO o w t.Suffixes=some r):RowSm r:=by
 obtain ⟨h1,h2⟩:=zig hv h;refine ⟨by have:=ht.s;omega,fun x hx=>⟨?_,rowO_rng hv h x hx⟩⟩;obtain ⟨e,he,hl⟩:=h2 x hx;have:=ht.sw e he;omega
abbrev v0:zau:=⟨[],[],[],[]⟩
abbrev Row:Type:=List (List Int)
def za4 (R:List Row) (rs:List Row):List Row:=rs.foldl addR R
theorem zjg (R:List Row) (rs:List Row) (r:Row):za4 R (rs++[r])=addR (za4 R rs) r:=by simp [za4]
theorem zlp (R:List Row) (a b:List Row):za4 R (a++b)=za4 (za4 R a) b:=by simp [za4]
theorem zdi {R:List Row} {x:Row}:∀ {rs:List Row},x∈za4 R rs↔x∈R∨x∈rs:=by
 intro rs
 induction rs generalizing R with
 | nil=>simp [za4]
 | cons r rs ih =>
  show x∈za4 (addR R r) rs↔_;rw [ih,zsu,List.mem_cons];constructor
  ·rintro ((h | h) | h)
   ·exact Or.inl h
   ·exact Or.inr (Or.inl h)
   ·exact Or.inr (Or.inr h)
  ·rintro (h | h | h)
   ·exact Or.inl (Or.inl h)
   ·exact Or.inl (Or.inr h)
   ·exact Or.inr h
theorem zny {R:List Row} {x:Row} (h:x∈R):∀ rs:List Row,pos x (za4 R rs)=pos x R:=by
 intro rs
 induction rs generalizing R with
 | nil=>rfl
 | cons r rs ih =>
  show pos x (za4 (addR R r) rs)=_;rw [ih (zsu.2 (Or.inl h)),pos_addR h]
theorem zjc (R:List Row) (rs:List Row):(za4 R rs).length≤R.length+rs.length:=by
 induction rs generalizing R with
 | nil=>simp [za4]
 | cons r rs ih =>
  have h1:=ih (R:=addR R r);have h2:=addR_len R r;show (za4 (addR R r) rs).length≤_;rw [zkL];omega
def nums (R:List Row) (rs:List Row):List Int:=rs.map fun r=>(↑(pos r R):Int)
theorem zss {R:List Row} {rs:List Row} (h:∀ x∈rs,x∈R) (X:List Row):nums (za4 R X) rs=nums R rs:=by
 unfold nums;refine List.map_congr_left fun x hx=>?_;rw [zny (h x hx)]
theorem look_first {o:zad} {t:zac} {F:List zaa} (ht:zjy t) (ho:SmO o) (hv:zeg o) (hF:zr3 o F) :
  ∃ res,iter (fun (s:List (List (List Int))×List Int×(List (ByteArray×Int))×Nat)=>za2.s2 t F s.1 s.2.1 s.2.2.1 s.2.2.2) fuel ([],[],([]:List (ByteArray×Int)),0)=some res ∧
   match zgo o t.Suffixes t.Prefixes with
   | none=>res=.inr (v0,12)
   | some rs=>∃ m,res=.inl (za4 [] rs,nums (za4 [] rs) rs,m)∧NumOk (za4 [] rs) m:=by
 have hp:=ht.p;have hS:=ht.sm.2.2.1
 refine zd9 (step:=fun (s:List (List (List Int))×List Int×(List (ByteArray×Int))×Nat)=>za2.s2 t F s.1 s.2.1 s.2.2.1 s.2.2.2)
  (fun s=>s.2.2.2≤t.Prefixes.length∧∃ rs,zgo o t.Suffixes (t.Prefixes.take s.2.2.2)=some rs∧s.1=za4 [] rs∧s.2.1=nums (za4 [] rs) rs∧NumOk (za4 [] rs) s.2.2.1) (fun s=>t.Prefixes.length-s.2.2.2) _ (fun s ⟨g1,rs,g2,g3,g4,g5⟩=>?_) fuel _ ⟨Nat.zero_le _,[],rfl,rfl,rfl,fun r=>by simp [za4,mget]⟩ (by have:=zdn;simp only;omega)
 obtain ⟨R,N,m,k⟩:=s;simp only at g1 g2 g3 g4 g5;subst g3 g4
 have hrl:rs.length=k:=by
  have:=(zg0 g2).1;rw [List.length_take] at this;omega
 have hRl:=zjc [] rs;simp only [List.length_nil] at hRl;simp only [za2.s2];by_cases h:k<t.Prefixes.length
 ·have hx:=get_at h;have hxs:SmW t.Prefixes[k]:=ht.sm.2.1.2 _ (List.getElem_mem _);rw [zcb hx,zkD,zaq hx,zpd ho hv hF hS hxs,zap];cases hr:rowO o t.Prefixes[k] t.Suffixes with
  | none =>
   right;refine ⟨.inr (v0,12),rfl,?_⟩;rw [zwr (List.getElem_mem h) hr]
  | some r =>
   left;have hsm:=zs0 hv ht hr;obtain ⟨m',e,hm'⟩:=zun (v:=⟨za4 [] rs,nums (za4 [] rs) rs,[],m⟩) hsm g5 (by simp only;omega);simp only at e hm';refine ⟨(za4 [] (rs++[r]),nums (za4 [] (rs++[r])) (rs++[r]),m',k+1),?_,⟨h,rs++[r],?_,rfl,rfl,?_⟩,by simp only;omega⟩
   ·simp only [tw,Bool.not_true,zkC];rw [e,zap,zar (by unfold nums za7;rw [zkK];omega),zjg]
    have h1:nums (addR (za4 [] rs) r) (rs++[r])=nums (za4 [] rs) rs++[(↑(pos r (addR (za4 [] rs) r)):Int)]:=by
     have h2:=zss (R:=za4 [] rs) (rs:=rs) (fun x hx=>zdi.2 (Or.inr hx)) [r];have h3:za4 (za4 [] rs) [r]=addR (za4 [] rs) r:=rfl;rw [h3] at h2;rw [← h2];simp [nums]
    rw [h1]
   ·simp only;rw [zbk hx];exact zqx hr g2
   ·simp only;rw [zjg];exact hm'
 ·right;have e:k=t.Prefixes.length:=by omega
  subst e;rw [List.take_length] at g2;refine ⟨.inl (za4 [] rs,nums (za4 [] rs) rs,m),by rw [zkA (by omega),zkC],?_⟩;rw [g2];exact ⟨m,rfl,g5⟩
def exts (n:Nat) (p:List Int):List (List Int):=(List.range n).map fun (a:Nat)=>p++[(↑a:Int)]
theorem look_inner {o:zad} {t:zac} {F:List zaa} (ht:zjy t) (ho:SmO o) (hv:zeg o) (hF:zr3 o F) (P:List Int) (Q:List (List Int)) {p:List Int} (hp:SmW p) (hp1:p.length≤1000000) {R:List Row} {m:List (ByteArray×Int)} (hm:NumOk R m) (hR:R.length≤10000) :
  ∃ res,iter (fun (s:List (List (List Int))×(List (ByteArray×Int))×List Int×Nat)=>za2.s20 t F P Q p s.1 s.2.1 s.2.2.1 s.2.2.2) fuel (R,m,[],0)=some res ∧
   match zgo o t.Suffixes (exts t.Inputs.toNat p) with
   | none=>res=.inr (.inr (.inr (v0,12)))
   | some rs=>∃ m',res=.inl (za4 R rs,m',nums (za4 R rs) rs)∧NumOk (za4 R rs) m':=by
 have hn:=ht.n;have hS:=ht.sm.2.2.1
 refine zd9 (step:=fun (s:List (List (List Int))×(List (ByteArray×Int))×List Int×Nat)=>za2.s20 t F P Q p s.1 s.2.1 s.2.2.1 s.2.2.2)
  (fun s=>s.2.2.2≤t.Inputs.toNat∧∃ rs,zgo o t.Suffixes (exts s.2.2.2 p)=some rs∧s.1=za4 R rs∧s.2.2.1=nums (za4 R rs) rs∧NumOk (za4 R rs) s.2.1) (fun s=>t.Inputs.toNat-s.2.2.2) _ (fun s ⟨g1,rs,g2,g3,g4,g5⟩=>?_) fuel _ ⟨Nat.zero_le _,[],rfl,rfl,rfl,hm⟩ (by have:=zdn;simp only;omega)
 obtain ⟨R',m1,N,k⟩:=s;simp only at g1 g2 g3 g4 g5;subst g3 g4
 have hrl:rs.length=k:=by
  have:=(zg0 g2).1;unfold exts at this;simpa using this
 have hRl:=zjc R rs;simp only [za2.s20];by_cases h:k<t.Inputs.toNat
 ·have hxs:SmW (p++[(↑k:Int)]):=by
   show (p++[(↑k:Int)]).length≤2000000;simp;omega
  have hst:exts (k+1) p=exts k p++[p++[(↑k:Int)]]:=by simp [exts,List.range_succ]
  rw [zkB (by omega),zkD,zhz hp,zap,zpd ho hv hF hS hxs,zap];cases hr:rowO o (p++[(↑k:Int)]) t.Suffixes with
  | none =>
   right;refine ⟨.inr (.inr (.inr (v0,12))),rfl,?_⟩;rw [zwr (ws:=exts t.Inputs.toNat p) (w:=p++[(↑k:Int)]) (List.mem_map.2 ⟨k,List.mem_range.2 h,rfl⟩) hr]
  | some r =>
   left;have hsm:=zs0 hv ht hr;obtain ⟨m',e,hm'⟩:=zun (v:=⟨za4 R rs,P,Q,m1⟩) hsm g5 (by simp only;omega);simp only at e hm';refine ⟨(za4 R (rs++[r]),m',nums (za4 R (rs++[r])) (rs++[r]),k+1),?_,⟨h,rs++[r],?_,rfl,rfl,?_⟩,by simp only;omega⟩
   ·simp only [tw,Bool.not_true,zkC];rw [e,zap,zar (by unfold nums za7;rw [zkK];omega),zar (by unfold inR;omega),zjg]
    have h1:nums (addR (za4 R rs) r) (rs++[r])=nums (za4 R rs) rs++[(↑(pos r (addR (za4 R rs) r)):Int)]:=by
     have h2:=zss (R:=za4 R rs) (rs:=rs) (fun x hx=>zdi.2 (Or.inr hx)) [r];have h3:za4 (za4 R rs) [r]=addR (za4 R rs) r:=rfl;rw [h3] at h2;rw [← h2];simp [nums]
    rw [h1]
   ·simp only;rw [hst];exact zqx hr g2
   ·simp only;rw [zjg];exact hm'
 ·right;have e:k=t.Inputs.toNat:=by omega
  subst e;refine ⟨.inl (za4 R rs,m1,nums (za4 R rs) rs),by rw [zkA (by omega),zkC],?_⟩;rw [g2];exact ⟨m1,rfl,g5⟩
def zf0 (o:zad) (S:List (List Int)) (n:Nat):List (List Int)→Option (List (List Row))
 | []=>some []
 | p::ps=>match zgo o S (exts n p) with
  | none=>none
  | some rs=>(zf0 o S n ps).map fun l=>rs::l
theorem zjn {o:zad} {S:List (List Int)} {n:Nat}:∀ {ps:List (List Int)} {rss:List (List Row)},zf0 o S n ps=some rss→rss.length=ps.length∧∀ (i:Nat) p,ps[i]?=some p→∃ rs,rss[i]?=some rs∧zgo o S (exts n p)=some rs
 | [],rss,h=>by
  injection h with h
  subst h;exact ⟨rfl,fun i w hw=>by simp at hw⟩
 | p::ps,rss,h=>by
  unfold zf0 at h;cases hr:zgo o S (exts n p) with
  | none=>rw [hr] at h;cases h
  | some r =>
   rw [hr] at h;obtain ⟨rs',h1,rfl⟩:=Option.map_eq_some_iff.1 h;obtain ⟨h2,h3⟩:=zjn h1;refine ⟨by simp [h2],fun i u hu=>?_⟩;cases i with
   | zero =>
    simp at hu;subst hu;exact ⟨r,rfl,hr⟩
   | succ i=>simpa using h3 i u (by simpa using hu)
theorem extRows_none {o:zad} {S:List (List Int)} {n:Nat} {ps:List (List Int)} {p:List Int} (hw:p∈ps) (h:zgo o S (exts n p)=none):zf0 o S n ps=none:=by
 cases hr:zf0 o S n ps with
 | none=>rfl
 | some rs =>
  obtain ⟨i,hi,rfl⟩:=List.mem_iff_getElem.1 hw;obtain ⟨r,_,h2⟩:=(zjn hr).2 i _ (get_at hi);rw [h] at h2;cases h2
theorem zru {o:zad} {S:List (List Int)} {n:Nat} {p:List Int} {r:List Row} (h:zgo o S (exts n p)=some r):∀ {ps:List (List Int)} {rs:List (List Row)},zf0 o S n ps=some rs→zf0 o S n (ps++[p])=some (rs++[r])
 | [],rs,h1=>by
  injection h1 with h1
  subst h1;simp [zf0,h]
 | u::ps,rs,h1=>by
  rw [List.cons_append];unfold zf0 at h1 ⊢;cases hr:zgo o S (exts n u) with
  | none=>rw [hr] at h1;cases h1
  | some r' =>
   rw [hr] at h1;obtain ⟨rs',h2,rfl⟩:=Option.map_eq_some_iff.1 h1;simp only [zru h h2];rfl
theorem look_second {o:zad} {t:zac} {F:List zaa} (ht:zjy t) (ho:SmO o) (hv:zeg o) (hF:zr3 o F) (P:List Int) {R:List Row} {m:List (ByteArray×Int)} (hm:NumOk R m) (hR:R.length≤1000) :
  ∃ res,iter (fun (s:List (List (List Int))×List (List Int)×(List (ByteArray×Int))×Nat)=>za2.s22 t F P s.1 s.2.1 s.2.2.1 s.2.2.2) fuel (R,[],m,0)=some res ∧
   match zf0 o t.Suffixes t.Inputs.toNat t.Prefixes with
   | none=>res=.inr (v0,12)
   | some rss=>∃ m',res=.inl (za4 R rss.flatten,rss.map (nums (za4 R rss.flatten)),m'):=by
 have hn:=ht.n;have hp:=ht.p
 refine zd9 (step:=fun (s:List (List (List Int))×List (List Int)×(List (ByteArray×Int))×Nat)=>za2.s22 t F P s.1 s.2.1 s.2.2.1 s.2.2.2)
  (fun s=>s.2.2.2≤t.Prefixes.length∧∃ rss,zf0 o t.Suffixes t.Inputs.toNat (t.Prefixes.take s.2.2.2)=some rss∧rss.flatten.length≤4*s.2.2.2∧s.1=za4 R rss.flatten∧s.2.1=rss.map (nums (za4 R rss.flatten))∧NumOk (za4 R rss.flatten) s.2.2.1) (fun s=>t.Prefixes.length-s.2.2.2) _ (fun s ⟨g1,rss,g2,g6,g3,g4,g5⟩=>?_) fuel _ ⟨Nat.zero_le _,[],rfl,by simp,rfl,rfl,hm⟩ (by have:=zdn;simp only;omega)
 obtain ⟨R',N,m1,k⟩:=s;simp only at g1 g2 g3 g4 g5 g6;subst g3 g4
 have hrl:rss.length=k:=by
  have:=(zjn g2).1;rw [List.length_take] at this;omega
 have hRl:=zjc R rss.flatten;simp only [za2.s22];by_cases h:k<t.Prefixes.length
 ·have hx:=get_at h;have hxs:SmW t.Prefixes[k]:=ht.sm.2.1.2 _ (List.getElem_mem _);have hxl:=ht.pw _ (List.getElem_mem h);obtain ⟨res,e,hres⟩:=look_inner ht ho hv hF P (rss.map (nums (za4 R rss.flatten))) hxs (by omega) g5 (by omega);rw [zcb hx,zkD,zaq hx,e,zap];cases hr:zgo o t.Suffixes (exts t.Inputs.toNat t.Prefixes[k]) with
  | none =>
   rw [hr] at hres;right;refine ⟨.inr (v0,12),by rw [hres];rfl,?_⟩;rw [extRows_none (List.getElem_mem h) hr]
  | some rs =>
   rw [hr] at hres;obtain ⟨m',h1,h2⟩:=hres;left
   have hsl:rs.length=t.Inputs.toNat:=by
    have:=(zg0 hr).1;unfold exts at this;simpa using this
   have hfl:(rss++[rs]).flatten=rss.flatten++rs:=by simp
   refine ⟨(za4 R (rss++[rs]).flatten,(rss++[rs]).map (nums (za4 R (rss++[rs]).flatten)),m',k+1),?_,⟨h,rss++[rs],?_,?_,rfl,rfl,?_⟩,by simp only;omega⟩
   ·rw [h1];simp only [Sum.elim_inl,za2.k21];rw [zar (by rw [zkK];unfold za7;omega),hfl,zlp]
    have h3:rss.map (nums (za4 (za4 R rss.flatten) rs))=rss.map (nums (za4 R rss.flatten)):=by
     refine List.map_congr_left fun x hx=>?_;exact zss (fun y hy=>zdi.2 (Or.inr (List.mem_flatten.2 ⟨x,hx,hy⟩))) rs
    rw [List.map_append,h3];rfl
   ·simp only;rw [zbk hx];exact zru hr g2
   ·simp only;rw [hfl,zkJ];omega
   ·simp only;rw [hfl,zlp];exact h2
 ·right;have e:k=t.Prefixes.length:=by omega
  subst e;rw [List.take_length] at g2;refine ⟨.inl (za4 R rss.flatten,rss.map (nums (za4 R rss.flatten)),m1),by rw [zkA (by omega),zkC],?_⟩;rw [g2];exact ⟨m1,rfl⟩
def LookSpec (t:zac) (o:zad) (v:zau) (e:Int):Prop :=
 (chkT t o≠0∧e=chkT t o) ∨
 (chkT t o=0∧e=12∧(zgo o t.Suffixes t.Prefixes=none∨zf0 o t.Suffixes t.Inputs.toNat t.Prefixes=none)) ∨
 (chkT t o=0∧e=0∧∃ rs rss,zgo o t.Suffixes t.Prefixes=some rs∧zf0 o t.Suffixes t.Inputs.toNat t.Prefixes=some rss ∧
  v.rows=za4 (za4 [] rs) rss.flatten∧v.prefixes=nums v.rows rs∧v.next=rss.map (nums v.rows))
theorem zlw {t:zac} {o:zad} (ht:zjy t) (ho:SmO o) (hv:zeg o):∃ v e,za2 t o=some (v,e)∧LookSpec t o v e:=by
 obtain ⟨F,hF1,hF⟩:=zp2 ho hv;have hp:=ht.p;unfold za2;rw [zoi ht.sm,zap];by_cases h:chkT t o=0
 ·rw [zkA (by simpa using h),zkC,hF1,zap];obtain ⟨res,e,hres⟩:=look_first ht ho hv hF;rw [e,zap];cases hr:zgo o t.Suffixes t.Prefixes with
  | none =>
   rw [hr] at hres;subst hres;exact ⟨v0,12,rfl,.inr (.inl ⟨h,rfl,.inl hr⟩)⟩
  | some rs =>
   rw [hr] at hres;obtain ⟨m,h1,h2⟩:=hres;subst h1;have hrl:=(zg0 hr).1;have hRl:=zjc [] rs;simp only [List.length_nil] at hRl;simp only [Sum.elim_inl,za2.k24];obtain ⟨res2,e2,hres2⟩:=look_second ht ho hv hF (nums (za4 [] rs) rs) h2 (by omega);rw [e2,zap];cases hr2:zf0 o t.Suffixes t.Inputs.toNat t.Prefixes with
   | none =>
    rw [hr2] at hres2;subst hres2;exact ⟨v0,12,rfl,.inr (.inl ⟨h,rfl,.inr hr2⟩)⟩
   | some rss =>
    rw [hr2] at hres2;obtain ⟨m',h3⟩:=hres2;subst h3;refine ⟨_,0,rfl,.inr (.inr ⟨h,rfl,rs,rss,hr,hr2,rfl,?_,rfl⟩)⟩;exact (zss (fun x hx=>zdi.2 (Or.inr hx)) rss.flatten).symm
 ·rw [zkB h,zkD];exact ⟨_,_,rfl,.inl ⟨h,rfl⟩⟩
theorem rowO_some {o:zad} {w:List Int}:∀ {S:List (List Int)},(∀ e∈S,ansO o (w++e)≠none)→∃ r,rowO o w S=some r
 | [],_=>⟨[],rfl⟩
 | e::S,h=>by
  obtain ⟨l,hl⟩:=rowO_some (S:=S) fun e he=>h e (List.mem_cons_of_mem _ he);unfold rowO;cases ha:ansO o (w++e) with
  | none=>exact absurd ha (h e (by simp))
  | some r =>
   rw [hl];exact ⟨_,rfl⟩
theorem zsm {o:zad} {w:List Int}:∀ {S:List (List Int)} {r:Row},rowO o w S=some r→∀ e∈S,ansO o (w++e)≠none
 | [],_,_,e,he=>by cases he
 | u::S,r,h,e,he=>by
  unfold rowO at h;cases ha:ansO o (w++u) with
  | none=>rw [ha] at h;cases h
  | some x =>
   rw [ha] at h;obtain ⟨l,h1,_⟩:=Option.map_eq_some_iff.1 h;rcases List.mem_cons.1 he with rfl | he
   ·rw [ha];simp
   ·exact zsm h1 e he
def zlk (t:zac) (o:zad):Prop:=∀ p∈t.Prefixes,∀ w∈zho t.Inputs.toNat p,∃ r,rowO o w t.Suffixes=some r
theorem need_nil {t:zac} {o:zad}:zdx o t t.Prefixes=[]↔zlk t o:=by
 constructor
 ·intro h p hp w hw;refine rowO_some fun e he hn=>?_;have:w++e∈zdx o t t.Prefixes:=List.mem_flatMap.2 ⟨p,hp,List.mem_flatMap.2 ⟨w,hw,zkp.2 ⟨⟨e,he,rfl⟩,hn⟩⟩⟩;rw [h] at this;cases this
 ·intro h;refine List.eq_nil_iff_forall_not_mem.2 fun v hv=>?_;obtain ⟨p,hp,h2⟩:=List.mem_flatMap.1 hv;obtain ⟨w,hw,h3⟩:=List.mem_flatMap.1 h2;obtain ⟨⟨e,he,rfl⟩,hn⟩:=zkp.1 h3;obtain ⟨r,hr⟩:=h p hp w hw;exact zsm hr e he hn
theorem zrm:∀ {l:List (List Int)},l≠[]→∃ y∈l,∀ z∈l,z.length≤y.length
 | [x],_=>⟨x,by simp,fun z hz=>by rw [List.mem_singleton.1 hz];exact Nat.le_refl _⟩
 | x::u::l,_=>by
  obtain ⟨y,hy,h⟩:=zrm (l:=u::l) (by simp);by_cases h1:y.length≤x.length
  ·refine ⟨x,by simp,fun z hz=>?_⟩;rcases List.mem_cons.1 hz with rfl | hz
   ·exact Nat.le_refl _
   ·exact Nat.le_trans (h z hz) h1
  ·refine ⟨y,List.mem_cons_of_mem _ hy,fun z hz=>?_⟩;rcases List.mem_cons.1 hz with rfl | hz
   ·omega
   ·exact h z hz
theorem maxR_nil {l:List (List Int)}:maxR l=[]↔l=[]:=by
 constructor
 ·intro h;refine Classical.byContradiction fun hne=>?_;obtain ⟨y,hy,hmax⟩:=zrm hne
  have:y∈maxR l:=(zkb l y).2 ⟨hy,fun z hz=>by
   by_cases hp:y <+: z
   ·left
    have h1:=hmax z hz
    have h2:=hp.length_le
    exact (hp.eq_of_length (by omega)).symm
   ·exact Or.inr hp⟩
  rw [h] at this;cases this
 ·rintro rfl;rfl
def zjz (t:zac) (o:zad):Int:=if chkT t o≠0 then chkT t o else if zdx o t t.Prefixes=[] then 0 else 12
structure zwi (t:zac) (o:zad) (v:zau):Prop where
 pl:v.prefixes.length=t.Prefixes.length
 nl:v.next.length=t.Prefixes.length
 pre:∀ (i:Nat) p,t.Prefixes[i]?=some p→∃ r,rowO o p t.Suffixes=some r∧r∈v.rows∧v.prefixes[i]?=some (↑(pos r v.rows):Int)
 nxt:∀ (i:Nat) p,t.Prefixes[i]?=some p→∃ l,v.next[i]?=some l∧l.length=t.Inputs.toNat∧∀ a,a<t.Inputs.toNat→∃ r,rowO o (p++[(↑a:Int)]) t.Suffixes=some r∧r∈v.rows∧l[a]?=some (↑(pos r v.rows):Int)
theorem zua {t:zac} {o:zad} {v:zau} {e:Int} (h:LookSpec t o v e):e=zjz t o∧(e=0→zwi t o v∧zlk t o∧chkT t o=0):=by
 unfold zjz;rcases h with ⟨h1,rfl⟩ | ⟨h1,rfl,h2⟩ | ⟨h1,rfl,rs,rss,h2,h3,h4,h5,h6⟩
 ·exact ⟨by rw [if_pos h1],fun h=>absurd h h1⟩
 ·have hn:zdx o t t.Prefixes≠[]:=fun hn=>by
   have hA:=need_nil.1 hn;rcases h2 with h2 | h2
   ·have:∀ (ps:List (List Int)),(∀ p∈ps,∃ r,rowO o p t.Suffixes=some r)→zgo o t.Suffixes ps≠none:=by
     intro ps
     induction ps with
     | nil=>intro _ h;cases h
     | cons p ps ih =>
      intro hp h;obtain ⟨r,hr⟩:=hp p (by simp);unfold zgo at h;rw [hr] at h;exact ih (fun q hq=>hp q (List.mem_cons_of_mem _ hq)) (by simpa using h)
    exact this _ (fun p hp=>hA p hp p (by simp [zho])) h2
   ·have hone:∀ p∈t.Prefixes,zgo o t.Suffixes (exts t.Inputs.toNat p)≠none:=fun p hp=>by
     have:∀ (ps:List (List Int)),(∀ p∈ps,∃ r,rowO o p t.Suffixes=some r)→zgo o t.Suffixes ps≠none:=by
      intro ps
      induction ps with
      | nil=>intro _ h;cases h
      | cons p ps ih =>
       intro hp h;obtain ⟨r,hr⟩:=hp p (by simp);unfold zgo at h;rw [hr] at h;exact ih (fun q hq=>hp q (List.mem_cons_of_mem _ hq)) (by simpa using h)
     exact this _ fun w hw=>hA p hp w (List.mem_cons_of_mem _ hw)
    have:∀ (ps:List (List Int)),(∀ p∈ps,zgo o t.Suffixes (exts t.Inputs.toNat p)≠none)→zf0 o t.Suffixes t.Inputs.toNat ps≠none:=by
     intro ps
     induction ps with
     | nil=>intro _ h;cases h
     | cons p ps ih =>
      intro hp h;unfold zf0 at h;cases hr:zgo o t.Suffixes (exts t.Inputs.toNat p) with
      | none=>exact hp p (by simp) hr
      | some r =>
       rw [hr] at h;exact ih (fun q hq=>hp q (List.mem_cons_of_mem _ hq)) (by simpa using h)
    exact this _ hone h2
  exact ⟨by rw [if_neg (by simpa using h1),if_neg hn],fun h=>by cases h⟩
 ·have hP:=zg0 h2;have hE:=zjn h3;have hmem1:∀ r∈rs,r∈v.rows:=fun r hr=>by rw [h4];exact zdi.2 (Or.inl (zdi.2 (Or.inr hr)))
  have hmem2:∀ l∈rss,∀ r∈l,r∈v.rows:=fun l hl r hr=>by rw [h4];exact zdi.2 (Or.inr (List.mem_flatten.2 ⟨l,hl,hr⟩))
  have hV:zwi t o v:=by
   refine ⟨by rw [h5];unfold nums;rw [zkK,hP.1],by rw [h6,zkK,hE.1],fun i p hp=>?_,fun i p hp=>?_⟩
   ·obtain ⟨r,hr1,hr2⟩:=hP.2 i p hp;refine ⟨r,hr2,hmem1 r (zkH hr1),?_⟩;rw [h5];unfold nums;rw [List.getElem?_map,hr1];rfl
   ·obtain ⟨l,hl1,hl2⟩:=hE.2 i p hp;have hL:=zg0 hl2;refine ⟨nums v.rows l,by rw [h6,List.getElem?_map,hl1];rfl,by unfold nums;rw [zkK,hL.1];simp [exts],fun a ha=>?_⟩
    have hx:(exts t.Inputs.toNat p)[a]?=some (p++[(↑a:Int)]):=by
     unfold exts;rw [List.getElem?_map,List.getElem?_range ha];rfl
    obtain ⟨r,hr1,hr2⟩:=hL.2 a _ hx;refine ⟨r,hr2,hmem2 l (zkH hl1) r (zkH hr1),?_⟩;unfold nums;rw [List.getElem?_map,hr1];rfl
  have hA:zlk t o:=fun p hp w hw=>by
   obtain ⟨i,hi,rfl⟩:=List.mem_iff_getElem.1 hp;unfold zho at hw;rcases List.mem_cons.1 hw with rfl | hw
   ·obtain ⟨r,hr,_⟩:=hV.pre i _ (get_at hi);exact ⟨r,hr⟩
   ·obtain ⟨a,ha,rfl⟩:=List.mem_map.1 hw;obtain ⟨l,_,_,h7⟩:=hV.nxt i _ (get_at hi);obtain ⟨r,hr,_⟩:=h7 a (List.mem_range.1 ha);exact ⟨r,hr⟩
  exact ⟨by rw [if_neg (by simpa using h1),if_pos (need_nil.2 hA)],fun _=>⟨hV,hA,h1⟩⟩
theorem zed {t:zac} (h:zdf t=0):1≤t.Inputs∧t.Inputs≤64∧Asc t.Prefixes∧Asc t.Suffixes∧(∀ a∈List.range t.Inputs.toNat,[(↑a:Int)]∈t.Suffixes)∧scan (preG t fun w=>decide (w∈t.Prefixes)) 0 t.Prefixes=none∧scan (sufG t) 0 t.Suffixes=none∧t.Prefixes≠[]:=by
 unfold zdf at h;split at h
 ·cases h
 ·rename_i h1;split at h
  ·cases h
  ·rename_i h2;split at h
   ·cases h
   ·cases e1:scan (preG t fun w=>decide (w∈t.Prefixes)) 0 t.Prefixes with
    | some e =>
     exfalso;rw [e1] at h;simp only at h;subst h
     have key:∀ (l:List (List Int)) (j:Nat),scan (preG t fun w=>decide (w∈t.Prefixes)) j l≠some 0:=by
      intro l
      induction l with
      | nil=>intro j h;cases h
      | cons x l ih =>
       intro j h;unfold scan at h;split at h
       ·rename_i r' h3;injection h with h
        subst h;unfold preG at h3;split at h3
        ·rename_i h4;injection h3 with h3
         exact h4 h3
        ·split at h3
         ·cases h3
         ·split at h3
          ·cases h3
          ·cases h3
       ·exact ih _ h
     exact key _ _ e1
    | none =>
     rw [e1] at h;cases e2:scan (sufG t) 0 t.Suffixes with
     | some e =>
      exfalso;rw [e2] at h;simp only at h;subst h
      have key:∀ (l:List (List Int)) (j:Nat),scan (sufG t) j l≠some 0:=by
       intro l
       induction l with
       | nil=>intro j h;cases h
       | cons x l ih =>
        intro j h;unfold scan at h;split at h
        ·rename_i r' h3;injection h with h
         subst h;unfold sufG at h3;split at h3
         ·rename_i h4;injection h3 with h3
          exact h4 h3
         ·split at h3
          ·cases h3
          ·split at h3
           ·cases h3
           ·cases h3
        ·exact ih _ h
      exact key _ _ e2
     | none =>
      rw [e2] at h;simp only at h;split at h
      ·rename_i h5;refine ⟨by omega,by omega,ztt fun i w hw=>?_,(ztu e2).1,h5,rfl,rfl,fun e=>h2 (by rw [e];rfl)⟩;have:=zcd.1 e1 i w hw;rw [Nat.zero_add] at this;unfold preG at this;split at this
       ·cases this
       ·split at this
        ·cases this
        ·rename_i h6;cases hpv:zhg t.Prefixes i w with
         | true=>rfl
         | false=>exact absurd (Or.inr hpv) h6
      ·cases h
theorem ze8 {l:List (List Int)} (h:Asc l):sortW l=l:=zor (zel l) h fun x=>zb6 l x
def newRow (t:zac) (o:zad) (w:List Int):Bool:=decide (rowO o w t.Suffixes∉t.Prefixes.map fun p=>rowO o p t.Suffixes)
def unclT (t:zac) (o:zad):List Int×Bool×Int:=if zjz t o≠0 then ([],false,zjz t o) else match (extL t).find? (newRow t o) with | none=>([],false,0) | some w=>(w,true,0)
theorem contains_eq {l:List Int} {x:Int} (hl:l.length≤2000000):zcy l x=some (decide (x∈l)):=by
 unfold zcy zbt
 have key:=zf5 (step:=fun s=>zbt.s2 l x s) (fun k=>k≤l.length∧x∉l.take k) (fun k=>l.length-k) (fun r=>match r with | .inl ()=>x∉l | .inr n=>0≤n∧x∈l) (fun k ⟨g1,g2⟩=>by
  simp only [zbt.s2]
  by_cases g3:k<l.length
  ·have hx:=get_at g3
   rw [zcb hx,zkD,zaq hx]
   by_cases e:x=l[k]
   ·right
    exact ⟨.inr (k:Int),by rw [zkB e,zkD],by omega,by rw [e];exact List.getElem_mem _⟩
   ·left
    refine ⟨k+1,by rw [zkA e,zkC],⟨g3,?_⟩,by omega⟩
    rw [zbk hx]
    exact fun h=>(List.mem_append.1 h).elim g2 fun h=>e (List.mem_singleton.1 h)
  ·right
   rw [List.take_of_length_le (by omega)] at g2
   exact ⟨.inl (),by rw [zkA (by omega),zkC],g2⟩) 0 ⟨Nat.zero_le _,by simp⟩
 obtain ⟨r,e,hq⟩:=key;rw [e,zap];cases r with
 | inl u =>
  have hq:x∉l:=hq;simp only [Sum.elim_inl];rw [zap,zkA hq];rfl
 | inr n =>
  have hq:0≤n∧x∈l:=hq;simp only [Sum.elim_inr];rw [zap,zkB hq.1,zkB hq.2]
theorem view_has {t:zac} {o:zad} {v:zau} (hV:zwi t o v) {r:Row} {w:List Int} (hr:rowO o w t.Suffixes=some r) (hm:r∈v.rows):((↑(pos r v.rows):Int)∈v.prefixes)↔newRow t o w=false:=by
 unfold newRow;rw [decide_eq_false_iff_not,Classical.not_not,hr,List.mem_map];constructor
 ·intro h;obtain ⟨i,hi,e⟩:=List.mem_iff_getElem.1 h;have hp:=get_at (l:=t.Prefixes) (i:=i) (by rw [← hV.pl];exact hi);obtain ⟨r',h1,h2,h3⟩:=hV.pre i _ hp;rw [get_at hi,e] at h3;injection h3 with h3
  have h4:=pos_inj hm h2 (by omega);exact ⟨_,List.getElem_mem _,by rw [h1,h4]⟩
 ·rintro ⟨p,hp,h⟩;obtain ⟨i,hi,rfl⟩:=List.mem_iff_getElem.1 hp;obtain ⟨r',h1,h2,h3⟩:=hV.pre i _ (get_at hi);rw [h1] at h;injection h with h
  subst h;exact zkH h3
theorem zl0 {t:zac} {o:zad} {v:zau} (ht:zjy t) (hV:zwi t o v):∃ i a b,za6 v=some (i,a,b) ∧
  match (extL t).find? (newRow t o) with
  | none=>b=false
  | some w=>b=true∧∃ (k:Nat) (p:List Int),i=(k:Int)∧t.Prefixes[k]?=some p∧w=p++[a]:=by
 have hn:=ht.n;have hp:=ht.p;unfold za6
 have key:=zd9 (step:=fun s=>za6.s14 v s) (fun k=>k≤t.Prefixes.length∧((t.Prefixes.take k).flatMap (exts t.Inputs.toNat)).find? (newRow t o)=none) (fun k=>t.Prefixes.length-k)
  (fun r=>match r with | .inl ()=>(extL t).find? (newRow t o)=none | .inr x=>x.2.2=true∧∃ w,(extL t).find? (newRow t o)=some w∧∃ (k:Nat) (p:List Int),x.1=(k:Int)∧t.Prefixes[k]?=some p∧w=p++[x.2.1]) (fun k ⟨g1,g2⟩=>by
   simp only [za6.s14]
   rw [hV.nl]
   by_cases g3:k<t.Prefixes.length
   ·have hx:=get_at g3
    obtain ⟨l,hl1,hl2,hl3⟩:=hV.nxt k _ hx
    rw [zkB (by omega),zkD,zaq hl1]
    have hsplit:extL t=(t.Prefixes.take k).flatMap (exts t.Inputs.toNat)++(exts t.Inputs.toNat t.Prefixes[k]++(t.Prefixes.drop (k+1)).flatMap (exts t.Inputs.toNat)):=by
     have h1:t.Prefixes=t.Prefixes.take k++t.Prefixes[k]::t.Prefixes.drop (k+1):=by
      rw [← List.drop_eq_getElem_cons g3,List.take_append_drop]
     have h2:extL t=t.Prefixes.flatMap (exts t.Inputs.toNat):=rfl
     rw [h2]
     conv=>lhs;rw [h1]
     rw [List.flatMap_append,List.flatMap_cons]
    have inner:=zd9 (step:=fun s=>za6.s13 v k l s) (fun a=>a≤t.Inputs.toNat∧(exts a t.Prefixes[k]).find? (newRow t o)=none) (fun a=>t.Inputs.toNat-a)
     (fun r=>match r with | .inl ()=>(exts t.Inputs.toNat t.Prefixes[k]).find? (newRow t o)=none | .inr x=>∃ a:Nat,x=.inr (.inr ((k:Int),(a:Int),true))∧(exts t.Inputs.toNat t.Prefixes[k]).find? (newRow t o)=some (t.Prefixes[k]++[(↑a:Int)])) (fun a ⟨q1,q2⟩=>by
      simp only [za6.s13]
      rw [hl2]
      by_cases q3:a<t.Inputs.toNat
      ·obtain ⟨r,hr1,hr2,hr3⟩:=hl3 a q3
       have hst:exts (a+1) t.Prefixes[k]=exts a t.Prefixes[k]++[t.Prefixes[k]++[(↑a:Int)]]:=by simp [exts,List.range_succ]
       have hiff:=view_has hV hr1 hr2
       rw [zkB (by omega),zkD,zaq hr3,contains_eq (by rw [hV.pl];omega),zap]
       cases hnw:newRow t o (t.Prefixes[k]++[(↑a:Int)]) with
       | true =>
        right
        have hno:¬ (↑(pos r v.rows):Int)∈v.prefixes:=fun h=>by
         have:=hiff.1 h
         rw [hnw] at this
         cases this
        refine ⟨.inr (.inr (.inr ((k:Int),(a:Int),true))),by rw [zkA hno];rfl,a,rfl,?_⟩
        have hfull:exts t.Inputs.toNat t.Prefixes[k]=exts a t.Prefixes[k]++((t.Prefixes[k]++[(↑a:Int)])::((List.range' (a+1) (t.Inputs.toNat-(a+1))).map fun (b:Nat)=>t.Prefixes[k]++[(↑b:Int)])):=by
         have h1:List.range t.Inputs.toNat=List.range a++a::List.range' (a+1) (t.Inputs.toNat-(a+1)):=by
          rw [List.range_eq_range',List.range_eq_range',← List.range'_succ,show t.Inputs.toNat-(a+1)+1=t.Inputs.toNat-a by omega]
          have:=List.range'_append_1 (s:=0) (m:=a) (n:=t.Inputs.toNat-a)
          rw [Nat.zero_add,show a+(t.Inputs.toNat-a)=t.Inputs.toNat by omega] at this
          exact this.symm
         unfold exts
         rw [h1,List.map_append,List.map_cons]
        rw [hfull,List.find?_append,q2,List.find?_cons_of_pos (by rw [hnw])]
        rfl
       | false =>
        left
        refine ⟨a+1,by rw [zkB (hiff.2 hnw)];rfl,⟨q3,?_⟩,by omega⟩
        rw [hst,List.find?_append,q2,List.find?_cons_of_neg (by rw [hnw];simp)]
        rfl
      ·right
       have e:a=t.Inputs.toNat:=by omega
       subst e
       exact ⟨.inl (),by rw [zkA (by omega),zkC],q2⟩) fuel 0 ⟨Nat.zero_le _,rfl⟩ (by have:=zdn;omega)
    obtain ⟨r,e,hq⟩:=inner
    rw [e,zap]
    cases r with
    | inl u =>
     have hq:(exts t.Inputs.toNat t.Prefixes[k]).find? (newRow t o)=none:=hq
     left
     refine ⟨k+1,rfl,⟨g3,?_⟩,by omega⟩
     rw [zbk hx,List.flatMap_append,List.find?_append,g2]
     simp [hq]
    | inr x =>
     right
     obtain ⟨a,rfl,h2⟩:=hq
     refine ⟨.inr ((k:Int),(a:Int),true),rfl,rfl,t.Prefixes[k]++[(↑a:Int)],?_,k,_,rfl,hx,rfl⟩
     rw [hsplit,List.find?_append,g2,List.find?_append,h2]
     rfl
   ·right
    have e:k=t.Prefixes.length:=by omega
    subst e
    rw [List.take_length] at g2
    exact ⟨.inl (),by rw [zkA (by omega),zkC],g2⟩) fuel 0 ⟨Nat.zero_le _,rfl⟩ (by have:=zdn;omega)
 obtain ⟨r,e,hq⟩:=key;rw [e,zap];cases r with
 | inl u =>
  have hq:(extL t).find? (newRow t o)=none:=hq;refine ⟨0,0,false,rfl,?_⟩;rw [hq]
 | inr x =>
  obtain ⟨h1,w,h2,h3⟩:=hq;obtain ⟨i,a,b⟩:=x;refine ⟨i,a,b,rfl,?_⟩;rw [h2];exact ⟨h1,h3⟩
theorem zqz {t:zac} {o:zad} (ht:zjy t) (ho:SmO o) (hv:zeg o):zgt t o=some (unclT t o):=by
 obtain ⟨v,e,h1,h2⟩:=zlw ht ho hv;obtain ⟨h3,h4⟩:=zua h2;unfold zgt unclT;rw [h1,zap];simp only;rw [h3] at h4 ⊢;by_cases h:zjz t o=0
 ·obtain ⟨hV,_,_⟩:=h4 h;obtain ⟨i,a,b,h5,h6⟩:=zl0 ht hV;rw [zkA (by simpa using h),zkC,if_neg (by simpa using h),h5,zap];cases hf:(extL t).find? (newRow t o) with
  | none =>
   rw [hf] at h6;subst h6;rfl
  | some w =>
   rw [hf] at h6;obtain ⟨rfl,k,p,rfl,hp,rfl⟩:=h6;simp only [Bool.not_true,zkC];rw [zbd rfl hp,zhz (ht.sm.2.1.2 p (zkH hp)),zap]
 ·rw [zkB h,zkD,if_pos h]
section
section
variable {α R T:Type}
theorem zpc {g:Nat→α→Option R} {f:R→T}:∀ (l:List α) (j:Nat),scan (fun i x=>(g i x).map f) j l=(scan g j l).map f
 | [],_=>rfl
 | x::l,j=>by
  unfold scan;cases g j x with
  | some r=>rfl
  | none=>exact zpc l (j+1)
theorem elim_l {α β γ:Type} {f:α→γ} {g:β→γ} {a:α}:Sum.elim f g (Sum.inl a)=f a:=(Sum.elim_inl f g a).trans (Eq.trans rfl rfl)
theorem iter_scan_at {step:Nat→Option (Nat⊕(Unit⊕R))} {l:List α} (g:Nat→α→Option R) (j:Nat) (hj:j≤l.length) (h1:∀ i x,j≤i→l[i]?=some x→step i=some (match g i x with | some r=>.inr (.inr r) | none=>.inl (i+1))) (h2:step l.length=some (.inr (.inl ()))) (hl:l.length≤100000000000000) :
  iter step fuel j=some (match scan g j (l.drop j) with | some r=>.inr r | none=>.inl ()):=by
 have key:∀ (n i:Nat),j≤i→i≤l.length→l.length-i<n→iter step n i=some (match scan g i (l.drop i) with | some r=>.inr r | none=>.inl ()):=by
  intro n
  induction n with
  | zero=>intro i _ _ h;omega
  | succ n ih =>
   intro i hji hi hn;rcases Nat.lt_or_ge i l.length with h | h
   ·rw [List.drop_eq_getElem_cons h];unfold iter scan;rw [h1 i _ hji (zkM h)];cases g i l[i] with
    | some r=>rfl
    | none=>exact ih (i+1) (by omega) h (by omega)
   ·have e:i=l.length:=by omega
    subst e;rw [List.drop_length];unfold iter scan;rw [h2]
 exact key fuel j (Nat.le_refl _) hj (by have:=zdn;omega)
end
def rowG (t:zac) (o:zad) (w:List Int):Row:=(rowO o w t.Suffixes).getD []
def dP (a:Nat) (x y:Row):Option (Int×Int×Bool):=scan (fun e u=>if y[e]?=some u then none else some ((↑a:Int),(↑e:Int),true)) 0 x
def pP (t:zac) (o:zad) (p q:List Int):Option (Int×Int×Bool):=scan (fun _ (a:Nat)=>dP a (rowG t o (p++[(↑a:Int)])) (rowG t o (q++[(↑a:Int)]))) 0 (List.range t.Inputs.toNat)
def iP (t:zac) (o:zad):Option (Int×Int×Bool):=scan (fun i p=>scan (fun _ q=>if rowO o p t.Suffixes=rowO o q t.Suffixes then pP t o p q else none) (i+1) (t.Prefixes.drop (i+1))) 0 t.Prefixes
def toW (t:zac) (x:Int×Int×Bool):List Int:=x.1::(t.Suffixes[x.2.1.toNat]?).getD []
def incT (t:zac) (o:zad):List Int×Bool×Int:=if zjz t o≠0 then ([],false,zjz t o) else match iP t o with | none=>([],false,0) | some x=>(toW t x,true,0)
theorem zts (a b:List Int) (hl:a.length≤100000000000000):zbn a b=some (decide (a=b)):=by
 unfold zbn;by_cases hlen:a.length=b.length
 ·rw [zkA (by omega),zkC];refine ztd hlen (fun i x y hx hy=>?_) ?_ hl
  ·simp only [zbn.s2];rw [zcb hx,zkD,zaq hx,zaq hy];by_cases h:x=y<;>simp [h]
  ·simp only [zbn.s2];rw [zes];rfl
 ·rw [zkB (by omega),zkD];have:a≠b:=fun h=>hlen (by rw [h]);simp [this]
theorem zhe {α R:Type} {g:Nat→α→Option R} {Q:R→Prop}:∀ {l:List α} {j:Nat} {r:R},scan g j l=some r→(∀ i x r,l[i]?=some x→g (j+i) x=some r→Q r)→Q r
 | [],_,_,h,_=>by cases h
 | x::l,j,r,h,hQ=>by
  unfold scan at h;cases e:g j x with
  | some r' =>
   rw [e] at h;injection h with h
   subst h;exact hQ 0 x _ rfl (by simpa using e)
  | none =>
   rw [e] at h;exact zhe h fun i y r hy hg=>hQ (i+1) y r (by simpa using hy) (by rw [show j+(i+1)=j+1+i by omega];exact hg)
def RowsAlike (x y:Row):Prop:=x.length=y.length∧RowSm x∧RowSm y
theorem dP_prog {a:Nat} {x y:Row} (h:RowsAlike x y):iter (fun s=>zah.s1019 a x y s) fuel 0=some (match (dP a x y).map fun r=>(.inr (.inr (.inr (.inr (.inr (.inr (.inr r)))))):Nat⊕(Unit⊕(Unit⊕(Nat⊕(Unit⊕(Nat⊕(Unit⊕(Int×Int×Bool)))))))) with | some r=>.inr r | none=>.inl ()):=by
 obtain ⟨h1,h2,h3⟩:=h;have hx0:=h2.1
 have key:=zcs (step:=fun s=>zah.s1019 a x y s) (l:=x) (fun e u=>(if y[e]?=some u then none else some ((↑a:Int),(↑e:Int),true)).map fun r=>(.inr (.inr (.inr (.inr (.inr (.inr (.inr r)))))):Nat⊕(Unit⊕(Unit⊕(Nat⊕(Unit⊕(Nat⊕(Unit⊕(Int×Int×Bool))))))))) (fun e u hu=>by
  have he:=(zkI.1 hu).1
  have hw:=get_at (l:=y) (i:=e) (by omega)
  have hus:=(h2.2 u (zkH hu)).1
  simp only [zah.s1019]
  rw [zcb hu,zkD,zaq hu,zaq hw,zts _ _ (by omega),zap]
  by_cases h4:u=y[e]'(by omega)
  ·rw [zkB h4,if_pos (by rw [hw,h4])]
   rfl
  ·rw [zkA h4,if_neg (fun h=>h4 (by rw [hw] at h;injection h with h;exact h.symm))]
   rfl) (by
  simp only [zah.s1019]
  rw [zes]
  rfl) (by omega)
 rw [key,zpc];unfold dP;cases scan (fun e u=>if y[e]?=some u then none else some ((↑a:Int),(↑e:Int),true)) 0 x<;>rfl
theorem zen {t:zac} {o:zad} {w:List Int} {r:Row} (h:rowO o w t.Suffixes=some r):rowG t o w=r:=by unfold rowG;rw [h];rfl
theorem rows_alike {t:zac} {o:zad} (ht:zjy t) (hv:zeg o) {u w:List Int} {x y:Row} (hx:rowO o u t.Suffixes=some x) (hy:rowO o w t.Suffixes=some y):RowsAlike x y :=
 ⟨by rw [(zig hv hx).1,(zig hv hy).1],zs0 hv ht hx,zs0 hv ht hy⟩
theorem pP_prog {t:zac} {o:zad} {v:zau} (ht:zjy t) (hv:zeg o) (hV:zwi t o v) {i k:Nat} {p q:List Int} (hp:t.Prefixes[i]?=some p) (hq:t.Prefixes[k]?=some q) {l:List Int} (hl:v.next[i]?=some l) :
  iter (fun s=>zah.s1020 v i k l s) fuel 0=some (match (pP t o p q).map fun r=>(.inr (.inr (.inr (.inr (.inr r)))):Unit⊕(Nat⊕(Unit⊕(Nat⊕(Unit⊕(Int×Int×Bool)))))) with | some r=>.inr r | none=>.inl ()):=by
 have hn:=ht.n;obtain ⟨l1,g1,g2,g3⟩:=hV.nxt i p hp;rw [hl] at g1;injection g1 with g1
 subst g1;obtain ⟨l2,f1,f2,f3⟩:=hV.nxt k q hq
 have key:=zcs (step:=fun s=>zah.s1020 v i k l s) (l:=List.range t.Inputs.toNat) (fun _ (a:Nat)=>(dP a (rowG t o (p++[(↑a:Int)])) (rowG t o (q++[(↑a:Int)]))).map fun r=>(.inr (.inr (.inr (.inr (.inr r)))):Unit⊕(Nat⊕(Unit⊕(Nat⊕(Unit⊕(Int×Int×Bool))))))) (fun a a' ha=>by
  have han:a<t.Inputs.toNat:=by
   have:=(zkI.1 ha).1
   simpa using this
  rw [List.getElem?_range han] at ha
  injection ha with ha
  subst ha
  obtain ⟨x,x1,x2,x3⟩:=g3 a han
  obtain ⟨y,y1,y2,y3⟩:=f3 a han
  simp only [zah.s1020]
  rw [g2,zkB (by omega),zkD,zaq hl,zaq x3,zbd rfl (zls x2),zaq f1,zaq y3,zbd rfl (zls y2),dP_prog (rows_alike ht hv x1 y1),zap,zen x1,zen y1]
  cases dP a x y with
  | some r=>rfl
  | none =>
   show Sum.elim _ _ (Sum.inl ())=_
   rw [elim_l,zar (by unfold inR;omega)]
   rfl) (by
  simp only [zah.s1020]
  rw [g2,List.length_range,zkA (by omega)]
  rfl) (by simp;omega)
 rw [key,zpc];unfold pP;cases scan (fun _ (a:Nat)=>dP a (rowG t o (p++[(↑a:Int)])) (rowG t o (q++[(↑a:Int)]))) 0 (List.range t.Inputs.toNat)<;>rfl
theorem iP_prog {t:zac} {o:zad} {v:zau} (ht:zjy t) (hv:zeg o) (hV:zwi t o v):zah v=some (match iP t o with | some r=>r | none=>(0,0,false)):=by
 have hpl:=ht.p;unfold zah
 have outer:=zcs (step:=fun s=>zah.s1022 v s) (l:=t.Prefixes) (fun i p=>scan (fun _ q=>if rowO o p t.Suffixes=rowO o q t.Suffixes then pP t o p q else none) (i+1) (t.Prefixes.drop (i+1))) (fun i p hp=>by
  have hi:=(zkI.1 hp).1
  obtain ⟨r,r1,r2,r3⟩:=hV.pre i p hp
  obtain ⟨l,l1,l2,l3⟩:=hV.nxt i p hp
  have inner:=iter_scan_at (step:=fun s=>zah.s1021 v i (↑(pos r v.rows):Int) s) (l:=t.Prefixes) (fun _ q=>(if rowO o p t.Suffixes=rowO o q t.Suffixes then pP t o p q else none).map fun r=>(.inr (.inr r):Nat⊕(Unit⊕(Int×Int×Bool)))) (i+1) (by omega) (fun k q _ hq=>by
   have hk:=(zkI.1 hq).1
   obtain ⟨s,s1,s2,s3⟩:=hV.pre k q hq
   simp only [zah.s1021]
   rw [hV.pl,zkB (by omega),zkD,zaq s3]
   by_cases h:r=s
   ·subst h
    rw [zkA (by simp),zkC,zaq l1,pP_prog ht hv hV hp hq l1,zap,if_pos (by rw [r1,s1])]
    cases pP t o p q<;>rfl
   ·have h2:¬ (↑(pos s v.rows):Int)=↑(pos r v.rows):=fun e=>h (pos_inj r2 s2 (by omega))
    rw [zkB h2,zkD,if_neg (by rw [r1,s1];simpa using h)]
    rfl) (by
   simp only [zah.s1021]
   rw [hV.pl,zkA (by omega),zkC]) (by omega)
  simp only [zah.s1022]
  rw [hV.pl,zkB (by omega),zkD,zaq r3,inner,zap,zpc]
  cases scan (fun _ q=>if rowO o p t.Suffixes=rowO o q t.Suffixes then pP t o p q else none) (i+1) (t.Prefixes.drop (i+1))<;>rfl) (by
  simp only [zah.s1022]
  rw [hV.pl,zkA (by omega),zkC]) (by omega)
 rw [outer,zap];unfold iP;cases scan (fun i p=>scan (fun _ q=>if rowO o p t.Suffixes=rowO o q t.Suffixes then pP t o p q else none) (i+1) (t.Prefixes.drop (i+1))) 0 t.Prefixes<;>rfl
theorem iP_range {t:zac} {o:zad} (hv:zeg o) (hA:zlk t o) {x:Int×Int×Bool} (h:iP t o=some x):x.2.2=true∧∃ a e:Nat,x.1=(a:Int)∧x.2.1=(e:Int)∧a<t.Inputs.toNat∧e<t.Suffixes.length:=by
 refine zhe (Q:=fun x=>x.2.2=true∧∃ a e:Nat,x.1=(a:Int)∧x.2.1=(e:Int)∧a<t.Inputs.toNat∧e<t.Suffixes.length) h fun i p r hp hr=>?_;refine zhe (Q:=fun x=>x.2.2=true∧∃ a e:Nat,x.1=(a:Int)∧x.2.1=(e:Int)∧a<t.Inputs.toNat∧e<t.Suffixes.length) hr fun k q r hq hr=>?_;split at hr
 ·refine zhe (Q:=fun x=>x.2.2=true∧∃ a e:Nat,x.1=(a:Int)∧x.2.1=(e:Int)∧a<t.Inputs.toNat∧e<t.Suffixes.length) hr fun a a' r ha hr=>?_
  have han:a<t.Inputs.toNat:=by
   have:=(zkI.1 ha).1;simpa using this
  rw [List.getElem?_range han] at ha;injection ha with ha
  subst ha;refine zhe (Q:=fun x=>x.2.2=true∧∃ a e:Nat,x.1=(a:Int)∧x.2.1=(e:Int)∧a<t.Inputs.toNat∧e<t.Suffixes.length) hr fun e u r hu hr=>?_;split at hr
  ·cases hr
  ·injection hr with hr
   subst hr;refine ⟨rfl,a,0+e,rfl,rfl,han,?_⟩;obtain ⟨z,hz⟩:=hA p (zkH hp) (p++[(↑a:Int)]) (List.mem_cons_of_mem _ (List.mem_map.2 ⟨a,List.mem_range.2 han,rfl⟩));rw [zen hz] at hu;have h1:=(zkI.1 hu).1;have h2:=(zig hv hz).1;omega
 ·cases hr
theorem zml {t:zac} {o:zad} (ht:zjy t) (ho:SmO o) (hv:zeg o):zep t o=some (incT t o):=by
 obtain ⟨v,e,h1,h2⟩:=zlw ht ho hv;obtain ⟨h3,h4⟩:=zua h2;unfold zep incT;rw [h1,zap];simp only;rw [h3] at h4 ⊢;by_cases h:zjz t o=0
 ·obtain ⟨hV,hA,_⟩:=h4 h;rw [zkA (by simpa using h),zkC,if_neg (by simpa using h),iP_prog ht hv hV,zap];cases hi:iP t o with
  | none=>rfl
  | some x =>
   obtain ⟨hb,a,e,ha,he,_,hes⟩:=iP_range hv hA hi;obtain ⟨x1,x2,x3⟩:=x;simp only at hb ha he;subst hb ha he;have hx:=get_at hes;have hxl:=ht.sw _ (List.getElem_mem hes);simp only [Bool.not_true,zkC];rw [zbd rfl hx,zg8 _ (by simp) (by simp;omega),zap];unfold toW;simp [hx]
 ·rw [zkB h,zkD,if_pos h]
end
theorem zcp {t:zac} {o:zad} (h:zjz t o=0):zdf t=0∧t.Inputs=o.Inputs∧zlk t o:=by
 unfold zjz at h;split at h
 ·rename_i h1;exact absurd h h1
 ·rename_i h1;split at h
  ·rename_i h2;have h1:chkT t o=0:=by simpa using h1
   unfold chkT at h1;split at h1
   ·rename_i h3;exact absurd h1 h3
   ·rename_i h3;split at h1
    ·cases h1
    ·rename_i h4;exact ⟨by simpa using h3,by simpa using h4,need_nil.1 h2⟩
  ·cases h
theorem zqb {l:List (List Int)} (h:Asc l) {i:Nat} {w:List Int} (hw:l[i]?=some w):zhg l i w=true:=by
 unfold zhg;cases i with
 | zero=>rfl
 | succ i =>
  have hi:=(zkI.1 hw).1;have hp:=get_at (l:=l) (i:=i) (by omega);simp only [hp];have:=h.get (Nat.lt_succ_self i) hp hw;exact zkB (by omega)
theorem zjk {t:zac} (h1:1≤t.Inputs) (h2:t.Inputs≤4) (hp0:t.Prefixes≠[]) (hp:t.Prefixes.length≤601) (hs:t.Suffixes.length≤601) (hb:t.Prefixes.length*5*t.Suffixes.length≤160000) (hA:Asc t.Prefixes) (hB:Asc t.Suffixes)
  (hc:∀ w∈t.Prefixes,zbl w t.Inputs=0∧w.length≤401) (hd:∀ w∈t.Suffixes,zbl w t.Inputs=0∧w.length≠0∧w.length≤81) (he:∀ w∈t.Prefixes,0<w.length→w.take (w.length-1)∈t.Prefixes) (h0:[]∈t.Prefixes)
  (hf:∀ a∈List.range t.Inputs.toNat,[(↑a:Int)]∈t.Suffixes):zdf t=0:=by
 unfold zdf;have hpl:0<t.Prefixes.length:=List.length_pos_iff.2 hp0
 have hprod:¬ 160000<(↑t.Prefixes.length:Int)*(t.Inputs+1)*↑t.Suffixes.length:=by
  have a1:(↑t.Prefixes.length:Int)*(t.Inputs+1)≤(↑t.Prefixes.length:Int)*5:=Int.mul_le_mul_of_nonneg_left (by omega) (by omega);have a2:(↑t.Prefixes.length:Int)*(t.Inputs+1)*↑t.Suffixes.length≤(↑t.Prefixes.length:Int)*5*↑t.Suffixes.length:=Int.mul_le_mul_of_nonneg_right a1 (by omega);have a3:(↑(t.Prefixes.length*5*t.Suffixes.length):Int)=(↑t.Prefixes.length:Int)*5*↑t.Suffixes.length:=by rw [Int.natCast_mul,Int.natCast_mul];rfl
  omega
 rw [if_neg (by omega),if_neg (by omega),if_neg (by rintro (h | h | h);omega;omega;exact hprod h)]
 have e1:scan (preG t fun w=>decide (w∈t.Prefixes)) 0 t.Prefixes=none:=zcd.2 fun i w hw=>by
  have hwm:=zkH hw;rw [Nat.zero_add];unfold preG;rw [if_neg (by simpa using (hc w hwm).1)]
  have hz:¬ ((i=0∧0<w.length)∨zhg t.Prefixes i w=false):=by
   rintro (⟨rfl,h⟩ | h)
   ·obtain ⟨j,hj,e⟩:=List.mem_iff_getElem.1 h0;have ej:=get_at hj;rw [e] at ej;rcases Nat.eq_zero_or_pos j with rfl | hj0
    ·rw [hw] at ej;injection ej with ej
     subst ej;simp at h
    ·have:=hA.get hj0 hw ej;have:=zt1 this;simp at this;rw [this] at h;simp at h
   ·rw [zqb hA hw] at h;cases h
  rw [if_neg hz,if_neg];rintro ⟨h,h'⟩;exact of_decide_eq_false h' (he w hwm h)
 have e2:scan (sufG t) 0 t.Suffixes=none:=zcd.2 fun i w hw=>by
  have hwm:=zkH hw;rw [Nat.zero_add];unfold sufG;rw [if_neg (by simpa using (hd w hwm).1),if_neg (hd w hwm).2.1,if_neg (by rw [zqb hB hw];simp)]
 rw [e1,e2];simp only;rw [if_pos hf];have l1:=(zow t.Prefixes 401).2 fun x hx=>(hc x hx).2;have l2:=(zow t.Suffixes 81).2 fun x hx=>(hd x hx).2.2;rw [if_neg (by omega)]
theorem zdy {t:zac} (h:zdf t=0):(∀ w∈t.Prefixes,zbl w t.Inputs=0)∧(∀ w∈t.Prefixes,0<w.length→w.take (w.length-1)∈t.Prefixes)∧[]∈t.Prefixes∧∀ w∈t.Suffixes,zbl w t.Inputs=0∧w.length≠0:=by
 obtain ⟨_,_,_,_,_,e1,e2,hne⟩:=zed h
 have key:∀ (i:Nat) w,t.Prefixes[i]?=some w→zbl w t.Inputs=0∧¬ (i=0∧0<w.length)∧(0<w.length→w.take (w.length-1)∈t.Prefixes):=fun i w hw=>by
  have:=zcd.1 e1 i w hw;rw [Nat.zero_add] at this;unfold preG at this;split at this
  ·cases this
  ·rename_i h1;split at this
   ·cases this
   ·rename_i h2;split at this
    ·cases this
    ·rename_i h3;refine ⟨by simpa using h1,fun h4=>h2 (Or.inl h4),fun h4=>?_⟩;refine Classical.byContradiction fun h5=>h3 ⟨h4,zkA h5⟩
 refine ⟨fun w hw=>?_,fun w hw=>?_,?_,(ztu e2).2⟩
 ·obtain ⟨i,hi,rfl⟩:=List.mem_iff_getElem.1 hw;exact (key i _ (get_at hi)).1
 ·obtain ⟨i,hi,rfl⟩:=List.mem_iff_getElem.1 hw;exact (key i _ (get_at hi)).2.2
 ·have hl:0<t.Prefixes.length:=List.length_pos_iff.2 hne;have:=(key 0 _ (get_at hl)).2.1
  have he:t.Prefixes[0].length=0:=by
   rcases Nat.eq_zero_or_pos t.Prefixes[0].length with h | h
   ·exact h
   ·exact absurd ⟨rfl,h⟩ this
  have:=List.eq_nil_of_length_eq_zero he;rw [← this];exact List.getElem_mem _
theorem zk8 {t:zac} (h:zdf t=0):∀ (n:Nat) (p:List Int),p∈t.Prefixes→∀ k,p.length-k=n→k≤p.length→p.take k∈t.Prefixes:=by
 obtain ⟨_,hc,_,_⟩:=zdy h;intro n
 induction n with
 | zero=>intro p hp k hk hkl;rw [List.take_of_length_le (by omega)];exact hp
 | succ n ih =>
  intro p hp k hk hkl;have h1:=hc p hp (by omega);have h2:=ih _ h1 k (by rw [List.length_take];omega) (by rw [List.length_take];omega);rw [List.take_take,Nat.min_eq_left (by omega)] at h2;exact h2
theorem check_snoc {p:List Int} {n:Int} {a:Nat} (hp:zbl p n=0) (hl:p.length≤500) (ha:(↑a:Int)<n):zbl (p++[(↑a:Int)]) n=0:=by
 have hm:=zdv hp;unfold zbl at hp ⊢;split at hp
 ·rename_i h1;rw [if_pos h1,if_neg (by simp;omega),if_pos];refine List.all_eq_true.2 fun x hx=>zkB ?_;rcases List.mem_append.1 hx with hx | hx
  ·exact hm x hx
  ·rw [List.mem_singleton.1 hx];omega
 ·cases hp
theorem check_cons {p:List Int} {n:Int} {a:Nat} (hp:zbl p n=0) (hl:p.length≤100) (ha:(↑a:Int)<n):zbl ((↑a:Int)::p) n=0:=by
 have hm:=zdv hp;unfold zbl at hp ⊢;split at hp
 ·rename_i h1;rw [if_pos h1,if_neg (by simp;omega),if_pos];refine List.all_eq_true.2 fun x hx=>zkB ?_;rcases List.mem_cons.1 hx with rfl | hx
  ·omega
  ·exact hm x hx
 ·cases hp
theorem zud {l m:List (List Int)} {w:List Int} (h:Asc l) (hw:w∉l) (hm:∀ x,x∈m↔x∈l∨x=w):(sortW m).length=l.length+1∧∀ x,x∈sortW m↔x∈l∨x=w:=by
 have hmem:∀ x,x∈sortW m↔x∈l∨x=w:=fun x=>by rw [zb6,hm]
 have e:sortW m=insW l w:=zor (zel m) (h.insW w) fun x=>by rw [hmem,mem_insW]
 refine ⟨?_,hmem⟩;rw [e];unfold insW;rw [if_neg hw];have:=placeL_le l w;simp [zkJ,List.length_take,List.length_drop];omega
theorem uncl_progress {t:zac} {o:zad} {w:List Int} (ht:zjy t) (hb:(t.Prefixes.length+1)*5*t.Suffixes.length≤160000) (hz:zjz t o=0) (hf:(extL t).find? (newRow t o)=some w) :
  (zex t w).2=0∧w∉t.Prefixes∧w∈(zex t w).1.Prefixes∧(zex t w).1.Prefixes.length=t.Prefixes.length+1∧(zex t w).1.Suffixes.length=t.Suffixes.length:=by
 obtain ⟨hval,_,hA⟩:=zcp hz;obtain ⟨hn1,_,hAp,hAs,hsing,_,_,hne⟩:=zed hval;obtain ⟨hck,hcl,hnil,hsc⟩:=zdy hval;have hnew:newRow t o w=true:=List.find?_some hf;have hwm:=List.mem_of_find?_eq_some hf;obtain ⟨p,hp,h2⟩:=List.mem_flatMap.1 hwm;obtain ⟨a,ha,rfl⟩:=List.mem_map.1 h2;have ha:=List.mem_range.1 ha;have hpl:=ht.pw p hp;have hnot:p++[(↑a:Int)]∉t.Prefixes:=fun hm=>of_decide_eq_true hnew (List.mem_map.2 ⟨_,hm,rfl⟩);have hcw:=check_snoc (hck p hp) (by omega) (show (↑a:Int)<t.Inputs by omega)
 have hmm:∀ x,x∈t.Prefixes++sortW (preL [p++[(↑a:Int)]])↔x∈t.Prefixes∨x=p++[(↑a:Int)]:=fun x=>by
  rw [List.mem_append,zb6,zi6];unfold prefixes;constructor
  ·rintro (h | h)
   ·exact Or.inl h
   ·obtain ⟨k,hk,rfl⟩:=List.mem_map.1 h;have hk:=List.mem_range.1 hk;rw [zkJ,List.length_singleton] at hk;rcases Nat.lt_or_ge p.length k with h3 | h3
    ·right;rw [List.take_of_length_le (by rw [zkJ,List.length_singleton];omega)]
    ·left;rw [List.take_append_of_le_length h3];exact zk8 hval _ p hp k rfl h3
  ·rintro (h | rfl)
   ·exact Or.inl h
   ·exact Or.inr (List.mem_map.2 ⟨p.length+1,by simp,by rw [List.take_of_length_le (by simp)]⟩)
 obtain ⟨hlen,hmem⟩:=zud hAp hnot hmm;have hsuf:sortW (t.Suffixes++[])=t.Suffixes:=by rw [List.append_nil,ze8 hAs]
 have hv2:zdf ⟨t.Inputs,sortW (t.Prefixes++sortW (preL [p++[(↑a:Int)]])),sortW (t.Suffixes++[])⟩=0:=by
  refine zjk hn1 ht.n (fun e=>?_) ?_ ?_ (by show (sortW (t.Prefixes++sortW (preL [p++[(↑a:Int)]]))).length*5*(sortW (t.Suffixes++[])).length≤160000;rw [hlen,hsuf];exact hb) (zel _) (zel _) (fun u hu=>?_) (fun u hu=>?_) (fun u hu h0=>?_) ((hmem _).2 (Or.inl hnil)) ?_
  ·have:p++[(↑a:Int)]∈sortW (t.Prefixes++sortW (preL [p++[(↑a:Int)]])):=(hmem _).2 (Or.inr rfl);rw [show sortW (t.Prefixes++sortW (preL [p++[(↑a:Int)]]))=[] from e] at this;cases this
  ·show (sortW (t.Prefixes++sortW (preL [p++[(↑a:Int)]]))).length≤601;rw [hlen];have:=ht.p;omega
  ·show (sortW (t.Suffixes++[])).length≤601;rw [hsuf];have:=ht.s;omega
  ·rcases (hmem u).1 hu with h | rfl
   ·exact ⟨hck u h,by have:=ht.pw u h;omega⟩
   ·exact ⟨hcw,by simp;omega⟩
  ·have hu:u∈sortW (t.Suffixes++[]):=hu;rw [hsuf] at hu;exact ⟨(hsc u hu).1,(hsc u hu).2,by have:=ht.sw u hu;omega⟩
  ·refine (hmem _).2 (Or.inl ?_);rcases (hmem u).1 hu with h | rfl
   ·exact hcl u h h0
   ·rw [zkJ,List.length_singleton,Nat.add_sub_cancel,List.take_append_of_le_length (Nat.le_refl _),List.take_length];exact hp
  ·show ∀ a∈List.range t.Inputs.toNat,[(↑a:Int)]∈sortW (t.Suffixes++[]);rw [hsuf];exact hsing
 have hP:zex t (p++[(↑a:Int)])=(⟨t.Inputs,sortW (t.Prefixes++sortW (preL [p++[(↑a:Int)]])),sortW (t.Suffixes++[])⟩,0):=by
  unfold zex zi8;rw [if_neg (by simpa using hval),if_neg (by simpa using hcw),if_neg (by simpa using hv2)]
 rw [hP];exact ⟨rfl,hnot,(hmem _).2 (Or.inr rfl),hlen,by show (sortW (t.Suffixes++[])).length=_;rw [hsuf]⟩
theorem zll {o:zad} {w:List Int}:∀ {S:List (List Int)} {r:Row},rowO o w S=some r→∀ (i:Nat) e,S[i]?=some e→∃ x,ansO o (w++e)=some x∧r[i]?=some (x.drop w.length)
 | [],_,_,i,e,he=>by simp at he
 | u::S,r,h,i,e,he=>by
  unfold rowO at h;cases ha:ansO o (w++u) with
  | none=>rw [ha] at h;cases h
  | some x =>
   rw [ha] at h;obtain ⟨l,h1,rfl⟩:=Option.map_eq_some_iff.1 h;cases i with
   | zero =>
    simp at he;subst he;exact ⟨x,ha,rfl⟩
   | succ i =>
    obtain ⟨y,h2,h3⟩:=zll h1 i e (by simpa using he);exact ⟨y,h2,by simpa using h3⟩
theorem iP_parts {t:zac} {o:zad} (hA:zlk t o) {x:Int×Int×Bool} (h:iP t o=some x) :
  ∃ p q,p∈t.Prefixes∧q∈t.Prefixes∧rowO o p t.Suffixes=rowO o q t.Suffixes∧∃ a e:Nat,x=((a:Int),(e:Int),true)∧a<t.Inputs.toNat∧∃ X Y u,rowO o (p++[(↑a:Int)]) t.Suffixes=some X∧rowO o (q++[(↑a:Int)]) t.Suffixes=some Y∧X[e]?=some u∧Y[e]?≠some u:=by
 refine zhe (Q:=fun x=>∃ p q,p∈t.Prefixes∧q∈t.Prefixes∧rowO o p t.Suffixes=rowO o q t.Suffixes∧∃ a e:Nat,x=((a:Int),(e:Int),true)∧a<t.Inputs.toNat∧∃ X Y u,rowO o (p++[(↑a:Int)]) t.Suffixes=some X∧rowO o (q++[(↑a:Int)]) t.Suffixes=some Y∧X[e]?=some u∧Y[e]?≠some u) h fun i p r hp hr=>?_;refine zhe (Q:=fun x=>∃ p q,p∈t.Prefixes∧q∈t.Prefixes∧rowO o p t.Suffixes=rowO o q t.Suffixes∧∃ a e:Nat,x=((a:Int),(e:Int),true)∧a<t.Inputs.toNat∧∃ X Y u,rowO o (p++[(↑a:Int)]) t.Suffixes=some X∧rowO o (q++[(↑a:Int)]) t.Suffixes=some Y∧X[e]?=some u∧Y[e]?≠some u) hr fun k q r hq hr=>?_;have hpm:=zkH hp;have hqm:q∈t.Prefixes:=List.mem_of_mem_drop (zkH hq);split at hr
 ·rename_i heq;refine zhe (Q:=fun x=>∃ p q,p∈t.Prefixes∧q∈t.Prefixes∧rowO o p t.Suffixes=rowO o q t.Suffixes∧∃ a e:Nat,x=((a:Int),(e:Int),true)∧a<t.Inputs.toNat∧∃ X Y u,rowO o (p++[(↑a:Int)]) t.Suffixes=some X∧rowO o (q++[(↑a:Int)]) t.Suffixes=some Y∧X[e]?=some u∧Y[e]?≠some u) hr fun a a' r ha hr=>?_
  have han:a<t.Inputs.toNat:=by
   have:=(zkI.1 ha).1;simpa using this
  rw [List.getElem?_range han] at ha;injection ha with ha
  subst ha;obtain ⟨X,hX⟩:=hA p hpm (p++[(↑a:Int)]) (List.mem_cons_of_mem _ (List.mem_map.2 ⟨a,List.mem_range.2 han,rfl⟩));obtain ⟨Y,hY⟩:=hA q hqm (q++[(↑a:Int)]) (List.mem_cons_of_mem _ (List.mem_map.2 ⟨a,List.mem_range.2 han,rfl⟩));rw [zen hX,zen hY] at hr;refine zhe (Q:=fun x=>∃ p q,p∈t.Prefixes∧q∈t.Prefixes∧rowO o p t.Suffixes=rowO o q t.Suffixes∧∃ a e:Nat,x=((a:Int),(e:Int),true)∧a<t.Inputs.toNat∧∃ X Y u,rowO o (p++[(↑a:Int)]) t.Suffixes=some X∧rowO o (q++[(↑a:Int)]) t.Suffixes=some Y∧X[e]?=some u∧Y[e]?≠some u) hr fun e u r hu hr=>?_;split at hr
  ·cases hr
  ·rename_i hne;injection hr with hr
   subst hr;rw [Nat.zero_add] at hne ⊢;exact ⟨p,q,hpm,hqm,heq,a,e,rfl,han,X,Y,u,hX,hY,hu,hne⟩
 ·cases hr
theorem inc_progress {t:zac} {o:zad} {x:Int×Int×Bool} (ht:zjy t) (hb:t.Prefixes.length*5*(t.Suffixes.length+1)≤160000) (hv:zeg o) (hz:zjz t o=0) (hf:iP t o=some x) :
  (zfi t (toW t x)).2=0∧toW t x∉t.Suffixes∧toW t x∈(zfi t (toW t x)).1.Suffixes∧(zfi t (toW t x)).1.Suffixes.length=t.Suffixes.length+1∧(zfi t (toW t x)).1.Prefixes.length=t.Prefixes.length:=by
 obtain ⟨hval,_,hA⟩:=zcp hz;obtain ⟨hn1,_,hAp,hAs,hsing,_,_,hne⟩:=zed hval;obtain ⟨hck,hcl,hnil,hsc⟩:=zdy hval;obtain ⟨p,q,hp,hq,hpq,a,e,rfl,ha,X,Y,u,hX,hY,hu,hne2⟩:=iP_parts hA hf
 have he:e<t.Suffixes.length:=by
  have h1:=(zkI.1 hu).1;rw [(zig hv hX).1] at h1;exact h1
 have hse:=get_at he
 have hW:toW t ((a:Int),(e:Int),true)=(↑a:Int)::t.Suffixes[e]:=by
  unfold toW;simp [hse]
 rw [hW];have hel:=ht.sw _ (List.getElem_mem he);have hcw:=check_cons (hsc _ (List.getElem_mem he)).1 (by omega) (show (↑a:Int)<t.Inputs by omega)
 have hnot:(↑a:Int)::t.Suffixes[e]∉t.Suffixes:=fun hm=>by
  obtain ⟨j,hj,ej⟩:=List.mem_iff_getElem.1 hm;have hsj:=get_at hj;rw [ej] at hsj;obtain ⟨r,hr⟩:=hA p hp p (by simp [zho]);have hr2:rowO o q t.Suffixes=some r:=by rw [← hpq];exact hr
  obtain ⟨z1,h1,h2⟩:=zll hr j _ hsj;obtain ⟨z2,h3,h4⟩:=zll hr2 j _ hsj;obtain ⟨y1,k1,k2⟩:=zll hX e _ hse;obtain ⟨y2,k3,k4⟩:=zll hY e _ hse;rw [List.append_assoc] at k1 k3;have e1:p++(↑a:Int)::t.Suffixes[e]=p++([(↑a:Int)]++t.Suffixes[e]):=rfl;have e2:q++(↑a:Int)::t.Suffixes[e]=q++([(↑a:Int)]++t.Suffixes[e]):=rfl;rw [e1,k1] at h1;rw [e2,k3] at h3;injection h1 with h1
  injection h3 with h3
  subst h1 h3;rw [h2] at h4;injection h4 with h4
  have h5:=congrArg (List.drop 1) h4;rw [List.drop_drop,List.drop_drop] at h5;rw [hu] at k2;injection k2 with k2
  apply hne2;rw [k4,k2];congr 1;rw [zkJ,zkJ,List.length_singleton];exact h5.symm
 have hmm:∀ x,x∈t.Suffixes++[(↑a:Int)::t.Suffixes[e]]↔x∈t.Suffixes∨x=(↑a:Int)::t.Suffixes[e]:=fun x=>by
  rw [List.mem_append,List.mem_singleton]
 obtain ⟨hlen,hmem⟩:=zud hAs hnot hmm;have hpre:sortW (t.Prefixes++[])=t.Prefixes:=by rw [List.append_nil,ze8 hAp]
 have hv2:zdf ⟨t.Inputs,sortW (t.Prefixes++[]),sortW (t.Suffixes++[(↑a:Int)::t.Suffixes[e]])⟩=0:=by
  refine zjk hn1 ht.n ?_ ?_ ?_ (by show (sortW (t.Prefixes++[])).length*5*(sortW (t.Suffixes++[(↑a:Int)::t.Suffixes[e]])).length≤160000;rw [hlen,hpre];exact hb) (zel _) (zel _) (fun u hu=>?_) (fun u hu=>?_) (fun u hu h0=>?_) ?_ (fun b hb=>(hmem _).2 (Or.inl (hsing b hb)))
  ·show sortW (t.Prefixes++[])≠[];rw [hpre];exact hne
  ·show (sortW (t.Prefixes++[])).length≤601;rw [hpre];have:=ht.p;omega
  ·show (sortW (t.Suffixes++[(↑a:Int)::t.Suffixes[e]])).length≤601;rw [hlen];have:=ht.s;omega
  ·have hu:u∈sortW (t.Prefixes++[]):=hu;rw [hpre] at hu;exact ⟨hck u hu,by have:=ht.pw u hu;omega⟩
  ·rcases (hmem u).1 hu with h | rfl
   ·exact ⟨(hsc u h).1,(hsc u h).2,by have:=ht.sw u h;omega⟩
   ·exact ⟨hcw,by simp,by simp;omega⟩
  ·have hu:u∈sortW (t.Prefixes++[]):=hu;show u.take (u.length-1)∈sortW (t.Prefixes++[]);rw [hpre] at hu ⊢;exact hcl u hu h0
  ·show []∈sortW (t.Prefixes++[]);rw [hpre];exact hnil
 have hP:zfi t ((↑a:Int)::t.Suffixes[e])=(⟨t.Inputs,sortW (t.Prefixes++[]),sortW (t.Suffixes++[(↑a:Int)::t.Suffixes[e]])⟩,0):=by
  unfold zfi zi8;rw [if_neg (by simpa using hval),if_neg (by simp),if_neg (by simpa using hcw),if_neg (by simpa using hv2)]
 rw [hP];exact ⟨rfl,hnot,(hmem _).2 (Or.inr rfl),hlen,by show (sortW (t.Prefixes++[])).length=_;rw [hpre]⟩
theorem extL_mem_sm {t:zac} (ht:zjy t) {w:List Int} (h:w∈extL t):w.length≤401∧∀ a∈w,inR a:=by
 obtain ⟨p,hp,h2⟩:=List.mem_flatMap.1 h;obtain ⟨a,ha,rfl⟩:=List.mem_map.1 h2;have ha:=List.mem_range.1 ha;have:=ht.pw p hp;have hn:=ht.n;refine ⟨by simp;omega,fun b hb=>?_⟩;rcases List.mem_append.1 hb with hb | hb
 ·exact ht.sm.2.2.2 p hp b hb
 ·rw [List.mem_singleton.1 hb];unfold inR;omega
end Go.Proofs.YtbcommjbpmhdbaaGreatDoor.Sym

/-
  Parts of the proof, behind each other.
-/
import Derived.Test.YtkeplokjplkcmaaGreatM3
set_option linter.all false
set_option maxRecDepth 100000
namespace Go.Proofs.YtkeplokjplkcmaaGreat.Sym
section
def zg3{α:Type}{l:List (List α)}{i:Nat}{x:List α}(h:l[i]?=some x):(l.take (i+1)).flatten=(l.take i).flatten++x:=by
 rw[zee h];simp
def zgk{α:Type}{l:List (List α)}(i:Nat):(l.take i).flatten.length<=l.flatten.length:=by
 have h:l.flatten=(l.take i).flatten++(l.drop i).flatten:=by rw[<- ycq,yeu]
 rw[h,zkJ];omega
def concat_ints(l:yaa)(hl:l.length<=100000000)(hf:l.flatten.length<=1000000000):zbb l=some l.flatten:=by
 unfold zbb
 rw[zek (r:=l.flatten.length) (λs=>s.2<=l.length/\s.1=(l.take s.2).flatten.length) (λs=>l.length-s.2) (λs ⟨h1,h2⟩=>by
  simp only[zbb.s2]
  by_cases h3:s.2<l.length
  ·left
   have hx:=get_at h3
   have h4:=zg3 hx
   have h5:=zgk (l:=l) (s.2+1)
   rw[h4,zkJ]at h5
   refine⟨((l.take (s.2+1)).flatten.length,s.2+1),?_,⟨by omega,rfl⟩,by simp only;omega⟩
   rw[zdw hx,zkD,zah hx,zaq (by unfold inR;omega),zkA (by omega),zkC,h4,zkJ,h2]
  ·right
   have e:s.2=l.length:=by omega
   rw[zkA (by omega),zkC,h2,e,ybw]) (s:=(0,0)) ⟨yaf _,by simp⟩ (by have:=zay;simp only;omega)]
 simp only[ybr];unfold zla;rw[zaq (by omega)];simp only[ybr]
 rw[zek (r:=l.flatten) (λs=>s.2<=l.length/\s.1=(l.take s.2).flatten) (λs=>l.length-s.2) (λs ⟨h1,h2⟩=>by
  simp only[zbb.s4]
  by_cases h3:s.2<l.length
  ·left
   have hx:=get_at h3
   have h4:=zg3 hx
   have h5:=zgk (l:=l) (s.2+1)
   rw[h4,zkJ]at h5
   refine⟨((l.take (s.2+1)).flatten,s.2+1),?_,⟨by omega,rfl⟩,by simp only;omega⟩
   rw[zdw hx,zkD,zah hx,zaq (by rw[h2];unfold za5;omega),h4,h2]
  ·right
   have e:s.2=l.length:=by omega
   rw[zkA (by omega),zkC,h2,e,ybw]) (s:=([],0)) ⟨yaf _,by simp⟩ (by have:=zay;simp only;omega)]
 rfl
def concat_words(l:List (yaa))(hl:l.length<=100000000)(hf:l.flatten.length<=1000000000):za8 l=some l.flatten:=by
 unfold za8
 rw[zek (r:=l.flatten.length) (λs=>s.2<=l.length/\s.1=(l.take s.2).flatten.length) (λs=>l.length-s.2) (λs ⟨h1,h2⟩=>by
  simp only[za8.s2]
  by_cases h3:s.2<l.length
  ·left
   have hx:=get_at h3
   have h4:=zg3 hx
   have h5:=zgk (l:=l) (s.2+1)
   rw[h4,zkJ]at h5
   refine⟨((l.take (s.2+1)).flatten.length,s.2+1),?_,⟨by omega,rfl⟩,by simp only;omega⟩
   rw[zdw hx,zkD,zah hx,zaq (by unfold inR;omega),zkA (by omega),zkC,h4,zkJ,h2]
  ·right
   have e:s.2=l.length:=by omega
   rw[zkA (by omega),zkC,h2,e,ybw]) (s:=(0,0)) ⟨yaf _,by simp⟩ (by have:=zay;simp only;omega)]
 simp only[ybr];unfold zix;rw[zaq (by omega)];simp only[ybr]
 rw[zek (r:=l.flatten) (λs=>s.2<=l.length/\s.1=(l.take s.2).flatten) (λs=>l.length-s.2) (λs ⟨h1,h2⟩=>by
  simp only[za8.s4]
  by_cases h3:s.2<l.length
  ·left
   have hx:=get_at h3
   have h4:=zg3 hx
   have h5:=zgk (l:=l) (s.2+1)
   rw[h4,zkJ]at h5
   refine⟨((l.take (s.2+1)).flatten,s.2+1),?_,⟨by omega,rfl⟩,by simp only;omega⟩
   rw[zdw hx,zkD,zah hx,zaq (by rw[h2];unfold za5;omega),h4,h2]
  ·right
   have e:s.2=l.length:=by omega
   rw[zkA (by omega),zkC,h2,e,ybw]) (s:=([],0)) ⟨yaf _,by simp⟩ (by have:=zay;simp only;omega)]
 rfl
def zo0(l:yaa)(hl:l.length<=100000000)(hf:l.flatten.length<=1000000000):zhb l=some l.flatten:=by
 unfold zhb;rw[concat_ints l hl hf];rfl
def totB_of{cf:yab->yab->Int}(T:znk cf){f:yab->yab->Option Int}{l:yaa}(hf:∀a∈l,∀b∈l,f a b=some (cf a b)):totB f l=true:=by
 refine ybf.2 λa ha=>ybf.2 λb hb=>?_;rw[hf a ha b hb,hf b hb a ha];simp only[yax];refine⟨⟨⟨?_,?_⟩,?_⟩,ybf.2 λc hc=>?_⟩
 ·rw[beq_iff_eq];have:=T.zero a b;by_cases h:a=b
  ·simp[h,this.2 h];rw[<- h];exact(T.zero a a).2 rfl
  ·have h2:¬cf a b=0:=λe=>h (this.1 e);simp[h,h2]
 ·rw[beq_iff_eq];have:=T.swap a b;by_cases h:cf a b<0
  ·simp[h];omega
  ·simp[h];omega
 ·have:=T.range a b;exact zkB (by omega)
 ·rw[hf b hb c hc,hf a ha c hc];have r1:=T.range a b;have r2:=T.range b c;by_cases h1:cf a b<0
  ·by_cases h2:cf b c<0
   ·have:=T.trans a b c (by omega) (by omega);simp[h1,h2,this]
   ·simp[h1,h2]
  ·simp[h1]
def libSort_eq{cf:yab->yab->Int}(T:znk cf){f:yab->yab->Option Int}{l:yaa}(hl:l.length<=1000000000)(hf:∀a∈l,∀b∈l,f a b=some (cf a b)) :
  ∃S,zn8 l f=some S/\S.Perm l/\S.Pairwise (λa b=>0<=cf b a):=by
 refine⟨zkg f l,?_,zel f l,?_⟩
 ·unfold zn8;rw[zaq hl,totB_of T hf];rfl
 ·have h:=zj4 (totB_iff (totB_of T hf));rw[yb6]at h ⊢;intro i j hi hj a0;have:=h i j hi hj a0;have m1:=(zel f l).mem_iff.1 (ya7 hi);have m2:=(zel f l).mem_iff.1 (ya7 hj);unfold NGt cfv at this;rw[hf _ m2 _ m1]at this;simp only[yaj]at this;omega
def compact_eq{q:yab->yab->Option Bool}{l:yaa}(hl:l.length<=1000000000)(hq:∀a∈l,∀b∈l,q a b=some (decide (a=b))):zaj l q=some (zdb l):=by
 unfold zaj;by_cases h2:l.length<2
 ·rw[zkB (by omega),zkD,zow (by omega)]
 rw[zkA (by omega),zkC]
 have key:=za1 (step:=λk=>zaj.s20 l q k) (λk=>1<=k/\k<=l.length/\zdb (l.take k)=l.take k) (λk=>l.length-k) (λr=>Sum.elim (λ(_:Unit)=>some l) some r=some (zdb l)) (λk ⟨h1,h3,h4⟩=>by
  simp only[zaj.s20]
  by_cases h5:k<l.length
  ·have hx:=get_at h5
   have hp:=get_at (l:=l) (i:=k-1) (by omega)
   have a2:=zqs (l:=l) (k:=k-1) (x:=l[k]) hp (by rw[show k-1+1=k by omega];exact hx)
   rw[show k-1+1=k by omega]at a2
   rw[zdw hx,zkD,zah hx,za9 (i:=k-1) (by omega) hp,hq _ (ya7 _) _ (ya7 _)]
   simp only[ybr]
   by_cases h6:l[k]=l[k-1]'(by omega)
   ·right
    rw[if_pos h6]at a2
    rw[zkB h6,zkD,zaq (by omega)]
    have a3:=za1 (step:=λ(s:yaa×Nat×Nat)=>zaj.s18 q k s.1 s.2.1 s.2.2) (λs=>1<=s.2.2/\k+s.2.2<=l.length/\s.1.length=l.length/\s.2.1=(zdb (l.take (k+s.2.2))).length/\s.2.1<k+s.2.2/\s.1.take s.2.1=zdb (l.take (k+s.2.2))/\∀j,s.2.1<=j->s.1[j]?=l[j]?) (λs=>l.length-(k+s.2.2))
     (λr=>r.2<=l.length/\r.1.length=l.length/\r.1.take r.2=zdb l) (λs ⟨g1,g2,g3,g4,g5,g6,g7⟩=>by
      obtain⟨y,kk,t⟩:=s
      simp only at g1 g2 g3 g4 g5 g6 g7
      simp only[zaj.s18]
      by_cases g8:k+t<l.length
      ·left
       have gx:=get_at (l:=l) (i:=k+t) g8
       have gp:=get_at (l:=l) (i:=k+(t-1)) (by omega)
       have yx:y[k+t]?=some l[k+t]:=by rw[g7 _ (by omega)];exact gx
       have yp:y[k+(t-1)]?=some (l[k+(t-1)]'(by omega)):=by rw[g7 _ (by omega)];exact gp
       have a0:=zqs (l:=l) (k:=k+(t-1)) (x:=l[k+t]) gp (by rw[show k+(t-1)+1=k+t by omega];exact gx)
       rw[show k+(t-1)+1=k+t by omega]at a0
       rw[zkB (show(t:Int)<(↑(List.length y-k):Int) by omega),zkD,zah yx,zaq (by omega),show Int.toNat ((t:Int)-1)=t-1 by omega,zah yp,hq _ (ya7 _) _ (ya7 _)]
       simp only[ybr]
       by_cases g9:l[k+t]=l[k+(t-1)]'(by omega)
       ·rw[if_pos g9]at a0
        refine⟨(y,kk,t+1),by rw[zkB g9];rfl,⟨by simp only;omega,by simp only;omega,g3,?_,by simp only;omega,?_,g7⟩,by simp only;omega⟩
        ·simp only
         rw[show k+(t+1)=k+t+1 by omega,a0]
         exact g4
        ·simp only
         rw[show k+(t+1)=k+t+1 by omega,a0]
         exact g6
       ·rw[if_neg g9]at a0
        have yk:=get_at (l:=y) (i:=kk) (by omega)
        refine⟨(y.set kk l[k+t],kk+1,t+1),?_,⟨by simp only;omega,by simp only;omega,by simp only[ybb];exact g3,?_,by simp only;omega,?_,λj hj=>?_⟩,by simp only;omega⟩
        ·rw[zkA g9]
         simp only[ydq,zkD]
         rw[zah yx,zah yk,zaq (by unfold inR;omega)]
        ·simp only
         rw[show k+(t+1)=k+t+1 by omega,a0,zkJ,<- g4]
         rfl
        ·simp only
         have e1:(y.set kk l[k+t])[kk]?=some l[k+t]:=by rw[ydk];simp;omega
         rw[show k+(t+1)=k+t+1 by omega,a0,zee e1,List.take_set_of_le (yaq _),g6]
        ·simp only at hj
         rw[ya3 (by omega)]
         exact g7 j (by omega)
      ·right
       have e:k+t=l.length:=by omega
       refine⟨(y,kk),?_,by simp only;omega,g3,?_⟩
       ·rw[zkA (by omega),zkC]
       ·simp only
        rw[e,ybw]at g6
        exact g6) fuel (l,k,1) ⟨yaq _,by simp only;omega,rfl,by simp only;rw[a2,h4,yas];omega,by simp only;omega,by simp only;rw[a2,h4],λj _=>rfl⟩ (by have:=zay;simp only;omega)
    obtain⟨⟨y,kk⟩,e,g1,g2,g3⟩:=a3
    simp only at g1 g2 g3
    refine⟨.inr (zdb l),?_,rfl⟩
    rw[e]
    simp only[ybr,zaj.k19]
    have e2:(List.take kk y++List.replicate (List.length y-kk) ([]:yab)).length=l.length:=by
     rw[zkJ,yas,yak]
     omega
    rw[zaq (by omega),zaq (by omega),zaq (by rw[e2];omega),yc7 (by rw[yas];omega),yfm,Nat.min_self,g3]
   ·left
    rw[if_neg h6]at a2
    refine⟨k+1,by rw[zkA h6];rfl,⟨by omega,by omega,?_⟩,by omega⟩
    rw[a2,h4,zee hx]
  ·right
   have e:k=l.length:=by omega
   subst e
   refine⟨.inl (),?_,?_⟩
   ·rw[zf4];rfl
   ·rw[ybw]at h4
    rw[h4]
    rfl) fuel 1 ⟨yaq _,by omega,zow (by rw[yas];omega)⟩ (by have:=zay;omega)
 obtain⟨r,e,hr⟩:=key;rw[e];exact hr
def zm8{w:yab}(h:SmW w):zfl w=some w:=by
 unfold zfl zly;exact zaq (by unfold SmW at h;unfold za5;omega)
def zse{l:yaa}(h:l.length<=2000000):zgi l=some l:=by
 unfold zgi zly;exact zaq (by unfold za5;omega)
def ordered_eq{cf:yab->yab->Int}(T:znk cf){f:yab->yab->Option Int}{l:yaa}(hl:SmL l)(hf:∀a∈l,∀b∈l,f a b=some (cf a b)) :
  ∃S,zcv l f=some S/\S.Pairwise (λa b=>cf a b=-1)/\(∀x,x∈S↔x∈l)/\S.length<=l.length:=by
 have a2:l.length<=2000000:=hl.1;obtain⟨S,e1,hp,hs⟩:=libSort_eq T (by omega:l.length<=1000000000) hf;obtain⟨d1,d2⟩:=dedup_asc T hs;have hm:∀x,x∈zdb S↔x∈l:=λx=>by rw[d2,hp.mem_iff]
 have a0:(zdb S).length<=l.length:=by
  have:=dedupA_length S;rw[hp.length_eq]at this;exact this
 refine⟨zdb S,?_,d1,hm,a0⟩;unfold zcv zgh;rw[zse a2];simp only[ybr];rw[e1];simp only[ybr]
 rw[compact_eq (by rw[hp.length_eq];omega) (λa ha b hb=>by
  unfold zep
  rw[hf a (hp.mem_iff.1 ha) b (hp.mem_iff.1 hb)]
  simp only[ybr]
  congr 1
  exact decide_eq_decide.2 (T.zero a b))]
 simp only[ybr]
 rw[zek (r:=zdb S) (λs=>s.1=zdb S) (λs=>(zdb S).length-s.2) (λs h1=>by
  simp only[zcv.s2]
  by_cases h3:s.2<(zdb S).length
  ·left
   have hx:=get_at h3
   have a3:SmW ((zdb S)[s.2]):=hl.2 _ ((hm _).1 (ya7 _))
   refine⟨(zdb S,s.2+1),?_,rfl,by simp only;omega⟩
   rw[zdw hx,zkD,h1,zah hx,zm8 a3]
   simp only[ybr]
   rw[zah hx,zaq (by unfold inR;omega),List.set_getElem_self]
  ·right
   rw[zkA (by omega),zkC,h1]) (s:=(zdb S,0)) rfl (by have:=zay;simp only;omega)]
 rfl
def zgn{l:yaa}(hl:SmL l):zd7 l=some (sortW l):=by
 obtain⟨S,e,h1,h2,_⟩:=ordered_eq cmpW_total (f:=λu0 u1=>zef u0 u1) hl λa ha b hb=>zhx a b (by have:SmW a:=hl.2 a ha;unfold SmW at this;omega);unfold zd7;rw[e];show some S=_;congr 1;exact zoi h1 (zer l) λx=>by rw[h2,zdu]
def sml_sort{l:yaa}(h:SmL l):SmL (sortW l):=⟨ycg (sortW_length l) h.1,λx hx=>h.2 x ((zdu l x).1 hx)⟩
def zps{ls:List (yaa)}(h0:ls.length<=100000000)(hl:SmL ls.flatten):zgj ls=some (sortW ls.flatten):=by
 unfold zgj;rw[concat_words ls h0 (by have:=hl.1;omega)];simp only[ybr];rw[zgn hl];rfl
def R02_place_eq{l:yaa}{w:yab}(hA:Asc l)(hl:SmL l):zfi l w=some (↑(zcp l w):Int):=by
 have a4:l.length<=2000000:=hl.1;have a0:=zj7 l w;have a3:=placeL_le l w;unfold zfi
 rw[zek (r:=zcp l w) (λs=>s.1<=zcp l w/\zcp l w<=s.2/\s.2<=l.length) (λs=>s.2-s.1) (λs ⟨h1,h2,h3⟩=>by
  obtain⟨lo,hi⟩:=s
  simp only at h1 h2 h3
  simp only[zfi.s2]
  by_cases h4:lo<hi
  ·left
   have hx:=get_at (l:=l) (i:=(lo+hi) / 2) (by omega)
   rw[zkB (by omega),zkD,zaq (by unfold inR;omega),zaq (by unfold inR;omega),zah hx,zi1 _ _ (hl.2 _ (ya7 _))]
   simp only[ybr]
   by_cases h5:cmpW (l[(lo+hi) / 2]'(by omega)) w<0
   ·refine⟨((lo+hi) / 2+1,hi),by rw[zkB h5,zkD,zaq (by unfold inR;omega)],⟨?_,h2,h3⟩,by simp only;omega⟩
    simp only
    rcases ya9 ((lo+hi) / 2) (zcp l w) with h|h
    ·exact h
    ·exfalso
     have hp:=get_at (l:=l) (i:=zcp l w) (by omega)
     have a2:=a0.2 _ hp
     have r1:=zlp (l[(lo+hi) / 2]'(by omega)) w
     rcases ya9 (zcp l w) ((lo+hi) / 2) with h'|h'
     ·have:=hA.get h' hp hx
      exact a2 (zji _ _ _ this (by omega))
     ·have e:zcp l w=(lo+hi) / 2:=by omega
      simp only[e]at a2
      omega
   ·refine⟨(lo,(lo+hi) / 2),by rw[zkA h5,zkC],⟨h1,?_,by simp only;omega⟩,by simp only;omega⟩
    simp only
    rcases ya9 ((lo+hi) / 2) (zcp l w) with h|h
    ·exfalso
     have:=a0.1 _ _ h hx
     omega
    ·exact h
  ·right
   rw[zkA (by omega),zkC,show lo=zcp l w by omega]) (s:=(0,l.length)) ⟨yaf _,a3,yaq _⟩ (by have:=zay;simp only;omega)]
 rfl
def zrl{l:yaa}{w:yab}(hA:Asc l)(hl:SmL l)(hw:SmW w):zfp l w=some (insW l w):=by
 have a7:l.length<=2000000:=hl.1;have a8:w.length<=2000000:=hw;have a3:=placeL_le l w;have a4:=hA.mem_place w;unfold zfp;rw[R02_place_eq hA hl];simp only[ybr];by_cases hm:w∈l
 ·have hx:=a4.1 hm;have a5:=(zkI.1 hx).1;rw[zkB (show(↑(zcp l w):Int)<(l.length:Int) by omega),zkD,za9 rfl hx,zhw _ _ hw];unfold insW;rw[if_pos hm];simp
 ·have hc:(cond (decide ((↑(zcp l w):Int)<(l.length:Int))) (idx l (↑(zcp l w):Int) λa2=>(zgf a2 w).bind λa6=>some a6) (some false):Option Bool)=some false:=by
   by_cases a5:zcp l w<l.length
   ·have hx:=get_at a5;rw[zkB (by omega),zkD,za9 rfl hx,zhw _ _ (hl.2 _ (ya7 _))];have:¬l[zcp l w]=w:=λe=>hm (a4.2 (by rw[hx,e]));simp[this]
   ·rw[zkA (by omega),zkC]
  rw[hc];simp only[ybr,zkC];have a0:(l++[([]:yab)]).length=l.length+1:=by simp
  rw[zaq (by unfold za5;omega),zaq (by rw[a0];unfold inR;omega)]
  have key:=za1 (step:=λ(s:yaa×Int)=>zfp.s2 (↑(zcp l w):Int) s.1 s.2) (λs=>∃i:Nat,s.2=(i:Int)/\zcp l w<=i/\i<=l.length/\∃z,s.1=stage l z i) (λs=>s.2.toNat-zcp l w) (λr=>∃z,r=stage l z (zcp l w)) (λs ⟨i,h1,h2,h3,z,h4⟩=>by
   obtain⟨y,i'⟩:=s
   simp only at h1 h4
   subst h1 h4
   simp only[zfp.s2]
   by_cases h5:zcp l w<i
   ·left
    have hx:=get_at (l:=l) (i:=i-1) (by omega)
    have e1:(stage l z i)[i-1]?=some (l[i-1]'(by omega)):=by rw[stage_before (by omega) h3];exact hx
    have e2:(stage l z i)[i]?=some z:=stage_at h3
    refine⟨(stage l (l[i-1]'(by omega)) (i-1),↑(i-1:Nat)),?_,⟨i-1,rfl,by omega,by omega,_,rfl⟩,by simp only;omega⟩
    rw[zkB (by omega),zkD,zaq (by unfold inR;omega),za9 (i:=i-1) (by omega) e1,za9 rfl e2,zaq (by unfold inR;omega),yah,stage_set h3]
    have h6:=stage_down (us:=l) (j:=i-1) hx
    rw[show i-1+1=i by omega]at h6
    rw[h6,show(i:Int)-1=((i-1:Nat):Int) by omega]
   ·right
    have e:i=zcp l w:=by omega
    subst e
    refine⟨_,by rw[zkA (by omega),zkC],z,rfl⟩) fuel (l++[[]],(↑(l++[([]:yab)]).length:Int)-1) ⟨l.length,by simp only[a0];omega,a3,yaq _,[],(stage_end l []).symm⟩ (by have:=zay;simp only[a0];omega)
  obtain⟨r,e,z,hz⟩:=key;subst hz;rw[e];simp only[ybr];have e2:(stage l z (zcp l w))[zcp l w]?=some z:=stage_at a3;rw[zaq (by unfold za5;simp;omega),za9 rfl e2,yah,stage_set a3,ycj];unfold insW;rw[if_neg hm];rfl
def R02_Sorted_eq{l:yaa}(hl:SmL l):zeb l=some (sortW l):=by
 have a2:l.length<=2000000:=hl.1;unfold zeb
 rw[zek (r:=sortW l) (λs=>s.2<=l.length/\s.1=sortW (l.take s.2)) (λs=>l.length-s.2) (λs ⟨h1,h2⟩=>by
  obtain⟨y,i⟩:=s
  simp only at h1 h2
  subst h2
  simp only[zeb.s2]
  by_cases h3:i<l.length
  ·left
   have hx:=get_at h3
   have a0:SmL (sortW (l.take i)):=sml_sort ⟨by rw[yas];omega,λx hx=>hl.2 x (ybe hx)⟩
   refine⟨(sortW (l.take (i+1)),i+1),?_,⟨h3,rfl⟩,by simp only;omega⟩
   rw[zdw hx,zkD,zah hx,zrl (zer _) a0 (hl.2 _ (ya7 _)),zee hx,ztg]
   rfl
  ·right
   have e:i=l.length:=by omega
   subst e
   rw[zkA (by omega),zkC,ybw]) (s:=([],0)) ⟨yaf _,by simp[sortW]⟩ (by have:=zay;simp only;omega)]
 rfl
end
section
def preL_take_len{l:yaa}(i:Nat):(preL (l.take i)).length<=(preL l).length:=by
 unfold preL;rw[List.flatMap_def,List.flatMap_def,ye6];exact zgk i
def zqh{l:yaa}{i:Nat}{x:yab}{y:yaa}(hx:l[i]?=some x)(hx1:x.length<=1000000)(hy:SmL y)(hlen:y.length+x.length+1<=2000000) :
  iter (λ(s:yaa×Nat)=>zcd.s13 l i s.1 s.2) fuel (sortW y,0)=some (sortW (y++zdi x)):=by
 refine zek (λs=>s.2<=x.length+1/\s.1=sortW (y++(zdi x).take s.2)) (λs=>x.length+1-s.2) (λs ⟨g1,g2⟩=>?_) ⟨yaf _,by simp⟩ (by have:=zay;simp only;omega);obtain⟨z,k⟩:=s;simp only at g1 g2;subst g2;simp only[zcd.s13];rw[zah hx];by_cases g3:k<x.length+1
 ·left
  have e1:SmL (y++(zdi x).take k):=by
   refine⟨by rw[zkJ,yas,zfk];omega,λu hu=>?_⟩;rcases yam.1 hu with h|h
   ·exact hy.2 u h
   ·have h2:=ybe h;unfold zdi at h2;obtain⟨j,_,rfl⟩:=yao.1 h2;unfold SmW;rw[yas];omega
  have e2:SmW (x.take k):=by
   unfold SmW;rw[yas];omega
  have e3:=zrl (zer (y++(zdi x).take k)) (sml_sort e1) e2;refine⟨(sortW (y++(zdi x).take (k+1)),k+1),?_,⟨g3,rfl⟩,by simp only;omega⟩;rw[zkB (by omega),zkD,zah hx,zaq (by omega),e3];simp only[zam];rw[zaq (by unfold inR;omega),prefixes_take _ (by omega),<- yb3,ztg]
 ·right;have e:k=x.length+1:=by omega
  subst e;rw[zkA (by omega),zkC,<- zfk,ybw]
def zqq{l:yaa}(hl:SmL l)(hw:∀x∈l,x.length<=1000000)(hp:SmL (preL l)):zcd l=some (sortW (preL l)):=by
 have a6:l.length<=2000000:=hl.1;have a5:(preL l).length<=2000000:=hp.1;unfold zcd
 have key:=zek (step:=λ(s:yaa×Nat)=>zcd.s14 l s.1 s.2) (r:=sortW (preL l)) (λs=>s.2<=l.length/\s.1=sortW (preL (l.take s.2))) (λs=>l.length-s.2) (λs ⟨h1,h2⟩=>by
  obtain⟨y,i⟩:=s
  simp only at h1 h2
  subst h2
  simp only[zcd.s14]
  by_cases h3:i<l.length
  ·left
   have hx:=get_at h3
   have a0:=preL_step hx
   have a4:=preL_take_len (l:=l) (i+1)
   rw[a0,zkJ,zfk]at a4
   have a2:=zqh (y:=preL (l.take i)) hx (hw _ (ya7 _)) ⟨by omega,λu hu=>hp.2 u (by
    unfold preL at hu ⊢
    obtain⟨z,hz,a3⟩:=ycf.1 hu
    exact ycf.2 ⟨z,ybe hz,a3⟩)⟩ (by omega)
   refine⟨(sortW (preL (l.take i)++zdi l[i]),i+1),?_,⟨h3,by simp only;rw[a0]⟩,by simp only;omega⟩
   rw[zdw hx,zkD,a2]
   simp only[zam]
  ·right
   have e:i=l.length:=by omega
   subst e
   rw[zkA (by omega),zkC,ybw]) (n:=fuel) (s:=([],0)) ⟨yaf _,by simp[preL,sortW]⟩ (by have:=zay;simp only;omega)
 rw[key];simp only[zam]
end
section
def SmO(o:zav):Prop:=o.Traces.length<=1100000/\∀t∈o.Traces,t.In.length<=1100000/\t.Out.length<=2000000
def zpo(w p:yab)(hw:SmW w):zfo w p=some (decide (p <+: w)):=by
 unfold zfo;rw[zhk w p hw,zam];congr 1;exact decide_eq_decide.2 (by rw[<- zlt w p];omega)
def ziu(a b:yab)(ha:SmW a):zdm a b=some (zbg a b:Int):=by
 have a0:a.length<=2000000:=ha;have a2:=zjg a b;unfold zdm
 have key:=za1 (step:=λk=>zdm.s2 a b k) (λk=>k<=a.length/\k<=b.length/\zbg a b=zbg (a.drop k) (b.drop k)+k) (λk=>a.length-k) (λr=>Sum.elim (λ(_:Unit)=>some (min (a.length:Int) (b.length:Int))) some r=some (zbg a b:Int)) (λk ⟨h1,h2,h3⟩=>by
  simp only[zdm.s2]
  by_cases h4:k<a.length/\k<b.length
  ·have hx:=get_at h4.1
   have hy:=get_at h4.2
   rw[zkB (show(k:Int)<min (a.length:Int) (b.length:Int) by omega),zkD,zah hx,zah hy]
   rw[yb1 h4.1,yb1 h4.2]at h3
   by_cases e:a[k]=b[k]
   ·left
    refine⟨k+1,by simp[e],⟨h4.1,h4.2,?_⟩,by omega⟩
    rw[h3,e]
    simp[zbg]
    omega
   ·right
    simp only[zbg,e,if_false,yal]at h3
    exact⟨.inr (k:Int),by simp[e],by rw[h3];rfl⟩
  ·right
   rw[zkA (by omega),zkC]
   refine⟨.inl (),rfl,?_⟩
   rw[zoa (by omega),yal]at h3
   simp only[ybx]
   congr 1
   omega) fuel 0 ⟨yaf _,yaf _,by simp⟩ (by have:=zay;omega)
 obtain⟨r,e,hq⟩:=key;rw[e];exact hq
def zjm(w p:yab)(hw:SmW w):ze2 w p=some (decide (p <+: w)):=by
 unfold ze2;rw[ziu w p hw,zam];congr 1;exact decide_eq_decide.2 (by rw[<- zlt w p];omega)
def zne(n:Int)(t:zag):Prop:=zi7 t.In n=0/\t.Out.length=t.In.length/\∀y∈t.Out,0<=y/\y<=1048576
def zsk(t:zag)(n:Int)(h1:SmW t.In)(h2:SmW t.Out):∃e,zea t n=some e/\(e=0->zne n t):=by
 unfold zea;rw[zo2 _ _ h1,zam];by_cases g1:zi7 t.In n=0
 ·rw[zkA (by simpa using g1),zkC];by_cases g2:t.Out.length=t.In.length
  ·rw[zkA (by omega),zkC]
   have key:=zdy (step:=λs=>zea.s2 t s) (l:=t.Out) (λ_ y=>if decide (0<=y/\y<=1048576)=true then none else some (2:Int)) (λi y hy=>by
    simp only[zea.s2]
    rw[zdw hy,zkD,zah hy,zah hy]
    by_cases a1:y<0
    ·rw[zkB a1,zkD,zam,zkD,zkA (show ¬(0<=y/\y<=1048576) by omega)];rfl
    ·by_cases a2:1048576<y
     ·rw[zkA a1,zkC,zkB a2,zam,zkD,zkA (show ¬(0<=y/\y<=1048576) by omega)];rfl
     ·rw[zkA a1,zkC,zkA a2,zam,zkC,zkB (show(0<=y/\y<=1048576) by omega)];rfl) (by
    simp only[zea.s2]
    rw[zf4]
    rfl) (by unfold SmW at h2;omega)
   rw[key,zp3 (p:=λy=>decide (0<=y/\y<=1048576))];by_cases h:(t.Out.all λy=>decide (0<=y/\y<=1048576))=true
   ·rw[if_pos h];exact⟨0,rfl,λ_=>⟨g1,g2,λy hy=>of_decide_eq_true (ybf.1 h y hy)⟩⟩
   ·rw[if_neg h];exact⟨2,rfl,λe=>by cases e⟩
  ·rw[zkB (by omega),zkD];exact⟨1,rfl,λe=>by cases e⟩
 ·rw[zkB g1,zkD];exact⟨_,rfl,λe=>absurd e g1⟩
def Agree(a b:zag):Prop:=a.Out.take (zbg a.In b.In)=b.Out.take (zbg a.In b.In)
def zsn(a b:zag){n:Int}(ha:zne n a)(hb:zne n b)(h1:SmW a.In):∃d,zec a b=some d/\(¬0<=d->Agree a b):=by
 have a0:a.In.length<=2000000:=h1;have hc:=zjg a.In b.In;have la:=ha.2.1;have lb:=hb.2.1;unfold zec;rw[zhk _ _ h1,zam]
 have key:=za1 (step:=λk=>zec.s2 a b (↑(zbg a.In b.In):Int) k) (λk=>k<=zbg a.In b.In/\a.Out.take k=b.Out.take k) (λk=>zbg a.In b.In-k) (λr=>match r with|.inl ()=>Agree a b|.inr d=>0<=d) (λk ⟨g1,g2⟩=>by
  simp only[zec.s2]
  by_cases g3:k<zbg a.In b.In
  ·have hx:=get_at (l:=a.Out) (i:=k) (by omega)
   have hy:=get_at (l:=b.Out) (i:=k) (by omega)
   rw[zkB (by omega),zkD,zah hx,zah hy]
   by_cases e:a.Out[k]'(by omega)=b.Out[k]'(by omega)
   ·left
    refine⟨k+1,by rw[zkA (by simpa using e),zkC,zaq (by unfold inR;omega)],⟨g3,?_⟩,by omega⟩
    rw[zee hx,zee hy,g2,e]
   ·right
    exact⟨.inr (k:Int),by rw[zkB e,zkD],by simp⟩
  ·right
   have e:k=zbg a.In b.In:=by omega
   subst e
   exact⟨.inl (),by rw[zkA (by omega),zkC],g2⟩) fuel 0 ⟨yaf _,by simp⟩ (by have:=zay;omega)
 obtain⟨r,e,hq⟩:=key;rw[e];cases r with
 |inl u=>exact⟨-1,rfl,λ_=>hq⟩
 |inr d=>exact⟨d,rfl,λh=>absurd hq h⟩
structure zm6(o:zav):Prop where
 inp:1<=o.Inputs/\o.Inputs<=64
 num:o.Traces.length<=10000
 prop:∀t∈o.Traces,zne o.Inputs t/\t.In≠[]
 asc:∀(i j:Nat) a b,i<j->o.Traces[i]?=some a->o.Traces[j]?=some b->cmpW a.In b.In=-1
 apart:∀(i j:Nat) a b,i<j->o.Traces[i]?=some a->o.Traces[j]?=some b->¬a.In <+: b.In/\Agree a b
def R16_apart_tot(o:zav)(ho:SmO o)(hp:∀t∈o.Traces,zne o.Inputs t):∃e,zcm o=some e/\(e=0->∀(i j:Nat) a b,i<j->o.Traces[i]?=some a->o.Traces[j]?=some b->¬a.In <+: b.In/\Agree a b):=by
 obtain⟨hl,hs⟩:=ho;unfold zcm
 have a0:∀(i:Nat) (a:zag),o.Traces[i]?=some a->∃p c,iter (λ(s:Bool×Bool×Nat)=>zcm.s30 o i s.1 s.2.1 s.2.2) fuel (false,false,i+1)=some (p,c)/\(p=false->c=false->∀j b,i<j->o.Traces[j]?=some b->¬a.In <+: b.In/\Agree a b):=by
  intro i a ha;have hi:=(zkI.1 ha).1;have a4:=zkH ha
  have key:=za1 (step:=λ(s:Bool×Bool×Nat)=>zcm.s30 o i s.1 s.2.1 s.2.2) (λs=>i<s.2.2/\s.2.2<=o.Traces.length/\(s.1=false->s.2.1=false->∀j b,i<j->j<s.2.2->o.Traces[j]?=some b->¬a.In <+: b.In/\Agree a b)) (λs=>o.Traces.length-s.2.2) (λr=>r.1=false->r.2=false->∀j b,i<j->o.Traces[j]?=some b->¬a.In <+: b.In/\Agree a b) (λs ⟨g1,g2,g3⟩=>by
   obtain⟨p,c,k⟩:=s
   simp only at g1 g2 g3
   simp only[zcm.s30]
   by_cases g4:k<o.Traces.length
   ·left
    have hx:=get_at g4
    have a3:=ya7 g4
    have sx:SmW o.Traces[k].In:=by have:=(hs _ a3).1;unfold SmW;omega
    have sa:SmW a.In:=by have:=(hs _ a4).1;unfold SmW;omega
    obtain⟨d,hd,b0⟩:=zsn a o.Traces[k] (hp a a4) (hp _ a3) sa
    have a9:(cond p (some true) (idxn o.Traces k λa2=>idxn o.Traces i λa6=>(zfo a2.In a6.In).bind λa7=>some a7):Option Bool)=some (p||decide (a.In <+: o.Traces[k].In)):=by
     cases p with
     |true=>rfl
     |false =>
      rw[zkC,zah hx,zah ha,zpo _ _ sx,zam]
      rfl
    rw[zdw hx,zkD,a9,zam]
    cases c with
    |true =>
     refine⟨(p||decide (a.In <+: o.Traces[k].In),true,k+1),rfl,⟨by simp only;omega,by simp only;omega,λ_ h=>by cases h⟩,by simp only;omega⟩
    |false =>
     rw[zkC,zah ha,zah hx,hd,zam]
     refine⟨(p||decide (a.In <+: o.Traces[k].In),decide (0<=d),k+1),rfl,⟨by simp only;omega,by simp only;omega,λh1 h2 j b a5 a8 hb=>?_⟩,by simp only;omega⟩
     simp only[Bool.or_eq_false_iff]at h1
     rcases ya9 j k with h|h
     ·exact g3 h1.1 rfl j b a5 h hb
     ·simp only at a8
      have e:j=k:=by omega
      subst e
      rw[hx]at hb
      injection hb with hb
      subst hb
      exact⟨of_decide_eq_false h1.2,b0 (of_decide_eq_false h2)⟩
   ·right
    have e:k=o.Traces.length:=by omega
    refine⟨(p,c),by rw[zkA (by omega),zkC],λh1 h2 j b hj hb=>g3 h1 h2 j b hj ?_ hb⟩
    have:=(zkI.1 hb).1
    omega) fuel (false,false,i+1) ⟨by simp only;omega,by simp only;omega,λ_ _ j b h1 h2=>by simp only at h2;omega⟩ (by have:=zay;simp only;omega)
  obtain⟨⟨p,c⟩,e,hq⟩:=key;exact⟨p,c,e,hq⟩
 have key:=za1 (step:=λi=>zcm.s32 o i) (λi=>i<=o.Traces.length/\∀i' j a b,i'<i->i'<j->o.Traces[i']?=some a->o.Traces[j]?=some b->¬a.In <+: b.In/\Agree a b) (λi=>o.Traces.length-i) (λr=>match r with|.inl ()=>∀(i j:Nat) a b,i<j->o.Traces[i]?=some a->o.Traces[j]?=some b->¬a.In <+: b.In/\Agree a b|.inr e=>e≠0) (λi ⟨g1,g2⟩=>by
  simp only[zcm.s32]
  by_cases g3:i<o.Traces.length
  ·have hx:=get_at g3
   obtain⟨p,c,e,hq⟩:=a0 i _ hx
   rw[zdw hx,zkD,e,zam]
   simp only[zcm.k31]
   cases p with
   |true=>exact .inr ⟨.inr 7,rfl,(show(7:Int)≠0 by decide)⟩
   |false =>
    cases c with
    |true=>exact .inr ⟨.inr 13,rfl,(show(13:Int)≠0 by decide)⟩
    |false =>
     left
     refine⟨i+1,rfl,⟨g3,λi' j a b h1 h2 ha hb=>?_⟩,by omega⟩
     rcases ya9 i' i with h|h
     ·exact g2 i' j a b h h2 ha hb
     ·have e:i'=i:=by omega
      subst e
      rw[hx]at ha
      injection ha with ha
      subst ha
      exact hq rfl rfl j b h2 hb
  ·right
   refine⟨.inl (),by rw[zkA (by omega),zkC],λi' j a b h ha hb=>g2 i' j a b ?_ h ha hb⟩
   have:=(zkI.1 ha).1
   omega) fuel 0 ⟨yaf _,λi' j a b h=>by omega⟩ (by have:=zay;omega)
 obtain⟨r,e,hq⟩:=key;rw[e];cases r with
 |inl u=>exact⟨0,rfl,λ_=>hq⟩
 |inr e'=>exact⟨e',rfl,λh=>absurd h hq⟩
def R16_Valid_tot(o:zav)(ho:SmO o):∃e,zex o=some e/\(e=0->zm6 o):=by
 obtain⟨hl,hs⟩:=ho;unfold zex;by_cases h1:o.Inputs<1
 ·rw[zkB h1,zkD,zam,zkD];exact⟨2,rfl,λe=>by cases e⟩
 by_cases h2:64<o.Inputs
 ·rw[zkA h1,zkC,zkB h2,zam,zkD];exact⟨2,rfl,λe=>by cases e⟩
 rw[zkA h1,zkC,zkA h2,zam,zkC];by_cases h3:10000<o.Traces.length
 ·rw[zkB (by omega),zkD];exact⟨11,rfl,λe=>by cases e⟩
 rw[zkA (by omega),zkC]
 have key:=za1 (step:=λi=>zex.s2 o i) (λi=>i<=o.Traces.length/\(∀j t,j<i->o.Traces[j]?=some t->zne o.Inputs t/\t.In≠[])/\∀j a b,j+1<i->o.Traces[j]?=some a->o.Traces[j+1]?=some b->cmpW a.In b.In=-1) (λi=>o.Traces.length-i)
  (λr=>match r with|.inl ()=>(∀t∈o.Traces,zne o.Inputs t/\t.In≠[])/\∀(j:Nat) a b,o.Traces[j]?=some a->o.Traces[j+1]?=some b->cmpW a.In b.In=-1|.inr e=>e≠0) (λi ⟨g1,g2,g3⟩=>by
  simp only[zex.s2]
  by_cases g4:i<o.Traces.length
  ·have hx:=get_at g4
   have a7:=ya7 g4
   have sx:SmW o.Traces[i].In:=by have:=(hs _ a7).1;unfold SmW;omega
   obtain⟨e,he,a4⟩:=zsk o.Traces[i] o.Inputs sx (hs _ a7).2
   rw[zdw hx,zkD,zah hx,zo2 _ _ sx,zam]
   by_cases g5:zi7 o.Traces[i].In o.Inputs=0
   ·rw[zkA (by simpa using g5),zkC]
    by_cases g6:o.Traces[i].In.length=0
    ·rw[zkB (by omega),zkD]
     exact .inr ⟨.inr 19,rfl,(show(19:Int)≠0 by decide)⟩
    ·rw[zkA (by omega),zkC,he,zam]
     by_cases g7:e=0
     ·rw[zkA (by simpa using g7),zkC]
      have hP:=a4 g7
      have a5:∀b:Bool,(b=false->0<i->∀a,o.Traces[i-1]?=some a->cmpW a.In o.Traces[i].In=-1)->(∃s',(some b).bind (λ(a2:Bool)=>cond a2 (some (.inr (.inr 10))) (some (.inl (i+1))))=some (.inl s':Nat⊕(Unit⊕Int))/\(s'<=o.Traces.length/\(∀j t,j<s'->o.Traces[j]?=some t->zne o.Inputs t/\t.In≠[])/\∀j a b,j+1<s'->o.Traces[j]?=some a->o.Traces[j+1]?=some b->cmpW a.In b.In=-1)/\o.Traces.length-s'<o.Traces.length-i)\/∃r,(some b).bind (λ(a2:Bool)=>cond a2 (some (.inr (.inr 10))) (some (.inl (i+1))))=some (.inr r:Nat⊕(Unit⊕Int))/\(match r with|.inl ()=>(∀t∈o.Traces,zne o.Inputs t/\t.In≠[])/\∀(j:Nat) a b,o.Traces[j]?=some a->o.Traces[j+1]?=some b->cmpW a.In b.In=-1|.inr e=>e≠0):=by
       intro b hb
       cases b with
       |true=>exact .inr ⟨.inr 10,rfl,(show(10:Int)≠0 by decide)⟩
       |false =>
        left
        refine⟨i+1,rfl,⟨g4,λj t hj ht=>?_,λj a b hj ha a0=>?_⟩,by omega⟩
        ·rcases ya9 j i with h|h
         ·exact g2 j t h ht
         ·have ej:j=i:=by omega
          subst ej
          rw[hx]at ht
          injection ht with ht
          subst ht
          exact⟨hP,λe=>g6 (by rw[e];rfl)⟩
        ·rcases ya9 (j+1) i with h|h
         ·exact g3 j a b h ha a0
         ·have ej:j+1=i:=by omega
          subst ej
          rw[hx]at a0
          injection a0 with a0
          subst a0
          exact hb rfl (by omega) a (by simpa using ha)
      by_cases g8:0<i
      ·have a6:=get_at (l:=o.Traces) (i:=i-1) (by omega)
       have sp:SmW (o.Traces[i-1]'(by omega)).In:=by have:=(hs _ (ya7 (show i-1<o.Traces.length by omega))).1;unfold SmW;omega
       rw[zkB (by omega),zkD,za9 (i:=i-1) (by omega) a6,zi1 _ _ sp,zam]
       refine a5 _ λhb _ a ha=>?_
       rw[a6]at ha
       injection ha with ha
       subst ha
       have h5:=of_decide_eq_false hb
       have:=zlp (o.Traces[i-1]'(by omega)).In o.Traces[i].In
       omega
      ·rw[zkA (by omega),zkC]
       exact a5 false λ_ h=>absurd h g8
     ·rw[zkB g7,zkD]
      exact .inr ⟨.inr e,rfl,g7⟩
   ·rw[zkB g5,zkD]
    exact .inr ⟨.inr _,rfl,g5⟩
  ·right
   refine⟨.inl (),by rw[zkA (by omega),zkC],λt ht=>?_,λj a b ha hb=>g3 j a b ?_ ha hb⟩
   ·obtain⟨j,hj,rfl⟩:=yci.1 ht
    exact g2 j _ (by omega) (get_at hj)
   ·have:=(zkI.1 hb).1
    omega) fuel 0 ⟨yaf _,λj t h=>by omega,λj a b h=>by omega⟩ (by have:=zay;omega)
 obtain⟨r,e,hq⟩:=key;rw[e,zam];cases r with
 |inr e'=>exact⟨e',rfl,λh=>absurd h hq⟩
 |inl u =>
  obtain⟨hp,a3⟩:=hq;obtain⟨e',he,a4⟩:=R16_apart_tot o ⟨hl,hs⟩ λt ht=>(hp t ht).1;simp only[ybx];rw[he,zam];refine⟨e',rfl,λh=>⟨by omega,by omega,hp,?_,a4 h⟩⟩
  have key:∀(d i:Nat) a b,o.Traces[i]?=some a->o.Traces[i+d+1]?=some b->cmpW a.In b.In=-1:=by
   intro d
   induction d with
   |zero=>exact λi a b=>a3 i a b
   |succ d ih =>
    intro i a b ha hb;have hj:=(zkI.1 hb).1;have hm:=get_at (l:=o.Traces) (i:=i+d+1) (by omega);exact zji _ _ _ (ih i a _ ha hm) (a3 _ _ _ hm (by rw[show i+d+1+1=i+(d+1)+1 by omega];exact hb))
  intro i j a b a8 ha hb;exact key (j-i-1) i a b ha (by rw[show i+(j-i-1)+1=j by omega];exact hb)
end
section
def sum_mem{α:Type}{f:α->Nat}:∀{l:List α} {x:α},x∈l->f x<=(l.map f).sum
 |y::l,x,h=>by
  rw[yav,yfp];rcases yaw.1 h with rfl|h
  ·omega
  ·have:=sum_mem (f:=f) h;omega
def sum_len{α:Type}{f:α->Nat}(hf:∀x,1<=f x):∀l:List α,l.length<=(l.map f).sum
 |[]=>by simp
 |y::l=>by
  have:=sum_len hf l;have:=hf y;rw[yav,yfp,zkL];omega
def sz_word{x:yab}:x.length+1=szL sz1 x:=by
 unfold szL sz1
 induction x with
 |nil=>rfl
 |cons y l ih=>simp at ih ⊢;omega
def trace_pos(t:zag):1<=zd6 t:=by unfold zd6;omega
def smo_of{o:zav}(s:zln o<=1048576):SmO o:=by
 unfold zln at s;have s1:szL zd6 o.Traces<=1048576:=by omega
 refine⟨?_,λt ht=>?_⟩
 ·have:=sum_len (f:=zd6) trace_pos o.Traces;unfold szL at s1;omega
 ·have h1:=sum_mem (f:=zd6) ht;have h2:=sz_word (x:=t.In);have h3:=sz_word (x:=t.Out);have h4:(o.Traces.map zd6).sum+1<=1048576:=s1;have h5:zd6 t=(szL sz1 t.In+(szL sz1 t.Out+0))+1:=rfl;omega
end
section
def zmn(n:Nat)(t o:Int):Int:=if t < -1\/(n:Int)<=t\/o < -1\/1048576<o then 2 else if(t=-1)≠(o=-1) then 1 else 0
def cellP(n:Nat)(y:yab)(a:Nat)(t:Int):Option Int:=if zmn n t ((y[a]?).getD 0)≠0 then some (zmn n t ((y[a]?).getD 0)) else none
def rowG(p:zaa)(s:Nat)(x:yab):Option Int:=if(x.length:Int)≠p.Inputs\/(↑((p.Out[s]?).getD []).length:Int)≠p.Inputs then some 1 else scan (cellP p.Next.length ((p.Out[s]?).getD [])) 0 x
def zm3(p:zaa):Int:=if p.Inputs<1\/64<p.Inputs then 2 else if p.Next.length=0 then 19 else if 4096<p.Next.length then 11 else if p.Start<0\/(p.Next.length:Int)<=p.Start then 2 else if p.Out.length≠p.Next.length then 1 else match scan (rowG p) 0 p.Next with|some e=>e|none=>0
def cell_cond(n:Nat)(t o:Int){β:Type}(k2 k1 k0:Option β):((cond (decide (t<(-1:Int))) (some true) (cond (decide ((n:Int)<=t)) (some true) (cond (decide (o<(-1:Int))) (some true) (some (decide (1048576<o))))):Option Bool).bind λ(y:Bool)=>cond y k2 (cond ((!((decide (t=(-1:Int)))==(decide (o=(-1:Int)))))) k1 k0))=if zmn n t o=2 then k2 else if zmn n t o=1 then k1 else k0:=by
 have two:(t < -1\/(n:Int)<=t\/o < -1\/1048576<o)->(if zmn n t o=2 then k2 else if zmn n t o=1 then k1 else k0)=k2:=λh=>by
  have e:zmn n t o=2:=if_pos h;rw[e];rfl
 by_cases h1:t < -1
 ·rw[zkB h1,zkD,zam,zkD,two (.inl h1)]
 rw[zkA h1,zkC];by_cases h2:(n:Int)<=t
 ·rw[zkB h2,zkD,zam,zkD,two (.inr (.inl h2))]
 rw[zkA h2,zkC];by_cases h3:o < -1
 ·rw[zkB h3,zkD,zam,zkD,two (.inr (.inr (.inl h3)))]
 rw[zkA h3,zkC,zam];by_cases h4:1048576<o
 ·rw[zkB h4,zkD,two (.inr (.inr (.inr h4)))]
 rw[zkA h4,zkC];have e0:zmn n t o=if(t=-1)≠(o=-1) then 1 else 0:=if_neg (by omega)
 rw[e0];by_cases h5:t=-1<;>by_cases h6:o=-1<;>simp[h5,h6]
def cellE_cases(n:Nat)(t o:Int):zmn n t o=0\/zmn n t o=1\/zmn n t o=2:=by
 unfold zmn;split
 ·exact .inr (.inr rfl)
 ·split
  ·exact .inr (.inl rfl)
  ·exact .inl rfl
def scan_wrap{α R S:Type}{g:Nat->α->Option R}(f:R->S):∀(l:List α) (j:Nat),scan (λi x=>(g i x).map f) j l=(scan g j l).map f
 |[],_=>rfl
 |x::l,j=>by
  unfold scan;cases h:g j x with
  |some r=>rfl
  |none=>exact scan_wrap f l (j+1)
def zg4{p:zaa}(hl:p.Next.length<=10000000):zcb p=some (zm3 p):=by
 unfold zcb zm3
 have a0:(cond (decide (p.Start<0)) (some true) (some (decide ((p.Next.length:Int)<=p.Start))):Option Bool)=some (decide (p.Start<0\/(p.Next.length:Int)<=p.Start)):=by
  by_cases h:p.Start<0
  ·rw[zkB h,zkD,zkB (.inl h)]
  ·rw[zkA h,zkC];simp[h]
 by_cases h0:p.Inputs<1
 ·rw[zkB h0,zkD,zam,zkD,if_pos (.inl h0)]
 rw[zkA h0,zkC,zam];by_cases h1:64<p.Inputs
 ·rw[zkB h1,zkD,if_pos (.inr h1)]
 rw[zkA h1,zkC,if_neg (by omega)];by_cases h2:p.Next.length=0
 ·rw[zkB (by omega),zkD,if_pos h2]
 rw[zkA (by omega),zkC,if_neg h2];by_cases h3:4096<p.Next.length
 ·rw[zkB (by omega),zkD,if_pos h3]
 rw[zkA (by omega),zkC,if_neg h3,a0,zam];by_cases h4:p.Start<0\/(p.Next.length:Int)<=p.Start
 ·rw[zkB h4,zkD,if_pos h4]
 rw[zkA h4,zkC,if_neg h4];by_cases h5:p.Out.length≠p.Next.length
 ·rw[zkB (by omega),zkD,if_pos h5]
 rw[zkA (by omega),zkC,if_neg h5,zdy (l:=p.Next) (rowG p) (λs x hx=>by
  have hs:=(zkI.1 hx).1
  have hy:=get_at (l:=p.Out) (i:=s) (by omega)
  simp only[zcb.s14,rowG]
  rw[zdw hx,zkD,zah hx,hy,yaj]
  by_cases k1:(x.length:Int)≠p.Inputs
  ·rw[zkB k1,zkD,zam,zkD,if_pos (.inl k1)]
  rw[zkA k1,zkC,zah hy,zam]
  by_cases k2:(↑p.Out[s].length:Int)≠p.Inputs
  ·rw[zkB k2,zkD,if_pos (.inr k2)]
  rw[zkA k2,zkC,if_neg (λh=>h.elim k1 k2),zah hx,zdy (l:=x) (λa t=>(cellP p.Next.length p.Out[s] a t).map λe=>(Sum.inr (Sum.inr e):Nat⊕(Unit⊕Int))) (λa t ht=>by
   have ha:=(zkI.1 ht).1
   have hz:=get_at (l:=p.Out[s]) (i:=a) (by omega)
   simp only[zcb.s13,cellP]
   rw[zdw ht,zkD,zah ht,zah hy,zah hz,hz,yaj,cell_cond]
   rcases cellE_cases p.Next.length t p.Out[s][a]with e|e|e<;>rw[e]<;>rfl) (by simp only[zcb.s13];rw[zf4,zkC]) (by omega),zam,scan_wrap]
  cases scan (cellP p.Next.length p.Out[s]) 0 x<;>rfl) (by simp only[zcb.s14];rw[zf4,zkC]) (by omega),zam]
 cases scan (rowG p) 0 p.Next<;>rfl
structure zb1(p:zaa):Prop where
 i1:1<=p.Inputs
 i2:p.Inputs<=64
 n1:0<p.Next.length
 n2:p.Next.length<=4096
 st:0<=p.Start/\p.Start<(p.Next.length:Int)
 ol:p.Out.length=p.Next.length
 row:∀s,s<p.Next.length->∃x y,p.Next[s]?=some x/\p.Out[s]?=some y/\(x.length:Int)=p.Inputs/\(y.length:Int)=p.Inputs/\∀(a:Nat) (t o:Int),x[a]?=some t->y[a]?=some o->-1<=t/\t<(p.Next.length:Int)/\-1<=o/\o<=1048576/\(t=-1↔o=-1)
def validP_ok{p:zaa}(h:zm3 p=0):zb1 p:=by
 unfold zm3 at h;split at h
 ·cases h
 rename_i c1;split at h
 ·cases h
 rename_i c2;split at h
 ·cases h
 rename_i c3;split at h
 ·cases h
 rename_i c4;split at h
 ·cases h
 rename_i c5;have a2:p.Out.length=p.Next.length:=ydl.1 c5
 have hs:scan (rowG p) 0 p.Next=none:=by
  cases e:scan (rowG p) 0 p.Next with
  |none=>rfl
  |some r =>
   rw[e]at h;have h:r=0:=h
   obtain⟨i,x,hx,hr⟩:∃i x,p.Next[i]?=some x/\rowG p (0+i) x=some r:=by
    have:∀(l:yaa) (j:Nat),scan (rowG p) j l=some r->∃i x,l[i]?=some x/\rowG p (j+i) x=some r:=by
     intro l
     induction l with
     |nil=>intro j h;cases h
     |cons x l ih =>
      intro j h;unfold scan at h;cases e2:rowG p j x with
      |some q =>
       rw[e2]at h;injection h with h
       subst h;exact⟨0,x,rfl,e2⟩
      |none =>
       rw[e2]at h;obtain⟨i,y,q1,q2⟩:=ih (j+1) h;exact⟨i+1,y,q1,by rw[show j+(i+1)=j+1+i by omega];exact q2⟩
    exact this _ 0 e
   rw[h]at hr;unfold rowG at hr;split at hr
   ·cases hr
   ·have:∀(y l:yab) (j:Nat),scan (cellP p.Next.length y) j l≠some 0:=by
     intro y l
     induction l with
     |nil=>intro j h;cases h
     |cons x l ih =>
      intro j h;unfold scan at h;cases e:cellP p.Next.length y j x with
      |some q =>
       rw[e]at h;injection h with h
       unfold cellP at e;split at e
       ·rename_i g;injection e with e
        exact g (e.trans h)
       ·cases e
      |none =>
       rw[e]at h;exact ih _ h
    exact absurd hr (this _ _ _)
 refine⟨by omega,by omega,by omega,by omega,by omega,a2,λs a0=>?_⟩;have hx:=get_at a0;have hy:=get_at (l:=p.Out) (i:=s) (by omega);have hr:=zfc.1 hs s _ hx;unfold rowG at hr;rw[yal,hy,yaj]at hr;split at hr
 ·cases hr
 ·rename_i k;refine⟨_,_,hx,hy,ybd λe=>k (.inl e),ybd λe=>k (.inr e),λa t o ha ho=>?_⟩;have hc:=zfc.1 hr a t ha;unfold cellP at hc;rw[yal,ho,yaj]at hc;split at hc
  ·cases hc
  ·rename_i g;have g:=ydl.1 g;unfold zmn at g;split at g
   ·cases g
   ·rename_i g1;split at g
    ·cases g
    ·rename_i g2;have g2:=ydl.1 g2;exact⟨by omega,by omega,by omega,by omega,by rw[g2]⟩
structure Wrt(f:Nat->Int)(init:yab)(a:Nat)(y:yab):Prop where
 len:y.length=init.length
 at_:∀b,b<init.length->y[b]?=if b<a then some (f b) else init[b]?
def Wrt.zero(f:Nat->Int)(init:yab):Wrt f init 0 init:=⟨rfl,λb _=>by rw[if_neg (by omega)]⟩
def Wrt.step{f:Nat->Int}{init:yab}{a:Nat}{y:yab}(h:Wrt f init a y)(ha:a<init.length){v:Int}(hv:v=f a):Wrt f init (a+1) (y.set a v):=by
 refine⟨by rw[ybb];exact h.len,λb hb=>?_⟩;have hl:=h.len;by_cases e:b=a
 ·subst e;rw[if_pos (by omega),ya2 (by omega),hv]
 ·rw[ya3 (by omega),h.at_ b hb];by_cases g:b<a
  ·rw[if_pos g,if_pos (by omega)]
  ·rw[if_neg g,if_neg (by omega)]
def Wrt.skip{f:Nat->Int}{init:yab}{a:Nat}{y:yab}(h:Wrt f init a y)(ha:a<init.length)(hv:init[a]?=some (f a)):Wrt f init (a+1) y:=by
 refine⟨h.len,λb hb=>?_⟩;rw[h.at_ b hb];by_cases e:b=a
 ·subst e;rw[if_neg (by omega),if_pos (by omega),hv]
 ·by_cases g:b<a
  ·rw[if_pos g,if_pos (by omega)]
  ·rw[if_neg g,if_neg (by omega)]
def Wrt.done{f:Nat->Int}{init y:yab}{a:Nat}(h:Wrt f init a y)(ha:init.length<=a):y=(List.range init.length).map f:=by
 refine yca λb=>?_;by_cases g:b<init.length
 ·rw[h.at_ b g,if_pos (by omega),yae,yba g];rfl
 ·rw[yat (by have:=h.len;omega),yat (by simp;omega)]
def Wrt.cur{f:Nat->Int}{init:yab}{a:Nat}{y:yab}(h:Wrt f init a y)(ha:a<init.length):y[a]?=init[a]?:=by rw[h.at_ a ha,if_neg (by omega)]
def compN(s:Nat)(x:yab)(a:Nat):Int:=if(x[a]?).getD 0=-1 then(s:Int) else(x[a]?).getD 0
def compO(out:Int)(x y:yab)(a:Nat):Int:=if(x[a]?).getD 0=-1 then out else(y[a]?).getD 0
def zsm(p:zaa)(s:Nat):yab:=(List.range p.Inputs.toNat).map (compN s ((p.Next[s]?).getD []))
def zsf(p:zaa)(out:Int)(s:Nat):yab:=(List.range p.Inputs.toNat).map (compO out ((p.Next[s]?).getD []) ((p.Out[s]?).getD []))
def rng_snoc{α:Type}(f:Nat->α)(k:Nat):(List.range (k+1)).map f=(List.range k).map f++[f k]:=by rw[ycs,ya0];rfl
def complP(p:zaa)(out:Int):zab×Int:=if zm3 p≠0 then(⟨0,0,[],[]⟩,zm3 p) else if out<0\/1048576<out then(⟨0,0,[],[]⟩,2) else if 128<p.Next.length then(⟨0,0,[],[]⟩,11) else(⟨p.Inputs,p.Start,(List.range p.Next.length).map (zsm p),(List.range p.Next.length).map (zsf p out)⟩,0)
def zoe{p:zaa}(hl:p.Next.length<=10000000)(out:Int):zbd p out=some (complP p out):=by
 unfold zbd complP;rw[zg4 hl,zam];by_cases hv:zm3 p≠0
 ·rw[zkB hv,zkD,if_pos hv]
 rw[zkA hv,zkC,if_neg hv];have H:=validP_ok (ydl.1 hv);by_cases h1:out<0
 ·rw[zkB h1,zkD,zam,zkD,if_pos (.inl h1)]
 rw[zkA h1,zkC,zam];by_cases h2:1048576<out
 ·rw[zkB h2,zkD,if_pos (.inr h2)]
 rw[zkA h2,zkC,if_neg (by omega)];by_cases h3:128<p.Next.length
 ·rw[zkB (by omega),zkD,if_pos h3]
 rw[zkA (by omega),zkC,if_neg h3];have a8:=H.i1;have b2:=H.i2
 have key:=za1 (step:=λ(s:yaa×yaa×Nat)=>zbd.s20 p out s.1 s.2.1 s.2.2) (λs=>s.2.2<=p.Next.length/\s.1=(List.range s.2.2).map (zsm p)/\s.2.1=(List.range s.2.2).map (zsf p out)) (λs=>p.Next.length-s.2.2) (λr=>r=((List.range p.Next.length).map (zsm p),(List.range p.Next.length).map (zsf p out))) (λ⟨A,B,s⟩ ⟨g1,g2,g3⟩=>by
  simp only at g1 g2 g3
  subst g2 g3
  simp only[zbd.s20]
  by_cases hs:s<p.Next.length
  ·left
   obtain⟨x,y,hx,hy,a9,b3,b4⟩:=H.row s hs
   refine⟨((List.range (s+1)).map (zsm p),(List.range (s+1)).map (zsf p out),s+1),?_,⟨hs,rfl,rfl⟩,by simp only;omega⟩
   have a2:=za1 (step:=λ(q:yab×yab×Nat)=>zbd.s18 p out s x q.1 q.2.1 q.2.2) (λq=>q.2.2<=x.length/\Wrt (compN s x) (List.replicate p.Inputs.toNat 0) q.2.2 q.1/\Wrt (compO out x y) (List.replicate p.Inputs.toNat 0) q.2.2 q.2.1) (λq=>x.length-q.2.2) (λr=>r=(zsm p s,zsf p out s)) (λ⟨A,B,a⟩ ⟨q1,q2,q3⟩=>by
    simp only at q1 q2 q3
    simp only[zbd.s18]
    by_cases ha:a<x.length
    ·left
     have a0:=get_at ha
     have a3:=get_at (l:=y) (i:=a) (by omega)
     have a4:=q2.len
     have a6:=q3.len
     rw[yak]at a4 a6
     have a5:=get_at (l:=A) (i:=a) (by omega)
     have a7:=get_at (l:=B) (i:=a) (by omega)
     have b0:(List.replicate p.Inputs.toNat (0:Int)).length=p.Inputs.toNat:=yak
     have hn:compN s x a=if x[a]=-1 then(s:Int) else x[a]:=by unfold compN;rw[a0,yaj]
     have ho:compO out x y a=if x[a]=-1 then out else y[a]:=by unfold compO;rw[a0,a3,yaj,yaj]
     rw[zdw a0,zkD,zah a0,zah hy,zah a3,zah a5,zah a7]
     by_cases e:x[a]=-1
     ·rw[if_pos e]at hn ho
      refine⟨((A.set a x[a]).set a (s:Int),(B.set a y[a]).set a out,a+1),?_,⟨ha,?_,?_⟩,by simp only;omega⟩
      ·rw[zkB e,zkD,zah (get_at (by rw[ybb];omega)),zah (get_at (by rw[ybb];omega))]
      ·simp only[List.set_set];exact q2.step (by omega) hn.symm
      ·simp only[List.set_set];exact q3.step (by omega) ho.symm
     ·rw[if_neg e]at hn ho
      exact⟨(A.set a x[a],B.set a y[a],a+1),by rw[zkA e,zkC],⟨ha,q2.step (by omega) hn.symm,q3.step (by omega) ho.symm⟩,by simp only;omega⟩
    ·right
     have e:a=x.length:=by omega
     subst e
     refine⟨_,by rw[zf4,zkC],?_⟩
     rw[q2.done (by rw[yak];omega),q3.done (by rw[yak];omega),yak]
     unfold zsm zsf
     rw[hx,hy]
     rfl) fuel (List.replicate p.Inputs.toNat 0,List.replicate p.Inputs.toNat 0,0) ⟨yaf _,Wrt.zero _ _,Wrt.zero _ _⟩ (by have:=zay;simp only;omega)
   obtain⟨r,e,rfl⟩:=a2
   rw[zkB (by omega),zkD,zaq ⟨by omega,yc0 _,by unfold za5;omega⟩,zaq ⟨by omega,yc0 _,by unfold za5;omega⟩,zah hx,e,zam]
   simp only[zbd.k19]
   rw[zaq (by unfold za5;simp;omega),zaq (by unfold za5;simp;omega),rng_snoc,rng_snoc]
  ·right
   have e:s=p.Next.length:=by omega
   subst e
   exact⟨_,by rw[zkA (by omega),zkC],rfl⟩) fuel ([],[],0) ⟨yaf _,rfl,rfl⟩ (by have:=zay;simp only;omega)
 obtain⟨r,e,rfl⟩:=key;rw[e,zam];rfl
end
section
def pnx(p:zaa)(s a:Nat):Int:=(((p.Next[s]?).getD [])[a]?).getD (-1)
def pot(p:zaa)(s a:Nat):Int:=(((p.Out[s]?).getD [])[a]?).getD (-1)
def zb1.at{p:zaa}(H:zb1 p){s a:Nat}(hs:s<p.Next.length)(ha:a<p.Inputs.toNat):-1<=pnx p s a/\pnx p s a<(p.Next.length:Int)/\-1<=pot p s a/\pot p s a<=1048576/\(pnx p s a=-1↔pot p s a=-1)/\∃x y,p.Next[s]?=some x/\p.Out[s]?=some y/\x[a]?=some (pnx p s a)/\y[a]?=some (pot p s a)/\(x.length:Int)=p.Inputs/\(y.length:Int)=p.Inputs:=by
 obtain⟨x,y,h1,h2,h3,h4,h5⟩:=H.row s hs;have hx:=get_at (l:=x) (i:=a) (by omega);have hy:=get_at (l:=y) (i:=a) (by omega);have e1:pnx p s a=x[a]:=by unfold pnx;rw[h1,yaj,hx,yaj]
 have e2:pot p s a=y[a]:=by unfold pot;rw[h2,yaj,hy,yaj]
 obtain⟨k1,k2,k3,k4,k5⟩:=h5 a _ _ hx hy;rw[e1,e2];exact⟨k1,k2,k3,k4,k5,x,y,h1,h2,hx,hy,h3,h4⟩
def zff{p:zaa}(H:zb1 p){q a u:Nat}(h:pnx p q a=(u:Int)):q<p.Next.length/\a<p.Inputs.toNat/\u<p.Next.length:=by
 have hq:q<p.Next.length:=ybd λg=>by
  unfold pnx at h;rw[show p.Next[q]?=none from yat (by omega)]at h;have h:(-1:Int)=↑u:=h;omega
 have ha:a<p.Inputs.toNat:=ybd λg=>by
  obtain⟨x,y,h1,h2,h3,h4,h5⟩:=H.row q hq;unfold pnx at h;rw[h1,yaj,show x[a]?=none from yat (by omega)]at h;have h:(-1:Int)=↑u:=h;omega
 have:=(H.at hq ha).2.1;exact⟨hq,ha,by omega⟩
inductive Cong(p:zaa)(s t:Nat):Nat->Nat->Prop
 |base:Cong p s t s t
 |refl (q:Nat):Cong p s t q q
 |symm {q r:Nat} (h:Cong p s t q r):Cong p s t r q
 |trans {q r u:Nat} (h:Cong p s t q r) (k:Cong p s t r u):Cong p s t q u
 |step {q r:Nat} (a u v:Nat) (h:Cong p s t q r) (hu:pnx p q a=(u:Int)) (hv:pnx p r a=(v:Int)):Cong p s t u v
def zge(p:zaa)(s t:Nat):Prop:=∃q r a,Cong p s t q r/\pnx p q a≠-1/\pnx p r a≠-1/\pot p q a≠pot p r a
noncomputable def clsOf(p:zaa)(s t q:Nat):Nat:=by
 classical
 exact((List.range (q+1)).find? λr=>decide (Cong p s t q r)).getD q
section
variable {p:zaa}{s t:Nat}
def zop(q:Nat):clsOf p s t q<=q/\Cong p s t q (clsOf p s t q)/\∀r,r<clsOf p s t q->¬Cong p s t q r:=by
 classical
 unfold clsOf;cases h:(List.range (q+1)).find? λr=>decide (Cong p s t q r) with
 |none=>exact absurd (zkB (Cong.refl q)) (List.find?_eq_none.1 h q (yay.2 (by omega)))
 |some r =>
  obtain⟨h1,h2,h3⟩:=List.find?_range_eq_some.1 h;rw[yaj];have h2:=yay.1 h2;refine⟨by omega,of_decide_eq_true h1,λu hu hc=>?_⟩;have:=h3 u hu;simp[hc]at this
def clsOf_eq{q c:Nat}(h:Cong p s t q c)(h2:∀r,Cong p s t q r->c<=r):clsOf p s t q=c:=by
 obtain⟨g1,g2,g3⟩:=zop (p:=p) (s:=s) (t:=t) q;have h3:=h2 _ g2;rcases ya9 c (clsOf p s t q) with k|k
 ·exact absurd h (g3 c k)
 ·omega
def zsq{q r:Nat}:Cong p s t q r↔clsOf p s t q=clsOf p s t r:=by
 obtain⟨a1,a2,a3⟩:=zop (p:=p) (s:=s) (t:=t) q;obtain⟨b1,b2,b3⟩:=zop (p:=p) (s:=s) (t:=t) r;constructor
 ·intro h;refine clsOf_eq (h.trans b2) λu hu=>yd4 λk=>b3 u k (h.symm.trans hu)
 ·intro h;rw[h]at a2;exact a2.trans b2.symm
def cong_into(H:zb1 p)(hs:s<p.Next.length)(ht:t<p.Next.length){cl:Nat->Nat}(h0:cl s=cl t)(hc:∀q r a u v:Nat,q<p.Next.length->r<p.Next.length->cl q=cl r->pnx p q a=(u:Int)->pnx p r a=(v:Int)->cl u=cl v){q r:Nat}(h:Cong p s t q r):q=r\/(q<p.Next.length/\r<p.Next.length/\cl q=cl r):=by
 induction h with
 |base=>exact .inr ⟨hs,ht,h0⟩
 |refl q=>exact .inl rfl
 |symm _ ih =>
  rcases ih with e|⟨a,b,c⟩
  ·exact .inl e.symm
  ·exact .inr ⟨b,a,c.symm⟩
 |trans _ _ ih1 ih2 =>
  rcases ih1 with rfl|⟨a,b,c⟩
  ·exact ih2
  ·rcases ih2 with rfl|⟨a',b',c'⟩
   ·exact .inr ⟨a,b,c⟩
   ·exact .inr ⟨a,b',c.trans c'⟩
 |step a u v _ hu hv ih =>
  obtain⟨q1,_,q3⟩:=zff H hu;obtain⟨r1,_,r3⟩:=zff H hv;rcases ih with rfl|⟨_,_,c⟩
  ·rw[hu]at hv;exact .inl (by omega)
  ·exact .inr ⟨q3,r3,hc _ _ a u v q1 r1 c hu hv⟩
structure ClsL(p:zaa)(s t:Nat)(C:yab)(cl:Nat->Nat):Prop where
 len:C.length=p.Next.length
 at_:∀q,q<p.Next.length->C[q]?=some (↑(cl q):Int)
 le:∀q,q<p.Next.length->cl q<=q
 idem:∀q,q<p.Next.length->cl (cl q)=cl q
 sound:∀q,q<p.Next.length->Cong p s t q (cl q)
def zjj(n:Nat)(cl:Nat->Nat):Nat:=(List.range n).countP λq=>decide (cl q=q)
def zeu(cl:Nat->Nat)(u v q:Nat):Nat:=if cl q=max (cl u) (cl v) then min (cl u) (cl v) else cl q
def joinF_same(cl:Nat->Nat)(u v:Nat):zeu cl u v u=zeu cl u v v:=by
 unfold zeu;rcases yde (cl u) (cl v) with h|h
 ·rw[yds h,ycc h,if_pos rfl];split<;>omega
 ·rw[ydv h,ycw h,if_pos rfl];split<;>omega
def zsv{cl:Nat->Nat}{u v q r:Nat}(h:cl q=cl r):zeu cl u v q=zeu cl u v r:=by unfold zeu;rw[h]
def countP_lt{n:Nat}{f g:Nat->Bool}(h:∀q,q<n->g q=true->f q=true){x:Nat}(hx:x<n)(h1:f x=true)(h2:g x=false):(List.range n).countP g<(List.range n).countP f:=by
 induction n with
 |zero=>omega
 |succ n ih =>
  rw[ycs,yee,yee,ydj,ydj];by_cases e:x=n
  ·subst e;have a0:(List.range x).countP g<=(List.range x).countP f:=List.countP_mono_left λq hq hg=>h q (by have:=yay.1 hq;omega) hg;rw[h1,h2];simp;omega
  ·have:=ih (λq hq=>h q (by omega)) (by omega)
   have h3:(if g n=true then 1 else 0)<=(if f n=true then 1 else 0:Nat):=by
    by_cases k:g n=true
    ·rw[if_pos k,if_pos (h n (by omega) k)];omega
    ·rw[if_neg k];omega
   omega
def ClsL.join{C:yab}{cl:Nat->Nat}(K:ClsL p s t C cl){u v:Nat}(hu:u<p.Next.length)(hv:v<p.Next.length)(hc:Cong p s t u v)(hn:p.Next.length<=10000000):∃C',zli C (u:Int) (v:Int)=some C'/\ClsL p s t C' (zeu cl u v)/\(cl u≠cl v->zjj p.Next.length (zeu cl u v)<zjj p.Next.length cl):=by
 have a5:=K.len
 have key:=za1 (step:=λ(q:yab×Nat)=>zli.s2 (↑(cl u):Int) (↑(cl v):Int) (↑(cl u):Int) (↑(cl v):Int) q.1 q.2) (λq=>q.2<=C.length/\Wrt (λb=>(↑(zeu cl u v b):Int)) C q.2 q.1) (λq=>C.length-q.2) (λr=>r=(List.range C.length).map λb=>(↑(zeu cl u v b):Int)) (λ⟨y,i⟩ ⟨g1,g2⟩=>by
  simp only at g1 g2
  simp only[zli.s2]
  have a9:=g2.len
  by_cases h:i<C.length
  ·left
   have hy:y[i]?=some (↑(cl i):Int):=(g2.cur h).trans (K.at_ i (by omega))
   rw[zkB (by omega),zkD,zah hy]
   by_cases e:cl i=max (cl u) (cl v)
   ·refine⟨(y.set i (min (↑(cl u):Int) (↑(cl v):Int)),i+1),by rw[zkB (by omega),zkD,zah hy],⟨h,g2.step h ?_⟩,by simp only;omega⟩
    unfold zeu
    rw[if_pos e]
    omega
   ·refine⟨(y,i+1),by rw[zkA (by omega),zkC],⟨h,g2.skip h ?_⟩,by simp only;omega⟩
    unfold zeu
    rw[if_neg e]
    exact K.at_ i (by omega)
  ·right
   exact⟨_,by rw[zkA (by omega),zkC],g2.done (by omega)⟩) fuel (C,0) ⟨yaf _,Wrt.zero _ _⟩ (by have:=zay;simp only;omega)
 obtain⟨r,e,rfl⟩:=key;have b2:min (cl u) (cl v)<p.Next.length:=by have:=K.le u hu;omega
 have a2:∀q,q<p.Next.length->cl q<p.Next.length:=λq hq=>by have:=K.le q hq;omega
 have a6:Cong p s t (cl u) (cl v):=(K.sound u hu).symm.trans (hc.trans (K.sound v hv))
 have a8:Cong p s t (max (cl u) (cl v)) (min (cl u) (cl v)):=by
  rcases yde (cl u) (cl v) with h|h
  ·rw[yds h,ycc h];exact a6.symm
  ·rw[ydv h,ycw h];exact a6
 have a3:cl (min (cl u) (cl v))=min (cl u) (cl v):=by
  rcases yde (cl u) (cl v) with h|h
  ·rw[ycc h];exact K.idem u hu
  ·rw[ycw h];exact K.idem v hv
 have a4:cl (max (cl u) (cl v))=max (cl u) (cl v):=by
  rcases yde (cl u) (cl v) with h|h
  ·rw[yds h];exact K.idem v hv
  ·rw[ydv h];exact K.idem u hu
 have a0:zeu cl u v (min (cl u) (cl v))=min (cl u) (cl v):=by
  unfold zeu;rw[a3];split<;>omega
 refine⟨(List.range C.length).map λb=>(↑(zeu cl u v b):Int),?_,⟨by simp[a5],λq hq=>?_,λq hq=>?_,λq hq=>?_,λq hq=>?_⟩,λb3=>?_⟩
 ·unfold zli;rw[za9 (i:=u) rfl (K.at_ u hu),za9 (i:=v) rfl (K.at_ v hv),za9 (i:=u) rfl (K.at_ u hu),za9 (i:=v) rfl (K.at_ v hv),e,zam]
 ·rw[yae,yba (by omega)];rfl
 ·have:=K.le q hq;unfold zeu;split<;>omega
 ·have h1:zeu cl u v q=min (cl u) (cl v)\/(zeu cl u v q=cl q/\cl q≠max (cl u) (cl v)):=by
   unfold zeu;split
   ·exact .inl rfl
   ·rename_i g;exact .inr ⟨rfl,g⟩
  rcases h1 with h1|⟨h1,h2⟩
  ·rw[h1,a0]
  ·rw[h1];unfold zeu;rw[K.idem q hq,if_neg h2]
 ·unfold zeu;split
  ·rename_i g;have:=K.sound q hq;rw[g]at this;exact this.trans a8
  ·exact K.sound q hq
 ·have b0:min (cl u) (cl v)<max (cl u) (cl v):=by omega
  have a7:max (cl u) (cl v)<p.Next.length:=by have:=a2 u hu;have:=a2 v hv;omega
  refine countP_lt (λq hq h=>?_) a7 (zkB a4) (zkA ?_)
  ·have h:=of_decide_eq_true h;refine zkB ?_;unfold zeu at h;split at h
   ·rename_i g;rw[<- h,a3]
   ·exact h
  ·unfold zeu;rw[a4,if_pos rfl];omega
structure FstOk(p:zaa)(cl:Nat->Nat)(a q:Nat)(F:yab):Prop where
 len:F.length=p.Next.length
 none_:∀c,c<p.Next.length->F[c]?=some (-1)->∀r,r<q->cl r=c->pnx p r a=-1
 some_:∀c,c<p.Next.length->F[c]?≠some (-1)->∃f:Nat,F[c]?=some (f:Int)/\f<q/\cl f=c/\pnx p f a≠-1/\∀r,r<q->cl r=c->pnx p r a≠-1->pot p f a=pot p r a/\cl (pnx p f a).toNat=cl (pnx p r a).toNat
def SymOk(p:zaa)(cl:Nat->Nat)(a:Nat):Prop:=∀q r,q<p.Next.length->r<p.Next.length->cl q=cl r->pnx p q a≠-1->pnx p r a≠-1->pot p q a=pot p r a/\cl (pnx p q a).toNat=cl (pnx p r a).toNat
end
end
section
section
variable {p:zaa}{s t:Nat}
def zmq(n:Nat)(cl:Nat->Nat):zjj n cl<=n:=by
 have:=yev (p:=λq=>decide (cl q=q)) (l:=List.range n);rw[ya4]at this;exact this
def cls_done(H:zb1 p)(hs:s<p.Next.length)(ht:t<p.Next.length){C:yab}{cl:Nat->Nat}(K:ClsL p s t C cl)(h0:cl s=cl t)(hS:∀a,a<p.Inputs.toNat->SymOk p cl a):(∀q,q<p.Next.length->cl q=clsOf p s t q)/\¬zge p s t:=by
 have a0:∀{q r:Nat},Cong p s t q r->q=r\/(q<p.Next.length/\r<p.Next.length/\cl q=cl r):=λh=>cong_into H hs ht h0 (λq r a u v hq hr e hu hv=>by
  obtain⟨_,ha,_⟩:=zff H hu
  have:=(hS a ha q r hq hr e (by rw[hu];omega) (by rw[hv];omega)).2
  rw[hu,hv]at this
  simpa using this) h
 refine⟨λq hq=>(clsOf_eq (K.sound q hq) λr hr=>?_).symm,λ⟨q,r,a,hc,h1,h2,h3⟩=>?_⟩
 ·rcases a0 hr with rfl|⟨_,hr2,e⟩
  ·exact K.le q hq
  ·rw[e];exact K.le r hr2
 ·have rng:∀q,pnx p q a≠-1->q<p.Next.length/\a<p.Inputs.toNat:=λq h=>by
   have hq:q<p.Next.length:=ybd λg=>h (by unfold pnx;rw[show p.Next[q]?=none from yat (by omega)];rfl);refine⟨hq,ybd λg=>h ?_⟩;obtain⟨x,y,e1,e2,e3,e4,e5⟩:=H.row q hq;unfold pnx;rw[e1,yaj,show x[a]?=none from yat (by omega)];rfl
  obtain⟨hq,ha⟩:=rng q h1;obtain⟨hr,_⟩:=rng r h2;rcases a0 hc with rfl|⟨_,_,e⟩
  ·exact h3 rfl
  ·exact h3 (hS a ha q r hq hr e h1 h2).1
end
end
section
def gx(N:yaa)(q a:Nat):Int:=(((N[q]?).getD [])[a]?).getD (-1)
structure Grid(n I:Nat)(N:yaa):Prop where
 len:N.length=n
 row:∀q,q<n->∃x,N[q]?=some x/\x.length=I
def Grid.at{n I:Nat}{N:yaa}(G:Grid n I N){q a:Nat}(hq:q<n)(ha:a<I):∃x,N[q]?=some x/\x[a]?=some (gx N q a)/\x.length=I:=by
 obtain⟨x,h1,h2⟩:=G.row q hq;refine⟨x,h1,?_,h2⟩;have hx:=get_at (l:=x) (i:=a) (by omega);unfold gx;rw[h1,yaj,hx,yaj]
def Grid.put{n I:Nat}{N:yaa}(G:Grid n I N){c a:Nat}{x:yab}(hc:c<n)(ha:a<I)(hx:N[c]?=some x)(v:Int):Grid n I (N.set c (x.set a v))/\∀q b,q<n->b<I->gx (N.set c (x.set a v)) q b=if q=c/\b=a then v else gx N q b:=by
 obtain⟨x',h1,h2⟩:=G.row c hc;rw[hx]at h1;injection h1 with h1
 subst h1;have a0:=G.len;constructor
 ·refine⟨by rw[ybb];exact G.len,λq hq=>?_⟩;by_cases e:q=c
  ·subst e;exact⟨_,ya2 (by omega),by rw[ybb];exact h2⟩
  ·rw[ya3 (by omega)];exact G.row q hq
 ·intro q b hq hb;by_cases e:q=c
  ·subst e;unfold gx;rw[ya2 (by omega),yaj];by_cases e2:b=a
   ·subst e2;rw[ya2 (by omega),yaj,if_pos ⟨rfl,rfl⟩]
   ·rw[ya3 (by omega),if_neg (λh=>e2 h.2),hx,yaj]
  ·unfold gx;rw[ya3 (by omega),if_neg (λh=>e h.1)]
def zb1.gn{p:zaa}(H:zb1 p):Grid p.Next.length p.Inputs.toNat p.Next:=⟨rfl,λq hq=>by
 obtain⟨x,y,h1,h2,h3,h4,h5⟩:=H.row q hq
 exact⟨x,h1,by omega⟩⟩
def zb1.go{p:zaa}(H:zb1 p):Grid p.Next.length p.Inputs.toNat p.Out:=⟨H.ol,λq hq=>by
 obtain⟨x,y,h1,h2,h3,h4,h5⟩:=H.row q hq
 exact⟨y,h2,by omega⟩⟩
structure UpOk(n:Nat)(cl:Nat->Nat)(M:List (Int×Int)):Prop where
 u0:∀q,q<n->cl q=q->mget (q:Int) M=none
 u1:∀q,q<n->cl q≠q->∃u:Nat,u<q/\mget (q:Int) M=some (u:Int)/\cl u=cl q
def of_eq{n:Nat}{cl:Nat->Nat}{M:List (Int×Int)}(U:UpOk n cl M)(hn:n<=10000000){u:Nat}(hu:u<n):zbu ⟨M⟩ (u:Int)=some ((↑(cl u):Int),M):=by
 unfold zbu
 have key:=za1 (step:=λ(s:Int)=>zbu.s1 ⟨M⟩ s) (λs=>∃v:Nat,s=(v:Int)/\v<=u/\cl v=cl u) (λs=>s.toNat) (λr=>r=((↑(cl u):Int),M)) (λs ⟨v,e,h1,h2⟩=>by
  subst e
  simp only[zbu.s1]
  by_cases g:cl v=v
  ·right
   rw[U.u0 v (by omega) g]
   exact⟨_,rfl,by rw[<- h2,g]⟩
  ·left
   obtain⟨w,w1,w2,w3⟩:=U.u1 v (by omega) g
   rw[w2]
   exact⟨_,rfl,⟨w,rfl,by omega,w3.trans h2⟩,by rw[yaj];omega⟩) fuel (↑u) ⟨u,rfl,yaq _,rfl⟩ (by have:=zay;omega)
 obtain⟨r,e,rfl⟩:=key;exact e
section
variable {p:zaa}{s t:Nat}
def ClsL.mm{C:yab}{cl:Nat->Nat}(K:ClsL p s t C cl){u v:Nat}(hu:u<p.Next.length)(hv:v<p.Next.length):cl (min (cl u) (cl v))=min (cl u) (cl v)/\cl (max (cl u) (cl v))=max (cl u) (cl v):=by
 rcases yde (cl u) (cl v) with h|h
 ·rw[ycc h,yds h];exact⟨K.idem u hu,K.idem v hv⟩
 ·rw[ycw h,ydv h];exact⟨K.idem v hv,K.idem u hu⟩
def joinF_min{C:yab}{cl:Nat->Nat}(K:ClsL p s t C cl){u v:Nat}(hu:u<p.Next.length)(hv:v<p.Next.length):zeu cl u v (min (cl u) (cl v))=min (cl u) (cl v):=by
 unfold zeu;rw[(K.mm hu hv).1];split<;>omega
def UpOk.join{C:yab}{cl:Nat->Nat}{M:List (Int×Int)}(K:ClsL p s t C cl)(U:UpOk p.Next.length cl M){u v:Nat}(hu:u<p.Next.length)(hv:v<p.Next.length)(hne:cl u≠cl v):UpOk p.Next.length (zeu cl u v) (mset (↑(max (cl u) (cl v)):Int) (↑(min (cl u) (cl v)):Int) M):=by
 obtain⟨m1,m2⟩:=K.mm hu hv;have hb:∀a b:Int,(a==b)=true↔a=b:=λa b=>beq_iff_eq;have a0:zeu cl u v (max (cl u) (cl v))=min (cl u) (cl v):=by unfold zeu;rw[m2,if_pos rfl]
 refine⟨λq hq h=>?_,λq hq h=>?_⟩
 ·by_cases e:q=max (cl u) (cl v)
  ·rw[e,a0]at h;omega
  ·rw[zga hb (by omega)];refine U.u0 q hq ?_;unfold zeu at h;split at h
   ·rw[<- h,m1]
   ·exact h
 ·by_cases e:q=max (cl u) (cl v)
  ·subst e;exact⟨min (cl u) (cl v),by omega,zg2 hb _,by rw[a0,joinF_min K hu hv]⟩
  ·rw[zga hb (by omega)]
   have h0:cl q≠q:=λg=>h (by
    unfold zeu
    rw[g,if_neg e])
   obtain⟨w,w1,w2,w3⟩:=U.u1 q hq h0;exact⟨w,w1,w2,zsv w3⟩
end
structure InI(n I:Nat)(N O:yaa)(W0:List T_A2)(c1 c2:Nat)(N1 O1:yaa)(W1:List T_A2)(a:Nat):Prop where
 gn:Grid n I N1
 go:Grid n I O1
 nx:∀q b,q<n->b<I->gx N1 q b=if q=c1/\b<a/\gx N c1 b=-1 then gx N c2 b else gx N q b
 ot:∀q b,q<n->b<I->gx O1 q b=if q=c1/\b<a/\gx N c1 b=-1 then gx O c2 b else gx O q b
 wk:∀w,w∈W1->w∈W0\/∃b,b<a/\gx N c1 b≠-1/\gx N c2 b≠-1/\w=⟨gx N c1 b,gx N c2 b⟩
 w0:∀w,w∈W0->w∈W1
 w1:∀b,b<a->gx N c1 b≠-1->gx N c2 b≠-1->gx O c1 b=gx O c2 b/\(⟨gx N c1 b,gx N c2 b⟩:T_A2)∈W1
 few:W1.length<=W0.length+a
def InQ(n I:Nat)(N O:yaa)(W0:List T_A2)(c1 c2:Nat)(r:(yaa×yaa×List T_A2)⊕((yaa×yaa×(List (Int×Int))×List T_A2)⊕((yaa×yaa×(List (Int×Int))×List T_A2)⊕((yaa×yaa×(List (Int×Int)))⊕(zaa×yab×Bool))))):Prop :=
 (r=.inr (.inr (.inr (.inr (⟨0,0,[],[]⟩,[],false))))/\∃b,b<I/\gx N c1 b≠-1/\gx N c2 b≠-1/\gx O c1 b≠gx O c2 b)\/∃N1 O1 W1,r=.inl (N1,O1,W1)/\InI n I N O W0 c1 c2 N1 O1 W1 I
def loop_in{n I:Nat}{N O:yaa}{W0:List T_A2}{c1 c2:Nat}{x y:Int×List (Int×Int)}(hmin:min x.1 y.1=(c1:Int))(hmax:max x.1 y.1=(c2:Int))(hc1:c1<n)(hc2:c2<n)(hne:c2≠c1){e:yab}(he:e.length=I)(hI:I<=64)(GN:Grid n I N)(GO:Grid n I O)
  (h1:∀b,b<I->gx N c1 b=-1->gx O c1 b=-1) (h2:∀b,b<I->gx N c2 b=-1->gx O c2 b=-1) (hW:W0.length<=1000000) :
  ∃r,iter (λ(s:yaa×yaa×List T_A2×Nat)=>zae.s43 x y e s.1 s.2.1 s.2.2.1 s.2.2.2) fuel (N,O,W0,0)=some r/\InQ n I N O W0 c1 c2 r:=by
 refine za1 (step:=λ(s:yaa×yaa×List T_A2×Nat)=>zae.s43 x y e s.1 s.2.1 s.2.2.1 s.2.2.2) (λs=>s.2.2.2<=I/\InI n I N O W0 c1 c2 s.1 s.2.1 s.2.2.1 s.2.2.2) (λs=>I-s.2.2.2) (InQ n I N O W0 c1 c2) (λ⟨N1,O1,W1,a⟩ ⟨g1,g2⟩=>?_) fuel (N,O,W0,0) ⟨yaf _,⟨GN,GO,λq b _ _=>?_,λq b _ _=>?_,λw hw=>.inl hw,λw hw=>hw,λb hb=>?_,yaq _⟩⟩ (by have:=zay;simp only;omega)
 ·simp only at g1 g2;unfold InQ;simp only[zae.s43,hmin,hmax,yah];by_cases ha:a<I
  ·obtain⟨x2,b3,a8,b4⟩:=g2.gn.at hc2 ha;obtain⟨x1,a7,a2,b5⟩:=g2.gn.at hc1 ha;obtain⟨y2,b0,a5,b7⟩:=g2.go.at hc2 ha;obtain⟨y1,a9,a6,b6⟩:=g2.go.at hc1 ha;have e2:gx N1 c2 a=gx N c2 a:=by rw[g2.nx c2 a hc2 ha,if_neg (λh=>hne h.1)]
   have e1:gx N1 c1 a=gx N c1 a:=by rw[g2.nx c1 a hc1 ha,if_neg (λh=>yfq _ h.2.1)]
   have o2:gx O1 c2 a=gx O c2 a:=by rw[g2.ot c2 a hc2 ha,if_neg (λh=>hne h.1)]
   have o1:gx O1 c1 a=gx O c1 a:=by rw[g2.ot c1 a hc1 ha,if_neg (λh=>yfq _ h.2.1)]
   rw[e1]at a2;rw[e2]at a8;rw[o1]at a6;rw[o2]at a5;have hf:=g2.few
   have a0:∀{q b:Nat} {A B D:Int},(q=c1->b=a->gx N c1 a=-1->A=B)->(if q=c1/\b<a/\gx N c1 b=-1 then A else B)=if q=c1/\b<a+1/\gx N c1 b=-1 then A else B:=λ{q b A B D} h=>by
    by_cases k:q=c1/\b<a/\gx N c1 b=-1
    ·rw[if_pos k,if_pos ⟨k.1,by omega,k.2.2⟩]
    ·rw[if_neg k];by_cases k2:q=c1/\b<a+1/\gx N c1 b=-1
     ·have:b=a:=Nat.le_antisymm (by omega) (yd4 λk3=>k ⟨k2.1,k3,k2.2.2⟩);subst this;rw[if_pos k2,h k2.1 rfl k2.2.2]
     ·rw[if_neg k2]
   rw[zkB (by omega),zkD,zah b3,zah a8];by_cases k2:gx N c2 a=-1
   ·left;refine⟨(N1,O1,W1,a+1),by rw[zkB k2,zkD,zaq (by unfold inR;omega)],⟨ha,g2.gn,g2.go,λq b hq hb=>?_,λq b hq hb=>?_,λw hw=>?_,g2.w0,λb hb a3 a4=>?_,by simp only;omega⟩,by simp only;omega⟩
    ·simp only;rw[g2.nx q b hq hb];exact a0 (D:=0) λe3 e4 e5=>by rw[e3,e4,k2,e5]
    ·simp only;rw[g2.ot q b hq hb];exact a0 (D:=0) λe3 e4 e5=>by rw[e3,e4,h1 a ha e5,h2 a ha k2]
    ·rcases g2.wk w hw with h|⟨b,b1,b2⟩
     ·exact .inl h
     ·exact .inr ⟨b,by simp only;omega,b2⟩
    ·exact g2.w1 b (ycu (by simp only at hb;omega) λe3=>a4 (by rw[e3];exact k2)) a3 a4
   ·rw[zkA k2,zkC,za9 (i:=c1) rfl a7,zah a2];by_cases k1:gx N c1 a=-1
    ·left;obtain⟨p1,p2⟩:=g2.gn.put hc1 ha a7 (gx N c2 a);obtain⟨r1,r2⟩:=g2.go.put hc1 ha a9 (gx O c2 a);refine⟨(N1.set c1 (x1.set a (gx N c2 a)),O1.set c1 (y1.set a (gx O c2 a)),W1,a+1),by rw[zkB k1,zkD,za9 (i:=c1) rfl a7,za9 (i:=c1) rfl a9,za9 (i:=c2) rfl b0,zah a5,zah a2,zah a6,zaq (by unfold inR;omega)],⟨ha,p1,r1,λq b hq hb=>?_,λq b hq hb=>?_,λw hw=>?_,g2.w0,λb hb a3 a4=>?_,by simp only;omega⟩,by simp only;omega⟩
     ·simp only;rw[p2 q b hq hb];by_cases k:q=c1/\b=a
      ·rw[if_pos k,if_pos ⟨k.1,by omega,by rw[k.2];exact k1⟩,k.2]
      ·rw[if_neg k,g2.nx q b hq hb];exact a0 (D:=0) λe3 e4=>absurd ⟨e3,e4⟩ k
     ·simp only;rw[r2 q b hq hb];by_cases k:q=c1/\b=a
      ·rw[if_pos k,if_pos ⟨k.1,by omega,by rw[k.2];exact k1⟩,k.2]
      ·rw[if_neg k,g2.ot q b hq hb];exact a0 (D:=0) λe3 e4=>absurd ⟨e3,e4⟩ k
     ·rcases g2.wk w hw with h|⟨b,b1,b2⟩
      ·exact .inl h
      ·exact .inr ⟨b,by simp only;omega,b2⟩
     ·exact g2.w1 b (ycu (by simp only at hb;omega) λe3=>a3 (by rw[e3];exact k1)) a3 a4
    ·rw[zkA k1,zkC,za9 (i:=c1) rfl a9,zah a6,za9 (i:=c2) rfl b0,zah a5];by_cases k3:gx O c1 a≠gx O c2 a
     ·right;exact⟨_,by rw[zkB k3,zkD],.inl ⟨rfl,a,ha,k1,k2,k3⟩⟩
     ·left;have k3:=ydl.1 k3;refine⟨(N1,O1,W1++[⟨gx N c1 a,gx N c2 a⟩],a+1),by rw[zkA (λh=>h k3),zkC,za9 (i:=c1) rfl a7,zah a2,zaq (by unfold za5;omega),zaq (by unfold inR;omega)],⟨ha,g2.gn,g2.go,λq b hq hb=>?_,λq b hq hb=>?_,λw hw=>?_,λw hw=>yan _ (g2.w0 w hw),λb hb a3 a4=>?_,by simp only[zkJ,ybc];omega⟩,by simp only;omega⟩
      ·simp only;rw[g2.nx q b hq hb];exact a0 (D:=0) λ_ _ e5=>absurd e5 k1
      ·simp only;rw[g2.ot q b hq hb];exact a0 (D:=0) λ_ _ e5=>absurd e5 k1
      ·rcases yam.1 hw with hw|hw
       ·rcases g2.wk w hw with h|⟨b,b1,b2⟩
        ·exact .inl h
        ·exact .inr ⟨b,by simp only;omega,b2⟩
       ·exact .inr ⟨a,by simp only;omega,k1,k2,yag.1 hw⟩
      ·by_cases e3:b=a
       ·rw[e3];exact⟨k3,yai _ (yag.2 rfl)⟩
       ·obtain⟨q1,q2⟩:=g2.w1 b (by simp only at hb;omega) a3 a4;exact⟨q1,yan _ q2⟩
  ·right;have e3:a=I:=by omega
   rw[e3]at g2;exact⟨_,by rw[zkA (by omega),zkC],.inr ⟨N1,O1,W1,rfl,g2⟩⟩
 ·rw[if_neg (λh=>ybg _ h.2.1)]
 ·rw[if_neg (λh=>ybg _ h.2.1)]
 ·exact absurd hb (ybg _)
end
section
def Lab(n:Nat)(cl:Nat->Nat)(W:List T_A2)(f:Nat->Nat):Prop:=(∀q r,q<n->r<n->cl q=cl r->f q=f r)/\∀u v:Nat,(⟨(u:Int),(v:Int)⟩:T_A2)∈W->f u=f v
structure zn4(p:zaa)(s t:Nat)(cl:Nat->Nat)(N O:yaa)(M:List (Int×Int))(W:List T_A2):Prop where
 gn:Grid p.Next.length p.Inputs.toNat N
 go:Grid p.Next.length p.Inputs.toNat O
 cls:∃C,ClsL p s t C cl
 up:UpOk p.Next.length cl M
 wk:∀w,w∈W->∃u v:Nat,w=⟨(u:Int),(v:Int)⟩/\u<p.Next.length/\v<p.Next.length/\Cong p s t u v
 st:∀f,Lab p.Next.length cl W f->f s=f t
 row:∀c a,c<p.Next.length->a<p.Inputs.toNat->cl c=c->(gx N c a=-1->gx O c a=-1/\∀r,r<p.Next.length->cl r=c->pnx p r a=-1)/\(gx N c a≠-1->∃u:Nat,gx N c a=(u:Int)/\u<p.Next.length/\(∃r,r<p.Next.length/\cl r=c/\pnx p r a=(u:Int)/\pot p r a=gx O c a)/\∀r,r<p.Next.length->cl r=c->pnx p r a≠-1->pot p r a=gx O c a/\∀f,Lab p.Next.length cl W f->f u=f (pnx p r a).toNat)
 few:65*zjj p.Next.length cl+W.length<=65*p.Next.length+1
 rng:∀q a,q<p.Next.length->a<p.Inputs.toNat->gx N q a=-1\/∃u:Nat,gx N q a=(u:Int)/\u<p.Next.length
section
variable {p:zaa}{s t:Nat}
def zn4.join{cl:Nat->Nat}{N O:yaa}{M:List (Int×Int)}{W:List T_A2}{u v:Nat}(H:zb1 p)(F:zn4 p s t cl N O M (⟨(u:Int),(v:Int)⟩::W))(hu:u<p.Next.length)(hv:v<p.Next.length)(huv:Cong p s t u v)(hne:cl u≠cl v){N1 O1:yaa}{W1:List T_A2}(J:InI p.Next.length p.Inputs.toNat N O W (min (cl u) (cl v)) (max (cl u) (cl v)) N1 O1 W1 p.Inputs.toNat) :
  zn4 p s t (zeu cl u v) N1 O1 (mset (↑(max (cl u) (cl v)):Int) (↑(min (cl u) (cl v)):Int) M) W1/\65*zjj p.Next.length (zeu cl u v)+W1.length<65*zjj p.Next.length cl+(W.length+1):=by
 obtain⟨C,K⟩:=F.cls;have hn:=H.n2;have hi:=H.i2;obtain⟨C',_,K',a8⟩:=K.join hu hv huv (by omega);have a8:=a8 hne;obtain⟨m1,m2⟩:=K.mm hu hv;have c8:=F.up.join K hu hv hne;have d7:=K.le u hu;have d4:=K.le v hv
 have d0:Cong p s t (min (cl u) (cl v)) (max (cl u) (cl v)):=by
  have h0:Cong p s t (cl u) (cl v):=(K.sound u hu).symm.trans (huv.trans (K.sound v hv));rcases yde (cl u) (cl v) with h|h
  ·rw[yds h,ycc h];exact h0
  ·rw[ydv h,ycw h];exact h0.symm
 have hj:∀r,zeu cl u v r=if cl r=max (cl u) (cl v) then min (cl u) (cl v) else cl r:=λr=>rfl
 have b6:=joinF_same cl u v;have d8:min (cl u) (cl v)<max (cl u) (cl v):=by omega
 have b8:min (cl u) (cl v)<p.Next.length:=by omega
 have b7:max (cl u) (cl v)<p.Next.length:=by omega
 generalize d6:min (cl u) (cl v)=c1 at *;generalize d5:max (cl u) (cl v)=c2 at *;have c9:∀r,cl r=c1->zeu cl u v r=c1:=λr h=>by rw[hj,h,if_neg (by omega)]
 have c6:∀r,cl r=c2->zeu cl u v r=c1:=λr h=>by rw[hj,h,if_pos rfl]
 have c7:∀r c,cl r=c->c≠c2->zeu cl u v r=c:=λr c h h2=>by rw[hj,h,if_neg h2]
 have a6:∀f,Lab p.Next.length (zeu cl u v) W1 f->Lab p.Next.length cl (⟨(u:Int),(v:Int)⟩::W) f:=λf ⟨f1,f2⟩=>⟨λq r hq hr e=>f1 q r hq hr (zsv e),λu' v' h=>by
  rcases yaw.1 h with h|h
  ·injection h with h3 h4
   have e1:u'=u:=by omega
   have e2:v'=v:=by omega
   rw[e1,e2]
   exact f1 _ _ hu hv b6
  ·exact f2 u' v' (J.w0 _ h)⟩
 have b9:=F.few;have hJ:=J.few;rw[zkL]at b9
 have c0:∀q a,q<p.Next.length->a<p.Inputs.toNat->gx N1 q a=-1\/∃u:Nat,gx N1 q a=(u:Int)/\u<p.Next.length:=λq a hq ha=>by
  rw[J.nx q a hq ha];split
  ·exact F.rng _ _ b7 ha
  ·exact F.rng _ _ hq ha
 refine⟨⟨J.gn,J.go,⟨C',K'⟩,c8,λw hw=>?_,λf hf=>F.st f (a6 f hf),λc a hc ha a9=>?_,by omega,c0⟩,by omega⟩
 ·rcases J.wk w hw with h|⟨b,b1,b2,b3,b4⟩
  ·exact F.wk w (yau _ h)
  ·obtain⟨u1,a1,a2,⟨r1,d1,d2,d3,_⟩,_⟩:=(F.row c1 b b8 b1 m1).2 b2;obtain⟨u2,e1,e2,⟨r2,g1,g2,g3,_⟩,_⟩:=(F.row c2 b b7 b1 m2).2 b3;refine⟨u1,u2,by rw[b4,a1,e1],a2,e2,.step b u1 u2 ?_ d3 g3⟩;have k1:=K.sound r1 d1;have k2:=K.sound r2 g1;rw[d2]at k1;rw[g2]at k2;exact k1.trans (d0.trans k2.symm)
 ·have b0:cl c=c/\c≠c2:=by
   rw[hj]at a9;split at a9
   ·rename_i g;rw[<- a9,m1]at g;omega
   ·rename_i g;exact⟨a9,λe=>g (by rw[e];exact m2)⟩
  have a0:∀r,zeu cl u v r=c->cl r=c\/(c=c1/\cl r=c2):=λr h=>by
   rw[hj]at h;split at h
   ·rename_i g;exact .inr ⟨h.symm,g⟩
   ·exact .inl h
  by_cases e:c=c1
  ·have hN:=J.nx c a hc ha;have hO:=J.ot c a hc ha;rw[e]at hN hO a0;rw[e];have a3:=F.row c1 a b8 ha m1;have a7:=F.row c2 a b7 ha m2;by_cases k1:gx N c1 a=-1
   ·rw[if_pos ⟨rfl,ha,k1⟩]at hN hO;rw[hN,hO];refine⟨λk2=>⟨(a7.1 k2).1,λr hr a5=>?_⟩,λk2=>?_⟩
    ·rcases a0 r a5 with h|⟨_,h⟩
     ·exact(a3.1 k1).2 r hr h
     ·exact(a7.1 k2).2 r hr h
    ·obtain⟨u2,a1,a2,⟨r2,b1,b2,b3,b4⟩,a4⟩:=a7.2 k2;refine⟨u2,a1,a2,⟨r2,b1,c6 _ b2,b3,b4⟩,λr hr a5 hp=>?_⟩;rcases a0 r a5 with h|⟨_,h⟩
     ·exact absurd ((a3.1 k1).2 r hr h) hp
     ·obtain⟨d1,d2⟩:=a4 r hr h hp;exact⟨d1,λf hf=>d2 f (a6 f hf)⟩
   ·rw[if_neg (λh=>k1 h.2.2)]at hN hO;rw[hN,hO];refine⟨λk=>absurd k k1,λ_=>?_⟩;obtain⟨u1,a1,a2,⟨r1,b1,b2,b3,b4⟩,a4⟩:=a3.2 k1;refine⟨u1,a1,a2,⟨r1,b1,c9 _ b2,b3,b4⟩,λr hr a5 hp=>?_⟩;rcases a0 r a5 with h|⟨_,h⟩
    ·obtain⟨d1,d2⟩:=a4 r hr h hp;exact⟨d1,λf hf=>d2 f (a6 f hf)⟩
    ·have k2:gx N c2 a≠-1:=λk=>hp ((a7.1 k).2 r hr h);obtain⟨u2,e1,e2,_,e4⟩:=a7.2 k2;obtain⟨d1,d2⟩:=e4 r hr h hp;obtain⟨j1,j2⟩:=J.w1 a ha k1 k2;rw[a1,e1]at j2;exact⟨by rw[j1];exact d1,λf hf=>(hf.2 u1 u2 j2).trans (d2 f (a6 f hf))⟩
  ·have hN:=J.nx c a hc ha;have hO:=J.ot c a hc ha;rw[if_neg (λh=>e h.1)]at hN hO;rw[hN,hO];have a3:=F.row c a hc ha b0.1;have b5:∀r,zeu cl u v r=c->cl r=c:=λr h=>(a0 r h).elim id λh=>absurd h.1 e;refine⟨λk=>⟨(a3.1 k).1,λr hr a5=>(a3.1 k).2 r hr (b5 r a5)⟩,λk=>?_⟩;obtain⟨u1,a1,a2,⟨r1,b1,b2,b3,b4⟩,a4⟩:=a3.2 k;refine⟨u1,a1,a2,⟨r1,b1,c7 _ _ b2 b0.2,b3,b4⟩,λr hr a5 hp=>?_⟩;obtain⟨d1,d2⟩:=a4 r hr (b5 r a5) hp;exact⟨d1,λf hf=>d2 f (a6 f hf)⟩
def fold_step(H:zb1 p){cl:Nat->Nat}{N O:yaa}{M:List (Int×Int)}{W:List T_A2}(F:zn4 p s t cl N O M W) :
  (W=[]/\zae.s46 N O M W=some (.inr (.inl (N,O,M))))\/(zae.s46 N O M W=some (.inr (.inr (⟨0,0,[],[]⟩,[],false)))/\zge p s t)\/∃N' O' M' W' cl',zae.s46 N O M W=some (.inl (N',O',M',W'))/\zn4 p s t cl' N' O' M' W'/\65*zjj p.Next.length cl'+W'.length<65*zjj p.Next.length cl+W.length:=by
 have hn:=H.n2;have hi:=H.i2;cases W with
 |nil=>exact .inl ⟨rfl,by unfold zae.s46;rw[zkA (by simp),zkC]⟩
 |cons w W =>
  right;obtain⟨u,v,rfl,hu,hv,a8⟩:=F.wk w ybl;obtain⟨C,K⟩:=F.cls;have a7:=F.few;rw[zkL]at a7;have b9:=K.le u hu;have b8:=K.le v hv;have e0:=of_eq F.up (by omega) hu;have e1:=of_eq F.up (by omega) hv;by_cases g:cl u=cl v
  ·right;refine⟨N,O,M,W,cl,?_,⟨F.gn,F.go,F.cls,F.up,λw hw=>F.wk w (yau _ hw),λf hf=>F.st f ?_,λc a hc ha b5=>?_,by omega,F.rng⟩,by rw[zkL];omega⟩
   ·unfold zae.s46;rw[zkB (by rw[zkL];omega),zkD,zah (x:=⟨(u:Int),(v:Int)⟩) rfl,e0,zam,zah (x:=⟨(u:Int),(v:Int)⟩) rfl,e1,zam,zaq (by simp),zkB (by simp[g]),zkD,zam,ybx];rfl
   ·refine⟨hf.1,λu' v' h=>?_⟩;rcases yaw.1 h with h|h
    ·injection h with h3 h4
     have q1:u'=u:=by omega
     have q2:v'=v:=by omega
     rw[q1,q2];exact hf.1 u v hu hv g
    ·exact hf.2 u' v' h
   ·have a6:∀f,Lab p.Next.length cl W f->Lab p.Next.length cl (⟨(u:Int),(v:Int)⟩::W) f:=λf hf=>⟨hf.1,λu' v' h=>by
     rcases yaw.1 h with h|h
     ·injection h with h3 h4
      have q1:u'=u:=by omega
      have q2:v'=v:=by omega
      rw[q1,q2]
      exact hf.1 u v hu hv g
     ·exact hf.2 u' v' h⟩
    obtain⟨r1,r2⟩:=F.row c a hc ha b5;refine⟨r1,λk=>?_⟩;obtain⟨x,a1,a2,a3,a4⟩:=r2 k;exact⟨x,a1,a2,a3,λr hr a9 hp=>⟨(a4 r hr a9 hp).1,λf hf=>(a4 r hr a9 hp).2 f (a6 f hf)⟩⟩
  ·have a5:min (cl u) (cl v)<p.Next.length:=by omega
   have a0:max (cl u) (cl v)<p.Next.length:=by omega
   obtain⟨m1,m2⟩:=K.mm hu hv;obtain⟨x2,b7,b0⟩:=F.gn.row _ a0;obtain⟨r,e,hr⟩:=loop_in (W0:=W) (c1:=min (cl u) (cl v)) (c2:=max (cl u) (cl v)) (x:=((↑(cl u):Int),M)) (y:=((↑(cl v):Int),M)) (show min (↑(cl u):Int) (↑(cl v):Int)=_ by omega) (show max (↑(cl u):Int) (↑(cl v):Int)=_ by omega) a5 a0 (by omega) b0 (by omega) F.gn F.go (λb hb h=>((F.row _ b a5 hb m1).1 h).1) (λb hb h=>((F.row _ b a0 hb m2).1 h).1) (by omega)
   have es:zae.s46 N O M (⟨(u:Int),(v:Int)⟩::W)=((Sum.elim (λ(s:yaa×yaa×List T_A2)=>zae.k44 (mset (↑(max (cl u) (cl v)):Int) (↑(min (cl u) (cl v)):Int) M) s.1 s.2.1 s.2.2) some r)).bind (Sum.elim (λ(s:yaa×yaa×(List (Int×Int))×List T_A2)=>zae.k45 s.1 s.2.1 s.2.2.1 s.2.2.2) some):=by
    unfold zae.s46
    have ej:zdx ⟨M⟩ (min (↑(cl u):Int) (↑(cl v):Int)) (max (↑(cl u):Int) (↑(cl v):Int))=some (mset (↑(max (cl u) (cl v)):Int) (↑(min (cl u) (cl v)):Int) M):=by
     unfold zdx;rw[show max (↑(cl u):Int) (↑(cl v):Int)=(↑(max (cl u) (cl v)):Int) by omega,show min (↑(cl u):Int) (↑(cl v):Int)=(↑(min (cl u) (cl v)):Int) by omega]
    rw[zkB (by rw[zkL];omega),zkD,zah (x:=⟨(u:Int),(v:Int)⟩) rfl,e0,zam,zah (x:=⟨(u:Int),(v:Int)⟩) rfl,e1,zam,zaq (by simp),zkA (by simp only;omega),zkC,ej,zam,za9 (i:=max (cl u) (cl v)) (by simp only;omega) b7,List.drop_succ_cons,yd2,e,zam]
   rw[es];rcases hr with⟨hr,b,b1,b2,b3,b4⟩|⟨N1,O1,W1,hr,J⟩
   ·left;refine⟨by rw[hr,yc1,zam,yc1],?_⟩;obtain⟨u1,_,_,⟨r1,d1,d2,d3,d4⟩,_⟩:=(F.row _ b a5 b1 m1).2 b2;obtain⟨u2,_,_,⟨r2,g1,g2,g3,g4⟩,_⟩:=(F.row _ b a0 b1 m2).2 b3;have k1:=K.sound r1 d1;have k2:=K.sound r2 g1;rw[d2]at k1;rw[g2]at k2;have h0:Cong p s t (cl u) (cl v):=(K.sound u hu).symm.trans (a8.trans (K.sound v hv))
    have b6:Cong p s t (min (cl u) (cl v)) (max (cl u) (cl v)):=by
     rcases yde (cl u) (cl v) with h|h
     ·rw[yds h,ycc h];exact h0
     ·rw[ydv h,ycw h];exact h0.symm
    exact⟨r1,r2,b,k1.trans (b6.trans k2.symm),by rw[d3];omega,by rw[g3];omega,by rw[d4,g4];exact b4⟩
   ·right;obtain⟨F',hd⟩:=F.join H hu hv a8 g J;exact⟨N1,O1,_,W1,_,by rw[hr,ybx];unfold zae.k44;rw[zam,ybx];rfl,F',by rw[zkL];exact hd⟩
def repsM(n:Nat)(M:List (Int×Int)):Nat:=(List.range n).countP λ(q:Nat)=>(mget (q:Int) M).isNone
def loop_fold(H:zb1 p)(hs:s<p.Next.length)(ht:t<p.Next.length) :
  ∃r,iter (λ(q:yaa×yaa×(List (Int×Int))×List T_A2)=>zae.s46 q.1 q.2.1 q.2.2.1 q.2.2.2) fuel (p.Next,p.Out,[],[⟨(s:Int),(t:Int)⟩])=some r /\
   ((r=.inr (⟨0,0,[],[]⟩,[],false)/\zge p s t)\/∃N O M cl,r=.inl (N,O,M)/\zn4 p s t cl N O M []):=by
 have hn:=H.n2;have hi:=H.i2;have K0:ClsL p s t ((List.range p.Next.length).map λ(b:Nat)=>(b:Int)) (λb=>b):=⟨by simp,λq hq=>by rw[yae,yba hq];rfl,λq _=>yaq q,λ_ _=>rfl,λq _=>.refl q⟩
 have F0:zn4 p s t (λb=>b) p.Next p.Out [] [⟨(s:Int),(t:Int)⟩]:=by
  refine⟨H.gn,H.go,⟨_,K0⟩,⟨λq _ _=>rfl,λq _ h=>absurd rfl h⟩,λw hw=>⟨s,t,yag.1 hw,hs,ht,.base⟩,λf hf=>hf.2 s t (yag.2 rfl),λc a hc ha _=>?_,?_,λq a hq ha=>?_⟩
  ·obtain⟨n1,n2,n3,n4,n5,_⟩:=H.at hc ha;have h1:gx p.Next c a=pnx p c a:=rfl;have h2:gx p.Out c a=pot p c a:=rfl;rw[h1,h2];refine⟨λh=>⟨n5.1 h,λr _ e=>by rw[e];exact h⟩,λh=>⟨(pnx p c a).toNat,by omega,by omega,⟨c,hc,rfl,by omega,rfl⟩,λr _ e _=>?_⟩⟩;rw[e];exact⟨rfl,λf _=>rfl⟩
  ·have:=zmq p.Next.length λb=>b;simp only[ybc];omega
  ·obtain⟨n1,n2,_⟩:=H.at hq ha;have h1:gx p.Next q a=pnx p q a:=rfl;rw[h1];by_cases k:pnx p q a=-1
   ·exact .inl k
   ·exact .inr ⟨(pnx p q a).toNat,by omega,by omega⟩
 have hm:∀(cl:Nat->Nat) (M:List (Int×Int)),UpOk p.Next.length cl M->repsM p.Next.length M=zjj p.Next.length cl:=λcl M U=>by
  unfold repsM zjj;refine List.countP_congr λq hq=>?_;have hq:=yay.1 hq;by_cases h:cl q=q
  ·rw[U.u0 q hq h,zkB h];simp
  ·obtain⟨w,_,w2,_⟩:=U.u1 q hq h;rw[w2,zkA h];simp
 refine za1 (step:=λ(q:yaa×yaa×(List (Int×Int))×List T_A2)=>zae.s46 q.1 q.2.1 q.2.2.1 q.2.2.2) (λq=>∃cl,zn4 p s t cl q.1 q.2.1 q.2.2.1 q.2.2.2) (λq=>65*repsM p.Next.length q.2.2.1+q.2.2.2.length) (λr=>(r=.inr (⟨0,0,[],[]⟩,[],false)/\zge p s t)\/∃N O M cl,r=.inl (N,O,M)/\zn4 p s t cl N O M []) (λ⟨N,O,M,W⟩ ⟨cl,F⟩=>?_) fuel _ ⟨_,F0⟩ ?_
 ·simp only at F;simp only;rcases fold_step H F with⟨e1,e2⟩|⟨e1,e2⟩|⟨N',O',M',W',a0,e1,F',e2⟩
  ·rw[e1]at F;exact .inr ⟨_,e2,.inr ⟨N,O,M,cl,rfl,F⟩⟩
  ·exact .inr ⟨_,e1,.inl ⟨rfl,e2⟩⟩
  ·exact .inl ⟨(N',O',M',W'),e1,⟨a0,F'⟩,by simp only;rw[hm _ _ F.up,hm _ _ F'.up];exact e2⟩
 ·have h1:=hm _ _ F0.up;have h2:=zmq p.Next.length λb=>b;have:=zay;simp only[ybc];omega
def zn4.done(H:zb1 p)(hs:s<p.Next.length)(ht:t<p.Next.length){cl:Nat->Nat}{N O:yaa}{M:List (Int×Int)}(F:zn4 p s t cl N O M []):(∀q,q<p.Next.length->cl q=clsOf p s t q)/\¬zge p s t:=by
 obtain⟨C,K⟩:=F.cls;have a0:Lab p.Next.length cl [] cl:=⟨λ_ _ _ _ h=>h,λ_ _ h=>by cases h⟩;refine cls_done H hs ht K (F.st cl a0) λa ha q r hq hr e h1 h2=>?_;have hc:cl q<p.Next.length:=by have:=K.le q hq;omega
 obtain⟨r1,r2⟩:=F.row (cl q) a hc ha (K.idem q hq);by_cases k:gx N (cl q) a=-1
 ·exact absurd ((r1 k).2 q hq rfl) h1
 ·obtain⟨u,a1,a2,a3,a4⟩:=r2 k;obtain⟨b1,b2⟩:=a4 q hq rfl h1;obtain⟨c1,c2⟩:=a4 r hr e.symm h2;exact⟨b1.trans c1.symm,(b2 cl a0).symm.trans (c2 cl a0)⟩
end
end
section
def ze3{α:Type}[DecidableEq α]:∀{a b:List α},a.Nodup->(∀x∈a,x∈b)->a.length<=b.length
 |[],_,_,_=>yaf _
 |x::a,b,hn,h=>by
  obtain⟨h1,h2⟩:=yb0.1 hn;have:=ze3 (a:=a) (b:=b.erase x) h2 λy hy=>(List.mem_erase_of_ne (λe=>h1 (by rw[<- e];exact hy))).2 (h y (yau _ hy));rw[yfe (h x ybl)]at this;have hp:0<b.length:=yem (h x ybl);rw[zkL];omega
def addT(L:List Nat)(t:Int):List Nat:=if t=-1\/t.toNat∈L then L else L++[t.toNat]
def bfsL(R:Nat->yab):Nat->Nat->List Nat->List Nat
 |0,_,L=>L
 |f+1,i,L=>match L[i]? with
  |none=>L
  |some c=>bfsL R f (i+1) ((R c).foldl addT L)
structure NumL(n:Nat)(L:List Nat)(nums:yab):Prop where
 len:nums.length=n
 at_:∀c,c<n->nums[c]?=some (if c∈L then(↑(L.idxOf c):Int) else -1)
 nd:L.Nodup
 lt:∀c,c∈L->c<n
def NumL.le{n:Nat}{L:List Nat}{nums:yab}(A:NumL n L nums):L.length<=n:=by
 have:=ze3 (b:=List.range n) A.nd λx hx=>yay.2 (A.lt x hx)
 rwa [ya4]at this
def NumL.push{n:Nat}{L:List Nat}{nums:yab}(A:NumL n L nums){c:Nat}(hc:c<n)(h:c∉L):NumL n (L++[c]) (nums.set c (L.length:Int)):=by
 have hl:=A.len;refine⟨by rw[ybb];exact A.len,λd hd=>?_,?_,λd hd=>?_⟩
 ·by_cases e:d=c
  ·subst e;rw[ya2 (by omega),if_pos (yai _ (yag.2 rfl)),ydm,if_neg h];simp
  ·rw[ya3 (by omega),A.at_ d hd];by_cases k:d∈L
   ·rw[if_pos k,if_pos (yan _ k),ydm,if_pos k]
   ·rw[if_neg k,if_neg (λg=>(yam.1 g).elim k λg=>e (yag.1 g))]
 ·refine ybm.2 ⟨A.nd,by simp,λa ha b hb=>?_⟩;rw[yag.1 hb];exact λg=>h (by rw[<- g];exact ha)
 ·rcases yam.1 hd with k|k
  ·exact A.lt d k
  ·rw[yag.1 k];exact hc
def zch(L:List Nat):yab:=L.map λ(c:Nat)=>(c:Int)
def loop_s18{n:Nat}{e:yab}(he:∀(k:Nat) (t:Int),e[k]?=some t->t=-1\/∃u:Nat,t=(u:Int)/\u<n)(hl:e.length<=1000000){L:List Nat}{nums:yab}(A:NumL n L nums)(hn:n<=1000000) :
  ∃nums',iter (λ(s:yab×yab×Nat)=>zai.s18 e s.1 s.2.1 s.2.2) fuel (nums,zch L,0)=some (nums',zch (e.foldl addT L))/\NumL n (e.foldl addT L) nums':=by
 have key:=za1 (step:=λ(s:yab×yab×Nat)=>zai.s18 e s.1 s.2.1 s.2.2) (λs=>s.2.2<=e.length/\∃L',s.2.1=zch L'/\NumL n L' s.1/\(e.drop s.2.2).foldl addT L'=e.foldl addT L) (λs=>e.length-s.2.2) (λr=>∃nums',r=(nums',zch (e.foldl addT L))/\NumL n (e.foldl addT L) nums') (λ⟨y,z,k⟩ ⟨g1,L',g2,g3,g4⟩=>by
  simp only at g1 g2 g3 g4
  subst g2
  simp only[zai.s18]
  by_cases h:k<e.length
  ·left
   have hx:=get_at h
   have hd:(e.drop k).foldl addT L'=(e.drop (k+1)).foldl addT (addT L' e[k]):=by rw[yb1 h,yc6]
   rw[hd]at g4
   rw[zdw hx,zkD,zah hx]
   by_cases t0:e[k]=-1
   ·exact⟨(y,zch L',k+1),by rw[zkA (λg=>g t0),zkC,zam,zkC],⟨h,L',rfl,g3,by rw[<- g4];unfold addT;rw[if_pos (.inl t0)]⟩,by simp only;omega⟩
   ·obtain⟨u,hu,a0⟩:=(he k _ hx).resolve_left t0
    have hy:=g3.at_ u a0
    rw[zkB t0,zkD,za9 (i:=u) hu hy,zam]
    by_cases k1:u∈L'
    ·rw[if_pos k1,zkA (by omega),zkC]
     exact⟨(y,zch L',k+1),rfl,⟨h,L',rfl,g3,by rw[<- g4];unfold addT;rw[if_pos (.inr (by rw[hu];exact k1))]⟩,by simp only;omega⟩
    ·have a3:=g3.le
     have a2:(zch L').length=L'.length:=by unfold zch;rw[zkK]
     rw[if_neg k1,zkB rfl,zkD,za9 (i:=u) hu hy,zaq (by unfold za5;omega)]
     refine⟨(y.set u (L'.length:Int),zch (L'++[u]),k+1),?_,⟨h,L'++[u],rfl,g3.push a0 k1,?_⟩,by simp only;omega⟩
     ·rw[hu,a2]
      unfold zch
      rw[ya0,yah]
      rfl
     ·rw[<- g4]
      unfold addT
      rw[if_neg (λg=>g.elim t0 λg=>k1 (by rw[hu]at g;exact g)),hu,yah]
  ·right
   have e1:k=e.length:=by omega
   subst e1
   rw[yfd]at g4
   refine⟨_,by rw[zf4,zkC],y,?_,?_⟩
   ·rw[<- g4];rfl
   ·rw[<- g4];exact g3) fuel (nums,zch L,0) ⟨yaf _,L,rfl,A,rfl⟩ (by have:=zay;simp only;omega)
 obtain⟨r,e1,nums',rfl,h⟩:=key;exact⟨nums',e1,h⟩
structure zsi(p:zaa):Prop where
 i1:0<=p.Inputs
 i2:p.Inputs<=64
 n2:p.Next.length<=1000000
 st:∃c:Nat,p.Start=(c:Int)/\c<p.Next.length
 gn:Grid p.Next.length p.Inputs.toNat p.Next
 go:Grid p.Next.length p.Inputs.toNat p.Out
 rng:∀q a,q<p.Next.length->a<p.Inputs.toNat->gx p.Next q a=-1\/∃u:Nat,gx p.Next q a=(u:Int)/\u<p.Next.length
def ordP(p:zaa):List Nat:=bfsL (λc=>(p.Next[c]?).getD []) (p.Next.length+1) 0 [p.Start.toNat]
def zin{x:Nat}(hx:x<=1000000):zda (x:Int)=some (List.replicate x (-1)):=by
 unfold zda;rw[zaq ⟨by omega,yc0 _,by unfold za5;omega⟩,yah]
 have key:=za1 (step:=λ(q:yab×Nat)=>zda.s2 (x:Int) q.1 q.2) (λq=>q.2<=x/\Wrt (λ_=>(-1:Int)) (List.replicate x 0) q.2 q.1) (λq=>x-q.2) (λr=>r=List.replicate x (-1)) (λ⟨y,i⟩ ⟨g1,g2⟩=>by
  simp only at g1 g2
  simp only[zda.s2,yah,yak]
  have a0:=g2.len
  rw[yak]at a0
  by_cases h:i<x
  ·left
   exact⟨(y.set i (-1),i+1),by rw[zkB (by omega),zkD,zah (get_at (l:=y) (i:=i) (by omega)),zaq (by unfold inR;omega)],⟨h,g2.step (by rw[yak];exact h) rfl⟩,by simp only;omega⟩
  ·right
   refine⟨_,by rw[zkA (by omega),zkC],?_⟩
   rw[g2.done (by rw[yak];omega),yak]
   exact yca λb=>by
    by_cases g:b<x
    ·rw[yae,yba g,ybi,if_pos g];rfl
    ·rw[yat (by simp;omega),yat (by simp;omega)]) fuel (List.replicate x 0,0) ⟨yaf _,Wrt.zero _ _⟩ (by have:=zay;simp only;omega)
 obtain⟨r,e,rfl⟩:=key;rw[e,zam]
def loop_s20{p:zaa}(R:zsi p):∃nums,iter (λ(s:yab×yab×Nat)=>zai.s20 p s.1 s.2.1 s.2.2) fuel ((List.replicate p.Next.length (-1)).set p.Start.toNat 0,[p.Start],0)=some (nums,zch (ordP p))/\NumL p.Next.length (ordP p) nums:=by
 obtain⟨c,hc,a4⟩:=R.st;have hn:=R.n2
 have A0:NumL p.Next.length [c] ((List.replicate p.Next.length (-1)).set c 0):=by
  have B:NumL p.Next.length [] (List.replicate p.Next.length (-1)):=⟨yak,λd hd=>by rw[ybi,if_pos hd,if_neg yfa],yc4,λd hd=>by cases hd⟩;exact B.push a4 yfa
 have key:=za1 (step:=λ(s:yab×yab×Nat)=>zai.s20 p s.1 s.2.1 s.2.2) (λs=>∃L,s.2.1=zch L/\s.2.2<=L.length/\NumL p.Next.length L s.1/\bfsL (λc=>(p.Next[c]?).getD []) (p.Next.length+1-s.2.2) s.2.2 L=ordP p) (λs=>p.Next.length+1-s.2.2) (λr=>∃nums,r=(nums,zch (ordP p))/\NumL p.Next.length (ordP p) nums) (λ⟨y,z,i⟩ ⟨L,g1,g2,g3,g4⟩=>by
  simp only at g1 g2 g3 g4
  subst g1
  simp only[zai.s20]
  have a7:=g3.le
  have a3:(zch L).length=L.length:=by unfold zch;rw[zkK]
  by_cases h:i<L.length
  ·left
   have hx:=get_at h
   have hq:L[i]<p.Next.length:=g3.lt _ (ya7 h)
   obtain⟨x,x1,x2⟩:=R.gn.row _ hq
   obtain⟨a2,e1,e2⟩:=loop_s18 (e:=x) (λk t hk=>by
    have a6:=(zkI.1 hk).1
    have:=R.rng L[i] k hq (by omega)
    unfold gx at this
    rw[x1,yaj,hk,yaj]at this
    exact this) (by have:=R.i2;omega) g3 hn
   have a5:=e2.le
   have a0:i+1<=(x.foldl addT L).length:=by
    have:∀(x:yab) (L:List Nat),L.length<=(x.foldl addT L).length:=by
     intro x
     induction x with
     |nil=>exact λL=>yaq _
     |cons t x ih =>
      intro L
      rw[yc6]
      refine ycg ?_ (ih _)
      unfold addT
      split
      ·exact yaq _
      ·rw[zkJ];omega
    have:=this x L
    omega
   refine⟨(a2,zch (x.foldl addT L),i+1),?_,⟨_,rfl,a0,e2,?_⟩,by simp only;omega⟩
   ·rw[zkB (by omega),zkD,zah (x:=(↑L[i]:Int)) (by unfold zch;rw[yae,hx];rfl),za9 (i:=L[i]) rfl x1,e1,zam]
    rfl
   ·rw[<- g4,show p.Next.length+1-i=(p.Next.length+1-(i+1))+1 by omega]
    simp only[bfsL,hx,x1,yaj]
  ·right
   have e1:ordP p=L:=by
    rw[<- g4]
    cases hk:p.Next.length+1-i with
    |zero=>rfl
    |succ k =>
     simp only[bfsL]
     rw[show L[i]?=none from yat (by omega)]
   exact⟨_,by rw[zkA (by omega),zkC],y,by rw[e1],by rw[e1];exact g3⟩) fuel ((List.replicate p.Next.length (-1)).set p.Start.toNat 0,[p.Start],0) ⟨[c],by rw[hc];rfl,yaf _,by rw[hc];exact A0,by unfold ordP;rw[hc,yah];rfl⟩ (by have:=zay;simp only;omega)
 obtain⟨r,e1,nums,rfl,h⟩:=key;exact⟨nums,e1,h⟩
end
section
def numT(F:List Nat)(t:Int):Int:=if t≠-1/\t.toNat∈F then(↑(F.idxOf t.toNat):Int) else -1
def zhi(p:zaa)(F:List Nat)(c:Nat):yab:=(List.range p.Inputs.toNat).map λa=>numT F (gx p.Next c a)
def zjd(p:zaa)(c:Nat):yab:=(List.range p.Inputs.toNat).map λa=>if gx p.Next c a=-1 then(-1:Int) else gx p.Out c a
def loop_s38{p:zaa}(R:zsi p){F:List Nat}{nums:yab}(A:NumL p.Next.length F nums){c:Nat}(hc:c<p.Next.length){x:yab}(hx:p.Next[c]?=some x) :
  iter (λ(s:yab×yab×Nat)=>zai.s38 p nums (c:Int) x s.1 s.2.1 s.2.2) fuel (List.replicate p.Inputs.toNat (-1),List.replicate p.Inputs.toNat (-1),0)=some (zhi p F c,zjd p c):=by
 have hi:=R.i2;obtain⟨x',a0,a5⟩:=R.gn.row c hc;rw[hx]at a0;injection a0 with a0
 subst a0
 have key:=za1 (step:=λ(s:yab×yab×Nat)=>zai.s38 p nums (c:Int) x s.1 s.2.1 s.2.2) (λs=>s.2.2<=p.Inputs.toNat/\Wrt (λa=>numT F (gx p.Next c a)) (List.replicate p.Inputs.toNat (-1)) s.2.2 s.1/\Wrt (λa=>if gx p.Next c a=-1 then(-1:Int) else gx p.Out c a) (List.replicate p.Inputs.toNat (-1)) s.2.2 s.2.1) (λs=>p.Inputs.toNat-s.2.2) (λr=>r=(zhi p F c,zjd p c)) (λ⟨y,z,k⟩ ⟨g1,g2,g3⟩=>by
  simp only at g1 g2 g3
  simp only[zai.s38]
  have a2:=g2.len
  have a4:=g3.len
  rw[yak]at a2 a4
  by_cases h:k<p.Inputs.toNat
  ·left
   obtain⟨x1,q1,q2,q3⟩:=R.gn.at hc h
   obtain⟨o1,r1,r2,r3⟩:=R.go.at hc h
   rw[hx]at q1
   injection q1 with q1
   subst q1
   rw[zkB (by omega),zkD,zah q2]
   by_cases t0:gx p.Next c k=-1
   ·refine⟨(y,z,k+1),by rw[zkA (λg=>g t0),zkC],⟨h,g2.skip (by rw[yak];exact h) ?_,g3.skip (by rw[yak];exact h) ?_⟩,by simp only;omega⟩
    ·rw[ybi,if_pos h]
     unfold numT
     rw[if_neg (λg=>g.1 t0)]
    ·rw[ybi,if_pos h,if_pos t0]
   ·obtain⟨u,hu,a3⟩:=(R.rng c k hc h).resolve_left t0
    have hy:=A.at_ u a3
    refine⟨(y.set k (numT F (gx p.Next c k)),z.set k (gx p.Out c k),k+1),?_,⟨h,g2.step (by rw[yak];exact h) rfl,g3.step (by rw[yak];exact h) (by rw[if_neg t0])⟩,by simp only;omega⟩
    rw[zkB t0,zkD,za9 (i:=u) hu hy,za9 (i:=c) rfl r1,zah r2,zah (get_at (l:=y) (i:=k) (by omega)),zah (get_at (l:=z) (i:=k) (by omega))]
    have:numT F (gx p.Next c k)=if u∈F then(↑(F.idxOf u):Int) else -1:=by
     unfold numT
     rw[hu,yah]
     by_cases k1:u∈F
     ·rw[if_pos ⟨by omega,k1⟩,if_pos k1]
     ·rw[if_neg (λg=>k1 g.2),if_neg k1]
    rw[this]
  ·right
   have e1:k=p.Inputs.toNat:=by omega
   subst e1
   refine⟨_,by rw[zkA (by omega),zkC],?_⟩
   rw[g2.done (by rw[yak];exact yaq _),g3.done (by rw[yak];exact yaq _),yak]
   rfl) fuel (List.replicate p.Inputs.toNat (-1),List.replicate p.Inputs.toNat (-1),0) ⟨yaf _,Wrt.zero _ _,Wrt.zero _ _⟩ (by have:=zay;simp only;omega)
 obtain⟨r,e1,rfl⟩:=key;exact e1
def renP(p:zaa):zaa:=⟨p.Inputs,0,(ordP p).map (zhi p (ordP p)),(ordP p).map (zjd p)⟩
def zcu{p:zaa}(R:zsi p):∃nums,zai p=some (renP p,nums)/\NumL p.Next.length (ordP p) nums:=by
 obtain⟨nums,e1,A⟩:=loop_s20 R;obtain⟨c,hc,a3⟩:=R.st;have hn:=R.n2;have hi:=R.i2;have a0:=R.i1;have a7:=A.le;refine⟨nums,?_,A⟩
 have a4:zda p.Inputs=some (List.replicate p.Inputs.toNat (-1)):=by
  have:=zin (x:=p.Inputs.toNat) (by omega)
  rwa [ydu a0]at this
 have a2:(zch (ordP p)).length=(ordP p).length:=by unfold zch;rw[zkK]
 have key:=za1 (step:=λ(s:yaa×yaa×Nat)=>zai.s40 p nums (zch (ordP p)) s.1 s.2.1 s.2.2) (λs=>s.2.2<=(ordP p).length/\s.1=((ordP p).take s.2.2).map (zhi p (ordP p))/\s.2.1=((ordP p).take s.2.2).map (zjd p)) (λs=>(ordP p).length-s.2.2) (λr=>r=((ordP p).map (zhi p (ordP p)),(ordP p).map (zjd p))) (λ⟨y,z,k⟩ ⟨g1,g2,g3⟩=>by
  simp only at g1 g2 g3
  subst g2
  subst g3
  simp only[zai.s40]
  by_cases h:k<(ordP p).length
  ·left
   have hx:=get_at h
   have hq:(ordP p)[k]<p.Next.length:=A.lt _ (ya7 h)
   obtain⟨x,x1,x2⟩:=R.gn.row _ hq
   have a5:(((ordP p).take k).map (zhi p (ordP p))).length=k:=by rw[zkK,yas];omega
   have a6:(((ordP p).take k).map (zjd p)).length=k:=by rw[zkK,yas];omega
   refine⟨(((ordP p).take (k+1)).map (zhi p (ordP p)),((ordP p).take (k+1)).map (zjd p),k+1),?_,⟨h,rfl,rfl⟩,by simp only;omega⟩
   rw[zkB (by omega),zkD,zah (x:=(↑(ordP p)[k]:Int)) (by unfold zch;rw[yae,hx];rfl),a4,zam,zam,za9 (i:=(ordP p)[k]) rfl x1,loop_s38 R A hq x1,zam]
   unfold zai.k39
   simp only
   rw[zaq (by unfold za5;omega),zaq (by unfold za5;omega),ycd h,ya0,ya0]
   rfl
  ·right
   have e1:k=(ordP p).length:=by omega
   subst e1
   exact⟨_,by rw[zkA (by omega),zkC],by rw[ybw]⟩) fuel ([],[],0) ⟨yaf _,rfl,rfl⟩ (by have:=zay;simp only;omega)
 obtain⟨r,e2,rfl⟩:=key;unfold zai;rw[zin hn,zam,za9 (i:=c) hc (x:=(-1:Int)) (by rw[ybi,if_pos a3]),e1,zam];unfold zai.k42;simp only;rw[e2,zam];rfl
end
section
def place_eq{L:List Nat}{d:Nat}(hl:L.length<=10000000):zfv (zch L) (d:Int)=some (↑(L.idxOf d):Int):=by
 have a0:(zch L).length=L.length:=by unfold zch;rw[zkK]
 have key:=za1 (step:=λ(i:Nat)=>zfv.s2 (zch L) (d:Int) i) (λi=>i<=L.length/\d∉L.take i) (λi=>L.length-i) (λr=>r=L.idxOf d) (λi ⟨g1,g2⟩=>by
  simp only[zfv.s2]
  by_cases h:i<L.length
  ·have hx:=get_at h
   rw[zkB (by omega),zkD,zah (x:=(↑L[i]:Int)) (by unfold zch;rw[yae,hx];rfl),zam]
   by_cases e:L[i]=d
   ·right
    refine⟨i,by rw[zkA (by omega),zkC],?_⟩
    have hL:L=L.take i++L[i]::L.drop (i+1):=by rw[<- yb1 h,yeu]
    rw[hL,ydm,if_neg g2,e,List.idxOf_cons_self,yal,yas]
    omega
   ·left
    refine⟨i+1,by rw[zkB (by omega),zkD,zaq (by unfold inR;omega)],⟨h,λhm=>?_⟩,by omega⟩
    rw[ycd h]at hm
    rcases yam.1 hm with k|k
    ·exact g2 k
    ·exact e (yag.1 k).symm
  ·right
   have e1:i=L.length:=by omega
   subst e1
   rw[ybw]at g2
   exact⟨L.length,by rw[zkA (by omega),zkC,zam,zkC],(List.idxOf_eq_length g2).symm⟩) fuel 0 ⟨yaf _,by simp⟩ (by have:=zay;omega)
 obtain⟨r,e1,rfl⟩:=key;unfold zfv;rw[e1,zam]
section
variable {p:zaa}
def knownQ_eq(H:zb1 p){cl:Nat->Nat}{c a:Nat}(ha:a<p.Inputs.toNat):∃k,zh5 p ((List.range p.Next.length).map λq=>(↑(cl q):Int)) (c:Int) (a:Int)=some k/\((k=-1/\∀r,r<p.Next.length->cl r=c->pnx p r a=-1)\/∃q:Nat,k=(q:Int)/\q<p.Next.length/\cl q=c/\pnx p q a≠-1):=by
 have hn:=H.n2
 have key:=za1 (step:=λ(q:Nat)=>zh5.s2 p ((List.range p.Next.length).map λq=>(↑(cl q):Int)) (c:Int) (a:Int) q) (λq=>q<=p.Next.length/\∀r,r<q->cl r=c->pnx p r a=-1) (λq=>p.Next.length-q) (λr=>(r=.inl ()/\∀r,r<p.Next.length->cl r=c->pnx p r a=-1)\/∃q:Nat,r=.inr (q:Int)/\q<p.Next.length/\cl q=c/\pnx p q a≠-1) (λq ⟨g1,g2⟩=>by
  simp only[zh5.s2,zkK,ya4]
  by_cases h:q<p.Next.length
  ·obtain⟨_,_,_,_,_,x,y,hx,hy,a2,a3,_,_⟩:=H.at h ha
   rw[zkB (by omega),zkD,zah (x:=(↑(cl q):Int)) (by rw[yae,yba h];rfl)]
   by_cases e:cl q=c
   ·rw[zkB (by omega),zkD,zah hx,za9 (i:=a) rfl a2,zam]
    by_cases k:pnx p q a=-1
    ·left
     refine⟨q+1,by rw[zkA (λg=>g k),zkC],⟨h,λr hr a0=>?_⟩,by omega⟩
     by_cases e2:r=q
     ·rw[e2];exact k
     ·exact g2 r (by omega) a0
    ·right
     exact⟨_,by rw[zkB k,zkD],.inr ⟨q,rfl,h,e,k⟩⟩
   ·left
    refine⟨q+1,by rw[zkA (by omega),zkC,zam,zkC],⟨h,λr hr a0=>?_⟩,by omega⟩
    by_cases e2:r=q
    ·rw[e2]at a0;exact absurd a0 e
    ·exact g2 r (by omega) a0
  ·right
   have e1:q=p.Next.length:=by omega
   subst e1
   exact⟨_,by rw[zkA (by omega),zkC],.inl ⟨rfl,g2⟩⟩) fuel 0 ⟨yaf _,λr hr=>absurd hr (ybg _)⟩ (by have:=zay;omega)
 obtain⟨r,e1,hr⟩:=key;unfold zh5;rw[e1,zam];rcases hr with⟨rfl,h⟩|⟨q,rfl,h⟩
 ·exact⟨-1,by rw[ybx],.inl ⟨rfl,h⟩⟩
 ·exact⟨_,by rw[yc1],.inr ⟨q,rfl,h⟩⟩
structure zpi(p Q:zaa)(cl:Nat->Nat):Prop where
 ren:zsi Q
 len:Q.Next.length=p.Next.length
 inp:Q.Inputs=p.Inputs
 st:Q.Start=(↑(cl p.Start.toNat):Int)
 idem:∀q,q<p.Next.length->cl (cl q)=cl q
 lt:∀q,q<p.Next.length->cl q<p.Next.length
 row:∀c a,c<p.Next.length->a<p.Inputs.toNat->cl c=c->(gx Q.Next c a=-1->∀r,r<p.Next.length->cl r=c->pnx p r a=-1)/\(gx Q.Next c a≠-1->(∃r,r<p.Next.length/\cl r=c/\pnx p r a≠-1)/\∀r,r<p.Next.length->cl r=c->pnx p r a≠-1->gx Q.Next c a=(↑(cl (pnx p r a).toNat):Int)/\pot p r a=gx Q.Out c a)
structure OrdI(n:Nat)(cl:Nat->Nat)(L:List Nat):Prop where
 nd:L.Nodup
 lt:∀c,c∈L->c<n/\cl c=c
def OrdI.le{n:Nat}{cl:Nat->Nat}{L:List Nat}(A:OrdI n cl L):L.length<=n:=by
 have:=ze3 (b:=List.range n) A.nd λx hx=>yay.2 (A.lt x hx).1
 rwa [ya4]at this
def OrdI.push{n:Nat}{cl:Nat->Nat}{L:List Nat}(A:OrdI n cl L){c:Nat}(hc:c<n)(h2:cl c=c)(h:c∉L):OrdI n cl (L++[c]):=by
 refine⟨ybm.2 ⟨A.nd,by simp,λa ha b hb=>?_⟩,λd hd=>?_⟩
 ·rw[yag.1 hb];exact λg=>h (by rw[<- g];exact ha)
 ·rcases yam.1 hd with k|k
  ·exact A.lt d k
  ·rw[yag.1 k];exact⟨hc,h2⟩
def numT_grow{L L':List Nat}(h:L <+: L'){t:Int}(ht:t=-1\/t.toNat∈L):numT L' t=numT L t:=by
 obtain⟨K,rfl⟩:=h;unfold numT;by_cases t0:t=-1
 ·rw[if_neg (λg=>g.1 t0),if_neg (λg=>g.1 t0)]
 ·have h:=ht.resolve_left t0;rw[if_pos ⟨t0,yan _ h⟩,if_pos ⟨t0,h⟩,ydm,if_pos h]
def loop_s54(H:zb1 p){Q:zaa}{cl:Nat->Nat}(K:zpi p Q cl){L:List Nat}(A:OrdI p.Next.length cl L){i c:Nat}(hi:L[i]?=some c){x:yab}(hx:Q.Next[c]?=some x) :
  ∃L',iter (λ(s:yab×yab×yab×Nat)=>zco.s54 p ((List.range p.Next.length).map λq=>(↑(cl q):Int)) i s.1 s.2.1 s.2.2.1 s.2.2.2) fuel (zch L,[],[],0)=some (zch L',zhi Q L' c,zjd Q c)/\L'=x.foldl addT L/\L <+: L'/\OrdI p.Next.length cl L'/\∀b,b<p.Inputs.toNat->gx Q.Next c b=-1\/(gx Q.Next c b).toNat∈L':=by
 have hn:=H.n2;have d6:=H.i2;obtain⟨hc,d1⟩:=A.lt c (zkH hi)
 have c0:x.length=p.Inputs.toNat:=by
  obtain⟨x',q1,q2⟩:=K.ren.gn.row c (by rw[K.len];exact hc);rw[hx]at q1;injection q1 with q1
  rw[q1,q2,K.inp]
 have d0:∀b,b<p.Inputs.toNat->x[b]?=some (gx Q.Next c b):=λb hb=>by
  obtain⟨x',q1,q2,_⟩:=K.ren.gn.at (q:=c) (a:=b) (by rw[K.len];exact hc) (by rw[K.inp];exact hb);rw[hx]at q1;injection q1 with q1
  rw[q1,q2]
 have key:=za1 (step:=λ(s:yab×yab×yab×Nat)=>zco.s54 p ((List.range p.Next.length).map λq=>(↑(cl q):Int)) i s.1 s.2.1 s.2.2.1 s.2.2.2) (λs=>s.2.2.2<=p.Inputs.toNat/\∃La,s.1=zch La/\La=(x.take s.2.2.2).foldl addT L/\L <+: La/\OrdI p.Next.length cl La/\(∀b,b<s.2.2.2->gx Q.Next c b=-1\/(gx Q.Next c b).toNat∈La)/\s.2.1=(List.range s.2.2.2).map (λb=>numT La (gx Q.Next c b))/\s.2.2.1=(List.range s.2.2.2).map (λa=>if gx Q.Next c a=-1 then(-1:Int) else gx Q.Out c a)) (λs=>p.Inputs.toNat-s.2.2.2) (λr=>∃L',r=(zch L',zhi Q L' c,zjd Q c)/\L'=x.foldl addT L/\L <+: L'/\OrdI p.Next.length cl L'/\∀b,b<p.Inputs.toNat->gx Q.Next c b=-1\/(gx Q.Next c b).toNat∈L') (λ⟨l,y,z,a⟩ ⟨g1,La,g2,g3,g4,g5,g6,g7,g8⟩=>by
  simp only at g1 g2 g3 g6 g7 g8
  subst g2
  subst g7
  subst g8
  simp only[zco.s54]
  have d5:=g5.le
  have a8:∀L:List Nat,(zch L).length=L.length:=λL=>by unfold zch;rw[zkK]
  by_cases ha:a<p.Inputs.toNat
  ·left
   have b9:=d0 a ha
   have c6:(zch La)[i]?=some (c:Int):=by
    obtain⟨T,rfl⟩:=g4
    unfold zch
    rw[yae,ya5 (zkI.1 hi).1,hi]
    rfl
   have hf:(x.take (a+1)).foldl addT L=addT La (gx Q.Next c a):=by
    have h1:a<x.length:=by omega
    have h2:=get_at h1
    rw[b9]at h2
    injection h2 with h2
    rw[ycd h1,yd0,<- g3,<- h2]
    rfl
   have a6:∀(l x y:yab),zco.k53 a l x y=some (.inl (l,x,y,a+1)):=λl x y=>by
    unfold zco.k53
    rw[zaq (by unfold inR;omega)]
   obtain⟨k,e1,hk⟩:=knownQ_eq H (cl:=cl) (c:=c) ha
   obtain⟨b4,a3⟩:=K.row c a hc ha d1
   rw[zkB (by clear hk a3;omega),zkD,zah c6,e1,zam]
   by_cases t0:gx Q.Next c a=-1
   ·have c8:k=-1:=by
     rcases hk with h|⟨q,_,q2,q3,q4⟩
     ·exact h.1
     ·exact absurd (b4 t0 q q2 q3) q4
    clear hk a3
    have c7:addT La (gx Q.Next c a)=La:=by unfold addT;rw[if_pos (.inl t0)]
    refine⟨(zch La,(List.range (a+1)).map (λb=>numT La (gx Q.Next c b)),(List.range (a+1)).map (λa=>if gx Q.Next c a=-1 then(-1:Int) else gx Q.Out c a),a+1),?_,⟨ha,La,rfl,by rw[hf,c7],g4,g5,λb hb=>?_,rfl,rfl⟩,by simp only;omega⟩
    ·rw[zkB c8,zkD,zaq (by unfold za5;rw[zkK,ya4];omega),zaq (by unfold za5;rw[zkK,ya4];omega),zam,a6,ycs,ya0,ya0,ydw,ydw,if_pos t0,show numT La (gx Q.Next c a)=-1 by unfold numT;rw[if_neg (λg=>g.1 t0)]]
    ·by_cases e:b=a
     ·rw[e];exact .inl t0
     ·exact g6 b (by simp only at hb;omega)
   ·obtain⟨⟨r0,r1,r2,r3⟩,b7⟩:=a3 t0
    obtain⟨q,q1,q2,q3,q4⟩:∃q:Nat,k=(q:Int)/\q<p.Next.length/\cl q=c/\pnx p q a≠-1:=by
     rcases hk with h|h
     ·exact absurd (h.2 r0 r1 r2) r3
     ·exact h
    clear hk a3
    obtain⟨m1,m2⟩:=b7 q q2 q3 q4
    obtain⟨w1,w2,w3,w4,w5,xr,yr,d2,c9,b3,b8,_,_⟩:=H.at q2 ha
    obtain⟨u,hu⟩:∃u:Nat,pnx p q a=(u:Int):=⟨(pnx p q a).toNat,by omega⟩
    have a9:u<p.Next.length:=by omega
    rw[hu,yah]at m1
    have d3:=K.lt u a9
    have b0:=K.idem u a9
    -- the order behind this symbol
    have a0:addT La (gx Q.Next c a)=if cl u∈La then La else La++[cl u]:=by
     unfold addT
     rw[m1,yah]
     by_cases h:cl u∈La
     ·rw[if_pos (.inr h),if_pos h]
     ·rw[if_neg (λg=>g.elim (by omega) h),if_neg h]
    have hb:((zfv (zch La) (↑(cl u):Int)).bind λa2=>cond (decide (a2=(↑(List.length (zch La)):Int))) (chk (za5 (List.length (zch La)+1) 8) (some (zch La++[(↑(cl u):Int)]))) (some (zch La)):Option (yab))=some (zch (addT La (gx Q.Next c a))):=by
     rw[place_eq (by omega),zam,a8,a0]
     by_cases h:cl u∈La
     ·have:=yby h
      rw[if_pos h,zkA (by omega),zkC]
     ·have:=List.idxOf_eq_length h
      rw[if_neg h,zkB (by omega),zkD,zaq (by unfold za5;omega)]
      unfold zch
      rw[ya0]
      rfl
    have a4:La <+: addT La (gx Q.Next c a):=by
     rw[a0]
     split
     ·exact yb9 _
     ·exact ye3 _ _
    have a5:cl u∈addT La (gx Q.Next c a):=by
     rw[a0]
     split
     ·assumption
     ·exact yai _ (yag.2 rfl)
    have a7:OrdI p.Next.length cl (addT La (gx Q.Next c a)):=by
     rw[a0]
     split
     ·exact g5
     ·rename_i h;exact g5.push d3 b0 h
    have d4:=a7.le
    refine⟨(zch (addT La (gx Q.Next c a)),(List.range (a+1)).map (λb=>numT (addT La (gx Q.Next c a)) (gx Q.Next c b)),(List.range (a+1)).map (λa=>if gx Q.Next c a=-1 then(-1:Int) else gx Q.Out c a),a+1),?_,⟨ha,_,rfl,hf.symm,g4.trans a4,a7,λb b2=>?_,rfl,rfl⟩,by simp only;omega⟩
    ·rw[zkA (by omega),zkC,za9 (i:=q) q1 d2,zah b3,hu,za9 (i:=u) rfl (x:=(↑(cl u):Int)) (by rw[yae,yba a9];rfl),hb,zam,place_eq (by omega),zam,zaq (by unfold za5;rw[zkK,ya4];omega),za9 (i:=q) q1 c9,zah b8,zaq (by unfold za5;rw[zkK,ya4];omega),zam,a6,ycs,ya0,ya0,ydw,ydw,if_neg t0,m2]
     have b6:(List.range a).map (λb=>numT La (gx Q.Next c b))=(List.range a).map (λb=>numT (addT La (gx Q.Next c a)) (gx Q.Next c b)):=yda λb b2=>(numT_grow a4 (g6 b (yay.1 b2))).symm
     have b5:numT (addT La (gx Q.Next c a)) (gx Q.Next c a)=(↑((addT La (gx Q.Next c a)).idxOf (cl u)):Int):=by
      generalize hG:addT La (gx Q.Next c a)=G at a5 ⊢
      unfold numT
      rw[m1,yah,if_pos ⟨by omega,a5⟩]
     rw[b6,b5]
    ·by_cases e:b=a
     ·rw[e];right;rw[m1,yah,<- m1];exact a5
     ·rcases g6 b (by simp only at b2;omega) with h|h
      ·exact .inl h
      ·exact .inr (a4.subset h)
  ·right
   have e1:a=p.Inputs.toNat:=by omega
   subst e1
   rw[<- c0,ybw]at g3
   refine⟨_,by rw[zkA (by have:=H.i1;omega),zkC],La,?_,g3,g4,g5,g6⟩
   unfold zhi zjd
   rw[K.inp]) fuel (zch L,[],[],0) ⟨yaf _,L,rfl,rfl,yb9 _,A,λb hb=>absurd hb (ybg _),rfl,rfl⟩ (by have:=zay;simp only;omega)
 obtain⟨r,e1,L',rfl,h⟩:=key;exact⟨L',e1,h⟩
end
end
section
section
variable {p:zaa}
def foldl_len(x:yab):∀L:List Nat,L.length<=(x.foldl addT L).length:=by
 induction x with
 |nil=>exact λL=>yaq _
 |cons t x ih =>
  intro L;rw[yc6];refine ycg ?_ (ih _);unfold addT;split
  ·exact yaq _
  ·rw[zkJ];omega
def R35_Folded_eq(H:zb1 p){Q:zaa}{cl:Nat->Nat}(K:zpi p Q cl):zco p ((List.range p.Next.length).map λq=>(↑(cl q):Int))=some (renP Q,zch (ordP Q))/\OrdI p.Next.length cl (ordP Q):=by
 have hn:=H.n2;have a6:=H.st;have hs:p.Start.toNat<p.Next.length:=by omega
 have a0:∀L:List Nat,(zch L).length=L.length:=λL=>by unfold zch;rw[zkK]
 have A0:OrdI p.Next.length cl [cl p.Start.toNat]:=⟨by simp,λc hc=>by
  rw[yag.1 hc]
  exact⟨K.lt _ hs,K.idem _ hs⟩⟩
 have key:=za1 (step:=λ(s:yab×yaa×yaa×Nat)=>zco.s56 p ((List.range p.Next.length).map λq=>(↑(cl q):Int)) s.1 s.2.1 s.2.2.1 s.2.2.2) (λs=>∃L,s.1=zch L/\s.2.2.2<=L.length/\OrdI p.Next.length cl L/\bfsL (λc=>(Q.Next[c]?).getD []) (Q.Next.length+1-s.2.2.2) s.2.2.2 L=ordP Q/\s.2.1=(L.take s.2.2.2).map (zhi Q L)/\s.2.2.1=(L.take s.2.2.2).map (zjd Q)/\∀c,c∈L.take s.2.2.2->∀b,b<p.Inputs.toNat->gx Q.Next c b=-1\/(gx Q.Next c b).toNat∈L) (λs=>p.Next.length+1-s.2.2.2) (λr=>r=(zch (ordP Q),(ordP Q).map (zhi Q (ordP Q)),(ordP Q).map (zjd Q))/\OrdI p.Next.length cl (ordP Q)) (λ⟨l,y,z,i⟩ ⟨L,g1,g2,g3,g4,g5,g6,g7⟩=>by
  simp only at g1 g2 g4 g5 g6 g7
  subst g1
  subst g5
  subst g6
  simp only[zco.s56]
  have a7:=g3.le
  by_cases h:i<L.length
  ·left
   have hx:=get_at h
   obtain⟨hc,a8⟩:=g3.lt L[i] (ya7 h)
   obtain⟨x,x1,x2⟩:=K.ren.gn.row L[i] (by rw[K.len];exact hc)
   obtain⟨L',e1,e2,e3,e4,e5⟩:=loop_s54 H K g3 hx x1
   have a5:i+1<=L'.length:=by
    have:=foldl_len x L
    rw[<- e2]at this
    omega
   have a4:L'.take (i+1)=L.take i++[L[i]]:=by
    obtain⟨T,rfl⟩:=e3
    rw[yc7 (by omega),ycd h]
   refine⟨(zch L',(L'.take (i+1)).map (zhi Q L'),(L'.take (i+1)).map (zjd Q),i+1),?_,⟨L',rfl,a5,e4,?_,rfl,rfl,λc a2 b hb=>?_⟩,by simp only;omega⟩
   ·rw[zkB (by rw[a0];omega),zkD,e1,zam]
    unfold zco.k55
    simp only
    have a3:(L.take i).map (zhi Q L)=(L.take i).map (zhi Q L'):=yda λc a2=>by
     unfold zhi
     refine yda λb hb=>(numT_grow e3 (g7 c a2 b ?_)).symm
     have:=yay.1 hb
     rwa [K.inp]at this
    rw[zaq (by unfold za5;rw[zkK,yas];omega),zaq (by unfold za5;rw[zkK,yas];omega),a4,ya0,ya0,a3]
    rfl
   ·rw[<- g4,show Q.Next.length+1-i=(Q.Next.length+1-(i+1))+1 by rw[K.len];omega]
    simp only[bfsL,hx,x1,yaj]
    rw[e2]
   ·rw[a4]at a2
    rcases yam.1 a2 with k|k
    ·exact(g7 c k b hb).elim .inl λk=>.inr (e3.subset k)
    ·rw[yag.1 k];exact e5 b hb
  ·right
   have e1:i=L.length:=by omega
   have e2:ordP Q=L:=by
    rw[<- g4]
    cases hk:Q.Next.length+1-i with
    |zero=>rfl
    |succ k =>
     simp only[bfsL]
     rw[show L[i]?=none from yat (by omega)]
   subst e1
   refine⟨_,by rw[zkA (by rw[a0];omega),zkC],?_⟩
   rw[e2,ybw]
   exact⟨rfl,g3⟩) fuel (zch [cl p.Start.toNat],[],[],0) ⟨_,rfl,yaf _,A0,by unfold ordP;rw[K.st,yah];rfl,rfl,rfl,λc hc=>by simp at hc⟩ (by have:=zay;simp only;omega)
 obtain⟨r,e1,rfl,hO⟩:=key;refine⟨?_,hO⟩;unfold zco;rw[za9 (i:=p.Start.toNat) (by omega) (x:=(↑(cl p.Start.toNat):Int)) (by rw[yae,yba hs];rfl)];have:[(↑(cl p.Start.toNat):Int)]=zch [cl p.Start.toNat]:=rfl;rw[this,e1,zam];unfold zco.k57 renP;rw[K.inp]
end
end
section
section
variable {p:zaa}{s t:Nat}
def clT(cl:Nat->Nat)(v:Int):Int:=if v=-1 then -1 else(↑(cl v.toNat):Int)
def loop_s64{n I:Nat}{cl:Nat->Nat}{M:List (Int×Int)}(U:UpOk n cl M)(hn:n<=10000000)(hI:I<=64){G:yaa}(GG:Grid n I G)(rng:∀q a,q<n->a<I->gx G q a=-1\/∃u:Nat,gx G q a=(u:Int)/\u<n){q:Nat}(hq:q<n){e:yab}(he:e.length=I) :
  ∃G',iter (λ(s:yaa×(List (Int×Int))×Nat)=>zae.s64 q e s.1 s.2.1 s.2.2) fuel (G,M,0)=some (G',M)/\Grid n I G'/\∀r b,r<n->b<I->gx G' r b=if r=q then clT cl (gx G r b) else gx G r b:=by
 have key:=za1 (step:=λ(s:yaa×(List (Int×Int))×Nat)=>zae.s64 q e s.1 s.2.1 s.2.2) (λs=>s.2.2<=I/\s.2.1=M/\Grid n I s.1/\∀r b,r<n->b<I->gx s.1 r b=if r=q/\b<s.2.2 then clT cl (gx G r b) else gx G r b) (λs=>I-s.2.2) (λr=>∃G',r=(G',M)/\Grid n I G'/\∀r b,r<n->b<I->gx G' r b=if r=q then clT cl (gx G r b) else gx G r b) (λ⟨y,m,k⟩ ⟨g1,g2,g3,g4⟩=>by
  simp only at g1 g2 g3 g4
  subst g2
  simp only[zae.s64]
  by_cases h:k<I
  ·left
   obtain⟨x,x1,x2,x3⟩:=g3.at hq h
   have a0:gx y q k=gx G q k:=by rw[g4 q k hq h,if_neg (λg=>yfq _ g.2)]
   rw[a0]at x2
   rw[zkB (by omega),zkD,zah x1,zah x2]
   by_cases t0:gx G q k=-1
   ·refine⟨(y,m,k+1),by rw[zkA (λg=>g t0),zkC,zaq (by unfold inR;omega)],⟨h,rfl,g3,λr b hr hb=>?_⟩,by simp only;omega⟩
    simp only
    rw[g4 r b hr hb]
    by_cases k1:r=q/\b<k
    ·rw[if_pos k1,if_pos ⟨k1.1,by omega⟩]
    ·rw[if_neg k1]
     by_cases k2:r=q/\b<k+1
     ·have e2:b=k:=Nat.le_antisymm (by omega) (yd4 λg=>k1 ⟨k2.1,g⟩)
      rw[if_pos k2,k2.1,e2,t0]
      rfl
     ·rw[if_neg k2]
   ·obtain⟨u,hu,a2⟩:=(rng q k hq h).resolve_left t0
    obtain⟨p1,p2⟩:=g3.put hq h x1 (↑(cl u):Int)
    refine⟨(y.set q (x.set k (↑(cl u):Int)),m,k+1),?_,⟨h,rfl,p1,λr b hr hb=>?_⟩,by simp only;omega⟩
    ·rw[zkB t0,zkD,zah x1,hu,of_eq U hn a2,zam,zah x2,zaq (by unfold inR;omega)]
    ·simp only
     rw[p2 r b hr hb]
     by_cases k1:r=q/\b=k
     ·rw[if_pos k1,if_pos ⟨k1.1,by omega⟩,k1.1,k1.2]
      unfold clT
      rw[if_neg t0,hu,yah]
     ·rw[if_neg k1,g4 r b hr hb]
      by_cases k2:r=q/\b<k
      ·rw[if_pos k2,if_pos ⟨k2.1,by omega⟩]
      ·rw[if_neg k2,if_neg (λg=>k2 ⟨g.1,ycu (by omega) λe3=>k1 ⟨g.1,e3⟩⟩)]
  ·right
   have e1:k=I:=by omega
   subst e1
   refine⟨_,by rw[zkA (by omega),zkC],y,rfl,g3,λr b hr hb=>?_⟩
   rw[g4 r b hr hb]
   by_cases k1:r=q
   ·rw[if_pos ⟨k1,hb⟩,if_pos k1]
   ·rw[if_neg (λg=>k1 g.1),if_neg k1]) fuel (G,M,0) ⟨yaf _,rfl,GG,λr b _ _=>by rw[if_neg (λg=>ybg _ g.2)]⟩ (by have:=zay;simp only;omega)
 obtain⟨r,e1,G',rfl,h⟩:=key;exact⟨G',e1,h⟩
def loop_s66{n I:Nat}{cl:Nat->Nat}{M:List (Int×Int)}(U:UpOk n cl M)(hn:n<=10000000)(hI:I<=64){N:yaa}(GN:Grid n I N)(rng:∀q a,q<n->a<I->gx N q a=-1\/∃u:Nat,gx N q a=(u:Int)/\u<n) :
  ∃N',iter (λ(s:yaa×(List (Int×Int))×Nat)=>zae.s66 N s.1 s.2.1 s.2.2) fuel (N,M,0)=some (N',M)/\Grid n I N'/\∀r b,r<n->b<I->gx N' r b=clT cl (gx N r b):=by
 have hl:=GN.len
 have key:=za1 (step:=λ(s:yaa×(List (Int×Int))×Nat)=>zae.s66 N s.1 s.2.1 s.2.2) (λs=>s.2.2<=n/\s.2.1=M/\Grid n I s.1/\∀r b,r<n->b<I->gx s.1 r b=if r<s.2.2 then clT cl (gx N r b) else gx N r b) (λs=>n-s.2.2) (λr=>∃N',r=(N',M)/\Grid n I N'/\∀r b,r<n->b<I->gx N' r b=clT cl (gx N r b)) (λ⟨y,m,q⟩ ⟨g1,g2,g3,g4⟩=>by
  simp only at g1 g2 g3 g4
  subst g2
  simp only[zae.s66]
  by_cases h:q<n
  ·left
   obtain⟨x,x1,x2⟩:=g3.row q h
   obtain⟨y',e1,e2,e3⟩:=loop_s64 (e:=x) U hn hI g3 (λr a hr ha=>by
    rw[g4 r a hr ha]
    split
    ·unfold clT
     rcases rng r a hr ha with k|⟨u,k1,k2⟩
     ·rw[if_pos k];exact .inl rfl
     ·refine .inr ⟨cl u,by rw[if_neg (by omega),k1,yah],?_⟩
      by_cases k3:cl u=u
      ·omega
      ·have a0:∀v:Nat,v<n->cl v<=v:=λv=>by
        induction v using Nat.strongRecOn with
        |_ v ih =>
         intro hv
         by_cases k4:cl v=v
         ·omega
         ·obtain⟨w,w1,_,w3⟩:=U.u1 v hv k4
          have:=ih w w1 (by omega)
          omega
       have:=a0 u k2
       omega
    ·exact rng r a hr ha) h x2
   refine⟨(y',m,q+1),?_,⟨h,rfl,e2,λr b hr hb=>?_⟩,by simp only;omega⟩
   ·rw[zkB (by omega),zkD,zah x1,e1,zam]
    rfl
   ·simp only
    rw[e3 r b hr hb,g4 r b hr hb]
    by_cases k1:r=q
    ·rw[if_pos k1,if_neg (by omega),if_pos (by omega)]
    ·rw[if_neg k1]
     by_cases k2:r<q
     ·rw[if_pos k2,if_pos (by omega)]
     ·rw[if_neg k2,if_neg (by omega)]
  ·right
   have e1:q=n:=by omega
   subst e1
   refine⟨_,by rw[zkA (by omega),zkC],y,rfl,g3,λr b hr hb=>?_⟩
   rw[g4 r b hr hb,if_pos hr]) fuel (N,M,0) ⟨yaf _,rfl,GN,λr b _ _=>by rw[if_neg (ybg _)]⟩ (by have:=zay;simp only;omega)
 obtain⟨r,e1,N',rfl,h⟩:=key;exact⟨N',e1,h⟩
def loop_s68{n:Nat}{cl:Nat->Nat}{M:List (Int×Int)}(U:UpOk n cl M)(hn:n<=1000000)(hcl:∀q,q<n->cl q<n){F:List Nat}{nums:yab}(A:NumL n F nums)(P:zaa) :
  iter (λ(s:(List (Int×Int))×yab×Nat)=>zae.s68 (P,nums) s.1 s.2.1 s.2.2) fuel (M,List.replicate n 0,0)=some ((List.range n).map λq=>numT F (↑(cl q):Int)):=by
 have hl:=A.len
 have key:=za1 (step:=λ(s:(List (Int×Int))×yab×Nat)=>zae.s68 (P,nums) s.1 s.2.1 s.2.2) (λs=>s.2.2<=n/\s.1=M/\Wrt (λq=>numT F (↑(cl q):Int)) (List.replicate n 0) s.2.2 s.2.1) (λs=>n-s.2.2) (λr=>r=(List.range n).map λq=>numT F (↑(cl q):Int)) (λ⟨m,y,q⟩ ⟨g1,g2,g3⟩=>by
  simp only at g1 g2 g3
  subst g2
  simp only[zae.s68,yak]
  have a0:=g3.len
  rw[yak]at a0
  by_cases h:q<n
  ·left
   have hc:=hcl q h
   refine⟨(m,y.set q (numT F (↑(cl q):Int)),q+1),?_,⟨h,rfl,g3.step (by rw[yak];exact h) rfl⟩,by simp only;omega⟩
   rw[zkB (by omega),zkD,of_eq U (by omega) h,zam,za9 (i:=cl q) rfl (A.at_ _ hc),zah (get_at (l:=y) (i:=q) (by omega)),zaq (by unfold inR;omega)]
   unfold numT
   rw[yah]
   by_cases k1:cl q∈F
   ·rw[if_pos k1,if_pos ⟨by omega,k1⟩]
   ·rw[if_neg k1,if_neg (λg=>k1 g.2)]
  ·right
   have e1:q=n:=by omega
   subst e1
   refine⟨_,by rw[zkA (by omega),zkC],?_⟩
   rw[g3.done (by rw[yak];exact yaq _),yak]) fuel (M,List.replicate n 0,0) ⟨yaf _,rfl,Wrt.zero _ _⟩ (by have:=zay;simp only;omega)
 obtain⟨r,e1,rfl⟩:=key;exact e1
def zn4.quo(H:zb1 p){cl:Nat->Nat}{N O:yaa}{M:List (Int×Int)}(F:zn4 p s t cl N O M []){N':yaa}(GN:Grid p.Next.length p.Inputs.toNat N')(hN:∀r b,r<p.Next.length->b<p.Inputs.toNat->gx N' r b=clT cl (gx N r b)):zpi p ⟨p.Inputs,(↑(cl p.Start.toNat):Int),N',O⟩ cl:=by
 have hn:=H.n2;have a7:=H.st;obtain⟨C,K⟩:=F.cls;have a0:∀q,q<p.Next.length->cl q<p.Next.length:=λq hq=>by have:=K.le q hq;omega
 have hl:=GN.len;have hs:p.Start.toNat<p.Next.length:=by omega
 have a3:Lab p.Next.length cl [] cl:=⟨λ_ _ _ _ h=>h,λ_ _ h=>by cases h⟩;refine⟨⟨by have:=H.i1;simp only;omega,H.i2,by simp only;omega,⟨cl p.Start.toNat,rfl,by simp only;rw[hl];exact a0 _ hs⟩,by simp only;rw[hl];exact GN,by simp only;rw[hl];exact F.go,λq a hq ha=>?_⟩,hl,rfl,rfl,K.idem,a0,λc a hc ha a5=>?_⟩
 ·simp only at hq ha ⊢;rw[hl]at hq ⊢;rw[hN q a hq ha];unfold clT;rcases F.rng q a hq ha with k|⟨u,k1,k2⟩
  ·rw[if_pos k];exact .inl rfl
  ·exact .inr ⟨cl u,by rw[if_neg (by omega),k1,yah],a0 u k2⟩
 ·simp only;rw[hN c a hc ha];obtain⟨r1,r2⟩:=F.row c a hc ha a5;unfold clT;by_cases k:gx N c a=-1
  ·rw[if_pos k];exact⟨λ_=>(r1 k).2,λh=>absurd rfl h⟩
  ·rw[if_neg k];obtain⟨u,a1,a2,⟨r,b1,b2,b3,b4⟩,a4⟩:=r2 k;refine⟨λh=>by omega,λ_=>⟨⟨r,b1,b2,by omega⟩,λr hr a6 hp=>?_⟩⟩;obtain⟨d1,d2⟩:=a4 r hr a6 hp;exact⟨by rw[a1,yah,d2 cl a3],d1⟩
def loop_copy(H:zb1 p):iter (λ(s:yaa×yaa×Nat)=>zae.s2 p s.1 s.2.1 s.2.2) fuel ([],[],0)=some (p.Next,p.Out):=by
 have hn:=H.n2;have hi:=H.i2;have ho:=H.ol
 have key:=za1 (step:=λ(s:yaa×yaa×Nat)=>zae.s2 p s.1 s.2.1 s.2.2) (λs=>s.2.2<=p.Next.length/\s.1=p.Next.take s.2.2/\s.2.1=p.Out.take s.2.2) (λs=>p.Next.length-s.2.2) (λr=>r=(p.Next,p.Out)) (λ⟨y,z,k⟩ ⟨g1,g2,g3⟩=>by
  simp only at g1 g2 g3
  subst g2
  subst g3
  simp only[zae.s2,ya8,ycj,yas,ybc,yal]
  by_cases h:k<p.Next.length
  ·left
   obtain⟨x,y,h1,h2,h3,h4,_⟩:=H.row k h
   refine⟨(p.Next.take (k+1),p.Out.take (k+1),k+1),?_,⟨h,rfl,rfl⟩,by simp only;omega⟩
   rw[zkB (by omega),zkD,zah h1,zaq (by unfold za5;omega),zaq (by unfold za5;omega),zah h2,zaq (by unfold za5;omega),zaq (by unfold za5;omega)]
   have q1:p.Next.take (k+1)=p.Next.take k++[x]:=by rw[List.take_succ,h1];rfl
   have q2:p.Out.take (k+1)=p.Out.take k++[y]:=by rw[List.take_succ,h2];rfl
   rw[q1,q2]
  ·right
   have e1:k=p.Next.length:=by omega
   subst e1
   exact⟨_,by rw[zkA (by omega),zkC],by rw[ybw,<- ho,ybw]⟩) fuel ([],[],0) ⟨yaf _,rfl,rfl⟩ (by have:=zay;simp only;omega)
 obtain⟨r,e1,rfl⟩:=key;exact e1
def zr2(H:zb1 p)(hs:s<p.Next.length)(ht:t<p.Next.length):(zge p s t/\zae p (s:Int) (t:Int)=some (⟨0,0,[],[]⟩,[],false))\/(¬zge p s t/\∃Q cl,zpi p Q cl/\(∀q,q<p.Next.length->cl q=clsOf p s t q)/\zae p (s:Int) (t:Int)=some (renP Q,(List.range p.Next.length).map λq=>numT (ordP Q) (↑(cl q):Int),true)):=by
 have hn:=H.n2;have a3:=H.st;have a2:p.Start.toNat<p.Next.length:=by omega
 obtain⟨r,e1,hr⟩:=loop_fold H hs ht;unfold zae;rw[loop_copy H,zam];unfold zae.k71;simp only;rw[e1,zam];rcases hr with⟨rfl,hc⟩|⟨N,O,M,cl,rfl,F⟩
 ·exact .inl ⟨hc,by rw[yc1]⟩
 ·obtain⟨d1,d2⟩:=F.done H hs ht;obtain⟨N',e2,GN,hN⟩:=loop_s66 F.up (by omega) (by have:=H.i2;omega) F.gn F.rng;have K:=F.quo H GN hN;obtain⟨nums,e3,A⟩:=zcu K.ren;refine .inr ⟨d2,_,cl,K,d1,?_⟩;rw[ybx];unfold zae.k70;simp only;rw[e2,zam];unfold zae.k69;simp only;have a0:=A.len;simp only at A a0;rw[GN.len]at A a0;rw[show p.Start=(p.Start.toNat:Int) by omega,of_eq F.up (by omega) a2,zam,yah,e3,zam]
  dsimp only
  rw[zaq ⟨by omega,yc0 _,by unfold za5;omega⟩,a0,loop_s68 F.up (by omega) K.lt A,zam]
end
end
section

end
section
def sortW_ext{l m:yaa}(h:∀x,x∈l↔x∈m):sortW l=sortW m:=zoi (zer l) (zer m) λx=>by rw[zdu,zdu,h]
end
section
structure TabOk(t:zcq):Prop where
 sm:SmT t
 n:t.Inputs<=4
 p:t.Prefixes.length<=80
 s:t.Suffixes.length<=12
 pw:∀x∈t.Prefixes,x.length<=80
 sw:∀x∈t.Suffixes,x.length<=30
def zkh(a b:yaa)(ha:SmL a):zcg a b=some (decide (a=b)):=by
 have a2:a.length<=2000000:=ha.1;unfold zcg;by_cases a0:a.length=b.length
 ·rw[zkA (by omega),zkC];refine iter_all2 a0 (λi x y hx hy=>?_) ?_ (by omega)
  ·simp only[zcg.s2];rw[zdw hx,zkD,zah hx,zah hy,zhw x y (ha.2 x (zkH hx)),zam];by_cases h:x=y<;>simp[h]
  ·simp only[zcg.s2];rw[zf4];rfl
 ·rw[zkB (by omega),zkD];have:a≠b:=λh=>a0 (by rw[h]);simp[this]
end
section

end
section

end
section
structure UpF(n:Nat)(tp dp:Nat->Nat)(up:yab):Prop where
 len:up.length=n
 lt:∀q,q<n->tp q<n
 idem:∀q,q<n->tp (tp q)=tp q
 at_:∀q,q<n->∃u:Nat,u<n/\up[q]?=some (u:Int)/\(tp q=q->u=q)/\(tp q≠q->tp u=tp q/\dp u<dp q)
 few:∀q,q<n->dp q+zjj n tp<=n
def top_eq{n:Nat}{tp dp:Nat->Nat}{up:yab}(U:UpF n tp dp up)(hn:n<=10000000){u:Nat}(hu:u<n):zc4 up (u:Int)=some (↑(tp u):Int):=by
 unfold zc4
 have key:=za1 (step:=λ(s:Int)=>zc4.s2 up s) (λs=>∃v:Nat,s=(v:Int)/\v<n/\tp v=tp u) (λs=>dp s.toNat) (λr=>r=(↑(tp u):Int)) (λs ⟨v,e,h1,h2⟩=>by
  subst e
  simp only[zc4.s2]
  obtain⟨w,w1,w2,w3,w4⟩:=U.at_ v h1
  rw[za9 (i:=v) rfl w2]
  by_cases g:tp v=v
  ·right
   have:=w3 g
   exact⟨_,by rw[zkA (by omega),zkC],by omega⟩
  ·left
   obtain⟨k1,k2⟩:=w4 g
   have a0:w≠v:=λe=>by rw[e]at k2;omega
   exact⟨(w:Int),by rw[zkB (by omega),zkD,za9 (i:=v) rfl w2],⟨w,rfl,w1,by omega⟩,by simp only[yah];exact k2⟩) fuel (↑u) ⟨u,rfl,hu,rfl⟩ (by have:=zay;have:=U.few u hu;simp only[yah];omega)
 obtain⟨r,e,rfl⟩:=key;rw[e,zam]
def UpF.flat{n:Nat}{tp dp:Nat->Nat}{up:yab}(U:UpF n tp dp up)(hz:∀q,q<n->tp q≠q->dp (tp q)<dp q){i:Nat}(hi:i<n):UpF n tp dp (up.set i (↑(tp i):Int)):=by
 refine⟨by rw[ybb];exact U.len,U.lt,U.idem,λq hq=>?_,U.few⟩;by_cases e:q=i
 ·subst e;refine⟨tp q,U.lt q hq,by rw[ya2 (by rw[U.len];exact hq)],λh=>h,λh=>⟨U.idem q hq,hz q hq h⟩⟩
 ·rw[ya3 (λh=>e h.symm)];exact U.at_ q hq
structure MemF(n:Nat)(tp:Nat->Nat)(mem:yaa):Prop where
 len:mem.length=n
 at_:∀c,c<n->tp c=c->∃L:List Nat,mem[c]?=some (L.map λ(q:Nat)=>(q:Int))/\L.Nodup/\∀q,q∈L↔q<n/\tp q=c
def ztj{n:Nat}{L:List Nat}(h:L.Nodup)(hL:∀q,q∈L->q<n):L.length<=n:=by
 have h1:=ze3 h (b:=List.range n) λq hq=>yay.2 (hL q hq)
 rwa [ya4]at h1
def zrn{p:zaa}(H:zb1 p){L:List Nat}(hL:∀q,q∈L->q<p.Next.length)(hl:L.length<=10000000){a:Nat}(ha:a<p.Inputs.toNat):∃r,zcn p (L.map λ(q:Nat)=>(q:Int)) (a:Int)=some r/\((r=-1/\∀q,q∈L->pnx p q a=-1)\/∃i:Nat,r=(i:Int)/\i∈L/\pnx p i a≠-1):=by
 have key:=za1 (step:=λ(s:Nat)=>zcn.s2 p (L.map λ(q:Nat)=>(q:Int)) (a:Int) s) (λk=>k<=L.length/\∀j q:Nat,j<k->L[j]?=some q->pnx p q a=-1) (λk=>L.length-k) (λr=>(r=.inl ()/\∀q,q∈L->pnx p q a=-1)\/∃i:Nat,r=.inr (i:Int)/\i∈L/\pnx p i a≠-1) (λk ⟨g1,g2⟩=>by
  simp only[zcn.s2,zkK]
  by_cases h:k<L.length
  ·have hx:=get_at h
   have hq:=hL _ (zkH hx)
   obtain⟨n1,n2,n3,n4,n5,xr,yr,a3,a5,a2,a4,_,_⟩:=H.at hq ha
   have hm:(L.map λ(q:Nat)=>(q:Int))[k]?=some (↑(L[k]):Int):=by rw[yae,hx];rfl
   rw[zkB (by omega),zkD,zah hm,za9 (i:=L[k]) rfl a3,za9 (i:=a) rfl a2]
   by_cases t0:pnx p L[k] a=-1
   ·left
    refine⟨k+1,by rw[zkA (λg=>g t0),zkC],⟨h,λj q hj a0=>?_⟩,by omega⟩
    by_cases e:j=k
    ·subst e
     rw[hx]at a0
     injection a0 with a0
     rw[<- a0]
     exact t0
    ·exact g2 j q (by omega) a0
   ·right
    exact⟨_,by rw[zkB t0,zkD],.inr ⟨L[k],rfl,zkH hx,t0⟩⟩
  ·right
   refine⟨_,by rw[zkA (by omega),zkC],.inl ⟨rfl,λq hq=>?_⟩⟩
   obtain⟨j,hj⟩:=ych hq
   have:=(zkI.1 hj).1
   exact g2 j q (by omega) hj) fuel 0 ⟨yaf _,λj q hj=>absurd hj (ybg _)⟩ (by have:=zay;omega)
 obtain⟨r,e,hr⟩:=key;unfold zcn;rw[e,zam];rcases hr with⟨rfl,h⟩|⟨i,rfl,h⟩
 ·exact⟨_,by rw[ybx],.inl ⟨rfl,h⟩⟩
 ·exact⟨_,by rw[yc1],.inr ⟨i,rfl,h⟩⟩
structure EvIn(p:zaa)(Lx Ly:List Nat)(new:List T_A2)(a:Nat):Prop where
 few:new.length<=a
 wk:∀w,w∈new->∃b i j u v:Nat,i∈Lx/\j∈Ly/\pnx p i b=(u:Int)/\pnx p j b=(v:Int)/\w=⟨(u:Int),(v:Int)⟩
 all:∀b,b<a->(∀q,q∈Lx->pnx p q b=-1)\/(∀q,q∈Ly->pnx p q b=-1)\/∃i j,i∈Lx/\j∈Ly/\pnx p i b≠-1/\pnx p j b≠-1/\pot p i b=pot p j b/\(⟨pnx p i b,pnx p j b⟩:T_A2)∈new
def EvQ(p:zaa)(Lx Ly:List Nat)(W0:List T_A2)(r:List T_A2⊕((yab×yaa×List T_A2)⊕((yab×yaa×List T_A2)⊕(yab⊕(yab×Bool))))):Prop :=
 (r=.inr (.inr (.inr (.inr ([],false))))/\∃b i j,i∈Lx/\j∈Ly/\pnx p i b≠-1/\pnx p j b≠-1/\pot p i b≠pot p j b)\/∃new,r=.inl (W0++new)/\EvIn p Lx Ly new p.Inputs.toNat
def loop_ev{p:zaa}(H:zb1 p){mem:yaa}{x y:Nat}{Lx Ly:List Nat}(hx:mem[x]?=some (Lx.map λ(q:Nat)=>(q:Int)))(hy:mem[y]?=some (Ly.map λ(q:Nat)=>(q:Int)))(hLx:∀q,q∈Lx->q<p.Next.length)(hLy:∀q,q∈Ly->q<p.Next.length)(lx:Lx.length<=10000000)(ly:Ly.length<=10000000){W0:List T_A2}(hW:W0.length<=1000000) :
  ∃r,iter (λ(s:List T_A2×Nat)=>zap.s32 p mem (x:Int) (y:Int) s.1 s.2) fuel (W0,0)=some r/\EvQ p Lx Ly W0 r:=by
 have hi:=H.i2;have b8:=H.i1;refine za1 (step:=λ(s:List T_A2×Nat)=>zap.s32 p mem (x:Int) (y:Int) s.1 s.2) (λs=>s.2<=p.Inputs.toNat/\∃new,s.1=W0++new/\EvIn p Lx Ly new s.2) (λs=>p.Inputs.toNat-s.2) (EvQ p Lx Ly W0) (λ⟨W1,a⟩ ⟨g1,new,g2,J⟩=>?_) fuel (W0,0) ⟨yaf _,[],(yb4 _).symm,⟨yaq _,λw hw=>(by cases hw),λb hb=>absurd hb (ybg _)⟩⟩ (by have:=zay;simp only;omega);simp only at g1 g2 J;subst g2;simp only[zap.s32];by_cases h:a<p.Inputs.toNat
 ·have b2:(a:Int)<p.Inputs:=by omega
  obtain⟨i,ei,a5⟩:=zrn H hLx lx h;obtain⟨j,ej,a6⟩:=zrn H hLy ly h;have b7:=J.few;rw[zkB b2,zkD,za9 (i:=x) rfl hx,ei,zam,za9 (i:=y) rfl hy,ej,zam]
  have skip:((∀q,q∈Lx->pnx p q a=-1)\/(∀q,q∈Ly->pnx p q a=-1))->EvIn p Lx Ly new (a+1):=λhh=>⟨by omega,J.wk,λb hb=>by
   by_cases e:b=a
   ·subst e
    exact hh.elim .inl λk=>.inr (.inl k)
   ·exact J.all b (by omega)⟩
  rcases a5 with⟨rfl,a5⟩|⟨i,rfl,a0,a4⟩
  ·left;exact⟨(W0++new,a+1),by rw[zkB rfl,zkD,zam,zkD,zam,ybx,zaq (by unfold inR;omega)],⟨h,new,rfl,skip (.inl a5)⟩,by simp only;omega⟩
  rcases a6 with⟨rfl,a6⟩|⟨j,rfl,a2,a3⟩
  ·left;exact⟨(W0++new,a+1),by rw[zkA (by omega),zkC,zkB rfl,zam,zkD,zam,ybx,zaq (by unfold inR;omega)],⟨h,new,rfl,skip (.inr a6)⟩,by simp only;omega⟩
  obtain⟨n1,n2,n3,n4,n5,xi,yi,b6,b3,a8,a7,_,_⟩:=H.at (hLx _ a0) h;obtain⟨m1,m2,m3,m4,m5,xj,yj,b5,b4,b0,a9,_,_⟩:=H.at (hLy _ a2) h;rw[zkA (by omega),zkC,zkA (by omega),zam,zkC,za9 (i:=i) rfl b3,zah a7,za9 (i:=j) rfl b4,zah a9];by_cases t0:pot p i a=pot p j a
  ·left;refine⟨(W0++(new++[⟨pnx p i a,pnx p j a⟩]),a+1),by rw[zkA (λg=>g t0),zkC,za9 (i:=i) rfl b6,zah a8,za9 (i:=j) rfl b5,zah b0,zaq (by unfold za5;rw[zkJ];omega),zam,ybx,zaq (by unfold inR;omega),yb3],⟨h,_,rfl,⟨by rw[zkJ,ybc];omega,λw hw=>?_,λb hb=>?_⟩⟩,by simp only;omega⟩
   ·rcases yam.1 hw with hw|hw
    ·exact J.wk w hw
    ·rw[yag.1 hw];exact⟨a,i,j,(pnx p i a).toNat,(pnx p j a).toNat,a0,a2,by omega,by omega,by rw[show((↑(pnx p i a).toNat:Int))=pnx p i a by omega,show((↑(pnx p j a).toNat:Int))=pnx p j a by omega]⟩
   ·by_cases e:b=a
    ·subst e;exact .inr (.inr ⟨i,j,a0,a2,a4,a3,t0,yai _ (yag.2 rfl)⟩)
    ·rcases J.all b (by omega) with k|k|⟨i',j',k1,k2,k3,k4,k5,k6⟩
     ·exact .inl k
     ·exact .inr (.inl k)
     ·exact .inr (.inr ⟨i',j',k1,k2,k3,k4,k5,yan _ k6⟩)
  ·right;exact⟨_,by rw[zkB t0,zkD,zam,yc1],.inl ⟨rfl,a,i,j,a0,a2,a4,a3,t0⟩⟩
 ·right;have e1:a=p.Inputs.toNat:=by omega
  subst e1;exact⟨_,by rw[zkA (by omega),zkC],.inr ⟨new,rfl,J⟩⟩
end
section
structure EvF(p:zaa)(s t:Nat)(tp dp:Nat->Nat)(up:yab)(mem:yaa)(W:List T_A2):Prop where
 up:UpF p.Next.length tp dp up
 z:∀q,q<p.Next.length->tp q=q->dp q=0
 mem:MemF p.Next.length tp mem
 sound:∀q,q<p.Next.length->Cong p s t q (tp q)
 wk:∀w,w∈W->∃u v:Nat,w=⟨(u:Int),(v:Int)⟩/\u<p.Next.length/\v<p.Next.length/\Cong p s t u v
 st:∀f,Lab p.Next.length tp W f->f s=f t
 cong:∀q r a,q<p.Next.length->r<p.Next.length->tp q=tp r->pnx p q a≠-1->pnx p r a≠-1->pot p q a=pot p r a/\∀f,Lab p.Next.length tp W f->f (pnx p q a).toNat=f (pnx p r a).toNat
 few:65*zjj p.Next.length tp+W.length<=65*p.Next.length+1
section
variable {p:zaa}{s t:Nat}
def EvF.skip{tp dp:Nat->Nat}{up:yab}{mem:yaa}{W:List T_A2}{u v:Nat}(F:EvF p s t tp dp up mem (⟨(u:Int),(v:Int)⟩::W))(hu:u<p.Next.length)(hv:v<p.Next.length)(g:tp u=tp v):EvF p s t tp dp up mem W:=by
 have a0:∀f,Lab p.Next.length tp W f->Lab p.Next.length tp (⟨(u:Int),(v:Int)⟩::W) f:=λf hf=>⟨hf.1,λu' v' h=>by
  rcases yaw.1 h with h|h
  ·injection h with h3 h4
   have q1:u'=u:=by omega
   have q2:v'=v:=by omega
   rw[q1,q2]
   exact hf.1 u v hu hv g
  ·exact hf.2 u' v' h⟩
 have a2:=F.few;rw[zkL]at a2;exact⟨F.up,F.z,F.mem,F.sound,λw hw=>F.wk w (yau _ hw),λf hf=>F.st f (a0 f hf),λq r a hq hr e h1 h2=>⟨(F.cong q r a hq hr e h1 h2).1,λf hf=>(F.cong q r a hq hr e h1 h2).2 f (a0 f hf)⟩,by omega⟩
def EvF.join(H:zb1 p){tp dp:Nat->Nat}{up:yab}{mem:yaa}{W new:List T_A2}{u v:Nat}(F:EvF p s t tp dp up mem (⟨(u:Int),(v:Int)⟩::W))(hu:u<p.Next.length)(hv:v<p.Next.length)(huv:Cong p s t u v)(hne:tp u≠tp v){Lx Ly:List Nat}
  (lx:Lx.Nodup) (ly:Ly.Nodup) (mx:∀q,q∈Lx↔q<p.Next.length/\tp q=tp u) (my:∀q,q∈Ly↔q<p.Next.length/\tp q=tp v) (J:EvIn p Lx Ly new p.Inputs.toNat) :
  ∃tp' dp',EvF p s t tp' dp' (up.set (tp v) (↑(tp u):Int)) (mem.set (tp u) ((Lx++Ly).map λ(q:Nat)=>(q:Int))) (W++new)/\65*zjj p.Next.length tp'+(W++new).length<65*zjj p.Next.length tp+(W.length+1):=by
 have hi:=H.i2;have a7:=F.few;have hJ:=J.few;rw[zkL]at a7;have hx:=F.up.lt u hu;have hy:=F.up.lt v hv;have ix:=F.up.idem u hu;have iy:=F.up.idem v hv;have a9:Cong p s t (tp u) (tp v):=(F.sound u hu).symm.trans (huv.trans (F.sound v hv));have zx:=F.z _ hx ix;generalize b4:tp u=x at *;generalize b6:tp v=y at *;obtain⟨tp',a6⟩:∃tp':Nat->Nat,tp'=λq=>if tp q=y then x else tp q:=⟨_,rfl⟩
 obtain⟨dp',a5⟩:∃dp':Nat->Nat,dp'=λq=>if tp q=y then dp q+1 else dp q:=⟨_,rfl⟩
 have t1:∀q,tp q=y->tp' q=x:=λq h=>by rw[a6];simp only;rw[if_pos h]
 have t2:∀q,tp q≠y->tp' q=tp q:=λq h=>by rw[a6];simp only;rw[if_neg h]
 have d1:∀q,tp q=y->dp' q=dp q+1:=λq h=>by rw[a5];simp only;rw[if_pos h]
 have d2:∀q,tp q≠y->dp' q=dp q:=λq h=>by rw[a5];simp only;rw[if_neg h]
 clear a6 a5
 have keep:∀q r,tp q=tp r->tp' q=tp' r:=λq r h=>by
  by_cases g:tp q=y
  ·rw[t1 q g,t1 r (by omega)]
  ·rw[t2 q g,t2 r (by omega),h]
 have a4:∀q,tp' q=q->tp q=q/\q≠y:=λq h=>by
  by_cases g:tp q=y
  ·rw[t1 q g]at h;subst h;omega
  ·rw[t2 q g]at h;exact⟨h,by omega⟩
 have b5:zjj p.Next.length tp'<zjj p.Next.length tp:=countP_lt (λq _ h=>zkB (a4 q (of_decide_eq_true h)).1) hy (zkB iy) (zkA λh=>(a4 y h).2 rfl);have a8:tp' x=x:=by rw[t2 x (by omega),ix]
 have b3:UpF p.Next.length tp' dp' (up.set y (x:Int)):=by
  refine⟨by rw[ybb];exact F.up.len,λq hq=>?_,λq hq=>?_,λq hq=>?_,λq hq=>?_⟩
  ·by_cases g:tp q=y
   ·rw[t1 q g];exact hx
   ·rw[t2 q g];exact F.up.lt q hq
  ·by_cases g:tp q=y
   ·rw[t1 q g];exact a8
   ·rw[t2 q g,t2 (tp q) (by rw[F.up.idem q hq];exact g)];exact F.up.idem q hq
  ·by_cases e:q=y
   ·rw[e];refine⟨x,hx,by rw[ya2 (by rw[F.up.len];exact hy)],λh=>absurd rfl (a4 y h).2,λh=>⟨by rw[a8,t1 y iy],?_⟩⟩;rw[d1 y iy,d2 x (by omega)];omega
   ·obtain⟨w,w1,w2,w3,w4⟩:=F.up.at_ q hq;refine⟨w,w1,by rw[ya3 (λh=>e h.symm)];exact w2,λh=>w3 (a4 q h).1,λh=>?_⟩;have g:tp q≠q:=λg=>h (by rw[t2 q (by omega)];exact g);obtain⟨k1,k2⟩:=w4 g;refine⟨keep _ _ k1,?_⟩;by_cases g2:tp q=y
    ·rw[d1 q g2,d1 w (by omega)];omega
    ·rw[d2 q g2,d2 w (by omega)];omega
  ·have:=F.up.few q hq;by_cases g:tp q=y
   ·rw[d1 q g];omega
   ·rw[d2 q g];omega
 have a0:∀f,Lab p.Next.length tp' (W++new) f->Lab p.Next.length tp (⟨(u:Int),(v:Int)⟩::W) f:=λf ⟨f1,f2⟩=>⟨λq r hq hr e=>f1 q r hq hr (keep _ _ e),λu' v' h=>by
  rcases yaw.1 h with h|h
  ·injection h with h3 h4
   have e1:u'=u:=by omega
   have e2:v'=v:=by omega
   rw[e1,e2]
   exact f1 _ _ hu hv (by rw[t1 v b6,t2 u (by omega),b4])
  ·exact f2 u' v' (yan _ h)⟩
 have a3:∀q r a,q<p.Next.length->r<p.Next.length->tp q=y->tp r=x->pnx p q a≠-1->pnx p r a≠-1->pot p q a=pot p r a/\∀f,Lab p.Next.length tp' (W++new) f->f (pnx p q a).toNat=f (pnx p r a).toNat:=λq r a hq hr eq er h1 h2=>by
  have ha:a<p.Inputs.toNat:=ybd λg=>by
   have b0:=H.row q hq;obtain⟨xr,yr,k1,k2,k3,k4,_⟩:=b0;apply h1;unfold pnx;rw[k1,yaj,yat (by omega),yff]
  rcases J.all a ha with k|k|⟨i,j,k1,k2,k3,k4,k5,k6⟩
  ·exact absurd (k r ((mx r).2 ⟨hr,er⟩)) h2
  ·exact absurd (k q ((my q).2 ⟨hq,eq⟩)) h1
  ·obtain⟨i1,i2⟩:=(mx i).1 k1;obtain⟨j1,j2⟩:=(my j).1 k2;obtain⟨a1,a2⟩:=F.cong r i a hr i1 (er.trans i2.symm) h2 k3;obtain⟨b1,b2⟩:=F.cong q j a hq j1 (eq.trans j2.symm) h1 k4;refine⟨by rw[b1,<- k5,a1],λf hf=>?_⟩;have ni:=H.at i1 ha;have nj:=H.at j1 ha;rw[b2 f (a0 f hf),a2 f (a0 f hf)];refine(hf.2 _ _ (yai _ ?_)).symm;rw[show((↑(pnx p i a).toNat:Int))=pnx p i a by omega,show((↑(pnx p j a).toNat:Int))=pnx p j a by omega];exact k6
 refine⟨tp',dp',⟨b3,λq hq h=>?_,⟨by rw[ybb];exact F.mem.len,λc hc h=>?_⟩,λq hq=>?_,λw hw=>?_,λf hf=>F.st f (a0 f hf),λq r a hq hr e h1 h2=>?_,by rw[zkJ];omega⟩,by rw[zkJ];omega⟩
 ·obtain⟨g1,g2⟩:=a4 q h;rw[d2 q (by omega)];exact F.z q hq g1
 ·obtain⟨g1,g2⟩:=a4 c h;by_cases e:c=x
  ·subst e;refine⟨Lx++Ly,by rw[ya2 (by rw[F.mem.len];exact hc)],?_,λq=>?_⟩
   ·refine ybm.2 ⟨lx,ly,λa ha b hb e=>?_⟩;subst e;exact hne (((mx a).1 ha).2.symm.trans ((my a).1 hb).2)
   ·rw[yam,mx,my];constructor
    ·rintro (⟨k1,k2⟩|⟨k1,k2⟩)
     ·exact⟨k1,by rw[t2 q (by omega),k2]⟩
     ·exact⟨k1,t1 q k2⟩
    ·rintro⟨k1,k2⟩;by_cases g:tp q=y
     ·exact .inr ⟨k1,g⟩
     ·exact .inl ⟨k1,by rw[<- t2 q g];exact k2⟩
  ·obtain⟨L,l1,l2,l3⟩:=F.mem.at_ c hc g1;refine⟨L,by rw[ya3 (λh=>e h.symm)];exact l1,l2,λq=>?_⟩;rw[l3];refine and_congr_right λ_=>⟨λk=>by rw[t2 q (by omega),k],λk=>?_⟩;by_cases g:tp q=y
   ·rw[t1 q g]at k;exact absurd k.symm e
   ·rw[<- t2 q g];exact k
 ·by_cases g:tp q=y
  ·rw[t1 q g];have h1:=F.sound q hq;rw[g]at h1;exact h1.trans a9.symm
  ·rw[t2 q g];exact F.sound q hq
 ·rcases yam.1 hw with hw|hw
  ·exact F.wk w (yau _ hw)
  ·obtain⟨b,i,j,u',v',h1,h2,h3,h4,h5⟩:=J.wk w hw;obtain⟨i1,i2⟩:=(mx i).1 h1;obtain⟨j1,j2⟩:=(my j).1 h2;refine⟨u',v',h5,(zff H h3).2.2,(zff H h4).2.2,.step b u' v' ?_ h3 h4⟩;have k1:=F.sound i i1;have k2:=F.sound j j1;rw[i2]at k1;rw[j2]at k2;exact k1.trans (a9.trans k2.symm)
 ·by_cases g1:tp q=y<;>by_cases g2:tp r=y
  ·obtain⟨k1,k2⟩:=F.cong q r a hq hr (by omega) h1 h2;exact⟨k1,λf hf=>k2 f (a0 f hf)⟩
  ·rw[t1 q g1,t2 r g2]at e;exact a3 q r a hq hr g1 e.symm h1 h2
  ·rw[t2 q g1,t1 r g2]at e;obtain⟨k1,k2⟩:=a3 r q a hr hq g2 e h2 h1;exact⟨k1.symm,λf hf=>(k2 f hf).symm⟩
  ·rw[t2 q g1,t2 r g2]at e;obtain⟨k1,k2⟩:=F.cong q r a hq hr e h1 h2;exact⟨k1,λf hf=>k2 f (a0 f hf)⟩
def ev_step(H:zb1 p){tp dp:Nat->Nat}{up:yab}{mem:yaa}{W:List T_A2}(F:EvF p s t tp dp up mem W) :
  (W=[]/\zap.s34 p up mem W=some (.inr (.inl up)))\/(zap.s34 p up mem W=some (.inr (.inr ([],false)))/\zge p s t)\/∃up' mem' W' tp' dp',zap.s34 p up mem W=some (.inl (up',mem',W'))/\EvF p s t tp' dp' up' mem' W'/\65*zjj p.Next.length tp'+W'.length<65*zjj p.Next.length tp+W.length:=by
 have hn:=H.n2;have hi:=H.i2;cases W with
 |nil=>exact .inl ⟨rfl,by unfold zap.s34;rw[zkA (by simp),zkC]⟩
 |cons w W =>
  right;obtain⟨u,v,rfl,hu,hv,a3⟩:=F.wk w ybl;have a0:=F.few;have a4:=zmq p.Next.length tp;rw[zkL]at a0;have e0:=top_eq F.up (by omega) hu;have e1:=top_eq F.up (by omega) hv;by_cases g:tp u=tp v
  ·right;refine⟨up,mem,W,tp,dp,?_,F.skip hu hv g,by rw[zkL];omega⟩;unfold zap.s34;rw[zkB (by rw[zkL];omega),zkD,zah (x:=⟨(u:Int),(v:Int)⟩) rfl,e0,zam,zah (x:=⟨(u:Int),(v:Int)⟩) rfl,e1,zam,zkB (by omega),zkD,zam,ybx];unfold zap.k33;rw[zaq (by simp)];rfl
  ·have hx:=F.up.lt u hu;have hy:=F.up.lt v hv;obtain⟨Lx,x1,x2,x3⟩:=F.mem.at_ _ hx (F.up.idem u hu);obtain⟨Ly,y1,y2,y3⟩:=F.mem.at_ _ hy (F.up.idem v hv);have lx:=ztj x2 λq hq=>((x3 q).1 hq).1;have ly:=ztj y2 λq hq=>((y3 q).1 hq).1;obtain⟨r,e,hr⟩:=loop_ev H x1 y1 (λq hq=>((x3 q).1 hq).1) (λq hq=>((y3 q).1 hq).1) (by omega) (by omega) (W0:=⟨(u:Int),(v:Int)⟩::W) (by rw[zkL];omega)
   have es:zap.s34 p up mem (⟨(u:Int),(v:Int)⟩::W)=((Sum.elim (λ(a7:List T_A2)=>idx up (↑(tp v):Int) λa8=>idx mem (↑(tp u):Int) λa2=>idx mem (↑(tp v):Int) λa6=>chk (za5 (List.length a2+List.length a6) 8) (idx mem (↑(tp u):Int) λb0=>some (.inl ((List.set up (↑(tp v):Int).toNat (↑(tp u):Int)),(List.set mem (Int.toNat (↑(tp u):Int)) (a2++a6)),a7)))) some r):Option ((yab×yaa×List T_A2)⊕((yab×yaa×List T_A2)⊕(yab⊕(yab×Bool))))).bind (Sum.elim (λ(s:yab×yaa×List T_A2)=>zap.k33 s.1 s.2.1 s.2.2) some):=by
    unfold zap.s34;rw[zkB (by rw[zkL];omega),zkD,zah (x:=⟨(u:Int),(v:Int)⟩) rfl,e0,zam,zah (x:=⟨(u:Int),(v:Int)⟩) rfl,e1,zam,zkA (by omega),zkC,e,zam]
   rw[es];rcases hr with⟨rfl,b,i,j,i1,j1,i2,j2,h⟩|⟨new,rfl,J⟩
   ·left;refine⟨by rw[yc1,zam,yc1],i,j,b,?_,i2,j2,h⟩;obtain⟨i3,i4⟩:=(x3 i).1 i1;obtain⟨j3,j4⟩:=(y3 j).1 j1;have k1:=F.sound i i3;have k2:=F.sound j j3;rw[i4]at k1;rw[j4]at k2;exact k1.trans ((F.sound u hu).symm.trans (a3.trans ((F.sound v hv).trans k2.symm)))
   ·right;obtain⟨tp',dp',F',hd⟩:=F.join H hu hv a3 g x2 y2 x3 y3 J;refine⟨_,_,_,tp',dp',?_,F',by rw[zkL];exact hd⟩;rw[ybx,za9 (i:=tp v) rfl (get_at (l:=up) (by rw[F.up.len];exact hy)),za9 (i:=tp u) rfl x1,za9 (i:=tp v) rfl y1,zaq (by unfold za5;rw[zkK,zkK];omega),za9 (i:=tp u) rfl x1,zam,ybx];unfold zap.k33;rw[zaq (by simp),ya0,yah,yah];rfl
end
end
section
section
variable {p:zaa}{s t:Nat}
def repsU(n:Nat)(up:yab):Nat:=(List.range n).countP λ(q:Nat)=>decide (up[q]?=some (q:Int))
def UpF.reps{n:Nat}{tp dp:Nat->Nat}{up:yab}(U:UpF n tp dp up):repsU n up=zjj n tp:=by
 unfold repsU zjj;refine List.countP_congr λq hq=>?_;have hq:=yay.1 hq;obtain⟨w,w1,w2,w3,w4⟩:=U.at_ q hq;by_cases h:tp q=q
 ·rw[w2,zkB h,zkB (by rw[w3 h])]
 ·rw[w2,zkA h,zkA (λg=>by
   injection g with g
   obtain⟨_,k2⟩:=w4 h
   rw[show w=q by omega]at k2
   omega)]
def loop_evf(H:zb1 p){tp dp:Nat->Nat}{up:yab}{mem:yaa}{W:List T_A2}(F:EvF p s t tp dp up mem W) :
  ∃r,iter (λ(q:yab×yaa×List T_A2)=>zap.s34 p q.1 q.2.1 q.2.2) fuel (up,mem,W)=some r /\
   ((r=.inr ([],false)/\zge p s t)\/∃up' mem' tp' dp',r=.inl up'/\EvF p s t tp' dp' up' mem' []):=by
 have hn:=H.n2;refine za1 (step:=λ(q:yab×yaa×List T_A2)=>zap.s34 p q.1 q.2.1 q.2.2) (λq=>∃tp dp,EvF p s t tp dp q.1 q.2.1 q.2.2) (λq=>65*repsU p.Next.length q.1+q.2.2.length) (λr=>(r=.inr ([],false)/\zge p s t)\/∃up' mem' tp' dp',r=.inl up'/\EvF p s t tp' dp' up' mem' []) (λ⟨up,mem,W⟩ ⟨tp,dp,F⟩=>?_) fuel _ ⟨tp,dp,F⟩ ?_
 ·simp only at F;simp only;rcases ev_step H F with⟨e1,e2⟩|⟨e1,e2⟩|⟨up',mem',W',tp',dp',e1,F',e2⟩
  ·rw[e1]at F;exact .inr ⟨_,e2,.inr ⟨up,mem,tp,dp,rfl,F⟩⟩
  ·exact .inr ⟨_,e1,.inl ⟨rfl,e2⟩⟩
  ·exact .inl ⟨(up',mem',W'),e1,⟨tp',dp',F'⟩,by simp only;rw[F.up.reps,F'.up.reps];exact e2⟩
 ·have h1:=F.up.reps;have h2:=F.few;have:=zay;simp only;omega
def EvF.done(H:zb1 p)(hs:s<p.Next.length)(ht:t<p.Next.length){tp dp:Nat->Nat}{up:yab}{mem:yaa}(F:EvF p s t tp dp up mem []):(∀q r,q<p.Next.length->r<p.Next.length->(tp q=tp r↔Cong p s t q r))/\¬zge p s t:=by
 have a2:Lab p.Next.length tp [] tp:=⟨λ_ _ _ _ h=>h,λ_ _ h=>by cases h⟩
 have a0:∀{q r:Nat},Cong p s t q r->q=r\/(q<p.Next.length/\r<p.Next.length/\tp q=tp r):=λh=>cong_into H hs ht (F.st tp a2) (λq r a u v hq hr e hu hv=>by
  have:=(F.cong q r a hq hr e (by rw[hu];omega) (by rw[hv];omega)).2 tp a2
  rwa [hu,hv,yah,yah]at this) h
 refine⟨λq r hq hr=>⟨λh=>?_,λh=>?_⟩,λ⟨q,r,a,h,h1,h2,h3⟩=>?_⟩
 ·have k1:=F.sound q hq;have k2:=F.sound r hr;rw[h]at k1;exact k1.trans k2.symm
 ·rcases a0 h with rfl|⟨_,_,k⟩
  ·rfl
  ·exact k
 ·rcases a0 h with rfl|⟨hq,hr,k⟩
  ·exact h3 rfl
  ·exact h3 (F.cong q r a hq hr k h1 h2).1
def loop_flat(H:zb1 p){tp dp:Nat->Nat}{up:yab}(U:UpF p.Next.length tp dp up)(hz:∀q,q<p.Next.length->tp q≠q->dp (tp q)<dp q):iter (λ(s:yab×Nat)=>zap.s36 up s.1 s.2) fuel (up,0)=some ((List.range p.Next.length).map λ(q:Nat)=>(↑(tp q):Int)):=by
 have hn:=H.n2;have hl:=U.len
 have key:=za1 (step:=λ(s:yab×Nat)=>zap.s36 up s.1 s.2) (λs=>s.2<=p.Next.length/\UpF p.Next.length tp dp s.1/\Wrt (λq=>(↑(tp q):Int)) up s.2 s.1) (λs=>p.Next.length-s.2) (λr=>r=(List.range p.Next.length).map λ(q:Nat)=>(↑(tp q):Int)) (λ⟨y,q⟩ ⟨g1,g2,g3⟩=>by
  simp only at g1 g2 g3
  simp only[zap.s36]
  have a0:=g2.len
  by_cases h:q<p.Next.length
  ·left
   refine⟨(y.set q (↑(tp q):Int),q+1),?_,⟨h,g2.flat hz h,g3.step (by omega) rfl⟩,by simp only;omega⟩
   rw[zkB (by omega),zkD,top_eq g2 (by omega) h,zam,zah (get_at (l:=y) (i:=q) (by omega))]
  ·right
   have e1:q=p.Next.length:=by omega
   subst e1
   refine⟨_,by rw[zkA (by omega),zkC],?_⟩
   rw[g3.done (by omega),hl]) fuel (up,0) ⟨yaf _,U,Wrt.zero _ _⟩ (by have:=zay;simp only;omega)
 obtain⟨r,e1,rfl⟩:=key;exact e1
def loop_start(H:zb1 p):iter (λ(s:yab×yaa×Nat)=>zap.s2 p s.1 s.2.1 s.2.2) fuel ((List.replicate p.Next.length (0:Int)),(List.replicate p.Next.length ([]:yab)),0)=some ((List.range p.Next.length).map (λ(q:Nat)=>(q:Int)),(List.range p.Next.length).map λ(q:Nat)=>[(q:Int)]):=by
 have hn:=H.n2
 have key:=za1 (step:=λ(s:yab×yaa×Nat)=>zap.s2 p s.1 s.2.1 s.2.2) (λs=>s.2.2<=p.Next.length/\s.1.length=p.Next.length/\s.2.1.length=p.Next.length/\(∀b,b<s.2.2->s.1[b]?=some (b:Int)/\s.2.1[b]?=some [(b:Int)])) (λs=>p.Next.length-s.2.2) (λr=>r=((List.range p.Next.length).map (λ(q:Nat)=>(q:Int)),(List.range p.Next.length).map λ(q:Nat)=>[(q:Int)])) (λ⟨y,z,q⟩ ⟨g1,g2,g3,g4⟩=>by
  simp only at g1 g2 g3 g4
  simp only[zap.s2,yak]
  by_cases h:q<p.Next.length
  ·left
   refine⟨(y.set q (q:Int),z.set q [(q:Int)],q+1),?_,⟨h,by rw[ybb];exact g2,by rw[ybb];exact g3,λb hb=>?_⟩,by simp only;omega⟩
   ·rw[zkB (by omega),zkD,zah (get_at (l:=y) (i:=q) (by omega)),zah (get_at (l:=z) (i:=q) (by omega)),zaq (by unfold inR;omega)]
   ·simp only
    by_cases e:b=q
    ·subst e
     exact⟨ya2 (by omega),ya2 (by omega)⟩
    ·rw[ya3 (λh=>e h.symm),ya3 (λh=>e h.symm)]
     exact g4 b (ycu (Nat.le_of_lt_succ hb) e)
  ·right
   have e1:q=p.Next.length:=by omega
   subst e1
   refine⟨_,by rw[zkA (by omega),zkC],?_⟩
   refine Prod.ext (yca λb=>?_) (yca λb=>?_)
   ·simp only
    by_cases hb:b<p.Next.length
    ·rw[(g4 b hb).1,yae,yba hb];rfl
    ·rw[yat (by omega),yat (by rw[zkK,ya4];omega)]
   ·simp only
    by_cases hb:b<p.Next.length
    ·rw[(g4 b hb).2,yae,yba hb];rfl
    ·rw[yat (by omega),yat (by rw[zkK,ya4];omega)]) fuel ((List.replicate p.Next.length (0:Int)),(List.replicate p.Next.length ([]:yab)),0) ⟨yaf _,yak ..,yak ..,λb hb=>absurd hb (ybg _)⟩ (by have:=zay;simp only;omega)
 obtain⟨r,e1,rfl⟩:=key;exact e1
def ev_fold(H:zb1 p)(hs:s<p.Next.length)(ht:t<p.Next.length):(zge p s t/\zap p (s:Int) (t:Int)=some ([],false))\/(¬zge p s t/\∃tp:Nat->Nat,zap p (s:Int) (t:Int)=some ((List.range p.Next.length).map (λ(q:Nat)=>(↑(tp q):Int)),true)/\(∀q,q<p.Next.length->tp q<p.Next.length)/\∀q r,q<p.Next.length->r<p.Next.length->(tp q=tp r↔Cong p s t q r)):=by
 have hn:=H.n2
 have F0:EvF p s t (λq=>q) (λ_=>0) ((List.range p.Next.length).map λ(q:Nat)=>(q:Int)) ((List.range p.Next.length).map λ(q:Nat)=>[(q:Int)]) [⟨(s:Int),(t:Int)⟩]:=by
  refine⟨⟨by rw[zkK,ya4],λq hq=>hq,λq _=>rfl,λq hq=>⟨q,hq,by rw[yae,yba hq];rfl,λ_=>rfl,λh=>absurd rfl h⟩,λq hq=>?_⟩,λq _ _=>rfl,⟨by rw[zkK,ya4],λc hc _=>⟨[c],by rw[yae,yba hc];rfl,by simp,λq=>⟨λh=>?_,λh=>yag.2 h.2⟩⟩⟩,λq _=>.refl q,λw hw=>⟨s,t,yag.1 hw,hs,ht,.base⟩,λf hf=>hf.2 s t (yag.2 rfl),λq r a hq hr e h1 h2=>?_,?_⟩
  ·have:=zmq p.Next.length λq=>q;omega
  ·rw[yag.1 h];exact⟨hc,rfl⟩
  ·have e:q=r:=e;subst e;exact⟨rfl,λf _=>rfl⟩
  ·have:=zmq p.Next.length λq=>q;rw[ybc];omega
 obtain⟨r,e1,hr⟩:=loop_evf H F0;unfold zap;rw[zaq ⟨by omega,by omega,by unfold za5;omega⟩,zaq ⟨by omega,by omega,by unfold za5;omega⟩,loop_start H,zam];unfold zap.k37;simp only;rw[e1,zam];rcases hr with⟨rfl,hc⟩|⟨up,mem,tp,dp,rfl,F⟩
 ·exact .inl ⟨hc,by rw[yc1]⟩
 ·obtain⟨d1,d2⟩:=F.done H hs ht;refine .inr ⟨d2,tp,?_,F.up.lt,d1⟩;rw[ybx,loop_flat H F.up (λq hq h=>?_),zam];obtain⟨w,w1,w2,w3,w4⟩:=F.up.at_ q hq;have:=(w4 h).2;rw[F.z _ (F.up.lt q hq) (F.up.idem q hq)];omega
end
end
section
def sumN:Nat->(Nat->Nat)->Nat
 |0,_=>0
 |n+1,f=>sumN n f+f n
def zoh{f g:Nat->Nat}:∀{n:Nat},(∀i,i<n->f i=g i)->sumN n f=sumN n g
 |0,_=>rfl
 |n+1,h=>by unfold sumN;rw[zoh λi hi=>h i (by omega),h n (by omega)]
def sumN_le{f:Nat->Nat}{k:Nat}:∀{n:Nat},(∀i,i<n->f i<=k)->sumN n f<=n*k
 |0,_=>by unfold sumN;omega
 |n+1,h=>by
  have:=sumN_le (n:=n) λi hi=>h i (by omega);have:=h n (by omega);unfold sumN;rw[ydf];omega
def conf(p:zaa)(tp:Nat->Nat)(q a:Nat):Nat:=if pnx p q a≠-1/\(List.range q).any (λq'=>decide (tp q'=tp q)&&decide (pnx p q' a≠-1))=true then 1 else 0
def any_iff{p:zaa}{tp:Nat->Nat}{q c a:Nat}:(List.range q).any (λq'=>decide (tp q'=c)&&decide (pnx p q' a≠-1))=true↔∃q',q'<q/\tp q'=c/\pnx p q' a≠-1:=by
 rw[yep];constructor
 ·rintro⟨x,h1,h2⟩;rw[yax]at h2;exact⟨x,yay.1 h1,of_decide_eq_true h2.1,of_decide_eq_true h2.2⟩
 ·rintro⟨x,h1,h2,h3⟩;exact⟨x,yay.2 h1,by rw[zkB h2,zkB h3];rfl⟩
def conf_le(p:zaa)(tp:Nat->Nat)(q a:Nat):conf p tp q a<=1:=by unfold conf;split<;>omega
def scP(p:zaa)(tp:Nat->Nat):Nat:=sumN p.Next.length λq=>sumN p.Inputs.toNat λa=>conf p tp q a
def scP_congr{p:zaa}{tp cl:Nat->Nat}(h:∀q r,q<p.Next.length->r<p.Next.length->(tp q=tp r↔cl q=cl r)):scP p tp=scP p cl:=by
 refine zoh λq hq=>zoh λa _=>?_;unfold conf
 have:(pnx p q a≠-1/\(List.range q).any (λq'=>decide (tp q'=tp q)&&decide (pnx p q' a≠-1))=true)↔(pnx p q a≠-1/\(List.range q).any (λq'=>decide (cl q'=cl q)&&decide (pnx p q' a≠-1))=true):=by
  rw[any_iff,any_iff];refine and_congr_right λ_=>⟨λ⟨x,h1,h2,h3⟩=>⟨x,h1,(h x q (by omega) hq).1 h2,h3⟩,λ⟨x,h1,h2,h3⟩=>⟨x,h1,(h x q (by omega) hq).2 h2,h3⟩⟩
 by_cases g:pnx p q a≠-1/\(List.range q).any (λq'=>decide (tp q'=tp q)&&decide (pnx p q' a≠-1))=true
 ·rw[if_pos g,if_pos (this.1 g)]
 ·rw[if_neg g,if_neg λk=>g (this.2 k)]
end
section
def zo1:zjb=some true:=by decide +kernel
end
section
def mset_keys{κ ν:Type}[BEq κ]{k:κ}{v:ν}{Q:κ->Prop}(hk:Q k):∀{m:List (κ×ν)},(∀x∈m,Q x.1)->∀x∈mset k v m,Q x.1
 |[],_,x,hx=>by
  unfold mset at hx;rw[yag.1 hx];exact hk
 |p::m,h,x,hx=>by
  unfold mset at hx;split at hx
  ·rcases yaw.1 hx with rfl|hx
   ·exact hk
   ·exact h x (yau _ hx)
  ·rcases yaw.1 hx with rfl|hx
   ·exact h _ ybl
   ·exact mset_keys hk (λy hy=>h y (yau _ hy)) x hx
structure zm1(p:zaa)(tp:Nat->Nat)(q a:Nat)(m:List (yab×Bool)):Prop where
 keys:∀x∈m,List.length x.1=2
 at_:∀c b:Nat,(mget [(c:Int),(b:Int)] m).getD false=true↔∃r,(r<q\/r=q/\b<a)/\tp r=c/\pnx p r b≠-1
def zm1.skip{p:zaa}{tp:Nat->Nat}{q a:Nat}{m:List (yab×Bool)}(S:zm1 p tp q a m)(h:pnx p q a=-1):zm1 p tp q (a+1) m:=by
 refine⟨S.keys,λc b=>?_⟩;rw[S.at_];refine⟨λ⟨r,h1,h2,h3⟩=>⟨r,h1.imp id λk=>⟨k.1,by omega⟩,h2,h3⟩,λ⟨r,h1,h2,h3⟩=>⟨r,?_,h2,h3⟩⟩;rcases h1 with k|⟨k1,k2⟩
 ·exact .inl k
 ·refine .inr ⟨k1,ycu (by omega) λe=>h3 (by rw[k1,e];exact h)⟩
def zm1.put{p:zaa}{tp:Nat->Nat}{q a:Nat}{m:List (yab×Bool)}(S:zm1 p tp q a m)(h:pnx p q a≠-1):zm1 p tp q (a+1) (mset [(↑(tp q):Int),(a:Int)] true m):=by
 refine⟨λx hx=>mset_keys (Q:=λk:yab=>k.length=2) (k:=[(↑(tp q):Int),(a:Int)]) rfl S.keys x hx,λc b=>?_⟩;have hb:∀x y:yab,(x==y)=true↔x=y:=λx y=>beq_iff_eq;by_cases e:c=tp q/\b=a
 ·rw[e.1,e.2,zg2 hb];exact⟨λ_=>⟨q,.inr ⟨rfl,by omega⟩,rfl,h⟩,λ_=>rfl⟩
 ·rw[zga hb (λg=>e (by
   injection g with g1 g2
   injection g2 with g2 _
   exact⟨by omega,by omega⟩)),S.at_]
  refine⟨λ⟨r,h1,h2,h3⟩=>⟨r,h1.imp id λk=>⟨k.1,by omega⟩,h2,h3⟩,λ⟨r,h1,h2,h3⟩=>⟨r,?_,h2,h3⟩⟩;rcases h1 with k|⟨k1,k2⟩
  ·exact .inl k
  ·refine .inr ⟨k1,ycu (by omega) λe2=>e ⟨by rw[<- h2,k1],e2⟩⟩
def zm1.row{p:zaa}(H:zb1 p){tp:Nat->Nat}{q:Nat}(hq:q<p.Next.length){m:List (yab×Bool)}(S:zm1 p tp q p.Inputs.toNat m):zm1 p tp (q+1) 0 m:=by
 refine⟨S.keys,λc b=>?_⟩;rw[S.at_];refine⟨λ⟨r,h1,h2,h3⟩=>⟨r,.inl ?_,h2,h3⟩,λ⟨r,h1,h2,h3⟩=>⟨r,?_,h2,h3⟩⟩
 ·rcases h1 with k|k<;>omega
 ·rcases h1 with k|k
  ·by_cases e:r=q
   ·refine .inr ⟨e,ybd λg=>h3 ?_⟩;obtain⟨xr,yr,k1,k2,k3,k4,_⟩:=H.row r (by omega);unfold pnx;rw[k1,yaj,yat (by omega),yff]
   ·exact .inl (by omega)
  ·omega
section
variable {p:zaa}
def loop_srow(H:zb1 p){tp:Nat->Nat}{ok:Bool}{C:yab}(hat:∀q,q<p.Next.length->C[q]?=some (↑(tp q):Int)){q:Nat}(hq:q<p.Next.length){e:yab}(he:p.Next[q]?=some e){n0:Nat}(hn0:n0<=1000000000000){m0:List (yab×Bool)}(S0:zm1 p tp q 0 m0) :
  ∃m,iter (λ(s:Nat×(List (yab×Bool))×Nat)=>za6.s54 (C,ok) q e s.1 s.2.1 s.2.2) fuel (n0,m0,0)=some (n0+sumN p.Inputs.toNat (λa=>conf p tp q a),m)/\zm1 p tp (q+1) 0 m:=by
 have hi:=H.i2;have a3:=H.i1
 have key:=za1 (step:=λ(s:Nat×(List (yab×Bool))×Nat)=>za6.s54 (C,ok) q e s.1 s.2.1 s.2.2) (λs=>s.2.2<=p.Inputs.toNat/\s.1=n0+sumN s.2.2 (λa=>conf p tp q a)/\zm1 p tp q s.2.2 s.2.1) (λs=>p.Inputs.toNat-s.2.2) (λr=>∃m,r=(n0+sumN p.Inputs.toNat (λa=>conf p tp q a),m)/\zm1 p tp (q+1) 0 m) (λ⟨n,m,a⟩ ⟨g1,g2,S⟩=>by
  simp only at g1 g2 S
  subst g2
  simp only[za6.s54]
  have a6:e.length=p.Inputs.toNat:=by
   obtain⟨xr,yr,k1,k2,k3,k4,_⟩:=H.row q hq
   rw[he]at k1
   injection k1 with k1
   rw[k1]
   omega
  have hb:(sumN a λa=>conf p tp q a)<=a*1:=sumN_le λi _=>conf_le p tp q i
  by_cases h:a<p.Inputs.toNat
  ·left
   obtain⟨n1,n2,n3,n4,n5,xr,yr,a0,a5,a2,a4,_,_⟩:=H.at hq h
   rw[he]at a0
   injection a0 with a0
   subst a0
   have es:(sumN (a+1) λa=>conf p tp q a)=(sumN a λa=>conf p tp q a)+conf p tp q a:=rfl
   rw[zkB (by omega),zkD,zah a2]
   by_cases t0:pnx p q a=-1
   ·refine⟨(n0+sumN (a+1) (λa=>conf p tp q a),m,a+1),?_,⟨h,rfl,S.skip t0⟩,by simp only;omega⟩
    rw[zkB t0,zkD,zam]
    unfold za6.k53
    rw[es,conf,if_neg (λk=>k.1 t0)]
    rfl
   ·refine⟨(n0+sumN (a+1) (λa=>conf p tp q a),mset [(↑(tp q):Int),(a:Int)] true m,a+1),?_,⟨h,rfl,S.put t0⟩,by simp only;omega⟩
    rw[zkA t0,zkC,zah (hat q hq),zaq S.keys]
    have hs:=S.at_ (tp q) a
    by_cases g:(mget [(↑(tp q):Int),(a:Int)] m).getD false=true
    ·obtain⟨r,r1,r2,r3⟩:=hs.1 g
     rw[g,zkD,zaq (by unfold inR;omega),zam,zah (hat q hq),zaq S.keys,zam]
     unfold za6.k53
     rw[es,conf,if_pos ⟨t0,any_iff.2 ⟨r,by omega,r2,r3⟩⟩]
     rfl
    ·have g':(mget [(↑(tp q):Int),(a:Int)] m).getD false=false:=by
      cases k:(mget [(↑(tp q):Int),(a:Int)] m).getD false with
      |true=>exact absurd k g
      |false=>rfl
     rw[g',zkC,zam,zah (hat q hq),zaq S.keys,zam]
     unfold za6.k53
     rw[es,conf,if_neg (λk=>g (hs.2 (by
      obtain⟨r,r1,r2,r3⟩:=any_iff.1 k.2
      exact⟨r,.inl r1,r2,r3⟩)))]
     rfl
  ·right
   have e1:a=p.Inputs.toNat:=by omega
   subst e1
   exact⟨_,by rw[zkA (by omega),zkC],m,rfl,S.row H hq⟩) fuel (n0,m0,0) ⟨yaf _,rfl,S0⟩ (by have:=zay;simp only;omega)
 obtain⟨r,e1,m,rfl,h⟩:=key;exact⟨m,e1,h⟩
def ev_score(H:zb1 p){s t:Nat}(hs:s<p.Next.length)(ht:t<p.Next.length):(zge p s t/\za6 p (s:Int) (t:Int)=some (0,false))\/(¬zge p s t/\za6 p (s:Int) (t:Int)=some ((↑(scP p (clsOf p s t)):Int),true)):=by
 have hn:=H.n2;unfold za6;rcases ev_fold H hs ht with⟨h1,h2⟩|⟨h1,tp,h2,h3,h4⟩
 ·refine .inl ⟨h1,?_⟩;rw[h2,zam];rfl
 ·refine .inr ⟨h1,?_⟩;rw[h2,zam];generalize hC:(List.range p.Next.length).map (λ(q:Nat)=>(↑(tp q):Int))=C;have a0:∀q,q<p.Next.length->C[q]?=some (↑(tp q):Int):=λq hq=>by rw[<- hC,yae,yba hq];rfl
  simp only;rw[yck,zkC]
  have key:=za1 (step:=λ(s:Nat×(List (yab×Bool))×Nat)=>za6.s56 p (C,true) s.1 s.2.1 s.2.2) (λs=>s.2.2<=p.Next.length/\s.1=sumN s.2.2 (λq=>sumN p.Inputs.toNat λa=>conf p tp q a)/\zm1 p tp s.2.2 0 s.2.1) (λs=>p.Next.length-s.2.2) (λr=>r=scP p tp) (λ⟨n,m,q⟩ ⟨g1,g2,S⟩=>by
   simp only at g1 g2 S
   subst g2
   simp only[za6.s56]
   have hi:=H.i2
   have hb:(sumN q λq=>sumN p.Inputs.toNat λa=>conf p tp q a)<=q*64:=sumN_le λi _=>ycg (sumN_le (k:=1) λa _=>conf_le p tp i a) (by omega)
   by_cases h:q<p.Next.length
   ·left
    obtain⟨xr,yr,k1,k2,k3,k4,_⟩:=H.row q h
    obtain⟨m',e1,S'⟩:=loop_srow (ok:=true) H a0 h k1 (n0:=sumN q λq=>sumN p.Inputs.toNat λa=>conf p tp q a) (by omega) S
    refine⟨(sumN (q+1) (λq=>sumN p.Inputs.toNat λa=>conf p tp q a),m',q+1),?_,⟨h,rfl,S'⟩,by simp only;omega⟩
    rw[zkB (by omega),zkD,zah k1,e1,zam]
    rfl
   ·right
    have e1:q=p.Next.length:=by omega
    subst e1
    exact⟨scP p tp,by rw[zkA (by omega),zkC];rfl,rfl⟩) fuel (0,[],0) ⟨yaf _,rfl,⟨λx hx=>(by cases hx),λc b=>⟨λh=>(by cases h),λ⟨r,h1,_⟩=>h1.elim (λk=>absurd k (ybg _)) λk=>absurd k.2 (ybg _)⟩⟩⟩ (by have:=zay;simp only;omega)
  obtain⟨r,e1,rfl⟩:=key;rw[e1,zam,scP_congr (tp:=tp) (cl:=clsOf p s t) λq r hq hr=>(h4 q r hq hr).trans zsq]
end
end
section
def scan_idx{α:Type}{p:α->Bool}:∀(l:List α) (j:Nat),scan (λi x=>if p x=true then some (i:Int) else none) j l=if l.any p=true then some (↑(j+l.findIdx p):Int) else none
 |[],_=>rfl
 |x::l,j=>by
  unfold scan;by_cases h:p x=true
  ·simp[h,List.findIdx_cons]
  ·have hf:p x=false:=by simpa using h
   rw[if_neg h];simp only;rw[scan_idx l (j+1)];simp only[List.any_cons,hf,yfo,List.findIdx_cons,zkC];split
   ·congr 2;omega
   ·rfl
def tindex_eq{l:List zag}{f:zag->Option Bool}{p:zag->Bool}(hl:l.length<=100000000000000)(hf:∀x∈l,f x=some (p x)) :
  zas l f=some (if l.any p=true then(↑(l.findIdx p):Int) else -1):=by
 unfold zas
 have key:=zdy (step:=λs=>zas.s2 l f s) (l:=l) (λi x=>if p x=true then some (i:Int) else none) (λi x hx=>by
  simp only[zas.s2]
  rw[zdw hx,zkD,zah hx,hf x (zkH hx),zam]
  cases p x<;>rfl) (by
  simp only[zas.s2]
  rw[zf4]
  rfl) hl
 rw[key,scan_idx,zam];by_cases h:l.any p=true
 ·rw[if_pos h,if_pos h,yal];rfl
 ·rw[if_neg h,if_neg h];rfl
def cindex_eq{l:yab}{f:Int->Option Bool}{p:Int->Bool}(hl:l.length<=100000000000000)(hf:∀x∈l,f x=some (p x)) :
  zcr l f=some (l.any p):=by
 unfold zcr zbo
 have key:=zdy (step:=λs=>zbo.s2 l f s) (l:=l) (λi x=>if p x=true then some (i:Int) else none) (λi x hx=>by
  simp only[zbo.s2]
  rw[zdw hx,zkD,zah hx,hf x (zkH hx),zam]
  cases p x<;>rfl) (by
  simp only[zbo.s2]
  rw[zf4]
  rfl) hl
 rw[key,scan_idx];by_cases h:l.any p=true
 ·rw[if_pos h,h];simp
 ·have h':l.any p=false:=by simpa using h
  rw[if_neg h,h'];rfl
def propI(t:zag)(n:Int):Int :=
 if zi7 t.In n≠0 then zi7 t.In n else if t.Out.length≠t.In.length then 1 else if(t.Out.all λy=>decide (0<=y/\y<=1048576))=true then 0 else 2
def propI_zero{t:zag}{n:Int}:propI t n=0↔zne n t:=by
 unfold propI zne;by_cases h1:zi7 t.In n=0
 ·rw[if_neg (by simpa using h1)];by_cases h2:t.Out.length=t.In.length
  ·rw[if_neg (by simpa using h2)];by_cases h3:(t.Out.all λy=>decide (0<=y/\y<=1048576))=true
   ·rw[if_pos h3];exact⟨λ_=>⟨h1,h2,λy hy=>of_decide_eq_true (ybf.1 h3 y hy)⟩,λ_=>rfl⟩
   ·rw[if_neg h3];exact⟨λh=>(by cases h),λh=>absurd (ybf.2 λy hy=>zkB (h.2.2 y hy)) h3⟩
  ·rw[if_pos h2];exact⟨λh=>(by cases h),λh=>absurd h.2.1 h2⟩
 ·rw[if_pos h1];exact⟨λh=>absurd h h1,λh=>absurd h.1 h1⟩
def zon(t:zag)(n:Int)(h1:SmW t.In)(h2:SmW t.Out):zfw t n=some (propI t n):=by
 unfold zfw propI;rw[znc _ _ h1,zam];by_cases g1:zi7 t.In n=0
 ·rw[zkA (by simpa using g1),zkC,if_neg (by simpa using g1)];by_cases g2:t.Out.length=t.In.length
  ·rw[zkA (by omega),zkC,if_neg (by simpa using g2)]
   rw[cindex_eq (p:=λy=>!decide (0<=y/\y<=1048576)) (by unfold SmW at h2;omega) λy _=>by
    unfold zew
    by_cases a1:y<0
    ·rw[zkB a1,zkD,zam,zkA (show ¬(0<=y/\y<=1048576) by omega)];rfl
    ·by_cases a2:1048576<y
     ·rw[zkA a1,zkC,zkB a2,zam,zkA (show ¬(0<=y/\y<=1048576) by omega)];rfl
     ·rw[zkA a1,zkC,zkA a2,zam,zkB (show(0<=y/\y<=1048576) by omega)];rfl,zam]
   by_cases h:(t.Out.all λy=>decide (0<=y/\y<=1048576))=true
   ·have h':(t.Out.any λy=>!decide (0<=y/\y<=1048576))=false:=by
     rw[List.any_eq_false];intro y hy;have:=ybf.1 h y hy;simp only[this,yck];exact Bool.false_ne_true
    rw[h',zkC,if_pos h]
   ·have h':(t.Out.any λy=>!decide (0<=y/\y<=1048576))=true:=by
     refine ybd λhn=>h (ybf.2 λy hy=>?_);refine ybd λhm=>hn (yep.2 ⟨y,hy,?_⟩);have:decide (0<=y/\y<=1048576)=false:=by simpa only[Bool.not_eq_true]using hm
     rw[this];rfl
    rw[h',zkD,if_neg h]
  ·rw[zkB (by omega),zkD,if_pos g2]
 ·rw[zkB g1,zkD,if_pos g1]
def zqy:∀a b:yab,zbg a b=zbg b a
 |[],[]=>rfl
 |[],_::_=>rfl
 |_::_,[]=>rfl
 |x::a,y::b=>by
  unfold zbg;by_cases h:x=y
  ·rw[if_pos h,if_pos h.symm,zqy a b]
  ·rw[if_neg h,if_neg λe=>h e.symm]
def Agree.symm{a b:zag}(h:Agree a b):Agree b a:=by
 unfold Agree at h ⊢;rw[zqy];exact h.symm
def common_eq_iff{x y:yab}(h:x.length=y.length):zbg x y=y.length↔x=y:=by
 rw[zlt];exact⟨λhp=>(hp.eq_of_length h.symm).symm,λe=>e ▸ yb9 _⟩
def zij(a b:zag){n:Int}(ha:zne n a)(hb:zne n b)(h1:SmW a.In):∃d,ze4 a b=some d/\(0<=d↔¬Agree a b):=by
 have a2:a.In.length<=2000000:=h1;have hc:=zjg a.In b.In;have la:=ha.2.1;have lb:=hb.2.1;unfold ze4;rw[ziu _ _ h1,zam];have hm:min (min (↑(zbg a.In b.In):Int) (a.Out.length:Int)) (b.Out.length:Int)=↑(zbg a.In b.In):=by omega
 rw[hm,zaq (by omega),zaq (by omega),yah,ziu _ _ (by unfold SmW;rw[yas];omega),zam];have l1:(a.Out.take (zbg a.In b.In)).length=zbg a.In b.In:=by rw[yas];omega
 have l2:(b.Out.take (zbg a.In b.In)).length=zbg a.In b.In:=by rw[yas];omega
 have a3:=zjg (a.Out.take (zbg a.In b.In)) (b.Out.take (zbg a.In b.In));have a0:=common_eq_iff (x:=a.Out.take (zbg a.In b.In)) (y:=b.Out.take (zbg a.In b.In)) (by omega);by_cases h:zbg (a.Out.take (zbg a.In b.In)) (b.Out.take (zbg a.In b.In))<zbg a.In b.In
 ·rw[zkB (by omega),zkD];exact⟨_,rfl,λ_ hA=>by have:=a0.2 hA;omega,λ_=>by omega⟩
 ·rw[zkA (by omega),zkC];exact⟨-1,rfl,λh=>absurd h (by decide),λhA=>absurd (a0.1 (by omega)) hA⟩
def clashO(l:List zag)(t:zag):Prop:=∃u∈l,¬Agree u t
instance (a b:zag):Decidable (Agree a b):=by unfold Agree;infer_instance
instance (l:List zag) (t:zag):Decidable (clashO l t):=by unfold clashO;infer_instance
end
section
def zgy{w:yab}{n:Int}(h:zi7 w n=0):w.length<=1024/\∀a∈w,0<=a/\a<n:=by
 unfold zi7 at h;split at h
 ·split at h
  ·cases h
  ·split at h
   ·rename_i g1 g2 g3;exact⟨by omega,λa ha=>by simpa using ybf.1 g3 a ha⟩
   ·cases h
 ·cases h
def scan_nil{α R:Type}:∀(l:List α) (j:Nat),scan (λ_ _=>(none:Option R)) j l=none
 |[],_=>rfl
 |_::l,j=>by
  unfold scan;exact scan_nil l (j+1)
def fits_tot{l:List zag}(hl:l.length<=1000000)(hw:∀t∈l,t.In.length<=1000000){n:Int}(hp:∀t∈l,zne n t)(hd:∀a∈l,∀b∈l,a.In=b.In->a=b):∃b,zdo l=some b:=by
 have hf:∀a∈l,∀b∈l,zdl a b=some (lexI a.In b.In):=λa ha b _=>by
  unfold zdl;rw[zr8 _ _ (by have:=hw a ha;omega),zam]
 have ht:totB (λu0 u1=>zdl u0 u1) l=true:=by
  refine ybf.2 λa ha=>ybf.2 λb hb=>?_;simp only;rw[hf a ha b hb,hf b hb a ha];simp only[yax];have hz:=zq8 a.In b.In;have hs:=zqd a.In b.In;refine⟨⟨⟨?_,?_⟩,?_⟩,ybf.2 λc hc=>?_⟩
  ·rw[beq_iff_eq];by_cases h:a=b
   ·have:lexI a.In b.In=0:=hz.2 (by rw[h]);rw[zkB this,zkB h]
   ·have h2:¬lexI a.In b.In=0:=λe=>h (hd a ha b hb (hz.1 e));rw[zkA h2,zkA h]
  ·rw[beq_iff_eq];by_cases h:lexI a.In b.In<0
   ·rw[zkB h,zkB (by omega)]
   ·rw[zkA h,zkA (by omega)]
  ·have:=zjo a.In b.In;exact zkB (by omega)
  ·rw[hf b hb c hc,hf a ha c hc];have r1:=zjo a.In b.In;have r2:=zjo b.In c.In;by_cases h1:lexI a.In b.In<0
   ·by_cases h2:lexI b.In c.In<0
    ·have:=zn1 a.In b.In c.In (by omega) (by omega);simp[h1,h2,this]
    ·simp[h1,h2]
   ·simp[h1]
 have a0:=zel (λu0 u1=>zdl u0 u1) l;generalize hS:zkg (λu0 u1=>zdl u0 u1) l=S at a0;have a3:S.length=l.length:=a0.length_eq;unfold zdo zhe zly zf2 zn8;rw[zaq (by unfold za5;omega),zam,zaq (by omega),ht,zkD,hS,zam]
 have key:=za1 (step:=λ(s:Nat)=>zdo.s2 S s) (λi=>1<=i) (λi=>S.length+1-i) (λ_=>True) (λi g1=>by
  simp only[zdo.s2]
  by_cases h:i<S.length
  ·have hx:=get_at h
   have hy:=get_at (l:=S) (i:=i-1) (by omega)
   have mx:S[i]∈l:=a0.mem_iff.1 (ya7 h)
   have my:S[i-1]∈l:=a0.mem_iff.1 (ya7 _)
   obtain⟨d,a2,_⟩:=zij S[i-1] S[i] (hp _ my) (hp _ mx) (by have:=hw _ my;unfold SmW;omega)
   rw[zdw hx,zkD,zah hx,za9 (i:=i-1) (by omega) hy,zjm _ _ (by have:=hw _ mx;unfold SmW;omega),zam]
   by_cases q:S[i-1].In <+: S[i].In
   ·rw[zkB q,zkD,zam,zkD]
    exact .inr ⟨_,rfl,trivial⟩
   ·rw[zkA q,zkC,za9 (i:=i-1) (by omega) hy,zah hx,a2,zam,zam]
    by_cases z:0<=d
    ·rw[zkB z,zkD]
     exact .inr ⟨_,rfl,trivial⟩
    ·rw[zkA z,zkC]
     exact .inl ⟨_,rfl,by omega,by omega⟩
  ·rw[zkA (by omega),zkC]
   exact .inr ⟨_,rfl,trivial⟩) fuel 1 (yaq _) (by have:=zay;omega)
 obtain⟨r,e,-⟩:=key;rw[e,zam];cases r with
 |inl u=>exact⟨true,rfl⟩
 |inr b=>exact⟨b,rfl⟩
def zm6.dist{o:zav}(hv:zm6 o):∀a∈o.Traces,∀b∈o.Traces,a.In=b.In->a=b:=λa ha b hb e=>by
 obtain⟨i,hi,rfl⟩:=ycr ha;obtain⟨j,hj,rfl⟩:=ycr hb;rcases ydn i j with h|h|h
 ·exact absurd (e ▸ yb9 _) (hv.apart i j _ _ h (get_at hi) (get_at hj)).1
 ·subst h;rfl
 ·exact absurd (e ▸ yb9 _) (hv.apart j i _ _ h (get_at hj) (get_at hi)).1
def znq{l:List zag}{f:zag->Option Bool}(hl:l.length<=100000000000000)(hf:∀x∈l,f x=some false):zbr l f=some false:=by
 unfold zbr
 have h:¬l.any (λ_=>false)=true:=λh=>by
  obtain⟨x,_,hx⟩:=yep.1 h;cases hx
 rw[tindex_eq (p:=λ_=>false) hl hf,if_neg h,zam];rfl
def zpn{o:zav}(ho:SmO o)(hv:zm6 o):zb5 o=some 0:=by
 obtain⟨i1,i2⟩:=hv.inp;have hn:=hv.num;have hs:=ho.2;unfold zb5;rw[zkA (by omega),zkC,zkA (by omega),zam,zkC,zkA (by omega),zkC]
 have key:=zdy (step:=λs=>zb5.s2 o s) (l:=o.Traces) (R:=Int) (λ_ _=>none) (λi x hx=>by
  obtain⟨hi,a3⟩:=zkI.1 hx
  have mx:x∈o.Traces:=zkH hx
  obtain⟨p1,p2⟩:=hv.prop x mx
  have sx:SmW x.In:=by have:=(hs x mx).1;unfold SmW;omega
  have a4:propI x o.Inputs=0:=propI_zero.2 p1
  have a5:x.In.length≠0:=λe=>p2 (yaz e)
  simp only[zb5.s2]
  rw[zdw hx,zkD,zah hx,znc _ _ sx,zam,p1.1,zkA (by decide),zkC,zkA (by omega),zkC,zon _ _ sx (hs x mx).2,zam,a4,zkA (by decide),zkC]
  by_cases h0:0<i
  ·have hy:=get_at (l:=o.Traces) (i:=i-1) (by omega)
   have hc:=hv.asc (i-1) i _ _ (by omega) hy hx
   have my:=zkH hy
   unfold zhf
   rw[zkB (by omega),zkD,za9 (i:=i-1) (by omega) hy,zhx _ _ (by have:=(hs _ my).1;omega),zam,zam,hc,zkA (by decide),zam,zkC]
  ·rw[zkA (by omega),zkC,zam,zkC]) (by
  simp only[zb5.s2]
  rw[zf4,zkC]) (by omega)
 rw[key,scan_nil,zam];simp only[ybx];obtain⟨b,hb⟩:=fits_tot (l:=o.Traces) (by omega) (λt ht=>by have:=(zgy (hv.prop t ht).1.1).1;omega) (λt ht=>(hv.prop t ht).1) hv.dist;rw[hb,zam];cases b with
 |true=>rfl
 |false =>
  rw[zkC]
  have a2:=zdy (step:=λs=>zb5.s4 o s) (l:=o.Traces) (R:=Int) (λ_ _=>none) (λi x hx=>by
   obtain⟨hi,a3⟩:=zkI.1 hx
   have mx:x∈o.Traces:=zkH hx
   have hl:(o.Traces.drop (i+1)).length<=100000000000000:=by rw[ybh];omega
   have a0:∀u∈o.Traces.drop (i+1),u∈o.Traces/\¬x.In <+: u.In/\Agree x u:=λu hu=>by
    refine⟨ybp hu,?_⟩
    obtain⟨k,hk,e⟩:=ycr hu
    rw[List.getElem_drop]at e
    rw[ybh]at hk
    exact hv.apart i (i+1+k) x u (by omega) hx (by rw[get_at (by omega),e])
   simp only[zb5.s4]
   rw[zdw hx,zkD,zah hx,zaq (by omega),znq hl (λu hu=>by
    unfold zfa
    rw[zjm _ _ (by have:=(hs u (a0 u hu).1).1;unfold SmW;omega),zam,zkA (a0 u hu).2.1]),zam,zkC,znq hl (λu hu=>by
    unfold zfd
    obtain⟨d,d1,d2⟩:=zij x u (hv.prop x mx).1 (hv.prop u (a0 u hu).1).1 (by have:=(hs x mx).1;unfold SmW;omega)
    rw[d1,zam,zkA (λh=>d2.1 h (a0 u hu).2.2)]),zam,zkC]) (by
   simp only[zb5.s4]
   rw[zf4,zkC]) (by omega)
  rw[a2,scan_nil,zam];rfl
end
section
def addT_pre(L:List Nat)(t:Int):L <+: addT L t:=by
 unfold addT;split
 ·exact yb9 _
 ·exact ye3 _ _
def zko:∀(x:yab) (L:List Nat),L <+: x.foldl addT L
 |[],L=>yb9 _
 |t::x,L=>by
  rw[yc6];exact(addT_pre L t).trans (zko x _)
def foldl_mem:∀(x:yab) (L:List Nat) (t:Int),t∈x->t=-1\/t.toNat∈x.foldl addT L
 |u::x,L,t,h=>by
  rw[yc6];rcases yaw.1 h with rfl|h
  ·by_cases t0:t=-1
   ·exact .inl t0
   ·refine .inr ((zko x _).subset ?_);unfold addT;split
    ·rename_i g;exact g.resolve_left t0
    ·exact yai _ (yag.2 rfl)
  ·exact foldl_mem x _ t h
def zra(R:Nat->yab):∀(f i:Nat) (L:List Nat),L <+: bfsL R f i L
 |0,_,L=>yb9 _
 |f+1,i,L=>by
  unfold bfsL;cases L[i]? with
  |none=>exact yb9 _
  |some c=>exact(zko (R c) L).trans (zra R f (i+1) _)
def zs1(R:Nat->yab):∀(f i:Nat) (L:List Nat),(∀c,c∈L.take i->∀t,t∈R c->t=-1\/t.toNat∈L)->(bfsL R f i L).length<=f+i->∀c,c∈bfsL R f i L->∀t,t∈R c->t=-1\/t.toNat∈bfsL R f i L
 |0,i,L,h,hl=>by
  unfold bfsL at hl ⊢;rw[yb7 (by omega)]at h;exact h
 |f+1,i,L,h,hl=>by
  unfold bfsL at hl ⊢;cases e:L[i]? with
  |none =>
   have:L.length<=i:=ye9.1 e;rw[yb7 this]at h;exact h
  |some c =>
   rw[e]at hl;refine zs1 R f (i+1) _ (λd hd t ht=>?_) (by simp only at hl;omega);obtain⟨hi,hc⟩:=zkI.1 e;have hp:=zko (R c) L
   have htk:((R c).foldl addT L).take (i+1)=L.take i++[c]:=by
    obtain⟨T,hT⟩:=hp;rw[<- hT,yc7 (by omega),ycd hi,hc]
   rw[htk]at hd;rcases yam.1 hd with k|k
   ·exact(h d k t ht).elim .inl λk=>.inr (hp.subset k)
   ·rw[yag.1 k]at ht;exact foldl_mem _ _ _ ht
def zgt{Q:zaa}(R:zsi Q){c a:Nat}(hc:c∈ordP Q)(ha:a<Q.Inputs.toNat):gx Q.Next c a=-1\/(gx Q.Next c a).toNat∈ordP Q:=by
 obtain⟨nums,_,A⟩:=zcu R;have a0:=A.le;obtain⟨x,x1,x2,x3⟩:=R.gn.at (A.lt c hc) ha;refine zs1 (λc=>(Q.Next[c]?).getD []) (Q.Next.length+1) 0 [Q.Start.toNat] (λd hd=>by simp at hd) (by have:(bfsL (λc=>(Q.Next[c]?).getD []) (Q.Next.length+1) 0 [Q.Start.toNat]).length<=Q.Next.length:=a0;omega) c hc _ ?_;rw[x1,yaj];exact zkH x2
def renP_ok{Q:zaa}(R:zsi Q)(hi:1<=Q.Inputs)(hn:Q.Next.length<=4096)(ho:∀c a,c∈ordP Q->a<Q.Inputs.toNat->gx Q.Next c a≠-1->0<=gx Q.Out c a/\gx Q.Out c a<=1048576):zb1 (renP Q):=by
 obtain⟨nums,_,A⟩:=zcu R;have a3:=A.le
 have a0:0<(ordP Q).length:=by
  have:=(zra (λc=>(Q.Next[c]?).getD []) (Q.Next.length+1) 0 [Q.Start.toNat]).length_le;exact this
 unfold renP;refine⟨hi,R.i2,by simp only[zkK];exact a0,by simp only[zkK];omega,by simp only[zkK];omega,by simp only[zkK],λs hs=>?_⟩;simp only[zkK]at hs ⊢;have hx:=get_at hs;have hc:(ordP Q)[s]∈ordP Q:=ya7 hs;refine⟨zhi Q (ordP Q) (ordP Q)[s],zjd Q (ordP Q)[s],by rw[yae,hx];rfl,by rw[yae,hx];rfl,?_,?_,λa t o h1 h2=>?_⟩
 ·unfold zhi;rw[zkK,ya4];omega
 ·unfold zjd;rw[zkK,ya4];omega
 ·unfold zhi at h1;unfold zjd at h2;rw[yae]at h1 h2;by_cases ha:a<Q.Inputs.toNat
  ·rw[yba ha]at h1 h2;have h1:numT (ordP Q) (gx Q.Next (ordP Q)[s] a)=t:=by injection h1
   have h2:(if gx Q.Next (ordP Q)[s] a=-1 then(-1:Int) else gx Q.Out (ordP Q)[s] a)=o:=by injection h2
   rw[<- h1,<- h2];unfold numT;by_cases t0:gx Q.Next (ordP Q)[s] a=-1
   ·rw[if_neg (λg=>g.1 t0),if_pos t0];omega
   ·have hm:=(zgt R hc ha).resolve_left t0;have a2:=yby hm;obtain⟨o1,o2⟩:=ho _ a hc ha t0;rw[if_pos ⟨t0,hm⟩,if_neg t0];omega
  ·rw[yat (by rw[ya4];omega)]at h1;cases h1
end
section
section
variable {p:zaa}
def zh2(p:zaa)(red:List Bool)(r a b:Nat):Prop:=red[r]?=some true/\pnx p r a=(b:Int)/\red[b]?=some false
end
end
section
section
variable {p:zaa}
end
end
section
inductive RS(p:zaa):Nat->Prop
 |st:RS p p.Start.toNat
 |step {q:Nat} (a u:Nat) (h:RS p q) (hu:pnx p q a=(u:Int)):RS p u
def Conn(p:zaa):Prop:=∀q,q<p.Next.length->RS p q
def zoc(Q:zaa):Q.Start.toNat∈ordP Q:=(zra (λc=>(Q.Next[c]?).getD []) (Q.Next.length+1) 0 [Q.Start.toNat]).subset (yag.2 rfl)
def zpi.mem{p Q:zaa}{cl:Nat->Nat}(H:zb1 p)(K:zpi p Q cl){q:Nat}(h:RS p q):cl q∈ordP Q:=by
 induction h with
 |st =>
  have:=zoc Q
  rwa [K.st,yah]at this
 |step a u h hu ih =>
  obtain⟨h1,h2,h3⟩:=zff H hu;rename_i q;have hc:=K.lt q h1;have a2:=K.idem q h1;have a0:pnx p q a≠-1:=by omega
  obtain⟨r1,r2⟩:=K.row (cl q) a hc h2 a2;by_cases k:gx Q.Next (cl q) a=-1
  ·exact absurd (r1 k q h1 rfl) a0
  ·obtain⟨e,_⟩:=(r2 k).2 q h1 rfl a0;rw[hu,yah]at e;have:=(zgt K.ren ih (a:=a) (by rw[K.inp];exact h2)).resolve_left k
   rwa [e,yah]at this
def zrh(P:Nat->Prop):∀(x:yab) (L:List Nat),(∀c,c∈L->P c)->(∀t,t∈x->t≠-1->P t.toNat)->∀c,c∈x.foldl addT L->P c
 |[],L,h,_,c,hc=>h c hc
 |t::x,L,h,hx,c,hc=>by
  rw[yc6]at hc;refine zrh P x _ (λd hd=>?_) (λu hu=>hx u (yau _ hu)) c hc;unfold addT at hd;split at hd
  ·exact h d hd
  ·rename_i g;rcases yam.1 hd with k|k
   ·exact h d k
   ·rw[yag.1 k];exact hx t ybl λe=>g (.inl e)
def zqx(R:Nat->yab)(P:Nat->Prop)(hR:∀c,P c->∀t,t∈R c->t≠-1->P t.toNat):∀(f i:Nat) (L:List Nat),(∀c,c∈L->P c)->∀c,c∈bfsL R f i L->P c
 |0,_,L,h,c,hc=>h c hc
 |f+1,i,L,h,c,hc=>by
  unfold bfsL at hc;cases e:L[i]? with
  |none =>
   rw[e]at hc;exact h c hc
  |some d =>
   rw[e]at hc;exact zqx R P hR f (i+1) _ (zrh P _ _ h (hR d (h d (zkH e)))) c hc
def renP_conn{Q:zaa}(R:zsi Q):Conn (renP Q):=by
 obtain⟨nums,_,A⟩:=zcu R
 have a4:∀c a,c∈ordP Q->a<Q.Inputs.toNat->gx Q.Next c a≠-1->pnx (renP Q) ((ordP Q).idxOf c) a=(↑((ordP Q).idxOf (gx Q.Next c a).toNat):Int):=λc a hc ha h=>by
  have hm:=(zgt R hc ha).resolve_left h;have a0:=yby hc;unfold pnx renP;rw[yae,get_at a0,yap,yaj,ydg a0];unfold zhi;rw[yae,yba ha,yap,yaj];unfold numT;rw[if_pos ⟨h,hm⟩]
 have h0:(ordP Q).idxOf Q.Start.toNat=0:=by
  obtain⟨T,hT⟩:=zra (λc=>(Q.Next[c]?).getD []) (Q.Next.length+1) 0 [Q.Start.toNat];unfold ordP;rw[<- hT];simp
 have key:∀c,c∈ordP Q->c∈ordP Q/\RS (renP Q) ((ordP Q).idxOf c):=by
  refine zqx (λc=>(Q.Next[c]?).getD []) (λc=>c∈ordP Q/\RS (renP Q) ((ordP Q).idxOf c)) (λc hc t ht t0=>?_) (Q.Next.length+1) 0 [Q.Start.toNat] λc hc=>?_
  ·obtain⟨h1,h2⟩:=hc;obtain⟨x,x1,x2⟩:=R.gn.row c (A.lt c h1);simp only[x1,yaj]at ht;obtain⟨a,ha,a3⟩:=yci.1 ht
   have hg:gx Q.Next c a=t:=by
    unfold gx;rw[x1,yaj,get_at ha,yaj,a3]
   have a2:gx Q.Next c a≠-1:=by rw[hg];exact t0
   have hm:=(zgt R h1 (a:=a) (by omega)).resolve_left a2;have hp:=a4 c a h1 (by omega) a2;rw[hg]at hm hp;exact⟨hm,.step a _ h2 hp⟩
  ·rw[yag.1 hc];refine⟨zoc Q,?_⟩;rw[h0];exact .st
 intro s hs
 have hs:s<(ordP Q).length:=by
  unfold renP at hs;simpa using hs
 have h1:=(key (ordP Q)[s] (ya7 hs)).2
 rwa [A.nd.idxOf_getElem s hs]at h1
end
section
section
variable {p:zaa}
end
end
section
section
variable {p:zaa}
end
end
section
def zro(red:List Bool):Nat:=red.countP λb=>!b
def whites_set{red:List Bool}:∀{b:Nat},red[b]?=some false->zro (red.set b true)<zro red:=by
 induction red with
 |nil=>intro b h;cases h
 |cons x red ih =>
  intro b h;cases b with
  |zero =>
   have h:x=false:=by injection h
   subst h;unfold zro;simp
  |succ b =>
   have h:=ih (b:=b) h;unfold zro at h ⊢;rw[ye2,yc3,yc3];omega
structure LrnI(p:zaa)(red:List Bool):Prop where
 ok:zb1 p
 con:Conn p
 len:red.length=p.Next.length
end
section
def kids(R:Nat->yab)(c t:Nat):Prop:=(t:Int)∈R c
section
variable {R:Nat->yab}{lt:Nat->Nat->Prop}{st:Nat}
def zss{c:Nat}(hrow:∀(i j:Nat) (u v:Nat),i<j->(R c)[i]?=some (u:Int)->(R c)[j]?=some (v:Int)->lt u v)(hrng:∀t,t∈R c->t=-1\/0<=t){L:List Nat}(hL:L.Pairwise lt)(hk:∀w t,w∈L->kids R c t->lt w t) :
  ∀k,k<=(R c).length->(((R c).take k).foldl addT L).Pairwise lt/\∀w,w∈((R c).take k).foldl addT L->w∈L\/∃i,i<k/\(R c)[i]?=some (w:Int)
 |0,_=>by
  rw[yeg];exact⟨hL,λw h=>.inl h⟩
 |k+1,hk1=>by
  obtain⟨h1,h2⟩:=zss hrow hrng hL hk k (by omega);have hx:=get_at (l:=R c) (i:=k) (by omega);rw[ycd (by omega),yd0];generalize ((R c).take k).foldl addT L=A at h1 h2;show(addT A (R c)[k]).Pairwise lt/\∀w,w∈addT A (R c)[k]->_;have hkeep:∀w,w∈A->w∈L\/∃i,i<k+1/\(R c)[i]?=some (w:Int):=λw h=>(h2 w h).elim .inl λ⟨i,q1,q2⟩=>.inr ⟨i,by omega,q2⟩;unfold addT;split
  ·exact⟨h1,hkeep⟩
  ·rename_i g;have hne:(R c)[k]≠-1:=λe=>g (.inl e);have hge:0<=(R c)[k]:=(hrng _ (ya7 _)).resolve_left hne;have hto:(↑(R c)[k].toNat:Int)=(R c)[k]:=by omega
   refine⟨ydp.2 ⟨h1,by simp,λu hu v hv=>?_⟩,λw hw=>?_⟩
   ·rw[yag.1 hv];rcases h2 u hu with q|⟨i,q1,q2⟩
    ·exact hk u _ q (by unfold kids;rw[hto];exact ya7 _)
    ·exact hrow i k u _ q1 q2 (by rw[hto];exact hx)
   ·rcases yam.1 hw with q|q
    ·exact hkeep w q
    ·refine .inr ⟨k,ydb _,?_⟩;rw[yag.1 q,hto];exact hx
def ztk(hrow:∀(c i j u v:Nat),i<j->(R c)[i]?=some (u:Int)->(R c)[j]?=some (v:Int)->lt u v)(hrng:∀c t,t∈R c->t=-1\/0<=t)(hst:∀c t,kids R c t->lt st t)(hch:∀u v c d,lt u v->kids R u c->kids R v d->lt c d) :
  ∀(f i:Nat) (L:List Nat),L.Pairwise lt->(∀w,w∈L->w=st\/∃j u,j<i/\L[j]?=some u/\kids R u w)->(bfsL R f i L).Pairwise lt
 |0,_,L,h1,_=>h1
 |f+1,i,L,h1,h2=>by
  unfold bfsL;cases e:L[i]? with
  |none=>exact h1
  |some c =>
   obtain⟨hi,hc⟩:=zkI.1 e
   obtain⟨q1,q2⟩:=zss (c:=c) (λi j u v=>hrow c i j u v) (hrng c) h1 (λw t hw ht=>by
    rcases h2 w hw with h|⟨j,u,j1,j2,j3⟩
    ·rw[h];exact hst c t ht
    ·obtain⟨hj,hu⟩:=zkI.1 j2
     have:=(yb6.1 h1) j i hj hi j1
     rw[hu,hc]at this
     exact hch u c w t this j3 ht) (R c).length (yaq _)
   rw[ybw]at q1 q2;refine ztk hrow hrng hst hch f (i+1) _ q1 λw hw=>?_
   have hget:∀(j u:Nat),L[j]?=some u->((R c).foldl addT L)[j]?=some u:=λj u h=>by
    have h3:=zko (R c) L;generalize (R c).foldl addT L=A at h3;obtain⟨T,rfl⟩:=h3;rw[ya5 (zkI.1 h).1];exact h
   rcases q2 w hw with h|⟨k,_,hk⟩
   ·rcases h2 w h with g|⟨j,u,j1,j2,j3⟩
    ·exact .inl g
    ·exact .inr ⟨j,u,by omega,hget j u j2,j3⟩
   ·exact .inr ⟨i,c,ydb _,hget i c e,zkH hk⟩
end
end
section
def zk6{W:yaa}(hn:W.Nodup){i:Nat}{w:yab}(h:W[i]?=some w):W.idxOf w=i:=by
 obtain⟨hi,e⟩:=zkI.1 h;have hm:w∈W:=zkH h;have a0:=yby hm;refine(List.getElem_inj (h₀:=a0) (h₁:=hi) hn).1 ?_;rw[ydg a0,e]
def zo5{W:yaa}{w:yab}(h:w∈W):W[W.idxOf w]?=some w:=by
 have a0:=yby h;rw[get_at a0,ydg a0]
structure ziz(W:yaa)(I:Nat)(D:yab->Prop)(ov:yab->Int)(N O:yaa):Prop where
 gn:Grid W.length I N
 go:Grid W.length I O
 yes:∀q (a:Nat) w,W[q]?=some w->a<I->D (w++[(a:Int)])->gx N q a=(↑(W.idxOf (w++[(a:Int)])):Int)/\gx O q a=ov (w++[(a:Int)])
 no:∀q (a:Nat) w,W[q]?=some w->a<I->¬D (w++[(a:Int)])->gx N q a=-1/\gx O q a=-1
def ziz.congr{W:yaa}{I:Nat}{D D':yab->Prop}{ov:yab->Int}{N O:yaa}(T:ziz W I D ov N O)(h:∀w∈W,∀a:Nat,a<I->(D (w++[(a:Int)])↔D' (w++[(a:Int)]))):ziz W I D' ov N O :=
 ⟨T.gn,T.go,λq a w hw ha hd=>T.yes q a w hw ha ((h w (zkH hw) a ha).2 hd),λq a w hw ha hd=>T.no q a w hw ha λg=>hd ((h w (zkH hw) a ha).1 g)⟩
def ziz.put{W:yaa}{I:Nat}{D:yab->Prop}{ov:yab->Int}{N O:yaa}(T:ziz W I D ov N O)(hnd:W.Nodup){q a:Nat}{w x y:yab}(hw:W[q]?=some w)(ha:a<I)(hx:N[q]?=some x)(hy:O[q]?=some y) :
  ziz W I (λv=>D v\/v=w++[(a:Int)]) ov (N.set q (x.set a (↑(W.idxOf (w++[(a:Int)])):Int))) (O.set q (y.set a (ov (w++[(a:Int)])))):=by
 have hq:q<W.length:=(zkI.1 hw).1;obtain⟨g1,g2⟩:=T.gn.put hq ha hx (↑(W.idxOf (w++[(a:Int)])):Int);obtain⟨k1,k2⟩:=T.go.put hq ha hy (ov (w++[(a:Int)]))
 have a4:∀(q' b:Nat) (w':yab),W[q']?=some w'->w'++[(b:Int)]=w++[(a:Int)]->q'=q/\b=a:=λq' b w' a0 e=>by
  obtain⟨e1,e2⟩:=List.append_inj' e rfl;subst e1;have h1:=zk6 hnd a0;have h2:=zk6 hnd hw;refine⟨by omega,?_⟩;injection e2 with e2 _
  omega
 refine⟨g1,k1,λq' b w' a0 hb hd=>?_,λq' b w' a0 hb hd=>?_⟩
 ·have a2:q'<W.length:=(zkI.1 a0).1;rw[g2 q' b a2 hb,k2 q' b a2 hb];by_cases e:w'++[(b:Int)]=w++[(a:Int)]
  ·obtain⟨e1,e2⟩:=a4 q' b w' a0 e;rw[if_pos ⟨e1,e2⟩,if_pos ⟨e1,e2⟩,e];exact⟨rfl,rfl⟩
  ·have a3:¬(q'=q/\b=a):=λ⟨e1,e2⟩=>e (by
    subst e1;subst e2
    rw[hw]at a0
    injection a0 with a0
    rw[a0])
   rw[if_neg a3,if_neg a3];exact T.yes q' b w' a0 hb (hd.resolve_right e)
 ·have a2:q'<W.length:=(zkI.1 a0).1;rw[g2 q' b a2 hb,k2 q' b a2 hb]
  have a3:¬(q'=q/\b=a):=λ⟨e1,e2⟩=>hd (.inr (by
   subst e1;subst e2
   rw[hw]at a0
   injection a0 with a0
   rw[a0]))
  rw[if_neg a3,if_neg a3];exact T.no q' b w' a0 hb λh=>hd (.inl h)
def zih{N:yaa}{r:yab}{q:Nat}(h:q<N.length)(a:Nat):gx (N++[r]) q a=gx N q a:=by
 unfold gx;rw[ya5 h]
def zky{N:yaa}{I:Nat}(a:Nat):gx (N++[List.replicate I (-1)]) N.length a=-1:=by
 unfold gx;rw[ybo (yaq _),ycn];simp only[yc8,yaj,ybi];split<;>rfl
def Grid.snoc{n I:Nat}{N:yaa}(G:Grid n I N):Grid (n+1) I (N++[List.replicate I (-1)]):=by
 have hl:=G.len;refine⟨by rw[zkJ,hl];rfl,λq hq=>?_⟩;by_cases h:q<n
 ·rw[ya5 (by omega)];exact G.row q h
 ·have e:q=N.length:=by omega
  rw[e,ybo (yaq _),ycn];exact⟨_,rfl,yak⟩
def ziz.grow{W:yaa}{I:Nat}{D:yab->Prop}{ov:yab->Int}{N O:yaa}(T:ziz W I D ov N O){v:yab}(hD:∀u,D u->u∈W)(hv:∀a:Nat,¬D (v++[(a:Int)])) :
  ziz (W++[v]) I D ov (N++[List.replicate I (-1)]) (O++[List.replicate I (-1)]):=by
 have l1:=T.gn.len;have l2:=T.go.len;have a0:(W++[v]).length=W.length+1:=by rw[zkJ];rfl
 refine⟨a0 ▸ T.gn.snoc,a0 ▸ T.go.snoc,λq a w hw ha hd=>?_,λq a w hw ha hd=>?_⟩
 ·have hq:q<W.length:=by
   rcases ya9 q W.length with h|h
   ·exact h
   ·rw[ybo h]at hw
    have:v=w:=by
     obtain⟨h1,h2⟩:=zkI.1 hw;simp only[ybc]at h1;have e:q-W.length=0:=by omega
     simpa[e]using h2
    subst this;exact absurd hd (hv a)
  rw[ya5 hq]at hw;rw[zih (by omega),zih (by omega),ydm,if_pos (hD _ hd)];exact T.yes q a w hw ha hd
 ·rcases ya9 q W.length with h|h
  ·rw[ya5 h]at hw;rw[zih (by omega),zih (by omega)];exact T.no q a w hw ha hd
  ·obtain⟨h1,h2⟩:=zkI.1 hw;have e:q=W.length:=by omega
   constructor
   ·rw[e,<- l1];exact zky a
   ·rw[e,<- l2];exact zky a
def ziz.start{I:Nat}{ov:yab->Int}:ziz [[]] I (λv=>v∈[([]:yab)]) ov [List.replicate I (-1)] [List.replicate I (-1)]:=by
 have g:Grid 1 I [List.replicate I (-1:Int)]:=⟨rfl,λq hq=>by
  have e:q=0:=by omega
  subst e
  exact⟨_,rfl,yak⟩⟩
 refine⟨g,g,λq a w hw ha hd=>?_,λq a w hw ha hd=>?_⟩
 ·rw[yag]at hd;exact absurd hd (by simp)
 ·have h1:=(zkI.1 hw).1;have e:q=0:=by simp only[ybc]at h1;omega
  subst e;have:=zky (N:=[]) (I:=I) a;exact⟨this,this⟩
structure Stem(W:yaa):Prop where
 nd:W.Nodup
 hd:W[0]?=some []
 pc:∀w x,w++[x]∈W->w∈W
def Stem.grow{W:yaa}(H:Stem W){w:yab}{x:Int}(hw:w∈W)(h:w++[x]∉W):Stem (W++[w++[x]]):=by
 refine⟨ybm.2 ⟨H.nd,by simp,λu hu v hv e=>?_⟩,?_,λu y hu=>?_⟩
 ·rw[yag.1 hv]at e;exact h (e ▸ hu)
 ·have:=(zkI.1 H.hd).1;rw[ya5 this];exact H.hd
 ·rcases yam.1 hu with g|g
  ·exact yan _ (H.pc u y g)
  ·obtain⟨e,_⟩:=List.append_inj' (yag.1 g) rfl;exact yan _ (e ▸ hw)
end
section
def common_ge:∀(u a b:yab),u <+: a->u <+: b->u.length<=zbg a b
 |[],_,_,_,_=>yaf _
 |x::u,[],_,h,_=>by simp at h
 |x::u,_::_,[],_,h=>by simp at h
 |x::u,y::a,z::b,h1,h2=>by
  rw[List.cons_prefix_cons]at h1 h2;obtain⟨rfl,h1⟩:=h1;obtain⟨rfl,h2⟩:=h2;have:=common_ge u a b h1 h2;simp only[zbg,if_pos,zkL];omega
def ovT(l:List zag)(w:yab):Int:=((l.find? λt=>decide (w <+: t.In)).map λt=>(t.Out[w.length-1]?).getD 0).getD 0
def agree_at{a b:zag}(h:Agree a b){u:yab}(h1:u <+: a.In)(h2:u <+: b.In){k:Nat}(hk:k<u.length):a.Out[k]?=b.Out[k]?:=by
 have hc:=common_ge u a.In b.In h1 h2;unfold Agree at h;have:=congrArg (λl=>l[k]?) h;simp only[List.getElem?_take_of_lt (show k<zbg a.In b.In by omega)]at this;exact this
def ovT_eq{o:zav}(hv:zm6 o){t:zag}(ht:t∈o.Traces){k:Nat}(hk:k<t.In.length):t.Out[k]?=some (ovT o.Traces (t.In.take (k+1))):=by
 have a0:(t.In.take (k+1)).length=k+1:=by rw[yas];omega
 have hl:=(hv.prop t ht).1.2.1;unfold ovT;cases e:o.Traces.find? λu=>decide (t.In.take (k+1) <+: u.In) with
 |none=>exact absurd (yd5 _ _) (by simpa using List.find?_eq_none.1 e t ht)
 |some u =>
  have hu:u∈o.Traces:=List.mem_of_find?_eq_some e;have hp:t.In.take (k+1) <+: u.In:=by simpa using List.find?_some e
  have hA:Agree t u:=by
   by_cases g:t=u
   ·rw[g];rfl
   ·obtain⟨i,hi,rfl⟩:=ycr ht;obtain⟨j,hj,rfl⟩:=ycr hu;rcases ydn i j with h|h|h
    ·exact(hv.apart i j _ _ h (get_at hi) (get_at hj)).2
    ·subst h;exact absurd rfl g
    ·exact(hv.apart j i _ _ h (get_at hj) (get_at hi)).2.symm
  have:=agree_at hA (yd5 _ _) hp (k:=k) (by omega);rw[yap,yaj,a0,yd9,<- this,get_at (by omega),yaj]
def allP(o:zav):yaa:=preL ([]::o.Traces.map λt=>t.In)
def ze9{x w:yab}:w∈zdi x↔w <+: x:=by
 unfold zdi;rw[yao];constructor
 ·rintro⟨k,_,rfl⟩;exact yd5 _ _
 ·intro h;refine⟨w.length,yay.2 (by have:=h.length_le;omega),(yek.1 h).symm⟩
def zlh{o:zav}{w:yab}:w∈allP o↔w=[]\/∃t∈o.Traces,w <+: t.In:=by
 unfold allP preL;rw[ycf];constructor
 ·rintro⟨x,hx,hw⟩;rcases yaw.1 hx with rfl|hx
  ·exact .inl (List.prefix_nil.1 (ze9.1 hw))
  ·obtain⟨t,ht,rfl⟩:=yao.1 hx;exact .inr ⟨t,ht,ze9.1 hw⟩
 ·rintro (rfl|⟨t,ht,hw⟩)
  ·exact⟨[],ybl,ze9.2 (yb9 _)⟩
  ·exact⟨t.In,yau _ (yao.2 ⟨t,ht,rfl⟩),ze9.2 hw⟩
structure TrI(o:zav)(W:yaa)(N O:yaa):Prop where
 st:Stem W
 tm:ziz W o.Inputs.toNat (λv=>v∈W) (ovT o.Traces) N O
 sub:∀v∈W,v∈allP o
def TrI.le{o:zav}{W N O:yaa}(K:TrI o W N O):W.length<=(allP o).length:=ze3 K.st.nd K.sub
def TrI.take{o:zav}{W N O:yaa}(K:TrI o W N O){w:yab}(h:w∈W):∀n k,k+n=w.length->w.take k∈W
 |0,k,e=>by rw[yb7 (by omega)];exact h
 |n+1,k,e=>by
  have:=K.take h n (k+1) (by omega);rw[ycd (by omega)]at this;exact K.st.pc _ _ this
def tree_s54{o:zav}(hv:zm6 o)(hP:(allP o).length<=4090){t:zag}(ht:t∈o.Traces){W N O:yaa}(K:TrI o W N O){q k:Nat}(hk:k<t.In.length)(hq:W[q]?=some (t.In.take k)) :
  ∃(W' N' O':yaa) (q':Nat),zbn.s54 o t N O (q:Int) k=some (.inl (N',O',(q':Int),k+1))/\TrI o W' N' O'/\W'[q']?=some (t.In.take (k+1))/\∀v∈W,v∈W':=by
 obtain⟨i1,i2⟩:=hv.inp;have b3:=K.le;have a7:=(zgy (hv.prop t ht).1.1).2;have a9:=get_at hk;obtain⟨c1,c2⟩:=a7 _ (ya7 hk);have hx:=a9;generalize t.In[k]=e at c1 c2 hx;obtain⟨a,rfl⟩:=yel c1;have ha:a<o.Inputs.toNat:=by omega
 have a0:t.In.take (k+1)=t.In.take k++[(a:Int)]:=by
  rw[List.take_add_one,hx];rfl
 have a2:q<W.length:=(zkI.1 hq).1;have lN:=K.tm.gn.len;have lO:=K.tm.go.len;obtain⟨x,x1,x2,x3⟩:=K.tm.gn.at a2 ha;obtain⟨y,y1,y2,y3⟩:=K.tm.go.at a2 ha;have a3:=ovT_eq hv ht hk
 have a6:zda o.Inputs=some (List.replicate o.Inputs.toNat (-1)):=by
  have:=zin (x:=o.Inputs.toNat) (by omega)
  rwa [ydu (by omega)]at this
 simp only[zbn.s54];rw[zdw hx,zkD,zah hx,za9 rfl x1,za9 rfl x2];by_cases hm:t.In.take k++[(a:Int)]∈W
 ·obtain⟨g1,g2⟩:=K.tm.yes q a _ hq ha hm;rw[zkA (by omega),zkC,zam];simp only[ybx,zbn.k53];rw[za9 rfl x1,za9 rfl x2,g1];refine⟨W,N,O,_,rfl,K,?_,λv h=>h⟩;rw[a0];exact zo5 hm
 ·obtain⟨g1,g2⟩:=K.tm.no q a _ hq ha hm;have a5:=K.st.grow (zkH hq) hm;have b2:∀b:Nat,¬(t.In.take k++[(a:Int)])++[(b:Int)]∈W:=λb h=>hm (K.st.pc _ _ h);have T1:=K.tm.grow (v:=t.In.take k++[(a:Int)]) (λu h=>h) b2;have a8:(W++[t.In.take k++[(a:Int)]])[q]?=some (t.In.take k):=by rw[ya5 a2];exact hq
  have T2:=T1.put a5.nd a8 ha (by rw[ya5 (by omega)];exact x1) (by rw[ya5 (by omega)];exact y1)
  have a4:(W++[t.In.take k++[(a:Int)]]).idxOf (t.In.take k++[(a:Int)])=N.length:=by
   rw[ydm,if_neg hm,lN];simp
  rw[a4,List.set_append_left _ _ (by omega),List.set_append_left _ _ (by omega)]at T2;rw[a0]at a3;rw[zkB g1,zkD,zkA (by omega),zkC,za9 rfl x1,za9 rfl y1,zah a3,za9 rfl x2,za9 rfl y2,a6,zam,zaq (by rw[ybb];unfold za5;simp only[ybc];omega),zam,zaq (by rw[ybb];unfold za5;simp only[ybc];omega),zam];simp only[ybx,zbn.k53,yah];rw[za9 (i:=q) (x:=x.set a (N.length:Int)) rfl (by rw[ya5 (by rw[ybb];omega),ya2 (by omega)]),za9 (i:=a) (x:=(N.length:Int)) rfl (ya2 (by omega))];refine⟨W++[t.In.take k++[(a:Int)]],_,_,N.length,rfl,⟨a5,T2.congr λw hw b hb=>?_,λv b0=>?_⟩,?_,λv h=>yan _ h⟩
  ·rw[yam,yag]
  ·rcases yam.1 b0 with h|h
   ·exact K.sub v h
   ·rw[yag.1 h,<- a0];exact zlh.2 (.inr ⟨t,ht,yd5 _ _⟩)
  ·rw[lN,a0,ybo (yaq _),ycn];rfl
def tree_loop54{o:zav}(hv:zm6 o)(hP:(allP o).length<=4090){t:zag}(ht:t∈o.Traces){W N O:yaa}(K:TrI o W N O) :
  ∃(W' N' O':yaa),iter (λ(s:yaa×yaa×Int×Nat)=>zbn.s54 o t s.1 s.2.1 s.2.2.1 s.2.2.2) fuel (N,O,0,0)=some (.inl (N',O'))/\TrI o W' N' O'/\t.In∈W'/\∀v∈W,v∈W':=by
 have hl:=(zgy (hv.prop t ht).1.1).1
 have key:=za1 (step:=λ(s:yaa×yaa×Int×Nat)=>zbn.s54 o t s.1 s.2.1 s.2.2.1 s.2.2.2) (λs=>∃(W':yaa) (q:Nat),s.2.2.1=(q:Int)/\s.2.2.2<=t.In.length/\W'[q]?=some (t.In.take s.2.2.2)/\TrI o W' s.1 s.2.1/\∀v∈W,v∈W') (λs=>t.In.length-s.2.2.2)
  (λr=>∃(W' N' O':yaa),r=.inl (N',O')/\TrI o W' N' O'/\t.In∈W'/\∀v∈W,v∈W') (λ⟨N,O,s,k⟩ ⟨W1,q,h1,h2,h3,h4,h5⟩=>by
  simp only at h1 h2 h3 h4 h5 ⊢
  subst h1
  by_cases hk:k<t.In.length
  ·obtain⟨W',N',O',q',e,k1,k2,k3⟩:=tree_s54 hv hP ht h4 hk h3
   exact .inl ⟨_,e,⟨W',q',rfl,hk,k2,k1,λv hv=>k3 v (h5 v hv)⟩,by simp only;omega⟩
  ·right
   simp only[zbn.s54]
   rw[zkA (by omega),zkC]
   refine⟨_,rfl,W1,N,O,rfl,h4,?_,h5⟩
   rw[yb7 (by omega)]at h3
   exact zkH h3) fuel (N,O,0,0) ⟨W,0,rfl,yaf _,by rw[yeg];exact K.st.hd,K,λv h=>h⟩ (by have:=zay;simp only;omega)
 obtain⟨r,e,W',N',O',rfl,q⟩:=key;exact⟨W',N',O',e,q⟩
def tree_loop56{o:zav}(hv:zm6 o)(hP:(allP o).length<=4090) :
  ∃(W N O:yaa),iter (λ(s:yaa×yaa×Nat)=>zbn.s56 o s.1 s.2.1 s.2.2) fuel ([List.replicate o.Inputs.toNat (-1)],[List.replicate o.Inputs.toNat (-1)],0)=some (.inl (N,O))/\TrI o W N O/\∀v,v∈W↔v∈allP o:=by
 have hn:=hv.num
 have K0:TrI o [[]] [List.replicate o.Inputs.toNat (-1)] [List.replicate o.Inputs.toNat (-1)] :=
  ⟨⟨by simp,rfl,λw x h=>by simp at h⟩,ziz.start,λv h=>by
   rw[yag]at h
   exact zlh.2 (.inl h)⟩
 have key:=za1 (step:=λ(s:yaa×yaa×Nat)=>zbn.s56 o s.1 s.2.1 s.2.2) (λs=>∃W,s.2.2<=o.Traces.length/\TrI o W s.1 s.2.1/\∀j t,j<s.2.2->o.Traces[j]?=some t->t.In∈W) (λs=>o.Traces.length-s.2.2)
  (λr=>∃(W N O:yaa),r=.inl (N,O)/\TrI o W N O/\∀t∈o.Traces,t.In∈W) (λ⟨N,O,i⟩ ⟨W,h1,h2,h3⟩=>by
  simp only at h1 h2 h3 ⊢
  simp only[zbn.s56]
  by_cases hi:i<o.Traces.length
  ·have hx:=get_at hi
   obtain⟨W',N',O',e,k1,k2,k3⟩:=tree_loop54 hv hP (ya7 hi) h2
   rw[zdw hx,zkD,zah hx,e,zam]
   refine .inl ⟨_,rfl,⟨W',hi,k1,λj t hj ht=>?_⟩,by simp only;omega⟩
   rcases ya9 j i with h|h
   ·exact k3 _ (h3 j t h ht)
   ·have ej:j=i:=by simp only at hj;omega
    subst ej
    rw[hx]at ht
    injection ht with ht
    subst ht
    exact k2
  ·rw[zkA (by omega),zkC]
   refine .inr ⟨_,rfl,W,N,O,rfl,h2,λt ht=>?_⟩
   obtain⟨j,hj,e⟩:=ycr ht
   exact h3 j t (by omega) (by rw[get_at hj,e])) fuel ([List.replicate o.Inputs.toNat (-1)],[List.replicate o.Inputs.toNat (-1)],0) ⟨[[]],yaf _,K0,λj t hj=>absurd hj (ybg _)⟩ (by have:=zay;simp only;omega)
 obtain⟨r,e,W,N,O,rfl,K,a0⟩:=key;refine⟨W,N,O,e,K,λv=>⟨K.sub v,λh=>?_⟩⟩;rcases zlh.1 h with rfl|⟨t,ht,hp⟩
 ·exact zkH K.st.hd
 ·have:=K.take (a0 t ht) (t.In.length-v.length) v.length (by have:=hp.length_le;omega)
  rwa [<- yek.1 hp]at this
end
section
def zrp:∀(x y:yab) (a b:Int),x.length=y.length->(lexI x y=-1\/x=y/\a<b)->lexI (x++[a]) (y++[b])=-1
 |[],[],a,b,_,h=>by
  rcases h with h|⟨_,h⟩
  ·simp[lexI]at h
  ·simp[lexI,h]
 |[],_::_,_,_,h,_=>by simp at h
 |_::_,[],_,_,h,_=>by simp at h
 |u::x,v::y,a,b,hl,h=>by
  have ih:=zrp x y a b (by simpa using hl);simp only[yc2,lexI];by_cases h1:u<v
  ·rw[if_pos h1]
  ·rw[if_neg h1];rcases h with h|⟨h,h2⟩
   ·simp only[lexI,if_neg h1]at h;by_cases h3:v<u
    ·rw[if_pos h3]at h;exact absurd h (by decide)
    ·rw[if_neg h3]at h ⊢;exact ih (.inl h)
   ·injection h with e1 e2
    rw[if_neg (by omega)];exact ih (.inr ⟨e2,h2⟩)
def zrd{x y:yab}{a b:Int}(h:cmpW x y=-1\/x=y/\a<b):cmpW (x++[a]) (y++[b])=-1:=by
 unfold cmpW at h ⊢;simp only[zkJ,ybc];by_cases h1:x.length<y.length
 ·rw[if_pos (by omega)]
 ·rcases h with h|⟨rfl,h⟩
  ·rw[if_neg h1]at h;by_cases h2:y.length<x.length
   ·rw[if_pos h2]at h;exact absurd h (by decide)
   ·rw[if_neg h2]at h;rw[if_neg (by omega),if_neg (by omega)];exact zrp x y a b (by omega) (.inl h)
  ·rw[if_neg (by omega),if_neg (by omega)];exact zrp x x a b rfl (.inr ⟨rfl,h⟩)
def wd(W:yaa)(c:Nat):yab:=(W[c]?).getD []
def zr6{W:yaa}{c:Nat}{w:yab}(h:W[c]?=some w):wd W c=w:=by
 unfold wd;rw[h,yaj]
section
variable {W N O:yaa}{I:Nat}{ov:yab->Int}
def tree_kid(T:ziz W I (λv=>v∈W) ov N O){c i u:Nat}(h:((N[c]?).getD [])[i]?=some (u:Int)) :
  c<W.length/\i<I/\W[u]?=some (wd W c++[(i:Int)]):=by
 have hl:=T.gn.len
 have hc:c<W.length:=by
  rcases ya9 c W.length with g|g
  ·exact g
  ·rw[yat (l:=N) (by omega)]at h;simp at h
 have hi:i<I:=by
  obtain⟨x,x1,x2⟩:=T.gn.row c hc;rw[x1,yaj]at h;have:=(zkI.1 h).1;omega
 refine⟨hc,hi,?_⟩
 have hg:gx N c i=(u:Int):=by
  unfold gx;rw[h,yaj]
 have hw:=get_at hc;rw[zr6 hw];by_cases d:W[c]++[(i:Int)]∈W
 ·have:=(T.yes c i _ hw hi d).1;have e:u=W.idxOf (W[c]++[(i:Int)]):=by omega
  rw[e];exact zo5 d
 ·have:=(T.no c i _ hw hi d).1;omega
def tree_ren(H:Stem W)(T:ziz W I (λv=>v∈W) ov N O)(hI:I<=64)(hn:W.length<=1000000):zsi (⟨(I:Int),0,N,O⟩:zaa):=by
 have hl:=T.gn.len;have h0:=(zkI.1 H.hd).1;refine⟨by simp,by simp only;omega,by simp only;omega,⟨0,rfl,by simp only;omega⟩,?_,?_,λq a hq ha=>?_⟩
 ·simp only[yah,hl];exact T.gn
 ·simp only[yah,hl];exact T.go
 ·simp only[yah]at hq ha ⊢;rw[hl]at hq;have hw:=get_at hq;by_cases d:W[q]++[(a:Int)]∈W
  ·refine .inr ⟨_,(T.yes q a _ hw ha d).1,?_⟩;rw[hl];exact yby d
  ·exact .inl (T.no q a _ hw ha d).1
def tree_ord(H:Stem W)(T:ziz W I (λv=>v∈W) ov N O)(hI:I<=64)(hn:W.length<=1000000)(hlet:∀w x,w++[x]∈W->∃a:Nat,x=(a:Int)/\a<I) :
  (ordP (⟨(I:Int),0,N,O⟩:zaa)).map (wd W)=sortW W:=by
 have R:=tree_ren H T hI hn;have hl:=T.gn.len;obtain⟨nums,_,A⟩:=zcu R;have h0:=H.hd
 have a0:∀{c t:Nat},kids (λc=>(N[c]?).getD []) c t->∃i,W[t]?=some (wd W c++[(i:Int)]):=λ{c t} h=>by
  obtain⟨i,hi,e⟩:=ycr h;exact⟨i,(tree_kid T (by rw[get_at hi,e])).2.2⟩
 have hs:(ordP (⟨(I:Int),0,N,O⟩:zaa)).Pairwise (λu v=>cmpW (wd W u) (wd W v)=-1):=by
  unfold ordP;simp only;refine ztk (R:=λc=>(N[c]?).getD []) (lt:=λu v=>cmpW (wd W u) (wd W v)=-1) (st:=Int.toNat 0) (λc i j u v a6 h1 h2=>?_) (λc t ht=>?_) (λc t ht=>?_) (λu v c d a4 hu hv=>?_) _ 0 [Int.toNat 0] (by simp) (λw hw=>.inl (yag.1 hw))
  ·rw[zr6 (tree_kid T h1).2.2,zr6 (tree_kid T h2).2.2];exact zrd (.inr ⟨rfl,by omega⟩)
  ·obtain⟨i,hi,e⟩:=ycr ht
   have hc:c<N.length:=by
    rcases ya9 c N.length with g|g
    ·exact g
    ·rw[yat g]at hi;simp at hi
   have hx:=get_at hc
   have a5:i<I:=by
    obtain⟨x,x1,x2⟩:=T.gn.row c (by omega);rw[x1]at hi;simp only[yaj]at hi;omega
   have hg:gx N c i=t:=by
    unfold gx;rw[get_at (l:=(N[c]?).getD []) hi,yaj,e]
   rcases R.rng c i (by simp only;omega) (by simpa using a5) with q|⟨u,q,_⟩
   ·simp only at q;exact .inl (by omega)
   ·simp only at q;exact .inr (by omega)
  ·obtain⟨i,hi⟩:=a0 ht;rw[zr6 hi,zr6 (c:=Int.toNat 0) h0];unfold cmpW;rw[if_pos (by simp)]
  ·obtain⟨i,hi⟩:=a0 hu;obtain⟨j,hj⟩:=a0 hv;rw[zr6 hi,zr6 hj];exact zrd (.inl a4)
 have a2:∀(n:Nat) (w:yab),w.length=n->w∈W->W.idxOf w∈ordP (⟨(I:Int),0,N,O⟩:zaa):=by
  intro n
  induction n with
  |zero =>
   intro w hw hm;have:w=[]:=yaz hw;subst this;rw[zk6 H.nd h0];exact zoc _
  |succ n ih =>
   intro w hw hm;rcases List.eq_nil_or_concat w with rfl|⟨v,x,rfl⟩
   ·simp at hw
   rw[List.concat_eq_append]at hw hm ⊢;obtain⟨a,rfl,ha⟩:=hlet v x hm;have hv:=H.pc v _ hm;have h1:=ih v (by simpa using hw) hv;have hy:=(T.yes _ a v (zo5 hv) ha hm).1;have h2:=(zgt R h1 (a:=a) (by simpa using ha)).resolve_left (by simp only;omega);simp only[hy,yah]at h2;exact h2
 refine zoi (ydz.2 hs) (zer W) λw=>?_;rw[zdu];constructor
 ·intro h;obtain⟨c,hc,rfl⟩:=yao.1 h;have a3:c<W.length:=by have:=A.lt c hc;simp only at this;omega
  rw[zr6 (get_at a3)];exact ya7 a3
 ·intro h;exact yao.2 ⟨_,a2 _ w rfl h,zr6 (zo5 h)⟩
def tree_sorted(H:Stem W)(T:ziz W I (λv=>v∈W) ov N O)(hI:I<=64)(hn:W.length<=1000000)(hlet:∀w x,w++[x]∈W->∃a:Nat,x=(a:Int)/\a<I) :
  ziz (sortW W) I (λv=>v∈sortW W) ov (renP (⟨(I:Int),0,N,O⟩:zaa)).Next (renP (⟨(I:Int),0,N,O⟩:zaa)).Out:=by
 have R:=tree_ren H T hI hn;have hl:=T.gn.len;obtain⟨nums,_,A⟩:=zcu R;have a0:=tree_ord H T hI hn hlet
 have b0:(sortW W).Nodup:=(zer W).imp λ{a b} h e=>by
  rw[e,zjt]at h;exact absurd h (by decide)
 have a8:=A.lt;unfold renP;simp only;generalize ordP (⟨(I:Int),0,N,O⟩:zaa)=F at a0 a8;have a9:F.length=(sortW W).length:=by rw[<- a0,zkK]
 have hF:∀(q:Nat) (w:yab),(sortW W)[q]?=some w->∃c,F[q]?=some c/\W[c]?=some w:=λq w h=>by
  rw[<- a0,yae]at h;cases e:F[q]? with
  |none=>rw[e]at h;simp at h
  |some c =>
   rw[e]at h;simp only[yap,zkF]at h;have hc:=a8 c (zkH e);simp only at hc;have hw:=get_at (l:=W) (i:=c) (by omega);rw[zr6 hw]at h;exact⟨c,rfl,by rw[hw,h]⟩
 have a4:∀v,v∈W->F.idxOf (W.idxOf v)=(sortW W).idxOf v/\W.idxOf v∈F:=λv hv=>by
  have hm:v∈sortW W:=(zdu W v).2 hv;obtain⟨c,h1,h2⟩:=hF _ v (zo5 hm);have hc:=zk6 H.nd h2;have a6:W.idxOf v∈F:=by rw[hc];exact zkH h1
  refine⟨?_,a6⟩;have a5:=yby a6
  have h3:(sortW W)[F.idxOf (W.idxOf v)]?=some v:=by
   rw[<- a0,yae,get_at a5,ydg a5,yap,zr6 (zo5 hv)]
  exact(zk6 b0 h3).symm
 have a3:∀(f:Nat->yab) (g:Nat->Nat->Int),(∀c,f c=(List.range I).map (g c))->∀q a c,F[q]?=some c->a<I->gx (F.map f) q a=g c a:=λf g hf q a c hq ha=>by
  unfold gx;rw[yae,hq,yap,yaj,hf,yae,yba ha,yap,yaj]
 have a2:∀(f:Nat->yab),(∀c,(f c).length=I)->Grid (sortW W).length I (F.map f):=λf hf=>⟨by rw[zkK,a9],λq hq=>by
  rw[yae,get_at (l:=F) (by omega),yap]
  exact⟨_,rfl,hf _⟩⟩
 refine⟨a2 _ λc=>by unfold zhi;simp,a2 _ λc=>by unfold zjd;simp,λq a w hw ha hd=>?_,λq a w hw ha hd=>?_⟩
 ·obtain⟨c,h1,h2⟩:=hF q w hw;have a7:=(zdu W _).1 hd;obtain⟨y1,y2⟩:=T.yes c a w h2 ha a7;obtain⟨z1,z2⟩:=a4 _ a7;rw[a3 _ (λc a=>numT F (gx N c a)) (λc=>by unfold zhi;simp) q a c h1 ha,a3 _ (λc a=>if gx N c a=-1 then(-1:Int) else gx O c a) (λc=>by unfold zjd;simp) q a c h1 ha];rw[y1,y2];refine⟨?_,if_neg (by omega)⟩;unfold numT;rw[if_pos ⟨by omega,by rw[yah];exact z2⟩,yah,z1]
 ·obtain⟨c,h1,h2⟩:=hF q w hw;obtain⟨y1,y2⟩:=T.no c a w h2 ha λh=>hd ((zdu W _).2 h);rw[a3 _ (λc a=>numT F (gx N c a)) (λc=>by unfold zhi;simp) q a c h1 ha,a3 _ (λc a=>if gx N c a=-1 then(-1:Int) else gx O c a) (λc=>by unfold zjd;simp) q a c h1 ha];rw[y1];refine⟨?_,if_pos rfl⟩;unfold numT;rw[if_neg λh=>h.1 rfl]
end
end
section
section
variable {o:zav}{S:yaa}
end
def ovT_rng{o:zav}(hv:zm6 o){v:yab}{x:Int}(h:v++[x]∈allP o):(∃a:Nat,x=(a:Int)/\a<o.Inputs.toNat)/\0<=ovT o.Traces (v++[x])/\ovT o.Traces (v++[x])<=1048576:=by
 obtain⟨i1,i2⟩:=hv.inp;obtain⟨t,ht,hp⟩:=(zlh.1 h).resolve_left (by simp);have a0:=hp.length_le;rw[zkJ,ybc]at a0;have he:=yek.1 hp;rw[zkJ,ybc]at he;have hx:x∈t.In:=hp.subset (yai _ (yag.2 rfl));obtain⟨c1,c2⟩:=(zgy (hv.prop t ht).1.1).2 x hx;have a2:=ovT_eq hv ht (k:=v.length) (by omega);rw[<- he]at a2;obtain⟨o1,o2⟩:=(hv.prop t ht).1.2.2 _ (zkH a2);exact⟨⟨x.toNat,by omega,by omega⟩,o1,o2⟩
end
section
def R35_Large_eq{o:zav}(ho:SmO o):∃b,ze0 o=some b/\(b=false->(allP o).length<=61/\o.Inputs<=4):=by
 obtain⟨hn,hs⟩:=ho;unfold ze0
 have key:=za1 (step:=λ(s:Nat×Nat)=>ze0.s2 o s.1 s.2) (λs=>s.2<=o.Traces.length/\s.1<=2000000/\s.1=(preL ((o.Traces.take s.2).map λt=>t.In)).length) (λs=>o.Traces.length-s.2) (λn=>60<n\/n+1=(allP o).length) (λ⟨n,i⟩ ⟨g1,g2,g3⟩=>by
  simp only at g1 g2 g3
  simp only[ze0.s2]
  by_cases h:i<o.Traces.length
  ·have hx:=get_at h
   have a0:=(hs _ (ya7 h)).1
   rw[zdw hx,zkD,zam]
   by_cases h2:n<=60
   ·left
    rw[zkB (by omega),zkD,zaq (by unfold inR;omega),zah hx,zaq (by unfold inR;omega),zaq (by unfold inR;omega)]
    refine⟨_,rfl,⟨h,by simp only;omega,?_⟩,by simp only;omega⟩
    simp only
    rw[zee hx,ya0,ydw]
    unfold preL at g3 ⊢
    rw[yc9,zkJ,<- g3,List.flatMap_singleton,zfk]
    omega
   ·right
    rw[zkA (by omega),zkC]
    exact⟨_,rfl,.inl (by omega)⟩
  ·right
   rw[zkA (by omega),zkC,zam,zkC]
   refine⟨_,rfl,.inr ?_⟩
   rw[yb7 (by omega)]at g3
   unfold allP
   unfold preL at g3 ⊢
   rw[ybn,zkJ,<- g3,zfk]
   simp only[ya8]
   omega) fuel (0,0) ⟨yaf _,by simp,rfl⟩ (by have:=zay;simp only;omega)
 obtain⟨n,e,hq⟩:=key;rw[e,zam];by_cases h:60<n
 ·rw[zkB (by omega),zkD,zam];exact⟨true,rfl,λh=>by cases h⟩
 ·rw[zkA (by omega),zkC,zam];refine⟨_,rfl,λhb=>?_⟩;have:=of_decide_eq_false hb;omega
def red0(p:zaa):List Bool:=List.set (List.replicate p.Next.length false) 0 true
def learn_start{P:zaa}(H:zb1 P)(G:Conn P):LrnI P (red0 P):=⟨H,G,by unfold red0;rw[ybb,yak]⟩
end
section
def zb1.valid{p:zaa}(H:zb1 p):zm3 p=0:=by
 have h1:=H.i1;have h2:=H.i2;have h3:=H.n1;have h4:=H.n2;have h5:=H.st;have h6:=H.ol
 have hs:scan (rowG p) 0 p.Next=none:=zfc.2 λs x hx=>by
  have a0:=(zkI.1 hx).1;obtain⟨x',y,e1,e2,e3,e4,e5⟩:=H.row s a0;rw[hx]at e1;injection e1 with e1
  subst e1;unfold rowG;rw[yal,e2,yaj,if_neg (by omega)];refine zfc.2 λa t ht=>?_;have a2:=(zkI.1 ht).1;have ho:=get_at (l:=y) (i:=a) (by omega);obtain⟨k1,k2,k3,k4,k5⟩:=e5 a t _ ht ho
  have hc:zmn p.Next.length t y[a]=0:=by
   unfold zmn;rw[if_neg (by omega),if_neg (λh=>h (propext k5))]
  unfold cellP;rw[yal,ho,yaj,hc,if_neg (λh=>h rfl)]
 unfold zm3;rw[if_neg (by omega),if_neg (by omega),if_neg (by omega),if_neg (by omega),if_neg (by omega),hs]
def Goes(p:zaa):Nat->yab->yab->Nat->Prop
 |q,[],y,c=>y=[]/\c=q
 |q,x::w,y,c=>∃(a u:Nat) (y':yab),x=(a:Int)/\pnx p q a=(u:Int)/\y=pot p q a::y'/\Goes p u w y' c
def Goes.snoc{p:zaa}:∀{w y:yab} {q c:Nat},Goes p q w y c->∀{a u:Nat},pnx p c a=(u:Int)->Goes p q (w++[(a:Int)]) (y++[pot p c a]) u
 |[],y,q,c,h,a,u,hu=>by
  obtain⟨rfl,rfl⟩:=h;exact⟨a,u,[],rfl,hu,rfl,rfl,rfl⟩
 |x::w,y,q,c,h,a,u,hu=>by
  obtain⟨b,v,y',h1,h2,rfl,h4⟩:=h;exact⟨b,v,_,h1,h2,rfl,h4.snoc hu⟩
def Goes.rs{p:zaa}:∀{w y:yab} {q c:Nat},RS p q->Goes p q w y c->RS p c
 |[],y,q,c,hq,h=>by rw[h.2];exact hq
 |x::w,y,q,c,hq,h=>by
  obtain⟨b,v,z,h1,h2,rfl,h4⟩:=h;exact h4.rs (.step b v hq h2)
def run_goes{p:zaa}(H:zb1 p){w y:yab}{c:Nat}(hw:w.length<=1000000)(g:Goes p p.Start.toNat w y c):zeg p w=some (y,true):=by
 have hn:=H.n2;have a0:=H.st;unfold zeg;rw[zg4 (by omega),zam,H.valid,zkA (λh=>h rfl),zkC]
 have key:=za1 (step:=λ(s:Int×yab×Nat)=>zeg.s2 p w s.1 s.2.1 s.2.2) (λs=>s.2.2<=w.length/\s.2.1.length=s.2.2/\∃(q:Nat) (y':yab),s.1=(q:Int)/\Goes p q (w.drop s.2.2) y' c/\s.2.1++y'=y) (λs=>w.length-s.2.2) (λr=>r=.inl y) (λ⟨s,z,i⟩ ⟨g1,g2,q,y',g3,g4,g5⟩=>by
  simp only at g1 g2 g3 g4 g5
  subst g3
  simp only[zeg.s2]
  by_cases h:i<w.length
  ·left
   have hx:=get_at h
   rw[yb1 h]at g4
   obtain⟨a,u,z',k1,k2,rfl,k4⟩:=g4
   obtain⟨r1,r2,r3⟩:=zff H k2
   obtain⟨_,_,_,_,_,x,o,x1,x2,x3,x4,_,_⟩:=H.at r1 r2
   rw[k1]at hx
   rw[zdw hx,zkD,zah hx,zkA (by omega),zkC,zkA (by omega),zkC,za9 rfl x1,za9 rfl x3,zam,zkA (by omega),zkC,za9 rfl x2,za9 rfl x4,zaq (by unfold za5;omega),za9 rfl x1,za9 rfl x3]
   refine⟨_,rfl,⟨h,by simp only[zkJ,ybc];omega,u,z',k2,k4,?_⟩,by simp only;omega⟩
   simp only
   rw[yb3]
   exact g5
  ·right
   rw[zkA (by omega),zkC]
   rw[ycp (by omega)]at g4
   refine⟨_,rfl,?_⟩
   rw[<- g5,g4.1,yb4]) fuel (p.Start,[],0) ⟨yaf _,rfl,p.Start.toNat,y,by simp only;omega,by rw[yd2];exact g,rfl⟩ (by have:=zay;simp only;omega)
 obtain⟨r,e,rfl⟩:=key;rw[e,zam];rfl
structure Hom(p p':zaa)(h:Nat->Nat):Prop where
 inp:p'.Inputs=p.Inputs
 st:p'.Start.toNat=h p.Start.toNat
 mv:∀q a (u:Nat),RS p q->pnx p q a=(u:Int)->pnx p' (h q) a=(↑(h u):Int)/\pot p' (h q) a=pot p q a
def Hom.goes{p p':zaa}{h:Nat->Nat}(K:Hom p p' h):∀{w y:yab} {q c:Nat},RS p q->Goes p q w y c->Goes p' (h q) w y (h c)
 |[],y,q,c,hq,g=>by
  obtain⟨rfl,rfl⟩:=g;exact⟨rfl,rfl⟩
 |x::w,y,q,c,hq,g=>by
  obtain⟨b,v,z,h1,h2,rfl,h4⟩:=g;obtain⟨k1,k2⟩:=K.mv q b v hq h2;exact⟨b,h v,z,h1,k1,by rw[k2],K.goes (.step b v hq h2) h4⟩
def renP_at{Q:zaa}(R:zsi Q){c a:Nat}(hc:c∈ordP Q)(ha:a<Q.Inputs.toNat)(h:gx Q.Next c a≠-1):pnx (renP Q) ((ordP Q).idxOf c) a=(↑((ordP Q).idxOf (gx Q.Next c a).toNat):Int)/\pot (renP Q) ((ordP Q).idxOf c) a=gx Q.Out c a:=by
 have hm:=(zgt R hc ha).resolve_left h;have a0:=yby hc;constructor
 ·unfold pnx renP;rw[yae,get_at a0,yap,yaj,ydg a0];unfold zhi;rw[yae,yba ha,yap,yaj];unfold numT;rw[if_pos ⟨h,hm⟩]
 ·unfold pot renP;rw[yae,get_at a0,yap,yaj,ydg a0];unfold zjd;rw[yae,yba ha,yap,yaj,if_neg h]
def fold_hom{p Q:zaa}{cl:Nat->Nat}(H:zb1 p)(K:zpi p Q cl):Hom p (renP Q) λq=>(ordP Q).idxOf (cl q):=by
 refine⟨K.inp,?_,λq a u hq hu=>?_⟩
 ·have h0:(ordP Q).idxOf Q.Start.toNat=0:=by
   obtain⟨T,hT⟩:=zra (λc=>(Q.Next[c]?).getD []) (Q.Next.length+1) 0 [Q.Start.toNat];unfold ordP;rw[<- hT];simp
  rw[K.st,yah]at h0;rw[h0];rfl
 ·obtain⟨h1,h2,h3⟩:=zff H hu;have hc:=K.lt q h1;obtain⟨r1,r2⟩:=K.row (cl q) a hc h2 (K.idem q h1);have a0:pnx p q a≠-1:=by omega
  have hg:gx Q.Next (cl q) a≠-1:=λe=>a0 (r1 e q h1 rfl);obtain⟨k1,k2⟩:=(r2 hg).2 q h1 rfl a0;obtain⟨l1,l2⟩:=renP_at K.ren (K.mem H hq) (by rw[K.inp];exact h2) hg;rw[l1,l2,k1,k2,yah,hu,yah];exact⟨rfl,rfl⟩
def tree_goes{S:yaa}{I:Nat}{ov:yab->Int}{P:zaa}(T:ziz S I (λv=>v∈S) ov P.Next P.Out){t:zag}(hl:t.Out.length=t.In.length)(hS:∀k,t.In.take k∈S)(hlet:∀x∈t.In,∃a:Nat,x=(a:Int)/\a<I)(hov:∀k,k<t.In.length->t.Out[k]?=some (ov (t.In.take (k+1)))) :
  ∀n k,k+n=t.In.length->Goes P (S.idxOf (t.In.take k)) (t.In.drop k) (t.Out.drop k) (S.idxOf t.In)
 |0,k,e=>by
  rw[ycp (by omega),ycp (by omega),yb7 (by omega)];exact⟨rfl,rfl⟩
 |n+1,k,e=>by
  have hk:k<t.In.length:=by omega
  obtain⟨a,ha,hI⟩:=hlet _ (ya7 hk);have hx:=get_at hk
  have a0:t.In.take (k+1)=t.In.take k++[(a:Int)]:=by
   rw[List.take_add_one,hx,ha];rfl
  have hm:=hS (k+1);rw[a0]at hm;obtain⟨h1,h2⟩:=T.yes _ a _ (zo5 (hS k)) hI hm;have ho:=hov k hk;have a2:=get_at (l:=t.Out) (i:=k) (by omega);rw[a2]at ho;injection ho with ho
  rw[yb1 hk,yb1 (by omega:k<t.Out.length)];refine⟨a,S.idxOf (t.In.take (k+1)),t.Out.drop (k+1),ha,by rw[a0];exact h1,?_,tree_goes T hl hS hlet hov n (k+1) (by omega)⟩;rw[ho,a0,<- h2];rfl
def sort_nil{l:yaa}(h:[]∈l):(sortW l).idxOf []=0:=by
 have hm:[]∈sortW l:=(zdu l []).2 h;have hi:=zo5 hm;rcases ycb ((sortW l).idxOf []) with e|e
 ·exact e
 ·have a0:=yby hm;have:=(zer l).get e (get_at (by omega)) hi;unfold cmpW at this;rw[if_neg (by simp)]at this;split at this
  ·exact absurd this (by decide)
  ·rename_i g;have e0:(sortW l)[0]'(by omega)=[]:=yaz (by simpa using g);rw[e0]at this;exact absurd this (by decide)
def tree_run{o:zav}(hv:zm6 o){P:zaa}(h0:P.Start=0)(T:ziz (sortW (allP o)) o.Inputs.toNat (λv=>v∈sortW (allP o)) (ovT o.Traces) P.Next P.Out){t:zag}(ht:t∈o.Traces):Goes P P.Start.toNat t.In t.Out ((sortW (allP o)).idxOf t.In):=by
 obtain⟨i1,i2⟩:=hv.inp
 have:=tree_goes T (hv.prop t ht).1.2.1 (λk=>(zdu _ _).2 (zlh.2 (.inr ⟨t,ht,yd5 _ _⟩))) (λx hx=>by
  obtain⟨c1,c2⟩:=(zgy (hv.prop t ht).1.1).2 x hx
  exact⟨x.toNat,by omega,by omega⟩) (λk hk=>ovT_eq hv ht hk) t.In.length 0 (by omega)
 rw[yeg,yd2,yd2,sort_nil (zlh.2 (.inl rfl))]at this;rw[h0];exact this
end
section
def tree_prog{o:zav}(ho:SmO o)(hv:zm6 o)(hP:(allP o).length<=4090) :
  ∃P:zaa,zbn o=some (P,0)/\zb1 P/\Conn P/\P.Start=0/\P.Inputs=o.Inputs/\ziz (sortW (allP o)) o.Inputs.toNat (λv=>v∈sortW (allP o)) (ovT o.Traces) P.Next P.Out/\∃Q,P=renP Q/\zsi Q:=by
 obtain⟨i1,i2⟩:=hv.inp;have hn:=hv.num;obtain⟨W,N,O,e1,K,hW⟩:=tree_loop56 hv hP;have a8:=K.le;have a0:(o.Inputs.toNat:Int)=o.Inputs:=ydu (by omega);have hI:o.Inputs.toNat<=64:=by omega
 have a2:∀w x,w++[x]∈W->∃a:Nat,x=(a:Int)/\a<o.Inputs.toNat:=λw x h=>(ovT_rng hv (K.sub _ h)).1;have R:=tree_ren K.st K.tm hI (by omega);have TS:=tree_sorted K.st K.tm hI (by omega) a2;have a7:sortW W=sortW (allP o):=zoi (zer _) (zer _) λx=>by rw[zdu,zdu];exact hW x
 rw[a7,a0]at TS;rw[a0]at R;obtain⟨nums,e2,A⟩:=zcu R;have hl:=K.tm.gn.len
 have a5:zb1 (renP (⟨o.Inputs,0,N,O⟩:zaa)):=renP_ok R i1 (by simp only;omega) λc a hc ha a4=>by
  have a6:c<W.length:=by have:=A.lt c hc;simp only at this;omega
  have hw:=get_at a6;simp only at ha a4 ⊢;by_cases d:W[c]++[(a:Int)]∈W
  ·rw[(K.tm.yes c a _ hw ha d).2];exact(ovT_rng hv (K.sub _ d)).2
  ·exact absurd (K.tm.no c a _ hw ha d).1 a4
 have a3:zda o.Inputs=some (List.replicate o.Inputs.toNat (-1)):=by
  have:=zin (x:=o.Inputs.toNat) (by omega)
  rwa [a0]at this
 refine⟨renP ⟨o.Inputs,0,N,O⟩,?_,a5,renP_conn R,rfl,rfl,TS,_,rfl,R⟩;unfold zbn;rw[zpn ho hv,zam,zkA (by decide),zkC,a3,zam,zam,e1,zam];simp only[ybx,zbn.k57];rw[e2,zam]
section
variable {p:zaa}
def zpi.ord{Q:zaa}{cl:Nat->Nat}(H:zb1 p)(K:zpi p Q cl):OrdI p.Next.length cl (ordP Q):=by
 obtain⟨nums,_,A⟩:=zcu K.ren;refine⟨A.nd,λc hc=>⟨by have:=A.lt c hc;rwa [K.len]at this,?_⟩⟩;have a3:=H.st
 have key:=zqx (λc=>(Q.Next[c]?).getD []) (λc=>c<p.Next.length/\cl c=c) (λc ⟨h1,h2⟩ t ht a2=>by
  obtain⟨i,hi,e⟩:=ycr ht
  obtain⟨x,x1,x2⟩:=K.ren.gn.row c (by rw[K.len];exact h1)
  have a0:i<p.Inputs.toNat:=by
   rw[x1,yaj,x2,K.inp]at hi
   exact hi
  have hg:gx Q.Next c i=t:=by
   unfold gx
   rw[get_at (l:=(Q.Next[c]?).getD []) hi,yaj,e]
  obtain⟨⟨r,r1,r2,r3⟩,h4⟩:=(K.row c i h1 a0 h2).2 (by rw[hg];exact a2)
  obtain⟨h5,_⟩:=h4 r r1 r2 r3
  rw[hg]at h5
  obtain⟨b1,b2,_⟩:=H.at r1 a0
  rw[h5,yah]
  exact⟨K.lt _ (by omega),K.idem _ (by omega)⟩) (Q.Next.length+1) 0 [Q.Start.toNat] (λc hc=>by
  rw[yag.1 hc,K.st,yah]
  exact⟨K.lt _ (by omega),K.idem _ (by omega)⟩) c hc
 exact key.2
def quo_part{Q:zaa}{cl:Nat->Nat}(H:zb1 p)(K:zpi p Q cl):zb1 (renP Q)/\(renP Q).Next.length<=p.Next.length/\((∃x,x<p.Next.length/\cl x≠x)->(renP Q).Next.length<p.Next.length):=by
 have hO:=K.ord H;have a0:(renP Q).Next.length=(ordP Q).length:=by unfold renP;simp only[zkK]
 refine⟨renP_ok K.ren (by rw[K.inp];exact H.i1) (by rw[K.len];exact H.n2) λc a hc ha h=>?_,by rw[a0];exact hO.le,λ⟨x,x1,x2⟩=>?_⟩
 ·obtain⟨c1,c2⟩:=hO.lt c hc;rw[K.inp]at ha;obtain⟨⟨r,r1,r2,r3⟩,h3⟩:=(K.row c a c1 ha c2).2 h;obtain⟨_,h4⟩:=h3 r r1 r2 r3;obtain⟨b1,b2,b3,b4,b5,_⟩:=H.at r1 ha;rw[<- h4];exact⟨by omega,b4⟩
 ·rw[a0]
  have:=ze3 (a:=x::ordP Q) (b:=List.range p.Next.length) (yb0.2 ⟨λh=>x2 (hO.lt x h).2,hO.nd⟩) λy hy=>by
   rcases yaw.1 hy with rfl|hy
   ·exact yay.2 x1
   ·exact yay.2 (hO.lt y hy).1
  rw[zkL,ya4]at this;omega
structure BlueB(p:zaa)(red:List Bool)(b:Nat):Prop where
 lt:b<p.Next.length
 wh:red[b]?=some false
 ex:∃r a,zh2 p red r a b
 le:∀r a c,zh2 p red r a c->b<=c
structure FoldB(p:zaa)(red:List Bool)(r0 b:Nat)(Q:zaa)(cl:Nat->Nat)(red':List Bool):Prop where
 rd0:red[r0]?=some true
 no:¬zge p r0 b
 quo:zpi p Q cl
 cls:∀q,q<p.Next.length->cl q=clsOf p r0 b q
 rds:∀i,red'[i]?=some true↔∃q,red[q]?=some true/\(ordP Q).idxOf (cl q)=i
 ok:LrnI (renP Q) red'
 lt:(renP Q).Next.length<p.Next.length
end
end
section
section
variable {p:zaa}
noncomputable def scF(p:zaa)(r b:Nat):Nat:=scP p (clsOf p r b)
noncomputable def bestF(p:zaa)(red:List Bool)(b:Nat):Nat->Option (Nat×Nat)
 |0=>none
 |k+1=>by
  classical
  exact if red[k]?=some true/\¬zge p k b/\∀x,bestF p red b k=some x->x.2<scF p k b then some (k,scF p k b) else bestF p red b k
def zlv{red:List Bool}{b k:Nat}(h:red[k]?=some true/\¬zge p k b/\∀x,bestF p red b k=some x->x.2<scF p k b):bestF p red b (k+1)=some (k,scF p k b):=by
 rw[bestF,if_pos h]
def zhr{red:List Bool}{b k:Nat}(h:¬(red[k]?=some true/\¬zge p k b/\∀x,bestF p red b k=some x->x.2<scF p k b)):bestF p red b (k+1)=bestF p red b k:=by
 rw[bestF,if_neg h]
def zsx{red:List Bool}{b:Nat}:∀{k:Nat} {x:Nat×Nat},bestF p red b k=some x->x.1<k/\red[x.1]?=some true/\¬zge p x.1 b/\x.2=scF p x.1 b
 |0,x,h=>by rw[bestF]at h;cases h
 |k+1,x,h=>by
  by_cases g:red[k]?=some true/\¬zge p k b/\∀x,bestF p red b k=some x->x.2<scF p k b
  ·rw[zlv g]at h;injection h with h
   subst h;exact⟨ydb _,g.1,g.2.1,rfl⟩
  ·rw[zhr g]at h;obtain⟨h1,h2⟩:=zsx h;exact⟨by omega,h2⟩
def zst{red:List Bool}{b:Nat}:∀{k:Nat},bestF p red b k=none->∀r,r<k->red[r]?=some true->zge p r b
 |0,_,r,hr,_=>absurd hr (ybg _)
 |k+1,h,r,hr,hred=>by
  by_cases g:red[k]?=some true/\¬zge p k b/\∀x,bestF p red b k=some x->x.2<scF p k b
  ·rw[zlv g]at h;cases h
  ·rw[zhr g]at h;by_cases e:r=k
   ·subst e;refine ybd λc=>g ⟨hred,c,λx hx=>?_⟩;rw[h]at hx;cases hx
   ·exact zst h r (by omega) hred
def encB(b:Nat):Option (Nat×Nat)->Int×Int×Nat
 |none=>(0,0,0)
 |some x=>((x.2:Int),(b:Int),x.1)
def encBC(b:Nat):Option (Nat×Nat)->za2
 |none=>⟨0,0,0⟩
 |some x=>⟨(x.2:Int),(b:Int),(x.1:Int)⟩
def cz_false{c:za2}(h:c.blue≠0):(decide (c.score=0)&&(decide (c.blue=0)&&(decide (c.red=0)&&true)))=false:=by
 rw[zkA h];simp
def ev_best(H:zb1 p){red:List Bool}(hr:red.length=p.Next.length){b:Nat}(hb:b<p.Next.length)(h0:b≠0):zb9 p red (b:Int)=some (encBC b (bestF p red b p.Next.length)):=by
 have hn:=H.n2
 have key:=za1 (step:=λ(s:Int×Int×Nat×Nat)=>zb9.s10 p red (b:Int) s.1 s.2.1 s.2.2.1 s.2.2.2) (λs=>s.2.2.2<=p.Next.length/\(s.1,s.2.1,s.2.2.1)=encB b (bestF p red b s.2.2.2)) (λs=>p.Next.length-s.2.2.2) (λr=>r=encB b (bestF p red b p.Next.length)) (λ⟨x,y,z,k⟩ ⟨g1,g2⟩=>by
  simp only at g1 g2
  simp only[zb9.s10]
  by_cases h:k<p.Next.length
  ·left
   have hx:=get_at (l:=red) (i:=k) (by omega)
   rw[zkB (by omega),zkD,zah hx]
   cases hc:red[k]with
   |false =>
    have hs:bestF p red b (k+1)=bestF p red b k:=zhr λg=>by rw[hx,hc]at g;cases g.1
    exact⟨(x,y,z,k+1),by rw[ydq,zkD,zam];rfl,⟨h,by simp only;rw[hs,g2]⟩,by simp only;omega⟩
   |true =>
    rw[hc]at hx
    rw[yck,zkC]
    rcases ev_score H h hb with⟨f1,f2⟩|⟨f1,f2⟩
    ·have hs:bestF p red b (k+1)=bestF p red b k:=zhr λg=>g.2.1 f1
     exact⟨(x,y,z,k+1),by rw[f2,zam,zkC,zam,zkC,zam];rfl,⟨h,by simp only;rw[hs,g2]⟩,by simp only;omega⟩
    ·have f2:za6 p (k:Int) (b:Int)=some ((↑(scF p k b):Int),true):=f2
     rw[f2,zam,zkD]
     cases hB:bestF p red b k with
     |none =>
      rw[hB]at g2
      simp only[encB,zkG]at g2
      obtain⟨rfl,rfl,rfl⟩:=g2
      have hs:bestF p red b (k+1)=some (k,scF p k b):=zlv ⟨hx,f1,λx h=>by rw[hB]at h;cases h⟩
      exact⟨((↑(scF p k b):Int),(b:Int),k,k+1),by rw[show(decide ((0:Int)=0)&&(decide ((0:Int)=0)&&(decide ((↑(0:Nat):Int)=0)&&true)))=true from rfl,zkD,zam,zkD,zam];rfl,⟨h,by simp only;rw[hs];rfl⟩,by simp only;omega⟩
     |some w =>
      rw[hB]at g2
      simp only[encB,zkG]at g2
      obtain⟨rfl,rfl,rfl⟩:=g2
      have hz:(decide ((w.2:Int)=0)&&(decide ((b:Int)=0)&&(decide ((w.1:Int)=0)&&true)))=false:=by
       rw[zkA (by omega:¬(b:Int)=0)]
       simp
      rw[hz,zkC,zam]
      by_cases a0:w.2<scF p k b
      ·have hs:bestF p red b (k+1)=some (k,scF p k b):=zlv ⟨hx,f1,λx h=>by rw[hB]at h;injection h with h;rw[<- h];exact a0⟩
       exact⟨((↑(scF p k b):Int),(b:Int),k,k+1),by rw[zkB (by simp only;omega),zkD,zam];rfl,⟨h,by simp only;rw[hs];rfl⟩,by simp only;omega⟩
      ·have hs:bestF p red b (k+1)=some w:=(zhr λg=>a0 (g.2.2 w hB)).trans hB
       exact⟨((w.2:Int),(b:Int),w.1,k+1),by rw[zkA (by simp only;omega),zkC,zam];rfl,⟨h,by simp only;rw[hs];rfl⟩,by simp only;omega⟩
  ·right
   have e1:k=p.Next.length:=by omega
   subst e1
   exact⟨(x,y,z),by rw[zkA (by omega),zkC],g2⟩) fuel (0,0,0,0) ⟨yaf _,rfl⟩ (by have:=zay;simp only;omega)
 obtain⟨r,e1,rfl⟩:=key;unfold zb9;rw[e1,zam];cases bestF p red b p.Next.length<;>rfl
noncomputable def clsL(p:zaa)(r b:Nat):yab:=(List.range p.Next.length).map λq=>(↑(clsOf p r b q):Int)
end
end
section
section
variable {p:zaa}
structure BlM(p:zaa)(red:List Bool)(r k:Nat)(is:List Bool):Prop where
 len:is.length=p.Next.length
 at_:∀b,is[b]?=some true↔∃r' a,(r'<r\/r'=r/\a<k)/\zh2 p red r' a b
def BlM.skip{red is:List Bool}{r k:Nat}(B:BlM p red r k is)(h:∀b,¬zh2 p red r k b):BlM p red r (k+1) is:=by
 refine⟨B.len,λb=>?_⟩;rw[B.at_];refine⟨λ⟨r',a,h1,h2⟩=>⟨r',a,by omega,h2⟩,λ⟨r',a,h1,h2⟩=>⟨r',a,?_,h2⟩⟩;rcases h1 with h1|⟨h1,h3⟩
 ·exact .inl h1
 ·exact .inr ⟨h1,ycu (by omega) λe=>h b (by rw[<- h1,<- e];exact h2)⟩
def BlM.put{red is:List Bool}{r k b:Nat}(B:BlM p red r k is)(hb:b<p.Next.length)(h:zh2 p red r k b):BlM p red r (k+1) (is.set b true):=by
 refine⟨by rw[ybb];exact B.len,λc=>?_⟩;by_cases e:c=b
 ·rw[e,ya2 (by rw[B.len];exact hb)];exact⟨λ_=>⟨r,k,.inr ⟨rfl,by omega⟩,h⟩,λ_=>rfl⟩
 ·rw[ya3 (λg=>e g.symm),B.at_];refine⟨λ⟨r',a,h1,h2⟩=>⟨r',a,by omega,h2⟩,λ⟨r',a,h1,h2⟩=>⟨r',a,?_,h2⟩⟩;rcases h1 with h1|⟨h1,h3⟩
  ·exact .inl h1
  ·refine .inr ⟨h1,ycu (by omega) λe2=>e ?_⟩;have q1:=h2.2.1;have q2:=h.2.1;rw[h1,e2]at q1;omega
def BlM.row(H:zb1 p){red is:List Bool}{r:Nat}(B:BlM p red r p.Inputs.toNat is):BlM p red (r+1) 0 is:=by
 refine⟨B.len,λb=>?_⟩;rw[B.at_];refine⟨λ⟨r',a,h1,h2⟩=>⟨r',a,by omega,h2⟩,λ⟨r',a,h1,h2⟩=>⟨r',a,?_,h2⟩⟩;have:=(zff H h2.2.1).2.1;omega
def loop_brow(H:zb1 p){red:List Bool}(hr:red.length=p.Next.length){r:Nat}(hrl:r<p.Next.length){e:Bool}(he:red[r]?=some e){x:yab}(hx:p.Next[r]?=some x){is0:List Bool}(B0:BlM p red r 0 is0) :
  ∃is,iter (λ(s:List Bool×Nat)=>zbe.s13 red e x s.1 s.2) fuel (is0,0)=some is/\BlM p red (r+1) 0 is:=by
 have hi:=H.i2;have a6:=H.i1
 have key:=za1 (step:=λ(s:List Bool×Nat)=>zbe.s13 red e x s.1 s.2) (λs=>s.2<=p.Inputs.toNat/\BlM p red r s.2 s.1) (λs=>p.Inputs.toNat-s.2) (λis=>BlM p red (r+1) 0 is) (λ⟨is,k⟩ ⟨g1,B⟩=>by
  simp only at g1 B
  simp only[zbe.s13]
  have a9:x.length=p.Inputs.toNat:=by
   obtain⟨xr,yr,k1,k2,k3,k4,_⟩:=H.row r hrl
   rw[hx]at k1
   injection k1 with k1
   rw[k1];omega
  by_cases h:k<p.Inputs.toNat
  ·left
   obtain⟨n1,n2,n3,n4,n5,xr,yr,a0,a8,a5,a7,_,_⟩:=H.at hrl h
   rw[hx]at a0
   injection a0 with a0
   subst a0
   rw[zkB (by omega),zkD,zah a5]
   cases e with
   |false =>
    exact⟨(is,k+1),by rw[zkC,zam,zkC],⟨h,B.skip λb c=>(by have:=c.1;rw[he]at this;cases this)⟩,by simp only;omega⟩
   |true =>
    rw[zkD]
    by_cases t0:pnx p r k=-1
    ·exact⟨(is,k+1),by rw[zkA (λg=>g t0),zkC,zam,zkC],⟨h,B.skip λb c=>(by have:=c.2.1;omega)⟩,by simp only;omega⟩
    ·obtain⟨b,hb⟩:∃b:Nat,pnx p r k=(b:Int):=⟨(pnx p r k).toNat,by omega⟩
     have a3:=(zff H hb).2.2
     have a2:=get_at (l:=red) (i:=b) (by omega)
     rw[zkB t0,zkD,za9 (i:=b) hb a2,zam]
     cases hc:red[b]with
     |true =>
      exact⟨(is,k+1),by rw[yck,zkC],⟨h,B.skip λc a4=>(by
       have q1:=a4.2.1
       have q2:=a4.2.2
       rw[show c=b by omega,a2,hc]at q2
       cases q2)⟩,by simp only;omega⟩
     |false =>
      exact⟨(is.set b true,k+1),by rw[ydq,zkD,za9 (i:=b) hb (get_at (l:=is) (i:=b) (by rw[B.len];exact a3)),hb,yah],⟨h,B.put a3 ⟨he,hb,by rw[a2,hc]⟩⟩,by simp only;omega⟩
  ·right
   have e1:k=p.Inputs.toNat:=by omega
   subst e1
   exact⟨_,by rw[zkA (by omega),zkC],B.row H⟩) fuel (is0,0) ⟨yaf _,B0⟩ (by have:=zay;simp only;omega)
 exact key
def ev_bluesP(H:zb1 p){red:List Bool}(hr:red.length=p.Next.length):∃L:List Nat,zbe p red=some (zch L)/\(∀b,b∈L↔∃r a,zh2 p red r a b)/\L.length<=p.Next.length/\L.Pairwise (·<·):=by
 have hn:=H.n2
 have k1:=za1 (step:=λ(s:List Bool×Nat)=>zbe.s14 p red s.1 s.2) (λs=>s.2<=p.Next.length/\BlM p red s.2 0 s.1) (λs=>p.Next.length-s.2) (λis=>BlM p red p.Next.length 0 is) (λ⟨is,r⟩ ⟨g1,B⟩=>by
  simp only at g1 B
  simp only[zbe.s14]
  by_cases h:r<p.Next.length
  ·left
   have hx:=get_at (l:=red) (i:=r) (by omega)
   have hp:=get_at (l:=p.Next) (i:=r) h
   obtain⟨a2,e1,B'⟩:=loop_brow H hr h hx hp B
   exact⟨(a2,r+1),by rw[zkB (by omega),zkD,zah hx,zah hp,e1,zam],⟨h,B'⟩,by simp only;omega⟩
  ·right
   have e1:r=p.Next.length:=by omega
   subst e1
   exact⟨_,by rw[zkA (by omega),zkC],B⟩) fuel (List.replicate red.length false,0) ⟨yaf _,⟨by rw[yak,hr],λb=>⟨λh=>(by
   simp only[ybi]at h
   split at h
   ·injection h with h;cases h
   ·cases h),λ⟨r',a,h1,_⟩=>absurd h1 (by simp only;omega)⟩⟩⟩ (by have:=zay;simp only;omega)
 obtain⟨is,e1,B⟩:=k1;have a3:=B.len
 have k2:=za1 (step:=λ(s:yab×Nat)=>zbe.s16 is s.1 s.2) (λs=>s.2<=p.Next.length/\∃L:List Nat,s.1=zch L/\L.length<=s.2/\(∀b,b∈L↔b<s.2/\is[b]?=some true)/\L.Pairwise (·<·)) (λs=>p.Next.length-s.2) (λq=>∃L:List Nat,q=zch L/\L.length<=p.Next.length/\(∀b,b∈L↔b<p.Next.length/\is[b]?=some true)/\L.Pairwise (·<·)) (λ⟨y,b⟩ ⟨g1,L,g2,g3,g4,g5⟩=>by
  simp only at g1 g2 g3 g4
  subst g2
  have a0:(zch L).length=L.length:=by unfold zch;rw[zkK]
  simp only[zbe.s16]
  by_cases h:b<p.Next.length
  ·left
   have hx:=get_at (l:=is) (i:=b) (by omega)
   rw[zkB (by omega),zkD,zah hx]
   cases hb:is[b]with
   |false =>
    refine⟨(zch L,b+1),by rw[zkC],⟨h,L,rfl,by simp only;omega,λd=>?_,g5⟩,by simp only;omega⟩
    simp only
    rw[g4 d]
    exact⟨λq=>⟨by omega,q.2⟩,λq=>⟨ycu (by omega) λe=>(by have q2:=q.2;rw[e,hx,hb]at q2;cases q2),q.2⟩⟩
   |true =>
    refine⟨(zch (L++[b]),b+1),?_,⟨h,L++[b],rfl,by simp only[zkJ,ybc];omega,λd=>?_,?_⟩,by simp only;omega⟩
    ·rw[zkD,zaq (by unfold za5;omega)]
     unfold zch
     rw[ya0]
     rfl
    ·simp only
     rw[yam,yag,g4 d]
     constructor
     ·rintro (q|q)
      ·exact⟨by omega,q.2⟩
      ·rw[q];exact⟨by omega,by rw[hx,hb]⟩
     ·intro q
      by_cases e:d=b
      ·exact .inr e
      ·exact .inl ⟨by omega,q.2⟩
    ·refine ydp.2 ⟨g5,by simp,λu hu v hv=>?_⟩
     rw[yag.1 hv]
     exact((g4 u).1 hu).1
  ·right
   have e1:b=p.Next.length:=by omega
   subst e1
   exact⟨_,by rw[zkA (by omega),zkC],L,rfl,g3,g4,g5⟩) fuel ([],0) ⟨yaf _,[],rfl,yaf _,λb=>⟨λh=>(by cases h),λh=>absurd h.1 (ybg _)⟩,List.Pairwise.nil⟩ (by have:=zay;simp only;omega)
 obtain⟨q,e2,L,rfl,c0,c1,c2⟩:=k2
 have hm:∀b,b∈L↔∃r a,zh2 p red r a b:=λb=>by
  rw[c1,B.at_];constructor
  ·rintro⟨_,r',a,_,h⟩;exact⟨r',a,h⟩
  ·rintro⟨r',a,h⟩;obtain⟨q1,q2,q3⟩:=zff H h.2.1;exact⟨q3,r',a,.inl q1,h⟩
 refine⟨L,?_,hm,c0,c2⟩;unfold zbe;rw[zaq ⟨by omega,yc0 _,by unfold za5;omega⟩,e1,zam,e2,zam]
noncomputable def chF(p:zaa)(red:List Bool):Option (Nat×Nat×Nat)->List Nat->Nat⊕Option (Nat×Nat×Nat)
 |acc,[]=>.inr acc
 |acc,b::l=>match bestF p red b p.Next.length with
  |none=>.inl b
  |some w=>chF p red (match acc with|none=>some (w.2,b,w.1)|some x=>if x.1<w.2 then some (w.2,b,w.1) else acc) l
def encC:Option (Nat×Nat×Nat)->za2
 |none=>⟨0,0,0⟩
 |some x=>⟨(x.1:Int),(x.2.1:Int),(x.2.2:Int)⟩
def outCh:Nat⊕Option (Nat×Nat×Nat)->za2×Int
 | .inl b=>(⟨0,0,0⟩,(b:Int))
 | .inr x=>(encC x,-1)
def chF_inl{red:List Bool}{b:Nat}:∀{L:List Nat} {acc:Option (Nat×Nat×Nat)},chF p red acc L=.inl b->b∈L/\bestF p red b p.Next.length=none
 |[],acc,h=>by cases h
 |c::L,acc,h=>by
  rw[chF]at h;cases hB:bestF p red c p.Next.length with
  |none =>
   rw[hB]at h;injection h with h
   rw[<- h];exact⟨ybl,hB⟩
  |some w =>
   rw[hB]at h;obtain⟨h1,h2⟩:=chF_inl h;exact⟨yau _ h1,h2⟩
def chF_inr{red:List Bool}{r:Option (Nat×Nat×Nat)}:∀{L:List Nat} {acc:Option (Nat×Nat×Nat)},chF p red acc L=.inr r->(r=acc/\(L=[]\/acc≠none))\/∃n b q,r=some (n,b,q)/\b∈L/\bestF p red b p.Next.length=some (q,n)
 |[],acc,h=>by
  injection h with h
  exact .inl ⟨h.symm,.inl rfl⟩
 |c::L,acc,h=>by
  rw[chF]at h;cases hB:bestF p red c p.Next.length with
  |none=>rw[hB]at h;cases h
  |some w =>
   rw[hB]at h;rcases chF_inr h with⟨h1,_⟩|⟨n,b,q,h1,h2,h3⟩
   ·cases acc with
    |none=>exact .inr ⟨w.2,c,w.1,h1,ybl,hB⟩
    |some x =>
     simp only at h1;split at h1
     ·exact .inr ⟨w.2,c,w.1,h1,ybl,hB⟩
     ·exact .inl ⟨h1,.inr (by simp)⟩
   ·exact .inr ⟨n,b,q,h1,yau _ h2,h3⟩
def ev_choose(H:zb1 p){red:List Bool}(hr:red.length=p.Next.length){L:List Nat}(hL:∀b,b∈L->b<p.Next.length/\b≠0)(hl:L.length<=1000000):zb0 p red (zch L)=some (outCh (chF p red none L)):=by
 have a3:(zch L).length=L.length:=by unfold zch;rw[zkK]
 have key:=za1 (step:=λ(s:Int×Int×Int×Nat)=>zb0.s2 p red (zch L) s.1 s.2.1 s.2.2.1 s.2.2.2) (λs=>s.2.2.2<=L.length/\∃acc,(⟨s.1,s.2.1,s.2.2.1⟩:za2)=encC acc/\chF p red acc (L.drop s.2.2.2)=chF p red none L/\∀x,acc=some x->x.2.1≠0) (λs=>L.length-s.2.2.2) (λr=>(∃x y z,r=.inl (x,y,z)/\((⟨x,y,z⟩:za2),-1)=outCh (chF p red none L))\/r=.inr (outCh (chF p red none L))) (λ⟨x,y,z,i⟩ ⟨g1,acc,g2,g3,g4⟩=>by
  simp only at g1 g2 g3
  simp only[zb0.s2]
  by_cases h:i<L.length
  ·have hx:=get_at (l:=L) (i:=i) h
   generalize hb:L[i]=b at hx
   obtain⟨b1,b2⟩:=hL b (zkH hx)
   have hc:(zch L)[i]?=some (b:Int):=by unfold zch;rw[yae,hx];rfl
   have hd:L.drop i=b::L.drop (i+1):=by rw[yb1 h,hb]
   rw[hd,chF]at g3
   rw[zkB (by omega),zkD,zah hc,ev_best H hr b1 b2,zam]
   cases hB:bestF p red b p.Next.length with
   |none =>
    right
    rw[hB]at g3
    refine⟨.inr (outCh (chF p red none L)),?_,.inr rfl⟩
    rw[<- g3]
    rfl
   |some w =>
    left
    rw[hB]at g3
    have hz:(decide ((encBC b (some w)).score=0)&&(decide ((encBC b (some w)).blue=0)&&(decide ((encBC b (some w)).red=0)&&true)))=false:=cz_false (show(b:Int)≠0 by omega)
    rw[hz,zkC]
    cases acc with
    |none =>
     simp only[encC,za2.mk.injEq]at g2
     obtain⟨rfl,rfl,rfl⟩:=g2
     exact⟨((w.2:Int),(b:Int),(w.1:Int),i+1),by rw[show(decide ((0:Int)=0)&&(decide ((0:Int)=0)&&(decide ((0:Int)=0)&&true)))=true from rfl,zkD,zam,zkD];rfl,⟨h,some (w.2,b,w.1),rfl,g3,λx hx=>(by injection hx with hx;rw[<- hx];exact b2)⟩,by simp only;omega⟩
    |some v =>
     have hv:=g4 v rfl
     simp only[encC,za2.mk.injEq]at g2
     obtain⟨rfl,rfl,rfl⟩:=g2
     have a2:=cz_false (c:=⟨(v.1:Int),(v.2.1:Int),(v.2.2:Int)⟩) (show(v.2.1:Int)≠0 by omega)
     simp only at a2
     rw[a2,zkC,zam]
     simp only at g3
     by_cases a0:v.1<w.2
     ·rw[if_pos a0]at g3
      exact⟨((w.2:Int),(b:Int),(w.1:Int),i+1),by rw[zkB (show(v.1:Int)<(encBC b (some w)).score by simp only[encBC];omega),zkD];rfl,⟨h,some (w.2,b,w.1),rfl,g3,λx hx=>(by injection hx with hx;rw[<- hx];exact b2)⟩,by simp only;omega⟩
     ·rw[if_neg a0]at g3
      exact⟨((v.1:Int),(v.2.1:Int),(v.2.2:Int),i+1),by rw[zkA (show ¬(v.1:Int)<(encBC b (some w)).score by simp only[encBC];omega),zkC],⟨h,some v,rfl,g3,g4⟩,by simp only;omega⟩
  ·right
   have e1:i=L.length:=by omega
   subst e1
   rw[yfd,chF]at g3
   refine⟨.inl (x,y,z),by rw[zkA (by omega),zkC],.inl ⟨x,y,z,rfl,?_⟩⟩
   rw[<- g3,g2]
   rfl) fuel (0,0,0,0) ⟨yaf _,none,rfl,rfl,λx hx=>(by cases hx)⟩ (by have:=zay;simp only;omega)
 obtain⟨r,e1,hr⟩:=key;unfold zb0;rw[e1,zam];rcases hr with⟨x,y,z,rfl,h⟩|rfl
 ·rw[ybx];unfold zb0.k3;rw[h]
 ·rw[yc1]
end
end
section
def FolT(n:Nat)(h:Nat->Nat)(to:yab):Prop:=to.length=n/\∀u,u<n->to[u]?=some (-1)\/to[u]?=some (↑(h u):Int)
def unv(to:yab):Nat:=to.countP λx=>decide (x=-1)
def unv_set{to:yab}{x:Int}(hx:x≠-1):∀{b:Nat},to[b]?=some (-1)->unv (to.set b x)+1=unv to:=by
 induction to with
 |nil=>intro b h;cases h
 |cons y to ih =>
  intro b h;cases b with
  |zero =>
   have h:y=-1:=by injection h
   subst h;unfold unv;rw[ye1,yc3,yc3,zkA hx,zkB rfl];simp
  |succ b =>
   have h:=ih (b:=b) h;unfold unv at h ⊢;rw[ye2,yc3,yc3];omega
section
variable {p q:zaa}{h:Nat->Nat}
structure FolR(p:zaa)(h:Nat->Nat)(v:Nat)(to0:yab)(w0:yab)(to w:yab)(a:Nat):Prop where
 t:FolT p.Next.length h to
 mono:∀u:Nat,to0[u]?=some (↑(h u):Int)->to[u]?=some (↑(h u):Int)
 row:∀b u:Nat,b<a->pnx p v b=(u:Int)->to[u]?=some (↑(h u):Int)
 new:∃new:yab,w=w0++new/\(∀x∈new,∃u:Nat,x=(u:Int)/\u<p.Next.length/\to[u]?=some (↑(h u):Int))/\∀u:Nat,to[u]?=some (↑(h u):Int)->to0[u]?=some (↑(h u):Int)\/(u:Int)∈new
 few:2*unv to+w.length<=2*unv to0+w0.length
def loop_frow(H:zb1 p)(Hq:zb1 q)(K:Hom p q h){v:Nat}(hv:v<p.Next.length)(hrs:RS p v)(hlt:h v<q.Next.length){to0:yab}{w0:yab}(T0:FolT p.Next.length h to0)(hv0:to0[v]?=some (↑(h v):Int)){e:yab}(he:p.Next[v]?=some e)(hl:2*unv to0+w0.length<=1000000) :
  ∃to w,iter (λ(s:yab×yab×Nat)=>za3.s20 q (v:Int) e s.1 s.2.1 s.2.2) fuel (to0,w0,0)=some (to,w)/\FolR p h v to0 w0 to w p.Inputs.toNat:=by
 have hi:=H.i2;have b5:=H.i1
 have b9:e.length=p.Inputs.toNat:=by
  obtain⟨xr,yr,k1,k2,k3,k4,_⟩:=H.row v hv;rw[he]at k1;injection k1 with k1
  rw[k1];omega
 have key:=za1 (step:=λ(s:yab×yab×Nat)=>za3.s20 q (v:Int) e s.1 s.2.1 s.2.2) (λs=>s.2.2<=p.Inputs.toNat/\FolR p h v to0 w0 s.1 s.2.1 s.2.2) (λs=>p.Inputs.toNat-s.2.2) (λr=>∃to w,r=(to,w)/\FolR p h v to0 w0 to w p.Inputs.toNat) (λ⟨to,w,a⟩ ⟨g1,R⟩=>by
  simp only at g1 R
  simp only[za3.s20]
  by_cases ha:a<p.Inputs.toNat
  ·left
   obtain⟨n1,n2,n3,n4,n5,xr,yr,a4,b7,a8,b6,_,_⟩:=H.at hv ha
   rw[he]at a4
   injection a4 with a4
   subst a4
   rw[zkB (by omega),zkD,zah a8]
   by_cases t0:pnx p v a=-1
   ·refine⟨(to,w,a+1),by rw[zkA (λg=>g t0),zkC,zam,zkC],⟨ha,R.t,R.mono,λb u hb hu=>?_,R.new,R.few⟩,by simp only;omega⟩
    by_cases e2:b=a
    ·rw[e2,t0]at hu;omega
    ·exact R.row b u (by simp only at hb;omega) hu
   ·obtain⟨u,hu⟩:∃u:Nat,pnx p v a=(u:Int):=⟨(pnx p v a).toNat,by omega⟩
    have a6:=(zff H hu).2.2
    obtain⟨m1,m2⟩:=K.mv v a u hrs hu
    rw[zkB t0,zkD]
    rcases R.t.2 u a6 with a2|a2
    ·-- a new state
     have a7:=R.mono v hv0
     have c0:u≠v:=λe=>by
      rw[e,a7]at a2
      injection a2 with a2
      omega
     obtain⟨_,b0,_⟩:=zff Hq m1
     obtain⟨_,_,_,_,_,xq,yq,a9,b4,a5,b3,_,_⟩:=Hq.at hlt b0
     rw[m1]at a5
     have b8:=unv_set (to:=to) (x:=(↑(h u):Int)) (by omega) a2
     have a0:(to.set u (↑(h u):Int))[u]?=some (↑(h u):Int):=ya2 (by rw[R.t.1];exact a6)
     have a3:∀x:Nat,to[x]?=some (↑(h x):Int)->(to.set u (↑(h u):Int))[x]?=some (↑(h x):Int):=λx hx=>by
      by_cases e:x=u
      ·rw[e];exact a0
      ·rw[ya3 (λg=>e g.symm)];exact hx
     obtain⟨new,w1,w2,w3⟩:=R.new
     have b2:=R.few
     refine⟨(to.set u (↑(h u):Int),w++[(u:Int)],a+1),?_,⟨ha,⟨by simp only[ybb];exact R.t.1,λx hx=>?_⟩,λx hx=>a3 x (R.mono x hx),λb x hb hx=>?_,⟨new++[(u:Int)],by simp only;rw[w1,yb3],λx hx=>?_,λx hx=>?_⟩,by simp only[zkJ,ybc];omega⟩,by simp only;omega⟩
     ·rw[za9 (i:=u) hu a2,zkB rfl,zam,zkD,za9 (i:=v) rfl a7,za9 (i:=h v) rfl a9,zah a5,za9 (i:=u) hu a2,zaq (by unfold za5;omega),hu,yah]
     ·simp only
      by_cases e:x=u
      ·rw[e];exact .inr a0
      ·rw[ya3 (λg=>e g.symm)];exact R.t.2 x hx
     ·simp only at hb ⊢
      by_cases e:b=a
      ·rw[e,hu]at hx
       rw[show x=u by omega]
       exact a0
      ·exact a3 x (R.row b x (by omega) hx)
     ·rcases yam.1 hx with hx|hx
      ·obtain⟨y,y1,y2,y3⟩:=w2 x hx
       exact⟨y,y1,y2,a3 y y3⟩
      ·exact⟨u,yag.1 hx,a6,a0⟩
     ·simp only at hx
      by_cases e:x=u
      ·rw[e];exact .inr (yai _ (yag.2 rfl))
      ·rw[ya3 (λg=>e g.symm)]at hx
       exact(w3 x hx).imp id λk=>yan _ k
    ·refine⟨(to,w,a+1),by rw[za9 (i:=u) hu a2,zkA (by omega),zam,zkC],⟨ha,R.t,R.mono,λb x hb hx=>?_,R.new,R.few⟩,by simp only;omega⟩
     simp only at hb ⊢
     by_cases e2:b=a
     ·rw[e2,hu]at hx
      rw[show x=u by omega]
      exact a2
     ·exact R.row b x (by omega) hx
  ·right
   have e1:a=p.Inputs.toNat:=by omega
   subst e1
   exact⟨_,by rw[zkA (by omega),zkC],to,w,rfl,R⟩) fuel (to0,w0,0) ⟨yaf _,T0,λ_ g=>g,λb u hb=>absurd hb (ybg _),⟨[],(yb4 _).symm,λx hx=>(by cases hx),λu hu=>.inl hu⟩,yaq _⟩ (by have:=zay;simp only;omega)
 obtain⟨r,e1,to,w,rfl,R⟩:=key;exact⟨to,w,e1,R⟩
structure FolI(p q:zaa)(red:List Bool)(h:Nat->Nat)(to:yab)(out:List Bool)(w:yab):Prop where
 t:FolT p.Next.length h to
 ol:out.length=q.Next.length
 st:to[p.Start.toNat]?=some (↑(h p.Start.toNat):Int)
 wk:∀x∈w,∃u:Nat,x=(u:Int)/\u<p.Next.length/\to[u]?=some (↑(h u):Int)
 few:2*unv to+w.length<=2*p.Next.length+1
 d:∃D:Nat->Prop,(∀v,D v->v<p.Next.length/\to[v]?=some (↑(h v):Int))/\(∀u:Nat,to[u]?=some (↑(h u):Int)->D u\/(u:Int)∈w)/\(∀v,D v->∀a u:Nat,pnx p v a=(u:Int)->to[u]?=some (↑(h u):Int))/\∀j,out[j]?=some true↔∃v,D v/\red[v]?=some true/\h v=j
def ev_follow(H:zb1 p)(Hq:zb1 q)(K:Hom p q h)(G:Conn p)(hlt:∀v,v<p.Next.length->h v<q.Next.length){red:List Bool}(hr:red.length=p.Next.length):∃out,za3 p q red=some out/\out.length=q.Next.length/\∀j,out[j]?=some true↔∃v,red[v]?=some true/\h v=j:=by
 have hn:=H.n2;have c7:=Hq.n2;have c0:=H.st;have c6:=Hq.st;have hs:p.Start.toNat<p.Next.length:=by omega
 have k1:=za1 (step:=λ(s:yab×Nat)=>za3.s2 p s.1 s.2) (λs=>s.2<=p.Next.length/\Wrt (λ_=>-1) (List.replicate p.Next.length 0) s.2 s.1) (λs=>p.Next.length-s.2) (λr=>r=List.replicate p.Next.length (-1)) (λ⟨y,k⟩ ⟨g1,g2⟩=>by
  simp only at g1 g2
  simp only[za3.s2,yak]
  have b6:=g2.len
  rw[yak]at b6
  by_cases hk:k<p.Next.length
  ·left
   exact⟨(y.set k (-1),k+1),by rw[zkB (by omega),zkD,zah (get_at (l:=y) (i:=k) (by omega)),zaq (by unfold inR;omega)],⟨hk,g2.step (by rw[yak];exact hk) rfl⟩,by simp only;omega⟩
  ·right
   have e1:k=p.Next.length:=by omega
   subst e1
   refine⟨_,by rw[zkA (by omega),zkC],?_⟩
   rw[g2.done (by rw[yak];exact yaq _),yak,List.map_const',ya4]) fuel (List.replicate p.Next.length 0,0) ⟨yaf _,Wrt.zero _ _⟩ (by have:=zay;simp only;omega)
 obtain⟨r,e1,rfl⟩:=k1
 have b9:unv (List.replicate p.Next.length (-1))=p.Next.length:=by
  unfold unv;rw[List.countP_replicate,if_pos (zkB rfl)]
 have b2:(List.replicate p.Next.length (-1:Int))[p.Start.toNat]?=some (-1):=by rw[ybi,if_pos hs]
 have b8:=unv_set (x:=(↑(h p.Start.toNat):Int)) (by omega) b2;have a3:((List.replicate p.Next.length (-1:Int)).set p.Start.toNat (↑(h p.Start.toNat):Int))[p.Start.toNat]?=some (↑(h p.Start.toNat):Int):=ya2 (by rw[yak];exact hs)
 have a5:∀u,u≠p.Start.toNat->((List.replicate p.Next.length (-1:Int)).set p.Start.toNat (↑(h p.Start.toNat):Int))[u]?=if u<p.Next.length then some (-1) else none:=λu hu=>by
  rw[ya3 (λg=>hu g.symm),ybi]
 have k2:=za1 (step:=λ(s:yab×List Bool×yab)=>za3.s22 p q red s.1 s.2.1 s.2.2) (λs=>FolI p q red h s.1 s.2.1 s.2.2) (λs=>2*unv s.1+s.2.2.length) (λout=>out.length=q.Next.length/\∀j,out[j]?=some true↔∃v,red[v]?=some true/\h v=j) (λ⟨to,out,w⟩ F=>by
  simp only at F
  simp only[za3.s22]
  obtain⟨D,d1,d2,d3,d4⟩:=F.d
  cases w with
  |nil =>
   right
   refine⟨out,by rw[zkA (by simp),zkC],F.ol,λj=>?_⟩
   have a8:∀v,RS p v->D v:=λv hv=>by
    have:to[v]?=some (↑(h v):Int):=by
     induction hv with
     |st=>exact F.st
     |step a u _ hu ih=>exact d3 _ ((d2 _ ih).elim id λk=>by cases k) a u hu
    exact(d2 v this).elim id λk=>by cases k
   rw[d4]
   exact⟨λ⟨v,_,h2,h3⟩=>⟨v,h2,h3⟩,λ⟨v,h2,h3⟩=>⟨v,a8 v (G v (by have:=(zkI.1 h2).1;omega)),h2,h3⟩⟩
  |cons x w =>
   left
   obtain⟨v,rfl,hv,a7⟩:=F.wk x ybl
   have a4:=get_at (l:=red) (i:=v) (by omega)
   obtain⟨xr,yr,k1,k2,k3,k4,_⟩:=H.row v hv
   have a9:=F.few
   rw[zkL]at a9
   obtain⟨b7,w',e2,R⟩:=loop_frow H Hq K hv (G v hv) (hlt v hv) F.t a7 k1 (w0:=(v:Int)::w) (by rw[zkL];omega)
   have b0:=hlt v hv
   obtain⟨a0,ho,b3,hom⟩:∃a0:List Bool,(cond red[v] (idx to (v:Int) λa2=>idx out a2 λa6=>some (List.set out a2.toNat true)) (some out):Option (List Bool))=some a0/\a0.length=q.Next.length/\∀j,a0[j]?=some true↔(out[j]?=some true\/(red[v]?=some true/\h v=j)):=by
    cases hc:red[v]with
    |false =>
     rw[hc]at a4
     refine⟨out,by rw[zkC],F.ol,λj=>⟨.inl,λk=>k.elim id λk=>?_⟩⟩
     have:=k.1
     rw[a4]at this
     cases this
    |true =>
     rw[hc]at a4
     refine⟨out.set (h v) true,by rw[zkD,za9 (i:=v) rfl a7,za9 (i:=h v) rfl (get_at (l:=out) (i:=h v) (by rw[F.ol];exact b0)),yah],by rw[ybb];exact F.ol,λj=>?_⟩
     by_cases e:j=h v
     ·rw[e,ya2 (by rw[F.ol];exact b0)]
      exact⟨λ_=>.inr ⟨a4,rfl⟩,λ_=>rfl⟩
     ·rw[ya3 (λg=>e g.symm)]
      exact⟨.inl,λk=>k.elim id λk=>absurd k.2.symm e⟩
   obtain⟨new,w1,w2,w3⟩:=R.new
   have b4:=R.few
   rw[w1,zkJ,zkL]at b4
   refine⟨(b7,a0,w++new),?_,⟨R.t,b3,R.mono _ F.st,λy hy=>?_,by simp only[zkJ];omega,λu=>D u\/u=v,λu hu=>?_,λu hu=>?_,λu hu a y hy=>?_,λj=>?_⟩,by simp only[zkJ,zkL];omega⟩
   ·rw[zkB (by rw[zkL];omega),zkD,zah (x:=(v:Int)) rfl,za9 (i:=v) rfl a4,ho,zam,za9 (i:=v) rfl k1,e2,zam]
    unfold za3.k21
    rw[w1,zaq (by simp)]
    rfl
   ·rcases yam.1 hy with hy|hy
    ·obtain⟨u,u1,u2,u3⟩:=F.wk y (yau _ hy)
     exact⟨u,u1,u2,R.mono u u3⟩
    ·exact w2 y hy
   ·rcases hu with hu|rfl
    ·exact⟨(d1 u hu).1,R.mono u (d1 u hu).2⟩
    ·exact⟨hv,R.mono _ a7⟩
   ·rcases w3 u hu with k|k
    ·rcases d2 u k with k|k
     ·exact .inl (.inl k)
     ·rcases yaw.1 k with k|k
      ·exact .inl (.inr (by omega))
      ·exact .inr (yan _ k)
    ·exact .inr (yai _ k)
   ·rcases hu with hu|rfl
    ·exact R.mono y (d3 u hu a y hy)
    ·exact R.row a y (zff H hy).2.1 hy
   ·rw[hom,d4]
    constructor
    ·rintro (⟨u,u1,u2,u3⟩|⟨u2,u3⟩)
     ·exact⟨u,.inl u1,u2,u3⟩
     ·exact⟨v,.inr rfl,u2,u3⟩
    ·rintro⟨u,u1|rfl,u2,u3⟩
     ·exact .inl ⟨u,u1,u2,u3⟩
     ·exact .inr ⟨u2,u3⟩) fuel ((List.replicate p.Next.length (-1:Int)).set p.Start.toNat (↑(h p.Start.toNat):Int),List.replicate q.Next.length false,[p.Start]) ⟨⟨by simp only[ybb,yak],λu hu=>?_⟩,by simp only[yak],a3,λx hx=>⟨p.Start.toNat,by rw[yag.1 hx];omega,hs,a3⟩,by simp only[ybc];omega,λ_=>False,λv hv=>hv.elim,λu hu=>?_,λv hv=>hv.elim,λj=>⟨λhj=>?_,λ⟨v,hv,_⟩=>hv.elim⟩⟩ (by have:=zay;simp only[ybc];omega)
 ·obtain⟨out,e2,o1,o2⟩:=k2;refine⟨out,?_,o1,o2⟩;have b5:q.Start=(↑(h p.Start.toNat):Int):=by have:=K.st;omega
  unfold za3;rw[zaq ⟨by omega,yc0 _,by unfold za5;omega⟩,e1,zam,za9 (i:=p.Start.toNat) (by omega) b2,zaq ⟨by omega,yc0 _,by unfold za5;omega⟩,b5,e2,zam]
 ·simp only;by_cases e:u=p.Start.toNat
  ·rw[e];exact .inr a3
  ·rw[a5 u e,if_pos hu];exact .inl rfl
 ·simp only at hu;by_cases e:u=p.Start.toNat
  ·right;rw[e,yag];omega
  ·rw[a5 u e]at hu;split at hu
   ·injection hu with hu;omega
   ·cases hu
 ·simp only[ybi]at hj;split at hj
  ·injection hj with hj;cases hj
  ·cases hj
end
end
section
structure LrnE(p:zaa)(red:List Bool):Prop where
 l:LrnI p red
 s0:p.Start=0
 r0:red[0]?=some true
structure BlueE(p:zaa)(red:List Bool)(b:Nat):Prop where
 lt:b<p.Next.length
 wh:red[b]?=some false
 ex:∃r a,zh2 p red r a b
section
variable {p:zaa}
def bestF_all{red:List Bool}{c:Nat}(h:∀r:Nat,red[r]?=some true->zge p r c):∀k,bestF p red c k=none
 |0=>by rw[bestF]
 |k+1=>by rw[zhr λg=>g.2.1 (h k g.1)];exact bestF_all h k
def chF_least{red:List Bool}{b c:Nat}:∀{L:List Nat} {acc:Option (Nat×Nat×Nat)},L.Pairwise (·<·)->chF p red acc L=.inl b->c∈L->bestF p red c p.Next.length=none->b<=c
 |[],acc,_,h,_,_=>by cases h
 |d::L,acc,hp,h,hc,hB=>by
  rw[yco]at hp;rw[chF]at h;cases hD:bestF p red d p.Next.length with
  |none =>
   rw[hD]at h;injection h with h
   rw[<- h];rcases yaw.1 hc with k|k
   ·rw[k];exact yaq _
   ·exact yfg (hp.1 c k)
  |some w =>
   rw[hD]at h;rcases yaw.1 hc with k|k
   ·rw[k,hD]at hB;cases hB
   ·exact chF_least hp.2 h k hB
def reds_ref(H:zb1 p)(G:Conn p){Q:zaa}{cl:Nat->Nat}(K:zpi p Q cl){red:List Bool}(hr:red.length=p.Next.length) :
  ∃red':List Bool,zlf red ((List.range p.Next.length).map λq=>(↑(cl q):Int)) (zch (ordP Q))=some red'/\red'.length=(renP Q).Next.length/\∀i,red'[i]?=some true↔∃q,red[q]?=some true/\(ordP Q).idxOf (cl q)=i:=by
 have hn:=H.n2;have a3:=(K.ord H).le;have a2:(renP Q).Next.length=(ordP Q).length:=by unfold renP;simp only[zkK]
 have a0:(zch (ordP Q)).length=(ordP Q).length:=by unfold zch;rw[zkK]
 have key:=za1 (step:=λ(s:List Bool×Nat)=>zlf.s2 red ((List.range p.Next.length).map λq=>(↑(cl q):Int)) (zch (ordP Q)) s.1 s.2) (λs=>s.2<=p.Next.length/\s.1.length=(ordP Q).length/\∀i,s.1[i]?=some true↔∃q,q<s.2/\red[q]?=some true/\(ordP Q).idxOf (cl q)=i) (λs=>p.Next.length-s.2) (λr=>r.length=(ordP Q).length/\∀i,r[i]?=some true↔∃q,red[q]?=some true/\(ordP Q).idxOf (cl q)=i) (λ⟨y,q⟩ ⟨g1,g2,g3⟩=>by
  simp only at g1 g2 g3
  simp only[zlf.s2]
  by_cases h:q<p.Next.length
  ·left
   have hx:=get_at (l:=red) (i:=q) (by omega)
   have hm:=K.mem H (G q h)
   have a4:=yby hm
   have e2:((List.range p.Next.length).map (λq=>(↑(cl q):Int)))[q]?=some (↑(cl q):Int):=by
    rw[yae,yba h,yap]
   rw[zkB (by omega),zkD,zah hx]
   cases hc:red[q]with
   |false =>
    refine⟨(y,q+1),by rw[zkC],⟨h,g2,λi=>(g3 i).trans ⟨λ⟨u,u1,u2⟩=>⟨u,by simp only;omega,u2⟩,λ⟨u,u1,u2,u3⟩=>?_⟩⟩,by simp only;omega⟩
    rcases ya9 u q with g|g
    ·exact⟨u,g,u2,u3⟩
    ·have e:u=q:=by simp only at u1;omega
     rw[e,hx,hc]at u2
     cases u2
   |true =>
    refine⟨(y.set ((ordP Q).idxOf (cl q)) true,q+1),by rw[zkD,zah e2,place_eq (by omega),zam,za9 (i:=(ordP Q).idxOf (cl q)) rfl (get_at (l:=y) (i:=(ordP Q).idxOf (cl q)) (by omega)),yah],⟨h,by simp only[ybb];exact g2,λi=>?_⟩,by simp only;omega⟩
    simp only
    by_cases e:i=(ordP Q).idxOf (cl q)
    ·subst e
     rw[ya2 (by omega)]
     exact⟨λ_=>⟨q,ydb _,by rw[hx,hc],rfl⟩,λ_=>rfl⟩
    ·rw[ya3 (λh=>e h.symm),g3 i]
     constructor
     ·rintro⟨u,u1,u2⟩
      exact⟨u,by omega,u2⟩
     ·rintro⟨u,u1,u2,u3⟩
      rcases ya9 u q with g|g
      ·exact⟨u,g,u2,u3⟩
      ·have eu:u=q:=by omega
       rw[eu]at u3
       exact absurd u3.symm e
  ·right
   refine⟨_,by rw[zkA (by omega),zkC],g2,λi=>(g3 i).trans ⟨λ⟨u,_,u2⟩=>⟨u,u2⟩,λ⟨u,u2,u3⟩=>⟨u,?_,u2,u3⟩⟩⟩
   have:=(zkI.1 u2).1
   omega) fuel (List.replicate (ordP Q).length false,0) ⟨yaf _,yak,λi=>⟨(λh=>by
  rw[ybi]at h
  split at h<;>cases h),λ⟨u,u1,_⟩=>absurd u1 (ybg _)⟩⟩ (by have:=zay;simp only;omega)
 obtain⟨red',e,h1,h2⟩:=key;refine⟨red',?_,by rw[a2];exact h1,h2⟩;unfold zlf;rw[a0,zaq ⟨by omega,yc0 _,by unfold za5;omega⟩,e,zam]
def merge_Fold_ok(H:zb1 p){a b:Nat}(ha:a<p.Next.length)(hb:b<p.Next.length){q:zaa}{l:yab}{ok:Bool}(e:zae p (a:Int) (b:Int)=some (q,l,ok)):zhq p (a:Int) (b:Int)=some (q,ok,0):=by
 have hn:=H.n2;unfold zhq;rw[zg4 (by omega),zam,H.valid,zkA (λh=>h rfl),zkC,zkA (by omega),zkC,zkA (by omega),zam,zkC,e,zam]
end
end
section
def Tells(o:zav)(p:zaa):Prop:=zb1 p/\∀t∈o.Traces,∃c,Goes p p.Start.toNat t.In t.Out c
def Tells.hom{o:zav}{p p':zaa}{h:Nat->Nat}(T:Tells o p)(H:zb1 p')(K:Hom p p' h):Tells o p' :=
 ⟨H,λt ht=>by
  obtain⟨c,g⟩:=T.2 t ht
  exact⟨h c,K.st ▸ K.goes .st g⟩⟩
def Tells.run{o:zav}{p:zaa}(hv:zm6 o)(T:Tells o p){t:zag}(ht:t∈o.Traces):zeg p t.In=some (t.Out,true):=by
 obtain⟨c,g⟩:=T.2 t ht;exact run_goes T.1 (by have:=(zgy (hv.prop t ht).1.1).1;omega) g
end
section
def addP(p:zaa)(c:Nat)(w:yab)(A:List (Nat×yab))(a:Nat):List (Nat×yab):=if pnx p c a=-1\/(pnx p c a).toNat∈A.map Prod.fst then A else A++[((pnx p c a).toNat,w++[(a:Int)])]
def rowP(p:zaa)(c:Nat)(w:yab)(A:List (Nat×yab))(k:Nat):List (Nat×yab):=(List.range k).foldl (addP p c w) A
def accP(p:zaa):Nat->Nat->List (Nat×yab)->List (Nat×yab)
 |0,_,A=>A
 |f+1,i,A=>match A[i]? with
  |none=>A
  |some x=>accP p f (i+1) (rowP p x.1 x.2 A p.Inputs.toNat)
def rowP_step{p:zaa}{c:Nat}{w:yab}{A:List (Nat×yab)}{k:Nat}:rowP p c w A (k+1)=addP p c w (rowP p c w A k) k:=by
 unfold rowP;rw[ycs,yd0];rfl
structure AccI(p:zaa)(A:List (Nat×yab))(i k:Nat):Prop where
 nd:(A.map Prod.fst).Nodup
 lt:∀x,x∈A->x.1<p.Next.length
 st:A[0]?=some (p.Start.toNat,[])
 go:∀x,x∈A->∃y,Goes p p.Start.toNat x.2 y x.1
 clo:∀j x,A[j]?=some x->∀a u:Nat,(j<i\/j=i/\a<k)->pnx p x.1 a=(u:Int)->u∈A.map Prod.fst
 pre:∀x,x∈A->x.2=[]\/∃(j:Nat) (y:Nat×yab) (b:Nat),A[j]?=some y/\x.2=y.2++[(b:Int)]/\(j<i\/j=i/\b<k)
 asc:Asc (A.map Prod.snd)
section
variable {p:zaa}
def AccI.few{A:List (Nat×yab)}{i k:Nat}(K:AccI p A i k):A.length<=p.Next.length:=by
 have:=ze3 (b:=List.range p.Next.length) K.nd λx hx=>by
  obtain⟨y,hy,rfl⟩:=yao.1 hx;exact yay.2 (K.lt y hy)
 rwa [zkK,ya4]at this
def AccI.step(H:zb1 p){A:List (Nat×yab)}{i k:Nat}{x:Nat×yab}(K:AccI p A i k)(hx:A[i]?=some x):AccI p (addP p x.1 x.2 A k) i (k+1)/\(addP p x.1 x.2 A k)[i]?=some x:=by
 unfold addP;have a4:=zkH hx;split
 ·rename_i g;refine⟨⟨K.nd,K.lt,K.st,K.go,λj y hy a u h hu=>?_,λy hy=>?_,K.asc⟩,hx⟩
  ·by_cases e:j=i/\a=k
   ·obtain⟨rfl,rfl⟩:=e;rw[hx]at hy;injection hy with hy
    subst hy;rcases g with g|g
    ·omega
    ·rwa [hu,yah]at g
   ·exact K.clo j y hy a u (by omega) hu
  ·exact(K.pre y hy).imp id λ⟨j,z,b,h1,h2,h3⟩=>⟨j,z,b,h1,h2,by omega⟩
 ·rename_i g;have g1:pnx p x.1 k≠-1:=λh=>g (.inl h);have g2:(pnx p x.1 k).toNat∉A.map Prod.fst:=λh=>g (.inr h);have a3:=K.lt x a4
  have hk:k<p.Inputs.toNat:=ybd λh=>g1 (by
   obtain⟨xr,yr,k1,k2,k3,k4,_⟩:=H.row x.1 a3
   unfold pnx
   rw[k1,yaj,yat (by omega),yff])
  obtain⟨n1,n2,_⟩:=H.at a3 hk;have hu:pnx p x.1 k=(↑(pnx p x.1 k).toNat:Int):=by omega
  have a0:∀(j:Nat) (y:Nat×yab),A[j]?=some y->(A++[((pnx p x.1 k).toNat,x.2++[(k:Int)])])[j]?=some y:=λj y hy=>by
   rw[ya5 (zkI.1 hy).1];exact hy
  have a5:=(zkI.1 hx).1;refine⟨⟨?_,λy hy=>?_,a0 0 _ K.st,λy hy=>?_,λj y hy a u h a2=>?_,λy hy=>?_,?_⟩,a0 i x hx⟩
  ·rw[ya0];refine ybm.2 ⟨K.nd,by simp,λa ha b hb e=>?_⟩;rw[e]at ha;rw[yag.1 hb]at ha;exact g2 ha
  ·rcases yam.1 hy with hy|hy
   ·exact K.lt y hy
   ·rw[yag.1 hy];exact(zff H hu).2.2
  ·rcases yam.1 hy with hy|hy
   ·exact K.go y hy
   ·rw[yag.1 hy];obtain⟨z,hz⟩:=K.go x a4;exact⟨_,hz.snoc hu⟩
  ·rw[ya0];by_cases hj:j<A.length
   ·rw[ya5 hj]at hy;by_cases e:j=i/\a=k
    ·obtain⟨rfl,rfl⟩:=e;rw[hx]at hy;injection hy with hy
     subst hy;exact yai _ (by rw[a2,yah];exact yag.2 rfl)
    ·exact yan _ (K.clo j y hy a u (by omega) a2)
   ·omega
  ·rcases yam.1 hy with hy|hy
   ·exact(K.pre y hy).imp id λ⟨j,z,b,h1,h2,h3⟩=>⟨j,z,b,a0 j z h1,h2,by omega⟩
   ·rw[yag.1 hy];exact .inr ⟨i,x,k,a0 i x hx,rfl,by omega⟩
  ·rw[ya0];refine ydp.2 ⟨K.asc,by simp,λv hv v' a6=>?_⟩;rw[yag.1 a6];obtain⟨y,hy,rfl⟩:=yao.1 hv;rcases K.pre y hy with h|⟨j,z,b,h1,h2,h3⟩
   ·rw[h];unfold cmpW;rw[if_pos (by simp)]
   ·rw[h2];refine zrd ?_;rcases h3 with h3|⟨h3,h4⟩
    ·left;have hj:=(zkI.1 h1).1;have:=yb6.1 K.asc j i (by rw[zkK];exact hj) (by rw[zkK];exact a5) h3;rw[List.getElem_map,List.getElem_map,(zkI.1 h1).2,(zkI.1 hx).2]at this;exact this
    ·right;rw[h3,hx]at h1;injection h1 with h1
     rw[<- h1];exact⟨rfl,by omega⟩
def AccI.row(H:zb1 p){A:List (Nat×yab)}{i:Nat}{x:Nat×yab}(K:AccI p A i 0)(hx:A[i]?=some x):∀k,AccI p (rowP p x.1 x.2 A k) i k/\(rowP p x.1 x.2 A k)[i]?=some x
 |0=>⟨K,hx⟩
 |k+1=>by
  obtain⟨h1,h2⟩:=AccI.row H K hx k;rw[rowP_step];exact h1.step H h2
def AccI.next(H:zb1 p){A:List (Nat×yab)}{i:Nat}(K:AccI p A i p.Inputs.toNat):AccI p A (i+1) 0:=by
 refine⟨K.nd,K.lt,K.st,K.go,λj y hy a u h hu=>K.clo j y hy a u ?_ hu,λy hy=>(K.pre y hy).imp id λ⟨j,z,b,h1,h2,h3⟩=>⟨j,z,b,h1,h2,by omega⟩,K.asc⟩;have:=(zff H hu).2.1;omega
def AccI.zero(H:zb1 p):AccI p [(p.Start.toNat,[])] 0 0:=by
 have a0:=H.st;refine⟨by simp,λx hx=>?_,rfl,λx hx=>?_,λj y hy a u h=>by omega,λx hx=>?_,by simp[Asc]⟩
 ·rw[yag.1 hx];simp only;omega
 ·rw[yag.1 hx];exact⟨[],rfl,rfl⟩
 ·rw[yag.1 hx];exact .inl rfl
def accL(p:zaa):List (Nat×yab):=accP p (p.Next.length+1) 0 [(p.Start.toNat,[])]
def accP_ok(H:zb1 p):∀(f i:Nat) (A:List (Nat×yab)),AccI p A i 0->p.Next.length+1<=f+i->∃j,AccI p (accP p f i A) j 0/\(accP p f i A).length<=j
 |0,i,A,K,h=>by
  have:=K.few;exact⟨i,K,by unfold accP;omega⟩
 |f+1,i,A,K,h=>by
  unfold accP;cases e:A[i]? with
  |none =>
   have:=ye9.1 e;exact⟨i,K,this⟩
  |some x=>exact accP_ok H f (i+1) _ ((K.row H e p.Inputs.toNat).1.next H) (by omega)
def zj9(H:zb1 p):∃j,AccI p (accL p) j 0/\(accL p).length<=j:=accP_ok H _ _ _ (AccI.zero H) (by omega)
def accL_all(H:zb1 p){q:Nat}(h:RS p q):q∈(accL p).map Prod.fst:=by
 obtain⟨j,K,hj⟩:=zj9 H
 induction h with
 |st=>exact yao.2 ⟨_,zkH K.st,rfl⟩
 |step a u _ hu ih =>
  obtain⟨x,hx,rfl⟩:=yao.1 ih;obtain⟨i,hi⟩:=ych hx;exact K.clo i x hi a u (.inl (by have:=(zkI.1 hi).1;omega)) hu
def accL_len(H:zb1 p)(G:Conn p):(accL p).length=p.Next.length:=by
 obtain⟨j,K,hj⟩:=zj9 H;have h1:=K.few;have h2:=ze3 (a:=List.range p.Next.length) (b:=(accL p).map Prod.fst) yd6 λx hx=>accL_all H (G x (yay.1 hx));rw[zkK,ya4]at h2;omega
def accW(p:zaa):yaa:=(accL p).map Prod.snd
def zn3{l:yaa}(h:Asc l):sortW l=l:=zoi (zer l) h λx=>zdu l x
def accW_asc(H:zb1 p):Asc (accW p):=(zj9 H).elim λ_ K=>K.1.asc
def accW_go(H:zb1 p){w:yab}(h:w∈accW p):∃y c,Goes p p.Start.toNat w y c:=by
 obtain⟨x,hx,rfl⟩:=yao.1 h;obtain⟨j,K,_⟩:=zj9 H;obtain⟨y,hy⟩:=K.go x hx;exact⟨y,_,hy⟩
def AccI.closed{A:List (Nat×yab)}{i0 k0:Nat}(K:AccI p A i0 k0):∀(n:Nat) {w:yab},w.length=n->w∈A.map Prod.snd->∀v,v <+: w->v∈A.map Prod.snd
 |0,w,hn,hw,v,hv=>by
  have e:w=[]:=List.length_eq_zero_iff.1 hn;subst e;rw[List.prefix_nil.1 hv];exact hw
 |n+1,w,hn,hw,v,hv=>by
  obtain⟨x,hx,rfl⟩:=yao.1 hw;rcases K.pre x hx with h|⟨i,y,b,h1,h2,_⟩
  ·rw[h]at hn;cases hn
  ·rw[h2]at hv hn;rcases List.prefix_concat_iff.1 hv with h|h
   ·rw[h,<- h2];exact hw
   ·exact K.closed n (by rw[zkJ,ybc]at hn;omega) (yao.2 ⟨y,zkH h1,rfl⟩) v h
def AccI.short(H:zb1 p){A:List (Nat×yab)}{i k:Nat}(K:AccI p A i k){w:yab}(h:w∈A.map Prod.snd):w.length<=4096:=by
 have hn:=H.n2;have hf:=K.few
 have a0:(zdi w).Nodup:=by
  unfold zdi;refine ydz.2 (List.Pairwise.imp_of_mem (λ{a b} ha hb hab e=>?_) yd6);have h1:=congrArg List.length e;have:=yay.1 ha;have:=yay.1 hb;rw[yas,yas]at h1;omega
 have:=ze3 a0 (b:=A.map Prod.snd) λx hx=>K.closed _ rfl h x (ze9.1 hx);unfold zdi at this;rw[zkK,ya4,zkK]at this;omega
def accW_pre(H:zb1 p){w:yab}(hw:w∈accW p)(v:yab)(hv:v <+: w):v∈accW p:=(zj9 H).elim λ_ K=>K.1.closed _ rfl hw v hv
def zjn(H:zb1 p){w:yab}(h:w∈accW p):w.length<=4096:=(zj9 H).elim λ_ K=>K.1.short H h
end
end
section
def accP_end{p:zaa}{i:Nat}{A:List (Nat×yab)}(h:A.length<=i):∀f,accP p f i A=A
 |0=>rfl
 |f+1=>by
  unfold accP;rw[yat h]
section
variable {p:zaa}
structure PrA(p:zaa)(A:List (Nat×yab))(i:Nat)(ws:List (Option (yab)))(l:yaa)(wk:yab):Prop where
 len:ws.length=p.Next.length
 yes:∀x,x∈A->ws[x.1]?=some (some x.2)
 no:∀t,t<p.Next.length->t∉A.map Prod.fst->ws[t]?=some none
 l:l=A.map Prod.snd
 wk:wk=zch ((A.map Prod.fst).drop i)
def ev_arow(H:zb1 p){A:List (Nat×yab)}{i:Nat}{x:Nat×yab}(K:AccI p A i 0)(hx:A[i]?=some x){e:yab}(he:p.Next[x.1]?=some e){ws:List (Option (yab))}{l:yaa}{wk:yab}(P:PrA p A i ws l wk) :
  ∃ws' l' wk',iter (λ(s:List (Option (yab))×yaa×yab×Nat)=>zbf.s18 e s.1 s.2.1 s.2.2.1 s.2.2.2) fuel (ws,l,wk,0)=some (ws',l',wk')/\PrA p (rowP p x.1 x.2 A p.Inputs.toNat) i ws' l' wk':=by
 have hi:=H.i2;have b9:=H.i1;have hn:=H.n2;have a7:=K.lt x (zkH hx)
 have c7:e.length=p.Inputs.toNat:=by
  obtain⟨xr,yr,k1,k2,k3,k4,_⟩:=H.row x.1 a7;rw[he]at k1;injection k1 with k1
  rw[k1];omega
 have key:=za1 (step:=λ(s:List (Option (yab))×yaa×yab×Nat)=>zbf.s18 e s.1 s.2.1 s.2.2.1 s.2.2.2) (λs=>s.2.2.2<=p.Inputs.toNat/\PrA p (rowP p x.1 x.2 A s.2.2.2) i s.1 s.2.1 s.2.2.1) (λs=>p.Inputs.toNat-s.2.2.2) (λr=>∃ws' l' wk',r=(ws',l',wk')/\PrA p (rowP p x.1 x.2 A p.Inputs.toNat) i ws' l' wk') (λ⟨ws,l,wk,a⟩ ⟨g1,Q⟩=>by
  simp only at g1 Q
  simp only[zbf.s18]
  by_cases h:a<p.Inputs.toNat
  ·left
   obtain⟨n1,n2,n3,n4,n5,xr,yr,a4,c6,a9,b6,_,_⟩:=H.at a7 h
   rw[he]at a4
   injection a4 with a4
   subst a4
   obtain⟨Ka,a0⟩:=K.row H hx a
   have hs:=rowP_step (p:=p) (c:=x.1) (w:=x.2) (A:=A) (k:=a)
   rw[zkB (by omega),zkD,zah a9]
   by_cases t0:pnx p x.1 a=-1
   ·refine⟨(ws,l,wk,a+1),by rw[zkA (λg=>g t0),zkC,zam,zkC],⟨h,?_⟩,by simp only;omega⟩
    rw[hs,addP,if_pos (.inl t0)]
    exact Q
   ·obtain⟨u,hu⟩:∃u:Nat,pnx p x.1 a=(u:Int):=⟨(pnx p x.1 a).toNat,by omega⟩
    have a8:=(zff H hu).2.2
    rw[zkB t0,zkD]
    by_cases hm:u∈(rowP p x.1 x.2 A a).map Prod.fst
    ·obtain⟨z,hz,b0⟩:=yao.1 hm
     have a3:=Q.yes z hz
     rw[b0]at a3
     refine⟨(ws,l,wk,a+1),by rw[za9 (i:=u) hu a3,zam,Option.isNone_some,zkC],⟨h,?_⟩,by simp only;omega⟩
     rw[hs,addP,if_pos (.inr (by rw[hu,yah];exact hm))]
     exact Q
    ·have a3:=Q.no u a8 hm
     have c0:=(zkI.1 a0).1
     have b2:=Q.yes x (zkH a0)
     have b7:=Ka.short H (yao.2 ⟨x,zkH a0,rfl⟩)
     have b5:=Ka.few
     have b3:wk[0]?=some (x.1:Int):=by
      rw[Q.wk]
      unfold zch
      rw[yae,ybq,yae,ybz,a0]
      rfl
     have b8:l.length=(rowP p x.1 x.2 A a).length:=by rw[Q.l,zkK]
     have b4:wk.length<=(rowP p x.1 x.2 A a).length:=by
      rw[Q.wk]
      unfold zch
      rw[zkK,ybh,zkK]
      omega
     have a2:(ws.set u (some (x.2++[(a:Int)])))[u]?=some (some (x.2++[(a:Int)])):=ya2 (by rw[Q.len];exact a8)
     have a6:rowP p x.1 x.2 A (a+1)=rowP p x.1 x.2 A a++[(u,x.2++[(a:Int)])]:=by
      rw[hs,addP,if_neg (λg=>g.elim t0 (by rw[hu,yah];exact hm)),hu,yah]
     refine⟨(ws.set u (some (x.2++[(a:Int)])),l++[x.2++[(a:Int)]],wk++[(u:Int)],a+1),?_,⟨h,?_⟩,by simp only;omega⟩
     ·rw[za9 (i:=u) hu a3,zam,Option.isNone_none,zkD,zah b3,za9 (i:=x.1) rfl b2,zam,zaq (by unfold za5;simp only[ya8];omega),ycj,zaq (by unfold za5;omega),za9 (i:=u) hu a3,hu,yah,za9 (i:=u) rfl a2,zam,zaq (by unfold za5;simp only[ya8,zkJ,ybc];omega),zaq (by unfold za5;omega),zaq (by unfold za5;omega),ycj]
     ·simp only
      rw[a6]
      refine⟨by rw[ybb];exact Q.len,λz hz=>?_,λt ht a5=>?_,by rw[Q.l,ya0];rfl,?_⟩
      ·rcases yam.1 hz with hz|hz
       ·rw[ya3 (λg=>hm (by rw[g];exact yao.2 ⟨z,hz,rfl⟩))]
        exact Q.yes z hz
       ·rw[yag.1 hz];exact a2
      ·rw[ya0]at a5
       rw[ya3 (λg=>a5 (yai _ (by rw[g];exact yag.2 rfl)))]
       exact Q.no t ht λg=>a5 (yan _ g)
      ·rw[Q.wk,ya0,yey (by rw[zkK];omega)]
       unfold zch
       rw[ya0]
       rfl
  ·right
   have e1:a=p.Inputs.toNat:=by omega
   subst e1
   exact⟨_,by rw[zkA (by omega),zkC],_,_,_,rfl,Q⟩) fuel (ws,l,wk,0) ⟨yaf _,P⟩ (by have:=zay;simp only;omega)
 obtain⟨r,e1,ws',l',wk',rfl,h⟩:=key;exact⟨ws',l',wk',e1,h⟩
def ev_access(H:zb1 p):zbf p=some (accW p):=by
 have hn:=H.n2;have b5:=H.st;have hs:p.Start.toNat<p.Next.length:=by omega
 have h0:(List.replicate p.Next.length (none:Option (yab)))[p.Start.toNat]?=some none:=by rw[ybi,if_pos hs]
 have key:=za1 (step:=λ(s:List (Option (yab))×yaa×yab)=>zbf.s20 p s.1 s.2.1 s.2.2) (λs=>∃A i,AccI p A i 0/\PrA p A i s.1 s.2.1 s.2.2/\i<=A.length/\accP p (p.Next.length+1-i) i A=accL p) (λs=>p.Next.length+1-(s.2.1.length-s.2.2.length)) (λr=>r=accW p) (λ⟨ws,l,wk⟩ ⟨A,i,K,P,b6,a0⟩=>by
  simp only at P
  simp only[zbf.s20]
  have a9:=K.few
  have b3:wk.length=A.length-i:=by
   rw[P.wk]
   unfold zch
   rw[zkK,ybh,zkK]
  have b4:l.length=A.length:=by rw[P.l,zkK]
  by_cases h:i<A.length
  ·left
   have hx:=get_at h
   generalize A[i]=x at hx
   have a4:=K.lt x (zkH hx)
   obtain⟨xr,yr,k1,k2,k3,k4,_⟩:=H.row x.1 a4
   obtain⟨a5,l',a2,e1,Q⟩:=ev_arow H K hx k1 P
   obtain⟨K1,a7⟩:=K.row H hx p.Inputs.toNat
   have K2:=K1.next H
   have b2:=(zkI.1 a7).1
   have a3:wk[0]?=some (x.1:Int):=by
    rw[P.wk]
    unfold zch
    rw[yae,ybq,yae,ybz,hx]
    rfl
   have b0:a2.length=(rowP p x.1 x.2 A p.Inputs.toNat).length-i:=by
    rw[Q.wk]
    unfold zch
    rw[zkK,ybh,zkK]
   have a8:l'.length=(rowP p x.1 x.2 A p.Inputs.toNat).length:=by rw[Q.l,zkK]
   refine⟨(a5,l',a2.drop 1),?_,⟨_,i+1,K2,⟨Q.len,Q.yes,Q.no,Q.l,?_⟩,by omega,?_⟩,by simp only[ybh];omega⟩
   ·rw[zkB (by omega),zkD,zah a3,za9 (i:=x.1) rfl k1,e1,zam]
    unfold zbf.k19
    simp only
    rw[zaq (show 1<=a2.length by omega)]
   ·simp only
    rw[Q.wk]
    unfold zch
    rw[<- yd8,List.drop_drop]
   ·rw[<- a0,show p.Next.length+1-i=(p.Next.length+1-(i+1))+1 by omega,accP,hx]
  ·right
   refine⟨l,by rw[zkA (by omega),zkC],?_⟩
   rw[accP_end (by omega)]at a0
   rw[P.l,a0]
   rfl) fuel ((List.replicate p.Next.length (none:Option (yab))).set p.Start.toNat (some []),[[]],[p.Start]) ⟨[(p.Start.toNat,[])],0,AccI.zero H,⟨by simp only[ybb,yak],λx hx=>?_,λt ht a6=>?_,rfl,?_⟩,yaf _,rfl⟩ (by have:=zay;simp only;omega)
 ·obtain⟨r,e1,rfl⟩:=key;unfold zbf;rw[zaq ⟨by omega,yc0 _,by unfold za5;omega⟩,za9 (i:=p.Start.toNat) (by omega) h0,e1,zam,zgn ⟨by unfold accW;rw[zkK];obtain⟨j,K,_⟩:=zj9 H;have:=K.few;omega,λw hw=>by have:=zjn H hw;unfold SmW;omega⟩,zam,zn3 (accW_asc H)]
 ·rw[yag.1 hx];exact ya2 (by rw[yak];exact hs)
 ·rw[ya3 (λg=>a6 (by rw[<- g];exact yag.2 rfl)),ybi,if_pos ht]
 ·simp only;unfold zch;rw[yd2];simp only[yav,ydd];rw[show((p.Start.toNat:Int))=p.Start by omega]
end
end
end Go.Proofs.YtkeplokjplkcmaaGreat.Sym
namespace Go.Proofs.YtkeplokjplkcmaaGreat
section
def M64:Nat:=18446744073709551616
def gold:Nat:=11400714819323198485
def mulA:Nat:=13787848793156543929
def mulB:Nat:=10723151780598845931
def mix(y:Nat):Nat :=
 let z:=(y ^^^ (y >>> 30))*mulA%M64
 let u:=(z ^^^ (z >>> 27))*mulB%M64
 u ^^^ (u >>> 31)
def few:∀(k a:Nat) (l:List Nat),l.Nodup->(∀x∈l,a<=x/\x<a+k)->l.length<=k
 |0,a,l,_,h=>by
  cases l with
  |nil=>simp
  |cons x l=>have:=h x (by simp);omega
 |k+1,a,l,hn,h=>by
  have h1:=few k a (l.erase (a+k)) (hn.erase _) λx hx=>by
   have h2:=(hn.mem_erase_iff).1 hx;have h3:=h x h2.2;have h4:=h2.1;omega
  by_cases hm:a+k∈l
  ·have:=List.length_erase_of_mem hm;omega
  ·rw[List.erase_of_not_mem hm]at h1;omega
def drawF:Nat->Nat->Nat×Nat
 |0,s=>(0,s)
 |f+1,s=>if mix ((s+gold)%M64)<M64-1616 then(mix ((s+gold)%M64)%10000,(s+gold)%M64) else drawF f ((s+gold)%M64)
def draw(s:Nat):Nat×Nat:=drawF 1617 s
end
end Go.Proofs.YtkeplokjplkcmaaGreat
namespace Go.Proofs.YtkeplokjplkcmaaGreat.Sym
section
def steps(nx:Nat->Nat):Nat->Nat->Nat
 |0,s=>s
 |j+1,s=>steps nx j (nx s)
end
section

end
section
structure zdv(m:zab):Prop where
 i1:1<=m.Inputs
 i2:m.Inputs<=64
 n1:0<m.Next.length
 n2:m.Next.length<=128
 st:0<=m.Start/\m.Start<(m.Next.length:Int)
 ol:m.Out.length=m.Next.length
 row:∀s,s<m.Next.length->∃x y,m.Next[s]?=some x/\m.Out[s]?=some y/\(x.length:Int)=m.Inputs/\(y.length:Int)=m.Inputs/\(∀u∈x,0<=u/\u<(m.Next.length:Int))/\∀v∈y,0<=v/\v<=1048576
def nx(m:zab)(s a:Nat):Nat:=((((m.Next[s]?).getD [])[a]?).getD 0).toNat
def ot(m:zab)(s a:Nat):Int:=(((m.Out[s]?).getD [])[a]?).getD 0
section
variable {m:zab}
def zdv.at(H:zdv m){s a:Nat}(hs:s<m.Next.length)(ha:a<m.Inputs.toNat):nx m s a<m.Next.length/\0<=ot m s a/\ot m s a<=1048576/\∃x y,m.Next[s]?=some x/\m.Out[s]?=some y/\x[a]?=some (↑(nx m s a):Int)/\y[a]?=some (ot m s a):=by
 obtain⟨x,y,h1,h2,h3,h4,h5,h6⟩:=H.row s hs;have hx:=get_at (l:=x) (i:=a) (by omega);have hy:=get_at (l:=y) (i:=a) (by omega)
 have e1:nx m s a=(x[a]'(by omega)).toNat:=by
  unfold nx;rw[h1,yaj,hx,yaj]
 have e2:ot m s a=y[a]'(by omega):=by
  unfold ot;rw[h2,yaj,hy,yaj]
 have g1:=h5 _ (ya7 (by omega:a<x.length));have g2:=h6 _ (ya7 (by omega:a<y.length));refine⟨by rw[e1];omega,by rw[e2];exact g2.1,by rw[e2];exact g2.2,x,y,h1,h2,?_,by rw[e2];exact hy⟩;rw[hx,e1];congr 1;omega
def outs(m:zab):Nat->yab->yab
 |_,[]=>[]
 |s,a::w=>ot m s a.toNat::outs m (nx m s a.toNat) w
def dest(m:zab):Nat->yab->Nat
 |s,[]=>s
 |s,a::w=>dest m (nx m s a.toNat) w
def WOk(n:Int)(w:yab):Prop:=∀a∈w,0<=a/\a<n
def zhv:∀(w v:yab) (s:Nat),outs m s (w++v)=outs m s w++outs m (dest m s w) v
 |[],_,_=>rfl
 |a::w,v,s=>by
  show ot m s a.toNat::outs m (nx m s a.toNat) (w++v)=_;rw[zhv w v];rfl
def zf5:∀(w v:yab) (s:Nat),dest m s (w++v)=dest m (dest m s w) v
 |[],_,_=>rfl
 |_::w,v,_=>zf5 w v _
def zmy:∀(w:yab) (s:Nat),(outs m s w).length=w.length
 |[],_=>rfl
 |a::w,s=>by
  show(outs m (nx m s a.toNat) w).length+1=w.length+1;rw[zmy w]
def WOk.tail{n:Int}{a:Int}{w:yab}(h:WOk n (a::w)):WOk n w:=λx hx=>h x (yau _ hx)
def WOk.head{n:Int}{a:Int}{w:yab}(h:WOk n (a::w)):0<=a/\a<n:=h a (by simp)
def WOk.take{n:Int}{w:yab}(h:WOk n w)(k:Nat):WOk n (w.take k):=λx hx=>h x (ybe hx)
def WOk.append{n:Int}{w v:yab}(h:WOk n w)(g:WOk n v):WOk n (w++v):=λx hx=>(yam.1 hx).elim (h x) (g x)
def zdv.dest(H:zdv m):∀{w:yab} {s:Nat},WOk m.Inputs w->s<m.Next.length->dest m s w<m.Next.length
 |[],_,_,hs=>hs
 |a::w,s,hw,hs=>by
  have:=hw.head;exact H.dest (w:=w) hw.tail (H.at hs (a:=a.toNat) (by omega)).1
def RowRng(n:Nat)(u v:Int):Prop:=(0<=u/\u<(n:Int))/\0<=v/\v<=1048576
def R06_row_tot(h1:m.Inputs<=64){s:Nat}(hs:s<m.Next.length)(ho:m.Out.length=m.Next.length):∃e,zh6 m (s:Int)=some e/\(e=0->∃x y,m.Next[s]?=some x/\m.Out[s]?=some y/\(x.length:Int)=m.Inputs/\(y.length:Int)=m.Inputs/\(∀u∈x,0<=u/\u<(m.Next.length:Int))/\∀v∈y,0<=v/\v<=1048576):=by
 obtain⟨x,hx⟩:∃x,m.Next[s]?=some x:=⟨_,get_at hs⟩;obtain⟨y,hy⟩:∃y,m.Out[s]?=some y:=⟨_,get_at (l:=m.Out) (i:=s) (by omega)⟩;unfold zh6;rw[za9 rfl hx];by_cases g1:(x.length:Int)=m.Inputs
 ·by_cases g2:(y.length:Int)=m.Inputs
  ·rw[zkA (λh=>h g1),zkC,za9 rfl hy,zkA (λh=>h g2),zam,zkC]
   obtain⟨r,hr,hq⟩:=za1 (step:=λa=>zh6.s2 m (s:Int) a) (λa=>a<=x.length/\∀b u v,b<a->x[b]?=some u->y[b]?=some v->RowRng m.Next.length u v) (λa=>x.length-a) (λr=>r=.inr 2\/(r=.inl ()/\∀b u v,b<x.length->x[b]?=some u->y[b]?=some v->RowRng m.Next.length u v)) (λa ⟨q1,q2⟩=>by
    simp only[zh6.s2]
    by_cases q3:a<x.length
    ·obtain⟨u,ha⟩:∃u,x[a]?=some u:=⟨_,get_at q3⟩
     obtain⟨v,hb⟩:∃v,y[a]?=some v:=⟨_,get_at (l:=y) (i:=a) (by omega)⟩
     rw[zkB (by omega),zkD,za9 rfl hx,zah ha]
     by_cases z1:u<0
     ·right
      exact⟨.inr 2,by rw[zkB z1];rfl,Or.inl rfl⟩
     rw[zkA z1,zkC,za9 rfl hx,zah ha]
     by_cases z2:(m.Next.length:Int)<=u
     ·right
      exact⟨.inr 2,by rw[zkB z2];rfl,Or.inl rfl⟩
     rw[zkA z2,zkC,za9 rfl hy,zah hb]
     by_cases z3:v<0
     ·right
      exact⟨.inr 2,by rw[zkB z3];rfl,Or.inl rfl⟩
     rw[zkA z3,zkC,za9 rfl hy,zah hb]
     by_cases z4:1048576<v
     ·right
      exact⟨.inr 2,by rw[zkB z4];rfl,Or.inl rfl⟩
     left
     refine⟨a+1,by rw[zkA z4,zam,zkC,zaq (by unfold inR;omega)],⟨q3,λb u' v' a0 hu hv=>?_⟩,by omega⟩
     rcases ya9 b a with h|h
     ·exact q2 b u' v' h hu hv
     ·have e:b=a:=by omega
      subst e
      rw[ha]at hu
      rw[hb]at hv
      injection hu with hu
      injection hv with hv
      subst hu
      subst hv
      exact⟨⟨by omega,by omega⟩,by omega,by omega⟩
    ·right
     have e:a=x.length:=by omega
     subst e
     exact⟨.inl (),by rw[zkA (by omega),zkC],Or.inr ⟨rfl,q2⟩⟩) fuel 0 ⟨yaf _,λb _ _ h=>absurd h (ybg _)⟩ (by have:=zay;omega)
   rw[hr,zam];rcases hq with rfl|⟨rfl,hq⟩
   ·exact⟨2,rfl,λh=>by cases h⟩
   ·refine⟨0,rfl,λ_=>⟨x,y,hx,hy,g1,g2,λu hu=>?_,λv hv=>?_⟩⟩
    ·obtain⟨b,hb,rfl⟩:=yci.1 hu;exact(hq b _ _ hb (get_at hb) (get_at (l:=y) (by omega))).1
    ·obtain⟨b,hb,rfl⟩:=yci.1 hv;exact(hq b _ _ (by omega) (get_at (l:=x) (by omega)) (get_at hb)).2
  ·exact⟨1,by rw[zkA (λh=>h g1),zkC,za9 rfl hy,zkB g2];rfl,λh=>by cases h⟩
 ·exact⟨1,by rw[zkB g1];rfl,λh=>by cases h⟩
def R06_Valid_tot(m:zab):∃e,zev m=some e/\(e=0->zdv m):=by
 unfold zev;by_cases c1:m.Inputs<1
 ·exact⟨2,by rw[zkB c1];rfl,λh=>by cases h⟩
 rw[zkA c1,zkC];by_cases c2:64<m.Inputs
 ·exact⟨2,by rw[zkB c2];rfl,λh=>by cases h⟩
 rw[zkA c2,zam,zkC];by_cases c3:(m.Next.length:Int)=0
 ·exact⟨19,by rw[zkB c3];rfl,λh=>by cases h⟩
 rw[zkA c3,zkC];by_cases c4:128<(m.Next.length:Int)
 ·exact⟨11,by rw[zkB c4];rfl,λh=>by cases h⟩
 rw[zkA c4,zkC];by_cases c5:m.Start<0
 ·exact⟨2,by rw[zkB c5];rfl,λh=>by cases h⟩
 rw[zkA c5,zkC];by_cases c6:(m.Next.length:Int)<=m.Start
 ·exact⟨2,by rw[zkB c6];rfl,λh=>by cases h⟩
 rw[zkA c6,zam,zkC];by_cases c7:(m.Out.length:Int)=(m.Next.length:Int)
 ·rw[zkA (λh=>h c7),zkC];have ho:m.Out.length=m.Next.length:=by omega
  obtain⟨r,hr,hq⟩:=za1 (step:=λs=>zev.s2 m s) (λa=>a<=m.Next.length/\∀s,s<a->∃x y,m.Next[s]?=some x/\m.Out[s]?=some y/\(x.length:Int)=m.Inputs/\(y.length:Int)=m.Inputs/\(∀u∈x,0<=u/\u<(m.Next.length:Int))/\∀v∈y,0<=v/\v<=1048576) (λa=>m.Next.length-a) (λr=>(∃e,r=.inr e/\e≠0)\/(r=.inl ()/\∀s,s<m.Next.length->∃x y,m.Next[s]?=some x/\m.Out[s]?=some y/\(x.length:Int)=m.Inputs/\(y.length:Int)=m.Inputs/\(∀u∈x,0<=u/\u<(m.Next.length:Int))/\∀v∈y,0<=v/\v<=1048576)) (λa ⟨q1,q2⟩=>by
   simp only[zev.s2]
   by_cases q3:a<m.Next.length
   ·obtain⟨e,he,hz⟩:=R06_row_tot (m:=m) (by omega) q3 ho
    rw[zkB (by omega),zkD,he,zam]
    by_cases z:e=0
    ·left
     refine⟨a+1,by rw[zkA (λh=>h z),zkC],⟨q3,λs hs=>?_⟩,by omega⟩
     rcases ya9 s a with h|h
     ·exact q2 s h
     ·have e2:s=a:=by omega
      subst e2
      exact hz z
    ·right
     exact⟨.inr e,by rw[zkB z,zkD],Or.inl ⟨e,rfl,z⟩⟩
   ·right
    have e:a=m.Next.length:=by omega
    subst e
    exact⟨.inl (),by rw[zkA (by omega),zkC],Or.inr ⟨rfl,q2⟩⟩) fuel 0 ⟨yaf _,λs h=>absurd h (ybg _)⟩ (by have:=zay;omega)
  rw[hr,zam];rcases hq with⟨e,rfl,hz⟩|⟨rfl,hq⟩
  ·exact⟨e,rfl,λh=>absurd h hz⟩
  ·exact⟨0,rfl,λ_=>⟨by omega,by omega,by omega,by omega,⟨by omega,by omega⟩,ho,hq⟩⟩
 ·exact⟨1,by rw[zkB c7];rfl,λh=>by cases h⟩
def macOk_of(h:zev m=some 0):zdv m:=by
 obtain⟨e,he,hz⟩:=R06_Valid_tot m;rw[h]at he;injection he with he
 exact hz he.symm
end
end
section
def zsh{m:zab}(H:zdv m):zbz m=some 0:=by
 have i1:=H.i1;have i2:=H.i2;have n1:=H.n1;have n2:=H.n2;have st:=H.st;have ol:=H.ol;unfold zbz;rw[zkA (by omega),zkC,zkA (by omega),zam,zkC,zkA (by omega),zkC,zkA (by omega),zkC,zkA (by omega),zkC,zkA (by omega),zam,zkC,zkA (by omega),zkC]
 have a2:∀s,s<m.Next.length->iter (λ(a:Nat)=>zbz.s13 m s a) fuel 0=some (.inl ()):=λs hs =>
  zek (λa=>a<=m.Inputs.toNat) (λa=>m.Inputs.toNat-a) (λa ha=>by
   simp only[zbz.s13]
   by_cases g:a<m.Inputs.toNat
   ·left
    obtain⟨h1,h2,h3,x,y,hx,hy,a3,a4⟩:=H.at hs g
    refine⟨a+1,?_,g,by omega⟩
    rw[zkB (by omega),zkD,zah hx,zah a3,zah hy,zah a4,zkA (by omega),zkC,zkA (by omega),zkC,zkA (by omega),zkC,zkA (by omega),zam,zkC,zaq (by unfold inR;omega)]
   ·right
    rw[zkA (by omega),zkC]) (yaf _) (by have:=zay;omega)
 have a0:iter (λ(s:Nat)=>zbz.s14 m s) fuel 0=some (.inl ()) :=
  zek (λs=>s<=m.Next.length) (λs=>m.Next.length-s) (λs hs=>by
   simp only[zbz.s14]
   by_cases g:s<m.Next.length
   ·left
    obtain⟨x,y,hx,hy,a5,a6,_,_⟩:=H.row s g
    refine⟨s+1,?_,g,by omega⟩
    rw[zkB (by omega),zkD,zah hx,zkA (by omega),zkC,zah hy,zkA (by omega),zam,zkC,a2 s g,zam]
    rfl
   ·right
    rw[zkA (by omega),zkC]) (yaf _) (by have:=zay;omega)
 rw[a0,zam];rfl
abbrev costOk(l:zm2):Prop:=(∀c∈l.Step,0<=c/\c<=1048576)/\0<=l.Reset/\l.Reset<=1048576
abbrev cntOk(n:Int):Prop:=0<=n/\n<=1125899906842624
abbrev faultOk(f:zpb):Prop:=(0<=f.Lost/\f.Lost<=10000)/\(0<=f.Wrong/\f.Wrong<=10000)/\(0<=f.Crash/\f.Crash<=10000)/\f.Lost+f.Wrong+f.Crash<=10000
structure DevOk(d:zim):Prop where
 v6:zev d.M=some 0
 st:0<=d.State/\d.State<(d.M.Next.length:Int)
 ll:(d.Latency.Step.length:Int)=d.M.Inputs
 lc:costOk d.Latency
 fl:faultOk d.Faults
 c1:cntOk d.Steps
 c2:cntOk d.Resets
 c3:cntOk d.Time
section
variable {d:zim}
end
end
section
def scan_map{α R R':Type}{g:Nat->α->Option R}{f:R->R'}:∀(l:List α) (j:Nat),scan (λi x=>(g i x).map f) j l=(scan g j l).map f
 |[],_=>rfl
 |x::l,j=>by
  unfold scan;cases g j x with
  |some r=>rfl
  |none=>exact scan_map l (j+1)
def scan_mem{α R:Type}{g:Nat->α->Option R}{r:R}:∀{l:List α} {j:Nat},scan g j l=some r->∃i x,l[i]?=some x/\g (j+i) x=some r
 |[],_,h=>by cases h
 |x::l,j,h=>by
  unfold scan at h;cases e:g j x with
  |some q =>
   rw[e]at h;exact⟨0,x,rfl,by rw[ybz,e];exact h⟩
  |none =>
   rw[e]at h;obtain⟨i,y,h1,h2⟩:=scan_mem (j:=j+1) h;exact⟨i+1,y,by simpa using h1,by rw[show j+(i+1)=j+1+i by omega,h2]⟩
def celE(n:Nat)(u v:Int):Option Int:=if u<0\/(n:Int)<=u\/v<0\/1048576<v then some 2 else none
def rowE(m:zab)(s:Nat)(x:yab):Option Int :=
 if(x.length:Int)≠m.Inputs\/(↑((m.Out[s]?).getD []).length:Int)≠m.Inputs then some 1 else scan (λa u=>celE m.Next.length u ((((m.Out[s]?).getD [])[a]?).getD 0)) 0 x
def zg9(m:zab):Int :=
 if m.Inputs<1\/64<m.Inputs then 2 else if m.Next.length=0 then 19 else if 128<m.Next.length then 11 else if m.Start<0\/(m.Next.length:Int)<=m.Start then 2 else if m.Out.length≠m.Next.length then 1
 else match scan (rowE m) 0 m.Next with|some e=>e|none=>0
section
variable {m:zab}
def rowE_ne{s:Nat}{x:yab}{e:Int}(h:rowE m s x=some e):e≠0:=by
 unfold rowE at h;split at h
 ·injection h with h
  omega
 ·obtain⟨i,u,_,h2⟩:=scan_mem h;unfold celE at h2;split at h2
  ·injection h2 with h2
   omega
  ·cases h2
def cel_cond{n:Nat}{u v:Int}:(cond (decide (u<0)) (some true) (cond (decide ((n:Int)<=u)) (some true) (cond (decide (v<0)) (some true) (some (decide (1048576<v))))):Option Bool)=some (celE n u v).isSome:=by
 unfold celE;by_cases h1:u<0<;>by_cases h2:(n:Int)<=u<;>by_cases h3:v<0<;>by_cases h4:1048576<v<;>simp[h1,h2,h3,h4]
def celE_two{n:Nat}{u v:Int}:celE n u v=if(celE n u v).isSome=true then some 2 else none:=by
 unfold celE;split<;>rfl
def row_len{s:Nat}{x y:yab}(hx:m.Next[s]?=some x)(hy:m.Out[s]?=some y) :
  (idxn m.Next s λa2=>cond (decide ((a2.length:Int)≠m.Inputs)) (some true) (idxn m.Out s λa6=>some (decide ((a6.length:Int)≠m.Inputs))):Option Bool)=some (decide ((x.length:Int)≠m.Inputs\/(y.length:Int)≠m.Inputs)):=by
 rw[zah hx];by_cases h:(x.length:Int)=m.Inputs
 ·rw[zkA (λk=>k h),zkC,zah hy];simp[h]
 ·rw[zkB h,zkD];simp[h]
def idx_nat{α β:Type}{l:List α}{i:Nat}{k:α->Option β}:idx l (i:Int) k=idxn l i k:=by
 cases h:l[i]? with
 |some x=>rw[za9 rfl h,zah h]
 |none =>
  unfold idx idxn;rw[h,if_pos (by omega),yah,h]
def R06_row_eq(hi:m.Inputs<=64){s:Nat}{x y:yab}(hx:m.Next[s]?=some x)(hy:m.Out[s]?=some y):zh6 m (s:Int)=some (match rowE m s x with|some e=>e|none=>0):=by
 unfold zh6;rw[idx_nat];simp only[idx_nat];rw[row_len hx hy,zam];unfold rowE;rw[hy,yaj];by_cases h:(x.length:Int)≠m.Inputs\/(y.length:Int)≠m.Inputs
 ·rw[zkB h,zkD,if_pos h]
 ·rw[zkA h,zkC,if_neg h];have h1:(x.length:Int)=m.Inputs:=ybd λq=>h (Or.inl q);have h2:(y.length:Int)=m.Inputs:=ybd λq=>h (Or.inr q);rw[zdy (l:=x) (λa u=>celE m.Next.length u ((y[a]?).getD 0)) (λa u hu=>?_) ?_ (by omega),zam]
  ·cases scan (λa u=>celE m.Next.length u ((y[a]?).getD 0)) 0 x<;>rfl
  ·simp only[zh6.s2];rw[zkA (by omega),zkC]
  ·have ha:=(zkI.1 hu).1;have hv:y[a]?=some y[a]:=get_at (by omega);rw[hv,yaj];simp only[zh6.s2,idx_nat];rw[zkB (by omega),zkD];simp only[zah hx,zah hy,zah hu,zah hv];rw[cel_cond,zam];cases e:celE m.Next.length u y[a]with
   |none =>
    rw[yed,zkC,zaq (by unfold inR;omega)]
   |some r =>
    have:=celE_two (n:=m.Next.length) (u:=u) (v:=y[a]);rw[e]at this;injection this with this
    rw[this,ye4,zkD]
def mealy_row_eq(hi:m.Inputs<=64){s:Nat}{x y:yab}(hx:m.Next[s]?=some x)(hy:m.Out[s]?=some y):zbz.s14 m s=some (match rowE m s x with|some e=>.inr (.inr e)|none=>.inl (s+1)):=by
 have hs:=(zkI.1 hx).1;simp only[zbz.s14];rw[zkB (by omega),zkD,row_len hx hy,zam];unfold rowE;rw[hy,yaj];by_cases h:(x.length:Int)≠m.Inputs\/(y.length:Int)≠m.Inputs
 ·rw[zkB h,zkD,if_pos h]
 ·rw[zkA h,zkC,if_neg h];have h1:(x.length:Int)=m.Inputs:=ybd λq=>h (Or.inl q);have h2:(y.length:Int)=m.Inputs:=ybd λq=>h (Or.inr q);rw[zdy (l:=x) (λa u=>(celE m.Next.length u ((y[a]?).getD 0)).map λr=>(.inr (.inr r):Nat⊕(Unit⊕Int))) (λa u hu=>?_) ?_ (by omega),zam,scan_map]
  ·cases scan (λa u=>celE m.Next.length u ((y[a]?).getD 0)) 0 x<;>rfl
  ·simp only[zbz.s13];rw[zkA (by omega),zkC]
  ·have ha:=(zkI.1 hu).1;have hv:y[a]?=some y[a]:=get_at (by omega);rw[hv,yaj];simp only[zbz.s13];rw[zkB (by omega),zkD];simp only[zah hx,zah hy,zah hu,zah hv];rw[cel_cond,zam];cases e:celE m.Next.length u y[a]with
   |none =>
    rw[yed,zkC,zaq (by unfold inR;omega)];rfl
   |some r =>
    have:=celE_two (n:=m.Next.length) (u:=u) (v:=y[a]);rw[e]at this;injection this with this
    rw[this,ye4,zkD];rfl
def R06_Valid_eq(m:zab):zev m=some (zg9 m):=by
 unfold zev zg9;by_cases c1:m.Inputs<1
 ·rw[zkB c1,if_pos (Or.inl c1)];rfl
 rw[zkA c1,zkC];by_cases c2:64<m.Inputs
 ·rw[zkB c2,if_pos (Or.inr c2)];rfl
 rw[zkA c2,zam,zkC,if_neg (by omega)];by_cases c3:m.Next.length=0
 ·rw[zkB (by omega),if_pos c3];rfl
 rw[zkA (by omega),zkC,if_neg c3];by_cases c4:128<m.Next.length
 ·rw[zkB (by omega),if_pos c4];rfl
 rw[zkA (by omega),zkC,if_neg c4];by_cases c5:m.Start<0
 ·rw[zkB c5,if_pos (Or.inl c5)];rfl
 rw[zkA c5,zkC];by_cases c6:(m.Next.length:Int)<=m.Start
 ·rw[zkB c6,if_pos (Or.inr c6)];rfl
 rw[zkA c6,zam,zkC,if_neg (by omega)];by_cases c7:m.Out.length=m.Next.length
 ·rw[zkA (by omega),zkC,if_neg (by omega),zdy (l:=m.Next) (rowE m) (λs x hx=>?_) ?_ (by omega),zam]
  ·cases scan (rowE m) 0 m.Next<;>rfl
  ·simp only[zev.s2];rw[zkA (by omega),zkC]
  ·have hs:=(zkI.1 hx).1;simp only[zev.s2];rw[zkB (by omega),zkD,R06_row_eq (by omega) hx (get_at (l:=m.Out) (by omega)),zam];cases e:rowE m s x with
   |none=>rfl
   |some r=>rw[zkB (rowE_ne e),zkD]
 ·rw[zkB (by omega),if_pos c7];rfl
def zem(m:zab):zbz m=some (zg9 m):=by
 unfold zbz zg9;by_cases c1:m.Inputs<1
 ·rw[zkB c1,if_pos (Or.inl c1)];rfl
 rw[zkA c1,zkC];by_cases c2:64<m.Inputs
 ·rw[zkB c2,if_pos (Or.inr c2)];rfl
 rw[zkA c2,zam,zkC,if_neg (by omega)];by_cases c3:m.Next.length=0
 ·rw[zkB (by omega),if_pos c3];rfl
 rw[zkA (by omega),zkC,if_neg c3];by_cases c4:128<m.Next.length
 ·rw[zkB (by omega),if_pos c4];rfl
 rw[zkA (by omega),zkC,if_neg c4];by_cases c5:m.Start<0
 ·rw[zkB c5,if_pos (Or.inl c5)];rfl
 rw[zkA c5,zkC];by_cases c6:(m.Next.length:Int)<=m.Start
 ·rw[zkB c6,if_pos (Or.inr c6)];rfl
 rw[zkA c6,zam,zkC,if_neg (by omega)];by_cases c7:m.Out.length=m.Next.length
 ·rw[zkA (by omega),zkC,if_neg (by omega),zdy (l:=m.Next) (rowE m) (λs x hx=>?_) ?_ (by omega),zam]
  ·cases scan (rowE m) 0 m.Next<;>rfl
  ·simp only[zbz.s14];rw[zkA (by omega),zkC]
  ·have hs:=(zkI.1 hx).1;rw[mealy_row_eq (by omega) hx (get_at (l:=m.Out) (by omega))];cases rowE m s x<;>rfl
 ·rw[zkB (by omega),if_pos c7];rfl
def zlj(h:zg9 m=0):zdv m:=macOk_of (by rw[R06_Valid_eq,h])
end
end
section
section
variable {m:zab}{ids:List (yaa)}{w:yab}
end
end
section
section
variable {A:Type}[DecidableEq A]
def bfsB(e:A->Nat->A)(K:Nat)(s0:A):Nat->List (A×yab)
 |0=>[(s0,[])]
 |r+1=>match (bfsB e K s0 r)[r / K]? with
  |none=>bfsB e K s0 r
  |some x=>if e x.1 (r%K)∈(bfsB e K s0 r).map Prod.fst then bfsB e K s0 r else bfsB e K s0 r++[(e x.1 (r%K),x.2++[(↑(r%K):Int)])]
def zl2{K i a:Nat}(h:a<K):(i*K+a) / K=i:=by
 rw[ycm,Nat.add_mul_div_right _ _ (by omega),Nat.div_eq_of_lt h,yal]
def zte{K i a:Nat}(h:a<K):(i*K+a)%K=a:=by
 rw[ycm,Nat.add_mul_mod_self_right,Nat.mod_eq_of_lt h]
def zkp{i n a K:Nat}(hi:i<n)(ha:a<K):i*K+a<n*K:=by
 have:(i+1)*K<=n*K:=ybs K hi;rw[ydf]at this;omega
variable {e:A->Nat->A}{K:Nat}{s0:A}
def bfs_step{i a:Nat}{x:A×yab}(ha:a<K)(hx:(bfsB e K s0 (i*K+a))[i]?=some x) :
  bfsB e K s0 (i*K+(a+1))=if e x.1 a∈(bfsB e K s0 (i*K+a)).map Prod.fst then bfsB e K s0 (i*K+a) else bfsB e K s0 (i*K+a)++[(e x.1 a,x.2++[(a:Int)])]:=by
 show bfsB e K s0 ((i*K+a)+1)=_;rw[bfsB,zl2 ha,hx,zte ha]
def zpu(r:Nat):bfsB e K s0 r <+: bfsB e K s0 (r+1):=by
 rw[bfsB];split
 ·exact yb9 _
 ·split
  ·exact yb9 _
  ·exact ye3 _ _
def ziv{r:Nat}:∀{r':Nat},r<=r'->bfsB e K s0 r <+: bfsB e K s0 r'
 |0,h=>by
  have:r=0:=by omega
  subst this;exact yb9 _
 |r'+1,h=>by
  rcases ya9 r (r'+1) with g|g
  ·exact(ziv (r':=r') (by omega)).trans (zpu r')
  ·have:r=r'+1:=by omega
   subst this;exact yb9 _
def zgl{α:Type}{l l':List α}(h:l <+: l'){i:Nat}{x:α}(hx:l[i]?=some x):l'[i]?=some x:=by
 obtain⟨t,rfl⟩:=h;rw[ya5 (zkI.1 hx).1,hx]
def zqn(r:Nat):(bfsB e K s0 r)[0]?=some (s0,[]):=zgl (ziv (yaf r)) rfl
def znh:∀r:Nat,((bfsB e K s0 r).map Prod.fst).Nodup
 |0=>by simp[bfsB]
 |r+1=>by
  have ih:=znh r;rw[bfsB];split
  ·exact ih
  ·split
   ·exact ih
   ·rename_i x _ hn;rw[ya0,ybm];refine⟨ih,by simp,λa ha b hb hab=>hn ?_⟩;have:b=e x.1 (r%K):=by simpa using hb
    rw[<- this,<- hab];exact ha
def znj:∀{r u:Nat} {x:A×yab},(bfsB e K s0 r)[u]?=some x->u=0\/∃r' y,r'<r/\r' / K<u/\(bfsB e K s0 r)[r' / K]?=some y/\x=(e y.1 (r'%K),y.2++[(↑(r'%K):Int)])
 |0,u,x,h=>by
  left;have:=(zkI.1 h).1;simp[bfsB]at this;exact this
 |r+1,u,x,h=>by
  have old:(bfsB e K s0 r)[u]?=some x->u=0\/∃r' y,r'<r+1/\r' / K<u/\(bfsB e K s0 (r+1))[r' / K]?=some y/\x=(e y.1 (r'%K),y.2++[(↑(r'%K):Int)]):=λh=>by
   rcases znj h with h|⟨r',y,h1,h2,h3,h4⟩
   ·exact Or.inl h
   ·exact Or.inr ⟨r',y,by omega,h2,zgl (zpu r) h3,h4⟩
  have hh:=h;rw[bfsB]at h;split at h
  ·exact old h
  ·rename_i y hy;split at h
   ·exact old h
   ·rename_i hn;rcases ya9 u (bfsB e K s0 r).length with g|g
    ·rw[ya5 g]at h;exact old h
    ·right;rw[ybo g]at h
     have hu:u-(bfsB e K s0 r).length=0:=by
      have:=(zkI.1 h).1;simpa using this
     rw[hu]at h
     have hx:x=(e y.1 (r%K),y.2++[(↑(r%K):Int)]):=by
      simp at h;exact h.symm
     have hk:=(zkI.1 hy).1;exact⟨r,y,by omega,by omega,zgl (zpu r) hy,hx⟩
def bfs_to{r:Nat}{x:A×yab}(hx:(bfsB e K s0 r)[r / K]?=some x):e x.1 (r%K)∈(bfsB e K s0 (r+1)).map Prod.fst:=by
 rw[bfsB,hx];simp only;split
 ·assumption
 ·simp
structure zg5(e:A->Nat->A)(K:Nat)(s0:A)(L:List (A×yab)):Prop where
 eq:L=bfsB e K s0 (L.length*K)
variable {L:List (A×yab)}
def zg5.at(h:zg5 e K s0 L){r:Nat}(hr:r<=L.length*K):bfsB e K s0 r <+: L:=by
 have:=ziv (e:=e) (K:=K) (s0:=s0) hr;rw[<- h.eq]at this;exact this
def zg5.first(h:zg5 e K s0 L):L[0]?=some (s0,[]):=by
 rw[h.eq];exact zqn _
def zg5.nodup(h:zg5 e K s0 L):(L.map Prod.fst).Nodup:=by
 rw[h.eq];exact znh _
def zg5.long(h:zg5 e K s0 L){i a:Nat}(hi:i<L.length)(ha:a<K):∃x,L[i]?=some x/\(bfsB e K s0 (i*K+a))[i]?=some x:=by
 refine⟨_,zkM hi,?_⟩;have a2:=h.at (r:=i*K+a) (by have:=zkp hi ha;omega);rcases ya9 i (bfsB e K s0 (i*K+a)).length with g|g
 ·have:=zgl a2 (zkM g);rw[zkM hi]at this;rw[zkM g,this]
 ·exfalso
  have a0:∀d,bfsB e K s0 (i*K+a+d)=bfsB e K s0 (i*K+a):=by
   intro d
   induction d with
   |zero=>rfl
   |succ d ih =>
    show bfsB e K s0 (i*K+a+d+1)=_;rw[bfsB,ih,yat ?_];have h1:(i*K+a) / K<=(i*K+a+d) / K:=yd7 (by omega);rw[zl2 ha]at h1;omega
  have h2:=a0 (L.length*K-(i*K+a));rw[show i*K+a+(L.length*K-(i*K+a))=L.length*K by have:=zkp hi ha;omega,<- h.eq]at h2;rw[<- h2]at g;omega
def zg5.closed(h:zg5 e K s0 L){i a:Nat}{x:A×yab}(hx:L[i]?=some x)(ha:a<K):∃j y,L[j]?=some y/\y.1=e x.1 a/\∀u,0<u->u<=j->∃i' a' z w,a'<K/\i'*K+a'<=i*K+a/\i'<u/\L[i']?=some z/\L[u]?=some w/\w.1=e z.1 a':=by
 have hi:=(zkI.1 hx).1;obtain⟨x',h1,h2⟩:=h.long hi ha;rw[hx]at h1;injection h1 with h1
 subst h1;have a7:=zkp hi ha;have a0:=h.at (r:=i*K+a+1) (by omega);have h3:=bfs_to (e:=e) (K:=K) (s0:=s0) (r:=i*K+a) (x:=x) (by rw[zl2 ha];exact h2);rw[zte ha]at h3;obtain⟨y,hy,a5⟩:=yao.1 h3;obtain⟨j,hj,a3⟩:=yci.1 hy;have a2:(bfsB e K s0 (i*K+a+1))[j]?=some y:=by rw[zkM hj,a3]
 refine⟨j,y,zgl a0 a2,a5,λu hu a6=>?_⟩;have a4:u<(bfsB e K s0 (i*K+a+1)).length:=by omega
 have hw:=zkM a4;rcases znj hw with q|⟨r',z,q1,q2,q3,q4⟩
 ·omega
 ·have hK:0<K:=by omega
  refine⟨r' / K,r'%K,z,_,yef _ hK,?_,q2,zgl a0 q3,zgl a0 hw,by rw[q4]⟩;have:=yew r' K;rw[yeb]at this;omega
def zg5.from(h:zg5 e K s0 L)(hK:0<K){u:Nat}{x:A×yab}(hx:L[u]?=some x):u=0\/∃i a y,i<u/\a<K/\L[i]?=some y/\x=(e y.1 a,y.2++[(a:Int)]):=by
 have a0:=hx;rw[h.eq]at a0;rcases znj a0 with q|⟨r',z,q1,q2,q3,q4⟩
 ·exact Or.inl q
 ·rw[<- h.eq]at q3;exact Or.inr ⟨r' / K,r'%K,z,q2,yef _ hK,q3,q4⟩
end
end
section
def E(m:zab):Nat->Nat->Nat->Prop
 |0,_,_=>True
 |k+1,s,t=>E m k s t/\∀a,a<m.Inputs.toNat->ot m s a=ot m t a/\E m k (nx m s a) (nx m t a)
section
variable {m:zab}
def E_refl:∀(k s:Nat),E m k s s
 |0,_=>trivial
 |k+1,s=>⟨E_refl k s,λ_ _=>⟨rfl,E_refl k _⟩⟩
def E_symm:∀{k s t:Nat},E m k s t->E m k t s
 |0,_,_,_=>trivial
 |_+1,_,_,h=>⟨E_symm h.1,λa ha=>⟨(h.2 a ha).1.symm,E_symm (h.2 a ha).2⟩⟩
def zoj:∀{k s t u:Nat},E m k s t->E m k t u->E m k s u
 |0,_,_,_,_,_=>trivial
 |_+1,_,_,_,h,g=>⟨zoj h.1 g.1,λa ha=>⟨(h.2 a ha).1.trans (g.2 a ha).1,zoj (h.2 a ha).2 (g.2 a ha).2⟩⟩
def E_mono{k j s t:Nat}(hk:k<=j)(h:E m j s t):E m k s t:=by
 induction j with
 |zero =>
  have e:k=0:=by omega
  subst e;exact h
 |succ j ih =>
  rcases ya9 k (j+1) with h1|h1
  ·exact ih (by omega) h.1
  ·have e:k=j+1:=by omega
   subst e;exact h
def E_outs:∀{w:yab} {s t:Nat},E m w.length s t->WOk m.Inputs w->outs m s w=outs m t w
 |[],_,_,_,_=>rfl
 |a::w,s,t,h,hw=>by
  have ha:=hw.head;obtain⟨h1,h2⟩:=h.2 a.toNat (by omega);show ot m s a.toNat::outs m _ w=ot m t a.toNat::outs m _ w;rw[h1,E_outs (w:=w) h2 hw.tail]
def znv:∀{k s t:Nat},(∀w,w.length<=k->WOk m.Inputs w->outs m s w=outs m t w)->E m k s t
 |0,_,_,_=>trivial
 |k+1,s,t,h=>⟨znv λw hl hw=>h w (by omega) hw,λa ha=>by
  have hx:∀w,w.length<=k->WOk m.Inputs w->ot m s a=ot m t a/\outs m (nx m s a) w=outs m (nx m t a) w:=λw hl hw=>by
   have h1:=h ((a:Int)::w) (by simp;omega) (λx hx=>by
    rcases yaw.1 hx with rfl|hx
    ·exact⟨by omega,by omega⟩
    ·exact hw x hx)
   have h2:ot m s a::outs m (nx m s a) w=ot m t a::outs m (nx m t a) w:=h1
   injection h2 with h3 h4
   exact⟨h3,h4⟩
  exact⟨(hx [] (yaf _) (λx hx=>by cases hx)).1,znv λw hl hw=>(hx w hl hw).2⟩⟩
structure ClsOk(m:zab)(k:Nat)(c:yab):Prop where
 len:c.length=m.Next.length
 rng:∀s,s<m.Next.length->∃x:Nat,c[s]?=some (x:Int)/\x<m.Next.length
 cls:∀s t,s<m.Next.length->t<m.Next.length->(c[s]?=c[t]?↔E m k s t)
structure FinOk(m:zab)(k:Nat)(y:yab)(n s:Nat):Prop where
 ls:s<=m.Next.length
 len:y.length=s
 cnt:n<=s
 rng:∀i,i<s->∃x:Nat,y[i]?=some (x:Int)/\x<n
 cls:∀i j,i<s->j<s->(y[i]?=y[j]?↔E m k i j)
def zo8{α:Type}{p q:α->Bool}:∀{l:List α},(∀x∈l,p x=true->q x=true)->l.countP q<=l.countP p->∀x∈l,q x=true->p x=true
 |[],_,_,x,hx,_=>by cases hx
 |y::l,h,hc,x,hx,hq=>by
  have h1:l.countP p<=l.countP q:=List.countP_mono_left λx hx=>h x (yau _ hx);rw[yc3,yc3]at hc;have h2:=h y (ybl ..)
  have h3:l.countP q<=l.countP p/\(q y=true->p y=true):=by
   cases e1:q y<;>cases e2:p y<;>simp[e1,e2]at hc h2 ⊢<;>omega
  rcases yaw.1 hx with rfl|hx
  ·exact h3.2 hq
  ·exact zo8 (λx hx=>h x (yau _ hx)) h3.1 x hx hq
def Rep(m:zab)(k s:Nat):Prop:=∀t,t<s->¬E m k s t
open Classical in
noncomputable def nreps(m:zab)(k:Nat):Nat:=(List.range m.Next.length).countP λs=>decide (Rep m k s)
def zsr(k:Nat):∀(s:Nat),∃r,r<=s/\Rep m k r/\E m k s r:=by
 intro s
 induction s using Nat.strongRecOn with
 |ind s ih =>
  by_cases h:Rep m k s
  ·exact⟨s,yaq _,h,E_refl _ _⟩
  ·have⟨t,h1⟩:=Classical.not_forall.1 h;obtain⟨h2,h3⟩:=Classical.not_imp.1 h1;have h3:=ydl.1 h3;obtain⟨r,r1,r2,r3⟩:=ih t h2;exact⟨r,by omega,r2,zoj h3 r3⟩
def Stab(m:zab)(k:Nat):Prop:=∀s t,s<m.Next.length->t<m.Next.length->E m k s t->E m (k+1) s t
def rep_succ{k s:Nat}(h:Rep m k s):Rep m (k+1) s:=λt ht hE=>h t ht hE.1
open Classical in
open Classical in
def stab_of{k:Nat}(h:nreps m (k+1)<=nreps m k):Stab m k:=by
 intro s t hs ht hE;unfold nreps at h;have key:=zo8 (l:=List.range m.Next.length) (λs _ h=>zkB (rep_succ (of_decide_eq_true h))) h;obtain⟨r,r1,r2,r3⟩:=zsr (m:=m) (k+1) s;obtain⟨u,u1,u2,u3⟩:=zsr (m:=m) (k+1) t;have r4:Rep m k r:=of_decide_eq_true (key r (yay.2 (by omega)) (zkB r2));have u4:Rep m k u:=of_decide_eq_true (key u (yay.2 (by omega)) (zkB u2));have a0:E m k r u:=zoj (E_symm r3.1) (zoj hE u3.1)
 have e:r=u:=by
  rcases ydn r u with h1|h1|h1
  ·exact absurd (E_symm a0) (u4 r h1)
  ·exact h1
  ·exact absurd a0 (r4 u h1)
 subst e;exact zoj r3 (E_symm u3)
def stab_succ(H:zdv m){k:Nat}(h:Stab m k):Stab m (k+1):=λs t hs ht hE =>
 ⟨hE,λa ha=>⟨(hE.2 a ha).1,h _ _ (H.at hs ha).1 (H.at ht ha).1 (hE.2 a ha).2⟩⟩
def stab_add(H:zdv m){k:Nat}(h:Stab m k):∀j,Stab m (k+j)
 |0=>h
 |j+1=>stab_succ H (stab_add H h j)
open Classical in
def stab_exists(H:zdv m):∃k,k<m.Next.length/\Stab m k:=by
 refine ybd λa2=>?_
 have a0:∀k,k<=m.Next.length->k+1<=nreps m k:=by
  intro k
  induction k with
  |zero =>
   intro _;unfold nreps;have:0<(List.range m.Next.length).countP λs=>@decide (Rep m 0 s) (Classical.propDecidable _):=List.countP_pos_iff.2 ⟨0,yay.2 H.n1,zkB λt ht=>absurd ht (ybg _)⟩;exact this
  |succ k ih =>
   intro hk;have h1:=ih (by omega);rcases ya9 (nreps m k) (nreps m (k+1)) with h2|h2
   ·omega
   ·exact absurd ⟨k,by omega,stab_of h2⟩ a2
 have h1:=a0 _ (yaq _);have h2:nreps m m.Next.length<=(List.range m.Next.length).length:=yev;rw[ya4]at h2;omega
def E_all(H:zdv m){s t:Nat}(hs:s<m.Next.length)(ht:t<m.Next.length)(h:E m m.Next.length s t)(j:Nat):E m j s t:=by
 obtain⟨k,hk,hS⟩:=stab_exists H
 have key:∀i,E m (k+i) s t:=by
  intro i
  induction i with
  |zero=>exact E_mono (by omega) h
  |succ i ih=>exact stab_add H hS i s t hs ht ih
 exact E_mono (by omega) (key j)
end
end
section
def zj6{α:Type}[DecidableEq α]:∀{l l':List α},l.Nodup->(∀x∈l,x∈l')->l.length<=l'.length
 |[],_,_,_=>yaf _
 |x::l,l',h,hs=>by
  have h1:=yb0.1 h;have hx:=hs x (by simp);have ih:=zj6 (l:=l) (l':=l'.erase x) h1.2 (λy hy=>(List.mem_erase_of_ne (λe=>h1.1 (by rw[<- e];exact hy))).2 (hs y (yau _ hy)));rw[yfe hx]at ih;have:=yem hx;simp only[zkL];omega
def natI(l:List Nat):yab:=l.map λ(x:Nat)=>(x:Int)
def natI_at{l:List Nat}{i u:Nat}(h:l[i]?=some u):(natI l)[i]?=some (u:Int):=by
 unfold natI;rw[yae,h];rfl
def natI_push(l:List Nat)(t:Nat):natI l++[(t:Int)]=natI (l++[t]):=by simp[natI]
def zhp(l:List Nat):(natI l).length=l.length:=by simp[natI]
structure Num(m:zab)(c:yab)(ord:List Nat)(num:yab):Prop where
 rng:∀u∈ord,u<m.Next.length
 start:ord[0]?=some m.Start.toNat
 len:num.length=m.Next.length
 n1:∀j u x:Nat,ord[j]?=some u->c[u]?=some (x:Int)->num[x]?=some (j:Int)
 n2:∀x:Nat,x<m.Next.length->num[x]?=some (-1:Int)\/∃j u:Nat,num[x]?=some (j:Int)/\ord[j]?=some u/\c[u]?=some (x:Int)
 reach:∀j u:Nat,ord[j]?=some u->j=0\/∃i v a:Nat,i<j/\ord[i]?=some v/\a<m.Inputs.toNat/\u=nx m v a
section
variable {m:zab}{c num:yab}{ord:List Nat}{k:Nat}
structure RowAt(m:zab)(c:yab)(ord:List Nat)(v:Nat)(row out:yab)(a:Nat):Prop where
 l1:row.length=a
 l2:out.length=a
 cell:∀b,b<a->∃j u:Nat,row[b]?=some (j:Int)/\ord[j]?=some u/\c[u]?=c[nx m v b]?/\out[b]?=some (ot m v b)
structure MinOk(m M:zab)(c:yab)(ord:List Nat)(num:yab):Prop where
 cls:ClsOk m m.Next.length c
 num:Num m c ord num
 inp:M.Inputs=m.Inputs
 start:M.Start=0
 l1:M.Next.length=ord.length
 l2:M.Out.length=ord.length
 row:∀i v:Nat,ord[i]?=some v->∃row out,M.Next[i]?=some row/\M.Out[i]?=some out/\RowAt m c ord v row out m.Inputs.toNat
end
end
end Go.Proofs.YtkeplokjplkcmaaGreat.Sym

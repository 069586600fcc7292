/-
  Parts of the proof, behind each other.
-/
import Derived.Test.YtcneaiejdidooaaGreatDoorM3
set_option linter.all false
namespace Go.Proofs.YtcneaiejdidooaaGreatDoor.Sym
section
set_option maxRecDepth 100000
section
variable {α β R:Type}
theorem get_at {l:List α} {i:Nat} (h:i<l.length):l[i]?=some l[i]:=zkM h
theorem iter_all2 [DecidableEq α] {a b:List α} {step:Nat→Option (Nat⊕(Unit⊕Bool))} (hlen:a.length=b.length) (h1:∀ i x y,a[i]?=some x→b[i]?=some y→step i=some (if x=y then .inl (i+1) else .inr (.inr false)))
  (h2:step a.length=some (.inr (.inl ()))) (hl:a.length≤100000000000000):(iter step fuel 0).bind (Sum.elim (fun _=>some true) some)=some (decide (a=b)):=by
 rw [zdl (l:=a) (fun i x=>if b[i]?=some x then none else some false) (fun i x hx=>?_) h2 hl]
 ·cases e:scan (fun i x=>if b[i]?=some x then none else some false) 0 a with
  | none =>
   have:=zis.1 e
   have hab:a=b:=by
    apply List.ext_getElem?;intro i;rcases Nat.lt_or_ge i a.length with h | h
    ·have h3:=this i _ (get_at h);rw [Nat.zero_add] at h3;split at h3
     ·rename_i h4;rw [get_at h,h4]
     ·cases h3
    ·rw [List.getElem?_eq_none h,List.getElem?_eq_none (by omega)]
   simp [hab]
  | some r =>
   have hne:a≠b:=fun hab=>by
    subst hab;have:scan (fun i x=>if a[i]?=some x then none else some false) 0 a=none:=zis.2 fun i x hx=>by rw [Nat.zero_add,if_pos hx]
    rw [this] at e;cases e
   have hr:r=false:=by
    have key:∀ (l:List α) (j:Nat),scan (fun i x=>if b[i]?=some x then none else some false) j l=some r→r=false:=by
     intro l
     induction l with
     | nil=>intro j h;cases h
     | cons x l ih =>
      intro j h;unfold scan at h;split at h
      ·rename_i r' h3;injection h with h
       subst h;split at h3
       ·cases h3
       ·injection h3 with h3
        exact h3.symm
      ·exact ih _ h
    exact key a 0 e
   subst hr;simp [hne]
 ·have hi:=(zkI.1 hx).1;have hy:=get_at (l:=b) (i:=i) (by omega);rw [h1 i x _ hx hy];by_cases h:x=b[i]'(by omega)
  ·rw [if_pos h,hy,if_pos (by rw [h])]
  ·rw [if_neg h,hy,if_neg (fun h3=>h (by injection h3 with h3;exact h3.symm))]
end
theorem zku (a b:List Int) (hl:a.length≤100000000000000):zeg a b=some (decide (a=b)):=by
 unfold zeg;by_cases hlen:a.length=b.length
 ·rw [show decide ((↑(List.length a):Int)≠(↑(List.length b):Int))=false by simp [hlen],zkC];refine iter_all2 hlen (fun i x y hx hy=>?_) ?_ hl
  ·simp only [zeg.s2];rw [zdj hx,zkD,za3 hx,za3 hy];by_cases h:x=y<;>simp [h]
  ·simp only [zeg.s2];rw [zc8];rfl
 ·rw [show decide ((↑(List.length a):Int)≠(↑(List.length b):Int))=true by simp;omega,zkD];have:a≠b:=fun h=>hlen (by rw [h]);simp [this]
theorem zqf (a b:List (List Int)) (hl:a.length≤100000000000000) (hw:∀ x∈a,x.length≤100000000000000):zeu a b=some (decide (a=b)):=by
 unfold zeu;by_cases hlen:a.length=b.length
 ·rw [show decide ((↑(List.length a):Int)≠(↑(List.length b):Int))=false by simp [hlen],zkC];refine iter_all2 hlen (fun i x y hx hy=>?_) ?_ hl
  ·simp only [zeu.s2];rw [zdj hx,zkD,za3 hx,za3 hy,zku x y (hw x (zkH hx))];by_cases h:x=y<;>simp [h]
  ·simp only [zeu.s2];rw [zc8];rfl
 ·rw [show decide ((↑(List.length a):Int)≠(↑(List.length b):Int))=true by simp;omega,zkD];have:a≠b:=fun h=>hlen (by rw [h]);simp [this]
def SmW (x:List Int):Prop:=x.length≤2000000
def SmL (l:List (List Int)):Prop:=l.length≤2000000∧∀ x∈l,SmW x
theorem R01_Size_eq (n:Int):zn1 n=some (decide (1≤n∧n≤1024)):=by
 unfold zn1;by_cases h1:1≤n<;>by_cases h2:n≤1024<;>simp [h1,h2]
theorem zpq (n:Int):zgf n=some (decide (1≤n∧n≤1024)):=by
 unfold zgf;by_cases h1:1≤n<;>by_cases h2:n≤1024<;>simp [h1,h2]
theorem zmb {α R:Type} {p:α→Bool} {r:R}:∀ (l:List α) (j:Nat),scan (fun _ x=>if p x=true then none else some r) j l=if l.all p=true then none else some r
 | [],_=>rfl
 | x::l,j=>by
  unfold scan;by_cases h:p x=true
  ·simp only [h,if_true,List.all_cons,Bool.true_and];exact zmb l (j+1)
  ·simp [h]
theorem zgv (w:List Int) (n:Int) (hl:SmW w):zd1 w n=some (zbs w n):=by
 unfold zd1 zbs;rw [R01_Size_eq];by_cases h1:1≤n∧n≤1024
 ·rw [if_pos h1];simp only [Option.bind_some,h1,and_self,decide_true,Bool.not_true,zkC];by_cases h2:1024<w.length
  ·rw [if_pos h2,show decide ((1024:Int)<(↑(List.length w):Int))=true from zkB (by omega),zkD]
  ·rw [if_neg h2,show decide ((1024:Int)<(↑(List.length w):Int))=false from zkA (by omega),zkC]
   have key:=zdl (step:=fun s=>zd1.s2 w n s) (l:=w) (fun _ x=>if decide (0≤x∧x<n)=true then none else some (1:Int)) (fun i x hx=>by
    simp only [zd1.s2]
    rw [zdj hx,zkD,za3 hx,za3 hx]
    by_cases a1:x<0
    ·simp [a1,show ¬ (0≤x) by omega]
    ·by_cases a2:n≤x
     ·simp [a1,a2,show ¬ (x<n) by omega]
     ·simp [a1,a2,show 0≤x by omega,show x<n by omega]) (by
    simp only [zd1.s2]
    rw [zc8]
    rfl) (by unfold SmW at hl;omega)
   rw [key,zmb (p:=fun x=>decide (0≤x∧x<n))];by_cases h:(w.all fun x=>decide (0≤x∧x<n))=true
   ·rw [if_pos h,if_pos h];rfl
   ·rw [if_neg h,if_neg h];rfl
 ·rw [if_neg h1];simp [h1]
theorem zg7 (w:List Int) (n:Int) (hl:SmW w):zfa w n=some (zbs w n):=by
 unfold zfa zbs zc0 za6;rw [zpq];by_cases h1:1≤n∧n≤1024
 ·rw [if_pos h1];simp only [Option.bind_some,h1,and_self,decide_true,Bool.not_true,zkC];by_cases h2:1024<w.length
  ·rw [if_pos h2,show decide ((1024:Int)<(↑(List.length w):Int))=true from zkB (by omega),zkD]
  ·rw [if_neg h2,show decide ((1024:Int)<(↑(List.length w):Int))=false from zkA (by omega),zkC]
   have key:=zdl (step:=fun s=>za6.s2 w (fun u0=>zgs u0 n) s) (l:=w) (fun i x=>if decide (0≤x∧x<n)=true then none else some (i:Int)) (fun i x hx=>by
    simp only [za6.s2,zgs]
    rw [zdj hx,zkD,za3 hx]
    by_cases a1:x<0
    ·simp [a1,show ¬ (0≤x) by omega]
    ·by_cases a2:n≤x
     ·simp [a1,a2,show ¬ (x<n) by omega]
     ·simp [a1,a2,show 0≤x by omega,show x<n by omega]) (by
    simp only [za6.s2]
    rw [zc8]
    rfl) (by unfold SmW at hl;omega)
   rw [key];cases e:scan (fun i x=>if decide (0≤x∧x<n)=true then none else some (i:Int)) 0 w with
   | none =>
    have h3:=zis.1 e
    have h:(w.all fun x=>decide (0≤x∧x<n))=true:=List.all_eq_true.2 fun x hx=>by
     obtain ⟨i,hi,rfl⟩:=List.mem_iff_getElem.1 hx;have:=h3 i _ (get_at hi);split at this
     ·assumption
     ·cases this
    rw [if_pos h];simp
   | some r =>
    have h:¬ (w.all fun x=>decide (0≤x∧x<n))=true:=fun h=>by
     have:scan (fun i x=>if decide (0≤x∧x<n)=true then none else some (i:Int)) 0 w=none:=zis.2 fun i x hx=>if_pos (List.all_eq_true.1 h x (zkH hx));rw [this] at e;cases e
    have hr:0≤r:=by
     have key:∀ (l:List Int) (j:Nat),scan (fun i x=>if decide (0≤x∧x<n)=true then none else some (i:Int)) j l=some r→0≤r:=by
      intro l
      induction l with
      | nil=>intro j h;cases h
      | cons x l ih =>
       intro j h;unfold scan at h;split at h
       ·rename_i r' h3;injection h with h
        subst h;split at h3
        ·cases h3
        ·injection h3 with h3
         omega
       ·exact ih _ h
     exact key w 0 e
    rw [if_neg h];simp [hr]
 ·rw [if_neg h1];simp [h1]
theorem zf9 (a b:List Int) (ha:SmW a):zdt a b=some (zaw a b:Int):=by
 unfold zdt;rw [zpa (r:=zaw a b) (fun k=>k≤a.length∧zaw a b=zaw (a.drop k) (b.drop k)+k) (fun k=>a.length-k) (fun k ⟨h1,h2⟩=>?_) ⟨Nat.zero_le _,by simp⟩ (by have:=zcb;unfold SmW at ha;omega)]
 ·rfl
 ·simp only [zdt.s2];rcases Nat.lt_or_ge k a.length with h | h
  ·have hx:=get_at h;rcases Nat.lt_or_ge k b.length with h' | h'
   ·have hy:=get_at h';rw [zdj hx,zdj hy,zkD,zkD,za3 hx,za3 hy];rw [List.drop_eq_getElem_cons h,List.drop_eq_getElem_cons h'] at h2;by_cases e:a[k]=b[k]
    ·left;unfold SmW at ha;refine ⟨k+1,?_,⟨h,?_⟩,by omega⟩
     ·rw [zau (by unfold inR;omega)];simp [e]
     ·rw [h2,e];simp [zaw];omega
    ·right;simp only [zaw,e,if_false,Nat.zero_add] at h2;simp [e,h2]
   ·right;rw [zdj hx,zkD,show decide ((↑k:Int)<(↑(List.length b):Int))=false by simp;omega];rw [zps (Or.inr h'),Nat.zero_add] at h2;simp [h2]
  ·right;rw [show decide ((↑k:Int)<(↑(List.length a):Int))=false by simp;omega];rw [zps (Or.inl h),Nat.zero_add] at h2;simp [h2]
theorem R01_Same_eq (a b:List Int) (ha:SmW a):zoy a b=some (decide (a=b)):=by
 unfold zoy;rw [zf9 a b ha];have h:=same_iff a b;by_cases h1:a.length=b.length
 ·rw [show decide ((↑(List.length a):Int)=(↑(List.length b):Int))=true from zkB (by omega),zkD];by_cases h2:zaw a b=a.length
  ·have:a=b:=h.1 ⟨h1,h2⟩;subst this;simp [zkp]
  ·have:a≠b:=fun e=>h2 (h.2 e).2;simp only [Option.bind_some,this,decide_false];rw [zkA (by omega)]
 ·have:a≠b:=fun e=>h1 (by rw [e]);rw [show decide ((↑(List.length a):Int)=(↑(List.length b):Int))=false from zkA (by omega),zkC];simp [this]
theorem R01_Lex_eq (a b:List Int) (ha:SmW a):zsm a b=some (lexI a b):=by
 unfold zsm;rw [zf9 a b ha];have hle:=zg6 a b;have hlc:=zsd a b;rw [hlc];simp only [Option.bind_some];by_cases h1:zaw a b=a.length
 ·rw [show decide ((↑(zaw a b):Int)=↑a.length)=true from zkB (by omega),zkD,zkD];by_cases h2:zaw a b=b.length
  ·rw [show decide ((↑(zaw a b):Int)=↑b.length)=true from zkB (by omega),if_pos ⟨h1,h2⟩];rfl
  ·rw [show decide ((↑(zaw a b):Int)=↑b.length)=false from zkA (by omega),if_neg (fun h=>h2 h.2),if_pos (Or.inl h1)];rfl
 ·rw [show decide ((↑(zaw a b):Int)=↑a.length)=false from zkA (by omega),zkC,zkC,if_neg (fun h=>h1 h.1)];by_cases h2:zaw a b=b.length
  ·rw [show decide ((↑(zaw a b):Int)<(↑(List.length b):Int))=false from zkA (by omega),if_neg (fun h=>by omega)];rfl
  ·have hx:=get_at (l:=a) (i:=zaw a b) (by omega);have hy:=get_at (l:=b) (i:=zaw a b) (by omega);rw [show decide ((↑(zaw a b):Int)<(↑(List.length b):Int))=true from zkB (by omega),zkD,zd0 rfl hx,zd0 rfl hy];rw [List.getD_eq_getElem?_getD,List.getD_eq_getElem?_getD,hx,hy];by_cases h3:a[zaw a b]'(by omega)<b[zaw a b]'(by omega)
   ·rw [if_pos (Or.inr ⟨by omega,h3⟩)];simp [h3]
   ·rw [if_neg (fun h=>by
     rcases h with h | ⟨_,h⟩
     ·omega
     ·exact h3 h)]
    simp [h3]
theorem zm3 (a b:List Int) (ha:SmW a):zgr a b=some (cmpW a b):=by
 unfold zgr cmpW;rw [R01_Lex_eq a b ha];by_cases h1:a.length<b.length
 ·rw [show decide ((↑(List.length a):Int)<(↑(List.length b):Int))=true from zkB (by omega),if_pos h1];rfl
 ·rw [show decide ((↑(List.length a):Int)<(↑(List.length b):Int))=false from zkA (by omega),if_neg h1,zkC];by_cases h2:b.length<a.length
  ·rw [show decide ((↑(List.length b):Int)<(↑(List.length a):Int))=true from zkB (by omega),if_pos h2];rfl
  ·rw [show decide ((↑(List.length b):Int)<(↑(List.length a):Int))=false from zkA (by omega),if_neg h2];rfl
end
end Go.Proofs.YtcneaiejdidooaaGreatDoor.Sym
namespace Go.Proofs.YtcneaiejdidooaaGreatDoor
section
def M64:Nat:=18446744073709551616
def gold:Nat:=11400714819323198485
def mulA:Nat:=13787848793156543929
def mulB:Nat:=10723151780598845931
theorem xs_lt {a k:Nat} (h:a<M64):a ^^^ (a >>> k)<M64:=by
 have h2:a >>> k<2^64:=Nat.lt_of_le_of_lt (by rw [Nat.shiftRight_eq_div_pow];exact Nat.div_le_self _ _) h;exact Nat.xor_lt_two_pow (n:=64) h h2
theorem xs_inj {a b k:Nat} (hk:0<k) (h:a ^^^ (a >>> k)=b ^^^ (b >>> k)):a=b:=by
 have hd:(a ^^^ b) ^^^ ((a ^^^ b) >>> k)=0:=by
  rw [Nat.shiftRight_xor_distrib]
  have e:(a ^^^ b) ^^^ (a >>> k ^^^ b >>> k)=(a ^^^ (a >>> k)) ^^^ (b ^^^ (b >>> k)):=by
   rw [Nat.xor_assoc,← Nat.xor_assoc b,Nat.xor_comm b,Nat.xor_assoc (a >>> k) b,← Nat.xor_assoc]
  rw [e,h,Nat.xor_self]
 generalize hdd:a ^^^ b=d at hd
 have hz:d=d >>> k:=by
  have h1:d ^^^ (d ^^^ (d >>> k))=d:=by rw [hd,Nat.xor_zero]
  rw [← Nat.xor_assoc,Nat.xor_self,Nat.zero_xor] at h1;exact h1.symm
 have h0:d=0:=by
  rw [Nat.shiftRight_eq_div_pow] at hz;rcases Nat.eq_zero_or_pos d with h0 | h0
  ·exact h0
  ·have h2:1<2^k:=Nat.one_lt_two_pow (by omega);have:=Nat.div_lt_self h0 h2;omega
 rw [h0] at hdd;have h3:a ^^^ (a ^^^ b)=a:=by rw [hdd,Nat.xor_zero]
 rw [← Nat.xor_assoc,Nat.xor_self,Nat.zero_xor] at h3;exact h3.symm
theorem mul_inj {a b c d:Nat} (hc:c*d%M64=1) (ha:a<M64) (hb:b<M64) (h:a*c%M64=b*c%M64):a=b:=by
 have key:∀ x,x<M64→x*c%M64*d%M64=x:=fun x hx=>by
  rw [Nat.mod_mul_mod,Nat.mul_assoc,Nat.mul_mod,hc,Nat.mul_one,Nat.mod_mod,Nat.mod_eq_of_lt hx]
 rw [← key a ha,h,key b hb]
def mix (y:Nat):Nat :=
 let z:=(y ^^^ (y >>> 30))*mulA%M64
 let u:=(z ^^^ (z >>> 27))*mulB%M64
 u ^^^ (u >>> 31)
theorem mix_lt (y:Nat):mix y<M64:=xs_lt (Nat.mod_lt _ (by decide))
theorem mix_inj {a b:Nat} (ha:a<M64) (hb:b<M64) (h:mix a=mix b):a=b:=by
 have h1:=xs_inj (by decide) h;have h2:=mul_inj (d:=3573116690164977347) (by decide) (xs_lt (Nat.mod_lt _ (by decide))) (xs_lt (Nat.mod_lt _ (by decide))) h1;have h3:=xs_inj (by decide) h2;have h4:=mul_inj (d:=10871156337175269513) (by decide) (xs_lt ha) (xs_lt hb) h3;exact xs_inj (by decide) h4
def zhc (s j:Nat):Nat:=(s+j*gold)%M64
theorem stateAt_inj {s i j:Nat} (hi:i<M64) (hj:j<M64) (h:zhc s i=zhc s j):i=j:=by
 refine mul_inj (c:=gold) (d:=17428512612931826493) (by decide) hi hj ?_;unfold zhc at h;have h1:=congrArg (fun x=>(x+(M64-s%M64))%M64) h;simp only [Nat.mod_add_mod] at h1
 have key:∀ k:Nat,(s+k+(M64-s%M64))%M64=k%M64:=fun k=>by
  have h2:s%M64<M64:=Nat.mod_lt _ (by decide);have h3:=Nat.div_add_mod s M64
  have h4:s+k+(M64-s%M64)=k+M64*(s / M64+1):=by
   rw [Nat.mul_add,Nat.mul_one];omega
  rw [h4,Nat.add_mul_mod_self_left]
 rw [key,key] at h1;exact h1
theorem few:∀ (k a:Nat) (l:List Nat),l.Nodup→(∀ x∈l,a≤x∧x<a+k)→l.length≤k
 | 0,a,l,_,h=>by
  cases l with
  | nil=>simp
  | cons x l=>have:=h x (by simp);omega
 | k+1,a,l,hn,h=>by
  have h1:=few k a (l.erase (a+k)) (hn.erase _) fun x hx=>by
   have h2:=(hn.mem_erase_iff).1 hx;have h3:=h x h2.2;have h4:=h2.1;omega
  by_cases hm:a+k∈l
  ·have:=List.length_erase_of_mem hm;omega
  ·rw [List.erase_of_not_mem hm] at h1;omega
theorem refused_few (s n:Nat) (h:∀ j,j<n→M64-1616≤mix (zhc s (j+1))) (hn:n<100000):n≤1616:=by
 have h1:=few 1616 (M64-1616) ((List.range n).map fun j=>mix (zhc s (j+1))) ?_ ?_
 ·simpa using h1
 ·rw [List.nodup_iff_pairwise_ne,List.pairwise_map];refine List.Pairwise.imp_of_mem ?_ (List.nodup_iff_pairwise_ne.1 List.nodup_range);intro i j hi hj hne e;rw [List.mem_range] at hi hj;have h2:=mix_inj (Nat.mod_lt _ (by decide)) (Nat.mod_lt _ (by decide)) e;have h3:=stateAt_inj (by unfold M64;omega) (by unfold M64;omega) h2;omega
 ·intro x hx;obtain ⟨j,hj,rfl⟩:=List.mem_map.1 hx;rw [List.mem_range] at hj;have h2:=h j hj;have h3:=mix_lt (zhc s (j+1));unfold M64 at h2 h3 ⊢;omega
def drawF:Nat→Nat→Nat×Nat
 | 0,s=>(0,s)
 | f+1,s=>if mix ((s+gold)%M64)<M64-1616 then (mix ((s+gold)%M64)%10000,(s+gold)%M64) else drawF f ((s+gold)%M64)
def draw (s:Nat):Nat×Nat:=drawF 1617 s
end
end Go.Proofs.YtcneaiejdidooaaGreatDoor
namespace Go.Proofs.YtcneaiejdidooaaGreatDoor.Sym
section
set_option maxRecDepth 100000
theorem xorK_nat {a b:Nat} (ha:a<M64) (hb:b<M64):xorK .u64 (↑a) (↑b)=↑(a ^^^ b):=by
 have h:a ^^^ b<2^64:=Nat.xor_lt_two_pow (n:=64) ha hb
 have e:(BitVec.ofInt 64 (↑a:Int) ^^^ BitVec.ofInt 64 (↑b:Int)).toNat=a ^^^ b:=by
  rw [BitVec.toNat_xor,BitVec.ofInt_natCast,BitVec.ofInt_natCast,BitVec.toNat_ofNat,BitVec.toNat_ofNat,Nat.mod_eq_of_lt (show a<2^64 from ha),Nat.mod_eq_of_lt (show b<2^64 from hb)]
 show IntKind.u64.wrap ((BitVec.ofInt 64 (↑a:Int) ^^^ BitVec.ofInt 64 (↑b:Int)).toNat:Int)=_;rw [e,zk0];unfold mdU;omega
theorem shr_nat (y k:Nat):(↑y / 2^k:Int)=↑(y >>> k):=by
 rw [Nat.shiftRight_eq_div_pow]
 push_cast
 rfl
theorem zus {y:Nat} (k:Nat) (hy:y<M64):xorK .u64 ↑y (↑y / 2^k)=↑(y ^^^ (y >>> k)):=by
 rw [shr_nat];exact xorK_nat hy (Nat.lt_of_le_of_lt (by rw [Nat.shiftRight_eq_div_pow];exact Nat.div_le_self _ _) hy)
theorem mulA_nat (a:Nat):mdU (↑a*13787848793156543929)=↑(a*mulA%M64):=by
 unfold mdU mulA M64;omega
theorem mulB_nat (a:Nat):mdU (↑a*10723151780598845931)=↑(a*mulB%M64):=by
 unfold mdU mulB M64;omega
theorem gold_nat (s:Nat):mdU (↑s+11400714819323198485)=↑((s+gold)%M64):=by
 unfold mdU gold M64;omega
theorem zo9 {a:Nat} (h:a<M64):(0:Int)≤↑a∧(↑a:Int)≤18446744073709551615:=by
 unfold M64 at h;omega
theorem zjh (a:Nat):a%M64<M64:=Nat.mod_lt _ (by decide)
theorem ztl (s:Nat):zin ↑s=some (↑(mix ((s+gold)%M64)),↑((s+gold)%M64)):=by
 unfold zin;rw [gold_nat];have hy:=zjh (s+gold);generalize (s+gold)%M64=y at hy;rw [zus 30 hy,mulA_nat,zus 27 (zjh _),mulB_nat,zus 31 (zjh _),zau (zo9 hy),zau (zo9 (zjh _)),zau (zo9 (zjh _))];rfl
theorem zsr (s:Nat):zme ↑s=some (↑(mix ((s+gold)%M64)),↑((s+gold)%M64)):=by
 unfold zme;rw [gold_nat];have hy:=zjh (s+gold);generalize (s+gold)%M64=y at hy;rw [zus 30 hy,mulA_nat,zus 27 (zjh _),mulB_nat,zus 31 (zjh _),zau (zo9 hy),zau (zo9 (zjh _)),zau (zo9 (zjh _))];rfl
theorem stateAt_next (s j:Nat):zhc ((s+gold)%M64) j=zhc s (j+1):=by
 unfold zhc;rw [Nat.mod_add_mod];congr 1;rw [Nat.add_mul];omega
theorem hit_within (s:Nat):∃ j,j<1617∧mix (zhc s (j+1))<M64-1616:=by
 refine Classical.byContradiction fun h=>?_;have:=refused_few s 1617 (fun j hj=>Nat.le_of_not_lt fun h2=>h ⟨j,hj,h2⟩) (by decide);omega
def goOn (good:Nat→Bool) (nx:Nat→Nat):Nat→Nat→Nat
 | 0,s=>s
 | f+1,s=>cond (good s) s (goOn good nx f (nx s))
def steps (nx:Nat→Nat):Nat→Nat→Nat
 | 0,s=>s
 | j+1,s=>steps nx j (nx s)
theorem zsl {S R:Type} {step:S→Option (S⊕R)} {good:Nat→Bool} {nx:Nat→Nat} {st:Nat→S} {res:Nat→R} (h:∀ s,step (st s)=some (cond (good s) (.inr (res s)) (.inl (st (nx s))))) :
  ∀ (f k s:Nat),(∃ j,j<f∧good (steps nx j s)=true)→iter step (f+k) (st s)=some (res (goOn good nx f s))
 | 0,_,_,⟨_,hj,_⟩=>absurd hj (Nat.not_lt_zero _)
 | f+1,k,s,⟨j,hj,hg⟩=>by
  rw [show f+1+k=(f+k)+1 by omega];unfold iter goOn;rw [h];cases hs:good s with
  | true=>rfl
  | false =>
   simp only [zkC];cases j with
   | zero=>exact absurd (show good s=true from hg) (by rw [hs];exact Bool.false_ne_true)
   | succ j=>exact zsl h f k (nx s) ⟨j,by omega,hg⟩
theorem zuk {good:Nat→Bool} {nx:Nat→Nat}:∀ (f s:Nat),nx (goOn (fun s=>good (nx s)) nx f s)=goOn good nx f (nx s)
 | 0,_=>rfl
 | f+1,s=>by
  unfold goOn;cases good (nx s) with
  | true=>rfl
  | false=>exact zuk f (nx s)
def nxt (s:Nat):Nat:=(s+gold)%M64
def hitN (s:Nat):Bool:=decide (mix s<M64-1616)
def drawS (s:Nat):Nat:=goOn (fun s=>hitN (nxt s)) nxt 1617 s
def zjr (s:Nat):Nat×Nat:=(mix (nxt (drawS s))%10000,nxt (drawS s))
theorem zrc (s:Nat):nxt s=(s+gold)%M64:=by unfold nxt;with_reducible rfl
theorem zrz {nx:Nat→Nat}:∀ (j s:Nat),steps nx j (nx s)=nx (steps nx j s)
 | 0,_=>rfl
 | j+1,s=>zrz j (nx s)
theorem steps_one {nx:Nat→Nat} (j s:Nat):steps nx (j+1) s=steps nx j (nx s):=rfl
theorem steps_zero {nx:Nat→Nat} (s:Nat):steps nx 0 s=s:=rfl
theorem stateAt_one (s:Nat):zhc s (0+1)=(s+gold)%M64:=by
 unfold zhc;rw [Nat.zero_add,Nat.one_mul]
theorem steps_at (j:Nat):∀ (s:Nat),nxt (steps nxt j s)=zhc s (j+1):=by
 induction j with
 | zero =>
  intro s;rw [steps_zero,zrc,stateAt_one]
 | succ j ih =>
  intro s;rw [steps_one,ih,zrc,stateAt_next]
theorem hit_some (s:Nat):∃ j,j<1617∧hitN (nxt (steps nxt j s))=true:=by
 obtain ⟨j,hj,hm⟩:=hit_within s;exact ⟨j,hj,by rw [steps_at];exact zkB hm⟩
theorem zur:fuel=1617+999999999999999998383:=by decide
theorem hit_yes {y:Nat} (h:mix y<M64-1616):hitN y=true:=by
 unfold hitN;exact zkB h
theorem hit_no {y:Nat} (h:¬ mix y<M64-1616):hitN y=false:=by
 unfold hitN;exact zkA h
theorem below_body {x y:Nat} (hm:x<M64):(cond (decide ((mdU (0-10000))%10000=0)) (some true) (some (decide ((↑x:Int)<(mdU (0-((mdU (0-10000))%10000)))))):Option Bool).bind (fun (y77:Bool)=>cond y77 (chk (((0:Int)≤((↑x:Int)%10000)∧((↑x:Int)%10000)≤18446744073709551615)∧(0:Int)≤(↑x:Int)∧(1:Int)≤10000) (chk (inR ((↑x:Int)%10000)) (some (.inr (((↑x:Int)%10000),(↑y:Int)):Int⊕(Int×Int))))) (some (.inl (↑y:Int))))=some (if x<M64-1616 then .inr ((↑(x%10000):Int),(↑y:Int)) else .inl (↑y:Int)):=by
 have c1:(mdU (0-10000))%10000=1616:=by decide
 have c2:mdU (0-1616)=18446744073709550000:=by decide
 rw [c1,c2,zkA (by decide),zkC,zaq];by_cases h:x<M64-1616
 ·rw [if_pos h,zkB (by unfold M64 at h;omega),zkD];unfold M64 at hm;rw [zau (by omega),zau (by unfold inR;omega)];simp
 ·rw [if_neg h,zkA (by unfold M64 at h hm;omega),zkC]
theorem below_step (s:Nat):zdr.s1 10000 ↑s=some (cond (hitN (nxt s)) (.inr (↑(mix (nxt s)%10000),↑(nxt s))) (.inl ↑(nxt s))):=by
 unfold zdr.s1;rw [ztl,zaq,← zrc];refine (below_body (mix_lt (nxt s))).trans ?_;by_cases h:mix (nxt s)<M64-1616
 ·rw [if_pos h,hit_yes h,zkD]
 ·rw [if_neg h,hit_no h,zkC]
theorem zs7 (s:Nat):zdr ↑s 10000=some (↑(zjr s).1,↑(zjr s).2):=by
 unfold zdr;have c1:(mdU (0-10000))%10000=1616:=by decide
 rw [c1,zau (by decide),zau (by decide),zur];exact zsl (st:=fun s=>(↑s:Int)) (res:=fun s=>((↑(mix (nxt s)%10000):Int),(↑(nxt s):Int))) below_step 1617 _ s (hit_some s)
theorem zrx (s:Nat):zh3 ↑s 10000=some (↑(zjr s).1,↑(zjr s).2,0):=by
 unfold zh3;rw [zkA (by decide),zkC,zkA (by decide),zaq,zkC,zs7,zaq]
theorem draw_body {x s:Nat} {r:Int⊕Int} {k:Option ((Int×Int)⊕(Int×Int))} (hm:x<M64):(cond (decide (0<((mdU ((mdU (18446744073709551615-10000))+1))%10000))) (some (decide ((mdU (18446744073709551615-((mdU ((mdU (18446744073709551615-10000))+1))%10000)))<(↑x:Int)))) (some false):Option Bool).bind (fun (y102:Bool)=>cond y102 k (some (.inr ((↑x:Int),(↑s:Int)))))=if x<M64-1616 then some (.inr ((↑x:Int),(↑s:Int))) else k:=by
 have c1:(mdU ((mdU (18446744073709551615-10000))+1))%10000=1616:=by decide
 have c2:mdU (18446744073709551615-1616)=18446744073709549999:=by decide
 rw [c1,c2,zkB (by decide),zkD,zaq];by_cases h:x<M64-1616
 ·rw [if_pos h,zkA (by unfold M64 at h;omega),zkC]
 ·rw [if_neg h,zkB (by unfold M64 at h;omega),zkD]
theorem draw_step (s:Nat):zd8.s2 10000 ↑(mix s) ↑s=some (cond (hitN s) (.inr (↑(mix s),↑s)) (.inl (↑(mix (nxt s)),↑(nxt s)))):=by
 unfold zd8.s2;rw [zsr,zaq,← zrc];refine (draw_body (r:=.inl 0) (mix_lt s)).trans ?_;by_cases h:mix s<M64-1616
 ·rw [if_pos h,hit_yes h,zkD]
 ·rw [if_neg h,hit_no h,zkC]
theorem draw_end {x y:Nat} (h:x<M64):zd8.k3 10000 (↑x:Int) (↑y:Int)=some ((↑(x%10000):Int),(↑y:Int)):=by
 unfold zd8.k3;unfold M64 at h;rw [zau (by decide),zau (by omega),zau (by unfold inR;omega)];simp
theorem R04_draw_eq (s:Nat):zd8 ↑s 10000=some (↑(zjr s).1,↑(zjr s).2):=by
 unfold zd8;have c1:(mdU ((mdU (18446744073709551615-10000))+1))%10000=1616:=by decide
 rw [c1,zau (by decide),zau (by decide),zau (by decide),zsr,zaq,zur]
 have key:=zsl (step:=fun (x:Int×Int)=>zd8.s2 10000 x.1 x.2) (st:=fun s=>((↑(mix s):Int),(↑s:Int))) (res:=fun s=>((↑(mix s):Int),(↑s:Int))) (good:=hitN) (nx:=nxt) draw_step 1617 999999999999999998383 (nxt s) (by
  obtain ⟨j,hj,h⟩:=hit_some s
  exact ⟨j,hj,by rw [zrz];exact h⟩)
 rw [← zrc];refine (congrArg (fun z=>Option.bind z fun (s:Int×Int)=>zd8.k3 10000 s.1 s.2) key).trans ?_;rw [zaq,← zuk];unfold zjr;rw [show goOn (fun s=>hitN (nxt s)) nxt 1617 s=drawS s by unfold drawS;with_reducible rfl];exact draw_end (mix_lt _)
theorem R04_Below_eq (s:Nat):zle ↑s 10000=some (↑(zjr s).1,↑(zjr s).2,0):=by
 unfold zle;rw [zkA (by decide),zkC,zkA (by decide),zaq,zkC,R04_draw_eq,zaq]
theorem nxt_lt (s:Nat):nxt s<18446744073709551616:=Nat.mod_lt _ (by decide)
theorem draw_lt (s:Nat):(zjr s).1<10000∧(zjr s).2<18446744073709551616:=⟨Nat.mod_lt _ (by decide),nxt_lt _⟩
end
section
set_option maxRecDepth 100000
section
variable {κ ν:Type} [BEq κ]
theorem zjl {k:κ} {v:ν} (hb:∀ a b:κ,(a==b)=true↔a=b):∀ m:List (κ×ν),mget k (mset k v m)=some v
 | []=>by
  unfold mset mget;rw [(hb k k).2 rfl]
 | p::m=>by
  unfold mset;cases h:k==p.1 with
  | true =>
   show mget k ((k,v)::m)=_;unfold mget;rw [(hb k k).2 rfl]
  | false =>
   show mget k (p::mset k v m)=_;unfold mget;rw [h];exact zjl hb m
theorem zqe {k k':κ} {v:ν} (hb:∀ a b:κ,(a==b)=true↔a=b) (hne:¬ k'=k):∀ m:List (κ×ν),mget k' (mset k v m)=mget k' m
 | []=>by
  have e:(k'==k)=false:=by
   cases e:k'==k with
   | true=>exact absurd ((hb _ _).1 e) hne
   | false=>rfl
  unfold mset mget;simp only [e];rfl
 | p::m=>by
  unfold mset;cases h:k==p.1 with
  | true =>
   have e1:k=p.1:=(hb _ _).1 h;show mget k' ((k,v)::m)=mget k' (p::m)
   have e:(k'==k)=false:=by
    cases e:k'==k with
    | true=>exact absurd ((hb _ _).1 e) hne
    | false=>rfl
   unfold mget;rw [← e1];simp only [e]
  | false =>
   show mget k' (p::mset k v m)=mget k' (p::m);unfold mget;rw [zqe hb hne m]
end
theorem ba_beq (a b:ByteArray):(a==b)=true↔a=b:=by
 cases a;cases b;show ByteArray.beq _ _=true↔_;unfold ByteArray.beq;simp
end
section
set_option maxRecDepth 100000
end
section
set_option maxRecDepth 100000
theorem zrg {w:List Int} {n:Int} (h:zbs w n=0):∀ a∈w,0≤a∧a<n:=by
 unfold zbs at h;split at h
 ·split at h
  ·cases h
  ·split at h
   ·rename_i h3;intro a ha;exact of_decide_eq_true (List.all_eq_true.1 h3 a ha)
   ·cases h
 ·cases h
end
end Go.Proofs.YtcneaiejdidooaaGreatDoor.Sym
namespace Go.Proofs.YtcneaiejdidooaaGreatDoor
section
structure TotalCmp (cf:List Int→List Int→Int):Prop where
 range:∀ a b,cf a b=-1∨cf a b=0∨cf a b=1
 zero:∀ a b,cf a b=0↔a=b
 swap:∀ a b,cf b a=- cf a b
 trans:∀ a b c,cf a b=-1→cf b c=-1→cf a c=-1
end
section
def prefixes (x:List Int):List (List Int):=(List.range (x.length+1)).map x.take
def suffixes (x:List Int):List (List Int):=(List.range (x.length+1)).map x.drop
end
end Go.Proofs.YtcneaiejdidooaaGreatDoor
namespace Go.Proofs.YtcneaiejdidooaaGreatDoor.Sym
section
set_option maxRecDepth 100000
theorem ztv {α:Type} {l:List (List α)} {i:Nat} {x:List α} (h:l[i]?=some x):(l.take (i+1)).flatten=(l.take i).flatten++x:=by
 rw [zcj h];simp
theorem flat_take_len {α:Type} {l:List (List α)} (i:Nat):(l.take i).flatten.length≤l.flatten.length:=by
 have h:l.flatten=(l.take i).flatten++(l.drop i).flatten:=by rw [← List.flatten_append,List.take_append_drop]
 rw [h,zkJ];omega
theorem zcx {w:List Int} (h:SmW w):zb2 w=some w:=by
 unfold zb2 libClone;exact zau (by unfold SmW at h;unfold zbt;omega)
end
section
set_option maxRecDepth 100000
theorem zkh (l:List (List Int)) (hl:l.length≤100000000) (hf:l.flatten.length≤1000000000):ze2 l=some l.flatten:=by
 unfold ze2
 rw [zpa (r:=l.flatten) (fun s=>s.2≤l.length∧s.1=(l.take s.2).flatten) (fun s=>l.length-s.2) (fun s ⟨h1,h2⟩=>by
  simp only [ze2.s2]
  by_cases h3:s.2<l.length
  ·left
   have hx:=get_at h3
   have h4:=ztv hx
   have h5:=flat_take_len (l:=l) (s.2+1)
   rw [h4,zkJ] at h5
   refine ⟨((l.take (s.2+1)).flatten,s.2+1),?_,⟨by omega,rfl⟩,by simp only;omega⟩
   rw [zdj hx,zkD,za3 hx,zau (by rw [h2];unfold zbt;omega),h4,h2]
  ·right
   have e:s.2=l.length:=by omega
   rw [zkA (by omega),zkC,h2,e,List.take_length]) (s:=([],0)) ⟨Nat.zero_le _,by simp⟩ (by have:=zcb;simp only;omega)]
 rfl
end
section
set_option maxRecDepth 100000
def SmO (o:zan):Prop:=o.Traces.length≤1100000∧∀ t∈o.Traces,t.In.length≤1100000∧t.Out.length≤2000000
theorem zfm (w p:List Int) (hw:SmW w):zdm w p=some (decide (p <+: w)):=by
 unfold zdm;rw [zf9 w p hw,zaq];congr 1;exact decide_eq_decide.2 (by rw [← zj4 w p];omega)
theorem zho (a b:List Int) (ha:SmW a):zc9 a b=some (zaw a b:Int):=by
 have ha':a.length≤2000000:=ha;have hle:=zg6 a b;unfold zc9
 have key:=zc2 (step:=fun k=>zc9.s2 a b k) (fun k=>k≤a.length∧k≤b.length∧zaw a b=zaw (a.drop k) (b.drop k)+k) (fun k=>a.length-k) (fun r=>Sum.elim (fun (_:Unit)=>some (min (↑(List.length a):Int) (↑(List.length b):Int))) some r=some (zaw a b:Int)) (fun k ⟨h1,h2,h3⟩=>by
  simp only [zc9.s2]
  by_cases h4:k<a.length∧k<b.length
  ·have hx:=get_at h4.1
   have hy:=get_at h4.2
   rw [zkB (show (↑k:Int)<min (↑(List.length a):Int) (↑(List.length b):Int) by omega),zkD,za3 hx,za3 hy]
   rw [List.drop_eq_getElem_cons h4.1,List.drop_eq_getElem_cons h4.2] at h3
   by_cases e:a[k]=b[k]
   ·left
    refine ⟨k+1,by simp [e],⟨h4.1,h4.2,?_⟩,by omega⟩
    rw [h3,e]
    simp [zaw]
    omega
   ·right
    simp only [zaw,e,if_false,Nat.zero_add] at h3
    exact ⟨.inr (k:Int),by simp [e],by rw [h3];rfl⟩
  ·right
   rw [zkA (by omega),zkC]
   refine ⟨.inl (),rfl,?_⟩
   rw [zps (by omega),Nat.zero_add] at h3
   simp only [Sum.elim_inl]
   congr 1
   omega) fuel 0 ⟨Nat.zero_le _,Nat.zero_le _,by simp⟩ (by have:=zcb;omega)
 obtain ⟨r,e,hq⟩:=key;rw [e];exact hq
theorem zf8 (w p:List Int) (hw:SmW w):zdy w p=some (decide (p <+: w)):=by
 unfold zdy;rw [zho w p hw,zaq];congr 1;exact decide_eq_decide.2 (by rw [← zj4 w p];omega)
def zke (n:Int) (t:zaa):Prop:=zbs t.In n=0∧t.Out.length=t.In.length∧∀ y∈t.Out,0≤y∧y≤1048576
theorem zt2 (t:zaa) (n:Int) (h1:SmW t.In) (h2:SmW t.Out):∃ e,zcz t n=some e∧(e=0→zke n t):=by
 unfold zcz;rw [zgv _ _ h1,zaq];by_cases g1:zbs t.In n=0
 ·rw [zkA (by simpa using g1),zkC];by_cases g2:t.Out.length=t.In.length
  ·rw [zkA (by omega),zkC]
   have key:=zdl (step:=fun s=>zcz.s2 t s) (l:=t.Out) (fun _ y=>if decide (0≤y∧y≤1048576)=true then none else some (2:Int)) (fun i y hy=>by
    simp only [zcz.s2]
    rw [zdj hy,zkD,za3 hy,za3 hy]
    by_cases a1:y<0
    ·rw [zkB a1,zkD,zaq,zkD,zkA (show ¬ (0≤y∧y≤1048576) by omega)];rfl
    ·by_cases a2:1048576<y
     ·rw [zkA a1,zkC,zkB a2,zaq,zkD,zkA (show ¬ (0≤y∧y≤1048576) by omega)];rfl
     ·rw [zkA a1,zkC,zkA a2,zaq,zkC,zkB (show (0≤y∧y≤1048576) by omega)];rfl) (by
    simp only [zcz.s2]
    rw [zc8]
    rfl) (by unfold SmW at h2;omega)
   rw [key,zmb (p:=fun y=>decide (0≤y∧y≤1048576))];by_cases h:(t.Out.all fun y=>decide (0≤y∧y≤1048576))=true
   ·rw [if_pos h];exact ⟨0,rfl,fun _=>⟨g1,g2,fun y hy=>of_decide_eq_true (List.all_eq_true.1 h y hy)⟩⟩
   ·rw [if_neg h];exact ⟨2,rfl,fun e=>by cases e⟩
  ·rw [zkB (by omega),zkD];exact ⟨1,rfl,fun e=>by cases e⟩
 ·rw [zkB g1,zkD];exact ⟨_,rfl,fun e=>absurd e g1⟩
def Agree (a b:zaa):Prop:=a.Out.take (zaw a.In b.In)=b.Out.take (zaw a.In b.In)
theorem zt5 (a b:zaa) {n:Int} (ha:zke n a) (hb:zke n b) (h1:SmW a.In):∃ d,zdd a b=some d∧(¬ 0≤d→Agree a b):=by
 have h1':a.In.length≤2000000:=h1;have hc:=zg6 a.In b.In;have la:=ha.2.1;have lb:=hb.2.1;unfold zdd;rw [zf9 _ _ h1,zaq]
 have key:=zc2 (step:=fun k=>zdd.s2 a b (↑(zaw a.In b.In):Int) k) (fun k=>k≤zaw a.In b.In∧a.Out.take k=b.Out.take k) (fun k=>zaw a.In b.In-k) (fun r=>match r with | .inl ()=>Agree a b | .inr d=>0≤d) (fun k ⟨g1,g2⟩=>by
  simp only [zdd.s2]
  by_cases g3:k<zaw a.In b.In
  ·have hx:=get_at (l:=a.Out) (i:=k) (by omega)
   have hy:=get_at (l:=b.Out) (i:=k) (by omega)
   rw [zkB (by omega),zkD,za3 hx,za3 hy]
   by_cases e:a.Out[k]'(by omega)=b.Out[k]'(by omega)
   ·left
    refine ⟨k+1,by rw [zkA (by simpa using e),zkC,zau (by unfold inR;omega)],⟨g3,?_⟩,by omega⟩
    rw [zcj hx,zcj hy,g2,e]
   ·right
    exact ⟨.inr (k:Int),by rw [zkB e,zkD],by simp⟩
  ·right
   have e:k=zaw a.In b.In:=by omega
   subst e
   exact ⟨.inl (),by rw [zkA (by omega),zkC],g2⟩) fuel 0 ⟨Nat.zero_le _,by simp⟩ (by have:=zcb;omega)
 obtain ⟨r,e,hq⟩:=key;rw [e];cases r with
 | inl u=>exact ⟨-1,rfl,fun _=>hq⟩
 | inr d=>exact ⟨d,rfl,fun h=>absurd hq h⟩
structure zia (o:zan):Prop where
 inp:1≤o.Inputs∧o.Inputs≤64
 num:o.Traces.length≤10000
 prop:∀ t∈o.Traces,zke o.Inputs t∧t.In≠[]
 asc:∀ (i j:Nat) a b,i<j→o.Traces[i]?=some a→o.Traces[j]?=some b→cmpW a.In b.In=-1
 apart:∀ (i j:Nat) a b,i<j→o.Traces[i]?=some a→o.Traces[j]?=some b→¬ a.In <+: b.In∧Agree a b
theorem R16_apart_tot (o:zan) (ho:SmO o) (hp:∀ t∈o.Traces,zke o.Inputs t):∃ e,zcp o=some e∧(e=0→∀ (i j:Nat) a b,i<j→o.Traces[i]?=some a→o.Traces[j]?=some b→¬ a.In <+: b.In∧Agree a b):=by
 obtain ⟨hl,hs⟩:=ho;unfold zcp
 have inner:∀ (i:Nat) (a:zaa),o.Traces[i]?=some a→∃ p c,iter (fun (s:Bool×Bool×Nat)=>zcp.s30 o i s.1 s.2.1 s.2.2) fuel (false,false,i+1)=some (p,c)∧(p=false→c=false→∀ j b,i<j→o.Traces[j]?=some b→¬ a.In <+: b.In∧Agree a b):=by
  intro i a ha;have hi:=(zkI.1 ha).1;have ham:=zkH ha
  have key:=zc2 (step:=fun (s:Bool×Bool×Nat)=>zcp.s30 o i s.1 s.2.1 s.2.2) (fun s=>i<s.2.2∧s.2.2≤o.Traces.length∧(s.1=false→s.2.1=false→∀ j b,i<j→j<s.2.2→o.Traces[j]?=some b→¬ a.In <+: b.In∧Agree a b)) (fun s=>o.Traces.length-s.2.2) (fun r=>r.1=false→r.2=false→∀ j b,i<j→o.Traces[j]?=some b→¬ a.In <+: b.In∧Agree a b) (fun s ⟨g1,g2,g3⟩=>by
   obtain ⟨p,c,k⟩:=s
   simp only at g1 g2 g3
   simp only [zcp.s30]
   by_cases g4:k<o.Traces.length
   ·left
    have hx:=get_at g4
    have hxm:=List.getElem_mem g4
    have sx:SmW o.Traces[k].In:=by have:=(hs _ hxm).1;unfold SmW;omega
    have sa:SmW a.In:=by have:=(hs _ ham).1;unfold SmW;omega
    obtain ⟨d,hd,hd2⟩:=zt5 a o.Traces[k] (hp a ham) (hp _ hxm) sa
    have hc1:(cond p (some true) (idxn o.Traces k fun e743=>idxn o.Traces i fun e744=>(zdm e743.In e744.In).bind fun c745=>some c745):Option Bool)=some (p||decide (a.In <+: o.Traces[k].In)):=by
     cases p with
     | true=>rfl
     | false =>
      rw [zkC,za3 hx,za3 ha,zfm _ _ sx,zaq]
      rfl
    rw [zdj hx,zkD,hc1,zaq]
    cases c with
    | true =>
     refine ⟨(p||decide (a.In <+: o.Traces[k].In),true,k+1),rfl,⟨by simp only;omega,by simp only;omega,fun _ h=>by cases h⟩,by simp only;omega⟩
    | false =>
     rw [zkC,za3 ha,za3 hx,hd,zaq]
     refine ⟨(p||decide (a.In <+: o.Traces[k].In),decide (0≤d),k+1),rfl,⟨by simp only;omega,by simp only;omega,fun h1 h2 j b hj1 hj2 hb=>?_⟩,by simp only;omega⟩
     simp only [Bool.or_eq_false_iff] at h1
     rcases Nat.lt_or_ge j k with h | h
     ·exact g3 h1.1 rfl j b hj1 h hb
     ·simp only at hj2
      have e:j=k:=by omega
      subst e
      rw [hx] at hb
      injection hb with hb
      subst hb
      exact ⟨of_decide_eq_false h1.2,hd2 (of_decide_eq_false h2)⟩
   ·right
    have e:k=o.Traces.length:=by omega
    refine ⟨(p,c),by rw [zkA (by omega),zkC],fun h1 h2 j b hj hb=>g3 h1 h2 j b hj ?_ hb⟩
    have:=(zkI.1 hb).1
    omega) fuel (false,false,i+1) ⟨by simp only;omega,by simp only;omega,fun _ _ j b h1 h2=>by simp only at h2;omega⟩ (by have:=zcb;simp only;omega)
  obtain ⟨⟨p,c⟩,e,hq⟩:=key;exact ⟨p,c,e,hq⟩
 have key:=zc2 (step:=fun i=>zcp.s32 o i) (fun i=>i≤o.Traces.length∧∀ i' j a b,i'<i→i'<j→o.Traces[i']?=some a→o.Traces[j]?=some b→¬ a.In <+: b.In∧Agree a b) (fun i=>o.Traces.length-i) (fun r=>match r with | .inl ()=>∀ (i j:Nat) a b,i<j→o.Traces[i]?=some a→o.Traces[j]?=some b→¬ a.In <+: b.In∧Agree a b | .inr e=>e≠0) (fun i ⟨g1,g2⟩=>by
  simp only [zcp.s32]
  by_cases g3:i<o.Traces.length
  ·have hx:=get_at g3
   obtain ⟨p,c,e,hq⟩:=inner i _ hx
   rw [zdj hx,zkD,e,zaq]
   simp only [zcp.k31]
   cases p with
   | true=>exact .inr ⟨.inr 7,rfl,(show (7:Int)≠0 by decide)⟩
   | false =>
    cases c with
    | true=>exact .inr ⟨.inr 13,rfl,(show (13:Int)≠0 by decide)⟩
    | false =>
     left
     refine ⟨i+1,rfl,⟨g3,fun i' j a b h1 h2 ha hb=>?_⟩,by omega⟩
     rcases Nat.lt_or_ge i' i with h | h
     ·exact g2 i' j a b h h2 ha hb
     ·have e:i'=i:=by omega
      subst e
      rw [hx] at ha
      injection ha with ha
      subst ha
      exact hq rfl rfl j b h2 hb
  ·right
   refine ⟨.inl (),by rw [zkA (by omega),zkC],fun i' j a b h ha hb=>g2 i' j a b ?_ h ha hb⟩
   have:=(zkI.1 ha).1
   omega) fuel 0 ⟨Nat.zero_le _,fun i' j a b h=>by omega⟩ (by have:=zcb;omega)
 obtain ⟨r,e,hq⟩:=key;rw [e];cases r with
 | inl u=>exact ⟨0,rfl,fun _=>hq⟩
 | inr e'=>exact ⟨e',rfl,fun h=>absurd h hq⟩
theorem R16_Valid_tot (o:zan) (ho:SmO o):∃ e,zfr o=some e∧(e=0→zia o):=by
 obtain ⟨hl,hs⟩:=ho;unfold zfr;by_cases h1:o.Inputs<1
 ·rw [zkB h1,zkD,zaq,zkD];exact ⟨2,rfl,fun e=>by cases e⟩
 by_cases h2:64<o.Inputs
 ·rw [zkA h1,zkC,zkB h2,zaq,zkD];exact ⟨2,rfl,fun e=>by cases e⟩
 rw [zkA h1,zkC,zkA h2,zaq,zkC];by_cases h3:10000<o.Traces.length
 ·rw [zkB (by omega),zkD];exact ⟨11,rfl,fun e=>by cases e⟩
 rw [zkA (by omega),zkC]
 have key:=zc2 (step:=fun i=>zfr.s2 o i) (fun i=>i≤o.Traces.length∧(∀ j t,j<i→o.Traces[j]?=some t→zke o.Inputs t∧t.In≠[])∧∀ j a b,j+1<i→o.Traces[j]?=some a→o.Traces[j+1]?=some b→cmpW a.In b.In=-1) (fun i=>o.Traces.length-i)
  (fun r=>match r with | .inl ()=>(∀ t∈o.Traces,zke o.Inputs t∧t.In≠[])∧∀ (j:Nat) a b,o.Traces[j]?=some a→o.Traces[j+1]?=some b→cmpW a.In b.In=-1 | .inr e=>e≠0) (fun i ⟨g1,g2,g3⟩=>by
  simp only [zfr.s2]
  by_cases g4:i<o.Traces.length
  ·have hx:=get_at g4
   have hxm:=List.getElem_mem g4
   have sx:SmW o.Traces[i].In:=by have:=(hs _ hxm).1;unfold SmW;omega
   obtain ⟨e,he,he2⟩:=zt2 o.Traces[i] o.Inputs sx (hs _ hxm).2
   rw [zdj hx,zkD,za3 hx,zgv _ _ sx,zaq]
   by_cases g5:zbs o.Traces[i].In o.Inputs=0
   ·rw [zkA (by simpa using g5),zkC]
    by_cases g6:o.Traces[i].In.length=0
    ·rw [zkB (by omega),zkD]
     exact .inr ⟨.inr 19,rfl,(show (19:Int)≠0 by decide)⟩
    ·rw [zkA (by omega),zkC,he,zaq]
     by_cases g7:e=0
     ·rw [zkA (by simpa using g7),zkC]
      have hP:=he2 g7
      have fin:∀ b:Bool,(b=false→0<i→∀ a,o.Traces[i-1]?=some a→cmpW a.In o.Traces[i].In=-1)→(∃ s',(some b).bind (fun (y160:Bool)=>cond y160 (some (.inr (.inr 10))) (some (.inl (i+1))))=some (.inl s':Nat⊕(Unit⊕Int))∧(s'≤o.Traces.length∧(∀ j t,j<s'→o.Traces[j]?=some t→zke o.Inputs t∧t.In≠[])∧∀ j a b,j+1<s'→o.Traces[j]?=some a→o.Traces[j+1]?=some b→cmpW a.In b.In=-1)∧o.Traces.length-s'<o.Traces.length-i)∨∃ r,(some b).bind (fun (y160:Bool)=>cond y160 (some (.inr (.inr 10))) (some (.inl (i+1))))=some (.inr r:Nat⊕(Unit⊕Int))∧(match r with | .inl ()=>(∀ t∈o.Traces,zke o.Inputs t∧t.In≠[])∧∀ (j:Nat) a b,o.Traces[j]?=some a→o.Traces[j+1]?=some b→cmpW a.In b.In=-1 | .inr e=>e≠0):=by
       intro b hb
       cases b with
       | true=>exact .inr ⟨.inr 10,rfl,(show (10:Int)≠0 by decide)⟩
       | false =>
        left
        refine ⟨i+1,rfl,⟨g4,fun j t hj ht=>?_,fun j a b hj ha hb'=>?_⟩,by omega⟩
        ·rcases Nat.lt_or_ge j i with h | h
         ·exact g2 j t h ht
         ·have ej:j=i:=by omega
          subst ej
          rw [hx] at ht
          injection ht with ht
          subst ht
          exact ⟨hP,fun e=>g6 (by rw [e];rfl)⟩
        ·rcases Nat.lt_or_ge (j+1) i with h | h
         ·exact g3 j a b h ha hb'
         ·have ej:j+1=i:=by omega
          subst ej
          rw [hx] at hb'
          injection hb' with hb'
          subst hb'
          exact hb rfl (by omega) a (by simpa using ha)
      by_cases g8:0<i
      ·have hpv:=get_at (l:=o.Traces) (i:=i-1) (by omega)
       have sp:SmW (o.Traces[i-1]'(by omega)).In:=by have:=(hs _ (List.getElem_mem (show i-1<o.Traces.length by omega))).1;unfold SmW;omega
       rw [zkB (by omega),zkD,zd0 (i:=i-1) (by omega) hpv,zm3 _ _ sp,zaq]
       refine fin _ fun hb _ a ha=>?_
       rw [hpv] at ha
       injection ha with ha
       subst ha
       have h5:=of_decide_eq_false hb
       have:=zik (o.Traces[i-1]'(by omega)).In o.Traces[i].In
       omega
      ·rw [zkA (by omega),zkC]
       exact fin false fun _ h=>absurd h g8
     ·rw [zkB g7,zkD]
      exact .inr ⟨.inr e,rfl,g7⟩
   ·rw [zkB g5,zkD]
    exact .inr ⟨.inr _,rfl,g5⟩
  ·right
   refine ⟨.inl (),by rw [zkA (by omega),zkC],fun t ht=>?_,fun j a b ha hb=>g3 j a b ?_ ha hb⟩
   ·obtain ⟨j,hj,rfl⟩:=List.mem_iff_getElem.1 ht
    exact g2 j _ (by omega) (get_at hj)
   ·have:=(zkI.1 hb).1
    omega) fuel 0 ⟨Nat.zero_le _,fun j t h=>by omega,fun j a b h=>by omega⟩ (by have:=zcb;omega)
 obtain ⟨r,e,hq⟩:=key;rw [e,zaq];cases r with
 | inr e'=>exact ⟨e',rfl,fun h=>absurd h hq⟩
 | inl u =>
  obtain ⟨hp,hone⟩:=hq;obtain ⟨e',he,he2⟩:=R16_apart_tot o ⟨hl,hs⟩ fun t ht=>(hp t ht).1;simp only [Sum.elim_inl];rw [he,zaq];refine ⟨e',rfl,fun h=>⟨by omega,by omega,hp,?_,he2 h⟩⟩
  have key:∀ (d i:Nat) a b,o.Traces[i]?=some a→o.Traces[i+d+1]?=some b→cmpW a.In b.In=-1:=by
   intro d
   induction d with
   | zero=>exact fun i a b=>hone i a b
   | succ d ih =>
    intro i a b ha hb;have hj:=(zkI.1 hb).1;have hm:=get_at (l:=o.Traces) (i:=i+d+1) (by omega);exact zij _ _ _ (ih i a _ ha hm) (hone _ _ _ hm (by rw [show i+d+1+1=i+(d+1)+1 by omega];exact hb))
  intro i j a b hij ha hb;exact key (j-i-1) i a b ha (by rw [show i+(j-i-1)+1=j by omega];exact hb)
end
section
set_option maxRecDepth 100000
def ansO (o:zan) (w:List Int):Option (List Int) :=
 if w=[] then some [] else (o.Traces.find? fun t=>decide (w <+: t.In)).map fun t=>t.Out.take w.length
abbrev tw {α:Type} (x:Option (List α)):List α×Bool:=match x with | some r=>(r,true) | none=>([],false)
theorem smo_in {o:zan} (ho:SmO o) {t:zaa} (h:t∈o.Traces):SmW t.In:=by
 have:=(ho.2 t h).1;unfold SmW;omega
theorem pre_len {p w:List Int} (h:p <+: w):p.length≤w.length:=h.length_le
theorem R16_Answer_eq {o:zan} {w:List Int} (ho:SmO o) (hv:zia o):zd7 o w=some (tw (ansO o w)):=by
 have hl:=ho.1;unfold zd7 ansO;by_cases h0:w=[]
 ·subst h0;rfl
 ·rw [if_neg h0,zkA (by
   intro h
   exact h0 (List.eq_nil_of_length_eq_zero (by omega))),zkC]
  have key:=zdl (step:=fun i=>zd7.s2 o w i) (l:=o.Traces) (fun _ t=>if w <+: t.In then some (t.Out.take w.length,true) else none) (fun i t ht=>by
   have htm:=zkH ht
   have hP:=(hv.prop t htm).1
   simp only [zd7.s2]
   rw [zdj ht,zkD,za3 ht,zfm _ _ (smo_in ho htm),zaq]
   by_cases h:w <+: t.In
   ·have hlen:=pre_len h
    have:=hP.2.1
    have h2:=(ho.2 t htm).1
    rw [zkB h,zkD,za3 ht,zau (by omega),zkh _ (by simp) (by simp;omega),zaq,if_pos h]
    simp
   ·rw [zkA h,zkC,if_neg h]) (by
   simp only [zd7.s2]
   rw [zc8]
   rfl) (by omega)
  rw [key,zaq]
  have key2:∀ (l:List zaa) (j:Nat),scan (fun _ t=>if w <+: t.In then some (t.Out.take w.length,true) else none) j l=((l.find? fun t=>decide (w <+: t.In)).map fun t=>t.Out.take w.length).map fun r=>(r,true):=by
   intro l
   induction l with
   | nil=>intro j;rfl
   | cons t l ih =>
    intro j;unfold scan;by_cases h:w <+: t.In
    ·rw [if_pos h,List.find?_cons_of_pos (by simpa using h)];rfl
    ·rw [if_neg h,List.find?_cons_of_neg (by simpa using h)];exact ih _
  rw [key2];cases (o.Traces.find? fun t=>decide (w <+: t.In)).map fun t=>t.Out.take w.length<;>rfl
end
section
set_option maxRecDepth 100000
theorem scan_idx {α:Type} {p:α→Bool}:∀ (l:List α) (j:Nat),scan (fun i x=>if p x=true then some (↑i:Int) else none) j l=if l.any p=true then some (↑(j+l.findIdx p):Int) else none
 | [],_=>rfl
 | x::l,j=>by
  unfold scan;by_cases h:p x=true
  ·simp [h,List.findIdx_cons]
  ·have hf:p x=false:=by simpa using h
   rw [if_neg h];simp only;rw [scan_idx l (j+1)];simp only [List.any_cons,hf,Bool.false_or,List.findIdx_cons,zkC];split
   ·congr 2;omega
   ·rfl
theorem find_idx {α:Type} {p:α→Bool}:∀ (l:List α),l.find? p=if l.any p=true then l[l.findIdx p]? else none
 | []=>rfl
 | x::l=>by
  by_cases h:p x=true
  ·simp [h,List.findIdx_cons]
  ·have hf:p x=false:=by simpa using h
   rw [List.find?_cons_of_neg (by simp [hf]),find_idx l];simp [hf,List.findIdx_cons]
theorem zsv {l:List zaa} {f:zaa→Option Bool} {p:zaa→Bool} (hl:l.length≤100000000000000) (hf:∀ x∈l,f x=some (p x)) :
  zap l f=some (if l.any p=true then (↑(l.findIdx p):Int) else -1):=by
 unfold zap
 have key:=zdl (step:=fun s=>zap.s2 l f s) (l:=l) (fun i x=>if p x=true then some (↑i:Int) else none) (fun i x hx=>by
  simp only [zap.s2]
  rw [zdj hx,zkD,za3 hx,hf x (zkH hx),zaq]
  cases p x<;>rfl) (by
  simp only [zap.s2]
  rw [zc8]
  rfl) hl
 rw [key,scan_idx,zaq];by_cases h:l.any p=true
 ·rw [if_pos h,if_pos h,Nat.zero_add];rfl
 ·rw [if_neg h,if_neg h];rfl
theorem cindex_eq {l:List Int} {f:Int→Option Bool} {p:Int→Bool} (hl:l.length≤100000000000000) (hf:∀ x∈l,f x=some (p x)) :
  zcc l f=some (l.any p):=by
 unfold zcc zbe
 have key:=zdl (step:=fun s=>zbe.s2 l f s) (l:=l) (fun i x=>if p x=true then some (↑i:Int) else none) (fun i x hx=>by
  simp only [zbe.s2]
  rw [zdj hx,zkD,za3 hx,hf x (zkH hx),zaq]
  cases p x<;>rfl) (by
  simp only [zbe.s2]
  rw [zc8]
  rfl) hl
 rw [key,scan_idx];by_cases h:l.any p=true
 ·rw [if_pos h,h];simp
 ·have h':l.any p=false:=by simpa using h
  rw [if_neg h,h'];rfl
def znl (t:zaa) (n:Int):Int :=
 if zbs t.In n≠0 then zbs t.In n else if t.Out.length≠t.In.length then 1 else if (t.Out.all fun y=>decide (0≤y∧y≤1048576))=true then 0 else 2
theorem zmk {t:zaa} {n:Int}:znl t n=0↔zke n t:=by
 unfold znl zke;by_cases h1:zbs t.In n=0
 ·rw [if_neg (by simpa using h1)];by_cases h2:t.Out.length=t.In.length
  ·rw [if_neg (by simpa using h2)];by_cases h3:(t.Out.all fun y=>decide (0≤y∧y≤1048576))=true
   ·rw [if_pos h3];exact ⟨fun _=>⟨h1,h2,fun y hy=>of_decide_eq_true (List.all_eq_true.1 h3 y hy)⟩,fun _=>rfl⟩
   ·rw [if_neg h3];exact ⟨fun h=>(by cases h),fun h=>absurd (List.all_eq_true.2 fun y hy=>zkB (h.2.2 y hy)) h3⟩
  ·rw [if_pos h2];exact ⟨fun h=>(by cases h),fun h=>absurd h.2.1 h2⟩
 ·rw [if_pos h1];exact ⟨fun h=>absurd h h1,fun h=>absurd h.1 h1⟩
theorem R16_Proper_eq (t:zaa) (n:Int) (h1:SmW t.In) (h2:SmW t.Out):zcz t n=some (znl t n):=by
 unfold zcz znl;rw [zgv _ _ h1,zaq];by_cases g1:zbs t.In n=0
 ·rw [zkA (by simpa using g1),zkC,if_neg (by simpa using g1)];by_cases g2:t.Out.length=t.In.length
  ·rw [zkA (by omega),zkC,if_neg (by simpa using g2)]
   have key:=zdl (step:=fun s=>zcz.s2 t s) (l:=t.Out) (fun _ y=>if decide (0≤y∧y≤1048576)=true then none else some (2:Int)) (fun i y hy=>by
    simp only [zcz.s2]
    rw [zdj hy,zkD,za3 hy,za3 hy]
    by_cases a1:y<0
    ·rw [zkB a1,zkD,zaq,zkD,zkA (show ¬ (0≤y∧y≤1048576) by omega)];rfl
    ·by_cases a2:1048576<y
     ·rw [zkA a1,zkC,zkB a2,zaq,zkD,zkA (show ¬ (0≤y∧y≤1048576) by omega)];rfl
     ·rw [zkA a1,zkC,zkA a2,zaq,zkC,zkB (show (0≤y∧y≤1048576) by omega)];rfl) (by
    simp only [zcz.s2]
    rw [zc8]
    rfl) (by unfold SmW at h2;omega)
   rw [key,zmb (p:=fun y=>decide (0≤y∧y≤1048576)),zaq];by_cases h:(t.Out.all fun y=>decide (0≤y∧y≤1048576))=true
   ·rw [if_pos h,if_pos h];rfl
   ·rw [if_neg h,if_neg h];rfl
  ·rw [zkB (by omega),zkD,if_pos g2]
 ·rw [zkB g1,zkD,if_pos g1]
theorem zpk (t:zaa) (n:Int) (h1:SmW t.In) (h2:SmW t.Out):zgi t n=some (znl t n):=by
 unfold zgi znl;rw [zg7 _ _ h1,zaq];by_cases g1:zbs t.In n=0
 ·rw [zkA (by simpa using g1),zkC,if_neg (by simpa using g1)];by_cases g2:t.Out.length=t.In.length
  ·rw [zkA (by omega),zkC,if_neg (by simpa using g2)]
   rw [cindex_eq (p:=fun y=>!decide (0≤y∧y≤1048576)) (by unfold SmW at h2;omega) fun y _=>by
    unfold zfq
    by_cases a1:y<0
    ·rw [zkB a1,zkD,zaq,zkA (show ¬ (0≤y∧y≤1048576) by omega)];rfl
    ·by_cases a2:1048576<y
     ·rw [zkA a1,zkC,zkB a2,zaq,zkA (show ¬ (0≤y∧y≤1048576) by omega)];rfl
     ·rw [zkA a1,zkC,zkA a2,zaq,zkB (show (0≤y∧y≤1048576) by omega)];rfl,zaq]
   by_cases h:(t.Out.all fun y=>decide (0≤y∧y≤1048576))=true
   ·have h':(t.Out.any fun y=>!decide (0≤y∧y≤1048576))=false:=by
     rw [List.any_eq_false];intro y hy;have:=List.all_eq_true.1 h y hy;simp only [this,Bool.not_true];exact Bool.false_ne_true
    rw [h',zkC,if_pos h]
   ·have h':(t.Out.any fun y=>!decide (0≤y∧y≤1048576))=true:=by
     refine Classical.byContradiction fun hn=>h (List.all_eq_true.2 fun y hy=>?_);refine Classical.byContradiction fun hm=>hn (List.any_eq_true.2 ⟨y,hy,?_⟩);have:decide (0≤y∧y≤1048576)=false:=by simpa only [Bool.not_eq_true] using hm
     rw [this];rfl
    rw [h',zkD,if_neg h]
  ·rw [zkB (by omega),zkD,if_pos g2]
 ·rw [zkB g1,zkD,if_pos g1]
theorem zry:∀ a b:List Int,zaw a b=zaw b a
 | [],[]=>rfl
 | [],_::_=>rfl
 | _::_,[]=>rfl
 | x::a,y::b=>by
  unfold zaw;by_cases h:x=y
  ·rw [if_pos h,if_pos h.symm,zry a b]
  ·rw [if_neg h,if_neg fun e=>h e.symm]
theorem Agree.symm {a b:zaa} (h:Agree a b):Agree b a:=by
 unfold Agree at h ⊢;rw [zry];exact h.symm
theorem zth (a b:zaa) {n:Int} (ha:zke n a) (hb:zke n b) (h1:SmW a.In):∃ d,zdd a b=some d∧(0≤d↔¬ Agree a b):=by
 have h1':a.In.length≤2000000:=h1;have hc:=zg6 a.In b.In;have la:=ha.2.1;have lb:=hb.2.1;unfold zdd;rw [zf9 _ _ h1,zaq]
 have key:=zc2 (step:=fun k=>zdd.s2 a b (↑(zaw a.In b.In):Int) k) (fun k=>k≤zaw a.In b.In∧a.Out.take k=b.Out.take k) (fun k=>zaw a.In b.In-k) (fun r=>match r with | .inl ()=>Agree a b | .inr d=>0≤d∧¬ Agree a b) (fun k ⟨g1,g2⟩=>by
  simp only [zdd.s2]
  by_cases g3:k<zaw a.In b.In
  ·have hx:=get_at (l:=a.Out) (i:=k) (by omega)
   have hy:=get_at (l:=b.Out) (i:=k) (by omega)
   rw [zkB (by omega),zkD,za3 hx,za3 hy]
   by_cases e:a.Out[k]'(by omega)=b.Out[k]'(by omega)
   ·left
    refine ⟨k+1,by rw [zkA (by simpa using e),zkC,zau (by unfold inR;omega)],⟨g3,?_⟩,by omega⟩
    rw [zcj hx,zcj hy,g2,e]
   ·right
    refine ⟨.inr (k:Int),by rw [zkB e,zkD],by simp,fun hA=>e ?_⟩
    have h3:(a.Out.take (zaw a.In b.In))[k]?=(b.Out.take (zaw a.In b.In))[k]?:=by rw [hA]
    rw [List.getElem?_take,List.getElem?_take,if_pos g3,if_pos g3,hx,hy] at h3
    injection h3
  ·right
   have e:k=zaw a.In b.In:=by omega
   subst e
   exact ⟨.inl (),by rw [zkA (by omega),zkC],g2⟩) fuel 0 ⟨Nat.zero_le _,by simp⟩ (by have:=zcb;omega)
 obtain ⟨r,e,hq⟩:=key;rw [e];cases r with
 | inl u=>exact ⟨-1,rfl,fun h=>absurd h (by decide),fun h=>absurd hq h⟩
 | inr d=>exact ⟨d,rfl,fun _=>hq.2,fun _=>hq.1⟩
theorem common_eq_iff {x y:List Int} (h:x.length=y.length):zaw x y=y.length↔x=y:=by
 rw [zj4];exact ⟨fun hp=>(hp.eq_of_length h.symm).symm,fun e=>e ▸ List.prefix_refl _⟩
theorem zot (a b:zaa) {n:Int} (ha:zke n a) (hb:zke n b) (h1:SmW a.In):∃ d,zgg a b=some d∧(0≤d↔¬ Agree a b):=by
 have h1':a.In.length≤2000000:=h1;have hc:=zg6 a.In b.In;have la:=ha.2.1;have lb:=hb.2.1;unfold zgg;rw [zho _ _ h1,zaq];have hm:min (min (↑(zaw a.In b.In):Int) (↑(List.length a.Out):Int)) (↑(List.length b.Out):Int)=↑(zaw a.In b.In):=by omega
 rw [hm,zau (by omega),zau (by omega),Int.toNat_natCast,zho _ _ (by unfold SmW;rw [List.length_take];omega),zaq];have l1:(a.Out.take (zaw a.In b.In)).length=zaw a.In b.In:=by rw [List.length_take];omega
 have l2:(b.Out.take (zaw a.In b.In)).length=zaw a.In b.In:=by rw [List.length_take];omega
 have hle:=zg6 (a.Out.take (zaw a.In b.In)) (b.Out.take (zaw a.In b.In));have hiff:=common_eq_iff (x:=a.Out.take (zaw a.In b.In)) (y:=b.Out.take (zaw a.In b.In)) (by omega);by_cases h:zaw (a.Out.take (zaw a.In b.In)) (b.Out.take (zaw a.In b.In))<zaw a.In b.In
 ·rw [zkB (by omega),zkD];exact ⟨_,rfl,fun _ hA=>by have:=hiff.2 hA;omega,fun _=>by omega⟩
 ·rw [zkA (by omega),zkC];exact ⟨-1,rfl,fun h=>absurd h (by decide),fun hA=>absurd (hiff.1 (by omega)) hA⟩
def zkz (l:List zaa) (t:zaa):Prop:=∃ u∈l,¬ Agree u t
def zea (l:List zaa) (w:List Int):Bool:=l.any fun u=>decide (w <+: u.In)
def insT:List zaa→zaa→List zaa
 | [],t=>[t]
 | x::r,t=>if cmpW t.In x.In=-1 then t::x::r else x::insT r t
def znu (l:List zaa) (t:zaa):List zaa:=l.filter fun u=>!decide (u.In <+: t.In)
def addL (l:List zaa) (t:zaa):List zaa:=if zea l t.In=true∨t.In=[] then l else insT (znu l t) t
instance (a b:zaa):Decidable (Agree a b):=by unfold Agree;infer_instance
instance (l:List zaa) (t:zaa):Decidable (zkz l t):=by unfold zkz;infer_instance
def addO (o:zan) (t:zaa):zan×Int :=
 if znl t o.Inputs≠0 then (o,znl t o.Inputs) else if zkz o.Traces t then (o,13) else if 10000<(addL o.Traces t).length then (o,11) else (⟨o.Inputs,addL o.Traces t⟩,0)
theorem zsx (l:List zaa) (t:zaa):(insT l t).length=l.length+1:=by
 induction l with
 | nil=>rfl
 | cons x r ih =>
  unfold insT;split
  ·rfl
  ·simp [ih]
theorem zp0 (l:List zaa) (t:zaa):(znu l t).length≤l.length:=List.length_filter_le _ _
theorem addL_length (l:List zaa) (t:zaa):(addL l t).length≤l.length+1:=by
 unfold addL;split
 ·omega
 ·rw [zsx];have:=zp0 l t;omega
theorem ziy {l:List zaa} {t x:zaa}:x∈insT l t↔x=t∨x∈l:=by
 induction l with
 | nil=>simp [insT]
 | cons y r ih =>
  unfold insT;split
  ·simp
  ·simp only [List.mem_cons,ih];constructor
   ·rintro (h | h | h)
    ·exact .inr (.inl h)
    ·exact .inl h
    ·exact .inr (.inr h)
   ·rintro (h | h | h)
    ·exact .inr (.inl h)
    ·exact .inl h
    ·exact .inr (.inr h)
theorem insT_at:∀ {l:List zaa} {t:zaa} {k:Nat},k≤l.length→(∀ j x,j<k→l[j]?=some x→cmpW x.In t.In=-1)→(∀ x,l[k]?=some x→cmpW x.In t.In≠-1)→(∀ x∈l,x.In≠t.In)→insT l t=l.take k++[t]++l.drop k
 | [],t,k,hk,_,_,_=>by
  have:k=0:=by simpa using hk
  subst this;rfl
 | x::r,t,0,_,_,h2,h3=>by
  have h4:=h2 x rfl;have h5:=h3 x (by simp);have r1:=zik x.In t.In;have z1:=ztb x.In t.In;have s1:=zob x.In t.In;have h6:¬ cmpW x.In t.In=0:=fun e=>h5 (z1.1 e);unfold insT;rw [if_pos (by omega)];rfl
 | x::r,t,k+1,hk,h1,h2,h3=>by
  have h4:=h1 0 x (Nat.succ_pos _) rfl;have s1:=zob x.In t.In;unfold insT;rw [if_neg (by omega),insT_at (k:=k) (by simpa using hk) (fun j y hj hy=>h1 (j+1) y (by omega) (by simpa using hy)) (fun y hy=>h2 y (by simpa using hy)) fun y hy=>h3 y (by simp [hy])];rfl
theorem insT_pair {S:zaa→zaa→Prop} {t:zaa}:∀ {l:List zaa},l.Pairwise S→(∀ x∈l,S x t∧S t x)→(insT l t).Pairwise S
 | [],_,_=>by simp [insT]
 | x::r,h,ht=>by
  unfold insT;have hx:=List.pairwise_cons.1 h;split
  ·exact List.pairwise_cons.2 ⟨fun y hy=>(ht y hy).2,h⟩
  ·refine List.pairwise_cons.2 ⟨fun y hy=>?_,insT_pair hx.2 fun y hy=>ht y (by simp [hy])⟩;rcases ziy.1 hy with e | e
   ·subst e;exact (ht x (by simp)).1
   ·exact hx.1 y e
theorem insT_asc {t:zaa}:∀ {l:List zaa},l.Pairwise (fun a b=>cmpW a.In b.In=-1)→(∀ x∈l,x.In≠t.In)→(insT l t).Pairwise (fun a b=>cmpW a.In b.In=-1)
 | [],_,_=>by simp [insT]
 | x::r,h,hn=>by
  unfold insT;have hx:=List.pairwise_cons.1 h;split
  ·rename_i h1;refine List.pairwise_cons.2 ⟨fun y hy=>?_,h⟩;rcases List.mem_cons.1 hy with e | e
   ·rw [e];exact h1
   ·exact zij _ _ _ h1 (hx.1 y e)
  ·rename_i h1;refine List.pairwise_cons.2 ⟨fun y hy=>?_,insT_asc hx.2 fun y hy=>hn y (by simp [hy])⟩;rcases ziy.1 hy with e | e
   ·subst e;have r1:=zik x.In y.In;have z1:=ztb x.In y.In;have s1:=zob x.In y.In;have h6:¬ cmpW x.In y.In=0:=fun e=>hn x (by simp) (z1.1 e);omega
   ·exact hx.1 y e
theorem zia.pw {o:zan} (hv:zia o):o.Traces.Pairwise (fun a b=>cmpW a.In b.In=-1)∧o.Traces.Pairwise (fun a b=>¬ a.In <+: b.In∧Agree a b) :=
 ⟨List.pairwise_iff_getElem.2 fun i j hi hj hij=>hv.asc i j _ _ hij (get_at hi) (get_at hj),List.pairwise_iff_getElem.2 fun i j hi hj hij=>hv.apart i j _ _ hij (get_at hi) (get_at hj)⟩
theorem obsOk_of {o:zan} (h1:1≤o.Inputs∧o.Inputs≤64) (h2:o.Traces.length≤10000) (h3:∀ t∈o.Traces,zke o.Inputs t∧t.In≠[]) (h4:o.Traces.Pairwise (fun a b=>cmpW a.In b.In=-1)) (h5:o.Traces.Pairwise (fun a b=>¬ a.In <+: b.In∧Agree a b)):zia o:=by
 refine ⟨h1,h2,h3,fun i j a b hij ha hb=>?_,fun i j a b hij ha hb=>?_⟩
 all_goals
  obtain ⟨hi,rfl⟩:=zkI.1 ha;obtain ⟨hj,rfl⟩:=zkI.1 hb
 ·exact List.pairwise_iff_getElem.1 h4 i j hi hj hij
 ·exact List.pairwise_iff_getElem.1 h5 i j hi hj hij
theorem insideO_false {l:List zaa} {w:List Int} (h:¬ zea l w=true):∀ u∈l,¬ w <+: u.In:=fun u hu hp=>h (List.any_eq_true.2 ⟨u,hu,zkB hp⟩)
theorem addO_ok {o:zan} {t:zaa} (hv:zia o):zia (addO o t).1:=by
 unfold addO;split
 ·exact hv
 rename_i hp;have hp:zke o.Inputs t:=zmk.1 (by simpa using hp);split
 ·exact hv
 rename_i hc;split
 ·exact hv
 rename_i hn;have hn:(addL o.Traces t).length≤10000:=by omega
 unfold addL at hn ⊢;by_cases h:zea o.Traces t.In=true∨t.In=[]
 ·rw [if_pos h];exact hv
 ·rw [if_neg h] at hn ⊢;have h1:=insideO_false fun e=>h (.inl e);have h2:t.In≠[]:=fun e=>h (.inr e);have hsub:(znu o.Traces t).Sublist o.Traces:=List.filter_sublist
  have hrest:∀ x∈znu o.Traces t,x∈o.Traces∧¬ x.In <+: t.In:=fun x hx=>by
   have:=List.mem_filter.1 hx;refine ⟨this.1,fun e=>?_⟩;rw [zkB e] at this;exact Bool.false_ne_true this.2
  have hag:∀ x∈o.Traces,Agree x t:=fun x hx=>Classical.byContradiction fun e=>hc ⟨x,hx,e⟩;refine obsOk_of hv.inp hn (fun x hx=>?_) (insT_asc (hv.pw.1.sublist hsub) fun x hx e=>(hrest x hx).2 (e ▸ List.prefix_refl _)) (insT_pair (hv.pw.2.sublist hsub) fun x hx=>⟨⟨(hrest x hx).2,hag x (hrest x hx).1⟩,h1 x (hrest x hx).1,(hag x (hrest x hx).1).symm⟩);rcases ziy.1 hx with e | e
  ·rw [e];exact ⟨hp,h2⟩
  ·exact hv.prop x (hrest x e).1
end
section
set_option maxRecDepth 100000
def SmX (t:zaa):Prop:=SmW t.In∧SmW t.Out
def SmTr (l:List zaa):Prop:=l.length≤1200000∧∀ t∈l,SmX t
theorem SmO.tr {o:zan} (h:SmO o):SmTr o.Traces:=⟨by have:=h.1;omega,fun t ht=>⟨by have:=(h.2 t ht).1;unfold SmW;omega,(h.2 t ht).2⟩⟩
theorem capT {n:Nat} (h:n≤3000000):zbt n 48:=by unfold zbt;omega
theorem zj9 {t:zaa} (h:SmX t):zft t=some t:=by
 unfold zft;rw [zcx h.1,zaq,zcx h.2,zaq]
theorem zqs {l:List zaa} (h:SmTr l):zc4 l=some l:=by
 have hl:=h.1;unfold zc4;rw [zau ⟨by decide,by omega,by rw [show ((↑l.length:Int)+1).toNat=l.length+1 by omega];exact capT (by omega)⟩]
 have key:=zc2 (step:=fun (s:List zaa×Nat)=>zc4.s2 l s.1 s.2) (fun s=>s.2≤l.length∧s.1=l.take s.2) (fun s=>l.length-s.2) (fun r=>r=l) (fun ⟨y,i⟩ ⟨g1,g2⟩=>by
  simp only at g1 g2
  subst g2
  simp only [zc4.s2]
  by_cases g3:i<l.length
  ·left
   have hx:=get_at g3
   refine ⟨(l.take (i+1),i+1),?_,⟨g3,rfl⟩,by simp only;omega⟩
   rw [zdj hx,zkD,za3 hx,zj9 (h.2 _ (List.getElem_mem _)),zaq,zau (capT (by rw [List.length_take];omega)),zcj hx]
  ·right
   have e:i=l.length:=by omega
   subst e
   exact ⟨l,by rw [zc8,zkC,List.take_length],rfl⟩) fuel ([],0) ⟨Nat.zero_le _,rfl⟩ (by have:=zcb;simp only;omega)
 obtain ⟨r,e,rfl⟩:=key;rw [e,zaq]
theorem tdelete_eq {l:List zaa} {f:zaa→Option Bool} {p:zaa→Bool} (hl:l.length≤100000000) (hf:∀ x∈l,f x=some (p x)) :
  zal l f=some (l.filter fun x=>!p x):=by
 unfold zal;rw [zsv (by omega) hf,zaq];by_cases h:l.any p=true
 ·rw [if_pos h,zkA (by omega),zkC];have hi:l.findIdx p<l.length:=List.findIdx_lt_length_of_exists (by simpa using List.any_eq_true.1 h);have hx:=get_at hi;have hpx:p l[l.findIdx p]=true:=List.findIdx_getElem
  have hbefore:∀ (k:Nat),k≤l.findIdx p→(l.take k).filter (fun x=>!p x)=l.take k:=fun k hk=>by
   refine List.filter_eq_self.2 fun x hx=>?_;obtain ⟨j,hj,rfl⟩:=List.mem_iff_getElem.1 hx;rw [List.length_take] at hj;rw [List.getElem_take];have:=List.not_of_lt_findIdx (p:=p) (xs:=l) (i:=j) (by omega);have h9:p l[j]=false:=by simpa using this
   rw [h9];rfl
  rw [zau (by unfold inR;omega)]
  have key:=zc2 (step:=fun (s:List zaa×Int×Int)=>zal.s2 f s.1 s.2.1 s.2.2)
   (fun s=>∃ i j:Nat,s.2.1=(i:Int)∧s.2.2=(j:Int)∧i<j∧j≤l.length∧s.1.length=l.length∧s.1.drop j=l.drop j∧s.1.take i=(l.take j).filter fun x=>!p x) (fun s=>(↑l.length-s.2.2).toNat)
   (fun r=>∃ i:Nat,r.2=(i:Int)∧i≤l.length∧0<l.length∧r.1.length=l.length∧r.1.take i=l.filter fun x=>!p x) (fun ⟨y,si,sj⟩ ⟨i,j,g1,g2,g3,g4,g5,g6,g7⟩=>by
    simp only at g1 g2 g5 g6 g7
    subst g1 g2
    simp only [zal.s2]
    by_cases g8:j<l.length
    ·left
     have hz:=get_at g8
     have hy:y[j]?=some l[j]:=by
      have h1:(y.drop j)[0]?=(l.drop j)[0]?:=by rw [g6]
      rw [List.getElem?_drop,List.getElem?_drop,Nat.add_zero,hz] at h1
      exact h1
     rw [zkB (by omega),zkD,zd0 rfl hy,hf _ (List.getElem_mem _),zaq]
     have hd:∀ u:List zaa,u.drop j=l.drop j→u.drop (j+1)=l.drop (j+1):=fun u hu=>by
      rw [← List.drop_drop,hu,List.drop_drop]
     cases hp:p l[j] with
     | false =>
      have hyi:=get_at (l:=y) (i:=i) (by omega)
      refine ⟨(y.set i l[j],((i+1:Nat):Int),((j+1:Nat):Int)),?_,⟨i+1,j+1,rfl,rfl,by omega,by omega,by simpa using g5,?_,?_⟩,by simp only;omega⟩
      ·rw [Bool.not_false,zkD,zd0 rfl hyi,zau (by unfold inR;omega),zau (by unfold inR;omega)]
       simp
      ·rw [List.drop_set_of_lt (by omega)]
       exact hd y g6
      ·rw [zcj hz,List.filter_append,← g7]
       have hset:(y.set i l[j])[i]?=some l[j]:=by rw [List.getElem?_set_self (by omega)]
       rw [zcj hset,List.take_set_of_le (by omega)]
       simp [hp]
     | true =>
      refine ⟨(y,(i:Int),((j+1:Nat):Int)),?_,⟨i,j+1,rfl,rfl,by omega,by omega,g5,hd y g6,?_⟩,by simp only;omega⟩
      ·rw [Bool.not_true,zkC,zau (by unfold inR;omega)]
       simp
      ·rw [zcj hz,List.filter_append,← g7]
       simp [hp]
    ·right
     have e:j=l.length:=by omega
     subst e
     refine ⟨(y,(i:Int)),by rw [zkA (by omega),zkC],i,rfl,by omega,by omega,g5,?_⟩
     rw [g7,List.take_length]) fuel (l,(↑(l.findIdx p):Int),(↑(l.findIdx p):Int)+1) ⟨l.findIdx p,l.findIdx p+1,rfl,by simp,by omega,hi,rfl,rfl,by
    rw [zcj hx,List.filter_append,hbefore _ (Nat.le_refl _)]
    simp [hpx]⟩ (by have:=zcb;simp only;omega)
  obtain ⟨⟨y,si⟩,e,i,g1,g2,g3,g4,g5⟩:=key;simp only at g1 g4 g5;subst g1;rw [e,zaq];simp only [zal.k3]
  have hlen:(List.take i y++List.replicate (y.length-i) (⟨[],[]⟩:zaa)).length=y.length:=by
   rw [zkJ,List.length_take,List.length_replicate];omega
  rw [Int.toNat_natCast,hlen,zau (by omega),zau (by omega),zau (by omega),List.take_append_of_le_length (by rw [List.length_take];omega),List.take_take,Nat.min_self,g5]
 ·have h':l.any p=false:=by simpa using h
  rw [if_neg h,zkB rfl,zkD];congr 1;refine (List.filter_eq_self.2 fun x hx=>?_).symm;have:=List.any_eq_false.1 h' x hx;simpa using this
theorem tsearch_eq {F:List zaa} {t:zaa} (hs:F.Pairwise fun a b=>cmpW a.In b.In=-1) (hl:F.length≤2000000) (hw:∀ x∈F,SmW x.In) :
  ∃ k:Nat,∃ b,zam F t (fun u0 u1=>zee u0 u1)=some ((↑k:Int),b)∧k≤F.length∧(∀ j x,j<k→F[j]?=some x→cmpW x.In t.In=-1)∧∀ x,F[k]?=some x→cmpW x.In t.In≠-1:=by
 have hc:∀ x∈F,zee x t=some (cmpW x.In t.In):=fun x hx=>by
  unfold zee;rw [zlp _ _ (by have:=hw x hx;unfold SmW at this;omega),zaq]
 have hlt:∀ {i j:Nat} {a b:zaa},i<j→F[i]?=some a→F[j]?=some b→cmpW a.In b.In=-1:=fun {i j a b} hij ha hb=>by
  obtain ⟨hi,rfl⟩:=zkI.1 ha;obtain ⟨hj,rfl⟩:=zkI.1 hb;exact List.pairwise_iff_getElem.1 hs i j hi hj hij
 have key:=zc2 (step:=fun (s:Int×Int)=>zam.s2 F t (fun u0 u1=>zee u0 u1) s.1 s.2)
  (fun s=>∃ i j:Nat,s.1=(i:Int)∧s.2=(j:Int)∧i≤j∧j≤F.length∧(∀ k x,k<i→F[k]?=some x→cmpW x.In t.In=-1)∧∀ k x,j≤k→F[k]?=some x→cmpW x.In t.In≠-1) (fun s=>(s.2-s.1).toNat)
  (fun r=>∃ k:Nat,r=(k:Int)∧k≤F.length∧(∀ j x,j<k→F[j]?=some x→cmpW x.In t.In=-1)∧∀ x,F[k]?=some x→cmpW x.In t.In≠-1) (fun s ⟨i,j,g1,g2,g3,g4,g5,g6⟩=>by
   obtain ⟨si,sj⟩:=s
   simp only at g1 g2
   subst g1 g2
   simp only [zam.s2]
   by_cases g7:i<j
   ·left
    have hmid:((↑i:Int)+↑j) / 2^1=((i+j) / 2:Nat):=by omega
    have hx:=get_at (l:=F) (i:=(i+j) / 2) (by omega)
    rw [zkB (by omega),zkD,zau (by unfold inR;omega),zau (by omega),zau (by omega),zau (by unfold inR;omega),zd0 hmid hx,hc _ (List.getElem_mem _),zaq]
    have r:=zik (F[(i+j) / 2]'(by omega)).In t.In
    by_cases g8:cmpW (F[(i+j) / 2]'(by omega)).In t.In<0
    ·refine ⟨(((i+j) / 2+1:Nat),(j:Int)),?_,⟨(i+j) / 2+1,j,rfl,rfl,by omega,g4,fun k x hk hx2=>?_,g6⟩,by simp only;omega⟩
     ·rw [zkB g8,zkD,zau (by unfold inR;omega),hmid]
      simp
     ·rcases Nat.lt_or_ge k ((i+j) / 2) with h | h
      ·exact zij _ _ _ (hlt h hx2 hx) (by omega)
      ·have e:k=(i+j) / 2:=by omega
       subst e
       rw [hx] at hx2
       injection hx2 with hx2
       subst hx2
       omega
    ·refine ⟨((i:Int),(((i+j) / 2:Nat):Int)),?_,⟨i,(i+j) / 2,rfl,rfl,by omega,by omega,g5,fun k x hk hx2=>?_⟩,by simp only;omega⟩
     ·rw [zkA g8,zkC,hmid]
     ·intro h9
      rcases Nat.lt_or_ge ((i+j) / 2) k with h | h
      ·have:=zij _ _ _ (hlt h hx hx2) h9
       omega
      ·have e:k=(i+j) / 2:=by omega
       subst e
       rw [hx] at hx2
       injection hx2 with hx2
       subst hx2
       omega
   ·right
    have e:i=j:=by omega
    subst e
    refine ⟨(i:Int),by rw [zkA (by omega),zkC],i,rfl,g4,g5,fun x hx2=>g6 i x (Nat.le_refl _) hx2⟩) fuel (0,(↑(List.length F):Int)) ⟨0,F.length,rfl,rfl,Nat.zero_le _,Nat.le_refl _,fun k x h=>by omega,fun k x h hx2=>by
    have:=(zkI.1 hx2).1
    omega⟩ (by have:=zcb;simp only;omega)
 obtain ⟨r,e,k,hk,h1,h2,h3⟩:=key;subst hk;unfold zam;rw [e,zaq];by_cases h4:k<F.length
 ·have hx:=get_at h4;rw [zkB (by omega),zkD,zd0 rfl hx,show (fun (u0:zaa) (u1:zaa)=>zee u0 u1) F[k] t=some (cmpW F[k].In t.In) from hc _ (List.getElem_mem _),zaq,zaq];exact ⟨k,_,rfl,h1,h2,h3⟩
 ·rw [zkA (by omega),zkC,zaq];exact ⟨k,_,rfl,h1,h2,h3⟩
theorem zti {o:zan} {t:zaa} (ho:SmTr o.Traces) (hv:zia o) (ht:SmX t) (hp:zke o.Inputs t) :
  zeb o.Traces t=some (if zkz o.Traces t then ([],13) else if 10000<(addL o.Traces t).length then ([],11) else (addL o.Traces t,0)):=by
 have hl:=ho.1;unfold zeb
 have key:=zc2 (step:=fun (s:Bool×Nat)=>zeb.s2 o.Traces t s.1 s.2) (fun s=>s.2≤o.Traces.length∧(∀ u∈o.Traces.take s.2,Agree u t)∧s.1=zea (o.Traces.take s.2) t.In) (fun s=>o.Traces.length-s.2)
  (fun r=>match r with | .inl b=>¬ zkz o.Traces t∧b=zea o.Traces t.In | .inr x=>zkz o.Traces t∧x=([],13)) (fun ⟨b,i⟩ ⟨g1,g2,g3⟩=>by
   simp only at g1 g2 g3
   simp only [zeb.s2]
   by_cases g4:i<o.Traces.length
   ·have hx:=get_at g4
    have hxm:=List.getElem_mem g4
    obtain ⟨d,hd,hd2⟩:=zot o.Traces[i] t (hv.prop _ hxm).1 hp (ho.2 _ hxm).1
    rw [zdj hx,zkD,za3 hx,hd,zaq]
    by_cases g5:0≤d
    ·right
     exact ⟨.inr ([],13),by rw [zkB g5,zkD],⟨_,hxm,hd2.1 g5⟩,rfl⟩
    ·left
     have hA:Agree o.Traces[i] t:=Classical.byContradiction fun e=>g5 (hd2.2 e)
     have hst:zea (o.Traces.take (i+1)) t.In=(b||decide (t.In <+: o.Traces[i].In)):=by
      rw [zcj hx,g3]
      unfold zea
      rw [List.any_append]
      simp
     refine ⟨(zea (o.Traces.take (i+1)) t.In,i+1),?_,⟨g4,fun u hu=>?_,rfl⟩,by simp only;omega⟩
     ·rw [zkA g5,zkC,hst]
      cases b with
      | true=>rfl
      | false =>
       rw [zkC,zf8 _ _ (ho.2 _ hxm).1,zaq]
       rfl
     ·rw [zcj hx] at hu
      rcases List.mem_append.1 hu with h | h
      ·exact g2 u h
      ·rw [List.mem_singleton.1 h]
       exact hA
   ·right
    have e:i=o.Traces.length:=by omega
    subst e
    rw [List.take_length] at g2 g3
    exact ⟨.inl b,by rw [zc8,zkC],fun ⟨u,hu,h⟩=>h (g2 u hu),g3⟩) fuel (false,0) ⟨Nat.zero_le _,fun u hu=>by simp at hu,rfl⟩ (by have:=zcb;simp only;omega)
 obtain ⟨r,e,hq⟩:=key;rw [e,zaq];cases r with
 | inr x =>
  rw [if_pos hq.1,hq.2];rfl
 | inl b =>
  obtain ⟨h1,rfl⟩:=hq;rw [if_neg h1];simp only [Sum.elim_inl]
  have hb:(cond (zea o.Traces t.In) (some true) (some (decide ((↑(List.length t.In):Int)=0))):Option Bool)=some (decide (zea o.Traces t.In=true∨t.In=[])):=by
   cases hi:zea o.Traces t.In with
   | true=>rfl
   | false =>
    rw [zkC];congr 1;refine decide_eq_decide.2 ⟨fun h=>.inr (List.eq_nil_of_length_eq_zero (by omega)),fun h=>?_⟩;rcases h with h | h
    ·cases h
    ·rw [h];rfl
  rw [hb,zaq];by_cases h2:zea o.Traces t.In=true∨t.In=[]
  ·have ha:addL o.Traces t=o.Traces:=if_pos h2;have hn:=hv.num;rw [zkB h2,zkD,ha,if_neg (by omega)]
  ·have ha:addL o.Traces t=insT (znu o.Traces t) t:=if_neg h2
   rw [zkA h2,zkC,tdelete_eq (p:=fun u=>decide (u.In <+: t.In)) (by omega) fun x hx=>by
    unfold zgz
    rw [zf8 _ _ ht.1,zaq],zaq]
   have hrl:=zp0 o.Traces t;have hn:=hv.num;have hil:=zsx (znu o.Traces t) t;rw [show (o.Traces.filter fun x=>!decide (x.In <+: t.In))=znu o.Traces t from rfl,ha];by_cases h3:(znu o.Traces t).length=10000
   ·rw [zkB (by omega),zkD,if_pos (by omega)]
   ·rw [zkA (by omega),zkC,if_neg (by omega)];have hsub:(znu o.Traces t).Sublist o.Traces:=List.filter_sublist
    have hne:∀ x∈znu o.Traces t,x.In≠t.In:=fun x hx e=>by
     have:=(List.mem_filter.1 hx).2;rw [e,zkB (List.prefix_refl _)] at this;exact Bool.false_ne_true this
    obtain ⟨k,b,e,k1,k2,k3⟩:=tsearch_eq (t:=t) (hv.pw.1.sublist hsub) (by omega) fun x hx=>(ho.2 x (hsub.subset hx)).1;rw [e,zaq,zj9 ht,zaq];simp only;unfold zhm;rw [zau ⟨by omega,by omega,rfl,by omega⟩,zaq,Int.toNat_natCast,← insT_at k1 k2 k3 hne]
theorem zt4 {o:zan} {t:zaa} (ho:SmTr o.Traces) (hv:zia o) (ht:SmX t):zil o t=some (addO o t):=by
 have hl:=ho.1;unfold zil zdu addO;rw [zqs ho,zaq,show fuel=2+(fuel-2) by unfold fuel;rfl]
 have h1:zdu.s2 o [t] o.Traces 0=if znl t o.Inputs≠0 then some (.inr (.inr (o,znl t o.Inputs))) else if zkz o.Traces t then some (.inr (.inr (o,13))) else if 10000<(addL o.Traces t).length then some (.inr (.inr (o,11))) else some (.inl (addL o.Traces t,1)):=by
  unfold zdu.s2;rw [zkB (by simp),zkD,za3 (x:=t) rfl,zpk _ _ ht.1 ht.2,zaq];by_cases g1:znl t o.Inputs=0
  ·rw [zkA (by simpa using g1),zkC,if_neg (by simpa using g1),zti ho hv ht (zmk.1 g1),zaq];split
   ·rfl
   ·split
    ·rfl
    ·rfl
  ·rw [zkB g1,zkD,if_pos g1]
 have h2:∀ l,zdu.s2 o [t] l 1=some (.inr (.inl l)):=fun l=>by
  unfold zdu.s2;rw [zkA (by simp),zkC]
 rw [Nat.add_comm 2 (fuel-2)];unfold iter;rw [h1];by_cases g1:znl t o.Inputs≠0
 ·simp [g1]
 ·simp only [g1,if_false];by_cases g2:zkz o.Traces t
  ·simp [g2]
  ·simp only [g2,if_false];by_cases g3:10000<(addL o.Traces t).length
   ·simp [g3]
   ·simp only [g3,if_false];unfold iter;rw [h2];simp
theorem zkm {t:zaa} (h:SmX t):zhf t=some t:=by
 have h1:=h.1;have h2:=h.2;unfold SmW at h1 h2;unfold zhf;rw [zkh _ (by simp) (by simp;omega),zaq,zkh _ (by simp) (by simp;omega),zaq];simp
def zog (t x:zaa):Bool:=decide (¬ x.In <+: t.In∨t.In.length=x.In.length)
def zoc (t:zaa):Bool→List zaa→List zaa
 | done,[]=>if done=true then [] else [t]
 | done,x::r=>(if done=false∧cmpW t.In x.In=-1 then [t] else [])++((if zog t x=true then [x] else [])++zoc t (done||decide (cmpW t.In x.In=-1)) r)
theorem zpe {t:zaa}:∀ (l:List zaa),zoc t true l=l.filter (zog t)
 | []=>rfl
 | x::r=>by
  unfold zoc;rw [if_neg (by simp),List.filter_cons,Bool.true_or,zpe r];split<;>rfl
theorem zr2 {t:zaa}:∀ (l:List zaa),(∀ x∈l,x.In≠t.In)→zoc t false l=insT (znu l t) t
 | [],_=>rfl
 | x::r,hn=>by
  have hne:=hn x (by simp)
  have hk:zog t x=!decide (x.In <+: t.In):=by
   unfold zog;by_cases h:x.In <+: t.In
   ·rw [zkB h,Bool.not_true];refine zkA fun e=>?_;rcases e with e | e
    ·exact e h
    ·exact hne (h.eq_of_length (by omega))
   ·rw [zkA h,zkB (.inl h)];rfl
  have hrr:∀ l:List zaa,(∀ x∈l,x.In≠t.In)→l.filter (zog t)=znu l t:=fun l hl=>by
   unfold znu;refine List.filter_congr fun y hy=>?_;unfold zog;by_cases h:y.In <+: t.In
   ·rw [zkB h,Bool.not_true];refine zkA fun e=>?_;rcases e with e | e
    ·exact e h
    ·exact hl y hy (h.eq_of_length (by omega))
   ·rw [zkA h,zkB (.inl h)];rfl
  have hr:∀ y∈r,y.In≠t.In:=fun y hy=>hn y (by simp [hy]);unfold zoc znu;rw [List.filter_cons,hk];by_cases h:x.In <+: t.In
  ·have h1:¬ cmpW t.In x.In=-1:=fun e=>by
    have:=h.length_le;unfold cmpW at e;split at e
    ·omega
    ·split at e
     ·cases e
     ·have h2:=h.eq_of_length (by omega);exact hne h2
   rw [if_neg fun e=>h1 e.2,zkB h,zkA h1,Bool.not_true,if_neg Bool.false_ne_true,if_neg Bool.false_ne_true,Bool.or_false];exact zr2 r hr
  ·rw [zkA h,Bool.not_false,if_pos rfl,if_pos rfl];unfold insT;by_cases h1:cmpW t.In x.In=-1
   ·rw [if_pos ⟨rfl,h1⟩,if_pos h1,zkB h1,Bool.or_true,zpe,hrr r hr];rfl
   ·rw [if_neg fun e=>h1 e.2,if_neg h1,zkA h1,Bool.or_false,zr2 r hr];rfl
theorem keep_all {o:zan} {t:zaa} (hv:zia o) (h:zea o.Traces t.In=true∨t.In=[]):o.Traces.filter (zog t)=o.Traces:=by
 refine List.filter_eq_self.2 fun x hx=>zkB ?_;refine Classical.byContradiction fun hn=>?_;have h1:x.In <+: t.In:=Classical.byContradiction fun e=>hn (.inl e);have h2:¬ t.In.length=x.In.length:=fun e=>hn (.inr e);have hl:=h1.length_le;rcases h with h | h
 ·obtain ⟨u,hu,hp⟩:=List.any_eq_true.1 h;have hp:t.In <+: u.In:=of_decide_eq_true hp;have hl2:=hp.length_le;obtain ⟨i,hi,rfl⟩:=List.mem_iff_getElem.1 hx;obtain ⟨j,hj,rfl⟩:=List.mem_iff_getElem.1 hu;rcases Nat.lt_trichotomy i j with e | e | e
  ·exact (hv.apart i j _ _ e (get_at hi) (get_at hj)).1 (h1.trans hp)
  ·subst e;omega
  ·have:=hv.asc j i _ _ e (get_at hj) (get_at hi);unfold cmpW at this;split at this
   ·omega
   ·split at this
    ·cases this
    ·omega
 ·rw [h] at h2 hl;simp at h2 hl;exact h2 (by rw [hl];rfl)
theorem R16_add_eq {o:zan} {t:zaa} (ho:SmTr o.Traces) (hv:zia o) (ht:SmX t):zdi o t=some ⟨o.Inputs,addL o.Traces t⟩:=by
 have hl:=ho.1;unfold zdi
 have key:=zc2 (step:=fun (s:Bool×Nat)=>zdi.s2 o t s.1 s.2) (fun s=>s.2≤o.Traces.length∧s.1=(decide (t.In=[])||zea (o.Traces.take s.2) t.In)) (fun s=>o.Traces.length-s.2) (fun r=>r=(decide (t.In=[])||zea o.Traces t.In)) (fun ⟨b,i⟩ ⟨g1,g2⟩=>by
  simp only at g1 g2
  simp only [zdi.s2]
  by_cases g4:i<o.Traces.length
  ·left
   have hx:=get_at g4
   have hxm:=List.getElem_mem g4
   have hst:zea (o.Traces.take (i+1)) t.In=(zea (o.Traces.take i) t.In||decide (t.In <+: o.Traces[i].In)):=by
    rw [zcj hx]
    unfold zea
    rw [List.any_append]
    simp
   refine ⟨(decide (t.In=[])||zea (o.Traces.take (i+1)) t.In,i+1),?_,⟨g4,rfl⟩,by simp only;omega⟩
   rw [zdj hx,zkD,hst,← Bool.or_assoc,← g2]
   cases b with
   | true=>rfl
   | false =>
    rw [zkC,za3 hx,zfm _ _ (ho.2 _ hxm).1,zaq]
    rfl
  ·right
   have e:i=o.Traces.length:=by omega
   subst e
   rw [List.take_length] at g2
   exact ⟨b,by rw [zc8,zkC],g2⟩) fuel (decide ((↑(List.length t.In):Int)=0),0) ⟨Nat.zero_le _,by
    simp only [List.take_zero,zea,List.any_nil,Bool.or_false]
    exact decide_eq_decide.2 ⟨fun h=>List.eq_nil_of_length_eq_zero (by omega),fun h=>by rw [h];rfl⟩⟩ (by have:=zcb;simp only;omega)
 obtain ⟨d0,e,rfl⟩:=key;rw [e,zaq];generalize hd:(decide (t.In=[])||zea o.Traces t.In)=d0
 have key2:=zc2 (step:=fun (s:List zaa×Bool×Nat)=>zdi.s10 o t s.1 s.2.1 s.2.2) (fun s=>s.2.2≤o.Traces.length∧s.1.length≤2*s.2.2∧s.1++zoc t s.2.1 (o.Traces.drop s.2.2)=zoc t d0 o.Traces) (fun s=>o.Traces.length-s.2.2) (fun r=>r.1.length≤2400000∧r.1++zoc t r.2 []=zoc t d0 o.Traces) (fun ⟨y,b,i⟩ ⟨g1,g2,g3⟩=>by
  simp only at g1 g2 g3
  simp only [zdi.s10]
  by_cases g4:i<o.Traces.length
  ·left
   have hx:=get_at g4
   have hxm:=List.getElem_mem g4
   rw [List.drop_eq_getElem_cons g4] at g3
   rw [zdj hx,zkD,za3 hx]
   have hkeep:((zdm t.In o.Traces[i].In).bind fun c367=>cond (!c367) (some true) (some (decide ((↑(List.length t.In):Int)=(↑(List.length o.Traces[i].In):Int)))):Option Bool)=some (zog t o.Traces[i]):=by
    unfold zog
    rw [zfm _ _ ht.1,zaq]
    by_cases h:o.Traces[i].In <+: t.In
    ·rw [zkB h,Bool.not_true,zkC]
     congr 1
     exact decide_eq_decide.2 ⟨fun e=>.inr (by omega),fun e=>by rcases e with e | e;exact absurd h e;omega⟩
    ·rw [zkA h,Bool.not_false,zkD,zkB (.inl h)]
   have hk9:∀ (z:List zaa) (c:Bool),z.length≤2*i+1→zdi.k9 t i o.Traces[i] z c=some (.inl (z++(if zog t o.Traces[i]=true then [o.Traces[i]] else []),c,i+1)):=fun z c hz=>by
    unfold zdi.k9
    rw [hkeep,zaq]
    cases zog t o.Traces[i] with
    | true=>rw [zkD,zkm (ho.2 _ hxm),zaq,zau (capT (by omega)),if_pos rfl]
    | false=>rw [zkC,if_neg Bool.false_ne_true,List.append_nil]
   have hcmp:((cond (!b) ((zgr t.In o.Traces[i].In).bind fun c352=>some (decide (c352<0))) (some false)):Option Bool)=some (decide (b=false∧cmpW t.In o.Traces[i].In=-1)):=by
    cases b with
    | true=>rfl
    | false =>
     have r1:=zik t.In o.Traces[i].In
     rw [Bool.not_false,zkD,zm3 _ _ ht.1,zaq]
     congr 1
     exact decide_eq_decide.2 ⟨fun e=>⟨rfl,by omega⟩,fun e=>by have:=e.2;omega⟩
   rw [hcmp,zaq]
   have hps:zoc t b (o.Traces[i]::o.Traces.drop (i+1))=(if b=false∧cmpW t.In o.Traces[i].In=-1 then [t] else [])++((if zog t o.Traces[i]=true then [o.Traces[i]] else [])++zoc t (b||decide (cmpW t.In o.Traces[i].In=-1)) (o.Traces.drop (i+1))):=rfl
   rw [hps] at g3
   by_cases hc:b=false∧cmpW t.In o.Traces[i].In=-1
   ·rw [if_pos hc,hc.1,Bool.false_or,zkB hc.2] at g3
    refine ⟨(y++[t]++(if zog t o.Traces[i]=true then [o.Traces[i]] else []),true,i+1),?_,⟨g4,?_,?_⟩,by simp only;omega⟩
    ·rw [zkB hc,zkD,zkm ht,zaq,zau (capT (by omega)),zaq]
     exact hk9 _ _ (by rw [zkJ,List.length_singleton];omega)
    ·simp only [zkJ,List.length_singleton]
     split<;>simp<;>omega
    ·simp only
     rw [← g3]
     simp only [List.append_assoc]
   ·rw [if_neg hc,List.nil_append] at g3
    have hb:(b||decide (cmpW t.In o.Traces[i].In=-1))=b:=by
     cases b with
     | true=>rfl
     | false =>
      rw [Bool.false_or]
      exact zkA fun e=>hc ⟨rfl,e⟩
    rw [hb] at g3
    refine ⟨(y++(if zog t o.Traces[i]=true then [o.Traces[i]] else []),b,i+1),?_,⟨g4,?_,?_⟩,by simp only;omega⟩
    ·rw [zkA hc,zkC,zaq]
     exact hk9 y b (by omega)
    ·simp only [zkJ]
     split<;>simp<;>omega
    ·simp only
     rw [← g3]
     simp only [List.append_assoc]
  ·right
   have e:i=o.Traces.length:=by omega
   subst e
   rw [List.drop_length] at g3
   exact ⟨(y,b),by rw [zc8,zkC],by simp only;omega,g3⟩) fuel ([],d0,0) ⟨Nat.zero_le _,by simp,by simp⟩ (by have:=zcb;simp only;omega)
 obtain ⟨⟨y,b⟩,e2,k1,k2⟩:=key2;simp only at k1 k2;rw [e2,zaq]
 have hfin:zoc t d0 o.Traces=addL o.Traces t:=by
  unfold addL;by_cases h:zea o.Traces t.In=true∨t.In=[]
  ·have h0:d0=true:=by
    rw [← hd];rcases h with h | h
    ·rw [h,Bool.or_true]
    ·rw [zkB h,Bool.true_or]
   rw [h0,zpe,if_pos h,keep_all hv h]
  ·have h1:zea o.Traces t.In=false:=by
    cases hi:zea o.Traces t.In with
    | true=>exact absurd (.inl hi) h
    | false=>rfl
   have h0:d0=false:=by
    rw [← hd,h1,zkA fun e=>h (.inr e)];rfl
   rw [h0,zr2 _ fun x hx e=>h (.inl (List.any_eq_true.2 ⟨x,hx,zkB (e ▸ List.prefix_refl _)⟩)),if_neg h]
 rw [hfin] at k2;simp only [zdi.k11];cases b with
 | true =>
  rw [Bool.not_true,zkC,zaq,← k2];simp [zoc]
 | false =>
  rw [Bool.not_false,zkD,zkm ht,zaq,zau (capT (by omega)),zaq,← k2];simp [zoc]
theorem R16_Add_eq {o:zan} {t:zaa} (ho:SmTr o.Traces) (hv:zia o) (ht:SmX t):zh6 o t=some (addO o t):=by
 have hl:=ho.1;unfold zh6 addO;rw [R16_Proper_eq _ _ ht.1 ht.2,zaq];by_cases g1:znl t o.Inputs=0
 ·rw [zkA (by simpa using g1),zkC,if_neg (by simpa using g1)];have hp:=zmk.1 g1
  have key:=zc2 (step:=fun i=>zh6.s2 o t i) (fun i=>i≤o.Traces.length∧∀ u∈o.Traces.take i,Agree u t) (fun i=>o.Traces.length-i) (fun r=>match r with | .inl ()=>¬ zkz o.Traces t | .inr x=>zkz o.Traces t∧x=(o,13)) (fun i ⟨g2,g3⟩=>by
   simp only [zh6.s2]
   by_cases g4:i<o.Traces.length
   ·have hx:=get_at g4
    have hxm:=List.getElem_mem g4
    obtain ⟨d,hd,hd2⟩:=zth o.Traces[i] t (hv.prop _ hxm).1 hp (ho.2 _ hxm).1
    rw [zdj hx,zkD,za3 hx,hd,zaq]
    by_cases g5:0≤d
    ·exact .inr ⟨.inr (o,13),by rw [zkB g5,zkD],⟨_,hxm,hd2.1 g5⟩,rfl⟩
    ·left
     have hA:Agree o.Traces[i] t:=Classical.byContradiction fun e=>g5 (hd2.2 e)
     refine ⟨i+1,by rw [zkA g5,zkC],⟨g4,fun u hu=>?_⟩,by omega⟩
     rw [zcj hx] at hu
     rcases List.mem_append.1 hu with h | h
     ·exact g3 u h
     ·rw [List.mem_singleton.1 h]
      exact hA
   ·right
    have e:i=o.Traces.length:=by omega
    subst e
    rw [List.take_length] at g3
    exact ⟨.inl (),by rw [zc8,zkC],fun ⟨u,hu,h⟩=>h (g3 u hu)⟩) fuel 0 ⟨Nat.zero_le _,fun u hu=>by simp at hu⟩ (by have:=zcb;omega)
  obtain ⟨r,e,hq⟩:=key;rw [e,zaq];cases r with
  | inr x =>
   rw [if_pos hq.1,hq.2];rfl
  | inl u =>
   rw [if_neg hq];simp only [Sum.elim_inl];rw [R16_add_eq ho hv ht,zaq];simp only;by_cases g2:10000<(addL o.Traces t).length
   ·rw [zkB (by omega),zkD,if_pos g2]
   ·rw [zkA (by omega),zkC,if_neg g2]
 ·rw [zkB g1,zkD,if_pos g1]
theorem ztt {o:zan} {w:List Int} (ho:SmTr o.Traces) (hv:zia o):zd7 o w=some (tw (ansO o w)):=by
 refine R16_Answer_eq ⟨by have:=hv.num;omega,fun t ht=>?_⟩ hv;have hP:=(hv.prop t ht).1;have h1:=hP.1;unfold zbs at h1;have:=(ho.2 t ht).2;unfold SmW at this;refine ⟨?_,this⟩;split at h1
 ·split at h1
  ·cases h1
  ·omega
 ·cases h1
theorem zod {o:zan} {w:List Int} (ho:SmTr o.Traces) (hv:zia o):zgh o w=some (tw (ansO o w)):=by
 have hl:=ho.1;unfold zgh ansO;by_cases h0:w=[]
 ·subst h0;rfl
 ·have hwl:w.length≠0:=fun h=>h0 (List.eq_nil_of_length_eq_zero h)
  rw [if_neg h0,zkA (by omega),zkC,zsv (p:=fun u=>decide (w <+: u.In)) (by omega) fun x hx=>by
   unfold zfn
   rw [zf8 _ _ (ho.2 x hx).1,zaq],zaq,find_idx]
  by_cases h:(o.Traces.any fun u=>decide (w <+: u.In))=true
  ·rw [if_pos h,if_pos h,zkA (by omega),zkC];have hi:o.Traces.findIdx (fun u=>decide (w <+: u.In))<o.Traces.length:=List.findIdx_lt_length_of_exists (by simpa using List.any_eq_true.1 h);have hx:=get_at hi;have hpx:decide (w <+: (o.Traces[o.Traces.findIdx fun u=>decide (w <+: u.In)]).In)=true:=List.findIdx_getElem (p:=fun (u:zaa)=>decide (w <+: u.In));have hpx:=of_decide_eq_true hpx;have hm:=List.getElem_mem hi;have hP:=(hv.prop _ hm).1;have hS:=ho.2 _ hm;have hle:=hpx.length_le;have hlo:=hP.2.1;have hso:=hS.2;unfold SmW at hso;rw [zd0 rfl hx,hx];generalize o.Traces[o.Traces.findIdx fun u=>decide (w <+: u.In)]=u at hpx hP hS hle hlo hso;rw [show min (↑w.length:Int) ↑u.Out.length=↑w.length by omega,zau (by omega),Int.toNat_natCast,zcx (by unfold SmW;rw [List.length_take];omega),zaq];rfl
  ·rw [if_neg h,if_neg h,zkB (by decide),zkD];rfl
end
section
set_option maxRecDepth 100000
theorem ansO_len {o:zan} (hv:zia o) {w r:List Int} (h:ansO o w=some r):r.length=w.length:=by
 unfold ansO at h;split at h
 ·rename_i h0;injection h with h
  rw [← h,h0]
 ·obtain ⟨t,ht,rfl⟩:=Option.map_eq_some_iff.1 h;have hm:=List.mem_of_find?_eq_some ht;have hp:w <+: t.In:=by simpa using List.find?_some ht
  have:=(hv.prop t hm).1.2.1;have:=pre_len hp;rw [List.length_take];omega
end
section
set_option maxRecDepth 100000
structure zj5 (m:zab):Prop where
 i1:1≤m.Inputs
 i2:m.Inputs≤64
 n1:0<m.Next.length
 n2:m.Next.length≤128
 st:0≤m.Start∧m.Start<(↑m.Next.length:Int)
 ol:m.Out.length=m.Next.length
 row:∀ s,s<m.Next.length→∃ x y,m.Next[s]?=some x∧m.Out[s]?=some y∧(↑x.length:Int)=m.Inputs∧(↑y.length:Int)=m.Inputs∧(∀ u∈x,0≤u∧u<(↑m.Next.length:Int))∧∀ v∈y,0≤v∧v≤1048576
def nx (m:zab) (s a:Nat):Nat:=((((m.Next[s]?).getD [])[a]?).getD 0).toNat
def ot (m:zab) (s a:Nat):Int:=(((m.Out[s]?).getD [])[a]?).getD 0
section
variable {m:zab}
theorem zj5.at (H:zj5 m) {s a:Nat} (hs:s<m.Next.length) (ha:a<m.Inputs.toNat):nx m s a<m.Next.length∧0≤ot m s a∧ot m s a≤1048576∧∃ x y,m.Next[s]?=some x∧m.Out[s]?=some y∧x[a]?=some (↑(nx m s a):Int)∧y[a]?=some (ot m s a):=by
 obtain ⟨x,y,h1,h2,h3,h4,h5,h6⟩:=H.row s hs;have hx:=get_at (l:=x) (i:=a) (by omega);have hy:=get_at (l:=y) (i:=a) (by omega)
 have e1:nx m s a=(x[a]'(by omega)).toNat:=by
  unfold nx;rw [h1,Option.getD_some,hx,Option.getD_some]
 have e2:ot m s a=y[a]'(by omega):=by
  unfold ot;rw [h2,Option.getD_some,hy,Option.getD_some]
 have g1:=h5 _ (List.getElem_mem (by omega:a<x.length));have g2:=h6 _ (List.getElem_mem (by omega:a<y.length));refine ⟨by rw [e1];omega,by rw [e2];exact g2.1,by rw [e2];exact g2.2,x,y,h1,h2,?_,by rw [e2];exact hy⟩;rw [hx,e1];congr 1;omega
def outs (m:zab):Nat→List Int→List Int
 | _,[]=>[]
 | s,a::w=>ot m s a.toNat::outs m (nx m s a.toNat) w
def dest (m:zab):Nat→List Int→Nat
 | s,[]=>s
 | s,a::w=>dest m (nx m s a.toNat) w
def WOk (n:Int) (w:List Int):Prop:=∀ a∈w,0≤a∧a<n
theorem zgn:∀ (w v:List Int) (s:Nat),outs m s (w++v)=outs m s w++outs m (dest m s w) v
 | [],_,_=>rfl
 | a::w,v,s=>by
  show ot m s a.toNat::outs m (nx m s a.toNat) (w++v)=_;rw [zgn w v];rfl
theorem ziq:∀ (w v:List Int) (s:Nat),dest m s (w++v)=dest m (dest m s w) v
 | [],_,_=>rfl
 | _::w,v,_=>ziq w v _
theorem zhr:∀ (w:List Int) (s:Nat),(outs m s w).length=w.length
 | [],_=>rfl
 | a::w,s=>by
  show (outs m (nx m s a.toNat) w).length+1=w.length+1;rw [zhr w]
theorem WOk.tail {n:Int} {a:Int} {w:List Int} (h:WOk n (a::w)):WOk n w:=fun x hx=>h x (List.mem_cons_of_mem _ hx)
theorem WOk.head {n:Int} {a:Int} {w:List Int} (h:WOk n (a::w)):0≤a∧a<n:=h a (by simp)
theorem WOk.take {n:Int} {w:List Int} (h:WOk n w) (k:Nat):WOk n (w.take k):=fun x hx=>h x (List.mem_of_mem_take hx)
theorem WOk.append {n:Int} {w v:List Int} (h:WOk n w) (g:WOk n v):WOk n (w++v):=fun x hx=>(List.mem_append.1 hx).elim (h x) (g x)
theorem zj5.dest (H:zj5 m):∀ {w:List Int} {s:Nat},WOk m.Inputs w→s<m.Next.length→dest m s w<m.Next.length
 | [],_,_,hs=>hs
 | a::w,s,hw,hs=>by
  have:=hw.head;exact H.dest (w:=w) hw.tail (H.at hs (a:=a.toNat) (by omega)).1
theorem R06_Outs_eq (H:zj5 m) {s:Nat} (hs:s<m.Next.length) {w:List Int} (hw:WOk m.Inputs w) (hl:w.length≤100000000):zev m (↑s:Int) w=some (outs m s w,(↑(dest m s w):Int)):=by
 unfold zev
 have key:=zpa (step:=fun (q:Int×List Int×Nat)=>zev.s2 m w q.1 q.2.1 q.2.2) (r:=((↑(dest m s w):Int),outs m s w)) (fun q=>q.2.2≤w.length∧q.1=(↑(dest m s (w.take q.2.2)):Int)∧q.2.1=outs m s (w.take q.2.2)) (fun q=>w.length-q.2.2) (fun q ⟨g1,g2,g3⟩=>by
  obtain ⟨st,y,k⟩:=q
  simp only at g1 g2 g3
  subst g2
  subst g3
  simp only [zev.s2]
  by_cases g4:k<w.length
  ·left
   have hx:=get_at g4
   obtain ⟨x0,x1⟩:=hw _ (List.getElem_mem g4)
   have ha:w[k].toNat<m.Inputs.toNat:=by omega
   have hd:Sym.dest m s (w.take k)<m.Next.length:=H.dest (hw.take k) hs
   obtain ⟨_,_,_,x,y,e1,e2,e3,e4⟩:=H.at hd ha
   refine ⟨((↑(Sym.dest m s (w.take (k+1))):Int),outs m s (w.take (k+1)),k+1),?_,⟨g4,rfl,rfl⟩,by simp only;omega⟩
   rw [zdj hx,zkD,zd0 rfl e2,za3 hx,zd0 (i:=w[k].toNat) (by omega) e4,zau (by unfold zbt;rw [zhr,List.length_take];omega),zd0 rfl e1,za3 hx,zd0 (i:=w[k].toNat) (by omega) e3,zcj hx,ziq,zgn]
   rfl
  ·right
   have e:k=w.length:=by omega
   subst e
   rw [zkA (by omega),zkC,List.take_length]) (n:=fuel) (s:=((↑s:Int),[],0)) ⟨Nat.zero_le _,rfl,rfl⟩ (by have:=zcb;simp only;omega)
 rw [key,zaq];rfl
def RowRng (n:Nat) (u v:Int):Prop:=(0≤u∧u<(↑n:Int))∧0≤v∧v≤1048576
theorem R06_row_tot (h1:m.Inputs≤64) {s:Nat} (hs:s<m.Next.length) (ho:m.Out.length=m.Next.length):∃ e,zgc m (↑s:Int)=some e∧(e=0→∃ x y,m.Next[s]?=some x∧m.Out[s]?=some y∧(↑x.length:Int)=m.Inputs∧(↑y.length:Int)=m.Inputs∧(∀ u∈x,0≤u∧u<(↑m.Next.length:Int))∧∀ v∈y,0≤v∧v≤1048576):=by
 obtain ⟨x,hx⟩:∃ x,m.Next[s]?=some x:=⟨_,get_at hs⟩;obtain ⟨y,hy⟩:∃ y,m.Out[s]?=some y:=⟨_,get_at (l:=m.Out) (i:=s) (by omega)⟩;unfold zgc;rw [zd0 rfl hx];by_cases g1:(↑x.length:Int)=m.Inputs
 ·by_cases g2:(↑y.length:Int)=m.Inputs
  ·rw [zkA (fun h=>h g1),zkC,zd0 rfl hy,zkA (fun h=>h g2),zaq,zkC]
   obtain ⟨r,hr,hq⟩:=zc2 (step:=fun a=>zgc.s2 m (↑s:Int) a) (fun a=>a≤x.length∧∀ b u v,b<a→x[b]?=some u→y[b]?=some v→RowRng m.Next.length u v) (fun a=>x.length-a) (fun r=>r=.inr 2∨(r=.inl ()∧∀ b u v,b<x.length→x[b]?=some u→y[b]?=some v→RowRng m.Next.length u v)) (fun a ⟨q1,q2⟩=>by
    simp only [zgc.s2]
    by_cases q3:a<x.length
    ·obtain ⟨u,ha⟩:∃ u,x[a]?=some u:=⟨_,get_at q3⟩
     obtain ⟨v,hb⟩:∃ v,y[a]?=some v:=⟨_,get_at (l:=y) (i:=a) (by omega)⟩
     rw [zkB (by omega),zkD,zd0 rfl hx,za3 ha]
     by_cases z1:u<0
     ·right
      exact ⟨.inr 2,by rw [zkB z1];rfl,Or.inl rfl⟩
     rw [zkA z1,zkC,zd0 rfl hx,za3 ha]
     by_cases z2:(↑m.Next.length:Int)≤u
     ·right
      exact ⟨.inr 2,by rw [zkB z2];rfl,Or.inl rfl⟩
     rw [zkA z2,zkC,zd0 rfl hy,za3 hb]
     by_cases z3:v<0
     ·right
      exact ⟨.inr 2,by rw [zkB z3];rfl,Or.inl rfl⟩
     rw [zkA z3,zkC,zd0 rfl hy,za3 hb]
     by_cases z4:1048576<v
     ·right
      exact ⟨.inr 2,by rw [zkB z4];rfl,Or.inl rfl⟩
     left
     refine ⟨a+1,by rw [zkA z4,zaq,zkC,zau (by unfold inR;omega)],⟨q3,fun b u' v' hb' hu hv=>?_⟩,by omega⟩
     rcases Nat.lt_or_ge b a with h | h
     ·exact q2 b u' v' h hu hv
     ·have e:b=a:=by omega
      subst e
      rw [ha] at hu
      rw [hb] at hv
      injection hu with hu
      injection hv with hv
      subst hu
      subst hv
      exact ⟨⟨by omega,by omega⟩,by omega,by omega⟩
    ·right
     have e:a=x.length:=by omega
     subst e
     exact ⟨.inl (),by rw [zkA (by omega),zkC],Or.inr ⟨rfl,q2⟩⟩) fuel 0 ⟨Nat.zero_le _,fun b _ _ h=>absurd h (Nat.not_lt_zero _)⟩ (by have:=zcb;omega)
   rw [hr,zaq];rcases hq with rfl | ⟨rfl,hq⟩
   ·exact ⟨2,rfl,fun h=>by cases h⟩
   ·refine ⟨0,rfl,fun _=>⟨x,y,hx,hy,g1,g2,fun u hu=>?_,fun v hv=>?_⟩⟩
    ·obtain ⟨b,hb,rfl⟩:=List.mem_iff_getElem.1 hu;exact (hq b _ _ hb (get_at hb) (get_at (l:=y) (by omega))).1
    ·obtain ⟨b,hb,rfl⟩:=List.mem_iff_getElem.1 hv;exact (hq b _ _ (by omega) (get_at (l:=x) (by omega)) (get_at hb)).2
  ·exact ⟨1,by rw [zkA (fun h=>h g1),zkC,zd0 rfl hy,zkB g2];rfl,fun h=>by cases h⟩
 ·exact ⟨1,by rw [zkB g1];rfl,fun h=>by cases h⟩
theorem zof (m:zab):∃ e,zde m=some e∧(e=0→zj5 m):=by
 unfold zde;by_cases c1:m.Inputs<1
 ·exact ⟨2,by rw [zkB c1];rfl,fun h=>by cases h⟩
 rw [zkA c1,zkC];by_cases c2:64<m.Inputs
 ·exact ⟨2,by rw [zkB c2];rfl,fun h=>by cases h⟩
 rw [zkA c2,zaq,zkC];by_cases c3:(↑m.Next.length:Int)=0
 ·exact ⟨19,by rw [zkB c3];rfl,fun h=>by cases h⟩
 rw [zkA c3,zkC];by_cases c4:128<(↑m.Next.length:Int)
 ·exact ⟨11,by rw [zkB c4];rfl,fun h=>by cases h⟩
 rw [zkA c4,zkC];by_cases c5:m.Start<0
 ·exact ⟨2,by rw [zkB c5];rfl,fun h=>by cases h⟩
 rw [zkA c5,zkC];by_cases c6:(↑m.Next.length:Int)≤m.Start
 ·exact ⟨2,by rw [zkB c6];rfl,fun h=>by cases h⟩
 rw [zkA c6,zaq,zkC];by_cases c7:(↑m.Out.length:Int)=(↑m.Next.length:Int)
 ·rw [zkA (fun h=>h c7),zkC];have ho:m.Out.length=m.Next.length:=by omega
  obtain ⟨r,hr,hq⟩:=zc2 (step:=fun s=>zde.s2 m s) (fun a=>a≤m.Next.length∧∀ s,s<a→∃ x y,m.Next[s]?=some x∧m.Out[s]?=some y∧(↑x.length:Int)=m.Inputs∧(↑y.length:Int)=m.Inputs∧(∀ u∈x,0≤u∧u<(↑m.Next.length:Int))∧∀ v∈y,0≤v∧v≤1048576) (fun a=>m.Next.length-a) (fun r=>(∃ e,r=.inr e∧e≠0)∨(r=.inl ()∧∀ s,s<m.Next.length→∃ x y,m.Next[s]?=some x∧m.Out[s]?=some y∧(↑x.length:Int)=m.Inputs∧(↑y.length:Int)=m.Inputs∧(∀ u∈x,0≤u∧u<(↑m.Next.length:Int))∧∀ v∈y,0≤v∧v≤1048576)) (fun a ⟨q1,q2⟩=>by
   simp only [zde.s2]
   by_cases q3:a<m.Next.length
   ·obtain ⟨e,he,hz⟩:=R06_row_tot (m:=m) (by omega) q3 ho
    rw [zkB (by omega),zkD,he,zaq]
    by_cases z:e=0
    ·left
     refine ⟨a+1,by rw [zkA (fun h=>h z),zkC],⟨q3,fun s hs=>?_⟩,by omega⟩
     rcases Nat.lt_or_ge s a with h | h
     ·exact q2 s h
     ·have e2:s=a:=by omega
      subst e2
      exact hz z
    ·right
     exact ⟨.inr e,by rw [zkB z,zkD],Or.inl ⟨e,rfl,z⟩⟩
   ·right
    have e:a=m.Next.length:=by omega
    subst e
    exact ⟨.inl (),by rw [zkA (by omega),zkC],Or.inr ⟨rfl,q2⟩⟩) fuel 0 ⟨Nat.zero_le _,fun s h=>absurd h (Nat.not_lt_zero _)⟩ (by have:=zcb;omega)
  rw [hr,zaq];rcases hq with ⟨e,rfl,hz⟩ | ⟨rfl,hq⟩
  ·exact ⟨e,rfl,fun h=>absurd h hz⟩
  ·exact ⟨0,rfl,fun _=>⟨by omega,by omega,by omega,by omega,⟨by omega,by omega⟩,ho,hq⟩⟩
 ·exact ⟨1,by rw [zkB c7];rfl,fun h=>by cases h⟩
theorem macOk_of (h:zde m=some 0):zj5 m:=by
 obtain ⟨e,he,hz⟩:=zof m;rw [h] at he;injection he with he
 exact hz he.symm
end
end
section
set_option maxRecDepth 100000
theorem zts {m:zab} (H:zj5 m):za9 m=some 0:=by
 have i1:=H.i1;have i2:=H.i2;have n1:=H.n1;have n2:=H.n2;have st:=H.st;have ol:=H.ol;unfold za9;rw [zkA (by omega),zkC,zkA (by omega),zaq,zkC,zkA (by omega),zkC,zkA (by omega),zkC,zkA (by omega),zkC,zkA (by omega),zaq,zkC,zkA (by omega),zkC]
 have inner:∀ s,s<m.Next.length→iter (fun (a:Nat)=>za9.s13 m s a) fuel 0=some (.inl ()):=fun s hs =>
  zpa (fun a=>a≤m.Inputs.toNat) (fun a=>m.Inputs.toNat-a) (fun a ha=>by
   simp only [za9.s13]
   by_cases g:a<m.Inputs.toNat
   ·left
    obtain ⟨h1,h2,h3,x,y,hx,hy,hxa,hya⟩:=H.at hs g
    refine ⟨a+1,?_,g,by omega⟩
    rw [zkB (by omega),zkD,za3 hx,za3 hxa,za3 hy,za3 hya,zkA (by omega),zkC,zkA (by omega),zkC,zkA (by omega),zkC,zkA (by omega),zaq,zkC,zau (by unfold inR;omega)]
   ·right
    rw [zkA (by omega),zkC]) (Nat.zero_le _) (by have:=zcb;omega)
 have outer:iter (fun (s:Nat)=>za9.s14 m s) fuel 0=some (.inl ()) :=
  zpa (fun s=>s≤m.Next.length) (fun s=>m.Next.length-s) (fun s hs=>by
   simp only [za9.s14]
   by_cases g:s<m.Next.length
   ·left
    obtain ⟨x,y,hx,hy,hl1,hl2,_,_⟩:=H.row s g
    refine ⟨s+1,?_,g,by omega⟩
    rw [zkB (by omega),zkD,za3 hx,zkA (by omega),zkC,za3 hy,zkA (by omega),zaq,zkC,inner s g,zaq]
    rfl
   ·right
    rw [zkA (by omega),zkC]) (Nat.zero_le _) (by have:=zcb;omega)
 rw [outer,zaq];rfl
abbrev costOk (l:zay):Prop:=(∀ c∈l.Step,0≤c∧c≤1048576)∧0≤l.Reset∧l.Reset≤1048576
abbrev zgq (n:Int):Prop:=0≤n∧n≤1125899906842624
abbrev faultOk (f:zbl):Prop:=(0≤f.Lost∧f.Lost≤10000)∧(0≤f.Wrong∧f.Wrong≤10000)∧(0≤f.Crash∧f.Crash≤10000)∧f.Lost+f.Wrong+f.Crash≤10000
theorem zfc (n m:Int):zcq n m=some (decide (n<0∨m<n)):=by
 unfold zcq;by_cases h1:n<0<;>by_cases h2:m<n<;>simp [h1,h2]
theorem zpr (u:zba):zda u=some (decide (zgq u.Device.Steps∧zgq u.Device.Resets∧zgq u.Device.Time)):=by
 unfold zda;simp only [zfc,zaq];by_cases h1:u.Device.Steps<0∨1125899906842624<u.Device.Steps
 ·rw [zkB h1,zkA (show ¬ (zgq u.Device.Steps∧zgq u.Device.Resets∧zgq u.Device.Time) by omega)];rfl
 ·rw [zkA h1];by_cases h2:u.Device.Resets<0∨1125899906842624<u.Device.Resets
  ·rw [zkB h2,zkA (show ¬ (zgq u.Device.Steps∧zgq u.Device.Resets∧zgq u.Device.Time) by omega)];rfl
  ·rw [zkA h2];by_cases h3:u.Device.Time<0∨1125899906842624<u.Device.Time
   ·rw [zkB h3,zkA (show ¬ (zgq u.Device.Steps∧zgq u.Device.Resets∧zgq u.Device.Time) by omega)];rfl
   ·rw [zkA h3,zkB (by omega)];rfl
theorem zfu (n:Int):zeo n=some (decide (zgq n)):=by
 unfold zeo;by_cases h1:0≤n<;>by_cases h2:n≤1125899906842624<;>simp [h1,h2]
theorem zr4 (n:Int):zkt n=some (decide (0≤n∧n≤10000)):=by
 unfold zkt;by_cases h1:0≤n<;>by_cases h2:n≤10000<;>simp [h1,h2]
theorem zp8 {l:zay} (hl:l.Step.length≤100000000):ze8 l=some (decide (costOk l)):=by
 unfold ze8
 have key:=zdl (step:=fun s=>ze8.s2 l s) (l:=l.Step) (fun _ y=>if decide (0≤y∧y≤1048576)=true then none else some false) (fun i y hy=>by
  simp only [ze8.s2]
  rw [zdj hy,zkD,za3 hy,za3 hy]
  by_cases a1:y<0
  ·rw [zkB a1,zkD,zaq,zkD,zkA (show ¬ (0≤y∧y≤1048576) by omega)];rfl
  ·by_cases a2:1048576<y
   ·rw [zkA a1,zkC,zkB a2,zaq,zkD,zkA (show ¬ (0≤y∧y≤1048576) by omega)];rfl
   ·rw [zkA a1,zkC,zkA a2,zaq,zkC,zkB (show (0≤y∧y≤1048576) by omega)];rfl) (by
  simp only [ze8.s2]
  rw [zc8]
  rfl) (by omega)
 rw [key,zmb (p:=fun y=>decide (0≤y∧y≤1048576)),zaq];by_cases h:(l.Step.all fun y=>decide (0≤y∧y≤1048576))=true
 ·rw [if_pos h];simp only [Sum.elim_inl];have h':∀ c∈l.Step,0≤c∧c≤1048576:=fun c hc=>of_decide_eq_true (List.all_eq_true.1 h c hc);by_cases h1:0≤l.Reset<;>by_cases h2:l.Reset≤1048576
  ·rw [zkB h1,zkD,zkB h2,zaq,zkB ⟨h',h1,h2⟩]
  ·rw [zkB h1,zkD,zkA h2,zaq,zkA fun e=>h2 e.2.2]
  ·rw [zkA h1,zkC,zaq,zkA fun e=>h1 e.2.1]
  ·rw [zkA h1,zkC,zaq,zkA fun e=>h1 e.2.1]
 ·rw [if_neg h];simp only [Sum.elim_inr];rw [zkA fun e=>h (List.all_eq_true.2 fun y hy=>zkB (e.1 y hy))]
theorem zrw {l:zay} (hl:l.Step.length≤100000000) (h:costOk l):zhv l=some 0:=by
 unfold zhv zfs;rw [zfc,zaq,zaq,zkA (by have:=h.2;omega),zkC,cindex_eq (p:=fun n=>decide (n<0∨1048576<n)) (by omega) fun x _=>by rw [zfc,zaq],zaq]
 have:(l.Step.any fun n=>decide (n<0∨1048576<n))=false:=List.any_eq_false.2 fun x hx=>by
  have:=h.1 x hx;simp only [decide_eq_true_eq];omega
 rw [this,zaq,zkC]
structure zf0 (d:zad):Prop where
 v6:zde d.M=some 0
 st:0≤d.State∧d.State<(↑d.M.Next.length:Int)
 ll:(↑d.Latency.Step.length:Int)=d.M.Inputs
 lc:costOk d.Latency
 fl:faultOk d.Faults
 c1:zgq d.Steps
 c2:zgq d.Resets
 c3:zgq d.Time
theorem zf0.mac {d:zad} (H:zf0 d):zj5 d.M:=macOk_of H.v6
theorem zf0.lat {d:zad} (H:zf0 d):d.Latency.Step.length≤64:=by
 have:=H.ll;have:=H.mac.i2;omega
theorem R19_Valid_tot (d:zad) (hl:d.Latency.Step.length≤100000000):∃ e,ze3 d=some e∧(e=0→zf0 d):=by
 obtain ⟨e6,h6,h6z⟩:=zof d.M;unfold ze3;rw [h6,zaq];by_cases g1:e6=0
 ·have g1':=g1;subst g1;rw [zkA (by decide),zkC];by_cases g2:d.State<0
  ·exact ⟨2,by rw [zkB g2];rfl,fun h=>by cases h⟩
  by_cases g3:(↑d.M.Next.length:Int)≤d.State
  ·exact ⟨2,by rw [zkA g2,zkC,zkB g3];rfl,fun h=>by cases h⟩
  rw [zkA g2,zkC,zkA g3,zaq,zkC];unfold zl8;by_cases g4:(↑d.Latency.Step.length:Int)=d.M.Inputs
  ·rw [zkA (fun h=>h g4),zkC,zp8 hl,zaq];by_cases g5:costOk d.Latency
   ·rw [zkB g5,Bool.not_true,zkC,zaq,zkA (by decide),zkC];simp only [zr4,zaq];by_cases f1:0≤d.Faults.Lost∧d.Faults.Lost≤10000
    ·rw [zkB f1,Bool.not_true,zkC];by_cases f2:0≤d.Faults.Wrong∧d.Faults.Wrong≤10000
     ·rw [zkB f2,Bool.not_true,zkC];by_cases f3:0≤d.Faults.Crash∧d.Faults.Crash≤10000
      ·rw [zkB f3,Bool.not_true,zkC,zau (by unfold inR;omega),zau (by unfold inR;omega),zaq];by_cases f4:10000<d.Faults.Lost+d.Faults.Wrong+d.Faults.Crash
       ·exact ⟨2,by rw [zkB f4];rfl,fun h=>by cases h⟩
       rw [zkA f4,zkC];simp only [zfu,zaq];by_cases k1:zgq d.Steps
       ·rw [zkB k1,Bool.not_true,zkC];by_cases k2:zgq d.Resets
        ·rw [zkB k2,Bool.not_true,zkC];by_cases k3:zgq d.Time
         ·exact ⟨0,by rw [zkB k3];rfl,fun _=>⟨h6,by omega,g4,g5,⟨f1,f2,f3,by omega⟩,k1,k2,k3⟩⟩
         ·exact ⟨2,by rw [zkA k3];rfl,fun h=>by cases h⟩
        ·exact ⟨2,by rw [zkA k2];rfl,fun h=>by cases h⟩
       ·exact ⟨2,by rw [zkA k1];rfl,fun h=>by cases h⟩
      ·exact ⟨2,by rw [zkA f3];rfl,fun h=>by cases h⟩
     ·exact ⟨2,by rw [zkA f2];rfl,fun h=>by cases h⟩
    ·exact ⟨2,by rw [zkA f1];rfl,fun h=>by cases h⟩
   ·exact ⟨2,by rw [zkA g5];rfl,fun h=>by cases h⟩
  ·exact ⟨1,by rw [zkB g4];rfl,fun h=>by cases h⟩
 ·exact ⟨e6,by rw [zkB g1,zkD,zaq],fun h=>absurd h g1⟩
theorem zlv {d:zad} (H:zf0 d):ze3 d=some 0:=by
 have hl:=H.lat;have st:=H.st;obtain ⟨f1,f2,f3,f4⟩:=H.fl;unfold ze3;rw [H.v6,zaq,zkA (by decide),zkC,zkA (by omega),zkC,zkA (by omega),zaq,zkC];unfold zl8;rw [zkA (fun h=>h H.ll),zkC,zp8 (by omega),zaq,zkB H.lc,Bool.not_true,zkC,zaq,zkA (by decide),zkC];simp only [zr4,zaq];rw [zkB f1,Bool.not_true,zkC,zkB f2,Bool.not_true,zkC,zkB f3,Bool.not_true,zkC,zau (by unfold inR;omega),zau (by unfold inR;omega),zaq,zkA (by omega),zkC];simp only [zfu,zaq];rw [zkB H.c1,zkB H.c2,zkB H.c3];rfl
theorem zs9 {d:zad} (H:zf0 d):zht d=some 0:=by
 have hl:=H.lat;have st:=H.st;obtain ⟨f1,f2,f3,f4⟩:=H.fl;unfold zht;rw [zts H.mac,zaq,zkA (by decide),zkC];simp only [zfc,zaq];rw [zkA (by omega),zkC,zkA (fun h=>h H.ll),zkC,zrw (by omega) H.lc,zaq,zkA (by decide),zkC,zkA (by omega),zkC,zkA (by omega),zkC,zkA (by omega),zkC,zau (by unfold inR;omega),zau (by unfold inR;omega),zkA (by omega),zkC,zpr,zaq];simp only;rw [zkB ⟨H.c1,H.c2,H.c3⟩];rfl
def ze0 (d:zad):zad×Int :=
 if zgq (d.Resets+1)∧zgq (d.Time+d.Latency.Reset) then (⟨d.M,d.M.Start,true,d.Latency,d.Faults,d.Seed,d.Steps,d.Resets+1,d.Time+d.Latency.Reset⟩,0) else (d,11)
def costD (d:zad) (a:Int):Int:=(d.Latency.Step[a.toNat]?).getD 0
def outD (f:zbl) (x o:Int):Int:=if x<f.Lost then -1 else if x<f.Lost+f.Wrong then (if o=1048576 then o-1 else o+1) else o
def readyD (f:zbl) (x:Int) (b:Bool):Bool:=if x<f.Lost+f.Wrong then b else if x<f.Lost+f.Wrong+f.Crash then false else b
def zct (d:zad) (a:Int):zad×Int×Int :=
 if d.Ready=false then (d,0,10) else if zgq (d.Steps+1)∧zgq (d.Time+costD d a) then
  (⟨d.M,(↑(nx d.M d.State.toNat a.toNat):Int),readyD d.Faults (↑(zjr d.Seed.toNat).1:Int) d.Ready,d.Latency,d.Faults,(↑(zjr d.Seed.toNat).2:Int),d.Steps+1,d.Resets,d.Time+costD d a⟩,outD d.Faults (↑(zjr d.Seed.toNat).1:Int) (ot d.M d.State.toNat a.toNat),0)
 else (d,0,11)
section
variable {d:zad}
theorem reset_p (H:zf0 d):ze6 ⟨d⟩=some ((ze0 d).2,⟨(ze0 d).1⟩):=by
 have c1:=H.c1;have c2:=H.c2;have c3:=H.c3;have lr:=H.lc.2;unfold ze6 ze0;rw [zau (by unfold inR;simp only;omega),zau (by unfold inR;simp only;omega),zpr,zaq];simp only;by_cases h:zgq (d.Resets+1)∧zgq (d.Time+d.Latency.Reset)
 ·rw [if_pos h,zkB ⟨H.c1,h.1,h.2⟩];rfl
 ·rw [if_neg h,zkA fun e=>h e.2];rfl
theorem reset_r (H:zf0 d):zla d=some (ze0 d):=by
 have c1:=H.c1;have c2:=H.c2;have c3:=H.c3;have lr:=H.lc.2;unfold zla ze0;rw [zlv H,zaq,zkA (by decide),zkC,zau (by unfold inR;omega),zfu,zaq];by_cases h1:zgq (d.Resets+1)
 ·rw [zkB h1,Bool.not_true,zkC,zau (by unfold inR;omega),zfu,zaq,zaq];by_cases h2:zgq (d.Time+d.Latency.Reset)
  ·rw [if_pos ⟨h1,h2⟩,zkB h2,Bool.not_true,zkC,zau (by unfold inR;omega),zau (by unfold inR;omega)]
  ·rw [if_neg fun e=>h2 e.2,zkA h2];rfl
 ·rw [if_neg fun e=>h1 e.1,zkA h1];rfl
theorem zr8 (H:zf0 d):zf0 (ze0 d).1:=by
 unfold ze0;split
 ·rename_i h;exact ⟨H.v6,H.mac.st,H.ll,H.lc,H.fl,H.c1,h.1,h.2⟩
 ·exact H
theorem seed_nat (h:0≤d.Seed∧d.Seed<18446744073709551616):d.Seed=(↑d.Seed.toNat:Int):=by omega
theorem stepD_ok (H:zf0 d) (hs:0≤d.Seed∧d.Seed<18446744073709551616) {a:Int} (ha:0≤a∧a<d.M.Inputs):zf0 (zct d a).1∧(0≤(zct d a).1.Seed∧(zct d a).1.Seed<18446744073709551616)∧(zct d a).1.M=d.M∧(-1≤(zct d a).2.1∧(zct d a).2.1≤1048576):=by
 have st:=H.st;obtain ⟨h1,h2,h3,_⟩:=H.mac.at (s:=d.State.toNat) (a:=a.toNat) (by omega) (by omega);have hd:=draw_lt d.Seed.toNat;unfold zct;split
 ·exact ⟨H,hs,rfl,by simp,by simp⟩
 split
 ·rename_i h;refine ⟨⟨H.v6,⟨by simp only;omega,by simp only;omega⟩,H.ll,H.lc,H.fl,h.1,H.c2,h.2⟩,⟨by simp only;omega,by simp only;omega⟩,rfl,?_⟩;simp only;unfold outD;split
  ·decide
  ·split
   ·split<;>omega
   ·omega
 ·exact ⟨H,hs,rfl,by simp,by simp⟩
theorem step_p (H:zf0 d) (hs:0≤d.Seed∧d.Seed<18446744073709551616) {a:Int} (ha:0≤a∧a<d.M.Inputs):zfo ⟨d⟩ a=some ((zct d a).2.1,(zct d a).2.2,⟨(zct d a).1⟩):=by
 have c1:=H.c1;have c2:=H.c2;have c3:=H.c3;have st:=H.st;have i2:=H.mac.i2;have ll:=H.ll;obtain ⟨f1,f2,f3,f4⟩:=H.fl;obtain ⟨h1,h2,h3,x,y,hx,hy,hxa,hya⟩:=H.mac.at (s:=d.State.toNat) (a:=a.toNat) (by omega) (by omega)
 have hc:d.Latency.Step[a.toNat]?=some (costD d a):=by
  unfold costD;rw [zkM (by omega)];rfl
 have hcr:=H.lc.1 _ (zkH hc);have ea:a=(↑a.toNat:Int):=by omega
 have es:d.State=(↑d.State.toNat:Int):=by omega
 have hB:=zrx d.Seed.toNat;rw [← seed_nat hs] at hB;unfold zfo zct;simp only;cases hr:d.Ready with
 | false =>
  rw [if_pos rfl];rfl
 | true =>
  rw [if_neg (by decide),Bool.not_true,zkC,zau (by unfold inR;omega),zfc,zaq,zkA (by omega),zkC,zau (by unfold inR;omega),zd0 ea hc,zau (by unfold inR;omega),zpr,zaq];simp only;by_cases h:zgq (d.Steps+1)∧zgq (d.Time+costD d a)
  ·rw [if_pos h,zkB ⟨h.1,H.c2,h.2⟩,Bool.not_true,zkC,hB,zaq];simp only;rw [zkA (by decide),zkC,zd0 es hx,zd0 ea hxa,zd0 es hy,zd0 ea hya];unfold outD readyD;by_cases k1:(↑(zjr d.Seed.toNat).1:Int)<d.Faults.Lost
   ·rw [zkB k1,zkD,if_pos k1,if_pos (by omega)]
   ·rw [zkA k1,zkC,zau (by unfold inR;omega),if_neg k1];by_cases k2:(↑(zjr d.Seed.toNat).1:Int)<d.Faults.Lost+d.Faults.Wrong
    ·rw [zkB k2,zkD,zaq,if_pos k2,if_pos k2];by_cases k3:ot d.M d.State.toNat a.toNat=1048576
     ·rw [zkB k3,zkD,if_pos k3,zau (by unfold inR;omega)]
     ·rw [zkA k3,zkC,if_neg k3,zau (by unfold inR;omega),zkD,zau (by unfold inR;omega)]
    ·rw [zkA k2,zkC,zaq,zkC,if_neg k2,if_neg k2,zau (by unfold inR;omega),zkC,zau (by unfold inR;omega),zau (by unfold inR;omega)];by_cases k4:(↑(zjr d.Seed.toNat).1:Int)<d.Faults.Lost+d.Faults.Wrong+d.Faults.Crash
     ·rw [zkB k4,zkD,if_pos k4]
     ·rw [zkA k4,zkC,if_neg k4]
  ·rw [if_neg h,zkA fun e=>h ⟨e.1,e.2.2⟩];rfl
theorem step_r (H:zf0 d) (hs:0≤d.Seed∧d.Seed<18446744073709551616) {a:Int} (ha:0≤a∧a<d.M.Inputs):zoz d a=some (zct d a):=by
 have c1:=H.c1;have c2:=H.c2;have c3:=H.c3;have st:=H.st;have i2:=H.mac.i2;have ll:=H.ll;obtain ⟨f1,f2,f3,f4⟩:=H.fl;obtain ⟨h1,h2,h3,x,y,hx,hy,hxa,hya⟩:=H.mac.at (s:=d.State.toNat) (a:=a.toNat) (by omega) (by omega)
 have hc:d.Latency.Step[a.toNat]?=some (costD d a):=by
  unfold costD;rw [zkM (by omega)];rfl
 have hcr:=H.lc.1 _ (zkH hc);have ea:a=(↑a.toNat:Int):=by omega
 have es:d.State=(↑d.State.toNat:Int):=by omega
 have hR:=R04_Below_eq d.Seed.toNat;rw [← seed_nat hs] at hR;unfold zoz zct;rw [zlv H,zaq,zkA (by decide),zkC];cases hr:d.Ready with
 | false =>
  rw [if_pos rfl];rfl
 | true =>
  rw [if_neg (by decide),Bool.not_true,zkC,zkA (by omega),zkC,zkA (by omega),zaq,zkC,zau (by unfold inR;omega),zfu,zaq];by_cases q1:zgq (d.Steps+1)
  ·rw [zkB q1,Bool.not_true,zkC,zd0 ea hc,zau (by unfold inR;omega),zfu,zaq,zaq];by_cases q2:zgq (d.Time+costD d a)
   ·rw [if_pos ⟨q1,q2⟩,zkB q2,Bool.not_true,zkC,zd0 es hy,zd0 ea hya,hR,zaq,zd0 es hx,zd0 ea hxa,zau (by unfold inR;omega),zd0 ea hc,zau (by unfold inR;omega)];simp only;unfold outD readyD;by_cases k1:(↑(zjr d.Seed.toNat).1:Int)<d.Faults.Lost
    ·rw [zkB k1,zkD,if_pos k1,if_pos (by omega)]
    ·rw [zkA k1,zkC,zau (by unfold inR;omega),if_neg k1];by_cases k2:(↑(zjr d.Seed.toNat).1:Int)<d.Faults.Lost+d.Faults.Wrong
     ·rw [zkB k2,zkD,zaq,if_pos k2,if_pos k2];by_cases k3:ot d.M d.State.toNat a.toNat=1048576
      ·rw [zkB k3,zkD,if_pos k3,zau (by unfold inR;omega)]
      ·rw [zkA k3,zkC,if_neg k3,zau (by unfold inR;omega),zkD,zau (by unfold inR;omega)]
     ·rw [zkA k2,zkC,zaq,zkC,if_neg k2,if_neg k2,zau (by unfold inR;omega),zkC,zau (by unfold inR;omega),zau (by unfold inR;omega)];by_cases k4:(↑(zjr d.Seed.toNat).1:Int)<d.Faults.Lost+d.Faults.Wrong+d.Faults.Crash
      ·rw [zkB k4,zkD,if_pos k4]
      ·rw [zkA k4,zkC,if_neg k4]
   ·rw [if_neg fun e=>q2 e.2,zkA q2];rfl
  ·rw [if_neg fun e=>q1 e.1,zkA q1];rfl
end
end
section
set_option maxRecDepth 100000
theorem cap24 {n:Nat} (h:n≤3000000):zbt n 24:=by unfold zbt;omega
theorem zmu {l:List (List Int)} (h:SmL l):zdv l=some l:=by
 have hl:=h.1;unfold zdv;rw [zau ⟨by decide,by omega,by rw [Int.toNat_natCast];exact cap24 (by omega)⟩]
 have key:=zc2 (step:=fun (s:List (List Int)×Nat)=>zdv.s2 l s.1 s.2) (fun s=>s.2≤l.length∧s.1=l.take s.2) (fun s=>l.length-s.2) (fun r=>r=l) (fun ⟨y,i⟩ ⟨g1,g2⟩=>by
  simp only at g1 g2
  subst g2
  simp only [zdv.s2]
  by_cases g3:i<l.length
  ·left
   have hx:=get_at g3
   refine ⟨(l.take (i+1),i+1),?_,⟨g3,rfl⟩,by simp only;omega⟩
   rw [zdj hx,zkD,za3 hx,zcx (h.2 _ (List.getElem_mem _)),zaq,zau (cap24 (by rw [List.length_take];omega)),zcj hx]
  ·right
   have e:i=l.length:=by omega
   subst e
   exact ⟨l,by rw [zc8,zkC,List.take_length],rfl⟩) fuel ([],0) ⟨Nat.zero_le _,rfl⟩ (by have:=zcb;simp only;omega)
 obtain ⟨r,e,rfl⟩:=key;rw [e,zaq]
theorem zmv {l:List (List Int)} (h:SmL l):zds l=some l:=by
 have hl:=h.1;unfold zds
 have key:=zc2 (step:=fun (s:List (List Int)×Nat)=>zds.s2 l s.1 s.2) (fun s=>s.2≤l.length∧s.1=l.take s.2) (fun s=>l.length-s.2) (fun r=>r=l) (fun ⟨y,i⟩ ⟨g1,g2⟩=>by
  simp only at g1 g2
  subst g2
  simp only [zds.s2]
  by_cases g3:i<l.length
  ·left
   have hx:=get_at g3
   refine ⟨(l.take (i+1),i+1),?_,⟨g3,rfl⟩,by simp only;omega⟩
   rw [zdj hx,zkD,za3 hx,zcx (h.2 _ (List.getElem_mem _)),zaq,zau (cap24 (by rw [List.length_take];omega)),zcj hx]
  ·right
   have e:i=l.length:=by omega
   subst e
   exact ⟨l,by rw [zc8,zkC,List.take_length],rfl⟩) fuel ([],0) ⟨Nat.zero_le _,rfl⟩ (by have:=zcb;simp only;omega)
 obtain ⟨r,e,rfl⟩:=key;rw [e,zaq]
theorem zj5.sml {m:zab} (H:zj5 m):SmL m.Next∧SmL m.Out:=by
 have n2:=H.n2;have ol:=H.ol;have i2:=H.i2;refine ⟨⟨by omega,fun x hx=>?_⟩,⟨by omega,fun x hx=>?_⟩⟩
 all_goals
  obtain ⟨s,hs,rfl⟩:=List.mem_iff_getElem.1 hx;obtain ⟨x,y,h1,h2,h3,h4,_⟩:=H.row s (by omega);unfold SmW
 ·rw [get_at hs] at h1;injection h1 with h1
  rw [h1];omega
 ·rw [get_at hs] at h2;injection h2 with h2
  rw [h2];omega
theorem zf0.sw {d:zad} (H:zf0 d):SmW d.Latency.Step:=by
 have:=H.lat;unfold SmW;omega
theorem zqk {d:zad} (H:zf0 d):zg4 d=some d:=by
 unfold zg4;rw [zmu H.mac.sml.1,zaq,zmu H.mac.sml.2,zaq,zcx H.sw,zaq]
theorem zqh {q:zae} (H:zf0 q.Device) (ho:SmTr q.Obs.Traces):zc5 q=some q:=by
 have hl:=ho.1;unfold zc5;rw [zmv H.mac.sml.1,zaq,zmv H.mac.sml.2,zaq,zcx H.sw,zaq]
 have key:=zc2 (step:=fun (s:List zaa×Nat)=>zc5.s2 q s.1 s.2) (fun s=>s.2≤q.Obs.Traces.length∧s.1=q.Obs.Traces.take s.2) (fun s=>q.Obs.Traces.length-s.2) (fun r=>r=q.Obs.Traces) (fun ⟨y,i⟩ ⟨g1,g2⟩=>by
  simp only at g1 g2
  subst g2
  simp only [zc5.s2]
  by_cases g3:i<q.Obs.Traces.length
  ·left
   have hx:=get_at g3
   have hs:=ho.2 _ (List.getElem_mem g3)
   refine ⟨(q.Obs.Traces.take (i+1),i+1),?_,⟨g3,rfl⟩,by simp only;omega⟩
   rw [zdj hx,zkD,za3 hx,zcx hs.1,zaq,zcx hs.2,zaq,zau (capT (by rw [List.length_take];omega)),zcj hx]
  ·right
   have e:i=q.Obs.Traces.length:=by omega
   subst e
   exact ⟨q.Obs.Traces,by rw [zc8,zkC,List.take_length],rfl⟩) fuel ([],0) ⟨Nat.zero_le _,rfl⟩ (by have:=zcb;simp only;omega)
 obtain ⟨r,e,rfl⟩:=key;rw [e,zaq]
def qryD:zad→List Int→List Int→zad×List Int×Int
 | d,ys,[]=>(d,ys,0)
 | d,ys,a::w=>if (zct d a).2.2≠0 then ((zct d a).1,[],(zct d a).2.2) else if (zct d a).2.1<0∨((zct d a).1.Ready=false∧w≠[]) then ((zct d a).1,[],14) else qryD (zct d a).1 (ys++[(zct d a).2.1]) w
def zbx (d:zad) (w:List Int):zad×List Int×Int :=
 if (ze0 d).2≠0 then (d,[],(ze0 d).2) else qryD (ze0 d).1 [] w
abbrev zg9 (d:zad):Prop:=0≤d.Seed∧d.Seed<18446744073709551616
theorem qryD_ok:∀ (w ys:List Int) (d:zad),zf0 d→zg9 d→WOk d.M.Inputs w→(∀ y∈ys,0≤y∧y≤1048576) →
  zf0 (qryD d ys w).1∧zg9 (qryD d ys w).1∧(qryD d ys w).1.M=d.M∧((qryD d ys w).2.2=0→(qryD d ys w).2.1.length=ys.length+w.length∧∀ y∈(qryD d ys w).2.1,0≤y∧y≤1048576)∧((qryD d ys w).2.2=0∨(qryD d ys w).2.2=10∨(qryD d ys w).2.2=11∨(qryD d ys w).2.2=14)
 | [],ys,d,H,S,_,hy=>⟨H,S,rfl,fun _=>⟨rfl,hy⟩,.inl rfl⟩
 | a::w,ys,d,H,S,hw,hy=>by
  obtain ⟨h1,h2,h3,h4⟩:=stepD_ok H S hw.head;unfold qryD;by_cases g1:(zct d a).2.2≠0
  ·rw [if_pos g1];refine ⟨h1,h2,h3,fun e=>absurd e g1,?_⟩;simp only;unfold zct;split
   ·exact .inr (.inl rfl)
   ·split
    ·exact .inl rfl
    ·exact .inr (.inr (.inl rfl))
  ·rw [if_neg g1];by_cases g2:(zct d a).2.1<0∨((zct d a).1.Ready=false∧w≠[])
   ·rw [if_pos g2];exact ⟨h1,h2,h3,fun e=>(by cases e),.inr (.inr (.inr rfl))⟩
   ·rw [if_neg g2]
    obtain ⟨k1,k2,k3,k4,k5⟩:=qryD_ok w (ys++[(zct d a).2.1]) (zct d a).1 h1 h2 (by rw [h3];exact hw.tail) fun y hy'=>by
     rcases List.mem_append.1 hy' with e | e
     ·exact hy y e
     ·rw [List.mem_singleton.1 e];exact ⟨by omega,h4.2⟩
    refine ⟨k1,k2,by rw [k3,h3],fun e=>⟨?_,(k4 e).2⟩,k5⟩;rw [(k4 e).1,zkJ,zkL];simp;omega
section
variable {d:zad} {w ys:List Int}
abbrev tupD (d:zad) (ys:List Int) (i:Nat):Int×Int×List (List Int)×List (List Int)×Int×Bool×List Int×Int×Int×Int×Int×Int×Int×Int×Int×List Int×Nat :=
 (d.M.Inputs,d.M.Start,d.M.Next,d.M.Out,d.State,d.Ready,d.Latency.Step,d.Latency.Reset,d.Faults.Lost,d.Faults.Wrong,d.Faults.Crash,d.Seed,d.Steps,d.Resets,d.Time,ys,i)
theorem dq_step (H:zf0 d) (S:zg9 d) {i:Nat} {a:Int} (hx:w[i]?=some a) (ha:0≤a∧a<d.M.Inputs) (hy:ys.length≤100000) :
  zb6.s2 w d.M.Inputs d.M.Start d.M.Next d.M.Out d.State d.Ready d.Latency.Step d.Latency.Reset d.Faults.Lost d.Faults.Wrong d.Faults.Crash d.Seed d.Steps d.Resets d.Time ys i =
   some (if (zct d a).2.2≠0 then .inr (.inr ((zct d a).1,[],(zct d a).2.2)) else if (zct d a).2.1<0∨((zct d a).1.Ready=false∧i+1<w.length) then .inr (.inr ((zct d a).1,[],14)) else .inl (tupD (zct d a).1 (ys++[(zct d a).2.1]) (i+1))):=by
 unfold zb6.s2;rw [zdj hx,zkD,za3 hx];have he:=step_p H S ha;have hd:(⟨(⟨⟨d.M.Inputs,d.M.Start,d.M.Next,d.M.Out⟩,d.State,d.Ready,⟨d.Latency.Step,d.Latency.Reset⟩,⟨d.Faults.Lost,d.Faults.Wrong,d.Faults.Crash⟩,d.Seed,d.Steps,d.Resets,d.Time⟩:zad)⟩:zba)=⟨d⟩:=rfl;rw [hd,he,zaq];simp only;by_cases g1:(zct d a).2.2≠0
 ·rw [if_pos g1,zkB g1,zkD]
 ·rw [if_neg g1,zkA g1,zkC]
  have hb:(cond (decide ((zct d a).2.1<0)) (some true) (cond (!(zct d a).1.Ready) (some (decide (((↑i:Int)+1)<(↑(List.length w):Int)))) (some false)):Option Bool)=some (decide ((zct d a).2.1<0∨((zct d a).1.Ready=false∧i+1<w.length))):=by
   by_cases k1:(zct d a).2.1<0
   ·rw [zkB k1,zkD,zkB (.inl k1)]
   ·rw [zkA k1,zkC];cases hr:(zct d a).1.Ready with
    | true =>
     rw [Bool.not_true,zkC,zkA fun e=>?_];rcases e with e | e
     ·exact k1 e
     ·cases e.1
    | false =>
     rw [Bool.not_false,zkD];congr 1;exact decide_eq_decide.2 ⟨fun e=>.inr ⟨rfl,by omega⟩,fun e=>by rcases e with e | e;exact absurd e k1;omega⟩
  rw [hb,zaq];by_cases g2:(zct d a).2.1<0∨((zct d a).1.Ready=false∧i+1<w.length)
  ·rw [if_pos g2,zkB g2,zkD]
  ·rw [if_neg g2,zkA g2,zkC,zau (by unfold zbt;omega)]
theorem rq_step (H:zf0 d) (S:zg9 d) {i:Nat} {a:Int} (hx:w[i]?=some a) (ha:0≤a∧a<d.M.Inputs) (hy:ys.length≤100000) :
  zdb.s2 w d.M.Inputs d.M.Start d.M.Next d.M.Out d.State d.Ready d.Latency.Step d.Latency.Reset d.Faults.Lost d.Faults.Wrong d.Faults.Crash d.Seed d.Steps d.Resets d.Time ys i =
   some (if (zct d a).2.2≠0 then .inr (.inr ((zct d a).1,[],(zct d a).2.2)) else if (zct d a).2.1<0∨((zct d a).1.Ready=false∧i+1<w.length) then .inr (.inr ((zct d a).1,[],14)) else .inl (tupD (zct d a).1 (ys++[(zct d a).2.1]) (i+1))):=by
 unfold zdb.s2;rw [zdj hx,zkD,za3 hx];have he:=step_r H S ha;obtain ⟨_,_,_,hr⟩:=stepD_ok H S ha;have hd:(⟨⟨d.M.Inputs,d.M.Start,d.M.Next,d.M.Out⟩,d.State,d.Ready,⟨d.Latency.Step,d.Latency.Reset⟩,⟨d.Faults.Lost,d.Faults.Wrong,d.Faults.Crash⟩,d.Seed,d.Steps,d.Resets,d.Time⟩:zad)=d:=rfl;rw [hd,he,zaq];by_cases g1:(zct d a).2.2≠0
 ·rw [if_pos g1,zkB g1,zkD]
 ·rw [if_neg g1,zkA g1,zkC]
  have hb:(cond (decide ((zct d a).2.1=-1)) (some true) (cond (!(zct d a).1.Ready) (some (decide ((↑i:Int)<((↑(List.length w):Int)-1)))) (some false)):Option Bool)=some (decide ((zct d a).2.1<0∨((zct d a).1.Ready=false∧i+1<w.length))):=by
   by_cases k1:(zct d a).2.1<0
   ·rw [zkB (by omega),zkD,zkB (.inl k1)]
   ·rw [zkA (by omega),zkC];cases hr:(zct d a).1.Ready with
    | true =>
     rw [Bool.not_true,zkC,zkA fun e=>?_];rcases e with e | e
     ·exact k1 e
     ·cases e.1
    | false =>
     rw [Bool.not_false,zkD];congr 1;exact decide_eq_decide.2 ⟨fun e=>.inr ⟨rfl,by omega⟩,fun e=>by rcases e with e | e;exact absurd e k1;omega⟩
  rw [hb,zaq];by_cases g2:(zct d a).2.1<0∨((zct d a).1.Ready=false∧i+1<w.length)
  ·rw [if_pos g2,zkB g2,zkD]
  ·rw [if_neg g2,zkA g2,zkC,zau (by unfold zbt;omega)]
end
abbrev Tup15:Type:=Int×Int×List (List Int)×List (List Int)×Int×Bool×List Int×Int×Int×Int×Int×Int×Int×Int×Int×List Int
abbrev tup15 (d:zad) (ys:List Int):Tup15:=(d.M.Inputs,d.M.Start,d.M.Next,d.M.Out,d.State,d.Ready,d.Latency.Step,d.Latency.Reset,d.Faults.Lost,d.Faults.Wrong,d.Faults.Crash,d.Seed,d.Steps,d.Resets,d.Time,ys)
def qryR (r:zad×List Int×Int):Tup15⊕(zad×List Int×Int):=if r.2.2=0 then .inl (tup15 r.1 r.2.1) else .inr r
theorem qry_iter {S2:Int×Int×List (List Int)×List (List Int)×Int×Bool×List Int×Int×Int×Int×Int×Int×Int×Int×Int×List Int×Nat→Option ((Int×Int×List (List Int)×List (List Int)×Int×Bool×List Int×Int×Int×Int×Int×Int×Int×Int×Int×List Int×Nat)⊕(Tup15⊕(zad×List Int×Int)))} {w:List Int}
  (h1:∀ (d:zad) (ys:List Int) (i:Nat) (a:Int),zf0 d→zg9 d→w[i]?=some a→0≤a∧a<d.M.Inputs→ys.length≤100000→S2 (tupD d ys i)=some (if (zct d a).2.2≠0 then .inr (.inr ((zct d a).1,[],(zct d a).2.2)) else if (zct d a).2.1<0∨((zct d a).1.Ready=false∧i+1<w.length) then .inr (.inr ((zct d a).1,[],14)) else .inl (tupD (zct d a).1 (ys++[(zct d a).2.1]) (i+1))))
  (h2:∀ d ys,S2 (tupD d ys w.length)=some (.inr (.inl (tup15 d ys)))) (hl:w.length≤2000) :
  ∀ (n i:Nat) (d:zad) (ys:List Int),zf0 d→zg9 d→WOk d.M.Inputs w→ys.length=i→i≤w.length→w.length-i<n→iter S2 n (tupD d ys i)=some (qryR (qryD d ys (w.drop i)))
 | 0,_,_,_,_,_,_,_,_,h=>absurd h (Nat.not_lt_zero _)
 | n+1,i,d,ys,H,S,hw,hy,hi,hn=>by
  unfold iter;rcases Nat.lt_or_ge i w.length with h | h
  ·have hx:=get_at h;have ha:=hw _ (List.getElem_mem h);rw [h1 d ys i _ H S hx ha (by omega),List.drop_eq_getElem_cons h];obtain ⟨k1,k2,k3,k4⟩:=stepD_ok H S ha
   have hnil:i+1<w.length↔w.drop (i+1)≠[]:=by
    rw [ne_eq,List.drop_eq_nil_iff];omega
   unfold qryD;by_cases g1:(zct d w[i]).2.2≠0
   ·rw [if_pos g1,if_pos g1];unfold qryR;rw [if_neg g1]
   ·rw [if_neg g1,if_neg g1];by_cases g2:(zct d w[i]).2.1<0∨((zct d w[i]).1.Ready=false∧i+1<w.length)
    ·rw [if_pos g2,if_pos (by rw [← hnil];exact g2)];rfl
    ·rw [if_neg g2,if_neg (by rw [← hnil];exact g2)];exact qry_iter h1 h2 hl n (i+1) (zct d w[i]).1 _ k1 k2 (by rw [k3];exact hw) (by rw [zkJ,List.length_singleton,hy]) h (by omega)
  ·have e:i=w.length:=by omega
   subst e;rw [h2,List.drop_length];rfl
theorem zsc {w:List Int} {n:Int} (h:zbs w n=0):WOk n w:=zrg h
theorem Query_p {d:zad} {w:List Int} (H:zf0 d) (S:zg9 d) (hw:zbs w d.M.Inputs=0) (hl:w.length≤1024):zb6 d w=some (zbx d w):=by
 have hsw:SmW w:=by unfold SmW;omega
 have r1:=reset_p H;have hr:=zr8 H;have hf:=zcb
 have hM:(ze0 d).1.M=d.M∧zg9 (ze0 d).1:=by
  unfold ze0;split
  ·exact ⟨rfl,S⟩
  ·exact ⟨rfl,S⟩
 unfold zb6 zbx;rw [zs9 H,zaq,zkA (by decide),zkC,zg7 _ _ hsw,zaq,hw,zkA (by decide),zkC,zqk H,zaq,r1,zaq];simp only;by_cases g:(ze0 d).2≠0
 ·rw [if_pos g,zkB g,zkD]
 ·rw [if_neg g,zkA g,zkC,zau ⟨by decide,by omega,by unfold zbt;omega⟩]
  have key:=qry_iter (w:=w) (S2:=fun s=>zb6.s2 w s.1 s.2.1 s.2.2.1 s.2.2.2.1 s.2.2.2.2.1 s.2.2.2.2.2.1 s.2.2.2.2.2.2.1 s.2.2.2.2.2.2.2.1 s.2.2.2.2.2.2.2.2.1 s.2.2.2.2.2.2.2.2.2.1 s.2.2.2.2.2.2.2.2.2.2.1 s.2.2.2.2.2.2.2.2.2.2.2.1 s.2.2.2.2.2.2.2.2.2.2.2.2.1 s.2.2.2.2.2.2.2.2.2.2.2.2.2.1 s.2.2.2.2.2.2.2.2.2.2.2.2.2.2.1 s.2.2.2.2.2.2.2.2.2.2.2.2.2.2.2.1 s.2.2.2.2.2.2.2.2.2.2.2.2.2.2.2.2) (fun d ys i a H S hx ha hy=>dq_step H S hx ha hy) (fun d ys=>by
   show zb6.s2 w _ _ _ _ _ _ _ _ _ _ _ _ _ _ _ _ _=_
   unfold zb6.s2
   rw [zc8,zkC]) (by omega) fuel 0 (ze0 d).1 [] hr hM.2 (by rw [hM.1];exact zsc hw) rfl (Nat.zero_le _) (by omega)
  rw [List.drop_zero] at key;refine (congrArg (fun z=>Option.bind z _) key).trans ?_;rw [zaq];unfold qryR;by_cases g3:(qryD (ze0 d).1 [] w).2.2=0
  ·rw [if_pos g3];simp only [Sum.elim_inl,zb6.k3];rw [← g3]
  ·rw [if_neg g3];rfl
theorem Query_r {d:zad} {w:List Int} (H:zf0 d) (S:zg9 d) (hw:zbs w d.M.Inputs=0) (hl:w.length≤1024):zdb d w=some (zbx d w):=by
 have hsw:SmW w:=by unfold SmW;omega
 have r2:=reset_r H;have hr:=zr8 H;have hf:=zcb
 have hM:(ze0 d).1.M=d.M∧zg9 (ze0 d).1:=by
  unfold ze0;split
  ·exact ⟨rfl,S⟩
  ·exact ⟨rfl,S⟩
 unfold zdb zbx;rw [zlv H,zaq,zkA (by decide),zkC,zgv _ _ hsw,zaq,hw,zkA (by decide),zkC,r2,zaq];by_cases g:(ze0 d).2≠0
 ·have hd:(ze0 d).1=d:=by
   unfold ze0 at g ⊢;split at g
   ·exact absurd rfl g
   ·rename_i h;rw [if_neg h]
  rw [if_pos g,zkB g,zkD,hd]
 ·rw [if_neg g,zkA g,zkC]
  have key:=qry_iter (w:=w) (S2:=fun s=>zdb.s2 w s.1 s.2.1 s.2.2.1 s.2.2.2.1 s.2.2.2.2.1 s.2.2.2.2.2.1 s.2.2.2.2.2.2.1 s.2.2.2.2.2.2.2.1 s.2.2.2.2.2.2.2.2.1 s.2.2.2.2.2.2.2.2.2.1 s.2.2.2.2.2.2.2.2.2.2.1 s.2.2.2.2.2.2.2.2.2.2.2.1 s.2.2.2.2.2.2.2.2.2.2.2.2.1 s.2.2.2.2.2.2.2.2.2.2.2.2.2.1 s.2.2.2.2.2.2.2.2.2.2.2.2.2.2.1 s.2.2.2.2.2.2.2.2.2.2.2.2.2.2.2.1 s.2.2.2.2.2.2.2.2.2.2.2.2.2.2.2.2) (fun d ys i a H S hx ha hy=>rq_step H S hx ha hy) (fun d ys=>by
   show zdb.s2 w _ _ _ _ _ _ _ _ _ _ _ _ _ _ _ _ _=_
   unfold zdb.s2
   rw [zc8,zkC]) (by omega) fuel 0 (ze0 d).1 [] hr hM.2 (by rw [hM.1];exact zsc hw) rfl (Nat.zero_le _) (by omega)
  rw [List.drop_zero] at key;refine (congrArg (fun z=>Option.bind z _) key).trans ?_;rw [zaq];unfold qryR;by_cases g3:(qryD (ze0 d).1 [] w).2.2=0
  ·rw [if_pos g3];simp only [Sum.elim_inl,zdb.k3];rw [← g3]
  ·rw [if_neg g3];rfl
theorem queryD_ok {d:zad} {w:List Int} (H:zf0 d) (S:zg9 d) (hw:zbs w d.M.Inputs=0) :
  zf0 (zbx d w).1∧zg9 (zbx d w).1∧(zbx d w).1.M=d.M∧((zbx d w).2.2=0→(zbx d w).2.1.length=w.length∧∀ y∈(zbx d w).2.1,0≤y∧y≤1048576):=by
 have hM:(ze0 d).1.M=d.M∧zg9 (ze0 d).1:=by
  unfold ze0;split
  ·exact ⟨rfl,S⟩
  ·exact ⟨rfl,S⟩
 unfold zbx;split
 ·rename_i g;exact ⟨H,S,rfl,fun e=>absurd e g⟩
 ·obtain ⟨k1,k2,k3,k4,_⟩:=qryD_ok w [] (ze0 d).1 (zr8 H) hM.2 (by rw [hM.1];exact zsc hw) fun y hy=>by simp at hy
  exact ⟨k1,k2,by rw [k3,hM.1],fun e=>⟨by rw [(k4 e).1];simp,(k4 e).2⟩⟩
def voteF (need:Int):List (List Int)→List (List Int)→Option (List Int)
 | _,[]=>none
 | pre,w::r=>if (↑((pre++[w]).count w):Int)=need then some w else voteF need (pre++[w]) r
abbrev bk (w:List Int):ByteArray:=⟨(keyL w).toArray⟩
theorem bk_inj {a b:List Int} (h:bk a=bk b):a=b:=keyL_inj (by
 injection h with h
 injection h)
def WrdOk (w:List Int):Prop:=w.length≤100000∧∀ x∈w,inR x
theorem nondet_key_eq {w:List Int} (h:WrdOk w):zl9 w=some (bk w):=by
 have:=h.1;unfold zl9;rw [zau h.2,zau (by omega)]
theorem vote_iter {l:List (List Int)} {need:Int} (hl:l.length≤100000) (hw:∀ x∈l,WrdOk x) :
  iter (fun (s:List (ByteArray×Int)×Nat)=>zcw.s2 l need s.1 s.2) fuel ([],0)=some (match voteF need [] l with | some w=>.inr (w,0,l) | none=>.inl ()):=by
 have key:∀ (n i:Nat) (m:List (ByteArray×Int)),i≤l.length→(∀ w,(mget (bk w) m).getD 0=(↑((l.take i).count w):Int))→l.length-i<n→iter (fun (s:List (ByteArray×Int)×Nat)=>zcw.s2 l need s.1 s.2) n (m,i)=some (match voteF need (l.take i) (l.drop i) with | some w=>.inr (w,0,l) | none=>.inl ()):=by
  intro n
  induction n with
  | zero=>intro i m _ _ h;omega
  | succ n ih =>
   intro i m hi hm hn;unfold iter;simp only [zcw.s2];rcases Nat.lt_or_ge i l.length with h | h
   ·have hx:=get_at h;have hk:=hw _ (List.getElem_mem h)
    have hc:(l.take (i+1)).count l[i]=(l.take i).count l[i]+1:=by
     rw [zcj hx,List.count_append];simp
    have hcl:(l.take i).count l[i]≤l.length:=Nat.le_trans List.count_le_length (by rw [List.length_take];omega);rw [zdj hx,zkD,za3 hx,nondet_key_eq hk,zaq,hm,zau (by unfold inR;omega),zjl ba_beq,Option.getD_some,List.drop_eq_getElem_cons h];unfold voteF;rw [← zcj hx,hc];by_cases g:(↑((l.take i).count l[i]):Int)+1=need
    ·rw [zkB g,zkD,zcx (by have:=hk.1;unfold SmW;omega),zaq,if_pos (by omega)]
    ·rw [zkA g,zkC,if_neg (by omega)];refine ih (i+1) _ h (fun w=>?_) (by omega);by_cases e:l[i]=w
     ·rw [← e,zjl ba_beq,Option.getD_some,hc];rfl
     ·rw [zqe ba_beq (fun e2=>e (bk_inj e2).symm),hm,zcj hx,List.count_append];simp [e]
   ·have e:i=l.length:=by omega
    subst e;rw [zc8,zkC,List.drop_length];rfl
 have:=key fuel 0 [] (Nat.zero_le _) (fun w=>by simp [mget]) (by have:=zcb;omega);rw [List.take_zero,List.drop_zero] at this;exact this
theorem zqr {l:List (List Int)} {need:Int} (hn:1≤need∧need≤9) (hl:l.length≤100000) (hw:∀ x∈l,WrdOk x) :
  zcw l need=some (match voteF need [] l with | some w=>(w,0,l) | none=>([],13,l)):=by
 unfold zcw;rw [zkA (by omega),zkC,zkA (by omega),zaq,zkC,vote_iter hl hw,zaq];cases voteF need [] l<;>rfl
def Few (need:Int) (l:List (List Int)):Prop:=∀ w,(↑(l.count w):Int)<need
theorem voteF_few {need:Int}:∀ (r pre:List (List Int)) (x:List Int),Few need (pre++r)→voteF need pre (r++[x])=if (↑((pre++r++[x]).count x):Int)<need then none else some x
 | [],pre,x,h=>by
  have h1:=h x;rw [List.append_nil] at h1 ⊢;have h2:(pre++[x]).count x=pre.count x+1:=by rw [List.count_append];simp
  rw [List.nil_append];unfold voteF;rw [h2];by_cases g:(↑(pre.count x+1):Int)<need
  ·rw [if_pos g,if_neg (by omega)];rfl
  ·rw [if_neg g,if_pos (by omega)]
 | w::r,pre,x,h=>by
  have h1:=h w
  have h2:(pre++[w]).count w≤(pre++w::r).count w:=by
   rw [List.count_append,List.count_append,List.count_cons];simp
  rw [List.cons_append];unfold voteF;rw [if_neg (by omega),voteF_few r (pre++[w]) x (by rw [List.append_assoc];exact h)];simp
theorem few_nil {need:Int} (h:1≤need):Few need []:=fun w=>by simp;omega
theorem few_add {need:Int} {l:List (List Int)} {x:List Int} (h:Few need l) (hx:(↑((l++[x]).count x):Int)<need):Few need (l++[x]):=fun w=>by
 by_cases e:x=w
 ·rw [← e];exact hx
 ·have:=h w;rw [List.count_append];simp [e];exact this
theorem R21_times_eq {l:List (List Int)} {w:List Int} (hl:l.length≤100000) (hw:∀ x∈l,x.length≤100000000):zfp l w=some (↑(l.count w):Int):=by
 unfold zfp
 have key:=zc2 (step:=fun (s:Nat×Nat)=>zfp.s2 l w s.1 s.2) (fun s=>s.2≤l.length∧s.1=(l.take s.2).count w) (fun s=>l.length-s.2) (fun r=>r=l.count w) (fun ⟨y,i⟩ ⟨g1,g2⟩=>by
  simp only at g1 g2
  subst g2
  simp only [zfp.s2]
  by_cases g3:i<l.length
  ·left
   have hx:=get_at g3
   have hcl:(l.take i).count w≤l.length:=Nat.le_trans List.count_le_length (by rw [List.length_take];omega)
   refine ⟨((l.take (i+1)).count w,i+1),?_,⟨g3,rfl⟩,by simp only;omega⟩
   rw [zdj hx,zkD,za3 hx,zku _ _ (by have:=hw _ (List.getElem_mem g3);omega),zaq,zcj hx,List.count_append]
   by_cases e:l[i]=w
   ·rw [zkB e,zkD,zau (by unfold inR;omega)]
    simp [e]
   ·rw [zkA e,zkC]
    simp [e]
  ·right
   have e:i=l.length:=by omega
   subst e
   exact ⟨_,by rw [zc8,zkC],by rw [List.take_length]⟩) fuel (0,0) ⟨Nat.zero_le _,by simp⟩ (by have:=zcb;simp only;omega)
 obtain ⟨r,e,rfl⟩:=key;rw [e,zaq]
end
section
set_option maxRecDepth 100000
structure OrOk (q:zae):Prop where
 dev:zf0 q.Device
 seed:zg9 q.Device
 obs:zia q.Obs
 tr:SmTr q.Obs.Traces
 inp:q.Obs.Inputs=q.Device.M.Inputs
 v1:1≤q.Votes
 v2:q.Votes≤9
 t1:q.Votes≤q.Tries
 t2:q.Tries≤64
def askL (w:List Int) (votes:Int):Nat→zad→Int→List (List Int)→zad×Int×List (List Int)×Option (List Int)
 | 0,d,n,ys=>(d,n,ys,none)
 | k+1,d,n,ys=>if (zbx d w).2.2≠0 then askL w votes k (zbx d w).1 (mdI (n+1)) ys else if (↑((ys++[(zbx d w).2.1]).count (zbx d w).2.1):Int)<votes then askL w votes k (zbx d w).1 (mdI (n+1)) (ys++[(zbx d w).2.1]) else ((zbx d w).1,mdI (n+1),ys++[(zbx d w).2.1],some (zbx d w).2.1)
def askR (q:zae) (w:List Int):zad×Int×List (List Int)×Option (List Int):=askL w q.Votes q.Tries.toNat q.Device q.Asked []
def askE (q:zae) (w:List Int) (r:zad×Int×List (List Int)×Option (List Int)):zae×List Int×Int :=
 match r.2.2.2 with
 | none=>(⟨r.1,q.Obs,q.Votes,q.Tries,r.2.1,q.Hits⟩,[],if r.2.2.1=[] then 14 else 13)
 | some out=>if (addO q.Obs ⟨w,out⟩).2≠0 then (⟨r.1,q.Obs,q.Votes,q.Tries,r.2.1,q.Hits⟩,[],(addO q.Obs ⟨w,out⟩).2) else (⟨r.1,(addO q.Obs ⟨w,out⟩).1,q.Votes,q.Tries,r.2.1,q.Hits⟩,out,0)
def askO (q:zae) (w:List Int):zae×List Int×Int :=
 if zbs w q.Device.M.Inputs≠0 then (q,[],zbs w q.Device.M.Inputs) else
  match ansO q.Obs w with
  | some r=>(⟨q.Device,q.Obs,q.Votes,q.Tries,q.Asked,mdI (q.Hits+1)⟩,r,0)
  | none=>askE q w (askR q w)
theorem mdI_small {n:Int} (h:inR n):mdI n=n:=by
 unfold inR at h;unfold mdI;rw [IntKind.wrap_i64];omega
structure zor (q:zae) (w:List Int) (d:zad) (ys:List (List Int)) (i:Int):Prop where
 dev:zf0 d
 seed:zg9 d
 mac:d.M=q.Device.M
 i0:0≤i
 i1:i≤q.Tries
 len:(↑ys.length:Int)≤i
 wrd:∀ y∈ys,WrdOk y
 few:Few q.Votes ys
section
variable {q:zae} {w:List Int} {d:zad} {ys:List (List Int)} {i n:Int}
theorem zor.out (Q:OrOk q) (hw:zbs w q.Device.M.Inputs=0) (hl:w.length≤1024) (T:zor q w d ys i) (h:(zbx d w).2.2=0):WrdOk (zbx d w).2.1∧(zbx d w).2.1.length=w.length∧∀ y∈(zbx d w).2.1,0≤y∧y≤1048576:=by
 have hM:=T.mac;obtain ⟨_,_,_,k4⟩:=queryD_ok (w:=w) T.dev T.seed (by rw [hM];exact hw);obtain ⟨g1,g2⟩:=k4 h;exact ⟨⟨by omega,fun x hx=>by have:=g2 x hx;unfold inR;omega⟩,g1,g2⟩
theorem zor.next (Q:OrOk q) (hw:zbs w q.Device.M.Inputs=0) (hl:w.length≤1024) (T:zor q w d ys i) (hi:i<q.Tries):zor q w (zbx d w).1 ys (i+1):=by
 have hM:=T.mac;have h0:=T.i0;have h1:=T.len;obtain ⟨k1,k2,k3,_⟩:=queryD_ok (w:=w) T.dev T.seed (by rw [hM];exact hw);exact ⟨k1,k2,by rw [k3,hM],by omega,by omega,by omega,T.wrd,T.few⟩
theorem zor.more (Q:OrOk q) (hw:zbs w q.Device.M.Inputs=0) (hl:w.length≤1024) (T:zor q w d ys i) (hi:i<q.Tries) (h:(zbx d w).2.2=0) (hc:(↑((ys++[(zbx d w).2.1]).count (zbx d w).2.1):Int)<q.Votes):zor q w (zbx d w).1 (ys++[(zbx d w).2.1]) (i+1):=by
 have T2:=T.next Q hw hl hi;have h1:=T.len;refine ⟨T2.dev,T2.seed,T2.mac,T2.i0,T2.i1,by rw [zkJ,List.length_singleton];omega,fun y hy=>?_,few_add T.few hc⟩;rcases List.mem_append.1 hy with e | e
 ·exact T.wrd y e
 ·rw [List.mem_singleton.1 e];exact (T.out Q hw hl h).1
abbrev TA:Type:=Int×Int×List (List Int)×List (List Int)×Int×Bool×List Int×Int×Int×Int×Int×Int×Int×Int×Int×Int×List (List Int)×List Int×Int×Int
abbrev TR:Type:=Int×Int×List (List Int)×List (List Int)×Int×Bool×List Int×Int×Int×Int×Int×Int×Int×Int×Int×Int×List Int×Int
abbrev tupA (d:zad) (n:Int) (ys:List (List Int)) (ans:List Int) (code i:Int):TA:=(d.M.Inputs,d.M.Start,d.M.Next,d.M.Out,d.State,d.Ready,d.Latency.Step,d.Latency.Reset,d.Faults.Lost,d.Faults.Wrong,d.Faults.Crash,d.Seed,d.Steps,d.Resets,d.Time,n,ys,ans,code,i)
abbrev tupR (d:zad) (n:Int) (ans:List Int) (code:Int):TR:=(d.M.Inputs,d.M.Start,d.M.Next,d.M.Out,d.State,d.Ready,d.Latency.Step,d.Latency.Reset,d.Faults.Lost,d.Faults.Wrong,d.Faults.Crash,d.Seed,d.Steps,d.Resets,d.Time,n,ans,code)
abbrev TB:Type:=Int×Int×List (List Int)×List (List Int)×Int×Bool×List Int×Int×Int×Int×Int×Int×Int×Int×Int×Int×List (List Int)×Int
abbrev TC:Type:=Int×Int×List (List Int)×List (List Int)×Int×Bool×List Int×Int×Int×Int×Int×Int×Int×Int×Int×Int×List (List Int)
abbrev tupB (d:zad) (n:Int) (ys:List (List Int)) (i:Int):TB:=(d.M.Inputs,d.M.Start,d.M.Next,d.M.Out,d.State,d.Ready,d.Latency.Step,d.Latency.Reset,d.Faults.Lost,d.Faults.Wrong,d.Faults.Crash,d.Seed,d.Steps,d.Resets,d.Time,n,ys,i)
abbrev tupC (d:zad) (n:Int) (ys:List (List Int)):TC:=(d.M.Inputs,d.M.Start,d.M.Next,d.M.Out,d.State,d.Ready,d.Latency.Step,d.Latency.Reset,d.Faults.Lost,d.Faults.Wrong,d.Faults.Crash,d.Seed,d.Steps,d.Resets,d.Time,n,ys)
theorem dev_eta (d:zad):(⟨⟨d.M.Inputs,d.M.Start,d.M.Next,d.M.Out⟩,d.State,d.Ready,⟨d.Latency.Step,d.Latency.Reset⟩,⟨d.Faults.Lost,d.Faults.Wrong,d.Faults.Crash⟩,d.Seed,d.Steps,d.Resets,d.Time⟩:zad)=d:=rfl
theorem pa_step {code:Int} (Q:OrOk q) (hw:zbs w q.Device.M.Inputs=0) (hl:w.length≤1024) (T:zor q w d ys i) :
  zcm.s10 w q d.M.Inputs d.M.Start d.M.Next d.M.Out d.State d.Ready d.Latency.Step d.Latency.Reset d.Faults.Lost d.Faults.Wrong d.Faults.Crash d.Seed d.Steps d.Resets d.Time n ys [] code i=some (if i<q.Tries then (if (zbx d w).2.2≠0 then .inl (tupA (zbx d w).1 (mdI (n+1)) ys [] code (mdI (i+1))) else if (↑((ys++[(zbx d w).2.1]).count (zbx d w).2.1):Int)<q.Votes then .inl (tupA (zbx d w).1 (mdI (n+1)) (ys++[(zbx d w).2.1]) [] 13 (mdI (i+1))) else .inr (tupR (zbx d w).1 (mdI (n+1)) (zbx d w).2.1 0)) else .inr (tupR d n [] code)):=by
 have t2:=Q.t2;have h1:=T.len;unfold zcm.s10;by_cases g:i<q.Tries
 ·rw [if_pos g,zkB g,zkD,dev_eta,Query_p T.dev T.seed (by rw [T.mac];exact hw) hl,zaq];by_cases g1:(zbx d w).2.2≠0
  ·rw [if_pos g1,zkB g1,zkD,zaq];rfl
  ·have g1':(zbx d w).2.2=0:=Classical.byContradiction g1;have ho:=T.out Q hw hl g1';rw [if_neg g1,zkA g1,zkC,zau (cap24 (by omega)),zqr ⟨Q.v1,Q.v2⟩ (by rw [zkJ,List.length_singleton];omega) fun y hy=>?_,zaq,voteF_few ys [] _ (by rw [List.nil_append];exact T.few),List.nil_append]
   ·by_cases g2:(↑((ys++[(zbx d w).2.1]).count (zbx d w).2.1):Int)<q.Votes
    ·rw [if_pos g2,if_pos g2];rfl
    ·rw [if_neg g2,if_neg g2];rfl
   ·rcases List.mem_append.1 hy with e | e
    ·exact T.wrd y e
    ·rw [List.mem_singleton.1 e];exact ho.1
 ·rw [if_neg g,zkA g,zkC]
theorem pa_iter (Q:OrOk q) (hw:zbs w q.Device.M.Inputs=0) (hl:w.length≤1024):∀ (f:Nat) (k:Nat) (d:zad) (n:Int) (ys:List (List Int)) (i:Int),zor q w d ys i→q.Tries-i=(↑k:Int)→k<f →
  iter (fun s=>zcm.s10 w q s.1 s.2.1 s.2.2.1 s.2.2.2.1 s.2.2.2.2.1 s.2.2.2.2.2.1 s.2.2.2.2.2.2.1 s.2.2.2.2.2.2.2.1 s.2.2.2.2.2.2.2.2.1 s.2.2.2.2.2.2.2.2.2.1 s.2.2.2.2.2.2.2.2.2.2.1 s.2.2.2.2.2.2.2.2.2.2.2.1 s.2.2.2.2.2.2.2.2.2.2.2.2.1 s.2.2.2.2.2.2.2.2.2.2.2.2.2.1 s.2.2.2.2.2.2.2.2.2.2.2.2.2.2.1 s.2.2.2.2.2.2.2.2.2.2.2.2.2.2.2.1 s.2.2.2.2.2.2.2.2.2.2.2.2.2.2.2.2.1 s.2.2.2.2.2.2.2.2.2.2.2.2.2.2.2.2.2.1 s.2.2.2.2.2.2.2.2.2.2.2.2.2.2.2.2.2.2.1 s.2.2.2.2.2.2.2.2.2.2.2.2.2.2.2.2.2.2.2:TA→Option (TA⊕TR)) f (tupA d n ys [] (if ys=[] then 14 else 13) i)=some (tupR (askL w q.Votes k d n ys).1 (askL w q.Votes k d n ys).2.1 ((askL w q.Votes k d n ys).2.2.2.getD []) (match (askL w q.Votes k d n ys).2.2.2 with | some _=>0 | none=>if (askL w q.Votes k d n ys).2.2.1=[] then 14 else 13))
 | 0,_,_,_,_,_,_,_,h=>absurd h (Nat.not_lt_zero _)
 | f+1,0,d,n,ys,i,T,hk,_=>by
  unfold iter askL;rw [pa_step Q hw hl T,if_neg (by omega)];rfl
 | f+1,k+1,d,n,ys,i,T,hk,hf=>by
  have t2:=Q.t2;have h0:=T.i0;unfold iter askL;rw [pa_step Q hw hl T,if_pos (by omega),mdI_small (n:=i+1) (by unfold inR;omega)];by_cases g1:(zbx d w).2.2≠0
  ·rw [if_pos g1,if_pos g1];exact pa_iter Q hw hl f k _ _ ys (i+1) (T.next Q hw hl (by omega)) (by omega) (by omega)
  ·have g1':(zbx d w).2.2=0:=Classical.byContradiction g1;rw [if_neg g1,if_neg g1];by_cases g2:(↑((ys++[(zbx d w).2.1]).count (zbx d w).2.1):Int)<q.Votes
   ·rw [if_pos g2,if_pos g2];have:=pa_iter Q hw hl f k _ (mdI (n+1)) (ys++[(zbx d w).2.1]) (i+1) (T.more Q hw hl (by omega) g1' g2) (by omega) (by omega);rw [if_neg (by simp)] at this;exact this
   ·rw [if_neg g2,if_neg g2];rfl
theorem ra_step (Q:OrOk q) (hw:zbs w q.Device.M.Inputs=0) (hl:w.length≤1024) (T:zor q w d ys i) :
  zet.s10 q w d.M.Inputs d.M.Start d.M.Next d.M.Out d.State d.Ready d.Latency.Step d.Latency.Reset d.Faults.Lost d.Faults.Wrong d.Faults.Crash d.Seed d.Steps d.Resets d.Time n ys i=some (if i<q.Tries then (if (zbx d w).2.2≠0 then .inl (tupB (zbx d w).1 (mdI (n+1)) ys (mdI (i+1))) else if (↑((ys++[(zbx d w).2.1]).count (zbx d w).2.1):Int)<q.Votes then .inl (tupB (zbx d w).1 (mdI (n+1)) (ys++[(zbx d w).2.1]) (mdI (i+1))) else .inr (.inr (askE q w ((zbx d w).1,mdI (n+1),ys++[(zbx d w).2.1],some (zbx d w).2.1)))) else .inr (.inl (tupC d n ys))):=by
 have t2:=Q.t2;have h1:=T.len;unfold zet.s10;by_cases g:i<q.Tries
 ·rw [if_pos g,zkB g,zkD,dev_eta,Query_r T.dev T.seed (by rw [T.mac];exact hw) hl,zaq];by_cases g1:(zbx d w).2.2≠0
  ·rw [if_pos g1,zkB g1,zkD,zaq];rfl
  ·have g1':(zbx d w).2.2=0:=Classical.byContradiction g1;have ho:=T.out Q hw hl g1';rw [if_neg g1,zkA g1,zkC,zau (cap24 (by omega)),R21_times_eq (by rw [zkJ,List.length_singleton];omega) fun y hy=>?_,zaq]
   ·by_cases g2:(↑((ys++[(zbx d w).2.1]).count (zbx d w).2.1):Int)<q.Votes
    ·rw [if_pos g2,zkB g2];rfl
    ·rw [if_neg g2,zkA g2,zkC,R16_Add_eq Q.tr Q.obs ⟨show SmW w by unfold SmW;omega,show SmW (zbx d w).2.1 by have:=ho.2.1;unfold SmW;omega⟩,zaq];unfold askE;simp only;by_cases g3:(addO q.Obs ⟨w,(zbx d w).2.1⟩).2≠0
     ·rw [if_pos g3,zkB g3];rfl
     ·rw [if_neg g3,zkA g3];rfl
   ·rcases List.mem_append.1 hy with e | e
    ·have:=(T.wrd y e).1;omega
    ·rw [List.mem_singleton.1 e];have:=ho.1.1;omega
 ·rw [if_neg g,zkA g,zkC]
def askF (q:zae) (w:List Int) (r:zad×Int×List (List Int)×Option (List Int)):TC⊕(zae×List Int×Int) :=
 match r.2.2.2 with
 | none=>.inl (tupC r.1 r.2.1 r.2.2.1)
 | some _=>.inr (askE q w r)
theorem ra_iter (Q:OrOk q) (hw:zbs w q.Device.M.Inputs=0) (hl:w.length≤1024):∀ (f:Nat) (k:Nat) (d:zad) (n:Int) (ys:List (List Int)) (i:Int),zor q w d ys i→q.Tries-i=(↑k:Int)→k<f →
  iter (fun s=>zet.s10 q w s.1 s.2.1 s.2.2.1 s.2.2.2.1 s.2.2.2.2.1 s.2.2.2.2.2.1 s.2.2.2.2.2.2.1 s.2.2.2.2.2.2.2.1 s.2.2.2.2.2.2.2.2.1 s.2.2.2.2.2.2.2.2.2.1 s.2.2.2.2.2.2.2.2.2.2.1 s.2.2.2.2.2.2.2.2.2.2.2.1 s.2.2.2.2.2.2.2.2.2.2.2.2.1 s.2.2.2.2.2.2.2.2.2.2.2.2.2.1 s.2.2.2.2.2.2.2.2.2.2.2.2.2.2.1 s.2.2.2.2.2.2.2.2.2.2.2.2.2.2.2.1 s.2.2.2.2.2.2.2.2.2.2.2.2.2.2.2.2.1 s.2.2.2.2.2.2.2.2.2.2.2.2.2.2.2.2.2:TB→Option (TB⊕(TC⊕(zae×List Int×Int)))) f (tupB d n ys i)=some (askF q w (askL w q.Votes k d n ys))
 | 0,_,_,_,_,_,_,_,h=>absurd h (Nat.not_lt_zero _)
 | f+1,0,d,n,ys,i,T,hk,_=>by
  unfold iter askL;rw [ra_step Q hw hl T,if_neg (by omega)];rfl
 | f+1,k+1,d,n,ys,i,T,hk,hf=>by
  have t2:=Q.t2;have h0:=T.i0;unfold iter askL;rw [ra_step Q hw hl T,if_pos (by omega),mdI_small (n:=i+1) (by unfold inR;omega)];by_cases g1:(zbx d w).2.2≠0
  ·rw [if_pos g1,if_pos g1];exact ra_iter Q hw hl f k _ _ ys (i+1) (T.next Q hw hl (by omega)) (by omega) (by omega)
  ·have g1':(zbx d w).2.2=0:=Classical.byContradiction g1;rw [if_neg g1,if_neg g1];by_cases g2:(↑((ys++[(zbx d w).2.1]).count (zbx d w).2.1):Int)<q.Votes
   ·rw [if_pos g2,if_pos g2];exact ra_iter Q hw hl f k _ (mdI (n+1)) (ys++[(zbx d w).2.1]) (i+1) (T.more Q hw hl (by omega) g1' g2) (by omega) (by omega)
   ·rw [if_neg g2,if_neg g2];rfl
theorem zjx (Q:OrOk q):zor q w q.Device [] 0:=⟨Q.dev,Q.seed,rfl,by decide,by have:=Q.v1;have:=Q.t1;omega,by simp,fun y hy=>by simp at hy,few_nil Q.v1⟩
theorem zmi (Q:OrOk q) (hw:zbs w q.Device.M.Inputs=0) (hl:w.length≤1024):∀ (k:Nat) (d:zad) (n:Int) (ys:List (List Int)) (i:Int),zor q w d ys i→q.Tries-i=(↑k:Int) →
  zf0 (askL w q.Votes k d n ys).1∧zg9 (askL w q.Votes k d n ys).1∧(askL w q.Votes k d n ys).1.M=q.Device.M∧∀ out,(askL w q.Votes k d n ys).2.2.2=some out→out.length=w.length∧∀ y∈out,0≤y∧y≤1048576
 | 0,d,n,ys,i,T,_=>⟨T.dev,T.seed,T.mac,fun out h=>by cases h⟩
 | k+1,d,n,ys,i,T,hk=>by
  unfold askL;by_cases g1:(zbx d w).2.2≠0
  ·rw [if_pos g1];exact zmi Q hw hl k _ _ ys (i+1) (T.next Q hw hl (by omega)) (by omega)
  ·have g1':(zbx d w).2.2=0:=Classical.byContradiction g1;rw [if_neg g1];by_cases g2:(↑((ys++[(zbx d w).2.1]).count (zbx d w).2.1):Int)<q.Votes
   ·rw [if_pos g2];exact zmi Q hw hl k _ _ _ (i+1) (T.more Q hw hl (by omega) g1' g2) (by omega)
   ·rw [if_neg g2];have T2:=T.next Q hw hl (by omega);refine ⟨T2.dev,T2.seed,T2.mac,fun out h=>?_⟩;have h:some (zbx d w).2.1=some out:=h;injection h with h
    rw [← h];exact (T.out Q hw hl g1').2
theorem Ask_p (Q:OrOk q) (hl:w.length≤100000):zcm q w=some (askO q w):=by
 have hsw:SmW w:=by unfold SmW;omega
 have hf:=zcb;have t2:=Q.t2;have hk:q.Tries-0=(↑q.Tries.toNat:Int):=by have:=Q.v1;have:=Q.t1;omega
 unfold zcm askO;rw [zg7 _ _ hsw,zaq];by_cases hw:zbs w q.Device.M.Inputs=0
 ·have hl2:w.length≤1024:=by
   have i1:=Q.dev.mac.i1;have i2:=Q.dev.mac.i2;unfold zbs at hw;rw [if_pos (by omega)] at hw;split at hw
   ·cases hw
   ·omega
  rw [if_neg (by simpa using hw),hw,zkA (by decide),zkC,zqh Q.dev Q.tr,zaq,zod Q.tr Q.obs,zaq];cases ha:ansO q.Obs w with
  | some r =>
   have hr:SmW r:=by
    unfold ansO at ha;split at ha
    ·injection ha with ha
     rw [← ha];unfold SmW;simp
    ·cases hf:q.Obs.Traces.find? fun t=>decide (w <+: t.In) with
     | none=>rw [hf] at ha;cases ha
     | some t =>
      rw [hf] at ha;injection ha with ha
      rw [← ha];unfold SmW;simp only [List.length_take];omega
   simp only [zkD];rw [zcx hr,zaq]
  | none =>
   simp only [zkC];obtain ⟨o1,o2,o3,o4⟩:=zmi Q hw hl2 q.Tries.toNat q.Device q.Asked [] 0 (zjx Q) hk;have key:=pa_iter Q hw hl2 fuel q.Tries.toNat q.Device q.Asked [] 0 (zjx Q) hk (by omega);rw [if_pos rfl] at key;refine (congrArg (fun z=>Option.bind z _) key).trans ?_;rw [zaq];show _=some (askE q w (askL w q.Votes q.Tries.toNat q.Device q.Asked []));unfold askE;generalize askL w q.Votes q.Tries.toNat q.Device q.Asked []=r at o4;obtain ⟨d',n',ys',res⟩:=r;simp only [zcm.k11] at o4 ⊢;cases res with
   | none =>
    simp only;rw [zkB (by split<;>decide),zkD]
   | some out =>
    obtain ⟨p1,p2⟩:=o4 out rfl;have hso:SmW out:=by unfold SmW;omega
    simp only [Option.getD_some];rw [zkA (by decide),zkC,zcx hsw,zaq,zcx hso,zaq,zt4 Q.tr Q.obs ⟨hsw,hso⟩,zaq];by_cases g3:(addO q.Obs ⟨w,out⟩).2≠0
    ·rw [if_pos g3,zkB g3];rfl
    ·rw [if_neg g3,zkA g3];rfl
 ·rw [if_pos hw,zkB hw];rfl
theorem Ask_r (Q:OrOk q) (hl:w.length≤100000):zet q w=some (askO q w):=by
 have hsw:SmW w:=by unfold SmW;omega
 have hf:=zcb;have t2:=Q.t2;have hk:q.Tries-0=(↑q.Tries.toNat:Int):=by have:=Q.v1;have:=Q.t1;omega
 unfold zet askO;rw [zgv _ _ hsw,zaq];by_cases hw:zbs w q.Device.M.Inputs=0
 ·have hl2:w.length≤1024:=by
   have i1:=Q.dev.mac.i1;have i2:=Q.dev.mac.i2;unfold zbs at hw;rw [if_pos (by omega)] at hw;split at hw
   ·cases hw
   ·omega
  rw [if_neg (by simpa using hw),hw,zkA (by decide),zkC,ztt Q.tr Q.obs,zaq];cases ha:ansO q.Obs w with
  | some r =>
   have hr:SmW r:=by
    unfold ansO at ha;split at ha
    ·injection ha with ha
     rw [← ha];unfold SmW;simp
    ·cases hf:q.Obs.Traces.find? fun t=>decide (w <+: t.In) with
     | none=>rw [hf] at ha;cases ha
     | some t =>
      rw [hf] at ha;injection ha with ha
      rw [← ha];unfold SmW;simp only [List.length_take];omega
   rfl
  | none =>
   simp only [zkC];obtain ⟨o1,o2,o3,o4⟩:=zmi Q hw hl2 q.Tries.toNat q.Device q.Asked [] 0 (zjx Q) hk;have key:=ra_iter Q hw hl2 fuel q.Tries.toNat q.Device q.Asked [] 0 (zjx Q) hk (by omega);refine (congrArg (fun z=>Option.bind z _) key).trans ?_;rw [zaq];show _=some (askE q w (askL w q.Votes q.Tries.toNat q.Device q.Asked []));unfold askF;generalize askL w q.Votes q.Tries.toNat q.Device q.Asked []=r;obtain ⟨d',n',ys',res⟩:=r;cases res with
   | none =>
    simp only [Sum.elim_inl,zet.k11,askE];cases ys' with
    | nil=>rfl
    | cons y ys' =>
     rw [zkB (by simp only [zkL];omega)];rfl
   | some out=>rfl
 ·rw [if_pos hw,zkB hw];rfl
end
end
section
set_option maxRecDepth 100000
end
section
set_option maxRecDepth 100000
structure SmQ (q:zae):Prop where
 n:q.Device.M.Next.length≤2000000
 s:q.Device.Latency.Step.length≤2000000
 o:SmO q.Obs
 seed:zg9 q.Device
theorem L16_Great_eq {o:zan} (h:o.Traces.length≤2000000):ze5 o=some (decide (60<o.Traces.length)||!o.Traces.all fun x=>decide (x.In.length≤100∧x.Out.length≤100)):=by
 unfold ze5;by_cases g:60<o.Traces.length
 ·rw [zkB (by omega),zkD,zkB g];rfl
 ·rw [zkA (by omega),zkC,zkA g,Bool.false_or]
  have key:=zdl (step:=fun s=>ze5.s2 o s) (l:=o.Traces) (fun _ x=>if decide (x.In.length≤100∧x.Out.length≤100)=true then none else some true) (fun i x hx=>by
   simp only [ze5.s2]
   rw [zdj hx,zkD,za3 hx,za3 hx]
   by_cases a1:x.In.length≤100
   ·by_cases a2:x.Out.length≤100
    ·rw [zkA (by omega),zkC,zkA (by omega),zaq,zkC,zkB ⟨a1,a2⟩]
     rfl
    ·rw [zkA (by omega),zkC,zkB (by omega),zaq,zkD,zkA fun e=>a2 e.2]
     rfl
   ·rw [zkB (by omega),zkD,zaq,zkD,zkA fun e=>a1 e.1]
    rfl) (by
   simp only [ze5.s2]
   rw [zc8]
   rfl) (by omega)
  rw [key,zmb (p:=fun (x:zaa)=>decide (x.In.length≤100∧x.Out.length≤100)),zaq];by_cases h2:(o.Traces.all fun x=>decide (x.In.length≤100∧x.Out.length≤100))=true
  ·rw [if_pos h2,h2];rfl
  ·rw [if_neg h2,Bool.not_eq_true _ |>.mp h2]
   rfl
theorem L21_Great_tot {q:zae} (h:SmQ q):∃ b,zli q=some b∧(b=false→q.Obs.Traces.length≤60∧∀ x∈q.Obs.Traces,x.In.length≤100∧x.Out.length≤100):=by
 unfold zli;by_cases g1:20<(↑q.Device.M.Next.length:Int)
 ·exact ⟨true,by rw [zkB g1];rfl,fun e=>by cases e⟩
 rw [zkA g1,zkC];by_cases g2:10<q.Device.M.Inputs
 ·exact ⟨true,by rw [zkB g2];rfl,fun e=>by cases e⟩
 rw [zkA g2,zkC];by_cases g3:20<(↑q.Device.Latency.Step.length:Int)
 ·exact ⟨true,by rw [zkB g3];rfl,fun e=>by cases e⟩
 rw [zkA g3,zkC,L16_Great_eq (by have:=h.o.1;omega),zaq,zaq];refine ⟨_,rfl,fun e=>?_⟩;rw [Bool.or_eq_false_iff] at e;have e1:=of_decide_eq_false e.1;refine ⟨by omega,fun x hx=>?_⟩
 have e2:(q.Obs.Traces.all fun x=>decide (x.In.length≤100∧x.Out.length≤100))=true:=by
  have:=e.2;simpa only [Bool.not_eq_false'] using this
 exact of_decide_eq_true (List.all_eq_true.1 e2 x hx)
theorem R21_Valid_tot {q:zae} (h:SmQ q) (ho:SmO q.Obs):∃ b,zln q=some b∧(b=true→OrOk q):=by
 obtain ⟨e1,h1,z1⟩:=R19_Valid_tot q.Device (by have:=h.s;omega);obtain ⟨e2,h2,z2⟩:=R16_Valid_tot q.Obs ho;unfold zln;rw [h1,zaq,h2,zaq];by_cases g1:e1=0
 ·rw [zkB g1,zkD];by_cases g2:e2=0
  ·rw [zkB g2,zkD];by_cases g3:q.Obs.Inputs=q.Device.M.Inputs
   ·rw [zkB g3,zkD];by_cases g4:1≤q.Votes
    ·rw [zkB g4,zkD];by_cases g5:q.Votes≤9
     ·rw [zkB g5,zkD];by_cases g6:q.Votes≤q.Tries
      ·rw [zkB g6,zkD,zaq];exact ⟨_,rfl,fun e=>⟨z1 g1,h.seed,z2 g2,ho.tr,g3,g4,g5,g6,of_decide_eq_true e⟩⟩
      ·exact ⟨false,by rw [zkA g6];rfl,fun e=>by cases e⟩
     ·exact ⟨false,by rw [zkA g5];rfl,fun e=>by cases e⟩
    ·exact ⟨false,by rw [zkA g4];rfl,fun e=>by cases e⟩
   ·exact ⟨false,by rw [zkA g3];rfl,fun e=>by cases e⟩
  ·exact ⟨false,by rw [zkA g2];rfl,fun e=>by cases e⟩
 ·exact ⟨false,by rw [zkA g1];rfl,fun e=>by cases e⟩
theorem zit {l:List zaa} (h:SmTr l):zch l l=some true:=by
 have hl:=h.1;unfold zch
 have key:=zdl (step:=fun s=>zch.s2 l l s) (l:=l) (fun _ _=>(none:Option Bool)) (fun i x hx=>by
  have hs:=h.2 x (zkH hx)
  have h1:=hs.1
  have h2:=hs.2
  unfold SmW at h1 h2
  simp only [zch.s2]
  rw [zdj hx,zkD,za3 hx,za3 hx,zku _ _ (by omega),zaq,zkB rfl,Bool.not_true,zkC,za3 hx,za3 hx,zku _ _ (by omega),zaq,zkB rfl]
  rfl) (by
  simp only [zch.s2]
  rw [zc8]
  rfl) (by omega)
 have hn:∀ (m:List zaa) (j:Nat),scan (fun _ _=>(none:Option Bool)) j m=none:=by
  intro m
  induction m with
  | nil=>intro j;rfl
  | cons x m ih =>
   intro j;unfold scan;exact ih _
 rw [key,hn,zkA (by simp),zkC];rfl
theorem R16_Same_self {o:zan} (h:SmTr o.Traces):zn0 o o=some true:=by
 unfold zn0;rw [zkB rfl,zkD,zit h];rfl
theorem R06_Same_self {m:zab} (H:zj5 m):zn3 m m=some true:=by
 have h1:=H.sml.1;have h2:=H.sml.2;have l1:=h1.1;have l2:=h2.1;unfold zn3;rw [zqf _ _ (by omega) fun x hx=>by have:=h1.2 x hx;unfold SmW at this;omega,zqf _ _ (by omega) fun x hx=>by have:=h2.2 x hx;unfold SmW at this;omega];simp
theorem R19_Same_self {d:zad} (H:zf0 d):zok d d=some true:=by
 unfold zok;rw [R06_Same_self H.mac,zaq,R01_Same_eq _ _ H.sw];simp
theorem R21_Same_self {q:zae} (H:zf0 q.Device) (h:SmTr q.Obs.Traces):zos q q=some true:=by
 unfold zos;rw [R19_Same_self H,zaq,R16_Same_self h];simp
theorem addO_len {o:zan} {t:zaa}:(addO o t).1.Traces.length≤o.Traces.length+1:=by
 unfold addO;split
 ·simp only;omega
 ·split
  ·simp only;omega
  ·split
   ·simp only;omega
   ·exact addL_length _ _
theorem addO_tr {o:zan} {t:zaa} (h:SmTr o.Traces) (hn:o.Traces.length≤1000000) (ht:SmX t):SmTr (addO o t).1.Traces:=by
 refine ⟨by have:=addO_len (o:=o) (t:=t);omega,?_⟩;unfold addO;split
 ·exact h.2
 ·split
  ·exact h.2
  ·split
   ·exact h.2
   ·intro x hx;have hx:x∈addL o.Traces t:=hx;unfold addL at hx;split at hx
    ·exact h.2 x hx
    ·rcases ziy.1 hx with e | e
     ·rw [e];exact ht
     ·exact h.2 x (List.filter_sublist.subset e)
theorem addO_inp {o:zan} {t:zaa}:(addO o t).1.Inputs=o.Inputs:=by
 unfold addO;split
 ·rfl
 ·split
  ·rfl
  ·split<;>rfl
section
variable {q:zae} {w:List Int}
theorem askO_ok (Q:OrOk q) (hn:q.Obs.Traces.length≤900000) (hl:w.length≤100000):OrOk (askO q w).1∧(askO q w).1.Obs.Traces.length≤q.Obs.Traces.length+1∧(askO q w).2.1.length≤2000000:=by
 unfold askO;by_cases hw:zbs w q.Device.M.Inputs=0
 ·rw [if_neg (by simpa using hw)]
  have hl2:w.length≤1024:=by
   have i1:=Q.dev.mac.i1;have i2:=Q.dev.mac.i2;unfold zbs at hw;rw [if_pos (by omega)] at hw;split at hw
   ·cases hw
   ·omega
  cases ha:ansO q.Obs w with
  | some r =>
   refine ⟨⟨Q.dev,Q.seed,Q.obs,Q.tr,Q.inp,Q.v1,Q.v2,Q.t1,Q.t2⟩,by simp only;omega,?_⟩;simp only;unfold ansO at ha;split at ha
   ·injection ha with ha
    rw [← ha];simp
   ·cases hf:q.Obs.Traces.find? fun t=>decide (w <+: t.In) with
    | none=>rw [hf] at ha;cases ha
    | some t =>
     rw [hf] at ha;injection ha with ha
     rw [← ha];simp only [List.length_take];omega
  | none =>
   have hk:q.Tries-0=(↑q.Tries.toNat:Int):=by have:=Q.v1;have:=Q.t1;omega
   obtain ⟨o1,o2,o3,o4⟩:=zmi Q hw hl2 q.Tries.toNat q.Device q.Asked [] 0 (zjx Q) hk;simp only;unfold askR askE;generalize askL w q.Votes q.Tries.toNat q.Device q.Asked []=r at o1 o2 o3 o4;obtain ⟨d',n',ys',res⟩:=r;simp only at o1 o2 o3 o4 ⊢;cases res with
   | none=>exact ⟨⟨o1,o2,Q.obs,Q.tr,by rw [Q.inp];simp only [o3],Q.v1,Q.v2,Q.t1,Q.t2⟩,by simp only;omega,by simp⟩
   | some out =>
    obtain ⟨p1,p2⟩:=o4 out rfl;simp only;split
    ·exact ⟨⟨o1,o2,Q.obs,Q.tr,by rw [Q.inp];simp only [o3],Q.v1,Q.v2,Q.t1,Q.t2⟩,by simp only;omega,by simp⟩
    ·refine ⟨⟨o1,o2,addO_ok Q.obs,addO_tr Q.tr (by omega) ⟨show SmW w by unfold SmW;omega,show SmW out by unfold SmW;omega⟩,by simp only [addO_inp,Q.inp,o3],Q.v1,Q.v2,Q.t1,Q.t2⟩,addO_len,by simp only;omega⟩
 ·rw [if_pos hw];exact ⟨Q,by simp only;omega,by simp⟩
theorem check_pre {p:List Int} {n:Int} (h:p <+: w) (hw:zbs w n=0) (hn:1≤n∧n≤1024):zbs p n=0:=by
 unfold zbs at hw ⊢;rw [if_pos hn] at hw ⊢;have hle:=h.length_le;split at hw
 ·cases hw
 ·rw [if_neg (by omega)];split at hw
  ·rename_i h3;rw [if_pos (List.all_eq_true.2 fun x hx=>List.all_eq_true.1 h3 x (h.subset hx))]
  ·cases hw
theorem ans_add {o:zan} {t:zaa} (ho:zia o) (h:(addO o t).2=0):ansO (addO o t).1 t.In=some t.Out:=by
 unfold addO at h ⊢;by_cases g1:znl t o.Inputs≠0
 ·rw [if_pos g1] at h;exact absurd h g1
 ·rw [if_neg g1] at h ⊢;have hp:zke o.Inputs t:=zmk.1 (by simpa using g1);by_cases g2:zkz o.Traces t
  ·rw [if_pos g2] at h;cases h
  ·rw [if_neg g2] at h ⊢;by_cases g3:10000<(addL o.Traces t).length
   ·rw [if_pos g3] at h;cases h
   ·rw [if_neg g3];unfold ansO;by_cases g4:t.In=[]
    ·rw [if_pos g4];have:=hp.2.1;rw [g4] at this;rw [List.eq_nil_of_length_eq_zero this]
    ·rw [if_neg g4]
     have hall:∀ u∈addL o.Traces t,t.In <+: u.In→u.Out.take t.In.length=t.Out:=fun u hu hpre=>by
      have hag:Agree u t:=by
       unfold addL at hu;split at hu
       ·exact Classical.byContradiction fun e=>g2 ⟨u,hu,e⟩
       ·rcases ziy.1 hu with e | e
        ·rw [e];unfold Agree;rfl
        ·exact Classical.byContradiction fun e2=>g2 ⟨u,List.filter_sublist.subset e,e2⟩
      have hc:zaw u.In t.In=t.In.length:=(zj4 u.In t.In).2 hpre;unfold Agree at hag;rw [hc] at hag;rw [hag,List.take_of_length_le (by rw [hp.2.1];exact Nat.le_refl _)]
     have hex:∃ u∈addL o.Traces t,t.In <+: u.In:=by
      unfold addL;split
      ·rename_i h5;rcases h5 with h5 | h5
       ·obtain ⟨u,hu,hp⟩:=List.any_eq_true.1 h5;exact ⟨u,hu,of_decide_eq_true hp⟩
       ·exact absurd h5 g4
      ·exact ⟨t,ziy.2 (.inl rfl),List.prefix_refl _⟩
     cases hf:(addL o.Traces t).find? fun u=>decide (t.In <+: u.In) with
     | none =>
      obtain ⟨u,hu,hpre⟩:=hex;have:=List.find?_eq_none.1 hf u hu;exact absurd (zkB hpre) this
     | some u =>
      have hpre:decide (t.In <+: u.In)=true:=List.find?_some (p:=fun (u:zaa)=>decide (t.In <+: u.In)) hf;exact congrArg some (hall u (List.mem_of_find?_eq_some hf) (of_decide_eq_true hpre))
end
end
section
theorem sum_mem {α:Type} {f:α→Nat}:∀ {l:List α} {x:α},x∈l→f x≤(l.map f).sum
 | y::l,x,h=>by
  rw [List.map_cons,List.sum_cons];rcases List.mem_cons.1 h with rfl | h
  ·omega
  ·have:=sum_mem (f:=f) h;omega
theorem sum_len {α:Type} {f:α→Nat} (hf:∀ x,1≤f x):∀ l:List α,l.length≤(l.map f).sum
 | []=>by simp
 | y::l=>by
  have:=sum_len hf l;have:=hf y;rw [List.map_cons,List.sum_cons,zkL];omega
theorem zpo {x:List Int}:x.length+1=szL sz1 x:=by
 unfold szL sz1
 induction x with
 | nil=>rfl
 | cons y l ih=>simp at ih ⊢;omega
theorem sml_of {l:List (List Int)} {N:Nat} (h:szL (szL sz1) l≤N) (hN:N≤2000000):SmL l:=by
 unfold szL at h;refine ⟨?_,fun x hx=>?_⟩
 ·have:=sum_len (f:=szL sz1) (fun x=>by rw [← zpo];omega) l;unfold szL at this;omega
 ·have:=sum_mem (f:=szL sz1) hx;rw [← zpo] at this;unfold szL at this;unfold SmW;omega
theorem trace_pos (t:zaa):1≤zel t:=by unfold zel;omega
theorem smo_of {o:zan} (s:zj0 o≤1048576):SmO o:=by
 unfold zj0 at s;have s1:szL zel o.Traces≤1048576:=by omega
 refine ⟨?_,fun t ht=>?_⟩
 ·have:=sum_len (f:=zel) trace_pos o.Traces;unfold szL at s1;omega
 ·have h1:=sum_mem (f:=zel) ht;have h2:=zpo (x:=t.In);have h3:=zpo (x:=t.Out);have h4:(o.Traces.map zel).sum+1≤1048576:=s1;have h5:zel t=(szL sz1 t.In+(szL sz1 t.Out+0))+1:=rfl;omega
theorem len_of {l:List (List Int)} {N:Nat} (h:szL (szL sz1) l≤N):l.length≤N:=by
 have:=sum_len (f:=szL sz1) (fun x=>by rw [← zpo];omega) l;unfold szL at this h;omega
theorem smq_of {q:zae} (k:zkl q) (s:zif q≤1048576):SmQ q:=by
 unfold zif at s;have s1:zib q.Device≤1048576:=by omega
 have s2:zj0 q.Obs≤1048576:=by omega
 have ho:=smo_of s2;unfold zib at s1;have s3:zh0 q.Device.M≤1048576:=by omega
 have s4:zhq q.Device.Latency≤1048576:=by omega
 unfold zh0 at s3;unfold zhq at s4;have h1:q.Device.M.Next.length≤1048576:=len_of (by omega);have h2:=zpo (x:=q.Device.Latency.Step);exact ⟨by omega,by omega,ho,k.1.2.2.2.2.2.1⟩
end
section
set_option maxRecDepth 100000
def zmq (n:Int) (ws:List (List Int)):Option Int:=scan (fun _ w=>if zbs w n≠0 then some (zbs w n) else none) 0 ws
theorem znh {n:Int} {ws:List (List Int)} (h:zmq n ws=none):∀ w∈ws,zbs w n=0:=fun w hw=>by
 obtain ⟨i,hi⟩:=List.mem_iff_getElem?.1 hw;have:=zis.1 h i w hi;split at this
 ·cases this
 ·rename_i g;exact Classical.byContradiction g
section
variable {q:zae} {ws:List (List Int)}
end
end
section
set_option maxRecDepth 100000
theorem scan_map {α R R':Type} {g:Nat→α→Option R} {f:R→R'}:∀ (l:List α) (j:Nat),scan (fun i x=>(g i x).map f) j l=(scan g j l).map f
 | [],_=>rfl
 | x::l,j=>by
  unfold scan;cases g j x with
  | some r=>rfl
  | none=>exact scan_map l (j+1)
theorem zqv {α R:Type} {g:Nat→α→Option R} {r:R}:∀ {l:List α} {j:Nat},scan g j l=some r→∃ i x,l[i]?=some x∧g (j+i) x=some r
 | [],_,h=>by cases h
 | x::l,j,h=>by
  unfold scan at h;cases e:g j x with
  | some q =>
   rw [e] at h;exact ⟨0,x,rfl,by rw [Nat.add_zero,e];exact h⟩
  | none =>
   rw [e] at h;obtain ⟨i,y,h1,h2⟩:=zqv (j:=j+1) h;exact ⟨i+1,y,by simpa using h1,by rw [show j+(i+1)=j+1+i by omega,h2]⟩
def celE (n:Nat) (u v:Int):Option Int:=if u<0∨(↑n:Int)≤u∨v<0∨1048576<v then some 2 else none
def rowE (m:zab) (s:Nat) (x:List Int):Option Int :=
 if (↑x.length:Int)≠m.Inputs∨(↑((m.Out[s]?).getD []).length:Int)≠m.Inputs then some 1 else scan (fun a u=>celE m.Next.length u ((((m.Out[s]?).getD [])[a]?).getD 0)) 0 x
def zfg (m:zab):Int :=
 if m.Inputs<1∨64<m.Inputs then 2 else if m.Next.length=0 then 19 else if 128<m.Next.length then 11 else if m.Start<0∨(↑m.Next.length:Int)≤m.Start then 2 else if m.Out.length≠m.Next.length then 1
 else match scan (rowE m) 0 m.Next with | some e=>e | none=>0
section
variable {m:zab}
theorem rowE_ne {s:Nat} {x:List Int} {e:Int} (h:rowE m s x=some e):e≠0:=by
 unfold rowE at h;split at h
 ·injection h with h
  omega
 ·obtain ⟨i,u,_,h2⟩:=zqv h;unfold celE at h2;split at h2
  ·injection h2 with h2
   omega
  ·cases h2
theorem cel_cond {n:Nat} {u v:Int}:(cond (decide (u<0)) (some true) (cond (decide ((↑n:Int)≤u)) (some true) (cond (decide (v<0)) (some true) (some (decide (1048576<v))))):Option Bool)=some (celE n u v).isSome:=by
 unfold celE;by_cases h1:u<0<;>by_cases h2:(↑n:Int)≤u<;>by_cases h3:v<0<;>by_cases h4:1048576<v<;>simp [h1,h2,h3,h4]
theorem celE_two {n:Nat} {u v:Int}:celE n u v=if (celE n u v).isSome=true then some 2 else none:=by
 unfold celE;split<;>rfl
theorem row_len {s:Nat} {x y:List Int} (hx:m.Next[s]?=some x) (hy:m.Out[s]?=some y) :
  (idxn m.Next s fun e57=>cond (decide ((↑e57.length:Int)≠m.Inputs)) (some true) (idxn m.Out s fun e59=>some (decide ((↑e59.length:Int)≠m.Inputs))):Option Bool)=some (decide ((↑x.length:Int)≠m.Inputs∨(↑y.length:Int)≠m.Inputs)):=by
 rw [za3 hx];by_cases h:(↑x.length:Int)=m.Inputs
 ·rw [zkA (fun k=>k h),zkC,za3 hy];simp [h]
 ·rw [zkB h,zkD];simp [h]
theorem idx_nat {α β:Type} {l:List α} {i:Nat} {k:α→Option β}:idx l (↑i:Int) k=idxn l i k:=by
 cases h:l[i]? with
 | some x=>rw [zd0 rfl h,za3 h]
 | none =>
  unfold idx idxn;rw [h,if_pos (by omega),Int.toNat_natCast,h]
theorem R06_row_eq (hi:m.Inputs≤64) {s:Nat} {x y:List Int} (hx:m.Next[s]?=some x) (hy:m.Out[s]?=some y):zgc m (↑s:Int)=some (match rowE m s x with | some e=>e | none=>0):=by
 unfold zgc;rw [idx_nat];simp only [idx_nat];rw [row_len hx hy,zaq];unfold rowE;rw [hy,Option.getD_some];by_cases h:(↑x.length:Int)≠m.Inputs∨(↑y.length:Int)≠m.Inputs
 ·rw [zkB h,zkD,if_pos h]
 ·rw [zkA h,zkC,if_neg h];have h1:(↑x.length:Int)=m.Inputs:=Classical.byContradiction fun q=>h (Or.inl q);have h2:(↑y.length:Int)=m.Inputs:=Classical.byContradiction fun q=>h (Or.inr q);rw [zdl (l:=x) (fun a u=>celE m.Next.length u ((y[a]?).getD 0)) (fun a u hu=>?_) ?_ (by omega),zaq]
  ·cases scan (fun a u=>celE m.Next.length u ((y[a]?).getD 0)) 0 x<;>rfl
  ·simp only [zgc.s2];rw [zkA (by omega),zkC]
  ·have ha:=(zkI.1 hu).1;have hv:y[a]?=some y[a]:=get_at (by omega);rw [hv,Option.getD_some];simp only [zgc.s2,idx_nat];rw [zkB (by omega),zkD];simp only [za3 hx,za3 hy,za3 hu,za3 hv];rw [cel_cond,zaq];cases e:celE m.Next.length u y[a] with
   | none =>
    rw [Option.isSome_none,zkC,zau (by unfold inR;omega)]
   | some r =>
    have:=celE_two (n:=m.Next.length) (u:=u) (v:=y[a]);rw [e] at this;injection this with this
    rw [this,Option.isSome_some,zkD]
theorem mealy_row_eq (hi:m.Inputs≤64) {s:Nat} {x y:List Int} (hx:m.Next[s]?=some x) (hy:m.Out[s]?=some y):za9.s14 m s=some (match rowE m s x with | some e=>.inr (.inr e) | none=>.inl (s+1)):=by
 have hs:=(zkI.1 hx).1;simp only [za9.s14];rw [zkB (by omega),zkD,row_len hx hy,zaq];unfold rowE;rw [hy,Option.getD_some];by_cases h:(↑x.length:Int)≠m.Inputs∨(↑y.length:Int)≠m.Inputs
 ·rw [zkB h,zkD,if_pos h]
 ·rw [zkA h,zkC,if_neg h];have h1:(↑x.length:Int)=m.Inputs:=Classical.byContradiction fun q=>h (Or.inl q);have h2:(↑y.length:Int)=m.Inputs:=Classical.byContradiction fun q=>h (Or.inr q);rw [zdl (l:=x) (fun a u=>(celE m.Next.length u ((y[a]?).getD 0)).map fun r=>(.inr (.inr r):Nat⊕(Unit⊕Int))) (fun a u hu=>?_) ?_ (by omega),zaq,scan_map]
  ·cases scan (fun a u=>celE m.Next.length u ((y[a]?).getD 0)) 0 x<;>rfl
  ·simp only [za9.s13];rw [zkA (by omega),zkC]
  ·have ha:=(zkI.1 hu).1;have hv:y[a]?=some y[a]:=get_at (by omega);rw [hv,Option.getD_some];simp only [za9.s13];rw [zkB (by omega),zkD];simp only [za3 hx,za3 hy,za3 hu,za3 hv];rw [cel_cond,zaq];cases e:celE m.Next.length u y[a] with
   | none =>
    rw [Option.isSome_none,zkC,zau (by unfold inR;omega)];rfl
   | some r =>
    have:=celE_two (n:=m.Next.length) (u:=u) (v:=y[a]);rw [e] at this;injection this with this
    rw [this,Option.isSome_some,zkD];rfl
theorem zp9 (m:zab):zde m=some (zfg m):=by
 unfold zde zfg;by_cases c1:m.Inputs<1
 ·rw [zkB c1,if_pos (Or.inl c1)];rfl
 rw [zkA c1,zkC];by_cases c2:64<m.Inputs
 ·rw [zkB c2,if_pos (Or.inr c2)];rfl
 rw [zkA c2,zaq,zkC,if_neg (by omega)];by_cases c3:m.Next.length=0
 ·rw [zkB (by omega),if_pos c3];rfl
 rw [zkA (by omega),zkC,if_neg c3];by_cases c4:128<m.Next.length
 ·rw [zkB (by omega),if_pos c4];rfl
 rw [zkA (by omega),zkC,if_neg c4];by_cases c5:m.Start<0
 ·rw [zkB c5,if_pos (Or.inl c5)];rfl
 rw [zkA c5,zkC];by_cases c6:(↑m.Next.length:Int)≤m.Start
 ·rw [zkB c6,if_pos (Or.inr c6)];rfl
 rw [zkA c6,zaq,zkC,if_neg (by omega)];by_cases c7:m.Out.length=m.Next.length
 ·rw [zkA (by omega),zkC,if_neg (by omega),zdl (l:=m.Next) (rowE m) (fun s x hx=>?_) ?_ (by omega),zaq]
  ·cases scan (rowE m) 0 m.Next<;>rfl
  ·simp only [zde.s2];rw [zkA (by omega),zkC]
  ·have hs:=(zkI.1 hx).1;simp only [zde.s2];rw [zkB (by omega),zkD,R06_row_eq (by omega) hx (get_at (l:=m.Out) (by omega)),zaq];cases e:rowE m s x with
   | none=>rfl
   | some r=>rw [zkB (rowE_ne e),zkD]
 ·rw [zkB (by omega),if_pos c7];rfl
theorem zm4 (m:zab):za9 m=some (zfg m):=by
 unfold za9 zfg;by_cases c1:m.Inputs<1
 ·rw [zkB c1,if_pos (Or.inl c1)];rfl
 rw [zkA c1,zkC];by_cases c2:64<m.Inputs
 ·rw [zkB c2,if_pos (Or.inr c2)];rfl
 rw [zkA c2,zaq,zkC,if_neg (by omega)];by_cases c3:m.Next.length=0
 ·rw [zkB (by omega),if_pos c3];rfl
 rw [zkA (by omega),zkC,if_neg c3];by_cases c4:128<m.Next.length
 ·rw [zkB (by omega),if_pos c4];rfl
 rw [zkA (by omega),zkC,if_neg c4];by_cases c5:m.Start<0
 ·rw [zkB c5,if_pos (Or.inl c5)];rfl
 rw [zkA c5,zkC];by_cases c6:(↑m.Next.length:Int)≤m.Start
 ·rw [zkB c6,if_pos (Or.inr c6)];rfl
 rw [zkA c6,zaq,zkC,if_neg (by omega)];by_cases c7:m.Out.length=m.Next.length
 ·rw [zkA (by omega),zkC,if_neg (by omega),zdl (l:=m.Next) (rowE m) (fun s x hx=>?_) ?_ (by omega),zaq]
  ·cases scan (rowE m) 0 m.Next<;>rfl
  ·simp only [za9.s14];rw [zkA (by omega),zkC]
  ·have hs:=(zkI.1 hx).1;rw [mealy_row_eq (by omega) hx (get_at (l:=m.Out) (by omega))];cases rowE m s x<;>rfl
 ·rw [zkB (by omega),if_pos c7];rfl
theorem zo0 (h:zfg m=0):zj5 m:=macOk_of (by rw [zp9,h])
def fromM (m:zab) (s:Int) (w:List Int):List Int×Int×Int :=
 if zfg m≠0 then ([],0,zfg m) else if s<0∨(↑m.Next.length:Int)≤s then ([],0,2) else if zbs w m.Inputs≠0 then ([],0,zbs w m.Inputs) else (outs m s.toNat w,(↑(dest m s.toNat w):Int),0)
theorem ze7 {w:List Int} {n:Int} (h:zbs w n=0):w.length≤1024:=by
 unfold zbs at h;split at h
 ·split at h
  ·cases h
  ·omega
 ·cases h
theorem runner_eq (H:zj5 m) {s:Nat} (hs:s<m.Next.length) {w:List Int} (hw:WOk m.Inputs w) (hl:w.length≤100000000):zbv (⟨(⟨m⟩:zdp),(↑s:Int)⟩:zcr) w=some (outs m s w,(⟨(⟨m⟩:zdp),(↑(dest m s w):Int)⟩:zcr)):=by
 unfold zbv
 have key:=zpa (step:=fun (q:Int×List Int×Nat)=>zbv.s2 (⟨(⟨m⟩:zdp),(↑s:Int)⟩:zcr) w q.1 q.2.1 q.2.2) (r:=((↑(dest m s w):Int),outs m s w)) (fun q=>q.2.2≤w.length∧q.1=(↑(dest m s (w.take q.2.2)):Int)∧q.2.1=outs m s (w.take q.2.2)) (fun q=>w.length-q.2.2) (fun q ⟨g1,g2,g3⟩=>by
  obtain ⟨st,y,k⟩:=q
  simp only at g1 g2 g3
  subst g2
  subst g3
  simp only [zbv.s2,zfx]
  by_cases g4:k<w.length
  ·left
   have hx:=get_at g4
   obtain ⟨x0,x1⟩:=hw _ (List.getElem_mem g4)
   have ha:w[k].toNat<m.Inputs.toNat:=by omega
   have hd:Sym.dest m s (w.take k)<m.Next.length:=H.dest (hw.take k) hs
   obtain ⟨_,_,_,x,y,e1,e2,e3,e4⟩:=H.at hd ha
   refine ⟨((↑(Sym.dest m s (w.take (k+1))):Int),outs m s (w.take (k+1)),k+1),?_,⟨g4,rfl,rfl⟩,by simp only;omega⟩
   rw [zdj hx,zkD,za3 hx,zd0 rfl e1,zd0 (i:=w[k].toNat) (by omega) e3,zd0 rfl e2,zd0 (i:=w[k].toNat) (by omega) e4,zaq,zau (by unfold zbt;rw [zhr,List.length_take];omega),zcj hx,ziq,zgn]
   rfl
  ·right
   have e:k=w.length:=by omega
   subst e
   rw [zkA (by omega),zkC,List.take_length]) (n:=fuel) (s:=((↑s:Int),[],0)) ⟨Nat.zero_le _,rfl,rfl⟩ (by have:=zcb;simp only;omega)
 rw [key,zaq];rfl
theorem mealy_From_eq {s:Int} {w:List Int} (hw:SmW w):zii m s w=some (fromM m s w):=by
 unfold zii zkn fromM;rw [zm4,zaq];by_cases c1:zfg m=0
 ·rw [zkA (by omega),zkC,if_neg (by omega)];by_cases c2:s<0
  ·rw [zkB c2,if_pos (Or.inl c2)];rfl
  rw [zkA c2,zkC];by_cases c3:(↑m.Next.length:Int)≤s
  ·rw [zkB c3,if_pos (Or.inr c3)];rfl
  rw [zkA c3,zaq,zkC,if_neg (by omega),zaq,zkA (by omega),zkC,zg7 _ _ hw,zaq];by_cases c4:zbs w m.Inputs=0
  ·have:=ze7 c4;have hO:=runner_eq (zo0 c1) (s:=s.toNat) (by omega) (w:=w) (zrg c4) (by omega);rw [show (↑s.toNat:Int)=s by omega] at hO;rw [zkA (by omega),zkC,if_neg (by omega),hO,zaq]
  ·rw [zkB c4,zkD,if_pos c4]
 ·rw [zkB c1,zkD,if_pos c1,zaq,zkB c1,zkD]
end
end
section
set_option maxRecDepth 100000
section
variable {m:zab} {ids:List (List (List Int))} {w:List Int}
theorem fromM_start (hw:SmW w) (h:zfg m=0):fromM m m.Start w=if zbs w m.Inputs≠0 then ([],0,zbs w m.Inputs) else (outs m m.Start.toNat w,(↑(dest m m.Start.toNat w):Int),0):=by
 have H:=zo0 h;have:=H.st;unfold fromM;rw [if_neg (by omega),if_neg (by omega)]
end
end
section
set_option maxRecDepth 100000
section
variable {A:Type} [DecidableEq A]
def bfsB (e:A→Nat→A) (K:Nat) (s0:A):Nat→List (A×List Int)
 | 0=>[(s0,[])]
 | r+1=>match (bfsB e K s0 r)[r / K]? with
  | none=>bfsB e K s0 r
  | some x=>if e x.1 (r%K)∈(bfsB e K s0 r).map Prod.fst then bfsB e K s0 r else bfsB e K s0 r++[(e x.1 (r%K),x.2++[(↑(r%K):Int)])]
theorem dm_div {K i a:Nat} (h:a<K):(i*K+a) / K=i:=by
 rw [Nat.add_comm,Nat.add_mul_div_right _ _ (by omega),Nat.div_eq_of_lt h,Nat.zero_add]
theorem mem_lt {i n a K:Nat} (hi:i<n) (ha:a<K):i*K+a<n*K:=by
 have:(i+1)*K≤n*K:=Nat.mul_le_mul_right K hi;rw [Nat.succ_mul] at this;omega
variable {e:A→Nat→A} {K:Nat} {s0:A}
theorem bfs_pre1 (r:Nat):bfsB e K s0 r <+: bfsB e K s0 (r+1):=by
 rw [bfsB];split
 ·exact List.prefix_refl _
 ·split
  ·exact List.prefix_refl _
  ·exact List.prefix_append _ _
theorem bfs_pre {r:Nat}:∀ {r':Nat},r≤r'→bfsB e K s0 r <+: bfsB e K s0 r'
 | 0,h=>by
  have:r=0:=by omega
  subst this;exact List.prefix_refl _
 | r'+1,h=>by
  rcases Nat.lt_or_ge r (r'+1) with g | g
  ·exact (bfs_pre (r':=r') (by omega)).trans (bfs_pre1 r')
  ·have:r=r'+1:=by omega
   subst this;exact List.prefix_refl _
theorem pre_get {α:Type} {l l':List α} (h:l <+: l') {i:Nat} {x:α} (hx:l[i]?=some x):l'[i]?=some x:=by
 obtain ⟨t,rfl⟩:=h;rw [List.getElem?_append_left (zkI.1 hx).1,hx]
theorem bfs_pos (r:Nat):(bfsB e K s0 r)[0]?=some (s0,[]):=pre_get (bfs_pre (Nat.zero_le r)) rfl
theorem bfs_nodup:∀ r:Nat,((bfsB e K s0 r).map Prod.fst).Nodup
 | 0=>by simp [bfsB]
 | r+1=>by
  have ih:=bfs_nodup r;rw [bfsB];split
  ·exact ih
  ·split
   ·exact ih
   ·rename_i x _ hn;rw [List.map_append,List.nodup_append];refine ⟨ih,by simp,fun a ha b hb hab=>hn ?_⟩;have:b=e x.1 (r%K):=by simpa using hb
    rw [← this,← hab];exact ha
theorem bfs_from:∀ {r u:Nat} {x:A×List Int},(bfsB e K s0 r)[u]?=some x→u=0∨∃ r' y,r'<r∧r' / K<u∧(bfsB e K s0 r)[r' / K]?=some y∧x=(e y.1 (r'%K),y.2++[(↑(r'%K):Int)])
 | 0,u,x,h=>by
  left;have:=(zkI.1 h).1;simp [bfsB] at this;exact this
 | r+1,u,x,h=>by
  have old:(bfsB e K s0 r)[u]?=some x→u=0∨∃ r' y,r'<r+1∧r' / K<u∧(bfsB e K s0 (r+1))[r' / K]?=some y∧x=(e y.1 (r'%K),y.2++[(↑(r'%K):Int)]):=fun h=>by
   rcases bfs_from h with h | ⟨r',y,h1,h2,h3,h4⟩
   ·exact Or.inl h
   ·exact Or.inr ⟨r',y,by omega,h2,pre_get (bfs_pre1 r) h3,h4⟩
  have hh:=h;rw [bfsB] at h;split at h
  ·exact old h
  ·rename_i y hy;split at h
   ·exact old h
   ·rename_i hn;rcases Nat.lt_or_ge u (bfsB e K s0 r).length with g | g
    ·rw [List.getElem?_append_left g] at h;exact old h
    ·right;rw [List.getElem?_append_right g] at h
     have hu:u-(bfsB e K s0 r).length=0:=by
      have:=(zkI.1 h).1;simpa using this
     rw [hu] at h
     have hx:x=(e y.1 (r%K),y.2++[(↑(r%K):Int)]):=by
      simp at h;exact h.symm
     have hk:=(zkI.1 hy).1;exact ⟨r,y,by omega,by omega,pre_get (bfs_pre1 r) hy,hx⟩
structure zh2 (e:A→Nat→A) (K:Nat) (s0:A) (L:List (A×List Int)):Prop where
 eq:L=bfsB e K s0 (L.length*K)
variable {L:List (A×List Int)}
theorem zh2.at (h:zh2 e K s0 L) {r:Nat} (hr:r≤L.length*K):bfsB e K s0 r <+: L:=by
 have:=bfs_pre (e:=e) (K:=K) (s0:=s0) hr;rw [← h.eq] at this;exact this
theorem zh2.first (h:zh2 e K s0 L):L[0]?=some (s0,[]):=by
 rw [h.eq];exact bfs_pos _
theorem zh2.nodup (h:zh2 e K s0 L):(L.map Prod.fst).Nodup:=by
 rw [h.eq];exact bfs_nodup _
theorem zh2.long (h:zh2 e K s0 L) {i a:Nat} (hi:i<L.length) (ha:a<K):∃ x,L[i]?=some x∧(bfsB e K s0 (i*K+a))[i]?=some x:=by
 refine ⟨_,zkM hi,?_⟩;have hpre:=h.at (r:=i*K+a) (by have:=mem_lt hi ha;omega);rcases Nat.lt_or_ge i (bfsB e K s0 (i*K+a)).length with g | g
 ·have:=pre_get hpre (zkM g);rw [zkM hi] at this;rw [zkM g,this]
 ·exfalso
  have stay:∀ d,bfsB e K s0 (i*K+a+d)=bfsB e K s0 (i*K+a):=by
   intro d
   induction d with
   | zero=>rfl
   | succ d ih =>
    show bfsB e K s0 (i*K+a+d+1)=_;rw [bfsB,ih,List.getElem?_eq_none ?_];have h1:(i*K+a) / K≤(i*K+a+d) / K:=Nat.div_le_div_right (by omega);rw [dm_div ha] at h1;omega
  have h2:=stay (L.length*K-(i*K+a));rw [show i*K+a+(L.length*K-(i*K+a))=L.length*K by have:=mem_lt hi ha;omega,← h.eq] at h2;rw [← h2] at g;omega
theorem zh2.from (h:zh2 e K s0 L) (hK:0<K) {u:Nat} {x:A×List Int} (hx:L[u]?=some x):u=0∨∃ i a y,i<u∧a<K∧L[i]?=some y∧x=(e y.1 a,y.2++[(↑a:Int)]):=by
 have hx':=hx;rw [h.eq] at hx';rcases bfs_from hx' with q | ⟨r',z,q1,q2,q3,q4⟩
 ·exact Or.inl q
 ·rw [← h.eq] at q3;exact Or.inr ⟨r' / K,r'%K,z,q2,Nat.mod_lt _ hK,q3,q4⟩
theorem zh2.uniq {L':List (A×List Int)} (hK:0<K) (h:zh2 e K s0 L) (h':zh2 e K s0 L'):L=L':=by
 have key:∀ {L L':List (A×List Int)},zh2 e K s0 L→zh2 e K s0 L'→L.length≤L'.length→L=L':=fun {L L'} h h' hl=>by
  rcases Nat.lt_or_ge L.length L'.length with g | g
  ·exfalso
   have hpre:L <+: L':=by
    have:=h'.at (r:=L.length*K) (Nat.mul_le_mul_right K hl)
    rwa [← h.eq] at this
   obtain ⟨x,_,hx⟩:=h'.long g hK;rw [Nat.add_zero,← h.eq,List.getElem?_eq_none (Nat.le_refl _)] at hx;cases hx
  ·have e1:L.length=L'.length:=by omega
   rw [h.eq,h'.eq,e1]
 rcases Nat.le_total L.length L'.length with g | g
 ·exact key h h' g
 ·exact (key h' h g).symm
end
end
section
set_option maxRecDepth 100000
def E (m:zab):Nat→Nat→Nat→Prop
 | 0,_,_=>True
 | k+1,s,t=>E m k s t∧∀ a,a<m.Inputs.toNat→ot m s a=ot m t a∧E m k (nx m s a) (nx m t a)
section
variable {m:zab}
structure ClsOk (m:zab) (k:Nat) (c:List Int):Prop where
 len:c.length=m.Next.length
 rng:∀ s,s<m.Next.length→∃ x:Nat,c[s]?=some (↑x:Int)∧x<m.Next.length
 cls:∀ s t,s<m.Next.length→t<m.Next.length→(c[s]?=c[t]?↔E m k s t)
structure FinOk (m:zab) (k:Nat) (y:List Int) (n s:Nat):Prop where
 ls:s≤m.Next.length
 len:y.length=s
 cnt:n≤s
 rng:∀ i,i<s→∃ x:Nat,y[i]?=some (↑x:Int)∧x<n
 cls:∀ i j,i<s→j<s→(y[i]?=y[j]?↔E m k i j)
open Classical in
open Classical in
open Classical in
open Classical in
end
end
section
set_option maxRecDepth 100000
theorem nodup_le {α:Type} [DecidableEq α]:∀ {l l':List α},l.Nodup→(∀ x∈l,x∈l')→l.length≤l'.length
 | [],_,_,_=>Nat.zero_le _
 | x::l,l',h,hs=>by
  have h1:=List.nodup_cons.1 h;have hx:=hs x (by simp);have ih:=nodup_le (l:=l) (l':=l'.erase x) h1.2 (fun y hy=>(List.mem_erase_of_ne (fun e=>h1.1 (by rw [← e];exact hy))).2 (hs y (List.mem_cons_of_mem _ hy)));rw [List.length_erase_of_mem hx] at ih;have:=List.length_pos_of_mem hx;simp only [zkL];omega
def Ext (l l':List Nat):Prop:=∀ j u:Nat,l[j]?=some u→l'[j]?=some u
theorem Ext.rfl' {l:List Nat}:Ext l l:=fun _ _ h=>h
theorem Ext.trans {l l' l'':List Nat} (h:Ext l l') (g:Ext l' l''):Ext l l'':=fun j u e=>g j u (h j u e)
theorem Ext.push (l:List Nat) (t:Nat):Ext l (l++[t]):=fun j u h=>by
 have:=(zkI.1 h).1;rw [List.getElem?_append_left this,h]
structure Num (m:zab) (c:List Int) (ord:List Nat) (num:List Int):Prop where
 rng:∀ u∈ord,u<m.Next.length
 start:ord[0]?=some m.Start.toNat
 len:num.length=m.Next.length
 n1:∀ j u x:Nat,ord[j]?=some u→c[u]?=some (↑x:Int)→num[x]?=some (↑j:Int)
 n2:∀ x:Nat,x<m.Next.length→num[x]?=some (-1:Int)∨∃ j u:Nat,num[x]?=some (↑j:Int)∧ord[j]?=some u∧c[u]?=some (↑x:Int)
 reach:∀ j u:Nat,ord[j]?=some u→j=0∨∃ i v a:Nat,i<j∧ord[i]?=some v∧a<m.Inputs.toNat∧u=nx m v a
section
variable {m:zab} {c num:List Int} {ord:List Nat} {k:Nat}
theorem Num.inj (N:Num m c ord num) (C:ClsOk m k c) {i j u v:Nat} (hi:ord[i]?=some u) (hj:ord[j]?=some v) (h:c[u]?=c[v]?):i=j:=by
 obtain ⟨x,x1,_⟩:=C.rng u (N.rng u (zkH hi));have h1:=N.n1 i u x hi x1;have h2:=N.n1 j v x hj (by rw [← h,x1]);rw [h1] at h2;injection h2 with h2
 omega
theorem Num.nodup (N:Num m c ord num) (C:ClsOk m k c):ord.Nodup:=by
 refine List.pairwise_iff_getElem.2 fun i j hi hj hij h=>?_;have:=N.inj C (get_at hi) (get_at hj) (by rw [h]);omega
theorem Num.le (N:Num m c ord num) (C:ClsOk m k c):ord.length≤m.Next.length:=by
 have:=nodup_le (N.nodup C) (l':=List.range m.Next.length) fun x hx=>List.mem_range.2 (N.rng x hx)
 rwa [List.length_range] at this
theorem Num.push (N:Num m c ord num) {i v a t x:Nat} (hi:ord[i]?=some v) (ha:a<m.Inputs.toNat) (ht:t=nx m v a) (htn:t<m.Next.length) (hx:c[t]?=some (↑x:Int)) (hxn:x<m.Next.length) (hn:num[x]?=some (-1:Int)):Num m c (ord++[t]) (num.set x (↑ord.length:Int)) where
 rng:=fun u hu=>by
  rcases List.mem_append.1 hu with h | h
  ·exact N.rng u h
  ·rw [List.mem_singleton.1 h];exact htn
 start:=Ext.push ord t 0 _ N.start
 len:=by rw [List.length_set,N.len]
 n1:=fun j u y hj hc=>by
  rcases Nat.lt_or_ge j ord.length with h | h
  ·rw [List.getElem?_append_left h] at hj;have h1:=N.n1 j u y hj hc
   have hne:x≠y:=fun e=>by
    subst e;rw [hn] at h1;injection h1 with h1
    omega
   rw [List.getElem?_set_ne hne];exact h1
  ·have h2:=(zkI.1 hj).1;rw [zkJ,List.length_singleton] at h2;have e:j=ord.length:=by omega
   subst e;rw [List.getElem?_append_right (Nat.le_refl _),Nat.sub_self] at hj;injection hj with hj
   subst hj;rw [hx] at hc;injection hc with hc
   have e:x=y:=by omega
   subst e;rw [List.getElem?_set_self (by rw [N.len];exact hxn)]
 n2:=fun y hy=>by
  by_cases e:x=y
  ·subst e;exact Or.inr ⟨ord.length,t,by rw [List.getElem?_set_self (by rw [N.len];exact hxn)],by simp,hx⟩
  ·rw [List.getElem?_set_ne e];rcases N.n2 y hy with h | ⟨j,u,h1,h2,h3⟩
   ·exact Or.inl h
   ·exact Or.inr ⟨j,u,h1,Ext.push ord t j u h2,h3⟩
 reach:=fun j u hj=>by
  rcases Nat.lt_or_ge j ord.length with h | h
  ·rw [List.getElem?_append_left h] at hj;rcases N.reach j u hj with h1 | ⟨i',v',a',h1,h2,h3,h4⟩
   ·exact Or.inl h1
   ·exact Or.inr ⟨i',v',a',h1,Ext.push ord t i' v' h2,h3,h4⟩
  ·have h2:=(zkI.1 hj).1;rw [zkJ,List.length_singleton] at h2;have e:j=ord.length:=by omega
   subst e;rw [List.getElem?_append_right (Nat.le_refl _),Nat.sub_self] at hj;injection hj with hj
   exact Or.inr ⟨i,v,a,(zkI.1 hi).1,Ext.push ord t i v hi,ha,by rw [← hj,ht]⟩
structure RowAt (m:zab) (c:List Int) (ord:List Nat) (v:Nat) (row out:List Int) (a:Nat):Prop where
 l1:row.length=a
 l2:out.length=a
 cell:∀ b,b<a→∃ j u:Nat,row[b]?=some (↑j:Int)∧ord[j]?=some u∧c[u]?=c[nx m v b]?∧out[b]?=some (ot m v b)
theorem RowAt.mono {v:Nat} {row out:List Int} {a:Nat} {ord':List Nat} (h:Ext ord ord') (R:RowAt m c ord v row out a):RowAt m c ord' v row out a :=
 ⟨R.l1,R.l2,fun b hb=>by
  obtain ⟨j,u,h1,h2,h3⟩:=R.cell b hb
  exact ⟨j,u,h1,h j u h2,h3⟩⟩
structure MinOk (m M:zab) (c:List Int) (ord:List Nat) (num:List Int):Prop where
 cls:ClsOk m m.Next.length c
 num:Num m c ord num
 inp:M.Inputs=m.Inputs
 start:M.Start=0
 l1:M.Next.length=ord.length
 l2:M.Out.length=ord.length
 row:∀ i v:Nat,ord[i]?=some v→∃ row out,M.Next[i]?=some row∧M.Out[i]?=some out∧RowAt m c ord v row out m.Inputs.toNat
end
end
section
set_option maxRecDepth 100000
section
variable {m:zab}
abbrev MEnd (m:zab) (s0:Nat) (L:List (Nat×List Int)):Prop:=zh2 (nx m) m.Inputs.toNat s0 L
structure SeenOk (n:Nat) (y:List Bool) (l:List Nat):Prop where
 len:y.length=n
 at_:∀ t,t<n→y[t]?=some (decide (t∈l))
theorem SeenOk.push {n t:Nat} {y:List Bool} {l:List Nat} (S:SeenOk n y l) (ht:t<n):SeenOk n (y.set t true) (l++[t]):=by
 refine ⟨by simp [S.len],fun u hu=>?_⟩;by_cases h:t=u
 ·subst h;rw [List.getElem?_set_self (by rw [S.len];exact ht)];simp
 ·rw [List.getElem?_set_ne h,S.at_ u hu];congr 1;apply decide_eq_decide.2;rw [List.mem_append];constructor
  ·exact Or.inl
  ·rintro (q | q)
   ·exact q
   ·exact absurd (by simpa using q:u=t).symm h
end
end
section
set_option maxRecDepth 100000
section
variable {m:zab}
end
end
section
set_option maxRecDepth 100000
section
variable {a b:zab}
def pE (a b:zab) (p:Nat×Nat) (x:Nat):Nat×Nat:=(nx a p.1 x,nx b p.2 x)
def pB (a b:zab) (p0:Nat×Nat) (r:Nat):List ((Nat×Nat)×List Int):=bfsB (pE a b) a.Inputs.toNat p0 r
abbrev PEnd (a b:zab) (p0:Nat×Nat) (L:List ((Nat×Nat)×List Int)):Prop:=zh2 (pE a b) a.Inputs.toNat p0 L
def difB (a b:zab) (p0:Nat×Nat) (r:Nat):Bool:=match (pB a b p0 r)[r / a.Inputs.toNat]? with
 | some x=>decide (ot a x.1.1 (r%a.Inputs.toNat)≠ot b x.1.2 (r%a.Inputs.toNat))
 | none=>false
structure Two (a b:zab):Prop where
 a1:zj5 a
 b1:zj5 b
 inp:a.Inputs=b.Inputs
def Fst (a b:zab) (p0:Nat×Nat) (res:List Int×Bool):Prop :=
 (∃ i c x,c<a.Inputs.toNat∧(pB a b p0 (i*a.Inputs.toNat+c))[i]?=some x∧ot a x.1.1 c≠ot b x.1.2 c∧(∀ r,r<i*a.Inputs.toNat+c→difB a b p0 r=false)∧res=(x.2++[(↑c:Int)],true)) ∨
 (∃ L,PEnd a b p0 L∧(∀ r,r<L.length*a.Inputs.toNat→difB a b p0 r=false)∧res=([],false))
end
end
section
set_option maxRecDepth 100000
section
variable {a b:zab}
structure SeenG (n k:Nat) (y:List (List Bool)) (l:List (Nat×Nat)):Prop where
 len:y.length=n
 at_:∀ s t,s<n→t<k→∃ row,y[s]?=some row∧row.length=k∧row[t]?=some (decide ((s,t)∈l))
theorem pair_mem {l:List (Nat×Nat)} {p q:Nat×Nat} (h:p≠q):p∈l↔p∈l++[q]:=by
 rw [List.mem_append,List.mem_singleton];exact ⟨Or.inl,fun z=>z.elim id fun e=>absurd e h⟩
theorem SeenG.push {n k s t:Nat} {y:List (List Bool)} {l:List (Nat×Nat)} {row:List Bool} (S:SeenG n k y l) (hs:s<n) (ht:t<k) (hr:y[s]?=some row):SeenG n k (y.set s (row.set t true)) (l++[(s,t)]):=by
 refine ⟨by simp [S.len],fun u v hu hv=>?_⟩;obtain ⟨row',h1,h2,h3⟩:=S.at_ u v hu hv;by_cases h:s=u
 ·subst h;rw [hr] at h1;injection h1 with h1
  subst h1;refine ⟨row.set t true,by rw [List.getElem?_set_self (by rw [S.len];exact hs)],by simp [h2],?_⟩;by_cases g:t=v
  ·subst g;rw [List.getElem?_set_self (by omega)];simp
  ·rw [List.getElem?_set_ne g,h3];congr 1;apply decide_eq_decide.2;exact pair_mem fun e=>g (congrArg Prod.snd e).symm
 ·refine ⟨row',by rw [List.getElem?_set_ne h,h1],h2,?_⟩;rw [h3];congr 1;apply decide_eq_decide.2;exact pair_mem fun e=>h (congrArg Prod.fst e).symm
end
end
section
set_option maxRecDepth 100000
section
variable {a b:zab}
end
end
section
set_option maxRecDepth 100000
structure Can (M:zab):Prop where
 c4:∀ i a u,i<M.Next.length→a<M.Inputs.toNat→0<u→u≤nx M i a→∃ i' a',a'<M.Inputs.toNat∧i'*M.Inputs.toNat+a'≤i*M.Inputs.toNat+a∧i'<u∧nx M i' a'=u
 c5:∀ u,0<u→u<M.Next.length→∃ i a,i<u∧a<M.Inputs.toNat∧nx M i a=u
def Eqv (a:zab) (s:Nat) (b:zab) (t:Nat):Prop:=∀ w,WOk a.Inputs w→outs a s w=outs b t w
structure MinSem (m M:zab):Prop where
 ok:zj5 M
 inp:M.Inputs=m.Inputs
 start:M.Start=0
 eqv:Eqv M 0 m m.Start.toNat
 min:∀ i j,i<M.Next.length→j<M.Next.length→Eqv M i M j→i=j
 can:Can M
theorem Eqv.step {a b:zab} (hi:a.Inputs=b.Inputs) {s t c:Nat} (h:Eqv a s b t) (hc:c<a.Inputs.toNat):ot a s c=ot b t c∧Eqv a (nx a s c) b (nx b t c):=by
 have key:∀ w,WOk a.Inputs w→ot a s c::outs a (nx a s c) w=ot b t c::outs b (nx b t c) w:=fun w hw=>by
  have:=h ((↑c:Int)::w) (fun x hx=>by
   rcases List.mem_cons.1 hx with rfl | hx
   ·omega
   ·exact hw x hx)
  exact this
 have h0:=key [] (fun x hx=>by cases hx);injection h0 with h0 _
 refine ⟨h0,fun w hw=>?_⟩;have:=key w hw;injection this with _ this
theorem Eqv.symm {a b:zab} (hi:a.Inputs=b.Inputs) {s t:Nat} (h:Eqv a s b t):Eqv b t a s:=fun w hw=>(h w (by rw [hi];exact hw)).symm
theorem Eqv.trans {a b c:zab} (hi:a.Inputs=b.Inputs) {s t u:Nat} (h:Eqv a s b t) (g:Eqv b t c u):Eqv a s c u:=fun w hw=>(h w hw).trans (g w (by rw [← hi];exact hw))
theorem Eqv.refl (a:zab) (s:Nat):Eqv a s a s:=fun _ _=>rfl
theorem Eqv.dest {a b:zab} (hi:a.Inputs=b.Inputs) {s t:Nat} (h:Eqv a s b t) {w:List Int} (hw:WOk a.Inputs w):Eqv a (dest a s w) b (dest b t w):=fun v hv=>by
 have:=h (w++v) (hw.append hv);rw [zgn,zgn] at this;exact List.append_inj_right this (by rw [zhr,zhr])
section
variable {M M':zab}
end
structure Shape {A:Type} [DecidableEq A] (e:A→Nat→A) (o:A→Nat→Int) (L:List (A×List Int)) (M:zab):Prop where
 len:M.Next.length=L.length
 row:∀ i x a,L[i]?=some x→a<M.Inputs.toNat→∃ y,L[nx M i a]?=some y∧y.1=e x.1 a∧ot M i a=o x.1 a
end
section
set_option maxRecDepth 100000
section
variable {m:zab}
structure TrimOk (m t:zab) (L:List (Nat×List Int)):Prop where
 end_:MEnd m m.Start.toNat L
 inp:t.Inputs=m.Inputs
 start:t.Start=0
 ok:zj5 t
 shape:Shape (nx m) (ot m) L t
end
end
section
set_option maxRecDepth 100000
section
variable {κ ν:Type} [BEq κ]
end
section
variable {m:zab} {c:List Int}
def sigV (m:zab) (c:List Int) (s a p:Nat):Int:=if p<a then ot m s p else if 64≤p∧p-64<a then (c[nx m s (p-64)]?).getD 0 else 0
def sigA (m:zab) (c:List Int) (s:Nat):List Int:=(List.range 128).map (sigV m c s m.Inputs.toNat)
def FirstOcc (o:List Int):Prop:=∀ (s x:Nat),o[s]?=some (↑x:Int)→∀ u:Nat,u<x→∃ s',s'<s∧o[s']?=some (↑u:Int)
structure ClsF (m:zab) (k:Nat) (c:List Int):Prop where
 cls:ClsOk m k c
 first:FirstOcc c
structure Giv (m:zab) (c:List Int) (mp:List (List Int×Int)) (o:List Int) (s:Nat):Prop where
 len:o.length=m.Next.length
 keys:∀ p∈mp,p.1.length=128
 le:mp.length≤s
 get:∀ s',s'<s→∃ x:Nat,x<mp.length∧o[s']?=some (↑x:Int)∧mget (sigA m c s') mp=some (↑x:Int)
 org:∀ k v,mget k mp=some v→∃ s',s'<s∧sigA m c s'=k
 inj:∀ s' s'',s'<s→s''<s→o[s']?=o[s'']?→sigA m c s'=sigA m c s''
 first:∀ (s' x:Nat),s'<s→o[s']?=some (↑x:Int)→∀ u:Nat,u<x→∃ s'',s''<s'∧o[s'']?=some (↑u:Int)
 all:∀ u:Nat,u<mp.length→∃ s',s'<s∧o[s']?=some (↑u:Int)
open Classical in
open Classical in
end
end
section
set_option maxRecDepth 100000
section
variable {m t:zab} {c:List Int}
def IsFirst (c:List Int) (s u:Nat):Prop:=c[s]?=some (↑u:Int)∧∀ s',s'<s→c[s']?≠some (↑u:Int)
structure Quo (t M:zab) (c:List Int):Prop where
 inp:M.Inputs=t.Inputs
 start:M.Start=0
 len:M.Out.length=M.Next.length
 ub:∀ s,s<t.Next.length→∃ x:Nat,c[s]?=some (↑x:Int)∧x<M.Next.length
 row:∀ u,u<M.Next.length→∃ s r o,s<t.Next.length∧IsFirst c s u∧M.Next[u]?=some r∧M.Out[u]?=some o∧r.length=t.Inputs.toNat∧(∀ a,a<t.Inputs.toNat→r[a]?=c[nx t s a]?)∧t.Out[s]?=some o
 le:M.Next.length≤t.Next.length
variable {M:zab}
end
end
section
set_option maxRecDepth 100000
section
variable {m:zab} {c:List Int}
def clN (c:List Int) (s:Nat):Nat:=((c[s]?).getD 0).toNat
open Classical in
theorem clN_at (C:ClsOk m m.Next.length c) {s:Nat} (hs:s<m.Next.length):c[s]?=some (↑(clN c s):Int)∧clN c s<m.Next.length:=by
 obtain ⟨x,x1,x2⟩:=C.rng s hs;unfold clN;rw [x1,Option.getD_some,Int.toNat_natCast];exact ⟨rfl,x2⟩
structure Nums (m:zab) (c:List Int) (ord:List Nat) (num:List Int) (B:List (Nat×List Int)):Prop where
 ol:ord.length=B.length
 oc:∀ (j u:Nat) (x:Nat×List Int),ord[j]?=some u→B[j]?=some x→u<m.Next.length∧clN c u=x.1
 nl:num.length=m.Next.length
 n1:∀ (j:Nat) (x:Nat×List Int),B[j]?=some x→num[x.1]?=some (↑j:Int)
 n2:∀ x:Nat,x<m.Next.length→x∉B.map Prod.fst→num[x]?=some (-1:Int)
theorem Nums.push {ord:List Nat} {num:List Int} {B:List (Nat×List Int)} {u:Nat} {w:List Int} (N:Nums m c ord num B) (C:ClsOk m m.Next.length c) (hu:u<m.Next.length) (hn:clN c u∉B.map Prod.fst) (hB:(B.map Prod.fst).Nodup):Nums m c (ord++[u]) (num.set (clN c u) (↑B.length:Int)) (B++[(clN c u,w)]):=by
 have hcl:=(clN_at C hu).2;refine ⟨by simp [N.ol],fun j v x hj hx=>?_,by simp [N.nl],fun j x hx=>?_,fun x hx hm=>?_⟩
 ·rcases Nat.lt_or_ge j B.length with h | h
  ·rw [List.getElem?_append_left (by rw [N.ol];exact h)] at hj;rw [List.getElem?_append_left h] at hx;exact N.oc j v x hj hx
  ·have hl:=(zkI.1 hx).1;rw [zkJ,List.length_singleton] at hl;have:j=B.length:=by omega
   subst this;rw [List.getElem?_append_right (by rw [N.ol];exact Nat.le_refl _),N.ol,Nat.sub_self] at hj;rw [List.getElem?_append_right (Nat.le_refl _),Nat.sub_self] at hx;injection hj with hj
   injection hx with hx
   subst hj;subst hx;exact ⟨hu,rfl⟩
 ·rcases Nat.lt_or_ge j B.length with h | h
  ·rw [List.getElem?_append_left h] at hx;rw [List.getElem?_set_ne (fun q=>hn (by rw [q];exact List.mem_map.2 ⟨x,zkH hx,rfl⟩)),N.n1 j x hx]
  ·have hl:=(zkI.1 hx).1;rw [zkJ,List.length_singleton] at hl;have:j=B.length:=by omega
   subst this;rw [List.getElem?_append_right (Nat.le_refl _),Nat.sub_self] at hx;injection hx with hx
   subst hx;rw [List.getElem?_set_self (by rw [N.nl];exact hcl)]
 ·rw [List.map_append,List.mem_append,not_or] at hm;have h1:clN c u≠x:=fun q=>hm.2 (by simp [q]);rw [List.getElem?_set_ne h1];exact N.n2 x hx hm.1
end
end
section
set_option maxRecDepth 100000
section
variable {m M:zab}
theorem zj5.two (H:zj5 m):Two m m:=⟨H,H,rfl⟩
open Classical in
noncomputable def sepR (m:zab) (s t:Nat):List Int×Bool:=if h:∃ res,Fst m m (s,t) res then Classical.choose h else ([],false)
noncomputable def sepW (m:zab) (s t:Nat):List Int:=(sepR m s t).1
structure MinimalP (m:zab):Prop where
 reach:∀ s,s<m.Next.length→∃ w,WOk m.Inputs w∧dest m m.Start.toNat w=s
 apart:∀ i j,i<m.Next.length→j<m.Next.length→Eqv m i m j→i=j
open Classical in
open Classical in
open Classical in
noncomputable def idL (m:zab) (u k:Nat):List (List Int):=((List.range k).filter fun v=>decide (v≠u)).map (sepW m u)
noncomputable def idsM (m:zab):List (List (List Int)):=(List.range m.Next.length).map fun s=>sortW (idL m s m.Next.length)
end
end
section
set_option maxRecDepth 100000
end
section
set_option maxRecDepth 100000
def uptoL (i n:Int):List (List Int):=((zex i n).getD ([],0)).1
section
variable {m M:zab} {ids:List (List (List Int))} {front middle:List (List Int)}
def mostL (ids:List (List (List Int))):Nat:=ids.foldl (fun n l=>max n l.length) 1
structure Parts (M:zab) (front middle:List (List Int)) (ids:List (List (List Int))):Prop where
 ok:zfg M=0
 il:ids.length=M.Next.length
 is_:∀ l∈ids,l.length≤200∧∀ x∈l,x.length≤600
 f1:front.length≤200
 f2:∀ u∈front,WOk M.Inputs u∧u.length≤200
 m1:middle.length≤200
 m2:∀ v∈middle,WOk M.Inputs v∧v.length≤200
end
end
section
set_option maxRecDepth 100000
section
variable {M I:zab} {sM sI k:Nat} {U:List (List Int)} {T:Nat→List (List Int)}
structure Pass (M I:zab) (sM sI k:Nat) (U:List (List Int)) (T:Nat→List (List Int)):Prop where
 two:Two M I
 hM:sM<M.Next.length
 hI:sI<I.Next.length
 nil:[]∈U
 ok:∀ u∈U,WOk M.Inputs u
 cov:∀ s,s<M.Next.length→∃ u∈U,dest M sM u=s
 tne:∀ s,s<M.Next.length→∃ x,x∈T s
 tok:∀ s,∀ x∈T s,WOk M.Inputs x
 sep:∀ s s',s<M.Next.length→s'<M.Next.length→s≠s'→∃ x,x∈T s∧x∈T s'∧outs M s x≠outs M s' x
 pass:∀ u∈U,∀ v,WOk M.Inputs v→v.length≤k+1→∀ x∈T (dest M sM (u++v)),outs M sM (u++v++x)=outs I sI (u++v++x)
 few:∀ l:List Nat,l.Nodup→(∀ q∈l,∃ w,WOk M.Inputs w∧dest I sI w=q)→l.length≤M.Next.length+k
theorem zui {a b:zab} {s t:Nat} {w v:List Int} (h:outs a s (w++v)=outs b t (w++v)):outs a s w=outs b t w∧outs a (dest a s w) v=outs b (dest b t w) v:=by
 rw [zgn,zgn] at h;exact List.append_inj h (by rw [zhr,zhr])
variable (P:Pass M I sM sI k U T)
include P
theorem Pass.at_ {u v:List Int} (hu:u∈U) (hv:WOk M.Inputs v) (hl:v.length≤k+1):outs M sM (u++v)=outs I sI (u++v)∧∀ x∈T (dest M sM (u++v)),outs M (dest M sM (u++v)) x=outs I (dest I sI (u++v)) x:=by
 have hd:dest M sM (u++v)<M.Next.length:=P.two.a1.dest ((P.ok u hu).append hv) P.hM;obtain ⟨x,hx⟩:=P.tne _ hd;exact ⟨(zui (P.pass u hu v hv hl x hx)).1,fun x hx=>(zui (P.pass u hu v hv hl x hx)).2⟩
theorem Pass.uniq {u v u' v':List Int} (hu:u∈U) (hv:WOk M.Inputs v) (hl:v.length≤k+1) (hu':u'∈U) (hv':WOk M.Inputs v') (hl':v'.length≤k+1) (h:dest I sI (u++v)=dest I sI (u'++v')):dest M sM (u++v)=dest M sM (u'++v'):=Classical.byContradiction fun hne=>by
 obtain ⟨x,x1,x2,x3⟩:=P.sep _ _ (P.two.a1.dest ((P.ok u hu).append hv) P.hM) (P.two.a1.dest ((P.ok u' hu').append hv') P.hM) hne;have h1:=(P.at_ hu hv hl).2 x x1;have h2:=(P.at_ hu' hv' hl').2 x x2;rw [h] at h1;exact x3 (h1.trans h2.symm)
omit P
def Vj (I:zab) (sI:Nat) (U:List (List Int)) (K:Int) (j q:Nat):Prop:=∃ u∈U,∃ v,WOk K v∧v.length≤j∧q=dest I sI (u++v)
def Closed (I:zab) (sI:Nat) (U:List (List Int)) (K:Int) (j:Nat):Prop:=∀ q,Vj I sI U K j q→∀ a,a<K.toNat→Vj I sI U K j (nx I q a)
theorem dest_snoc {m:zab} {s a:Nat} {w:List Int}:dest m s (w++[(↑a:Int)])=nx m (dest m s w) a:=by
 rw [ziq];show nx m _ (Int.toNat ↑a)=_;rw [Int.toNat_natCast]
theorem wok_snoc {K:Int} {w:List Int} {a:Nat} (h:WOk K w) (ha:a<K.toNat):WOk K (w++[(↑a:Int)]):=h.append fun z hz=>by
 have:z=(↑a:Int):=by simpa using hz
 omega
include P
theorem Pass.grow:∀ j,j≤k+1→Closed I sI U M.Inputs j∨∃ l:List Nat,l.Nodup∧(∀ q∈l,Vj I sI U M.Inputs j q)∧M.Next.length+j≤l.length
 | 0,_=>by
  right
  have hc:∀ s,∃ u,s<M.Next.length→u∈U∧dest M sM u=s:=fun s=>by
   by_cases hs:s<M.Next.length
   ·obtain ⟨u,h1,h2⟩:=P.cov s hs;exact ⟨u,fun _=>⟨h1,h2⟩⟩
   ·exact ⟨[],fun h=>absurd h hs⟩
  obtain ⟨f,hf⟩:=Classical.axiomOfChoice hc;have hnil:WOk M.Inputs []:=fun a ha=>(by cases ha);refine ⟨(List.range M.Next.length).map fun s=>dest I sI (f s),?_,fun q hq=>?_,by simp⟩
  ·refine List.pairwise_map.2 (List.Pairwise.imp_of_mem (fun {a b} ha hb hne he=>hne ?_) (List.nodup_range (n:=M.Next.length)));have h1:=hf a (List.mem_range.1 ha);have h2:=hf b (List.mem_range.1 hb);have:=P.uniq (v:=[]) (v':=[]) h1.1 hnil (by simp) h2.1 hnil (by simp) (by rw [List.append_nil,List.append_nil];exact he)
   rwa [List.append_nil,List.append_nil,h1.2,h2.2] at this
  ·obtain ⟨s,hs,rfl⟩:=List.mem_map.1 hq;exact ⟨f s,(hf s (List.mem_range.1 hs)).1,[],hnil,Nat.le_refl _,by rw [List.append_nil]⟩
 | j+1,hj=>by
  by_cases hcl:Closed I sI U M.Inputs j
  ·left
   have hsub:∀ (v:List Int) (u:List Int),u∈U→WOk M.Inputs v→∀ q,Vj I sI U M.Inputs j q→Vj I sI U M.Inputs j (dest I q v):=by
    intro v
    induction v with
    | nil=>intro _ _ _ q hq;exact hq
    | cons z v ih =>
     intro u hu hv q hq;have hz:=hv.head;exact ih u hu hv.tail _ (hcl q hq z.toNat (by omega))
   have hall:∀ q,Vj I sI U M.Inputs (j+1) q→Vj I sI U M.Inputs j q:=fun q ⟨u,hu,v,hv,_,he⟩=>by
    rw [he,ziq];exact hsub v u hu hv _ ⟨u,hu,[],fun a ha=>(by cases ha),Nat.zero_le _,by rw [List.append_nil]⟩
   have hup:∀ q,Vj I sI U M.Inputs j q→Vj I sI U M.Inputs (j+1) q:=fun q ⟨u,hu,v,hv,hl,he⟩=>⟨u,hu,v,hv,by omega,he⟩;exact fun q hq a ha=>hup _ (hcl q (hall q hq) a ha)
  ·right;rcases Pass.grow j (by omega) with h | ⟨l,l1,l2,l3⟩
   ·exact absurd h hcl
   ·obtain ⟨q,hq⟩:=Classical.not_forall.1 hcl;obtain ⟨hq,hq2⟩:=Classical.not_imp.1 hq;obtain ⟨a,ha⟩:=Classical.not_forall.1 hq2;obtain ⟨ha,hn⟩:=Classical.not_imp.1 ha;refine ⟨nx I q a::l,List.nodup_cons.2 ⟨fun h=>hn (l2 _ h),l1⟩,fun x hx=>?_,by rw [zkL];omega⟩;rcases List.mem_cons.1 hx with rfl | hx
    ·obtain ⟨u,hu,v,hv,hl,he⟩:=hq;exact ⟨u,hu,v++[(↑a:Int)],wok_snoc hv ha,by simp;omega,by rw [← List.append_assoc,dest_snoc,← he]⟩
    ·obtain ⟨u,hu,v,hv,hl,he⟩:=l2 x hx;exact ⟨u,hu,v,hv,by omega,he⟩
end
end
section
set_option maxRecDepth 100000
section
variable {m b M:zab}
theorem zkp (x:List Int):zaw x x=x.length:=by
 induction x with
 | nil=>rfl
 | cons u x ih=>simp [zaw,ih]
abbrev outS (m:zab) (w:List Int):List Int:=outs m m.Start.toNat w
theorem mealy_Run_ok (hv:zfg m=0) {w:List Int} (hw:zbs w m.Inputs=0):zjs m w=some (outS m w,0):=by
 have hl:=ze7 hw;have hst:=(zo0 hv).st;unfold zjs;rw [mealy_From_eq (by unfold SmW;omega),zaq,fromM_start (by unfold SmW;omega) hv,if_neg (fun h=>h hw)]
end
end
section
set_option maxRecDepth 100000
theorem zno {α:Type} {l:List α} {i j:Nat} (h:i≤j):(l.take j).take i=l.take i:=by rw [List.take_take,Nat.min_eq_left h]
theorem zr7:∀ {u a b:List Int},u <+: a→u <+: b→u.length≤zaw a b
 | [],_,_,_,_=>Nat.zero_le _
 | x::u,a,b,⟨v,hv⟩,⟨w,hw⟩=>by
  subst hv;subst hw;have:=zr7 (u:=u) (a:=u++v) (b:=u++w) ⟨v,rfl⟩ ⟨w,rfl⟩;show u.length+1≤zaw (x::(u++v)) (x::(u++w));simp only [zaw,if_true];omega
theorem agree_two {o:zan} (hv:zia o) {a b:zaa} (ha:a∈o.Traces) (hb:b∈o.Traces):Agree a b:=by
 obtain ⟨i,hi,rfl⟩:=List.getElem_of_mem ha;obtain ⟨j,hj,rfl⟩:=List.getElem_of_mem hb;rcases Nat.lt_trichotomy i j with h | h | h
 ·exact (hv.apart i j _ _ h (get_at hi) (get_at hj)).2
 ·subst h;unfold Agree;rfl
 ·exact (hv.apart j i _ _ h (get_at hj) (get_at hi)).2.symm
theorem agree_cut {a b:zaa} {v:List Int} (h:Agree a b) (ha:v <+: a.In) (hb:v <+: b.In):a.Out.take v.length=b.Out.take v.length:=by
 have h2:=zr7 ha hb;unfold Agree at h;rw [← zno h2,h,zno h2]
theorem ansO_at {o:zan} (hv:zia o) {u:zaa} {v:List Int} (hu:u∈o.Traces) (hp:v <+: u.In):ansO o v=some (u.Out.take v.length):=by
 unfold ansO;by_cases h0:v=[]
 ·subst h0;simp
 ·rw [if_neg h0];cases hb:o.Traces.find? fun t=>decide (v <+: t.In) with
  | none =>
   have:=List.find?_eq_none.1 hb u hu;simp [hp] at this
  | some b =>
   have hub:v <+: b.In:=by simpa using List.find?_some hb
   exact congrArg some (agree_cut (agree_two hv (List.mem_of_find?_eq_some hb) hu) hub hp)
theorem ansO_tr {o:zan} {v r:List Int} (h:ansO o v=some r) (h0:v≠[]):∃ u∈o.Traces,v <+: u.In∧u.Out.take v.length=r:=by
 unfold ansO at h;rw [if_neg h0] at h;obtain ⟨a,ha,rfl⟩:=Option.map_eq_some_iff.1 h;exact ⟨a,List.mem_of_find?_eq_some ha,by simpa using List.find?_some ha,rfl⟩
theorem ansO_cut {o:zan} (hv:zia o) {u w r:List Int} (h:ansO o w=some r) (hp:u <+: w):ansO o u=some (r.take u.length):=by
 by_cases h0:w=[]
 ·subst h0;have:u=[]:=by simpa using hp
  subst this;unfold ansO;simp
 ·obtain ⟨t,h1,h2,rfl⟩:=ansO_tr h h0;rw [ansO_at hv h1 (hp.trans h2),zno hp.length_le]
theorem ans_keep {o:zan} {t:zaa} (hv:zia o) (h:(addO o t).2=0) {v x:List Int} (hx:ansO o v=some x):ansO (addO o t).1 v=some x:=by
 by_cases h0:v=[]
 ·subst h0;unfold ansO at hx ⊢;rw [if_pos rfl] at hx ⊢;exact hx
 obtain ⟨u,h1,h2,rfl⟩:=ansO_tr hx h0;have hv':zia (addO o t).1:=addO_ok hv;unfold addO at h hv' ⊢;by_cases g1:znl t o.Inputs≠0
 ·rw [if_pos g1] at hv' ⊢;exact hx
 ·rw [if_neg g1] at h hv' ⊢;by_cases g2:zkz o.Traces t
  ·rw [if_pos g2] at h;cases h
  ·rw [if_neg g2] at h hv' ⊢;by_cases g3:10000<(addL o.Traces t).length
   ·rw [if_pos g3] at h;cases h
   ·rw [if_neg g3] at hv' ⊢;by_cases g4:zea o.Traces t.In=true∨t.In=[]
    ·refine ansO_at hv' ?_ h2;show u∈addL o.Traces t;unfold addL;rw [if_pos g4];exact h1
    ·by_cases g5:u.In <+: t.In
     ·have hag:Agree u t:=Classical.byContradiction fun e=>g2 ⟨u,h1,e⟩
      rw [ansO_at hv' (u:=t) (by
       show t∈addL o.Traces t
       unfold addL
       rw [if_neg g4]
       exact ziy.2 (.inl rfl)) (h2.trans g5),agree_cut hag h2 (h2.trans g5)]
     ·refine ansO_at hv' ?_ h2;show u∈addL o.Traces t;unfold addL;rw [if_neg g4];refine ziy.2 (.inr (List.mem_filter.2 ⟨h1,?_⟩));rw [zkA g5];rfl
section
variable {q:zae} {w:List Int}
theorem askO_check (h:(askO q w).2.2=0):zbs w q.Device.M.Inputs=0:=by
 refine Classical.byContradiction fun e=>?_;unfold askO at h;rw [if_pos e] at h;exact e h
theorem check_1024 (Q:OrOk q) (hw:zbs w q.Device.M.Inputs=0):w.length≤1024:=by
 have i1:=Q.dev.mac.i1;have i2:=Q.dev.mac.i2;unfold zbs at hw;rw [if_pos (by omega)] at hw;split at hw
 ·cases hw
 ·omega
theorem askO_ans (Q:OrOk q) (h:(askO q w).2.2=0):(askO q w).2.1.length=w.length∧ansO (askO q w).1.Obs w=some (askO q w).2.1∧∀ v x,ansO q.Obs v=some x→ansO (askO q w).1.Obs v=some x:=by
 have hw:=askO_check h;have hl:=check_1024 Q hw;unfold askO at h ⊢;rw [if_neg (by simpa using hw)] at h ⊢;cases ha:ansO q.Obs w with
 | some r=>exact ⟨ansO_len Q.obs ha,ha,fun _ _ h=>h⟩
 | none =>
  rw [ha] at h;have hk:q.Tries-0=(↑q.Tries.toNat:Int):=by have:=Q.v1;have:=Q.t1;omega
  obtain ⟨_,_,_,o4⟩:=zmi Q hw hl q.Tries.toNat q.Device q.Asked [] 0 (zjx Q) hk;simp only at h ⊢;unfold askR askE at h ⊢;generalize askL w q.Votes q.Tries.toNat q.Device q.Asked []=r at o4 h ⊢;obtain ⟨d',n',ys',res⟩:=r;simp only at o4 h ⊢;cases res with
  | none =>
   simp only at h;split at h<;>cases h
  | some out =>
   simp only at h ⊢;by_cases g:(addO q.Obs ⟨w,out⟩).2≠0
   ·rw [if_pos g] at h;exact absurd h g
   ·rw [if_neg g];have g:(addO q.Obs ⟨w,out⟩).2=0:=by simpa using g
    exact ⟨(o4 out rfl).1,ans_add Q.obs g,fun v x hx=>ans_keep Q.obs g hx⟩
end
def zlt (l:List zaa) (w:List Int):Bool:=l.any fun t=>decide (t.In <+: w)
def ztw (m:zab) (r:zag) (w out:List Int):zag :=
 ⟨r.Run+1,if zaw (outS m w) out<w.length then r.Changes++[⟨w.take (zaw (outS m w) out+1),out.take (zaw (outS m w) out+1)⟩] else r.Changes⟩
def runL (m:zab):zae→zag→List (List Int)→zae×zag×Int
 | q,r,[]=>(q,r,0)
 | q,r,w::ws=>if zlt r.Changes w=true then runL m q r ws else if (askO q w).2.2≠0 then ((askO q w).1,⟨0,[]⟩,(askO q w).2.2) else runL m (askO q w).1 (ztw m r w (askO q w).2.1) ws
def runO (q:zae) (b:za2):zae×zag×Int :=
 if zfg b.M≠0 then (q,⟨0,[]⟩,zfg b.M) else if 10000<b.Words.length then (q,⟨0,[]⟩,11) else
  match zmq b.M.Inputs b.Words with
  | some e=>(q,⟨0,[]⟩,e)
  | none=>if q.Obs.Inputs≠b.M.Inputs then (q,⟨0,[]⟩,15) else runL b.M q ⟨0,[]⟩ b.Words
def RepOk (r:zag) (n:Nat):Prop:=0≤r.Run∧r.Run≤(↑n:Int)∧r.Changes.length≤n
theorem RepOk.note {m:zab} {r:zag} {n:Nat} {w out:List Int} (h:RepOk r n):RepOk (ztw m r w out) (n+1):=by
 obtain ⟨h1,h2,h3⟩:=h;unfold ztw;refine ⟨by simp only;omega,by simp only;omega,?_⟩;simp only;split
 ·simp only [zkJ,List.length_singleton];omega
 ·omega
theorem tcontains_eq {l:List zaa} {f:zaa→Option Bool} {p:zaa→Bool} (hl:l.length≤100000000000000) (hf:∀ x∈l,f x=some (p x)) :
  zbo l f=some (l.any p):=by
 unfold zbo;rw [zsv hl hf,zaq];cases h:l.any p with
 | true=>rw [if_pos rfl,zkB (by omega)]
 | false=>rw [if_neg Bool.false_ne_true,zkA (by omega)]
theorem needed_eq {m:zab} {r:zag} {w:List Int} (hl:r.Changes.length≤1000000) (hw:SmW w) :
  zdc (⟨m,r⟩:zbf) w=some (!zlt r.Changes w,(⟨m,r⟩:zbf)):=by
 unfold zdc
 rw [tcontains_eq (p:=fun t=>decide (t.In <+: w)) (by simp only;omega) fun x _=>by
  unfold zdn
  rw [zf8 _ _ hw,zaq],zaq]
 rfl
theorem cut_eq {l:List Int} {n:Int} (h1:1≤n) (h2:n≤(↑l.length:Int)) (hl:l.length≤100000):zhj l n=some (l.take n.toNat):=by
 unfold zhj;rw [zau ⟨by omega,by omega,by unfold zbt;omega⟩,List.length_replicate,zau ⟨by omega,by omega⟩,List.drop_eq_nil_of_le (by rw [List.length_replicate];omega),List.append_nil]
theorem note_eq {m:zab} {r:zag} {w out:List Int} (hv:zfg m=0) (hw:zbs w m.Inputs=0) (ho:out.length=w.length) {n:Nat} (hr:RepOk r n) (hn:n≤100000) :
  zdw (⟨m,r⟩:zbf) w out=some (0,(⟨m,ztw m r w out⟩:zbf)):=by
 obtain ⟨h1,h2,h3⟩:=hr;have hl:=ze7 hw;have hol:(outS m w).length=w.length:=zhr _ _;have hc:=zg6 (outS m w) out;unfold zdw;simp only;rw [mealy_Run_ok hv hw,zaq,zkA (fun h=>h rfl),zkC,zau (by unfold inR;omega)];simp only;rw [zho _ _ (by unfold SmW;omega),zaq];unfold ztw;by_cases g:zaw (outS m w) out<w.length
 ·rw [zkB (by omega),zkD,zau (by unfold inR;omega),cut_eq (by omega) (by omega) (by omega),zaq,zau (by unfold inR;omega),cut_eq (by omega) (by omega) (by omega),zaq,zau (by unfold zbt;omega),zaq,if_pos g];rfl
 ·rw [zkA (by omega),zkC,zaq,if_neg g]
section
variable {σ ρ:Type} {tup:zae→zag→Nat→σ} {fin:zae→zag→ρ} {m:zab} {L:List (List Int)}
def runF (fin:zae→zag→ρ) (r:zae×zag×Int):ρ⊕(zae×zag×Int):=if r.2.2=0 then .inl (fin r.1 r.2.1) else .inr r
theorem zq2 {S2:σ→Option (σ⊕(ρ⊕(zae×zag×Int)))}
  (h1:∀ (q:zae) (r:zag) (i:Nat) (w:List Int),OrOk q→RepOk r i→L[i]?=some w→S2 (tup q r i)=some (if zlt r.Changes w=true then .inl (tup q r (i+1)) else if (askO q w).2.2≠0 then .inr (.inr ((askO q w).1,⟨0,[]⟩,(askO q w).2.2)) else .inl (tup (askO q w).1 (ztw m r w (askO q w).2.1) (i+1))))
  (h2:∀ q r,S2 (tup q r L.length)=some (.inr (.inl (fin q r)))) (hw:∀ w∈L,w.length≤100000) :
  ∀ (n i:Nat) (q:zae) (r:zag),OrOk q→RepOk r i→q.Obs.Traces.length+(L.length-i)≤900000→i≤L.length→L.length-i<n →
   iter S2 n (tup q r i)=some (runF fin (runL m q r (L.drop i)))∧OrOk (runL m q r (L.drop i)).1
 | 0,_,_,_,_,_,_,_,h=>absurd h (Nat.not_lt_zero _)
 | n+1,i,q,r,Q,R,hs,hi,hn=>by
  unfold iter;rcases Nat.lt_or_ge i L.length with h | h
  ·have hx:=get_at h;have R1:RepOk r (i+1):=⟨R.1,by have:=R.2.1;omega,by have:=R.2.2;omega⟩;rw [h1 q r i _ Q R hx,List.drop_eq_getElem_cons h];obtain ⟨k1,k2,_⟩:=askO_ok (w:=L[i]) Q (by omega) (hw _ (List.getElem_mem h));unfold runL;by_cases g0:zlt r.Changes L[i]=true
   ·rw [if_pos g0,if_pos g0];exact zq2 h1 h2 hw n (i+1) q r Q R1 (by omega) h (by omega)
   ·rw [if_neg g0,if_neg g0];by_cases g:(askO q L[i]).2.2≠0
    ·rw [if_pos g,if_pos g];unfold runF;rw [if_neg g];exact ⟨rfl,k1⟩
    ·rw [if_neg g,if_neg g];exact zq2 h1 h2 hw n (i+1) _ _ k1 R.note (by omega) h (by omega)
  ·have e:i=L.length:=by omega
   subst e;rw [h2,List.drop_length];exact ⟨rfl,Q⟩
end
abbrev tupG (m:zab) (q:zae) (r:zag) (i:Nat):=(q.Device.M.Inputs,q.Device.M.Start,q.Device.M.Next,q.Device.M.Out,q.Device.State,q.Device.Ready,q.Device.Latency.Step,q.Device.Latency.Reset,q.Device.Faults.Lost,q.Device.Faults.Wrong,q.Device.Faults.Crash,q.Device.Seed,q.Device.Steps,q.Device.Resets,q.Device.Time,q.Obs.Inputs,q.Obs.Traces,q.Votes,q.Tries,q.Asked,q.Hits,m.Inputs,m.Start,m.Next,m.Out,r.Run,r.Changes,i)
abbrev tupH (m:zab) (q:zae) (r:zag):=(q.Device.M.Inputs,q.Device.M.Start,q.Device.M.Next,q.Device.M.Out,q.Device.State,q.Device.Ready,q.Device.Latency.Step,q.Device.Latency.Reset,q.Device.Faults.Lost,q.Device.Faults.Wrong,q.Device.Faults.Crash,q.Device.Seed,q.Device.Steps,q.Device.Resets,q.Device.Time,q.Obs.Inputs,q.Obs.Traces,q.Votes,q.Tries,q.Asked,q.Hits,m.Inputs,m.Start,m.Next,m.Out,r.Run,r.Changes)
theorem or_eta (q':zae):(⟨⟨⟨q'.Device.M.Inputs,q'.Device.M.Start,q'.Device.M.Next,q'.Device.M.Out⟩,q'.Device.State,q'.Device.Ready,⟨q'.Device.Latency.Step,q'.Device.Latency.Reset⟩,⟨q'.Device.Faults.Lost,q'.Device.Faults.Wrong,q'.Device.Faults.Crash⟩,q'.Device.Seed,q'.Device.Steps,q'.Device.Resets,q'.Device.Time⟩,⟨q'.Obs.Inputs,q'.Obs.Traces⟩,q'.Votes,q'.Tries,q'.Asked,q'.Hits⟩:zae)=q':=rfl
theorem ztm {q:zae} {b:za2} (Q:OrOk q) (hl:b.Words.length≤10000→q.Obs.Traces.length+b.Words.length≤900000) (hs:SmL b.Words):zbc q b=some (runO q b)∧OrOk (runO q b).1:=by
 have hf:=zcb;have hsl:=hs.1;unfold zbc runO;rw [zm4,zaq];by_cases c1:zfg b.M=0
 ·rw [zkA (fun h=>h c1),zkC,if_neg (fun h=>h c1)];by_cases c2:10000<b.Words.length
  ·rw [zkB (by omega),zkD,if_pos c2];exact ⟨rfl,Q⟩
  rw [zkA (by omega),zkC,if_neg c2];have hlt:=hl (by omega)
  have key1:=zdl (step:=fun s=>zbc.s2 q b s) (l:=b.Words) (fun _ w=>if zbs w b.M.Inputs≠0 then some (q,(⟨0,[]⟩:zag),zbs w b.M.Inputs) else none) (fun i x hx=>by
   simp only [zbc.s2]
   rw [zdj hx,zkD,za3 hx,zg7 _ _ (hs.2 x (zkH hx)),zaq]
   by_cases g:zbs x b.M.Inputs≠0
   ·rw [if_pos g,zkB g]
    rfl
   ·rw [if_neg g,zkA g]
    rfl) (by
   simp only [zbc.s2]
   rw [zc8]
   rfl) (by omega)
  have hsc:∀ (l:List (List Int)) (j:Nat),scan (fun _ w=>if zbs w b.M.Inputs≠0 then some (q,(⟨0,[]⟩:zag),zbs w b.M.Inputs) else none) j l=(scan (fun _ w=>if zbs w b.M.Inputs≠0 then some (zbs w b.M.Inputs) else none) j l).map fun e=>(q,(⟨0,[]⟩:zag),e):=by
   intro l
   induction l with
   | nil=>intro j;rfl
   | cons x l ih =>
    intro j;unfold scan;by_cases g:zbs x b.M.Inputs≠0
    ·rw [if_pos g,if_pos g];rfl
    ·rw [if_neg g,if_neg g];exact ih _
  rw [key1,hsc];unfold zmq;cases hE:scan (fun _ w=>if zbs w b.M.Inputs≠0 then some (zbs w b.M.Inputs) else none) 0 b.Words with
  | some e=>exact ⟨rfl,Q⟩
  | none =>
   have hc:∀ w∈b.Words,zbs w b.M.Inputs=0:=fun w hw=>znh hE w hw;simp only [Option.map_none,zaq,Sum.elim_inl];by_cases c3:q.Obs.Inputs=b.M.Inputs
   ·rw [zkA (fun h=>h c3),zkC,if_neg (fun h=>h c3)]
    have A:=zq2 (tup:=tupG b.M) (fin:=tupH b.M) (m:=b.M) (L:=b.Words) (S2:=fun s=>zbc.s22 b s.1 s.2.1 s.2.2.1 s.2.2.2.1 s.2.2.2.2.1 s.2.2.2.2.2.1 s.2.2.2.2.2.2.1 s.2.2.2.2.2.2.2.1 s.2.2.2.2.2.2.2.2.1 s.2.2.2.2.2.2.2.2.2.1 s.2.2.2.2.2.2.2.2.2.2.1 s.2.2.2.2.2.2.2.2.2.2.2.1 s.2.2.2.2.2.2.2.2.2.2.2.2.1 s.2.2.2.2.2.2.2.2.2.2.2.2.2.1 s.2.2.2.2.2.2.2.2.2.2.2.2.2.2.1 s.2.2.2.2.2.2.2.2.2.2.2.2.2.2.2.1 s.2.2.2.2.2.2.2.2.2.2.2.2.2.2.2.2.1 s.2.2.2.2.2.2.2.2.2.2.2.2.2.2.2.2.2.1 s.2.2.2.2.2.2.2.2.2.2.2.2.2.2.2.2.2.2.1 s.2.2.2.2.2.2.2.2.2.2.2.2.2.2.2.2.2.2.2.1 s.2.2.2.2.2.2.2.2.2.2.2.2.2.2.2.2.2.2.2.2.1 s.2.2.2.2.2.2.2.2.2.2.2.2.2.2.2.2.2.2.2.2.2.1 s.2.2.2.2.2.2.2.2.2.2.2.2.2.2.2.2.2.2.2.2.2.2.1 s.2.2.2.2.2.2.2.2.2.2.2.2.2.2.2.2.2.2.2.2.2.2.2.1 s.2.2.2.2.2.2.2.2.2.2.2.2.2.2.2.2.2.2.2.2.2.2.2.2.1 s.2.2.2.2.2.2.2.2.2.2.2.2.2.2.2.2.2.2.2.2.2.2.2.2.2.1 s.2.2.2.2.2.2.2.2.2.2.2.2.2.2.2.2.2.2.2.2.2.2.2.2.2.2.1 s.2.2.2.2.2.2.2.2.2.2.2.2.2.2.2.2.2.2.2.2.2.2.2.2.2.2.2) (fun q' r i w Q' R hx=>by
     have hm:=zkH hx
     have hcw:=hc w hm
     have hwl:=ze7 hcw
     have hin:i<b.Words.length:=(zkI.1 hx).1
     have r3:=R.2.2
     show zbc.s22 b _ _ _ _ _ _ _ _ _ _ _ _ _ _ _ _ _ _ _ _ _ _ _ _ _ _ _ _=_
     unfold zbc.s22
     simp only
     rw [or_eta,zdj hx,zkD,za3 hx,needed_eq (by simp only;omega) (hs.2 w hm),zaq]
     simp only
     by_cases g0:zlt r.Changes w=true
     ·rw [g0,if_pos rfl]
      rfl
     ·rw [if_neg g0,Bool.not_eq_true _ |>.mp g0,Bool.not_false,Bool.not_true,zkC,Ask_p Q' (by omega),zaq]
      by_cases g:(askO q' w).2.2≠0
      ·rw [if_pos g,zkA g,zkC,zaq]
       simp only
       unfold zbc.k20
       rw [zkB g]
       rfl
      ·have g':(askO q' w).2.2=0:=by simpa using g
       obtain ⟨a1,_,_⟩:=askO_ans Q' g'
       rw [if_neg g,zkB g',zkD,note_eq c1 hcw a1 R (by omega),zaq,zaq]
       rfl) (fun q' r=>by
     show zbc.s22 b _ _ _ _ _ _ _ _ _ _ _ _ _ _ _ _ _ _ _ _ _ _ _ _ _ _ _ _=_
     unfold zbc.s22
     rw [zc8,zkC]) (fun w hw=>by have:=ze7 (hc w hw);omega) fuel 0 q ⟨0,[]⟩ Q ⟨by simp,by simp,by simp⟩ (by omega) (Nat.zero_le _) (by omega)
    rw [List.drop_zero] at A;refine ⟨(congrArg (fun z=>Option.bind z _) A.1).trans ?_,A.2⟩;rw [zaq];unfold runF;generalize runL b.M q ⟨0,[]⟩ b.Words=x;obtain ⟨x1,x2,x3⟩:=x;by_cases g:x3=0
    ·rw [if_pos g,g];rfl
    ·rw [if_neg g];rfl
   ·rw [zkB c3,zkD,if_pos c3];exact ⟨rfl,Q⟩
 ·rw [zkB c1,zkD,if_pos c1];exact ⟨rfl,Q⟩
end
section
set_option maxRecDepth 100000
theorem awake50_true:zlu=some true:=by decide +kernel
end
section
set_option maxRecDepth 100000
theorem zlo:∀ (a b:List Int),a.take (zaw a b)=b.take (zaw a b)
 | [],b=>by simp [zaw]
 | x::a,[]=>by simp [zaw]
 | x::a,y::b=>by
  unfold zaw;by_cases h:x=y
  ·rw [if_pos h,h,List.take_succ_cons,List.take_succ_cons,zlo a b]
  ·rw [if_neg h];rfl
theorem commonR_off {a b:List Int} (ha:zaw a b<a.length) (hb:zaw a b<b.length):a[zaw a b]≠b[zaw a b]:=fun e=>by
 have h:a.take (zaw a b+1)=b.take (zaw a b+1):=by
  rw [List.take_succ,List.take_succ,zlo,get_at ha,get_at hb,e]
 have:=zr7 (u:=a.take (zaw a b+1)) (a:=a) (b:=b) (List.take_prefix _ _) (by rw [h];exact List.take_prefix _ _);rw [List.length_take] at this;omega
theorem zul {m:zab}:∀ (w:List Int) (s k:Nat),outs m s (w.take k)=(outs m s w).take k
 | [],_,_=>by simp [outs]
 | a::w,s,0=>by simp [outs]
 | a::w,s,k+1=>by
  show ot m s a.toNat::outs m (nx m s a.toNat) (w.take k)=(ot m s a.toNat::outs m (nx m s a.toNat) w).take (k+1);rw [zul w,List.take_succ_cons]
theorem zrp {m:zab} {w:List Int} {k:Nat}:outS m (w.take k)=(outS m w).take k:=zul w _ k
structure ChgOk (m:zab) (o:zan) (c:zaa):Prop where
 ck:zbs c.In m.Inputs=0
 ne:c.In≠[]
 ans:ansO o c.In=some c.Out
 len:c.Out.length=c.In.length
 same:c.Out.take (c.In.length-1)=(outS m c.In).take (c.In.length-1)
 last:c.Out[c.In.length-1]?≠(outS m c.In)[c.In.length-1]?
structure zjd (m:zab) (o:zan) (r:zag) (n:Nat):Prop where
 all:∀ c∈r.Changes,ChgOk m o c
 ord:r.Changes.Pairwise fun c d=>¬ c.In <+: d.In
 cnt:(↑r.Changes.length:Int)≤r.Run
 run:r.Run≤(↑n:Int)
theorem zjd.keep {m:zab} {o o':zan} {r:zag} {n:Nat} (h:zjd m o r n) (hk:∀ v x,ansO o v=some x→ansO o' v=some x):zjd m o' r n :=
 ⟨fun c hc=>have H:=h.all c hc;⟨H.ck,H.ne,hk _ _ H.ans,H.len,H.same,H.last⟩,h.ord,h.cnt,h.run⟩
theorem zjd.note {m:zab} {o:zan} {r:zag} {n:Nat} {w out:List Int} (h:zjd m o r n) (hm:1≤m.Inputs∧m.Inputs≤1024) (hv:zia o) (hw:zbs w m.Inputs=0) (hn:zlt r.Changes w=false) (ha:ansO o w=some out) (hl:out.length=w.length):zjd m o (ztw m r w out) (n+1):=by
 have hyl:(outS m w).length=w.length:=zhr _ _;unfold ztw;by_cases g:zaw (outS m w) out<w.length
 ·rw [if_pos g];have hc:=h.cnt;have hr:=h.run;have hil:(w.take (zaw (outS m w) out+1)).length=zaw (outS m w) out+1:=by rw [List.length_take];omega
  have hpre:w.take (zaw (outS m w) out+1) <+: w:=List.take_prefix _ _;refine ⟨fun c hc=>?_,?_,by simp only [zkJ,List.length_singleton];omega,by simp only;omega⟩
  ·rcases List.mem_append.1 hc with hc | hc
   ·exact h.all c hc
   ·rw [List.mem_singleton] at hc;subst hc;refine ⟨check_pre hpre hw hm,fun e=>?_,?_,?_,?_,?_⟩
    ·simp only at e;rw [e] at hil;simp at hil
    ·have:=ansO_cut hv ha hpre;rw [hil] at this;exact this
    ·simp only;rw [List.length_take,hil];omega
    ·simp only;rw [hil,Nat.add_sub_cancel,zrp,zno (Nat.le_succ _),zno (Nat.le_succ _)];exact (zlo _ _).symm
    ·simp only;rw [hil,Nat.add_sub_cancel,zrp,List.getElem?_take,if_pos (Nat.lt_succ_self _),List.getElem?_take,if_pos (Nat.lt_succ_self _),get_at (l:=out) (by omega),get_at (l:=outS m w) (by omega)];exact fun e=>commonR_off (by omega) (by omega) (Option.some.inj e).symm
  ·refine List.pairwise_append.2 ⟨h.ord,List.pairwise_singleton _ _,fun c hc d hd=>?_⟩;rw [List.mem_singleton] at hd;subst hd;intro hp;have:zlt r.Changes w=true:=List.any_eq_true.2 ⟨c,hc,zkB (hp.trans hpre)⟩;rw [hn] at this;cases this
 ·rw [if_neg g];have hc:=h.cnt;have hr:=h.run;exact ⟨h.all,h.ord,by simp only;omega,by simp only;omega⟩
theorem zs1 {m:zab} (hm:1≤m.Inputs∧m.Inputs≤1024):∀ (ws:List (List Int)) (q:zae) (r:zag) (n:Nat),OrOk q→q.Obs.Traces.length+ws.length≤900000→(∀ w∈ws,zbs w m.Inputs=0)→zjd m q.Obs r n →
  (runL m q r ws).2.2=0→zjd m (runL m q r ws).1.Obs (runL m q r ws).2.1 (n+ws.length)
 | [],q,r,n,_,_,_,R,_=>R
 | w::ws,q,r,n,Q,hs,hc,R,h0=>by
  have hcw:=hc w (by simp);have hwl:=ze7 hcw;simp only [zkL] at hs;unfold runL at h0 ⊢;rw [zkL,show n+(ws.length+1)=n+1+ws.length by omega];by_cases g0:zlt r.Changes w=true
  ·rw [if_pos g0] at h0 ⊢;exact zs1 hm ws q r (n+1) Q (by omega) (fun v hv=>hc v (by simp [hv])) ⟨R.all,R.ord,R.cnt,by have:=R.run;omega⟩ h0
  ·rw [if_neg g0] at h0 ⊢;obtain ⟨k1,k2,_⟩:=askO_ok (w:=w) Q (by omega) (by omega);by_cases g:(askO q w).2.2≠0
   ·rw [if_pos g] at h0;exact absurd h0 g
   ·rw [if_neg g] at h0 ⊢;obtain ⟨a1,a2,a3⟩:=askO_ans Q (by simpa using g);exact zs1 hm ws _ _ (n+1) k1 (by omega) (fun v hv=>hc v (by simp [hv])) ((R.keep a3).note hm k1.obs hcw (Bool.not_eq_true _ |>.mp g0) a2 a1) h0
theorem zjd.apart {m:zab} {o:zan} {r:zag} {n:Nat} (h:zjd m o r n) (hv:zia o) {i k:Nat} {c d:zaa} (hk:k<i) (hc:r.Changes[k]?=some c) (hd:r.Changes[i]?=some d):¬ c.In <+: d.In∧¬ d.In <+: c.In:=by
 have h1:¬ c.In <+: d.In:=by
  obtain ⟨k1,rfl⟩:=zkI.1 hc;obtain ⟨i1,rfl⟩:=zkI.1 hd;exact List.pairwise_iff_getElem.1 h.ord k i k1 i1 hk
 refine ⟨h1,fun hp=>?_⟩;have C:=h.all c (zkH hc);have D:=h.all d (zkH hd);have hle:=hp.length_le;have hdn:0<d.In.length:=List.length_pos_iff.2 D.ne
 have hlt:d.In.length<c.In.length:=by
  rcases Nat.lt_or_ge d.In.length c.In.length with e | e
  ·exact e
  ·have:d.In=c.In:=hp.eq_of_length (by omega);exact absurd (by rw [this];exact List.prefix_refl _) h1
 have e1:=ansO_cut hv C.ans hp;rw [D.ans] at e1;have e1:=Option.some.inj e1;have e2:d.In=c.In.take d.In.length:=(List.prefix_iff_eq_take.1 hp);apply D.last
 have e3:c.Out.take d.In.length=(outS m c.In).take d.In.length:=by
  have:=congrArg (List.take d.In.length) C.same
  rwa [zno (by omega),zno (by omega)] at this
 have e4:outS m d.In=(outS m c.In).take d.In.length:=by
  conv=>lhs;rw [e2]
  exact zrp
 rw [e4,← e3,← e1]
theorem L06_Great_tot (m:zab):∃ b,zlx m=some b:=by
 unfold zlx;by_cases g1:40<(↑m.Next.length:Int)
 ·exact ⟨true,by rw [zkB g1];rfl⟩
 rw [zkA g1,zkC];by_cases g2:40<(↑m.Out.length:Int)
 ·exact ⟨true,by rw [zkB g2];rfl⟩
 rw [zkA g2,zkC,zaq];exact ⟨_,rfl⟩
theorem L06_Long_tot {l:List (List Int)} (h:l.length≤2000000):∃ b,zf6 l=some b∧(b=false→l.length≤200):=by
 unfold zf6;by_cases g:200<l.length
 ·exact ⟨true,by rw [zkB (by omega)];rfl,fun e=>by cases e⟩
 ·rw [zkA (by omega),zkC]
  have key:=zdl (step:=fun s=>zf6.s2 l s) (l:=l) (fun _ x=>if 200<x.length then some true else none) (fun i x hx=>by
   simp only [zf6.s2]
   rw [zdj hx,zkD,za3 hx]
   by_cases a1:200<x.length
   ·rw [zkB (by omega),if_pos a1]
    rfl
   ·rw [zkA (by omega),if_neg a1]
    rfl) (by
   simp only [zf6.s2]
   rw [zc8]
   rfl) (by omega)
  rw [key];cases scan (fun _ x=>if 200<List.length x then some true else none) 0 l with
  | some r=>exact ⟨r,rfl,fun _=>by omega⟩
  | none=>exact ⟨false,rfl,fun _=>by omega⟩
theorem runO_ok {q:zae} {b:za2} (h:(runO q b).2.2=0):zfg b.M=0∧(∀ w∈b.Words,zbs w b.M.Inputs=0)∧q.Obs.Inputs=b.M.Inputs∧runO q b=runL b.M q ⟨0,[]⟩ b.Words:=by
 unfold runO at h ⊢;by_cases c1:zfg b.M=0
 ·rw [if_neg (fun h=>h c1)] at h ⊢;by_cases c2:10000<b.Words.length
  ·rw [if_pos c2] at h;cases h
  ·rw [if_neg c2] at h ⊢;cases hE:zmq b.M.Inputs b.Words with
   | some e =>
    rw [hE] at h;simp only at h;exfalso;unfold zmq at hE;obtain ⟨i,x,_,hx⟩:=zqv hE;split at hx
    ·rename_i hne;exact hne ((Option.some.inj hx).trans h)
    ·cases hx
   | none =>
    rw [hE] at h;simp only at h ⊢;by_cases c3:q.Obs.Inputs=b.M.Inputs
    ·rw [if_neg (fun h=>h c3)];exact ⟨c1,znh hE,c3,rfl⟩
    ·rw [if_pos c3] at h;cases h
 ·rw [if_pos c1] at h;exact absurd h c1
theorem runL_err {m:zab}:∀ (ws:List (List Int)) (q:zae) (r:zag),(runL m q r ws).2.2≠0→(runL m q r ws).2.1=⟨0,[]⟩
 | [],_,_,h=>absurd rfl h
 | w::ws,q,r,h=>by
  unfold runL at h ⊢;split at h
  ·rename_i g;rw [if_pos g];exact runL_err ws _ _ h
  ·rename_i g;rw [if_neg g];split at h
   ·rename_i g2;rw [if_pos g2]
   ·rename_i g2;rw [if_neg g2];exact runL_err ws _ _ h
theorem runO_err {q:zae} {b:za2} (h:(runO q b).2.2≠0):(runO q b).2.1=⟨0,[]⟩:=by
 unfold runO at h ⊢;split
 ·rfl
 ·split
  ·rfl
  ·split
   ·rfl
   ·split
    ·rfl
    ·rename_i g1 g2 x g3 g4;rw [if_neg g1,if_neg g2,g3] at h;simp only at h;rw [if_neg g4] at h;exact runL_err _ _ _ h
end
section
set_option maxRecDepth 100000
structure Free (M:zab) (d:zad) (n:Nat):Prop where
 ok:zf0 d
 seed:zg9 d
 mac:d.M=M
 fl:d.Faults.Lost=0∧d.Faults.Wrong=0∧d.Faults.Crash=0
 s:d.Steps+↑n≤1125899906842624
 r:d.Resets+↑n≤1125899906842624
 t:d.Time+↑n*1048576≤1125899906842624
structure FreeQ (M:zab) (q:zae) (n:Nat):Prop where
 ok:OrOk q
 dev:Free M q.Device (n*1025)
 v:q.Votes=1
 t:q.Tries=1
 ex:∀ t∈q.Obs.Traces,t.Out=outS M t.In
 num:q.Obs.Traces.length+n≤10000
theorem Free.less {M:zab} {d:zad} {n k:Nat} (h:Free M d n) (hk:k≤n):Free M d k :=
 ⟨h.ok,h.seed,h.mac,h.fl,by have:=h.s;omega,by have:=h.r;omega,by have:=h.t;omega⟩
section
variable {σ ρ:Type} {tup:zag→Nat→σ} {fin:zag→ρ} {m b:zab} {L:List (List Int)}
end
end
section
set_option maxRecDepth 100000
section
variable {m b M:zab}
end
end
section
set_option maxRecDepth 100000
structure NewOk (a:zab) (extra:Int) (M:zab) (L:List (Nat×List Int)):Prop where
 va:zfg a=0
 sem:MinSem a M
 vm:zfg M=0
 fin:MEnd M 0 L
 min:MinimalP M
 i4:M.Inputs≤4
 inp:M.Inputs=a.Inputs
 parts:Parts M (L.map Prod.snd) (uptoL M.Inputs (extra+1)) (idsM M)
 few:(L.map Prod.snd).length*(uptoL M.Inputs (extra+1)).length*mostL (idsM M)≤10000
 e1:0≤extra
 run:zbu a=some (M,0)
section
variable {a M b:zab} {extra:Int} {L:List (Nat×List Int)}
end
end
section
set_option maxRecDepth 100000
theorem scan_some {α R:Type} {p:α→Bool} {r:R}:∀ (l:List α) (j:Nat),scan (fun _ x=>if p x=true then some r else none) j l=if l.any p=true then some r else none
 | [],_=>rfl
 | x::l,j=>by
  unfold scan;by_cases h:p x=true
  ·rw [if_pos h,List.any_cons,h,Bool.true_or,if_pos rfl]
  ·rw [if_neg h,List.any_cons,Bool.not_eq_true _ |>.mp h,Bool.false_or]
   exact scan_some l (j+1)
theorem R50_known_eq {r:zag} {w:List Int} (hl:r.Changes.length≤1000000) (hw:SmW w):ze9 r w=some (zlt r.Changes w):=by
 unfold ze9
 have key:=zdl (step:=fun s=>ze9.s2 r w s) (l:=r.Changes) (fun _ t=>if decide (t.In <+: w)=true then some true else none) (fun i x hx=>by
  simp only [ze9.s2]
  rw [zdj hx,zkD,za3 hx,zfm _ _ hw,zaq]
  by_cases g:x.In <+: w
  ·rw [zkB g,if_pos rfl]
   rfl
  ·rw [zkA g,if_neg Bool.false_ne_true]
   rfl) (by
  simp only [ze9.s2]
  rw [zc8]
  rfl) (by omega)
 rw [key,scan_some (p:=fun t:zaa=>decide (t.In <+: w))];unfold zlt;cases h:r.Changes.any fun t=>decide (t.In <+: w) with
 | true=>rw [if_pos rfl];rfl
 | false=>rw [if_neg Bool.false_ne_true];rfl
theorem outsR_eq {m:zab} {w:List Int} (hv:zfg m=0) (hw:zbs w m.Inputs=0):zev m m.Start w=some (outS m w,(↑(dest m m.Start.toNat w):Int)):=by
 have H:=zo0 hv;have st:=H.st;have hl:=ze7 hw;have hs:m.Start=(↑m.Start.toNat:Int):=by omega
 have:=R06_Outs_eq H (s:=m.Start.toNat) (by omega) (zrg hw) (by omega);rw [← hs] at this;exact this
theorem R50_with_eq {m:zab} {r:zag} {w out:List Int} (hv:zfg m=0) (hw:zbs w m.Inputs=0) (ho:out.length=w.length) {n:Nat} (hr:RepOk r n) (hn:n≤100000) :
  znw r m w out=some (ztw m r w out):=by
 obtain ⟨h1,h2,h3⟩:=hr;have hl:=ze7 hw;have hol:(outS m w).length=w.length:=zhr _ _;have hc:=zg6 (outS m w) out;unfold znw;rw [zau (by unfold inR;omega),outsR_eq hv hw,zaq];simp only;rw [zf9 _ _ (by unfold SmW;omega),zaq];unfold ztw;by_cases g:zaw (outS m w) out<w.length
 ·have hj:∀ l:List Int,l.length≤1024→ze2 [l]=some l:=fun l hl=>by
   rw [zkh _ (by simp) (by simp;omega)];simp
  have ht:Int.toNat ((↑(zaw (outS m w) out):Int)+1)=zaw (outS m w) out+1:=by omega
  rw [zkB (by omega),zkD,zau (by unfold inR;omega),zau ⟨by omega,by omega⟩,hj _ (by rw [List.length_take];omega),zaq,zau (by unfold inR;omega),zau ⟨by omega,by omega⟩,hj _ (by rw [List.length_take];omega),zaq,zau (by unfold zbt;omega),zaq,if_pos g,ht]
 ·rw [zkA (by omega),zkC,zaq,if_neg g]
section
variable {a M b:zab} {extra:Int} {L:List (Nat×List Int)}
end
theorem same_self {r:zag} (h:SmTr r.Changes):zgj r r=some true:=by
 unfold zgj;rw [zkB rfl,zkD,zit h];rfl
end
section
set_option maxRecDepth 100000
abbrev tupJ (q:zae) (r:zag) (i:Nat):=(q.Device.M.Inputs,q.Device.M.Start,q.Device.M.Next,q.Device.M.Out,q.Device.State,q.Device.Ready,q.Device.Latency.Step,q.Device.Latency.Reset,q.Device.Faults.Lost,q.Device.Faults.Wrong,q.Device.Faults.Crash,q.Device.Seed,q.Device.Steps,q.Device.Resets,q.Device.Time,q.Obs.Inputs,q.Obs.Traces,q.Votes,q.Tries,q.Asked,q.Hits,r.Run,r.Changes,i)
abbrev tupK (q:zae) (r:zag):=(q.Device.M.Inputs,q.Device.M.Start,q.Device.M.Next,q.Device.M.Out,q.Device.State,q.Device.Ready,q.Device.Latency.Step,q.Device.Latency.Reset,q.Device.Faults.Lost,q.Device.Faults.Wrong,q.Device.Faults.Crash,q.Device.Seed,q.Device.Steps,q.Device.Resets,q.Device.Time,q.Obs.Inputs,q.Obs.Traces,q.Votes,q.Tries,q.Asked,q.Hits,r.Run,r.Changes)
def zje (b:za2):Int :=
 if zfg b.M≠0 then zfg b.M else if 10000<b.Words.length then 11 else match zmq b.M.Inputs b.Words with
  | some e=>e
  | none=>0
theorem R50_Proper_eq {b:za2} (hs:SmL b.Words):zem b=some (zje b):=by
 have hsl:=hs.1;unfold zem zje;rw [zp9,zaq];by_cases c1:zfg b.M=0
 ·rw [zkA (fun h=>h c1),zkC,if_neg (fun h=>h c1)];by_cases c2:10000<b.Words.length
  ·rw [zkB (by omega),zkD,if_pos c2]
  rw [zkA (by omega),zkC,if_neg c2]
  have key1:=zdl (step:=fun s=>zem.s2 b s) (l:=b.Words) (fun _ w=>if zbs w b.M.Inputs≠0 then some (zbs w b.M.Inputs) else none) (fun i x hx=>by
   simp only [zem.s2]
   rw [zdj hx,zkD,za3 hx,zgv _ _ (hs.2 x (zkH hx)),zaq]
   by_cases g:zbs x b.M.Inputs≠0
   ·rw [if_pos g,zkB g]
    rfl
   ·rw [if_neg g,zkA g]
    rfl) (by
   simp only [zem.s2]
   rw [zc8]
   rfl) (by omega)
  rw [key1];unfold zmq;cases scan (fun _ w=>if zbs w b.M.Inputs≠0 then some (zbs w b.M.Inputs) else none) 0 b.Words with
  | some e=>rfl
  | none=>rfl
 ·rw [zkB c1,zkD,if_pos c1]
theorem firstE_some {n:Int} {ws:List (List Int)} {e:Int} (h:zmq n ws=some e):e≠0:=by
 unfold zmq at h;obtain ⟨i,x,_,hx⟩:=zqv h;split at hx
 ·rename_i hne;rw [← Option.some.inj hx];exact hne
 ·cases hx
theorem R50_Run_eq {q:zae} {b:za2} (Q:OrOk q) (hl:b.Words.length≤10000→q.Obs.Traces.length+b.Words.length≤900000) (hs:SmL b.Words):zep q b=some (runO q b):=by
 have hf:=zcb;have hsl:=hs.1;unfold zep runO;rw [R50_Proper_eq hs,zaq];by_cases c1:zfg b.M=0
 ·rw [if_neg (fun h=>h c1)];by_cases c2:10000<b.Words.length
  ·have hp:zje b=11:=by
    unfold zje;rw [if_neg (fun h=>h c1),if_pos c2]
   rw [hp,if_pos c2,zkB (by decide),zkD]
  rw [if_neg c2];have hlt:=hl (by omega);cases hE:zmq b.M.Inputs b.Words with
  | some e =>
   have hp:zje b=e:=by
    unfold zje;rw [if_neg (fun h=>h c1),if_neg c2,hE]
   rw [hp,zkB (firstE_some hE),zkD]
  | none =>
   have hc:∀ w∈b.Words,zbs w b.M.Inputs=0:=fun w hw=>znh hE w hw
   have hp:zje b=0:=by
    unfold zje;rw [if_neg (fun h=>h c1),if_neg c2,hE]
   rw [hp,zkA (fun h=>h rfl),zkC];simp only;by_cases c3:q.Obs.Inputs=b.M.Inputs
   ·have c4:¬ b.M.Inputs≠q.Obs.Inputs:=fun h=>h c3.symm;rw [zkA c4,zkC,if_neg (fun h=>h c3)]
    have A:=zq2 (tup:=tupJ) (fin:=tupK) (m:=b.M) (L:=b.Words) (S2:=fun s=>zep.s8 b s.1 s.2.1 s.2.2.1 s.2.2.2.1 s.2.2.2.2.1 s.2.2.2.2.2.1 s.2.2.2.2.2.2.1 s.2.2.2.2.2.2.2.1 s.2.2.2.2.2.2.2.2.1 s.2.2.2.2.2.2.2.2.2.1 s.2.2.2.2.2.2.2.2.2.2.1 s.2.2.2.2.2.2.2.2.2.2.2.1 s.2.2.2.2.2.2.2.2.2.2.2.2.1 s.2.2.2.2.2.2.2.2.2.2.2.2.2.1 s.2.2.2.2.2.2.2.2.2.2.2.2.2.2.1 s.2.2.2.2.2.2.2.2.2.2.2.2.2.2.2.1 s.2.2.2.2.2.2.2.2.2.2.2.2.2.2.2.2.1 s.2.2.2.2.2.2.2.2.2.2.2.2.2.2.2.2.2.1 s.2.2.2.2.2.2.2.2.2.2.2.2.2.2.2.2.2.2.1 s.2.2.2.2.2.2.2.2.2.2.2.2.2.2.2.2.2.2.2.1 s.2.2.2.2.2.2.2.2.2.2.2.2.2.2.2.2.2.2.2.2.1 s.2.2.2.2.2.2.2.2.2.2.2.2.2.2.2.2.2.2.2.2.2.1 s.2.2.2.2.2.2.2.2.2.2.2.2.2.2.2.2.2.2.2.2.2.2.1 s.2.2.2.2.2.2.2.2.2.2.2.2.2.2.2.2.2.2.2.2.2.2.2) (fun q' r i w Q' R hx=>by
     have hm:=zkH hx
     have hcw:=hc w hm
     have hwl:=ze7 hcw
     have hin:i<b.Words.length:=(zkI.1 hx).1
     have r3:=R.2.2
     show zep.s8 b _ _ _ _ _ _ _ _ _ _ _ _ _ _ _ _ _ _ _ _ _ _ _ _=_
     unfold zep.s8
     simp only
     rw [or_eta,zdj hx,zkD,za3 hx,R50_known_eq (by simp only;omega) (hs.2 w hm),zaq]
     by_cases g0:zlt r.Changes w=true
     ·rw [g0,if_pos rfl]
      rfl
     ·rw [if_neg g0,Bool.not_eq_true _ |>.mp g0,zkC,za3 hx,Ask_r Q' (by omega),zaq]
      by_cases g:(askO q' w).2.2≠0
      ·rw [if_pos g,zkB g]
       rfl
      ·have g':(askO q' w).2.2=0:=by simpa using g
       obtain ⟨a1,_,_⟩:=askO_ans Q' g'
       rw [if_neg g,zkA g,zkC,za3 hx,R50_with_eq c1 hcw a1 R (by omega),zaq]
       rfl) (fun q' r=>by
     show zep.s8 b _ _ _ _ _ _ _ _ _ _ _ _ _ _ _ _ _ _ _ _ _ _ _ _=_
     unfold zep.s8
     rw [zc8,zkC]) (fun w hw=>by have:=ze7 (hc w hw);omega) fuel 0 q ⟨0,[]⟩ Q ⟨by simp,by simp,by simp⟩ (by omega) (Nat.zero_le _) (by omega)
    rw [List.drop_zero] at A;refine (congrArg (fun z=>Option.bind z _) A.1).trans ?_;rw [zaq];unfold runF;generalize runL b.M q ⟨0,[]⟩ b.Words=x;obtain ⟨x1,x2,x3⟩:=x;by_cases g:x3=0
    ·rw [if_pos g,g];rfl
    ·rw [if_neg g];rfl
   ·have c4:b.M.Inputs≠q.Obs.Inputs:=fun h=>c3 h.symm;rw [zkB c4,zkD,if_pos c3]
 ·have hp:zje b=zfg b.M:=by
   unfold zje;rw [if_pos c1]
  rw [hp,if_pos c1,zkB c1,zkD]
theorem zo5 {q:zae} {b:za2} (hq:SmQ q) (hs:SmL b.Words):zfy q b=some true:=by
 have hA:=awake50_true;obtain ⟨b1,e1,z1⟩:=L21_Great_tot hq;obtain ⟨b2,e2⟩:=L06_Great_tot b.M;obtain ⟨b3,e3,z3⟩:=L06_Long_tot hs.1;obtain ⟨b4,e4,z4⟩:=R21_Valid_tot hq hq.o;unfold zfy;rw [hA,e1,zaq];cases b1 with
 | true=>rfl
 | false =>
  rw [zkC,e2,zaq];cases b2 with
  | true=>rfl
  | false =>
   rw [zkC,e3,zaq];cases b3 with
   | true=>rfl
   | false =>
    rw [zkC,e4,zaq];cases b4 with
    | false=>rfl
    | true =>
     have Q:=z4 rfl;have hl:=z3 rfl;obtain ⟨h60,_⟩:=z1 rfl;obtain ⟨r1,r2⟩:=ztm (b:=b) Q (fun _=>by omega) hs;have r3:=R50_Run_eq (b:=b) Q (fun _=>by omega) hs
     have hsm:SmTr (runO q b).2.1.Changes:=by
      by_cases g:(runO q b).2.2=0
      ·obtain ⟨hM,hc,hi,e⟩:=runO_ok g;have H:=zo0 hM;have hI:=H.i1;have hI2:=H.i2;have F:=zs1 (m:=b.M) (by omega) b.Words q ⟨0,[]⟩ 0 Q (by omega) hc ⟨fun c hc=>(by cases hc),List.Pairwise.nil,by simp,by simp⟩ (by rw [← e];exact g);rw [← e] at F;have f1:=F.cnt;have f2:=F.run;refine ⟨by omega,fun c hc=>?_⟩;have C:=F.all c hc;have hcl:=ze7 C.ck;have hol:=C.len;refine ⟨?_,?_⟩<;>(unfold SmW;omega)
      ·rw [runO_err g];exact ⟨by simp,fun c hc=>by cases hc⟩
     rw [Bool.not_true,zaq,zkC,r1,zaq,r3,zaq,R21_Same_self r2.dev r2.tr,zaq,zkD,same_self hsm];simp
end
section
theorem zm8 (x0:zae) (x1:za2) (k0:zkl x0) (s0:zif x0≤1048576) (_:zlr x1) (s1:ziv x1≤1048576):zfy x0 x1=some true :=
 zo5 (smq_of k0 s0) (by
  unfold ziv at s1
  exact sml_of (N:=1048576) (by omega) (by omega))
end
end Go.Proofs.YtcneaiejdidooaaGreatDoor.Sym

/- Parts of the proof. -/
import Derived.Test.YtdjagdnpnhmldaaGreatDoorM2
import Derived.Lib.Hide
import Derived.Lib.AppendZeros
import Derived.Shelf.SlSortCmp.NoneTotal
import Derived.Lib.OwnBridge
import Derived.Lib.BufferRead
import Derived.WalkSmall
import Derived.Shelf.SlSortCmp.Whole1
import Derived.Shelf.SlSortCmp.WholeK
import Derived.Shelf.SlGeneric
import Derived.Ground.SlsfProg
import Derived.Lib.AppendZerosOnto
import Derived.Lib.Overlaps
import Derived.Lib.Walk
import Derived.Shelf.RegionOpenPlain
import Derived.Laws.NewBlocks
import Derived.Deep.WholeRow
set_option linter.all false
set_option maxRecDepth 100000
set_option maxHeartbeats 4000000
open Go.RowKit
namespace Go.Proofs.YtdjagdnpnhmldaaGreatDoor
def G6:List Int->List Int->Nat
 |x::xs,y::ys=>if x=y then G6 xs ys+1 else 0
 |_,_=>0
def pT:∀xs ys:List Int,G6 xs ys<=xs.length/\G6 xs ys<=ys.length
 |[],_=>by simp[G6]
 |_::_,[]=>by simp[G6]
 |x::xs,y::ys=>by
  have h:=pT xs ys;simp only[G6];split<;>simp<;>omega
def AE{xs ys:List Int}{k:Nat}(h:xs.length<=k\/ys.length<=k):G6 (xs.drop k) (ys.drop k)=0:=by
 rcases h with h|h
 ·rw[List.drop_eq_nil_of_le h];simp[G6]
 ·rw[List.drop_eq_nil_of_le h];cases xs.drop k<;>simp[G6]
def xA:∀w p:List Int,G6 w p=p.length↔p <+: w
 |[],[]=>by simp[G6]
 |[],y::ys=>by simp[G6]
 |x::xs,[]=>by simp[G6]
 |x::xs,y::ys=>by
  simp only[G6,List.length_cons,List.cons_prefix_cons];by_cases h:x=y
  ·subst h;simp[xA xs ys]
  ·rw[if_neg h];constructor
   ·intro h';omega
   ·rintro⟨rfl,_⟩;exact absurd rfl h
def lexI:List Int->List Int->Int
 |[],[]=>0
 |[],_::_=>-1
 |_::_,[]=>1
 |x::xs,y::ys=>if x<y then -1 else if y<x then 1 else lexI xs ys
def cmpW(a b:List Int):Int:=if a.length<b.length then -1 else if b.length<a.length then 1 else lexI a b
def kO:∀a b:List Int,lexI a b=-1\/lexI a b=0\/lexI a b=1
 |[],[]=>by simp[lexI]
 |[],_::_=>by simp[lexI]
 |_::_,[]=>by simp[lexI]
 |x::xs,y::ys=>by
  simp only[lexI];split
  ·simp
  ·split
   ·simp
   ·exact kO xs ys
def mW:∀a b:List Int,lexI a b=0↔a=b
 |[],[]=>by simp[lexI]
 |[],_::_=>by simp[lexI]
 |_::_,[]=>by simp[lexI]
 |x::xs,y::ys=>by
  simp only[lexI,List.cons.injEq];by_cases h1:x<y
  ·rw[if_pos h1];constructor
   ·intro h;omega
   ·rintro⟨rfl,_⟩;omega
  ·rw[if_neg h1];by_cases h2:y<x
   ·rw[if_pos h2];constructor
    ·intro h;omega
    ·rintro⟨rfl,_⟩;omega
   ·rw[if_neg h2,mW xs ys];constructor
    ·intro h;exact⟨by omega,h⟩
    ·rintro⟨_,h⟩;exact h
def lexI_refl(a:List Int):lexI a a=0:=(mW a a).2 rfl
def lQ:∀a b:List Int,lexI b a=- lexI a b
 |[],[]=>by simp[lexI]
 |[],_::_=>by simp[lexI]
 |_::_,[]=>by simp[lexI]
 |x::xs,y::ys=>by
  simp only[lexI];by_cases h1:x<y
  ·rw[if_neg (show ¬y<x by omega),if_pos h1,if_pos h1];simp
  ·by_cases h2:y<x
   ·rw[if_pos h2,if_neg h1,if_pos h2]
   ·rw[if_neg h2,if_neg h1,if_neg h1,if_neg h2];exact lQ xs ys
def pZ:∀a b c:List Int,lexI a b=-1->lexI b c=-1->lexI a c=-1
 |[],[],_,h,_=>by simp[lexI]at h
 |[],_::_,[],_,h=>by simp[lexI]at h
 |[],_::_,_::_,_,_=>by simp[lexI]
 |_::_,[],_,h,_=>by simp[lexI]at h
 |_::_,_::_,[],_,h=>by simp[lexI]at h
 |x::xs,y::ys,z::zs,h1,h2=>by
  simp only[lexI]at h1 h2 ⊢;by_cases p:x<y
  ·by_cases q:y<z
   ·rw[if_pos (by omega)]
   ·rw[if_neg q]at h2;by_cases r:z<y
    ·rw[if_pos r]at h2;omega
    ·rw[if_pos (by omega)]
  ·rw[if_neg p]at h1;by_cases p':y<x
   ·rw[if_pos p']at h1;omega
   ·rw[if_neg p']at h1;by_cases q:y<z
    ·rw[if_pos (by omega)]
    ·rw[if_neg q]at h2;by_cases r:z<y
     ·rw[if_pos r]at h2;omega
     ·rw[if_neg r]at h2;rw[if_neg (by omega),if_neg (by omega)];exact pZ xs ys zs h1 h2
def FL:∀a b:List Int,lexI a b =
  if G6 a b=a.length/\G6 a b=b.length then 0 else
  if G6 a b=a.length\/(G6 a b<b.length/\a.getD (G6 a b) 0<b.getD (G6 a b) 0) then -1 else 1
 |[],[]=>by simp[lexI,G6]
 |[],_::_=>by simp[lexI,G6]
 |_::_,[]=>by simp[lexI,G6]
 |x::xs,y::ys=>by
  have ih:=FL xs ys;simp only[lexI,G6];by_cases h:x=y
  ·subst h;rw[if_neg (by omega),if_neg (by omega),ih];simp
  ·by_cases h1:x<y
   ·simp[h,h1]
   ·have h2:y<x:=by omega
    simp[h,h1,h2]
def nD(a b:List Int):cmpW a b=-1\/cmpW a b=0\/cmpW a b=1:=by
 unfold cmpW;split
 ·simp
 ·split
  ·simp
  ·exact kO a b
def pM(a b:List Int):cmpW a b=0↔a=b:=by
 unfold cmpW;by_cases h1:a.length<b.length
 ·rw[if_pos h1];constructor
  ·intro h;omega
  ·rintro rfl;omega
 ·rw[if_neg h1];by_cases h2:b.length<a.length
  ·rw[if_pos h2];constructor
   ·intro h;omega
   ·rintro rfl;omega
  ·rw[if_neg h2,mW]
def dJ(a:List Int):cmpW a a=0:=(pM a a).2 rfl
def pQ(a b:List Int):cmpW b a=- cmpW a b:=by
 unfold cmpW;by_cases h1:a.length<b.length
 ·rw[if_neg (by omega),if_pos h1,if_pos h1];simp
 ·by_cases h2:b.length<a.length
  ·rw[if_pos h2,if_neg h1,if_pos h2]
  ·rw[if_neg h2,if_neg h1,if_neg h1,if_neg h2];exact lQ a b
def kQ(a b c:List Int)(h1:cmpW a b=-1)(h2:cmpW b c=-1):cmpW a c=-1:=by
 unfold cmpW at *;by_cases p:a.length<b.length
 ·by_cases q:b.length<c.length
  ·rw[if_pos (by omega)]
  ·rw[if_neg q]at h2;by_cases r:c.length<b.length
   ·rw[if_pos r]at h2;omega
   ·rw[if_pos (by omega)]
 ·rw[if_neg p]at h1;by_cases p':b.length<a.length
  ·rw[if_pos p']at h1;omega
  ·rw[if_neg p']at h1;by_cases q:b.length<c.length
   ·rw[if_pos (by omega)]
   ·rw[if_neg q]at h2;by_cases r:c.length<b.length
    ·rw[if_pos r]at h2;omega
    ·rw[if_neg r]at h2;rw[if_neg (by omega),if_neg (by omega)];exact pZ a b c h1 h2
def Asc(l:List (List Int)):Prop:=l.Pairwise λa b=>cmpW a b=-1
def iZ(l:List (List Int)):Nat:=l.foldl (λn w=>max n w.length) 0
def foldl_max_le(l:List (List Int)):∀n b:Nat,(l.foldl (λn w=>max n w.length) n<=b↔n<=b/\∀x∈l,x.length<=b):=by
 induction l with
 |nil=>intro n b;simp
 |cons y l ih =>
  intro n b;rw[List.foldl_cons,ih];simp only[List.forall_mem_cons];constructor
  ·rintro⟨h1,h2⟩;exact⟨by omega,by omega,h2⟩
  ·rintro⟨h1,h2,h3⟩;exact⟨by omega,h3⟩
def AP(l:List (List Int))(b:Nat):iZ l<=b↔∀x∈l,x.length<=b:=by
 rw[iZ,foldl_max_le];simp
def R7(l:List (List Int))(w:List Int):Nat:=(l.takeWhile λx=>cmpW x w==-1).length
def placeL_of:∀{l:List (List Int)} {w:List Int} {k:Nat},k<=l.length->(∀i x,i<k->l[i]?=some x->cmpW x w=-1) ->
  (∀x,l[k]?=some x->cmpW x w≠-1)->R7 l w=k
 |[],w,k,h,_,_=>by simp at h;subst h;rfl
 |y::l,w,0,_,_,h2=>by
  have:=h2 y (by simp);simp[R7,this]
 |y::l,w,k+1,h,h1,h2=>by
  have hy:=h1 0 y (by omega) (by simp);have ih:=placeL_of (l:=l) (w:=w) (k:=k) (by simpa using h) (λi x hi hx=>h1 (i+1) x (by omega) (by simpa using hx)) (λx hx=>h2 x (by simpa using hx));simp[R7,hy]at ih ⊢;exact ih
def placeL_le(l:List (List Int))(w:List Int):R7 l w<=l.length:=by
 unfold R7;exact(List.takeWhile_sublist _).length_le
def I2(xs:List Int)(inputs:Int):Int :=
 if 1<=inputs/\inputs<=1024 then if 1024<xs.length then 3 else if xs.all λa=>decide (0<=a/\a<inputs) then 0 else 1 else 2
def Asc.get{l:List (List Int)}(h:Asc l){i j:Nat}{x y:List Int}(hij:i<j)(hx:l[i]?=some x)(hy:l[j]?=some y):cmpW x y=-1:=by
 have hj:j<l.length:=(List.getElem?_eq_some_iff.1 hy).1;have h1:=List.pairwise_iff_getElem.1 h i j (by omega) hj hij;rw[List.getElem?_eq_getElem (by omega)]at hx;rw[List.getElem?_eq_getElem hj]at hy;injection hx with hx
 injection hy with hy
 rw[<- hx,<- hy];exact h1
def insW(l:List (List Int))(x:List Int):List (List Int):=if x∈l then l else l.take (R7 l x)++x::l.drop (R7 l x)
def AO:∀(l:List (List Int)) (w:List Int),(∀i x,i<R7 l w->l[i]?=some x->cmpW x w=-1)/\(∀x,l[R7 l w]?=some x->cmpW x w≠-1)
 |[],w=>by simp[R7]
 |y::l,w=>by
  have ih:=AO l w;by_cases hy:cmpW y w=-1
  ·have e:R7 (y::l) w=R7 l w+1:=by simp[R7,hy]
   rw[e];refine⟨λi x hi hx=>?_,λx hx=>ih.2 x (by simpa using hx)⟩;cases i with
   |zero=>simp at hx;rw[<- hx];exact hy
   |succ i=>exact ih.1 i x (by omega) (by simpa using hx)
  ·have e:R7 (y::l) w=0:=by simp[R7,hy]
   rw[e];refine⟨λi x hi=>absurd hi (by omega),λx hx=>?_⟩;simp at hx;rw[<- hx];exact hy
def Asc.mem_place{l:List (List Int)}(h:Asc l)(w:List Int):w∈l↔l[R7 l w]?=some w:=by
 constructor
 ·intro hm;obtain⟨i,hi⟩:=List.getElem?_of_mem hm;have hs:=AO l w
  have h1:¬i<R7 l w:=λa2=>by
   have:=hs.1 i w a2 hi;rw[dJ]at this;omega
  by_cases h2:i=R7 l w
  ·rw[<- h2];exact hi
  ·have a3:i<l.length:=(List.getElem?_eq_some_iff.1 hi).1;have hg:l[R7 l w]?=some l[R7 l w]:=List.getElem?_eq_getElem (by omega);have:=h.get (by omega) hg hi;exact absurd this (hs.2 _ hg)
 ·intro h2;exact List.mem_of_getElem? h2
def bV(l:List (List Int))(x y:List Int):y∈insW l x↔y∈l\/y=x:=by
 unfold insW;split
 ·rename_i h;constructor
  ·exact Or.inl
  ·rintro (h'|rfl)
   ·exact h'
   ·exact h
 ·have e:y∈l↔y∈l.take (R7 l x)\/y∈l.drop (R7 l x):=by
   rw[<- List.mem_append,List.take_append_drop]
  rw[List.mem_append,List.mem_cons,e];constructor
  ·rintro (h|h|h)
   ·exact Or.inl (Or.inl h)
   ·exact Or.inr h
   ·exact Or.inl (Or.inr h)
  ·rintro ((h|h)|h)
   ·exact Or.inl h
   ·exact Or.inr (Or.inr h)
   ·exact Or.inr (Or.inl h)
def Asc.insW{l:List (List Int)}(h:Asc l)(x:List Int):Asc (insW l x):=by
 unfold Go.Proofs.YtdjagdnpnhmldaaGreatDoor.insW;split
 ·exact h
 ·rename_i hm;have hs:=AO l x
  have a2:∀a∈l.take (R7 l x),cmpW a x=-1:=λa ha=>by
   obtain⟨i,hi⟩:=List.getElem?_of_mem ha;rw[List.getElem?_take]at hi;split at hi
   ·rename_i a5;exact hs.1 i a a5 hi
   ·cases hi
  have a3:∀b∈l.drop (R7 l x),cmpW x b=-1:=λb hb=>by
   obtain⟨i,hi⟩:=List.getElem?_of_mem hb;rw[List.getElem?_drop]at hi;have a6:R7 l x+i<l.length:=(List.getElem?_eq_some_iff.1 hi).1;have hg:l[R7 l x]?=some l[R7 l x]:=List.getElem?_eq_getElem (by omega);have h0:=hs.2 _ hg;have a7:cmpW l[R7 l x] x≠0:=λe=>hm (by rw[<- (pM _ _).1 e];exact List.getElem_mem _);have hr:=nD l[R7 l x] x;have h1:cmpW x l[R7 l x]=-1:=by rw[pQ];omega
   by_cases a4:i=0
   ·subst a4;rw[Nat.add_zero,hg]at hi;injection hi with hi
    rw[<- hi];exact h1
   ·exact kQ _ _ _ h1 (h.get (by omega) hg hi)
  unfold Asc;rw[List.pairwise_append,List.pairwise_cons];refine⟨List.Pairwise.sublist (List.take_sublist _ _) h,⟨a3,List.Pairwise.sublist (List.drop_sublist _ _) h⟩,λa ha b hb=>?_⟩;rcases List.mem_cons.1 hb with rfl|hb
  ·exact a2 a ha
  ·exact kQ _ _ _ (a2 a ha) (a3 b hb)
def GJ(l:List (List Int))(x:List Int):(insW l x).length<=l.length+1:=by
 unfold insW;split
 ·omega
 ·simp;omega
def asc_nil:Asc []:=List.Pairwise.nil
def oW:∀{l m:List (List Int)},Asc l->Asc m->(∀x,x∈l↔x∈m)->l=m
 |[],[],_,_,_=>rfl
 |[],y::m,_,_,h=>absurd ((h y).2 (by simp)) (by simp)
 |x::l,[],_,_,h=>absurd ((h x).1 (by simp)) (by simp)
 |x::l,y::m,hl,hm,h=>by
  have h1:=List.pairwise_cons.1 hl;have h2:=List.pairwise_cons.1 hm
  have hxy:x=y:=by
   rcases List.mem_cons.1 ((h x).1 (by simp)) with e|hx
   ·exact e
   ·rcases List.mem_cons.1 ((h y).2 (by simp)) with e|hy
    ·exact e.symm
    ·have a:=h2.1 x hx;have b:=h1.1 y hy;rw[pQ]at a;omega
  subst hxy
  have a2:∀{k:List (List Int)},(∀b∈k,cmpW x b=-1)->x∉k:=λhk hx=>by
   have:=hk x hx;rw[dJ]at this;omega
  rw[oW h1.2 h2.2 λz=>?_];have:=h z;simp only[List.mem_cons]at this;constructor
  ·intro hz;rcases this.1 (Or.inr hz) with rfl|h'
   ·exact absurd hz (a2 h1.1)
   ·exact h'
  ·intro hz;rcases this.2 (Or.inr hz) with rfl|h'
   ·exact absurd hz (a2 h2.1)
   ·exact h'
def sortW(l:List (List Int)):List (List Int):=l.foldl insW []
def sortW_snoc(l:List (List Int))(x:List Int):sortW (l++[x])=insW (sortW l) x:=by simp[sortW]
def qC:∀(l a:List (List Int)),Asc a->Asc (l.foldl insW a)/\(∀x,x∈l.foldl insW a↔x∈a\/x∈l)/\(l.foldl insW a).length<=a.length+l.length
 |[],a,h=>⟨h,λx=>by simp,by simp⟩
 |y::l,a,h=>by
  obtain⟨h1,h2,h3⟩:=qC l (insW a y) (h.insW y);refine⟨h1,λx=>?_,?_⟩
  ·rw[List.foldl_cons,h2,bV,List.mem_cons,or_assoc]
  ·have:=GJ a y;rw[List.foldl_cons,List.length_cons];omega
def gO(l:List (List Int)):Asc (sortW l):=(qC l [] asc_nil).1
def dL(l:List (List Int))(x:List Int):x∈sortW l↔x∈l:=by
 rw[sortW,(qC l [] asc_nil).2.1 x];simp
def xM(l:List (List Int)):(sortW l).length<=l.length:=by
 have:=(qC l [] asc_nil).2.2;simpa[sortW]using this
section
def Keeps(w w':World):Prop:=∀p u,w.cell? p=some u->w'.cell? p=some u
def Keeps.of_below{w w':World}(h:Below w.heap.size w w'):Keeps w w':=λp _ hu =>
 (h.cell (p:=p) (World.block_lt_of_cell? w p hu)).trans hu
def T4{V:Type}(w:World)(R:Value->V->Prop)(A:Option Addr)(n c:Nat)(l:List V):Prop :=
 l.length=n/\n<=c/\n<=17592186044416 /\
  (0<n->∃b o,A=some ⟨b,o,none⟩/\∀i x,l[i]?=some x->∃u,w.cell? ⟨b,o+i,none⟩=some u/\R u x)
def cJ(u:Value)(x:Int):Prop:=u=.int .i64 x
section
variable {V:Type}{w w':World}{R R':Value->V->Prop}{A:Option Addr}{n c k:Nat}{l:List V}
def T4.len(h:T4 w R A n c l):l.length=n:=h.1
def T4.small(h:T4 w R A n c l):n<=17592186044416:=h.2.2.1
def T4.keep(h:T4 w R A n c l)(hk:Keeps w w')(hR:∀u x,R u x->R' u x):T4 w' R' A n c l :=
 ⟨h.1,h.2.1,h.2.2.1,λhn=>by
  obtain⟨b,o,e,hc⟩:=h.2.2.2 hn
  refine⟨b,o,e,λi x hx=>?_⟩
  obtain⟨u,hu,hr⟩:=hc i x hx
  exact⟨u,hk _ _ hu,hR _ _ hr⟩⟩
def T4.at_(h:T4 w R A n c l)(hk:k<n):∃b o u x,A=some ⟨b,o,none⟩/\l[k]?=some x/\w.cell? ⟨b,o+k,none⟩=some u/\R u x:=by
 obtain⟨b,o,e,hc⟩:=h.2.2.2 (by omega);have hl:k<l.length:=by rw[h.1];exact hk
 obtain⟨u,hu,hr⟩:=hc k l[k] (List.getElem?_eq_getElem hl);exact⟨b,o,u,l[k],e,List.getElem?_eq_getElem hl,hu,hr⟩
end
def T4.int_at{w:World}{A:Option Addr}{n c k:Nat}{xs:List Int}(h:T4 w cJ A n c xs)(hk:k<n) :
  ∃b o x,A=some ⟨b,o,none⟩/\xs[k]?=some x/\w.cell? ⟨b,o+k,none⟩=some (.int .i64 x):=by
 obtain⟨b,o,u,x,e,hx,hu,rfl⟩:=h.at_ hk;exact⟨b,o,x,e,hx,hu⟩
def iX{k:IntKind}{a b:Int}(h:a=b):Ending.returned (.int k a)=.returned (.int k b):=by rw[h]
def T4.kept{V:Type}{w w':World}{R:Value->V->Prop}{A:Option Addr}{n c:Nat}{l:List V}(h:T4 w R A n c l)(hk:Keeps w w'):T4 w' R A n c l:=h.keep hk λ_ _ h=>h
def Q2{V:Type}{l:List V}{k:Nat}{x:V}(hl:l[k]?=some x):l.take (k+1)=l.take k++[x]:=by
 rw[List.take_add_one,hl];rfl
def xN{V:Type}{l:List V}{k:Nat}{x d:V}(h:l[k]?=some x):l.getD k d=x:=by simp[List.getD_eq_getElem?_getD,h]
end
section
def Tryz.infoInt:(Tryz.prog.info? 3).map (λi=>(i.zero,i.size,i.bytes))=some (some (.int .i64 0),1,8):=by kernel_rfl
def addr_add(b o j:Nat):(⟨b,o,none⟩:Addr).add j=⟨b,o+j,none⟩:=by
 unfold Addr.add;split
 ·rename_i h;subst h;rfl
 ·rfl
def Src(w:World)(A:Option Addr)(m:Nat)(news:List Value):Prop :=
 news.length=m/\(0<m->∃b o,A=some ⟨b,o,none⟩/\∀j u,news[j]?=some u->w.cell? ⟨b,o+j,none⟩=some u)
section
variable {P:Program}{w:World}
def zyg(base:Nat)(t ty e:TypeId)(i:TypeInfo)(z:Value)(bytes:Nat)(ht:P.underlying t=some (.slice e))(hi:P.info? e=some i)(hz:i.zero=some z)
  (hsize:i.size=1) (hby:i.bytes=bytes) (hzs:z.cells.size=1) (v:Value) (n:Nat) (xs:List Value) (hown:w.ownsRow base e 1 v n xs)
  (A:Option Addr) (m c:Nat) (news:List Value) (hs:Src w A m news) (h1:∀u∈news,u.oneCell'=true)
  (a2:n+m<=maxLen) (hbytes:(n+m)*bytes<=140737488355328) (hbase:base<=w.heap.size) :
  ∃v' w',(Builtin.append_ #[t,t] ty #[v,.slice A m c]).run P w=.ok v' w'/\w'.ownsRow base e 1 v' (n+m) (xs++news)/\w.grownBy w' v.ownBlock /\
   (v'.ownBlock=v.ownBlock\/v'.ownBlock=some w.heap.size):=by
 obtain⟨hl,hc⟩:=hs;cases A with
 |none =>
  have hm:m=0:=by
   rcases Nat.eq_zero_or_pos m with h0|h0
   ·exact h0
   ·obtain⟨b,o,h,_⟩:=hc h0;cases h
  subst hm;have hn:news=[]:=List.eq_nil_of_length_eq_zero hl;subst hn;refine⟨v,w,?_,by simpa using hown,World.grownBy.refl w _,.inl rfl⟩;rcases hown.2 with⟨rfl,rfl⟩|⟨g,a7,cur,rfl,_,_,a6,_⟩
  ·simp[Builtin.append_,run_underlying ht,sizeOf,typeInfo,hi,Builtin.lenOf,Builtin.firstCells]
  ·simp[Builtin.append_,run_underlying ht,sizeOf,typeInfo,hi,Builtin.lenOf,Builtin.firstCells,a6,storeCells]
 |some ad =>
  have a3:∀j u,news[j]?=some u->w.cell? (ad.add j)=some u:=by
   intro j u hu;rcases Nat.eq_zero_or_pos m with h0|h0
   ·subst h0;have hn:news=[]:=List.eq_nil_of_length_eq_zero hl;subst hn;simp at hu
   ·obtain⟨b,o,h,a5⟩:=hc h0;injection h with h
    subst h;rw[addr_add];exact a5 j u hu
  obtain⟨v',w',a4,h2,h3,_,h5⟩:=run_append_own_at (P:=P) w base t ty e i z 1 bytes ht hi hz hsize hby hzs (by omega) v n xs hown ad m c news (by omega) a3 h1 a2 hbytes hbase;exact⟨v',w',a4,h2,h3,h5⟩
def wp_append_row{o:Oper}{a:Act}{K:Act->World->Prop}{Q:Exit->Act->World->Prop}(s x:Operand)(t:TypeId)
  (ho:o.op=.call { callee:=.builtin .append,args:=#[s,x],argTypes:=#[t,t] })
  (base:Nat) (e:TypeId) (i:TypeInfo) (z:Value) (bytes:Nat) (ht:P.underlying t=some (.slice e)) (hi:P.info? e=some i) (hz:i.zero=some z)
  (hsize:i.size=1) (hby:i.bytes=bytes) (hzs:z.cells.size=1) (v:Value) (n:Nat) (xs:List Value) (hs:a.eval s=v) (hown:w.ownsRow base e 1 v n xs)
  (A:Option Addr) (m c:Nat) (news:List Value) (hx:a.eval x=.slice A m c) (hsrc:Src w A m news) (h1:∀u∈news,u.oneCell'=true)
  (a2:n+m<=maxLen) (hbytes:(n+m)*bytes<=140737488355328) (hbase:base<=w.heap.size)
  (h:∀v' w',w'.ownsRow base e 1 v' (n+m) (xs++news)->w.grownBy w' v.ownBlock->(v'.ownBlock=v.ownBlock\/v'.ownBlock=some w.heap.size)->K (a.put o.dst v') w'):o.wp P a w K Q:=by
 obtain⟨v',w',a3,h2,h3,h4⟩:=zyg (P:=P) base t o.type e i z bytes ht hi hz hsize hby hzs v n xs hown A m c news hsrc h1 a2 hbytes hbase;unfold Oper.wp execOp;simp only[ho,resolve,invoke,builtin,Sem.run_bind,Sem.run_pure,Result.andThen_ok,List.map_toArray,List.map_cons,List.map_nil,hs,hx,a3];exact h v' w' h2 h3 h4
def CM{ops:Array Oper}{rest:List Oper}{o:Oper}{a:Act}{Q:Exit->Act->World->Prop}(hgd:o.guard=none)(s x:Operand)(t:TypeId)
  (ho:o.op=.call { callee:=.builtin .append,args:=#[s,x],argTypes:=#[t,t] })
  (base:Nat) (e:TypeId) (i:TypeInfo) (z:Value) (bytes:Nat) (ht:P.underlying t=some (.slice e)) (hi:P.info? e=some i) (hz:i.zero=some z)
  (hsize:i.size=1) (hby:i.bytes=bytes) (hzs:z.cells.size=1) (v:Value) (n:Nat) (xs:List Value) (hs:a.eval s=v) (hown:w.ownsRow base e 1 v n xs)
  (A:Option Addr) (m c:Nat) (news:List Value) (hx:a.eval x=.slice A m c) (hsrc:Src w A m news) (h1:∀u∈news,u.oneCell'=true)
  (a2:n+m<=maxLen) (hbytes:(n+m)*bytes<=140737488355328) (hbase:base<=w.heap.size)
  (h:∀v' w',w'.ownsRow base e 1 v' (n+m) (xs++news)->w.grownBy w' v.ownBlock->(v'.ownBlock=v.ownBlock\/v'.ownBlock=some w.heap.size)->wpList P ops Q rest (a.put o.dst v') w') :
  wpList P ops Q (o::rest) a w :=
 wpList_plain hgd λ_ hK=>wp_append_row s x t ho base e i z bytes ht hi hz hsize hby hzs v n xs hs hown A m c news hx hsrc h1 a2 hbytes hbase λv' w' h2 h3 h4=>hK _ _ (h v' w' h2 h3 h4)
end
def nH{w w':World}(hg:w.grownBy w' none):Keeps w w':=λ_ _ hu=>hg.cell hu (by simp)
def EJ{w w':World}(h:Below w.heap.size w w'):w.grownBy w' none:=⟨h.os,h.tape,h.output,h.size,λk hk _=>h.block k hk⟩
def AM{w w':World}{row:Option Nat}(hg:w.grownBy w' row){B:Nat}(hB:B<=w.heap.size)(hr:∀g,row=some g->B<=g):Below B w w':=(Below.refl B w).grown hg hB hr
def src_one(w:World)(x:Value)(t:TypeId):Src (w.alloc (.cells #[x] t)) (some ⟨w.heap.size,0,none⟩) 1 [x] :=
 ⟨rfl,λ_=>⟨_,_,rfl,λj u hu=>by
  have:=cell_one_new w x t j u hu
  rwa [addr_add]at this⟩⟩
end
end Go.Proofs.YtdjagdnpnhmldaaGreatDoor
namespace Go.Proofs.YtdjagdnpnhmldaaGreatDoor.Sym
section
section
variable {P:Program}{w:World}
def tY{ops:Array Oper}{rest:List Oper}{o:Oper}{a:Act}{Q:Exit->Act->World->Prop}(hgd:o.guard=none)(s x:Operand)(t:TypeId)
  (ho:o.op=.call { callee:=.builtin .append,args:=#[s,x],argTypes:=#[t,t] })
  (base:Nat) (e:TypeId) (i:TypeInfo) (z:Value) (size bytes:Nat) (ht:P.underlying t=some (.slice e)) (hi:P.info? e=some i) (hz:i.zero=some z)
  (hsize:i.size=size) (hby:i.bytes=bytes) (hzs:z.cells.size=size) (hsz:0<size) (v:Value) (n:Nat) (xs:List Value) (hs:a.eval s=v) (hown:w.ownsRow base e size v n xs)
  (A:Option Addr) (m c:Nat) (news:List Value) (hx:a.eval x=.slice A m c) (hl:news.length=m*size) (hsrc:0<m->∃b q,A=some ⟨b,q,none⟩/\∀(j:Nat) u,news[j]?=some u->w.cell? ⟨b,q+j,none⟩=some u) (h1:∀u∈news,u.oneCell'=true)
  (a2:n+m<=maxLen) (hbytes:(n+m)*bytes<=140737488355328) (hbase:base<=w.heap.size)
  (h:∀v' w',w'.ownsRow base e size v' (n+m) (xs++news)->w.grownBy w' v.ownBlock->(v'.ownBlock=v.ownBlock\/v'.ownBlock=some w.heap.size)->wpList P ops Q rest (a.put o.dst v') w') :
  wpList P ops Q (o::rest) a w:=by
 refine wpList_plain hgd λ_ hK=>?_;obtain⟨v',w',a3,h2,h3,h4⟩:=nO (P:=P) base t o.type e i z size bytes ht hi hz hsize hby hzs hsz v n xs hown A m c news hl hsrc h1 a2 hbytes hbase;unfold Oper.wp execOp;simp only[ho,resolve,invoke,builtin,Sem.run_bind,Sem.run_pure,Result.andThen_ok,uS,J7,eS,hs,hx,a3];exact hK _ _ (h v' w' h2 h3 h4)
end
def zZ{a b c:World}{row row':Option Nat}(h:a.grownBy b row)(k:b.grownBy c row')(hr:row'=row\/∀g,row'=some g->a.heap.size<=g):a.grownBy c row :=
 ⟨k.os.trans h.os,k.tape.trans h.tape,k.output.trans h.output,R9 h.size k.size,λi hi hne =>
  (k.block i (jW hi h.size) (by
   rcases hr with e|e
   ·rw[e];exact hne
   ·intro he
    have:=e i he.symm
    omega)).trans (h.block i hi hne)⟩
def wW(t:TypeId)(k n:Nat)(us:List Value)(w:World)(e:Ending)(w':World):Prop :=
 ∃v',e=.returned v'/\w'.ownsRow w.heap.size t k v' n us/\Below w.heap.size w w'
def BK(w:World)(t:TypeId)(k:Nat):(w.alloc (.cells #[] t)).ownsRow w.heap.size t k (.slice (some ⟨w.heap.size,0,none⟩) 0 0) 0 []:=by
 refine⟨by simp,.inr ⟨w.heap.size,0,#[],rfl,G4 _,?_,F7 _,by unfold maxLen;omega,by simp,by simp⟩⟩;exact heap_alloc_new w _
def AY{g:FuncId}{t:TypeId}{k by_:Nat}(he:∀args w,(callFunc g args).run Tryz.prog w=.ok (.enter g args) w)(hk0:0<k)
  (h:∀(w:World) (A:Option Addr) (n c:Nat) (us:List Value),us.length=n*k->(0<n->∃b q,A=some ⟨b,q,none⟩/\∀(j:Nat) u,us[j]?=some u->w.cell? ⟨b,q+j,none⟩=some u) ->
   (∀u∈us,u.oneCell'=true)->n<=17592186044416->n*by_<=140737488355328->Calls Tryz.prog g #[.slice A n c] w (wW t k n us w))
  {es:List (List IV)} (hk:∀e∈es,e.length=k) (hc:E0 es.length by_):Sp Tryz.prog g [.im (.sl es)] (.row t k es):=by
 refine⟨he,λw S vs F hS hv hn hF=>?_⟩
 match vs,hv with
 |[v],⟨F1,F2,⟨h3,e1⟩,h5,e3⟩ =>
  have h5:F2=[]:=h5;subst e1 h5 e3;obtain⟨A,c,us,rfl,hl,h1,a2,a3,hr⟩:=mG h3 hk;have a7:us.length=es.length*k:=by rw[hl,R3 hk]
  refine(h w A es.length c us a7 a3 h1 a2 hc.1).mono ?_;rintro e w' ⟨v',rfl,ho,hb⟩
  have a6:w'.ownsRow 0 t k v' es.length us:=by
   refine⟨ho.1,?_⟩;rcases ho.2 with h6|⟨g1,cap,cur,k1,_,k3⟩
   ·exact .inl h6
   ·exact .inr ⟨g1,cap,cur,k1,F7 _,k3⟩
  have a8:=ho.lt
  have a4:∀b∈(D9 v').toList,w.heap.size<=b/\b<w'.heap.size:=λb hb=>by
   refine a8 b ?_;rw[dE a6];simpa using hb
  refine⟨v',(D9 v').toList,rfl,.of hb,⟨[v'],(D9 v').toList,[],rfl,⟨(D9 v').toList,[],⟨row_one a6,[],⟨us,hk0,hk,a2,a6,hl,h1,λi u x hu hx=>?_⟩,rfl⟩,rfl,by simp⟩,rfl,by simp⟩,?_,λb hb=>⟨.inl (a4 b hb).1,(a4 b hb).2⟩⟩
  ·have k1:∀b,S b->(S b\/w.heap.size<=b\/b∈[])/\b<w'.heap.size/\b∉(D9 v').toList:=λb a5=>⟨.inl a5,jW (hS b a5) hb.size,λhm=>by
    have h1:=(a4 b hm).1
    have h2:=hS b a5
    omega⟩
   have k2:∀(p:Addr) u,S p.block->w.cell? p=some u->w'.cell? p=some u:=λp u hp hu=>by
    have h6:=hb.block p.block (hS _ hp)
    have h7:w'.cell? p=w.cell? p:=by
     unfold World.cell?;rw[h6]
    rw[h7];exact hu
   exact(hr i u x hu hx).mono k1 k2
  ·cases D9 v'<;>simp
end
def Tryz.infoC_int:(Tryz.prog.info? 3).map (λi=>(i.zero,i.size,i.bytes))=some (some (.int .i64 0),1,8):=by kernel_rfl
set_option maxRecDepth 100000 in
set_option maxHeartbeats 400000 in
def clone_int(w:World)(A:Option Addr)(n c:Nat)(us:List Value)(hl:us.length=n*1)(hs:0<n->∃b q,A=some ⟨b,q,none⟩/\∀(j:Nat) u,us[j]?=some u->w.cell? ⟨b,q+j,none⟩=some u)
  (h1:∀u∈us,u.oneCell'=true) (hn:n<=17592186044416) (hby:n*8<=140737488355328):Calls Tryz.prog 94 #[.slice A n c] w (wW 3 1 n us w):=by
 obtain⟨j0,ji,a6,a5,b5⟩:=info_parts Tryz.infoC_int;have b6:=Lib.run_eql_slice_nil (P:=Tryz.prog) w 51 3 A n c 0 0 Tryz.underlying51;cases A with
 |none =>
  have h0:n=0:=by
   rcases eR n with h|h
   ·exact h
   ·obtain⟨b,q,e,_⟩:=hs h;cases e
  subst h0;have a4:us=[]:=S7 (by omega);have HX:=Lib.hid a4;clear a4 hs hl h1
  go_enter Tryz.func94,Tryz.ntmps94
  go_wp2
  go_ret
  rw[HX.out];exact⟨_,rfl,World.ownsRow_nil _ _ _ _,Below.refl _ _⟩
 |some a =>
  have a3:∀o,0<n->∃b q,some a=some ⟨b,q,none⟩/\∀(j:Nat) u,us[j]?=some u->(w.alloc o).cell? ⟨b,q+j,none⟩=some u:=λo h=>by
   obtain⟨b,q,e,hc⟩:=hs h;exact⟨b,q,e,λj u hu=>nH (World.grownBy_alloc w o none) _ _ (hc j u hu)⟩
  have a7:0+n<=maxLen:=by unfold maxLen;omega
  have a8:(0+n)*8<=140737488355328:=by omega
  have b2:∀o,w.heap.size<=(w.alloc o).heap.size:=λo=>by simp
  have b4:=Lib.hid hl;clear hs
  go_enter Tryz.func94,Tryz.ntmps94
  go_wp2_with (at_builtin;refine tY rfl (.tmp 5) (.tmp 6) 51 rfl w.heap.size 3 j0 (.int .i64 0) 1 8 Tryz.underlying51 ji a6 a5 b5 rfl (by decide) (.slice (some ⟨w.heap.size,0,none⟩) 0 0) 0 _ rfl (BK _ _ _) _ _ _ _ rfl b4.out (a3 _) h1 a7 a8 (b2 _) ?_;intro v1 w1 a2 b3 hb1)
  go_ret
  have a9:w.grownBy w1 none:=zZ (World.grownBy_alloc w _ none) b3 (.inr λg e=>by
   have:some w.heap.size=some g:=e
   injection this with this
   omega)
  exact⟨v1,rfl,by simpa using a2,AM a9 (G4 _) (λg e=>by cases e)⟩
def Tryz.infoC_words:(Tryz.prog.info? 51).map (λi=>(i.zero,i.size,i.bytes))=some (some (.slice none 0 0),1,24):=by kernel_rfl
set_option maxRecDepth 100000 in
set_option maxHeartbeats 400000 in
def clone_words(w:World)(A:Option Addr)(n c:Nat)(us:List Value)(hl:us.length=n*1)(hs:0<n->∃b q,A=some ⟨b,q,none⟩/\∀(j:Nat) u,us[j]?=some u->w.cell? ⟨b,q+j,none⟩=some u)
  (h1:∀u∈us,u.oneCell'=true) (hn:n<=17592186044416) (hby:n*24<=140737488355328):Calls Tryz.prog 162 #[.slice A n c] w (wW 51 1 n us w):=by
 obtain⟨j0,ji,a6,a5,b5⟩:=info_parts Tryz.infoC_words;have b6:=Lib.run_eql_slice_nil (P:=Tryz.prog) w 22 51 A n c 0 0 Tryz.underlying22;cases A with
 |none =>
  have h0:n=0:=by
   rcases eR n with h|h
   ·exact h
   ·obtain⟨b,q,e,_⟩:=hs h;cases e
  subst h0;have a4:us=[]:=S7 (by omega);have HX:=Lib.hid a4;clear a4 hs hl h1
  go_enter Tryz.func162,Tryz.ntmps162
  go_wp2
  go_ret
  rw[HX.out];exact⟨_,rfl,World.ownsRow_nil _ _ _ _,Below.refl _ _⟩
 |some a =>
  have a3:∀o,0<n->∃b q,some a=some ⟨b,q,none⟩/\∀(j:Nat) u,us[j]?=some u->(w.alloc o).cell? ⟨b,q+j,none⟩=some u:=λo h=>by
   obtain⟨b,q,e,hc⟩:=hs h;exact⟨b,q,e,λj u hu=>nH (World.grownBy_alloc w o none) _ _ (hc j u hu)⟩
  have a7:0+n<=maxLen:=by unfold maxLen;omega
  have a8:(0+n)*24<=140737488355328:=by omega
  have b2:∀o,w.heap.size<=(w.alloc o).heap.size:=λo=>by simp
  have b4:=Lib.hid hl;clear hs
  go_enter Tryz.func162,Tryz.ntmps162
  go_wp2_with (at_builtin;refine tY rfl (.tmp 5) (.tmp 6) 22 rfl w.heap.size 51 j0 (.slice none 0 0) 1 24 Tryz.underlying22 ji a6 a5 b5 rfl (by decide) (.slice (some ⟨w.heap.size,0,none⟩) 0 0) 0 _ rfl (BK _ _ _) _ _ _ _ rfl b4.out (a3 _) h1 a7 a8 (b2 _) ?_;intro v1 w1 a2 b3 hb1)
  go_ret
  have a9:w.grownBy w1 none:=zZ (World.grownBy_alloc w _ none) b3 (.inr λg e=>by
   have:some w.heap.size=some g:=e
   injection this with this
   omega)
  exact⟨v1,rfl,by simpa using a2,AM a9 (G4 _) (λg e=>by cases e)⟩
def Tryz.infoC_traces:(Tryz.prog.info? 53).map (λi=>(i.zero,i.size,i.bytes))=some (some (.agg #[.slice none 0 0,.slice none 0 0]),2,48):=by kernel_rfl
set_option maxRecDepth 100000 in
set_option maxHeartbeats 400000 in
def clone_traces(w:World)(A:Option Addr)(n c:Nat)(us:List Value)(hl:us.length=n*2)(hs:0<n->∃b q,A=some ⟨b,q,none⟩/\∀(j:Nat) u,us[j]?=some u->w.cell? ⟨b,q+j,none⟩=some u)
  (h1:∀u∈us,u.oneCell'=true) (hn:n<=17592186044416) (hby:n*48<=140737488355328):Calls Tryz.prog 141 #[.slice A n c] w (wW 53 2 n us w):=by
 obtain⟨j0,ji,a6,a5,b5⟩:=info_parts Tryz.infoC_traces;have b6:=Lib.run_eql_slice_nil (P:=Tryz.prog) w 29 53 A n c 0 0 Tryz.underlying29;cases A with
 |none =>
  have h0:n=0:=by
   rcases eR n with h|h
   ·exact h
   ·obtain⟨b,q,e,_⟩:=hs h;cases e
  subst h0;have a4:us=[]:=S7 (by omega);have HX:=Lib.hid a4;clear a4 hs hl h1
  go_enter Tryz.func141,Tryz.ntmps141
  go_wp2
  go_ret
  rw[HX.out];exact⟨_,rfl,World.ownsRow_nil _ _ _ _,Below.refl _ _⟩
 |some a =>
  have a3:∀o,0<n->∃b q,some a=some ⟨b,q,none⟩/\∀(j:Nat) u,us[j]?=some u->(w.alloc o).cell? ⟨b,q+j,none⟩=some u:=λo h=>by
   obtain⟨b,q,e,hc⟩:=hs h;exact⟨b,q,e,λj u hu=>nH (World.grownBy_alloc w o none) _ _ (hc j u hu)⟩
  have a7:0+n<=maxLen:=by unfold maxLen;omega
  have a8:(0+n)*48<=140737488355328:=by omega
  have b2:∀o,w.heap.size<=(w.alloc o).heap.size:=λo=>by simp
  have b4:=Lib.hid hl;clear hs
  go_enter Tryz.func141,Tryz.ntmps141
  go_wp2_with (at_builtin;refine tY rfl (.tmp 5) (.tmp 6) 29 rfl w.heap.size 53 j0 (.agg #[.slice none 0 0,.slice none 0 0]) 2 48 Tryz.underlying29 ji a6 a5 b5 rfl (by decide) (.slice (some ⟨w.heap.size,0,none⟩) 0 0) 0 _ rfl (BK _ _ _) _ _ _ _ rfl b4.out (a3 _) h1 a7 a8 (b2 _) ?_;intro v1 w1 a2 b3 hb1)
  go_ret
  have a9:w.grownBy w1 none:=zZ (World.grownBy_alloc w _ none) b3 (.inr λg e=>by
   have:some w.heap.size=some g:=e
   injection this with this
   omega)
  exact⟨v1,rfl,by simpa using a2,AM a9 (G4 _) (λg e=>by cases e)⟩
end Go.Proofs.YtdjagdnpnhmldaaGreatDoor.Sym
namespace Go.Proofs.YtdjagdnpnhmldaaGreatDoor
def GrowPost(t:TypeId)(w:World)(e:Ending)(w':World):Prop:=∃v',e=.returned v'/\w'.ownsRow w.heap.size t 1 v' 0 []/\Below w.heap.size w w'
def ownsRow_zeros(w:World)(Z:Array Value)(t:TypeId)(c:Nat)(hc:c<=maxLen)(hZ:Z.size=c) :
  (w.drew.alloc (.cells Z t)).ownsRow w.heap.size t 1 (.slice (some ⟨w.heap.size,0,none⟩) 0 c) 0 []:=by
 refine⟨rfl,.inr ⟨w.heap.size,c,Z,rfl,Nat.le_refl _,?_,Nat.zero_le _,hc,by omega,by simp⟩⟩;exact heap_alloc_new w.drew _
def below_zeros(w:World)(o:Obj):Below w.heap.size w (w.drew.alloc o):=(Below.refl w.heap.size w).drew.alloc (Nat.le_refl _) o
set_option maxRecDepth 100000 in
set_option maxHeartbeats 800000 in
def growI_any(n:Nat)(hn:n<=1000000000)(w:World) :
  Calls Tryz.prog 161 #[.slice none 0 0,.int .i64 n] w (GrowPost 3 w):=by
 obtain⟨i0,hi,a9,b3,b2⟩:=info_parts Tryz.infoInt;have h1:¬((n:Int)<0):=by omega
 by_cases h0:n=0
 ·subst h0
  go_enter Tryz.func161,Tryz.ntmps161
  go_wp2
  go_ret
  exact⟨_,rfl,World.ownsRow_nil _ _ _ _,Below.refl _ _⟩
 ·have h4:(n:Int) > 0:=by omega
  have a3:=Lib.run_append_nil_zeros (P:=Tryz.prog) w 51 3 51 3 i0 (.int .i64 0) .i64 .i64 Tryz.underlying51 Tryz.underlying3 hi a9 n (by omega) (by omega) (by omega) (by rw[b2];omega);generalize a4:grownCap w n 0 3=cap2 at a3;have a7:n<=cap2:=by rw[<- a4];exact grownCap_ge w _ 0 _
  have a2:cap2<=maxLen:=by rw[<- a4];exact grownCap_le_maxLen w _ 0 _ (by unfold maxLen;omega)
  generalize hZ:(Builtin.zeroCells (Value.cells (.int .i64 0)) n++Builtin.zeroCells (Value.cells (.int .i64 0)) (cap2-n))=Z at a3;have a6:Z.size=cap2:=by rw[<- hZ];simp[size_zeroCells,Value.cells];omega
  have a5:=ownsRow_zeros w Z 3 cap2 a2 a6;have a8:cap2<=9223372036854775807:=by unfold maxLen at a2;omega
  have HO:=Lib.hid (And.intro a5 (below_zeros w (.cells Z 3)));clear a4 hZ a5 a6
  go_enter Tryz.func161,Tryz.ntmps161
  go_wp2_with (at_builtin;refine Lib.wpList_append_run _ rfl _ _ _ _ rfl _ _ rfl rfl _ _ a3 ?_)
  go_ret
  exact⟨_,rfl,HO.out.1,HO.out.2⟩
end Go.Proofs.YtdjagdnpnhmldaaGreatDoor
namespace Go.Proofs.YtdjagdnpnhmldaaGreatDoor.Sym
def sp_of_grow{g:FuncId}{t:TypeId}{n:Int}(he:∀args w,(callFunc g args).run Tryz.prog w=.ok (.enter g args) w)(h0:0<=n)(h1:n<=1000000000)
  (h:∀(n:Nat),n<=1000000000->∀w,Calls Tryz.prog g #[.slice none 0 0,.int .i64 n] w (GrowPost t w)):Sp Tryz.prog g [.im (.val (.slice none 0 0)),.im (nI n)] (.row t 1 []):=by
 refine⟨he,λw S vs F hS hv hn hF=>?_⟩
 match vs,hv with
 |[v,u],⟨F1,F2,⟨h3,e1⟩,⟨F3,F4,⟨h4,e2⟩,h5,e3⟩,e4⟩ =>
  have h5:F4=[]:=h5;subst e1 e2 h5 e3 e4;cases h3;cases h4;have hc:=h n.toNat (by omega) w;rw[DT h0]at hc;refine hc.mono ?_;rintro e w' ⟨v',rfl,ho,hb⟩
  have a2:w'.ownsRow 0 t 1 v' 0 []:=by
   refine⟨ho.1,?_⟩;rcases ho.2 with h6|⟨g1,cap,cur,k1,_,k3⟩
   ·exact .inl h6
   ·exact .inr ⟨g1,cap,cur,k1,F7 _,k3⟩
  have a4:=ho.lt
  have a3:∀b∈(D9 v').toList,w.heap.size<=b/\b<w'.heap.size:=λb hb=>by
   refine a4 b ?_;rw[dE a2];simpa using hb
  refine⟨v',(D9 v').toList,rfl,.of hb,⟨[v'],(D9 v').toList,[],rfl,⟨(D9 v').toList,[],⟨row_one a2,[],⟨[],Nat.one_pos,λx hx=>by simp at hx,by decide,a2,rfl,λu hu=>by simp at hu,λi u x hu=>by simp at hu⟩,rfl⟩,rfl,by simp⟩,rfl,by simp⟩,?_,λb hb=>⟨.inl (a3 b hb).1,(a3 b hb).2⟩⟩;cases D9 v'<;>simp
def BA(n:Int):Option (A2):=chk (0<=n/\n<=1000000000) (some [])
def zxx(n:Int)(r:A2)(h:BA n=some r):Sp Tryz.prog 161 [.im (.val (.slice none 0 0)),.im (nI n)] (.row 3 1 (List.map cI r)):=by
 obtain⟨h1,h⟩:=D5 h;injection h with h
 subst h;exact sp_of_grow (λargs w=>fH rfl rfl rfl args w) h1.1 h1.2 growI_any
section
open Go.RowKit Go.Sort
section plain
variable {V:Type}
def totB[DecidableEq V](f:V->V->Option Int)(l:List V):Bool :=
 l.all λa=>l.all λb=>match f a b,f b a with
  |some m,some n=>(decide (m=0)==decide (a=b))&&(decide (m<0)==decide (0<n))&&(decide (-1<=m/\m<=1))&&l.all λc=>!(decide (m<0)&&(match f b c with|some x=>decide (x<0)|none=>false))||(match f a c with|some x=>decide (x<0)|none=>false)
  |_,_=>false
def insF(f:V->V->Option Int)(x:V):List V->List V
 |[]=>[x]
 |y::l=>match f x y with
  |some m=>cond (decide (m<=0)) (x::y::l) (y::insF f x l)
  |none=>x::y::l
def Z0(f:V->V->Option Int):List V->List V
 |[]=>[]
 |x::l=>insF f x (Z0 f l)
def oS[DecidableEq V](l:List V)(f:V->V->Option Int):Option (List V):=chk (l.length<=1000000000) (cond (totB f l) (some (Z0 f l)) none)
def cfv(f:V->V->Option Int)(a b:V):Int:=(f a b).getD 0
structure TotF(f:V->V->Option Int)(l:List V):Prop where
 get:∀a∈l,∀b∈l,f a b=some (cfv f a b)
 zero:∀a∈l,∀b∈l,cfv f a b=0->a=b
 self:∀a∈l,cfv f a a=0
 swap:∀a∈l,∀b∈l,(cfv f a b<0↔0<cfv f b a)
 trans:∀a∈l,∀b∈l,∀c∈l,cfv f a b<0->cfv f b c<0->cfv f a c<0
def totB_iff[DecidableEq V]{f:V->V->Option Int}{l:List V}(h:totB f l=true):TotF f l:=by
 have key:∀a∈l,∀b∈l,∃m n,f a b=some m/\f b a=some n/\(m=0↔a=b)/\(m<0↔0<n)/\∀c∈l,m<0->(∃x,f b c=some x/\x<0)->∃x,f a c=some x/\x<0:=by
  intro a ha b hb;have h1:=P8.1 (P8.1 h a ha) b hb;cases e1:f a b with
  |none=>rw[e1]at h1;cases h1
  |some m =>
   cases e2:f b a with
   |none=>rw[e1,e2]at h1;cases h1
   |some n =>
    rw[e1,e2]at h1;simp only[M4]at h1;obtain⟨⟨⟨h2,h3⟩,_⟩,h5⟩:=h1;refine⟨m,n,rfl,rfl,?_,?_,λc hc hm ⟨x,hx,a2⟩=>?_⟩
    ·have h2:=eq_of_beq h2;simpa using h2
    ·have h3:=eq_of_beq h3;simpa using h3
    ·have h6:=P8.1 h5 c hc;rw[hx]at h6;simp only[hm,a2,decide_true,Bool.and_self,U0,gB]at h6;cases e3:f a c with
     |none=>rw[e3]at h6;cases h6
     |some y=>rw[e3]at h6;exact⟨y,rfl,by simpa using h6⟩
 have get:∀a∈l,∀b∈l,f a b=some (cfv f a b):=λa ha b hb=>by
  obtain⟨m,n,e1,_⟩:=key a ha b hb;unfold cfv;rw[e1];rfl
 refine⟨get,λa ha b hb=>?_,λa ha=>?_,λa ha b hb=>?_,λa ha b hb c hc h1 h2=>?_⟩
 ·obtain⟨m,n,e1,e2,h3,_⟩:=key a ha b hb;rw[get a ha b hb]at e1;injection e1 with e1
  rw[e1];exact h3.1
 ·obtain⟨m,n,e1,e2,h3,_⟩:=key a ha a ha;rw[get a ha a ha]at e1;injection e1 with e1
  rw[e1];exact h3.2 rfl
 ·obtain⟨m,n,e1,e2,h3,h4,_⟩:=key a ha b hb;rw[get a ha b hb]at e1;rw[get b hb a ha]at e2;injection e1 with e1
  injection e2 with e2
  rw[e1,e2];exact h4
 ·obtain⟨m,n,e1,e2,h3,h4,h5⟩:=key a ha b hb;rw[get a ha b hb]at e1;injection e1 with e1
  obtain⟨x,hx,a2⟩:=h5 c hc (by omega) ⟨_,get b hb c hc,h2⟩;rw[get a ha c hc]at hx;injection hx with hx
  omega
def TotF.sub{f:V->V->Option Int}{l l':List V}(T:TotF f l)(h:∀x∈l',x∈l):TotF f l' :=
 ⟨λa ha b hb=>T.get a (h a ha) b (h b hb),λa ha b hb=>T.zero a (h a ha) b (h b hb),λa ha=>T.self a (h a ha),λa ha b hb=>T.swap a (h a ha) b (h b hb),λa ha b hb c hc=>T.trans a (h a ha) b (h b hb) c (h c hc)⟩
def NGt(f:V->V->Option Int)(a b:V):Prop:=¬cfv f b a<0
def TotF.ngt_trans{f:V->V->Option Int}{l:List V}(T:TotF f l){a b c:V}(ha:a∈l)(hb:b∈l)(hc:c∈l)(h1:NGt f a b)(h2:NGt f b c):NGt f a c:=by
 intro h3;have s1:=T.swap a ha b hb;have s2:=T.swap b hb c hc;have s3:=T.swap c hc a ha;have t1:=T.swap b hb a ha;have t2:=T.swap c hc b hb;unfold NGt at h1 h2;by_cases e1:cfv f b a=0
 ·have:=T.zero b hb a ha e1;subst this;exact h2 h3
 ·by_cases e2:cfv f c b=0
  ·have:=T.zero c hc b hb e2;subst this;exact h1 h3
  ·have h4:cfv f a b<0:=s1.2 (by omega);have h5:=T.trans c hc a ha b hb h3 h4;exact h2 h5
def insF_le{f:V->V->Option Int}{x y:V}{l:List V}{m:Int}(h:f x y=some m)(hm:m<=0):insF f x (y::l)=x::y::l:=by
 simp[insF,h,hm]
def insF_gt{f:V->V->Option Int}{x y:V}{l:List V}{m:Int}(h:f x y=some m)(hm:¬m<=0):insF f x (y::l)=y::insF f x l:=by
 simp[insF,h,hm]
def zH(f:V->V->Option Int)(x:V):∀l:List V,(insF f x l).Perm (x::l)
 |[]=>List.Perm.refl _
 |y::l=>by
  cases h:f x y with
  |none=>simp[insF,h]
  |some m =>
   by_cases hm:m<=0
   ·rw[insF_le h hm]
   ·rw[insF_gt h hm];exact((zH f x l).cons y).trans (List.Perm.swap x y l)
def gQ(f:V->V->Option Int):∀l:List V,(Z0 f l).Perm l
 |[]=>List.Perm.refl _
 |x::l=>(zH f x _).trans ((gQ f l).cons x)
def FS{f:V->V->Option Int}{x:V}:∀{l:List V},TotF f (x::l)->l.Pairwise (NGt f)->(insF f x l).Pairwise (NGt f)
 |[],_,_=>KA _ _
 |y::l,T,h=>by
  have hx:x∈x::y::l:=by simp
  have hy:y∈x::y::l:=by simp
  have hc:=cU.1 h;by_cases hd:cfv f x y<=0
  ·rw[insF_le (T.get x hx y hy) hd]
   have a3:NGt f x y:=λh0=>by
    have:=(T.swap y hy x hx).1 h0;omega
   exact cU.2 ⟨λz hz=>by
    rcases H8.1 hz with rfl|a2
    ·exact a3
    ·exact T.ngt_trans hx hy (by simp[a2]) a3 (hc.1 z a2),h⟩
  ·rw[insF_gt (T.get x hx y hy) hd];have a4:NGt f y x:=by unfold NGt;omega
   refine cU.2 ⟨λz hz=>?_,FS (T.sub λz hz=>?_) hc.2⟩
   ·rcases H8.1 ((zH f x l).mem_iff.1 hz) with rfl|a2
    ·exact a4
    ·exact hc.1 z a2
   ·rcases H8.1 hz with rfl|a2
    ·simp
    ·simp[a2]
def xS{f:V->V->Option Int}:∀{l:List V},TotF f l->(Z0 f l).Pairwise (NGt f)
 |[],_=>List.Pairwise.nil
 |x::l,T=>FS (T.sub λz hz=>by
   rcases H8.1 hz with rfl|hz'
   ·simp
   ·exact K7 _ ((gQ f l).mem_iff.1 hz')) (xS (T.sub λz hz=>K7 _ hz))
def ET{f:V->V->Option Int}:∀{l1 l2:List V},TotF f l1->l1.Perm l2->l1.Pairwise (NGt f)->l2.Pairwise (NGt f)->l1=l2
 |[],l2,_,hp,_,_=>(List.nil_perm.1 hp).symm
 |x::l1,[],_,hp,_,_=>absurd hp.length_eq (by simp)
 |x::l1,y::l2,T,hp,h1,h2=>by
  have p1:=cU.1 h1;have p2:=cU.1 h2;have hx:x∈x::l1:=by simp
  have hy:y∈x::l1:=hp.mem_iff.2 (by simp)
  have e:x=y:=by
   rcases H8.1 hy with e|a2
   ·exact e.symm
   ·have a3:=p1.1 y a2;rcases H8.1 (hp.mem_iff.1 hx) with e|a5
    ·exact e
    ·have a4:=p2.1 x a5;have s1:=T.swap y hy x hx;have s2:=T.swap x hx y hy;unfold NGt at a3 a4;exact T.zero x hx y hy (by omega)
  subst e;rw[ET (T.sub λz hz=>K7 _ hz) (List.Perm.cons_inv hp) p1.2 p2.2]
end plain
section model
variable {V:Type}
def CmpG(P:Program)(g:FuncId)(X:V->IV)(f:V->V->Option Int):Prop :=
 ∀(W:World) (S:Nat->Prop) (u u':Value) (x y:V) (r:Int),f x y=some r->RepI W S u (X x)->RepI W S u' (X y) ->
  Calls P g #[u,u'] W λe w'=>e=.returned (.int .i64 r)/\∃q os,w'=Sort.grow (W.drewN q) os
def El(w:World)(S:Nat->Prop)(k:Nat)(c:V->List IV)(l:List V):Type:={ p:List Value×V // p.1.length=k/\(∀v∈p.1,v.oneCell'=true)/\X7 w S p.1 (c p.2)/\p.2∈l }
variable {w:World}{S:Nat->Prop}{k:Nat}{c:V->List IV}{l:List V}
def El.enc(x:El w S k c l):List Value:=x.val.1
def El.wd(x:El w S k c l):V:=x.val.2
def El.of(us:List Value)(x:V)(h1:us.length=k)(h2:∀v∈us,v.oneCell'=true)(h3:X7 w S us (c x))(h4:x∈l):El w S k c l:=⟨(us,x),h1,h2,h3,h4⟩
def el_list(hk:∀x,(c x).length=k):∀(l0:List V) (us:List Value),(∀x∈l0,x∈l)->us.length=(l0.map c).flatten.length->(∀u∈us,u.oneCell'=true) ->
  (∀(i:Nat) u x,us[i]?=some u->(l0.map c).flatten[i]?=some x->RepI w S u x)->∃zs:List (El w S k c l),(zs.map El.enc).flatten=us/\zs.map El.wd=l0
 |[],us,_,hl,_,_=>⟨[],(S7 hl).symm,rfl⟩
 |x::l0,us,hm,hl,h1,hr=>by
  rw[J7,W6]at hl hr;rw[D4,hk]at hl
  obtain⟨zs,e1,e2⟩:=el_list hk l0 (us.drop k) (λy hy=>hm y (K7 _ hy)) (by rw[M0];omega) (λu hu=>h1 u (U3 hu)) λi u y hu hy=>by
   rw[U2]at hu;refine hr (k+i) u y hu ?_;rw[P2,if_neg (by rw[hk];omega),hk]
   rwa [vD]
  have hx1:(us.take k).length=k:=by rw[H6];omega
  have a2:∀v∈us.take k,v.oneCell'=true:=λu hu=>h1 u (Q4 hu)
  have a3:X7 w S (us.take k) (c x):=⟨by rw[hx1,hk],λi u y hu hy=>by
   have hi:i<k:=by
    rw[<- hk x]
    exact(E4.1 hy).1
   rw[R5,if_pos hi]at hu
   exact hr i u y hu (by rw[P2,if_pos (by rw[hk];exact hi)];exact hy)⟩
  refine⟨El.of (us.take k) x hx1 a2 a3 (hm x (by simp))::zs,?_,?_⟩
  ·rw[J7,W6,e1];exact rB k us
  ·rw[J7,e2];rfl
def el_swo{f:V->V->Option Int}(T:TotF f l):SWO (ltOf λx y:El w S k c l=>cfv f x.wd y.wd) where
 irrefl x:=by
  have:=T.self x.wd x.property.2.2.2;simp[ltOf,this]
 trans x y z h1 h2:=by
  simp only[ltOf,decide_eq_true_eq]at *;exact T.trans _ x.property.2.2.2 _ y.property.2.2.2 _ z.property.2.2.2 h1 h2
 ntrans x y z h1 h2:=by
  simp only[ltOf,decide_eq_false_iff_not]at *;exact T.ngt_trans z.property.2.2.2 y.property.2.2.2 x.property.2.2.2 h2 h1
def SortC(P:Program)(sg:FuncId)(k:Nat)(mk:List Value->Value):Prop :=
 (∀(p:Option Addr) (cap:Nat) (fv:Value) (w:World),Calls P sg #[.slice p 0 cap,fv] w λe w'=>e=.returned (.tuple #[])/\w'=w) /\
 ∀(E:Type) [Inhabited E] (enc:E->List Value) (cf:E->E->Int) (g blk cap:Nat) (d:Array E) (w:World),(∀x,(enc x).length=k)->(∀x,∀v∈enc x,v.oneCell'=true)->SWO (ltOf cf) ->
  (∀args w,(callFunc g args).run P w=.ok (.enter g args) w) ->
  (∀(m:Nat) (os:Array Obj) (dk:Array E),dk.size=d.size->∀x y:E,Calls P g #[mk (enc x),mk (enc y)] (Sort.grow (putRow id (Sort.ahead w m) blk 0 (Go.Sort.flatK enc k dk)) os) λe w' =>
   e=.returned (.int .i64 (cf x y))/\∃q os',w'=Sort.grow ((Sort.grow (putRow id (Sort.ahead w m) blk 0 (Go.Sort.flatK enc k dk)) os).drewN q) os') ->
  Go.Sort.Holds id w blk 0 (Go.Sort.flatK enc k d)->blk<w.heap.size->d.size<4611686018427387904 ->
  Calls P sg #[.slice (some ⟨blk,0,none⟩) d.size cap,.func (.func g) #[] #[]] w λe w' =>
   e=.returned (.tuple #[])/\∃d' n os,PermIn 0 d.size d d'/\SortedIn (ltOf cf) 0 d.size d'/\w'=Sort.grow (putRow id (Sort.ahead w n) blk 0 (Go.Sort.flatK enc k d')) os
def perm_of_in'{G:Type}[Inhabited G]{d d':Array G}(h:PermIn 0 d.size d d'):d'.toList.Perm d.toList:=by
 obtain⟨hs,_,hp⟩:=h;have e1:d'.extract 0 d.size=d':=by rw[<- hs];simp
 have e2:d.extract 0 d.size=d:=by simp
 rwa [e1,e2]at hp
def zwc{G:Type}[Inhabited G]{lt:G->G->Bool}{d:Array G}{n:Nat}(hn:d.size=n)(h:SortedIn lt 0 n d):d.toList.Pairwise λa b=>lt b a=false:=by
 rw[V1];intro i j hi hj a2;have:=h i j (F7 _) a2 (by rw[<- hn];simpa using hj);simp at hi hj;simpa[getElem!_pos,hi,hj]using this
def EM{G:Type}[Inhabited G]{enc:G->List Value}{k:Nat}(hk:∀x,(enc x).length=k)(d:Array G):Go.Sort.flatK enc k d=(d.toList.map enc).flatten.toArray:=by
 have hl:((d.toList.map enc).flatten).length=d.size*k:=by
  rw[R3 (k:=k) λx hx=>by obtain⟨y,_,rfl⟩:=D7.1 hx;exact hk y];simp
 refine ext_get! (by simp[hl]) λt ht=>?_;rw[size_flatK]at ht;rw[get_flatK _ _ _ t ht]
 have k0:0<k:=by
  rcases eR k with h|h
  ·subst h;simp at ht
  ·exact h
 have hq:t / k<d.size:=Nat.div_lt_of_lt_mul (by rwa [qY]at ht);have hm:t%k<k:=lX _ k0;have hg:=flat_get (es:=d.toList.map enc) (i:=t / k) (j:=t%k) (e:=enc (d[t / k]'hq)) (λx hx=>by obtain⟨y,_,rfl⟩:=D7.1 hx;exact hk y) (by simp[hq]) hm;rw[show t / k*k+t%k=t by rw[qY];exact yU t k]at hg;have a2:t%k<(enc (d[t / k]'hq)).length:=by rw[hk];exact hm
 rw[J8 a2,J8 (by rw[hl];exact ht)]at hg;injection hg with hg
 rw[getElem!_pos d _ hq,getElem!_pos (enc (d[t / k]'hq)) (t%k) a2,getElem!_pos ((d.toList.map enc).flatten.toArray) t (by simpa[hl]using ht)];simpa using hg.symm
def own_put{w:World}{base:Nat}{e:TypeId}{g n cap k q:Nat}{us us':List Value}{os:Array Obj}(h:w.ownsRow base e k (.slice (some ⟨g,0,none⟩) n cap) n us)(hl:us'.length=n*k) :
  (Sort.grow (putRow id (Sort.ahead w q) g 0 us'.toArray) os).ownsRow base e k (.slice (some ⟨g,0,none⟩) n cap) n us':=by
 rcases h.2 with⟨e0,_⟩|⟨g',a4,cur,e0,hb,hg,hn,hm,hs,ht⟩
 ·cases e0
 ·injection e0 with e1 _ e3
  injection e1 with e1
  injection e1 with e1
  subst e1;subst e3
  have a3:g<w.heap.size:=by
   rcases J0 g w.heap.size with h'|h'
   ·exact h'
   ·rw[DO h']at hg;cases hg
  refine⟨hl,.inr ⟨g,cap,putCells id 0 us'.toArray cur,rfl,hb,?_,hn,hm,by simpa[putCells]using hs,?_⟩⟩
  ·have:g<(putRow id (Sort.ahead w q) g 0 us'.toArray).heap.size:=by simpa[putRow,mapBlock,Sort.ahead]using a3
   simp only[Sort.grow,Array.getElem?_append,if_pos this];simp[putRow,mapBlock,Sort.ahead,vA,hg,onCells]
  ·have a5:n*k<=cap*k:=W7 k hn;apply cT;intro j;rw[R5,P9];by_cases hj:j<n*k
   ·have a2:j<cur.size:=by omega
    rw[if_pos hj];simp only[putCells,Array.getElem?_mapIdx,vE a2,K0];rw[if_pos (by simp;omega),J8 (by omega)];simp[getElem!_pos,show j<us'.length by omega]
   ·rw[if_neg hj,W8 (by omega)]
def holds_own{w:World}{base:Nat}{e:TypeId}{g n cap k:Nat}{us:List Value}(h:w.ownsRow base e k (.slice (some ⟨g,0,none⟩) n cap) n us):Go.Sort.Holds id w g 0 us.toArray:=by
 rcases h.2 with⟨e0,_⟩|⟨g',a4,cur,e0,hb,hg,hn,hm,hs,ht⟩
 ·cases e0
 ·injection e0 with e1 _ e3
  injection e1 with e1
  injection e1 with e1
  subst e1;subst e3;intro j hj;have a2:j<us.length:=by simpa using hj
  have a3:j<n*k:=by rw[<- h.1];exact a2
  have a6:n*k<=cap*k:=W7 k hn;have a5:j<cur.size:=by omega
  have e1:(cur.toList.take (n*k))[j]?=us[j]?:=by rw[ht]
  rw[R5,if_pos a3,P9,J8 a2]at e1;refine⟨?_,by simp[World.frozen?,hg]⟩;simp only[World.cell?,hg,F9,uX,mC,if_false];rw[e1];simp[getElem!_pos,a2]
def put_block{w:World}{g q:Nat}{F:Array Value}{os:Array Obj}{b:Nat}(hb:b<w.heap.size)(hne:b≠g):(Sort.grow (putRow id (Sort.ahead w q) g 0 F) os).heap[b]?=w.heap[b]?:=by
 have:b<(putRow id (Sort.ahead w q) g 0 F).heap.size:=by simpa[putRow,mapBlock,Sort.ahead]using hb
 simp only[Sort.grow,Array.getElem?_append,if_pos this];simp[putRow,mapBlock,Sort.ahead,vA,Ne.symm hne]
def put_cell{w:World}{g q:Nat}{F:Array Value}{os:Array Obj}{p:Addr}{u:Value}(hne:p.block≠g)(h:w.cell? p=some u):(Sort.grow (putRow id (Sort.ahead w q) g 0 F) os).cell? p=some u:=by
 have a2:=World.block_lt_of_cell? w _ h;unfold World.cell? at h ⊢;rw[put_block a2 hne];exact h
def EB[DecidableEq V]{P:Program}{sg:FuncId}{mk:List Value->Value}{t:TypeId}{X:V->IV}(he:∀args w,(callFunc sg args).run P w=.ok (.enter sg args) w)(C:SortC P sg k mk)(hk0:0<k)(hk:∀x,(c x).length=k)
  (hX:∀(W:World) (S:Nat->Prop) us x,us.length=k->(∀v∈us,v.oneCell'=true)->X7 W S us (c x)->RepI W S (mk us) (X x))
  {f:V->V->Option Int} {g:FuncId} (eg:∀args w,(callFunc g args).run P w=.ok (.enter g args) w) (hg:CmpG P g X f) {l r:List V} (h:oS l f=some r) :
  Sp P sg [.lent (.row t k (l.map c)),.im (.fn g [])] (.mk true [] [.lent (.row t k (r.map c))]):=by
 obtain⟨e7,h⟩:=D5 h;cases hT:totB f l with
 |false=>rw[hT]at h;cases h
 |true =>
 rw[hT]at h;injection h with h
 subst h;have T:=totB_iff hT;refine⟨he,λw S vs F hS hv hn hF=>?_⟩
 match vs,hv with
 |[v,u],⟨F1,F2,⟨hv1,inn,hrow,e1⟩,⟨F3,F4,⟨h4,e2⟩,h5,e3⟩,e4⟩ =>
  have h5:F4=[]:=h5;have e1:F1=(D9 v).toList:=e1;subst e1 e2 h5 e3;have e4:F=(D9 v).toList:=by rw[e4];simp
  subst e4;obtain⟨us,_,_,b4,a2,b7,h1,hr⟩:=hrow;rw[B6]at a2 b4
  have hu:u=.func (.func g) #[] #[]:=by
   generalize hx:IV.fn g []=x at h4;cases h4 with
   |fn f us cs hl hr =>
    injection hx with d9 d3
    subst d9 d3;have:=S7 hl;subst this;rfl
   |_=>cases hx
  subst hu
  have fin:∀(w':World) (a5:List Value),w'.ownsRow 0 t k v l.length a5->a5.length=((Z0 f l).map c).flatten.length->(∀u∈a5,u.oneCell'=true) ->
    Belo (λb=>b∈(D9 v).toList) w.heap.size w w'->(∀(i:Nat) u x,a5[i]?=some u->((Z0 f l).map c).flatten[i]?=some x->RepI w' (λb=>(S b\/w.heap.size<=b\/b∈(D9 v).toList)/\b<w'.heap.size/\b∉(D9 v).toList) u x) ->
    ∃(v1:Value) (F':List Nat),Ending.returned (.tuple #[])=.returned v1/\Belo (λb=>b∈(D9 v).toList) w.heap.size w w' /\
     eV w' (λb=>(S b\/w.heap.size<=b\/b∈(D9 v).toList)/\b<w'.heap.size/\b∉F') v1 (bxVs [v,.func (.func g) #[] #[]] [.lent (.row t k (l.map c)),.im (.fn g [])]) (.mk true [] [.lent (.row t k ((Z0 f l).map c))]) F'/\F'.Nodup/\∀b∈F',(w.heap.size<=b\/b∈(D9 v).toList)/\b<w'.heap.size:=by
   intro w' a5 ho e5 d4 hb d5;refine⟨_,(D9 v).toList,rfl,hb,⟨[],[],(D9 v).toList,rfl,rfl,⟨(D9 v).toList,[],⟨hv1,inn,⟨a5,hk0,λx hx=>?_,?_,?_,e5,d4,d5⟩,rfl⟩,rfl,by simp⟩,by simp⟩,hn,λb b3=>⟨.inr b3,jW (hF b b3).2 hb.size⟩⟩
   ·obtain⟨y,_,rfl⟩:=D7.1 hx;exact hk y
   ·rw[B6,(gQ f l).length_eq];exact b4
   ·rw[B6,(gQ f l).length_eq];exact ho
  by_cases b5:v=.slice none 0 0
  ·subst b5
   have a6:l.length=0:=by
    rcases a2.2 with⟨_,h0⟩|⟨_,_,_,e,_⟩
    ·exact h0
    ·cases e
   have a6:l=[]:=S7 a6;subst a6;refine(C.1 none 0 _ w).mono ?_;rintro e w' ⟨rfl,rfl⟩;have b8:us=[]:=S7 (by rw[b7];rfl);subst b8;exact fin w' [] a2 rfl (λu hu=>by cases hu) (Belo.refl _ _ _) λi u x hu=>by simp at hu
  ·obtain⟨blk,cap,rfl⟩:∃blk cap,v=.slice (some ⟨blk,0,none⟩) l.length cap:=by
    rcases a2.2 with⟨e0,_⟩|⟨g,cap,cur,e,_⟩
    ·exact absurd e0 b5
    ·exact⟨g,cap,e⟩
   have d0:blk<w.heap.size:=(hF blk (by simp[D9])).2;have b2:¬S blk:=(hF blk (by simp[D9])).1;obtain⟨zs,d7,c7⟩:=el_list (w:=w) (S:=S) (l:=l) hk l us (λx hx=>hx) b7 h1 hr;by_cases a6:l=[]
   ·subst a6;refine(C.1 (some ⟨blk,0,none⟩) cap _ w).mono ?_;rintro e w' ⟨rfl,rfl⟩;have b8:us=[]:=S7 (by rw[b7];rfl);subst b8;exact fin w' [] a2 rfl (λu hu=>by cases hu) (Belo.refl _ _ _) λi u x hu=>by simp at hu
   ·have d8:zs.length=l.length:=by have:=congrArg List.length c7;simpa using this
    obtain⟨z0,e8⟩:∃z,z∈zs:=by
     cases zs with
     |nil=>exact absurd (by simpa using c7.symm) a6
     |cons z zs=>exact⟨z,by simp⟩
    haveI:Inhabited (El w S k c l):=⟨z0⟩
    have a4:∀x:El w S k c l,(El.enc x).length=k:=λx=>x.property.1;have a7:∀d:Array (El w S k c l),Go.Sort.flatK El.enc k d=(d.toList.map El.enc).flatten.toArray:=EM a4
    have a8:=C.2 (El w S k c l) El.enc (λx y=>cfv f x.wd y.wd) g blk cap zs.toArray w a4 (λx=>x.property.2.1) (el_swo T) eg (λm os dk _ x y=>by
      refine hg _ S _ _ x.wd y.wd _ (T.get _ x.property.2.2.2 _ y.property.2.2.2) (hX _ _ _ _ x.property.1 x.property.2.1 ⟨x.property.2.2.1.1,λi u z hu hz=>?_⟩) (hX _ _ _ _ y.property.1 y.property.2.1 ⟨y.property.2.2.1.1,λi u z hu hz=>?_⟩)
      ·exact(x.property.2.2.1.2 i u z hu hz).mono (λ_ h=>h) λp u hp hu=>put_cell (λe=>b2 (by rw[<- e];exact hp)) hu
      ·exact(y.property.2.2.1.2 i u z hu hz).mono (λ_ h=>h) λp u hp hu=>put_cell (λe=>b2 (by rw[<- e];exact hp)) hu)
     (by rw[a7];show Go.Sort.Holds id w blk 0 ((zs.map El.enc).flatten).toArray;rw[d7];exact holds_own a2) d0 (by simp;omega)
    have c6:zs.toArray.size=l.length:=by simpa using d8
    rw[c6]at a8;refine a8.mono ?_;rintro e w' ⟨rfl,d',n,os,hp,hs,rfl⟩;have b9:d'.size=l.length:=by rw[hp.1];exact c6
    have c0:=perm_of_in' (d:=zs.toArray) (by rw[c6];exact hp);have d2:=zwc b9 hs
    have e6:d'.toList.map El.wd=Z0 f l:=by
     have d1:(d'.toList.map El.wd).Perm l:=(c0.map El.wd).trans (List.Perm.of_eq c7);refine ET (T.sub λx hx=>d1.mem_iff.1 hx) (d1.trans (gQ f l).symm) ?_ (xS T);rw[rG];refine d2.imp λ{a b} hab=>?_;have c9:¬cfv f b.wd a.wd<0:=by simpa only[ltOf,decide_eq_false_iff_not]using hab
     exact c9
    rw[a7]
    have a3:((d'.toList.map El.enc).flatten).length=l.length*k:=by
     rw[R3 (k:=k) λx hx=>by obtain⟨y,_,rfl⟩:=D7.1 hx;exact a4 y];simp[b9]
    have b6:((Z0 f l).map c).flatten.length=l.length*k:=by
     rw[R3 (k:=k) λx hx=>by obtain⟨y,_,rfl⟩:=D7.1 hx;exact hk y,B6,(gQ f l).length_eq]
    refine fin _ _ (own_put a2 a3) (by rw[a3,b6]) (λu hu=>?_) ⟨rfl,rfl,rfl,?_,λb hb d6=>put_block hb λe=>d6 (by simp[D9,e])⟩ λi u x hu hx=>?_
    ·obtain⟨e9,h2,h3⟩:=mA.1 hu;obtain⟨y,_,rfl⟩:=D7.1 h2;exact y.property.2.1 u h3
    ·simp[Sort.grow,putRow,mapBlock,Sort.ahead]
    ·have hi:i<l.length*k:=by rw[<- a3];exact(E4.1 hu).1
     have hq:i / k<l.length:=Nat.div_lt_of_lt_mul (by rwa [qY]at hi);have hm:i%k<k:=lX _ hk0;have c8:i / k*k+i%k=i:=by rw[qY];exact yU i k
     have a9:i / k<d'.size:=by rw[b9];exact hq
     have g1:=flat_get (es:=d'.toList.map El.enc) (i:=i / k) (j:=i%k) (e:=El.enc (d'[i / k]'a9)) (λx hx=>by obtain⟨y,_,rfl⟩:=D7.1 hx;exact a4 y) (by simp[a9]) hm;have g2:=flat_get (es:=(Z0 f l).map c) (i:=i / k) (j:=i%k) (e:=c (El.wd (d'[i / k]'a9))) (λx hx=>by obtain⟨y,_,rfl⟩:=D7.1 hx;exact hk y) (by rw[<- e6];simp[a9]) hm;rw[c8,hu]at g1;rw[c8,hx]at g2;refine((d'[i / k]'a9).property.2.2.1.2 _ _ _ g1.symm g2.symm).mono (λb hb=>⟨.inl hb,?_,?_⟩) λp u hp hu=>put_cell (λe=>b2 (by rw[<- e];exact hp)) hu
     ·have:w.heap.size<=(Sort.grow (putRow id (Sort.ahead w n) blk 0 ((d'.toList.map El.enc).flatten).toArray) os).heap.size:=by simp[Sort.grow,putRow,mapBlock,Sort.ahead]
      exact jW (hS b hb) this
     ·intro b3;have:b=blk:=by simpa[D9]using b3
      subst this;exact b2 hb
end model
end
end Go.Proofs.YtdjagdnpnhmldaaGreatDoor.Sym
namespace Go.Proofs.YtdjagdnpnhmldaaGreatDoor
def W3(d:Nat):UInt8:=if d<10 then UInt8.ofNat (48+d) else UInt8.ofNat (87+d)
def digsF:Nat->Nat->List UInt8
 |0,u=>[W3 u]
 |f+1,u=>if u<36 then [W3 u] else digsF f (u / 36)++[W3 (u%36)]
def EV:∀(f g u:Nat),u<=f->u<=g->digsF f u=digsF g u
 |0,0,_,_,_=>rfl
 |0,g+1,u,h,_=>by
  have h0:u=0:=by omega
  subst h0;rfl
 |f+1,0,u,_,h=>by
  have h0:u=0:=by omega
  subst h0;rfl
 |f+1,g+1,u,h1,h2=>by
  unfold digsF;by_cases h:u<36
  ·rw[if_pos h,if_pos h]
  ·rw[if_neg h,if_neg h,EV f g (u / 36) (by omega) (by omega)]
def digs(u:Nat):List UInt8:=digsF u u
def nA{u:Nat}(h:u<36):digs u=[W3 u]:=by
 unfold digs;cases u with
 |zero=>rfl
 |succ u=>unfold digsF;rw[if_pos h]
def rX{u:Nat}(h:36<=u):digs u=digs (u / 36)++[W3 (u%36)]:=by
 obtain⟨v,rfl⟩:∃v,u=v+1:=⟨u-1,by omega⟩;show digsF (v+1) (v+1)=digsF ((v+1) / 36) ((v+1) / 36)++[W3 ((v+1)%36)];rw[digsF,if_neg (by omega),EV v ((v+1) / 36) ((v+1) / 36) (by omega) (Nat.le_refl _)]
def digs_len:∀(k u:Nat),u<36^(k+1)->(digs u).length<=k+1
 |0,u,h=>by rw[nA (by simpa using h)];simp
 |k+1,u,h=>by
  by_cases h1:u<36
  ·rw[nA h1];simp
  ·rw[rX (by omega),List.length_append];have:=digs_len k (u / 36) (by rw[Nat.div_lt_iff_lt_mul (by omega),<- Nat.pow_succ];exact h);simp;omega
def EW{u:Nat}(h:u<18446744073709551616):(digs u).length<=13 :=
 digs_len 12 u (Nat.lt_of_lt_of_le h (by decide))
def digs_pos(u:Nat):0<(digs u).length:=by
 by_cases h1:u<36
 ·rw[nA h1];simp
 ·rw[rX (by omega)];simp
def undig(c:UInt8):Nat:=if c.toNat<58 then c.toNat-48 else c.toNat-87
def undig_dig{d:Nat}(h:d<36):undig (W3 d)=d:=by
 have:∀d:Fin 36,undig (W3 d.1)=d.1:=by decide
 exact this ⟨d,h⟩
def dig_char{d:Nat}(h:d<36):48<=(W3 d).toNat:=by
 have:∀d:Fin 36,48<=(W3 d.1).toNat:=by decide
 exact this ⟨d,h⟩
def undigs(l:List UInt8):Nat:=l.foldl (λn c=>n*36+undig c) 0
def FD(u:Nat):undigs (digs u)=u:=by
 induction u using Nat.strongRecOn with
 |_ u ih =>
  by_cases h1:u<36
  ·rw[nA h1];simp[undigs,undig_dig h1]
  ·rw[rX (by omega),undigs,List.foldl_append];have:=ih (u / 36) (by omega);rw[undigs]at this;simp only[List.foldl_cons,List.foldl_nil,this,undig_dig (Nat.mod_lt u (by omega))];omega
def digs_inj{u v:Nat}(h:digs u=digs v):u=v:=by rw[<- FD u,h,FD]
def sC(u:Nat):∀c∈digs u,48<=c.toNat:=by
 induction u using Nat.strongRecOn with
 |_ u ih =>
  by_cases h1:u<36
  ·rw[nA h1];intro c hc;simp at hc;rw[hc];exact dig_char h1
  ·rw[rX (by omega)];intro c hc;rw[List.mem_append]at hc;rcases hc with hc|hc
   ·exact ih (u / 36) (by omega) c hc
   ·simp at hc;rw[hc];exact dig_char (Nat.mod_lt u (by omega))
def aV(a:Int):List UInt8:=if a<0 then 45::digs a.natAbs else digs a.natAbs
def EY(a:Int):∀c∈aV a,c≠32:=by
 intro c hc e;subst e;unfold aV at hc;split at hc
 ·simp only[List.mem_cons]at hc;rcases hc with hc|hc
  ·exact absurd hc (by decide)
  ·have:=sC _ _ hc;exact absurd this (by decide)
 ·have:=sC _ _ hc;exact absurd this (by decide)
def enc36_inj{a b:Int}(h:aV a=aV b):a=b:=by
 have a2:∀u v:Nat,45::digs u≠digs v:=λu v e=>by
  have:=sC v 45 (by rw[<- e];simp);exact absurd this (by decide)
 unfold aV at h;split at h<;>split at h
 ·injection h with _ h
  have:=digs_inj h;omega
 ·exact absurd h (a2 _ _)
 ·exact absurd h.symm (a2 _ _)
 ·have:=digs_inj h;omega
def enc36_len{a:Int}(h1:-9223372036854775808<=a)(h2:a<=9223372036854775807):(aV a).length<=14:=by
 have:=EW (u:=a.natAbs) (by omega);unfold aV;split<;>simp<;>omega
def keyL:List Int->List UInt8
 |[]=>[]
 |a::xs=>aV a++32::keyL xs
def FT:∀xs ys:List Int,keyL (xs++ys)=keyL xs++keyL ys
 |[],_=>rfl
 |a::xs,ys=>by simp[keyL,FT xs ys]
def split_at{c:UInt8}:∀{xs ys rs ss:List UInt8},(∀d∈xs,d≠c)->(∀d∈ys,d≠c)->xs++c::rs=ys++c::ss->xs=ys/\rs=ss
 |[],[],rs,ss,_,_,h=>by simpa using h
 |[],y::ys,rs,ss,_,h2,h=>by
  simp at h;exact absurd h.1.symm (h2 y (by simp))
 |x::xs,[],rs,ss,h1,_,h=>by
  simp at h;exact absurd h.1 (h1 x (by simp))
 |x::xs,y::ys,rs,ss,h1,h2,h=>by
  simp only[List.cons_append,List.cons.injEq]at h;obtain⟨e1,e2⟩:=split_at (λd hd=>h1 d (by simp[hd])) (λd hd=>h2 d (by simp[hd])) h.2;exact⟨by rw[h.1,e1],e2⟩
def keyL_inj:∀{xs ys:List Int},keyL xs=keyL ys->xs=ys
 |[],[],_=>rfl
 |[],a::ys,h=>by simp[keyL]at h
 |a::xs,[],h=>by simp[keyL]at h
 |a::xs,b::ys,h=>by
  simp only[keyL]at h;obtain⟨e1,e2⟩:=split_at (EY a) (EY b) h;rw[enc36_inj e1,keyL_inj e2]
def wD:∀{xs:List Int},(∀x∈xs,-9223372036854775808<=x/\x<=9223372036854775807)->(keyL xs).length<=15*xs.length
 |[],_=>by simp[keyL]
 |a::xs,h=>by
  have h1:=wD (xs:=xs) λx hx=>h x (by simp[hx]);have h2:=h a (by simp);have h3:=enc36_len h2.1 h2.2;simp only[keyL,List.length_append,List.length_cons];omega
def Tryz.infoByte:(Tryz.prog.info? 5).map (λi=>(i.zero,i.size,i.bytes))=some (some (.int .u8 0),1,1):=by kernel_rfl
def bE(l:List UInt8):List Value:=l.map λb=>.int .u8 (b.toNat:Int)
def HU(l:List UInt8):(bE l).length=l.length:=by simp[bE]
def BW(l m:List UInt8):bE (l++m)=bE l++bE m:=by simp[bE]
def bcells_one(l:List UInt8):∀u∈bE l,u.oneCell'=true:=by
 intro u hu;simp only[bE,List.mem_map]at hu;obtain⟨b,_,rfl⟩:=hu;rfl
def OwnB(w:World)(base:Nat)(v:Value)(l:List UInt8):Prop:=w.ownsRow base 5 1 v l.length (bE l)
def OwnB.lt{w:World}{base:Nat}{v:Value}{l:List UInt8}(h:OwnB w base v l):∀k,v.ownBlock=some k->base<=k/\k<w.heap.size:=World.ownsRow.lt h
def OwnB.nil_(w:World)(base:Nat):OwnB w base (.slice none 0 0) []:=World.ownsRow_nil _ _ _ _
def MoreB(w:World)(base:Nat)(l:List UInt8)(e:Ending)(w':World):Prop:=∃v',e=.returned v'/\OwnB w' base v' l/\Below base w w'
def idx36(k:IntKind)(z:Int)(d:Nat)(hz:z=(d:Int))(hd:d<36)(w:World) :
  (Instr.index 9 (.string { data:=#[48,49,50,51,52,53,54,55,56,57,97,98,99,100,101,102,103,104,105,106,107,108,109,110,111,112,113,114,115,116,117,118,119,120,121,122] }) (.int k z)).run Tryz.prog w=.ok (.int .u8 ((W3 d).toNat:Int)) w:=by
 subst hz;rw[run_index_string w 9 _ k _ Tryz.underlying9,dif_pos ⟨by omega,by show(d:Int)<((36:Nat):Int);omega⟩];have:∀d:Fin 36,(({ data:=#[48,49,50,51,52,53,54,55,56,57,97,98,99,100,101,102,103,104,105,106,107,108,109,110,111,112,113,114,115,116,117,118,119,120,121,122] }:ByteArray)[d.1]'(by show d.1<36;exact d.2))=W3 d.1:=by decide
 have h:=this ⟨d,hd⟩;simp only[Int.toNat_natCast];rw[h]
def Dig(zs:List Value)(i:Nat)(l:List UInt8):Prop:=zs.length=65/\zs.drop i=bE l
def Dig.push{zs:List Value}{j:Nat}{m:List UInt8}(h:Dig zs (j+1) m)(hj:j<65)(c:UInt8):Dig (zs.set j (.int .u8 (c.toNat:Int))) j (c::m):=by
 obtain⟨h1,h2⟩:=h;refine⟨by simpa using h1,?_⟩;rw[List.drop_eq_getElem_cons (by simp;omega),List.getElem_set_self,List.drop_set_of_lt (by omega),h2];rfl
set_option maxRecDepth 100000 in
set_option maxHeartbeats 1600000 in
def zyz{B u:Nat}{sv:Value}{l:List UInt8}{w:World}(hu:u<18446744073709551616)(hown:OwnB w B sv l)(hB:B<=w.heap.size)(hl:l.length<=1000000000) :
  Calls Tryz.prog 262 #[sv,.int .u64 u,.int .i64 36,.bool false,.bool true] w (λe w'=>∃v',e=.returned (.tuple #[v',.string ByteArray.empty])/\OwnB w' B v' (l++digs u)/\Below B w w'):=by
 obtain⟨i0,hi,b7,c0,c7⟩:=info_parts Tryz.infoByte;have b6:=Lib.hid hown;clear hown;have c9:(bits BinOp.and IntKind.i64 36 35==0)=false:=by decide
 go_enter Tryz.func262,Tryz.ntmps262
 go_wp2
 go_loopw [1,13,18] (λv i _ wr=>∃k j:Nat,∃m:List UInt8,∃zs,v=.int .u64 k/\i=.int .i64 j/\k<18446744073709551616/\j+m.length=65/\Hid (digs k++m=digs u)/\Hid (Dig zs j m)/\wr.ownsRow w.heap.size 307 1 (.slice (some ⟨w.heap.size,0,none⟩) 65 65) 65 zs/\Below w.heap.size w wr) (λv _ _ _=>(intOf v).toNat)
 case atStart=>exact⟨u,65,[],_,rfl,rfl,hu,rfl,Lib.hid (by simp),Lib.hid ⟨rfl,rfl⟩,World.ownsRow_lit w _ 65 (Nat.le_refl _) (by unfold maxLen;omega) rfl,(Below.refl _ _).alloc (Nat.le_refl _) _⟩
 case round =>
  obtain⟨k,j,m,zs,rfl,rfl,hk,hj,HD,HZ,a3,a5⟩:=hrel
  have d1:m.length<=12:=by
   have h1:=congrArg List.length HD.out;rw[List.length_append]at h1;have h2:=digs_pos k;have h3:=EW hu;omega
  obtain⟨j,rfl⟩:∃j':Nat,j=j'+1:=⟨j-1,by omega⟩;have b2:j<zs.length:=by rw[HZ.out.1];omega
  have q1:wr.cell? ⟨w.heap.size,j,none⟩=some (zs[j]):=by rw[a3.cellAt j (by omega)];exact List.getElem?_eq_getElem b2
  have q2:wr.frozen? ⟨w.heap.size,j,none⟩=false:=a3.frozenAt j;generalize zs[j]=z0 at q1;have HR:=Lib.hid a3;have HB:=Lib.hid a5;clear a3 a5 b2;by_cases h1:36<=k
  ·have e0:((j+1:Nat):Int)-1=(j:Int):=by omega
   have c6:=λW=>idx36 .u64 ((k:Int)-(k:Int) / 36*36) (k%36) (by omega) (by omega) W
   go_wp2
   go_roundw
   case rel =>
    obtain⟨s1,s2⟩:=HR.out.stored j (.int .u8 ((W3 (k%36)).toNat:Int));exact⟨k / 36,j,W3 (k%36)::m,_,by go_num,rfl,by omega,by simp;omega,Lib.hid (by rw[<- HD.out,rX h1];simp),Lib.hid (HZ.out.push (by omega) _),s1,HB.out.grown s2 HB.out.size (λg e=>by injection e with e;omega)⟩
   case measure=>simp[intOf]<;>omega
  ·have e0:((j+1:Nat):Int)-1=(j:Int):=by omega
   have c6:=λW=>idx36 .u64 (k:Int) k rfl (by omega) W;have a7:Tryz.prog.arrayLen 307=65:=by simp[Program.arrayLen,Tryz.underlying307]
   have d2:∀W,(Instr.sliceAt 307 (.pointer (some ⟨w.heap.size,0,none⟩)) (some (.int .i64 (j:Int))) none none).run Tryz.prog W=.ok (.slice (some ⟨w.heap.size,j,none⟩) (65-j) (65-j)) W:=λW=>by
    rw[run_sliceAt_array_l W 307 ⟨w.heap.size,0,none⟩ (by simp[Program.arrayLen,Program.elem,Tryz.underlying307]) .i64 (j:Int) (by omega) (by rw[a7];omega)]
    go_simp
    omega
   obtain⟨s1,s2⟩:=HR.out.stored j (.int .u8 ((W3 k).toNat:Int));have hb2:Below w.heap.size w (wr.setCell ⟨w.heap.size,j,none⟩ (.int .u8 ((W3 k).toNat:Int))):=HB.out.grown s2 HB.out.size (λg e=>by injection e with e;omega);have a2:OwnB (wr.setCell ⟨w.heap.size,j,none⟩ (.int .u8 ((W3 k).toNat:Int))) B sv l:=World.ownsRow.kept b6.out (EJ hb2) (by cases sv.ownBlock<;>simp);have b5:=HZ.out.push (by omega) (W3 k)
   have a8:Src (wr.setCell ⟨w.heap.size,j,none⟩ (.int .u8 ((W3 k).toNat:Int))) (some ⟨w.heap.size,j,none⟩) (65-j) (bE (W3 k::m)):=by
    refine⟨by rw[HU];simp;omega,λ_=>⟨_,_,rfl,λi v hv=>?_⟩⟩;have hi:i<(bE (W3 k::m)).length:=(List.getElem?_eq_some_iff.1 hv).1;rw[HU,List.length_cons]at hi;rw[s1.cellAt (j+i) (by omega),<- hv,<- b5.2,List.getElem?_drop]
   have b4:=bcells_one (W3 k::m);have b8:l.length+(65-j)<=maxLen:=by unfold maxLen;omega
   have b9:(l.length+(65-j))*1<=140737488355328:=by omega
   have a9:B<=(wr.setCell ⟨w.heap.size,j,none⟩ (.int .u8 ((W3 k).toNat:Int))).heap.size:=Nat.le_trans hB hb2.size
   have a4:bE l++bE (W3 k::m)=bE (l++digs u):=by
    rw[<- BW,<- HD.out,nA (by omega)];rfl
   have b3:l.length+(65-j)=(l++digs u).length:=by
    rw[<- HD.out,nA (by omega)];simp;omega
   have HF:=Lib.hid (And.intro a4 b3);have d0:=Lib.hid hb2;clear s1 s2 b5 hb2 a4 b3 a7;unfold OwnB at a2
   go_wp2_with (at_builtin;refine CM rfl (.tmp 95) (.tmp 97) 255 rfl B 5 i0 (.int .u8 0) 1 Tryz.underlying255 hi b7 c0 c7 rfl sv _ _ rfl a2 _ (65-j) (65-j) _ rfl a8 b4 b8 b9 a9 ?_;intro v1 w1 a6 c8 hb1)
   go_ret2
   have d3:=a2;refine⟨_,rfl,?_,?_⟩
   ·unfold OwnB;rw[<- HF.out.1,<- HF.out.2];exact a6
   ·exact(d0.out.mono hB).grown c8 a9 λg e=>(OwnB.lt a2 g e).1
set_option maxRecDepth 100000 in
set_option maxHeartbeats 800000 in
def II{B u:Nat}{sv:Value}{l:List UInt8}{w:World}(hu:u<18446744073709551616)(hown:OwnB w B sv l)(hB:B<=w.heap.size)(hl:l.length<=1000000000) :
  Calls Tryz.prog 253 #[sv,.int .u64 u,.int .i64 36] w (MoreB w B (l++digs u)):=by
 have a2:=zyz hu hown hB hl;clear hown
 go_enter Tryz.func253,Tryz.ntmps253
 go_wp2_with (go_at_call 262;refine a2.mono ?_;rintro e w' ⟨v',rfl,a3,a4⟩)
 go_ret
 exact⟨_,rfl,a3,a4⟩
set_option maxRecDepth 100000 in
set_option maxHeartbeats 800000 in
def appendInt_any{B:Nat}{a:Int}{sv:Value}{l:List UInt8}{w:World}(ha1:-9223372036854775808<=a)(ha2:a<=9223372036854775807)(hown:OwnB w B sv l)(hB:B<=w.heap.size)(hl:l.length<=100000000) :
  Calls Tryz.prog 236 #[sv,.int .i64 a,.int .i64 36] w (MoreB w B (l++aV a)):=by
 obtain⟨i0,hi,b5,c6,c0⟩:=info_parts Tryz.infoByte;by_cases h1:a<0
 ·have b3:∀t,Src (w.alloc (.cells #[.int .u8 45] t)) (some ⟨w.heap.size,0,none⟩) 1 [.int .u8 45]:=λt=>src_one w _ t;have b2:∀u∈[Value.int .u8 45],u.oneCell'=true:=by intro u hu;simp at hu;subst hu;rfl
  have a5:∀o,(w.alloc o).ownsRow B 5 1 sv l.length (bE l):=λo=>World.ownsRow.alloc hown o;have b6:l.length+1<=maxLen:=by unfold maxLen;omega
  have b8:(l.length+1)*1<=140737488355328:=by omega
  have a9:∀o,B<=(w.alloc o).heap.size:=λo=>by simp;omega
  have b9:=OwnB.lt hown;have b7:∀o,Below B w (w.alloc o):=λo=>(Below.refl B w).alloc hB o;have b4:=Lib.hid hown;clear hown;have e1:(aV a)=45::digs a.natAbs:=by unfold aV;rw[if_pos h1]
  have HE:=Lib.hid e1;clear e1
  go_enter Tryz.func236,Tryz.ntmps236
  go_wp2_with (at_builtin;refine CM rfl (.tmp 12) (.tmp 13) 255 rfl B 5 i0 (.int .u8 0) 1 Tryz.underlying255 hi b5 c6 c0 rfl sv _ _ rfl (a5 _) _ 1 1 [.int .u8 45] rfl (b3 _) b2 b6 b8 (a9 _) ?_;intro v1 w1 a6 a8 hb1)
  have hw:IntKind.u64.wrap (-IntKind.u64.wrap a)=((a.natAbs:Nat):Int):=by
   rw[IntKind.wrap_u64,IntKind.wrap_u64];omega
  rw[hw]
  have a4:OwnB w1 B v1 (l++[45]):=by
   unfold OwnB;rw[BW,List.length_append];exact a6
  have hb2:Below B w w1:=(b7 _).grown a8 (a9 _) λg e=>(b9 g e).1;have a2:=II (u:=a.natAbs) (by omega) a4 (Nat.le_trans hB (by have:=a8.size;simp at this;omega)) (by simp;omega);clear a6 a8 hb1 a4 a5 b3 a9;refine a2.mono ?_;rintro e w' ⟨v',rfl,a3,a7⟩
  go_wp2
  go_ret
  refine⟨_,rfl,?_,hb2.trans a7⟩;rw[HE.out];simpa using a3
 ·have b4:=Lib.hid hown;have e1:(aV a)=digs a.natAbs:=by unfold aV;rw[if_neg h1]
  have hw:IntKind.u64.wrap a=((a.natAbs:Nat):Int):=by
   rw[IntKind.wrap_u64];omega
  have a2:=II (u:=a.natAbs) (by omega) hown hB (by omega);clear hown
  go_enter Tryz.func236,Tryz.ntmps236
  go_wp2_with (go_at_call 253;refine a2.mono ?_;rintro e w' ⟨v',rfl,a3,a7⟩)
  go_ret
  exact⟨_,rfl,by rw[e1];exact a3,a7⟩
set_option maxRecDepth 100000 in
def zqm{B:Nat}{a:Int}{sv:Value}{l:List UInt8}{w:World}(ha1:-9223372036854775808<=a)(ha2:a<=9223372036854775807)(hown:OwnB w B sv l)(hB:B<=w.heap.size)(hl:l.length<=100000000) :
  Calls Tryz.prog 205 #[sv,.int .i64 a,.int .i64 36] w (MoreB w B (l++aV a)):=by
 have a2:=appendInt_any ha1 ha2 hown hB hl;clear hown
 go_enter Tryz.func205,Tryz.ntmps205
 go_wp2_with (go_at_call 236;refine a2.mono ?_;rintro e w' ⟨v',rfl,a3,a4⟩)
 go_ret
 exact⟨_,rfl,a3,a4⟩
def keyL_take{xs:List Int}{k:Nat}{x:Int}(h:xs[k]?=some x):keyL (xs.take (k+1))=(keyL (xs.take k)++aV x)++[32]:=by
 rw[Q2 h,FT];simp[keyL]
def Rng(x:Int):Prop:=-9223372036854775808<=x/\x<=9223372036854775807
def KeyPost(w:World)(l:List UInt8)(e:Ending)(w':World):Prop:=e=.returned (.string ⟨l.toArray⟩)/\Below w.heap.size w w'
set_option maxRecDepth 100000 in
set_option maxHeartbeats 1600000 in
def key_any{A:Option Addr}{n c:Nat}{xs:List Int}{w:World}(hx:T4 w cJ A n c xs)(hr:∀x∈xs,Rng x)(hn:n<=2000000) :
  Calls Tryz.prog 151 #[.slice A n c] w (KeyPost w (keyL xs)):=by
 have HL:=Lib.hid hx.len;have HR:=Lib.hid hr;obtain⟨i0,hi,b9,c8,c9⟩:=info_parts Tryz.infoByte;clear hr
 go_enter Tryz.func151,Tryz.ntmps151
 go_wp2
 go_loopw [3,5,8] (λv _ i wr=>∃k:Nat,k<=n/\i=.int .i64 k/\OwnB wr w.heap.size v (keyL (xs.take k))/\Below w.heap.size w wr) (λ_ _ i _=>n-(intOf i).toNat)
 case atStart=>exact⟨0,by omega,rfl,OwnB.nil_ _ _,Below.refl _ _⟩
 case round =>
  obtain⟨k,hk,rfl,a3,a4⟩:=hrel
  have d2:(keyL (xs.take k)).length<=15*k:=by
   have:=wD (xs:=xs.take k) λx hx=>HR.out x (List.mem_of_mem_take hx);rw[List.length_take]at this;omega
  by_cases h1:k<n
  ·obtain⟨b,o,x,rfl,b3,b4⟩:=hx.int_at h1;have hc:=Keeps.of_below a4 _ _ b4;have a8:=HR.out x (List.mem_of_getElem? b3);have HX:=Lib.hid b3;have HC:=Lib.hid (zqm a8.1 a8.2 a3 a4.size (by omega));have d1:=enc36_len a8.1 a8.2;have HB:=Lib.hid a4;clear b3 b4 a8 a3 a4;have b6:∀u∈[Value.int .u8 32],u.oneCell'=true:=by intro u hu;simp at hu;subst hu;rfl
   have c0:(keyL (xs.take k)++aV x).length+1<=maxLen:=by unfold maxLen;simp;omega
   have c7:((keyL (xs.take k)++aV x).length+1)*1<=140737488355328:=by simp;omega
   go_wp2_with (first|(go_at_call 205;refine HC.out.mono ?_;rintro e w1 ⟨v1,rfl,a5,hb1⟩;have HH:=Lib.hid (And.intro a5 hb1);have b8:=λt=>src_one w1 (.int .u8 32) t;have a7:=λo=>World.ownsRow.alloc a5 o;have a9:∀o,w.heap.size<=(w1.alloc o).heap.size:=(λo=>by have:=HB.out.size;have:=hb1.size;simp;omega);clear a5 hb1)|(at_builtin;refine CM rfl (.tmp 14) (.tmp 15) 255 rfl w.heap.size 5 i0 (.int .u8 0) 1 Tryz.underlying255 hi b9 c8 c9 rfl v1 _ _ rfl (a7 _) _ 1 1 [.int .u8 32] rfl (b8 _) b6 c0 c7 (a9 _) ?_;intro v2 w2 a6 b7 hb2))
   have b5:OwnB w2 w.heap.size v2 (keyL (xs.take (k+1))):=by
    unfold OwnB;rw[keyL_take HX.out,BW,List.length_append];exact a6
   have b2:Below w.heap.size w w2:=((HB.out.trans (HH.out.2.mono (Nat.le_refl _))).alloc (by have:=HB.out.size;have:=HH.out.2.size;omega) _).grown b7 (a9 _) λg e=>(OwnB.lt HH.out.1 g e).1;clear a6 b7 hb2 b8 a7 a9
   go_roundw
   case rel=>exact⟨k+1,by omega,by go_num,b5,b2⟩
   case measure=>simp[intOf]<;>omega
  ·rw[List.take_of_length_le (by rw[HL.out];omega)]at a3
   have d0:(convert 255 9 u3).run Tryz.prog wr=.ok (.string ⟨(keyL xs).toArray⟩) wr:=by
    rcases a3.2 with⟨rfl,h0⟩|⟨g,c6,cur,rfl,_,_,_⟩
    ·have a2:keyL xs=[]:=List.eq_nil_of_length_eq_zero h0;rw[a2];exact Lib.run_convert_nil_bytes wr _ _ _ 0 Tryz.underlying255 Tryz.underlying5 Tryz.underlying9
    ·refine run_convert_bytes_back wr _ _ _ ⟨g,0,none⟩ c6 (keyL xs) Tryz.underlying255 Tryz.underlying5 Tryz.underlying9 λj hj=>?_;rw[a3.cells (g:=g) rfl j (.int .u8 ((keyL xs)[j].toNat:Int)) (by simp[bE,hj])]
   clear a3
   go_wp2
   go_ret
   exact⟨rfl,a4⟩
end Go.Proofs.YtdjagdnpnhmldaaGreatDoor
namespace Go.Proofs.YtdjagdnpnhmldaaGreatDoor.Sym
def kP{w:World}{S:Nat->Prop}{v:Value}{l:A2}(h:RepI w S v (nL cI l)):∃A n c,v=.slice A n c/\T4 w cJ A n c l:=by
 have h:RepI w S v (.sl (l.map cI)):=h;generalize he:l.map cI=es at h;cases h with
 |emp A c =>
  have:l=[]:=by simpa using he
  subst this;exact⟨A,0,c,rfl,rfl,F7 _,by omega,λh=>by omega⟩
 |sl b o c k n _ us hn hk hc hs hS hl h1 hu hr =>
  subst he
  have hf:(l.map cI).flatten=l.map λx=>nI x:=by
   clear hn hk hl hr h
   induction l with
   |nil=>rfl
   |cons x l ih=>rw[J7,W6,ih];rfl
  rw[hf]at hl hr;refine⟨_,_,_,rfl,by simpa using hn,hc,hs,λ_=>⟨b,o,rfl,λi x hx=>?_⟩⟩;have hi:i<us.length:=by rw[hl,B6];exact(E4.1 hx).1
  have hg:=J8 hi;refine⟨_,hu i _ hg,?_⟩;have:=hr i _ (nI x) hg (by rw[I9,hx];rfl);generalize us[i]=u at this;cases this with
  |val _=>rfl
def pN(l:A2):Option ByteArray:=chk (∀x∈l,inR x) (chk (l.length<=2000000) (some ⟨(keyL l).toArray⟩))
set_option maxRecDepth 100000 in
def BJ(l:A2)(r:ByteArray)(h:pN l=some r):Sp Tryz.prog 151 [.im (nL cI l)] (.im (nS r)):=by
 obtain⟨h1,h⟩:=D5 h;obtain⟨h2,h⟩:=D5 h;injection h with h
 subst h;refine⟨λargs w=>fH rfl rfl rfl args w,λw S vs F hS hv hn hF=>?_⟩
 match vs,hv with
 |[v],⟨F1,F2,⟨h3,e1⟩,h4,e2⟩ =>
  have h4:F2=[]:=h4;subst e1 h4 e2;obtain⟨A,n,c,rfl,a2⟩:=kP h3;refine(key_any a2 h1 (by rw[<- a2.1];exact h2)).mono ?_;rintro e w' ⟨rfl,hb⟩;exact⟨_,[],rfl,.of hb,⟨[_],[],[],rfl,⟨[],[],⟨.val _,rfl⟩,rfl,rfl⟩,rfl,rfl⟩,fU,λb hb=>by simp at hb⟩
end Go.Proofs.YtdjagdnpnhmldaaGreatDoor.Sym
namespace Go.Proofs.YtdjagdnpnhmldaaGreatDoor
def cmpI(x y:Int):Int:=if x<y then -1 else if y<x then 1 else 0
def CG(x y:Int)(w:World) :
  Calls Tryz.prog 149 #[.int .i64 x,.int .i64 y] w λe w'=>e=.returned (.int .i64 (cmpI x y))/\w=w':=by
 by_cases h1:x<y
 ·go_enter Tryz.func149,Tryz.ntmps149
  go_wp2
  go_ret
  exact⟨iX (by unfold cmpI;rw[if_pos h1]),rfl⟩
 ·by_cases h2:y<x
  ·go_enter Tryz.func149,Tryz.ntmps149
   go_wp2
   go_ret
   exact⟨iX (by unfold cmpI;rw[if_neg (by omega),if_pos h2]),rfl⟩
  ·go_enter Tryz.func149,Tryz.ntmps149
   go_wp2
   go_ret
   exact⟨iX (by unfold cmpI;rw[if_neg (by omega),if_neg (by omega)]),rfl⟩
def lexI_step{xs ys:List Int}{k:Nat}{x y:Int}(hx:xs[k]?=some x)(hy:ys[k]?=some y) :
  lexI (xs.drop k) (ys.drop k)=if cmpI x y=0 then lexI (xs.drop (k+1)) (ys.drop (k+1)) else cmpI x y:=by
 obtain⟨h1,a2⟩:=List.getElem?_eq_some_iff.1 hx;obtain⟨h2,a3⟩:=List.getElem?_eq_some_iff.1 hy;rw[List.drop_eq_getElem_cons h1,List.drop_eq_getElem_cons h2,a2,a3];simp only[lexI,cmpI];by_cases a:x<y
 ·simp[a]
 ·by_cases b:y<x
  ·simp[a,b]
  ·simp[a,b]
def lexI_long{xs ys:List Int}{k:Nat}(h1:k<xs.length)(h2:ys.length<=k):lexI (xs.drop k) (ys.drop k)=1:=by
 rw[List.drop_eq_getElem_cons h1,List.drop_eq_nil_of_le h2];rfl
def lexI_end{xs ys:List Int}{k:Nat}(h1:xs.length<=k):lexI (xs.drop k) (ys.drop k)=if k<ys.length then -1 else 0:=by
 rw[List.drop_eq_nil_of_le h1];by_cases h2:k<ys.length
 ·rw[if_pos h2,List.drop_eq_getElem_cons h2];rfl
 ·rw[if_neg h2,List.drop_eq_nil_of_le (by omega)];rfl
set_option maxHeartbeats 800000 in
def JB{A B:Option Addr}{n c m c':Nat}{xs ys:List Int}{w:World}(hx:T4 w cJ A n c xs)(hy:T4 w cJ B m c' ys) :
  Calls Tryz.prog 150 #[.slice A n c,.slice B m c'] w λe w'=>e=.returned (.int .i64 (lexI xs ys))/\w=w':=by
 have hn:=hx.small;have hm:=hy.small;have HL:=Lib.hid (And.intro hx.len hy.len)
 go_enter Tryz.func150,Tryz.ntmps150
 go_wp2
 go_loop [5,6,7,8,11] (λ_ _ _ _ i=>∃k:Nat,k<=n/\k<=m/\i=.int .i64 k/\Hid (lexI xs ys=lexI (xs.drop k) (ys.drop k))) (λ_ _ _ _ i=>n-(intOf i).toNat)
 case atStart=>exact⟨0,by omega,by omega,rfl,Lib.hid (by simp)⟩
 case round =>
  obtain⟨k,hk,a7,rfl,HT⟩:=hrel;by_cases h1:k<n
  ·obtain⟨b,o,x,rfl,a5,a6⟩:=hx.int_at h1;have HX:=Lib.hid a5;clear a5;by_cases h2:k<m
   ·obtain⟨b',o',y,rfl,a4,a8⟩:=hy.int_at h2;have HY:=Lib.hid a4;clear a4;have a2:=lexI_step HX.out HY.out;by_cases h3:cmpI x y=0
    ·rw[if_pos h3]at a2;have a3:=Lib.hid a2;have d3:(cmpI x y != 0)=false:=by simp[h3]
     have H3:=Lib.hid h3;clear h3 a2
     go_wp2_with (go_at_call 149;refine(CG _ _ _).mono ?_;rintro e w' ⟨rfl,rfl⟩)
     go_round
     case rel=>exact⟨k+1,by omega,by omega,by go_num,Lib.hid (by rw[HT.out,a3.out])⟩
     case measure=>simp[intOf];omega
    ·rw[if_neg h3]at a2;have a3:=Lib.hid a2;have d3:(cmpI x y != 0)=true:=by simp[h3]
     clear h3 a2
     go_wp2_with (go_at_call 149;refine(CG _ _ _).mono ?_;rintro e w' ⟨rfl,rfl⟩)
     go_ret
     exact⟨iX (by rw[HT.out,a3.out]),rfl⟩
   ·go_wp2
    go_ret
    obtain⟨h3,h4⟩:=HL.out;exact⟨iX (by rw[HT.out,lexI_long (by omega) (by omega)]),rfl⟩
  ·obtain⟨h3,h4⟩:=HL.out;have HE:=Lib.hid (lexI_end (xs:=xs) (ys:=ys) (k:=k) (by omega));clear h3 h4;by_cases h2:n<m
   ·go_wp2
    go_ret
    obtain⟨h3,h4⟩:=HL.out;exact⟨iX (by rw[HT.out,HE.out,if_pos (by omega)]),rfl⟩
   ·go_wp2
    go_ret
    obtain⟨h3,h4⟩:=HL.out;exact⟨iX (by rw[HT.out,HE.out,if_neg (by omega)]),rfl⟩
def GG{A B:Option Addr}{n c m c':Nat}{xs ys:List Int}{w:World}(hx:T4 w cJ A n c xs)(hy:T4 w cJ B m c' ys) :
  Calls Tryz.prog 110 #[.slice A n c,.slice B m c'] w λe w'=>e=.returned (.int .i64 (lexI xs ys))/\w=w':=by
 go_enter Tryz.func110,Tryz.ntmps110
 go_wp2_with (go_at_call 150;refine(JB hx hy).mono ?_;rintro e w' ⟨rfl,rfl⟩)
 go_ret
 exact⟨rfl,rfl⟩
def orI(xs:List Int):Int:=(xs.find? λa=>a != 0).getD 0
set_option maxHeartbeats 400000 in
def cmpOr_any{A:Option Addr}{n c:Nat}{xs:List Int}{w:World}(hx:T4 w cJ A n c xs) :
  Calls Tryz.prog 148 #[.slice A n c] w λe w'=>e=.returned (.int .i64 (orI xs))/\w=w':=by
 have a5:=hx.small;have HL:=Lib.hid hx.len
 go_enter Tryz.func148,Tryz.ntmps148
 go_wp2
 go_loop [5,8] (λ_ i=>∃k:Nat,k<=n/\i=.int .i64 k/\Hid (((xs.take k).find? λa=>a != 0)=none)) (λ_ i=>n-(intOf i).toNat)
 case atStart=>exact⟨0,by omega,rfl,Lib.hid (by simp)⟩
 case round =>
  obtain⟨k,hk,rfl,HT⟩:=hrel;by_cases h1:k<n
  ·obtain⟨b,o,x,rfl,a2,a4⟩:=hx.int_at h1;have HX:=Lib.hid a2;clear a2;by_cases h2:x=0
   ·have d2:(x != 0)=false:=by simp[h2]
    have H2:=Lib.hid h2;clear h2
    go_wp2
    go_round
    case rel=>exact⟨k+1,by omega,by go_num,Lib.hid (by rw[Q2 HX.out,List.find?_append,HT.out,H2.out];rfl)⟩
    case measure=>simp[intOf]<;>omega
   ·have d2:(x != 0)=true:=by simp[h2]
    go_wp2
    go_ret
    refine⟨iX ?_,rfl⟩;have a3:=List.take_append_drop (k+1) xs;unfold orI;rw[<- a3,List.find?_append,Q2 HX.out,List.find?_append,HT.out];simp[h2]
  ·go_wp2
   go_ret
   have ht:=HT.out;rw[List.take_of_length_le (by rw[HL.out];omega)]at ht;exact⟨iX (by unfold orI;rw[ht];rfl),rfl⟩
def orI_cmp(xs ys:List Int):orI [cmpI xs.length ys.length,lexI xs ys]=cmpW xs ys:=by
 unfold orI cmpI cmpW;by_cases h1:xs.length<ys.length
 ·rw[if_pos (by omega),if_pos h1];rfl
 ·by_cases h2:ys.length<xs.length
  ·rw[if_neg (by omega),if_pos (by omega),if_neg h1,if_pos h2];rfl
  ·rw[if_neg (by omega),if_neg (by omega),if_neg h1,if_neg h2];by_cases h3:lexI xs ys=0
   ·simp[h3]
   ·simp[h3]
def src_two{w:World}(x y:Value)(t:TypeId):Src (w.alloc (.cells #[x,y] t)) (some ⟨w.heap.size,0,none⟩) 2 [x,y] :=
 ⟨rfl,λ_=>⟨_,_,rfl,λj u hu=>by
  have:=cell_two_new w x y t j u hu
  rwa [addr_add]at this⟩⟩
def ints_row{w:World}(x y:Int)(t:TypeId):T4 (w.alloc (.cells #[.int .i64 x,.int .i64 y] t)) cJ (some ⟨w.heap.size,0,none⟩) 2 2 [x,y]:=by
 refine⟨rfl,Nat.le_refl _,by omega,λ_=>⟨_,_,rfl,λi z hz=>?_⟩⟩;obtain⟨_,hc⟩:=src_two (w:=w) (.int .i64 x) (.int .i64 y) t;obtain⟨b,o,e,a2⟩:=hc (by omega);injection e with e
 injection e with e1 e2
 subst e1 e2
 match i,hz with
 |0,hz =>
  simp at hz;subst hz;exact⟨_,a2 0 _ rfl,rfl⟩
 |1,hz =>
  simp at hz;subst hz;exact⟨_,a2 1 _ rfl,rfl⟩
set_option maxHeartbeats 400000 in
def zwa{A B:Option Addr}{n c m c':Nat}{xs ys:List Int}{w:World}(hx:T4 w cJ A n c xs)(hy:T4 w cJ B m c' ys) :
  Calls Tryz.prog 93 #[.slice A n c,.slice B m c'] w λe w'=>e=.returned (.int .i64 (cmpW xs ys))/\w.alloc (.cells #[.int .i64 (cmpI xs.length ys.length),.int .i64 (lexI xs ys)] 3)=w':=by
 have hn:=hx.small;have hm:=hy.small;have a2:=Lib.hid (JB hx hy);have HE:=Lib.hid (orI_cmp xs ys);have h1:=hx.len;have h2:=hy.len;have HO:=Lib.hid (λt=>cmpOr_any (ints_row (w:=w) (cmpI xs.length ys.length) (lexI xs ys) t));rw[h1,h2]at HE HO;rw[h1,h2];clear h1 h2 hx hy
 go_enter Tryz.func93,Tryz.ntmps93
 go_wp2_with (first|(go_at_call 149;refine(CG _ _ _).mono ?_;rintro e w' ⟨rfl,rfl⟩)|(go_at_call 150;refine a2.out.mono ?_;rintro e w' ⟨rfl,rfl⟩)|(go_at_call 148;refine(HO.out _).mono ?_;rintro e w' ⟨rfl,rfl⟩))
 go_ret
 exact⟨iX HE.out,rfl⟩
end Go.Proofs.YtdjagdnpnhmldaaGreatDoor
namespace Go.Proofs
section
open Go.Shelf
def Tryz.sortW_ren:Go.Shelf.Ren:=⟨fun|6=>163|15=>200|14=>209|28=>234|29=>235|20=>237|21=>238|22=>239|23=>240|24=>241|25=>242|26=>243|27=>244|46=>254|47=>249|48=>250|49=>255|50=>256|57=>263|n=>n,fun|22=>22|24=>51|25=>86|3=>3|39=>209|0=>0|53=>276|55=>278|4=>4|46=>270|45=>269|50=>153|5=>5|9=>9|66=>286|70=>290|76=>295|77=>261|n=>n,fun|n=>n⟩
def Tryz.sortW:Go.Proofs.SlLaysF.n6 Tryz.prog Tryz.sortW_ren:={
 mixed:=by kernel_rfl
 f6:=⟨Tryz.f163.name,by decide,Tryz.func163.trans (congrArg some (by kernel_rfl))⟩
 f14:=⟨Tryz.f209.name,by decide,Tryz.func209.trans (congrArg some (by kernel_rfl))⟩
 f15:=Tryz.func200.trans (congrArg some (by kernel_rfl))
 f20:=⟨Tryz.f237.name,by decide,Tryz.func237.trans (congrArg some (by kernel_rfl))⟩
 f21:=⟨Tryz.f238.name,by decide,Tryz.func238.trans (congrArg some (by kernel_rfl))⟩
 f22:=⟨Tryz.f239.name,by decide,Tryz.func239.trans (congrArg some (by kernel_rfl))⟩
 f23:=⟨Tryz.f240.name,by decide,Tryz.func240.trans (congrArg some (by kernel_rfl))⟩
 f24:=⟨Tryz.f241.name,by decide,Tryz.func241.trans (congrArg some (by kernel_rfl))⟩
 f25:=⟨Tryz.f242.name,by decide,Tryz.func242.trans (congrArg some (by kernel_rfl))⟩
 f26:=⟨Tryz.f243.name,by decide,Tryz.func243.trans (congrArg some (by kernel_rfl))⟩
 f27:=⟨Tryz.f244.name,by decide,Tryz.func244.trans (congrArg some (by kernel_rfl))⟩
 f28:=Tryz.func234.trans (congrArg some (by kernel_rfl))
 f29:=Tryz.func235.trans (congrArg some (by kernel_rfl))
 f46:=⟨Tryz.f254.name,by decide,Tryz.func254.trans (congrArg some (by kernel_rfl))⟩
 f47:=Tryz.func249.trans (congrArg some (by kernel_rfl))
 f48:=Tryz.func250.trans (congrArg some (by kernel_rfl))
 f49:=⟨Tryz.f255.name,by decide,Tryz.func255.trans (congrArg some (by kernel_rfl))⟩
 f50:=⟨Tryz.f256.name,by decide,Tryz.func256.trans (congrArg some (by kernel_rfl))⟩
 f57:=⟨Tryz.f263.name,by decide,Tryz.func263.trans (congrArg some (by kernel_rfl))⟩
 t0:=Tryz.underlying0
 a0:=Tryz.isAgg0
 z0:=Tryz.sizeOf0
 v0:=Tryz.zeroValue0
 t3:=Tryz.underlying3
 a3:=Tryz.isAgg3
 z3:=Tryz.sizeOf3
 v3:=Tryz.zeroValue3
 t4:=Tryz.underlying4
 a4:=Tryz.isAgg4
 z4:=Tryz.sizeOf4
 v4:=Tryz.zeroValue4
 t5:=Tryz.underlying5
 a5:=Tryz.isAgg5
 z5:=Tryz.sizeOf5
 v5:=Tryz.zeroValue5
 t9:=Tryz.underlying9
 a9:=Tryz.isAgg9
 z9:=Tryz.sizeOf9
 v9:=Tryz.zeroValue9
 t22:=Tryz.underlying22
 a22:=Tryz.isAgg22
 z22:=Tryz.sizeOf22
 v22:=Tryz.zeroValue22
 a24:=Tryz.isAgg51
 z24:=Tryz.sizeOf51
 t25:=Tryz.underlying86
 a25:=Tryz.isAgg86
 z25:=Tryz.sizeOf86
 v25:=Tryz.zeroValue86
 t39:=Tryz.underlying209
 a39:=Tryz.isAgg209
 z39:=Tryz.sizeOf209
 v39:=Tryz.zeroValue209
 t45:=Tryz.underlying269
 a45:=Tryz.isAgg269
 z45:=Tryz.sizeOf269
 v45:=Tryz.zeroValue269
 t46:=Tryz.underlying270
 a46:=Tryz.isAgg270
 z46:=Tryz.sizeOf270
 v46:=Tryz.zeroValue270
 t50:=Tryz.underlying153
 a50:=Tryz.isAgg153
 z50:=Tryz.sizeOf153
 v50:=Tryz.zeroValue153
 t53:=Tryz.underlying276
 a53:=Tryz.isAgg276
 z53:=Tryz.sizeOf276
 v53:=Tryz.zeroValue276
 t55:=Tryz.underlying278
 a55:=Tryz.isAgg278
 z55:=Tryz.sizeOf278
 v55:=Tryz.zeroValue278
 t66:=Tryz.underlying286
 a66:=Tryz.isAgg286
 z66:=Tryz.sizeOf286
 v66:=Tryz.zeroValue286
 t70:=Tryz.underlying290
 a70:=Tryz.isAgg290
 z70:=Tryz.sizeOf290
 v70:=Tryz.zeroValue290
 t76:=Tryz.underlying295
 a76:=Tryz.isAgg295
 z76:=Tryz.sizeOf295
 v76:=Tryz.zeroValue295
 t77:=Tryz.underlying261
 a77:=Tryz.isAgg261
 z77:=Tryz.sizeOf261
 v77:=Tryz.zeroValue261 }
def Tryz.sortF_ren:Go.Shelf.Ren:=⟨fun|14=>199|20=>226|21=>227|22=>228|23=>229|24=>230|25=>231|26=>232|27=>233|46=>248|47=>249|48=>250|49=>251|50=>252|15=>200|57=>258|28=>234|29=>235|n=>n,fun|24=>53|22=>29|3=>3|25=>136|4=>4|0=>0|46=>270|45=>269|50=>153|66=>286|39=>209|55=>278|70=>290|76=>295|77=>261|53=>276|5=>5|9=>9|n=>n,fun|n=>n⟩
def Tryz.sortF:Go.Proofs.SlLaysF0.n14 Tryz.prog Tryz.sortF_ren:={
 mixed:=by kernel_rfl
 f14:=⟨Tryz.f199.name,by decide,Tryz.func199.trans (congrArg some (by kernel_rfl))⟩
 f15:=Tryz.func200.trans (congrArg some (by kernel_rfl))
 f20:=⟨Tryz.f226.name,by decide,Tryz.func226.trans (congrArg some (by kernel_rfl))⟩
 f21:=⟨Tryz.f227.name,by decide,Tryz.func227.trans (congrArg some (by kernel_rfl))⟩
 f22:=⟨Tryz.f228.name,by decide,Tryz.func228.trans (congrArg some (by kernel_rfl))⟩
 f23:=⟨Tryz.f229.name,by decide,Tryz.func229.trans (congrArg some (by kernel_rfl))⟩
 f24:=⟨Tryz.f230.name,by decide,Tryz.func230.trans (congrArg some (by kernel_rfl))⟩
 f25:=⟨Tryz.f231.name,by decide,Tryz.func231.trans (congrArg some (by kernel_rfl))⟩
 f26:=⟨Tryz.f232.name,by decide,Tryz.func232.trans (congrArg some (by kernel_rfl))⟩
 f27:=⟨Tryz.f233.name,by decide,Tryz.func233.trans (congrArg some (by kernel_rfl))⟩
 f28:=Tryz.func234.trans (congrArg some (by kernel_rfl))
 f29:=Tryz.func235.trans (congrArg some (by kernel_rfl))
 f46:=⟨Tryz.f248.name,by decide,Tryz.func248.trans (congrArg some (by kernel_rfl))⟩
 f47:=Tryz.func249.trans (congrArg some (by kernel_rfl))
 f48:=Tryz.func250.trans (congrArg some (by kernel_rfl))
 f49:=⟨Tryz.f251.name,by decide,Tryz.func251.trans (congrArg some (by kernel_rfl))⟩
 f50:=⟨Tryz.f252.name,by decide,Tryz.func252.trans (congrArg some (by kernel_rfl))⟩
 f57:=⟨Tryz.f258.name,by decide,Tryz.func258.trans (congrArg some (by kernel_rfl))⟩
 t0:=Tryz.underlying0
 a0:=Tryz.isAgg0
 z0:=Tryz.sizeOf0
 v0:=Tryz.zeroValue0
 t3:=Tryz.underlying3
 a3:=Tryz.isAgg3
 z3:=Tryz.sizeOf3
 v3:=Tryz.zeroValue3
 t4:=Tryz.underlying4
 a4:=Tryz.isAgg4
 z4:=Tryz.sizeOf4
 v4:=Tryz.zeroValue4
 t5:=Tryz.underlying5
 a5:=Tryz.isAgg5
 z5:=Tryz.sizeOf5
 v5:=Tryz.zeroValue5
 t9:=Tryz.underlying9
 a9:=Tryz.isAgg9
 z9:=Tryz.sizeOf9
 v9:=Tryz.zeroValue9
 t22:=Tryz.underlying29
 a22:=Tryz.isAgg29
 z22:=Tryz.sizeOf29
 v22:=Tryz.zeroValue29
 t25:=Tryz.underlying136
 a25:=Tryz.isAgg136
 z25:=Tryz.sizeOf136
 v25:=Tryz.zeroValue136
 t39:=Tryz.underlying209
 a39:=Tryz.isAgg209
 z39:=Tryz.sizeOf209
 v39:=Tryz.zeroValue209
 t45:=Tryz.underlying269
 a45:=Tryz.isAgg269
 z45:=Tryz.sizeOf269
 v45:=Tryz.zeroValue269
 t46:=Tryz.underlying270
 a46:=Tryz.isAgg270
 z46:=Tryz.sizeOf270
 v46:=Tryz.zeroValue270
 t50:=Tryz.underlying153
 a50:=Tryz.isAgg153
 z50:=Tryz.sizeOf153
 v50:=Tryz.zeroValue153
 t53:=Tryz.underlying276
 a53:=Tryz.isAgg276
 z53:=Tryz.sizeOf276
 v53:=Tryz.zeroValue276
 t55:=Tryz.underlying278
 a55:=Tryz.isAgg278
 z55:=Tryz.sizeOf278
 v55:=Tryz.zeroValue278
 t66:=Tryz.underlying286
 a66:=Tryz.isAgg286
 z66:=Tryz.sizeOf286
 v66:=Tryz.zeroValue286
 t70:=Tryz.underlying290
 a70:=Tryz.isAgg290
 z70:=Tryz.sizeOf290
 v70:=Tryz.zeroValue290
 t76:=Tryz.underlying295
 a76:=Tryz.isAgg295
 z76:=Tryz.sizeOf295
 v76:=Tryz.zeroValue295
 t77:=Tryz.underlying261
 a77:=Tryz.isAgg261
 z77:=Tryz.sizeOf261
 v77:=Tryz.zeroValue261 }
end
end Go.Proofs
namespace Go.Proofs.YtdjagdnpnhmldaaGreatDoor.Sym
section
open Go.RowKit Go.Sort
def putRow_map{E:Type}[Inhabited E](enc:E->Value)(w:World)(blk off:Nat)(d:Array E):putRow enc w blk off d=putRow id w blk off (d.map enc):=by
 unfold putRow;congr 1;funext c;unfold putCells;congr 1;funext k x;rw[Array.size_map];by_cases h:off<=k/\k<off+d.size
 ·have h1:k-off<d.size:=by omega
  rw[if_pos h,if_pos h,getElem!_pos d _ h1,getElem!_pos (d.map enc) _ (by simpa using h1)];simp
 ·rw[if_neg h,if_neg h]
def holds_map{E:Type}[Inhabited E]{enc:E->Value}{w:World}{blk off:Nat}{d:Array E}(h:Go.Sort.Holds id w blk off (d.map enc)):Go.Sort.Holds enc w blk off d:=λj hj=>by
 have:=h j (by simpa using hj);rw[getElem!_pos (d.map enc) _ (by simpa using hj)]at this;rw[getElem!_pos d _ hj];simpa using this
def one1(us:List Value):Value:=us.headD undef
def flat_one1{E:Type}[Inhabited E]{enc:E->List Value}(hk:∀x,(enc x).length=1)(d:Array E):Go.Sort.flatK enc 1 d=d.map λx=>one1 (enc x):=by
 rw[EM hk]
 have:(d.toList.map enc).flatten=d.toList.map λx=>one1 (enc x):=by
  generalize d.toList=l
  induction l with
  |nil=>rfl
  |cons x l ih =>
   rw[J7,W6,ih,J7];have:=hk x
   match h:enc x,this with
   |[v],_=>rfl
 rw[this];apply uP;simp
def sortC_words:SortC Tryz.prog 163 1 one1:=by
 refine⟨λp a2 fv w=>AnyF.slices_SortFunc_none { Tryz.sortW with } p a2 fv w,?_⟩;intro E _ enc cf g a3 a2 d w hk h1 hO eg a6 hH a5 a7;have e1:∀m (dk:Array E),putRow (λx=>one1 (enc x)) (Sort.ahead w m) a3 0 dk=putRow id (Sort.ahead w m) a3 0 (Go.Sort.flatK enc 1 dk):=λm dk=>by rw[flat_one1 hk,putRow_map]
 have a4:OneCell λx=>one1 (enc x):=λx=>by
  have h2:=hk x;have h3:=h1 x
  match h:enc x,h2 with
  |[v],_ =>
   show(one1 (enc x)).oneCell'=true;rw[h]at h3 ⊢;exact h3 v (by simp)
 refine(Any.slices_SortFunc Tryz.sortW (λx=>one1 (enc x)) a4 cf hO g #[] a3 0 a2 d w eg (λm os dk hs x y=>?_) (holds_map (by rw[<- flat_one1 hk];exact hH)) a5 a7).mono ?_
 ·have:=a6 m os dk hs x y;unfold sortWorld;rw[e1];simpa using this
 ·rintro e w' ⟨he,d',n,os,hp,hs,hw⟩;exact⟨he,d',n,os,hp,hs,by rw[hw];unfold sortWorld;rw[e1]⟩
def aggF:∀w,(isAgg (Tryz.sortF_ren.t 24)).run Tryz.prog w=.ok true w:=Tryz.isAgg53
def sizF:∀w,(Go.sizeOf (Tryz.sortF_ren.t 24)).run Tryz.prog w=.ok 2 w:=Tryz.sizeOf53
set_option maxHeartbeats 2000000 in
def sortC_finder:SortC Tryz.prog 142 2 (λus=>.agg us.toArray):=by
 refine⟨λp a4 fv w=>?_,?_⟩
 ·have hp:=λb2 W=>AnyF.pdqsortCmpFunc_none (P:=Tryz.prog) (ρ:=Tryz.sortF_ren) Tryz.sortF p a4 b2 fv W
  have hl:∀W,Calls Tryz.prog 200 #[.int .u64 0] W λe w'=>e=.returned (.int .i64 (Lib.bitLen 0:Nat))/\w'=W:=λW=>by
   have h:=Any.bits_Len (SlLaysF0.n15.bits (P:=Tryz.prog) (ρ:=Tryz.sortF_ren) { Tryz.sortF with }) 0 W (by omega) (by omega);exact h
  go_enter Tryz.func142,Tryz.ntmps142
  go_wp2_with (first|(go_at_call 200;refine(hl _).mono ?_;rintro e w' ⟨rfl,rfl⟩)|(go_at_call 199;refine(hp _ _).mono ?_;rintro e w' ⟨rfl,rfl⟩))
  go_end0
  exact⟨rfl,rfl⟩
 ·intro E _ enc cf g a7 a4 d w hk h1 hO eg a3 hH a6 a9;have a5:Lib.bitLen d.size<4611686018427387904:=Nat.lt_of_le_of_lt (Lib.bitLen_le d.size 62 (by omega) (by omega)) (by omega)
  have a2:CmpLays Tryz.prog g #[] enc 2 cf a7 0 d.size w:=λm os dk hs x y=>by
   unfold sortWorldK putRowK;simpa using a3 m os dk hs x y
  have hp:=AnyQ.pdqsortCmpFunc_all (P:=Tryz.prog) (ρ:=Tryz.sortF_ren) Tryz.sortF 2 aggF sizF enc cf g #[] hO a7 0 a4 d w eg a2 ⟨hk,h1,hH,a6⟩ (d.size+1) 0 d.size (Lib.bitLen d.size) d w (by omega) rfl (SWK.start hH) (F7 _) (G4 _) a9 a5 (Or.inl rfl)
  have hl:Calls Tryz.prog 200 #[.int .u64 (d.size:Int)] w λe w'=>e=.returned (.int .i64 (Lib.bitLen d.size:Nat))/\w'=w:=by
   have h:=Any.bits_Len (SlLaysF0.n15.bits (P:=Tryz.prog) (ρ:=Tryz.sortF_ren) { Tryz.sortF with }) (d.size:Int) w (by omega) (by omega)
   rwa [O3]at h
  have wr:IntKind.u64.wrap (d.size:Int)=d.size:=by simp[IntKind.wrap,IntKind.bits,IntKind.signed];omega
  have a8:=pdq_sorts (ltOf cf) hO d 0 d.size (Lib.bitLen d.size) true true (F7 _) (G4 _) (Or.inl rfl);clear hH a3 a2 hk h1
  go_enter Tryz.func142,Tryz.ntmps142
  go_wp2_with (first|(go_at_call 200;refine hl.mono ?_;rintro e w' ⟨rfl,rfl⟩)|(go_at_call 199;refine hp.mono ?_;rintro e w' ⟨rfl,n,os,rfl⟩))
  go_end0
  exact⟨rfl,_,n,os,a8.1,a8.2,rfl⟩
def cmpG_lex{f:A2->A2->Option Int}(hf:∀x y r,x.length<=17592186044416->f x y=some r->r=lexI x y):CmpG Tryz.prog 110 (nL cI) f:=by
 intro W S u u' x y r h hu a2;obtain⟨A,n,c,rfl,h1⟩:=kP hu;have:=hf x y r (by rw[h1.len];exact h1.small) h;subst this;obtain⟨B,m,c',rfl,h2⟩:=kP a2;refine(GG h1 h2).mono λe w' ⟨he,hw⟩=>⟨he,0,#[],?_⟩;rw[<- hw,Sort.grow_empty];rfl
def cmpG_compare{f:A2->A2->Option Int}(hf:∀x y r,x.length<=17592186044416->f x y=some r->r=cmpW x y):CmpG Tryz.prog 93 (nL cI) f:=by
 intro W S u u' x y r h hu a2;obtain⟨A,n,c,rfl,h1⟩:=kP hu;have:=hf x y r (by rw[h1.len];exact h1.small) h;subst this;obtain⟨B,m,c',rfl,h2⟩:=kP a2;refine(zwa h1 h2).mono λe w' ⟨he,hw⟩=>⟨he,0,#[.cells #[.int .i64 (cmpI x.length y.length),.int .i64 (lexI x y)] 3],?_⟩;rw[<- hw,Sort.alloc_eq_grow];rfl
def rep_two{w:World}{S:Nat->Prop}{u:Value}{x y:IV}(h:RepI w S u (.agg [x,y])):∃a b,u=.agg #[a,b]/\RepI w S a x/\RepI w S b y:=by
 generalize hz:IV.agg [x,y]=z at h;cases h with
 |agg us cs hl h1 hr =>
  injection hz with hz
  subst hz
  match us,hl with
  |[a,b],_=>exact⟨a,b,rfl,hr 0 a x rfl rfl,hr 1 b y rfl rfl⟩
 |_=>cases hz
set_option maxHeartbeats 400000 in
def find1_any{A A' B B':Option Addr}{n c m c' p q p' q':Nat}{xs ys:A2}{w:World}(hx:T4 w cJ A n c xs)(hy:T4 w cJ B m c' ys) :
  Calls Tryz.prog 143 #[.agg #[.slice A n c,.slice A' p q],.agg #[.slice B m c',.slice B' p' q']] w λe w'=>e=.returned (.int .i64 (lexI xs ys))/\∃q os,w'=Sort.grow (w.drewN q) os:=by
 have key:∀o o',∃q os,(w.alloc o).alloc o'=Sort.grow (w.drewN q) os:=λo o'=>⟨0,#[o]++#[o'],by
  rw[Sort.alloc_eq_grow,Sort.alloc_eq_grow,Sort.grow_grow]
  rfl⟩
 have a3:∀o o',T4 ((w.alloc o).alloc o') cJ A n c xs:=λo o'=>(hx.kept (nH (World.grownBy_alloc w o none))).kept (nH (World.grownBy_alloc _ o' none));have a2:∀o o',T4 ((w.alloc o).alloc o') cJ B m c' ys:=λo o'=>(hy.kept (nH (World.grownBy_alloc w o none))).kept (nH (World.grownBy_alloc _ o' none))
 go_enter Tryz.func143,Tryz.ntmps143
 go_wp2_with (go_at_call 110;refine(GG (a3 _ _) (a2 _ _)).mono ?_;rintro e w' ⟨rfl,rfl⟩)
 go_ret
 exact⟨rfl,key _ _⟩
def cmpG_find1{T:Type}{X:T->IV}{i o:T->A2}(hX:∀x,X x=.agg [nL cI (i x),nL cI (o x)]){f:T->T->Option Int}(hf:∀x y r,(i x).length<=17592186044416->f x y=some r->r=lexI (i x) (i y)):CmpG Tryz.prog 143 X f:=by
 intro W S u u' x y r h hu a2;rw[hX]at hu a2;obtain⟨a,b,rfl,ha,hb⟩:=rep_two hu;obtain⟨a',b',rfl,a3,a4⟩:=rep_two a2;obtain⟨A,n,c,rfl,h1⟩:=kP ha;have:=hf x y r (by rw[h1.len];exact h1.small) h;subst this;obtain⟨B,m,c',rfl,h2⟩:=kP a3;obtain⟨_,_,_,rfl,_⟩:=kP hb;obtain⟨_,_,_,rfl,_⟩:=kP a4;exact find1_any h1 h2
def rep_of_one{W:World}{S:Nat->Prop}{us:List Value}{x:IV}(hl:us.length=1)(hr:X7 W S us [x]):RepI W S (one1 us) x:=by
 match us,hl with
 |[u],_=>exact hr.2 0 u x rfl rfl
def CmpE{T:Type}(P:Program)(g:FuncId)(X:T->IV)(f:T->T->Option Int):Prop:=(∀args w,(callFunc g args).run P w=.ok (.enter g args) w)/\CmpG P g X f
end
section
def Tryz.infoI_traces:(Tryz.prog.info? 53).map (λi=>(i.zero,i.size,i.bytes))=some (some (.agg #[.slice none 0 0,.slice none 0 0]),2,48):=by kernel_rfl
section
variable {P:Program}
def EL(w:World){o:Oper}{a:Act}{K:Act->World->Prop}{Q:Exit->Act->World->Prop}(d s:Operand)(t t':TypeId)
  (ho:o.op=.call { callee:=.builtin .copy,args:=#[d,s],argTypes:=#[t,t'] }) (v u:Value) (hd:a.eval d=v) (hs:a.eval s=u) {v':Value} {w':World}
  (hr:(Builtin.copy_ #[t,t'] o.type #[v,u]).run P w=.ok v' w') (h:K (a.put o.dst v') w'):o.wp P a w K Q:=by
 unfold Oper.wp execOp;simp only[ho,resolve,invoke,builtin,Sem.run_bind,Sem.run_pure,Result.andThen_ok,uS,J7,eS,hd,hs,hr];exact h
def IP(w:World){ops:Array Oper}{rest:List Oper}{o:Oper}{a:Act}{Q:Exit->Act->World->Prop}(hgd:o.guard=none)(d s:Operand)(t t':TypeId)
  (ho:o.op=.call { callee:=.builtin .copy,args:=#[d,s],argTypes:=#[t,t'] }) (v u:Value) (hd:a.eval d=v) (hs:a.eval s=u) {v':Value} {w':World}
  (hr:(Builtin.copy_ #[t,t'] o.type #[v,u]).run P w=.ok v' w') (h:wpList P ops Q rest (a.put o.dst v') w'):wpList P ops Q (o::rest) a w :=
 wpList_plain hgd λ_ hK=>EL w d s t t' ho v u hd hs hr (hK _ _ h)
def GX{ops:Array Oper}{o:Oper}{a:Act}{w:World}{K:Act->World->Prop}{Q:Exit->Act->World->Prop}{E:Prop}
  (hg:o.guard=none) (d x:Operand) (dT sT:TypeId) (hop:o.op=Op.call { callee:=Callee.builtin Builtin.copy,args:=#[d,x],argTypes:=#[dT,sT] })
  (v u:Value) (hd:a.eval d=v) (hx:a.eval x=u) {v':Value} {w':World} (hr:(Builtin.copy_ #[dT,sT] o.type #[v,u]).run P w=.ok v' w') (hK:K (a.put o.dst v') w') :
  if Region.wanted o (yielded ops a.tmps)=true then Oper.wp P o a w K Q else E:=by
 have hw:Region.wanted o (yielded ops a.tmps)=true:=by simp[Region.wanted,hg]
 rw[if_pos hw];exact EL w d x dT sT hop v u hd hx hr hK
end
def InsPost(t:TypeId)(k n:Nat)(us:List Value)(v:Value)(w:World)(e:Ending)(w':World):Prop :=
 ∃v',e=.returned v'/\w'.ownsRow 0 t k v' (n+1) us/\w.grownBy w' v.ownBlock/\(v'.ownBlock=v.ownBlock\/v'.ownBlock=some w.heap.size)
set_option maxRecDepth 100000 in
set_option maxHeartbeats 400000 in
def insert_end(w:World)(v:Value)(n vb vc:Nat)(us news:List Value)(ho:w.ownsRow 0 53 2 v n us)(hl:news.length=1*2)(hb:∀(j:Nat) u,news[j]?=some u->w.cell? ⟨vb,0+j,none⟩=some u)
  (h1:∀u∈news,u.oneCell'=true) (hn:n<=1000000):Calls Tryz.prog 218 #[v,.int .i64 n,.slice (some ⟨vb,0,none⟩) 1 vc] w (InsPost 53 2 n (us++news) v w):=by
 obtain⟨j0,ji,a5,a4,a7⟩:=info_parts Tryz.infoI_traces;have a6:n+1<=maxLen:=by unfold maxLen;omega
 have a8:(n+1)*48<=140737488355328:=by omega
 rcases ho.2 with⟨hv,h0⟩|⟨g,b2,cur,hv,_,hg,b5,b3,b4,a9⟩
 ·subst hv h0
  go_enter Tryz.func218,Tryz.ntmps218
  go_wp2_with (at_builtin;refine tY rfl (.tmp 23) (.tmp 24) 29 rfl 0 53 j0 (.agg #[.slice none 0 0,.slice none 0 0]) 2 48 Tryz.underlying29 ji a5 a4 a7 rfl (by decide) _ _ _ rfl ho _ _ _ _ rfl hl (λ_=>⟨vb,0,rfl,hb⟩) h1 a6 a8 (F7 _) ?_;intro v1 w1 a2 a3 hb1)
  all_goals (go_ret;exact⟨v1,rfl,a2,a3,hb1⟩)
 ·subst hv
  go_enter Tryz.func218,Tryz.ntmps218
  go_wp2_with (at_builtin;refine tY rfl (.tmp 23) (.tmp 24) 29 rfl 0 53 j0 (.agg #[.slice none 0 0,.slice none 0 0]) 2 48 Tryz.underlying29 ji a5 a4 a7 rfl (by decide) _ _ _ rfl ho _ _ _ _ rfl hl (λ_=>⟨vb,0,rfl,hb⟩) h1 a6 a8 (F7 _) ?_;intro v1 w1 a2 a3 hb1)
  all_goals (go_ret;exact⟨v1,rfl,a2,a3,hb1⟩)
set_option maxRecDepth 100000 in
set_option maxHeartbeats 800000 in
def insert_shift(w:World)(g cap n i vb vc:Nat)(cur cur2:Array Value)(us news:List Value)(hg:w.heap[g]?=some (.cells cur 53 (0,0)))(hcz:cur.size=cap*2)(hct:cur.toList.take (n*2)=us)
  (hcm:cap<=maxLen) (hne:vb≠g) (hvb:w.heap[vb]?=some (.cells cur2 53 (0,0))) (hvz:cur2.toList.take 2=news) (hl:news.length=2) (h1:∀u∈us,u.oneCell'=true) (h2:∀u∈news,u.oneCell'=true) (hi:i<n) (hr:n<cap) (hn:n<=1000000) :
  Calls Tryz.prog 218 #[.slice (some ⟨g,0,none⟩) n cap,.int .i64 i,.slice (some ⟨vb,0,none⟩) 1 vc] w (InsPost 53 2 n (us.take (i*2)++news++us.drop (i*2)) (.slice (some ⟨g,0,none⟩) n cap) w):=by
 obtain⟨j0,ji,d9,b5,e3⟩:=info_parts Tryz.infoI_traces;have e2:¬((i:Int)=(n:Int)):=by omega
 have c9:∀lb cb,(callFunc 245 #[.slice (some ⟨vb,0,none⟩) 1 vc,.slice (some ⟨g,(i+1)*2,none⟩) lb cb]).run Tryz.prog w=.ok (.value (.bool false)) w:=λlb cb=>by
  rw[run_callFunc_extern Tryz.func245 (by kernel_rfl) (by kernel_rfl) (by kernel_rfl) (e:=Extern.SlicesOverlaps.overlaps #[29,29] #[4]) (by kernel_rfl),
   Lib.run_overlaps_apart w 29 4 53 Tryz.underlying29 2 Tryz.sizeOf53 ⟨vb,0,none⟩ ⟨g,(i+1)*2,none⟩ 1 vc lb cb hne 53 53 cur2.size cur.size (by simp[World.shape?,hvb]) (by simp[World.shape?,hg]) (by omega) (by simp[World.frozen?,hvb]) (by simp[World.frozen?,hvb])]
  rfl
 have a6:∀(j:Nat),j<n*2->cur[j]?=us[j]?:=λj hj=>by
  rw[<- hct,R5,if_pos hj,P9]
 have a3:us.length=n*2:=by
  rw[<- hct,H6,iI];omega
 have a2:(us.drop (i*2)).length=(n-i)*2:=by rw[M0,a3];omega
 obtain⟨R1,a4⟩:∃R1,R1=(cur.toList.take ((i+1)*2)++us.drop (i*2)++cur.toList.drop ((i+1)*2+(us.drop (i*2)).length)).toArray:=⟨_,rfl⟩
 have b8:∀ty dl dc sl sc,dl=n-i->sl=n+1-i->(Builtin.copy_ #[29,29] ty #[.slice (some ⟨g,(i+1)*2,none⟩) dl dc,.slice (some ⟨g,i*2,none⟩) sl sc]).run Tryz.prog w.drew=.ok (goInt ((n-i:Nat):Int)) (w.drew.setRow g R1):=λty dl dc sl sc hd hs=>by
  have hm:Nat.min sl dl=n-i:=by rw[hd,hs];simp only[yF];split<;>omega
  have:=tE (P:=Tryz.prog) w.drew 29 29 ty 53 g ((i+1)*2) dl dc ⟨g,i*2,none⟩ sl sc cur 53 (us.drop (i*2)) 2 Tryz.underlying29 (by rw[ji];simp[b5]) hg (by rw[hm,a2]) (λj v hj=>by
   rw[Addr.add_lit]
   rw[U2]at hj
   have d0:=(E4.1 hj).1
   show w.cell? _=_
   simp only[World.cell?,hg]
   rw[a6 _ (by omega)]
   simpa using hj) (by rw[a2];omega) (λv hv=>h1 v (U3 hv))
  rw[hm,<- a4]at this;exact this
 have d7:R1.size=cap*2:=by
  rw[a4];simp only[fZ,D4,H6,M0,iI];omega
 have c6:(w.drew.setRow g R1).heap[g]?=some (.cells R1 53 (0,0)):=setRow_heap w.drew g cur R1 _ _ hg
 have a9:(w.drew.setRow g R1).heap[vb]?=some (.cells cur2 53 (0,0)):=by
  rw[setRow_other _ _ _ _ hne];exact hvb
 obtain⟨R2,b4⟩:∃R2,R2=(R1.toList.take (i*2)++news++R1.toList.drop (i*2+news.length)).toArray:=⟨_,rfl⟩
 have a8:∀(W:World) ty dl dc,W.heap[g]?=some (.cells R1 53 (0,0))->W.heap[vb]?=some (.cells cur2 53 (0,0))->1<=dl->(Builtin.copy_ #[29,29] ty #[.slice (some ⟨g,i*2,none⟩) dl dc,.slice (some ⟨vb,0,none⟩) 1 vc]).run Tryz.prog W=.ok (goInt ((1:Nat):Int)) (W.setRow g R2):=λW ty dl dc hW hV hd=>by
  have hm:Nat.min 1 dl=1:=by simp only[yF];split<;>omega
  have:=tE (P:=Tryz.prog) W 29 29 ty 53 g (i*2) dl dc ⟨vb,0,none⟩ 1 vc R1 53 news 2 Tryz.underlying29 (by rw[ji];simp[b5]) hW (by rw[hm,hl]) (λj v hj=>by
   rw[Addr.add_lit]
   have d0:=(E4.1 hj).1
   simp only[World.cell?,hV]
   rw[<- hvz,R5,if_pos (by omega),P9]at hj
   simpa using hj) (by rw[hl];omega) h2
  rw[hm,<- b4]at this;exact this
 obtain⟨US,b2⟩:∃US,US=us.take (i*2)++news++us.drop (i*2):=⟨_,rfl⟩;rw[<- b2];have b9:=Lib.hid b2;have d5:=Lib.hid a4;have d3:=Lib.hid b4;have d6:=Lib.hid a2;have c8:=Lib.hid a3;have c7:=Lib.hid hct;have HL:=Lib.hid hl;have e6:=Lib.hid hvz;clear b2 a4 b4 a2 a3 hct a6 hl hvz h1 h2;have b7:=λty dl dc=>a8 (w.drew.setRow g R1) ty dl dc c6 a9;have d4:1<=n+1-i:=by omega
 clear a8 c6 a9;have d2:Tryz.prog.follows Departure.mixedOrders=true:=by kernel_rfl
 have d8:IntKind.i64.wrap ((i:Int)+1)=(i:Int)+1:=by rw[IntKind.wrap_i64];omega
 have hb1:(0:Int)<=(i:Int)+1:=by omega
 have e4:i<=n:=by omega
 have e5:((i:Int)+1).toNat=i+1:=by omega
 have hb2:¬(cap=i+1):=by omega
 have e1:(i:Int)<=(n:Int)+1:=by omega
 have e0:¬(cap=i):=by omega
 go_enter Tryz.func218,Tryz.ntmps218
 go_wp2_with (simp only[c9])
 go_region_law_o (refine GX rfl _ _ 29 29 rfl _ _ (by simp[Act.eval,Act.put]) (by simp[Act.eval,Act.put]) (b8 _ _ _ _ _ (by omega) (by omega)) ?_)
 go_wp2_with (at_builtin;refine IP _ rfl _ _ 29 29 rfl _ _ rfl rfl (b7 3 (n+1-i) (cap-i) d4) ?_)
 go_ret
 have hl:=HL.out;have a3:=c8.out;have hct:=c7.out;have a2:=d6.out;have a7:R1.toList=cur.toList.take ((i+1)*2)++us.drop (i*2)++cur.toList.drop ((i+1)*2+(us.drop (i*2)).length):=by rw[d5.out]
 have b3:(cur.toList.take ((i+1)*2)).length=(i+1)*2:=by rw[H6,iI];omega
 have hT:R1.toList.take (i*2)=us.take (i*2):=by
  rw[a7,Z9,gC (by rw[b3];omega),jV,<- hct,jV];congr 1;omega
 have hD:R1.toList.drop (i*2+2)=us.drop (i*2)++cur.toList.drop ((i+1)*2+(us.drop (i*2)).length):=by
  rw[a7,Z9,vK (by rw[b3];omega),iL (by rw[b3];omega),aJ]
 have a5:R2.toList=US++cur.toList.drop ((i+1)*2+(us.drop (i*2)).length):=by
  rw[d3.out,b9.out,hl,hT,hD];simp
 have c0:US.length=(n+1)*2:=by
  rw[b9.out,D4,D4,a2,hl,H6,a3];omega
 refine⟨_,rfl,⟨c0,.inr ⟨g,cap,R2,rfl,F7 _,?_,by omega,hcm,?_,?_⟩⟩,⟨rfl,rfl,rfl,?_,λk hk d1=>?_⟩,.inl rfl⟩
 ·exact setRow_heap _ g R1 R2 _ _ (setRow_heap w.drew g cur R1 _ _ hg)
 ·rw[<- iI,a5,D4,c0,M0,iI,a2];omega
 ·rw[a5,gC (by omega),aP (by omega)]
 ·simp
 ·have b6:k≠g:=λe=>d1 (by rw[e];rfl);rw[setRow_other _ _ _ _ b6,setRow_other _ _ _ _ b6];rfl
set_option maxRecDepth 100000 in
set_option maxHeartbeats 800000 in
def insert_grow(w:World)(g n i vb vc:Nat)(cur cur2:Array Value)(us news:List Value)(hg:w.heap[g]?=some (.cells cur 53 (0,0)))(hcz:cur.size=n*2)(hct:cur.toList.take (n*2)=us)
  (hvb:w.heap[vb]?=some (.cells cur2 53 (0,0))) (hvz:cur2.toList.take 2=news) (hl:news.length=2) (h1:∀u∈us,u.oneCell'=true) (h2:∀u∈news,u.oneCell'=true) (hi:i<n) (hn:n<=1000000) :
  Calls Tryz.prog 218 #[.slice (some ⟨g,0,none⟩) n n,.int .i64 i,.slice (some ⟨vb,0,none⟩) 1 vc] w (InsPost 53 2 n (us.take (i*2)++news++us.drop (i*2)) (.slice (some ⟨g,0,none⟩) n n) w):=by
 obtain⟨j0,ji,e4,c7,d5⟩:=info_parts Tryz.infoI_traces;have g4:¬((i:Int)=(n:Int)):=by omega
 have f8:(n:Int)<(n:Int)+1:=by omega
 have a7:∀(j:Nat),j<n*2->cur[j]?=us[j]?:=λj hj=>by
  rw[<- hct,R5,if_pos hj,P9]
 have c0:us.length=n*2:=by
  rw[<- hct,H6,iI];omega
 have b4:(us.drop (i*2)).length=(n-i)*2:=by rw[M0,c0];omega
 have a4:(us.take (i*2)).length=i*2:=by rw[H6,c0];omega
 have e8:g<w.heap.size:=by
  rcases J0 g w.heap.size with h|h
  ·exact h
  ·rw[DO h]at hg;cases hg
 have e0:vb<w.heap.size:=by
  rcases J0 vb w.heap.size with h|h
  ·exact h
  ·rw[DO h]at hvb;cases hvb
 obtain⟨N,hN⟩:∃N,N=w.heap.size:=⟨_,rfl⟩
 have b8:(Builtin.firstCells j0.size i (.slice (some ⟨g,0,none⟩) i n)).run Tryz.prog w.drew=.ok (us.take (i*2)).toArray w.drew:=by
  rw[c7]
  exact run_firstCells_some w.drew 2 i ⟨g,0,none⟩ i n (us.take (i*2)) a4 (λj v hj=>by
   rw[Addr.add_lit]
   rw[R5]at hj
   split at hj
   ·show w.cell? _=_
    simp only[World.cell?,hg]
    rw[F9,a7 _ (by omega)]
    exact hj
   ·cases hj)
 obtain⟨G,hG⟩:∃G,G=grownCap w (n+1) n 53:=⟨_,rfl⟩;obtain⟨a2,a5⟩:∃a2:Array Value,a2=(us.take (i*2)).toArray++Builtin.zeroCells (Value.agg #[.slice none 0 0,.slice none 0 0]).cells (n+1-i)++Builtin.zeroCells (Value.agg #[.slice none 0 0,.slice none 0 0]).cells (G-(n+1)):=⟨_,rfl⟩;have d8:n+1<=G:=by rw[hG];exact grownCap_ge w _ _ _
 have c9:G<=maxLen:=by rw[hG];exact grownCap_le_maxLen w (n+1) n 53 (by unfold maxLen;omega)
 have f4:G<=9223372036854775807:=by unfold maxLen at c9;omega
 obtain⟨W1,a6⟩:∃W1,W1=w.drew.alloc (.cells a2 53):=⟨_,rfl⟩
 have e1:∀ty,(Builtin.append_ #[29,3] ty #[.slice (some ⟨g,0,none⟩) i n,.int .i64 ((n:Int)+1-(i:Int))]).run Tryz.prog w=.ok (.slice (some ⟨N,0,none⟩) (n+1) G) W1:=λty=>by
  have h:=Lib.run_append_grow_zeros w 29 3 ty 53 j0 _ .i64 .i64 Tryz.underlying29 Tryz.underlying3 ji e4 (some ⟨g,0,none⟩) i n (us.take (i*2)) b8 (n+1-i) (by omega) (by omega) (by omega) (by omega) (by rw[d5];omega) (by rw[d5,show i+(n+1-i)=n+1 by omega];exact growslice_fits (by omega) (by omega));rw[show i+(n+1-i)=n+1 by omega,<- hG,<- a5,<- hN,<- a6]at h;rw[show(n:Int)+1-(i:Int)=((n+1-i:Nat):Int) by omega];exact h
 have d7:a2.size=G*2:=by
  rw[a5];simp only[DK,fZ,a4,Builtin.zeroCells,Value.cells,Array.size_map,Array.size_range];simp;omega
 have a8:a2.toList.take (i*2)=us.take (i*2):=by
  rw[a5,yL,yL,Z9,gC (by simp[a4]),aP (by simp[a4])]
 have d4:W1.heap[N]?=some (.cells a2 53 (0,0)):=by
  rw[a6,hN];exact heap_alloc_new w.drew _
 have a3:∀k,k<w.heap.size->W1.heap[k]?=w.heap[k]?:=λk hk=>by
  rw[a6];exact heap_alloc_old w.drew _ hk
 obtain⟨R1,a9⟩:∃R1,R1=(a2.toList.take (i*2)++news++a2.toList.drop (i*2+news.length)).toArray:=⟨_,rfl⟩
 have b9:∀(W:World) ty dl dc,W.heap[N]?=some (.cells a2 53 (0,0))->W.heap[vb]?=some (.cells cur2 53 (0,0))->1<=dl->(Builtin.copy_ #[29,29] ty #[.slice (some ⟨N,i*2,none⟩) dl dc,.slice (some ⟨vb,0,none⟩) 1 vc]).run Tryz.prog W=.ok (goInt ((1:Nat):Int)) (W.setRow N R1):=λW ty dl dc hW hV hd=>by
  have hm:Nat.min 1 dl=1:=by simp only[yF];split<;>omega
  have:=tE (P:=Tryz.prog) W 29 29 ty 53 N (i*2) dl dc ⟨vb,0,none⟩ 1 vc a2 53 news 2 Tryz.underlying29 (by rw[ji];simp[c7]) hW (by rw[hm,hl]) (λj v hj=>by
   rw[Addr.add_lit]
   have e6:=(E4.1 hj).1
   simp only[World.cell?,hV]
   rw[<- hvz,R5,if_pos (by omega),P9]at hj
   simpa using hj) (by rw[hl];omega) h2
  rw[hm,<- a9]at this;exact this
 have b6:R1.size=G*2:=by
  rw[a9];simp only[fZ,D4,H6,M0,iI,hl];omega
 obtain⟨R2,b5⟩:∃R2,R2=(R1.toList.take ((i+1)*2)++us.drop (i*2)++R1.toList.drop ((i+1)*2+(us.drop (i*2)).length)).toArray:=⟨_,rfl⟩
 have b7:∀(W:World) ty dl dc sl sc,W.heap[N]?=some (.cells R1 53 (0,0))->W.heap[g]?=some (.cells cur 53 (0,0))->dl=n-i->sl=n-i->(Builtin.copy_ #[29,29] ty #[.slice (some ⟨N,(i+1)*2,none⟩) dl dc,.slice (some ⟨g,i*2,none⟩) sl sc]).run Tryz.prog W=.ok (goInt ((n-i:Nat):Int)) (W.setRow N R2):=λW ty dl dc sl sc hW hV hd hs=>by
  have hm:Nat.min sl dl=n-i:=by rw[hd,hs];simp only[yF];split<;>omega
  have:=tE (P:=Tryz.prog) W 29 29 ty 53 N ((i+1)*2) dl dc ⟨g,i*2,none⟩ sl sc R1 53 (us.drop (i*2)) 2 Tryz.underlying29 (by rw[ji];simp[c7]) hW (by rw[hm,b4]) (λj v hj=>by
   rw[Addr.add_lit]
   rw[U2]at hj
   have e6:=(E4.1 hj).1
   simp only[World.cell?,hV]
   rw[a7 _ (by omega)]
   simpa using hj) (by rw[b4,b6];omega) (λv hv=>h1 v (U3 hv))
  rw[hm,<- b5]at this;exact this
 have d3:1<=n+1-i:=by omega
 have g3:vb≠N:=by omega
 have e2:g≠N:=by omega
 have e9:=λty dc=>b9 W1 ty (n+1-i) dc d4 (by rw[a3 vb e0];exact hvb) d3;have d1:(W1.setRow N R1).heap[N]?=some (.cells R1 53 (0,0)):=setRow_heap W1 N a2 R1 _ _ d4
 have e5:(W1.setRow N R1).drew.heap[g]?=some (.cells cur 53 (0,0)):=by
  show(W1.setRow N R1).heap[g]?=_;rw[setRow_other _ _ _ _ e2,a3 g e8];exact hg
 have e3:=λty dl dc sl sc h3 h4=>b7 (W1.setRow N R1).drew ty dl dc sl sc d1 e5 h3 h4;obtain⟨US,b2⟩:∃US,US=us.take (i*2)++news++us.drop (i*2):=⟨_,rfl⟩;rw[<- b2]
 have d2:∃REST,R2.toList=US++REST:=by
  refine⟨R1.toList.drop ((i+1)*2+(us.drop (i*2)).length),?_⟩
  have hT:R1.toList.take ((i+1)*2)=us.take (i*2)++news:=by
   have hz:(us.take (i*2)++news).length=(i+1)*2:=by rw[D4,a4,hl];omega
   rw[a9,a8,<- hz,gC (G4 _),T0]
  rw[b5,hT,b2]
 have e7:US.length=(n+1)*2:=by
  rw[b2,D4,D4,b4,hl,a4];omega
 have c8:R2.size=G*2:=by
  rw[b5];simp only[fZ,D4,H6,M0,iI];omega
 have f9:=Lib.hid a9;have HN:=Lib.hid hN;have HG:=Lib.hid hG;have b3:=Lib.hid a6;have d6:=Lib.hid a3;clear b2 a9 b5 b4 c0 hct a7 hl hvz h1 h2 b8 a5 a8 a4 b9 b7 d7 b6 hG hN a6 a3;have d9:Tryz.prog.follows Departure.mixedOrders=true:=by kernel_rfl
 have f5:IntKind.i64.wrap ((i:Int)+1)=(i:Int)+1:=by rw[IntKind.wrap_i64];omega
 have hb1:(0:Int)<=(i:Int)+1:=by omega
 have g1:i<=n:=by omega
 have g2:((i:Int)+1).toNat=i+1:=by omega
 have f6:(i:Int)<=(n:Int):=by omega
 have g5:¬(G=i):=by omega
 have f3:¬(G=i+1):=by omega
 have g6:¬(n=i):=by omega
 go_enter Tryz.func218,Tryz.ntmps218
 go_wp2_with (first
  |(at_builtin;refine Lib.wpList_append_run _ rfl _ _ _ _ rfl _ _ rfl rfl _ _ (e1 _) ?_)
  |(at_builtin;refine IP _ rfl _ _ 29 29 rfl _ _ rfl rfl (e9 _ _) ?_))
 go_region_law_o (refine GX rfl _ _ 29 29 rfl _ _ (by simp[Act.eval,Act.put]) (by simp[Act.eval,Act.put]) (e3 _ _ _ _ _ (by omega) (by omega)) ?_)
 go_wp2
 go_ret
 obtain⟨REST,c6⟩:=d2;have hN:=HN.out;refine⟨_,rfl,⟨e7,.inr ⟨N,G,R2,rfl,F7 _,?_,d8,c9,c8,?_⟩⟩,⟨?_,?_,?_,?_,λk hk f7=>?_⟩,.inr (by rw[<- hN];rfl)⟩
 ·exact setRow_heap _ N R1 R2 _ _ d1
 ·rw[c6,gC (by omega),aP (by omega)]
 ·rw[b3.out];rfl
 ·rw[b3.out];rfl
 ·rw[b3.out];rfl
 ·simp[b3.out]
 ·have d0:k≠N:=by omega
  rw[setRow_other _ _ _ _ d0];show(W1.setRow N R1).heap[k]?=_;rw[setRow_other _ _ _ _ d0,d6.out k hk]
def GF{V:Type}{k:Nat}:∀{es:List (List V)} (i:Nat),(∀e∈es,e.length=k)->(es.take i).flatten=es.flatten.take (i*k)/\(es.drop i).flatten=es.flatten.drop (i*k)
 |[],i,_=>by simp
 |e::es,0,_=>by simp
 |e::es,i+1,h=>by
  have he:=h e (by simp);obtain⟨h1,h2⟩:=GF (es:=es) i λx hx=>h x (by simp[hx]);have hz:(i+1)*k=e.length+i*k:=by rw[he,iG,bB]
  constructor
  ·rw[vJ,W6,W6,h1,hz,uT (l₁:=e),aP (l:=e) (by omega),vD]
  ·rw[List.drop_succ_cons,W6,h2,hz,DJ (l₁:=e),iL (l:=e) (by omega),aJ,vD]
def RelW(R:Value->IV->Prop)(us:List Value)(xs:List IV):Prop:=∀(i:Nat) u x,us[i]?=some u->xs[i]?=some x->R u x
def RelW.append{R:Value->IV->Prop}{us vs:List Value}{xs ys:List IV}(hl:us.length=xs.length)(h1:RelW R us xs)(h2:RelW R vs ys):RelW R (us++vs) (xs++ys):=λi u x hu hx=>by
 rcases J0 i us.length with h|h
 ·rw[Q3 h]at hu;rw[Q3 (by omega)]at hx;exact h1 i u x hu hx
 ·rw[U4 h]at hu;rw[U4 (by omega),<- hl]at hx;exact h2 _ u x hu hx
def RelW.take{R:Value->IV->Prop}{us:List Value}{xs:List IV}(k:Nat)(h:RelW R us xs):RelW R (us.take k) (xs.take k):=λi u x hu hx=>by
 rw[R5]at hu hx;split at hu
 ·rename_i g;rw[if_pos g]at hx;exact h i u x hu hx
 ·cases hu
def RelW.drop{R:Value->IV->Prop}{us:List Value}{xs:List IV}(k:Nat)(h:RelW R us xs):RelW R (us.drop k) (xs.drop k):=λi u x hu hx=>by
 rw[U2]at hu hx;exact h _ u x hu hx
set_option maxRecDepth 100000 in
def sp_of_insert{es:List (List IV)}{e:List IV}{i:Int}(hk:∀x∈es,x.length=2)(hke:e.length=2)(h0:0<=i)(h1:i<=(es.length:Int))(hn:es.length<=1000000) :
  Sp Tryz.prog 218 [.row 53 2 es,.im (nI i),.row 53 2 [e]] (.row 53 2 (es.take i.toNat++[e]++es.drop i.toNat)):=by
 refine⟨λargs w=>fH rfl rfl rfl args w,λw S vs F hS hv b8 hF=>?_⟩
 match vs,hv with
 |[v,vi,va],⟨F1,F2,⟨hv1,inn,hrow,e1⟩,⟨F3,F4,⟨h4,e2⟩,⟨F5,F6,⟨hva1,inn2,hrow2,e5⟩,h6,e6⟩,e3⟩,e4⟩ =>
  have h6:F6=[]:=h6;have e1:F1=(D9 v).toList:=e1;have e5:F5=(D9 va).toList:=e5;subst e1 e2 e5 h6;have e6:F4=(D9 va).toList:=by rw[e6];simp
  subst e6;have e3:F2=(D9 va).toList:=by rw[e3];simp
  subst e3;subst e4;cases h4;obtain⟨us,_,_,f6,a3,b9,b2,hr⟩:=hrow;obtain⟨news,_,_,_,a6,a7,b3,e8⟩:=hrow2;have d4:([e]:List (List IV)).length=1:=rfl;rw[d4]at a6
  have d0:news.length=2:=by
   rw[a7];simp[hke]
  obtain⟨vb,vc,a2,rfl,_,c7,f8,f7,g1,c6⟩:∃vb vc a2,va=.slice (some ⟨vb,0,none⟩) 1 vc/\0<=vb/\w.heap[vb]?=some (.cells a2 53 (0,0))/\1<=vc/\vc<=maxLen/\a2.size=vc*2/\a2.toList.take (1*2)=news:=by
   rcases a6.2 with⟨_,h⟩|h
   ·cases h
   ·exact h
  have d6:D9 (.slice (some ⟨vb,0,none⟩) 1 vc)=some vb:=rfl;rw[d6]at b8 hF ⊢;have d3:¬S vb/\vb<w.heap.size:=hF vb (by simp);have f5:us.length=es.length*2:=a3.1;have ei:i=(i.toNat:Int):=by omega
  have c8:Calls Tryz.prog 218 #[v,.int .i64 i,.slice (some ⟨vb,0,none⟩) 1 vc] w (InsPost 53 2 es.length (us.take (i.toNat*2)++news++us.drop (i.toNat*2)) v w):=by
   rw[ei];simp only[O3];by_cases c9:i.toNat=es.length
   ·have:=insert_end w v es.length vb vc us news a3 (by omega) (λj u hj=>by
     have d5:=(E4.1 hj).1
     simp only[World.cell?,c7]
     rw[<- c6,R5,if_pos (by omega),P9]at hj
     simpa using hj) b3 hn
    rw[c9,aP (by omega),iL (by omega),V0];exact this
   ·rcases a3.2 with⟨_,h⟩|⟨g,a5,cur,hv,_,hg,f9,e9,d7,d1⟩
    ·omega
    ·subst hv
     have e0:vb≠g:=λe=>by
      have:D9 (.slice (some ⟨g,0,none⟩) es.length a5)=some g:=rfl;rw[this,e]at b8;simp at b8
     by_cases c0:es.length<a5
     ·exact insert_shift w g a5 es.length i.toNat vb vc cur a2 us news hg d7 d1 e9 e0 c7 c6 d0 b2 b3 (by omega) c0 hn
     ·have hc:a5=es.length:=by omega
      subst hc;exact insert_grow w g es.length i.toNat vb vc cur a2 us news hg d7 d1 c7 c6 d0 b2 b3 (by omega) hn
  refine c8.mono ?_;rintro ex w' ⟨v',rfl,ho,a4,f4⟩;have f3:=a3
  have b5:v.ownBlock=D9 v:=by
   rcases a3.2 with⟨rfl,_⟩|⟨g,a5,cur,rfl,_⟩<;>rfl
  have b4:v'.ownBlock=D9 v':=by
   rcases ho.2 with⟨rfl,_⟩|⟨g,a5,cur,rfl,_⟩<;>rfl
  have d5:=ho.lt
  have b6:∀b∈(D9 v').toList,(w.heap.size<=b\/b∈(D9 v).toList)/\b<w'.heap.size:=λb hb=>by
   have h2:D9 v'=some b:=by simpa using hb
   refine⟨?_,?_⟩
   ·rcases f4 with h|h
    ·rw[b5,b4,h2]at h;exact .inr (by rw[<- h];simp)
    ·rw[b4,h2]at h;injection h with h
     exact .inl (by omega)
   ·refine(d5 b ?_).2;rw[dE ho];simpa using hb
  have d9:Belo (λb=>b∈(D9 v).toList++[vb]) w.heap.size w w':=⟨a4.os,a4.tape,a4.output,a4.size,λb hb e7=>a4.block b hb λh=>e7 (by
   rw[b5]at h
   rw[<- h]
   simp)⟩
  have d8:∀b,S b->b<w.heap.size/\b∉(D9 v).toList/\b≠vb:=λb hb=>⟨hS b hb,λhm=>(hF b (by simp[hm])).1 hb,λe=>d3.1 (e ▸ hb)⟩
  have b7:∀u x,RepI w S u x->RepI w' (λb=>(S b\/w.heap.size<=b\/b∈(D9 v).toList++[vb])/\b<w'.heap.size/\b∉(D9 v').toList) u x:=λu x h=>h.mono (λb hb=>⟨.inl hb,jW (hS b hb) a4.size,λhm=>by
    rcases (b6 b hm).1 with h2|h2
    ·have:=hS b hb
     omega
    ·exact(d8 b hb).2.1 h2⟩) λp y hp hy=>by
   have h6:=a4.block p.block (hS _ hp) λh=>(d8 _ hp).2.1 (by
    rw[b5]at h
    rw[<- h]
    simp)
   have h7:w'.cell? p=w.cell? p:=by
    unfold World.cell?;rw[h6]
   rw[h7];exact hy
  have d2:=GF (es:=es) (k:=2) i.toNat hk
  have a8:(es.take i.toNat++[e]++es.drop i.toNat).flatten=es.flatten.take (i.toNat*2)++[e].flatten++es.flatten.drop (i.toNat*2):=by
   rw[iJ,iJ,d2.1,d2.2]
  have a9:(es.take i.toNat++[e]++es.drop i.toNat).length=es.length+1:=by
   rw[D4,D4,H6,M0,P3];omega
  refine⟨v',(D9 v').toList,rfl,d9,⟨[v'],(D9 v').toList,[],rfl,⟨(D9 v').toList,[],⟨row_one ho,[],⟨_,by decide,λx hx=>?_,by rw[a9];omega,by rw[a9];exact ho,?_,λu hu=>?_,?_⟩,rfl⟩,rfl,by simp⟩,rfl,by simp⟩,?_,λb hb=>⟨?_,(b6 b hb).2⟩⟩
  ·rcases I8.1 hx with hx|hx
   ·rcases I8.1 hx with hx|hx
    ·exact hk x (Q4 hx)
    ·rw[K4.1 hx];exact hke
   ·exact hk x (U3 hx)
  ·rw[a8];simp only[D4,H6,M0,<- b9,<- a7]
  ·rcases I8.1 hu with hu|hu
   ·rcases I8.1 hu with hu|hu
    ·exact b2 u (Q4 hu)
    ·exact b3 u hu
   ·exact b2 u (U3 hu)
  ·rw[a8];have q1:RelW (RepI w S) us es.flatten:=hr;have q2:RelW (RepI w S) news [e].flatten:=e8;have:=RelW.append (by simp only[D4,H6,<- b9,<- a7]) (RelW.append (by simp only[H6,<- b9]) (q1.take (i.toNat*2)) q2) (q1.drop (i.toNat*2));exact λj u x hu hx=>b7 u x (this j u x hu hx)
  ·cases D9 v'<;>simp
  ·rcases (b6 b hb).1 with h|h
   ·exact .inl h
   ·exact .inr (by simp[h])
end
def pA{V:Type}(by_:Nat)(l:List V):Option (List V):=chk (E0 l.length by_) (some l)
def cA(l:A2):Option (A2):=pA 8 l
def iA(l r:A2)(h:cA l=some r):Sp Tryz.prog 94 [.im (nL cI l)] (.row 3 1 (List.map cI r)):=by
 obtain⟨h1,h⟩:=D5 h;injection h with h
 subst h;exact AY (by_:=8) (λargs w=>fH rfl rfl rfl args w) (by decide) clone_int (λe he=>by obtain⟨y,_,rfl⟩:=D7.1 he;rfl) (by rw[B6];exact h1)
def xW(l:A4):Option (A4):=pA 24 l
def zsp(l r:A4)(h:xW l=some r):Sp Tryz.prog 162 [.im (nL (cL cI) l)] (.row 51 1 (List.map (cL cI) r)):=by
 obtain⟨h1,h⟩:=D5 h;injection h with h
 subst h;exact AY (by_:=24) (λargs w=>fH rfl rfl rfl args w) (by decide) clone_words (λe he=>by obtain⟨y,_,rfl⟩:=D7.1 he;rfl) (by rw[B6];exact h1)
def CU(l:A4)(f:(A2)->(A2)->Option Int):Option (A4):=oS l f
def zo9(l:A4)(f:(A2)->(A2)->Option Int)(g:FuncId)(hd:CmpE Tryz.prog g (λx=>nL cI x) f)(r:A4)(h:CU l f=some r):Sp Tryz.prog 163 [.lent (.row 51 1 (List.map (cL cI) l)),.im (.fn g [])] (.mk true [] [.lent (.row 51 1 (List.map (cL cI) r))]) :=
 EB (λargs w=>fH rfl rfl rfl args w) sortC_words (by decide) (λ_=>rfl) (λW S us x hl h1 hr=>rep_of_one hl hr) hd.1 hd.2 h
def CP(l:List B0):Option (List B0):=pA 48 l
def zrn(l r:List B0)(h:CP l=some r):Sp Tryz.prog 141 [.im (nL C9 l)] (.row 53 2 (List.map C9 r)):=by
 obtain⟨h1,h⟩:=D5 h;injection h with h
 subst h;exact AY (by_:=48) (λargs w=>fH rfl rfl rfl args w) (by decide) clone_traces (λe he=>by obtain⟨y,_,rfl⟩:=D7.1 he;rfl) (by rw[B6];exact h1)
def CL(l:List B0)(i:Int)(v:List B0):Option (List B0):=chk (0<=i/\i<=(l.length:Int)/\v.length=1/\l.length<=1000000) (some (l.take i.toNat++v++l.drop i.toNat))
def zqk(l:List B0)(i:Int)(v r:List B0)(h:CL l i v=some r):Sp Tryz.prog 218 [.row 53 2 (List.map C9 l),.im (nI i),.row 53 2 (List.map C9 v)] (.row 53 2 (List.map C9 r)):=by
 obtain⟨h1,h⟩:=D5 h;injection h with h
 subst h
 match v,h1 with
 |[x],h1 =>
  have:=sp_of_insert (es:=l.map C9) (e:=C9 x) (i:=i) (λe he=>by obtain⟨y,_,rfl⟩:=D7.1 he;rfl) rfl h1.1 (by rw[B6];exact h1.2.1) (by rw[B6];exact h1.2.2.2);simpa[N6,yJ,List.map_drop]using this
def CR(l:List B0)(f:B0->B0->Option Int):Option (List B0):=oS l f
def zoj(l:List B0)(f:B0->B0->Option Int)(g:FuncId)(hd:CmpE Tryz.prog g (λx=>.agg (C9 x)) f)(r:List B0)(h:CR l f=some r):Sp Tryz.prog 142 [.lent (.row 53 2 (List.map C9 l)),.im (.fn g [])] (.mk true [] [.lent (.row 53 2 (List.map C9 r))]) :=
 EB (λargs w=>fH rfl rfl rfl args w) sortC_finder (by decide) (λ_=>rfl) (λW S us x hl h1 hr=>.agg _ _ hr.1 h1 hr.2) hd.1 hd.2 h
def sH(m_:A9):Option Bool:=(cond (decide ((m_.N.length:Int)<=12)) (cond (decide ((m_.O.length:Int)<=12)) (some (decide (m_.I<=4))) (some false)) (some false)).bind (λa2=>some a2)
def sE(m_:A9):Option Bool:=(cond (decide (40<(m_.N.length:Int))) (some true) (cond (decide (40<(m_.O.length:Int))) (some true) (some (decide (20<m_.I))))).bind (λa2=>some a2)
def aW.s2(m_:A9)(s_:Int)(a2:Nat):Option (Nat⊕(Unit⊕Int)):=cond (decide ((a2:Int)<m_.I)) ((idx m_.N s_ λa6=>idxn a6 a2 λa7=>cond (decide (a7<0)) (some true) (idx m_.N s_ λa8=>idxn a8 a2 λb2=>cond (decide ((m_.N.length:Int)<=b2)) (some true) (idx m_.O s_ λb3=>idxn b3 a2 λb4=>cond (decide (b4<0)) (some true) (idx m_.O s_ λb5=>idxn b5 a2 λb6=>some (decide (1048576<b6)))))).bind (λb7=>cond (b7) (some (.inr (.inr 2))) (chk (inR ((a2:Int)+1)) (some (.inl (a2+1)))))) (some (.inr (.inl ())))
def aW(m_:A9)(s_:Int):Option Int:=(idx m_.N s_ λa2=>cond (decide ((a2.length:Int)≠m_.I)) (some true) (idx m_.O s_ λa6=>some (decide ((a6.length:Int)≠m_.I)))).bind (λa7=>cond (a7) (some 1) ((iter (λ(s:Nat)=>aW.s2 m_ s_ s) fuel 0).bind (Sum.elim (λ_=>some 0) some)))
def S6.s2(m_:A9)(a2:Nat):Option (Nat⊕(Unit⊕Int)):=cond (decide ((a2:Int)<(m_.N.length:Int))) ((aW m_ (a2:Int)).bind λa6=>cond (decide (a6≠0)) (some (.inr (.inr a6))) (some (.inl (a2+1)))) (some (.inr (.inl ())))
def S6(m_:A9):Option Int:=(cond (decide (m_.I<1)) (some true) (some (decide (64<m_.I)))).bind (λa2=>cond (a2) (some 2) (cond (decide ((m_.N.length:Int)=0)) (some 19) (cond (decide (128<(m_.N.length:Int))) (some 11) ((cond (decide (m_.S<0)) (some true) (some (decide ((m_.N.length:Int)<=m_.S)))).bind (λa6=>cond (a6) (some 2) (cond (decide ((m_.O.length:Int)≠(m_.N.length:Int))) (some 1) ((iter (λ(s:Nat)=>S6.s2 m_ s) fuel 0).bind (Sum.elim (λ_=>some 0) some))))))))
def fJ.s2(a_ b_:A2)(a2:Nat):Option (Nat⊕Nat):=(cond (decide ((a2:Int)<(a_.length:Int))) (cond (decide ((a2:Int)<(b_.length:Int))) (idxn a_ a2 λa6=>idxn b_ a2 λa7=>some (decide (a6=a7))) (some false)) (some false)).bind (λa8=>cond (a8) (chk (inR ((a2:Int)+1)) (some (.inl (a2+1)))) (some (.inr a2)))
def fJ(a_ b_:A2):Option Int:=(iter (λ(s:Nat)=>fJ.s2 a_ b_ s) fuel 0).bind (λa2=>some (a2:Int))
def R01_Same(a_ b_:A2):Option Bool:=(cond (decide ((a_.length:Int)=(b_.length:Int))) ((fJ a_ b_).bind λa2=>some (decide (a2=(a_.length:Int)))) (some false)).bind (λa6=>some a6)
def lT.s2(a_ b_:A4)(a2:Nat):Option (Nat⊕(Unit⊕Bool)):=cond (decide ((a2:Int)<(a_.length:Int))) (idxn a_ a2 λa6=>idxn b_ a2 λa7=>(R01_Same a6 a7).bind λa8=>cond ((!a8)) (some (.inr (.inr false))) (some (.inl (a2+1)))) (some (.inr (.inl ())))
def lT(a_ b_:A4):Option Bool:=cond (decide ((a_.length:Int)≠(b_.length:Int))) (some false) ((iter (λ(s:Nat)=>lT.s2 a_ b_ s) fuel 0).bind (Sum.elim (λ_=>some true) some))
def jB.s2(inputs_:Int)(a6:A4)(a2:Nat):Option ((A4×Nat)⊕A4):=cond (decide ((a2:Int)<inputs_)) (chk (E0 (List.length a6+1) 24) (chk (inR ((a2:Int)+1)) (some (.inl ((a6++[[(a2:Int)]]),(a2+1)))))) (some (.inr a6))
def jB(inputs_:Int):Option (C6×Int):=(cond (decide (inputs_<1)) (some true) (some (decide (64<inputs_)))).bind (λa2=>cond (a2) (some ((⟨0,[],[]⟩:C6),2)) ((iter (λ(s:A4×Nat)=>jB.s2 inputs_ s.1 s.2) fuel ([],0)).bind (λa6=>some ((⟨inputs_,[[]],a6⟩:C6),0))))
def mS(inputs_:Int):Option (E1×Int):=(jB inputs_).bind λa2=>cond (decide (a2.2≠0)) (some ((⟨0,[],[]⟩:E1),a2.2)) (some ((⟨inputs_,a2.1.P,a2.1.X⟩:E1),0))
def L23_Gate:Option A7:=some (⟨2,[(⟨[0,0],[1,1]⟩:B0),(⟨[0,1],[1,2]⟩:B0),(⟨[1,0],[0,1]⟩:B0),(⟨[1,1],[0,0]⟩:B0)]⟩:A7)
def iD.s2(x_:A4)(target_:A2)(cmp_:(A2)->(A2)->Option Int)(a2 a6:Int):Option ((Int×Int)⊕Int):=cond (decide (a2<a6)) (chk (inR (a2+a6)) (chk ((0:Int)<=(a2+a6)/\(a2+a6)<=18446744073709551615) (chk ((0:Int)<=(a2+a6)/\(a2+a6)<=18446744073709551615) (chk (inR ((a2+a6) / 2^1)) (idx x_ ((a2+a6) / 2^1) λa7=>(cmp_ a7 target_).bind λa8=>cond (decide (a8<0)) (chk (inR (((a2+a6) / 2^1)+1)) (some (.inl ((((a2+a6) / 2^1)+1),a6)))) (some (.inl (a2,((a2+a6) / 2^1))))))))) (some (.inr a2))
def iD(x_:A4)(target_:A2)(cmp_:(A2)->(A2)->Option Int):Option (Int×Bool):=(iter (λ(s:Int×Int)=>iD.s2 x_ target_ cmp_ s.1 s.2) fuel (0,(x_.length:Int))).bind (λa2=>(cond (decide (a2<(x_.length:Int))) (idx x_ a2 λa6=>(cmp_ a6 target_).bind λa7=>some (decide (a7=0))) (some false)).bind (λa8=>some (a2,a8)))
def cmp_isNaN_int(x_:Int):Option Bool:=some (decide (x_≠x_))
def cmp_Compare_int(x_ y_:Int):Option Int:=(cmp_isNaN_int x_).bind λa6=>(cmp_isNaN_int y_).bind λa2=>cond (a6) (cond (a2) (some 0) (some (-1:Int))) (cond (a2) (some 1) (cond (decide (x_<y_)) (some (-1:Int)) (cond (decide (y_<x_)) (some 1) (some 0))))
def iC.s2(s1_ s2_:A2)(a2:Nat):Option (Nat⊕(Unit⊕Int)):=cond (decide ((a2:Int)<(s1_.length:Int))) (idxn s1_ a2 λa7=>cond (decide ((s2_.length:Int)<=(a2:Int))) (some (.inr (.inr 1))) (idxn s2_ a2 λa8=>(cmp_Compare_int a7 a8).bind λa6=>cond (decide (a6≠0)) (some (.inr (.inr a6))) (some (.inl (a2+1))))) (some (.inr (.inl ())))
def iC(s1_ s2_:A2):Option Int:=(iter (λ(s:Nat)=>iC.s2 s1_ s2_ s) fuel 0).bind (Sum.elim (λ_=>cond (decide ((s1_.length:Int)<(s2_.length:Int))) (some (-1:Int)) (some 0)) some)
def fI.s2(vals_:A2)(a2:Nat):Option (Nat⊕(Unit⊕Int)):=cond (decide ((a2:Int)<(vals_.length:Int))) (idxn vals_ a2 λa6=>cond (decide (a6≠0)) (some (.inr (.inr a6))) (some (.inl (a2+1)))) (some (.inr (.inl ())))
def fI(vals_:A2):Option Int:=(iter (λ(s:Nat)=>fI.s2 vals_ s) fuel 0).bind (Sum.elim (λ_=>some 0) some)
def bY(a_ b_:A2):Option Int:=(cmp_Compare_int (a_.length:Int) (b_.length:Int)).bind λa2=>(iC a_ b_).bind λa6=>(fI [a2,a6]).bind λa7=>some a7
def mU(l_:A4)(w_:A2):Option A4:=(iD l_ w_ (λu0 u1=>bY u0 u1)).bind λa2=>cond (a2.2) (some l_) (chk ((0:Int)<=a2.1/\a2.1<=(l_.length:Int)) ((cA w_).bind λa6=>chk (E0 (List.length (List.take (Int.toNat a2.1) l_)+1) 24) (chk ((0:Int)<=a2.1/\a2.1<=(l_.length:Int)) (chk (E0 (List.length ((List.take (Int.toNat a2.1) l_)++[a6])+List.length (List.drop (Int.toNat a2.1) l_)) 24) (some (((List.take (Int.toNat a2.1) l_)++[a6])++(List.drop (Int.toNat a2.1) l_)))))))
def bN.s2(s1_ s2_:A2)(a2:Nat):Option (Nat⊕(Unit⊕Bool)):=cond (decide ((a2:Int)<(s1_.length:Int))) (idxn s1_ a2 λa6=>idxn s2_ a2 λa7=>cond (decide (a6≠a7)) (some (.inr (.inr false))) (some (.inl (a2+1)))) (some (.inr (.inl ())))
def bN(s1_ s2_:A2):Option Bool:=cond (decide ((s1_.length:Int)≠(s2_.length:Int))) (some false) ((iter (λ(s:Nat)=>bN.s2 s1_ s2_ s) fuel 0).bind (Sum.elim (λ_=>some true) some))
def qP(v_ p1_:A2):Option Bool:=(bN v_ p1_).bind λa2=>some a2
def jR.s2(s_:A4)(f_:(A2)->Option Bool)(a2:Nat):Option (Nat⊕(Unit⊕Int)):=cond (decide ((a2:Int)<(s_.length:Int))) (idxn s_ a2 λa6=>(f_ a6).bind λa7=>cond (a7) (some (.inr (.inr (a2:Int)))) (some (.inl (a2+1)))) (some (.inr (.inl ())))
def jR(s_:A4)(f_:(A2)->Option Bool):Option Int:=(iter (λ(s:Nat)=>jR.s2 s_ f_ s) fuel 0).bind (Sum.elim (λ_=>some (-1:Int)) some)
def yD(s_:A4)(f_:(A2)->Option Bool):Option Bool:=(jR s_ f_).bind λa2=>some (decide (0<=a2))
def tJ(l_:A4)(w_:A2):Option Bool:=(yD l_ (λu0=>qP u0 w_)).bind λa2=>some a2
def jK(l_:E1):Option C6:=some (⟨l_.I,l_.Short,l_.X⟩:C6)
def jP.s2(s_:A2)(f_:Int->Option Bool)(a2:Nat):Option (Nat⊕(Unit⊕Int)):=cond (decide ((a2:Int)<(s_.length:Int))) (idxn s_ a2 λa6=>(f_ a6).bind λa7=>cond (a7) (some (.inr (.inr (a2:Int)))) (some (.inl (a2+1)))) (some (.inr (.inl ())))
def jP(s_:A2)(f_:Int->Option Bool):Option Int:=(iter (λ(s:Nat)=>jP.s2 s_ f_ s) fuel 0).bind (Sum.elim (λ_=>some (-1:Int)) some)
def uO(s_:A2)(f_:Int->Option Bool):Option Bool:=(jP s_ f_).bind λa2=>some (decide (0<=a2))
def tZ(inputs_:Int):Option Bool:=(cond (decide (1<=inputs_)) (some (decide (inputs_<=1024))) (some false)).bind (λa2=>some a2)
def qL(a_ p1_:Int):Option Bool:=(cond (decide (a_<0)) (some true) (some (decide (p1_<=a_)))).bind (λa2=>some a2)
def jQ.s2(s_:A2)(f_:Int->Option Bool)(a2:Nat):Option (Nat⊕(Unit⊕Int)):=cond (decide ((a2:Int)<(s_.length:Int))) (idxn s_ a2 λa6=>(f_ a6).bind λa7=>cond (a7) (some (.inr (.inr (a2:Int)))) (some (.inl (a2+1)))) (some (.inr (.inl ())))
def jQ(s_:A2)(f_:Int->Option Bool):Option Int:=(iter (λ(s:Nat)=>jQ.s2 s_ f_ s) fuel 0).bind (Sum.elim (λ_=>some (-1:Int)) some)
def yE(s_:A2)(f_:Int->Option Bool):Option Bool:=(jQ s_ f_).bind λa2=>some (decide (0<=a2))
def gS(w_:A2)(inputs_:Int):Option Int:=(tZ inputs_).bind λa2=>cond ((!a2)) (some 2) (cond (decide (1024<(w_.length:Int))) (some 3) ((yE w_ (λu0=>qL u0 inputs_)).bind λa6=>cond (a6) (some 1) (some 0)))
def nR(l_:A4)(i_:Int):Option Bool:=(cond (decide (i_=0)) (some true) (chk (inR (i_-1)) (idx l_ (i_-1) λa2=>idx l_ i_ λa6=>(bY a2 a6).bind λa7=>some (decide (a7<0))))).bind (λa8=>some a8)
def eL.s2(l_:A4)(a6:Int)(a2:Nat):Option ((Int×Nat)⊕Int):=cond (decide ((a2:Int)<(l_.length:Int))) (idxn l_ a2 λa7=>some (.inl ((max a6 (a7.length:Int)),(a2+1)))) (some (.inr a6))
def eL(l_:A4):Option Int:=(iter (λ(s:Int×Nat)=>eL.s2 l_ s.1 s.2) fuel (0,0)).bind (λa2=>some a2)
def V5.s2(t_:C6)(a6:List (ByteArray×Bool))(a2:Nat):Option (((List (ByteArray×Bool))×Nat)⊕((List (ByteArray×Bool)))):=cond (decide ((a2:Int)<(t_.P.length:Int))) (idxn t_.P a2 λa7=>(pN a7).bind λa8=>some (.inl ((mset a8 true a6),(a2+1)))) (some (.inr a6))
def V5.s4(t_:C6)(b6:List (ByteArray×Bool))(a6:Nat):Option (Nat⊕(Unit⊕Int)):=cond (decide ((a6:Int)<(t_.P.length:Int))) (idxn t_.P a6 λa2=>(gS a2 t_.I).bind λa7=>cond (decide (a7≠0)) (some (.inr (.inr a7))) ((cond (decide ((a6:Int)=0)) (cond (decide (0<(a2.length:Int))) (some true) ((nR t_.P (a6:Int)).bind λa8=>some (!a8))) ((nR t_.P (a6:Int)).bind λb2=>some (!b2))).bind (λb3=>cond (b3) (some (.inr (.inr 10))) ((cond (decide (0<(a2.length:Int))) (chk ((0:Int)<=((a2.length:Int)-1)/\((a2.length:Int)-1)<=(a2.length:Int)) ((pN (List.take (Int.toNat ((a2.length:Int)-1)) a2)).bind λb4=>some (!((mget b4 b6).getD false)))) (some false)).bind (λb5=>cond (b5) (some (.inr (.inr 1))) (some (.inl (a6+1)))))))) (some (.inr (.inl ())))
def V5.s6(t_:C6)(a2:Nat):Option (Nat⊕(Unit⊕Int)):=cond (decide ((a2:Int)<(t_.X.length:Int))) (idxn t_.X a2 λa6=>(gS a6 t_.I).bind λa7=>cond (decide (a7≠0)) (some (.inr (.inr a7))) (cond (decide ((a6.length:Int)=0)) (some (.inr (.inr 19))) ((nR t_.X (a2:Int)).bind λa8=>cond ((!a8)) (some (.inr (.inr 10))) (some (.inl (a2+1)))))) (some (.inr (.inl ())))
def V5(t_:C6):Option Int:=(cond (decide (t_.I<1)) (some true) (some (decide (64<t_.I)))).bind (λb2=>cond (b2) (some 2) (cond (decide ((t_.P.length:Int)=0)) (some 19) ((cond (decide (10000<(t_.P.length:Int))) (some true) (cond (decide (10000<(t_.X.length:Int))) (some true) (chk (inR (t_.I+1)) (chk (inR ((t_.P.length:Int)*(t_.I+1))) (chk (inR (((t_.P.length:Int)*(t_.I+1))*(t_.X.length:Int))) (some (decide (160000<(((t_.P.length:Int)*(t_.I+1))*(t_.X.length:Int)))))))))).bind (λb3=>cond (b3) (some 11) ((iter (λ(s:(List (ByteArray×Bool))×Nat)=>V5.s2 t_ s.1 s.2) fuel (([]:List (ByteArray×Bool)),0)).bind (λb4=>(iter (λ(s:Nat)=>V5.s4 t_ b4 s) fuel 0).bind (Sum.elim (λ_=>(iter (λ(s:Nat)=>V5.s6 t_ s) fuel 0).bind (Sum.elim (λ_=>(cond (decide ((t_.X.length:Int)<t_.I)) (some true) (chk (inR (t_.I-1)) (idx t_.X (t_.I-1) λa7=>some (decide (1<(a7.length:Int)))))).bind (λa8=>cond (a8) (some 1) ((eL t_.P).bind λa2=>(eL t_.X).bind λa6=>chk (inR (a2+a6)) (cond (decide (1023<(a2+a6))) (some 3) (some 0))))) some)) some)))))))
def eG.s2(l_:E1)(a2:Nat):Option (Nat⊕(Unit⊕Int)):=cond (decide ((a2:Int)<(l_.X.length:Int))) (idxn l_.X a2 λa6=>(cond (decide (1<(a6.length:Int))) (chk ((0:Int)<=1/\1<=(a6.length:Int)) ((tJ l_.X (List.drop 1 a6)).bind λa7=>some (!a7))) (some false)).bind (λa8=>cond (a8) (some (.inr (.inr 1))) (some (.inl (a2+1))))) (some (.inr (.inl ())))
def eG(l_:E1):Option Int:=(jK l_).bind λa6=>(V5 a6).bind λa2=>cond (decide (a2≠0)) (some a2) ((iter (λ(s:Nat)=>eG.s2 l_ s) fuel 0).bind (Sum.elim (λ_=>some 0) some))
def nG(l_:E1)(o_:A7):Option Int:=(eG l_).bind λa2=>cond (decide (a2≠0)) (some a2) (cond (decide (l_.I≠o_.I)) (some 15) (some 0))
def cR.s2(slices_:A4)(size73 a2:Nat):Option ((Nat×Nat)⊕Nat):=cond (decide ((a2:Int)<(slices_.length:Int))) (idxn slices_ a2 λa6=>chk (inR ((size73:Int)+(a6.length:Int))) (cond (decide (((size73:Int)+(a6.length:Int))<0)) (none) (some (.inl ((size73+a6.length),(a2+1)))))) (some (.inr size73))
def cR.s4(slices_:A4)(a2:A2)(a6:Nat):Option ((A2×Nat)⊕A2):=cond (decide ((a6:Int)<(slices_.length:Int))) (idxn slices_ a6 λa7=>chk (E0 (List.length a2+List.length a7) 8) (some (.inl ((a2++a7),(a6+1))))) (some (.inr a2))
def cR(slices_:A4):Option A2:=(iter (λ(s:Nat×Nat)=>cR.s2 slices_ s.1 s.2) fuel (0,0)).bind (λsize68=>(BA (size68:Int)).bind λa6=>(iter (λ(s:A2×Nat)=>cR.s4 slices_ s.1 s.2) fuel (a6,0)).bind (λa2=>some a2))
def aX(parts_:A4):Option A2:=(cR parts_).bind λa2=>some a2
def nW(w_:A2)(a_:Int):Option A2:=(aX [w_,[a_]]).bind λa2=>some a2
def uG(a_ b_:A2)(p2_:(A2)->(A2)->Option Int):Option Bool:=(p2_ a_ b_).bind λa2=>some (decide (a2=0))
def Z8.s18(eq_:(A2)->(A2)->Option Bool)(a8:Nat)(a2:A4)(a7 a6:Nat):Option ((A4×Nat×Nat)⊕(A4×Nat)):=cond (decide ((a6:Int)<(↑(List.length a2-a8):Int))) (idxn a2 (a8+a6) λb2=>chk ((0:Int)<=((a6:Int)-1)) (idxn a2 (a8+(Int.toNat ((a6:Int)-1))) λb3=>(eq_ b2 b3).bind λb4=>cond ((!b4)) (idxn a2 (a8+a6) λb5=>idxn a2 a7 λb6=>chk (inR ((a7:Int)+1)) (some (.inl ((List.set a2 a7 b5),(a7+1),(a6+1))))) (some (.inl (a2,a7,(a6+1)))))) (some (.inr (a2,a7)))
def Z8.k19(a6:A4)(a2:Nat):Option (Nat⊕(Unit⊕A4)):=chk ((0:Int)<=(a2:Int)/\(a2:Int)<=(a6.length:Int)/\0<List.length a6) (chk (a2<=List.length a6) (chk ((0:Int)<=(a2:Int)/\(a2:Int)<=(↑(List.length (List.take a2 a6++List.replicate (List.length a6-a2) [])):Int)/\0<List.length (List.take a2 a6++List.replicate (List.length a6-a2) [])) (some (.inr (.inr (List.take a2 (List.take a2 a6++List.replicate (List.length a6-a2) [])))))))
def Z8.s20(s_:A4)(eq_:(A2)->(A2)->Option Bool)(a2:Nat):Option (Nat⊕(Unit⊕A4)):=cond (decide ((a2:Int)<(s_.length:Int))) (idxn s_ a2 λa6=>idx s_ ((a2:Int)-1) λa7=>(eq_ a6 a7).bind λa8=>cond (a8) (chk ((0:Int)<=(a2:Int)/\(a2:Int)<=(s_.length:Int)/\0<List.length s_) ((iter (λ(s:A4×Nat×Nat)=>Z8.s18 eq_ a2 s.1 s.2.1 s.2.2) fuel (s_,a2,1)).bind (λs=>Z8.k19 s.1 s.2))) (some (.inl (a2+1)))) (some (.inr (.inl ())))
def Z8(s_:A4)(eq_:(A2)->(A2)->Option Bool):Option A4:=cond (decide ((s_.length:Int)<2)) (some s_) ((iter (λ(s:Nat)=>Z8.s20 s_ eq_ s) fuel 1).bind (Sum.elim (λ_=>some s_) some))
def iB.s2(a7 a6:A4)(a2:Nat):Option ((A4×Nat)⊕A4):=cond (decide ((a2:Int)<(a7.length:Int))) (idxn a6 a2 λa8=>(cA a8).bind λb2=>idxn a6 a2 λb3=>chk (inR ((a2:Int)+1)) (some (.inl ((List.set a6 a2 b2),(a2+1))))) (some (.inr a6))
def iB(l_:A4)(order_:(A2)->(A2)->Option Int):Option A4:=(xW l_).bind λa6=>(CU a6 order_).bind λa7=>(Z8 a7 (λu0 u1=>uG u0 u1 order_)).bind λa2=>(iter (λ(s:A4×Nat)=>iB.s2 a2 s.1 s.2) fuel (a2,0)).bind (λa8=>some a8)
def fN.s2(a_ b_:A2)(a2:Nat):Option (Nat⊕(Unit⊕Int)):=cond (decide ((a2:Int)<(min (a_.length:Int) (b_.length:Int)))) (idxn a_ a2 λa6=>idxn b_ a2 λa7=>cond (decide (a6≠a7)) (some (.inr (.inr (a2:Int)))) (some (.inl (a2+1)))) (some (.inr (.inl ())))
def fN(a_ b_:A2):Option Int:=(iter (λ(s:Nat)=>fN.s2 a_ b_ s) fuel 0).bind (Sum.elim (λ_=>some (min (a_.length:Int) (b_.length:Int))) some)
def jN(w_ p_:A2):Option Bool:=(fN w_ p_).bind λa2=>some (decide (a2=(p_.length:Int)))
def uB(l_:A4):Option A4:=(iB l_ (λu0 u1=>bY u0 u1)).bind λa2=>some a2
def jA(a_ b_:A2):Option Int:=(iC a_ b_).bind λa2=>some a2
def fQ.s2(a8 a6:A4)(a2:Nat):Option ((A4×Nat)⊕A4):=cond (decide ((a2:Int)<(a8.length:Int))) (idxn a8 a2 λa7=>(cond (decide (((a2:Int)+1)=(a8.length:Int))) (some true) (idxn a8 (a2+1) λb2=>(jN b2 a7).bind λb3=>some (!b3))).bind (λb4=>cond (b4) (chk (E0 (List.length a6+1) 24) (some (.inl ((a6++[a7]),(a2+1))))) (some (.inl (a6,(a2+1)))))) (some (.inr a6))
def fQ(l_:A4):Option A4:=(iB l_ (λu0 u1=>jA u0 u1)).bind λa7=>(iter (λ(s:A4×Nat)=>fQ.s2 a7 s.1 s.2) fuel ([],0)).bind (λa2=>(uB a2).bind λa6=>some a6)
def nK(t_:C6)(o_:A7):Option Int:=(V5 t_).bind λa2=>cond (decide (a2≠0)) (some a2) (cond (decide (t_.I≠o_.I)) (some 15) (some 0))
def aO(a_ b_:B0):Option Int:=(jA a_.In b_.In).bind λa2=>some a2
def nC(o_:A7):Option (List B0):=(CP o_.T).bind λa2=>(CR a2 (λu0 u1=>aO u0 u1)).bind λa6=>some a6
def iE.s2(x_:List B0)(target_:A2)(cmp_:B0->(A2)->Option Int)(a2 a6:Int):Option ((Int×Int)⊕Int):=cond (decide (a2<a6)) (chk (inR (a2+a6)) (chk ((0:Int)<=(a2+a6)/\(a2+a6)<=18446744073709551615) (chk ((0:Int)<=(a2+a6)/\(a2+a6)<=18446744073709551615) (chk (inR ((a2+a6) / 2^1)) (idx x_ ((a2+a6) / 2^1) λa7=>(cmp_ a7 target_).bind λa8=>cond (decide (a8<0)) (chk (inR (((a2+a6) / 2^1)+1)) (some (.inl ((((a2+a6) / 2^1)+1),a6)))) (some (.inl (a2,((a2+a6) / 2^1))))))))) (some (.inr a2))
def iE(x_:List B0)(target_:A2)(cmp_:B0->(A2)->Option Int):Option (Int×Bool):=(iter (λ(s:Int×Int)=>iE.s2 x_ target_ cmp_ s.1 s.2) fuel (0,(x_.length:Int))).bind (λa2=>(cond (decide (a2<(x_.length:Int))) (idx x_ a2 λa6=>(cmp_ a6 target_).bind λa7=>some (decide (a7=0))) (some false)).bind (λa8=>some (a2,a8)))
def kY(t_:B0)(w_:A2):Option Int:=(jA t_.In w_).bind λa2=>some a2
def qT(f_:List B0)(w_:A2):Option (A2×Bool):=cond (decide ((w_.length:Int)=0)) (some ([],true)) ((iE f_ w_ (λu0 u1=>kY u0 u1)).bind λa2=>(cond (decide (a2.1=(f_.length:Int))) (some true) (idx f_ a2.1 λa7=>(jN a7.In w_).bind λa8=>cond ((!a8)) (some true) (idx f_ a2.1 λb2=>some (decide ((b2.O.length:Int)<(w_.length:Int)))))).bind (λb3=>cond (b3) (some ([],false)) (idx f_ a2.1 λa6=>chk ((0:Int)<=(w_.length:Int)/\(w_.length:Int)<=(a6.O.length:Int)) (some ((List.take w_.length a6.O),true)))))
def uI(f_:List B0)(w_:A2):Option Bool:=(qT f_ w_).bind λa2=>some a2.2
def fR.s2(w_:A2)(p1_:C6)(p2_:List B0)(a2:A4)(a6:Nat):Option ((A4×Nat)⊕A4):=cond (decide ((a6:Int)<(p1_.X.length:Int))) (idxn p1_.X a6 λa8=>(aX [w_,a8]).bind λa7=>(uI p2_ a7).bind λb2=>cond ((!b2)) (chk (E0 (List.length a2+1) 24) (some (.inl ((a2++[a7]),(a6+1))))) (some (.inl (a2,(a6+1))))) (some (.inr a2))
def fR(w_:A2)(p1_:C6)(p2_:List B0)(p3_:A4):Option A4:=(iter (λ(s:A4×Nat)=>fR.s2 w_ p1_ p2_ s.1 s.2) fuel (p3_,0)).bind (λa2=>some a2)
def bJ.s13(t_:C6)(b3:List B0)(a7:A2)(a6:A4)(a2:Nat):Option ((A4×Nat)⊕A4):=cond (decide ((a2:Int)<t_.I)) ((nW a7 (a2:Int)).bind λa8=>(fR a8 t_ b3 a6).bind λb2=>chk (inR ((a2:Int)+1)) (some (.inl (b2,(a2+1))))) (some (.inr a6))
def bJ.s14(t_:C6)(b3:List B0)(a6:A4)(a2:Nat):Option ((A4×Nat)⊕A4):=cond (decide ((a2:Int)<(t_.P.length:Int))) (idxn t_.P a2 λa7=>(fR a7 t_ b3 a6).bind λa8=>(iter (λ(s:A4×Nat)=>bJ.s13 t_ b3 a7 s.1 s.2) fuel (a8,0)).bind (λb2=>some (.inl (b2,(a2+1))))) (some (.inr a6))
def bJ(t_:C6)(o_:A7):Option (A4×Int):=(nK t_ o_).bind λa7=>cond (decide (a7≠0)) (some ([],a7)) ((nC o_).bind λa8=>(iter (λ(s:A4×Nat)=>bJ.s14 t_ a8 s.1 s.2) fuel ([],0)).bind (λa2=>(fQ a2).bind λa6=>some (a6,0)))
def eK.s2(f_:List B0)(t_:C6)(w_:A2)(a6:A4)(a7:Nat):Option ((A4×Nat)⊕(A4⊕(A4×Bool))):=cond (decide ((a7:Int)<(t_.X.length:Int))) (idxn t_.X a7 λa8=>(aX [w_,a8]).bind λb2=>(qT f_ b2).bind λa2=>cond ((!a2.2)) (some (.inr (.inr ([],false)))) (chk ((0:Int)<=(w_.length:Int)/\(w_.length:Int)<=(a2.1.length:Int)) ((cA (List.drop w_.length a2.1)).bind λb3=>chk (E0 (List.length a6+1) 24) (some (.inl ((a6++[b3]),(a7+1))))))) (some (.inr (.inl a6)))
def eK(f_:List B0)(t_:C6)(w_:A2):Option (A4×Bool):=chk ((0:Int)<=0/\0<=(t_.X.length:Int)/\E0 (Int.toNat (t_.X.length:Int)) 24) ((iter (λ(s:A4×Nat)=>eK.s2 f_ t_ w_ s.1 s.2) fuel ([],0)).bind (Sum.elim (λa2=>some (a2,true)) some))
def cD.s2(row_:A4)(a2:ByteArray)(a6:Nat):Option ((ByteArray×Nat)⊕ByteArray):=cond (decide ((a6:Int)<(row_.length:Int))) (idxn row_ a6 λa8=>(pN a8).bind λa7=>chk (ByteArray.size a7+ByteArray.size (⟨#[47]⟩:ByteArray)<=9223372036854775807) (chk (ByteArray.size a2+ByteArray.size (a7++(⟨#[47]⟩:ByteArray))<=9223372036854775807) (some (.inl ((a2++(a7++(⟨#[47]⟩:ByteArray))),(a6+1)))))) (some (.inr a2))
def cD.k3(v_:M7)(a7:List (A4))(a2:List (ByteArray×Int))(a6:Int):Option (Int×M7):=some (a6,(⟨a7,v_.prefixes,v_.next,a2⟩:M7))
def cD(v_:M7)(row_:A4):Option (Int×M7):=(iter (λ(s:ByteArray×Nat)=>cD.s2 row_ s.1 s.2) fuel ((⟨#[]⟩:ByteArray),0)).bind (λa2=>(cond ((!((mget a2 v_.number).isSome))) (chk (E0 (List.length v_.rows+1) 24) (some ((v_.rows++[row_]),(mset a2 (v_.rows.length:Int) v_.number),(v_.rows.length:Int)))) (some (v_.rows,v_.number,((mget a2 v_.number).getD 0))):Option (List (A4)×(List (ByteArray×Int))×Int)).bind (λs=>cD.k3 v_ s.1 s.2.1 s.2.2))
def M9.s2(t_:C6)(b5:List B0)(b3:List (A4))(a7:A2)(b4:List (ByteArray×Int))(a8:Nat):Option ((List (A4)×A2×(List (ByteArray×Int))×Nat)⊕((List (A4)×A2×(List (ByteArray×Int)))⊕(M7×Int))):=cond (decide ((a8:Int)<(t_.P.length:Int))) (idxn t_.P a8 λb2=>(eK b5 t_ b2).bind λa6=>cond ((!a6.2)) (some (.inr (.inr ((⟨[],[],[],[]⟩:M7),12)))) ((cD (⟨b3,a7,[],b4⟩:M7) a6.1).bind λa2=>chk (E0 (List.length a7+1) 8) (some (.inl (a2.2.rows,(a7++[a2.1]),a2.2.number,(a8+1)))))) (some (.inr (.inl (b3,a7,b4))))
def M9.s20(t_:C6)(b7:List B0)(b8:A2)(b4:A4)(b5:A2)(a8:List (A4))(b2:List (ByteArray×Int))(a6:A2)(a2:Nat):Option ((List (A4)×(List (ByteArray×Int))×A2×Nat)⊕((List (A4)×(List (ByteArray×Int))×A2)⊕((List (A4)×A4×(List (ByteArray×Int))×Nat)⊕((List (A4)×A4×(List (ByteArray×Int)))⊕(M7×Int))))):=cond (decide ((a2:Int)<t_.I)) ((nW b5 (a2:Int)).bind λb6=>(eK b7 t_ b6).bind λb3=>cond ((!b3.2)) (some (.inr (.inr (.inr (.inr ((⟨[],[],[],[]⟩:M7),12)))))) ((cD (⟨a8,b8,b4,b2⟩:M7) b3.1).bind λa7=>chk (E0 (List.length a6+1) 8) (chk (inR ((a2:Int)+1)) (some (.inl (a7.2.rows,a7.2.number,(a6++[a7.1]),(a2+1))))))) (some (.inr (.inl (a8,b2,a6))))
def M9.k21(a2:A4)(a6:Nat)(a7:List (A4))(a8:List (ByteArray×Int))(b2:A2):Option ((List (A4)×A4×(List (ByteArray×Int))×Nat)⊕((List (A4)×A4×(List (ByteArray×Int)))⊕(M7×Int))):=chk (E0 (List.length a2+1) 24) (some (.inl (a7,(a2++[b2]),a8,(a6+1))))
def M9.s22(t_:C6)(b3:List B0)(b4:A2)(a7:List (A4))(a2:A4)(a8:List (ByteArray×Int))(a6:Nat):Option ((List (A4)×A4×(List (ByteArray×Int))×Nat)⊕((List (A4)×A4×(List (ByteArray×Int)))⊕(M7×Int))):=cond (decide ((a6:Int)<(t_.P.length:Int))) (idxn t_.P a6 λb2=>(iter (λ(s:List (A4)×(List (ByteArray×Int))×A2×Nat)=>M9.s20 t_ b3 b4 a2 b2 s.1 s.2.1 s.2.2.1 s.2.2.2) fuel (a7,a8,[],0)).bind (Sum.elim (λs=>M9.k21 a2 a6 s.1 s.2.1 s.2.2) some)) (some (.inr (.inl (a7,a2,a8))))
def M9.k23(a8:A2)(a2:List (A4))(a6:A4)(a7:List (ByteArray×Int)):Option (M7×Int):=some ((⟨a2,a8,a6,a7⟩:M7),0)
def M9.k24(t_:C6)(a6:List B0)(a7:List (A4))(a2:A2)(a8:List (ByteArray×Int)):Option (M7×Int):=(iter (λ(s:List (A4)×A4×(List (ByteArray×Int))×Nat)=>M9.s22 t_ a6 a2 s.1 s.2.1 s.2.2.1 s.2.2.2) fuel (a7,[],a8,0)).bind (Sum.elim (λs=>M9.k23 a2 s.1 s.2.1 s.2.2) some)
def M9(t_:C6)(o_:A7):Option (M7×Int):=(nK t_ o_).bind λa2=>cond (decide (a2≠0)) (some ((⟨[],[],[],[]⟩:M7),a2)) ((nC o_).bind λa6=>(iter (λ(s:List (A4)×A2×(List (ByteArray×Int))×Nat)=>M9.s2 t_ a6 s.1 s.2.1 s.2.2.1 s.2.2.2) fuel ([],[],([]:List (ByteArray×Int)),0)).bind (Sum.elim (λs=>M9.k24 t_ a6 s.1 s.2.1 s.2.2) some))
def kX.s2(s_:A2)(v_:Int)(a2:Nat):Option (Nat⊕(Unit⊕Int)):=cond (decide ((a2:Int)<(s_.length:Int))) (idxn s_ a2 λa6=>cond (decide (v_=a6)) (some (.inr (.inr (a2:Int)))) (some (.inl (a2+1)))) (some (.inr (.inl ())))
def kX(s_:A2)(v_:Int):Option Int:=(iter (λ(s:Nat)=>kX.s2 s_ v_ s) fuel 0).bind (Sum.elim (λ_=>some (-1:Int)) some)
def uM(s_:A2)(v_:Int):Option Bool:=(kX s_ v_).bind λa2=>some (decide (0<=a2))
def cC.s13(v_:M7)(a7:Nat)(a6:A2)(a2:Nat):Option (Nat⊕(Unit⊕(Nat⊕(Unit⊕(Int×Int×Bool))))):=cond (decide ((a2:Int)<(a6.length:Int))) (idxn a6 a2 λa8=>(uM v_.prefixes a8).bind λb2=>cond ((!b2)) (some (.inr (.inr (.inr (.inr ((a7:Int),(a2:Int),true)))))) (some (.inl (a2+1)))) (some (.inr (.inl ())))
def cC.s14(v_:M7)(a2:Nat):Option (Nat⊕(Unit⊕(Int×Int×Bool))):=cond (decide ((a2:Int)<(v_.next.length:Int))) (idxn v_.next a2 λa6=>(iter (λ(s:Nat)=>cC.s13 v_ a2 a6 s) fuel 0).bind (Sum.elim (λ_=>some (.inl (a2+1))) some)) (some (.inr (.inl ())))
def cC(v_:M7):Option (Int×Int×Bool):=(iter (λ(s:Nat)=>cC.s14 v_ s) fuel 0).bind (Sum.elim (λ_=>some (0,0,false)) some)
def uC(t_:C6)(o_:A7):Option (A2×Bool×Int):=(M9 t_ o_).bind λa2=>cond (decide (a2.2≠0)) (some ([],false,a2.2)) ((cC a2.1).bind λa6=>cond ((!a6.2.2)) (some ([],false,0)) (idx t_.P a6.1 λa7=>(nW a7 a6.2.1).bind λa8=>some (a8,true,0)))
def R4.s1019(a7:Nat)(a6 a8:A4)(a2:Nat):Option (Nat⊕(Unit⊕(Nat⊕(Unit⊕(Unit⊕(Nat⊕(Unit⊕(Nat⊕(Unit⊕(Int×Int×Bool)))))))))):=cond (decide ((a2:Int)<(a6.length:Int))) (idxn a6 a2 λb2=>idxn a8 a2 λb3=>(bN b2 b3).bind λb4=>cond ((!b4)) (some (.inr (.inr (.inr (.inr (.inr (.inr (.inr (.inr (.inr ((a7:Int),(a2:Int),true))))))))))) (some (.inl (a2+1)))) (some (.inr (.inl ())))
def R4.s1020(v_:M7)(a6 a7:Nat)(a8:A2)(a2:Nat):Option (Nat⊕(Unit⊕(Unit⊕(Nat⊕(Unit⊕(Nat⊕(Unit⊕(Int×Int×Bool)))))))):=cond (decide ((a2:Int)<(a8.length:Int))) (idxn v_.next a6 λb2=>idxn b2 a2 λb3=>idx v_.rows b3 λb4=>idxn v_.next a7 λb5=>idxn b5 a2 λb6=>idx v_.rows b6 λb7=>(iter (λ(s:Nat)=>R4.s1019 a2 b4 b7 s) fuel 0).bind (Sum.elim (λ_=>chk (inR ((a2:Int)+1)) (some (.inl (a2+1)))) some)) (some (.inr (.inl ())))
def R4.s1021(v_:M7)(a6:Nat)(a7:Int)(a2:Nat):Option (Nat⊕(Unit⊕(Nat⊕(Unit⊕(Int×Int×Bool))))):=cond (decide ((a2:Int)<(v_.prefixes.length:Int))) ((idxn v_.prefixes a2 λa8=>cond (decide (a8≠a7)) (some (.inl ())) (idxn v_.next a6 λb2=>(iter (λ(s:Nat)=>R4.s1020 v_ a6 a2 b2 s) fuel 0).bind (Sum.elim (λ_=>some (.inl ())) some)):Option (Unit⊕(Nat⊕(Unit⊕(Nat⊕(Unit⊕(Int×Int×Bool))))))).bind (Sum.elim (λ_=>some (.inl (a2+1))) some)) (some (.inr (.inl ())))
def R4.s1022(v_:M7)(a2:Nat):Option (Nat⊕(Unit⊕(Int×Int×Bool))):=cond (decide ((a2:Int)<(v_.prefixes.length:Int))) (idxn v_.prefixes a2 λa6=>(iter (λ(s:Nat)=>R4.s1021 v_ a2 a6 s) fuel (a2+1)).bind (Sum.elim (λ_=>some (.inl (a2+1))) some)) (some (.inr (.inl ())))
def R4(v_:M7):Option (Int×Int×Bool):=(iter (λ(s:Nat)=>R4.s1022 v_ s) fuel 0).bind (Sum.elim (λ_=>some (0,0,false)) some)
def uH(t_:C6)(o_:A7):Option (A2×Bool×Int):=(M9 t_ o_).bind λa2=>cond (decide (a2.2≠0)) (some ([],false,a2.2)) ((R4 a2.1).bind λa6=>cond ((!a6.2.2)) (some ([],false,0)) (idx t_.X a6.2.1 λa7=>(aX [[a6.1],a7]).bind λa8=>some (a8,true,0)))
def gP.s2(l_ a2:A4)(a6:Nat):Option ((A4×Nat)⊕A4):=cond (decide ((a6:Int)<(l_.length:Int))) (idxn l_ a6 λa7=>(cA a7).bind λa8=>chk (E0 (List.length a2+1) 24) (some (.inl ((a2++[a8]),(a6+1))))) (some (.inr a2))
def gP(l_:A4):Option A4:=(iter (λ(s:A4×Nat)=>gP.s2 l_ s.1 s.2) fuel ([],0)).bind (λa2=>some a2)
def qA(l_:E1):Option E1:=(gP l_.Short).bind λa2=>(gP l_.X).bind λa6=>some (⟨l_.I,a2,a6⟩:E1)
def eB.k1(l_:E1)(a2 a6:A4):Option (E1×A4×Bool×Int):=(eG (⟨l_.I,a2,a6⟩:E1)).bind λa7=>cond (decide (a7≠0)) (some (l_,[],false,a7)) ((qA (⟨l_.I,a2,a6⟩:E1)).bind λa8=>some (a8,[],false,0))
def eB(l_:E1)(o_:A7):Option (E1×A4×Bool×Int):=(nG l_ o_).bind λb2=>cond (decide (b2≠0)) (some (l_,[],false,b2)) ((jK l_).bind λa8=>(bJ a8 o_).bind λa2=>(cond (decide (a2.2≠0)) (some true) (some (decide (0<(a2.1.length:Int))))).bind (λb3=>cond (b3) (some (l_,a2.1,false,a2.2)) (((uC a8 o_).bind λa6=>cond (decide (a6.2.2≠0)) (some (.inr (l_,[],false,a6.2.2))) (cond (a6.2.1) ((mU l_.Short a6.1).bind λb4=>some (.inl (b4,l_.X))) ((uH a8 o_).bind λa7=>cond (decide (a7.2.2≠0)) (some (.inr (l_,[],false,a7.2.2))) (cond ((!a7.2.1)) (some (.inr (l_,[],true,0))) ((mU l_.X a7.1).bind λb5=>some (.inl (l_.Short,b5)))))):Option ((A4×A4)⊕(E1×A4×Bool×Int))).bind (Sum.elim (λs=>eB.k1 l_ s.1 s.2) some))))
def qS(t_:B0)(p1_:A2):Option Bool:=(jN t_.In p1_).bind λa2=>some a2
def cE.s2(s_:List B0)(f_:B0->Option Bool)(a2:Nat):Option (Nat⊕(Unit⊕Int)):=cond (decide ((a2:Int)<(s_.length:Int))) (idxn s_ a2 λa6=>(f_ a6).bind λa7=>cond (a7) (some (.inr (.inr (a2:Int)))) (some (.inl (a2+1)))) (some (.inr (.inl ())))
def cE(s_:List B0)(f_:B0->Option Bool):Option Int:=(iter (λ(s:Nat)=>cE.s2 s_ f_ s) fuel 0).bind (Sum.elim (λ_=>some (-1:Int)) some)
def jM(o_:A7)(w_:A2):Option (A2×Bool):=cond (decide ((w_.length:Int)=0)) (some ([],true)) ((cE o_.T (λu0=>qS u0 w_)).bind λa6=>cond (decide (a6<0)) (some ([],false)) (idx o_.T a6 λa2=>chk ((0:Int)<=(min (w_.length:Int) (a2.O.length:Int))/\(min (w_.length:Int) (a2.O.length:Int))<=(a2.O.length:Int)) ((cA (List.take (Int.toNat (min (w_.length:Int) (a2.O.length:Int))) a2.O)).bind λa7=>some (a7,true))))
def kW(r_:I7)(w_ v_:A2):Option (A2×I7):=(aX [w_,v_]).bind λa2=>cond (decide (1024<(a2.length:Int))) (some ([],(⟨r_.l,r_.o,r_.missing,true⟩:I7))) ((jM r_.o a2).bind λa6=>cond ((!a6.2)) (chk (E0 (List.length r_.missing+1) 24) (some ([],(⟨r_.l,r_.o,(r_.missing++[a2]),r_.long⟩:I7)))) (chk ((0:Int)<=(w_.length:Int)/\(w_.length:Int)<=(a6.1.length:Int)) (some ((List.drop w_.length a6.1),r_))))
def bK.s2(r_:I7)(w_:A2)(a8:Int)(b2:List B0)(b3:A4)(b4:Bool)(a6:A4)(a7:Nat):Option ((Int×List B0×A4×Bool×A4×Nat)⊕(Int×List B0×A4×Bool×A4)):=cond (decide ((a7:Int)<(r_.l.X.length:Int))) (idxn r_.l.X a7 λb5=>(kW (⟨r_.l,(⟨a8,b2⟩:A7),b3,b4⟩:I7) w_ b5).bind λa2=>chk (E0 (List.length a6+1) 24) (some (.inl (a2.2.o.I,a2.2.o.T,a2.2.missing,a2.2.long,(a6++[a2.1]),(a7+1))))) (some (.inr (a8,b2,b3,b4,a6)))
def bK.k3(r_:I7)(a2:Int)(a6:List B0)(a7:A4)(a8:Bool)(b2:A4):Option (A4×I7):=some (b2,(⟨r_.l,(⟨a2,a6⟩:A7),a7,a8⟩:I7))
def bK(r_:I7)(w_:A2):Option (A4×I7):=(iter (λ(s:Int×List B0×A4×Bool×A4×Nat)=>bK.s2 r_ w_ s.1 s.2.1 s.2.2.1 s.2.2.2.1 s.2.2.2.2.1 s.2.2.2.2.2) fuel (r_.o.I,r_.o.T,r_.missing,r_.long,[],0)).bind (λs=>bK.k3 r_ s.1 s.2.1 s.2.2.1 s.2.2.2.1 s.2.2.2.2)
def sX(t_:C6)(o_:A7)(w_:A2):Option (A4×Bool):=(nK t_ o_).bind λa6=>cond (decide (a6≠0)) (some ([],false)) ((nC o_).bind λa7=>(eK a7 t_ w_).bind λa2=>some (a2.1,a2.2))
def jS.s2(s1_ s2_:A4)(eq_:(A2)->(A2)->Option Bool)(a2:Nat):Option (Nat⊕(Unit⊕Bool)):=cond (decide ((a2:Int)<(s1_.length:Int))) (idxn s1_ a2 λa6=>idxn s2_ a2 λa7=>(eq_ a6 a7).bind λa8=>cond ((!a8)) (some (.inr (.inr false))) (some (.inl (a2+1)))) (some (.inr (.inl ())))
def jS(s1_ s2_:A4)(eq_:(A2)->(A2)->Option Bool):Option Bool:=cond (decide ((s1_.length:Int)≠(s2_.length:Int))) (some false) ((iter (λ(s:Nat)=>jS.s2 s1_ s2_ eq_ s) fuel 0).bind (Sum.elim (λ_=>some true) some))
def qI(x_ y_:A2):Option Bool:=(bN x_ y_).bind λa2=>some a2
def pL(a_ b_:A4):Option Bool:=(jS a_ b_ (λu0 u1=>qI u0 u1)).bind λa2=>some a2
def fS.s2(r_:I7)(row_:A4)(a2:Nat):Option (Nat⊕(Unit⊕(A2×Bool×I7))):=cond (decide ((a2:Int)<(r_.l.Short.length:Int))) (idxn r_.l.Short a2 λa6=>(jK r_.l).bind λa8=>(sX a8 r_.o a6).bind λa7=>(cond (a7.2) ((pL a7.1 row_).bind λb2=>some b2) (some false)).bind (λb3=>cond (b3) (some (.inr (.inr (a6,true,r_)))) (some (.inl (a2+1))))) (some (.inr (.inl ())))
def fS(r_:I7)(row_:A4):Option (A2×Bool×I7):=(iter (λ(s:Nat)=>fS.s2 r_ row_ s) fuel 0).bind (Sum.elim (λ_=>some ([],false,r_)) some)
def lW(r_:I7):Option (Bool×I7):=(cond (r_.long) (some true) (some (decide (0<(r_.missing.length:Int))))).bind (λa2=>some (a2,r_))
def bM.s2(b2:Int)(b3 c0:A4)(c6:Int)(c7:List B0)(c8:A4)(c9:Bool)(d2 a8 d3:A2)(b7:A4):Option ((Int×A4×A4×Int×List B0×A4×Bool×A2×A2×A2×A4)⊕((Int×A4×A4×Int×List B0×A4×Bool×A4)⊕(A4×Int×I7))):=cond (decide (1<(a8.length:Int))) (chk ((0:Int)<=1/\1<=(a8.length:Int)) ((aX [d2,(List.take 1 a8)]).bind λb9=>chk ((0:Int)<=1/\1<=(a8.length:Int)) ((aX [d3,(List.take 1 a8)]).bind λd0=>chk ((0:Int)<=1/\1<=(a8.length:Int)) ((bK (⟨(⟨b2,b3,c0⟩:E1),(⟨c6,c7⟩:A7),c8,c9⟩:I7) b9).bind λb5=>(bK (⟨(⟨b2,b3,b5.2.l.X⟩:E1),b5.2.o,b5.2.missing,b5.2.long⟩:I7) d0).bind λa6=>(lW (⟨(⟨b2,b3,a6.2.l.X⟩:E1),a6.2.o,a6.2.missing,a6.2.long⟩:I7)).bind λa7=>cond (a7.1) (some (.inr (.inr ([],0,(⟨(⟨b2,b3,a6.2.l.X⟩:E1),a6.2.o,a7.2.missing,a7.2.long⟩:I7))))) ((pL b5.1 a6.1).bind λd4=>cond ((!d4)) (some (.inr (.inr (b7,0,(⟨(⟨b2,b3,a6.2.l.X⟩:E1),a6.2.o,a7.2.missing,a7.2.long⟩:I7))))) ((fS (⟨(⟨b2,b3,a6.2.l.X⟩:E1),a6.2.o,a7.2.missing,a7.2.long⟩:I7) b5.1).bind λa2=>cond ((!a2.2.1)) (some (.inr (.inr ([],10,(⟨a2.2.2.l,a2.2.2.o,a7.2.missing,a7.2.long⟩:I7))))) ((kW (⟨a2.2.2.l,a2.2.2.o,a7.2.missing,a7.2.long⟩:I7) b9 (List.drop 1 a8)).bind λb8=>(kW (⟨a2.2.2.l,b8.2.o,b8.2.missing,b8.2.long⟩:I7) a2.1 (List.drop 1 a8)).bind λb4=>(lW (⟨a2.2.2.l,b4.2.o,b4.2.missing,b4.2.long⟩:I7)).bind λb6=>cond (b6.1) (some (.inr (.inr ([],0,(⟨a2.2.2.l,b4.2.o,b6.2.missing,b6.2.long⟩:I7))))) (((bN b8.1 b4.1).bind λd5=>cond ((!d5)) (some b9) (some d0):Option A2).bind (λd1=>chk (E0 (List.length b7+1) 24) (some (.inl (a2.2.2.l.I,a2.2.2.l.Short,a2.2.2.l.X,b4.2.o.I,b4.2.o.T,b6.2.missing,b6.2.long,d1,(List.drop 1 a8),a2.1,(b7++[d1]))))))))))))) (some (.inr (.inl (b2,b3,c0,c6,c7,c8,c9,b7))))
def bM.k3(a2:Int)(a6 a7:A4)(a8:Int)(b2:List B0)(b3:A4)(b4:Bool)(b5:A4):Option (A4×Int×I7):=some (b5,0,(⟨(⟨a2,a6,a7⟩:E1),(⟨a8,b2⟩:A7),b3,b4⟩:I7))
def bM(r_:I7)(u_ v_:A2):Option (A4×Int×I7):=(bK r_ u_).bind λa6=>(lW (⟨(⟨r_.l.I,r_.l.Short,a6.2.l.X⟩:E1),a6.2.o,a6.2.missing,a6.2.long⟩:I7)).bind λa7=>cond (a7.1) (some ([],0,(⟨(⟨r_.l.I,r_.l.Short,a6.2.l.X⟩:E1),a6.2.o,a7.2.missing,a7.2.long⟩:I7))) ((fS (⟨(⟨r_.l.I,r_.l.Short,a6.2.l.X⟩:E1),a6.2.o,a7.2.missing,a7.2.long⟩:I7) a6.1).bind λa2=>cond ((!a2.2.1)) (some ([],10,(⟨a2.2.2.l,a2.2.2.o,a7.2.missing,a7.2.long⟩:I7))) ((kW (⟨a2.2.2.l,a2.2.2.o,a7.2.missing,a7.2.long⟩:I7) u_ v_).bind λb3=>(kW (⟨a2.2.2.l,b3.2.o,b3.2.missing,b3.2.long⟩:I7) a2.1 v_).bind λa8=>(lW (⟨a2.2.2.l,a8.2.o,a8.2.missing,a8.2.long⟩:I7)).bind λb2=>cond (b2.1) (some ([],0,(⟨a2.2.2.l,a8.2.o,b2.2.missing,b2.2.long⟩:I7))) ((bN b3.1 a8.1).bind λb4=>cond (b4) (some ([],15,(⟨a2.2.2.l,a8.2.o,b2.2.missing,b2.2.long⟩:I7))) ((iter (λ(s:Int×A4×A4×Int×List B0×A4×Bool×A2×A2×A2×A4)=>bM.s2 s.1 s.2.1 s.2.2.1 s.2.2.2.1 s.2.2.2.2.1 s.2.2.2.2.2.1 s.2.2.2.2.2.2.1 s.2.2.2.2.2.2.2.1 s.2.2.2.2.2.2.2.2.1 s.2.2.2.2.2.2.2.2.2.1 s.2.2.2.2.2.2.2.2.2.2) fuel (a2.2.2.l.I,a2.2.2.l.Short,a2.2.2.l.X,a8.2.o.I,a8.2.o.T,b2.2.missing,b2.2.long,u_,v_,a2.1,[u_])).bind (Sum.elim (λs=>bM.k3 s.1 s.2.1 s.2.2.1 s.2.2.2.1 s.2.2.2.2.1 s.2.2.2.2.2.1 s.2.2.2.2.2.2.1 s.2.2.2.2.2.2.2) some)))))
def fL.s2(a6:A4×Int×I7)(a7:A4)(a2:Nat):Option ((A4×Nat)⊕A4):=cond (decide ((a2:Int)<(a6.1.length:Int))) (idxn a6.1 a2 λa8=>(mU a7 a8).bind λb2=>some (.inl (b2,(a2+1)))) (some (.inr a7))
def fL(l_:E1)(o_:A7)(s_:N5):Option (E1×A4×Int):=(nG l_ o_).bind λa8=>cond (decide (a8≠0)) (some (l_,[],a8)) ((gS s_.Prefix l_.I).bind λb2=>cond (decide (b2≠0)) (some (l_,[],b2)) ((cond (decide (s_.Symbol<0)) (some true) (some (decide (l_.I<=s_.Symbol)))).bind (λb5=>cond (b5) (some (l_,[],2)) (cond (decide ((s_.Suffix.length:Int)=0)) (some (l_,[],19)) ((gS s_.Suffix l_.I).bind λb3=>cond (decide (b3≠0)) (some (l_,[],b3)) ((aX [s_.Prefix,[s_.Symbol]]).bind λb6=>(bM (⟨l_,o_,[],false⟩:I7) b6 s_.Suffix).bind λa2=>cond (a2.2.2.long) (some (l_,[],3)) (cond (decide (a2.2.1≠0)) (some (l_,[],a2.2.1)) (cond (decide (0<(a2.2.2.missing.length:Int))) ((fQ a2.2.2.missing).bind λb7=>some (l_,b7,0)) ((iter (λ(s:A4×Nat)=>fL.s2 a2 s.1 s.2) fuel (l_.Short,0)).bind (λb4=>(eG (⟨l_.I,b4,l_.X⟩:E1)).bind λa6=>cond (decide (a6≠0)) (some (l_,[],a6)) ((qA (⟨l_.I,b4,l_.X⟩:E1)).bind λa7=>some (a7,[],0))))))))))))
def W2.s30(t_:C6)(b4:M7×Int)(a7:Int)(a6:A2)(a2:Nat):Option ((A2×Nat)⊕A2):=cond (decide ((a2:Int)<t_.I)) (idx b4.1.rows a7 λa8=>idxn a8 a2 λb2=>idxn b2 0 λb3=>chk (E0 (List.length a6+1) 8) (chk (inR ((a2:Int)+1)) (some (.inl ((a6++[b3]),(a2+1)))))) (some (.inr a6))
def W2.k31(a2:Nat)(a6 a7 a8:A4):Option ((A4×A4×A4×Nat)⊕(A4×A4×A4)):=some (.inl (a6,a7,a8,(a2+1)))
def W2.s32(t_:C6)(b3:M7×Int)(a7 a8 a2:A4)(a6:Nat):Option ((A4×A4×A4×Nat)⊕(A4×A4×A4)):=cond (decide ((a6:Int)<(b3.1.prefixes.length:Int))) ((idxn b3.1.prefixes a6 λb2=>cond (decide (b2<(a2.length:Int))) (some (a7,a8,a2)) ((iter (λ(s:A2×Nat)=>W2.s30 t_ b3 b2 s.1 s.2) fuel ([],0)).bind (λb4=>idxn b3.1.next a6 λb5=>(cA b5).bind λb6=>chk (E0 (List.length a7+1) 24) (chk (E0 (List.length a8+1) 24) (idxn t_.P a6 λb7=>(cA b7).bind λb8=>chk (E0 (List.length a2+1) 24) (some ((a7++[b6]),(a8++[b4]),(a2++[b8]))))))):Option (A4×A4×A4)).bind (λs=>W2.k31 a6 s.1 s.2.1 s.2.2)) (some (.inr (a7,a8,a2)))
def W2.k33(t_:C6)(a2 a6 a7:A4):Option (I6×Int):=some ((⟨(⟨t_.I,0,a2,a6⟩:A9),a7⟩:I6),0)
def W2(t_:C6)(o_:A7):Option (I6×Int):=(M9 t_ o_).bind λa2=>cond (decide (a2.2≠0)) (some ((⟨(⟨0,0,[],[]⟩:A9),[]⟩:I6),a2.2)) ((cC a2.1).bind λa6=>(R4 a2.1).bind λa7=>(cond (a6.2.2) (some true) (some a7.2.2)).bind (λa8=>cond (a8) (some ((⟨(⟨0,0,[],[]⟩:A9),[]⟩:I6),10)) (cond (decide (128<(a2.1.rows.length:Int))) (some ((⟨(⟨0,0,[],[]⟩:A9),[]⟩:I6),11)) ((iter (λ(s:A4×A4×A4×Nat)=>W2.s32 t_ a2 s.1 s.2.1 s.2.2.1 s.2.2.2) fuel ([],[],[],0)).bind (λs=>W2.k33 t_ s.1 s.2.1 s.2.2)))))
def lV(l_:E1)(o_:A7):Option (I6×Int):=(nG l_ o_).bind λa2=>cond (decide (a2≠0)) (some ((⟨(⟨0,0,[],[]⟩:A9),[]⟩:I6),a2)) ((jK l_).bind λa7=>(W2 a7 o_).bind λa6=>some (a6.1,a6.2))
def sV:Option Bool:=(mS 2).bind λa8=>(L23_Gate).bind λb3=>(eB a8.1 b3).bind λa2=>(mS 1).bind λa7=>(fL a7.1 (⟨1,[(⟨[0,0,0],[0,0,1]⟩:B0)]⟩:A7) (⟨[],0,[0,0]⟩:N5)).bind λa6=>(lV a7.1 (⟨1,[(⟨[0,0,0],[0,0,1]⟩:B0)]⟩:A7)).bind λb2=>(cond (decide (a8.2≠0)) (some true) (cond (decide (a2.2.2.2≠0)) (some true) (cond (decide (a7.2≠0)) (some true) (cond (decide (a6.2.2≠0)) (some true) (cond (decide (b2.2≠0)) (some true) (cond (a2.2.2.1) (some true) (cond (decide ((a2.2.1.length:Int)≠0)) (some true) (some (decide ((a6.2.1.length:Int)≠0)))))))))).bind (λb4=>cond (b4) (some false) (((lT a2.1.Short [[],[0]]).bind λb5=>cond (b5) ((lT a6.1.Short [[],[0]]).bind λb6=>cond (b6) ((lT a6.1.X [[0]]).bind λb7=>cond (b7) (some (decide ((b2.1.M.N.length:Int)=1))) (some false)) (some false)) (some false)).bind (λb8=>some b8)))
def yB(m_:kV)(s_ a_:Int):Option (Int×Int):=idx m_.Mealy.N s_ λa2=>idx a2 a_ λa6=>idx m_.Mealy.O s_ λa7=>idx a7 a_ λa8=>some (a6,a8)
def cQ.s2(r_:eJ)(w_:A2)(a7:Int)(a2:A2)(a6:Nat):Option ((Int×A2×Nat)⊕(Int×A2)):=cond (decide ((a6:Int)<(w_.length:Int))) (idxn w_ a6 λb2=>(yB r_.machine a7 b2).bind λa8=>chk (E0 (List.length a2+1) 8) (some (.inl (a8.1,(a2++[a8.2]),(a6+1))))) (some (.inr (a7,a2)))
def cQ.k3(r_:eJ)(a2:Int)(a6:A2):Option (A2×eJ):=some (a6,(⟨r_.machine,a2⟩:eJ))
def cQ(r_:eJ)(w_:A2):Option (A2×eJ):=(iter (λ(s:Int×A2×Nat)=>cQ.s2 r_ w_ s.1 s.2.1 s.2.2) fuel (r_.at_,[],0)).bind (λs=>cQ.k3 r_ s.1 s.2)
def aI.s13(m_:A9)(a6 a2:Nat):Option (Nat⊕(Unit⊕(Nat⊕(Unit⊕Int)))):=cond (decide ((a2:Int)<m_.I)) (idxn m_.N a6 λb2=>idxn b2 a2 λa7=>idxn m_.O a6 λb3=>idxn b3 a2 λa8=>(cond (decide (a7<0)) (some true) (cond (decide ((m_.N.length:Int)<=a7)) (some true) (cond (decide (a8<0)) (some true) (some (decide (1048576<a8)))))).bind (λb4=>cond (b4) (some (.inr (.inr (.inr (.inr 2))))) (chk (inR ((a2:Int)+1)) (some (.inl (a2+1)))))) (some (.inr (.inl ())))
def aI.s14(m_:A9)(a2:Nat):Option (Nat⊕(Unit⊕Int)):=cond (decide ((a2:Int)<(m_.N.length:Int))) ((idxn m_.N a2 λa6=>cond (decide ((a6.length:Int)≠m_.I)) (some true) (idxn m_.O a2 λa7=>some (decide ((a7.length:Int)≠m_.I)))).bind (λa8=>cond (a8) (some (.inr (.inr 1))) ((iter (λ(s:Nat)=>aI.s13 m_ a2 s) fuel 0).bind (Sum.elim (λ_=>some (.inl (a2+1))) some)))) (some (.inr (.inl ())))
def aI(m_:A9):Option Int:=(cond (decide (m_.I<1)) (some true) (some (decide (64<m_.I)))).bind (λa2=>cond (a2) (some 2) (cond (decide ((m_.N.length:Int)=0)) (some 19) (cond (decide (128<(m_.N.length:Int))) (some 11) ((cond (decide (m_.S<0)) (some true) (some (decide ((m_.N.length:Int)<=m_.S)))).bind (λa6=>cond (a6) (some 2) (cond (decide ((m_.O.length:Int)≠(m_.N.length:Int))) (some 1) ((iter (λ(s:Nat)=>aI.s14 m_ s) fuel 0).bind (Sum.elim (λ_=>some 0) some))))))))
def xI(m_:A9)(s_:Int):Option Int:=(aI m_).bind λa2=>cond (decide (a2≠0)) (some a2) ((cond (decide (s_<0)) (some true) (some (decide ((m_.N.length:Int)<=s_)))).bind (λa6=>cond (a6) (some 2) (some 0)))
def qD(m_:A9)(s_:Int)(w_:A2):Option (A2×Int×Int):=(xI m_ s_).bind λa2=>cond (decide (a2≠0)) (some ([],0,a2)) ((gS w_ m_.I).bind λa6=>cond (decide (a6≠0)) (some ([],0,a6)) ((cQ (⟨(⟨m_⟩:kV),s_⟩:eJ) w_).bind λa7=>some (a7.1,a7.2.at_,0)))
def sD(m_:A9)(w_:A2):Option (A2×Int):=(qD m_ m_.S w_).bind λa2=>some (a2.1,a2.2.2)
def qR(t_:B0):Option B0:=(cA t_.In).bind λa2=>(cA t_.O).bind λa6=>some (⟨a2,a6⟩:B0)
def gZ.s2(l_ a2:List B0)(a6:Nat):Option ((List B0×Nat)⊕List B0):=cond (decide ((a6:Int)<(l_.length:Int))) (idxn l_ a6 λa7=>(qR a7).bind λa8=>chk (E0 (List.length a2+1) 48) (some (.inl ((a2++[a8]),(a6+1))))) (some (.inr a2))
def gZ(l_:List B0):Option (List B0):=chk ((0:Int)<=0/\0<=((l_.length:Int)+1)/\E0 (Int.toNat ((l_.length:Int)+1)) 48) ((iter (λ(s:List B0×Nat)=>gZ.s2 l_ s.1 s.2) fuel ([],0)).bind (λa2=>some a2))
def iF.s2(x_:List B0)(target_:B0)(cmp_:B0->B0->Option Int)(a2 a6:Int):Option ((Int×Int)⊕Int):=cond (decide (a2<a6)) (chk (inR (a2+a6)) (chk ((0:Int)<=(a2+a6)/\(a2+a6)<=18446744073709551615) (chk ((0:Int)<=(a2+a6)/\(a2+a6)<=18446744073709551615) (chk (inR ((a2+a6) / 2^1)) (idx x_ ((a2+a6) / 2^1) λa7=>(cmp_ a7 target_).bind λa8=>cond (decide (a8<0)) (chk (inR (((a2+a6) / 2^1)+1)) (some (.inl ((((a2+a6) / 2^1)+1),a6)))) (some (.inl (a2,((a2+a6) / 2^1))))))))) (some (.inr a2))
def iF(x_:List B0)(target_:B0)(cmp_:B0->B0->Option Int):Option (Int×Bool):=(iter (λ(s:Int×Int)=>iF.s2 x_ target_ cmp_ s.1 s.2) fuel (0,(x_.length:Int))).bind (λa2=>(cond (decide (a2<(x_.length:Int))) (idx x_ a2 λa6=>(cmp_ a6 target_).bind λa7=>some (decide (a7=0))) (some false)).bind (λa8=>some (a2,a8)))
def uA(a_ b_:B0):Option Int:=(fN a_.In b_.In).bind λa2=>chk ((0:Int)<=(min (min a2 (a_.O.length:Int)) (b_.O.length:Int))/\(min (min a2 (a_.O.length:Int)) (b_.O.length:Int))<=(a_.O.length:Int)) (chk ((0:Int)<=(min (min a2 (a_.O.length:Int)) (b_.O.length:Int))/\(min (min a2 (a_.O.length:Int)) (b_.O.length:Int))<=(b_.O.length:Int)) ((fN (List.take (Int.toNat (min (min a2 (a_.O.length:Int)) (b_.O.length:Int))) a_.O) (List.take (Int.toNat (min (min a2 (a_.O.length:Int)) (b_.O.length:Int))) b_.O)).bind λa6=>cond (decide (a6<(min (min a2 (a_.O.length:Int)) (b_.O.length:Int)))) (some a6) (some (-1:Int))))
def tT(u_ p1_:B0):Option Bool:=(jN p1_.In u_.In).bind λa2=>some a2
def cF.s2(del_:B0->Option Bool)(a2:List B0)(a6 a7:Int):Option ((List B0×Int×Int)⊕(List B0×Int)):=cond (decide (a7<(a2.length:Int))) (idx a2 a7 λa8=>(del_ a8).bind λb2=>cond ((!b2)) (idx a2 a6 λb3=>chk (inR (a6+1)) (chk (inR (a7+1)) (some (.inl ((List.set a2 a6.toNat a8),(a6+1),(a7+1)))))) (chk (inR (a7+1)) (some (.inl (a2,a6,(a7+1)))))) (some (.inr (a2,a6)))
def cF.k3(a6:List B0)(a2:Int):Option (List B0):=chk ((0:Int)<=a2/\a2<=(a6.length:Int)/\0<List.length a6) (chk ((Int.toNat a2)<=List.length a6) (chk ((0:Int)<=a2/\a2<=(↑(List.length (List.take (Int.toNat a2) a6++List.replicate (List.length a6-(Int.toNat a2)) (⟨[],[]⟩:B0))):Int)/\0<List.length (List.take (Int.toNat a2) a6++List.replicate (List.length a6-(Int.toNat a2)) (⟨[],[]⟩:B0))) (some (List.take (Int.toNat a2) (List.take (Int.toNat a2) a6++List.replicate (List.length a6-(Int.toNat a2)) (⟨[],[]⟩:B0))))))
def cF(s_:List B0)(del_:B0->Option Bool):Option (List B0):=(cE s_ del_).bind λa2=>cond (decide (a2=(-1:Int))) (some s_) (chk (inR (a2+1)) ((iter (λ(s:List B0×Int×Int)=>cF.s2 del_ s.1 s.2.1 s.2.2) fuel (s_,a2,(a2+1))).bind (λs=>cF.k3 s.1 s.2)))
def kU(a_ b_:B0):Option Int:=(bY a_.In b_.In).bind λa2=>some a2
def gV.s2(l_:List B0)(t_:B0)(inside79:Bool)(a2:Nat):Option ((Bool×Nat)⊕(Bool⊕(List B0×Int))):=cond (decide ((a2:Int)<(l_.length:Int))) (idxn l_ a2 λa6=>(uA a6 t_).bind λa7=>cond (decide (0<=a7)) (some (.inr (.inr ([],13)))) (cond (inside79) (some (.inl (true,(a2+1)))) ((jN a6.In t_.In).bind λa8=>some (.inl (a8,(a2+1)))))) (some (.inr (.inl inside79)))
def gV(l_:List B0)(t_:B0):Option (List B0×Int):=(iter (λ(s:Bool×Nat)=>gV.s2 l_ t_ s.1 s.2) fuel (false,0)).bind (Sum.elim (λinside73=>(cond (inside73) (some true) (some (decide ((t_.In.length:Int)=0)))).bind (λb2=>cond (b2) (some (l_,0)) ((cF l_ (λu0=>tT u0 t_)).bind λa2=>cond (decide ((a2.length:Int)=10000)) (some ([],11)) ((iF a2 t_ (λu0 u1=>kU u0 u1)).bind λa6=>(qR t_).bind λa7=>(CL a2 a6.1 [a7]).bind λa8=>some (a8,0))))) some)
def uE(o_:Int):Option Bool:=(cond (decide (o_<0)) (some true) (some (decide (1048576<o_)))).bind (λa2=>some a2)
def tW(t_:B0)(inputs_:Int):Option Int:=(gS t_.In inputs_).bind λa2=>cond (decide (a2≠0)) (some a2) (cond (decide ((t_.O.length:Int)≠(t_.In.length:Int))) (some 1) ((uO t_.O (λu0=>uE u0)).bind λa6=>cond (a6) (some 2) (some 0)))
def fK.s2(o_:A7)(l_ a7:List B0)(a2:Nat):Option ((List B0×Nat)⊕(List B0⊕(A7×Int))):=cond (decide ((a2:Int)<(l_.length:Int))) (idxn l_ a2 λa8=>(tW a8 o_.I).bind λb2=>cond (decide (b2≠0)) (some (.inr (.inr (o_,b2)))) ((gV a7 a8).bind λa6=>cond (decide (a6.2≠0)) (some (.inr (.inr (o_,a6.2)))) (some (.inl (a6.1,(a2+1)))))) (some (.inr (.inl a7)))
def fK(o_:A7)(l_:List B0):Option (A7×Int):=(gZ o_.T).bind λa2=>(iter (λ(s:List B0×Nat)=>fK.s2 o_ l_ s.1 s.2) fuel (a2,0)).bind (Sum.elim (λa6=>some ((⟨o_.I,a6⟩:A7),0)) some)
def tG(o_:A7)(t_:B0):Option (A7×Int):=(fK o_ [t_]).bind λa2=>some (a2.1,a2.2)
def X0.s2(m_:A9)(words_:A4)(a6:Int)(a7:List B0)(a8:Nat):Option ((Int×List B0×Nat)⊕((Int×List B0)⊕(A7×Int))):=cond (decide ((a8:Int)<(words_.length:Int))) (idxn words_ a8 λb3=>(sD m_ b3).bind λb2=>cond (decide (b2.2≠0)) (some (.inr (.inr ((⟨a6,a7⟩:A7),b2.2)))) ((tG (⟨a6,a7⟩:A7) (⟨b3,b2.1⟩:B0)).bind λa2=>cond (decide (a2.2≠0)) (some (.inr (.inr (a2.1,a2.2)))) (some (.inl (a2.1.I,a2.1.T,(a8+1)))))) (some (.inr (.inl (a6,a7))))
def X0.k3(a2:Int)(a6:List B0):Option (A7×Int):=some ((⟨a2,a6⟩:A7),0)
def X0(m_:A9)(o_:A7)(words_:A4):Option (A7×Int):=(iter (λ(s:Int×List B0×Nat)=>X0.s2 m_ words_ s.1 s.2.1 s.2.2) fuel (o_.I,o_.T,0)).bind (Sum.elim (λs=>X0.k3 s.1 s.2) some)
def eM.s2(h_:I6)(a2:Nat):Option (Nat⊕(Unit⊕Int)):=cond (decide ((a2:Int)<(h_.Access.length:Int))) (idxn h_.Access a2 λa7=>(qD h_.M h_.M.S a7).bind λa6=>cond (decide (a6.2.2≠0)) (some (.inr (.inr a6.2.2))) (cond (decide (a6.2.1≠(a2:Int))) (some (.inr (.inr 15))) (some (.inl (a2+1))))) (some (.inr (.inl ())))
def eM(h_:I6):Option Int:=(aI h_.M).bind λa2=>cond (decide (a2≠0)) (some a2) (cond (decide ((h_.Access.length:Int)≠(h_.M.N.length:Int))) (some 1) ((iter (λ(s:Nat)=>eM.s2 h_ s) fuel 0).bind (Sum.elim (λ_=>idx h_.Access h_.M.S λa6=>cond (decide ((a6.length:Int)≠0)) (some 10) (some 0)) some)))
def bZ.s2(h_:I6)(w_ a2 a6:A2)(a8:Int)(a7:Nat):Option ((A2×A2×Int×Nat)⊕(A2×A2)):=cond (decide ((a7:Int)<(w_.length:Int))) (idxn w_ a7 λb2=>idx h_.M.O a8 λb4=>idx b4 b2 λb5=>chk (E0 (List.length a6+1) 8) (idx h_.M.N a8 λb6=>idx b6 b2 λb3=>chk (E0 (List.length a2+1) 8) (some (.inl ((a2++[b3]),(a6++[b5]),b3,(a7+1)))))) (some (.inr (a2,a6)))
def bZ.k3(h_:I6)(o_:A7)(w_:A2)(a7:A2×Bool)(a8 a6:A2):Option (Option bL×Int):=(bN a7.1 a6).bind λa2=>cond (a2) (some (none,8)) (some ((some (⟨h_,o_,w_,a8,a6⟩:bL)),0))
def bZ(h_:I6)(o_:A7)(w_:A2):Option (Option bL×Int):=(eM h_).bind λa2=>cond (decide (a2≠0)) (some (none,a2)) (cond (decide (h_.M.I≠o_.I)) (some (none,15)) ((gS w_ o_.I).bind λa6=>cond (decide (a6≠0)) (some (none,a6)) ((jM o_ w_).bind λa7=>cond ((!a7.2)) (some (none,12)) ((iter (λ(s:A2×A2×Int×Nat)=>bZ.s2 h_ w_ s.1 s.2.1 s.2.2.1 s.2.2.2) fuel ([h_.M.S],[],h_.M.S,0)).bind (λs=>bZ.k3 h_ o_ w_ a7 s.1 s.2)))))
def qV(x_:bL)(i_:Int):Option A2:=idx x_.states i_ λa2=>idx x_.h.Access a2 λa6=>chk ((0:Int)<=i_/\i_<=(x_.w.length:Int)) ((aX [a6,(List.drop (Int.toNat i_) x_.w)]).bind λa7=>some a7)
def qX(x_:bL)(i_:Int):Option A2:=(qV x_ i_).bind λa6=>(jM x_.o a6).bind λa2=>chk (inR ((x_.w.length:Int)-i_)) (chk (inR ((a2.1.length:Int)-((x_.w.length:Int)-i_))) (chk ((0:Int)<=((a2.1.length:Int)-((x_.w.length:Int)-i_))/\((a2.1.length:Int)-((x_.w.length:Int)-i_))<=(a2.1.length:Int)) (some (List.drop (Int.toNat ((a2.1.length:Int)-((x_.w.length:Int)-i_))) a2.1))))
def uN(i_:Int)(p1_:bL):Option Bool:=(qX p1_ i_).bind λa2=>chk ((0:Int)<=i_/\i_<=(p1_.outs.length:Int)) ((bN a2 (List.drop (Int.toNat i_) p1_.outs)).bind λa6=>some (!a6))
def uK(x_:bL)(i_:Int):Option (N5×A2×Int):=(qX x_ i_).bind λa2=>idxn a2 0 λa6=>idx x_.outs i_ λa7=>cond (decide (a6≠a7)) (some ((⟨[],0,[]⟩:N5),[],15)) (idx x_.states i_ λa8=>idx x_.h.Access a8 λb2=>(cA b2).bind λb3=>idx x_.w i_ λb4=>chk (inR (i_+1)) (chk ((0:Int)<=(i_+1)/\(i_+1)<=(x_.w.length:Int)) ((cA (List.drop (Int.toNat (i_+1)) x_.w)).bind λb5=>some ((⟨b3,b4,b5⟩:N5),[],0))))
def dO.s2(x_:bL)(next_:Int->Int->Option Int)(lo90 hi91:Int):Option ((Int×Int)⊕(Int⊕(N5×A2×Int))):=chk (inR (hi91-lo90)) (cond (decide (1<(hi91-lo90))) ((next_ lo90 hi91).bind λa2=>(qV x_ a2).bind λa6=>cond (decide (1024<(a6.length:Int))) (some (.inr (.inr ((⟨[],0,[]⟩:N5),[],3)))) ((jM x_.o a6).bind λa7=>cond ((!a7.2)) (some (.inr (.inr ((⟨[],0,[]⟩:N5),a6,0)))) ((uN a2 x_).bind λa8=>cond (a8) (some (.inl (a2,hi91))) (some (.inl (lo90,a2)))))) (some (.inr (.inl lo90))))
def dO(x_:bL)(next_:Int->Int->Option Int):Option (N5×A2×Int):=(iter (λ(s:Int×Int)=>dO.s2 x_ next_ s.1 s.2) fuel (0,(x_.w.length:Int))).bind (Sum.elim (λlo81=>(uK x_ lo81).bind λa2=>some (a2.1,a2.2.1,a2.2.2)) some)
def jO(lo_ hi_:Int):Option Int:=chk (inR (lo_+hi_)) (chk (inR ((lo_+hi_) / 2)/\(0:Int)<=(lo_+hi_)/\(1:Int)<=2) (some ((lo_+hi_) / 2)))
def qK(h_:I6)(o_:A7)(w_:A2):Option (N5×A2×Int):=(bZ h_ o_ w_).bind λa2=>cond (decide (a2.2≠0)) (some ((⟨[],0,[]⟩:N5),[],a2.2)) (a2.1.bind λa7=>(dO a7 (λu0 u1=>jO u0 u1)).bind λa6=>some (a6.1,a6.2.1,a6.2.2))
def X3.s2(l_:E1)(m_:A9)(h_:I6)(w_:A2)(a7:Int)(a8:List B0)(b2:Int)(b3:A2)(b4:Int)(b5 query136:A2):Option ((Int×List B0×Int×A2×Int×A2×A2)⊕((Int×List B0×Int×A2×Int×A2)⊕(E1×A7×Int))):=(cond (decide (b2=0)) (some (decide (0<(query136.length:Int)))) (some false)).bind (λb6=>cond (b6) ((X0 m_ (⟨a7,a8⟩:A7) [query136]).bind λa2=>cond (decide (a2.2≠0)) (some (.inr (.inr (l_,a2.1,a2.2)))) ((qK h_ a2.1 w_).bind λa6=>some (.inl (a2.1.I,a2.1.T,a6.2.2,a6.1.Prefix,a6.1.Symbol,a6.1.Suffix,a6.2.1)))) (some (.inr (.inl (a7,a8,b2,b3,b4,b5)))))
def X3.s3(l_:E1)(m_:A9)(b2:A2)(b3:Int)(b4:A2)(a7:Int)(a8:List B0):Option ((Int×List B0)⊕(E1×A7×Int)):=(fL l_ (⟨a7,a8⟩:A7) (⟨b2,b3,b4⟩:N5)).bind λa2=>(cond (decide (a2.2.2≠0)) (some true) (some (decide ((a2.2.1.length:Int)=0)))).bind (λb5=>cond (b5) (some (.inr (a2.1,(⟨a7,a8⟩:A7),a2.2.2))) ((X0 m_ (⟨a7,a8⟩:A7) a2.2.1).bind λa6=>cond (decide (a6.2≠0)) (some (.inr (l_,a6.1,a6.2))) (some (.inl (a6.1.I,a6.1.T)))))
def X3.k4(l_:E1)(m_:A9)(a2:Int)(a6:List B0)(a7:Int)(a8:A2)(b2:Int)(b3:A2):Option (E1×A7×Int):=cond (decide (a7≠0)) (some (l_,(⟨a2,a6⟩:A7),a7)) (iter (λ(s:Int×List B0)=>X3.s3 l_ m_ a8 b2 b3 s.1 s.2) fuel (a2,a6))
def X3(l_:E1)(o_:A7)(m_:A9)(h_:I6)(w_:A2):Option (E1×A7×Int):=(X0 m_ o_ [w_]).bind λa2=>cond (decide (a2.2≠0)) (some (l_,a2.1,a2.2)) ((qK h_ a2.1 w_).bind λa6=>(iter (λ(s:Int×List B0×Int×A2×Int×A2×A2)=>X3.s2 l_ m_ h_ w_ s.1 s.2.1 s.2.2.1 s.2.2.2.1 s.2.2.2.2.1 s.2.2.2.2.2.1 s.2.2.2.2.2.2) fuel (a2.1.I,a2.1.T,a6.2.2,a6.1.Prefix,a6.1.Symbol,a6.1.Suffix,a6.2.1)).bind (Sum.elim (λs=>X3.k4 l_ m_ s.1 s.2.1 s.2.2.1 s.2.2.2.1 s.2.2.2.2.1 s.2.2.2.2.2) some))
def jL.s2(a_ b_:A9)(a2:Nat):Option (Nat⊕(Unit⊕Int)):=cond (decide ((a2:Int)<2)) (cond (decide ((a2:Int)=0)) ((aI a_).bind λa6=>cond (decide (a6≠0)) (some (.inr (.inr a6))) (some (.inl (a2+1)))) (chk ((a2:Int)=1) ((aI b_).bind λa7=>cond (decide (a7≠0)) (some (.inr (.inr a7))) (some (.inl (a2+1)))))) (some (.inr (.inl ())))
def jL(a_ b_:A9):Option Int:=(iter (λ(s:Nat)=>jL.s2 a_ b_ s) fuel 0).bind (Sum.elim (λ_=>cond (decide (a_.I≠b_.I)) (some 15) (some 0)) some)
def T9.s2(a_ b_:A9)(a6:List (List Bool))(a2:Nat):Option ((List (List Bool)×Nat)⊕List (List Bool)):=cond (decide ((a2:Int)<(↑(List.length (List.replicate a_.N.length ([]:List Bool))):Int))) (chk ((0:Int)<=(b_.N.length:Int)/\(b_.N.length:Int)<=(b_.N.length:Int)/\E0 (Int.toNat (b_.N.length:Int)) 1) (idxn a6 a2 λa7=>chk (inR ((a2:Int)+1)) (some (.inl ((List.set a6 a2 (List.replicate b_.N.length false)),(a2+1)))))) (some (.inr a6))
def T9.s20(a_ b_:A9)(b5:Nat)(a6:X4)(a8:List (List Bool))(a7:List X4)(a2:Nat):Option ((List (List Bool)×List X4×Nat)⊕((List (List Bool)×List X4)⊕((List (List Bool)×List X4×Nat)⊕(Unit⊕(A2×Bool))))):=cond (decide ((a2:Int)<a_.I)) (idx a_.O a6.at_.s λb6=>idxn b6 a2 λb7=>idx b_.O a6.at_.t λb8=>idxn b8 a2 λb9=>cond (decide (b7≠b9)) (idxn a7 b5 λc0=>(aX [c0.word,[(a2:Int)]]).bind λc6=>some (.inr (.inr (.inr (.inr (c6,true)))))) (idx a_.N a6.at_.s λc7=>idxn c7 a2 λb2=>idx b_.N a6.at_.t λc8=>idxn c8 a2 λb3=>(cond ((!(decide (b2=a6.at_.s)&&(decide (b3=a6.at_.t)&&true)))) (idx a8 b2 λc9=>idx c9 b3 λd0=>some (!d0)) (some false)).bind (λd1=>cond (d1) (idx a8 b2 λb4=>idx b4 b3 λd4=>idxn a7 b5 λd2=>(aX [d2.word,[(a2:Int)]]).bind λd3=>chk (E0 (List.length a7+1) 40) (chk (inR ((a2:Int)+1)) (some (.inl ((List.set a8 (Int.toNat b2) (List.set b4 (Int.toNat b3) true)),(a7++[(⟨(⟨b2,b3⟩:fP),d3⟩:X4)]),(a2+1)))))) (chk (inR ((a2:Int)+1)) (some (.inl (a8,a7,(a2+1)))))))) (some (.inr (.inl (a8,a7))))
def T9.k21(a7:Nat)(a2:List (List Bool))(a6:List X4):Option ((List (List Bool)×List X4×Nat)⊕(Unit⊕(A2×Bool))):=some (.inl (a2,a6,(a7+1)))
def T9.s22(a_ b_:A9)(a8:List (List Bool))(a6:List X4)(a2:Nat):Option ((List (List Bool)×List X4×Nat)⊕(Unit⊕(A2×Bool))):=cond (decide ((a2:Int)<(a6.length:Int))) (idxn a6 a2 λa7=>(iter (λ(s:List (List Bool)×List X4×Nat)=>T9.s20 a_ b_ a2 a7 s.1 s.2.1 s.2.2) fuel (a8,a6,0)).bind (Sum.elim (λs=>T9.k21 a2 s.1 s.2) some)) (some (.inr (.inl ())))
def T9(a_ b_:A9)(first_:fP):Option (A2×Bool):=chk ((0:Int)<=(a_.N.length:Int)/\(a_.N.length:Int)<=(a_.N.length:Int)/\E0 (Int.toNat (a_.N.length:Int)) 24) ((iter (λ(s:List (List Bool)×Nat)=>T9.s2 a_ b_ s.1 s.2) fuel ((List.replicate a_.N.length ([]:List Bool)),0)).bind (λa2=>idx a2 first_.s λa6=>idx a6 first_.t λa7=>(iter (λ(s:List (List Bool)×List X4×Nat)=>T9.s22 a_ b_ s.1 s.2.1 s.2.2) fuel ((List.set a2 (Int.toNat first_.s) (List.set a6 (Int.toNat first_.t) true)),[(⟨first_,[]⟩:X4)],0)).bind (Sum.elim (λ_=>some ([],false)) some)))
def lA(a_ b_:A9):Option (A2×Bool×Int):=(jL a_ b_).bind λa2=>cond (decide (a2≠0)) (some ([],false,a2)) ((T9 a_ b_ (⟨a_.S,b_.S⟩:fP)).bind λa6=>some (a6.1,a6.2,0))
def bX.k3(a2:Int)(a6 a7:A4)(a8:Int)(b2:List B0)(rounds151:Nat):Option ((Int×A4×A4×Int×List B0×Nat)⊕(I6×A7×Int×Int)):=some (.inl (a2,a6,a7,a8,b2,rounds151))
def bX.s4(m_:A9)(b5:Int)(b6 b7:A4)(b3:Int)(b4:List B0)(rounds94:Nat):Option ((Int×A4×A4×Int×List B0×Nat)⊕(I6×A7×Int×Int)):=((eB (⟨b5,b6,b7⟩:E1) (⟨b3,b4⟩:A7)).bind λa2=>cond (decide (a2.2.2.2≠0)) (some (.inr (.inr ((⟨(⟨0,0,[],[]⟩:A9),[]⟩:I6),(⟨0,[]⟩:A7),0,a2.2.2.2)))) ((X0 m_ (⟨b3,b4⟩:A7) a2.2.1).bind λa6=>cond (decide (a6.2≠0)) (some (.inr (.inr ((⟨(⟨0,0,[],[]⟩:A9),[]⟩:I6),(⟨0,[]⟩:A7),0,a6.2)))) (cond ((!a2.2.2.1)) (some (.inl (a2.1.I,a2.1.Short,a2.1.X,a6.1.I,a6.1.T,rounds94))) ((lV a2.1 a6.1).bind λa8=>cond (decide (a8.2≠0)) (some (.inr (.inr ((⟨(⟨0,0,[],[]⟩:A9),[]⟩:I6),(⟨0,[]⟩:A7),0,a8.2)))) (chk (inR ((rounds94:Int)+1)) ((lA a8.1.M m_).bind λb2=>cond (decide (b2.2.2≠0)) (some (.inr (.inr ((⟨(⟨0,0,[],[]⟩:A9),[]⟩:I6),(⟨0,[]⟩:A7),0,b2.2.2)))) (cond ((!b2.2.1)) (some (.inr (.inr (a8.1,a6.1,((rounds94:Int)+1),0)))) ((X3 a2.1 a6.1 m_ a8.1 b2.1).bind λa7=>cond (decide (a7.2.2≠0)) (some (.inr (.inr ((⟨(⟨0,0,[],[]⟩:A9),[]⟩:I6),(⟨0,[]⟩:A7),0,a7.2.2)))) (some (.inl (a7.1.I,a7.1.Short,a7.1.X,a7.2.1.I,a7.2.1.T,(rounds94+1))))))))))):Option ((Int×A4×A4×Int×List B0×Nat)⊕((Int×A4×A4×Int×List B0×Nat)⊕(I6×A7×Int×Int)))).bind (Sum.elim (λs=>bX.k3 s.1 s.2.1 s.2.2.1 s.2.2.2.1 s.2.2.2.2.1 s.2.2.2.2.2) some)
def bX(m_:A9):Option (I6×A7×Int×Int):=(aI m_).bind λa6=>cond (decide (a6≠0)) (some ((⟨(⟨0,0,[],[]⟩:A9),[]⟩:I6),(⟨0,[]⟩:A7),0,a6)) ((mS m_.I).bind λa2=>cond (decide (a2.2≠0)) (some ((⟨(⟨0,0,[],[]⟩:A9),[]⟩:I6),(⟨0,[]⟩:A7),0,a2.2)) (iter (λ(s:Int×A4×A4×Int×List B0×Nat)=>bX.s4 m_ s.1 s.2.1 s.2.2.1 s.2.2.2.1 s.2.2.2.2.1 s.2.2.2.2.2) fuel (a2.1.I,a2.1.Short,a2.1.X,m_.I,[],0)))
def rR(inputs_:Int):Option Bool:=(cond (decide (1<=inputs_)) (some (decide (inputs_<=1024))) (some false)).bind (λa2=>some a2)
def eE.s2(w_:A2)(inputs_:Int)(a2:Nat):Option (Nat⊕(Unit⊕Int)):=cond (decide ((a2:Int)<(w_.length:Int))) ((idxn w_ a2 λa6=>cond (decide (a6<0)) (some true) (idxn w_ a2 λa7=>some (decide (inputs_<=a7)))).bind (λa8=>cond (a8) (some (.inr (.inr 1))) (some (.inl (a2+1))))) (some (.inr (.inl ())))
def eE(w_:A2)(inputs_:Int):Option Int:=(rR inputs_).bind λa2=>cond ((!a2)) (some 2) (cond (decide (1024<(w_.length:Int))) (some 3) ((iter (λ(s:Nat)=>eE.s2 w_ inputs_ s) fuel 0).bind (Sum.elim (λ_=>some 0) some)))
def aH.s2(m_:A9)(w_:A2)(s90:Int)(a6:A2)(a2:Nat):Option ((Int×A2×Nat)⊕(Int×A2)):=cond (decide ((a2:Int)<(w_.length:Int))) (idx m_.O s90 λa7=>idxn w_ a2 λa8=>idx a7 a8 λb2=>chk (E0 (List.length a6+1) 8) (idx m_.N s90 λb3=>idxn w_ a2 λb4=>idx b3 b4 λb5=>some (.inl (b5,(a6++[b2]),(a2+1))))) (some (.inr (s90,a6)))
def aH.k3(a2:Int)(a6:A2):Option (A2×Int):=some (a6,a2)
def aH(m_:A9)(s_:Int)(w_:A2):Option (A2×Int):=(iter (λ(s:Int×A2×Nat)=>aH.s2 m_ w_ s.1 s.2.1 s.2.2) fuel (s_,[],0)).bind (λs=>aH.k3 s.1 s.2)
def eF.s2(h_:I6)(a2:Nat):Option (Nat⊕(Unit⊕Int)):=cond (decide ((a2:Int)<(h_.Access.length:Int))) (idxn h_.Access a2 λa6=>(eE a6 h_.M.I).bind λa7=>cond (decide (a7≠0)) (some (.inr (.inr a7))) ((aH h_.M h_.M.S a6).bind λa8=>cond (decide (a8.2≠(a2:Int))) (some (.inr (.inr 15))) (some (.inl (a2+1))))) (some (.inr (.inl ())))
def eF(h_:I6):Option Int:=(S6 h_.M).bind λa2=>cond (decide (a2≠0)) (some a2) (cond (decide ((h_.Access.length:Int)≠(h_.M.N.length:Int))) (some 1) ((iter (λ(s:Nat)=>eF.s2 h_ s) fuel 0).bind (Sum.elim (λ_=>idx h_.Access h_.M.S λa6=>cond (decide (0<(a6.length:Int))) (some 10) (some 0)) some)))
def rK(a_ b_:A2):Option Int:=(fJ a_ b_).bind λa2=>(cond (decide (a2=(a_.length:Int))) (some (decide (a2=(b_.length:Int)))) (some false)).bind (λa6=>cond (a6) (some 0) ((cond (decide (a2=(a_.length:Int))) (some (decide (a2=(a_.length:Int)))) (cond (decide (a2<(b_.length:Int))) (idx a_ a2 λa7=>idx b_ a2 λa8=>some (decide (a7<a8))) (some false))).bind (λb2=>cond (b2) (some (-1:Int)) (some 1))))
def tN(a_ b_:A2):Option Int:=cond (decide ((a_.length:Int)<(b_.length:Int))) (some (-1:Int)) (cond (decide ((b_.length:Int)<(a_.length:Int))) (some 1) ((rK a_ b_).bind λa2=>some a2))
def jI.s2(t_:B0)(a2:Nat):Option (Nat⊕(Unit⊕Int)):=cond (decide ((a2:Int)<(t_.O.length:Int))) ((idxn t_.O a2 λa6=>cond (decide (a6<0)) (some true) (idxn t_.O a2 λa7=>some (decide (1048576<a7)))).bind (λa8=>cond (a8) (some (.inr (.inr 2))) (some (.inl (a2+1))))) (some (.inr (.inl ())))
def jI(t_:B0)(inputs_:Int):Option Int:=(eE t_.In inputs_).bind λa2=>cond (decide (a2≠0)) (some a2) (cond (decide ((t_.O.length:Int)≠(t_.In.length:Int))) (some 1) ((iter (λ(s:Nat)=>jI.s2 t_ s) fuel 0).bind (Sum.elim (λ_=>some 0) some)))
def qQ(w_ p_:A2):Option Bool:=(fJ w_ p_).bind λa2=>some (decide (a2=(p_.length:Int)))
def jJ.s2(a_ b_:B0)(a6:Int)(a2:Nat):Option (Nat⊕(Unit⊕Int)):=cond (decide ((a2:Int)<a6)) (idxn a_.O a2 λa7=>idxn b_.O a2 λa8=>cond (decide (a7≠a8)) (some (.inr (.inr (a2:Int)))) (chk (inR ((a2:Int)+1)) (some (.inl (a2+1))))) (some (.inr (.inl ())))
def jJ(a_ b_:B0):Option Int:=(fJ a_.In b_.In).bind λa2=>(iter (λ(s:Nat)=>jJ.s2 a_ b_ a2 s) fuel 0).bind (Sum.elim (λ_=>some (-1:Int)) some)
def Z6.s30(o_:A7)(a6:Nat)(prefix714 clash715:Bool)(a2:Nat):Option ((Bool×Bool×Nat)⊕(Bool×Bool)):=cond (decide ((a2:Int)<(o_.T.length:Int))) ((cond (prefix714) (some true) (idxn o_.T a2 λa7=>idxn o_.T a6 λa8=>(qQ a7.In a8.In).bind λb2=>some b2)).bind (λprefix741=>cond (clash715) (some (.inl (prefix741,true,(a2+1)))) (idxn o_.T a6 λb3=>idxn o_.T a2 λb4=>(jJ b3 b4).bind λb5=>some (.inl (prefix741,decide (0<=b5),(a2+1)))))) (some (.inr (prefix714,clash715)))
def Z6.k31(a2:Nat)(prefix693 clash694:Bool):Option (Nat⊕(Unit⊕Int)):=cond (prefix693) (some (.inr (.inr 7))) (cond (clash694) (some (.inr (.inr 13))) (some (.inl (a2+1))))
def Z6.s32(o_:A7)(a2:Nat):Option (Nat⊕(Unit⊕Int)):=cond (decide ((a2:Int)<(o_.T.length:Int))) ((iter (λ(s:Bool×Bool×Nat)=>Z6.s30 o_ a2 s.1 s.2.1 s.2.2) fuel (false,false,(a2+1))).bind (λs=>Z6.k31 a2 s.1 s.2)) (some (.inr (.inl ())))
def Z6(o_:A7):Option Int:=(iter (λ(s:Nat)=>Z6.s32 o_ s) fuel 0).bind (Sum.elim (λ_=>some 0) some)
def jF.s2(o_:A7)(a2:Nat):Option (Nat⊕(Unit⊕Int)):=cond (decide ((a2:Int)<(o_.T.length:Int))) (idxn o_.T a2 λa6=>(eE a6.In o_.I).bind λa7=>cond (decide (a7≠0)) (some (.inr (.inr a7))) (cond (decide ((a6.In.length:Int)=0)) (some (.inr (.inr 19))) ((jI a6 o_.I).bind λa8=>cond (decide (a8≠0)) (some (.inr (.inr a8))) ((cond (decide (0<(a2:Int))) (idx o_.T ((a2:Int)-1) λb2=>(tN b2.In a6.In).bind λb3=>some (decide (0<=b3))) (some false)).bind (λb4=>cond (b4) (some (.inr (.inr 10))) (some (.inl (a2+1)))))))) (some (.inr (.inl ())))
def jF(o_:A7):Option Int:=(cond (decide (o_.I<1)) (some true) (some (decide (64<o_.I)))).bind (λa6=>cond (a6) (some 2) (cond (decide (10000<(o_.T.length:Int))) (some 11) ((iter (λ(s:Nat)=>jF.s2 o_ s) fuel 0).bind (Sum.elim (λ_=>(Z6 o_).bind λa2=>some a2) some))))
def R8.s89(m_:A9)(class_:A2)(a6:Nat)(a7:Int)(same5139:Bool)(a2:Nat):Option ((Bool×Nat)⊕Bool):=(cond (decide ((a2:Int)<m_.I)) (some same5139) (some false)).bind (λa8=>cond (a8) (idxn m_.O a6 λb2=>idxn b2 a2 λb3=>idx m_.O a7 λb4=>idxn b4 a2 λb5=>cond (decide (b3=b5)) (idxn m_.N a6 λb6=>idxn b6 a2 λb7=>idx class_ b7 λb8=>idx m_.N a7 λb9=>idxn b9 a2 λc0=>idx class_ c0 λc6=>chk (inR ((a2:Int)+1)) (some (.inl (decide (b8=c6),(a2+1))))) (chk (inR ((a2:Int)+1)) (some (.inl (false,(a2+1)))))) (some (.inr same5139)))
def R8.s90(m_:A9)(class_ a7:A2)(a6:Nat)(found4903 a2:Int):Option ((Int×Int)⊕Int):=cond (decide (0<=a2)) (idxn class_ a6 λa8=>idx class_ a2 λb2=>(iter (λ(s:Bool×Nat)=>R8.s89 m_ class_ a6 a2 s.1 s.2) fuel (decide (a8=b2),0)).bind (λsame5119=>cond (same5119) (idx a7 a2 λb3=>chk (inR (a2-1)) (some (.inl (b3,(a2-1))))) (chk (inR (a2-1)) (some (.inl (found4903,(a2-1))))))) (some (.inr found4903))
def R8.k91(a2:A2)(a6 count5200:Nat)(found5201:Int):Option ((A2×Nat×Nat)⊕A2):=chk (E0 (List.length a2+1) 8) (some (.inl ((a2++[found5201]),count5200,(a6+1))))
def R8.s92(m_:A9)(class_ a6:A2)(count3444 a2:Nat):Option ((A2×Nat×Nat)⊕A2):=cond (decide ((a2:Int)<(class_.length:Int))) ((iter (λ(s:Int×Int)=>R8.s90 m_ class_ a6 a2 s.1 s.2) fuel ((-1:Int),((a2:Int)-1))).bind (λfound4761=>(cond (decide (found4761<0)) (chk (inR ((count3444:Int)+1)) (some ((count3444+1),(count3444:Int)))) (some (count3444,found4761)):Option (Nat×Int)).bind (λs=>R8.k91 a6 a2 s.1 s.2))) (some (.inr a6))
def R8(m_:A9)(class_:A2):Option A2:=(iter (λ(s:A2×Nat×Nat)=>R8.s92 m_ class_ s.1 s.2.1 s.2.2) fuel ([],0,0)).bind (λa2=>some a2)
def gX.s2(m_:A9)(k_:Int)(class94:A2)(a2:Nat):Option ((A2×Nat)⊕A2):=(cond (decide ((a2:Int)<k_)) (some (decide ((a2:Int)<(m_.N.length:Int)))) (some false)).bind (λa6=>cond (a6) ((R8 m_ class94).bind λa7=>chk (inR ((a2:Int)+1)) (some (.inl (a7,(a2+1))))) (some (.inr class94)))
def gX(m_:A9)(k_:Int):Option (A2×Int):=(S6 m_).bind λa2=>cond (decide (a2≠0)) (some ([],a2)) (chk ((0:Int)<=(m_.N.length:Int)/\(m_.N.length:Int)<=(m_.N.length:Int)/\E0 (Int.toNat (m_.N.length:Int)) 8) ((iter (λ(s:A2×Nat)=>gX.s2 m_ k_ s.1 s.2) fuel ((List.replicate m_.N.length (0:Int)),0)).bind (λclass85=>some (class85,0))))
def nJ(m_:A9):Option (A2×Int):=(gX m_ (m_.N.length:Int)).bind λa2=>some (a2.1,a2.2)
def L1.s2(a2:A2)(a6:Nat):Option ((A2×Nat)⊕A2):=cond (decide ((a6:Int)<(a2.length:Int))) (idxn a2 a6 λa7=>some (.inl ((List.set a2 a6 (-1:Int)),(a6+1)))) (some (.inr a2))
def L1.k55(m_:A9)(c0:A2×Int)(b3:Nat)(a6 a7:A2)(a2:Nat)(b4:Int)(a8 b2:A2):Option ((A2×A2×A2×A2×Nat)⊕(A2×A2×A2×A2)):=idx c0.1 b4 λb5=>idx b2 b5 λb6=>chk (E0 (List.length a6+1) 8) (idxn a8 b3 λb7=>idx m_.O b7 λb8=>idxn b8 a2 λb9=>chk (E0 (List.length a7+1) 8) (chk (inR ((a2:Int)+1)) (some (.inl (a8,b2,(a6++[b6]),(a7++[b9]),(a2+1))))))
def L1.s56(m_:A9)(c0:A2×Int)(b2:Nat)(a2 a6 b3 b4:A2)(a8:Nat):Option ((A2×A2×A2×A2×Nat)⊕(A2×A2×A2×A2)):=cond (decide ((a8:Int)<m_.I)) (idxn a2 b2 λb6=>idx m_.N b6 λb7=>idxn b7 a8 λa7=>(idx c0.1 a7 λb8=>idx a6 b8 λb9=>cond (decide (b9<0)) (idx c0.1 a7 λb5=>idx a6 b5 λc6=>chk (E0 (List.length a2+1) 8) (some ((a2++[a7]),(List.set a6 b5.toNat (a2.length:Int))))) (some (a2,a6)):Option (A2×A2)).bind (λs=>L1.k55 m_ c0 b2 b3 b4 a8 a7 s.1 s.2)) (some (.inr (a2,a6,b3,b4)))
def L1.k57(a2 a6:A4)(a7:Nat)(a8 b2 b3 b4:A2):Option ((A2×A2×A4×A4×Nat)⊕(A4×A4)):=chk (E0 (List.length a2+1) 24) (chk (E0 (List.length a6+1) 24) (some (.inl (a8,b2,(a2++[b3]),(a6++[b4]),(a7+1)))))
def L1.s58(m_:A9)(b3:A2×Int)(a6 b2:A2)(a7 a8:A4)(a2:Nat):Option ((A2×A2×A4×A4×Nat)⊕(A4×A4)):=cond (decide ((a2:Int)<(a6.length:Int))) ((iter (λ(s:A2×A2×A2×A2×Nat)=>L1.s56 m_ b3 a2 s.1 s.2.1 s.2.2.1 s.2.2.2.1 s.2.2.2.2) fuel (a6,b2,[],[],0)).bind (λs=>L1.k57 a7 a8 a2 s.1 s.2.1 s.2.2.1 s.2.2.2)) (some (.inr (a7,a8)))
def L1.k59(m_:A9)(a2 a6:A4):Option (A9×Int):=some ((⟨m_.I,0,a2,a6⟩:A9),0)
def L1(m_:A9):Option (A9×Int):=(nJ m_).bind λa2=>cond (decide (a2.2≠0)) (some ((⟨0,0,[],[]⟩:A9),a2.2)) (chk ((0:Int)<=(m_.N.length:Int)/\(m_.N.length:Int)<=(m_.N.length:Int)/\E0 (Int.toNat (m_.N.length:Int)) 8) ((iter (λ(s:A2×Nat)=>L1.s2 s.1 s.2) fuel ((List.replicate m_.N.length (0:Int)),0)).bind (λa6=>idx a2.1 m_.S λa7=>idx a6 a7 λa8=>(iter (λ(s:A2×A2×A4×A4×Nat)=>L1.s58 m_ a2 s.1 s.2.1 s.2.2.1 s.2.2.2.1 s.2.2.2.2) fuel ([m_.S],(List.set a6 a7.toNat 0),[],[],0)).bind (λs=>L1.k59 m_ s.1 s.2))))
def nM(m_:A9):Option Bool:=(L1 m_).bind λa2=>(cond (decide (a2.2=0)) (some (decide ((a2.1.N.length:Int)=(m_.N.length:Int)))) (some false)).bind (λa6=>some a6)
def jC.s2(l_:A2)(n_:Int)(a2:Nat):Option (Nat⊕(Unit⊕Int)):=cond (decide ((a2:Int)<(l_.length:Int))) (idxn l_ a2 λa6=>cond (decide (a6=n_)) (some (.inr (.inr (a2:Int)))) (some (.inl (a2+1)))) (some (.inr (.inl ())))
def jC(l_:A2)(n_:Int):Option Int:=(iter (λ(s:Nat)=>jC.s2 l_ n_ s) fuel 0).bind (Sum.elim (λ_=>some 0) some)
def iY.s2(l_:A2)(n_:Int)(a2:Nat):Option (Nat⊕(Unit⊕Bool)):=cond (decide ((a2:Int)<(l_.length:Int))) (idxn l_ a2 λa6=>cond (decide (a6=n_)) (some (.inr (.inr true))) (some (.inl (a2+1)))) (some (.inr (.inl ())))
def iY(l_:A2)(n_:Int):Option Bool:=(iter (λ(s:Nat)=>iY.s2 l_ n_ s) fuel 0).bind (Sum.elim (λ_=>some false) some)
def aY.s13(m_:A9)(a7:Nat)(a2:A2)(a6:Nat):Option ((A2×Nat)⊕A2):=cond (decide ((a6:Int)<m_.I)) (idxn a2 a7 λa8=>idx m_.N a8 λb2=>idxn b2 a6 λb3=>(iY a2 b3).bind λb4=>cond ((!b4)) (idxn a2 a7 λb5=>idx m_.N b5 λb6=>idxn b6 a6 λb7=>chk (E0 (List.length a2+1) 8) (chk (inR ((a6:Int)+1)) (some (.inl ((a2++[b7]),(a6+1)))))) (chk (inR ((a6:Int)+1)) (some (.inl (a2,(a6+1)))))) (some (.inr a2))
def aY.s14(m_:A9)(a2:A2)(a6:Nat):Option ((A2×Nat)⊕A2):=cond (decide ((a6:Int)<(a2.length:Int))) ((iter (λ(s:A2×Nat)=>aY.s13 m_ a6 s.1 s.2) fuel (a2,0)).bind (λa7=>some (.inl (a7,(a6+1))))) (some (.inr a2))
def aY(m_:A9):Option A2:=(S6 m_).bind λa6=>cond (decide (a6≠0)) (some []) ((iter (λ(s:A2×Nat)=>aY.s14 m_ s.1 s.2) fuel ([m_.S],0)).bind (λa2=>some a2))
def S9.s18(m_:A9)(b2:A2)(a8:Nat)(a6 a7:A2)(a2:Nat):Option ((A2×A2×Nat)⊕(A2×A2)):=cond (decide ((a2:Int)<m_.I)) (idxn b2 a8 λb3=>idx m_.N b3 λb4=>idxn b4 a2 λb5=>(jC b2 b5).bind λb6=>chk (E0 (List.length a6+1) 8) (idxn b2 a8 λb7=>idx m_.O b7 λb8=>idxn b8 a2 λb9=>chk (E0 (List.length a7+1) 8) (chk (inR ((a2:Int)+1)) (some (.inl ((a6++[b6]),(a7++[b9]),(a2+1))))))) (some (.inr (a6,a7)))
def S9.k19(a2 a6:A4)(a7:Nat)(a8 b2:A2):Option ((A4×A4×Nat)⊕(A4×A4)):=chk (E0 (List.length a2+1) 24) (chk (E0 (List.length a6+1) 24) (some (.inl ((a2++[a8]),(a6++[b2]),(a7+1)))))
def S9.s20(m_:A9)(a8:A2)(a6 a7:A4)(a2:Nat):Option ((A4×A4×Nat)⊕(A4×A4)):=cond (decide ((a2:Int)<(a8.length:Int))) ((iter (λ(s:A2×A2×Nat)=>S9.s18 m_ a8 a2 s.1 s.2.1 s.2.2) fuel ([],[],0)).bind (λs=>S9.k19 a6 a7 a2 s.1 s.2)) (some (.inr (a6,a7)))
def S9.k21(m_:A9)(a2 a6:A4):Option (A9×Int):=some ((⟨m_.I,0,a2,a6⟩:A9),0)
def S9(m_:A9):Option (A9×Int):=(S6 m_).bind λa2=>cond (decide (a2≠0)) (some ((⟨0,0,[],[]⟩:A9),a2)) ((aY m_).bind λa6=>(iter (λ(s:A4×A4×Nat)=>S9.s20 m_ a6 s.1 s.2.1 s.2.2) fuel ([],[],0)).bind (λs=>S9.k21 m_ s.1 s.2))
def gL.s2(a_ b_:A2)(a2:Nat):Option (Nat⊕(Unit⊕Bool)):=cond (decide ((a2:Int)<(a_.length:Int))) (idxn a_ a2 λa6=>idxn b_ a2 λa7=>cond (decide (a6≠a7)) (some (.inr (.inr false))) (some (.inl (a2+1)))) (some (.inr (.inl ())))
def gL(a_ b_:A2):Option Bool:=cond (decide ((a_.length:Int)≠(b_.length:Int))) (some false) ((iter (λ(s:Nat)=>gL.s2 a_ b_ s) fuel 0).bind (Sum.elim (λ_=>some true) some))
def gN.s2(a_ b_:A4)(a2:Nat):Option (Nat⊕(Unit⊕Bool)):=cond (decide ((a2:Int)<(a_.length:Int))) (idxn a_ a2 λa6=>idxn b_ a2 λa7=>(gL a6 a7).bind λa8=>cond ((!a8)) (some (.inr (.inr false))) (some (.inl (a2+1)))) (some (.inr (.inl ())))
def gN(a_ b_:A4):Option Bool:=cond (decide ((a_.length:Int)≠(b_.length:Int))) (some false) ((iter (λ(s:Nat)=>gN.s2 a_ b_ s) fuel 0).bind (Sum.elim (λ_=>some true) some))
def rT(a_ b_:A9):Option Bool:=(cond (decide (a_.I=b_.I)) (cond (decide (a_.S=b_.S)) ((gN a_.N b_.N).bind λa2=>cond (a2) ((gN a_.O b_.O).bind λa6=>some a6) (some false)) (some false)) (some false)).bind (λa7=>some a7)
def sP(h_ m_:A9):Option Bool:=(L1 m_).bind λa2=>(S9 h_).bind λa6=>(cond (decide (a2.2=0)) (cond (decide (a6.2=0)) (cond (decide ((h_.N.length:Int)=(a2.1.N.length:Int))) ((rT a6.1 a2.1).bind λa7=>some a7) (some false)) (some false)) (some false)).bind (λa8=>some a8)
def gY.s2(m_:A9)(o_:A7)(a2:Nat):Option (Nat⊕(Unit⊕Bool)):=cond (decide ((a2:Int)<(o_.T.length:Int))) (idxn o_.T a2 λa6=>(aH m_ m_.S a6.In).bind λa7=>idxn o_.T a2 λa8=>(gL a7.1 a8.O).bind λb2=>cond ((!b2)) (some (.inr (.inr false))) (some (.inl (a2+1)))) (some (.inr (.inl ())))
def gY(m_:A9)(o_:A7):Option Bool:=(iter (λ(s:Nat)=>gY.s2 m_ o_ s) fuel 0).bind (Sum.elim (λ_=>some true) some)
def tV(m_:A9):Option Bool:=((sH m_).bind λb3=>cond ((!b3)) (some true) ((sE m_).bind λb4=>cond (b4) (some true) ((S6 m_).bind λb5=>some (decide (b5≠0))))).bind (λb6=>cond (b6) ((sV).bind λb7=>some b7) ((bX m_).bind λa2=>(cond (decide (a2.2.2.2≠0)) (some true) ((eF a2.1).bind λb8=>cond (decide (b8≠0)) (some true) ((jF a2.2.1).bind λb9=>cond (decide (b9≠0)) (some true) ((nM a2.1.M).bind λc0=>some (!c0))))).bind (λc6=>cond (c6) (some false) (((sP a2.1.M m_).bind λa6=>cond (a6) (cond (decide (a2.2.1.I=m_.I)) ((gY m_ a2.2.1).bind λa7=>cond (a7) ((gY a2.1.M a2.2.1).bind λa8=>cond (a8) (cond (decide (1<=a2.2.2.1)) (cond (decide (a2.2.2.1<=(a2.1.M.N.length:Int))) ((sV).bind λb2=>some b2) (some false)) (some false)) (some false)) (some false)) (some false)) (some false)).bind (λc7=>some c7)))))
section
section
variable {S R A B V G:Type}
def bA{step:S->Option (S⊕R)}(I:S->Prop)(m:S->Nat)(Q:R->Prop)(h:∀s,I s->(∃s',step s=some (.inl s')/\I s'/\m s'<m s)\/∃r,step s=some (.inr r)/\Q r) :
  ∀(n:Nat) (s:S),I s->m s<n->∃r,iter step n s=some r/\Q r
 |0,_,_,hm=>absurd hm (eP _)
 |n+1,s,hi,hm=>by
  unfold iter;rcases h s hi with⟨s',e,hi',hm'⟩|⟨r,e,hq⟩
  ·rw[e];exact bA I m Q h n s' hi' (by omega)
  ·rw[e];exact⟨r,rfl,hq⟩
def V3{step:S->Option (S⊕R)}{r:R}(I:S->Prop)(m:S->Nat)(h:∀s,I s->(∃s',step s=some (.inl s')/\I s'/\m s'<m s)\/step s=some (.inr r)){n:Nat}{s:S}(hi:I s)(hm:m s<n:=by have:=U7;(try simp only);omega):iter step n s=some r:=by
 obtain⟨r',e,rfl⟩:=bA I m (λr'=>r'=r) (λs hs=>(h s hs).imp id λe=>⟨r,e,rfl⟩) n s hi hm;exact e
def walk(g:A->Nat->V->Option (A⊕R))(fin:A->Option R):A->Nat->List V->Option R
 |a,_,[]=>fin a
 |a,i,x::l=>(g a i x).bind (Sum.elim (λa'=>walk g fin a' (i+1) l) some)
def C8{l:List V}{i:Nat}{x:V}{k:V->Option G}(h:l[i]?=some x):idxn l i k=k x:=by unfold idxn;rw[h]
def E8{l:List V}{n:Int}{i:Nat}{x:V}{k:V->Option G}(hn:n=(i:Int))(h:l[i]?=some x):idx l n k=k x:=by
 subst hn;unfold idx;rw[if_pos (by omega),O3,h]
def H7{c:Prop}[Decidable c]{k:Option V}(h:c):chk c k=k:=by unfold chk;rw[if_pos h]
def L0{V:Type _}{c:Prop}[Decidable c]{k:Option V}(h:c:=by unfold inR;omega):chk c k=k:=H7 h
def aK{V:Type _}{c:Prop}[Decidable c]{k:Option V}(h:c:=by unfold E0;omega):chk c k=k:=H7 h
def A6{a:V}{f:V->Option G}:(some a).bind f=f a:=(V6 a f).trans (Eq.trans rfl rfl)
def U7:100000000000000<fuel:=by unfold fuel;omega
def aG{S R:Type}{step:S->Option (S⊕R)}(I:S->Prop)(m:S->Nat)(Q:R->Prop)(h:∀s,I s->(∃s',step s=some (.inl s')/\I s'/\m s'<m s)\/∃r,step s=some (.inr r)/\Q r)(s:S)(hi:I s)(hm:m s<fuel:=by have:=U7;(try simp only);omega):∃r,iter step fuel s=some r/\Q r:=bA I m Q h fuel s hi hm
def K8{l:List V}{i:Nat}{x:V}(h:l[i]?=some x):decide ((i:Int)<(l.length:Int))=true:=by
 have:=(E4.1 h).1;simpa using this
def T7(l:List V):decide ((l.length:Int)<(l.length:Int))=false:=by simp
def scan(g:Nat->V->Option R):Nat->List V->Option R
 |_,[]=>none
 |i,x::l=>match g i x with|some r=>some r|none=>scan g (i+1) l
def V9{g:Nat->V->Option R}:∀{l:List V} {j:Nat},scan g j l=none↔∀i x,l[i]?=some x->g (j+i) x=none
 |[],j=>by simp[scan]
 |y::l,j=>by
  constructor
  ·intro h i x hx;unfold scan at h;cases e:g j y with
   |some r=>rw[e]at h;cases h
   |none =>
    rw[e]at h
    match i,hx with
    |0,hx =>
     simp at hx;subst hx;exact e
    |i+1,hx =>
     have:=(V9 (g:=g) (l:=l) (j:=j+1)).1 h i x (by simpa using hx)
     rwa [show j+1+i=j+(i+1) by omega]at this
  ·intro h;unfold scan;have h0:=h 0 y rfl;rw[X5]at h0;rw[h0]
   exact(V9 (g:=g) (l:=l) (j:=j+1)).2 λi x hx=>by
    have:=h (i+1) x (by simpa using hx)
    rwa [show j+(i+1)=j+1+i by omega]at this
def V4{step:Nat->Option (Nat⊕(Unit⊕R))}{l:List V}(g:Nat->V->Option R)(h1:∀i x,l[i]?=some x->step i=some (match g i x with|some r=>.inr (.inr r)|none=>.inl (i+1)))(h2:step l.length=some (.inr (.inl ())))(hl:l.length<=100000000000000) :
  iter step fuel 0=some (match scan g 0 l with|some r=>.inr r|none=>.inl ()):=by
 have key:∀(n i:Nat),i<=l.length->l.length-i<n->iter step n i=some (match scan g i (l.drop i) with|some r=>.inr r|none=>.inl ()):=by
  intro n
  induction n with
  |zero=>intro i _ h;omega
  |succ n ih =>
   intro i hi hn;rcases J0 i l.length with h|h
   ·rw[cV h];unfold iter scan;rw[h1 i _ (J8 h)];cases g i l[i]with
    |some r=>rfl
    |none=>exact ih (i+1) h (by omega)
   ·have e:i=l.length:=by omega
    subst e;rw[oD];unfold iter scan;rw[h2]
 exact key fuel 0 (F7 _) (by have:=U7;omega)
def foldi(f:A->Nat->V->A):A->Nat->List V->A
 |a,_,[]=>a
 |a,i,x::l=>foldi f (f a i x) (i+1) l
def iter_fold{step:A×Nat->Option ((A×Nat)⊕R)}{l:List V}(f:A->Nat->V->A)(fin:A->R)(Inv:A->Nat->Prop)(h1:∀a i x,Inv a i->l[i]?=some x->step (a,i)=some (.inl (f a i x,i+1))/\Inv (f a i x) (i+1))
  (h2:∀a,Inv a l.length->step (a,l.length)=some (.inr (fin a))) (hl:l.length<=100000000000000) {a0:A} (h0:Inv a0 0):iter step fuel (a0,0)=some (fin (foldi f a0 0 l))/\Inv (foldi f a0 0 l) l.length:=by
 have key:∀(n i:Nat) (a:A),Inv a i->i<=l.length->l.length-i<n->iter step n (a,i)=some (fin (foldi f a i (l.drop i)))/\Inv (foldi f a i (l.drop i)) l.length:=by
  intro n
  induction n with
  |zero=>intro i _ _ _ h;omega
  |succ n ih =>
   intro i a hv hi hn;rcases J0 i l.length with h|h
   ·rw[cV h];unfold iter foldi;obtain⟨e,a2⟩:=h1 a i _ hv (J8 h);rw[e];exact ih (i+1) _ a2 h (by omega)
   ·have e:i=l.length:=by omega
    subst e;rw[oD];unfold iter foldi;rw[h2 a hv];exact⟨rfl,hv⟩
 exact key fuel 0 a0 h0 (F7 _) (by have:=U7;omega)
def foldi_eq{f:A->V->A}:∀(l:List V) (a:A) (i:Nat),foldi (λa _ x=>f a x) a i l=l.foldl f a
 |[],_,_=>rfl
 |x::l,a,i=>by unfold foldi;exact foldi_eq l (f a x) (i+1)
end
end
def JL(x y:Int):cmp_Compare_int x y=some (cmpI x y):=by
 unfold cmp_Compare_int cmp_isNaN_int cmpI;by_cases h1:x<y
 ·simp[h1]
 ·by_cases h2:y<x<;>simp[h1,h2]
def JC(s t:A2)(hs:s.length<=100000000000000):iC s t=some (lexI s t):=by
 have key:=bA (step:=λk=>iC.s2 s t k) (λk=>k<=s.length/\k<=t.length/\lexI s t=lexI (s.drop k) (t.drop k)) (λk=>s.length-k)
  (λr=>Sum.elim (λ(_:Unit)=>cond (decide ((s.length:Int)<(t.length:Int))) (some (-1:Int)) (some 0)) some r=some (lexI s t)) (λk ⟨h1,h2,h3⟩=>by
   unfold iC.s2
   rcases J0 k s.length with h|h
   ·have hx:=J8 h
    rw[K8 hx,G5,C8 hx]
    by_cases h4:t.length<=k
    ·right
     refine⟨.inr 1,by simp[h4],?_⟩
     rw[h3,lexI_long h h4]
     rfl
    ·have hy:=J8 (show k<t.length by omega)
     have a2:=lexI_step hx hy
     have d4:decide ((t.length:Int)<=(k:Int))=false:=by simp;omega
     rw[d4,G0,C8 hy,JL]
     by_cases h5:cmpI s[k] t[k]=0
     ·left
      rw[if_pos h5]at a2
      exact⟨k+1,by simp[h5],⟨by omega,by omega,by rw[h3,a2]⟩,by omega⟩
     ·right
      rw[if_neg h5]at a2
      exact⟨.inr (cmpI s[k] t[k]),by simp[h5],by rw[h3,a2];rfl⟩
   ·right
    have e:k=s.length:=by omega
    subst e
    rw[T7,G0]
    refine⟨.inl (),rfl,?_⟩
    rw[h3,lexI_end (G4 _)]
    by_cases h4:s.length<t.length<;>simp[h4]) fuel 0 ⟨F7 _,F7 _,rfl⟩ (by have:=U7;simp only[oA];omega)
 obtain⟨r,e,hq⟩:=key;unfold iC;rw[e];exact hq
def cmp_Or_two(x y:Int):fI [x,y]=some (if x≠0 then x else y):=by
 unfold fI;have e:fuel=(fuel-3)+1+1+1:=by unfold fuel;omega
 rw[e];by_cases h1:x=0
 ·by_cases h2:y=0
  ·simp[iter,fI.s2,idxn,h1,h2]
  ·simp[iter,fI.s2,idxn,h1,h2]
 ·simp[iter,fI.s2,idxn,h1]
def tM(s t:A2)(hs:s.length<=100000000000000):jA s t=some (lexI s t):=by
 unfold jA;rw[JC s t hs];rfl
def uF(s t:A2)(hs:s.length<=100000000000000):bY s t=some (cmpW s t):=by
 unfold bY;rw[JC s t hs,JL];show(fI [cmpI s.length t.length,lexI s t]).bind some=_;rw[cmp_Or_two];show some _=some _;congr 1;unfold cmpI cmpW;by_cases h1:s.length<t.length
 ·simp[h1]
 ·by_cases h2:t.length<s.length
  ·simp[h1,h2]
  ·simp[h1,h2]
def cmpE_word_Lex:CmpE Tryz.prog 110 (λx=>nL cI x) (λx y=>jA x y) :=
 ⟨λargs w=>fH rfl rfl rfl args w,cmpG_lex λx y r hx h=>by rw[tM x y (by omega)]at h;injection h with h;exact h.symm⟩
def zs7:CmpE Tryz.prog 93 (λx=>nL cI x) (λx y=>bY x y) :=
 ⟨λargs w=>fH rfl rfl rfl args w,cmpG_compare λx y r hx h=>by rw[uF x y (by omega)]at h;injection h with h;exact h.symm⟩
def zs2:CmpE Tryz.prog 143 (λx=>.agg (C9 x)) (λx y=>aO x y) :=
 ⟨λargs w=>fH rfl rfl rfl args w,cmpG_find1 (T:=B0) (i:=λx=>x.In) (o:=λx=>x.O) (f:=λx y=>aO x y) (λ_=>rfl) λx y r hx h=>by
  simp only[aO]at h
  rw[tM _ _ (by omega)]at h
  injection h with h
  exact h.symm⟩
section
section
variable {V G R:Type}
def get_at{l:List V}{i:Nat}(h:i<l.length):l[i]?=some l[i]:=J8 h
def wQ[DecidableEq V]{a b:List V}{step:Nat->Option (Nat⊕(Unit⊕Bool))}(hlen:a.length=b.length)(h1:∀i x y,a[i]?=some x->b[i]?=some y->step i=some (if x=y then .inl (i+1) else .inr (.inr false)))
  (h2:step a.length=some (.inr (.inl ()))) (hl:a.length<=100000000000000):(iter step fuel 0).bind (Sum.elim (λ_=>some true) some)=some (decide (a=b)):=by
 rw[V4 (l:=a) (λi x=>if b[i]?=some x then none else some false) (λi x hx=>?_) h2 hl]
 ·cases e:scan (λi x=>if b[i]?=some x then none else some false) 0 a with
  |none =>
   have:=V9.1 e
   have a2:a=b:=by
    apply cT;intro i;rcases J0 i a.length with h|h
    ·have h3:=this i _ (get_at h);rw[F9]at h3;split at h3
     ·rename_i h4;rw[get_at h,h4]
     ·cases h3
    ·rw[W8 h,W8 (by omega)]
   simp[a2]
  |some r =>
   have a3:a≠b:=λa2=>by
    subst a2;have:scan (λi x=>if a[i]?=some x then none else some false) 0 a=none:=V9.2 λi x hx=>by rw[F9,if_pos hx]
    rw[this]at e;cases e
   have hr:r=false:=by
    have key:∀(l:List V) (j:Nat),scan (λi x=>if b[i]?=some x then none else some false) j l=some r->r=false:=by
     intro l
     induction l with
     |nil=>intro j h;cases h
     |cons x l ih =>
      intro j h;unfold scan at h;split at h
      ·rename_i r' h3;injection h with h
       subst h;split at h3
       ·cases h3
       ·injection h3 with h3
        exact h3.symm
      ·exact ih _ h
    exact key a 0 e
   subst hr;simp[a3]
 ·have hi:=(E4.1 hx).1;have hy:=get_at (l:=b) (i:=i) (by omega);rw[h1 i x _ hx hy];by_cases h:x=b[i]'(by omega)
  ·rw[if_pos h,hy,if_pos (by rw[h])]
  ·rw[if_neg h,hy,if_neg (λh3=>h (by injection h3 with h3;exact h3.symm))]
end
def ES(a b:A2)(hl:a.length<=100000000000000):gL a b=some (decide (a=b)):=by
 unfold gL;by_cases a2:a.length=b.length
 ·rw[show decide ((a.length:Int)≠(b.length:Int))=false by simp[a2],G0];refine wQ a2 (λi x y hx hy=>?_) ?_ hl
  ·simp only[gL.s2];rw[K8 hx,G5,C8 hx,C8 hy];by_cases h:x=y<;>simp[h]
  ·simp only[gL.s2];rw[T7];rfl
 ·rw[show decide ((a.length:Int)≠(b.length:Int))=true by simp;omega,G5];have:a≠b:=λh=>a2 (by rw[h]);simp[this]
def GZ(a b:A4)(hl:a.length<=100000000000000)(hw:∀x∈a,x.length<=100000000000000):gN a b=some (decide (a=b)):=by
 unfold gN;by_cases a2:a.length=b.length
 ·rw[show decide ((a.length:Int)≠(b.length:Int))=false by simp[a2],G0];refine wQ a2 (λi x y hx hy=>?_) ?_ hl
  ·simp only[gN.s2];rw[K8 hx,G5,C8 hx,C8 hy,ES x y (hw x (H0 hx))];by_cases h:x=y<;>simp[h]
  ·simp only[gN.s2];rw[T7];rfl
 ·rw[show decide ((a.length:Int)≠(b.length:Int))=true by simp;omega,G5];have:a≠b:=λh=>a2 (by rw[h]);simp[this]
def SmW(x:A2):Prop:=x.length<=2000000
def SmL(l:A4):Prop:=l.length<=2000000/\∀x∈l,SmW x
def R01_Size_eq(n:Int):rR n=some (decide (1<=n/\n<=1024)):=by
 unfold rR;by_cases h1:1<=n<;>by_cases h2:n<=1024<;>simp[h1,h2]
def zs5(n:Int):tZ n=some (decide (1<=n/\n<=1024)):=by
 unfold tZ;by_cases h1:1<=n<;>by_cases h2:n<=1024<;>simp[h1,h2]
def scan_all{V R:Type}{p:V->Bool}{r:R}:∀(l:List V) (j:Nat),scan (λ_ x=>if p x=true then none else some r) j l=if l.all p=true then none else some r
 |[],_=>rfl
 |x::l,j=>by
  unfold scan;by_cases h:p x=true
  ·simp only[h,if_true,CV,Bool.true_and];exact scan_all l (j+1)
  ·simp[h]
def BI(w:A2)(n:Int)(hl:SmW w):eE w n=some (I2 w n):=by
 unfold eE I2;rw[R01_Size_eq];by_cases h1:1<=n/\n<=1024
 ·rw[if_pos h1];simp only[V6,h1,and_self,decide_true,U0,G0];by_cases h2:1024<w.length
  ·rw[if_pos h2,show decide ((1024:Int)<(w.length:Int))=true from E6 (by omega),G5]
  ·rw[if_neg h2,show decide ((1024:Int)<(w.length:Int))=false from I3 (by omega),G0]
   have key:=V4 (step:=λs=>eE.s2 w n s) (l:=w) (λ_ x=>if decide (0<=x/\x<n)=true then none else some (1:Int)) (λi x hx=>by
    simp only[eE.s2]
    rw[K8 hx,G5,C8 hx,C8 hx]
    by_cases a1:x<0
    ·simp[a1,show ¬(0<=x) by omega]
    ·by_cases a2:n<=x
     ·simp[a1,a2,show ¬(x<n) by omega]
     ·simp[a1,a2,show 0<=x by omega,show x<n by omega]) (by
    simp only[eE.s2]
    rw[T7]
    rfl) (by unfold SmW at hl;omega)
   rw[key,scan_all (p:=λx=>decide (0<=x/\x<n))];by_cases h:(w.all λx=>decide (0<=x/\x<n))=true
   ·rw[if_pos h,if_pos h];rfl
   ·rw[if_neg h,if_neg h];rfl
 ·rw[if_neg h1];simp[h1]
def lU(w:A2)(n:Int)(hl:SmW w):gS w n=some (I2 w n):=by
 unfold gS I2 yE jQ;rw[zs5];by_cases h1:1<=n/\n<=1024
 ·rw[if_pos h1];simp only[V6,h1,and_self,decide_true,U0,G0];by_cases h2:1024<w.length
  ·rw[if_pos h2,show decide ((1024:Int)<(w.length:Int))=true from E6 (by omega),G5]
  ·rw[if_neg h2,show decide ((1024:Int)<(w.length:Int))=false from I3 (by omega),G0]
   have key:=V4 (step:=λs=>jQ.s2 w (λu0=>qL u0 n) s) (l:=w) (λi x=>if decide (0<=x/\x<n)=true then none else some (i:Int)) (λi x hx=>by
    simp only[jQ.s2,qL]
    rw[K8 hx,G5,C8 hx]
    by_cases a1:x<0
    ·simp[a1,show ¬(0<=x) by omega]
    ·by_cases a2:n<=x
     ·simp[a1,a2,show ¬(x<n) by omega]
     ·simp[a1,a2,show 0<=x by omega,show x<n by omega]) (by
    simp only[jQ.s2]
    rw[T7]
    rfl) (by unfold SmW at hl;omega)
   rw[key];cases e:scan (λi x=>if decide (0<=x/\x<n)=true then none else some (i:Int)) 0 w with
   |none =>
    have h3:=V9.1 e
    have h:(w.all λx=>decide (0<=x/\x<n))=true:=P8.2 λx hx=>by
     obtain⟨i,hi,rfl⟩:=P1.1 hx;have:=h3 i _ (get_at hi);split at this
     ·assumption
     ·cases this
    rw[if_pos h];simp
   |some r =>
    have h:¬(w.all λx=>decide (0<=x/\x<n))=true:=λh=>by
     have:scan (λi x=>if decide (0<=x/\x<n)=true then none else some (i:Int)) 0 w=none:=V9.2 λi x hx=>if_pos (P8.1 h x (H0 hx));rw[this]at e;cases e
    have hr:0<=r:=by
     have key:∀(l:A2) (j:Nat),scan (λi x=>if decide (0<=x/\x<n)=true then none else some (i:Int)) j l=some r->0<=r:=by
      intro l
      induction l with
      |nil=>intro j h;cases h
      |cons x l ih =>
       intro j h;unfold scan at h;split at h
       ·rename_i r' h3;injection h with h
        subst h;split at h3
        ·cases h3
        ·injection h3 with h3
         omega
       ·exact ih _ h
     exact key w 0 e
    rw[if_neg h];simp[hr]
 ·rw[if_neg h1];simp[h1]
def BO(a b:A2)(ha:SmW a):fJ a b=some (G6 a b:Int):=by
 unfold fJ;rw[V3 (r:=G6 a b) (λk=>k<=a.length/\G6 a b=G6 (a.drop k) (b.drop k)+k) (λk=>a.length-k) (λk ⟨h1,h2⟩=>?_) ⟨F7 _,by simp⟩ (by have:=U7;unfold SmW at ha;omega)]
 ·rfl
 ·simp only[fJ.s2];rcases J0 k a.length with h|h
  ·have hx:=get_at h;rcases J0 k b.length with h'|h'
   ·have hy:=get_at h';rw[K8 hx,K8 hy,G5,G5,C8 hx,C8 hy];rw[cV h,cV h']at h2;by_cases e:a[k]=b[k]
    ·left;unfold SmW at ha;refine⟨k+1,?_,⟨h,?_⟩,by omega⟩
     ·rw[L0];simp[e]
     ·rw[h2,e];simp[G6];omega
    ·right;simp only[G6,e,if_false,F9]at h2;simp[e,h2]
   ·right;rw[K8 hx,G5,show decide ((k:Int)<(b.length:Int))=false by simp;omega];rw[AE (Or.inr h'),F9]at h2;simp[h2]
  ·right;rw[show decide ((k:Int)<(a.length:Int))=false by simp;omega];rw[AE (Or.inl h),F9]at h2;simp[h2]
def R01_Lex_eq(a b:A2)(ha:SmW a):rK a b=some (lexI a b):=by
 unfold rK;rw[BO a b ha];have a3:=pT a b;have a2:=FL a b;rw[a2];simp only[V6];by_cases h1:G6 a b=a.length
 ·rw[show decide ((↑(G6 a b):Int)=↑a.length)=true from E6 (by omega),G5,G5];by_cases h2:G6 a b=b.length
  ·rw[show decide ((↑(G6 a b):Int)=↑b.length)=true from E6 (by omega),if_pos ⟨h1,h2⟩];rfl
  ·rw[show decide ((↑(G6 a b):Int)=↑b.length)=false from I3 (by omega),if_neg (λh=>h2 h.2),if_pos (Or.inl h1)];rfl
 ·rw[show decide ((↑(G6 a b):Int)=↑a.length)=false from I3 (by omega),G0,G0,if_neg (λh=>h1 h.1)];by_cases h2:G6 a b=b.length
  ·rw[show decide ((↑(G6 a b):Int)<(b.length:Int))=false from I3 (by omega),if_neg (λh=>by omega)];rfl
  ·have hx:=get_at (l:=a) (i:=G6 a b) (by omega);have hy:=get_at (l:=b) (i:=G6 a b) (by omega);rw[show decide ((↑(G6 a b):Int)<(b.length:Int))=true from E6 (by omega),G5,E8 rfl hx,E8 rfl hy];rw[eU,eU,hx,hy];by_cases h3:a[G6 a b]'(by omega)<b[G6 a b]'(by omega)
   ·rw[if_pos (Or.inr ⟨by omega,h3⟩)];simp[h3]
   ·rw[if_neg (λh=>by
     rcases h with h|⟨_,h⟩
     ·omega
     ·exact h3 h)]
    simp[h3]
def zy3(a b:A2)(ha:SmW a):tN a b=some (cmpW a b):=by
 unfold tN cmpW;rw[R01_Lex_eq a b ha];by_cases h1:a.length<b.length
 ·rw[show decide ((a.length:Int)<(b.length:Int))=true from E6 (by omega),if_pos h1];rfl
 ·rw[show decide ((a.length:Int)<(b.length:Int))=false from I3 (by omega),if_neg h1,G0];by_cases h2:b.length<a.length
  ·rw[show decide ((b.length:Int)<(a.length:Int))=true from E6 (by omega),if_pos h2];rfl
  ·rw[show decide ((b.length:Int)<(a.length:Int))=false from I3 (by omega),if_neg h2];rfl
end
end Go.Proofs.YtdjagdnpnhmldaaGreatDoor.Sym
namespace Go.Proofs.YtdjagdnpnhmldaaGreatDoor
def M64:Nat:=18446744073709551616
def gold:Nat:=11400714819323198485
def mulA:Nat:=13787848793156543929
def mulB:Nat:=10723151780598845931
def mix(y:Nat):Nat :=
 let z:=(y ^^^ (y >>> 30))*mulA%M64
 let u:=(z ^^^ (z >>> 27))*mulB%M64
 u ^^^ (u >>> 31)
def few:∀(k a:Nat) (l:List Nat),l.Nodup->(∀x∈l,a<=x/\x<a+k)->l.length<=k
 |0,a,l,_,h=>by
  cases l with
  |nil=>simp
  |cons x l=>have:=h x (by simp);omega
 |k+1,a,l,hn,h=>by
  have h1:=few k a (l.erase (a+k)) (hn.erase _) λx hx=>by
   have h2:=(hn.mem_erase_iff).1 hx;have h3:=h x h2.2;have h4:=h2.1;omega
  by_cases hm:a+k∈l
  ·have:=List.length_erase_of_mem hm;omega
  ·rw[List.erase_of_not_mem hm]at h1;omega
def drawF:Nat->Nat->Nat×Nat
 |0,s=>(0,s)
 |f+1,s=>if mix ((s+gold)%M64)<M64-1616 then(mix ((s+gold)%M64)%10000,(s+gold)%M64) else drawF f ((s+gold)%M64)
def draw(s:Nat):Nat×Nat:=drawF 1617 s
end Go.Proofs.YtdjagdnpnhmldaaGreatDoor
namespace Go.Proofs.YtdjagdnpnhmldaaGreatDoor.Sym
def steps(nx:Nat->Nat):Nat->Nat->Nat
 |0,s=>s
 |j+1,s=>steps nx j (nx s)
def nxt(s:Nat):Nat:=(s+gold)%M64
section
section
variable {O Z:Type}[BEq O]
def CH{k:O}{v:Z}(hb:∀a b:O,(a==b)=true↔a=b):∀m:List (O×Z),mget k (mset k v m)=some v
 |[]=>by
  unfold mset mget;rw[(hb k k).2 rfl]
 |p::m=>by
  unfold mset;cases h:k==p.1 with
  |true =>
   show mget k ((k,v)::m)=_;unfold mget;rw[(hb k k).2 rfl]
  |false =>
   show mget k (p::mset k v m)=_;unfold mget;rw[h];exact CH hb m
def BE{k k':O}{v:Z}(hb:∀a b:O,(a==b)=true↔a=b)(hne:¬k'=k):∀m:List (O×Z),mget k' (mset k v m)=mget k' m
 |[]=>by
  have e:(k'==k)=false:=by
   cases e:k'==k with
   |true=>exact absurd ((hb _ _).1 e) hne
   |false=>rfl
  unfold mset mget;simp only[e];rfl
 |p::m=>by
  unfold mset;cases h:k==p.1 with
  |true =>
   have e1:k=p.1:=(hb _ _).1 h;show mget k' ((k,v)::m)=mget k' (p::m)
   have e:(k'==k)=false:=by
    cases e:k'==k with
    |true=>exact absurd ((hb _ _).1 e) hne
    |false=>rfl
   unfold mget;rw[<- e1];simp only[e]
  |false =>
   show mget k' (p::mset k v m)=mget k' (p::m);unfold mget;rw[BE hb hne m]
end
def ba_beq(a b:ByteArray):(a==b)=true↔a=b:=by
 cases a;cases b;show ByteArray.beq _ _=true↔_;unfold ByteArray.beq;simp
def aM(l:A4)(i:Nat)(w:A2):Bool:=match i with
 |0=>true
 |i+1=>match l[i]? with|some p=>decide (cmpW p w<0)|none=>true
def FK{l:A4}(h:∀i w,l[i]?=some w->aM l i w=true):Asc l:=by
 have one:∀i p w,l[i]?=some p->l[i+1]?=some w->cmpW p w=-1:=λi p w hp hw=>by
  have h1:=h (i+1) w hw;unfold aM at h1;simp only[hp]at h1;have h1:=of_decide_eq_true h1;have:=nD p w;omega
 have key:∀(d i:Nat) p w,l[i]?=some p->l[i+d+1]?=some w->cmpW p w=-1:=by
  intro d
  induction d with
  |zero=>exact one
  |succ d ih =>
   intro i p w hp hw;have hj:=(E4.1 hw).1;have hm:=get_at (l:=l) (i:=i+d+1) (by omega);exact kQ _ _ _ (ih i p _ hp hm) (one _ _ _ hm (by rw[show i+d+1+1=i+(d+1)+1 by omega];exact hw))
 rw[Asc,V1];intro i j hi hj a2;exact key (j-i-1) i _ _ (get_at hi) (by rw[show i+(j-i-1)+1=j by omega];exact get_at hj)
def IZ(l:A4)(hl:SmL l){i:Nat}{w:A2}(h:l[i]?=some w):nR l (i:Int)=some (aM l i w):=by
 have hi:=(E4.1 h).1;have a2:l.length<=2000000:=hl.1;unfold nR aM;cases i with
 |zero=>rfl
 |succ i =>
  have hp:=get_at (show i<l.length by omega)
  rw[show decide ((↑(i+1):Int)=0)=false from I3 (by omega),G0,L0,E8 (i:=i) (by omega) hp,E8 rfl h,
   uF _ _ (by have:SmW (l[i]'(by omega)):=hl.2 _ (H0 hp);unfold SmW at this;omega)]
  simp only[hp];rfl
def preG(t:C6)(known:A2->Bool)(i:Nat)(w:A2):Option Int :=
 if I2 w t.I≠0 then some (I2 w t.I) else if(i=0/\0<w.length)\/aM t.P i w=false then some 10 else if 0<w.length/\known (w.take (w.length-1))=false then some 1 else none
def sufG(t:C6)(i:Nat)(w:A2):Option Int :=
 if I2 w t.I≠0 then some (I2 w t.I) else if w.length=0 then some 19 else if aM t.X i w=false then some 10 else none
def P5(t:C6):Int :=
 if t.I<1\/64<t.I then 2 else if t.P.length=0 then 19 else if 10000<t.P.length\/10000<t.X.length\/160000<(t.P.length:Int)*(t.I+1)*↑t.X.length then 11 else
 match scan (preG t λw=>decide (w∈t.P)) 0 t.P with
 |some e=>e
 |none=>match scan (sufG t) 0 t.X with
  |some e=>e
  |none=>if ∀a∈List.range t.I.toNat,[(a:Int)]∈t.X then(if 1023<iZ t.P+iZ t.X then 3 else 0) else 1
def keys_mget(l:A4)(w:A2):∀(m:List (ByteArray×Bool)),((mget (⟨(keyL w).toArray⟩:ByteArray) (l.foldl (λm x=>mset ⟨(keyL x).toArray⟩ true m) m)).getD false)=(decide (w∈l)||(mget (⟨(keyL w).toArray⟩:ByteArray) m).getD false):=by
 induction l with
 |nil=>intro m;simp
 |cons x l ih =>
  intro m;rw[uR,ih];by_cases h:w=x
  ·subst h;rw[CH ba_beq];simp
  ·have:¬((⟨(keyL w).toArray⟩:ByteArray)=⟨(keyL x).toArray⟩):=λe=>h (keyL_inj (by
    injection e with e
    injection e))
   rw[BE ba_beq this];simp[h]
def longest_fold(l:A4):∀n:Nat,l.foldl (λ(n:Int) w=>max n (w.length:Int)) (n:Int)=↑(l.foldl (λn w=>max n w.length) n):=by
 induction l with
 |nil=>intro n;rfl
 |cons x l ih =>
  intro n;rw[uR,uR,show max (n:Int) (x.length:Int)=((max n x.length:Nat):Int) by omega,ih]
def JE(l:A4)(hl:SmL l):eL l=some (↑(iZ l):Int):=by
 unfold eL
 have h:=iter_fold (step:=λ(s:Int×Nat)=>eL.s2 l s.1 s.2) (l:=l) (λa _ x=>max a (x.length:Int)) (λa=>a) (λ_ _=>True) (λa i x _ hx=>by
  refine⟨?_,trivial⟩
  simp only[eL.s2]
  rw[K8 hx,G5,C8 hx]) (λa _=>by
  simp only[eL.s2]
  rw[T7]
  rfl) (by have:=hl.1;omega) (a0:=0) trivial
 rw[h.1,foldi_eq];have:=longest_fold l 0;simp only[DD]at this;show some _=some _;rw[this];rfl
def GD{l:A4}(hl:SmL l):iZ l<=2000000:=(AP l _).2 λx hx=>hl.2 x hx
def SmT(t:C6):Prop:=inR t.I/\SmL t.P/\SmL t.X/\∀x∈t.P,∀a∈x,inR a
def BB{w:A2}(h:SmW w)(h2:∀a∈w,inR a):pN w=some ⟨(keyL w).toArray⟩:=by
 unfold pN;rw[H7 h2,H7 (show w.length<=2000000 from h)]
def prod_fit{p s:Nat}{n:Int}(hp:¬10000<p)(hs:¬10000<s)(hn1:¬n<1)(hn2:¬64<n):inR (n+1)/\inR ((p:Int)*(n+1))/\inR ((p:Int)*(n+1)*↑s):=by
 have h1:0<=(p:Int)*(n+1):=Int.mul_nonneg (by omega) (by omega);have h2:(p:Int)*(n+1)<=10000*65:=Int.mul_le_mul (by omega) (by omega) (by omega) (by omega);have h3:0<=(p:Int)*(n+1)*↑s:=Int.mul_nonneg h1 (by omega);have h4:(p:Int)*(n+1)*↑s<=10000*65*10000:=Int.mul_le_mul h2 (by omega) (by omega) (by omega);unfold inR;omega
end

def xB{x y:Int}:cmpW [x] [y]=-1↔x<y:=by
 simp only[cmpW,lexI,E9,L2];by_cases h:x<y
 ·simp[h]
 ·by_cases h2:y<x<;>simp[h,h2]
def rL{x y:A2}(h:cmpW x y=-1):x.length<=y.length:=by
 unfold cmpW at h;split at h
 ·omega
 ·split at h
  ·cases h
  ·omega
def W5{w:A2}{n:Int}(h:I2 w n=0):∀a∈w,0<=a/\a<n:=by
 unfold I2 at h;split at h
 ·split at h
  ·cases h
  ·split at h
   ·rename_i h3;intro a ha;exact of_decide_eq_true (P8.1 h3 a ha)
   ·cases h
 ·cases h
def one_of{w:A2}(h0:w.length≠0)(h1:w.length<=1):∃a,w=[a]:=by
 match w,h0,h1 with
 |[a],_,_=>exact⟨a,rfl⟩
def singles_iff{l:A4}{n:Int}(hA:Asc l)(hc:∀w∈l,I2 w n=0/\w.length≠0)(hn:1<=n):(∀a∈List.range n.toNat,[(a:Int)]∈l)↔∃w,l[n.toNat-1]?=some w/\w.length<=1:=by
 constructor
 ·intro h
  have key:∀a,a<n.toNat->l[a]?=some [(a:Int)]:=by
   intro a
   induction a using Nat.strongRecOn with
   |_ a ih =>
    intro ha;obtain⟨j,hj,e⟩:=P1.1 (h a (M1.2 ha));have ej:l[j]?=some [(a:Int)]:=by rw[get_at hj,e]
    rcases fY j a with a5|a6|a9
    ·have:=ih j a5 (by omega);rw[ej]at this;injection this with this
     injection this with this
     omega
    ·rw[<- a6,ej];rw[a6]
    ·have hx:=get_at (l:=l) (i:=a) (by omega);have a2:=hA.get a9 hx ej;have a3:=H0 hx;obtain⟨b,hb⟩:=one_of (hc _ a3).2 (rL a2);rw[hb]at a2 hx;have a5:=xB.1 a2;have hr:=W5 (hc _ a3).1 b (by rw[hb];simp);have a4:=ih b.toNat (by omega) (by omega);rw[show((b.toNat:Nat):Int)=b by omega]at a4;have:=hA.get (show b.toNat<a by omega) a4 hx;rw[dJ]at this;cases this
  exact⟨_,key (n.toNat-1) (by omega),by simp⟩
 ·rintro⟨w,hw,a7⟩
  have one:∀i,i<n.toNat->∃b:Int,l[i]?=some [b]/\0<=b/\b<n:=λi hi=>by
   have b3:=(E4.1 hw).1;have hx:=get_at (l:=l) (i:=i) (by omega)
   have a8:(l[i]'(by omega)).length<=1:=by
    rcases J0 i (n.toNat-1) with h|h
    ·have:=rL (hA.get h hx hw);omega
    ·have e:i=n.toNat-1:=by omega
     subst e;rw[hx]at hw;injection hw with hw
     rw[hw];exact a7
   have a3:=H0 hx;obtain⟨b,hb⟩:=one_of (hc _ a3).2 a8;rw[hb]at hx;exact⟨b,hx,W5 (hc _ a3).1 b (by rw[hb];simp)⟩
  have lo:∀i (b:Int),i<n.toNat->l[i]?=some [b]->(i:Int)<=b:=by
   intro i
   induction i with
   |zero =>
    intro b hi hb;obtain⟨b',e,h1,_⟩:=one 0 hi;rw[hb]at e;injection e with e
    injection e with e
    omega
   |succ i ih =>
    intro b hi hb;obtain⟨b',e,h1,_⟩:=one i (by omega);have:=ih b' (by omega) e;have:=xB.1 (hA.get (uU i) e hb);omega
  have b2:∀d i (b:Int),i+d+1=n.toNat->l[i]?=some [b]->b+↑d<n:=by
   intro d
   induction d with
   |zero =>
    intro i b hi hb;obtain⟨b',e,_,h2⟩:=one i (by omega);rw[hb]at e;injection e with e
    injection e with e
    omega
   |succ d ih =>
    intro i b hi hb;obtain⟨b',e,_,_⟩:=one (i+1) (by omega);have:=ih (i+1) b' (by omega) e;have:=xB.1 (hA.get (uU i) hb e);omega
  intro a ha;have ha:=M1.1 ha;obtain⟨b,e,_,_⟩:=one a ha;have h1:=lo a b ha e;have h2:=b2 (n.toNat-1-a) a b (by omega) e;have:b=(a:Int):=by omega
  subst this;exact H0 e
def zQ{t:C6}(h:scan (sufG t) 0 t.X=none):Asc t.X/\∀w∈t.X,I2 w t.I=0/\w.length≠0:=by
 have h0:=V9.1 h
 have key:∀i w,t.X[i]?=some w->I2 w t.I=0/\w.length≠0/\aM t.X i w=true:=λi w hw=>by
  have:=h0 i w hw;rw[F9]at this;unfold sufG at this;split at this
  ·cases this
  ·rename_i h1;split at this
   ·cases this
   ·rename_i h2;split at this
    ·cases this
    ·rename_i h3;refine⟨by simpa using h1,h2,?_⟩;cases hp:aM t.X i w with
     |true=>rfl
     |false=>exact absurd hp h3
 refine⟨FK λi w hw=>(key i w hw).2.2,λw hw=>?_⟩;obtain⟨i,hi,rfl⟩:=P1.1 hw;exact⟨(key i _ (get_at hi)).1,(key i _ (get_at hi)).2.1⟩
def IK(t:C6)(ht:SmT t):V5 t=some (P5 t):=by
 unfold V5 P5;by_cases h1:t.I<1
 ·simp[h1]
 by_cases h2:64<t.I
 ·simp[h1,h2]
 rw[if_neg (by omega),B4 h1,I3 h2];simp only[V6,G0];by_cases h3:t.P.length=0
 ·rw[show decide ((t.P.length:Int)=0)=true from E6 (by omega),G5,if_pos h3]
 rw[show decide ((t.P.length:Int)=0)=false from I3 (by omega),G0,if_neg h3];by_cases h4:10000<t.P.length
 ·rw[show decide (10000<(t.P.length:Int))=true from E6 (by omega),if_pos (Or.inl h4)];rfl
 rw[show decide (10000<(t.P.length:Int))=false from I3 (by omega),G0];by_cases h5:10000<t.X.length
 ·rw[show decide (10000<(t.X.length:Int))=true from E6 (by omega),if_pos (Or.inr (Or.inl h5))];rfl
 rw[show decide (10000<(t.X.length:Int))=false from I3 (by omega),G0];obtain⟨f1,f2,f3⟩:=prod_fit h4 h5 h1 h2;rw[H7 f1,H7 f2,H7 f3];simp only[V6];by_cases h6:160000<(t.P.length:Int)*(t.I+1)*↑t.X.length
 ·rw[E2 h6,if_pos (Or.inr (Or.inr h6))]
 rw[B4 h6,if_neg (λh=>by rcases h with h|h|h<;>contradiction)]
 obtain⟨_,hp,hs,hr⟩:=ht
 have hk:=iter_fold (step:=λ(s:(List (ByteArray×Bool))×Nat)=>V5.s2 t s.1 s.2) (l:=t.P) (λm _ x=>mset ⟨(keyL x).toArray⟩ true m) (λm=>m) (λ_ _=>True) (λm i x _ hx=>by
  have a6:=H0 hx
  refine⟨?_,trivial⟩
  simp only[V5.s2]
  rw[K8 hx,G5,C8 hx,BB (hp.2 x a6) (hr x a6)]
  rfl) (λm _=>by
  simp only[V5.s2]
  rw[T7]
  rfl) (by omega) (a0:=[]) trivial
 rw[hk.1,foldi_eq];simp only[V6]
 have key:=V4 (step:=λs=>V5.s4 t (t.P.foldl (λm x=>mset ⟨(keyL x).toArray⟩ true m) []) s) (l:=t.P) (preG t λw=>decide (w∈t.P)) (λi w hw=>by
  have a4:=H0 hw
  have a3:SmW w:=hp.2 w a4
  have b4:w.length<=2000000:=a3
  simp only[V5.s4]
  rw[K8 hw,G5,C8 hw,lU w _ a3,IZ _ hp hw]
  simp only[V6,preG]
  by_cases g1:I2 w t.I=0
  ·rw[show decide (I2 w t.I≠0)=false from I3 (by simpa using g1),G0,if_neg (by simpa using g1)]
   have hc:(cond (decide ((i:Int)=0)) (cond (decide (0<(w.length:Int))) (some true) (some (!aM t.P i w))) (some (!aM t.P i w)):Option Bool)=some (decide ((i=0/\0<w.length)\/aM t.P i w=false)):=by
    by_cases g2:i=0
    ·rw[show decide ((i:Int)=0)=true from E6 (by omega),G5]
     by_cases g3:0<w.length
     ·rw[show decide (0<(w.length:Int))=true from E6 (by omega),G5,E6 (Or.inl ⟨g2,g3⟩)]
     ·rw[show decide (0<(w.length:Int))=false from I3 (by omega),G0]
      cases aM t.P i w<;>simp[g3]
    ·rw[show decide ((i:Int)=0)=false from I3 (by omega),G0]
     cases aM t.P i w<;>simp[g2]
   rw[hc]
   simp only[V6]
   by_cases g2:(i=0/\0<w.length)\/aM t.P i w=false
   ·rw[E2 g2,if_pos g2]
   ·rw[B4 g2,if_neg g2]
    by_cases g3:0<w.length
    ·have a9:SmW (w.take (w.length-1)):=by
      show(w.take (w.length-1)).length<=2000000
      rw[H6]
      omega
     rw[show decide (0<(w.length:Int))=true from E6 (by omega),G5,H7 (by omega),show Int.toNat ((w.length:Int)-1)=w.length-1 by omega,BB a9 (λa ha=>hr w a4 a (Q4 ha))]
     simp only[V6]
     rw[keys_mget]
     by_cases g4:w.take (w.length-1)∈t.P<;>simp[g3,g4,mget]
    ·rw[show decide (0<(w.length:Int))=false from I3 (by omega),G0]
     simp[g3]
  ·rw[show decide (I2 w t.I≠0)=true from E6 g1,G5,if_pos g1]) (by
  simp only[V5.s4]
  rw[T7]
  rfl) (by omega)
 rw[key];cases e1:scan (preG t λw=>decide (w∈t.P)) 0 t.P with
 |some e=>rfl
 |none =>
  show(iter (λ(s:Nat)=>V5.s6 t s) fuel 0:Option (Unit⊕Int)).bind _=_
  have a8:=V4 (step:=λs=>V5.s6 t s) (l:=t.X) (sufG t) (λi w hw=>by
   have a4:=H0 hw
   have a3:SmW w:=hs.2 w a4
   simp only[V5.s6]
   rw[K8 hw,G5,C8 hw,lU w _ a3,IZ _ hs hw]
   simp only[V6,sufG]
   by_cases g1:I2 w t.I=0
   ·rw[show decide (I2 w t.I≠0)=false from I3 (by simpa using g1),G0,if_neg (by simpa using g1)]
    by_cases g2:w.length=0
    ·rw[show decide ((w.length:Int)=0)=true from E6 (by omega),G5,if_pos g2]
    ·rw[show decide ((w.length:Int)=0)=false from I3 (by omega),G0,if_neg g2]
     cases aM t.X i w<;>rfl
   ·rw[show decide (I2 w t.I≠0)=true from E6 g1,G5,if_pos g1]) (by
   simp only[V5.s6]
   rw[T7]
   rfl) (by omega)
  rw[a8];cases e2:scan (sufG t) 0 t.X with
  |some e=>rfl
  |none =>
   obtain⟨hA,b2⟩:=zQ e2;have a2:=singles_iff hA b2 (show 1<=t.I by omega);have l1:=GD hp;have l2:=GD hs;simp only[V6,cS];rw[JE _ hp,JE _ hs];simp only[V6];rw[H7 (show inR ((↑(iZ t.P):Int)+↑(iZ t.X)) by unfold inR;omega)];by_cases g1:(t.X.length:Int)<t.I
   ·have a5:¬ ∀a∈List.range t.I.toNat,[(a:Int)]∈t.X:=λh=>by
     obtain⟨w,hw,_⟩:=a2.1 h;have:=(E4.1 hw).1;omega
    rw[E2 g1,if_neg a5];rfl
   ·have hx:=get_at (l:=t.X) (i:=t.I.toNat-1) (by omega);rw[B4 g1,L0,E8 (i:=t.I.toNat-1) (by omega) hx];by_cases g2:1<(t.X[t.I.toNat-1]'(by omega)).length
    ·have a5:¬ ∀a∈List.range t.I.toNat,[(a:Int)]∈t.X:=λh=>by
      obtain⟨w,hw,b3⟩:=a2.1 h;rw[hx]at hw;injection hw with hw
      rw[hw]at g2;omega
     rw[if_neg a5,E6 (by omega)];rfl
    ·have a7:∀a∈List.range t.I.toNat,[(a:Int)]∈t.X:=a2.2 ⟨_,hx,by omega⟩;rw[if_pos a7,I3 (by omega)];simp only[V6,G0];by_cases h8:1023<iZ t.P+iZ t.X
     ·rw[if_pos h8,E6 (by omega)];rfl
     ·rw[if_neg h8,I3 (by omega)];rfl
def W4(n:Nat):A4:=(List.range n).map λ(a:Nat)=>[(a:Int)]
def newT(n:Int):C6×Int:=if n<1\/64<n then(⟨0,[],[]⟩,2) else(⟨n,[[]],W4 n.toNat⟩,0)
def singles_step(n:Nat):W4 (n+1)=W4 n++[[(n:Int)]]:=by simp[W4,jZ]
def xV(n:Nat):(W4 n).length=n:=by simp[W4]
def table_New_eq(n:Int):jB n=some (newT n):=by
 unfold jB newT;by_cases h1:n<1
 ·simp[h1]
 ·by_cases h2:64<n
  ·simp[h1,h2]
  ·rw[V3 (r:=W4 n.toNat) (λs=>s.2<=n.toNat/\s.1=W4 s.2) (λs=>n.toNat-s.2) (λs ⟨h1,h2⟩=>by
    simp only[jB.s2]
    by_cases h3:s.2<n.toNat
    ·left
     refine⟨(W4 (s.2+1),s.2+1),?_,⟨by omega,rfl⟩,by simp only;omega⟩
     rw[E2,h2,singles_step,H7 (by rw[xV];unfold E0;omega),L0]
    ·right
     rw[B4,h2,show s.2=n.toNat by omega]) (s:=([],0)) ⟨F7 _,rfl⟩]
   simp[h1,h2]
end Go.Proofs.YtdjagdnpnhmldaaGreatDoor.Sym
namespace Go.Proofs.YtdjagdnpnhmldaaGreatDoor
structure pF(cf:List Int->List Int->Int):Prop where
 range:∀a b,cf a b=-1\/cf a b=0\/cf a b=1
 zero:∀a b,cf a b=0↔a=b
 swap:∀a b,cf b a=- cf a b
 trans:∀a b c,cf a b=-1->cf b c=-1->cf a c=-1
def cmpW_total:pF cmpW:=⟨nD,pM,pQ,kQ⟩
def lexI_total:pF lexI:=⟨kO,mW,lQ,pZ⟩
def M8(l:List (List Int)):List (List Int):=l.foldl (λacc x=>if acc.getLast?=some x then acc else acc++[x]) []
def FZ(l:List (List Int))(x:List Int):M8 (l++[x])=if(M8 l).getLast?=some x then M8 l else M8 l++[x]:=by
 unfold M8;rw[List.foldl_append];rfl
def GE:∀(l acc:List (List Int)),(l.foldl (λacc x=>if acc.getLast?=some x then acc else acc++[x]) acc).getLast?=if l=[] then acc.getLast? else l.getLast?
 |[],acc=>by rw[if_pos rfl];rfl
 |x::l,acc=>by
  have hx:(if acc.getLast?=some x then acc else acc++[x]).getLast?=some x:=by
   split
   ·assumption
   ·simp
  rw[List.foldl_cons,GE l,if_neg (show ¬x::l=[] by simp)];cases l with
  |nil=>rw[if_pos rfl,hx];rfl
  |cons y l =>
   rw[if_neg (show ¬y::l=[] by simp),List.getLast?_cons_cons]
def dedupA_last(l:List (List Int)):(M8 l).getLast?=l.getLast?:=by
 unfold M8;rw[GE];split
 ·rename_i h;rw[h]
 ·rfl
def FP{l:List (List Int)}{k:Nat}{x y:List Int}(hy:l[k]?=some y)(hx:l[k+1]?=some x) :
  M8 (l.take (k+1+1))=if x=y then M8 (l.take (k+1)) else M8 (l.take (k+1))++[x]:=by
 rw[Q2 hx,FZ,dedupA_last,Q2 hy];simp only[List.getLast?_append,List.getLast?_singleton,Option.some_or];by_cases h:y=x
 ·subst h;simp
 ·have h':¬x=y:=λe=>h e.symm;simp[h,h']
def GW{l:List (List Int)}(h:l.length<=1):M8 l=l:=by
 match l,h with
 |[],_=>rfl
 |[x],_=>rfl
def dedup_asc{cf:List Int->List Int->Int}(T:pF cf):∀{l:List (List Int)},l.Pairwise (λa b=>0<=cf b a)->(M8 l).Pairwise (λa b=>cf a b=-1)/\∀x,x∈M8 l↔x∈l:=by
 intro l
 -- from the end of the list
 suffices H:∀n (l:List (List Int)),l.length=n->l.Pairwise (λa b=>0<=cf b a)->(M8 l).Pairwise (λa b=>cf a b=-1)/\∀x,x∈M8 l↔x∈l from H _ l rfl
 intro n
 induction n with
 |zero =>
  intro l hl _;have:l=[]:=List.eq_nil_of_length_eq_zero hl;subst this;exact⟨List.Pairwise.nil,λx=>Iff.rfl⟩
 |succ n ih =>
  intro l hl hp
  obtain⟨m,x,rfl⟩:∃m x,l=m++[x]:=by
   have a2:l≠[]:=by intro e;rw[e]at hl;simp at hl
   exact⟨l.dropLast,l.getLast a2,(List.dropLast_concat_getLast a2).symm⟩
  have a9:m.length=n:=by simpa using hl
  rw[List.pairwise_append]at hp;obtain⟨a8,_,a5⟩:=hp;obtain⟨h1,h2⟩:=ih m a9 a8;rw[FZ];by_cases h:(M8 m).getLast?=some x
  ·rw[if_pos h];refine⟨h1,λy=>?_⟩;have hx:x∈m:=(h2 x).1 (List.mem_of_getLast? h);rw[h2,List.mem_append,List.mem_singleton];constructor
   ·exact Or.inl
   ·rintro (h'|rfl)
    ·exact h'
    ·exact hx
  ·rw[if_neg h];refine⟨?_,λy=>by rw[List.mem_append,List.mem_append,h2]⟩;rw[List.pairwise_append];refine⟨h1,by simp,λa ha b hb=>?_⟩;rw[List.mem_singleton]at hb;subst hb;have b2:a∈m:=(h2 a).1 ha;have b4:0<=cf b a:=a5 a b2 b (by simp);have hr:=T.range b a;have b3:=T.swap b a;by_cases e:cf b a=0
   ·-- a would be the last one
    exfalso;have a6:b=a:=(T.zero _ _).1 e;subst a6
    -- the last of m is the greatest, and b is in m and not less than it
    have a2:M8 m≠[]:=λe=>by rw[e]at ha;cases ha
    have a7:=List.getLast?_eq_some_getLast a2;have a4:(M8 m).getLast a2∈m:=(h2 _).1 (List.getLast_mem a2);have h3:0<=cf b ((M8 m).getLast a2):=a5 _ a4 b (by simp);have a3:M8 m=(M8 m).dropLast++[(M8 m).getLast a2]:=(List.dropLast_concat_getLast a2).symm
    have h4:b=(M8 m).getLast a2\/cf b ((M8 m).getLast a2)=-1:=by
     rw[a3]at ha h1;rw[List.pairwise_append]at h1;rcases List.mem_append.1 ha with h5|h5
     ·exact Or.inr (h1.2.2 b h5 _ (by simp))
     ·exact Or.inl (List.mem_singleton.1 h5)
    rcases h4 with h4|h4
    ·exact h (by rw[a7,<- h4])
    ·omega
   ·omega
def dedupA_length(l:List (List Int)):(M8 l).length<=l.length:=by
 suffices H:∀(l acc:List (List Int)),(l.foldl (λacc x=>if acc.getLast?=some x then acc else acc++[x]) acc).length<=acc.length+l.length by
  simpa[M8]using H l []
 intro l
 induction l with
 |nil=>intro acc;simp
 |cons x l ih =>
  intro acc;rw[List.foldl_cons];refine Nat.le_trans (ih _) ?_;split
  ·simp
  ·simp;omega
def prefixes(x:List Int):List (List Int):=(List.range (x.length+1)).map x.take
def suffixes(x:List Int):List (List Int):=(List.range (x.length+1)).map x.drop
def preL(l:List (List Int)):List (List Int):=l.flatMap prefixes
def topB(all:List (List Int))(x:List Int):Bool:=all.all λy=>decide (y=x\/¬x <+: y)
def maxR(l:List (List Int)):List (List Int):=(sortW l).filter (topB (sortW l))
def vT{l:List (List Int)}{x:List Int}(h:x∈maxR l):x∈l:=by
 unfold maxR at h;exact(dL l x).1 (List.mem_filter.1 h).1
def FY(l:List (List Int)):(maxR l).length<=l.length:=Nat.le_trans (List.length_filter_le _ _) (xM l)
def aL:List (List Int)->List (List Int)
 |[]=>[]
 |[x]=>[x]
 |x::y::l=>if x <+: y then aL (y::l) else x::aL (y::l)
def keepM_end{L:List (List Int)}{k:Nat}{x:List Int}(hx:L[k]?=some x)(hl:k+1=L.length):aL (L.drop k)=x::aL (L.drop (k+1)):=by
 obtain⟨h1,h2⟩:=List.getElem?_eq_some_iff.1 hx;rw[List.drop_eq_getElem_cons h1,h2,List.drop_eq_nil_of_le (by omega)];rfl
def keepM_step{L:List (List Int)}{k:Nat}{x y:List Int}(hx:L[k]?=some x)(hy:L[k+1]?=some y):aL (L.drop k)=if x <+: y then aL (L.drop (k+1)) else x::aL (L.drop (k+1)):=by
 obtain⟨h1,h2⟩:=List.getElem?_eq_some_iff.1 hx;obtain⟨h3,h4⟩:=List.getElem?_eq_some_iff.1 hy;rw[List.drop_eq_getElem_cons h1,h2,List.drop_eq_getElem_cons h3,h4];rfl
def zG:∀L:List (List Int),(aL L).Sublist L
 |[]=>List.Sublist.refl _
 |[x]=>List.Sublist.refl _
 |x::y::l=>by
  rw[aL];split
  ·exact(zG (y::l)).cons x
  ·exact(zG (y::l)).cons_cons x
def AW:∀(x z y:List Int),lexI x z=-1->(z=y\/lexI z y=-1)->x <+: y->x <+: z
 |[],z,_,_,_,_=>List.nil_prefix
 |a::x,[],_,h,_,_=>by simp[lexI]at h
 |a::x,b::z,[],_,_,h=>by simp at h
 |a::x,b::z,c::y,h1,h2,h3=>by
  rw[List.cons_prefix_cons]at h3;obtain⟨rfl,h3⟩:=h3;simp only[lexI]at h1
  have hle:b<=a:=by
   rcases h2 with h2|h2
   ·injection h2 with e1 e2;omega
   ·simp only[lexI]at h2;split at h2
    ·omega
    ·split at h2
     ·omega
     ·omega
  have a2:a=b:=by
   split at h1
   ·omega
   ·split at h1
    ·omega
    ·omega
  subst a2;rw[if_neg (by omega),if_neg (by omega)]at h1;rw[List.cons_prefix_cons];refine⟨rfl,AW x z y h1 ?_ h3⟩;rcases h2 with h2|h2
  ·injection h2 with e1 e2;exact Or.inl e2
  ·simp only[lexI]at h2;rw[if_neg (by omega),if_neg (by omega)]at h2;exact Or.inr h2
def AB:∀(x y:List Int),x <+: y->x≠y->lexI x y=-1
 |[],[],_,h=>absurd rfl h
 |[],_::_,_,_=>rfl
 |a::x,[],h,_=>by simp at h
 |a::x,b::y,h,hne=>by
  rw[List.cons_prefix_cons]at h;obtain⟨rfl,h⟩:=h;simp only[lexI];rw[if_neg (by omega),if_neg (by omega)];exact AB x y h (λe=>hne (by rw[e]))
def mem_keepM:∀{L:List (List Int)},L.Pairwise (λa b=>lexI a b=-1)->∀x,x∈aL L↔x∈L/\∀y∈L,y=x\/¬x <+: y
 |[],_,x=>by simp[aL]
 |[z],_,x=>by
  simp only[aL,List.mem_singleton];constructor
  ·rintro rfl;exact⟨rfl,λy hy=>Or.inl hy⟩
  ·exact λh=>h.1
 |z::y::l,h,x=>by
  obtain⟨h1,h2⟩:=List.pairwise_cons.1 h;have ih:=mem_keepM (L:=y::l) h2
  have hzl:∀t∈y::l,z≠t:=λt ht e=>by
   have:=h1 t ht;rw[e,lexI_refl]at this;omega
  have hlow:∀t∈y::l,¬t <+: z:=λt ht hp=>by
   have h3:=h1 t ht;have h4:=AB t z hp (λe=>hzl t ht e.symm);rw[lQ]at h4;omega
  have hyl:∀t∈y::l,y=t\/lexI y t=-1:=λt ht=>by
   rcases List.mem_cons.1 ht with e|e
   ·exact Or.inl e.symm
   ·exact Or.inr ((List.pairwise_cons.1 h2).1 t e)
  rw[aL];by_cases hp:z <+: y
  ·rw[if_pos hp,ih];constructor
   ·rintro⟨ha,hb⟩;refine⟨List.mem_cons_of_mem _ ha,λt ht=>?_⟩;rcases List.mem_cons.1 ht with rfl|ht
    ·exact Or.inr (hlow x ha)
    ·exact hb t ht
   ·rintro⟨ha,hb⟩;rcases List.mem_cons.1 ha with rfl|ha
    ·rcases hb y (by simp) with e|e
     ·exact absurd e.symm (hzl y (by simp))
     ·exact absurd hp e
    ·exact⟨ha,λt ht=>hb t (List.mem_cons_of_mem _ ht)⟩
  ·rw[if_neg hp,List.mem_cons,ih];constructor
   ·rintro (rfl|⟨ha,hb⟩)
    ·refine⟨by simp,λt ht=>?_⟩;rcases List.mem_cons.1 ht with rfl|ht
     ·exact Or.inl rfl
     ·exact Or.inr λhpt=>hp (AW x y t (h1 y (by simp)) (hyl t ht) hpt)
    ·refine⟨List.mem_cons_of_mem _ ha,λt ht=>?_⟩;rcases List.mem_cons.1 ht with rfl|ht
     ·exact Or.inr (hlow x ha)
     ·exact hb t ht
   ·rintro⟨ha,hb⟩;rcases List.mem_cons.1 ha with rfl|ha
    ·exact Or.inl rfl
    ·exact Or.inr ⟨ha,λt ht=>hb t (List.mem_cons_of_mem _ ht)⟩
def AZ(l:List (List Int))(x:List Int):x∈maxR l↔x∈l/\∀y∈l,y=x\/¬x <+: y:=by
 unfold maxR;rw[List.mem_filter,dL,topB,List.all_eq_true];simp only[dL,decide_eq_true_eq]
def maxR_asc(l:List (List Int)):Asc (maxR l):=List.Pairwise.sublist List.filter_sublist (gO l)
def sortW_keepM{L l:List (List Int)}(h:L.Pairwise λa b=>lexI a b=-1)(hm:∀x,x∈L↔x∈l):sortW (aL L)=maxR l :=
 oW (gO _) (maxR_asc l) λx=>by
  rw[dL,mem_keepM h,AZ];simp only[hm]
end Go.Proofs.YtdjagdnpnhmldaaGreatDoor
namespace Go.Proofs.YtdjagdnpnhmldaaGreatDoor.Sym
def IG{V:Type}{l:List (List V)}{i:Nat}{x:List V}(h:l[i]?=some x):(l.take (i+1)).flatten=(l.take i).flatten++x:=by
 rw[Q2 h];simp
def HW{V:Type}{l:List (List V)}(i:Nat):(l.take i).flatten.length<=l.flatten.length:=by
 have h:l.flatten=(l.take i).flatten++(l.drop i).flatten:=by rw[<- iJ,rB]
 rw[h,D4];omega
def concat_ints(l:A4)(hl:l.length<=100000000)(hf:l.flatten.length<=1000000000):cR l=some l.flatten:=by
 unfold cR
 rw[V3 (r:=l.flatten.length) (λs=>s.2<=l.length/\s.1=(l.take s.2).flatten.length) (λs=>l.length-s.2) (λs ⟨h1,h2⟩=>by
  simp only[cR.s2]
  by_cases h3:s.2<l.length
  ·left
   have hx:=get_at h3
   have h4:=IG hx
   have h5:=HW (l:=l) (s.2+1)
   rw[h4,D4]at h5
   refine⟨((l.take (s.2+1)).flatten.length,s.2+1),?_,⟨by omega,rfl⟩,by simp only;omega⟩
   rw[K8 hx,G5,C8 hx,L0,B4,h4,D4,h2]
  ·right
   have e:s.2=l.length:=by omega
   rw[B4,h2,e,T0]) (s:=(0,0)) ⟨F7 _,by simp⟩]
 simp only[V6];unfold BA;rw[H7 (by omega)];simp only[V6]
 rw[V3 (r:=l.flatten) (λs=>s.2<=l.length/\s.1=(l.take s.2).flatten) (λs=>l.length-s.2) (λs ⟨h1,h2⟩=>by
  simp only[cR.s4]
  by_cases h3:s.2<l.length
  ·left
   have hx:=get_at h3
   have h4:=IG hx
   have h5:=HW (l:=l) (s.2+1)
   rw[h4,D4]at h5
   refine⟨((l.take (s.2+1)).flatten,s.2+1),?_,⟨by omega,rfl⟩,by simp only;omega⟩
   rw[K8 hx,G5,C8 hx,H7 (by rw[h2];unfold E0;omega),h4,h2]
  ·right
   have e:s.2=l.length:=by omega
   rw[B4,h2,e,T0]) (s:=([],0)) ⟨F7 _,by simp⟩]
 rfl
def gT(l:A4)(hl:l.length<=100000000)(hf:l.flatten.length<=1000000000):aX l=some l.flatten:=by
 unfold aX;rw[concat_ints l hl hf];rfl
def totB_of{cf:A2->A2->Int}(T:pF cf){f:A2->A2->Option Int}{l:A4}(hf:∀a∈l,∀b∈l,f a b=some (cf a b)):totB f l=true:=by
 refine P8.2 λa ha=>P8.2 λb hb=>?_;rw[hf a ha b hb,hf b hb a ha];simp only[M4];refine⟨⟨⟨?_,?_⟩,?_⟩,P8.2 λc hc=>?_⟩
 ·rw[beq_iff_eq];have:=T.zero a b;by_cases h:a=b
  ·simp[h,this.2 h];rw[<- h];exact(T.zero a a).2 rfl
  ·have h2:¬cf a b=0:=λe=>h (this.1 e);simp[h,h2]
 ·rw[beq_iff_eq];have:=T.swap a b;by_cases h:cf a b<0
  ·simp[h];omega
  ·simp[h];omega
 ·have:=T.range a b;exact E6 (by omega)
 ·rw[hf b hb c hc,hf a ha c hc];have r1:=T.range a b;have r2:=T.range b c;by_cases h1:cf a b<0
  ·by_cases h2:cf b c<0
   ·have:=T.trans a b c (by omega) (by omega);simp[h1,h2,this]
   ·simp[h1,h2]
  ·simp[h1]
def libSort_eq{cf:A2->A2->Int}(T:pF cf){f:A2->A2->Option Int}{l:A4}(hl:l.length<=1000000000)(hf:∀a∈l,∀b∈l,f a b=some (cf a b)) :
  ∃S,oS l f=some S/\S.Perm l/\S.Pairwise (λa b=>0<=cf b a):=by
 refine⟨Z0 f l,?_,gQ f l,?_⟩
 ·unfold oS;rw[H7 hl,totB_of T hf];rfl
 ·have h:=xS (totB_iff (totB_of T hf));rw[V1]at h ⊢;intro i j hi hj a2;have:=h i j hi hj a2;have m1:=(gQ f l).mem_iff.1 (J3 hi);have m2:=(gQ f l).mem_iff.1 (J3 hj);unfold NGt cfv at this;rw[hf _ m2 _ m1]at this;simp only[N1]at this;omega
def compact_eq{q:A2->A2->Option Bool}{l:A4}(hl:l.length<=1000000000)(hq:∀a∈l,∀b∈l,q a b=some (decide (a=b))):Z8 l q=some (M8 l):=by
 unfold Z8;by_cases h2:l.length<2
 ·rw[E2,GW (by omega)]
 rw[B4]
 have key:=aG (step:=λk=>Z8.s20 l q k) (λk=>1<=k/\k<=l.length/\M8 (l.take k)=l.take k) (λk=>l.length-k) (λr=>Sum.elim (λ(_:Unit)=>some l) some r=some (M8 l)) (λk ⟨h1,h3,h4⟩=>by
  simp only[Z8.s20]
  by_cases h5:k<l.length
  ·have hx:=get_at h5
   have hp:=get_at (l:=l) (i:=k-1) (by omega)
   have a3:=FP (l:=l) (k:=k-1) (x:=l[k]) hp (by rw[show k-1+1=k by omega];exact hx)
   rw[show k-1+1=k by omega]at a3
   rw[K8 hx,G5,C8 hx,E8 (i:=k-1) (by omega) hp,hq _ (J3 _) _ (J3 _)]
   simp only[V6]
   by_cases h6:l[k]=l[k-1]'(by omega)
   ·right
    rw[if_pos h6]at a3
    rw[E2 h6,H7 (by omega)]
    have a4:=bA (step:=λ(s:A4×Nat×Nat)=>Z8.s18 q k s.1 s.2.1 s.2.2) (λs=>1<=s.2.2/\k+s.2.2<=l.length/\s.1.length=l.length/\s.2.1=(M8 (l.take (k+s.2.2))).length/\s.2.1<k+s.2.2/\s.1.take s.2.1=M8 (l.take (k+s.2.2))/\∀j,s.2.1<=j->s.1[j]?=l[j]?) (λs=>l.length-(k+s.2.2))
     (λr=>r.2<=l.length/\r.1.length=l.length/\r.1.take r.2=M8 l) (λs ⟨g1,g2,g3,g4,g5,g6,g7⟩=>by
      obtain⟨y,kk,t⟩:=s
      simp only at g1 g2 g3 g4 g5 g6 g7
      simp only[Z8.s18]
      by_cases g8:k+t<l.length
      ·left
       have gx:=get_at (l:=l) (i:=k+t) g8
       have gp:=get_at (l:=l) (i:=k+(t-1)) (by omega)
       have yx:y[k+t]?=some l[k+t]:=by rw[g7 _ (by omega)];exact gx
       have yp:y[k+(t-1)]?=some (l[k+(t-1)]'(by omega)):=by rw[g7 _ (by omega)];exact gp
       have a2:=FP (l:=l) (k:=k+(t-1)) (x:=l[k+t]) gp (by rw[show k+(t-1)+1=k+t by omega];exact gx)
       rw[show k+(t-1)+1=k+t by omega]at a2
       rw[E2 (show(t:Int)<(↑(List.length y-k):Int) by omega),C8 yx,H7 (by omega),show Int.toNat ((t:Int)-1)=t-1 by omega,C8 yp,hq _ (J3 _) _ (J3 _)]
       simp only[V6]
       by_cases g9:l[k+t]=l[k+(t-1)]'(by omega)
       ·rw[if_pos g9]at a2
        refine⟨(y,kk,t+1),by rw[E6 g9];rfl,⟨by simp only;omega,by simp only;omega,g3,?_,by simp only;omega,?_,g7⟩,by simp only;omega⟩
        ·simp only
         rw[show k+(t+1)=k+t+1 by omega,a2]
         exact g4
        ·simp only
         rw[show k+(t+1)=k+t+1 by omega,a2]
         exact g6
       ·rw[if_neg g9]at a2
        have yk:=get_at (l:=y) (i:=kk) (by omega)
        refine⟨(y.set kk l[k+t],kk+1,t+1),?_,⟨by simp only;omega,by simp only;omega,by simp only[bO];exact g3,?_,by simp only;omega,?_,λj hj=>?_⟩,by simp only;omega⟩
        ·rw[I3 g9]
         simp only[jU,G5]
         rw[C8 yx,C8 yk,L0]
        ·simp only
         rw[show k+(t+1)=k+t+1 by omega,a2,D4,<- g4]
         rfl
        ·simp only
         have e1:(y.set kk l[k+t])[kk]?=some l[k+t]:=by rw[rH];simp;omega
         rw[show k+(t+1)=k+t+1 by omega,a2,Q2 e1,List.take_set_of_le (G4 _),g6]
        ·simp only at hj
         rw[cW (by omega)]
         exact g7 j (by omega)
      ·right
       have e:k+t=l.length:=by omega
       refine⟨(y,kk),?_,by simp only;omega,g3,?_⟩
       ·rw[B4]
       ·simp only
        rw[e,T0]at g6
        exact g6) fuel (l,k,1) ⟨G4 _,by simp only;omega,rfl,by simp only;rw[a3,h4,H6];omega,by simp only;omega,by simp only;rw[a3,h4],λj _=>rfl⟩ (by have:=U7;simp only;omega)
    obtain⟨⟨y,kk⟩,e,g1,g2,g3⟩:=a4
    simp only at g1 g2 g3
    refine⟨.inr (M8 l),?_,rfl⟩
    rw[e]
    simp only[V6,Z8.k19]
    have e2:(List.take kk y++List.replicate (List.length y-kk) ([]:A2)).length=l.length:=by
     rw[D4,H6,cX]
     omega
    rw[H7 (by omega),H7 (by omega),H7 (by rw[e2];omega),gC (by rw[H6];omega),jV,yH,g3]
   ·left
    rw[if_neg h6]at a3
    refine⟨k+1,by rw[I3 h6];rfl,⟨by omega,by omega,?_⟩,by omega⟩
    rw[a3,h4,Q2 hx]
  ·right
   have e:k=l.length:=by omega
   subst e
   refine⟨.inl (),?_,?_⟩
   ·rw[T7];rfl
   ·rw[T0]at h4
    rw[h4]
    rfl) 1 ⟨G4 _,by omega,GW (by rw[H6];omega)⟩
 obtain⟨r,e,hr⟩:=key;rw[e];exact hr
def gW{w:A2}(h:SmW w):cA w=some w:=by
 unfold cA pA;exact H7 (by unfold SmW at h;unfold E0;omega)
def zyq{l:A4}(h:l.length<=2000000):xW l=some l:=by
 unfold xW pA;exact aK
def ED{cf:A2->A2->Int}(T:pF cf){f:A2->A2->Option Int}{l:A4}(hl:SmL l)(hf:∀a∈l,∀b∈l,f a b=some (cf a b)) :
  ∃S,iB l f=some S/\S.Pairwise (λa b=>cf a b=-1)/\(∀x,x∈S↔x∈l)/\S.length<=l.length:=by
 have a3:l.length<=2000000:=hl.1;obtain⟨S,e1,hp,hs⟩:=libSort_eq T (by omega:l.length<=1000000000) hf;obtain⟨d1,d2⟩:=dedup_asc T hs;have hm:∀x,x∈M8 S↔x∈l:=λx=>by rw[d2,hp.mem_iff]
 have a2:(M8 S).length<=l.length:=by
  have:=dedupA_length S;rw[hp.length_eq]at this;exact this
 refine⟨M8 S,?_,d1,hm,a2⟩;unfold iB CU;rw[zyq a3];simp only[V6];rw[e1];simp only[V6]
 rw[compact_eq (by rw[hp.length_eq];omega) (λa ha b hb=>by
  unfold uG
  rw[hf a (hp.mem_iff.1 ha) b (hp.mem_iff.1 hb)]
  simp only[V6]
  congr 1
  exact decide_eq_decide.2 (T.zero a b))]
 simp only[V6]
 rw[V3 (r:=M8 S) (λs=>s.1=M8 S) (λs=>(M8 S).length-s.2) (λs h1=>by
  simp only[iB.s2]
  by_cases h3:s.2<(M8 S).length
  ·left
   have hx:=get_at h3
   have a4:SmW ((M8 S)[s.2]):=hl.2 _ ((hm _).1 (J3 _))
   refine⟨(M8 S,s.2+1),?_,rfl,by simp only;omega⟩
   rw[K8 hx,G5,h1,C8 hx,gW a4]
   simp only[V6]
   rw[C8 hx,L0,List.set_getElem_self]
  ·right
   rw[B4,h1]) (s:=(M8 S,0)) rfl]
 rfl
def zti{l:A4}(hl:SmL l):uB l=some (sortW l):=by
 obtain⟨S,e,h1,h2,_⟩:=ED cmpW_total (f:=λu0 u1=>bY u0 u1) hl λa ha b hb=>uF a b (by have:SmW a:=hl.2 a ha;unfold SmW at this;omega);unfold uB;rw[e];show some S=_;congr 1;exact oW h1 (gO l) λx=>by rw[h2,dL]
def sml_sort{l:A4}(h:SmL l):SmL (sortW l):=⟨R9 (xM l) h.1,λx hx=>h.2 x ((dL l x).1 hx)⟩
def sml_ins{l:A4}{w:A2}(hl:l.length<=1999999/\∀x∈l,SmW x)(hw:SmW w):SmL (insW l w):=by
 refine⟨by have:=GJ l w;omega,λx hx=>?_⟩;rcases (bV l w x).1 hx with h|h
 ·exact hl.2 x h
 ·rw[h];exact hw
def sortW_append(a b:A4):sortW (a++b)=b.foldl insW (sortW a):=by simp[sortW]
def sml_append{a b:A4}(h:a.length+b.length<=2000000)(ha:SmL a)(hb:SmL b):SmL (a++b) :=
 ⟨by rw[D4];exact h,λx hx=>(I8.1 hx).elim (ha.2 x) (hb.2 x)⟩
def gH:SmL []:=⟨by simp,λx hx=>by cases hx⟩
def growT(t:C6)(p s:A4):C6×Int :=
 if P5 ⟨t.I,sortW (t.P++p),sortW (t.X++s)⟩≠0 then(t,P5 ⟨t.I,sortW (t.P++p),sortW (t.X++s)⟩) else(⟨t.I,sortW (t.P++p),sortW (t.X++s)⟩,0)
def gJ(t:C6)(w:A2):C6×Int :=
 if P5 t≠0 then(t,P5 t) else if I2 w t.I≠0 then(t,I2 w t.I) else growT t (sortW (preL [w])) []
def gK(t:C6)(w:A2):C6×Int :=
 if P5 t≠0 then(t,P5 t) else if w.length=0 then(t,19) else if I2 w t.I≠0 then(t,I2 w t.I) else growT t [] [w]
def preL_one(w:A2):preL [w]=prefixes w:=by simp[preL]
def SmO(o:A7):Prop:=o.T.length<=1100000/\∀t∈o.T,t.In.length<=1100000/\t.O.length<=2000000
def zu1(w p:A2)(hw:SmW w):qQ w p=some (decide (p <+: w)):=by
 unfold qQ;rw[BO w p hw,A6];congr 1;exact decide_eq_decide.2 (by rw[<- xA w p];omega)
def CC(a b:A2)(ha:SmW a):fN a b=some (G6 a b:Int):=by
 have a2:a.length<=2000000:=ha;have a3:=pT a b;unfold fN
 have key:=aG (step:=λk=>fN.s2 a b k) (λk=>k<=a.length/\k<=b.length/\G6 a b=G6 (a.drop k) (b.drop k)+k) (λk=>a.length-k) (λr=>Sum.elim (λ(_:Unit)=>some (min (a.length:Int) (b.length:Int))) some r=some (G6 a b:Int)) (λk ⟨h1,h2,h3⟩=>by
  simp only[fN.s2]
  by_cases h4:k<a.length/\k<b.length
  ·have hx:=get_at h4.1
   have hy:=get_at h4.2
   rw[E2 (show(k:Int)<min (a.length:Int) (b.length:Int) by omega),C8 hx,C8 hy]
   rw[cV h4.1,cV h4.2]at h3
   by_cases e:a[k]=b[k]
   ·left
    refine⟨k+1,by simp[e],⟨h4.1,h4.2,?_⟩,by omega⟩
    rw[h3,e]
    simp[G6]
    omega
   ·right
    simp only[G6,e,if_false,F9]at h3
    exact⟨.inr (k:Int),by simp[e],by rw[h3];rfl⟩
  ·right
   rw[B4]
   refine⟨.inl (),rfl,?_⟩
   rw[AE (by omega),F9]at h3
   simp only[cS]
   congr 1
   omega) 0 ⟨F7 _,F7 _,by simp⟩
 obtain⟨r,e,hq⟩:=key;rw[e];exact hq
def qU(w p:A2)(hw:SmW w):jN w p=some (decide (p <+: w)):=by
 unfold jN;rw[CC w p hw,A6];congr 1;exact decide_eq_decide.2 (by rw[<- xA w p];omega)
def eY(n:Int)(t:B0):Prop:=I2 t.In n=0/\t.O.length=t.In.length/\∀y∈t.O,0<=y/\y<=1048576
def Agree(a b:B0):Prop:=a.O.take (G6 a.In b.In)=b.O.take (G6 a.In b.In)
structure J9(o:A7):Prop where
 inp:1<=o.I/\o.I<=64
 num:o.T.length<=10000
 prop:∀t∈o.T,eY o.I t/\t.In≠[]
 asc:∀(i j:Nat) a b,i<j->o.T[i]?=some a->o.T[j]?=some b->cmpW a.In b.In=-1
 apart:∀(i j:Nat) a b,i<j->o.T[i]?=some a->o.T[j]?=some b->¬a.In <+: b.In/\Agree a b
def ansO(o:A7)(w:A2):Option (A2) :=
 if w=[] then some [] else(o.T.find? λt=>decide (w <+: t.In)).map λt=>t.O.take w.length
abbrev tw{V:Type}(x:Option (List V)):List V×Bool:=match x with|some r=>(r,true)|none=>([],false)
def smo_in{o:A7}(ho:SmO o){t:B0}(h:t∈o.T):SmW t.In:=by
 have:=(ho.2 t h).1;unfold SmW;omega
def pre_len{p w:A2}(h:p <+: w):p.length<=w.length:=h.length_le
def lE(o:A7)(F:List B0):Prop:=F.Perm o.T/\F.Pairwise λa b=>lexI a.In b.In=-1
def in_inj{o:A7}(hv:J9 o){a b:B0}(ha:a∈o.T)(hb:b∈o.T)(h:a.In=b.In):a=b:=by
 obtain⟨i,hi,rfl⟩:=P1.1 ha;obtain⟨j,hj,rfl⟩:=P1.1 hb;rcases fY i j with a2|a4|a3
 ·have:=hv.asc i j _ _ a2 (get_at hi) (get_at hj);rw[h,dJ]at this;cases this
 ·subst a4;rfl
 ·have:=hv.asc j i _ _ a3 (get_at hj) (get_at hi);rw[h,dJ]at this;cases this
def BX{o:A7}(ho:SmO o)(hv:J9 o):∃F,nC o=some F/\lE o F:=by
 have hl:=ho.1
 have hf:∀a∈o.T,∀b∈o.T,aO a b=some (lexI a.In b.In):=λa ha b hb=>by
  unfold aO;rw[tM _ _ (by have:=smo_in ho ha;unfold SmW at this;omega),A6]
 have a4:totB (λu0 u1=>aO u0 u1) o.T=true:=by
  refine P8.2 λa ha=>P8.2 λb hb=>?_;simp only[hf a ha b hb,hf b hb a ha,M4];refine⟨⟨⟨?_,?_⟩,?_⟩,P8.2 λc hc=>?_⟩
  ·rw[beq_iff_eq];have:=mW a.In b.In;exact decide_eq_decide.2 ⟨λh=>in_inj hv ha hb (this.1 h),λh=>this.2 (by rw[h])⟩
  ·rw[beq_iff_eq];have:=lQ a.In b.In;exact decide_eq_decide.2 (by omega)
  ·have:=kO a.In b.In;exact E6 (by omega)
  ·rw[hf b hb c hc,hf a ha c hc];have r1:=kO a.In b.In;have r2:=kO b.In c.In;by_cases h1:lexI a.In b.In<0
   ·by_cases h2:lexI b.In c.In<0
    ·have:=pZ a.In b.In c.In (by omega) (by omega);simp[h1,h2,this]
    ·simp[h1,h2]
   ·simp[h1]
 refine⟨Z0 (λu0 u1=>aO u0 u1) o.T,?_,gQ _ _,?_⟩
 ·unfold nC CP pA CR oS;rw[aK,A6,H7 (by omega),a4];rfl
 ·have T:=totB_iff a4;have h:=xS T;have a2:=gQ (λu0 u1=>aO u0 u1) o.T
  have a5:(Z0 (λu0 u1=>aO u0 u1) o.T).Nodup:=by
   refine a2.nodup_iff.2 ?_;rw[List.Nodup,V1];intro i j hi hj a3 e;have:=hv.asc i j _ _ a3 (get_at hi) (get_at hj);rw[e,dJ]at this;cases this
  rw[V1]at h ⊢;rw[List.Nodup,V1]at a5;intro i j hi hj a3;have h1:=h i j hi hj a3;have a6:=a5 i j hi hj a3;have m1:=a2.mem_iff.1 (J3 hi);have m2:=a2.mem_iff.1 (J3 hj);unfold NGt cfv at h1;simp only[hf _ m2 _ m1,N1]at h1;have r:=kO (Z0 (λu0 u1=>aO u0 u1) o.T)[j].In (Z0 (λu0 u1=>aO u0 u1) o.T)[i].In;have s:=lQ (Z0 (λu0 u1=>aO u0 u1) o.T)[j].In (Z0 (λu0 u1=>aO u0 u1) o.T)[i].In;have z:=mW (Z0 (λu0 u1=>aO u0 u1) o.T)[j].In (Z0 (λu0 u1=>aO u0 u1) o.T)[i].In;have hz:¬lexI (Z0 (λu0 u1=>aO u0 u1) o.T)[j].In (Z0 (λu0 u1=>aO u0 u1) o.T)[i].In=0:=λe=>a6 (in_inj hv m1 m2 (z.1 e).symm);omega
def search_eq{F:List B0}{w:A2}(hs:F.Pairwise λa b=>lexI a.In b.In=-1)(hl:F.length<=2000000)(hw:∀t∈F,SmW t.In) :
  ∃k:Nat,∃b,iE F w (λu0 u1=>kY u0 u1)=some ((k:Int),b)/\k<=F.length/\(∀j t,j<k->F[j]?=some t->lexI t.In w=-1)/\∀t,F[k]?=some t->lexI t.In w≠-1:=by
 have hc:∀t∈F,kY t w=some (lexI t.In w):=λt ht=>by
  unfold kY;rw[tM _ _ (by have:=hw t ht;unfold SmW at this;omega),A6]
 have a3:∀{i j:Nat} {a b:B0},i<j->F[i]?=some a->F[j]?=some b->lexI a.In b.In=-1:=λ{i j a b} hij ha hb=>by
  obtain⟨hi,rfl⟩:=E4.1 ha;obtain⟨hj,rfl⟩:=E4.1 hb;exact V1.1 hs i j hi hj hij
 have key:=bA (step:=λ(s:Int×Int)=>iE.s2 F w (λu0 u1=>kY u0 u1) s.1 s.2)
  (λs=>∃i j:Nat,s.1=(i:Int)/\s.2=(j:Int)/\i<=j/\j<=F.length/\(∀k t,k<i->F[k]?=some t->lexI t.In w=-1)/\∀k t,j<=k->F[k]?=some t->lexI t.In w≠-1) (λs=>(s.2-s.1).toNat)
  (λr=>∃k:Nat,r=(k:Int)/\k<=F.length/\(∀j t,j<k->F[j]?=some t->lexI t.In w=-1)/\∀t,F[k]?=some t->lexI t.In w≠-1) (λs ⟨i,j,g1,g2,g3,g4,g5,g6⟩=>by
   obtain⟨si,sj⟩:=s
   simp only at g1 g2
   subst g1 g2
   simp only[iE.s2]
   by_cases g7:i<j
   ·left
    have a2:((i:Int)+↑j) / 2^1=((i+j) / 2:Nat):=by omega
    have hx:=get_at (l:=F) (i:=(i+j) / 2) (by omega)
    rw[E2,L0,H7 (by omega),H7 (by omega),L0,E8 a2 hx,hc _ (J3 _),A6]
    have r:=kO (F[(i+j) / 2]'(by omega)).In w
    by_cases g8:lexI (F[(i+j) / 2]'(by omega)).In w<0
    ·refine⟨(((i+j) / 2+1:Nat),(j:Int)),?_,⟨(i+j) / 2+1,j,rfl,rfl,by omega,g4,λk t hk ht=>?_,g6⟩,by simp only;omega⟩
     ·rw[E2 g8,L0,a2]
      simp
     ·rcases J0 k ((i+j) / 2) with h|h
      ·exact pZ _ _ _ (a3 h ht hx) (by omega)
      ·have e:k=(i+j) / 2:=by omega
       subst e
       rw[hx]at ht
       injection ht with ht
       subst ht
       omega
    ·refine⟨((i:Int),(((i+j) / 2:Nat):Int)),?_,⟨i,(i+j) / 2,rfl,rfl,by omega,by omega,g5,λk t hk ht=>?_⟩,by simp only;omega⟩
     ·rw[B4 g8,a2]
     ·intro h9
      rcases J0 ((i+j) / 2) k with h|h
      ·have:=pZ _ _ _ (a3 h hx ht) h9
       omega
      ·have e:k=(i+j) / 2:=by omega
       subst e
       rw[hx]at ht
       injection ht with ht
       subst ht
       omega
   ·right
    have e:i=j:=by omega
    subst e
    refine⟨(i:Int),by rw[B4],i,rfl,g4,g5,λt ht=>g6 i t (G4 _) ht⟩) fuel (0,(F.length:Int)) ⟨0,F.length,rfl,rfl,F7 _,G4 _,λk t h=>by omega,λk t h ht=>by
    have:=(E4.1 ht).1
    omega⟩ (by have:=U7;simp only;omega)
 obtain⟨r,e,k,hk,h1,h2,h3⟩:=key;subst hk;unfold iE;rw[e,A6];by_cases h4:k<F.length
 ·have hx:=get_at h4;rw[E2,E8 rfl hx,show(λ(u0:B0) (u1:A2)=>kY u0 u1) F[k] w=some (lexI F[k].In w) from hc _ (J3 _),A6,A6];exact⟨k,_,rfl,h1,h2,h3⟩
 ·rw[B4,A6];exact⟨k,_,rfl,h1,h2,h3⟩
def IY{o:A7}{F:List B0}{w:A2}(ho:SmO o)(hv:J9 o)(hF:lE o F):qT F w=some (tw (ansO o w)):=by
 obtain⟨hp,hs⟩:=hF;have d9:F.length<=1100000:=by rw[hp.length_eq];exact ho.1
 have b4:∀t∈F,t∈o.T:=λt ht=>hp.mem_iff.1 ht;obtain⟨k,b,e,h1,h2,h3⟩:=search_eq (w:=w) hs (by omega) λt ht=>smo_in ho (b4 t ht);unfold qT ansO;by_cases h0:w=[]
 ·subst h0;rfl
 ·have e0:w.length≠0:=λh=>h0 (S7 h);rw[if_neg h0,B4,e,A6];simp only
  -- whatever trace begins with c6 word, c6 first one d6 is not before it d7
  have a4:∀t∈o.T,w <+: t.In->∃u,F[k]?=some u/\w <+: u.In:=λt ht a3=>by
   have d0:t∈F:=hp.mem_iff.2 ht;obtain⟨j,hj,rfl⟩:=P1.1 d0
   have d5:lexI F[j].In w≠-1:=by
    by_cases b8:w=F[j].In
    ·rw[<- b8,lexI_refl];decide
    ·have:=AB w F[j].In a3 b8;have:=lQ w F[j].In;omega
   have e2:k<=j:=by
    rcases J0 j k with h|h
    ·exact absurd (h2 j _ h (get_at hj)) d5
    ·exact h
   have hx:=get_at (l:=F) (i:=k) (by omega);refine⟨_,hx,?_⟩;have e3:=h3 _ hx;rcases J0 k j with h|h
   ·have b3:lexI (F[k]'(by omega)).In F[j].In=-1:=V1.1 hs k j (by omega) hj h;have r:=kO (F[k]'(by omega)).In w;have s:=lQ (F[k]'(by omega)).In w;by_cases hz:lexI (F[k]'(by omega)).In w=0
    ·rw[(mW _ _).1 hz];exact eQ _
    ·exact AW w _ _ (by omega) (Or.inr b3) a3
   ·have ej:j=k:=by omega
    subst ej;exact a3
  cases hfd:o.T.find? λt=>decide (w <+: t.In) with
  |none =>
   have d4:∀t∈o.T,¬w <+: t.In:=λt ht=>by simpa using qZ.1 hfd t ht
   by_cases h4:k=F.length
   ·rw[E2,A6,G5];rfl
   ·have hx:=get_at (l:=F) (i:=k) (by omega);have b6:=b4 _ (J3 (show k<F.length by omega));rw[B4,E8 rfl hx,qU _ _ (smo_in ho b6),A6,I3 (d4 _ b6)];rfl
  |some t =>
   have a8:=dR hfd;have a3:w <+: t.In:=by simpa using lC hfd
   obtain⟨u,hu,b5⟩:=a4 t a8 a3;have a9:=b4 u (H0 hu);have e1:=(E4.1 hu).1;have lt:=(hv.prop t a8).1.2.1;have lu:=(hv.prop u a9).1.2.1;have p1:=pre_len a3;have p2:=pre_len b5
   -- both answer alike
   have b2:u.O.take w.length=t.O.take w.length:=by
    by_cases b9:u=t
    ·rw[b9]
    ·have c8:∀a∈o.T,∀b∈o.T,a≠b->w <+: a.In->w <+: b.In->a.O.take w.length=b.O.take w.length:=by
      intro a ha b hb d8 d1 d3
      have b7:w.length<=G6 a.In b.In:=by
       obtain⟨x,hx⟩:=d1;obtain⟨y,hy⟩:=d3;rw[<- hx,<- hy]
       have:∀(w x y:A2),w.length<=G6 (w++x) (w++y):=by
        intro w
        induction w with
        |nil=>intro x y;exact F7 _
        |cons z w ih =>
         intro x y;have:=ih x y;simp only[fW,G6,if_true,E9];omega
       exact this w x y
      have a5:∀(a b:B0),Agree a b->w.length<=G6 a.In b.In->a.O.take w.length=b.O.take w.length:=λa b hA c0=>by
       have h5:=congrArg (List.take w.length) hA;rw[jV,jV,fV c0]at h5;exact h5
      obtain⟨i,hi,rfl⟩:=P1.1 ha;obtain⟨j,hj,rfl⟩:=P1.1 hb;rcases fY i j with b3|d2|c7
      ·exact a5 _ _ (hv.apart i j _ _ b3 (get_at hi) (get_at hj)).2 b7
      ·subst d2;rfl
      ·have c9:w.length<=G6 o.T[j].In o.T[i].In:=by
        have:∀a b:A2,G6 a b=G6 b a:=by
         intro a
         induction a with
         |nil=>intro b;cases b<;>rfl
         |cons x a ih =>
          intro b;cases b with
          |nil=>rfl
          |cons y b =>
           simp only[G6];by_cases h:x=y
           ·subst h;simp[ih b]
           ·have h':¬y=x:=λe=>h e.symm;simp[h,h']
        rw[this];exact b7
       exact(a5 _ _ (hv.apart j i _ _ c7 (get_at hj) (get_at hi)).2 c9).symm
     exact c8 u a9 t a8 b9 b5 a3
   have hc:(cond (decide ((k:Int)=(F.length:Int))) (some true) (idx F (k:Int) λa2=>(jN a2.In w).bind λa6=>cond ((!a6)) (some true) (idx F (k:Int) λa7=>some (decide ((a7.O.length:Int)<(w.length:Int))))):Option Bool)=some false:=by
    rw[B4,E8 rfl hu,qU _ _ (smo_in ho a9),A6,E6 b5,U0,G0,E8 rfl hu,I3 (by omega)]
   rw[hc,A6,G0,E8 rfl hu,H7 (by omega),b2];rfl
def scan_idx{V:Type}{p:V->Bool}:∀(l:List V) (j:Nat),scan (λi x=>if p x=true then some (i:Int) else none) j l=if l.any p=true then some (↑(j+l.findIdx p):Int) else none
 |[],_=>rfl
 |x::l,j=>by
  unfold scan;by_cases h:p x=true
  ·simp[h,List.findIdx_cons]
  ·have hf:p x=false:=by simpa using h
   rw[if_neg h];simp only;rw[scan_idx l (j+1)];simp only[List.any_cons,hf,gB,List.findIdx_cons,G0];split
   ·congr 2;omega
   ·rfl
def tindex_eq{l:List B0}{f:B0->Option Bool}{p:B0->Bool}(hl:l.length<=100000000000000)(hf:∀x∈l,f x=some (p x)) :
  cE l f=some (if l.any p=true then(↑(l.findIdx p):Int) else -1):=by
 unfold cE
 have key:=V4 (step:=λs=>cE.s2 l f s) (l:=l) (λi x=>if p x=true then some (i:Int) else none) (λi x hx=>by
  simp only[cE.s2]
  rw[K8 hx,G5,C8 hx,hf x (H0 hx),A6]
  cases p x<;>rfl) (by
  simp only[cE.s2]
  rw[T7]
  rfl) hl
 rw[key,scan_idx,A6];by_cases h:l.any p=true
 ·rw[if_pos h,if_pos h,F9];rfl
 ·rw[if_neg h,if_neg h];rfl
def cindex_eq{l:A2}{f:Int->Option Bool}{p:Int->Bool}(hl:l.length<=100000000000000)(hf:∀x∈l,f x=some (p x)) :
  uO l f=some (l.any p):=by
 unfold uO jP
 have key:=V4 (step:=λs=>jP.s2 l f s) (l:=l) (λi x=>if p x=true then some (i:Int) else none) (λi x hx=>by
  simp only[jP.s2]
  rw[K8 hx,G5,C8 hx,hf x (H0 hx),A6]
  cases p x<;>rfl) (by
  simp only[jP.s2]
  rw[T7]
  rfl) hl
 rw[key,scan_idx];by_cases h:l.any p=true
 ·rw[if_pos h,h];simp
 ·have h':l.any p=false:=by simpa using h
  rw[if_neg h,h'];rfl
def gG(t:B0)(n:Int):Int :=
 if I2 t.In n≠0 then I2 t.In n else if t.O.length≠t.In.length then 1 else if(t.O.all λy=>decide (0<=y/\y<=1048576))=true then 0 else 2
def AH{t:B0}{n:Int}:gG t n=0↔eY n t:=by
 unfold gG eY;by_cases h1:I2 t.In n=0
 ·rw[if_neg (by simpa using h1)];by_cases h2:t.O.length=t.In.length
  ·rw[if_neg (by simpa using h2)];by_cases h3:(t.O.all λy=>decide (0<=y/\y<=1048576))=true
   ·rw[if_pos h3];exact⟨λ_=>⟨h1,h2,λy hy=>of_decide_eq_true (P8.1 h3 y hy)⟩,λ_=>rfl⟩
   ·rw[if_neg h3];exact⟨λh=>(by cases h),λh=>absurd (P8.2 λy hy=>E6 (h.2.2 y hy)) h3⟩
  ·rw[if_pos h2];exact⟨λh=>(by cases h),λh=>absurd h.2.1 h2⟩
 ·rw[if_pos h1];exact⟨λh=>absurd h h1,λh=>absurd h.1 h1⟩
def ztq(t:B0)(n:Int)(h1:SmW t.In)(h2:SmW t.O):tW t n=some (gG t n):=by
 unfold tW gG;rw[lU _ _ h1,A6];by_cases g1:I2 t.In n=0
 ·rw[B4 (by simpa using g1),if_neg (by simpa using g1)];by_cases g2:t.O.length=t.In.length
  ·rw[B4,if_neg (by simpa using g2)]
   rw[cindex_eq (p:=λy=>!decide (0<=y/\y<=1048576)) (by unfold SmW at h2;omega) λy _=>by
    unfold uE
    by_cases a1:y<0
    ·rw[E2 a1,A6,I3 (show ¬(0<=y/\y<=1048576) by omega)];rfl
    ·by_cases a2:1048576<y
     ·rw[B4 a1,E6 a2,A6,I3 (show ¬(0<=y/\y<=1048576) by omega)];rfl
     ·rw[B4 a1,I3 a2,A6,E6 (show(0<=y/\y<=1048576) by omega)];rfl,A6]
   by_cases h:(t.O.all λy=>decide (0<=y/\y<=1048576))=true
   ·have h':(t.O.any λy=>!decide (0<=y/\y<=1048576))=false:=by
     rw[rF];intro y hy;have:=P8.1 h y hy;simp only[this,U0];exact aA
    rw[h',G0,if_pos h]
   ·have h':(t.O.any λy=>!decide (0<=y/\y<=1048576))=true:=by
     refine S1 λhn=>h (P8.2 λy hy=>?_);refine S1 λhm=>hn (oC.2 ⟨y,hy,?_⟩);have:decide (0<=y/\y<=1048576)=false:=by simpa only[Bool.not_eq_true]using hm
     rw[this];rfl
    rw[h',G5,if_neg h]
  ·rw[E2,if_pos g2]
 ·rw[E2 g1,if_pos g1]
def FW:∀a b:A2,G6 a b=G6 b a
 |[],[]=>rfl
 |[],_::_=>rfl
 |_::_,[]=>rfl
 |x::a,y::b=>by
  unfold G6;by_cases h:x=y
  ·rw[if_pos h,if_pos h.symm,FW a b]
  ·rw[if_neg h,if_neg λe=>h e.symm]
def Agree.symm{a b:B0}(h:Agree a b):Agree b a:=by
 unfold Agree at h ⊢;rw[FW];exact h.symm
def common_eq_iff{x y:A2}(h:x.length=y.length):G6 x y=y.length↔x=y:=by
 rw[xA];exact⟨λhp=>(hp.eq_of_length h.symm).symm,λe=>e ▸ eQ _⟩
def zsn(a b:B0){n:Int}(ha:eY n a)(hb:eY n b)(h1:SmW a.In):∃d,uA a b=some d/\(0<=d↔¬Agree a b):=by
 have a3:a.In.length<=2000000:=h1;have hc:=pT a.In b.In;have la:=ha.2.1;have lb:=hb.2.1;unfold uA;rw[CC _ _ h1,A6];have hm:min (min (↑(G6 a.In b.In):Int) (a.O.length:Int)) (b.O.length:Int)=↑(G6 a.In b.In):=by omega
 rw[hm,H7 (by omega),H7 (by omega),O3,CC _ _ (by unfold SmW;rw[H6];omega),A6];have l1:(a.O.take (G6 a.In b.In)).length=G6 a.In b.In:=by rw[H6];omega
 have l2:(b.O.take (G6 a.In b.In)).length=G6 a.In b.In:=by rw[H6];omega
 have a4:=pT (a.O.take (G6 a.In b.In)) (b.O.take (G6 a.In b.In));have a2:=common_eq_iff (x:=a.O.take (G6 a.In b.In)) (y:=b.O.take (G6 a.In b.In)) (by omega);by_cases h:G6 (a.O.take (G6 a.In b.In)) (b.O.take (G6 a.In b.In))<G6 a.In b.In
 ·rw[E2];exact⟨_,rfl,λ_ hA=>by have:=a2.2 hA;omega,λ_=>by omega⟩
 ·rw[B4];exact⟨-1,rfl,λh=>absurd h (by decide),λhA=>absurd (a2.1 (by omega)) hA⟩
def kA(l:List B0)(t:B0):Prop:=∃u∈l,¬Agree u t
def dF(l:List B0)(w:A2):Bool:=l.any λu=>decide (w <+: u.In)
def insT:List B0->B0->List B0
 |[],t=>[t]
 |x::r,t=>if cmpW t.In x.In=-1 then t::x::r else x::insT r t
def eX(l:List B0)(t:B0):List B0:=l.filter λu=>!decide (u.In <+: t.In)
def addL(l:List B0)(t:B0):List B0:=if dF l t.In=true\/t.In=[] then l else insT (eX l t) t
instance (a b:B0):Decidable (Agree a b):=by unfold Agree;infer_instance
instance (l:List B0) (t:B0):Decidable (kA l t):=by unfold kA;infer_instance
def addO(o:A7)(t:B0):A7×Int :=
 if gG t o.I≠0 then(o,gG t o.I) else if kA o.T t then(o,13) else if 10000<(addL o.T t).length then(o,11) else(⟨o.I,addL o.T t⟩,0)
def AL(l:List B0)(t:B0):(insT l t).length=l.length+1:=by
 induction l with
 |nil=>rfl
 |cons x r ih =>
  unfold insT;split
  ·rfl
  ·simp[ih]
def GQ(l:List B0)(t:B0):(eX l t).length<=l.length:=oH _ _
def FJ(l:List B0)(t:B0):(addL l t).length<=l.length+1:=by
 unfold addL;split
 ·omega
 ·rw[AL];have:=GQ l t;omega
def kK{l:List B0}{t x:B0}:x∈insT l t↔x=t\/x∈l:=by
 induction l with
 |nil=>simp[insT]
 |cons y r ih =>
  unfold insT;split
  ·simp
  ·simp only[H8,ih];constructor
   ·rintro (h|h|h)
    ·exact .inr (.inl h)
    ·exact .inl h
    ·exact .inr (.inr h)
   ·rintro (h|h|h)
    ·exact .inr (.inl h)
    ·exact .inl h
    ·exact .inr (.inr h)
def insT_at:∀{l:List B0} {t:B0} {k:Nat},k<=l.length->(∀j x,j<k->l[j]?=some x->cmpW x.In t.In=-1)->(∀x,l[k]?=some x->cmpW x.In t.In≠-1)->(∀x∈l,x.In≠t.In)->insT l t=l.take k++[t]++l.drop k
 |[],t,k,hk,_,_,_=>by
  have:k=0:=by simpa using hk
  subst this;rfl
 |x::r,t,0,_,_,h2,h3=>by
  have h4:=h2 x rfl;have h5:=h3 x (by simp);have r1:=nD x.In t.In;have z1:=pM x.In t.In;have s1:=pQ x.In t.In;have h6:¬cmpW x.In t.In=0:=λe=>h5 (z1.1 e);unfold insT;rw[if_pos (by omega)];rfl
 |x::r,t,k+1,hk,h1,h2,h3=>by
  have h4:=h1 0 x (Nat.succ_pos _) rfl;have s1:=pQ x.In t.In;unfold insT;rw[if_neg (by omega),insT_at (k:=k) (by simpa using hk) (λj y hj hy=>h1 (j+1) y (by omega) (by simpa using hy)) (λy hy=>h2 y (by simpa using hy)) λy hy=>h3 y (by simp[hy])];rfl
def zP{S:B0->B0->Prop}{t:B0}:∀{l:List B0},l.Pairwise S->(∀x∈l,S x t/\S t x)->(insT l t).Pairwise S
 |[],_,_=>by simp[insT]
 |x::r,h,ht=>by
  unfold insT;have hx:=cU.1 h;split
  ·exact cU.2 ⟨λy hy=>(ht y hy).2,h⟩
  ·refine cU.2 ⟨λy hy=>?_,zP hx.2 λy hy=>ht y (by simp[hy])⟩;rcases kK.1 hy with e|e
   ·subst e;exact(ht x (by simp)).1
   ·exact hx.1 y e
def insT_asc{t:B0}:∀{l:List B0},l.Pairwise (λa b=>cmpW a.In b.In=-1)->(∀x∈l,x.In≠t.In)->(insT l t).Pairwise (λa b=>cmpW a.In b.In=-1)
 |[],_,_=>by simp[insT]
 |x::r,h,hn=>by
  unfold insT;have hx:=cU.1 h;split
  ·rename_i h1;refine cU.2 ⟨λy hy=>?_,h⟩;rcases H8.1 hy with e|e
   ·rw[e];exact h1
   ·exact kQ _ _ _ h1 (hx.1 y e)
  ·rename_i h1;refine cU.2 ⟨λy hy=>?_,insT_asc hx.2 λy hy=>hn y (by simp[hy])⟩;rcases kK.1 hy with e|e
   ·subst e;have r1:=nD x.In y.In;have z1:=pM x.In y.In;have s1:=pQ x.In y.In;have h6:¬cmpW x.In y.In=0:=λe=>hn x (by simp) (z1.1 e);omega
   ·exact hx.1 y e
def J9.pw{o:A7}(hv:J9 o):o.T.Pairwise (λa b=>cmpW a.In b.In=-1)/\o.T.Pairwise (λa b=>¬a.In <+: b.In/\Agree a b) :=
 ⟨V1.2 λi j hi hj hij=>hv.asc i j _ _ hij (get_at hi) (get_at hj),V1.2 λi j hi hj hij=>hv.apart i j _ _ hij (get_at hi) (get_at hj)⟩
def obsOk_of{o:A7}(h1:1<=o.I/\o.I<=64)(h2:o.T.length<=10000)(h3:∀t∈o.T,eY o.I t/\t.In≠[])(h4:o.T.Pairwise (λa b=>cmpW a.In b.In=-1))(h5:o.T.Pairwise (λa b=>¬a.In <+: b.In/\Agree a b)):J9 o:=by
 refine⟨h1,h2,h3,λi j a b a2 ha hb=>?_,λi j a b a2 ha hb=>?_⟩
 all_goals
  obtain⟨hi,rfl⟩:=E4.1 ha;obtain⟨hj,rfl⟩:=E4.1 hb
 ·exact V1.1 h4 i j hi hj a2
 ·exact V1.1 h5 i j hi hj a2
def IA{l:List B0}{w:A2}(h:¬dF l w=true):∀u∈l,¬w <+: u.In:=λu hu hp=>h (oC.2 ⟨u,hu,E6 hp⟩)
def addO_ok{o:A7}{t:B0}(hv:J9 o):J9 (addO o t).1:=by
 unfold addO;split
 ·exact hv
 rename_i hp;have hp:eY o.I t:=AH.1 (by simpa using hp);split
 ·exact hv
 rename_i hc;split
 ·exact hv
 rename_i hn;have hn:(addL o.T t).length<=10000:=by omega
 unfold addL at hn ⊢;by_cases h:dF o.T t.In=true\/t.In=[]
 ·rw[if_pos h];exact hv
 ·rw[if_neg h]at hn ⊢;have h1:=IA λe=>h (.inl e);have h2:t.In≠[]:=λe=>h (.inr e);have a3:(eX o.T t).Sublist o.T:=vG
  have a2:∀x∈eX o.T t,x∈o.T/\¬x.In <+: t.In:=λx hx=>by
   have:=eO.1 hx;refine⟨this.1,λe=>?_⟩;rw[E6 e]at this;exact aA this.2
  have a4:∀x∈o.T,Agree x t:=λx hx=>S1 λe=>hc ⟨x,hx,e⟩;refine obsOk_of hv.inp hn (λx hx=>?_) (insT_asc (hv.pw.1.sublist a3) λx hx e=>(a2 x hx).2 (e ▸ eQ _)) (zP (hv.pw.2.sublist a3) λx hx=>⟨⟨(a2 x hx).2,a4 x (a2 x hx).1⟩,h1 x (a2 x hx).1,(a4 x (a2 x hx).1).symm⟩);rcases kK.1 hx with e|e
  ·rw[e];exact⟨hp,h2⟩
  ·exact hv.prop x (a2 x e).1
def SmX(t:B0):Prop:=SmW t.In/\SmW t.O
def SmTr(l:List B0):Prop:=l.length<=1200000/\∀t∈l,SmX t
def capT{n:Nat}(h:n<=3000000):E0 n 48:=by unfold E0;omega
def JG{t:B0}(h:SmX t):qR t=some t:=by
 unfold qR;rw[gW h.1,A6,gW h.2,A6]
def zva{l:List B0}(h:SmTr l):gZ l=some l:=by
 have hl:=h.1;unfold gZ;rw[H7 ⟨by decide,by omega,by rw[show((l.length:Int)+1).toNat=l.length+1 by omega];exact capT (by omega)⟩]
 have key:=aG (step:=λ(s:List B0×Nat)=>gZ.s2 l s.1 s.2) (λs=>s.2<=l.length/\s.1=l.take s.2) (λs=>l.length-s.2) (λr=>r=l) (λ⟨y,i⟩ ⟨g1,g2⟩=>by
  simp only at g1 g2
  subst g2
  simp only[gZ.s2]
  by_cases g3:i<l.length
  ·left
   have hx:=get_at g3
   refine⟨(l.take (i+1),i+1),?_,⟨g3,rfl⟩,by simp only;omega⟩
   rw[K8 hx,G5,C8 hx,JG (h.2 _ (J3 _)),A6,H7 (capT (by rw[H6];omega)),Q2 hx]
  ·right
   have e:i=l.length:=by omega
   subst e
   exact⟨l,by rw[T7,G0,T0],rfl⟩) ([],0) ⟨F7 _,rfl⟩
 obtain⟨r,e,rfl⟩:=key;rw[e,A6]
def tdelete_eq{l:List B0}{f:B0->Option Bool}{p:B0->Bool}(hl:l.length<=100000000)(hf:∀x∈l,f x=some (p x)) :
  cF l f=some (l.filter λx=>!p x):=by
 unfold cF;rw[tindex_eq (by omega) hf,A6];by_cases h:l.any p=true
 ·rw[if_pos h,B4];have hi:l.findIdx p<l.length:=List.findIdx_lt_length_of_exists (by simpa using oC.1 h);have hx:=get_at hi;have a6:p l[l.findIdx p]=true:=List.findIdx_getElem
  have a2:∀(k:Nat),k<=l.findIdx p->(l.take k).filter (λx=>!p x)=l.take k:=λk hk=>by
   refine yK.2 λx hx=>?_;obtain⟨j,hj,rfl⟩:=P1.1 hx;rw[H6]at hj;rw[List.getElem_take];have:=List.not_of_lt_findIdx (p:=p) (xs:=l) (i:=j) (by omega);have h9:p l[j]=false:=by simpa using this
   rw[h9];rfl
  rw[L0]
  have key:=bA (step:=λ(s:List B0×Int×Int)=>cF.s2 f s.1 s.2.1 s.2.2)
   (λs=>∃i j:Nat,s.2.1=(i:Int)/\s.2.2=(j:Int)/\i<j/\j<=l.length/\s.1.length=l.length/\s.1.drop j=l.drop j/\s.1.take i=(l.take j).filter λx=>!p x) (λs=>(↑l.length-s.2.2).toNat)
   (λr=>∃i:Nat,r.2=(i:Int)/\i<=l.length/\0<l.length/\r.1.length=l.length/\r.1.take i=l.filter λx=>!p x) (λ⟨y,si,sj⟩ ⟨i,j,g1,g2,g3,g4,g5,g6,g7⟩=>by
    simp only at g1 g2 g5 g6 g7
    subst g1 g2
    simp only[cF.s2]
    by_cases g8:j<l.length
    ·left
     have hz:=get_at g8
     have hy:y[j]?=some l[j]:=by
      have h1:(y.drop j)[0]?=(l.drop j)[0]?:=by rw[g6]
      rw[U2,U2,X5,hz]at h1
      exact h1
     rw[E2,E8 rfl hy,hf _ (J3 _),A6]
     have hd:∀u:List B0,u.drop j=l.drop j->u.drop (j+1)=l.drop (j+1):=λu hu=>by
      rw[<- uQ,hu,uQ]
     cases hp:p l[j]with
     |false =>
      have a5:=get_at (l:=y) (i:=i) (by omega)
      refine⟨(y.set i l[j],((i+1:Nat):Int),((j+1:Nat):Int)),?_,⟨i+1,j+1,rfl,rfl,by omega,by omega,by simpa using g5,?_,?_⟩,by simp only;omega⟩
      ·rw[jU,G5,E8 rfl a5,L0,L0]
       simp
      ·rw[List.drop_set_of_lt (by omega)]
       exact hd y g6
      ·rw[Q2 hz,oG,<- g7]
       have a3:(y.set i l[j])[i]?=some l[j]:=by rw[cG (by omega)]
       rw[Q2 a3,List.take_set_of_le (by omega)]
       simp[hp]
     |true =>
      refine⟨(y,(i:Int),((j+1:Nat):Int)),?_,⟨i,j+1,rfl,rfl,by omega,by omega,g5,hd y g6,?_⟩,by simp only;omega⟩
      ·rw[U0,G0,L0]
       simp
      ·rw[Q2 hz,oG,<- g7]
       simp[hp]
    ·right
     have e:j=l.length:=by omega
     subst e
     refine⟨(y,(i:Int)),by rw[B4],i,rfl,by omega,by omega,g5,?_⟩
     rw[g7,T0]) fuel (l,(↑(l.findIdx p):Int),(↑(l.findIdx p):Int)+1) ⟨l.findIdx p,l.findIdx p+1,rfl,by simp,by omega,hi,rfl,rfl,by
    rw[Q2 hx,oG,a2 _ (G4 _)]
    simp[a6]⟩ (by have:=U7;simp only;omega)
  obtain⟨⟨y,si⟩,e,i,g1,g2,g3,g4,g5⟩:=key;simp only at g1 g4 g5;subst g1;rw[e,A6];simp only[cF.k3]
  have a4:(List.take i y++List.replicate (y.length-i) (⟨[],[]⟩:B0)).length=y.length:=by
   rw[D4,H6,cX];omega
  rw[O3,a4,H7 (by omega),H7 (by omega),H7 (by omega),gC (by rw[H6];omega),jV,yH,g5]
 ·have h':l.any p=false:=by simpa using h
  rw[if_neg h,E2 rfl];congr 1;refine(yK.2 λx hx=>?_).symm;have:=rF.1 h' x hx;simpa using this
def tsearch_eq{F:List B0}{t:B0}(hs:F.Pairwise λa b=>cmpW a.In b.In=-1)(hl:F.length<=2000000)(hw:∀x∈F,SmW x.In) :
  ∃k:Nat,∃b,iF F t (λu0 u1=>kU u0 u1)=some ((k:Int),b)/\k<=F.length/\(∀j x,j<k->F[j]?=some x->cmpW x.In t.In=-1)/\∀x,F[k]?=some x->cmpW x.In t.In≠-1:=by
 have hc:∀x∈F,kU x t=some (cmpW x.In t.In):=λx hx=>by
  unfold kU;rw[uF _ _ (by have:=hw x hx;unfold SmW at this;omega),A6]
 have a4:∀{i j:Nat} {a b:B0},i<j->F[i]?=some a->F[j]?=some b->cmpW a.In b.In=-1:=λ{i j a b} hij ha hb=>by
  obtain⟨hi,rfl⟩:=E4.1 ha;obtain⟨hj,rfl⟩:=E4.1 hb;exact V1.1 hs i j hi hj hij
 have key:=bA (step:=λ(s:Int×Int)=>iF.s2 F t (λu0 u1=>kU u0 u1) s.1 s.2)
  (λs=>∃i j:Nat,s.1=(i:Int)/\s.2=(j:Int)/\i<=j/\j<=F.length/\(∀k x,k<i->F[k]?=some x->cmpW x.In t.In=-1)/\∀k x,j<=k->F[k]?=some x->cmpW x.In t.In≠-1) (λs=>(s.2-s.1).toNat)
  (λr=>∃k:Nat,r=(k:Int)/\k<=F.length/\(∀j x,j<k->F[j]?=some x->cmpW x.In t.In=-1)/\∀x,F[k]?=some x->cmpW x.In t.In≠-1) (λs ⟨i,j,g1,g2,g3,g4,g5,g6⟩=>by
   obtain⟨si,sj⟩:=s
   simp only at g1 g2
   subst g1 g2
   simp only[iF.s2]
   by_cases g7:i<j
   ·left
    have a3:((i:Int)+↑j) / 2^1=((i+j) / 2:Nat):=by omega
    have hx:=get_at (l:=F) (i:=(i+j) / 2) (by omega)
    rw[E2,L0,H7 (by omega),H7 (by omega),L0,E8 a3 hx,hc _ (J3 _),A6]
    have r:=nD (F[(i+j) / 2]'(by omega)).In t.In
    by_cases g8:cmpW (F[(i+j) / 2]'(by omega)).In t.In<0
    ·refine⟨(((i+j) / 2+1:Nat),(j:Int)),?_,⟨(i+j) / 2+1,j,rfl,rfl,by omega,g4,λk x hk a2=>?_,g6⟩,by simp only;omega⟩
     ·rw[E2 g8,L0,a3]
      simp
     ·rcases J0 k ((i+j) / 2) with h|h
      ·exact kQ _ _ _ (a4 h a2 hx) (by omega)
      ·have e:k=(i+j) / 2:=by omega
       subst e
       rw[hx]at a2
       injection a2 with a2
       subst a2
       omega
    ·refine⟨((i:Int),(((i+j) / 2:Nat):Int)),?_,⟨i,(i+j) / 2,rfl,rfl,by omega,by omega,g5,λk x hk a2=>?_⟩,by simp only;omega⟩
     ·rw[B4 g8,a3]
     ·intro h9
      rcases J0 ((i+j) / 2) k with h|h
      ·have:=kQ _ _ _ (a4 h hx a2) h9
       omega
      ·have e:k=(i+j) / 2:=by omega
       subst e
       rw[hx]at a2
       injection a2 with a2
       subst a2
       omega
   ·right
    have e:i=j:=by omega
    subst e
    refine⟨(i:Int),by rw[B4],i,rfl,g4,g5,λx a2=>g6 i x (G4 _) a2⟩) fuel (0,(F.length:Int)) ⟨0,F.length,rfl,rfl,F7 _,G4 _,λk x h=>by omega,λk x h a2=>by
    have:=(E4.1 a2).1
    omega⟩ (by have:=U7;simp only;omega)
 obtain⟨r,e,k,hk,h1,h2,h3⟩:=key;subst hk;unfold iF;rw[e,A6];by_cases h4:k<F.length
 ·have hx:=get_at h4;rw[E2,E8 rfl hx,show(λ(u0:B0) (u1:B0)=>kU u0 u1) F[k] t=some (cmpW F[k].In t.In) from hc _ (J3 _),A6,A6];exact⟨k,_,rfl,h1,h2,h3⟩
 ·rw[B4,A6];exact⟨k,_,rfl,h1,h2,h3⟩
def zyx{o:A7}{t:B0}(ho:SmTr o.T)(hv:J9 o)(ht:SmX t)(hp:eY o.I t) :
  gV o.T t=some (if kA o.T t then([],13) else if 10000<(addL o.T t).length then([],11) else(addL o.T t,0)):=by
 have hl:=ho.1;unfold gV
 have key:=bA (step:=λ(s:Bool×Nat)=>gV.s2 o.T t s.1 s.2) (λs=>s.2<=o.T.length/\(∀u∈o.T.take s.2,Agree u t)/\s.1=dF (o.T.take s.2) t.In) (λs=>o.T.length-s.2)
  (λr=>match r with|.inl b=>¬kA o.T t/\b=dF o.T t.In|.inr x=>kA o.T t/\x=([],13)) (λ⟨b,i⟩ ⟨g1,g2,g3⟩=>by
   simp only at g1 g2 g3
   simp only[gV.s2]
   by_cases g4:i<o.T.length
   ·have hx:=get_at g4
    have a2:=J3 g4
    obtain⟨d,hd,a4⟩:=zsn o.T[i] t (hv.prop _ a2).1 hp (ho.2 _ a2).1
    rw[K8 hx,G5,C8 hx,hd,A6]
    by_cases g5:0<=d
    ·right
     exact⟨.inr ([],13),by rw[E2 g5],⟨_,a2,a4.1 g5⟩,rfl⟩
    ·left
     have hA:Agree o.T[i] t:=S1 λe=>g5 (a4.2 e)
     have a5:dF (o.T.take (i+1)) t.In=(b||decide (t.In <+: o.T[i].In)):=by
      rw[Q2 hx,g3]
      unfold dF
      rw[List.any_append]
      simp
     refine⟨(dF (o.T.take (i+1)) t.In,i+1),?_,⟨g4,λu hu=>?_,rfl⟩,by simp only;omega⟩
     ·rw[B4 g5,a5]
      cases b with
      |true=>rfl
      |false =>
       rw[G0,qU _ _ (ho.2 _ a2).1,A6]
       rfl
     ·rw[Q2 hx]at hu
      rcases I8.1 hu with h|h
      ·exact g2 u h
      ·rw[K4.1 h]
       exact hA
   ·right
    have e:i=o.T.length:=by omega
    subst e
    rw[T0]at g2 g3
    exact⟨.inl b,by rw[T7,G0],λ⟨u,hu,h⟩=>h (g2 u hu),g3⟩) fuel (false,0) ⟨F7 _,λu hu=>by simp at hu,rfl⟩ (by have:=U7;simp only;omega)
 obtain⟨r,e,hq⟩:=key;rw[e,A6];cases r with
 |inr x =>
  rw[if_pos hq.1,hq.2];rfl
 |inl b =>
  obtain⟨h1,rfl⟩:=hq;rw[if_neg h1];simp only[cS]
  have hb:(cond (dF o.T t.In) (some true) (some (decide ((t.In.length:Int)=0))):Option Bool)=some (decide (dF o.T t.In=true\/t.In=[])):=by
   cases hi:dF o.T t.In with
   |true=>rfl
   |false =>
    rw[G0];congr 1;refine decide_eq_decide.2 ⟨λh=>.inr (S7 (by omega)),λh=>?_⟩;rcases h with h|h
    ·cases h
    ·rw[h];rfl
  rw[hb,A6];by_cases h2:dF o.T t.In=true\/t.In=[]
  ·have ha:addL o.T t=o.T:=if_pos h2;have hn:=hv.num;rw[E2 h2,ha,if_neg (by omega)]
  ·have ha:addL o.T t=insT (eX o.T t) t:=if_neg h2
   rw[B4 h2,tdelete_eq (p:=λu=>decide (u.In <+: t.In)) (by omega) λx hx=>by
    unfold tT
    rw[qU _ _ ht.1,A6],A6]
   have a8:=GQ o.T t;have hn:=hv.num;have a7:=AL (eX o.T t) t;rw[show(o.T.filter λx=>!decide (x.In <+: t.In))=eX o.T t from rfl,ha];by_cases h3:(eX o.T t).length=10000
   ·rw[E2,if_pos (by omega)]
   ·rw[B4,if_neg (by omega)];have a3:(eX o.T t).Sublist o.T:=vG
    have a6:∀x∈eX o.T t,x.In≠t.In:=λx hx e=>by
     have:=(eO.1 hx).2;rw[e,E6 (eQ _)]at this;exact aA this
    obtain⟨k,b,e,k1,k2,k3⟩:=tsearch_eq (t:=t) (hv.pw.1.sublist a3) (by omega) λx hx=>(ho.2 x (a3.subset hx)).1;rw[e,A6,JG ht,A6];simp only;unfold CL;rw[H7 ⟨by omega,by omega,rfl,by omega⟩,A6,O3,<- insT_at k1 k2 k3 a6]
def zyf{o:A7}{t:B0}(ho:SmTr o.T)(hv:J9 o)(ht:SmX t):tG o t=some (addO o t):=by
 have hl:=ho.1;unfold tG fK addO;rw[zva ho,A6,show fuel=2+(fuel-2) by unfold fuel;rfl]
 have h1:fK.s2 o [t] o.T 0=if gG t o.I≠0 then some (.inr (.inr (o,gG t o.I))) else if kA o.T t then some (.inr (.inr (o,13))) else if 10000<(addL o.T t).length then some (.inr (.inr (o,11))) else some (.inl (addL o.T t,1)):=by
  unfold fK.s2;rw[E2 (by simp),C8 (x:=t) rfl,ztq _ _ ht.1 ht.2,A6];by_cases g1:gG t o.I=0
  ·rw[B4 (by simpa using g1),if_neg (by simpa using g1),zyx ho hv ht (AH.1 g1),A6];split
   ·rfl
   ·split
    ·rfl
    ·rfl
  ·rw[E2 g1,if_pos g1]
 have h2:∀l,fK.s2 o [t] l 1=some (.inr (.inl l)):=λl=>by
  unfold fK.s2;rw[B4 (by simp)]
 rw[bB 2 (fuel-2)];unfold iter;rw[h1];by_cases g1:gG t o.I≠0
 ·simp[g1]
 ·simp only[g1,if_false];by_cases g2:kA o.T t
  ·simp[g2]
  ·simp only[g2,if_false];by_cases g3:10000<(addL o.T t).length
   ·simp[g3]
   ·simp only[g3,if_false];unfold iter;rw[h2];simp
def kG{o:A7}(hv:J9 o){w r:A2}(h:ansO o w=some r):r.length=w.length:=by
 unfold ansO at h;split at h
 ·rename_i h0;injection h with h
  rw[<- h,h0]
 ·obtain⟨t,ht,rfl⟩:=dS.1 h;have hm:=dR ht;have hp:w <+: t.In:=by simpa using lC ht
  have:=(hv.prop t hm).1.2.1;have:=pre_len hp;rw[H6];omega
def rowO(o:A7)(w:A2):A4->Option (A4)
 |[]=>some []
 |e::S=>match ansO o (w++e) with
  |none=>none
  |some r=>(rowO o w S).map λl=>r.drop w.length::l
def rowO_drop{o:A7}{w:A2}{S:A4}{k:Nat}{e:A2}(h:S[k]?=some e):rowO o w (S.drop k)=match ansO o (w++e) with|none=>none|some r=>(rowO o w (S.drop (k+1))).map λl=>r.drop w.length::l:=by
 obtain⟨hk,rfl⟩:=E4.1 h;rw[cV hk];rfl
def BZ{o:A7}{F:List B0}{t:C6}{w:A2}(ho:SmO o)(hv:J9 o)(hF:lE o F)(hS:SmL t.X)(hw:SmW w):eK F t w=some (tw (rowO o w t.X)):=by
 have a6:t.X.length<=2000000:=hS.1;have a5:w.length<=2000000:=hw;unfold eK
 have key:=bA (step:=λ(s:A4×Nat)=>eK.s2 F t w s.1 s.2) (λs=>s.2<=t.X.length/\s.1.length=s.2/\rowO o w t.X=(rowO o w (t.X.drop s.2)).map (s.1++·)) (λs=>t.X.length-s.2)
  (λr=>Sum.elim (λ(a2:A4)=>some (a2,true)) some r=some (tw (rowO o w t.X))) (λs ⟨g1,g2,g3⟩=>by
   obtain⟨y,k⟩:=s
   simp only at g1 g2 g3
   simp only[eK.s2]
   by_cases g4:k<t.X.length
   ·have hx:=get_at g4
    have a4:SmW t.X[k]:=hS.2 _ (J3 _)
    have a7:t.X[k].length<=2000000:=a4
    rw[K8 hx,G5,C8 hx,gT _ (by simp) (by simp;omega),A6]
    simp only[W6,DF,V0]
    rw[IY ho hv hF,A6]
    rw[rowO_drop hx]at g3
    cases ha:ansO o (w++t.X[k]) with
    |none =>
     right
     rw[ha]at g3
     refine⟨.inr ([],false),rfl,?_⟩
     rw[g3]
     rfl
    |some r =>
     left
     rw[ha]at g3
     have a3:=kG hv ha
     rw[D4]at a3
     have hd:SmW (r.drop w.length):=by unfold SmW;rw[M0];omega
     refine⟨(y++[r.drop w.length],k+1),?_,⟨g4,by simp[g2],?_⟩,by simp only;omega⟩
     ·simp only[tw,U0,G0]
      rw[H7 (by omega),gW hd,A6,aK]
     ·rw[g3,Option.map_map]
      simp only
      congr 1
      funext l
      simp
   ·right
    have e:k=t.X.length:=by omega
    subst e
    refine⟨.inl y,by rw[B4],?_⟩
    rw[g3,oD]
    simp[rowO,tw]) fuel ([],0) ⟨F7 _,rfl,by simp⟩ (by have:=U7;simp only;omega)
 obtain⟨r,e,hq⟩:=key;rw[aK,e];exact hq
def chkT(t:C6)(o:A7):Int:=if P5 t≠0 then P5 t else if t.I≠o.I then 15 else 0
def CE{t:C6}{o:A7}(ht:SmT t):nK t o=some (chkT t o):=by
 unfold nK chkT;rw[IK t ht,A6];by_cases h:P5 t=0
 ·rw[B4 (by simpa using h),if_neg (by simpa using h)];by_cases h2:t.I=o.I<;>simp[h2]
 ·rw[E2 h,if_pos h]
def rowT(t:C6)(o:A7)(w:A2):A4×Bool:=if chkT t o≠0 then([],false) else tw (rowO o w t.X)
def table_Row_eq{t:C6}{o:A7}{w:A2}(ht:SmT t)(ho:SmO o)(hv:J9 o)(hw:SmW w):sX t o w=some (rowT t o w):=by
 obtain⟨F,a2,hF⟩:=BX ho hv;unfold sX rowT;rw[CE ht,A6];by_cases h:chkT t o=0
 ·rw[B4 (by simpa using h),if_neg (by simpa using h),a2,A6,BZ ho hv hF ht.2.2.1 hw,A6]
 ·rw[E2 h,if_pos h]
def JK{l:A4}(hl:SmL l):fQ l=some (maxR l):=by
 have a4:l.length<=2000000:=hl.1;obtain⟨L,e1,h1,h2,h3⟩:=ED lexI_total (f:=λu0 u1=>jA u0 u1) hl λa ha b hb=>tM a b (by have:SmW a:=hl.2 a ha;unfold SmW at this;omega);have a2:∀x∈L,SmW x:=λx hx=>hl.2 x ((h2 x).1 hx);unfold fQ;rw[e1,A6]
 have key:=V3 (step:=λ(s:A4×Nat)=>fQ.s2 L s.1 s.2) (r:=aL L) (λs=>s.2<=L.length/\s.1.length<=s.2/\aL L=s.1++aL (L.drop s.2)) (λs=>L.length-s.2) (λs ⟨g1,g2,g3⟩=>by
  obtain⟨y,i⟩:=s
  simp only at g1 g2 g3
  simp only[fQ.s2]
  by_cases g4:i<L.length
  ·left
   have hx:=get_at g4
   rw[K8 hx,G5,C8 hx]
   by_cases g5:i+1=L.length
   ·rw[keepM_end hx g5]at g3
    refine⟨(y++[L[i]],i+1),?_,⟨by simp only;omega,by simp;omega,by simp only;rw[g3];simp⟩,by simp only;omega⟩
    rw[E2,A6,G5,aK]
   ·have hy:=get_at (l:=L) (i:=i+1) (by omega)
    rw[keepM_step hx hy]at g3
    rw[B4,C8 hy,qU _ _ (a2 _ (J3 _)),A6,A6]
    by_cases g6:L[i] <+: (L[i+1]'(by omega))
    ·rw[if_pos g6]at g3
     refine⟨(y,i+1),?_,⟨by simp only;omega,by simp only;omega,g3⟩,by simp only;omega⟩
     rw[E6 g6]
     rfl
    ·rw[if_neg g6]at g3
     refine⟨(y++[L[i]],i+1),?_,⟨by simp only;omega,by simp;omega,by simp only;rw[g3];simp⟩,by simp only;omega⟩
     rw[I3 g6,jU,G5,aK]
  ·right
   have e:i=L.length:=by omega
   subst e
   rw[oD]at g3
   rw[B4,g3]
   simp[aL]) (n:=fuel) (s:=([],0)) ⟨F7 _,by simp,by simp⟩
 have hk:=zG L;have a3:SmL (aL L):=⟨by have:=hk.length_le;omega,λx hx=>a2 x (hk.mem hx)⟩;rw[key,A6,zti a3,A6,sortW_keepM h1 h2]
end Go.Proofs.YtdjagdnpnhmldaaGreatDoor.Sym

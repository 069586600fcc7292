/-
 The contract of slices.SortFunc under a total comparison.
-/
import Derived.Test.YtedabpfahmealaaGreatDoorM2
import Derived.Shelf.SlSortCmp.NoneTotal
import Derived.Lib.OwnBridge
import Derived.Laws.OwnMore
import Derived.Lib.BufferRead
import Derived.Lib.Hide
import Derived.WalkSmall
import Derived.Shelf.SlSortCmp.Whole1
import Derived.Shelf.SlSortCmp.WholeK
import Derived.Ground.SlsfProg
import Derived.Test.YtedabpfahmealaaGreatDoorProg
set_option linter.all false
namespace Go.Proofs.YtedabpfahmealaaGreatDoor.Sym
open Go.RowKit Go.Sort
section plain
variable {α:Type}
def totB [DecidableEq α] (f:α→α→Option Int) (l:List α):Bool :=
 l.all fun a=>l.all fun b=>match f a b,f b a with
  | some m,some n=>(decide (m=0)==decide (a=b))&&(decide (m<0)==decide (0<n))&&(decide (-1≤m∧m≤1))&&l.all fun c=>!(decide (m<0)&&(match f b c with | some x=>decide (x<0) | none=>false))||(match f a c with | some x=>decide (x<0) | none=>false)
  | _,_=>false
def insF (f:α→α→Option Int) (x:α):List α→List α
 | []=>[x]
 | y::l=>match f x y with
  | some m=>cond (decide (m≤0)) (x::y::l) (y::insF f x l)
  | none=>x::y::l
def isortF (f:α→α→Option Int):List α→List α
 | []=>[]
 | x::l=>insF f x (isortF f l)
def libSort [DecidableEq α] (l:List α) (f:α→α→Option Int):Option (List α):=chk (l.length≤1000000000) (cond (totB f l) (some (isortF f l)) none)
def cfv (f:α→α→Option Int) (a b:α):Int:=(f a b).getD 0
structure TotF (f:α→α→Option Int) (l:List α):Prop where
 get:∀ a∈l,∀ b∈l,f a b=some (cfv f a b)
 zero:∀ a∈l,∀ b∈l,cfv f a b=0→a=b
 self:∀ a∈l,cfv f a a=0
 swap:∀ a∈l,∀ b∈l,(cfv f a b<0↔0<cfv f b a)
 trans:∀ a∈l,∀ b∈l,∀ c∈l,cfv f a b<0→cfv f b c<0→cfv f a c<0
theorem totB_iff [DecidableEq α] {f:α→α→Option Int} {l:List α} (h:totB f l=true):TotF f l:=by
 have key:∀ a∈l,∀ b∈l,∃ m n,f a b=some m∧f b a=some n∧(m=0↔a=b)∧(m<0↔0<n)∧∀ c∈l,m<0→(∃ x,f b c=some x∧x<0)→∃ x,f a c=some x∧x<0:=by
  intro a ha b hb
  have h1:=List.all_eq_true.1 (List.all_eq_true.1 h a ha) b hb
  cases e1:f a b with
  | none=>rw [e1] at h1;cases h1
  | some m =>
   cases e2:f b a with
   | none=>rw [e1,e2] at h1;cases h1
   | some n =>
    rw [e1,e2] at h1
    simp only [Bool.and_eq_true] at h1
    obtain ⟨⟨⟨h2,h3⟩,_⟩,h5⟩:=h1
    refine ⟨m,n,rfl,rfl,?_,?_,fun c hc hm ⟨x,hx,hx0⟩=>?_⟩
    ·have h2:=eq_of_beq h2
     simpa using h2
    ·have h3:=eq_of_beq h3
     simpa using h3
    ·have h6:=List.all_eq_true.1 h5 c hc
     rw [hx] at h6
     simp only [hm,hx0,decide_true,Bool.and_self,Bool.not_true,Bool.false_or] at h6
     cases e3:f a c with
     | none=>rw [e3] at h6;cases h6
     | some y=>rw [e3] at h6;exact ⟨y,rfl,by simpa using h6⟩
 have get:∀ a∈l,∀ b∈l,f a b=some (cfv f a b):=fun a ha b hb=>by
  obtain ⟨m,n,e1,_⟩:=key a ha b hb
  unfold cfv
  rw [e1]
  rfl
 refine ⟨get,fun a ha b hb=>?_,fun a ha=>?_,fun a ha b hb=>?_,fun a ha b hb c hc h1 h2=>?_⟩
 ·obtain ⟨m,n,e1,e2,h3,_⟩:=key a ha b hb
  rw [get a ha b hb] at e1
  injection e1 with e1
  rw [e1]
  exact h3.1
 ·obtain ⟨m,n,e1,e2,h3,_⟩:=key a ha a ha
  rw [get a ha a ha] at e1
  injection e1 with e1
  rw [e1]
  exact h3.2 rfl
 ·obtain ⟨m,n,e1,e2,h3,h4,_⟩:=key a ha b hb
  rw [get a ha b hb] at e1
  rw [get b hb a ha] at e2
  injection e1 with e1
  injection e2 with e2
  rw [e1,e2]
  exact h4
 ·obtain ⟨m,n,e1,e2,h3,h4,h5⟩:=key a ha b hb
  rw [get a ha b hb] at e1
  injection e1 with e1
  obtain ⟨x,hx,hx0⟩:=h5 c hc (by omega) ⟨_,get b hb c hc,h2⟩
  rw [get a ha c hc] at hx
  injection hx with hx
  omega
theorem TotF.sub {f:α→α→Option Int} {l l':List α} (T:TotF f l) (h:∀ x∈l',x∈l):TotF f l' :=
 ⟨fun a ha b hb=>T.get a (h a ha) b (h b hb),fun a ha b hb=>T.zero a (h a ha) b (h b hb),fun a ha=>T.self a (h a ha),fun a ha b hb=>T.swap a (h a ha) b (h b hb),fun a ha b hb c hc=>T.trans a (h a ha) b (h b hb) c (h c hc)⟩
def NGt (f:α→α→Option Int) (a b:α):Prop:=¬ cfv f b a<0
theorem TotF.ngt_trans {f:α→α→Option Int} {l:List α} (T:TotF f l) {a b c:α} (ha:a∈l) (hb:b∈l) (hc:c∈l) (h1:NGt f a b) (h2:NGt f b c):NGt f a c:=by
 intro h3
 have s1:=T.swap a ha b hb
 have s2:=T.swap b hb c hc
 have s3:=T.swap c hc a ha
 have t1:=T.swap b hb a ha
 have t2:=T.swap c hc b hb
 unfold NGt at h1 h2
 by_cases e1:cfv f b a=0
 ·have:=T.zero b hb a ha e1
  subst this
  exact h2 h3
 ·by_cases e2:cfv f c b=0
  ·have:=T.zero c hc b hb e2
   subst this
   exact h1 h3
  ·have h4:cfv f a b<0:=s1.2 (by omega)
   have h5:=T.trans c hc a ha b hb h3 h4
   exact h2 h5
theorem insF_le {f:α→α→Option Int} {x y:α} {l:List α} {m:Int} (h:f x y=some m) (hm:m≤0):insF f x (y::l)=x::y::l:=by
 simp [insF,h,hm]
theorem insF_gt {f:α→α→Option Int} {x y:α} {l:List α} {m:Int} (h:f x y=some m) (hm:¬ m≤0):insF f x (y::l)=y::insF f x l:=by
 simp [insF,h,hm]
theorem insF_perm (f:α→α→Option Int) (x:α):∀ l:List α,(insF f x l).Perm (x::l)
 | []=>List.Perm.refl _
 | y::l=>by
  cases h:f x y with
  | none=>simp [insF,h]
  | some m =>
   by_cases hm:m≤0
   ·rw [insF_le h hm]
   ·rw [insF_gt h hm]
    exact ((insF_perm f x l).cons y).trans (List.Perm.swap x y l)
theorem isortF_perm (f:α→α→Option Int):∀ l:List α,(isortF f l).Perm l
 | []=>List.Perm.refl _
 | x::l=>(insF_perm f x _).trans ((isortF_perm f l).cons x)
theorem insF_sorted {f:α→α→Option Int} {x:α}:∀ {l:List α},TotF f (x::l)→l.Pairwise (NGt f)→(insF f x l).Pairwise (NGt f)
 | [],_,_=>List.pairwise_singleton _ _
 | y::l,T,h=>by
  have hx:x∈x::y::l:=by simp
  have hy:y∈x::y::l:=by simp
  have hc:=List.pairwise_cons.1 h
  by_cases hd:cfv f x y≤0
  ·rw [insF_le (T.get x hx y hy) hd]
   have hxy:NGt f x y:=fun h0=>by
    have:=(T.swap y hy x hx).1 h0
    omega
   exact List.pairwise_cons.2 ⟨fun z hz=>by
    rcases List.mem_cons.1 hz with rfl | hz'
    ·exact hxy
    ·exact T.ngt_trans hx hy (by simp [hz']) hxy (hc.1 z hz'),h⟩
  ·rw [insF_gt (T.get x hx y hy) hd]
   have hyx:NGt f y x:=by unfold NGt;omega
   refine List.pairwise_cons.2 ⟨fun z hz=>?_,insF_sorted (T.sub fun z hz=>?_) hc.2⟩
   ·rcases List.mem_cons.1 ((insF_perm f x l).mem_iff.1 hz) with rfl | hz'
    ·exact hyx
    ·exact hc.1 z hz'
   ·rcases List.mem_cons.1 hz with rfl | hz'
    ·simp
    ·simp [hz']
theorem isortF_sorted {f:α→α→Option Int}:∀ {l:List α},TotF f l→(isortF f l).Pairwise (NGt f)
 | [],_=>List.Pairwise.nil
 | x::l,T=>insF_sorted (T.sub fun z hz=>by
   rcases List.mem_cons.1 hz with rfl | hz'
   ·simp
   ·exact List.mem_cons_of_mem _ ((isortF_perm f l).mem_iff.1 hz')) (isortF_sorted (T.sub fun z hz=>List.mem_cons_of_mem _ hz))
theorem sorted_uniq {f:α→α→Option Int}:∀ {l1 l2:List α},TotF f l1→l1.Perm l2→l1.Pairwise (NGt f)→l2.Pairwise (NGt f)→l1=l2
 | [],l2,_,hp,_,_=>(List.nil_perm.1 hp).symm
 | x::l1,[],_,hp,_,_=>absurd hp.length_eq (by simp)
 | x::l1,y::l2,T,hp,h1,h2=>by
  have p1:=List.pairwise_cons.1 h1
  have p2:=List.pairwise_cons.1 h2
  have hx:x∈x::l1:=by simp
  have hy:y∈x::l1:=hp.mem_iff.2 (by simp)
  have e:x=y:=by
   rcases List.mem_cons.1 hy with e | hy'
   ·exact e.symm
   ·have hxy:=p1.1 y hy'
    rcases List.mem_cons.1 (hp.mem_iff.1 hx) with e | hx'
    ·exact e
    ·have hyx:=p2.1 x hx'
     have s1:=T.swap y hy x hx
     have s2:=T.swap x hx y hy
     unfold NGt at hxy hyx
     exact T.zero x hx y hy (by omega)
  subst e
  rw [sorted_uniq (T.sub fun z hz=>List.mem_cons_of_mem _ hz) (List.Perm.cons_inv hp) p1.2 p2.2]
end plain
section model
variable {α:Type}
def CmpG (P:Program) (g:FuncId) (X:α→IV) (f:α→α→Option Int):Prop :=
 ∀ (W:World) (S:Nat→Prop) (u u':Value) (x y:α) (r:Int),f x y=some r→RepI W S u (X x)→RepI W S u' (X y) →
  Calls P g #[u,u'] W fun e w'=>e=.returned (.int .i64 r)∧∃ q os,w'=Sort.grow (W.drewN q) os
def El (w:World) (S:Nat→Prop) (k:Nat) (c:α→List IV) (l:List α):Type:={ p:List Value×α // p.1.length=k∧(∀ v∈p.1,v.oneCell'=true)∧RepIs w S p.1 (c p.2)∧p.2∈l }
variable {w:World} {S:Nat→Prop} {k:Nat} {c:α→List IV} {l:List α}
def El.enc (x:El w S k c l):List Value:=x.val.1
def El.wd (x:El w S k c l):α:=x.val.2
def El.of (us:List Value) (x:α) (h1:us.length=k) (h2:∀ v∈us,v.oneCell'=true) (h3:RepIs w S us (c x)) (h4:x∈l):El w S k c l:=⟨(us,x),h1,h2,h3,h4⟩
theorem el_list (hk:∀ x,(c x).length=k):∀ (l0:List α) (us:List Value),(∀ x∈l0,x∈l)→us.length=(l0.map c).flatten.length→(∀ u∈us,u.oneCell'=true) →
  (∀ (i:Nat) u x,us[i]?=some u→(l0.map c).flatten[i]?=some x→RepI w S u x)→∃ zs:List (El w S k c l),(zs.map El.enc).flatten=us∧zs.map El.wd=l0
 | [],us,_,hl,_,_=>⟨[],(List.eq_nil_of_length_eq_zero hl).symm,rfl⟩
 | x::l0,us,hm,hl,h1,hr=>by
  rw [List.map_cons,List.flatten_cons] at hl hr
  rw [List.length_append,hk] at hl
  obtain ⟨zs,e1,e2⟩:=el_list hk l0 (us.drop k) (fun y hy=>hm y (List.mem_cons_of_mem _ hy)) (by rw [List.length_drop];omega) (fun u hu=>h1 u (List.mem_of_mem_drop hu)) fun i u y hu hy=>by
   rw [List.getElem?_drop] at hu
   refine hr (k+i) u y hu ?_
   rw [List.getElem?_append,if_neg (by rw [hk];omega),hk]
   rwa [Nat.add_sub_cancel_left]
  have hx1:(us.take k).length=k:=by rw [List.length_take];omega
  have hx2:∀ v∈us.take k,v.oneCell'=true:=fun u hu=>h1 u (List.mem_of_mem_take hu)
  have hx3:RepIs w S (us.take k) (c x):=⟨by rw [hx1,hk],fun i u y hu hy=>by
   have hi:i<k:=by
    rw [← hk x]
    exact (List.getElem?_eq_some_iff.1 hy).1
   rw [List.getElem?_take,if_pos hi] at hu
   exact hr i u y hu (by rw [List.getElem?_append,if_pos (by rw [hk];exact hi)];exact hy)⟩
  refine ⟨El.of (us.take k) x hx1 hx2 hx3 (hm x (by simp))::zs,?_,?_⟩
  ·rw [List.map_cons,List.flatten_cons,e1]
   exact List.take_append_drop k us
  ·rw [List.map_cons,e2]
   rfl
theorem el_swo {f:α→α→Option Int} (T:TotF f l):SWO (ltOf fun x y:El w S k c l=>cfv f x.wd y.wd) where
 irrefl x:=by
  have:=T.self x.wd x.property.2.2.2
  simp [ltOf,this]
 trans x y z h1 h2:=by
  simp only [ltOf,decide_eq_true_eq] at *
  exact T.trans _ x.property.2.2.2 _ y.property.2.2.2 _ z.property.2.2.2 h1 h2
 ntrans x y z h1 h2:=by
  simp only [ltOf,decide_eq_false_iff_not] at *
  exact T.ngt_trans z.property.2.2.2 y.property.2.2.2 x.property.2.2.2 h2 h1
def SortC (P:Program) (sg:FuncId) (k:Nat) (mk:List Value→Value):Prop :=
 (∀ (p:Option Addr) (cap:Nat) (fv:Value) (w:World),Calls P sg #[.slice p 0 cap,fv] w fun e w'=>e=.returned (.tuple #[])∧w'=w) ∧
 ∀ (E:Type) [Inhabited E] (enc:E→List Value) (cf:E→E→Int) (g blk cap:Nat) (d:Array E) (w:World),(∀ x,(enc x).length=k)→(∀ x,∀ v∈enc x,v.oneCell'=true)→SWO (ltOf cf) →
  (∀ args w,(callFunc g args).run P w=.ok (.enter g args) w) →
  (∀ (m:Nat) (os:Array Obj) (dk:Array E),dk.size=d.size→∀ x y:E,Calls P g #[mk (enc x),mk (enc y)] (Sort.grow (putRow id (Sort.ahead w m) blk 0 (Go.Sort.flatK enc k dk)) os) fun e w' =>
   e=.returned (.int .i64 (cf x y))∧∃ q os',w'=Sort.grow ((Sort.grow (putRow id (Sort.ahead w m) blk 0 (Go.Sort.flatK enc k dk)) os).drewN q) os') →
  Go.Sort.Holds id w blk 0 (Go.Sort.flatK enc k d)→blk<w.heap.size→d.size<4611686018427387904 →
  Calls P sg #[.slice (some ⟨blk,0,none⟩) d.size cap,.func (.func g) #[] #[]] w fun e w' =>
   e=.returned (.tuple #[])∧∃ d' n os,PermIn 0 d.size d d'∧SortedIn (ltOf cf) 0 d.size d'∧w'=Sort.grow (putRow id (Sort.ahead w n) blk 0 (Go.Sort.flatK enc k d')) os
theorem perm_of_in' {β:Type} [Inhabited β] {d d':Array β} (h:PermIn 0 d.size d d'):d'.toList.Perm d.toList:=by
 obtain ⟨hs,_,hp⟩:=h
 have e1:d'.extract 0 d.size=d':=by rw [← hs];simp
 have e2:d.extract 0 d.size=d:=by simp
 rwa [e1,e2] at hp
theorem pairwise_of_in' {β:Type} [Inhabited β] {lt:β→β→Bool} {d:Array β} {n:Nat} (hn:d.size=n) (h:SortedIn lt 0 n d):d.toList.Pairwise fun a b=>lt b a=false:=by
 rw [List.pairwise_iff_getElem]
 intro i j hi hj hij
 have:=h i j (Nat.zero_le _) hij (by rw [← hn];simpa using hj)
 simp at hi hj
 simpa [getElem!_pos,hi,hj] using this
theorem flatK_list {β:Type} [Inhabited β] {enc:β→List Value} {k:Nat} (hk:∀ x,(enc x).length=k) (d:Array β):Go.Sort.flatK enc k d=(d.toList.map enc).flatten.toArray:=by
 have hl:((d.toList.map enc).flatten).length=d.size*k:=by
  rw [flat_length (k:=k) fun x hx=>by obtain ⟨y,_,rfl⟩:=List.mem_map.1 hx;exact hk y]
  simp
 refine ext_get! (by simp [hl]) fun t ht=>?_
 rw [size_flatK] at ht
 rw [get_flatK _ _ _ t ht]
 have k0:0<k:=by
  rcases Nat.eq_zero_or_pos k with h | h
  ·subst h;simp at ht
  ·exact h
 have hq:t / k<d.size:=Nat.div_lt_of_lt_mul (by rwa [Nat.mul_comm] at ht)
 have hm:t%k<k:=Nat.mod_lt _ k0
 have hg:=flat_get (es:=d.toList.map enc) (i:=t / k) (j:=t%k) (e:=enc (d[t / k]'hq)) (fun x hx=>by obtain ⟨y,_,rfl⟩:=List.mem_map.1 hx;exact hk y) (by simp [hq]) hm
 rw [show t / k*k+t%k=t by rw [Nat.mul_comm];exact Nat.div_add_mod t k] at hg
 have hm2:t%k<(enc (d[t / k]'hq)).length:=by rw [hk];exact hm
 rw [List.getElem?_eq_getElem hm2,List.getElem?_eq_getElem (by rw [hl];exact ht)] at hg
 injection hg with hg
 rw [getElem!_pos d _ hq,getElem!_pos (enc (d[t / k]'hq)) (t%k) hm2,getElem!_pos ((d.toList.map enc).flatten.toArray) t (by simpa [hl] using ht)]
 simpa using hg.symm
theorem own_put {w:World} {base:Nat} {e:TypeId} {g n cap k q:Nat} {us us':List Value} {os:Array Obj} (h:w.ownsRow base e k (.slice (some ⟨g,0,none⟩) n cap) n us) (hl:us'.length=n*k) :
  (Sort.grow (putRow id (Sort.ahead w q) g 0 us'.toArray) os).ownsRow base e k (.slice (some ⟨g,0,none⟩) n cap) n us':=by
 rcases h.2 with ⟨e0,_⟩ | ⟨g',cap',cur,e0,hb,hg,hn,hm,hs,ht⟩
 ·cases e0
 ·injection e0 with e1 _ e3
  injection e1 with e1
  injection e1 with e1
  subst e1;subst e3
  have hlt:g<w.heap.size:=by
   rcases Nat.lt_or_ge g w.heap.size with h' | h'
   ·exact h'
   ·rw [Array.getElem?_eq_none h'] at hg;cases hg
  refine ⟨hl,.inr ⟨g,cap,putCells id 0 us'.toArray cur,rfl,hb,?_,hn,hm,by simpa [putCells] using hs,?_⟩⟩
  ·have:g<(putRow id (Sort.ahead w q) g 0 us'.toArray).heap.size:=by simpa [putRow,mapBlock,Sort.ahead] using hlt
   simp only [Sort.grow,Array.getElem?_append,if_pos this]
   simp [putRow,mapBlock,Sort.ahead,Array.getElem?_modify,hg,onCells]
  ·have hle:n*k≤cap*k:=Nat.mul_le_mul_right k hn
   apply List.ext_getElem?
   intro j
   rw [List.getElem?_take,Array.getElem?_toList]
   by_cases hj:j<n*k
   ·have hjc:j<cur.size:=by omega
    rw [if_pos hj]
    simp only [putCells,Array.getElem?_mapIdx,Array.getElem?_eq_getElem hjc,Option.map_some]
    rw [if_pos (by simp;omega),List.getElem?_eq_getElem (by omega)]
    simp [getElem!_pos,show j<us'.length by omega]
   ·rw [if_neg hj,List.getElem?_eq_none (by omega)]
theorem holds_own {w:World} {base:Nat} {e:TypeId} {g n cap k:Nat} {us:List Value} (h:w.ownsRow base e k (.slice (some ⟨g,0,none⟩) n cap) n us):Go.Sort.Holds id w g 0 us.toArray:=by
 rcases h.2 with ⟨e0,_⟩ | ⟨g',cap',cur,e0,hb,hg,hn,hm,hs,ht⟩
 ·cases e0
 ·injection e0 with e1 _ e3
  injection e1 with e1
  injection e1 with e1
  subst e1;subst e3
  intro j hj
  have hj':j<us.length:=by simpa using hj
  have hjn:j<n*k:=by rw [← h.1];exact hj'
  have hle:n*k≤cap*k:=Nat.mul_le_mul_right k hn
  have hjc:j<cur.size:=by omega
  have e1:(cur.toList.take (n*k))[j]?=us[j]?:=by rw [ht]
  rw [List.getElem?_take,if_pos hjn,Array.getElem?_toList,List.getElem?_eq_getElem hj'] at e1
  refine ⟨?_,by simp [World.frozen?,hg]⟩
  simp only [World.cell?,hg,Nat.zero_add,Option.isSome_none,Bool.false_eq_true,if_false]
  rw [e1]
  simp [getElem!_pos,hj']
theorem put_block {w:World} {g q:Nat} {F:Array Value} {os:Array Obj} {b:Nat} (hb:b<w.heap.size) (hne:b≠g):(Sort.grow (putRow id (Sort.ahead w q) g 0 F) os).heap[b]?=w.heap[b]?:=by
 have:b<(putRow id (Sort.ahead w q) g 0 F).heap.size:=by simpa [putRow,mapBlock,Sort.ahead] using hb
 simp only [Sort.grow,Array.getElem?_append,if_pos this]
 simp [putRow,mapBlock,Sort.ahead,Array.getElem?_modify,Ne.symm hne]
theorem put_cell {w:World} {g q:Nat} {F:Array Value} {os:Array Obj} {p:Addr} {u:Value} (hne:p.block≠g) (h:w.cell? p=some u):(Sort.grow (putRow id (Sort.ahead w q) g 0 F) os).cell? p=some u:=by
 have hlt:=World.block_lt_of_cell? w _ h
 unfold World.cell? at h ⊢
 rw [put_block hlt hne]
 exact h
theorem sp_of_sort [DecidableEq α] {P:Program} {sg:FuncId} {mk:List Value→Value} {t:TypeId} {X:α→IV} (he:∀ args w,(callFunc sg args).run P w=.ok (.enter sg args) w) (C:SortC P sg k mk) (hk0:0<k) (hk:∀ x,(c x).length=k)
  (hX:∀ (W:World) (S:Nat→Prop) us x,us.length=k→(∀ v∈us,v.oneCell'=true)→RepIs W S us (c x)→RepI W S (mk us) (X x))
  {f:α→α→Option Int} {g:FuncId} (eg:∀ args w,(callFunc g args).run P w=.ok (.enter g args) w) (hg:CmpG P g X f) {l r:List α} (h:libSort l f=some r) :
  Sp P sg [.lent (.row t k (l.map c)),.im (.fn g [])] (.mk true [] [.lent (.row t k (r.map c))]):=by
 obtain ⟨hlen,h⟩:=chk_some h
 cases hT:totB f l with
 | false=>rw [hT] at h;cases h
 | true =>
 rw [hT] at h
 injection h with h
 subst h
 have T:=totB_iff hT
 refine ⟨he,fun w S vs F hS hv hn hF=>?_⟩
 match vs,hv with
 | [v,u],⟨F1,F2,⟨hv1,inn,hrow,e1⟩,⟨F3,F4,⟨h4,e2⟩,h5,e3⟩,e4⟩ =>
  have h5:F4=[]:=h5
  have e1:F1=(blkOf v).toList:=e1
  subst e1 e2 h5 e3
  have e4:F=(blkOf v).toList:=by rw [e4];simp
  subst e4
  obtain ⟨us,_,_,hlim,hown,hul,h1,hr⟩:=hrow
  rw [List.length_map] at hown hlim
  have hu:u=.func (.func g) #[] #[]:=by
   generalize hx:IV.fn g []=x at h4
   cases h4 with
   | fn f us cs hl hr =>
    injection hx with hx1 hx2
    subst hx1 hx2
    have:=List.eq_nil_of_length_eq_zero hl
    subst this
    rfl
   | _=>cases hx
  subst hu
  have fin:∀ (w':World) (us':List Value),w'.ownsRow 0 t k v l.length us'→us'.length=((isortF f l).map c).flatten.length→(∀ u∈us',u.oneCell'=true) →
    Belo (fun b=>b∈(blkOf v).toList) w.heap.size w w'→(∀ (i:Nat) u x,us'[i]?=some u→((isortF f l).map c).flatten[i]?=some x→RepI w' (fun b=>(S b∨w.heap.size≤b∨b∈(blkOf v).toList)∧b<w'.heap.size∧b∉(blkOf v).toList) u x) →
    ∃ (v1:Value) (F':List Nat),Ending.returned (.tuple #[])=.returned v1∧Belo (fun b=>b∈(blkOf v).toList) w.heap.size w w' ∧
     ResOk w' (fun b=>(S b∨w.heap.size≤b∨b∈(blkOf v).toList)∧b<w'.heap.size∧b∉F') v1 (bxVs [v,.func (.func g) #[] #[]] [.lent (.row t k (l.map c)),.im (.fn g [])]) (.mk true [] [.lent (.row t k ((isortF f l).map c))]) F'∧F'.Nodup∧∀ b∈F',(w.heap.size≤b∨b∈(blkOf v).toList)∧b<w'.heap.size:=by
   intro w' us' ho hl' h1' hb hr'
   refine ⟨_,(blkOf v).toList,rfl,hb,⟨[],[],(blkOf v).toList,rfl,rfl,⟨(blkOf v).toList,[],⟨hv1,inn,⟨us',hk0,fun x hx=>?_,?_,?_,hl',h1',hr'⟩,rfl⟩,rfl,by simp⟩,by simp⟩,hn,fun b hb'=>⟨.inr hb',Nat.lt_of_lt_of_le (hF b hb').2 hb.size⟩⟩
   ·obtain ⟨y,_,rfl⟩:=List.mem_map.1 hx
    exact hk y
   ·rw [List.length_map,(isortF_perm f l).length_eq]
    exact hlim
   ·rw [List.length_map,(isortF_perm f l).length_eq]
    exact ho
  by_cases hnil:v=.slice none 0 0
  ·subst hnil
   have hl0:l.length=0:=by
    rcases hown.2 with ⟨_,h0⟩ | ⟨_,_,_,e,_⟩
    ·exact h0
    ·cases e
   have hl0:l=[]:=List.eq_nil_of_length_eq_zero hl0
   subst hl0
   refine (C.1 none 0 _ w).mono ?_
   rintro e w' ⟨rfl,rfl⟩
   have hus:us=[]:=List.eq_nil_of_length_eq_zero (by rw [hul];rfl)
   subst hus
   exact fin w' [] hown rfl (fun u hu=>by cases hu) (Belo.refl _ _ _) fun i u x hu=>by simp at hu
  ·obtain ⟨blk,cap,rfl⟩:∃ blk cap,v=.slice (some ⟨blk,0,none⟩) l.length cap:=by
    rcases hown.2 with ⟨e0,_⟩ | ⟨g,cap,cur,e,_⟩
    ·exact absurd e0 hnil
    ·exact ⟨g,cap,e⟩
   have hblk:blk<w.heap.size:=(hF blk (by simp [blkOf])).2
   have hnS:¬ S blk:=(hF blk (by simp [blkOf])).1
   obtain ⟨zs,hz1,hz2⟩:=el_list (w:=w) (S:=S) (l:=l) hk l us (fun x hx=>hx) hul h1 hr
   by_cases hl0:l=[]
   ·subst hl0
    refine (C.1 (some ⟨blk,0,none⟩) cap _ w).mono ?_
    rintro e w' ⟨rfl,rfl⟩
    have hus:us=[]:=List.eq_nil_of_length_eq_zero (by rw [hul];rfl)
    subst hus
    exact fin w' [] hown rfl (fun u hu=>by cases hu) (Belo.refl _ _ _) fun i u x hu=>by simp at hu
   ·have hzl:zs.length=l.length:=by have:=congrArg List.length hz2;simpa using this
    obtain ⟨z0,hz0⟩:∃ z,z∈zs:=by
     cases zs with
     | nil=>exact absurd (by simpa using hz2.symm) hl0
     | cons z zs=>exact ⟨z,by simp⟩
    haveI:Inhabited (El w S k c l):=⟨z0⟩
    have henc:∀ x:El w S k c l,(El.enc x).length=k:=fun x=>x.property.1
    have hflat:∀ d:Array (El w S k c l),Go.Sort.flatK El.enc k d=(d.toList.map El.enc).flatten.toArray:=flatK_list henc
    have hcall:=C.2 (El w S k c l) El.enc (fun x y=>cfv f x.wd y.wd) g blk cap zs.toArray w henc (fun x=>x.property.2.1) (el_swo T) eg (fun m os dk _ x y=>by
      refine hg _ S _ _ x.wd y.wd _ (T.get _ x.property.2.2.2 _ y.property.2.2.2) (hX _ _ _ _ x.property.1 x.property.2.1 ⟨x.property.2.2.1.1,fun i u z hu hz=>?_⟩) (hX _ _ _ _ y.property.1 y.property.2.1 ⟨y.property.2.2.1.1,fun i u z hu hz=>?_⟩)
      ·exact (x.property.2.2.1.2 i u z hu hz).mono (fun _ h=>h) fun p u hp hu=>put_cell (fun e=>hnS (by rw [← e];exact hp)) hu
      ·exact (y.property.2.2.1.2 i u z hu hz).mono (fun _ h=>h) fun p u hp hu=>put_cell (fun e=>hnS (by rw [← e];exact hp)) hu)
     (by rw [hflat];show Go.Sort.Holds id w blk 0 ((zs.map El.enc).flatten).toArray;rw [hz1];exact holds_own hown) hblk (by simp;omega)
    have hsz:zs.toArray.size=l.length:=by simpa using hzl
    rw [hsz] at hcall
    refine hcall.mono ?_
    rintro e w' ⟨rfl,d',n,os,hp,hs,rfl⟩
    have hd':d'.size=l.length:=by rw [hp.1];exact hsz
    have hperm:=perm_of_in' (d:=zs.toArray) (by rw [hsz];exact hp)
    have hpw:=pairwise_of_in' hd' hs
    have hwd:d'.toList.map El.wd=isortF f l:=by
     have hp1:(d'.toList.map El.wd).Perm l:=(hperm.map El.wd).trans (List.Perm.of_eq hz2)
     refine sorted_uniq (T.sub fun x hx=>hp1.mem_iff.1 hx) (hp1.trans (isortF_perm f l).symm) ?_ (isortF_sorted T)
     rw [List.pairwise_map]
     refine hpw.imp fun {a b} hab=>?_
     have hab2:¬ cfv f b.wd a.wd<0:=by simpa only [ltOf,decide_eq_false_iff_not] using hab
     exact hab2
    rw [hflat]
    have hlen':((d'.toList.map El.enc).flatten).length=l.length*k:=by
     rw [flat_length (k:=k) fun x hx=>by obtain ⟨y,_,rfl⟩:=List.mem_map.1 hx;exact henc y]
     simp [hd']
    have hflen:((isortF f l).map c).flatten.length=l.length*k:=by
     rw [flat_length (k:=k) fun x hx=>by obtain ⟨y,_,rfl⟩:=List.mem_map.1 hx;exact hk y,List.length_map,(isortF_perm f l).length_eq]
    refine fin _ _ (own_put hown hlen') (by rw [hlen',hflen]) (fun u hu=>?_) ⟨rfl,rfl,rfl,?_,fun b hb hnb=>put_block hb fun e=>hnb (by simp [blkOf,e])⟩ fun i u x hu hx=>?_
    ·obtain ⟨us2,h2,h3⟩:=List.mem_flatten.1 hu
     obtain ⟨y,_,rfl⟩:=List.mem_map.1 h2
     exact y.property.2.1 u h3
    ·simp [Sort.grow,putRow,mapBlock,Sort.ahead]
    ·have hi:i<l.length*k:=by rw [← hlen'];exact (List.getElem?_eq_some_iff.1 hu).1
     have hq:i / k<l.length:=Nat.div_lt_of_lt_mul (by rwa [Nat.mul_comm] at hi)
     have hm:i%k<k:=Nat.mod_lt _ hk0
     have hik:i / k*k+i%k=i:=by rw [Nat.mul_comm];exact Nat.div_add_mod i k
     have hq':i / k<d'.size:=by rw [hd'];exact hq
     have g1:=flat_get (es:=d'.toList.map El.enc) (i:=i / k) (j:=i%k) (e:=El.enc (d'[i / k]'hq')) (fun x hx=>by obtain ⟨y,_,rfl⟩:=List.mem_map.1 hx;exact henc y) (by simp [hq']) hm
     have g2:=flat_get (es:=(isortF f l).map c) (i:=i / k) (j:=i%k) (e:=c (El.wd (d'[i / k]'hq'))) (fun x hx=>by obtain ⟨y,_,rfl⟩:=List.mem_map.1 hx;exact hk y) (by rw [← hwd];simp [hq']) hm
     rw [hik,hu] at g1
     rw [hik,hx] at g2
     refine ((d'[i / k]'hq').property.2.2.1.2 _ _ _ g1.symm g2.symm).mono (fun b hb=>⟨.inl hb,?_,?_⟩) fun p u hp hu=>put_cell (fun e=>hnS (by rw [← e];exact hp)) hu
     ·have:w.heap.size≤(Sort.grow (putRow id (Sort.ahead w n) blk 0 ((d'.toList.map El.enc).flatten).toArray) os).heap.size:=by simp [Sort.grow,putRow,mapBlock,Sort.ahead]
      exact Nat.lt_of_lt_of_le (hS b hb) this
     ·intro hb'
      have:b=blk:=by simpa [blkOf] using hb'
      subst this
      exact hnS hb
end model
end Go.Proofs.YtedabpfahmealaaGreatDoor.Sym

/-
 Plain laws on the key of a word: the digits at base 36, and that no two words have the same key. No program in sight.
-/
namespace Go.Proofs.YtedabpfahmealaaGreatDoor
def dig36 (d:Nat):UInt8:=if d<10 then UInt8.ofNat (48+d) else UInt8.ofNat (87+d)
def digsF:Nat→Nat→List UInt8
 | 0,u=>[dig36 u]
 | f+1,u=>if u<36 then [dig36 u] else digsF f (u / 36)++[dig36 (u%36)]
theorem digsF_more:∀ (f g u:Nat),u≤f→u≤g→digsF f u=digsF g u
 | 0,0,_,_,_=>rfl
 | 0,g+1,u,h,_=>by
  have h0:u=0:=by omega
  subst h0
  rfl
 | f+1,0,u,_,h=>by
  have h0:u=0:=by omega
  subst h0
  rfl
 | f+1,g+1,u,h1,h2=>by
  unfold digsF
  by_cases h:u<36
  ·rw [if_pos h,if_pos h]
  ·rw [if_neg h,if_neg h,digsF_more f g (u / 36) (by omega) (by omega)]
def digs (u:Nat):List UInt8:=digsF u u
theorem digs_small {u:Nat} (h:u<36):digs u=[dig36 u]:=by
 unfold digs
 cases u with
 | zero=>rfl
 | succ u=>unfold digsF;rw [if_pos h]
theorem digs_big {u:Nat} (h:36≤u):digs u=digs (u / 36)++[dig36 (u%36)]:=by
 obtain ⟨v,rfl⟩:∃ v,u=v+1:=⟨u-1,by omega⟩
 show digsF (v+1) (v+1)=digsF ((v+1) / 36) ((v+1) / 36)++[dig36 ((v+1)%36)]
 rw [digsF,if_neg (by omega),digsF_more v ((v+1) / 36) ((v+1) / 36) (by omega) (Nat.le_refl _)]
theorem digs_len:∀ (k u:Nat),u<36^(k+1)→(digs u).length≤k+1
 | 0,u,h=>by rw [digs_small (by simpa using h)];simp
 | k+1,u,h=>by
  by_cases h1:u<36
  ·rw [digs_small h1];simp
  ·rw [digs_big (by omega),List.length_append]
   have:=digs_len k (u / 36) (by rw [Nat.div_lt_iff_lt_mul (by omega),← Nat.pow_succ];exact h)
   simp;omega
theorem digs_len13 {u:Nat} (h:u<18446744073709551616):(digs u).length≤13 :=
 digs_len 12 u (Nat.lt_of_lt_of_le h (by decide))
theorem digs_pos (u:Nat):0<(digs u).length:=by
 by_cases h1:u<36
 ·rw [digs_small h1];simp
 ·rw [digs_big (by omega)];simp
def undig (c:UInt8):Nat:=if c.toNat<58 then c.toNat-48 else c.toNat-87
theorem undig_dig {d:Nat} (h:d<36):undig (dig36 d)=d:=by
 have:∀ d:Fin 36,undig (dig36 d.1)=d.1:=by decide
 exact this ⟨d,h⟩
theorem dig_char {d:Nat} (h:d<36):48≤(dig36 d).toNat:=by
 have:∀ d:Fin 36,48≤(dig36 d.1).toNat:=by decide
 exact this ⟨d,h⟩
def undigs (l:List UInt8):Nat:=l.foldl (fun n c=>n*36+undig c) 0
theorem undigs_digs (u:Nat):undigs (digs u)=u:=by
 induction u using Nat.strongRecOn with
 | _ u ih =>
  by_cases h1:u<36
  ·rw [digs_small h1];simp [undigs,undig_dig h1]
  ·rw [digs_big (by omega),undigs,List.foldl_append]
   have:=ih (u / 36) (by omega)
   rw [undigs] at this
   simp only [List.foldl_cons,List.foldl_nil,this,undig_dig (Nat.mod_lt u (by omega))]
   omega
theorem digs_inj {u v:Nat} (h:digs u=digs v):u=v:=by rw [← undigs_digs u,h,undigs_digs]
theorem digs_char (u:Nat):∀ c∈digs u,48≤c.toNat:=by
 induction u using Nat.strongRecOn with
 | _ u ih =>
  by_cases h1:u<36
  ·rw [digs_small h1]
   intro c hc
   simp at hc
   rw [hc];exact dig_char h1
  ·rw [digs_big (by omega)]
   intro c hc
   rw [List.mem_append] at hc
   rcases hc with hc | hc
   ·exact ih (u / 36) (by omega) c hc
   ·simp at hc
    rw [hc];exact dig_char (Nat.mod_lt u (by omega))
def enc36 (a:Int):List UInt8:=if a<0 then 45::digs a.natAbs else digs a.natAbs
theorem enc36_char (a:Int):∀ c∈enc36 a,c≠32:=by
 intro c hc e
 subst e
 unfold enc36 at hc
 split at hc
 ·simp only [List.mem_cons] at hc
  rcases hc with hc | hc
  ·exact absurd hc (by decide)
  ·have:=digs_char _ _ hc
   exact absurd this (by decide)
 ·have:=digs_char _ _ hc
  exact absurd this (by decide)
theorem enc36_inj {a b:Int} (h:enc36 a=enc36 b):a=b:=by
 have hne:∀ u v:Nat,45::digs u≠digs v:=fun u v e=>by
  have:=digs_char v 45 (by rw [← e];simp)
  exact absurd this (by decide)
 unfold enc36 at h
 split at h<;>split at h
 ·injection h with _ h
  have:=digs_inj h
  omega
 ·exact absurd h (hne _ _)
 ·exact absurd h.symm (hne _ _)
 ·have:=digs_inj h
  omega
theorem enc36_len {a:Int} (h1:-9223372036854775808≤a) (h2:a≤9223372036854775807):(enc36 a).length≤14:=by
 have:=digs_len13 (u:=a.natAbs) (by omega)
 unfold enc36
 split<;>simp<;>omega
def keyL:List Int→List UInt8
 | []=>[]
 | a::xs=>enc36 a++32::keyL xs
theorem keyL_append:∀ xs ys:List Int,keyL (xs++ys)=keyL xs++keyL ys
 | [],_=>rfl
 | a::xs,ys=>by simp [keyL,keyL_append xs ys]
theorem split_at {c:UInt8}:∀ {xs ys rs ss:List UInt8},(∀ d∈xs,d≠c)→(∀ d∈ys,d≠c)→xs++c::rs=ys++c::ss→xs=ys∧rs=ss
 | [],[],rs,ss,_,_,h=>by simpa using h
 | [],y::ys,rs,ss,_,h2,h=>by
  simp at h
  exact absurd h.1.symm (h2 y (by simp))
 | x::xs,[],rs,ss,h1,_,h=>by
  simp at h
  exact absurd h.1 (h1 x (by simp))
 | x::xs,y::ys,rs,ss,h1,h2,h=>by
  simp only [List.cons_append,List.cons.injEq] at h
  obtain ⟨e1,e2⟩:=split_at (fun d hd=>h1 d (by simp [hd])) (fun d hd=>h2 d (by simp [hd])) h.2
  exact ⟨by rw [h.1,e1],e2⟩
theorem keyL_inj:∀ {xs ys:List Int},keyL xs=keyL ys→xs=ys
 | [],[],_=>rfl
 | [],a::ys,h=>by simp [keyL] at h
 | a::xs,[],h=>by simp [keyL] at h
 | a::xs,b::ys,h=>by
  simp only [keyL] at h
  obtain ⟨e1,e2⟩:=split_at (enc36_char a) (enc36_char b) h
  rw [enc36_inj e1,keyL_inj e2]
theorem keyL_len:∀ {xs:List Int},(∀ x∈xs,-9223372036854775808≤x∧x≤9223372036854775807)→(keyL xs).length≤15*xs.length
 | [],_=>by simp [keyL]
 | a::xs,h=>by
  have h1:=keyL_len (xs:=xs) fun x hx=>h x (by simp [hx])
  have h2:=h a (by simp)
  have h3:=enc36_len h2.1 h2.2
  simp only [keyL,List.length_append,List.length_cons]
  omega
end Go.Proofs.YtedabpfahmealaaGreatDoor

/-
 Walks of strconv.AppendInt at base 36 (internal/strconv.AppendInt, AppendUint, formatBits).
-/
namespace Go.Proofs.YtedabpfahmealaaGreatDoor
open Go.RowKit
theorem Tryz.infoByte:(Tryz.prog.info? 5).map (fun i=>(i.zero,i.size,i.bytes))=some (some (.int .u8 0),1,1):=by kernel_rfl
def bcells (l:List UInt8):List Value:=l.map fun b=>.int .u8 (b.toNat:Int)
theorem bcells_length (l:List UInt8):(bcells l).length=l.length:=by simp [bcells]
theorem bcells_append (l m:List UInt8):bcells (l++m)=bcells l++bcells m:=by simp [bcells]
theorem bcells_one (l:List UInt8):∀ u∈bcells l,u.oneCell'=true:=by
 intro u hu
 simp only [bcells,List.mem_map] at hu
 obtain ⟨b,_,rfl⟩:=hu
 rfl
def OwnB (w:World) (base:Nat) (v:Value) (l:List UInt8):Prop:=w.ownsRow base 5 1 v l.length (bcells l)
theorem OwnB.lt {w:World} {base:Nat} {v:Value} {l:List UInt8} (h:OwnB w base v l):∀ k,v.ownBlock=some k→base≤k∧k<w.heap.size:=World.ownsRow.lt h
theorem OwnB.nil_ (w:World) (base:Nat):OwnB w base (.slice none 0 0) []:=World.ownsRow_nil _ _ _ _
def MoreB (w:World) (base:Nat) (l:List UInt8) (e:Ending) (w':World):Prop:=∃ v',e=.returned v'∧OwnB w' base v' l∧Below base w w'
theorem idx36 (k:IntKind) (z:Int) (d:Nat) (hz:z=(d:Int)) (hd:d<36) (w:World) :
  (Instr.index 9 (.string { data:=#[48,49,50,51,52,53,54,55,56,57,97,98,99,100,101,102,103,104,105,106,107,108,109,110,111,112,113,114,115,116,117,118,119,120,121,122] }) (.int k z)).run Tryz.prog w=.ok (.int .u8 ((dig36 d).toNat:Int)) w:=by
 subst hz
 rw [run_index_string w 9 _ k _ Tryz.underlying9,dif_pos ⟨by omega,by show (d:Int)<((36:Nat):Int);omega⟩]
 have:∀ d:Fin 36,(({ data:=#[48,49,50,51,52,53,54,55,56,57,97,98,99,100,101,102,103,104,105,106,107,108,109,110,111,112,113,114,115,116,117,118,119,120,121,122] }:ByteArray)[d.1]'(by show d.1<36;exact d.2))=dig36 d.1:=by decide
 have h:=this ⟨d,hd⟩
 simp only [Int.toNat_natCast]
 rw [h]
def Dig (zs:List Value) (i:Nat) (l:List UInt8):Prop:=zs.length=65∧zs.drop i=bcells l
theorem Dig.push {zs:List Value} {j:Nat} {m:List UInt8} (h:Dig zs (j+1) m) (hj:j<65) (c:UInt8):Dig (zs.set j (.int .u8 (c.toNat:Int))) j (c::m):=by
 obtain ⟨h1,h2⟩:=h
 refine ⟨by simpa using h1,?_⟩
 rw [List.drop_eq_getElem_cons (by simp;omega),List.getElem_set_self,List.drop_set_of_lt (by omega),h2]
 rfl
set_option maxRecDepth 100000 in
set_option maxHeartbeats 1600000 in
theorem formatBits_any {B u:Nat} {sv:Value} {l:List UInt8} {w:World} (hu:u<18446744073709551616) (hown:OwnB w B sv l) (hB:B≤w.heap.size) (hl:l.length≤1000000000) :
  Calls Tryz.prog 272 #[sv,.int .u64 u,.int .i64 36,.bool false,.bool true] w (fun e w'=>∃ v',e=.returned (.tuple #[v',.string ByteArray.empty])∧OwnB w' B v' (l++digs u)∧Below B w w'):=by
 obtain ⟨i0,hi,hz0,hz1,hz2⟩:=info_parts Tryz.infoByte
 have HOWN:=Lib.hid hown
 clear hown
 have hbits:(bits BinOp.and IntKind.i64 36 35==0)=false:=by decide
 go_enter Tryz.func272,Tryz.ntmps272
 go_wp2
 go_loopw [1,13,18] (fun v i _ wr=>∃ k j:Nat,∃ m:List UInt8,∃ zs,v=.int .u64 k∧i=.int .i64 j∧k<18446744073709551616∧j+m.length=65∧Hid (digs k++m=digs u)∧Hid (Dig zs j m)∧wr.ownsRow w.heap.size 315 1 (.slice (some ⟨w.heap.size,0,none⟩) 65 65) 65 zs∧Below w.heap.size w wr) (fun v _ _ _=>(intOf v).toNat)
 case atStart=>exact ⟨u,65,[],_,rfl,rfl,hu,rfl,Lib.hid (by simp),Lib.hid ⟨rfl,rfl⟩,World.ownsRow_lit w _ 65 (Nat.le_refl _) (by unfold maxLen;omega) rfl,(Below.refl _ _).alloc (Nat.le_refl _) _⟩
 case round =>
  obtain ⟨k,j,m,zs,rfl,rfl,hk,hj,HD,HZ,hrow,hbel⟩:=hrel
  have hlen:m.length≤12:=by
   have h1:=congrArg List.length HD.out
   rw [List.length_append] at h1
   have h2:=digs_pos k
   have h3:=digs_len13 hu
   omega
  obtain ⟨j,rfl⟩:∃ j':Nat,j=j'+1:=⟨j-1,by omega⟩
  have hzl:j<zs.length:=by rw [HZ.out.1];omega
  have q1:wr.cell? ⟨w.heap.size,j,none⟩=some (zs[j]):=by rw [hrow.cellAt j (by omega)];exact List.getElem?_eq_getElem hzl
  have q2:wr.frozen? ⟨w.heap.size,j,none⟩=false:=hrow.frozenAt j
  generalize zs[j]=z0 at q1
  have HR:=Lib.hid hrow
  have HB:=Lib.hid hbel
  clear hrow hbel hzl
  by_cases h1:36≤k
  ·have e0:((j+1:Nat):Int)-1=(j:Int):=by omega
   have hix:=fun W=>idx36 .u64 ((k:Int)-(k:Int) / 36*36) (k%36) (by omega) (by omega) W
   go_wp2
   go_roundw
   case rel =>
    obtain ⟨s1,s2⟩:=HR.out.stored j (.int .u8 ((dig36 (k%36)).toNat:Int))
    exact ⟨k / 36,j,dig36 (k%36)::m,_,by go_num,rfl,by omega,by simp;omega,Lib.hid (by rw [← HD.out,digs_big h1];simp),Lib.hid (HZ.out.push (by omega) _),s1,HB.out.grown s2 HB.out.size (fun g e=>by injection e with e;omega)⟩
   case measure=>simp [intOf]<;>omega
  ·have e0:((j+1:Nat):Int)-1=(j:Int):=by omega
   have hix:=fun W=>idx36 .u64 (k:Int) k rfl (by omega) W
   have hal:Tryz.prog.arrayLen 315=65:=by simp [Program.arrayLen,Tryz.underlying315]
   have hsl:∀ W,(Instr.sliceAt 315 (.pointer (some ⟨w.heap.size,0,none⟩)) (some (.int .i64 (j:Int))) none none).run Tryz.prog W=.ok (.slice (some ⟨w.heap.size,j,none⟩) (65-j) (65-j)) W:=fun W=>by
    rw [run_sliceAt_array_l W 315 ⟨w.heap.size,0,none⟩ (by simp [Program.arrayLen,Program.elem,Tryz.underlying315]) .i64 (j:Int) (by omega) (by rw [hal];omega)]
    go_simp
    omega
   obtain ⟨s1,s2⟩:=HR.out.stored j (.int .u8 ((dig36 k).toNat:Int))
   have hb2:Below w.heap.size w (wr.setCell ⟨w.heap.size,j,none⟩ (.int .u8 ((dig36 k).toNat:Int))):=HB.out.grown s2 HB.out.size (fun g e=>by injection e with e;omega)
   have hown2:OwnB (wr.setCell ⟨w.heap.size,j,none⟩ (.int .u8 ((dig36 k).toNat:Int))) B sv l:=World.ownsRow.kept HOWN.out (grown_none hb2) (by cases sv.ownBlock<;>simp)
   have hdz:=HZ.out.push (by omega) (dig36 k)
   have hsrc:Src (wr.setCell ⟨w.heap.size,j,none⟩ (.int .u8 ((dig36 k).toNat:Int))) (some ⟨w.heap.size,j,none⟩) (65-j) (bcells (dig36 k::m)):=by
    refine ⟨by rw [bcells_length];simp;omega,fun _=>⟨_,_,rfl,fun i v hv=>?_⟩⟩
    have hi:i<(bcells (dig36 k::m)).length:=(List.getElem?_eq_some_iff.1 hv).1
    rw [bcells_length,List.length_cons] at hi
    rw [s1.cellAt (j+i) (by omega),← hv,← hdz.2,List.getElem?_drop]
   have hone:=bcells_one (dig36 k::m)
   have hc1:l.length+(65-j)≤maxLen:=by unfold maxLen;omega
   have hc2:(l.length+(65-j))*1≤140737488355328:=by omega
   have hc3:B≤(wr.setCell ⟨w.heap.size,j,none⟩ (.int .u8 ((dig36 k).toNat:Int))).heap.size:=Nat.le_trans hB hb2.size
   have hfull:bcells l++bcells (dig36 k::m)=bcells (l++digs u):=by
    rw [← bcells_append,← HD.out,digs_small (by omega)];rfl
   have hfl:l.length+(65-j)=(l++digs u).length:=by
    rw [← HD.out,digs_small (by omega)];simp;omega
   have HF:=Lib.hid (And.intro hfull hfl)
   have HB2:=Lib.hid hb2
   clear s1 s2 hdz hb2 hfull hfl hal
   unfold OwnB at hown2
   go_wp2_with (at_builtin;refine wpList_append_row rfl (.tmp 95) (.tmp 97) 244 rfl B 5 i0 (.int .u8 0) 1 Tryz.underlying244 hi hz0 hz1 hz2 rfl sv _ _ rfl hown2 _ (65-j) (65-j) _ rfl hsrc hone hc1 hc2 hc3 ?_;intro v1 w1 hown1 hg1 hb1)
   go_ret2
   have hlt:=hown2
   refine ⟨_,rfl,?_,?_⟩
   ·unfold OwnB
    rw [← HF.out.1,← HF.out.2]
    exact hown1
   ·exact (HB2.out.mono hB).grown hg1 hc3 fun g e=>(OwnB.lt hown2 g e).1
set_option maxRecDepth 100000 in
set_option maxHeartbeats 800000 in
theorem appendUint_any {B u:Nat} {sv:Value} {l:List UInt8} {w:World} (hu:u<18446744073709551616) (hown:OwnB w B sv l) (hB:B≤w.heap.size) (hl:l.length≤1000000000) :
  Calls Tryz.prog 262 #[sv,.int .u64 u,.int .i64 36] w (MoreB w B (l++digs u)):=by
 have hcall:=formatBits_any hu hown hB hl
 clear hown
 go_enter Tryz.func262,Tryz.ntmps262
 go_wp2_with (go_at_call 272;refine hcall.mono ?_;rintro e w' ⟨v',rfl,hown',hb'⟩)
 go_ret
 exact ⟨_,rfl,hown',hb'⟩
set_option maxRecDepth 100000 in
set_option maxHeartbeats 800000 in
theorem appendInt_any {B:Nat} {a:Int} {sv:Value} {l:List UInt8} {w:World} (ha1:-9223372036854775808≤a) (ha2:a≤9223372036854775807) (hown:OwnB w B sv l) (hB:B≤w.heap.size) (hl:l.length≤100000000) :
  Calls Tryz.prog 237 #[sv,.int .i64 a,.int .i64 36] w (MoreB w B (l++enc36 a)):=by
 obtain ⟨i0,hi,hz0,hz1,hz2⟩:=info_parts Tryz.infoByte
 by_cases h1:a<0
 ·have hs1:∀ t,Src (w.alloc (.cells #[.int .u8 45] t)) (some ⟨w.heap.size,0,none⟩) 1 [.int .u8 45]:=fun t=>src_one w _ t
  have hone:∀ u∈[Value.int .u8 45],u.oneCell'=true:=by intro u hu;simp at hu;subst hu;rfl
  have hownA:∀ o,(w.alloc o).ownsRow B 5 1 sv l.length (bcells l):=fun o=>World.ownsRow.alloc hown o
  have hc1:l.length+1≤maxLen:=by unfold maxLen;omega
  have hc2:(l.length+1)*1≤140737488355328:=by omega
  have hc3:∀ o,B≤(w.alloc o).heap.size:=fun o=>by simp;omega
  have hlt:=OwnB.lt hown
  have hB1:∀ o,Below B w (w.alloc o):=fun o=>(Below.refl B w).alloc hB o
  have HOWN:=Lib.hid hown
  clear hown
  have e1:(enc36 a)=45::digs a.natAbs:=by unfold enc36;rw [if_pos h1]
  have HE:=Lib.hid e1
  clear e1
  go_enter Tryz.func237,Tryz.ntmps237
  go_wp2_with (at_builtin;refine wpList_append_row rfl (.tmp 12) (.tmp 13) 244 rfl B 5 i0 (.int .u8 0) 1 Tryz.underlying244 hi hz0 hz1 hz2 rfl sv _ _ rfl (hownA _) _ 1 1 [.int .u8 45] rfl (hs1 _) hone hc1 hc2 (hc3 _) ?_;intro v1 w1 hown1 hg1 hb1)
  have hw:IntKind.u64.wrap (-IntKind.u64.wrap a)=((a.natAbs:Nat):Int):=by
   rw [IntKind.wrap_u64,IntKind.wrap_u64];omega
  rw [hw]
  have hown2:OwnB w1 B v1 (l++[45]):=by
   unfold OwnB
   rw [bcells_append,List.length_append]
   exact hown1
  have hb2:Below B w w1:=(hB1 _).grown hg1 (hc3 _) fun g e=>(hlt g e).1
  have hcall:=appendUint_any (u:=a.natAbs) (by omega) hown2 (Nat.le_trans hB (by have:=hg1.size;simp at this;omega)) (by simp;omega)
  clear hown1 hg1 hb1 hown2 hownA hs1 hc3
  refine hcall.mono ?_
  rintro e w' ⟨v',rfl,hown',hb'⟩
  go_wp2
  go_ret
  refine ⟨_,rfl,?_,hb2.trans hb'⟩
  rw [HE.out]
  simpa using hown'
 ·have HOWN:=Lib.hid hown
  have e1:(enc36 a)=digs a.natAbs:=by unfold enc36;rw [if_neg h1]
  have hw:IntKind.u64.wrap a=((a.natAbs:Nat):Int):=by
   rw [IntKind.wrap_u64];omega
  have hcall:=appendUint_any (u:=a.natAbs) (by omega) hown hB (by omega)
  clear hown
  go_enter Tryz.func237,Tryz.ntmps237
  go_wp2_with (go_at_call 262;refine hcall.mono ?_;rintro e w' ⟨v',rfl,hown',hb'⟩)
  go_ret
  exact ⟨_,rfl,by rw [e1];exact hown',hb'⟩
set_option maxRecDepth 100000 in
theorem strconvAppendInt_any {B:Nat} {a:Int} {sv:Value} {l:List UInt8} {w:World} (ha1:-9223372036854775808≤a) (ha2:a≤9223372036854775807) (hown:OwnB w B sv l) (hB:B≤w.heap.size) (hl:l.length≤100000000) :
  Calls Tryz.prog 207 #[sv,.int .i64 a,.int .i64 36] w (MoreB w B (l++enc36 a)):=by
 have hcall:=appendInt_any ha1 ha2 hown hB hl
 clear hown
 go_enter Tryz.func207,Tryz.ntmps207
 go_wp2_with (go_at_call 237;refine hcall.mono ?_;rintro e w' ⟨v',rfl,hown',hb'⟩)
 go_ret
 exact ⟨_,rfl,hown',hb'⟩
theorem keyL_take {xs:List Int} {k:Nat} {x:Int} (h:xs[k]?=some x):keyL (xs.take (k+1))=(keyL (xs.take k)++enc36 x)++[32]:=by
 rw [take_step h,keyL_append];simp [keyL]
def Rng (x:Int):Prop:=-9223372036854775808≤x∧x≤9223372036854775807
def KeyPost (w:World) (l:List UInt8) (e:Ending) (w':World):Prop:=e=.returned (.string ⟨l.toArray⟩)∧Below w.heap.size w w'
set_option maxRecDepth 100000 in
set_option maxHeartbeats 1600000 in
theorem key_any {A:Option Addr} {n c:Nat} {xs:List Int} {w:World} (hx:RowOf w IsInt A n c xs) (hr:∀ x∈xs,Rng x) (hn:n≤2000000) :
  Calls Tryz.prog 165 #[.slice A n c] w (KeyPost w (keyL xs)):=by
 have HL:=Lib.hid hx.len
 have HR:=Lib.hid hr
 obtain ⟨i0,hi,hz0,hz1,hz2⟩:=info_parts Tryz.infoByte
 clear hr
 go_enter Tryz.func165,Tryz.ntmps165
 go_wp2
 go_loopw [3,5,8] (fun v _ i wr=>∃ k:Nat,k≤n∧i=.int .i64 k∧OwnB wr w.heap.size v (keyL (xs.take k))∧Below w.heap.size w wr) (fun _ _ i _=>n-(intOf i).toNat)
 case atStart=>exact ⟨0,by omega,rfl,OwnB.nil_ _ _,Below.refl _ _⟩
 case round =>
  obtain ⟨k,hk,rfl,hown,hbel⟩:=hrel
  have hkl:(keyL (xs.take k)).length≤15*k:=by
   have:=keyL_len (xs:=xs.take k) fun x hx=>HR.out x (List.mem_of_mem_take hx)
   rw [List.length_take] at this
   omega
  by_cases h1:k<n
  ·obtain ⟨b,o,x,rfl,hx1,hx2⟩:=hx.int_at h1
   have hc:=Keeps.of_below hbel _ _ hx2
   have hrx:=HR.out x (List.mem_of_getElem? hx1)
   have HX:=Lib.hid hx1
   have HC:=Lib.hid (strconvAppendInt_any hrx.1 hrx.2 hown hbel.size (by omega))
   have hlen:=enc36_len hrx.1 hrx.2
   have HB:=Lib.hid hbel
   clear hx1 hx2 hrx hown hbel
   have hone:∀ u∈[Value.int .u8 32],u.oneCell'=true:=by intro u hu;simp at hu;subst hu;rfl
   have hc1:(keyL (xs.take k)++enc36 x).length+1≤maxLen:=by unfold maxLen;simp;omega
   have hc2:((keyL (xs.take k)++enc36 x).length+1)*1≤140737488355328:=by simp;omega
   go_wp2_with (first | (go_at_call 207;refine HC.out.mono ?_;rintro e w1 ⟨v1,rfl,hown1,hb1⟩;have HH:=Lib.hid (And.intro hown1 hb1);have hs1:=fun t=>src_one w1 (.int .u8 32) t;have hownA:=fun o=>World.ownsRow.alloc hown1 o;have hc3:∀ o,w.heap.size≤(w1.alloc o).heap.size:=(fun o=>by have:=HB.out.size;have:=hb1.size;simp;omega);clear hown1 hb1) | (at_builtin;refine wpList_append_row rfl (.tmp 14) (.tmp 15) 244 rfl w.heap.size 5 i0 (.int .u8 0) 1 Tryz.underlying244 hi hz0 hz1 hz2 rfl v1 _ _ rfl (hownA _) _ 1 1 [.int .u8 32] rfl (hs1 _) hone hc1 hc2 (hc3 _) ?_;intro v2 w2 hown2 hg2 hb2))
   have hfin:OwnB w2 w.heap.size v2 (keyL (xs.take (k+1))):=by
    unfold OwnB
    rw [keyL_take HX.out,bcells_append,List.length_append]
    exact hown2
   have hbel':Below w.heap.size w w2:=((HB.out.trans (HH.out.2.mono (Nat.le_refl _))).alloc (by have:=HB.out.size;have:=HH.out.2.size;omega) _).grown hg2 (hc3 _) fun g e=>(OwnB.lt HH.out.1 g e).1
   clear hown2 hg2 hb2 hs1 hownA hc3
   go_roundw
   case rel=>exact ⟨k+1,by omega,by go_num,hfin,hbel'⟩
   case measure=>simp [intOf]<;>omega
  ·rw [List.take_of_length_le (by rw [HL.out];omega)] at hown
   have hconv:(convert 244 9 u3).run Tryz.prog wr=.ok (.string ⟨(keyL xs).toArray⟩) wr:=by
    rcases hown.2 with ⟨rfl,h0⟩ | ⟨g,cap,cur,rfl,_,_,_⟩
    ·have h00:keyL xs=[]:=List.eq_nil_of_length_eq_zero h0
     rw [h00]
     exact Lib.run_convert_nil_bytes wr _ _ _ 0 Tryz.underlying244 Tryz.underlying5 Tryz.underlying9
    ·refine run_convert_bytes_back wr _ _ _ ⟨g,0,none⟩ cap (keyL xs) Tryz.underlying244 Tryz.underlying5 Tryz.underlying9 fun j hj=>?_
     rw [hown.cells (g:=g) rfl j (.int .u8 ((keyL xs)[j].toNat:Int)) (by simp [bcells,hj])]
   clear hown
   go_wp2
   go_ret
   exact ⟨rfl,hbel⟩
end Go.Proofs.YtedabpfahmealaaGreatDoor

/-
 The contract of the key of a word.
-/
namespace Go.Proofs.YtedabpfahmealaaGreatDoor.Sym
open Go.RowKit
theorem rowOf_ints {w:World} {S:Nat→Prop} {v:Value} {l:List Int} (h:RepI w S v (nL cI l)):∃ A n c,v=.slice A n c∧RowOf w IsInt A n c l:=by
 have h:RepI w S v (.sl (l.map cI)):=h
 generalize he:l.map cI=es at h
 cases h with
 | emp A c =>
  have:l=[]:=by simpa using he
  subst this
  exact ⟨A,0,c,rfl,rfl,Nat.zero_le _,by omega,fun h=>by omega⟩
 | sl b o c k n _ us hn hk hc hs hS hl h1 hu hr =>
  subst he
  have hf:(l.map cI).flatten=l.map fun x=>nI x:=by
   clear hn hk hl hr h
   induction l with
   | nil=>rfl
   | cons x l ih=>rw [List.map_cons,List.flatten_cons,ih];rfl
  rw [hf] at hl hr
  refine ⟨_,_,_,rfl,by simpa using hn,hc,hs,fun _=>⟨b,o,rfl,fun i x hx=>?_⟩⟩
  have hi:i<us.length:=by rw [hl,List.length_map];exact (List.getElem?_eq_some_iff.1 hx).1
  have hg:=List.getElem?_eq_getElem hi
  refine ⟨_,hu i _ hg,?_⟩
  have:=hr i _ (nI x) hg (by rw [List.getElem?_map,hx];rfl)
  generalize us[i]=u at this
  cases this with
  | val _=>rfl
def table_key (l:List Int):Option ByteArray:=chk (∀ x∈l,inR x) (chk (l.length≤2000000) (some ⟨(keyL l).toArray⟩))
set_option maxRecDepth 100000 in
theorem zq96 (l:List Int) (r:ByteArray) (h:table_key l=some r):Sp Tryz.prog 165 [.im (nL cI l)] (.im (nS r)):=by
 obtain ⟨h1,h⟩:=chk_some h
 obtain ⟨h2,h⟩:=chk_some h
 injection h with h
 subst h
 refine ⟨fun args w=>run_enter rfl rfl rfl args w,fun w S vs F hS hv hn hF=>?_⟩
 match vs,hv with
 | [v],⟨F1,F2,⟨h3,e1⟩,h4,e2⟩ =>
  have h4:F2=[]:=h4
  subst e1 h4 e2
  obtain ⟨A,n,c,rfl,hrow⟩:=rowOf_ints h3
  refine (key_any hrow h1 (by rw [← hrow.1];exact h2)).mono ?_
  rintro e w' ⟨rfl,hb⟩
  exact ⟨_,[],rfl,.of hb,⟨[_],[],[],rfl,⟨[],[],⟨.val _,rfl⟩,rfl,rfl⟩,rfl,rfl⟩,List.nodup_nil,fun b hb=>by simp at hb⟩
end Go.Proofs.YtedabpfahmealaaGreatDoor.Sym

/-
 Walks of cmp.Compare, slices.Compare, word.Lex, cmp.Or, word.Compare.
-/
namespace Go.Proofs.YtedabpfahmealaaGreatDoor
open Go.RowKit
def cmpI (x y:Int):Int:=if x<y then -1 else if y<x then 1 else 0
theorem cmpCompare_any (x y:Int) (w:World) :
  Calls Tryz.prog 163 #[.int .i64 x,.int .i64 y] w fun e w'=>e=.returned (.int .i64 (cmpI x y))∧w=w':=by
 by_cases h1:x<y
 ·go_enter Tryz.func163,Tryz.ntmps163
  go_wp2
  go_ret
  exact ⟨ret_int (by unfold cmpI;rw [if_pos h1]),rfl⟩
 ·by_cases h2:y<x
  ·go_enter Tryz.func163,Tryz.ntmps163
   go_wp2
   go_ret
   exact ⟨ret_int (by unfold cmpI;rw [if_neg (by omega),if_pos h2]),rfl⟩
  ·go_enter Tryz.func163,Tryz.ntmps163
   go_wp2
   go_ret
   exact ⟨ret_int (by unfold cmpI;rw [if_neg (by omega),if_neg (by omega)]),rfl⟩
theorem lexI_step {xs ys:List Int} {k:Nat} {x y:Int} (hx:xs[k]?=some x) (hy:ys[k]?=some y) :
  lexI (xs.drop k) (ys.drop k)=if cmpI x y=0 then lexI (xs.drop (k+1)) (ys.drop (k+1)) else cmpI x y:=by
 obtain ⟨h1,h1'⟩:=List.getElem?_eq_some_iff.1 hx
 obtain ⟨h2,h2'⟩:=List.getElem?_eq_some_iff.1 hy
 rw [List.drop_eq_getElem_cons h1,List.drop_eq_getElem_cons h2,h1',h2']
 simp only [lexI,cmpI]
 by_cases a:x<y
 ·simp [a]
 ·by_cases b:y<x
  ·simp [a,b]
  ·simp [a,b]
theorem lexI_long {xs ys:List Int} {k:Nat} (h1:k<xs.length) (h2:ys.length≤k):lexI (xs.drop k) (ys.drop k)=1:=by
 rw [List.drop_eq_getElem_cons h1,List.drop_eq_nil_of_le h2];rfl
theorem lexI_end {xs ys:List Int} {k:Nat} (h1:xs.length≤k):lexI (xs.drop k) (ys.drop k)=if k<ys.length then -1 else 0:=by
 rw [List.drop_eq_nil_of_le h1]
 by_cases h2:k<ys.length
 ·rw [if_pos h2,List.drop_eq_getElem_cons h2];rfl
 ·rw [if_neg h2,List.drop_eq_nil_of_le (by omega)];rfl
set_option maxHeartbeats 800000 in
theorem slicesCompare_any {A B:Option Addr} {n c m c':Nat} {xs ys:List Int} {w:World} (hx:RowOf w IsInt A n c xs) (hy:RowOf w IsInt B m c' ys) :
  Calls Tryz.prog 164 #[.slice A n c,.slice B m c'] w fun e w'=>e=.returned (.int .i64 (lexI xs ys))∧w=w':=by
 have hn:=hx.small
 have hm:=hy.small
 have HL:=Lib.hid (And.intro hx.len hy.len)
 go_enter Tryz.func164,Tryz.ntmps164
 go_wp2
 go_loop [5,6,7,8,11] (fun _ _ _ _ i=>∃ k:Nat,k≤n∧k≤m∧i=.int .i64 k∧Hid (lexI xs ys=lexI (xs.drop k) (ys.drop k))) (fun _ _ _ _ i=>n-(intOf i).toNat)
 case atStart=>exact ⟨0,by omega,by omega,rfl,Lib.hid (by simp)⟩
 case round =>
  obtain ⟨k,hk,hk',rfl,HT⟩:=hrel
  by_cases h1:k<n
  ·obtain ⟨b,o,x,rfl,hx1,hx2⟩:=hx.int_at h1
   have HX:=Lib.hid hx1
   clear hx1
   by_cases h2:k<m
   ·obtain ⟨b',o',y,rfl,hy1,hy2⟩:=hy.int_at h2
    have HY:=Lib.hid hy1
    clear hy1
    have hst:=lexI_step HX.out HY.out
    by_cases h3:cmpI x y=0
    ·rw [if_pos h3] at hst
     have HST:=Lib.hid hst
     have d3:(cmpI x y != 0)=false:=by simp [h3]
     have H3:=Lib.hid h3
     clear h3 hst
     go_wp2_with (go_at_call 163;refine (cmpCompare_any _ _ _).mono ?_;rintro e w' ⟨rfl,rfl⟩)
     go_round
     case rel=>exact ⟨k+1,by omega,by omega,by go_num,Lib.hid (by rw [HT.out,HST.out])⟩
     case measure=>simp [intOf];omega
    ·rw [if_neg h3] at hst
     have HST:=Lib.hid hst
     have d3:(cmpI x y != 0)=true:=by simp [h3]
     clear h3 hst
     go_wp2_with (go_at_call 163;refine (cmpCompare_any _ _ _).mono ?_;rintro e w' ⟨rfl,rfl⟩)
     go_ret
     exact ⟨ret_int (by rw [HT.out,HST.out]),rfl⟩
   ·go_wp2
    go_ret
    obtain ⟨h3,h4⟩:=HL.out
    exact ⟨ret_int (by rw [HT.out,lexI_long (by omega) (by omega)]),rfl⟩
  ·obtain ⟨h3,h4⟩:=HL.out
   have HE:=Lib.hid (lexI_end (xs:=xs) (ys:=ys) (k:=k) (by omega))
   clear h3 h4
   by_cases h2:n<m
   ·go_wp2
    go_ret
    obtain ⟨h3,h4⟩:=HL.out
    exact ⟨ret_int (by rw [HT.out,HE.out,if_pos (by omega)]),rfl⟩
   ·go_wp2
    go_ret
    obtain ⟨h3,h4⟩:=HL.out
    exact ⟨ret_int (by rw [HT.out,HE.out,if_neg (by omega)]),rfl⟩
theorem wordLex_any {A B:Option Addr} {n c m c':Nat} {xs ys:List Int} {w:World} (hx:RowOf w IsInt A n c xs) (hy:RowOf w IsInt B m c' ys) :
  Calls Tryz.prog 126 #[.slice A n c,.slice B m c'] w fun e w'=>e=.returned (.int .i64 (lexI xs ys))∧w=w':=by
 go_enter Tryz.func126,Tryz.ntmps126
 go_wp2_with (go_at_call 164;refine (slicesCompare_any hx hy).mono ?_;rintro e w' ⟨rfl,rfl⟩)
 go_ret
 exact ⟨rfl,rfl⟩
def orI (xs:List Int):Int:=(xs.find? fun a=>a != 0).getD 0
set_option maxHeartbeats 400000 in
theorem cmpOr_any {A:Option Addr} {n c:Nat} {xs:List Int} {w:World} (hx:RowOf w IsInt A n c xs) :
  Calls Tryz.prog 162 #[.slice A n c] w fun e w'=>e=.returned (.int .i64 (orI xs))∧w=w':=by
 have hns:=hx.small
 have HL:=Lib.hid hx.len
 go_enter Tryz.func162,Tryz.ntmps162
 go_wp2
 go_loop [5,8] (fun _ i=>∃ k:Nat,k≤n∧i=.int .i64 k∧Hid (((xs.take k).find? fun a=>a != 0)=none)) (fun _ i=>n-(intOf i).toNat)
 case atStart=>exact ⟨0,by omega,rfl,Lib.hid (by simp)⟩
 case round =>
  obtain ⟨k,hk,rfl,HT⟩:=hrel
  by_cases h1:k<n
  ·obtain ⟨b,o,x,rfl,hx1,hx2⟩:=hx.int_at h1
   have HX:=Lib.hid hx1
   clear hx1
   by_cases h2:x=0
   ·have d2:(x != 0)=false:=by simp [h2]
    have H2:=Lib.hid h2
    clear h2
    go_wp2
    go_round
    case rel=>exact ⟨k+1,by omega,by go_num,Lib.hid (by rw [take_step HX.out,List.find?_append,HT.out,H2.out];rfl)⟩
    case measure=>simp [intOf]<;>omega
   ·have d2:(x != 0)=true:=by simp [h2]
    go_wp2
    go_ret
    refine ⟨ret_int ?_,rfl⟩
    have hsp:=List.take_append_drop (k+1) xs
    unfold orI
    rw [← hsp,List.find?_append,take_step HX.out,List.find?_append,HT.out]
    simp [h2]
  ·go_wp2
   go_ret
   have ht:=HT.out
   rw [List.take_of_length_le (by rw [HL.out];omega)] at ht
   exact ⟨ret_int (by unfold orI;rw [ht];rfl),rfl⟩
theorem orI_cmp (xs ys:List Int):orI [cmpI xs.length ys.length,lexI xs ys]=cmpW xs ys:=by
 unfold orI cmpI cmpW
 by_cases h1:xs.length<ys.length
 ·rw [if_pos (by omega),if_pos h1];rfl
 ·by_cases h2:ys.length<xs.length
  ·rw [if_neg (by omega),if_pos (by omega),if_neg h1,if_pos h2];rfl
  ·rw [if_neg (by omega),if_neg (by omega),if_neg h1,if_neg h2]
   by_cases h3:lexI xs ys=0
   ·simp [h3]
   ·simp [h3]
theorem src_two {w:World} (x y:Value) (t:TypeId):Src (w.alloc (.cells #[x,y] t)) (some ⟨w.heap.size,0,none⟩) 2 [x,y] :=
 ⟨rfl,fun _=>⟨_,_,rfl,fun j u hu=>by
  have:=cell_two_new w x y t j u hu
  rwa [addr_add] at this⟩⟩
theorem ints_row {w:World} (x y:Int) (t:TypeId):RowOf (w.alloc (.cells #[.int .i64 x,.int .i64 y] t)) IsInt (some ⟨w.heap.size,0,none⟩) 2 2 [x,y]:=by
 refine ⟨rfl,Nat.le_refl _,by omega,fun _=>⟨_,_,rfl,fun i z hz=>?_⟩⟩
 obtain ⟨_,hc⟩:=src_two (w:=w) (.int .i64 x) (.int .i64 y) t
 obtain ⟨b,o,e,hcc⟩:=hc (by omega)
 injection e with e
 injection e with e1 e2
 subst e1 e2
 match i,hz with
 | 0,hz =>
  simp at hz
  subst hz
  exact ⟨_,hcc 0 _ rfl,rfl⟩
 | 1,hz =>
  simp at hz
  subst hz
  exact ⟨_,hcc 1 _ rfl,rfl⟩
set_option maxHeartbeats 400000 in
theorem wordCompare_any {A B:Option Addr} {n c m c':Nat} {xs ys:List Int} {w:World} (hx:RowOf w IsInt A n c xs) (hy:RowOf w IsInt B m c' ys) :
  Calls Tryz.prog 101 #[.slice A n c,.slice B m c'] w fun e w'=>e=.returned (.int .i64 (cmpW xs ys))∧w.alloc (.cells #[.int .i64 (cmpI xs.length ys.length),.int .i64 (lexI xs ys)] 3)=w':=by
 have hn:=hx.small
 have hm:=hy.small
 have hc1:=Lib.hid (slicesCompare_any hx hy)
 have HE:=Lib.hid (orI_cmp xs ys)
 have h1:=hx.len
 have h2:=hy.len
 have HO:=Lib.hid (fun t=>cmpOr_any (ints_row (w:=w) (cmpI xs.length ys.length) (lexI xs ys) t))
 rw [h1,h2] at HE HO
 rw [h1,h2]
 clear h1 h2 hx hy
 go_enter Tryz.func101,Tryz.ntmps101
 go_wp2_with (first | (go_at_call 163;refine (cmpCompare_any _ _ _).mono ?_;rintro e w' ⟨rfl,rfl⟩) | (go_at_call 164;refine hc1.out.mono ?_;rintro e w' ⟨rfl,rfl⟩) | (go_at_call 162;refine (HO.out _).mono ?_;rintro e w' ⟨rfl,rfl⟩))
 go_ret
 exact ⟨ret_int HE.out,rfl⟩
end Go.Proofs.YtedabpfahmealaaGreatDoor

/-
 DERIVED: THE SHELF's CONTRACTS AT THIS DUMP, IN PLAIN WORDS (tools/lay-plain.mjs out of 'YtedabpfahmealaaGreatDoorShelf.lean', which tools/lay-shelf.mjs wrote): THE SAME DECLARATIONS UNDER THE SAME NAMES: 'import', 'namespace', 'open', 'def', 'theorem' AND NOTHING ELSE: no command of the shelf's: FOR A HAND-IN. Each laying: the table of numbers ('.._ren') and one theorem, a field a fact of the dump's own or the kernel's comparison; each contract: ONE APPLICATION.
-/
namespace Go.Proofs
open Go.Shelf
def Tryz.sortW_ren:Go.Shelf.Ren:=⟨fun | 6=>186 | 15=>202 | 14=>211 | 28=>235 | 29=>236 | 20=>238 | 21=>239 | 22=>240 | 23=>241 | 24=>242 | 25=>243 | 26=>244 | 27=>245 | 46=>263 | 47=>258 | 48=>259 | 49=>264 | 50=>265 | 57=>273 | n=>n,fun | 22=>22 | 24=>51 | 25=>141 | 3=>3 | 39=>204 | 0=>0 | 53=>279 | 55=>281 | 4=>4 | 46=>273 | 45=>272 | 50=>159 | 5=>5 | 9=>9 | 66=>294 | 70=>298 | 76=>304 | 77=>287 | n=>n,fun | n=>n⟩
theorem Tryz.sortW:Go.Proofs.SlLaysF.n6 Tryz.prog Tryz.sortW_ren:={
 mixed:=by kernel_rfl
 f6:=⟨Tryz.f186.name,by decide,Tryz.func186.trans (congrArg some (by kernel_rfl))⟩
 f14:=⟨Tryz.f211.name,by decide,Tryz.func211.trans (congrArg some (by kernel_rfl))⟩
 f15:=Tryz.func202.trans (congrArg some (by kernel_rfl))
 f20:=⟨Tryz.f238.name,by decide,Tryz.func238.trans (congrArg some (by kernel_rfl))⟩
 f21:=⟨Tryz.f239.name,by decide,Tryz.func239.trans (congrArg some (by kernel_rfl))⟩
 f22:=⟨Tryz.f240.name,by decide,Tryz.func240.trans (congrArg some (by kernel_rfl))⟩
 f23:=⟨Tryz.f241.name,by decide,Tryz.func241.trans (congrArg some (by kernel_rfl))⟩
 f24:=⟨Tryz.f242.name,by decide,Tryz.func242.trans (congrArg some (by kernel_rfl))⟩
 f25:=⟨Tryz.f243.name,by decide,Tryz.func243.trans (congrArg some (by kernel_rfl))⟩
 f26:=⟨Tryz.f244.name,by decide,Tryz.func244.trans (congrArg some (by kernel_rfl))⟩
 f27:=⟨Tryz.f245.name,by decide,Tryz.func245.trans (congrArg some (by kernel_rfl))⟩
 f28:=Tryz.func235.trans (congrArg some (by kernel_rfl))
 f29:=Tryz.func236.trans (congrArg some (by kernel_rfl))
 f46:=⟨Tryz.f263.name,by decide,Tryz.func263.trans (congrArg some (by kernel_rfl))⟩
 f47:=Tryz.func258.trans (congrArg some (by kernel_rfl))
 f48:=Tryz.func259.trans (congrArg some (by kernel_rfl))
 f49:=⟨Tryz.f264.name,by decide,Tryz.func264.trans (congrArg some (by kernel_rfl))⟩
 f50:=⟨Tryz.f265.name,by decide,Tryz.func265.trans (congrArg some (by kernel_rfl))⟩
 f57:=⟨Tryz.f273.name,by decide,Tryz.func273.trans (congrArg some (by kernel_rfl))⟩
 t0:=Tryz.underlying0
 a0:=Tryz.isAgg0
 z0:=Tryz.sizeOf0
 v0:=Tryz.zeroValue0
 t3:=Tryz.underlying3
 a3:=Tryz.isAgg3
 z3:=Tryz.sizeOf3
 v3:=Tryz.zeroValue3
 t4:=Tryz.underlying4
 a4:=Tryz.isAgg4
 z4:=Tryz.sizeOf4
 v4:=Tryz.zeroValue4
 t5:=Tryz.underlying5
 a5:=Tryz.isAgg5
 z5:=Tryz.sizeOf5
 v5:=Tryz.zeroValue5
 t9:=Tryz.underlying9
 a9:=Tryz.isAgg9
 z9:=Tryz.sizeOf9
 v9:=Tryz.zeroValue9
 t22:=Tryz.underlying22
 a22:=Tryz.isAgg22
 z22:=Tryz.sizeOf22
 v22:=Tryz.zeroValue22
 a24:=Tryz.isAgg51
 z24:=Tryz.sizeOf51
 t25:=Tryz.underlying141
 a25:=Tryz.isAgg141
 z25:=Tryz.sizeOf141
 v25:=Tryz.zeroValue141
 t39:=Tryz.underlying204
 a39:=Tryz.isAgg204
 z39:=Tryz.sizeOf204
 v39:=Tryz.zeroValue204
 t45:=Tryz.underlying272
 a45:=Tryz.isAgg272
 z45:=Tryz.sizeOf272
 v45:=Tryz.zeroValue272
 t46:=Tryz.underlying273
 a46:=Tryz.isAgg273
 z46:=Tryz.sizeOf273
 v46:=Tryz.zeroValue273
 t50:=Tryz.underlying159
 a50:=Tryz.isAgg159
 z50:=Tryz.sizeOf159
 v50:=Tryz.zeroValue159
 t53:=Tryz.underlying279
 a53:=Tryz.isAgg279
 z53:=Tryz.sizeOf279
 v53:=Tryz.zeroValue279
 t55:=Tryz.underlying281
 a55:=Tryz.isAgg281
 z55:=Tryz.sizeOf281
 v55:=Tryz.zeroValue281
 t66:=Tryz.underlying294
 a66:=Tryz.isAgg294
 z66:=Tryz.sizeOf294
 v66:=Tryz.zeroValue294
 t70:=Tryz.underlying298
 a70:=Tryz.isAgg298
 z70:=Tryz.sizeOf298
 v70:=Tryz.zeroValue298
 t76:=Tryz.underlying304
 a76:=Tryz.isAgg304
 z76:=Tryz.sizeOf304
 v76:=Tryz.zeroValue304
 t77:=Tryz.underlying287
 a77:=Tryz.isAgg287
 z77:=Tryz.sizeOf287
 v77:=Tryz.zeroValue287 }
def Tryz.sortF_ren:Go.Shelf.Ren:=⟨fun | 14=>201 | 20=>227 | 21=>228 | 22=>229 | 23=>230 | 24=>231 | 25=>232 | 26=>233 | 27=>234 | 46=>257 | 47=>258 | 48=>259 | 49=>260 | 50=>261 | 15=>202 | 57=>268 | 28=>235 | 29=>236 | n=>n,fun | 24=>82 | 22=>25 | 3=>3 | 25=>182 | 4=>4 | 0=>0 | 46=>273 | 45=>272 | 50=>159 | 66=>294 | 39=>204 | 55=>281 | 70=>298 | 76=>304 | 77=>287 | 53=>279 | 5=>5 | 9=>9 | n=>n,fun | n=>n⟩
theorem Tryz.sortF:Go.Proofs.SlLaysF0.n14 Tryz.prog Tryz.sortF_ren:={
 mixed:=by kernel_rfl
 f14:=⟨Tryz.f201.name,by decide,Tryz.func201.trans (congrArg some (by kernel_rfl))⟩
 f15:=Tryz.func202.trans (congrArg some (by kernel_rfl))
 f20:=⟨Tryz.f227.name,by decide,Tryz.func227.trans (congrArg some (by kernel_rfl))⟩
 f21:=⟨Tryz.f228.name,by decide,Tryz.func228.trans (congrArg some (by kernel_rfl))⟩
 f22:=⟨Tryz.f229.name,by decide,Tryz.func229.trans (congrArg some (by kernel_rfl))⟩
 f23:=⟨Tryz.f230.name,by decide,Tryz.func230.trans (congrArg some (by kernel_rfl))⟩
 f24:=⟨Tryz.f231.name,by decide,Tryz.func231.trans (congrArg some (by kernel_rfl))⟩
 f25:=⟨Tryz.f232.name,by decide,Tryz.func232.trans (congrArg some (by kernel_rfl))⟩
 f26:=⟨Tryz.f233.name,by decide,Tryz.func233.trans (congrArg some (by kernel_rfl))⟩
 f27:=⟨Tryz.f234.name,by decide,Tryz.func234.trans (congrArg some (by kernel_rfl))⟩
 f28:=Tryz.func235.trans (congrArg some (by kernel_rfl))
 f29:=Tryz.func236.trans (congrArg some (by kernel_rfl))
 f46:=⟨Tryz.f257.name,by decide,Tryz.func257.trans (congrArg some (by kernel_rfl))⟩
 f47:=Tryz.func258.trans (congrArg some (by kernel_rfl))
 f48:=Tryz.func259.trans (congrArg some (by kernel_rfl))
 f49:=⟨Tryz.f260.name,by decide,Tryz.func260.trans (congrArg some (by kernel_rfl))⟩
 f50:=⟨Tryz.f261.name,by decide,Tryz.func261.trans (congrArg some (by kernel_rfl))⟩
 f57:=⟨Tryz.f268.name,by decide,Tryz.func268.trans (congrArg some (by kernel_rfl))⟩
 t0:=Tryz.underlying0
 a0:=Tryz.isAgg0
 z0:=Tryz.sizeOf0
 v0:=Tryz.zeroValue0
 t3:=Tryz.underlying3
 a3:=Tryz.isAgg3
 z3:=Tryz.sizeOf3
 v3:=Tryz.zeroValue3
 t4:=Tryz.underlying4
 a4:=Tryz.isAgg4
 z4:=Tryz.sizeOf4
 v4:=Tryz.zeroValue4
 t5:=Tryz.underlying5
 a5:=Tryz.isAgg5
 z5:=Tryz.sizeOf5
 v5:=Tryz.zeroValue5
 t9:=Tryz.underlying9
 a9:=Tryz.isAgg9
 z9:=Tryz.sizeOf9
 v9:=Tryz.zeroValue9
 t22:=Tryz.underlying25
 a22:=Tryz.isAgg25
 z22:=Tryz.sizeOf25
 v22:=Tryz.zeroValue25
 t25:=Tryz.underlying182
 a25:=Tryz.isAgg182
 z25:=Tryz.sizeOf182
 v25:=Tryz.zeroValue182
 t39:=Tryz.underlying204
 a39:=Tryz.isAgg204
 z39:=Tryz.sizeOf204
 v39:=Tryz.zeroValue204
 t45:=Tryz.underlying272
 a45:=Tryz.isAgg272
 z45:=Tryz.sizeOf272
 v45:=Tryz.zeroValue272
 t46:=Tryz.underlying273
 a46:=Tryz.isAgg273
 z46:=Tryz.sizeOf273
 v46:=Tryz.zeroValue273
 t50:=Tryz.underlying159
 a50:=Tryz.isAgg159
 z50:=Tryz.sizeOf159
 v50:=Tryz.zeroValue159
 t53:=Tryz.underlying279
 a53:=Tryz.isAgg279
 z53:=Tryz.sizeOf279
 v53:=Tryz.zeroValue279
 t55:=Tryz.underlying281
 a55:=Tryz.isAgg281
 z55:=Tryz.sizeOf281
 v55:=Tryz.zeroValue281
 t66:=Tryz.underlying294
 a66:=Tryz.isAgg294
 z66:=Tryz.sizeOf294
 v66:=Tryz.zeroValue294
 t70:=Tryz.underlying298
 a70:=Tryz.isAgg298
 z70:=Tryz.sizeOf298
 v70:=Tryz.zeroValue298
 t76:=Tryz.underlying304
 a76:=Tryz.isAgg304
 z76:=Tryz.sizeOf304
 v76:=Tryz.zeroValue304
 t77:=Tryz.underlying287
 a77:=Tryz.isAgg287
 z77:=Tryz.sizeOf287
 v77:=Tryz.zeroValue287 }
end Go.Proofs

/-
 The sort at this program's types, and the comparisons that it is handed.
-/
namespace Go.Proofs.YtedabpfahmealaaGreatDoor.Sym
open Go.RowKit Go.Sort
set_option maxRecDepth 100000
theorem putRow_map {E:Type} [Inhabited E] (enc:E→Value) (w:World) (blk off:Nat) (d:Array E):putRow enc w blk off d=putRow id w blk off (d.map enc):=by
 unfold putRow
 congr 1
 funext c
 unfold putCells
 congr 1
 funext k x
 rw [Array.size_map]
 by_cases h:off≤k∧k<off+d.size
 ·have h1:k-off<d.size:=by omega
  rw [if_pos h,if_pos h,getElem!_pos d _ h1,getElem!_pos (d.map enc) _ (by simpa using h1)]
  simp
 ·rw [if_neg h,if_neg h]
theorem holds_map {E:Type} [Inhabited E] {enc:E→Value} {w:World} {blk off:Nat} {d:Array E} (h:Go.Sort.Holds id w blk off (d.map enc)):Go.Sort.Holds enc w blk off d:=fun j hj=>by
 have:=h j (by simpa using hj)
 rw [getElem!_pos (d.map enc) _ (by simpa using hj)] at this
 rw [getElem!_pos d _ hj]
 simpa using this
def one1 (us:List Value):Value:=us.headD undef
theorem flat_one1 {E:Type} [Inhabited E] {enc:E→List Value} (hk:∀ x,(enc x).length=1) (d:Array E):Go.Sort.flatK enc 1 d=d.map fun x=>one1 (enc x):=by
 rw [flatK_list hk]
 have:(d.toList.map enc).flatten=d.toList.map fun x=>one1 (enc x):=by
  generalize d.toList=l
  induction l with
  | nil=>rfl
  | cons x l ih =>
   rw [List.map_cons,List.flatten_cons,ih,List.map_cons]
   have:=hk x
   match h:enc x,this with
   | [v],_=>rfl
 rw [this]
 apply Array.ext'
 simp
theorem sortC_words:SortC Tryz.prog 186 1 one1:=by
 refine ⟨fun p cap fv w=>AnyF.slices_SortFunc_none { Tryz.sortW with } p cap fv w,?_⟩
 intro E _ enc cf g blk cap d w hk h1 hO eg hcmp hH hblk hsz
 have e1:∀ m (dk:Array E),putRow (fun x=>one1 (enc x)) (Sort.ahead w m) blk 0 dk=putRow id (Sort.ahead w m) blk 0 (Go.Sort.flatK enc 1 dk):=fun m dk=>by rw [flat_one1 hk,putRow_map]
 have hone:OneCell fun x=>one1 (enc x):=fun x=>by
  have h2:=hk x
  have h3:=h1 x
  match h:enc x,h2 with
  | [v],_ =>
   show (one1 (enc x)).oneCell'=true
   rw [h] at h3 ⊢
   exact h3 v (by simp)
 refine (Any.slices_SortFunc Tryz.sortW (fun x=>one1 (enc x)) hone cf hO g #[] blk 0 cap d w eg (fun m os dk hs x y=>?_) (holds_map (by rw [← flat_one1 hk];exact hH)) hblk hsz).mono ?_
 ·have:=hcmp m os dk hs x y
  unfold sortWorld
  rw [e1]
  simpa using this
 ·rintro e w' ⟨he,d',n,os,hp,hs,hw⟩
  exact ⟨he,d',n,os,hp,hs,by rw [hw];unfold sortWorld;rw [e1]⟩
theorem aggF:∀ w,(isAgg (Tryz.sortF_ren.t 24)).run Tryz.prog w=.ok true w:=Tryz.isAgg82
theorem sizF:∀ w,(Go.sizeOf (Tryz.sortF_ren.t 24)).run Tryz.prog w=.ok 2 w:=Tryz.sizeOf82
set_option maxHeartbeats 2000000 in
theorem sortC_finder:SortC Tryz.prog 156 2 (fun us=>.agg us.toArray):=by
 refine ⟨fun p cap fv w=>?_,?_⟩
 ·have hp:=fun lim W=>AnyF.pdqsortCmpFunc_none (P:=Tryz.prog) (ρ:=Tryz.sortF_ren) Tryz.sortF p cap lim fv W
  have hl:∀ W,Calls Tryz.prog 202 #[.int .u64 0] W fun e w'=>e=.returned (.int .i64 (Lib.bitLen 0:Nat))∧w'=W:=fun W=>by
   have h:=Any.bits_Len (SlLaysF0.n15.bits (P:=Tryz.prog) (ρ:=Tryz.sortF_ren) { Tryz.sortF with }) 0 W (by omega) (by omega)
   exact h
  go_enter Tryz.func156,Tryz.ntmps156
  go_wp2_with (first | (go_at_call 202;refine (hl _).mono ?_;rintro e w' ⟨rfl,rfl⟩) | (go_at_call 201;refine (hp _ _).mono ?_;rintro e w' ⟨rfl,rfl⟩))
  go_end0
  exact ⟨rfl,rfl⟩
 ·intro E _ enc cf g blk cap d w hk h1 hO eg hcmp hH hblk hsz
  have hlim:Lib.bitLen d.size<4611686018427387904:=Nat.lt_of_le_of_lt (Lib.bitLen_le d.size 62 (by omega) (by omega)) (by omega)
  have hcmp':CmpLays Tryz.prog g #[] enc 2 cf blk 0 d.size w:=fun m os dk hs x y=>by
   unfold sortWorldK putRowK
   simpa using hcmp m os dk hs x y
  have hp:=AnyQ.pdqsortCmpFunc_all (P:=Tryz.prog) (ρ:=Tryz.sortF_ren) Tryz.sortF 2 aggF sizF enc cf g #[] hO blk 0 cap d w eg hcmp' ⟨hk,h1,hH,hblk⟩ (d.size+1) 0 d.size (Lib.bitLen d.size) d w (by omega) rfl (SWK.start hH) (Nat.zero_le _) (Nat.le_refl _) hsz hlim (Or.inl rfl)
  have hl:Calls Tryz.prog 202 #[.int .u64 (d.size:Int)] w fun e w'=>e=.returned (.int .i64 (Lib.bitLen d.size:Nat))∧w'=w:=by
   have h:=Any.bits_Len (SlLaysF0.n15.bits (P:=Tryz.prog) (ρ:=Tryz.sortF_ren) { Tryz.sortF with }) (d.size:Int) w (by omega) (by omega)
   rwa [Int.toNat_natCast] at h
  have wr:IntKind.u64.wrap (d.size:Int)=d.size:=by simp [IntKind.wrap,IntKind.bits,IntKind.signed];omega
  have hps:=pdq_sorts (ltOf cf) hO d 0 d.size (Lib.bitLen d.size) true true (Nat.zero_le _) (Nat.le_refl _) (Or.inl rfl)
  clear hH hcmp hcmp' hk h1
  go_enter Tryz.func156,Tryz.ntmps156
  go_wp2_with (first | (go_at_call 202;refine hl.mono ?_;rintro e w' ⟨rfl,rfl⟩) | (go_at_call 201;refine hp.mono ?_;rintro e w' ⟨rfl,n,os,rfl⟩))
  go_end0
  exact ⟨rfl,_,n,os,hps.1,hps.2,rfl⟩
theorem cmpG_lex {f:List Int→List Int→Option Int} (hf:∀ x y r,x.length≤17592186044416→f x y=some r→r=lexI x y):CmpG Tryz.prog 126 (nL cI) f:=by
 intro W S u u' x y r h hu hu'
 obtain ⟨A,n,c,rfl,h1⟩:=rowOf_ints hu
 have:=hf x y r (by rw [h1.len];exact h1.small) h
 subst this
 obtain ⟨B,m,c',rfl,h2⟩:=rowOf_ints hu'
 refine (wordLex_any h1 h2).mono fun e w' ⟨he,hw⟩=>⟨he,0,#[],?_⟩
 rw [← hw,Sort.grow_empty]
 rfl
theorem cmpG_compare {f:List Int→List Int→Option Int} (hf:∀ x y r,x.length≤17592186044416→f x y=some r→r=cmpW x y):CmpG Tryz.prog 101 (nL cI) f:=by
 intro W S u u' x y r h hu hu'
 obtain ⟨A,n,c,rfl,h1⟩:=rowOf_ints hu
 have:=hf x y r (by rw [h1.len];exact h1.small) h
 subst this
 obtain ⟨B,m,c',rfl,h2⟩:=rowOf_ints hu'
 refine (wordCompare_any h1 h2).mono fun e w' ⟨he,hw⟩=>⟨he,0,#[.cells #[.int .i64 (cmpI x.length y.length),.int .i64 (lexI x y)] 3],?_⟩
 rw [← hw,Sort.alloc_eq_grow]
 rfl
theorem rep_two {w:World} {S:Nat→Prop} {u:Value} {x y:IV} (h:RepI w S u (.agg [x,y])):∃ a b,u=.agg #[a,b]∧RepI w S a x∧RepI w S b y:=by
 generalize hz:IV.agg [x,y]=z at h
 cases h with
 | agg us cs hl h1 hr =>
  injection hz with hz
  subst hz
  match us,hl with
  | [a,b],_=>exact ⟨a,b,rfl,hr 0 a x rfl rfl,hr 1 b y rfl rfl⟩
 | _=>cases hz
set_option maxHeartbeats 400000 in
theorem find1_any {A A' B B':Option Addr} {n c m c' p q p' q':Nat} {xs ys:List Int} {w:World} (hx:RowOf w IsInt A n c xs) (hy:RowOf w IsInt B m c' ys) :
  Calls Tryz.prog 157 #[.agg #[.slice A n c,.slice A' p q],.agg #[.slice B m c',.slice B' p' q']] w fun e w'=>e=.returned (.int .i64 (lexI xs ys))∧∃ q os,w'=Sort.grow (w.drewN q) os:=by
 have key:∀ o o',∃ q os,(w.alloc o).alloc o'=Sort.grow (w.drewN q) os:=fun o o'=>⟨0,#[o]++#[o'],by
  rw [Sort.alloc_eq_grow,Sort.alloc_eq_grow,Sort.grow_grow]
  rfl⟩
 have hx':∀ o o',RowOf ((w.alloc o).alloc o') IsInt A n c xs:=fun o o'=>(hx.kept (grown_keeps (World.grownBy_alloc w o none))).kept (grown_keeps (World.grownBy_alloc _ o' none))
 have hy':∀ o o',RowOf ((w.alloc o).alloc o') IsInt B m c' ys:=fun o o'=>(hy.kept (grown_keeps (World.grownBy_alloc w o none))).kept (grown_keeps (World.grownBy_alloc _ o' none))
 go_enter Tryz.func157,Tryz.ntmps157
 go_wp2_with (go_at_call 126;refine (wordLex_any (hx' _ _) (hy' _ _)).mono ?_;rintro e w' ⟨rfl,rfl⟩)
 go_ret
 exact ⟨rfl,key _ _⟩
theorem cmpG_find1 {T:Type} {X:T→IV} {i o:T→List Int} (hX:∀ x,X x=.agg [nL cI (i x),nL cI (o x)]) {f:T→T→Option Int} (hf:∀ x y r,(i x).length≤17592186044416→f x y=some r→r=lexI (i x) (i y)):CmpG Tryz.prog 157 X f:=by
 intro W S u u' x y r h hu hu'
 rw [hX] at hu hu'
 obtain ⟨a,b,rfl,ha,hb⟩:=rep_two hu
 obtain ⟨a',b',rfl,ha',hb'⟩:=rep_two hu'
 obtain ⟨A,n,c,rfl,h1⟩:=rowOf_ints ha
 have:=hf x y r (by rw [h1.len];exact h1.small) h
 subst this
 obtain ⟨B,m,c',rfl,h2⟩:=rowOf_ints ha'
 obtain ⟨_,_,_,rfl,_⟩:=rowOf_ints hb
 obtain ⟨_,_,_,rfl,_⟩:=rowOf_ints hb'
 exact find1_any h1 h2
theorem rep_of_one {W:World} {S:Nat→Prop} {us:List Value} {x:IV} (hl:us.length=1) (hr:RepIs W S us [x]):RepI W S (one1 us) x:=by
 match us,hl with
 | [u],_=>exact hr.2 0 u x rfl rfl
def CmpE {T:Type} (P:Program) (g:FuncId) (X:T→IV) (f:T→T→Option Int):Prop:=(∀ args w,(callFunc g args).run P w=.ok (.enter g args) w)∧CmpG P g X f
end Go.Proofs.YtedabpfahmealaaGreatDoor.Sym

namespace Go.Proofs.YtedabpfahmealaaGreatDoor.Sym
open Go.RowKit
set_option maxRecDepth 100000
set_option linter.unusedVariables false
set_option maxHeartbeats 4000000
def libClone {α:Type} (by_:Nat) (l:List α):Option (List α):=chk (capOk l.length by_) (some l)
def lib_Clone_int (l:List Int):Option (List Int):=libClone 8 l
theorem sp_lib_Clone_int (l r:List Int) (h:lib_Clone_int l=some r):Sp Tryz.prog 102 [.im (nL cI l)] (.row 3 1 (List.map cI r)):=by
 obtain ⟨h1,h⟩:=chk_some h
 injection h with h
 subst h
 exact sp_of_clone (by_:=8) (fun args w=>run_enter rfl rfl rfl args w) (by decide) clone_int (fun e he=>by obtain ⟨y,_,rfl⟩:=List.mem_map.1 he;rfl) (by rw [List.length_map];exact h1)
def lib_Clone_words (l:List (List Int)):Option (List (List Int)):=libClone 24 l
theorem sp_lib_Clone_words (l r:List (List Int)) (h:lib_Clone_words l=some r):Sp Tryz.prog 185 [.im (nL (cL cI) l)] (.row 51 1 (List.map (cL cI) r)):=by
 obtain ⟨h1,h⟩:=chk_some h
 injection h with h
 subst h
 exact sp_of_clone (by_:=24) (fun args w=>run_enter rfl rfl rfl args w) (by decide) clone_words (fun e he=>by obtain ⟨y,_,rfl⟩:=List.mem_map.1 he;rfl) (by rw [List.length_map];exact h1)
def lib_SortFunc_words (l:List (List Int)) (f:(List Int)→(List Int)→Option Int):Option (List (List Int)):=libSort l f
theorem sp_lib_SortFunc_words (l:List (List Int)) (f:(List Int)→(List Int)→Option Int) (g:FuncId) (hd:CmpE Tryz.prog g (fun x=>nL cI x) f) (r:List (List Int)) (h:lib_SortFunc_words l f=some r):Sp Tryz.prog 186 [.lent (.row 51 1 (List.map (cL cI) l)),.im (.fn g [])] (.mk true [] [.lent (.row 51 1 (List.map (cL cI) r))]) :=
 sp_of_sort (fun args w=>run_enter rfl rfl rfl args w) sortC_words (by decide) (fun _=>rfl) (fun W S us x hl h1 hr=>rep_of_one hl hr) hd.1 hd.2 h
def lib_Clone_traces (l:List T_api_Trace):Option (List T_api_Trace):=libClone 48 l
theorem sp_lib_Clone_traces (l r:List T_api_Trace) (h:lib_Clone_traces l=some r):Sp Tryz.prog 155 [.im (nL c_api_Trace l)] (.row 82 2 (List.map c_api_Trace r)):=by
 obtain ⟨h1,h⟩:=chk_some h
 injection h with h
 subst h
 exact sp_of_clone (by_:=48) (fun args w=>run_enter rfl rfl rfl args w) (by decide) clone_traces (fun e he=>by obtain ⟨y,_,rfl⟩:=List.mem_map.1 he;rfl) (by rw [List.length_map];exact h1)
def lib_SortFunc_finder (l:List T_api_Trace) (f:T_api_Trace→T_api_Trace→Option Int):Option (List T_api_Trace):=libSort l f
theorem sp_lib_SortFunc_finder (l:List T_api_Trace) (f:T_api_Trace→T_api_Trace→Option Int) (g:FuncId) (hd:CmpE Tryz.prog g (fun x=>.agg (c_api_Trace x)) f) (r:List T_api_Trace) (h:lib_SortFunc_finder l f=some r):Sp Tryz.prog 156 [.lent (.row 82 2 (List.map c_api_Trace l)),.im (.fn g [])] (.mk true [] [.lent (.row 82 2 (List.map c_api_Trace r))]) :=
 sp_of_sort (fun args w=>run_enter rfl rfl rfl args w) sortC_finder (by decide) (fun _=>rfl) (fun W S us x hl h1 hr=>.agg _ _ hr.1 h1 hr.2) hd.1 hd.2 h
end Go.Proofs.YtedabpfahmealaaGreatDoor.Sym

namespace Go.Proofs.YtedabpfahmealaaGreatDoor.Sym
open Go.RowKit
set_option maxRecDepth 100000
set_option linter.unusedVariables false
set_option maxHeartbeats 4000000
def R01_Common.s2 (a_:List Int) (b_:List Int) (i115:Nat):Option (Nat⊕Nat) :=
 (cond (decide ((↑i115:Int)<(↑(List.length a_):Int))) (cond (decide ((↑i115:Int)<(↑(List.length b_):Int))) (idxn a_ i115 fun e141=>idxn b_ i115 fun e142=>some (decide (e141=e142))) (some false)) (some false):Option (Bool)).bind (fun (y138:Bool)=>cond (y138) (chk (inR ((↑i115:Int)+1)) (some (.inl (i115+1)))) (some (.inr i115)))
def R01_Common (a_:List Int) (b_:List Int):Option (Int) :=
 (iter (fun (s:Nat)=>R01_Common.s2 a_ b_ s) fuel 0:Option (Nat)).bind (fun (i100:Nat)=>some (↑i100:Int))
def R01_Same (a_:List Int) (b_:List Int):Option (Bool) :=
 (cond (decide ((↑(List.length a_):Int)=(↑(List.length b_):Int))) ((R01_Common a_ b_).bind fun c57=>some (decide (c57=(↑(List.length a_):Int)))) (some false):Option (Bool)).bind (fun (y55:Bool)=>some y55)
def R01_SameWords.s2 (a_:List (List Int)) (b_:List (List Int)) (i77:Nat):Option (Nat⊕(Unit⊕Bool)) :=
 cond (decide ((↑i77:Int)<(↑(List.length a_):Int))) (idxn a_ i77 fun e85=>idxn b_ i77 fun e86=>(R01_Same e85 e86).bind fun c87=>cond ((!c87)) (some (.inr (.inr false))) (some (.inl (i77+1)))) (some (.inr (.inl ())))
def R01_SameWords (a_:List (List Int)) (b_:List (List Int)):Option (Bool) :=
 cond (decide ((↑(List.length a_):Int)≠(↑(List.length b_):Int))) (some false) ((iter (fun (s:Nat)=>R01_SameWords.s2 a_ b_ s) fuel 0:Option (Unit⊕Bool)).bind (Sum.elim (fun (_:Unit)=>some true) some))
def R28_Table (l_:T_api_Lazy):Option (T_api_Table) :=
 some (⟨l_.Inputs,l_.Short,l_.Suffixes⟩:T_api_Table)
def L23_Long.s2 (l_:List (List Int)) (i68:Nat):Option (Nat⊕(Unit⊕Bool)) :=
 cond (decide ((↑i68:Int)<(↑(List.length l_):Int))) (idxn l_ i68 fun e74=>cond (decide (30<(↑(List.length e74):Int))) (some (.inr (.inr true))) (some (.inl (i68+1)))) (some (.inr (.inl ())))
def L23_Long (l_:List (List Int)) (most_:Int):Option (Bool) :=
 cond (decide (most_<(↑(List.length l_):Int))) (some true) ((iter (fun (s:Nat)=>L23_Long.s2 l_ s) fuel 0:Option (Unit⊕Bool)).bind (Sum.elim (fun (_:Unit)=>some false) some))
def L23_Great.s2 (o_:T_api_Obs) (i80:Nat):Option (Nat⊕(Unit⊕Bool)) :=
 cond (decide ((↑i80:Int)<(↑(List.length o_.Traces):Int))) (idxn o_.Traces i80 fun e86=>cond (decide (90<(↑(List.length e86.In):Int))) (some (.inr (.inr true))) (some (.inl (i80+1)))) (some (.inr (.inl ())))
def L23_Great (t_:T_api_Table) (o_:T_api_Obs):Option (Bool) :=
 (cond (decide (4<t_.Inputs)) (some true) ((L23_Long t_.Prefixes 30).bind fun c60=>cond (c60) (some true) ((L23_Long t_.Suffixes 12).bind fun c62=>cond (c62) (some true) (some (decide (400<(↑(List.length o_.Traces):Int)))))):Option (Bool)).bind (fun (y58:Bool)=>cond (y58) (some true) ((iter (fun (s:Nat)=>L23_Great.s2 o_ s) fuel 0:Option (Unit⊕Bool)).bind (Sum.elim (fun (_:Unit)=>some false) some)))
def R01_Size (inputs_:Int):Option (Bool) :=
 (cond (decide (1≤inputs_)) (some (decide (inputs_≤1024))) (some false):Option (Bool)).bind (fun (y54:Bool)=>some y54)
def R01_Check.s2 (w_:List Int) (inputs_:Int) (i106:Nat):Option (Nat⊕(Unit⊕Int)) :=
 cond (decide ((↑i106:Int)<(↑(List.length w_):Int))) ((idxn w_ i106 fun e127=>cond (decide (e127<0)) (some true) (idxn w_ i106 fun e129=>some (decide (inputs_≤e129))):Option (Bool)).bind (fun (y126:Bool)=>cond (y126) (some (.inr (.inr 1))) (some (.inl (i106+1))))) (some (.inr (.inl ())))
def R01_Check (w_:List Int) (inputs_:Int):Option (Int) :=
 (R01_Size inputs_).bind fun c51=>cond ((!c51)) (some 2) (cond (decide (1024<(↑(List.length w_):Int))) (some 3) ((iter (fun (s:Nat)=>R01_Check.s2 w_ inputs_ s) fuel 0:Option (Unit⊕Int)).bind (Sum.elim (fun (_:Unit)=>some 0) some)))
def R01_Lex (a_:List Int) (b_:List Int):Option (Int) :=
 (R01_Common a_ b_).bind fun c51=>(cond (decide (c51=(↑(List.length a_):Int))) (some (decide (c51=(↑(List.length b_):Int)))) (some false):Option (Bool)).bind (fun (y55:Bool)=>cond (y55) (some 0) ((cond (decide (c51=(↑(List.length a_):Int))) (some (decide (c51=(↑(List.length a_):Int)))) (cond (decide (c51<(↑(List.length b_):Int))) (idx a_ c51 fun e69=>idx b_ c51 fun e70=>some (decide (e69<e70))) (some false)):Option (Bool)).bind (fun (y66:Bool)=>cond (y66) (some (-1:Int)) (some 1))))
def R01_Compare (a_:List Int) (b_:List Int):Option (Int) :=
 cond (decide ((↑(List.length a_):Int)<(↑(List.length b_):Int))) (some (-1:Int)) (cond (decide ((↑(List.length b_):Int)<(↑(List.length a_):Int))) (some 1) ((R01_Lex a_ b_).bind fun c53=>some c53))
def R16_Proper.s2 (t_:T_api_Trace) (i101:Nat):Option (Nat⊕(Unit⊕Int)) :=
 cond (decide ((↑i101:Int)<(↑(List.length t_.Out):Int))) ((idxn t_.Out i101 fun e121=>cond (decide (e121<0)) (some true) (idxn t_.Out i101 fun e123=>some (decide (1048576<e123))):Option (Bool)).bind (fun (y120:Bool)=>cond (y120) (some (.inr (.inr 2))) (some (.inl (i101+1))))) (some (.inr (.inl ())))
def R16_Proper (t_:T_api_Trace) (inputs_:Int):Option (Int) :=
 (R01_Check t_.In inputs_).bind fun c51=>cond (decide (c51≠0)) (some c51) (cond (decide ((↑(List.length t_.Out):Int)≠(↑(List.length t_.In):Int))) (some 1) ((iter (fun (s:Nat)=>R16_Proper.s2 t_ s) fuel 0:Option (Unit⊕Int)).bind (Sum.elim (fun (_:Unit)=>some 0) some)))
def R01_HasPrefix (w_:List Int) (p_:List Int):Option (Bool) :=
 (R01_Common w_ p_).bind fun c51=>some (decide (c51=(↑(List.length p_):Int)))
def R16_Differ.s2 (a_:T_api_Trace) (b_:T_api_Trace) (c51:Int) (i73:Nat):Option (Nat⊕(Unit⊕Int)) :=
 cond (decide ((↑i73:Int)<c51)) (idxn a_.Out i73 fun e81=>idxn b_.Out i73 fun e82=>cond (decide (e81≠e82)) (some (.inr (.inr (↑i73:Int)))) (chk (inR ((↑i73:Int)+1)) (some (.inl (i73+1))))) (some (.inr (.inl ())))
def R16_Differ (a_:T_api_Trace) (b_:T_api_Trace):Option (Int) :=
 (R01_Common a_.In b_.In).bind fun c51=>(iter (fun (s:Nat)=>R16_Differ.s2 a_ b_ c51 s) fuel 0:Option (Unit⊕Int)).bind (Sum.elim (fun (_:Unit)=>some (-1:Int)) some)
def R16_apart.s30 (o_:T_api_Obs) (i518:Nat) (prefix714:Bool) (clash715:Bool) (k716:Nat):Option ((Bool×Bool×Nat)⊕(Bool×Bool)) :=
 cond (decide ((↑k716:Int)<(↑(List.length o_.Traces):Int))) ((cond (prefix714) (some true) (idxn o_.Traces k716 fun e743=>idxn o_.Traces i518 fun e744=>(R01_HasPrefix e743.In e744.In).bind fun c745=>some c745):Option (Bool)).bind (fun (prefix741:Bool)=>cond (clash715) (some (.inl (prefix741,true,(k716+1)))) (idxn o_.Traces i518 fun e747=>idxn o_.Traces k716 fun e748=>(R16_Differ e747 e748).bind fun c749=>some (.inl (prefix741,decide (0≤c749),(k716+1)))))) (some (.inr (prefix714,clash715)))
def R16_apart.k31 (i518:Nat) (prefix693:Bool) (clash694:Bool):Option (Nat⊕(Unit⊕Int)) :=
 cond (prefix693) (some (.inr (.inr 7))) (cond (clash694) (some (.inr (.inr 13))) (some (.inl (i518+1))))
def R16_apart.s32 (o_:T_api_Obs) (i518:Nat):Option (Nat⊕(Unit⊕Int)) :=
 cond (decide ((↑i518:Int)<(↑(List.length o_.Traces):Int))) ((iter (fun (s:Bool×Bool×Nat)=>R16_apart.s30 o_ i518 s.1 s.2.1 s.2.2) fuel (false,false,(i518+1)):Option (Bool×Bool)).bind (fun (s:Bool×Bool)=>R16_apart.k31 i518 s.1 s.2)) (some (.inr (.inl ())))
def R16_apart (o_:T_api_Obs):Option (Int) :=
 (iter (fun (s:Nat)=>R16_apart.s32 o_ s) fuel 0:Option (Unit⊕Int)).bind (Sum.elim (fun (_:Unit)=>some 0) some)
def R16_Valid.s2 (o_:T_api_Obs) (i129:Nat):Option (Nat⊕(Unit⊕Int)) :=
 cond (decide ((↑i129:Int)<(↑(List.length o_.Traces):Int))) (idxn o_.Traces i129 fun e149=>(R01_Check e149.In o_.Inputs).bind fun c150=>cond (decide (c150≠0)) (some (.inr (.inr c150))) (cond (decide ((↑(List.length e149.In):Int)=0)) (some (.inr (.inr 19))) ((R16_Proper e149 o_.Inputs).bind fun c153=>cond (decide (c153≠0)) (some (.inr (.inr c153))) ((cond (decide (0<(↑i129:Int))) (idx o_.Traces ((↑i129:Int)-1) fun e162=>(R01_Compare e162.In e149.In).bind fun c163=>some (decide (0≤c163))) (some false):Option (Bool)).bind (fun (y160:Bool)=>cond (y160) (some (.inr (.inr 10))) (some (.inl (i129+1)))))))) (some (.inr (.inl ())))
def R16_Valid (o_:T_api_Obs):Option (Int) :=
 (cond (decide (o_.Inputs<1)) (some true) (some (decide (64<o_.Inputs))):Option (Bool)).bind (fun (y54:Bool)=>cond (y54) (some 2) (cond (decide (10000<(↑(List.length o_.Traces):Int))) (some 11) ((iter (fun (s:Nat)=>R16_Valid.s2 o_ s) fuel 0:Option (Unit⊕Int)).bind (Sum.elim (fun (_:Unit)=>(R16_apart o_).bind fun c165=>some c165) some))))
def L28_great (l_:T_api_Lazy) (o_:T_api_Obs):Option (Bool) :=
 ((R28_Table l_).bind fun c58=>(L23_Great c58 o_).bind fun c59=>cond (c59) (some true) ((R16_Valid o_).bind fun c61=>some (decide (c61≠0))):Option (Bool)).bind (fun (y57:Bool)=>some y57)
def zq112.s2 (inputs_:Int) (y72:List (List Int)) (y73:Nat):Option ((List (List Int)×Nat)⊕List (List Int)) :=
 cond (decide ((↑y73:Int)<inputs_)) (chk (capOk (List.length y72+1) 24) (chk (inR ((↑y73:Int)+1)) (some (.inl ((y72++[[(↑y73:Int)]]),(y73+1)))))) (some (.inr y72))
def zq112 (inputs_:Int):Option (T_api_Table×Int) :=
 (cond (decide (inputs_<1)) (some true) (some (decide (64<inputs_))):Option (Bool)).bind (fun (y54:Bool)=>cond (y54) (some ((⟨0,[],[]⟩:T_api_Table),2)) ((iter (fun (s:List (List Int)×Nat)=>zq112.s2 inputs_ s.1 s.2) fuel ([],0):Option (List (List Int))).bind (fun (y70:List (List Int))=>some ((⟨inputs_,[[]],y70⟩:T_api_Table),0))))
def lazy_New (inputs_:Int):Option (T_api_Lazy×Int) :=
 (zq112 inputs_).bind fun c51=>cond (decide (c51.2≠0)) (some ((⟨0,[],[]⟩:T_api_Lazy),c51.2)) (some ((⟨inputs_,c51.1.Prefixes,c51.1.Suffixes⟩:T_api_Lazy),0))
def L23_Gate:Option (T_api_Obs) :=
 some (⟨2,[(⟨[0,0],[1,1]⟩:T_api_Trace),(⟨[0,1],[1,2]⟩:T_api_Trace),(⟨[1,0],[0,1]⟩:T_api_Trace),(⟨[1,1],[0,0]⟩:T_api_Trace)]⟩:T_api_Obs)
def zq6.s2 (x_:List (List Int)) (target_:List Int) (cmp_:(List Int)→(List Int)→Option Int) (i90:Int) (j91:Int):Option ((Int×Int)⊕Int) :=
 cond (decide (i90<j91)) (chk (inR (i90+j91)) (chk ((0:Int)≤(i90+j91)∧(i90+j91)≤18446744073709551615) (chk ((0:Int)≤(i90+j91)∧(i90+j91)≤18446744073709551615) (chk (inR ((i90+j91) / 2^1)) (idx x_ ((i90+j91) / 2^1) fun e107=>(cmp_ e107 target_).bind fun c108=>cond (decide (c108<0)) (chk (inR (((i90+j91) / 2^1)+1)) (some (.inl ((((i90+j91) / 2^1)+1),j91)))) (some (.inl (i90,((i90+j91) / 2^1))))))))) (some (.inr i90))
def zq6 (x_:List (List Int)) (target_:List Int) (cmp_:(List Int)→(List Int)→Option Int):Option (Int×Bool) :=
 (iter (fun (s:Int×Int)=>zq6.s2 x_ target_ cmp_ s.1 s.2) fuel (0,(↑(List.length x_):Int)):Option (Int)).bind (fun (i82:Int)=>(cond (decide (i82<(↑(List.length x_):Int))) (idx x_ i82 fun e122=>(cmp_ e122 target_).bind fun c123=>some (decide (c123=0))) (some false):Option (Bool)).bind (fun (y120:Bool)=>some (i82,y120)))
def zq86 (x_:Int):Option (Bool) :=
 some (decide (x_≠x_))
def zq75 (x_:Int) (y_:Int):Option (Int) :=
 (zq86 x_).bind fun c51=>(zq86 y_).bind fun c52=>cond (c51) (cond (c52) (some 0) (some (-1:Int))) (cond (c52) (some 1) (cond (decide (x_<y_)) (some (-1:Int)) (cond (decide (y_<x_)) (some 1) (some 0))))
def zq27.s2 (s1_:List Int) (s2_:List Int) (y80:Nat):Option (Nat⊕(Unit⊕Int)) :=
 cond (decide ((↑y80:Int)<(↑(List.length s1_):Int))) (idxn s1_ y80 fun e89=>cond (decide ((↑(List.length s2_):Int)≤(↑y80:Int))) (some (.inr (.inr 1))) (idxn s2_ y80 fun e91=>(zq75 e89 e91).bind fun c92=>cond (decide (c92≠0)) (some (.inr (.inr c92))) (some (.inl (y80+1))))) (some (.inr (.inl ())))
def zq27 (s1_:List Int) (s2_:List Int):Option (Int) :=
 (iter (fun (s:Nat)=>zq27.s2 s1_ s2_ s) fuel 0:Option (Unit⊕Int)).bind (Sum.elim (fun (_:Unit)=>cond (decide ((↑(List.length s1_):Int)<(↑(List.length s2_):Int))) (some (-1:Int)) (some 0)) some)
def zq110.s2 (vals_:List Int) (y67:Nat):Option (Nat⊕(Unit⊕Int)) :=
 cond (decide ((↑y67:Int)<(↑(List.length vals_):Int))) (idxn vals_ y67 fun e73=>cond (decide (e73≠0)) (some (.inr (.inr e73))) (some (.inl (y67+1)))) (some (.inr (.inl ())))
def zq110 (vals_:List Int):Option (Int) :=
 (iter (fun (s:Nat)=>zq110.s2 vals_ s) fuel 0:Option (Unit⊕Int)).bind (Sum.elim (fun (_:Unit)=>some 0) some)
def word_Compare (a_:List Int) (b_:List Int):Option (Int) :=
 (zq75 (↑(List.length a_):Int) (↑(List.length b_):Int)).bind fun c51=>(zq27 a_ b_).bind fun c52=>(zq110 [c51,c52]).bind fun c53=>some c53
def zq111 (l_:List (List Int)) (w_:List Int):Option (List (List Int)) :=
 (zq6 l_ w_ (fun u0 u1=>word_Compare u0 u1)).bind fun c51=>cond (c51.2) (some l_) (chk ((0:Int)≤c51.1∧c51.1≤(↑(List.length l_):Int)) ((lib_Clone_int w_).bind fun c54=>chk (capOk (List.length (List.take (Int.toNat c51.1) l_)+1) 24) (chk ((0:Int)≤c51.1∧c51.1≤(↑(List.length l_):Int)) (chk (capOk (List.length ((List.take (Int.toNat c51.1) l_)++[c54])+List.length (List.drop (Int.toNat c51.1) l_)) 24) (some (((List.take (Int.toNat c51.1) l_)++[c54])++(List.drop (Int.toNat c51.1) l_)))))))
def zq32.s2 (s1_:List Int) (s2_:List Int) (y73:Nat):Option (Nat⊕(Unit⊕Bool)) :=
 cond (decide ((↑y73:Int)<(↑(List.length s1_):Int))) (idxn s1_ y73 fun e80=>idxn s2_ y73 fun e81=>cond (decide (e80≠e81)) (some (.inr (.inr false))) (some (.inl (y73+1)))) (some (.inr (.inl ())))
def zq32 (s1_:List Int) (s2_:List Int):Option (Bool) :=
 cond (decide ((↑(List.length s1_):Int)≠(↑(List.length s2_):Int))) (some false) ((iter (fun (s:Nat)=>zq32.s2 s1_ s2_ s) fuel 0:Option (Unit⊕Bool)).bind (Sum.elim (fun (_:Unit)=>some true) some))
def zq85 (v_:List Int) (p1_:List Int):Option (Bool) :=
 (zq32 v_ p1_).bind fun c51=>some c51
def zq16.s2 (s_:List (List Int)) (f_:(List Int)→Option Bool) (y71:Nat):Option (Nat⊕(Unit⊕Int)) :=
 cond (decide ((↑y71:Int)<(↑(List.length s_):Int))) (idxn s_ y71 fun e78=>(f_ e78).bind fun c79=>cond (c79) (some (.inr (.inr (↑y71:Int)))) (some (.inl (y71+1)))) (some (.inr (.inl ())))
def zq16 (s_:List (List Int)) (f_:(List Int)→Option Bool):Option (Int) :=
 (iter (fun (s:Nat)=>zq16.s2 s_ f_ s) fuel 0:Option (Unit⊕Int)).bind (Sum.elim (fun (_:Unit)=>some (-1:Int)) some)
def zq12 (s_:List (List Int)) (f_:(List Int)→Option Bool):Option (Bool) :=
 (zq16 s_ f_).bind fun c51=>some (decide (0≤c51))
def zq100 (l_:List (List Int)) (w_:List Int):Option (Bool) :=
 (zq12 l_ (fun u0=>zq85 u0 w_)).bind fun c51=>some c51
def zq108 (l_:T_api_Lazy):Option (T_api_Table) :=
 some (⟨l_.Inputs,l_.Short,l_.Suffixes⟩:T_api_Table)
def word_permitted (inputs_:Int):Option (Bool) :=
 (cond (decide (1≤inputs_)) (some (decide (inputs_≤1024))) (some false):Option (Bool)).bind (fun (y54:Bool)=>some y54)
def word_Check_1 (a_:Int) (p1_:Int):Option (Bool) :=
 (cond (decide (a_<0)) (some true) (some (decide (p1_≤a_))):Option (Bool)).bind (fun (y54:Bool)=>some y54)
def zq17.s2 (s_:List Int) (f_:Int→Option Bool) (y71:Nat):Option (Nat⊕(Unit⊕Int)) :=
 cond (decide ((↑y71:Int)<(↑(List.length s_):Int))) (idxn s_ y71 fun e78=>(f_ e78).bind fun c79=>cond (c79) (some (.inr (.inr (↑y71:Int)))) (some (.inl (y71+1)))) (some (.inr (.inl ())))
def zq17 (s_:List Int) (f_:Int→Option Bool):Option (Int) :=
 (iter (fun (s:Nat)=>zq17.s2 s_ f_ s) fuel 0:Option (Unit⊕Int)).bind (Sum.elim (fun (_:Unit)=>some (-1:Int)) some)
def zq14 (s_:List Int) (f_:Int→Option Bool):Option (Bool) :=
 (zq17 s_ f_).bind fun c51=>some (decide (0≤c51))
def word_Check (w_:List Int) (inputs_:Int):Option (Int) :=
 (word_permitted inputs_).bind fun c51=>cond ((!c51)) (some 2) (cond (decide (1024<(↑(List.length w_):Int))) (some 3) ((zq14 w_ (fun u0=>word_Check_1 u0 inputs_)).bind fun c54=>cond (c54) (some 1) (some 0)))
def zq92 (l_:List (List Int)) (i_:Int):Option (Bool) :=
 (cond (decide (i_=0)) (some true) (chk (inR (i_-1)) (idx l_ (i_-1) fun e61=>idx l_ i_ fun e62=>(word_Compare e61 e62).bind fun c63=>some (decide (c63<0)))):Option (Bool)).bind (fun (y58:Bool)=>some y58)
def zq91.s2 (l_:List (List Int)) (n65:Int) (y66:Nat):Option ((Int×Nat)⊕Int) :=
 cond (decide ((↑y66:Int)<(↑(List.length l_):Int))) (idxn l_ y66 fun e71=>some (.inl ((max n65 (↑(List.length e71):Int)),(y66+1)))) (some (.inr n65))
def zq91 (l_:List (List Int)):Option (Int) :=
 (iter (fun (s:Int×Nat)=>zq91.s2 l_ s.1 s.2) fuel (0,0):Option (Int)).bind (fun (n62:Int)=>some n62)
def zq98.s2 (t_:T_api_Table) (y90:List (ByteArray×Bool)) (y91:Nat):Option (((List (ByteArray×Bool))×Nat)⊕((List (ByteArray×Bool)))) :=
 cond (decide ((↑y91:Int)<(↑(List.length t_.Prefixes):Int))) (idxn t_.Prefixes y91 fun e97=>(table_key e97).bind fun c98=>some (.inl ((mset c98 true y90),(y91+1)))) (some (.inr y90))
def zq98.s4 (t_:T_api_Table) (y86:List (ByteArray×Bool)) (y220:Nat):Option (Nat⊕(Unit⊕Int)) :=
 cond (decide ((↑y220:Int)<(↑(List.length t_.Prefixes):Int))) (idxn t_.Prefixes y220 fun e252=>(word_Check e252 t_.Inputs).bind fun c253=>cond (decide (c253≠0)) (some (.inr (.inr c253))) ((cond (decide ((↑y220:Int)=0)) (cond (decide (0<(↑(List.length e252):Int))) (some true) ((zq92 t_.Prefixes (↑y220:Int)).bind fun c264=>some (!c264))) ((zq92 t_.Prefixes (↑y220:Int)).bind fun c265=>some (!c265)):Option (Bool)).bind (fun (y261:Bool)=>cond (y261) (some (.inr (.inr 10))) ((cond (decide (0<(↑(List.length e252):Int))) (chk ((0:Int)≤((↑(List.length e252):Int)-1)∧((↑(List.length e252):Int)-1)≤(↑(List.length e252):Int)) ((table_key (List.take (Int.toNat ((↑(List.length e252):Int)-1)) e252)).bind fun c277=>some (!((mget c277 y86).getD false)))) (some false):Option (Bool)).bind (fun (y274:Bool)=>cond (y274) (some (.inr (.inr 1))) (some (.inl (y220+1)))))))) (some (.inr (.inl ())))
def zq98.s6 (t_:T_api_Table) (y313:Nat):Option (Nat⊕(Unit⊕Int)) :=
 cond (decide ((↑y313:Int)<(↑(List.length t_.Suffixes):Int))) (idxn t_.Suffixes y313 fun e323=>(word_Check e323 t_.Inputs).bind fun c324=>cond (decide (c324≠0)) (some (.inr (.inr c324))) (cond (decide ((↑(List.length e323):Int)=0)) (some (.inr (.inr 19))) ((zq92 t_.Suffixes (↑y313:Int)).bind fun c327=>cond ((!c327)) (some (.inr (.inr 10))) (some (.inl (y313+1)))))) (some (.inr (.inl ())))
def zq98 (t_:T_api_Table):Option (Int) :=
 (cond (decide (t_.Inputs<1)) (some true) (some (decide (64<t_.Inputs))):Option (Bool)).bind (fun (y54:Bool)=>cond (y54) (some 2) (cond (decide ((↑(List.length t_.Prefixes):Int)=0)) (some 19) ((cond (decide (10000<(↑(List.length t_.Prefixes):Int))) (some true) (cond (decide (10000<(↑(List.length t_.Suffixes):Int))) (some true) (chk (inR (t_.Inputs+1)) (chk (inR ((↑(List.length t_.Prefixes):Int)*(t_.Inputs+1))) (chk (inR (((↑(List.length t_.Prefixes):Int)*(t_.Inputs+1))*(↑(List.length t_.Suffixes):Int))) (some (decide (160000<(((↑(List.length t_.Prefixes):Int)*(t_.Inputs+1))*(↑(List.length t_.Suffixes):Int))))))))):Option (Bool)).bind (fun (y65:Bool)=>cond (y65) (some 11) ((iter (fun (s:(List (ByteArray×Bool))×Nat)=>zq98.s2 t_ s.1 s.2) fuel (([]:List (ByteArray×Bool)),0):Option ((List (ByteArray×Bool)))).bind (fun (y86:(List (ByteArray×Bool)))=>(iter (fun (s:Nat)=>zq98.s4 t_ y86 s) fuel 0:Option (Unit⊕Int)).bind (Sum.elim (fun (_:Unit)=>(iter (fun (s:Nat)=>zq98.s6 t_ s) fuel 0:Option (Unit⊕Int)).bind (Sum.elim (fun (_:Unit)=>(cond (decide ((↑(List.length t_.Suffixes):Int)<t_.Inputs)) (some true) (chk (inR (t_.Inputs-1)) (idx t_.Suffixes (t_.Inputs-1) fun e338=>some (decide (1<(↑(List.length e338):Int))))):Option (Bool)).bind (fun (y335:Bool)=>cond (y335) (some 1) ((zq91 t_.Prefixes).bind fun c340=>(zq91 t_.Suffixes).bind fun c341=>chk (inR (c340+c341)) (cond (decide (1023<(c340+c341))) (some 3) (some 0))))) some)) some)))))))
def zq107.s2 (l_:T_api_Lazy) (y110:Nat):Option (Nat⊕(Unit⊕Int)) :=
 cond (decide ((↑y110:Int)<(↑(List.length l_.Suffixes):Int))) (idxn l_.Suffixes y110 fun e126=>(cond (decide (1<(↑(List.length e126):Int))) (chk ((0:Int)≤1∧1≤(↑(List.length e126):Int)) ((zq100 l_.Suffixes (List.drop 1 e126)).bind fun c135=>some (!c135))) (some false):Option (Bool)).bind (fun (y132:Bool)=>cond (y132) (some (.inr (.inr 1))) (some (.inl (y110+1))))) (some (.inr (.inl ())))
def zq107 (l_:T_api_Lazy):Option (Int) :=
 (zq108 l_).bind fun c51=>(zq98 c51).bind fun c52=>cond (decide (c52≠0)) (some c52) ((iter (fun (s:Nat)=>zq107.s2 l_ s) fuel 0:Option (Unit⊕Int)).bind (Sum.elim (fun (_:Unit)=>some 0) some))
def zq104 (l_:T_api_Lazy) (o_:T_api_Obs):Option (Int) :=
 (zq107 l_).bind fun c51=>cond (decide (c51≠0)) (some c51) (cond (decide (l_.Inputs≠o_.Inputs)) (some 15) (some 0))
def zq30.s2 (slices_:List (List Int)) (size73:Nat) (y74:Nat):Option ((Nat×Nat)⊕Nat) :=
 cond (decide ((↑y74:Int)<(↑(List.length slices_):Int))) (idxn slices_ y74 fun e81=>chk (inR ((↑size73:Int)+(↑(List.length e81):Int))) (cond (decide (((↑size73:Int)+(↑(List.length e81):Int))<0)) (none) (some (.inl ((size73+(List.length e81)),(y74+1)))))) (some (.inr size73))
def zq30.s4 (slices_:List (List Int)) (y106:List Int) (y107:Nat):Option ((List Int×Nat)⊕List Int) :=
 cond (decide ((↑y107:Int)<(↑(List.length slices_):Int))) (idxn slices_ y107 fun e113=>chk (capOk (List.length y106+List.length e113) 8) (some (.inl ((y106++e113),(y107+1))))) (some (.inr y106))
def zq30 (slices_:List (List Int)):Option (List Int) :=
 (iter (fun (s:Nat×Nat)=>zq30.s2 slices_ s.1 s.2) fuel (0,0):Option (Nat)).bind (fun (size68:Nat)=>(lib_Grow_int (↑size68:Int)).bind fun c86=>(iter (fun (s:List Int×Nat)=>zq30.s4 slices_ s.1 s.2) fuel (c86,0):Option (List Int)).bind (fun (y102:List Int)=>some y102))
def word_Join (parts_:List (List Int)):Option (List Int) :=
 (zq30 parts_).bind fun c51=>some c51
def zq76 (w_:List Int) (a_:Int):Option (List Int) :=
 (word_Join [w_,[a_]]).bind fun c51=>some c51
def zq59 (a_:List Int) (b_:List Int) (p2_:(List Int)→(List Int)→Option Int):Option (Bool) :=
 (p2_ a_ b_).bind fun c51=>some (decide (c51=0))
def zq13.s18 (eq_:(List Int)→(List Int)→Option Bool) (k356:Nat) (y481:List (List Int)) (k482:Nat) (y483:Nat):Option ((List (List Int)×Nat×Nat)⊕(List (List Int)×Nat)) :=
 cond (decide ((↑y483:Int)<(↑(List.length y481-k356):Int))) (idxn y481 (k356+y483) fun e495=>chk ((0:Int)≤((↑y483:Int)-1)) (idxn y481 (k356+(Int.toNat ((↑y483:Int)-1))) fun e496=>(eq_ e495 e496).bind fun c498=>cond ((!c498)) (idxn y481 (k356+y483) fun e500=>idxn y481 k482 fun e501=>chk (inR ((↑k482:Int)+1)) (some (.inl ((List.set y481 k482 e500),(k482+1),(y483+1))))) (some (.inl (y481,k482,(y483+1)))))) (some (.inr (y481,k482)))
def zq13.k19 (y471:List (List Int)) (k472:Nat):Option (Nat⊕(Unit⊕List (List Int))) :=
 chk ((0:Int)≤(↑k472:Int)∧(↑k472:Int)≤(↑(List.length y471):Int)∧0<List.length y471) (chk (k472≤List.length y471) (chk ((0:Int)≤(↑k472:Int)∧(↑k472:Int)≤(↑(List.length (List.take k472 y471++List.replicate (List.length y471-k472) [])):Int)∧0<List.length (List.take k472 y471++List.replicate (List.length y471-k472) [])) (some (.inr (.inr (List.take k472 (List.take k472 y471++List.replicate (List.length y471-k472) [])))))))
def zq13.s20 (s_:List (List Int)) (eq_:(List Int)→(List Int)→Option Bool) (k356:Nat):Option (Nat⊕(Unit⊕List (List Int))) :=
 cond (decide ((↑k356:Int)<(↑(List.length s_):Int))) (idxn s_ k356 fun e434=>idx s_ ((↑k356:Int)-1) fun e435=>(eq_ e434 e435).bind fun c436=>cond (c436) (chk ((0:Int)≤(↑k356:Int)∧(↑k356:Int)≤(↑(List.length s_):Int)∧0<List.length s_) ((iter (fun (s:List (List Int)×Nat×Nat)=>zq13.s18 eq_ k356 s.1 s.2.1 s.2.2) fuel (s_,k356,1):Option (List (List Int)×Nat)).bind (fun (s:List (List Int)×Nat)=>zq13.k19 s.1 s.2))) (some (.inl (k356+1)))) (some (.inr (.inl ())))
def zq13 (s_:List (List Int)) (eq_:(List Int)→(List Int)→Option Bool):Option (List (List Int)) :=
 cond (decide ((↑(List.length s_):Int)<2)) (some s_) ((iter (fun (s:Nat)=>zq13.s20 s_ eq_ s) fuel 1:Option (Unit⊕List (List Int))).bind (Sum.elim (fun (_:Unit)=>some s_) some))
def zq71.s2 (c53:List (List Int)) (y78:List (List Int)) (y79:Nat):Option ((List (List Int)×Nat)⊕List (List Int)) :=
 cond (decide ((↑y79:Int)<(↑(List.length c53):Int))) (idxn y78 y79 fun e87=>(lib_Clone_int e87).bind fun c88=>idxn y78 y79 fun e89=>chk (inR ((↑y79:Int)+1)) (some (.inl ((List.set y78 y79 c88),(y79+1))))) (some (.inr y78))
def zq71 (l_:List (List Int)) (order_:(List Int)→(List Int)→Option Int):Option (List (List Int)) :=
 (lib_Clone_words l_).bind fun c51=>(lib_SortFunc_words c51 order_).bind fun c52=>(zq13 c52 (fun u0 u1=>zq59 u0 u1 order_)).bind fun c53=>(iter (fun (s:List (List Int)×Nat)=>zq71.s2 c53 s.1 s.2) fuel (c53,0):Option (List (List Int))).bind (fun (y73:List (List Int))=>some y73)
def word_Common.s2 (a_:List Int) (b_:List Int) (y72:Nat):Option (Nat⊕(Unit⊕Int)) :=
 cond (decide ((↑y72:Int)<(min (↑(List.length a_):Int) (↑(List.length b_):Int)))) (idxn a_ y72 fun e79=>idxn b_ y72 fun e80=>cond (decide (e79≠e80)) (some (.inr (.inr (↑y72:Int)))) (some (.inl (y72+1)))) (some (.inr (.inl ())))
def word_Common (a_:List Int) (b_:List Int):Option (Int) :=
 (iter (fun (s:Nat)=>word_Common.s2 a_ b_ s) fuel 0:Option (Unit⊕Int)).bind (Sum.elim (fun (_:Unit)=>some (min (↑(List.length a_):Int) (↑(List.length b_):Int))) some)
def word_HasPrefix (w_:List Int) (p_:List Int):Option (Bool) :=
 (word_Common w_ p_).bind fun c51=>some (decide (c51=(↑(List.length p_):Int)))
def zq81 (l_:List (List Int)):Option (List (List Int)) :=
 (zq71 l_ (fun u0 u1=>word_Compare u0 u1)).bind fun c51=>some c51
def word_Lex (a_:List Int) (b_:List Int):Option (Int) :=
 (zq27 a_ b_).bind fun c51=>some c51
def zq73.s2 (c51:List (List Int)) (y119:List (List Int)) (y120:Nat):Option ((List (List Int)×Nat)⊕List (List Int)) :=
 cond (decide ((↑y120:Int)<(↑(List.length c51):Int))) (idxn c51 y120 fun e139=>(cond (decide (((↑y120:Int)+1)=(↑(List.length c51):Int))) (some true) (idxn c51 (y120+1) fun e147=>(word_HasPrefix e147 e139).bind fun c148=>some (!c148)):Option (Bool)).bind (fun (y145:Bool)=>cond (y145) (chk (capOk (List.length y119+1) 24) (some (.inl ((y119++[e139]),(y120+1))))) (some (.inl (y119,(y120+1)))))) (some (.inr y119))
def zq73 (l_:List (List Int)):Option (List (List Int)) :=
 (zq71 l_ (fun u0 u1=>word_Lex u0 u1)).bind fun c51=>(iter (fun (s:List (List Int)×Nat)=>zq73.s2 c51 s.1 s.2) fuel ([],0):Option (List (List Int))).bind (fun (y104:List (List Int))=>(zq81 y104).bind fun c157=>some c157)
def zq102 (t_:T_api_Table) (o_:T_api_Obs):Option (Int) :=
 (zq98 t_).bind fun c51=>cond (decide (c51≠0)) (some c51) (cond (decide (t_.Inputs≠o_.Inputs)) (some 15) (some 0))
def zq94 (a_:T_api_Trace) (b_:T_api_Trace):Option (Int) :=
 (word_Lex a_.In b_.In).bind fun c51=>some c51
def zq105 (o_:T_api_Obs):Option (List T_api_Trace) :=
 (lib_Clone_traces o_.Traces).bind fun c51=>(lib_SortFunc_finder c51 (fun u0 u1=>zq94 u0 u1)).bind fun c52=>some c52
def zq1.s2 (x_:List T_api_Trace) (target_:List Int) (cmp_:T_api_Trace→(List Int)→Option Int) (i90:Int) (j91:Int):Option ((Int×Int)⊕Int) :=
 cond (decide (i90<j91)) (chk (inR (i90+j91)) (chk ((0:Int)≤(i90+j91)∧(i90+j91)≤18446744073709551615) (chk ((0:Int)≤(i90+j91)∧(i90+j91)≤18446744073709551615) (chk (inR ((i90+j91) / 2^1)) (idx x_ ((i90+j91) / 2^1) fun e107=>(cmp_ e107 target_).bind fun c108=>cond (decide (c108<0)) (chk (inR (((i90+j91) / 2^1)+1)) (some (.inl ((((i90+j91) / 2^1)+1),j91)))) (some (.inl (i90,((i90+j91) / 2^1))))))))) (some (.inr i90))
def zq1 (x_:List T_api_Trace) (target_:List Int) (cmp_:T_api_Trace→(List Int)→Option Int):Option (Int×Bool) :=
 (iter (fun (s:Int×Int)=>zq1.s2 x_ target_ cmp_ s.1 s.2) fuel (0,(↑(List.length x_):Int)):Option (Int)).bind (fun (i82:Int)=>(cond (decide (i82<(↑(List.length x_):Int))) (idx x_ i82 fun e122=>(cmp_ e122 target_).bind fun c123=>some (decide (c123=0))) (some false):Option (Bool)).bind (fun (y120:Bool)=>some (i82,y120)))
def zq37 (t_:T_api_Trace) (w_:List Int):Option (Int) :=
 (word_Lex t_.In w_).bind fun c51=>some c51
def zq41 (f_:List T_api_Trace) (w_:List Int):Option (List Int×Bool) :=
 cond (decide ((↑(List.length w_):Int)=0)) (some ([],true)) ((zq1 f_ w_ (fun u0 u1=>zq37 u0 u1)).bind fun c52=>(cond (decide (c52.1=(↑(List.length f_):Int))) (some true) (idx f_ c52.1 fun e62=>(word_HasPrefix e62.In w_).bind fun c63=>cond ((!c63)) (some true) (idx f_ c52.1 fun e65=>some (decide ((↑(List.length e65.Out):Int)<(↑(List.length w_):Int))))):Option (Bool)).bind (fun (y60:Bool)=>cond (y60) (some ([],false)) (idx f_ c52.1 fun e69=>chk ((0:Int)≤(↑(List.length w_):Int)∧(↑(List.length w_):Int)≤(↑(List.length e69.Out):Int)) (some ((List.take (List.length w_) e69.Out),true)))))
def zq48 (f_:List T_api_Trace) (w_:List Int):Option (Bool) :=
 (zq41 f_ w_).bind fun c51=>some c51.2
def zq78.s2 (w_:List Int) (p1_:T_api_Table) (p2_:List T_api_Trace) (y83:List (List Int)) (y84:Nat):Option ((List (List Int)×Nat)⊕List (List Int)) :=
 cond (decide ((↑y84:Int)<(↑(List.length p1_.Suffixes):Int))) (idxn p1_.Suffixes y84 fun e93=>(word_Join [w_,e93]).bind fun c94=>(zq48 p2_ c94).bind fun c95=>cond ((!c95)) (chk (capOk (List.length y83+1) 24) (some (.inl ((y83++[c94]),(y84+1))))) (some (.inl (y83,(y84+1))))) (some (.inr y83))
def zq78 (w_:List Int) (p1_:T_api_Table) (p2_:List T_api_Trace) (p3_:List (List Int)):Option (List (List Int)) :=
 (iter (fun (s:List (List Int)×Nat)=>zq78.s2 w_ p1_ p2_ s.1 s.2) fuel (p3_,0):Option (List (List Int))).bind (fun (y76:List (List Int))=>some y76)
def zq95.s13 (t_:T_api_Table) (c53:List T_api_Trace) (e270:List Int) (y294:List (List Int)) (y295:Nat):Option ((List (List Int)×Nat)⊕List (List Int)) :=
 cond (decide ((↑y295:Int)<t_.Inputs)) ((zq76 e270 (↑y295:Int)).bind fun c302=>(zq78 c302 t_ c53 y294).bind fun c303=>chk (inR ((↑y295:Int)+1)) (some (.inl (c303,(y295+1))))) (some (.inr y294))
def zq95.s14 (t_:T_api_Table) (c53:List T_api_Trace) (y225:List (List Int)) (y226:Nat):Option ((List (List Int)×Nat)⊕List (List Int)) :=
 cond (decide ((↑y226:Int)<(↑(List.length t_.Prefixes):Int))) (idxn t_.Prefixes y226 fun e270=>(zq78 e270 t_ c53 y225).bind fun c271=>(iter (fun (s:List (List Int)×Nat)=>zq95.s13 t_ c53 e270 s.1 s.2) fuel (c271,0):Option (List (List Int))).bind (fun (y290:List (List Int))=>some (.inl (y290,(y226+1))))) (some (.inr y225))
def zq95 (t_:T_api_Table) (o_:T_api_Obs):Option (List (List Int)×Int) :=
 (zq102 t_ o_).bind fun c51=>cond (decide (c51≠0)) (some ([],c51)) ((zq105 o_).bind fun c53=>(iter (fun (s:List (List Int)×Nat)=>zq95.s14 t_ c53 s.1 s.2) fuel ([],0):Option (List (List Int))).bind (fun (y183:List (List Int))=>(zq73 y183).bind fun c313=>some (c313,0)))
def zq64.s2 (f_:List T_api_Trace) (t_:T_api_Table) (w_:List Int) (y93:List (List Int)) (y94:Nat):Option ((List (List Int)×Nat)⊕(List (List Int)⊕(List (List Int)×Bool))) :=
 cond (decide ((↑y94:Int)<(↑(List.length t_.Suffixes):Int))) (idxn t_.Suffixes y94 fun e105=>(word_Join [w_,e105]).bind fun c106=>(zq41 f_ c106).bind fun c107=>cond ((!c107.2)) (some (.inr (.inr ([],false)))) (chk ((0:Int)≤(↑(List.length w_):Int)∧(↑(List.length w_):Int)≤(↑(List.length c107.1):Int)) ((lib_Clone_int (List.drop (List.length w_) c107.1)).bind fun c110=>chk (capOk (List.length y93+1) 24) (some (.inl ((y93++[c110]),(y94+1))))))) (some (.inr (.inl y93)))
def zq64 (f_:List T_api_Trace) (t_:T_api_Table) (w_:List Int):Option (List (List Int)×Bool) :=
 chk ((0:Int)≤0∧0≤(↑(List.length t_.Suffixes):Int)∧capOk (Int.toNat (↑(List.length t_.Suffixes):Int)) 24) ((iter (fun (s:List (List Int)×Nat)=>zq64.s2 f_ t_ w_ s.1 s.2) fuel ([],0):Option (List (List Int)⊕(List (List Int)×Bool))).bind (Sum.elim (fun (y84:List (List Int))=>some (y84,true)) some))
def zq77.s2 (row_:List (List Int)) (k78:ByteArray) (y79:Nat):Option ((ByteArray×Nat)⊕ByteArray) :=
 cond (decide ((↑y79:Int)<(↑(List.length row_):Int))) (idxn row_ y79 fun e87=>(table_key e87).bind fun c88=>chk (ByteArray.size c88+ByteArray.size (⟨#[47]⟩:ByteArray)≤9223372036854775807) (chk (ByteArray.size k78+ByteArray.size (c88++(⟨#[47]⟩:ByteArray))≤9223372036854775807) (some (.inl ((k78++(c88++(⟨#[47]⟩:ByteArray))),(y79+1)))))) (some (.inr k78))
def zq77.k3 (v_:T_table_view) (y99:List (List (List Int))) (y100:List (ByteArray×Int)) (n101:Int):Option (Int×T_table_view) :=
 some (n101,(⟨y99,v_.prefixes,v_.next,y100⟩:T_table_view))
def zq77 (v_:T_table_view) (row_:List (List Int)):Option (Int×T_table_view) :=
 (iter (fun (s:ByteArray×Nat)=>zq77.s2 row_ s.1 s.2) fuel ((⟨#[]⟩:ByteArray),0):Option (ByteArray)).bind (fun (k72:ByteArray)=>(cond ((!((mget k72 v_.number).isSome))) (chk (capOk (List.length v_.rows+1) 24) (some ((v_.rows++[row_]),(mset k72 (↑(List.length v_.rows):Int) v_.number),(↑(List.length v_.rows):Int)))) (some (v_.rows,v_.number,((mget k72 v_.number).getD 0))):Option (List (List (List Int))×(List (ByteArray×Int))×Int)).bind (fun (s:List (List (List Int))×(List (ByteArray×Int))×Int)=>zq77.k3 v_ s.1 s.2.1 s.2.2))
def zq106.s2 (t_:T_api_Table) (c53:List T_api_Trace) (y89:List (List (List Int))) (y90:List Int) (y91:List (ByteArray×Int)) (y92:Nat):Option ((List (List (List Int))×List Int×(List (ByteArray×Int))×Nat)⊕((List (List (List Int))×List Int×(List (ByteArray×Int)))⊕(T_table_view×Int))) :=
 cond (decide ((↑y92:Int)<(↑(List.length t_.Prefixes):Int))) (idxn t_.Prefixes y92 fun e101=>(zq64 c53 t_ e101).bind fun c102=>cond ((!c102.2)) (some (.inr (.inr ((⟨[],[],[],[]⟩:T_table_view),12)))) ((zq77 (⟨y89,y90,[],y91⟩:T_table_view) c102.1).bind fun c104=>chk (capOk (List.length y90+1) 8) (some (.inl (c104.2.rows,(y90++[c104.1]),c104.2.number,(y92+1)))))) (some (.inr (.inl (y89,y90,y91))))
def zq106.s20 (t_:T_api_Table) (c53:List T_api_Trace) (y82:List Int) (y420:List (List Int)) (e500:List Int) (y541:List (List (List Int))) (y542:List (ByteArray×Int)) (y543:List Int) (y544:Nat):Option ((List (List (List Int))×(List (ByteArray×Int))×List Int×Nat)⊕((List (List (List Int))×(List (ByteArray×Int))×List Int)⊕((List (List (List Int))×List (List Int)×(List (ByteArray×Int))×Nat)⊕((List (List (List Int))×List (List Int)×(List (ByteArray×Int)))⊕(T_table_view×Int))))) :=
 cond (decide ((↑y544:Int)<t_.Inputs)) ((zq76 e500 (↑y544:Int)).bind fun c554=>(zq64 c53 t_ c554).bind fun c555=>cond ((!c555.2)) (some (.inr (.inr (.inr (.inr ((⟨[],[],[],[]⟩:T_table_view),12)))))) ((zq77 (⟨y541,y82,y420,y542⟩:T_table_view) c555.1).bind fun c557=>chk (capOk (List.length y543+1) 8) (chk (inR ((↑y544:Int)+1)) (some (.inl (c557.2.rows,c557.2.number,(y543++[c557.1]),(y544+1))))))) (some (.inr (.inl (y541,y542,y543))))
def zq106.k21 (y420:List (List Int)) (y422:Nat) (y533:List (List (List Int))) (y534:List (ByteArray×Int)) (y535:List Int):Option ((List (List (List Int))×List (List Int)×(List (ByteArray×Int))×Nat)⊕((List (List (List Int))×List (List Int)×(List (ByteArray×Int)))⊕(T_table_view×Int))) :=
 chk (capOk (List.length y420+1) 24) (some (.inl (y533,(y420++[y535]),y534,(y422+1))))
def zq106.s22 (t_:T_api_Table) (c53:List T_api_Trace) (y82:List Int) (y419:List (List (List Int))) (y420:List (List Int)) (y421:List (ByteArray×Int)) (y422:Nat):Option ((List (List (List Int))×List (List Int)×(List (ByteArray×Int))×Nat)⊕((List (List (List Int))×List (List Int)×(List (ByteArray×Int)))⊕(T_table_view×Int))) :=
 cond (decide ((↑y422:Int)<(↑(List.length t_.Prefixes):Int))) (idxn t_.Prefixes y422 fun e500=>(iter (fun (s:List (List (List Int))×(List (ByteArray×Int))×List Int×Nat)=>zq106.s20 t_ c53 y82 y420 e500 s.1 s.2.1 s.2.2.1 s.2.2.2) fuel (y419,y421,[],0):Option ((List (List (List Int))×(List (ByteArray×Int))×List Int)⊕((List (List (List Int))×List (List Int)×(List (ByteArray×Int))×Nat)⊕((List (List (List Int))×List (List Int)×(List (ByteArray×Int)))⊕(T_table_view×Int))))).bind (Sum.elim (fun (s:List (List (List Int))×(List (ByteArray×Int))×List Int)=>zq106.k21 y420 y422 s.1 s.2.1 s.2.2) some)) (some (.inr (.inl (y419,y420,y421))))
def zq106.k23 (y82:List Int) (y345:List (List (List Int))) (y346:List (List Int)) (y347:List (ByteArray×Int)):Option (T_table_view×Int) :=
 some ((⟨y345,y82,y346,y347⟩:T_table_view),0)
def zq106.k24 (t_:T_api_Table) (c53:List T_api_Trace) (y81:List (List (List Int))) (y82:List Int) (y83:List (ByteArray×Int)):Option (T_table_view×Int) :=
 (iter (fun (s:List (List (List Int))×List (List Int)×(List (ByteArray×Int))×Nat)=>zq106.s22 t_ c53 y82 s.1 s.2.1 s.2.2.1 s.2.2.2) fuel (y81,[],y83,0):Option ((List (List (List Int))×List (List Int)×(List (ByteArray×Int)))⊕(T_table_view×Int))).bind (Sum.elim (fun (s:List (List (List Int))×List (List Int)×(List (ByteArray×Int)))=>zq106.k23 y82 s.1 s.2.1 s.2.2) some)
def zq106 (t_:T_api_Table) (o_:T_api_Obs):Option (T_table_view×Int) :=
 (zq102 t_ o_).bind fun c51=>cond (decide (c51≠0)) (some ((⟨[],[],[],[]⟩:T_table_view),c51)) ((zq105 o_).bind fun c53=>(iter (fun (s:List (List (List Int))×List Int×(List (ByteArray×Int))×Nat)=>zq106.s2 t_ c53 s.1 s.2.1 s.2.2.1 s.2.2.2) fuel ([],[],([]:List (ByteArray×Int)),0):Option ((List (List (List Int))×List Int×(List (ByteArray×Int)))⊕(T_table_view×Int))).bind (Sum.elim (fun (s:List (List (List Int))×List Int×(List (ByteArray×Int)))=>zq106.k24 t_ c53 s.1 s.2.1 s.2.2) some))
def zq33.s2 (s_:List Int) (v_:Int) (y67:Nat):Option (Nat⊕(Unit⊕Int)) :=
 cond (decide ((↑y67:Int)<(↑(List.length s_):Int))) (idxn s_ y67 fun e73=>cond (decide (v_=e73)) (some (.inr (.inr (↑y67:Int)))) (some (.inl (y67+1)))) (some (.inr (.inl ())))
def zq33 (s_:List Int) (v_:Int):Option (Int) :=
 (iter (fun (s:Nat)=>zq33.s2 s_ v_ s) fuel 0:Option (Unit⊕Int)).bind (Sum.elim (fun (_:Unit)=>some (-1:Int)) some)
def zq22 (s_:List Int) (v_:Int):Option (Bool) :=
 (zq33 s_ v_).bind fun c51=>some (decide (0≤c51))
def zq44.s13 (v_:T_table_view) (y199:Nat) (e238:List Int) (y260:Nat):Option (Nat⊕(Unit⊕(Nat⊕(Unit⊕(Int×Int×Bool))))) :=
 cond (decide ((↑y260:Int)<(↑(List.length e238):Int))) (idxn e238 y260 fun e267=>(zq22 v_.prefixes e267).bind fun c268=>cond ((!c268)) (some (.inr (.inr (.inr (.inr ((↑y199:Int),(↑y260:Int),true)))))) (some (.inl (y260+1)))) (some (.inr (.inl ())))
def zq44.s14 (v_:T_table_view) (y199:Nat):Option (Nat⊕(Unit⊕(Int×Int×Bool))) :=
 cond (decide ((↑y199:Int)<(↑(List.length v_.next):Int))) (idxn v_.next y199 fun e238=>(iter (fun (s:Nat)=>zq44.s13 v_ y199 e238 s) fuel 0:Option (Unit⊕(Nat⊕(Unit⊕(Int×Int×Bool))))).bind (Sum.elim (fun (_:Unit)=>some (.inl (y199+1))) some)) (some (.inr (.inl ())))
def zq44 (v_:T_table_view):Option (Int×Int×Bool) :=
 (iter (fun (s:Nat)=>zq44.s14 v_ s) fuel 0:Option (Unit⊕(Int×Int×Bool))).bind (Sum.elim (fun (_:Unit)=>some (0,0,false)) some)
def zq79 (t_:T_api_Table) (o_:T_api_Obs):Option (List Int×Bool×Int) :=
 (zq106 t_ o_).bind fun c51=>cond (decide (c51.2≠0)) (some ([],false,c51.2)) ((zq44 c51.1).bind fun c53=>cond ((!c53.2.2)) (some ([],false,0)) (idx t_.Prefixes c53.1 fun e55=>(zq76 e55 c53.2.1).bind fun c56=>some (c56,true,0)))
def zq26.s1019 (y22366:Nat) (e22421:List (List Int)) (e22424:List (List Int)) (y22451:Nat):Option (Nat⊕(Unit⊕(Nat⊕(Unit⊕(Unit⊕(Nat⊕(Unit⊕(Nat⊕(Unit⊕(Int×Int×Bool)))))))))) :=
 cond (decide ((↑y22451:Int)<(↑(List.length e22421):Int))) (idxn e22421 y22451 fun e22459=>idxn e22424 y22451 fun e22460=>(zq32 e22459 e22460).bind fun c22461=>cond ((!c22461)) (some (.inr (.inr (.inr (.inr (.inr (.inr (.inr (.inr (.inr ((↑y22366:Int),(↑y22451:Int),true))))))))))) (some (.inl (y22451+1)))) (some (.inr (.inl ())))
def zq26.s1020 (v_:T_table_view) (y14999:Nat) (k21227:Nat) (e22163:List Int) (y22366:Nat):Option (Nat⊕(Unit⊕(Unit⊕(Nat⊕(Unit⊕(Nat⊕(Unit⊕(Int×Int×Bool)))))))) :=
 cond (decide ((↑y22366:Int)<(↑(List.length e22163):Int))) (idxn v_.next y14999 fun e22419=>idxn e22419 y22366 fun e22420=>idx v_.rows e22420 fun e22421=>idxn v_.next k21227 fun e22422=>idxn e22422 y22366 fun e22423=>idx v_.rows e22423 fun e22424=>(iter (fun (s:Nat)=>zq26.s1019 y22366 e22421 e22424 s) fuel 0:Option (Unit⊕(Nat⊕(Unit⊕(Unit⊕(Nat⊕(Unit⊕(Nat⊕(Unit⊕(Int×Int×Bool)))))))))).bind (Sum.elim (fun (_:Unit)=>chk (inR ((↑y22366:Int)+1)) (some (.inl (y22366+1)))) some)) (some (.inr (.inl ())))
def zq26.s1021 (v_:T_table_view) (y14999:Nat) (e18738:Int) (k21227:Nat):Option (Nat⊕(Unit⊕(Nat⊕(Unit⊕(Int×Int×Bool))))) :=
 cond (decide ((↑k21227:Int)<(↑(List.length v_.prefixes):Int))) ((idxn v_.prefixes k21227 fun e22161=>cond (decide (e22161≠e18738)) (some (.inl ())) (idxn v_.next y14999 fun e22163=>(iter (fun (s:Nat)=>zq26.s1020 v_ y14999 k21227 e22163 s) fuel 0:Option (Unit⊕(Unit⊕(Nat⊕(Unit⊕(Nat⊕(Unit⊕(Int×Int×Bool)))))))).bind (Sum.elim (fun (_:Unit)=>some (.inl ())) some)):Option (Unit⊕(Nat⊕(Unit⊕(Nat⊕(Unit⊕(Int×Int×Bool))))))).bind (Sum.elim (fun (_:Unit)=>some (.inl (k21227+1))) some)) (some (.inr (.inl ())))
def zq26.s1022 (v_:T_table_view) (y14999:Nat):Option (Nat⊕(Unit⊕(Int×Int×Bool))) :=
 cond (decide ((↑y14999:Int)<(↑(List.length v_.prefixes):Int))) (idxn v_.prefixes y14999 fun e18738=>(iter (fun (s:Nat)=>zq26.s1021 v_ y14999 e18738 s) fuel (y14999+1):Option (Unit⊕(Nat⊕(Unit⊕(Int×Int×Bool))))).bind (Sum.elim (fun (_:Unit)=>some (.inl (y14999+1))) some)) (some (.inr (.inl ())))
def zq26 (v_:T_table_view):Option (Int×Int×Bool) :=
 (iter (fun (s:Nat)=>zq26.s1022 v_ s) fuel 0:Option (Unit⊕(Int×Int×Bool))).bind (Sum.elim (fun (_:Unit)=>some (0,0,false)) some)
def zq51 (t_:T_api_Table) (o_:T_api_Obs):Option (List Int×Bool×Int) :=
 (zq106 t_ o_).bind fun c51=>cond (decide (c51.2≠0)) (some ([],false,c51.2)) ((zq26 c51.1).bind fun c53=>cond ((!c53.2.2)) (some ([],false,0)) (idx t_.Suffixes c53.2.1 fun e55=>(word_Join [[c53.1],e55]).bind fun c56=>some (c56,true,0)))
def zq103.s2 (l_:List (List Int)) (y72:List (List Int)) (y73:Nat):Option ((List (List Int)×Nat)⊕List (List Int)) :=
 cond (decide ((↑y73:Int)<(↑(List.length l_):Int))) (idxn l_ y73 fun e80=>(lib_Clone_int e80).bind fun c81=>chk (capOk (List.length y72+1) 24) (some (.inl ((y72++[c81]),(y73+1))))) (some (.inr y72))
def zq103 (l_:List (List Int)):Option (List (List Int)) :=
 (iter (fun (s:List (List Int)×Nat)=>zq103.s2 l_ s.1 s.2) fuel ([],0):Option (List (List Int))).bind (fun (y68:List (List Int))=>some y68)
def zq109 (l_:T_api_Lazy):Option (T_api_Lazy) :=
 (zq103 l_.Short).bind fun c51=>(zq103 l_.Suffixes).bind fun c52=>some (⟨l_.Inputs,c51,c52⟩:T_api_Lazy)
def zq113.k1 (l_:T_api_Lazy) (y74:List (List Int)) (y75:List (List Int)):Option (T_api_Lazy×List (List Int)×Bool×Int) :=
 (zq107 (⟨l_.Inputs,y74,y75⟩:T_api_Lazy)).bind fun c86=>cond (decide (c86≠0)) (some (l_,[],false,c86)) ((zq109 (⟨l_.Inputs,y74,y75⟩:T_api_Lazy)).bind fun c88=>some (c88,[],false,0))
def zq113 (l_:T_api_Lazy) (o_:T_api_Obs):Option (T_api_Lazy×List (List Int)×Bool×Int) :=
 (zq104 l_ o_).bind fun c51=>cond (decide (c51≠0)) (some (l_,[],false,c51)) ((zq108 l_).bind fun c53=>(zq95 c53 o_).bind fun c54=>(cond (decide (c54.2≠0)) (some true) (some (decide (0<(↑(List.length c54.1):Int)))):Option (Bool)).bind (fun (y58:Bool)=>cond (y58) (some (l_,c54.1,false,c54.2)) (((zq79 c53 o_).bind fun c76=>cond (decide (c76.2.2≠0)) (some (.inr (l_,[],false,c76.2.2))) (cond (c76.2.1) ((zq111 l_.Short c76.1).bind fun c79=>some (.inl (c79,l_.Suffixes))) ((zq51 c53 o_).bind fun c80=>cond (decide (c80.2.2≠0)) (some (.inr (l_,[],false,c80.2.2))) (cond ((!c80.2.1)) (some (.inr (l_,[],true,0))) ((zq111 l_.Suffixes c80.1).bind fun c83=>some (.inl (l_.Short,c83)))))):Option ((List (List Int)×List (List Int))⊕(T_api_Lazy×List (List Int)×Bool×Int))).bind (Sum.elim (fun (s:List (List Int)×List (List Int))=>zq113.k1 l_ s.1 s.2) some))))
def zq68 (t_:T_api_Trace) (p1_:List Int):Option (Bool) :=
 (word_HasPrefix t_.In p1_).bind fun c51=>some c51
def zq5.s2 (s_:List T_api_Trace) (f_:T_api_Trace→Option Bool) (y71:Nat):Option (Nat⊕(Unit⊕Int)) :=
 cond (decide ((↑y71:Int)<(↑(List.length s_):Int))) (idxn s_ y71 fun e78=>(f_ e78).bind fun c79=>cond (c79) (some (.inr (.inr (↑y71:Int)))) (some (.inl (y71+1)))) (some (.inr (.inl ())))
def zq5 (s_:List T_api_Trace) (f_:T_api_Trace→Option Bool):Option (Int) :=
 (iter (fun (s:Nat)=>zq5.s2 s_ f_ s) fuel 0:Option (Unit⊕Int)).bind (Sum.elim (fun (_:Unit)=>some (-1:Int)) some)
def zq82 (o_:T_api_Obs) (w_:List Int):Option (List Int×Bool) :=
 cond (decide ((↑(List.length w_):Int)=0)) (some ([],true)) ((zq5 o_.Traces (fun u0=>zq68 u0 w_)).bind fun c52=>cond (decide (c52<0)) (some ([],false)) (idx o_.Traces c52 fun e54=>chk ((0:Int)≤(min (↑(List.length w_):Int) (↑(List.length e54.Out):Int))∧(min (↑(List.length w_):Int) (↑(List.length e54.Out):Int))≤(↑(List.length e54.Out):Int)) ((lib_Clone_int (List.take (Int.toNat (min (↑(List.length w_):Int) (↑(List.length e54.Out):Int))) e54.Out)).bind fun c56=>some (c56,true))))
def zq61 (r_:T_lazy_reader) (w_:List Int) (v_:List Int):Option (List Int×T_lazy_reader) :=
 (word_Join [w_,v_]).bind fun c51=>cond (decide (1024<(↑(List.length c51):Int))) (some ([],(⟨r_.l,r_.o,r_.missing,true⟩:T_lazy_reader))) ((zq82 r_.o c51).bind fun c53=>cond ((!c53.2)) (chk (capOk (List.length r_.missing+1) 24) (some ([],(⟨r_.l,r_.o,(r_.missing++[c51]),r_.long⟩:T_lazy_reader)))) (chk ((0:Int)≤(↑(List.length w_):Int)∧(↑(List.length w_):Int)≤(↑(List.length c53.1):Int)) (some ((List.drop (List.length w_) c53.1),r_))))
def zq74.s2 (r_:T_lazy_reader) (w_:List Int) (y83:Int) (y84:List T_api_Trace) (y85:List (List Int)) (y86:Bool) (y87:List (List Int)) (y88:Nat):Option ((Int×List T_api_Trace×List (List Int)×Bool×List (List Int)×Nat)⊕(Int×List T_api_Trace×List (List Int)×Bool×List (List Int))) :=
 cond (decide ((↑y88:Int)<(↑(List.length r_.l.Suffixes):Int))) (idxn r_.l.Suffixes y88 fun e95=>(zq61 (⟨r_.l,(⟨y83,y84⟩:T_api_Obs),y85,y86⟩:T_lazy_reader) w_ e95).bind fun c96=>chk (capOk (List.length y87+1) 24) (some (.inl (c96.2.o.Inputs,c96.2.o.Traces,c96.2.missing,c96.2.long,(y87++[c96.1]),(y88+1))))) (some (.inr (y83,y84,y85,y86,y87)))
def zq74.k3 (r_:T_lazy_reader) (y75:Int) (y76:List T_api_Trace) (y77:List (List Int)) (y78:Bool) (y79:List (List Int)):Option (List (List Int)×T_lazy_reader) :=
 some (y79,(⟨r_.l,(⟨y75,y76⟩:T_api_Obs),y77,y78⟩:T_lazy_reader))
def zq74 (r_:T_lazy_reader) (w_:List Int):Option (List (List Int)×T_lazy_reader) :=
 (iter (fun (s:Int×List T_api_Trace×List (List Int)×Bool×List (List Int)×Nat)=>zq74.s2 r_ w_ s.1 s.2.1 s.2.2.1 s.2.2.2.1 s.2.2.2.2.1 s.2.2.2.2.2) fuel (r_.o.Inputs,r_.o.Traces,r_.missing,r_.long,[],0):Option (Int×List T_api_Trace×List (List Int)×Bool×List (List Int))).bind (fun (s:Int×List T_api_Trace×List (List Int)×Bool×List (List Int))=>zq74.k3 r_ s.1 s.2.1 s.2.2.1 s.2.2.2.1 s.2.2.2.2)
def table_Row (t_:T_api_Table) (o_:T_api_Obs) (w_:List Int):Option (List (List Int)×Bool) :=
 (zq102 t_ o_).bind fun c51=>cond (decide (c51≠0)) (some ([],false)) ((zq105 o_).bind fun c53=>(zq64 c53 t_ w_).bind fun c54=>some (c54.1,c54.2))
def zq7.s2 (s1_:List (List Int)) (s2_:List (List Int)) (eq_:(List Int)→(List Int)→Option Bool) (y77:Nat):Option (Nat⊕(Unit⊕Bool)) :=
 cond (decide ((↑y77:Int)<(↑(List.length s1_):Int))) (idxn s1_ y77 fun e85=>idxn s2_ y77 fun e86=>(eq_ e85 e86).bind fun c87=>cond ((!c87)) (some (.inr (.inr false))) (some (.inl (y77+1)))) (some (.inr (.inl ())))
def zq7 (s1_:List (List Int)) (s2_:List (List Int)) (eq_:(List Int)→(List Int)→Option Bool):Option (Bool) :=
 cond (decide ((↑(List.length s1_):Int)≠(↑(List.length s2_):Int))) (some false) ((iter (fun (s:Nat)=>zq7.s2 s1_ s2_ eq_ s) fuel 0:Option (Unit⊕Bool)).bind (Sum.elim (fun (_:Unit)=>some true) some))
def zq99 (x_:List Int) (y_:List Int):Option (Bool) :=
 (zq32 x_ y_).bind fun c51=>some c51
def lazy_same (a_:List (List Int)) (b_:List (List Int)):Option (Bool) :=
 (zq7 a_ b_ (fun u0 u1=>zq99 u0 u1)).bind fun c51=>some c51
def zq55.s2 (r_:T_lazy_reader) (row_:List (List Int)) (y126:Nat):Option (Nat⊕(Unit⊕(List Int×Bool×T_lazy_reader))) :=
 cond (decide ((↑y126:Int)<(↑(List.length r_.l.Short):Int))) (idxn r_.l.Short y126 fun e146=>(zq108 r_.l).bind fun c147=>(table_Row c147 r_.o e146).bind fun c148=>(cond (c148.2) ((lazy_same c148.1 row_).bind fun c155=>some c155) (some false):Option (Bool)).bind (fun (y153:Bool)=>cond (y153) (some (.inr (.inr (e146,true,r_)))) (some (.inl (y126+1))))) (some (.inr (.inl ())))
def zq55 (r_:T_lazy_reader) (row_:List (List Int)):Option (List Int×Bool×T_lazy_reader) :=
 (iter (fun (s:Nat)=>zq55.s2 r_ row_ s) fuel 0:Option (Unit⊕(List Int×Bool×T_lazy_reader))).bind (Sum.elim (fun (_:Unit)=>some ([],false,r_)) some)
def zq53 (r_:T_lazy_reader):Option (Bool×T_lazy_reader) :=
 (cond (r_.long) (some true) (some (decide (0<(↑(List.length r_.missing):Int)))):Option (Bool)).bind (fun (y54:Bool)=>some (y54,r_))
def zq49.s2 (y227:Int) (y228:List (List Int)) (y229:List (List Int)) (y230:Int) (y231:List T_api_Trace) (y232:List (List Int)) (y233:Bool) (u234:List Int) (v235:List Int) (w236:List Int) (y237:List (List Int)):Option ((Int×List (List Int)×List (List Int)×Int×List T_api_Trace×List (List Int)×Bool×List Int×List Int×List Int×List (List Int))⊕((Int×List (List Int)×List (List Int)×Int×List T_api_Trace×List (List Int)×Bool×List (List Int))⊕(List (List Int)×Int×T_lazy_reader))) :=
 cond (decide (1<(↑(List.length v235):Int))) (chk ((0:Int)≤1∧1≤(↑(List.length v235):Int)) ((word_Join [u234,(List.take 1 v235)]).bind fun c275=>chk ((0:Int)≤1∧1≤(↑(List.length v235):Int)) ((word_Join [w236,(List.take 1 v235)]).bind fun c277=>chk ((0:Int)≤1∧1≤(↑(List.length v235):Int)) ((zq74 (⟨(⟨y227,y228,y229⟩:T_api_Lazy),(⟨y230,y231⟩:T_api_Obs),y232,y233⟩:T_lazy_reader) c275).bind fun c279=>(zq74 (⟨(⟨y227,y228,c279.2.l.Suffixes⟩:T_api_Lazy),c279.2.o,c279.2.missing,c279.2.long⟩:T_lazy_reader) c277).bind fun c280=>(zq53 (⟨(⟨y227,y228,c280.2.l.Suffixes⟩:T_api_Lazy),c280.2.o,c280.2.missing,c280.2.long⟩:T_lazy_reader)).bind fun c281=>cond (c281.1) (some (.inr (.inr ([],0,(⟨(⟨y227,y228,c280.2.l.Suffixes⟩:T_api_Lazy),c280.2.o,c281.2.missing,c281.2.long⟩:T_lazy_reader))))) ((lazy_same c279.1 c280.1).bind fun c283=>cond ((!c283)) (some (.inr (.inr (y237,0,(⟨(⟨y227,y228,c280.2.l.Suffixes⟩:T_api_Lazy),c280.2.o,c281.2.missing,c281.2.long⟩:T_lazy_reader))))) ((zq55 (⟨(⟨y227,y228,c280.2.l.Suffixes⟩:T_api_Lazy),c280.2.o,c281.2.missing,c281.2.long⟩:T_lazy_reader) c279.1).bind fun c285=>cond ((!c285.2.1)) (some (.inr (.inr ([],10,(⟨c285.2.2.l,c285.2.2.o,c281.2.missing,c281.2.long⟩:T_lazy_reader))))) ((zq61 (⟨c285.2.2.l,c285.2.2.o,c281.2.missing,c281.2.long⟩:T_lazy_reader) c275 (List.drop 1 v235)).bind fun c287=>(zq61 (⟨c285.2.2.l,c287.2.o,c287.2.missing,c287.2.long⟩:T_lazy_reader) c285.1 (List.drop 1 v235)).bind fun c288=>(zq53 (⟨c285.2.2.l,c288.2.o,c288.2.missing,c288.2.long⟩:T_lazy_reader)).bind fun c289=>cond (c289.1) (some (.inr (.inr ([],0,(⟨c285.2.2.l,c288.2.o,c289.2.missing,c289.2.long⟩:T_lazy_reader))))) (((zq32 c287.1 c288.1).bind fun c296=>cond ((!c296)) (some c275) (some c277):Option (List Int)).bind (fun (u295:List Int)=>chk (capOk (List.length y237+1) 24) (some (.inl (c285.2.2.l.Inputs,c285.2.2.l.Short,c285.2.2.l.Suffixes,c288.2.o.Inputs,c288.2.o.Traces,c289.2.missing,c289.2.long,u295,(List.drop 1 v235),c285.1,(y237++[u295]))))))))))))) (some (.inr (.inl (y227,y228,y229,y230,y231,y232,y233,y237))))
def zq49.k3 (y185:Int) (y186:List (List Int)) (y187:List (List Int)) (y188:Int) (y189:List T_api_Trace) (y190:List (List Int)) (y191:Bool) (y192:List (List Int)):Option (List (List Int)×Int×T_lazy_reader) :=
 some (y192,0,(⟨(⟨y185,y186,y187⟩:T_api_Lazy),(⟨y188,y189⟩:T_api_Obs),y190,y191⟩:T_lazy_reader))
def zq49 (r_:T_lazy_reader) (u_:List Int) (v_:List Int):Option (List (List Int)×Int×T_lazy_reader) :=
 (zq74 r_ u_).bind fun c51=>(zq53 (⟨(⟨r_.l.Inputs,r_.l.Short,c51.2.l.Suffixes⟩:T_api_Lazy),c51.2.o,c51.2.missing,c51.2.long⟩:T_lazy_reader)).bind fun c52=>cond (c52.1) (some ([],0,(⟨(⟨r_.l.Inputs,r_.l.Short,c51.2.l.Suffixes⟩:T_api_Lazy),c51.2.o,c52.2.missing,c52.2.long⟩:T_lazy_reader))) ((zq55 (⟨(⟨r_.l.Inputs,r_.l.Short,c51.2.l.Suffixes⟩:T_api_Lazy),c51.2.o,c52.2.missing,c52.2.long⟩:T_lazy_reader) c51.1).bind fun c54=>cond ((!c54.2.1)) (some ([],10,(⟨c54.2.2.l,c54.2.2.o,c52.2.missing,c52.2.long⟩:T_lazy_reader))) ((zq61 (⟨c54.2.2.l,c54.2.2.o,c52.2.missing,c52.2.long⟩:T_lazy_reader) u_ v_).bind fun c56=>(zq61 (⟨c54.2.2.l,c56.2.o,c56.2.missing,c56.2.long⟩:T_lazy_reader) c54.1 v_).bind fun c57=>(zq53 (⟨c54.2.2.l,c57.2.o,c57.2.missing,c57.2.long⟩:T_lazy_reader)).bind fun c58=>cond (c58.1) (some ([],0,(⟨c54.2.2.l,c57.2.o,c58.2.missing,c58.2.long⟩:T_lazy_reader))) ((zq32 c56.1 c57.1).bind fun c60=>cond (c60) (some ([],15,(⟨c54.2.2.l,c57.2.o,c58.2.missing,c58.2.long⟩:T_lazy_reader))) ((iter (fun (s:Int×List (List Int)×List (List Int)×Int×List T_api_Trace×List (List Int)×Bool×List Int×List Int×List Int×List (List Int))=>zq49.s2 s.1 s.2.1 s.2.2.1 s.2.2.2.1 s.2.2.2.2.1 s.2.2.2.2.2.1 s.2.2.2.2.2.2.1 s.2.2.2.2.2.2.2.1 s.2.2.2.2.2.2.2.2.1 s.2.2.2.2.2.2.2.2.2.1 s.2.2.2.2.2.2.2.2.2.2) fuel (c54.2.2.l.Inputs,c54.2.2.l.Short,c54.2.2.l.Suffixes,c57.2.o.Inputs,c57.2.o.Traces,c58.2.missing,c58.2.long,u_,v_,c54.1,[u_]):Option ((Int×List (List Int)×List (List Int)×Int×List T_api_Trace×List (List Int)×Bool×List (List Int))⊕(List (List Int)×Int×T_lazy_reader))).bind (Sum.elim (fun (s:Int×List (List Int)×List (List Int)×Int×List T_api_Trace×List (List Int)×Bool×List (List Int))=>zq49.k3 s.1 s.2.1 s.2.2.1 s.2.2.2.1 s.2.2.2.2.1 s.2.2.2.2.2.1 s.2.2.2.2.2.2.1 s.2.2.2.2.2.2.2) some)))))
def zq101.s2 (c65:List (List Int)×Int×T_lazy_reader) (y90:List (List Int)) (y91:Nat):Option ((List (List Int)×Nat)⊕List (List Int)) :=
 cond (decide ((↑y91:Int)<(↑(List.length c65.1):Int))) (idxn c65.1 y91 fun e97=>(zq111 y90 e97).bind fun c98=>some (.inl (c98,(y91+1)))) (some (.inr y90))
def zq101 (l_:T_api_Lazy) (o_:T_api_Obs) (s_:T_api_Split):Option (T_api_Lazy×List (List Int)×Int) :=
 (zq104 l_ o_).bind fun c51=>cond (decide (c51≠0)) (some (l_,[],c51)) ((word_Check s_.Prefix l_.Inputs).bind fun c53=>cond (decide (c53≠0)) (some (l_,[],c53)) ((cond (decide (s_.Symbol<0)) (some true) (some (decide (l_.Inputs≤s_.Symbol))):Option (Bool)).bind (fun (y58:Bool)=>cond (y58) (some (l_,[],2)) (cond (decide ((↑(List.length s_.Suffix):Int)=0)) (some (l_,[],19)) ((word_Check s_.Suffix l_.Inputs).bind fun c62=>cond (decide (c62≠0)) (some (l_,[],c62)) ((word_Join [s_.Prefix,[s_.Symbol]]).bind fun c64=>(zq49 (⟨l_,o_,[],false⟩:T_lazy_reader) c64 s_.Suffix).bind fun c65=>cond (c65.2.2.long) (some (l_,[],3)) (cond (decide (c65.2.1≠0)) (some (l_,[],c65.2.1)) (cond (decide (0<(↑(List.length c65.2.2.missing):Int))) ((zq73 c65.2.2.missing).bind fun c69=>some (l_,c69,0)) ((iter (fun (s:List (List Int)×Nat)=>zq101.s2 c65 s.1 s.2) fuel (l_.Short,0):Option (List (List Int))).bind (fun (y86:List (List Int))=>(zq107 (⟨l_.Inputs,y86,l_.Suffixes⟩:T_api_Lazy)).bind fun c104=>cond (decide (c104≠0)) (some (l_,[],c104)) ((zq109 (⟨l_.Inputs,y86,l_.Suffixes⟩:T_api_Lazy)).bind fun c106=>some (c106,[],0))))))))))))
def zq69.s30 (t_:T_api_Table) (c51:T_table_view×Int) (e867:Int) (y901:List Int) (y902:Nat):Option ((List Int×Nat)⊕List Int) :=
 cond (decide ((↑y902:Int)<t_.Inputs)) (idx c51.1.rows e867 fun e911=>idxn e911 y902 fun e912=>idxn e912 0 fun e913=>chk (capOk (List.length y901+1) 8) (chk (inR ((↑y902:Int)+1)) (some (.inl ((y901++[e913]),(y902+1)))))) (some (.inr y901))
def zq69.k31 (y639:Nat) (y864:List (List Int)) (y865:List (List Int)) (y866:List (List Int)):Option ((List (List Int)×List (List Int)×List (List Int)×Nat)⊕(List (List Int)×List (List Int)×List (List Int))) :=
 some (.inl (y864,y865,y866,(y639+1)))
def zq69.s32 (t_:T_api_Table) (c51:T_table_view×Int) (y636:List (List Int)) (y637:List (List Int)) (y638:List (List Int)) (y639:Nat):Option ((List (List Int)×List (List Int)×List (List Int)×Nat)⊕(List (List Int)×List (List Int)×List (List Int))) :=
 cond (decide ((↑y639:Int)<(↑(List.length c51.1.prefixes):Int))) ((idxn c51.1.prefixes y639 fun e867=>cond (decide (e867<(↑(List.length y638):Int))) (some (y636,y637,y638)) ((iter (fun (s:List Int×Nat)=>zq69.s30 t_ c51 e867 s.1 s.2) fuel ([],0):Option (List Int)).bind (fun (y896:List Int)=>idxn c51.1.next y639 fun e930=>(lib_Clone_int e930).bind fun c931=>chk (capOk (List.length y636+1) 24) (chk (capOk (List.length y637+1) 24) (idxn t_.Prefixes y639 fun e934=>(lib_Clone_int e934).bind fun c935=>chk (capOk (List.length y638+1) 24) (some ((y636++[c931]),(y637++[y896]),(y638++[c935]))))))):Option (List (List Int)×List (List Int)×List (List Int))).bind (fun (s:List (List Int)×List (List Int)×List (List Int))=>zq69.k31 y639 s.1 s.2.1 s.2.2)) (some (.inr (y636,y637,y638)))
def zq69.k33 (t_:T_api_Table) (y506:List (List Int)) (y507:List (List Int)) (y508:List (List Int)):Option (T_api_Hyp×Int) :=
 some ((⟨(⟨t_.Inputs,0,y506,y507⟩:T_api_Mealy),y508⟩:T_api_Hyp),0)
def zq69 (t_:T_api_Table) (o_:T_api_Obs):Option (T_api_Hyp×Int) :=
 (zq106 t_ o_).bind fun c51=>cond (decide (c51.2≠0)) (some ((⟨(⟨0,0,[],[]⟩:T_api_Mealy),[]⟩:T_api_Hyp),c51.2)) ((zq44 c51.1).bind fun c53=>(zq26 c51.1).bind fun c54=>(cond (c53.2.2) (some true) (some c54.2.2):Option (Bool)).bind (fun (y58:Bool)=>cond (y58) (some ((⟨(⟨0,0,[],[]⟩:T_api_Mealy),[]⟩:T_api_Hyp),10)) (cond (decide (128<(↑(List.length c51.1.rows):Int))) (some ((⟨(⟨0,0,[],[]⟩:T_api_Mealy),[]⟩:T_api_Hyp),11)) ((iter (fun (s:List (List Int)×List (List Int)×List (List Int)×Nat)=>zq69.s32 t_ c51 s.1 s.2.1 s.2.2.1 s.2.2.2) fuel ([],[],[],0):Option (List (List Int)×List (List Int)×List (List Int))).bind (fun (s:List (List Int)×List (List Int)×List (List Int))=>zq69.k33 t_ s.1 s.2.1 s.2.2)))))
def zq70 (l_:T_api_Lazy) (o_:T_api_Obs):Option (T_api_Hyp×Int) :=
 (zq104 l_ o_).bind fun c51=>cond (decide (c51≠0)) (some ((⟨(⟨0,0,[],[]⟩:T_api_Mealy),[]⟩:T_api_Hyp),c51)) ((zq108 l_).bind fun c53=>(zq69 c53 o_).bind fun c54=>some (c54.1,c54.2))
def L28_awake:Option (Bool) :=
 (lazy_New 2).bind fun c51=>(L23_Gate).bind fun c52=>(zq113 c51.1 c52).bind fun c53=>(lazy_New 1).bind fun c54=>(zq101 c54.1 (⟨1,[(⟨[0,0,0],[0,0,1]⟩:T_api_Trace)]⟩:T_api_Obs) (⟨[],0,[0,0]⟩:T_api_Split)).bind fun c55=>(zq70 c54.1 (⟨1,[(⟨[0,0,0],[0,0,1]⟩:T_api_Trace)]⟩:T_api_Obs)).bind fun c56=>(cond (decide (c51.2≠0)) (some true) (cond (decide (c53.2.2.2≠0)) (some true) (cond (decide (c54.2≠0)) (some true) (cond (decide (c55.2.2≠0)) (some true) (cond (decide (c56.2≠0)) (some true) (cond (c53.2.2.1) (some true) (cond (decide ((↑(List.length c53.2.1):Int)≠0)) (some true) (some (decide ((↑(List.length c55.2.1):Int)≠0))))))))):Option (Bool)).bind (fun (y66:Bool)=>cond (y66) (some false) (((R01_SameWords c53.1.Short [[],[0]]).bind fun c91=>cond (c91) ((R01_SameWords c55.1.Short [[],[0]]).bind fun c93=>cond (c93) ((R01_SameWords c55.1.Suffixes [[0]]).bind fun c95=>cond (c95) (some (decide ((↑(List.length c56.1.M.Next):Int)=1))) (some false)) (some false)) (some false):Option (Bool)).bind (fun (y90:Bool)=>some y90)))
def R23_Singles.s2 (inputs_:Int) (y65:List (List Int)) (a66:Nat):Option ((List (List Int)×Nat)⊕List (List Int)) :=
 cond (decide ((↑a66:Int)<inputs_)) (chk (capOk (List.length y65+1) 24) (chk (inR ((↑a66:Int)+1)) (some (.inl ((y65++[[(↑a66:Int)]]),(a66+1)))))) (some (.inr y65))
def R23_Singles (inputs_:Int):Option (List (List Int)) :=
 (iter (fun (s:List (List Int)×Nat)=>R23_Singles.s2 inputs_ s.1 s.2) fuel ([],0):Option (List (List Int))).bind (fun (y63:List (List Int))=>some y63)
def R23_New (inputs_:Int):Option (T_api_Table×Int) :=
 (cond (decide (inputs_<1)) (some true) (some (decide (64<inputs_))):Option (Bool)).bind (fun (y54:Bool)=>cond (y54) (some ((⟨0,[],[]⟩:T_api_Table),2)) ((R23_Singles inputs_).bind fun c57=>some ((⟨inputs_,[[]],c57⟩:T_api_Table),0)))
def R28_Of (t_:T_api_Table):Option (T_api_Lazy) :=
 some (⟨t_.Inputs,t_.Prefixes,t_.Suffixes⟩:T_api_Lazy)
def R28_New (inputs_:Int):Option (T_api_Lazy×Int) :=
 (R23_New inputs_).bind fun c51=>(R28_Of c51.1).bind fun c52=>some (c52,c51.2)
def R02_Has.s2 (l_:List (List Int)) (w_:List Int) (i72:Nat):Option (Nat⊕(Unit⊕Bool)) :=
 cond (decide ((↑i72:Int)<(↑(List.length l_):Int))) (idxn l_ i72 fun e79=>(R01_Same e79 w_).bind fun c80=>cond (c80) (some (.inr (.inr true))) (some (.inl (i72+1)))) (some (.inr (.inl ())))
def R02_Has (l_:List (List Int)) (w_:List Int):Option (Bool) :=
 (iter (fun (s:Nat)=>R02_Has.s2 l_ w_ s) fuel 0:Option (Unit⊕Bool)).bind (Sum.elim (fun (_:Unit)=>some false) some)
def R23_longest.s2 (l_:List (List Int)) (n65:Int) (i66:Nat):Option ((Int×Nat)⊕Int) :=
 cond (decide ((↑i66:Int)<(↑(List.length l_):Int))) (idxn l_ i66 fun e71=>some (.inl ((max n65 (↑(List.length e71):Int)),(i66+1)))) (some (.inr n65))
def R23_longest (l_:List (List Int)):Option (Int) :=
 (iter (fun (s:Int×Nat)=>R23_longest.s2 l_ s.1 s.2) fuel (0,0):Option (Int)).bind (fun (n62:Int)=>some n62)
def R23_prefixes.s2 (t_:T_api_Table) (i194:Nat):Option (Nat⊕(Unit⊕Int)) :=
 cond (decide ((↑i194:Int)<(↑(List.length t_.Prefixes):Int))) (idxn t_.Prefixes i194 fun e232=>(R01_Check e232 t_.Inputs).bind fun c233=>cond (decide (c233≠0)) (some (.inr (.inr c233))) ((cond (decide ((↑i194:Int)=0)) (cond (decide (0<(↑(List.length e232):Int))) (some true) (cond (decide (0<(↑i194:Int))) (idx t_.Prefixes ((↑i194:Int)-1) fun e249=>(R01_Compare e249 e232).bind fun c250=>some (decide (0≤c250))) (some false))) (cond (decide (0<(↑i194:Int))) (idx t_.Prefixes ((↑i194:Int)-1) fun e252=>(R01_Compare e252 e232).bind fun c253=>some (decide (0≤c253))) (some false)):Option (Bool)).bind (fun (y245:Bool)=>cond (y245) (some (.inr (.inr 10))) ((cond (decide (0<(↑(List.length e232):Int))) (chk ((0:Int)≤((↑(List.length e232):Int)-1)∧((↑(List.length e232):Int)-1)≤(↑(List.length e232):Int)) ((R02_Has t_.Prefixes (List.take (Int.toNat ((↑(List.length e232):Int)-1)) e232)).bind fun c264=>some (!c264))) (some false):Option (Bool)).bind (fun (y261:Bool)=>cond (y261) (some (.inr (.inr 1))) (some (.inl (i194+1)))))))) (some (.inr (.inl ())))
def R23_prefixes (t_:T_api_Table):Option (Int) :=
 (iter (fun (s:Nat)=>R23_prefixes.s2 t_ s) fuel 0:Option (Unit⊕Int)).bind (Sum.elim (fun (_:Unit)=>some 0) some)
def R23_suffixes.s2 (t_:T_api_Table) (i114:Nat):Option (Nat⊕(Unit⊕Int)) :=
 cond (decide ((↑i114:Int)<(↑(List.length t_.Suffixes):Int))) (idxn t_.Suffixes i114 fun e132=>(R01_Check e132 t_.Inputs).bind fun c133=>cond (decide (c133≠0)) (some (.inr (.inr c133))) (cond (decide ((↑(List.length e132):Int)=0)) (some (.inr (.inr 19))) ((cond (decide (0<(↑i114:Int))) (idx t_.Suffixes ((↑i114:Int)-1) fun e143=>(R01_Compare e143 e132).bind fun c144=>some (decide (0≤c144))) (some false):Option (Bool)).bind (fun (y141:Bool)=>cond (y141) (some (.inr (.inr 10))) (some (.inl (i114+1))))))) (some (.inr (.inl ())))
def R23_suffixes.s4 (t_:T_api_Table) (a163:Nat):Option (Nat⊕(Unit⊕Int)) :=
 cond (decide ((↑a163:Int)<t_.Inputs)) ((R02_Has t_.Suffixes [(↑a163:Int)]).bind fun c170=>cond ((!c170)) (some (.inr (.inr 1))) (chk (inR ((↑a163:Int)+1)) (some (.inl (a163+1))))) (some (.inr (.inl ())))
def R23_suffixes (t_:T_api_Table):Option (Int) :=
 (iter (fun (s:Nat)=>R23_suffixes.s2 t_ s) fuel 0:Option (Unit⊕Int)).bind (Sum.elim (fun (_:Unit)=>(iter (fun (s:Nat)=>R23_suffixes.s4 t_ s) fuel 0:Option (Unit⊕Int)).bind (Sum.elim (fun (_:Unit)=>some 0) some)) some)
def R23_Valid (t_:T_api_Table):Option (Int) :=
 (cond (decide (t_.Inputs<1)) (some true) (some (decide (64<t_.Inputs))):Option (Bool)).bind (fun (y54:Bool)=>cond (y54) (some 2) (cond (decide ((↑(List.length t_.Prefixes):Int)=0)) (some 19) ((cond (decide (10000<(↑(List.length t_.Prefixes):Int))) (some true) (some (decide (10000<(↑(List.length t_.Suffixes):Int)))):Option (Bool)).bind (fun (y61:Bool)=>cond (y61) (some 11) (chk (inR (t_.Inputs+1)) (chk (inR ((↑(List.length t_.Prefixes):Int)*(t_.Inputs+1))) (chk (inR (((↑(List.length t_.Prefixes):Int)*(t_.Inputs+1))*(↑(List.length t_.Suffixes):Int))) (cond (decide (160000<(((↑(List.length t_.Prefixes):Int)*(t_.Inputs+1))*(↑(List.length t_.Suffixes):Int)))) (some 11) ((R23_prefixes t_).bind fun c68=>cond (decide (c68≠0)) (some c68) ((R23_suffixes t_).bind fun c70=>cond (decide (c70≠0)) (some c70) ((R23_longest t_.Prefixes).bind fun c72=>(R23_longest t_.Suffixes).bind fun c73=>chk (inR (c72+c73)) (cond (decide (1023<(c72+c73))) (some 3) (some 0)))))))))))))
def R28_Valid.s2 (l_:T_api_Lazy) (i105:Nat):Option (Nat⊕(Unit⊕Int)) :=
 cond (decide ((↑i105:Int)<(↑(List.length l_.Suffixes):Int))) (idxn l_.Suffixes i105 fun e120=>(cond (decide (1<(↑(List.length e120):Int))) (chk ((0:Int)≤1∧1≤(↑(List.length e120):Int)) ((R02_Has l_.Suffixes (List.drop 1 e120)).bind fun c129=>some (!c129))) (some false):Option (Bool)).bind (fun (y126:Bool)=>cond (y126) (some (.inr (.inr 1))) (some (.inl (i105+1))))) (some (.inr (.inl ())))
def R28_Valid (l_:T_api_Lazy):Option (Int) :=
 (R28_Table l_).bind fun c51=>(R23_Valid c51).bind fun c52=>cond (decide (c52≠0)) (some c52) ((iter (fun (s:Nat)=>R28_Valid.s2 l_ s) fuel 0:Option (Unit⊕Int)).bind (Sum.elim (fun (_:Unit)=>some 0) some))
def R28_checked (l_:T_api_Lazy) (o_:T_api_Obs):Option (Int) :=
 (R28_Valid l_).bind fun c51=>cond (decide (c51≠0)) (some c51) (cond (decide (l_.Inputs≠o_.Inputs)) (some 15) (some 0))
def R02_place.s2 (l_:List (List Int)) (w_:List Int) (low84:Nat) (high85:Nat):Option ((Nat×Nat)⊕Nat) :=
 cond (decide ((↑low84:Int)<(↑high85:Int))) (chk (inR ((↑low84:Int)+(↑high85:Int))) (chk (inR (((↑low84:Int)+(↑high85:Int)) / 2)∧(0:Int)≤((↑low84:Int)+(↑high85:Int))∧(1:Int)≤2) (idxn l_ ((low84+high85) / 2) fun e97=>(R01_Compare e97 w_).bind fun c98=>cond (decide (c98<0)) (chk (inR ((((↑low84:Int)+(↑high85:Int)) / 2)+1)) (some (.inl ((((low84+high85) / 2)+1),high85)))) (some (.inl (low84,((low84+high85) / 2))))))) (some (.inr low84))
def R02_place (l_:List (List Int)) (w_:List Int):Option (Int) :=
 (iter (fun (s:Nat×Nat)=>R02_place.s2 l_ w_ s.1 s.2) fuel (0,(List.length l_)):Option (Nat)).bind (fun (low77:Nat)=>some (↑low77:Int))
def R02_with.s2 (c51:Int) (y93:List (List Int)) (i94:Int):Option ((List (List Int)×Int)⊕List (List Int)) :=
 cond (decide (c51<i94)) (chk (inR (i94-1)) (idx y93 (i94-1) fun e103=>idx y93 i94 fun e104=>chk (inR (i94-1)) (some (.inl ((List.set y93 i94.toNat e103),(i94-1)))))) (some (.inr y93))
def R02_with (l_:List (List Int)) (w_:List Int):Option (List (List Int)) :=
 (R02_place l_ w_).bind fun c51=>(cond (decide (c51<(↑(List.length l_):Int))) (idx l_ c51 fun e59=>(R01_Same e59 w_).bind fun c60=>some c60) (some false):Option (Bool)).bind (fun (y57:Bool)=>cond (y57) (some l_) (chk (capOk (List.length l_+1) 24) (chk (inR ((↑(List.length (l_++[[]])):Int)-1)) ((iter (fun (s:List (List Int)×Int)=>R02_with.s2 c51 s.1 s.2) fuel ((l_++[[]]),((↑(List.length (l_++[[]])):Int)-1)):Option (List (List Int))).bind (fun (y87:List (List Int))=>chk (capOk (List.length ([]:List Unit)+List.length w_) 8) (idx y87 c51 fun e111=>some (List.set y87 c51.toNat ([]++w_))))))))
def R02_Prefixes.s13 (l_:List (List Int)) (i255:Nat) (y336:List (List Int)) (k337:Nat):Option ((List (List Int)×Nat)⊕List (List Int)) :=
 idxn l_ i255 fun e345=>cond (decide ((↑k337:Int)≤(↑(List.length e345):Int))) (idxn l_ i255 fun e347=>chk ((0:Int)≤(↑k337:Int)∧(↑k337:Int)≤(↑(List.length e347):Int)) ((R02_with y336 (List.take k337 e347)).bind fun c349=>chk (inR ((↑k337:Int)+1)) (some (.inl (c349,(k337+1)))))) (some (.inr y336))
def R02_Prefixes.s14 (l_:List (List Int)) (y254:List (List Int)) (i255:Nat):Option ((List (List Int)×Nat)⊕List (List Int)) :=
 cond (decide ((↑i255:Int)<(↑(List.length l_):Int))) ((iter (fun (s:List (List Int)×Nat)=>R02_Prefixes.s13 l_ i255 s.1 s.2) fuel (y254,0):Option (List (List Int))).bind (fun (y330:List (List Int))=>some (.inl (y330,(i255+1))))) (some (.inr y254))
def R02_Prefixes (l_:List (List Int)):Option (List (List Int)) :=
 (iter (fun (s:List (List Int)×Nat)=>R02_Prefixes.s14 l_ s.1 s.2) fuel ([],0):Option (List (List Int))).bind (fun (y204:List (List Int))=>some y204)
def R01_Join.s2 (parts_:List (List Int)) (y70:List Int) (i71:Nat):Option ((List Int×Nat)⊕List Int) :=
 cond (decide ((↑i71:Int)<(↑(List.length parts_):Int))) (idxn parts_ i71 fun e77=>chk (capOk (List.length y70+List.length e77) 8) (some (.inl ((y70++e77),(i71+1))))) (some (.inr y70))
def R01_Join (parts_:List (List Int)):Option (List Int) :=
 (iter (fun (s:List Int×Nat)=>R01_Join.s2 parts_ s.1 s.2) fuel ([],0):Option (List Int)).bind (fun (y66:List Int)=>some y66)
def R23_Joined (u_:List Int) (v_:List Int):Option (List Int) :=
 (R01_Join [u_,v_]).bind fun c51=>some c51
def R23_copied.s2 (l_:List (List Int)) (y72:List (List Int)) (i73:Nat):Option ((List (List Int)×Nat)⊕List (List Int)) :=
 cond (decide ((↑i73:Int)<(↑(List.length l_):Int))) (idxn l_ i73 fun e80=>(R23_Joined e80 []).bind fun c81=>chk (capOk (List.length y72+1) 24) (some (.inl ((y72++[c81]),(i73+1))))) (some (.inr y72))
def R23_copied (l_:List (List Int)):Option (List (List Int)) :=
 (iter (fun (s:List (List Int)×Nat)=>R23_copied.s2 l_ s.1 s.2) fuel ([],0):Option (List (List Int))).bind (fun (y68:List (List Int))=>some y68)
def R02_Sorted.s2 (l_:List (List Int)) (y70:List (List Int)) (i71:Nat):Option ((List (List Int)×Nat)⊕List (List Int)) :=
 cond (decide ((↑i71:Int)<(↑(List.length l_):Int))) (idxn l_ i71 fun e77=>(R02_with y70 e77).bind fun c78=>some (.inl (c78,(i71+1)))) (some (.inr y70))
def R02_Sorted (l_:List (List Int)):Option (List (List Int)) :=
 (iter (fun (s:List (List Int)×Nat)=>R02_Sorted.s2 l_ s.1 s.2) fuel ([],0):Option (List (List Int))).bind (fun (y66:List (List Int))=>some y66)
def R02_Union.s2 (lists_:List (List (List Int))) (y70:List (List Int)) (i71:Nat):Option ((List (List Int)×Nat)⊕List (List Int)) :=
 cond (decide ((↑i71:Int)<(↑(List.length lists_):Int))) (idxn lists_ i71 fun e77=>chk (capOk (List.length y70+List.length e77) 24) (some (.inl ((y70++e77),(i71+1))))) (some (.inr y70))
def R02_Union (lists_:List (List (List Int))):Option (List (List Int)) :=
 (iter (fun (s:List (List Int)×Nat)=>R02_Union.s2 lists_ s.1 s.2) fuel ([],0):Option (List (List Int))).bind (fun (y66:List (List Int))=>(R02_Sorted y66).bind fun c82=>some c82)
def R23_With (t_:T_api_Table) (prefixes_:List (List Int)) (suffixes_:List (List Int)):Option (T_api_Table) :=
 (R23_copied t_.Prefixes).bind fun c51=>(R23_copied prefixes_).bind fun c52=>(R02_Union [c51,c52]).bind fun c53=>(R23_copied t_.Suffixes).bind fun c54=>(R23_copied suffixes_).bind fun c55=>(R02_Union [c54,c55]).bind fun c56=>some (⟨t_.Inputs,c53,c56⟩:T_api_Table)
def R23_Prefix (t_:T_api_Table) (w_:List Int):Option (T_api_Table×Int) :=
 (R23_Valid t_).bind fun c51=>cond (decide (c51≠0)) (some (t_,c51)) ((R01_Check w_ t_.Inputs).bind fun c53=>cond (decide (c53≠0)) (some (t_,c53)) ((R02_Prefixes [w_]).bind fun c55=>(R23_With t_ c55 []).bind fun c56=>(R23_Valid c56).bind fun c57=>cond (decide (c57≠0)) (some (t_,c57)) (some (c56,0))))
def R23_Suffix (t_:T_api_Table) (w_:List Int):Option (T_api_Table×Int) :=
 (R23_Valid t_).bind fun c51=>cond (decide (c51≠0)) (some (t_,c51)) (cond (decide ((↑(List.length w_):Int)=0)) (some (t_,19)) ((R01_Check w_ t_.Inputs).bind fun c54=>cond (decide (c54≠0)) (some (t_,c54)) ((R23_With t_ [] [w_]).bind fun c56=>(R23_Valid c56).bind fun c57=>cond (decide (c57≠0)) (some (t_,c57)) (some (c56,0)))))
def R16_Answer.s2 (o_:T_api_Obs) (w_:List Int) (i84:Nat):Option (Nat⊕(Unit⊕(List Int×Bool))) :=
 cond (decide ((↑i84:Int)<(↑(List.length o_.Traces):Int))) (idxn o_.Traces i84 fun e94=>(R01_HasPrefix e94.In w_).bind fun c95=>cond (c95) (idxn o_.Traces i84 fun e97=>chk ((0:Int)≤(↑(List.length w_):Int)∧(↑(List.length w_):Int)≤(↑(List.length e97.Out):Int)) ((R01_Join [(List.take (List.length w_) e97.Out)]).bind fun c99=>some (.inr (.inr (c99,true))))) (some (.inl (i84+1)))) (some (.inr (.inl ())))
def R16_Answer (o_:T_api_Obs) (w_:List Int):Option (List Int×Bool) :=
 cond (decide ((↑(List.length w_):Int)=0)) (some ([],true)) ((iter (fun (s:Nat)=>R16_Answer.s2 o_ w_ s) fuel 0:Option (Unit⊕(List Int×Bool))).bind (Sum.elim (fun (_:Unit)=>some ([],false)) some))
def R02_Maximal.s13 (c51:List (List Int)) (i308:Nat) (top412:Bool) (k413:Nat):Option ((Bool×Nat)⊕Bool) :=
 cond (decide ((↑k413:Int)<(↑(List.length c51):Int))) (cond (top412) (idxn c51 k413 fun e425=>idxn c51 i308 fun e426=>cond (decide ((↑(List.length e425):Int)=(↑(List.length e426):Int))) (some (.inl (true,(k413+1)))) (idxn c51 k413 fun e428=>idxn c51 i308 fun e429=>(R01_HasPrefix e428 e429).bind fun c430=>some (.inl ((!c430),(k413+1))))) (some (.inl (false,(k413+1))))) (some (.inr top412))
def R02_Maximal.s14 (c51:List (List Int)) (y307:List (List Int)) (i308:Nat):Option ((List (List Int)×Nat)⊕List (List Int)) :=
 cond (decide ((↑i308:Int)<(↑(List.length c51):Int))) ((iter (fun (s:Bool×Nat)=>R02_Maximal.s13 c51 i308 s.1 s.2) fuel (true,(i308+1)):Option (Bool)).bind (fun (top404:Bool)=>cond (top404) (idxn c51 i308 fun e436=>chk (capOk (List.length y307+1) 24) (some (.inl ((y307++[e436]),(i308+1))))) (some (.inl (y307,(i308+1)))))) (some (.inr y307))
def R02_Maximal (l_:List (List Int)):Option (List (List Int)) :=
 (R02_Sorted l_).bind fun c51=>(iter (fun (s:List (List Int)×Nat)=>R02_Maximal.s14 c51 s.1 s.2) fuel ([],0):Option (List (List Int))).bind (fun (y246:List (List Int))=>some y246)
def R23_Check (t_:T_api_Table) (o_:T_api_Obs):Option (Int) :=
 (R23_Valid t_).bind fun c51=>cond (decide (c51≠0)) (some c51) (cond (decide (t_.Inputs≠o_.Inputs)) (some 15) (some 0))
def R23_Extensions.s13 (t_:T_api_Table) (i214:Nat) (y281:List (List Int)) (a282:Nat):Option ((List (List Int)×Nat)⊕List (List Int)) :=
 cond (decide ((↑a282:Int)<t_.Inputs)) (idxn t_.Prefixes i214 fun e290=>(R23_Joined e290 [(↑a282:Int)]).bind fun c291=>chk (capOk (List.length y281+1) 24) (chk (inR ((↑a282:Int)+1)) (some (.inl ((y281++[c291]),(a282+1)))))) (some (.inr y281))
def R23_Extensions.s14 (t_:T_api_Table) (y213:List (List Int)) (i214:Nat):Option ((List (List Int)×Nat)⊕List (List Int)) :=
 cond (decide ((↑i214:Int)<(↑(List.length t_.Prefixes):Int))) ((iter (fun (s:List (List Int)×Nat)=>R23_Extensions.s13 t_ i214 s.1 s.2) fuel (y213,0):Option (List (List Int))).bind (fun (y276:List (List Int))=>some (.inl (y276,(i214+1))))) (some (.inr y213))
def R23_Extensions (t_:T_api_Table):Option (List (List Int)) :=
 (iter (fun (s:List (List Int)×Nat)=>R23_Extensions.s14 t_ s.1 s.2) fuel ([],0):Option (List (List Int))).bind (fun (y174:List (List Int))=>(R02_Sorted y174).bind fun c298=>some c298)
def R23_Needed.s13 (t_:T_api_Table) (o_:T_api_Obs) (c54:List (List Int)) (i287:Nat) (y382:List (List Int)) (k383:Nat):Option ((List (List Int)×Nat)⊕List (List Int)) :=
 cond (decide ((↑k383:Int)<(↑(List.length t_.Suffixes):Int))) (idxn c54 i287 fun e393=>idxn t_.Suffixes k383 fun e394=>(R23_Joined e393 e394).bind fun c395=>(R16_Answer o_ c395).bind fun c396=>cond ((!c396.2)) (chk (capOk (List.length y382+1) 24) (some (.inl ((y382++[c395]),(k383+1))))) (some (.inl (y382,(k383+1))))) (some (.inr y382))
def R23_Needed.s14 (t_:T_api_Table) (o_:T_api_Obs) (c54:List (List Int)) (y286:List (List Int)) (i287:Nat):Option ((List (List Int)×Nat)⊕List (List Int)) :=
 cond (decide ((↑i287:Int)<(↑(List.length c54):Int))) ((iter (fun (s:List (List Int)×Nat)=>R23_Needed.s13 t_ o_ c54 i287 s.1 s.2) fuel (y286,0):Option (List (List Int))).bind (fun (y374:List (List Int))=>some (.inl (y374,(i287+1))))) (some (.inr y286))
def R23_Needed (t_:T_api_Table) (o_:T_api_Obs):Option (List (List Int)×Int) :=
 (R23_Check t_ o_).bind fun c51=>cond (decide (c51≠0)) (some ([],c51)) ((R23_Extensions t_).bind fun c53=>(R02_Union [t_.Prefixes,c53]).bind fun c54=>(iter (fun (s:List (List Int)×Nat)=>R23_Needed.s14 t_ o_ c54 s.1 s.2) fuel ([],0):Option (List (List Int))).bind (fun (y230:List (List Int))=>(R02_Maximal y230).bind fun c406=>some (c406,0)))
def R23_After (o_:T_api_Obs) (w_:List Int) (e_:List Int):Option (List Int×Bool) :=
 (R23_Joined w_ e_).bind fun c51=>(R16_Answer o_ c51).bind fun c52=>cond ((!c52.2)) (some ([],false)) (chk ((0:Int)≤(↑(List.length w_):Int)∧(↑(List.length w_):Int)≤(↑(List.length c52.1):Int)) (some ((List.drop (List.length w_) c52.1),true)))
def R23_row.s2 (o_:T_api_Obs) (suffixes_:List (List Int)) (w_:List Int) (y77:List (List Int)) (k78:Nat):Option ((List (List Int)×Nat)⊕(List (List Int)⊕(List (List Int)×Bool))) :=
 cond (decide ((↑k78:Int)<(↑(List.length suffixes_):Int))) (idxn suffixes_ k78 fun e86=>(R23_After o_ w_ e86).bind fun c87=>cond ((!c87.2)) (some (.inr (.inr ([],false)))) (chk (capOk (List.length y77+1) 24) (some (.inl ((y77++[c87.1]),(k78+1)))))) (some (.inr (.inl y77)))
def R23_row (o_:T_api_Obs) (suffixes_:List (List Int)) (w_:List Int):Option (List (List Int)×Bool) :=
 (iter (fun (s:List (List Int)×Nat)=>R23_row.s2 o_ suffixes_ w_ s.1 s.2) fuel ([],0):Option (List (List Int)⊕(List (List Int)×Bool))).bind (Sum.elim (fun (y72:List (List Int))=>some (y72,true)) some)
def R06_Ints.s2 (a_:List Int) (b_:List Int) (i73:Nat):Option (Nat⊕(Unit⊕Bool)) :=
 cond (decide ((↑i73:Int)<(↑(List.length a_):Int))) (idxn a_ i73 fun e80=>idxn b_ i73 fun e81=>cond (decide (e80≠e81)) (some (.inr (.inr false))) (some (.inl (i73+1)))) (some (.inr (.inl ())))
def R06_Ints (a_:List Int) (b_:List Int):Option (Bool) :=
 cond (decide ((↑(List.length a_):Int)≠(↑(List.length b_):Int))) (some false) ((iter (fun (s:Nat)=>R06_Ints.s2 a_ b_ s) fuel 0:Option (Unit⊕Bool)).bind (Sum.elim (fun (_:Unit)=>some true) some))
def R06_Lists.s2 (a_:List (List Int)) (b_:List (List Int)) (i77:Nat):Option (Nat⊕(Unit⊕Bool)) :=
 cond (decide ((↑i77:Int)<(↑(List.length a_):Int))) (idxn a_ i77 fun e85=>idxn b_ i77 fun e86=>(R06_Ints e85 e86).bind fun c87=>cond ((!c87)) (some (.inr (.inr false))) (some (.inl (i77+1)))) (some (.inr (.inl ())))
def R06_Lists (a_:List (List Int)) (b_:List (List Int)):Option (Bool) :=
 cond (decide ((↑(List.length a_):Int)≠(↑(List.length b_):Int))) (some false) ((iter (fun (s:Nat)=>R06_Lists.s2 a_ b_ s) fuel 0:Option (Unit⊕Bool)).bind (Sum.elim (fun (_:Unit)=>some true) some))
def R23_find.s2 (t_:T_api_Table) (o_:T_api_Obs) (c51:List (List Int)×Bool) (i76:Nat):Option (Nat⊕(Unit⊕Int)) :=
 cond (decide ((↑i76:Int)<(↑(List.length t_.Prefixes):Int))) (idxn t_.Prefixes i76 fun e84=>(R23_row o_ t_.Suffixes e84).bind fun c85=>(R06_Lists c85.1 c51.1).bind fun c86=>cond (c86) (some (.inr (.inr (↑i76:Int)))) (some (.inl (i76+1)))) (some (.inr (.inl ())))
def R23_find (t_:T_api_Table) (o_:T_api_Obs) (w_:List Int):Option (Int) :=
 (R23_row o_ t_.Suffixes w_).bind fun c51=>(iter (fun (s:Nat)=>R23_find.s2 t_ o_ c51 s) fuel 0:Option (Unit⊕Int)).bind (Sum.elim (fun (_:Unit)=>some (-1:Int)) some)
def R23_complete (t_:T_api_Table) (o_:T_api_Obs):Option (Int) :=
 (R23_Needed t_ o_).bind fun c51=>cond (decide (c51.2≠0)) (some c51.2) (cond (decide (0<(↑(List.length c51.1):Int))) (some 12) (some 0))
def R23_Unclosed.s2 (t_:T_api_Table) (o_:T_api_Obs) (c53:List (List Int)) (i78:Nat):Option (Nat⊕(Unit⊕(List Int×Bool×Int))) :=
 cond (decide ((↑i78:Int)<(↑(List.length c53):Int))) (idxn c53 i78 fun e86=>(R23_find t_ o_ e86).bind fun c87=>cond (decide (c87<0)) (idxn c53 i78 fun e89=>some (.inr (.inr (e89,true,0)))) (some (.inl (i78+1)))) (some (.inr (.inl ())))
def R23_Unclosed (t_:T_api_Table) (o_:T_api_Obs):Option (List Int×Bool×Int) :=
 (R23_complete t_ o_).bind fun c51=>cond (decide (c51≠0)) (some ([],false,c51)) ((R23_Extensions t_).bind fun c53=>(iter (fun (s:Nat)=>R23_Unclosed.s2 t_ o_ c53 s) fuel 0:Option (Unit⊕(List Int×Bool×Int))).bind (Sum.elim (fun (_:Unit)=>some ([],false,0)) some))
def R23_parting.s13 (t_:T_api_Table) (a306:Nat) (c373:List (List Int)×Bool) (c375:List (List Int)×Bool) (k411:Nat):Option (Nat⊕(Unit⊕(Nat⊕(Unit⊕(List Int×Bool))))) :=
 cond (decide ((↑k411:Int)<(↑(List.length c373.1):Int))) (idxn c373.1 k411 fun e421=>idxn c375.1 k411 fun e422=>(R06_Ints e421 e422).bind fun c423=>cond ((!c423)) (idxn t_.Suffixes k411 fun e425=>(R23_Joined [(↑a306:Int)] e425).bind fun c426=>some (.inr (.inr (.inr (.inr (c426,true)))))) (some (.inl (k411+1)))) (some (.inr (.inl ())))
def R23_parting.s14 (t_:T_api_Table) (o_:T_api_Obs) (p_:List Int) (q_:List Int) (a306:Nat):Option (Nat⊕(Unit⊕(List Int×Bool))) :=
 cond (decide ((↑a306:Int)<t_.Inputs)) ((R23_Joined p_ [(↑a306:Int)]).bind fun c372=>(R23_row o_ t_.Suffixes c372).bind fun c373=>(R23_Joined q_ [(↑a306:Int)]).bind fun c374=>(R23_row o_ t_.Suffixes c374).bind fun c375=>(iter (fun (s:Nat)=>R23_parting.s13 t_ a306 c373 c375 s) fuel 0:Option (Unit⊕(Nat⊕(Unit⊕(List Int×Bool))))).bind (Sum.elim (fun (_:Unit)=>chk (inR ((↑a306:Int)+1)) (some (.inl (a306+1)))) some)) (some (.inr (.inl ())))
def R23_parting (t_:T_api_Table) (o_:T_api_Obs) (p_:List Int) (q_:List Int):Option (List Int×Bool) :=
 (iter (fun (s:Nat)=>R23_parting.s14 t_ o_ p_ q_ s) fuel 0:Option (Unit⊕(List Int×Bool))).bind (Sum.elim (fun (_:Unit)=>some ([],false)) some)
def R23_Inconsistent.s13 (t_:T_api_Table) (o_:T_api_Obs) (i608:Nat) (k840:Nat):Option (Nat⊕(Unit⊕(Nat⊕(Unit⊕(List Int×Bool×Int))))) :=
 cond (decide ((↑k840:Int)<(↑(List.length t_.Prefixes):Int))) ((idxn t_.Prefixes i608 fun e876=>(R23_row o_ t_.Suffixes e876).bind fun c877=>idxn t_.Prefixes k840 fun e878=>(R23_row o_ t_.Suffixes e878).bind fun c879=>(R06_Lists c877.1 c879.1).bind fun c880=>cond ((!c880)) (some (.inl ())) (idxn t_.Prefixes i608 fun e882=>idxn t_.Prefixes k840 fun e883=>(R23_parting t_ o_ e882 e883).bind fun c884=>cond (c884.2) (some (.inr (.inr (.inr (.inr (.inr (c884.1,true,0))))))) (some (.inl ()))):Option (Unit⊕(Nat⊕(Unit⊕(Nat⊕(Unit⊕(List Int×Bool×Int))))))).bind (Sum.elim (fun (_:Unit)=>some (.inl (k840+1))) some)) (some (.inr (.inl ())))
def R23_Inconsistent.s14 (t_:T_api_Table) (o_:T_api_Obs) (i608:Nat):Option (Nat⊕(Unit⊕(List Int×Bool×Int))) :=
 cond (decide ((↑i608:Int)<(↑(List.length t_.Prefixes):Int))) ((iter (fun (s:Nat)=>R23_Inconsistent.s13 t_ o_ i608 s) fuel (i608+1):Option (Unit⊕(Nat⊕(Unit⊕(List Int×Bool×Int))))).bind (Sum.elim (fun (_:Unit)=>some (.inl (i608+1))) some)) (some (.inr (.inl ())))
def R23_Inconsistent (t_:T_api_Table) (o_:T_api_Obs):Option (List Int×Bool×Int) :=
 (R23_complete t_ o_).bind fun c51=>cond (decide (c51≠0)) (some ([],false,c51)) ((iter (fun (s:Nat)=>R23_Inconsistent.s14 t_ o_ s) fuel 0:Option (Unit⊕(List Int×Bool×Int))).bind (Sum.elim (fun (_:Unit)=>some ([],false,0)) some))
def R24_Step (t_:T_api_Table) (o_:T_api_Obs):Option (T_api_Table×List (List Int)×Bool×Int) :=
 (R23_Needed t_ o_).bind fun c51=>(cond (decide (c51.2≠0)) (some true) (some (decide (0<(↑(List.length c51.1):Int)))):Option (Bool)).bind (fun (y55:Bool)=>cond (y55) (some (t_,c51.1,false,c51.2)) ((R23_Unclosed t_ o_).bind fun c59=>cond (c59.2.1) ((R23_Prefix t_ c59.1).bind fun c61=>some (c61.1,[],false,c61.2)) ((R23_Inconsistent t_ o_).bind fun c62=>cond (c62.2.1) ((R23_Suffix t_ c62.1).bind fun c64=>some (c64.1,[],false,c64.2)) (some (t_,[],true,0)))))
def R28_Step (l_:T_api_Lazy) (o_:T_api_Obs):Option (T_api_Lazy×List (List Int)×Bool×Int) :=
 (R28_checked l_ o_).bind fun c51=>cond (decide (c51≠0)) (some (l_,[],false,c51)) ((R28_Table l_).bind fun c53=>(R24_Step c53 o_).bind fun c54=>(R28_Of c54.1).bind fun c55=>some (c55,c54.2.1,c54.2.2.1,c54.2.2.2))
def R23_Same (a_:T_api_Table) (b_:T_api_Table):Option (Bool) :=
 (cond (decide (a_.Inputs=b_.Inputs)) ((R06_Lists a_.Prefixes b_.Prefixes).bind fun c59=>cond (c59) ((R06_Lists a_.Suffixes b_.Suffixes).bind fun c61=>some c61) (some false)) (some false):Option (Bool)).bind (fun (y57:Bool)=>some y57)
def R28_Same (a_:T_api_Lazy) (b_:T_api_Lazy):Option (Bool) :=
 (R28_Table a_).bind fun c51=>(R28_Table b_).bind fun c52=>(R23_Same c51 c52).bind fun c53=>some c53
def L28_LazySteps (l_:T_api_Lazy) (o_:T_api_Obs) (inputs_:Int):Option (Bool) :=
 (L28_great l_ o_).bind fun c51=>cond (c51) ((L28_awake).bind fun c53=>some c53) ((lazy_New inputs_).bind fun c54=>(R28_New inputs_).bind fun c55=>(zq113 l_ o_).bind fun c56=>(R28_Step l_ o_).bind fun c57=>((R28_Same c54.1 c55.1).bind fun c71=>cond (c71) (cond (decide (c54.2=c55.2)) ((R28_Same c56.1 c57.1).bind fun c74=>cond (c74) ((R01_SameWords c56.2.1 c57.2.1).bind fun c76=>cond (c76) (cond ((c56.2.2.1==c57.2.2.1)) (cond (decide (c56.2.2.2=c57.2.2.2)) ((L28_awake).bind fun c80=>some c80) (some false)) (some false)) (some false)) (some false)) (some false)) (some false):Option (Bool)).bind (fun (y70:Bool)=>some y70))
def R23_place.s2 (l_:List Int) (n_:Int) (i67:Nat):Option (Nat⊕(Unit⊕Int)) :=
 cond (decide ((↑i67:Int)<(↑(List.length l_):Int))) (idxn l_ i67 fun e73=>cond (decide (e73=n_)) (some (.inr (.inr (↑i67:Int)))) (some (.inl (i67+1)))) (some (.inr (.inl ())))
def R23_place (l_:List Int) (n_:Int):Option (Int) :=
 (iter (fun (s:Nat)=>R23_place.s2 l_ n_ s) fuel 0:Option (Unit⊕Int)).bind (Sum.elim (fun (_:Unit)=>some 0) some)
def R23_built.s18 (t_:T_api_Table) (o_:T_api_Obs) (l_:List Int) (e482:List Int) (y527:List Int) (y528:List Int) (a529:Nat):Option ((List Int×List Int×Nat)⊕(List Int×List Int)) :=
 cond (decide ((↑a529:Int)<t_.Inputs)) ((R23_After o_ e482 [(↑a529:Int)]).bind fun c541=>(R23_Joined e482 [(↑a529:Int)]).bind fun c542=>(R23_find t_ o_ c542).bind fun c543=>(R23_place l_ c543).bind fun c544=>chk (capOk (List.length y527+1) 8) (idxn c541.1 0 fun e546=>chk (capOk (List.length y528+1) 8) (chk (inR ((↑a529:Int)+1)) (some (.inl ((y527++[c544]),(y528++[e546]),(a529+1))))))) (some (.inr (y527,y528)))
def R23_built.k19 (y388:List (List Int)) (y389:List (List Int)) (y390:List (List Int)) (i391:Nat) (e482:List Int) (y519:List Int) (y520:List Int):Option ((List (List Int)×List (List Int)×List (List Int)×Nat)⊕(List (List Int)×List (List Int)×List (List Int))) :=
 chk (capOk (List.length y388+1) 24) (chk (capOk (List.length y389+1) 24) ((R23_Joined e482 []).bind fun c565=>chk (capOk (List.length y390+1) 24) (some (.inl ((y388++[y519]),(y389++[y520]),(y390++[c565]),(i391+1))))))
def R23_built.s20 (t_:T_api_Table) (o_:T_api_Obs) (l_:List Int) (y388:List (List Int)) (y389:List (List Int)) (y390:List (List Int)) (i391:Nat):Option ((List (List Int)×List (List Int)×List (List Int)×Nat)⊕(List (List Int)×List (List Int)×List (List Int))) :=
 cond (decide ((↑i391:Int)<(↑(List.length l_):Int))) (idxn l_ i391 fun e481=>idx t_.Prefixes e481 fun e482=>(iter (fun (s:List Int×List Int×Nat)=>R23_built.s18 t_ o_ l_ e482 s.1 s.2.1 s.2.2) fuel ([],[],0):Option (List Int×List Int)).bind (fun (s:List Int×List Int)=>R23_built.k19 y388 y389 y390 i391 e482 s.1 s.2)) (some (.inr (y388,y389,y390)))
def R23_built.k21 (t_:T_api_Table) (y310:List (List Int)) (y311:List (List Int)) (y312:List (List Int)):Option (T_api_Hyp) :=
 some (⟨(⟨t_.Inputs,0,y310,y311⟩:T_api_Mealy),y312⟩:T_api_Hyp)
def R23_built (t_:T_api_Table) (o_:T_api_Obs) (l_:List Int):Option (T_api_Hyp) :=
 (iter (fun (s:List (List Int)×List (List Int)×List (List Int)×Nat)=>R23_built.s20 t_ o_ l_ s.1 s.2.1 s.2.2.1 s.2.2.2) fuel ([],[],[],0):Option (List (List Int)×List (List Int)×List (List Int))).bind (fun (s:List (List Int)×List (List Int)×List (List Int))=>R23_built.k21 t_ s.1 s.2.1 s.2.2)
def R23_firsts.s2 (t_:T_api_Table) (o_:T_api_Obs) (y75:List Int) (i76:Nat):Option ((List Int×Nat)⊕List Int) :=
 cond (decide ((↑i76:Int)<(↑(List.length t_.Prefixes):Int))) (idxn t_.Prefixes i76 fun e84=>(R23_find t_ o_ e84).bind fun c85=>cond (decide (c85=(↑i76:Int))) (chk (capOk (List.length y75+1) 8) (some (.inl ((y75++[(↑i76:Int)]),(i76+1))))) (some (.inl (y75,(i76+1))))) (some (.inr y75))
def R23_firsts (t_:T_api_Table) (o_:T_api_Obs):Option (List Int) :=
 (iter (fun (s:List Int×Nat)=>R23_firsts.s2 t_ o_ s.1 s.2) fuel ([],0):Option (List Int)).bind (fun (y70:List Int)=>some y70)
def R28_missing.s13 (o_:T_api_Obs) (words_:List (List Int)) (ends_:List (List Int)) (i320:Nat) (y429:List (List Int)) (k430:Nat):Option ((List (List Int)×Nat)⊕(List (List Int)⊕((List (List Int)×Nat)⊕(List (List Int)⊕(List (List Int)×Int))))) :=
 cond (decide ((↑k430:Int)<(↑(List.length ends_):Int))) (idxn words_ i320 fun e441=>idxn ends_ k430 fun e442=>(R01_Join [e441,e442]).bind fun c443=>cond (decide (1024<(↑(List.length c443):Int))) (some (.inr (.inr (.inr (.inr ([],3)))))) ((R16_Answer o_ c443).bind fun c445=>cond ((!c445.2)) (chk (capOk (List.length y429+1) 24) (some (.inl ((y429++[c443]),(k430+1))))) (some (.inl (y429,(k430+1)))))) (some (.inr (.inl y429)))
def R28_missing.s14 (o_:T_api_Obs) (words_:List (List Int)) (ends_:List (List Int)) (y319:List (List Int)) (i320:Nat):Option ((List (List Int)×Nat)⊕(List (List Int)⊕(List (List Int)×Int))) :=
 cond (decide ((↑i320:Int)<(↑(List.length words_):Int))) ((iter (fun (s:List (List Int)×Nat)=>R28_missing.s13 o_ words_ ends_ i320 s.1 s.2) fuel (y319,0):Option (List (List Int)⊕((List (List Int)×Nat)⊕(List (List Int)⊕(List (List Int)×Int))))).bind (Sum.elim (fun (y420:List (List Int))=>some (.inl (y420,(i320+1)))) some)) (some (.inr (.inl y319)))
def R28_missing (o_:T_api_Obs) (words_:List (List Int)) (ends_:List (List Int)):Option (List (List Int)×Int) :=
 (iter (fun (s:List (List Int)×Nat)=>R28_missing.s14 o_ words_ ends_ s.1 s.2) fuel ([],0):Option (List (List Int)⊕(List (List Int)×Int))).bind (Sum.elim (fun (y254:List (List Int))=>(R02_Maximal y254).bind fun c458=>some (c458,0)) some)
def R23_Row (t_:T_api_Table) (o_:T_api_Obs) (w_:List Int):Option (List (List Int)×Bool) :=
 (R23_Check t_ o_).bind fun c51=>cond (decide (c51≠0)) (some ([],false)) ((R23_row o_ t_.Suffixes w_).bind fun c53=>some (c53.1,c53.2))
def R28_class.s2 (l_:T_api_Lazy) (o_:T_api_Obs) (c52:List (List Int)×Bool) (i109:Nat):Option (Nat⊕(Unit⊕Int)) :=
 cond (decide ((↑i109:Int)<(↑(List.length l_.Short):Int))) ((R28_Table l_).bind fun c125=>idxn l_.Short i109 fun e126=>(R23_Row c125 o_ e126).bind fun c127=>(cond (c127.2) ((R06_Lists c127.1 c52.1).bind fun c134=>some c134) (some false):Option (Bool)).bind (fun (y132:Bool)=>cond (y132) (some (.inr (.inr (↑i109:Int)))) (some (.inl (i109+1))))) (some (.inr (.inl ())))
def R28_class (l_:T_api_Lazy) (o_:T_api_Obs) (w_:List Int):Option (Int) :=
 (R28_Table l_).bind fun c51=>(R23_Row c51 o_ w_).bind fun c52=>(iter (fun (s:Nat)=>R28_class.s2 l_ o_ c52 s) fuel 0:Option (Unit⊕Int)).bind (Sum.elim (fun (_:Unit)=>some (-1:Int)) some)
def R28_differ (o_:T_api_Obs) (u_:List Int) (r_:List Int) (v_:List Int):Option (Bool) :=
 (R23_After o_ u_ v_).bind fun c51=>(R23_After o_ r_ v_).bind fun c52=>(R06_Ints c51.1 c52.1).bind fun c53=>some (!c53)
def R28_chain.s2 (l_:T_api_Lazy) (o_:T_api_Obs) (u274:List Int) (r275:List Int) (v276:List Int) (y277:List (List Int)):Option ((List Int×List Int×List Int×List (List Int))⊕(List (List Int)⊕(List (List Int)×List (List Int)×Int))) :=
 cond (decide (1<(↑(List.length v276):Int))) (chk ((0:Int)≤1∧1≤(↑(List.length v276):Int)) ((R01_Join [u274,(List.take 1 v276)]).bind fun c334=>chk ((0:Int)≤1∧1≤(↑(List.length v276):Int)) ((R01_Join [r275,(List.take 1 v276)]).bind fun c336=>(R28_missing o_ [c334,c336] l_.Suffixes).bind fun c337=>(cond (decide (c337.2≠0)) (some true) (some (decide (0<(↑(List.length c337.1):Int)))):Option (Bool)).bind (fun (y341:Bool)=>cond (y341) (some (.inr (.inr ([],c337.1,c337.2)))) ((R28_Table l_).bind fun c349=>(R23_Row c349 o_ c334).bind fun c350=>(R28_Table l_).bind fun c351=>(R23_Row c351 o_ c336).bind fun c352=>(R06_Lists c350.1 c352.1).bind fun c353=>cond ((!c353)) (some (.inr (.inr (y277,[],0)))) ((R28_class l_ o_ c334).bind fun c355=>cond (decide (c355<0)) (some (.inr (.inr ([],[],10)))) (chk ((0:Int)≤1∧1≤(↑(List.length v276):Int)) (idx l_.Short c355 fun e358=>(R28_missing o_ [c334,e358] [(List.drop 1 v276)]).bind fun c359=>(cond (decide (c359.2≠0)) (some true) (some (decide (0<(↑(List.length c359.1):Int)))):Option (Bool)).bind (fun (y363:Bool)=>cond (y363) (some (.inr (.inr ([],c359.1,c359.2)))) ((idx l_.Short c355 fun e377=>(R28_differ o_ c334 e377 (List.drop 1 v276)).bind fun c378=>cond (c378) (some c334) (some c336):Option (List Int)).bind (fun (u376:List Int)=>idx l_.Short c355 fun e383=>chk (capOk (List.length y277+1) 24) (some (.inl (u376,e383,(List.drop 1 v276),(y277++[u376]))))))))))))))) (some (.inr (.inl y277)))
def R28_chain (l_:T_api_Lazy) (o_:T_api_Obs) (u_:List Int) (r_:List Int) (v_:List Int):Option (List (List Int)×List (List Int)×Int) :=
 (iter (fun (s:List Int×List Int×List Int×List (List Int))=>R28_chain.s2 l_ o_ s.1 s.2.1 s.2.2.1 s.2.2.2) fuel (u_,r_,v_,[u_]):Option (List (List Int)⊕(List (List Int)×List (List Int)×Int))).bind (Sum.elim (fun (y220:List (List Int))=>some (y220,[],0)) some)
def R06_Outs.s2 (m_:T_api_Mealy) (w_:List Int) (s90:Int) (y91:List Int) (i92:Nat):Option ((Int×List Int×Nat)⊕(Int×List Int)) :=
 cond (decide ((↑i92:Int)<(↑(List.length w_):Int))) (idx m_.Out s90 fun e103=>idxn w_ i92 fun e104=>idx e103 e104 fun e105=>chk (capOk (List.length y91+1) 8) (idx m_.Next s90 fun e107=>idxn w_ i92 fun e108=>idx e107 e108 fun e109=>some (.inl (e109,(y91++[e105]),(i92+1))))) (some (.inr (s90,y91)))
def R06_Outs.k3 (s81:Int) (y82:List Int):Option (List Int×Int) :=
 some (y82,s81)
def R06_Outs (m_:T_api_Mealy) (s_:Int) (w_:List Int):Option (List Int×Int) :=
 (iter (fun (s:Int×List Int×Nat)=>R06_Outs.s2 m_ w_ s.1 s.2.1 s.2.2) fuel (s_,[],0):Option (Int×List Int)).bind (fun (s:Int×List Int)=>R06_Outs.k3 s.1 s.2)
def R06_row.s2 (m_:T_api_Mealy) (s_:Int) (a174:Nat):Option (Nat⊕(Unit⊕Int)) :=
 cond (decide ((↑a174:Int)<m_.Inputs)) ((idx m_.Next s_ fun e219=>idxn e219 a174 fun e220=>cond (decide (e220<0)) (some true) (idx m_.Next s_ fun e222=>idxn e222 a174 fun e223=>cond (decide ((↑(List.length m_.Next):Int)≤e223)) (some true) (idx m_.Out s_ fun e225=>idxn e225 a174 fun e226=>cond (decide (e226<0)) (some true) (idx m_.Out s_ fun e228=>idxn e228 a174 fun e229=>some (decide (1048576<e229))))):Option (Bool)).bind (fun (y218:Bool)=>cond (y218) (some (.inr (.inr 2))) (chk (inR ((↑a174:Int)+1)) (some (.inl (a174+1)))))) (some (.inr (.inl ())))
def R06_row (m_:T_api_Mealy) (s_:Int):Option (Int) :=
 (idx m_.Next s_ fun e57=>cond (decide ((↑(List.length e57):Int)≠m_.Inputs)) (some true) (idx m_.Out s_ fun e59=>some (decide ((↑(List.length e59):Int)≠m_.Inputs))):Option (Bool)).bind (fun (y56:Bool)=>cond (y56) (some 1) ((iter (fun (s:Nat)=>R06_row.s2 m_ s_ s) fuel 0:Option (Unit⊕Int)).bind (Sum.elim (fun (_:Unit)=>some 0) some)))
def R06_Valid.s2 (m_:T_api_Mealy) (s81:Nat):Option (Nat⊕(Unit⊕Int)) :=
 cond (decide ((↑s81:Int)<(↑(List.length m_.Next):Int))) ((R06_row m_ (↑s81:Int)).bind fun c87=>cond (decide (c87≠0)) (some (.inr (.inr c87))) (some (.inl (s81+1)))) (some (.inr (.inl ())))
def R06_Valid (m_:T_api_Mealy):Option (Int) :=
 (cond (decide (m_.Inputs<1)) (some true) (some (decide (64<m_.Inputs))):Option (Bool)).bind (fun (y54:Bool)=>cond (y54) (some 2) (cond (decide ((↑(List.length m_.Next):Int)=0)) (some 19) (cond (decide (128<(↑(List.length m_.Next):Int))) (some 11) ((cond (decide (m_.Start<0)) (some true) (some (decide ((↑(List.length m_.Next):Int)≤m_.Start))):Option (Bool)).bind (fun (y62:Bool)=>cond (y62) (some 2) (cond (decide ((↑(List.length m_.Out):Int)≠(↑(List.length m_.Next):Int))) (some 1) ((iter (fun (s:Nat)=>R06_Valid.s2 m_ s) fuel 0:Option (Unit⊕Int)).bind (Sum.elim (fun (_:Unit)=>some 0) some))))))))
def R08_finer.s89 (m_:T_api_Mealy) (class_:List Int) (s3445:Nat) (t4904:Int) (same5139:Bool) (a5140:Nat):Option ((Bool×Nat)⊕Bool) :=
 (cond (decide ((↑a5140:Int)<m_.Inputs)) (some same5139) (some false):Option (Bool)).bind (fun (y5166:Bool)=>cond (y5166) (idxn m_.Out s3445 fun e5171=>idxn e5171 a5140 fun e5172=>idx m_.Out t4904 fun e5173=>idxn e5173 a5140 fun e5174=>cond (decide (e5172=e5174)) (idxn m_.Next s3445 fun e5176=>idxn e5176 a5140 fun e5177=>idx class_ e5177 fun e5178=>idx m_.Next t4904 fun e5179=>idxn e5179 a5140 fun e5180=>idx class_ e5180 fun e5181=>chk (inR ((↑a5140:Int)+1)) (some (.inl (decide (e5178=e5181),(a5140+1))))) (chk (inR ((↑a5140:Int)+1)) (some (.inl (false,(a5140+1)))))) (some (.inr same5139)))
def R08_finer.s90 (m_:T_api_Mealy) (class_:List Int) (y3443:List Int) (s3445:Nat) (found4903:Int) (t4904:Int):Option ((Int×Int)⊕Int) :=
 cond (decide (0≤t4904)) (idxn class_ s3445 fun e5050=>idx class_ t4904 fun e5051=>(iter (fun (s:Bool×Nat)=>R08_finer.s89 m_ class_ s3445 t4904 s.1 s.2) fuel (decide (e5050=e5051),0):Option (Bool)).bind (fun (same5119:Bool)=>cond (same5119) (idx y3443 t4904 fun e5189=>chk (inR (t4904-1)) (some (.inl (e5189,(t4904-1))))) (chk (inR (t4904-1)) (some (.inl (found4903,(t4904-1))))))) (some (.inr found4903))
def R08_finer.k91 (y3443:List Int) (s3445:Nat) (count5200:Nat) (found5201:Int):Option ((List Int×Nat×Nat)⊕List Int) :=
 chk (capOk (List.length y3443+1) 8) (some (.inl ((y3443++[found5201]),count5200,(s3445+1))))
def R08_finer.s92 (m_:T_api_Mealy) (class_:List Int) (y3443:List Int) (count3444:Nat) (s3445:Nat):Option ((List Int×Nat×Nat)⊕List Int) :=
 cond (decide ((↑s3445:Int)<(↑(List.length class_):Int))) ((iter (fun (s:Int×Int)=>R08_finer.s90 m_ class_ y3443 s3445 s.1 s.2) fuel ((-1:Int),((↑s3445:Int)-1)):Option (Int)).bind (fun (found4761:Int)=>(cond (decide (found4761<0)) (chk (inR ((↑count3444:Int)+1)) (some ((count3444+1),(↑count3444:Int)))) (some (count3444,found4761)):Option (Nat×Int)).bind (fun (s:Nat×Int)=>R08_finer.k91 y3443 s3445 s.1 s.2))) (some (.inr y3443))
def R08_finer (m_:T_api_Mealy) (class_:List Int):Option (List Int) :=
 (iter (fun (s:List Int×Nat×Nat)=>R08_finer.s92 m_ class_ s.1 s.2.1 s.2.2) fuel ([],0,0):Option (List Int)).bind (fun (y2630:List Int)=>some y2630)
def R08_Partition.s2 (m_:T_api_Mealy) (k_:Int) (y94:List Int) (i95:Nat):Option ((List Int×Nat)⊕List Int) :=
 (cond (decide ((↑i95:Int)<k_)) (some (decide ((↑i95:Int)<(↑(List.length m_.Next):Int)))) (some false):Option (Bool)).bind (fun (y109:Bool)=>cond (y109) ((R08_finer m_ y94).bind fun c113=>chk (inR ((↑i95:Int)+1)) (some (.inl (c113,(i95+1))))) (some (.inr y94)))
def R08_Partition (m_:T_api_Mealy) (k_:Int):Option (List Int×Int) :=
 (R06_Valid m_).bind fun c51=>cond (decide (c51≠0)) (some ([],c51)) (chk ((0:Int)≤(↑(List.length m_.Next):Int)∧(↑(List.length m_.Next):Int)≤(↑(List.length m_.Next):Int)∧capOk (Int.toNat (↑(List.length m_.Next):Int)) 8) ((iter (fun (s:List Int×Nat)=>R08_Partition.s2 m_ k_ s.1 s.2) fuel ((List.replicate (List.length m_.Next) 0),0):Option (List Int)).bind (fun (y85:List Int)=>some (y85,0))))
def R08_Classes (m_:T_api_Mealy):Option (List Int×Int) :=
 (R08_Partition m_ (↑(List.length m_.Next):Int)).bind fun c51=>some (c51.1,c51.2)
def R08_Min.s2 (y70:List Int) (i71:Nat):Option ((List Int×Nat)⊕List Int) :=
 cond (decide ((↑i71:Int)<(↑(List.length y70):Int))) (idxn y70 i71 fun e76=>some (.inl ((List.set y70 i71 (-1:Int)),(i71+1)))) (some (.inr y70))
def R08_Min.k55 (m_:T_api_Mealy) (c51:List Int×Int) (i1027:Nat) (y1421:List Int) (y1422:List Int) (a1423:Nat) (e1463:Int) (y1472:List Int) (y1473:List Int):Option ((List Int×List Int×List Int×List Int×Nat)⊕(List Int×List Int×List Int×List Int)) :=
 idx c51.1 e1463 fun e1487=>idx y1473 e1487 fun e1488=>chk (capOk (List.length y1421+1) 8) (idxn y1472 i1027 fun e1490=>idx m_.Out e1490 fun e1491=>idxn e1491 a1423 fun e1492=>chk (capOk (List.length y1422+1) 8) (chk (inR ((↑a1423:Int)+1)) (some (.inl (y1472,y1473,(y1421++[e1488]),(y1422++[e1492]),(a1423+1))))))
def R08_Min.s56 (m_:T_api_Mealy) (c51:List Int×Int) (i1027:Nat) (y1419:List Int) (y1420:List Int) (y1421:List Int) (y1422:List Int) (a1423:Nat):Option ((List Int×List Int×List Int×List Int×Nat)⊕(List Int×List Int×List Int×List Int)) :=
 cond (decide ((↑a1423:Int)<m_.Inputs)) (idxn y1419 i1027 fun e1461=>idx m_.Next e1461 fun e1462=>idxn e1462 a1423 fun e1463=>(idx c51.1 e1463 fun e1474=>idx y1420 e1474 fun e1475=>cond (decide (e1475<0)) (idx c51.1 e1463 fun e1477=>idx y1420 e1477 fun e1478=>chk (capOk (List.length y1419+1) 8) (some ((y1419++[e1463]),(List.set y1420 e1477.toNat (↑(List.length y1419):Int))))) (some (y1419,y1420)):Option (List Int×List Int)).bind (fun (s:List Int×List Int)=>R08_Min.k55 m_ c51 i1027 y1421 y1422 a1423 e1463 s.1 s.2)) (some (.inr (y1419,y1420,y1421,y1422)))
def R08_Min.k57 (y1025:List (List Int)) (y1026:List (List Int)) (i1027:Nat) (y1385:List Int) (y1386:List Int) (y1387:List Int) (y1388:List Int):Option ((List Int×List Int×List (List Int)×List (List Int)×Nat)⊕(List (List Int)×List (List Int))) :=
 chk (capOk (List.length y1025+1) 24) (chk (capOk (List.length y1026+1) 24) (some (.inl (y1385,y1386,(y1025++[y1387]),(y1026++[y1388]),(i1027+1)))))
def R08_Min.s58 (m_:T_api_Mealy) (c51:List Int×Int) (y1023:List Int) (y1024:List Int) (y1025:List (List Int)) (y1026:List (List Int)) (i1027:Nat):Option ((List Int×List Int×List (List Int)×List (List Int)×Nat)⊕(List (List Int)×List (List Int))) :=
 cond (decide ((↑i1027:Int)<(↑(List.length y1023):Int))) ((iter (fun (s:List Int×List Int×List Int×List Int×Nat)=>R08_Min.s56 m_ c51 i1027 s.1 s.2.1 s.2.2.1 s.2.2.2.1 s.2.2.2.2) fuel (y1023,y1024,[],[],0):Option (List Int×List Int×List Int×List Int)).bind (fun (s:List Int×List Int×List Int×List Int)=>R08_Min.k57 y1025 y1026 i1027 s.1 s.2.1 s.2.2.1 s.2.2.2)) (some (.inr (y1025,y1026)))
def R08_Min.k59 (m_:T_api_Mealy) (y800:List (List Int)) (y801:List (List Int)):Option (T_api_Mealy×Int) :=
 some ((⟨m_.Inputs,0,y800,y801⟩:T_api_Mealy),0)
def R08_Min (m_:T_api_Mealy):Option (T_api_Mealy×Int) :=
 (R08_Classes m_).bind fun c51=>cond (decide (c51.2≠0)) (some ((⟨0,0,[],[]⟩:T_api_Mealy),c51.2)) (chk ((0:Int)≤(↑(List.length m_.Next):Int)∧(↑(List.length m_.Next):Int)≤(↑(List.length m_.Next):Int)∧capOk (Int.toNat (↑(List.length m_.Next):Int)) 8) ((iter (fun (s:List Int×Nat)=>R08_Min.s2 s.1 s.2) fuel ((List.replicate (List.length m_.Next) 0),0):Option (List Int)).bind (fun (y67:List Int)=>idx c51.1 m_.Start fun e83=>idx y67 e83 fun e84=>(iter (fun (s:List Int×List Int×List (List Int)×List (List Int)×Nat)=>R08_Min.s58 m_ c51 s.1 s.2.1 s.2.2.1 s.2.2.2.1 s.2.2.2.2) fuel ([m_.Start],(List.set y67 e83.toNat 0),[],[],0):Option (List (List Int)×List (List Int))).bind (fun (s:List (List Int)×List (List Int))=>R08_Min.k59 m_ s.1 s.2))))
def R08_Minimal (m_:T_api_Mealy):Option (Bool) :=
 (R08_Min m_).bind fun c51=>(cond (decide (c51.2=0)) (some (decide ((↑(List.length c51.1.Next):Int)=(↑(List.length m_.Next):Int)))) (some false):Option (Bool)).bind (fun (y55:Bool)=>some y55)
end Go.Proofs.YtedabpfahmealaaGreatDoor.Sym

/-
 Laws of rounds: what a loop comes to, in plain words. No program in sight.
-/
namespace Go.Proofs.YtedabpfahmealaaGreatDoor.Sym
section
variable {S R A B α β:Type}
theorem iter_post {step:S→Option (S⊕R)} (I:S→Prop) (m:S→Nat) (Q:R→Prop) (h:∀ s,I s→(∃ s',step s=some (.inl s')∧I s'∧m s'<m s)∨∃ r,step s=some (.inr r)∧Q r) :
  ∀ (n:Nat) (s:S),I s→m s<n→∃ r,iter step n s=some r∧Q r
 | 0,_,_,hm=>absurd hm (Nat.not_lt_zero _)
 | n+1,s,hi,hm=>by
  unfold iter
  rcases h s hi with ⟨s',e,hi',hm'⟩ | ⟨r,e,hq⟩
  ·rw [e]
   exact iter_post I m Q h n s' hi' (by omega)
  ·rw [e]
   exact ⟨r,rfl,hq⟩
theorem iter_eq {step:S→Option (S⊕R)} {r:R} (I:S→Prop) (m:S→Nat) (h:∀ s,I s→(∃ s',step s=some (.inl s')∧I s'∧m s'<m s)∨step s=some (.inr r)) {n:Nat} {s:S} (hi:I s) (hm:m s<n):iter step n s=some r:=by
 obtain ⟨r',e,rfl⟩:=iter_post I m (fun r'=>r'=r) (fun s hs=>(h s hs).imp id fun e=>⟨r,e,rfl⟩) n s hi hm
 exact e
def walk (g:A→Nat→α→Option (A⊕R)) (fin:A→Option R):A→Nat→List α→Option R
 | a,_,[]=>fin a
 | a,i,x::l=>(g a i x).bind (Sum.elim (fun a'=>walk g fin a' (i+1) l) some)
theorem idxn_at {l:List α} {i:Nat} {x:α} {k:α→Option β} (h:l[i]?=some x):idxn l i k=k x:=by unfold idxn;rw [h]
theorem idx_at {l:List α} {n:Int} {i:Nat} {x:α} {k:α→Option β} (hn:n=(i:Int)) (h:l[i]?=some x):idx l n k=k x:=by
 subst hn
 unfold idx
 rw [if_pos (by omega),Int.toNat_natCast,h]
theorem chk_pos {c:Prop} [Decidable c] {k:Option α} (h:c):chk c k=k:=by unfold chk;rw [if_pos h]
theorem obind {a:α} {f:α→Option β}:(some a).bind f=f a:=(Option.bind_some a f).trans (Eq.trans rfl rfl)
theorem fuel_big:100000000000000<fuel:=by unfold fuel;omega
theorem dec_lt {l:List α} {i:Nat} {x:α} (h:l[i]?=some x):decide ((↑i:Int)<(↑l.length:Int))=true:=by
 have:=(List.getElem?_eq_some_iff.1 h).1
 simpa using this
theorem dec_end (l:List α):decide ((↑l.length:Int)<(↑l.length:Int))=false:=by simp
def scan (g:Nat→α→Option R):Nat→List α→Option R
 | _,[]=>none
 | i,x::l=>match g i x with | some r=>some r | none=>scan g (i+1) l
theorem scan_none {g:Nat→α→Option R}:∀ {l:List α} {j:Nat},scan g j l=none↔∀ i x,l[i]?=some x→g (j+i) x=none
 | [],j=>by simp [scan]
 | y::l,j=>by
  constructor
  ·intro h i x hx
   unfold scan at h
   cases e:g j y with
   | some r=>rw [e] at h;cases h
   | none =>
    rw [e] at h
    match i,hx with
    | 0,hx =>
     simp at hx
     subst hx
     exact e
    | i+1,hx =>
     have:=(scan_none (g:=g) (l:=l) (j:=j+1)).1 h i x (by simpa using hx)
     rwa [show j+1+i=j+(i+1) by omega] at this
  ·intro h
   unfold scan
   have h0:=h 0 y rfl
   rw [Nat.add_zero] at h0
   rw [h0]
   exact (scan_none (g:=g) (l:=l) (j:=j+1)).2 fun i x hx=>by
    have:=h (i+1) x (by simpa using hx)
    rwa [show j+(i+1)=j+1+i by omega] at this
theorem iter_scan {step:Nat→Option (Nat⊕(Unit⊕R))} {l:List α} (g:Nat→α→Option R) (h1:∀ i x,l[i]?=some x→step i=some (match g i x with | some r=>.inr (.inr r) | none=>.inl (i+1))) (h2:step l.length=some (.inr (.inl ()))) (hl:l.length≤100000000000000) :
  iter step fuel 0=some (match scan g 0 l with | some r=>.inr r | none=>.inl ()):=by
 have key:∀ (n i:Nat),i≤l.length→l.length-i<n→iter step n i=some (match scan g i (l.drop i) with | some r=>.inr r | none=>.inl ()):=by
  intro n
  induction n with
  | zero=>intro i _ h;omega
  | succ n ih =>
   intro i hi hn
   rcases Nat.lt_or_ge i l.length with h | h
   ·rw [List.drop_eq_getElem_cons h]
    unfold iter scan
    rw [h1 i _ (List.getElem?_eq_getElem h)]
    cases g i l[i] with
    | some r=>rfl
    | none=>exact ih (i+1) h (by omega)
   ·have e:i=l.length:=by omega
    subst e
    rw [List.drop_length]
    unfold iter scan
    rw [h2]
 exact key fuel 0 (Nat.zero_le _) (by have:=fuel_big;omega)
def foldi (f:A→Nat→α→A):A→Nat→List α→A
 | a,_,[]=>a
 | a,i,x::l=>foldi f (f a i x) (i+1) l
theorem iter_fold {step:A×Nat→Option ((A×Nat)⊕R)} {l:List α} (f:A→Nat→α→A) (fin:A→R) (Inv:A→Nat→Prop) (h1:∀ a i x,Inv a i→l[i]?=some x→step (a,i)=some (.inl (f a i x,i+1))∧Inv (f a i x) (i+1))
  (h2:∀ a,Inv a l.length→step (a,l.length)=some (.inr (fin a))) (hl:l.length≤100000000000000) {a0:A} (h0:Inv a0 0):iter step fuel (a0,0)=some (fin (foldi f a0 0 l))∧Inv (foldi f a0 0 l) l.length:=by
 have key:∀ (n i:Nat) (a:A),Inv a i→i≤l.length→l.length-i<n→iter step n (a,i)=some (fin (foldi f a i (l.drop i)))∧Inv (foldi f a i (l.drop i)) l.length:=by
  intro n
  induction n with
  | zero=>intro i _ _ _ h;omega
  | succ n ih =>
   intro i a hv hi hn
   rcases Nat.lt_or_ge i l.length with h | h
   ·rw [List.drop_eq_getElem_cons h]
    unfold iter foldi
    obtain ⟨e,hv'⟩:=h1 a i _ hv (List.getElem?_eq_getElem h)
    rw [e]
    exact ih (i+1) _ hv' h (by omega)
   ·have e:i=l.length:=by omega
    subst e
    rw [List.drop_length]
    unfold iter foldi
    rw [h2 a hv]
    exact ⟨rfl,hv⟩
 exact key fuel 0 a0 h0 (Nat.zero_le _) (by have:=fuel_big;omega)
theorem foldi_eq {f:A→α→A}:∀ (l:List α) (a:A) (i:Nat),foldi (fun a _ x=>f a x) a i l=l.foldl f a
 | [],_,_=>rfl
 | x::l,a,i=>by unfold foldi;exact foldi_eq l (f a x) (i+1)
end
end Go.Proofs.YtedabpfahmealaaGreatDoor.Sym

/-
 The comparisons of words are what they say; they may be handed to a sort.
-/
namespace Go.Proofs.YtedabpfahmealaaGreatDoor.Sym
open Go.RowKit
set_option maxRecDepth 100000
theorem zq50 (x y:Int):zq75 x y=some (cmpI x y):=by
 unfold zq75 zq86 cmpI
 by_cases h1:x<y
 ·simp [h1]
 ·by_cases h2:y<x<;>simp [h1,h2]
theorem zq56 (s t:List Int) (hs:s.length≤100000000000000):zq27 s t=some (lexI s t):=by
 have key:=iter_post (step:=fun k=>zq27.s2 s t k) (fun k=>k≤s.length∧k≤t.length∧lexI s t=lexI (s.drop k) (t.drop k)) (fun k=>s.length-k)
  (fun r=>Sum.elim (fun (_:Unit)=>cond (decide ((↑(List.length s):Int)<(↑(List.length t):Int))) (some (-1:Int)) (some 0)) some r=some (lexI s t)) (fun k ⟨h1,h2,h3⟩=>by
   unfold zq27.s2
   rcases Nat.lt_or_ge k s.length with h | h
   ·have hx:=List.getElem?_eq_getElem h
    rw [dec_lt hx,cond_true,idxn_at hx]
    by_cases h4:t.length≤k
    ·right
     refine ⟨.inr 1,by simp [h4],?_⟩
     rw [h3,lexI_long h h4]
     rfl
    ·have hy:=List.getElem?_eq_getElem (show k<t.length by omega)
     have hst:=lexI_step hx hy
     have d4:decide ((↑(List.length t):Int)≤(↑k:Int))=false:=by simp;omega
     rw [d4,cond_false,idxn_at hy,zq50]
     by_cases h5:cmpI s[k] t[k]=0
     ·left
      rw [if_pos h5] at hst
      exact ⟨k+1,by simp [h5],⟨by omega,by omega,by rw [h3,hst]⟩,by omega⟩
     ·right
      rw [if_neg h5] at hst
      exact ⟨.inr (cmpI s[k] t[k]),by simp [h5],by rw [h3,hst];rfl⟩
   ·right
    have e:k=s.length:=by omega
    subst e
    rw [dec_end,cond_false]
    refine ⟨.inl (),rfl,?_⟩
    rw [h3,lexI_end (Nat.le_refl _)]
    by_cases h4:s.length<t.length<;>simp [h4]) fuel 0 ⟨Nat.zero_le _,Nat.zero_le _,rfl⟩ (by have:=fuel_big;simp only [Nat.sub_zero];omega)
 obtain ⟨r,e,hq⟩:=key
 unfold zq27
 rw [e]
 exact hq
theorem cmp_Or_two (x y:Int):zq110 [x,y]=some (if x≠0 then x else y):=by
 unfold zq110
 have e:fuel=(fuel-3)+1+1+1:=by unfold fuel;omega
 rw [e]
 by_cases h1:x=0
 ·by_cases h2:y=0
  ·simp [iter,zq110.s2,idxn,h1,h2]
  ·simp [iter,zq110.s2,idxn,h1,h2]
 ·simp [iter,zq110.s2,idxn,h1]
theorem word_Lex_eq (s t:List Int) (hs:s.length≤100000000000000):word_Lex s t=some (lexI s t):=by
 unfold word_Lex
 rw [zq56 s t hs]
 rfl
theorem word_Compare_eq (s t:List Int) (hs:s.length≤100000000000000):word_Compare s t=some (cmpW s t):=by
 unfold word_Compare
 rw [zq56 s t hs,zq50]
 show (zq110 [cmpI s.length t.length,lexI s t]).bind some=_
 rw [cmp_Or_two]
 show some _=some _
 congr 1
 unfold cmpI cmpW
 by_cases h1:s.length<t.length
 ·simp [h1]
 ·by_cases h2:t.length<s.length
  ·simp [h1,h2]
  ·simp [h1,h2]
theorem cmpE_word_Lex:CmpE Tryz.prog 126 (fun x=>nL cI x) (fun x y=>word_Lex x y) :=
 ⟨fun args w=>run_enter rfl rfl rfl args w,cmpG_lex fun x y r hx h=>by rw [word_Lex_eq x y (by omega)] at h;injection h with h;exact h.symm⟩
theorem cmpE_word_Compare:CmpE Tryz.prog 101 (fun x=>nL cI x) (fun x y=>word_Compare x y) :=
 ⟨fun args w=>run_enter rfl rfl rfl args w,cmpG_compare fun x y r hx h=>by rw [word_Compare_eq x y (by omega)] at h;injection h with h;exact h.symm⟩
theorem cmpE_table_find_1:CmpE Tryz.prog 157 (fun x=>.agg (c_api_Trace x)) (fun x y=>zq94 x y) :=
 ⟨fun args w=>run_enter rfl rfl rfl args w,cmpG_find1 (T:=T_api_Trace) (i:=fun x=>x.In) (o:=fun x=>x.Out) (f:=fun x y=>zq94 x y) (fun _=>rfl) fun x y r hx h=>by
  simp only [zq94] at h
  rw [word_Lex_eq _ _ (by omega)] at h
  injection h with h
  exact h.symm⟩
end Go.Proofs.YtedabpfahmealaaGreatDoor.Sym

/-
 What the basic functions on words come to: plain laws.
-/
namespace Go.Proofs.YtedabpfahmealaaGreatDoor.Sym
set_option maxRecDepth 100000
section
variable {α β R:Type}
theorem get_at {l:List α} {i:Nat} (h:i<l.length):l[i]?=some l[i]:=List.getElem?_eq_getElem h
theorem iter_all2 [DecidableEq α] {a b:List α} {step:Nat→Option (Nat⊕(Unit⊕Bool))} (hlen:a.length=b.length) (h1:∀ i x y,a[i]?=some x→b[i]?=some y→step i=some (if x=y then .inl (i+1) else .inr (.inr false)))
  (h2:step a.length=some (.inr (.inl ()))) (hl:a.length≤100000000000000):(iter step fuel 0).bind (Sum.elim (fun _=>some true) some)=some (decide (a=b)):=by
 rw [iter_scan (l:=a) (fun i x=>if b[i]?=some x then none else some false) (fun i x hx=>?_) h2 hl]
 ·cases e:scan (fun i x=>if b[i]?=some x then none else some false) 0 a with
  | none =>
   have:=scan_none.1 e
   have hab:a=b:=by
    apply List.ext_getElem?
    intro i
    rcases Nat.lt_or_ge i a.length with h | h
    ·have h3:=this i _ (get_at h)
     rw [Nat.zero_add] at h3
     split at h3
     ·rename_i h4
      rw [get_at h,h4]
     ·cases h3
    ·rw [List.getElem?_eq_none h,List.getElem?_eq_none (by omega)]
   simp [hab]
  | some r =>
   have hne:a≠b:=fun hab=>by
    subst hab
    have:scan (fun i x=>if a[i]?=some x then none else some false) 0 a=none:=scan_none.2 fun i x hx=>by rw [Nat.zero_add,if_pos hx]
    rw [this] at e
    cases e
   have hr:r=false:=by
    have key:∀ (l:List α) (j:Nat),scan (fun i x=>if b[i]?=some x then none else some false) j l=some r→r=false:=by
     intro l
     induction l with
     | nil=>intro j h;cases h
     | cons x l ih =>
      intro j h
      unfold scan at h
      split at h
      ·rename_i r' h3
       injection h with h
       subst h
       split at h3
       ·cases h3
       ·injection h3 with h3
        exact h3.symm
      ·exact ih _ h
    exact key a 0 e
   subst hr
   simp [hne]
 ·have hi:=(List.getElem?_eq_some_iff.1 hx).1
  have hy:=get_at (l:=b) (i:=i) (by omega)
  rw [h1 i x _ hx hy]
  by_cases h:x=b[i]'(by omega)
  ·rw [if_pos h,hy,if_pos (by rw [h])]
  ·rw [if_neg h,hy,if_neg (fun h3=>h (by injection h3 with h3;exact h3.symm))]
end
theorem R06_Ints_eq (a b:List Int) (hl:a.length≤100000000000000):R06_Ints a b=some (decide (a=b)):=by
 unfold R06_Ints
 by_cases hlen:a.length=b.length
 ·rw [show decide ((↑(List.length a):Int)≠(↑(List.length b):Int))=false by simp [hlen],cond_false]
  refine iter_all2 hlen (fun i x y hx hy=>?_) ?_ hl
  ·simp only [R06_Ints.s2]
   rw [dec_lt hx,cond_true,idxn_at hx,idxn_at hy]
   by_cases h:x=y<;>simp [h]
  ·simp only [R06_Ints.s2]
   rw [dec_end]
   rfl
 ·rw [show decide ((↑(List.length a):Int)≠(↑(List.length b):Int))=true by simp;omega,cond_true]
  have:a≠b:=fun h=>hlen (by rw [h])
  simp [this]
theorem R06_Lists_eq (a b:List (List Int)) (hl:a.length≤100000000000000) (hw:∀ x∈a,x.length≤100000000000000):R06_Lists a b=some (decide (a=b)):=by
 unfold R06_Lists
 by_cases hlen:a.length=b.length
 ·rw [show decide ((↑(List.length a):Int)≠(↑(List.length b):Int))=false by simp [hlen],cond_false]
  refine iter_all2 hlen (fun i x y hx hy=>?_) ?_ hl
  ·simp only [R06_Lists.s2]
   rw [dec_lt hx,cond_true,idxn_at hx,idxn_at hy,R06_Ints_eq x y (hw x (List.mem_of_getElem? hx))]
   by_cases h:x=y<;>simp [h]
  ·simp only [R06_Lists.s2]
   rw [dec_end]
   rfl
 ·rw [show decide ((↑(List.length a):Int)≠(↑(List.length b):Int))=true by simp;omega,cond_true]
  have:a≠b:=fun h=>hlen (by rw [h])
  simp [this]
def SmW (x:List Int):Prop:=x.length≤2000000
def SmL (l:List (List Int)):Prop:=l.length≤2000000∧∀ x∈l,SmW x
theorem R23_Same_eq (a b:T_api_Table) (h1:SmL a.Prefixes) (h2:SmL a.Suffixes):R23_Same a b=some (decide (a=b)):=by
 unfold R23_Same
 rw [R06_Lists_eq _ _ (by have:=h1.1;omega) (fun x hx=>by have:x.length≤2000000:=h1.2 x hx;omega),R06_Lists_eq _ _ (by have:=h2.1;omega) (fun x hx=>by have:x.length≤2000000:=h2.2 x hx;omega)]
 obtain ⟨a1,a2,a3⟩:=a
 obtain ⟨b1,b2,b3⟩:=b
 simp only [T_api_Table.mk.injEq]
 by_cases e1:a1=b1<;>by_cases e2:a2=b2<;>by_cases e3:a3=b3<;>simp [e1,e2,e3]
theorem R01_Size_eq (n:Int):R01_Size n=some (decide (1≤n∧n≤1024)):=by
 unfold R01_Size
 by_cases h1:1≤n<;>by_cases h2:n≤1024<;>simp [h1,h2]
theorem word_permitted_eq (n:Int):word_permitted n=some (decide (1≤n∧n≤1024)):=by
 unfold word_permitted
 by_cases h1:1≤n<;>by_cases h2:n≤1024<;>simp [h1,h2]
theorem scan_all {α R:Type} {p:α→Bool} {r:R}:∀ (l:List α) (j:Nat),scan (fun _ x=>if p x=true then none else some r) j l=if l.all p=true then none else some r
 | [],_=>rfl
 | x::l,j=>by
  unfold scan
  by_cases h:p x=true
  ·simp only [h,if_true,List.all_cons,Bool.true_and]
   exact scan_all l (j+1)
  ·simp [h]
theorem R01_Check_eq (w:List Int) (n:Int) (hl:SmW w):R01_Check w n=some (checkI w n):=by
 unfold R01_Check checkI
 rw [R01_Size_eq]
 by_cases h1:1≤n∧n≤1024
 ·rw [if_pos h1]
  simp only [Option.bind_some,h1,and_self,decide_true,Bool.not_true,cond_false]
  by_cases h2:1024<w.length
  ·rw [if_pos h2,show decide ((1024:Int)<(↑(List.length w):Int))=true from decide_eq_true (by omega),cond_true]
  ·rw [if_neg h2,show decide ((1024:Int)<(↑(List.length w):Int))=false from decide_eq_false (by omega),cond_false]
   have key:=iter_scan (step:=fun s=>R01_Check.s2 w n s) (l:=w) (fun _ x=>if decide (0≤x∧x<n)=true then none else some (1:Int)) (fun i x hx=>by
    simp only [R01_Check.s2]
    rw [dec_lt hx,cond_true,idxn_at hx,idxn_at hx]
    by_cases a1:x<0
    ·simp [a1,show ¬ (0≤x) by omega]
    ·by_cases a2:n≤x
     ·simp [a1,a2,show ¬ (x<n) by omega]
     ·simp [a1,a2,show 0≤x by omega,show x<n by omega]) (by
    simp only [R01_Check.s2]
    rw [dec_end]
    rfl) (by unfold SmW at hl;omega)
   rw [key,scan_all (p:=fun x=>decide (0≤x∧x<n))]
   by_cases h:(w.all fun x=>decide (0≤x∧x<n))=true
   ·rw [if_pos h,if_pos h];rfl
   ·rw [if_neg h,if_neg h];rfl
 ·rw [if_neg h1]
  simp [h1]
theorem word_Check_eq (w:List Int) (n:Int) (hl:SmW w):word_Check w n=some (checkI w n):=by
 unfold word_Check checkI zq14 zq17
 rw [word_permitted_eq]
 by_cases h1:1≤n∧n≤1024
 ·rw [if_pos h1]
  simp only [Option.bind_some,h1,and_self,decide_true,Bool.not_true,cond_false]
  by_cases h2:1024<w.length
  ·rw [if_pos h2,show decide ((1024:Int)<(↑(List.length w):Int))=true from decide_eq_true (by omega),cond_true]
  ·rw [if_neg h2,show decide ((1024:Int)<(↑(List.length w):Int))=false from decide_eq_false (by omega),cond_false]
   have key:=iter_scan (step:=fun s=>zq17.s2 w (fun u0=>word_Check_1 u0 n) s) (l:=w) (fun i x=>if decide (0≤x∧x<n)=true then none else some (i:Int)) (fun i x hx=>by
    simp only [zq17.s2,word_Check_1]
    rw [dec_lt hx,cond_true,idxn_at hx]
    by_cases a1:x<0
    ·simp [a1,show ¬ (0≤x) by omega]
    ·by_cases a2:n≤x
     ·simp [a1,a2,show ¬ (x<n) by omega]
     ·simp [a1,a2,show 0≤x by omega,show x<n by omega]) (by
    simp only [zq17.s2]
    rw [dec_end]
    rfl) (by unfold SmW at hl;omega)
   rw [key]
   cases e:scan (fun i x=>if decide (0≤x∧x<n)=true then none else some (i:Int)) 0 w with
   | none =>
    have h3:=scan_none.1 e
    have h:(w.all fun x=>decide (0≤x∧x<n))=true:=List.all_eq_true.2 fun x hx=>by
     obtain ⟨i,hi,rfl⟩:=List.mem_iff_getElem.1 hx
     have:=h3 i _ (get_at hi)
     split at this
     ·assumption
     ·cases this
    rw [if_pos h]
    simp
   | some r =>
    have h:¬ (w.all fun x=>decide (0≤x∧x<n))=true:=fun h=>by
     have:scan (fun i x=>if decide (0≤x∧x<n)=true then none else some (i:Int)) 0 w=none:=scan_none.2 fun i x hx=>if_pos (List.all_eq_true.1 h x (List.mem_of_getElem? hx))
     rw [this] at e
     cases e
    have hr:0≤r:=by
     have key:∀ (l:List Int) (j:Nat),scan (fun i x=>if decide (0≤x∧x<n)=true then none else some (i:Int)) j l=some r→0≤r:=by
      intro l
      induction l with
      | nil=>intro j h;cases h
      | cons x l ih =>
       intro j h
       unfold scan at h
       split at h
       ·rename_i r' h3
        injection h with h
        subst h
        split at h3
        ·cases h3
        ·injection h3 with h3
         omega
       ·exact ih _ h
     exact key w 0 e
    rw [if_neg h]
    simp [hr]
 ·rw [if_neg h1]
  simp [h1]
theorem R01_Common_eq (a b:List Int) (ha:SmW a):R01_Common a b=some (common a b:Int):=by
 unfold R01_Common
 rw [iter_eq (r:=common a b) (fun k=>k≤a.length∧common a b=common (a.drop k) (b.drop k)+k) (fun k=>a.length-k) (fun k ⟨h1,h2⟩=>?_) ⟨Nat.zero_le _,by simp⟩ (by have:=fuel_big;unfold SmW at ha;omega)]
 ·rfl
 ·simp only [R01_Common.s2]
  rcases Nat.lt_or_ge k a.length with h | h
  ·have hx:=get_at h
   rcases Nat.lt_or_ge k b.length with h' | h'
   ·have hy:=get_at h'
    rw [dec_lt hx,dec_lt hy,cond_true,cond_true,idxn_at hx,idxn_at hy]
    rw [List.drop_eq_getElem_cons h,List.drop_eq_getElem_cons h'] at h2
    by_cases e:a[k]=b[k]
    ·left
     unfold SmW at ha
     refine ⟨k+1,?_,⟨h,?_⟩,by omega⟩
     ·rw [chk_pos (by unfold inR;omega)]
      simp [e]
     ·rw [h2,e]
      simp [common]
      omega
    ·right
     simp only [common,e,if_false,Nat.zero_add] at h2
     simp [e,h2]
   ·right
    rw [dec_lt hx,cond_true,show decide ((↑k:Int)<(↑(List.length b):Int))=false by simp;omega]
    rw [common_end (Or.inr h'),Nat.zero_add] at h2
    simp [h2]
  ·right
   rw [show decide ((↑k:Int)<(↑(List.length a):Int))=false by simp;omega]
   rw [common_end (Or.inl h),Nat.zero_add] at h2
   simp [h2]
theorem R01_Same_eq (a b:List Int) (ha:SmW a):R01_Same a b=some (decide (a=b)):=by
 unfold R01_Same
 rw [R01_Common_eq a b ha]
 have h:=same_iff a b
 by_cases h1:a.length=b.length
 ·rw [show decide ((↑(List.length a):Int)=(↑(List.length b):Int))=true from decide_eq_true (by omega),cond_true]
  by_cases h2:common a b=a.length
  ·have:a=b:=h.1 ⟨h1,h2⟩
   subst this
   simp [common_self]
  ·have:a≠b:=fun e=>h2 (h.2 e).2
   simp only [Option.bind_some,this,decide_false]
   rw [decide_eq_false (by omega)]
 ·have:a≠b:=fun e=>h1 (by rw [e])
  rw [show decide ((↑(List.length a):Int)=(↑(List.length b):Int))=false from decide_eq_false (by omega),cond_false]
  simp [this]
theorem R01_Lex_eq (a b:List Int) (ha:SmW a):R01_Lex a b=some (lexI a b):=by
 unfold R01_Lex
 rw [R01_Common_eq a b ha]
 have hle:=common_le a b
 have hlc:=lexI_common a b
 rw [hlc]
 simp only [Option.bind_some]
 by_cases h1:common a b=a.length
 ·rw [show decide ((↑(common a b):Int)=↑a.length)=true from decide_eq_true (by omega),cond_true,cond_true]
  by_cases h2:common a b=b.length
  ·rw [show decide ((↑(common a b):Int)=↑b.length)=true from decide_eq_true (by omega),if_pos ⟨h1,h2⟩]
   rfl
  ·rw [show decide ((↑(common a b):Int)=↑b.length)=false from decide_eq_false (by omega),if_neg (fun h=>h2 h.2),if_pos (Or.inl h1)]
   rfl
 ·rw [show decide ((↑(common a b):Int)=↑a.length)=false from decide_eq_false (by omega),cond_false,cond_false,if_neg (fun h=>h1 h.1)]
  by_cases h2:common a b=b.length
  ·rw [show decide ((↑(common a b):Int)<(↑(List.length b):Int))=false from decide_eq_false (by omega),if_neg (fun h=>by omega)]
   rfl
  ·have hx:=get_at (l:=a) (i:=common a b) (by omega)
   have hy:=get_at (l:=b) (i:=common a b) (by omega)
   rw [show decide ((↑(common a b):Int)<(↑(List.length b):Int))=true from decide_eq_true (by omega),cond_true,idx_at rfl hx,idx_at rfl hy]
   rw [List.getD_eq_getElem?_getD,List.getD_eq_getElem?_getD,hx,hy]
   by_cases h3:a[common a b]'(by omega)<b[common a b]'(by omega)
   ·rw [if_pos (Or.inr ⟨by omega,h3⟩)]
    simp [h3]
   ·rw [if_neg (fun h=>by
     rcases h with h | ⟨_,h⟩
     ·omega
     ·exact h3 h)]
    simp [h3]
theorem R01_Compare_eq (a b:List Int) (ha:SmW a):R01_Compare a b=some (cmpW a b):=by
 unfold R01_Compare cmpW
 rw [R01_Lex_eq a b ha]
 by_cases h1:a.length<b.length
 ·rw [show decide ((↑(List.length a):Int)<(↑(List.length b):Int))=true from decide_eq_true (by omega),if_pos h1]
  rfl
 ·rw [show decide ((↑(List.length a):Int)<(↑(List.length b):Int))=false from decide_eq_false (by omega),if_neg h1,cond_false]
  by_cases h2:b.length<a.length
  ·rw [show decide ((↑(List.length b):Int)<(↑(List.length a):Int))=true from decide_eq_true (by omega),if_pos h2]
   rfl
  ·rw [show decide ((↑(List.length b):Int)<(↑(List.length a):Int))=false from decide_eq_false (by omega),if_neg h2]
   rfl
theorem R02_Has_eq (l:List (List Int)) (w:List Int) (hl:SmL l):R02_Has l w=some (decide (w∈l)):=by
 unfold R02_Has
 have key:=iter_scan (step:=fun s=>R02_Has.s2 l w s) (l:=l) (fun _ x=>if decide (x≠w)=true then none else some true) (fun i x hx=>by
  simp only [R02_Has.s2]
  rw [dec_lt hx,cond_true,idxn_at hx,R01_Same_eq x w (hl.2 x (List.mem_of_getElem? hx))]
  by_cases h:x=w<;>simp [h]) (by
  simp only [R02_Has.s2]
  rw [dec_end]
  rfl) (by have:=hl.1;omega)
 rw [key,scan_all (p:=fun x=>decide (x≠w))]
 by_cases h:w∈l
 ·have:¬ (l.all fun x=>decide (x≠w))=true:=fun h2=>by
   have:=List.all_eq_true.1 h2 w h
   simp at this
  rw [if_neg this]
  simp [h]
 ·have:(l.all fun x=>decide (x≠w))=true:=List.all_eq_true.2 fun x hx=>by
   have:x≠w:=fun e=>h (e ▸ hx)
   simpa using this
  rw [if_pos this]
  simp [h]
end Go.Proofs.YtedabpfahmealaaGreatDoor.Sym

/-
 Tables: the first one, and what makes a table valid: the program's answer and the document's are one plain number.
-/
namespace Go.Proofs.YtedabpfahmealaaGreatDoor.Sym
set_option maxRecDepth 100000
section
variable {κ ν:Type} [BEq κ]
theorem mget_mset_same {k:κ} {v:ν} (hb:∀ a b:κ,(a==b)=true↔a=b):∀ m:List (κ×ν),mget k (mset k v m)=some v
 | []=>by
  unfold mset mget
  rw [(hb k k).2 rfl]
 | p::m=>by
  unfold mset
  cases h:k==p.1 with
  | true =>
   show mget k ((k,v)::m)=_
   unfold mget
   rw [(hb k k).2 rfl]
  | false =>
   show mget k (p::mset k v m)=_
   unfold mget
   rw [h]
   exact mget_mset_same hb m
theorem mget_mset_ne {k k':κ} {v:ν} (hb:∀ a b:κ,(a==b)=true↔a=b) (hne:¬ k'=k):∀ m:List (κ×ν),mget k' (mset k v m)=mget k' m
 | []=>by
  have e:(k'==k)=false:=by
   cases e:k'==k with
   | true=>exact absurd ((hb _ _).1 e) hne
   | false=>rfl
  unfold mset mget
  simp only [e]
  rfl
 | p::m=>by
  unfold mset
  cases h:k==p.1 with
  | true =>
   have e1:k=p.1:=(hb _ _).1 h
   show mget k' ((k,v)::m)=mget k' (p::m)
   have e:(k'==k)=false:=by
    cases e:k'==k with
    | true=>exact absurd ((hb _ _).1 e) hne
    | false=>rfl
   unfold mget
   rw [← e1]
   simp only [e]
  | false =>
   show mget k' (p::mset k v m)=mget k' (p::m)
   unfold mget
   rw [mget_mset_ne hb hne m]
end
theorem ba_beq (a b:ByteArray):(a==b)=true↔a=b:=by
 cases a
 cases b
 show ByteArray.beq _ _=true↔_
 unfold ByteArray.beq
 simp
def prevLt (l:List (List Int)) (i:Nat) (w:List Int):Bool:=match i with
 | 0=>true
 | i+1=>match l[i]? with | some p=>decide (cmpW p w<0) | none=>true
theorem Asc_of_prev {l:List (List Int)} (h:∀ i w,l[i]?=some w→prevLt l i w=true):Asc l:=by
 have one:∀ i p w,l[i]?=some p→l[i+1]?=some w→cmpW p w=-1:=fun i p w hp hw=>by
  have h1:=h (i+1) w hw
  unfold prevLt at h1
  simp only [hp] at h1
  have h1:=of_decide_eq_true h1
  have:=cmpW_range p w
  omega
 have key:∀ (d i:Nat) p w,l[i]?=some p→l[i+d+1]?=some w→cmpW p w=-1:=by
  intro d
  induction d with
  | zero=>exact one
  | succ d ih =>
   intro i p w hp hw
   have hj:=(List.getElem?_eq_some_iff.1 hw).1
   have hm:=get_at (l:=l) (i:=i+d+1) (by omega)
   exact cmpW_trans _ _ _ (ih i p _ hp hm) (one _ _ _ hm (by rw [show i+d+1+1=i+(d+1)+1 by omega];exact hw))
 rw [Asc,List.pairwise_iff_getElem]
 intro i j hi hj hij
 exact key (j-i-1) i _ _ (get_at hi) (by rw [show i+(j-i-1)+1=j by omega];exact get_at hj)
theorem zq66 (l:List (List Int)) (hl:SmL l) {i:Nat} {w:List Int} (h:l[i]?=some w):zq92 l (↑i:Int)=some (prevLt l i w):=by
 have hi:=(List.getElem?_eq_some_iff.1 h).1
 have hl1:l.length≤2000000:=hl.1
 unfold zq92 prevLt
 cases i with
 | zero=>rfl
 | succ i =>
  have hp:=get_at (show i<l.length by omega)
  rw [show decide ((↑(i+1):Int)=0)=false from decide_eq_false (by omega),cond_false,chk_pos (by unfold inR;omega),idx_at (i:=i) (by omega) hp,idx_at rfl h,
   word_Compare_eq _ _ (by have:SmW (l[i]'(by omega)):=hl.2 _ (List.mem_of_getElem? hp);unfold SmW at this;omega)]
  simp only [hp]
  rfl
def preG (t:T_api_Table) (known:List Int→Bool) (i:Nat) (w:List Int):Option Int :=
 if checkI w t.Inputs≠0 then some (checkI w t.Inputs) else if (i=0∧0<w.length)∨prevLt t.Prefixes i w=false then some 10 else if 0<w.length∧known (w.take (w.length-1))=false then some 1 else none
def sufG (t:T_api_Table) (i:Nat) (w:List Int):Option Int :=
 if checkI w t.Inputs≠0 then some (checkI w t.Inputs) else if w.length=0 then some 19 else if prevLt t.Suffixes i w=false then some 10 else none
def validT (t:T_api_Table):Int :=
 if t.Inputs<1∨64<t.Inputs then 2 else if t.Prefixes.length=0 then 19 else if 10000<t.Prefixes.length∨10000<t.Suffixes.length∨160000<(↑t.Prefixes.length:Int)*(t.Inputs+1)*↑t.Suffixes.length then 11 else
 match scan (preG t fun w=>decide (w∈t.Prefixes)) 0 t.Prefixes with
 | some e=>e
 | none=>match scan (sufG t) 0 t.Suffixes with
  | some e=>e
  | none=>if ∀ a∈List.range t.Inputs.toNat,[(↑a:Int)]∈t.Suffixes then (if 1023<longestL t.Prefixes+longestL t.Suffixes then 3 else 0) else 1
theorem keys_mget (l:List (List Int)) (w:List Int):∀ (m:List (ByteArray×Bool)),((mget (⟨(keyL w).toArray⟩:ByteArray) (l.foldl (fun m x=>mset ⟨(keyL x).toArray⟩ true m) m)).getD false)=(decide (w∈l)||(mget (⟨(keyL w).toArray⟩:ByteArray) m).getD false):=by
 induction l with
 | nil=>intro m;simp
 | cons x l ih =>
  intro m
  rw [List.foldl_cons,ih]
  by_cases h:w=x
  ·subst h
   rw [mget_mset_same ba_beq]
   simp
  ·have:¬ ((⟨(keyL w).toArray⟩:ByteArray)=⟨(keyL x).toArray⟩):=fun e=>h (keyL_inj (by
    injection e with e
    injection e))
   rw [mget_mset_ne ba_beq this]
   simp [h]
theorem longest_fold (l:List (List Int)):∀ n:Nat,l.foldl (fun (n:Int) w=>max n (↑w.length:Int)) (↑n:Int)=↑(l.foldl (fun n w=>max n w.length) n):=by
 induction l with
 | nil=>intro n;rfl
 | cons x l ih =>
  intro n
  rw [List.foldl_cons,List.foldl_cons,show max (↑n:Int) (↑x.length:Int)=((max n x.length:Nat):Int) by omega,ih]
theorem zq62 (l:List (List Int)) (hl:SmL l):zq91 l=some (↑(longestL l):Int):=by
 unfold zq91
 have h:=iter_fold (step:=fun (s:Int×Nat)=>zq91.s2 l s.1 s.2) (l:=l) (fun a _ x=>max a (↑x.length:Int)) (fun a=>a) (fun _ _=>True) (fun a i x _ hx=>by
  refine ⟨?_,trivial⟩
  simp only [zq91.s2]
  rw [dec_lt hx,cond_true,idxn_at hx]) (fun a _=>by
  simp only [zq91.s2]
  rw [dec_end]
  rfl) (by have:=hl.1;omega) (a0:=0) trivial
 rw [h.1,foldi_eq]
 have:=longest_fold l 0
 simp only [Int.natCast_zero] at this
 show some _=some _
 rw [this]
 rfl
theorem R23_longest_eq (l:List (List Int)) (hl:SmL l):R23_longest l=some (↑(longestL l):Int):=by
 unfold R23_longest
 have h:=iter_fold (step:=fun (s:Int×Nat)=>R23_longest.s2 l s.1 s.2) (l:=l) (fun a _ x=>max a (↑x.length:Int)) (fun a=>a) (fun _ _=>True) (fun a i x _ hx=>by
  refine ⟨?_,trivial⟩
  simp only [R23_longest.s2]
  rw [dec_lt hx,cond_true,idxn_at hx]) (fun a _=>by
  simp only [R23_longest.s2]
  rw [dec_end]
  rfl) (by have:=hl.1;omega) (a0:=0) trivial
 rw [h.1,foldi_eq]
 have:=longest_fold l 0
 simp only [Int.natCast_zero] at this
 show some _=some _
 rw [this]
 rfl
theorem longestL_sm {l:List (List Int)} (hl:SmL l):longestL l≤2000000:=(longestL_le l _).2 fun x hx=>hl.2 x hx
def SmT (t:T_api_Table):Prop:=inR t.Inputs∧SmL t.Prefixes∧SmL t.Suffixes∧∀ x∈t.Prefixes,∀ a∈x,inR a
theorem zq93 {w:List Int} (h:SmW w) (h2:∀ a∈w,inR a):table_key w=some ⟨(keyL w).toArray⟩:=by
 unfold table_key
 rw [chk_pos h2,chk_pos (show w.length≤2000000 from h)]
theorem prod_fit {p s:Nat} {n:Int} (hp:¬ 10000<p) (hs:¬ 10000<s) (hn1:¬ n<1) (hn2:¬ 64<n):inR (n+1)∧inR ((↑p:Int)*(n+1))∧inR ((↑p:Int)*(n+1)*↑s):=by
 have h1:0≤(↑p:Int)*(n+1):=Int.mul_nonneg (by omega) (by omega)
 have h2:(↑p:Int)*(n+1)≤10000*65:=Int.mul_le_mul (by omega) (by omega) (by omega) (by omega)
 have h3:0≤(↑p:Int)*(n+1)*↑s:=Int.mul_nonneg h1 (by omega)
 have h4:(↑p:Int)*(n+1)*↑s≤10000*65*10000:=Int.mul_le_mul h2 (by omega) (by omega) (by omega)
 unfold inR
 omega
theorem R23_prefixes_eq (t:T_api_Table) (ht:SmT t):R23_prefixes t=some (match scan (preG t fun w=>decide (w∈t.Prefixes)) 0 t.Prefixes with | some e=>e | none=>0):=by
 obtain ⟨_,hp,_,_⟩:=ht
 have hp1:t.Prefixes.length≤2000000:=hp.1
 unfold R23_prefixes
 have key:=iter_scan (step:=fun s=>R23_prefixes.s2 t s) (l:=t.Prefixes) (preG t fun w=>decide (w∈t.Prefixes)) (fun i w hw=>by
  have hwm:=List.mem_of_getElem? hw
  have hws:SmW w:=hp.2 w hwm
  have hwl:w.length≤2000000:=hws
  simp only [R23_prefixes.s2]
  rw [dec_lt hw,cond_true,idxn_at hw,R01_Check_eq w _ hws]
  simp only [Option.bind_some,preG]
  by_cases h1:checkI w t.Inputs=0
  ·rw [show decide (checkI w t.Inputs≠0)=false from decide_eq_false (by simpa using h1),cond_false,if_neg (by simpa using h1)]
   have hc:(cond (decide ((↑i:Int)=0)) (cond (decide (0<(↑(List.length w):Int))) (some true) (cond (decide (0<(↑i:Int))) (idx t.Prefixes ((↑i:Int)-1) fun e249=>(R01_Compare e249 w).bind fun c250=>some (decide (0≤c250))) (some false))) (cond (decide (0<(↑i:Int))) (idx t.Prefixes ((↑i:Int)-1) fun e252=>(R01_Compare e252 w).bind fun c253=>some (decide (0≤c253))) (some false)):Option Bool)=some (decide ((i=0∧0<w.length)∨prevLt t.Prefixes i w=false)):=by
    cases i with
    | zero =>
     by_cases h2:0<w.length
     ·simp [h2]
     ·simp [h2,prevLt]
    | succ i =>
     have hi:=(List.getElem?_eq_some_iff.1 hw).1
     have hpv:=get_at (show i<t.Prefixes.length by omega)
     rw [show decide ((↑(i+1):Int)=0)=false from decide_eq_false (by omega),cond_false,show decide (0<(↑(i+1):Int))=true from decide_eq_true (by omega),cond_true,idx_at (i:=i) (by omega) hpv,
      R01_Compare_eq _ _ (hp.2 _ (List.mem_of_getElem? hpv))]
     simp only [prevLt,hpv,Option.bind_some]
     congr 1
     by_cases h2:cmpW (t.Prefixes[i]'(by omega)) w<0
     ·rw [decide_eq_true h2,decide_eq_false (by omega)]
      simp
     ·rw [decide_eq_false h2,decide_eq_true (by omega)]
      simp
   rw [hc]
   simp only [Option.bind_some]
   by_cases h2:(i=0∧0<w.length)∨prevLt t.Prefixes i w=false
   ·rw [decide_eq_true h2,cond_true,if_pos h2]
   ·rw [decide_eq_false h2,cond_false,if_neg h2]
    by_cases h3:0<w.length
    ·rw [show decide (0<(↑(List.length w):Int))=true from decide_eq_true (by omega),cond_true,chk_pos (by omega),R02_Has_eq _ _ hp,show Int.toNat ((↑(List.length w):Int)-1)=w.length-1 by omega]
     by_cases h4:w.take (w.length-1)∈t.Prefixes<;>simp [h3,h4]
    ·rw [show decide (0<(↑(List.length w):Int))=false from decide_eq_false (by omega),cond_false]
     simp [h3]
  ·rw [show decide (checkI w t.Inputs≠0)=true from decide_eq_true h1,cond_true,if_pos h1]) (by
  simp only [R23_prefixes.s2]
  rw [dec_end]
  rfl) (by omega)
 rw [key]
 cases scan (preG t fun w=>decide (w∈t.Prefixes)) 0 t.Prefixes<;>rfl
theorem R23_suffixes_eq (t:T_api_Table) (ht:SmT t) (hn:1≤t.Inputs∧t.Inputs≤64):R23_suffixes t=some (match scan (sufG t) 0 t.Suffixes with | some e=>e | none=>if ∀ a∈List.range t.Inputs.toNat,[(↑a:Int)]∈t.Suffixes then 0 else 1):=by
 obtain ⟨_,_,hp,_⟩:=ht
 have hp1:t.Suffixes.length≤2000000:=hp.1
 unfold R23_suffixes
 have key:=iter_scan (step:=fun s=>R23_suffixes.s2 t s) (l:=t.Suffixes) (sufG t) (fun i w hw=>by
  have hwm:=List.mem_of_getElem? hw
  have hws:SmW w:=hp.2 w hwm
  simp only [R23_suffixes.s2]
  rw [dec_lt hw,cond_true,idxn_at hw,R01_Check_eq w _ hws]
  simp only [Option.bind_some,sufG]
  by_cases h1:checkI w t.Inputs=0
  ·rw [show decide (checkI w t.Inputs≠0)=false from decide_eq_false (by simpa using h1),cond_false,if_neg (by simpa using h1)]
   by_cases h2:w.length=0
   ·rw [show decide ((↑(List.length w):Int)=0)=true from decide_eq_true (by omega),cond_true,if_pos h2]
   ·rw [show decide ((↑(List.length w):Int)=0)=false from decide_eq_false (by omega),cond_false,if_neg h2]
    cases i with
    | zero=>simp [prevLt]
    | succ i =>
     have hi:=(List.getElem?_eq_some_iff.1 hw).1
     have hpv:=get_at (show i<t.Suffixes.length by omega)
     rw [show decide (0<(↑(i+1):Int))=true from decide_eq_true (by omega),cond_true,idx_at (i:=i) (by omega) hpv,R01_Compare_eq _ _ (hp.2 _ (List.mem_of_getElem? hpv))]
     simp only [prevLt,hpv,Option.bind_some]
     by_cases h3:cmpW (t.Suffixes[i]'(by omega)) w<0
     ·rw [decide_eq_false (show ¬ 0≤cmpW (t.Suffixes[i]'(by omega)) w by omega),decide_eq_true h3]
      rfl
     ·rw [decide_eq_true (show 0≤cmpW (t.Suffixes[i]'(by omega)) w by omega),decide_eq_false h3]
      rfl
  ·rw [show decide (checkI w t.Inputs≠0)=true from decide_eq_true h1,cond_true,if_pos h1]) (by
  simp only [R23_suffixes.s2]
  rw [dec_end]
  rfl) (by omega)
 rw [key]
 cases scan (sufG t) 0 t.Suffixes with
 | some e=>rfl
 | none =>
  show (iter (fun (s:Nat)=>R23_suffixes.s4 t s) fuel 0:Option (Unit⊕Int)).bind (Sum.elim (fun (_:Unit)=>some 0) some)=_
  have key2:=iter_scan (step:=fun s=>R23_suffixes.s4 t s) (l:=List.range t.Inputs.toNat) (fun _ (a:Nat)=>if decide ([(↑a:Int)]∈t.Suffixes)=true then none else some (1:Int)) (fun i a ha=>by
   have hi:i<t.Inputs.toNat:=by
    have:=(List.getElem?_eq_some_iff.1 ha).1
    simpa using this
   rw [List.getElem?_range hi] at ha
   injection ha with ha
   subst ha
   simp only [R23_suffixes.s4]
   rw [show decide ((↑i:Int)<t.Inputs)=true from decide_eq_true (by omega),cond_true,R02_Has_eq _ _ hp,chk_pos (by unfold inR;omega)]
   by_cases h:[(↑i:Int)]∈t.Suffixes<;>simp [h]) (by
   simp only [R23_suffixes.s4]
   rw [List.length_range,show decide ((↑t.Inputs.toNat:Int)<t.Inputs)=false from decide_eq_false (by omega)]
   rfl) (by simp;omega)
  rw [key2,scan_all (p:=fun (a:Nat)=>decide ([(↑a:Int)]∈t.Suffixes))]
  by_cases h:∀ a∈List.range t.Inputs.toNat,[(↑a:Int)]∈t.Suffixes
  ·rw [if_pos h,if_pos (List.all_eq_true.2 fun a ha=>decide_eq_true (h a ha))]
   rfl
  ·rw [if_neg h,if_neg (fun h2=>h fun a ha=>of_decide_eq_true (List.all_eq_true.1 h2 a ha))]
   rfl
theorem R23_Valid_eq (t:T_api_Table) (ht:SmT t):R23_Valid t=some (validT t):=by
 unfold R23_Valid validT
 by_cases h1:t.Inputs<1
 ·simp [h1]
 by_cases h2:64<t.Inputs
 ·simp [h1,h2]
 rw [if_neg (by omega),decide_eq_false h1,cond_false,decide_eq_false h2]
 simp only [Option.bind_some,cond_false]
 by_cases h3:t.Prefixes.length=0
 ·rw [show decide ((↑(List.length t.Prefixes):Int)=0)=true from decide_eq_true (by omega),cond_true,if_pos h3]
 rw [show decide ((↑(List.length t.Prefixes):Int)=0)=false from decide_eq_false (by omega),cond_false,if_neg h3]
 by_cases h4:10000<t.Prefixes.length
 ·rw [show decide (10000<(↑(List.length t.Prefixes):Int))=true from decide_eq_true (by omega),if_pos (Or.inl h4)]
  rfl
 rw [show decide (10000<(↑(List.length t.Prefixes):Int))=false from decide_eq_false (by omega),cond_false]
 by_cases h5:10000<t.Suffixes.length
 ·rw [show decide (10000<(↑(List.length t.Suffixes):Int))=true from decide_eq_true (by omega),if_pos (Or.inr (Or.inl h5))]
  rfl
 rw [show decide (10000<(↑(List.length t.Suffixes):Int))=false from decide_eq_false (by omega)]
 obtain ⟨f1,f2,f3⟩:=prod_fit h4 h5 h1 h2
 simp only [Option.bind_some,cond_false]
 rw [chk_pos f1,chk_pos f2,chk_pos f3]
 by_cases h6:160000<(↑t.Prefixes.length:Int)*(t.Inputs+1)*↑t.Suffixes.length
 ·rw [decide_eq_true h6,cond_true,if_pos (Or.inr (Or.inr h6))]
 rw [decide_eq_false h6,cond_false,if_neg (fun h=>by rcases h with h | h | h<;>contradiction),R23_prefixes_eq t ht,R23_suffixes_eq t ht (by omega)]
 have hcheck:∀ {w:List Int},checkI w t.Inputs≠0→checkI w t.Inputs≠0:=fun h=>h
 cases e1:scan (preG t fun w=>decide (w∈t.Prefixes)) 0 t.Prefixes with
 | some e =>
  have hne:e≠0:=by
   have key:∀ (l:List (List Int)) (j:Nat),scan (preG t fun w=>decide (w∈t.Prefixes)) j l=some e→e≠0:=by
    intro l
    induction l with
    | nil=>intro j h;cases h
    | cons x l ih =>
     intro j h
     unfold scan at h
     split at h
     ·rename_i r' h3
      injection h with h
      subst h
      unfold preG at h3
      repeat' split at h3
      all_goals first | (injection h3 with h3;subst h3;first | assumption | decide) | cases h3
     ·exact ih _ h
   exact key _ 0 e1
  simp [hne]
 | none =>
  simp only [Option.bind_some]
  rw [show decide ((0:Int)≠0)=false from rfl,cond_false]
  cases e2:scan (sufG t) 0 t.Suffixes with
  | some e =>
   have hne:e≠0:=by
    have key:∀ (l:List (List Int)) (j:Nat),scan (sufG t) j l=some e→e≠0:=by
     intro l
     induction l with
     | nil=>intro j h;cases h
     | cons x l ih =>
      intro j h
      unfold scan at h
      split at h
      ·rename_i r' h3
       injection h with h
       subst h
       unfold sufG at h3
       repeat' split at h3
       all_goals first | (injection h3 with h3;subst h3;first | assumption | decide) | cases h3
      ·exact ih _ h
    exact key _ 0 e2
   simp [hne]
  | none =>
   have l1:=longestL_sm ht.2.1
   have l2:=longestL_sm ht.2.2.1
   by_cases h7:∀ a∈List.range t.Inputs.toNat,[(↑a:Int)]∈t.Suffixes
   ·rw [if_pos h7,if_pos h7]
    simp only [Option.bind_some]
    rw [show decide ((0:Int)≠0)=false from rfl,cond_false,R23_longest_eq _ ht.2.1,R23_longest_eq _ ht.2.2.1]
    simp only [Option.bind_some]
    rw [chk_pos (by unfold inR;omega)]
    by_cases h8:1023<longestL t.Prefixes+longestL t.Suffixes
    ·rw [if_pos h8,decide_eq_true (by omega)]
     rfl
    ·rw [if_neg h8,decide_eq_false (by omega)]
     rfl
   ·rw [if_neg h7,if_neg h7]
    rfl
end Go.Proofs.YtedabpfahmealaaGreatDoor.Sym

/-
 The examples of the chapter, reckoned.
-/
namespace Go.Proofs.YtedabpfahmealaaGreatDoor.Sym
set_option maxRecDepth 100000
end Go.Proofs.YtedabpfahmealaaGreatDoor.Sym

/-
 Tables: the program's own checks, the first table, and the law of both.
-/
namespace Go.Proofs.YtedabpfahmealaaGreatDoor.Sym
set_option maxRecDepth 100000
theorem cmp_single {x y:Int}:cmpW [x] [y]=-1↔x<y:=by
 simp only [cmpW,lexI,List.length_cons,List.length_nil]
 by_cases h:x<y
 ·simp [h]
 ·by_cases h2:y<x<;>simp [h,h2]
theorem cmp_len {x y:List Int} (h:cmpW x y=-1):x.length≤y.length:=by
 unfold cmpW at h
 split at h
 ·omega
 ·split at h
  ·cases h
  ·omega
theorem check_mem {w:List Int} {n:Int} (h:checkI w n=0):∀ a∈w,0≤a∧a<n:=by
 unfold checkI at h
 split at h
 ·split at h
  ·cases h
  ·split at h
   ·rename_i h3
    intro a ha
    exact of_decide_eq_true (List.all_eq_true.1 h3 a ha)
   ·cases h
 ·cases h
theorem one_of {w:List Int} (h0:w.length≠0) (h1:w.length≤1):∃ a,w=[a]:=by
 match w,h0,h1 with
 | [a],_,_=>exact ⟨a,rfl⟩
theorem singles_iff {l:List (List Int)} {n:Int} (hA:Asc l) (hc:∀ w∈l,checkI w n=0∧w.length≠0) (hn:1≤n):(∀ a∈List.range n.toNat,[(↑a:Int)]∈l)↔∃ w,l[n.toNat-1]?=some w∧w.length≤1:=by
 constructor
 ·intro h
  have key:∀ a,a<n.toNat→l[a]?=some [(↑a:Int)]:=by
   intro a
   induction a using Nat.strongRecOn with
   | _ a ih =>
    intro ha
    obtain ⟨j,hj,e⟩:=List.mem_iff_getElem.1 (h a (List.mem_range.2 ha))
    have ej:l[j]?=some [(↑a:Int)]:=by rw [get_at hj,e]
    rcases Nat.lt_trichotomy j a with hlt | heq | hgt
    ·have:=ih j hlt (by omega)
     rw [ej] at this
     injection this with this
     injection this with this
     omega
    ·rw [← heq,ej]
     rw [heq]
    ·have hx:=get_at (l:=l) (i:=a) (by omega)
     have hcmp:=hA.get hgt hx ej
     have hxm:=List.mem_of_getElem? hx
     obtain ⟨b,hb⟩:=one_of (hc _ hxm).2 (cmp_len hcmp)
     rw [hb] at hcmp hx
     have hlt:=cmp_single.1 hcmp
     have hr:=check_mem (hc _ hxm).1 b (by rw [hb];simp)
     have hbb:=ih b.toNat (by omega) (by omega)
     rw [show ((b.toNat:Nat):Int)=b by omega] at hbb
     have:=hA.get (show b.toNat<a by omega) hbb hx
     rw [cmpW_refl] at this
     cases this
  exact ⟨_,key (n.toNat-1) (by omega),by simp⟩
 ·rintro ⟨w,hw,hw1⟩
  have one:∀ i,i<n.toNat→∃ b:Int,l[i]?=some [b]∧0≤b∧b<n:=fun i hi=>by
   have hlen:=(List.getElem?_eq_some_iff.1 hw).1
   have hx:=get_at (l:=l) (i:=i) (by omega)
   have hl1:(l[i]'(by omega)).length≤1:=by
    rcases Nat.lt_or_ge i (n.toNat-1) with h | h
    ·have:=cmp_len (hA.get h hx hw)
     omega
    ·have e:i=n.toNat-1:=by omega
     subst e
     rw [hx] at hw
     injection hw with hw
     rw [hw]
     exact hw1
   have hxm:=List.mem_of_getElem? hx
   obtain ⟨b,hb⟩:=one_of (hc _ hxm).2 hl1
   rw [hb] at hx
   exact ⟨b,hx,check_mem (hc _ hxm).1 b (by rw [hb];simp)⟩
  have lo:∀ i (b:Int),i<n.toNat→l[i]?=some [b]→(↑i:Int)≤b:=by
   intro i
   induction i with
   | zero =>
    intro b hi hb
    obtain ⟨b',e,h1,_⟩:=one 0 hi
    rw [hb] at e
    injection e with e
    injection e with e
    omega
   | succ i ih =>
    intro b hi hb
    obtain ⟨b',e,h1,_⟩:=one i (by omega)
    have:=ih b' (by omega) e
    have:=cmp_single.1 (hA.get (Nat.lt_succ_self i) e hb)
    omega
  have hi':∀ d i (b:Int),i+d+1=n.toNat→l[i]?=some [b]→b+↑d<n:=by
   intro d
   induction d with
   | zero =>
    intro i b hi hb
    obtain ⟨b',e,_,h2⟩:=one i (by omega)
    rw [hb] at e
    injection e with e
    injection e with e
    omega
   | succ d ih =>
    intro i b hi hb
    obtain ⟨b',e,_,_⟩:=one (i+1) (by omega)
    have:=ih (i+1) b' (by omega) e
    have:=cmp_single.1 (hA.get (Nat.lt_succ_self i) hb e)
    omega
  intro a ha
  have ha:=List.mem_range.1 ha
  obtain ⟨b,e,_,_⟩:=one a ha
  have h1:=lo a b ha e
  have h2:=hi' (n.toNat-1-a) a b (by omega) e
  have:b=(↑a:Int):=by omega
  subst this
  exact List.mem_of_getElem? e
theorem sufG_none {t:T_api_Table} (h:scan (sufG t) 0 t.Suffixes=none):Asc t.Suffixes∧∀ w∈t.Suffixes,checkI w t.Inputs=0∧w.length≠0:=by
 have h0:=scan_none.1 h
 have key:∀ i w,t.Suffixes[i]?=some w→checkI w t.Inputs=0∧w.length≠0∧prevLt t.Suffixes i w=true:=fun i w hw=>by
  have:=h0 i w hw
  rw [Nat.zero_add] at this
  unfold sufG at this
  split at this
  ·cases this
  ·rename_i h1
   split at this
   ·cases this
   ·rename_i h2
    split at this
    ·cases this
    ·rename_i h3
     refine ⟨by simpa using h1,h2,?_⟩
     cases hp:prevLt t.Suffixes i w with
     | true=>rfl
     | false=>exact absurd hp h3
 refine ⟨Asc_of_prev fun i w hw=>(key i w hw).2.2,fun w hw=>?_⟩
 obtain ⟨i,hi,rfl⟩:=List.mem_iff_getElem.1 hw
 exact ⟨(key i _ (get_at hi)).1,(key i _ (get_at hi)).2.1⟩
theorem table_Valid_eq (t:T_api_Table) (ht:SmT t):zq98 t=some (validT t):=by
 unfold zq98 validT
 by_cases h1:t.Inputs<1
 ·simp [h1]
 by_cases h2:64<t.Inputs
 ·simp [h1,h2]
 rw [if_neg (by omega),decide_eq_false h1,cond_false,decide_eq_false h2]
 simp only [Option.bind_some,cond_false]
 by_cases h3:t.Prefixes.length=0
 ·rw [show decide ((↑(List.length t.Prefixes):Int)=0)=true from decide_eq_true (by omega),cond_true,if_pos h3]
 rw [show decide ((↑(List.length t.Prefixes):Int)=0)=false from decide_eq_false (by omega),cond_false,if_neg h3]
 by_cases h4:10000<t.Prefixes.length
 ·rw [show decide (10000<(↑(List.length t.Prefixes):Int))=true from decide_eq_true (by omega),if_pos (Or.inl h4)]
  rfl
 rw [show decide (10000<(↑(List.length t.Prefixes):Int))=false from decide_eq_false (by omega),cond_false]
 by_cases h5:10000<t.Suffixes.length
 ·rw [show decide (10000<(↑(List.length t.Suffixes):Int))=true from decide_eq_true (by omega),if_pos (Or.inr (Or.inl h5))]
  rfl
 rw [show decide (10000<(↑(List.length t.Suffixes):Int))=false from decide_eq_false (by omega),cond_false]
 obtain ⟨f1,f2,f3⟩:=prod_fit h4 h5 h1 h2
 rw [chk_pos f1,chk_pos f2,chk_pos f3]
 simp only [Option.bind_some]
 by_cases h6:160000<(↑t.Prefixes.length:Int)*(t.Inputs+1)*↑t.Suffixes.length
 ·rw [decide_eq_true h6,cond_true,if_pos (Or.inr (Or.inr h6))]
 rw [decide_eq_false h6,cond_false,if_neg (fun h=>by rcases h with h | h | h<;>contradiction)]
 obtain ⟨_,hp,hs,hr⟩:=ht
 have hk:=iter_fold (step:=fun (s:(List (ByteArray×Bool))×Nat)=>zq98.s2 t s.1 s.2) (l:=t.Prefixes) (fun m _ x=>mset ⟨(keyL x).toArray⟩ true m) (fun m=>m) (fun _ _=>True) (fun m i x _ hx=>by
  have hxm:=List.mem_of_getElem? hx
  refine ⟨?_,trivial⟩
  simp only [zq98.s2]
  rw [dec_lt hx,cond_true,idxn_at hx,zq93 (hp.2 x hxm) (hr x hxm)]
  rfl) (fun m _=>by
  simp only [zq98.s2]
  rw [dec_end]
  rfl) (by omega) (a0:=[]) trivial
 rw [hk.1,foldi_eq]
 simp only [Option.bind_some]
 have key:=iter_scan (step:=fun s=>zq98.s4 t (t.Prefixes.foldl (fun m x=>mset ⟨(keyL x).toArray⟩ true m) []) s) (l:=t.Prefixes) (preG t fun w=>decide (w∈t.Prefixes)) (fun i w hw=>by
  have hwm:=List.mem_of_getElem? hw
  have hws:SmW w:=hp.2 w hwm
  have hwl:w.length≤2000000:=hws
  simp only [zq98.s4]
  rw [dec_lt hw,cond_true,idxn_at hw,word_Check_eq w _ hws,zq66 _ hp hw]
  simp only [Option.bind_some,preG]
  by_cases g1:checkI w t.Inputs=0
  ·rw [show decide (checkI w t.Inputs≠0)=false from decide_eq_false (by simpa using g1),cond_false,if_neg (by simpa using g1)]
   have hc:(cond (decide ((↑i:Int)=0)) (cond (decide (0<(↑(List.length w):Int))) (some true) (some (!prevLt t.Prefixes i w))) (some (!prevLt t.Prefixes i w)):Option Bool)=some (decide ((i=0∧0<w.length)∨prevLt t.Prefixes i w=false)):=by
    by_cases g2:i=0
    ·rw [show decide ((↑i:Int)=0)=true from decide_eq_true (by omega),cond_true]
     by_cases g3:0<w.length
     ·rw [show decide (0<(↑(List.length w):Int))=true from decide_eq_true (by omega),cond_true,decide_eq_true (Or.inl ⟨g2,g3⟩)]
     ·rw [show decide (0<(↑(List.length w):Int))=false from decide_eq_false (by omega),cond_false]
      cases prevLt t.Prefixes i w<;>simp [g3]
    ·rw [show decide ((↑i:Int)=0)=false from decide_eq_false (by omega),cond_false]
     cases prevLt t.Prefixes i w<;>simp [g2]
   rw [hc]
   simp only [Option.bind_some]
   by_cases g2:(i=0∧0<w.length)∨prevLt t.Prefixes i w=false
   ·rw [decide_eq_true g2,cond_true,if_pos g2]
   ·rw [decide_eq_false g2,cond_false,if_neg g2]
    by_cases g3:0<w.length
    ·have hts:SmW (w.take (w.length-1)):=by
      show (w.take (w.length-1)).length≤2000000
      rw [List.length_take]
      omega
     rw [show decide (0<(↑(List.length w):Int))=true from decide_eq_true (by omega),cond_true,chk_pos (by omega),show Int.toNat ((↑(List.length w):Int)-1)=w.length-1 by omega,zq93 hts (fun a ha=>hr w hwm a (List.mem_of_mem_take ha))]
     simp only [Option.bind_some]
     rw [keys_mget]
     by_cases g4:w.take (w.length-1)∈t.Prefixes<;>simp [g3,g4,mget]
    ·rw [show decide (0<(↑(List.length w):Int))=false from decide_eq_false (by omega),cond_false]
     simp [g3]
  ·rw [show decide (checkI w t.Inputs≠0)=true from decide_eq_true g1,cond_true,if_pos g1]) (by
  simp only [zq98.s4]
  rw [dec_end]
  rfl) (by omega)
 rw [key]
 cases e1:scan (preG t fun w=>decide (w∈t.Prefixes)) 0 t.Prefixes with
 | some e=>rfl
 | none =>
  show (iter (fun (s:Nat)=>zq98.s6 t s) fuel 0:Option (Unit⊕Int)).bind _=_
  have key2:=iter_scan (step:=fun s=>zq98.s6 t s) (l:=t.Suffixes) (sufG t) (fun i w hw=>by
   have hwm:=List.mem_of_getElem? hw
   have hws:SmW w:=hs.2 w hwm
   simp only [zq98.s6]
   rw [dec_lt hw,cond_true,idxn_at hw,word_Check_eq w _ hws,zq66 _ hs hw]
   simp only [Option.bind_some,sufG]
   by_cases g1:checkI w t.Inputs=0
   ·rw [show decide (checkI w t.Inputs≠0)=false from decide_eq_false (by simpa using g1),cond_false,if_neg (by simpa using g1)]
    by_cases g2:w.length=0
    ·rw [show decide ((↑(List.length w):Int)=0)=true from decide_eq_true (by omega),cond_true,if_pos g2]
    ·rw [show decide ((↑(List.length w):Int)=0)=false from decide_eq_false (by omega),cond_false,if_neg g2]
     cases prevLt t.Suffixes i w<;>rfl
   ·rw [show decide (checkI w t.Inputs≠0)=true from decide_eq_true g1,cond_true,if_pos g1]) (by
   simp only [zq98.s6]
   rw [dec_end]
   rfl) (by omega)
  rw [key2]
  cases e2:scan (sufG t) 0 t.Suffixes with
  | some e=>rfl
  | none =>
   obtain ⟨hA,hcs⟩:=sufG_none e2
   have hiff:=singles_iff hA hcs (show 1≤t.Inputs by omega)
   have l1:=longestL_sm hp
   have l2:=longestL_sm hs
   simp only [Option.bind_some,Sum.elim_inl]
   rw [zq62 _ hp,zq62 _ hs]
   simp only [Option.bind_some]
   rw [chk_pos (show inR ((↑(longestL t.Prefixes):Int)+↑(longestL t.Suffixes)) by unfold inR;omega)]
   by_cases g1:(↑t.Suffixes.length:Int)<t.Inputs
   ·have hno:¬ ∀ a∈List.range t.Inputs.toNat,[(↑a:Int)]∈t.Suffixes:=fun h=>by
     obtain ⟨w,hw,_⟩:=hiff.1 h
     have:=(List.getElem?_eq_some_iff.1 hw).1
     omega
    rw [decide_eq_true g1,cond_true,if_neg hno]
    rfl
   ·have hx:=get_at (l:=t.Suffixes) (i:=t.Inputs.toNat-1) (by omega)
    rw [decide_eq_false g1,cond_false,chk_pos (by unfold inR;omega),idx_at (i:=t.Inputs.toNat-1) (by omega) hx]
    by_cases g2:1<(t.Suffixes[t.Inputs.toNat-1]'(by omega)).length
    ·have hno:¬ ∀ a∈List.range t.Inputs.toNat,[(↑a:Int)]∈t.Suffixes:=fun h=>by
      obtain ⟨w,hw,hw1⟩:=hiff.1 h
      rw [hx] at hw
      injection hw with hw
      rw [hw] at g2
      omega
     rw [if_neg hno,decide_eq_true (by omega)]
     rfl
    ·have hyes:∀ a∈List.range t.Inputs.toNat,[(↑a:Int)]∈t.Suffixes:=hiff.2 ⟨_,hx,by omega⟩
     rw [if_pos hyes,decide_eq_false (by omega)]
     simp only [Option.bind_some,cond_false]
     by_cases h8:1023<longestL t.Prefixes+longestL t.Suffixes
     ·rw [if_pos h8,decide_eq_true (by omega)]
      rfl
     ·rw [if_neg h8,decide_eq_false (by omega)]
      rfl
def singles (n:Nat):List (List Int):=(List.range n).map fun (a:Nat)=>[(↑a:Int)]
def newT (n:Int):T_api_Table×Int:=if n<1∨64<n then (⟨0,[],[]⟩,2) else (⟨n,[[]],singles n.toNat⟩,0)
theorem singles_step (n:Nat):singles (n+1)=singles n++[[(↑n:Int)]]:=by simp [singles,List.range_succ]
theorem singles_length (n:Nat):(singles n).length=n:=by simp [singles]
theorem R23_Singles_eq (n:Int) (h:1≤n∧n≤64):R23_Singles n=some (singles n.toNat):=by
 unfold R23_Singles
 rw [iter_eq (r:=singles n.toNat) (fun s=>s.2≤n.toNat∧s.1=singles s.2) (fun s=>n.toNat-s.2) (fun s ⟨h1,h2⟩=>by
  simp only [R23_Singles.s2]
  by_cases h3:s.2<n.toNat
  ·left
   refine ⟨(singles (s.2+1),s.2+1),?_,⟨by omega,rfl⟩,by simp only;omega⟩
   rw [decide_eq_true (by omega),cond_true,h2,singles_step,chk_pos (by rw [singles_length];unfold capOk;omega),chk_pos (by unfold inR;omega)]
  ·right
   rw [decide_eq_false (by omega),cond_false,h2,show s.2=n.toNat by omega]) (s:=([],0)) ⟨Nat.zero_le _,rfl⟩ (by have:=fuel_big;simp only;omega)]
 rfl
theorem R23_New_eq (n:Int):R23_New n=some (newT n):=by
 unfold R23_New newT
 by_cases h1:n<1
 ·simp [h1]
 ·by_cases h2:64<n
  ·simp [h1,h2]
  ·rw [R23_Singles_eq n (by omega)]
   simp [h1,h2]
theorem table_New_eq (n:Int):zq112 n=some (newT n):=by
 unfold zq112 newT
 by_cases h1:n<1
 ·simp [h1]
 ·by_cases h2:64<n
  ·simp [h1,h2]
  ·rw [iter_eq (r:=singles n.toNat) (fun s=>s.2≤n.toNat∧s.1=singles s.2) (fun s=>n.toNat-s.2) (fun s ⟨h1,h2⟩=>by
    simp only [zq112.s2]
    by_cases h3:s.2<n.toNat
    ·left
     refine ⟨(singles (s.2+1),s.2+1),?_,⟨by omega,rfl⟩,by simp only;omega⟩
     rw [decide_eq_true (by omega),cond_true,h2,singles_step,chk_pos (by rw [singles_length];unfold capOk;omega),chk_pos (by unfold inR;omega)]
    ·right
     rw [decide_eq_false (by omega),cond_false,h2,show s.2=n.toNat by omega]) (s:=([],0)) ⟨Nat.zero_le _,rfl⟩ (by have:=fuel_big;simp only;omega)]
   simp [h1,h2]
end Go.Proofs.YtedabpfahmealaaGreatDoor.Sym

/-
 Sorted lists of words, duplicates struck: plain laws.
-/
namespace Go.Proofs.YtedabpfahmealaaGreatDoor
structure TotalCmp (cf:List Int→List Int→Int):Prop where
 range:∀ a b,cf a b=-1∨cf a b=0∨cf a b=1
 zero:∀ a b,cf a b=0↔a=b
 swap:∀ a b,cf b a=- cf a b
 trans:∀ a b c,cf a b=-1→cf b c=-1→cf a c=-1
theorem cmpW_total:TotalCmp cmpW:=⟨cmpW_range,cmpW_zero,cmpW_swap,cmpW_trans⟩
theorem lexI_total:TotalCmp lexI:=⟨lexI_range,lexI_zero,lexI_swap,lexI_trans⟩
def dedupA (l:List (List Int)):List (List Int):=l.foldl (fun acc x=>if acc.getLast?=some x then acc else acc++[x]) []
theorem dedupA_snoc (l:List (List Int)) (x:List Int):dedupA (l++[x])=if (dedupA l).getLast?=some x then dedupA l else dedupA l++[x]:=by
 unfold dedupA
 rw [List.foldl_append]
 rfl
theorem dedup_foldl:∀ (l acc:List (List Int)),(l.foldl (fun acc x=>if acc.getLast?=some x then acc else acc++[x]) acc).getLast?=if l=[] then acc.getLast? else l.getLast?
 | [],acc=>by rw [if_pos rfl];rfl
 | x::l,acc=>by
  have hx:(if acc.getLast?=some x then acc else acc++[x]).getLast?=some x:=by
   split
   ·assumption
   ·simp
  rw [List.foldl_cons,dedup_foldl l,if_neg (show ¬ x::l=[] by simp)]
  cases l with
  | nil=>rw [if_pos rfl,hx];rfl
  | cons y l =>
   rw [if_neg (show ¬ y::l=[] by simp),List.getLast?_cons_cons]
theorem dedupA_last (l:List (List Int)):(dedupA l).getLast?=l.getLast?:=by
 unfold dedupA
 rw [dedup_foldl]
 split
 ·rename_i h;rw [h]
 ·rfl
theorem dedupA_step {l:List (List Int)} {k:Nat} {x y:List Int} (hy:l[k]?=some y) (hx:l[k+1]?=some x) :
  dedupA (l.take (k+1+1))=if x=y then dedupA (l.take (k+1)) else dedupA (l.take (k+1))++[x]:=by
 rw [take_step hx,dedupA_snoc,dedupA_last,take_step hy]
 simp only [List.getLast?_append,List.getLast?_singleton,Option.some_or]
 by_cases h:y=x
 ·subst h;simp
 ·have h':¬ x=y:=fun e=>h e.symm
  simp [h,h']
theorem dedupA_short {l:List (List Int)} (h:l.length≤1):dedupA l=l:=by
 match l,h with
 | [],_=>rfl
 | [x],_=>rfl
theorem dedup_asc {cf:List Int→List Int→Int} (T:TotalCmp cf):∀ {l:List (List Int)},l.Pairwise (fun a b=>0≤cf b a)→(dedupA l).Pairwise (fun a b=>cf a b=-1)∧∀ x,x∈dedupA l↔x∈l:=by
 intro l
 -- from the end of the list
 suffices H:∀ n (l:List (List Int)),l.length=n→l.Pairwise (fun a b=>0≤cf b a)→(dedupA l).Pairwise (fun a b=>cf a b=-1)∧∀ x,x∈dedupA l↔x∈l from H _ l rfl
 intro n
 induction n with
 | zero =>
  intro l hl _
  have:l=[]:=List.eq_nil_of_length_eq_zero hl
  subst this
  exact ⟨List.Pairwise.nil,fun x=>Iff.rfl⟩
 | succ n ih =>
  intro l hl hp
  obtain ⟨m,x,rfl⟩:∃ m x,l=m++[x]:=by
   have hne:l≠[]:=by intro e;rw [e] at hl;simp at hl
   exact ⟨l.dropLast,l.getLast hne,(List.dropLast_concat_getLast hne).symm⟩
  have hml:m.length=n:=by simpa using hl
  rw [List.pairwise_append] at hp
  obtain ⟨hp1,_,hp3⟩:=hp
  obtain ⟨h1,h2⟩:=ih m hml hp1
  rw [dedupA_snoc]
  by_cases h:(dedupA m).getLast?=some x
  ·rw [if_pos h]
   refine ⟨h1,fun y=>?_⟩
   have hx:x∈m:=(h2 x).1 (List.mem_of_getLast? h)
   rw [h2,List.mem_append,List.mem_singleton]
   constructor
   ·exact Or.inl
   ·rintro (h' | rfl)
    ·exact h'
    ·exact hx
  ·rw [if_neg h]
   refine ⟨?_,fun y=>by rw [List.mem_append,List.mem_append,h2]⟩
   rw [List.pairwise_append]
   refine ⟨h1,by simp,fun a ha b hb=>?_⟩
   rw [List.mem_singleton] at hb
   subst hb
   have ha':a∈m:=(h2 a).1 ha
   have hle:0≤cf b a:=hp3 a ha' b (by simp)
   have hr:=T.range b a
   have hsw:=T.swap b a
   by_cases e:cf b a=0
   ·-- a would be the last one
    exfalso
    have hab:b=a:=(T.zero _ _).1 e
    subst hab
    -- the last of m is the greatest, and b is in m and not less than it
    have hne:dedupA m≠[]:=fun e=>by rw [e] at ha;cases ha
    have hl2:=List.getLast?_eq_some_getLast hne
    have hlast:(dedupA m).getLast hne∈m:=(h2 _).1 (List.getLast_mem hne)
    have h3:0≤cf b ((dedupA m).getLast hne):=hp3 _ hlast b (by simp)
    have hsplit:dedupA m=(dedupA m).dropLast++[(dedupA m).getLast hne]:=(List.dropLast_concat_getLast hne).symm
    have h4:b=(dedupA m).getLast hne∨cf b ((dedupA m).getLast hne)=-1:=by
     rw [hsplit] at ha h1
     rw [List.pairwise_append] at h1
     rcases List.mem_append.1 ha with h5 | h5
     ·exact Or.inr (h1.2.2 b h5 _ (by simp))
     ·exact Or.inl (List.mem_singleton.1 h5)
    rcases h4 with h4 | h4
    ·exact h (by rw [hl2,← h4])
    ·omega
   ·omega
theorem dedupA_length (l:List (List Int)):(dedupA l).length≤l.length:=by
 suffices H:∀ (l acc:List (List Int)),(l.foldl (fun acc x=>if acc.getLast?=some x then acc else acc++[x]) acc).length≤acc.length+l.length by
  simpa [dedupA] using H l []
 intro l
 induction l with
 | nil=>intro acc;simp
 | cons x l ih =>
  intro acc
  rw [List.foldl_cons]
  refine Nat.le_trans (ih _) ?_
  split
  ·simp
  ·simp;omega
end Go.Proofs.YtedabpfahmealaaGreatDoor

/-
 Prefixes, suffixes and maximal words: plain laws.
-/
namespace Go.Proofs.YtedabpfahmealaaGreatDoor
def prefixes (x:List Int):List (List Int):=(List.range (x.length+1)).map x.take
def suffixes (x:List Int):List (List Int):=(List.range (x.length+1)).map x.drop
def preL (l:List (List Int)):List (List Int):=l.flatMap prefixes
theorem prefixes_take (x:List Int) {j:Nat} (hj:j≤x.length):(prefixes x).take (j+1)=(prefixes x).take j++[x.take j]:=by
 have:(prefixes x)[j]?=some (x.take j):=by simp [prefixes,List.getElem?_range (show j<x.length+1 by omega)]
 exact take_step this
theorem prefixes_length (x:List Int):(prefixes x).length=x.length+1:=by simp [prefixes]
theorem preL_step {l:List (List Int)} {k:Nat} {x:List Int} (h:l[k]?=some x):preL (l.take (k+1))=preL (l.take k)++prefixes x:=by rw [take_step h];simp [preL]
def topB (all:List (List Int)) (x:List Int):Bool:=all.all fun y=>decide (y=x∨¬ x <+: y)
def maxR (l:List (List Int)):List (List Int):=(sortW l).filter (topB (sortW l))
def tailB (x:List Int) (l:List (List Int)):Bool:=l.all fun y=>decide (y.length=x.length∨¬ x <+: y)
theorem top_eq {all:List (List Int)} (hs:Asc all) {k:Nat} {x:List Int} (hx:all[k]?=some x):tailB x (all.drop (k+1))=topB all x:=by
 rw [Bool.eq_iff_iff,tailB,topB,List.all_eq_true,List.all_eq_true]
 simp only [decide_eq_true_eq]
 constructor
 ·intro h y hy
  obtain ⟨i,hi⟩:=List.getElem?_of_mem hy
  rcases Nat.lt_trichotomy i k with hik | hik | hik
  ·right
   intro hp
   have hc:=hs.get hik hi hx
   have hl:=hp.length_le
   have:x=y:=hp.eq_of_length_le (by
    unfold cmpW at hc
    split at hc
    ·omega
    ·split at hc
     ·omega
     ·omega)
   rw [this,cmpW_refl] at hc
   omega
  ·left
   rw [hik,hx] at hi
   injection hi with hi
   exact hi.symm
  ·have hmem:y∈all.drop (k+1):=by
    have:(all.drop (k+1))[i-(k+1)]?=some y:=by rw [List.getElem?_drop,show k+1+(i-(k+1))=i by omega];exact hi
    exact List.mem_of_getElem? this
   rcases h y hmem with h1 | h1
   ·by_cases hp:x <+: y
    ·left
     exact (hp.eq_of_length h1.symm).symm
    ·exact Or.inr hp
   ·exact Or.inr h1
 ·intro h y hy
  obtain ⟨i,hi⟩:=List.getElem?_of_mem hy
  rw [List.getElem?_drop] at hi
  rcases h y (List.mem_of_getElem? hi) with h1 | h1
  ·have hc:=hs.get (show k<k+1+i by omega) hx hi
   rw [h1,cmpW_refl] at hc
   omega
  ·exact Or.inr h1
theorem tailB_step {x y:List Int} {all:List (List Int)} {k j:Nat} (hk:k+1≤j) (hy:all[j]?=some y) :
  tailB x ((all.take (j+1)).drop (k+1))=(tailB x ((all.take j).drop (k+1))&&decide (y.length=x.length∨¬ x <+: y)):=by
 have hj:j<all.length:=(List.getElem?_eq_some_iff.1 hy).1
 rw [take_step hy,List.drop_append_of_le_length (by rw [List.length_take];omega)]
 simp [tailB,List.all_append]
theorem filter_step {p:List Int→Bool} {all:List (List Int)} {k:Nat} {x:List Int} (h:all[k]?=some x):(all.take (k+1)).filter p=(all.take k).filter p++(if p x=true then [x] else []):=by
 rw [take_step h,List.filter_append]
 by_cases hp:p x=true<;>simp [hp]
theorem mem_maxR {l:List (List Int)} {x:List Int} (h:x∈maxR l):x∈l:=by
 unfold maxR at h
 exact (mem_sortW l x).1 (List.mem_filter.1 h).1
theorem maxR_length (l:List (List Int)):(maxR l).length≤l.length:=Nat.le_trans (List.length_filter_le _ _) (sortW_length l)
def keepM:List (List Int)→List (List Int)
 | []=>[]
 | [x]=>[x]
 | x::y::l=>if x <+: y then keepM (y::l) else x::keepM (y::l)
theorem keepM_end {L:List (List Int)} {k:Nat} {x:List Int} (hx:L[k]?=some x) (hl:k+1=L.length):keepM (L.drop k)=x::keepM (L.drop (k+1)):=by
 obtain ⟨h1,h2⟩:=List.getElem?_eq_some_iff.1 hx
 rw [List.drop_eq_getElem_cons h1,h2,List.drop_eq_nil_of_le (by omega)]
 rfl
theorem keepM_step {L:List (List Int)} {k:Nat} {x y:List Int} (hx:L[k]?=some x) (hy:L[k+1]?=some y):keepM (L.drop k)=if x <+: y then keepM (L.drop (k+1)) else x::keepM (L.drop (k+1)):=by
 obtain ⟨h1,h2⟩:=List.getElem?_eq_some_iff.1 hx
 obtain ⟨h3,h4⟩:=List.getElem?_eq_some_iff.1 hy
 rw [List.drop_eq_getElem_cons h1,h2,List.drop_eq_getElem_cons h3,h4]
 rfl
theorem keepM_sub:∀ L:List (List Int),(keepM L).Sublist L
 | []=>List.Sublist.refl _
 | [x]=>List.Sublist.refl _
 | x::y::l=>by
  rw [keepM]
  split
  ·exact (keepM_sub (y::l)).cons x
  ·exact (keepM_sub (y::l)).cons_cons x
theorem lex_between:∀ (x z y:List Int),lexI x z=-1→(z=y∨lexI z y=-1)→x <+: y→x <+: z
 | [],z,_,_,_,_=>List.nil_prefix
 | a::x,[],_,h,_,_=>by simp [lexI] at h
 | a::x,b::z,[],_,_,h=>by simp at h
 | a::x,b::z,c::y,h1,h2,h3=>by
  rw [List.cons_prefix_cons] at h3
  obtain ⟨rfl,h3⟩:=h3
  simp only [lexI] at h1
  have hle:b≤a:=by
   rcases h2 with h2 | h2
   ·injection h2 with e1 e2;omega
   ·simp only [lexI] at h2
    split at h2
    ·omega
    ·split at h2
     ·omega
     ·omega
  have hab:a=b:=by
   split at h1
   ·omega
   ·split at h1
    ·omega
    ·omega
  subst hab
  rw [if_neg (by omega),if_neg (by omega)] at h1
  rw [List.cons_prefix_cons]
  refine ⟨rfl,lex_between x z y h1 ?_ h3⟩
  rcases h2 with h2 | h2
  ·injection h2 with e1 e2;exact Or.inl e2
  ·simp only [lexI] at h2
   rw [if_neg (by omega),if_neg (by omega)] at h2
   exact Or.inr h2
theorem prefix_lex:∀ (x y:List Int),x <+: y→x≠y→lexI x y=-1
 | [],[],_,h=>absurd rfl h
 | [],_::_,_,_=>rfl
 | a::x,[],h,_=>by simp at h
 | a::x,b::y,h,hne=>by
  rw [List.cons_prefix_cons] at h
  obtain ⟨rfl,h⟩:=h
  simp only [lexI]
  rw [if_neg (by omega),if_neg (by omega)]
  exact prefix_lex x y h (fun e=>hne (by rw [e]))
theorem mem_keepM:∀ {L:List (List Int)},L.Pairwise (fun a b=>lexI a b=-1)→∀ x,x∈keepM L↔x∈L∧∀ y∈L,y=x∨¬ x <+: y
 | [],_,x=>by simp [keepM]
 | [z],_,x=>by
  simp only [keepM,List.mem_singleton]
  constructor
  ·rintro rfl;exact ⟨rfl,fun y hy=>Or.inl hy⟩
  ·exact fun h=>h.1
 | z::y::l,h,x=>by
  obtain ⟨h1,h2⟩:=List.pairwise_cons.1 h
  have ih:=mem_keepM (L:=y::l) h2
  have hzl:∀ t∈y::l,z≠t:=fun t ht e=>by
   have:=h1 t ht
   rw [e,lexI_refl] at this
   omega
  have hlow:∀ t∈y::l,¬ t <+: z:=fun t ht hp=>by
   have h3:=h1 t ht
   have h4:=prefix_lex t z hp (fun e=>hzl t ht e.symm)
   rw [lexI_swap] at h4
   omega
  have hyl:∀ t∈y::l,y=t∨lexI y t=-1:=fun t ht=>by
   rcases List.mem_cons.1 ht with e | e
   ·exact Or.inl e.symm
   ·exact Or.inr ((List.pairwise_cons.1 h2).1 t e)
  rw [keepM]
  by_cases hp:z <+: y
  ·rw [if_pos hp,ih]
   constructor
   ·rintro ⟨ha,hb⟩
    refine ⟨List.mem_cons_of_mem _ ha,fun t ht=>?_⟩
    rcases List.mem_cons.1 ht with rfl | ht
    ·exact Or.inr (hlow x ha)
    ·exact hb t ht
   ·rintro ⟨ha,hb⟩
    rcases List.mem_cons.1 ha with rfl | ha
    ·rcases hb y (by simp) with e | e
     ·exact absurd e.symm (hzl y (by simp))
     ·exact absurd hp e
    ·exact ⟨ha,fun t ht=>hb t (List.mem_cons_of_mem _ ht)⟩
  ·rw [if_neg hp,List.mem_cons,ih]
   constructor
   ·rintro (rfl | ⟨ha,hb⟩)
    ·refine ⟨by simp,fun t ht=>?_⟩
     rcases List.mem_cons.1 ht with rfl | ht
     ·exact Or.inl rfl
     ·exact Or.inr fun hpt=>hp (lex_between x y t (h1 y (by simp)) (hyl t ht) hpt)
    ·refine ⟨List.mem_cons_of_mem _ ha,fun t ht=>?_⟩
     rcases List.mem_cons.1 ht with rfl | ht
     ·exact Or.inr (hlow x ha)
     ·exact hb t ht
   ·rintro ⟨ha,hb⟩
    rcases List.mem_cons.1 ha with rfl | ha
    ·exact Or.inl rfl
    ·exact Or.inr ⟨ha,fun t ht=>hb t (List.mem_cons_of_mem _ ht)⟩
theorem mem_maxR_iff (l:List (List Int)) (x:List Int):x∈maxR l↔x∈l∧∀ y∈l,y=x∨¬ x <+: y:=by
 unfold maxR
 rw [List.mem_filter,mem_sortW,topB,List.all_eq_true]
 simp only [mem_sortW,decide_eq_true_eq]
theorem maxR_asc (l:List (List Int)):Asc (maxR l):=List.Pairwise.sublist List.filter_sublist (sortW_asc l)
theorem sortW_keepM {L l:List (List Int)} (h:L.Pairwise fun a b=>lexI a b=-1) (hm:∀ x,x∈L↔x∈l):sortW (keepM L)=maxR l :=
 asc_ext (sortW_asc _) (maxR_asc l) fun x=>by
  rw [mem_sortW,mem_keepM h,mem_maxR_iff]
  simp only [hm]
end Go.Proofs.YtedabpfahmealaaGreatDoor

/-
 What the functions on lists of words come to: plain laws.
-/
namespace Go.Proofs.YtedabpfahmealaaGreatDoor.Sym
set_option maxRecDepth 100000
theorem flat_take_succ {α:Type} {l:List (List α)} {i:Nat} {x:List α} (h:l[i]?=some x):(l.take (i+1)).flatten=(l.take i).flatten++x:=by
 rw [take_step h]
 simp
theorem flat_take_len {α:Type} {l:List (List α)} (i:Nat):(l.take i).flatten.length≤l.flatten.length:=by
 have h:l.flatten=(l.take i).flatten++(l.drop i).flatten:=by rw [← List.flatten_append,List.take_append_drop]
 rw [h,List.length_append]
 omega
theorem concat_ints (l:List (List Int)) (hl:l.length≤100000000) (hf:l.flatten.length≤1000000000):zq30 l=some l.flatten:=by
 unfold zq30
 rw [iter_eq (r:=l.flatten.length) (fun s=>s.2≤l.length∧s.1=(l.take s.2).flatten.length) (fun s=>l.length-s.2) (fun s ⟨h1,h2⟩=>by
  simp only [zq30.s2]
  by_cases h3:s.2<l.length
  ·left
   have hx:=get_at h3
   have h4:=flat_take_succ hx
   have h5:=flat_take_len (l:=l) (s.2+1)
   rw [h4,List.length_append] at h5
   refine ⟨((l.take (s.2+1)).flatten.length,s.2+1),?_,⟨by omega,rfl⟩,by simp only;omega⟩
   rw [dec_lt hx,cond_true,idxn_at hx,chk_pos (by unfold inR;omega),decide_eq_false (by omega),cond_false,h4,List.length_append,h2]
  ·right
   have e:s.2=l.length:=by omega
   rw [decide_eq_false (by omega),cond_false,h2,e,List.take_length]) (s:=(0,0)) ⟨Nat.zero_le _,by simp⟩ (by have:=fuel_big;simp only;omega)]
 simp only [Option.bind_some]
 unfold lib_Grow_int
 rw [chk_pos (by omega)]
 simp only [Option.bind_some]
 rw [iter_eq (r:=l.flatten) (fun s=>s.2≤l.length∧s.1=(l.take s.2).flatten) (fun s=>l.length-s.2) (fun s ⟨h1,h2⟩=>by
  simp only [zq30.s4]
  by_cases h3:s.2<l.length
  ·left
   have hx:=get_at h3
   have h4:=flat_take_succ hx
   have h5:=flat_take_len (l:=l) (s.2+1)
   rw [h4,List.length_append] at h5
   refine ⟨((l.take (s.2+1)).flatten,s.2+1),?_,⟨by omega,rfl⟩,by simp only;omega⟩
   rw [dec_lt hx,cond_true,idxn_at hx,chk_pos (by rw [h2];unfold capOk;omega),h4,h2]
  ·right
   have e:s.2=l.length:=by omega
   rw [decide_eq_false (by omega),cond_false,h2,e,List.take_length]) (s:=([],0)) ⟨Nat.zero_le _,by simp⟩ (by have:=fuel_big;simp only;omega)]
 rfl
theorem word_Join_eq (l:List (List Int)) (hl:l.length≤100000000) (hf:l.flatten.length≤1000000000):word_Join l=some l.flatten:=by
 unfold word_Join
 rw [concat_ints l hl hf]
 rfl
theorem totB_of {cf:List Int→List Int→Int} (T:TotalCmp cf) {f:List Int→List Int→Option Int} {l:List (List Int)} (hf:∀ a∈l,∀ b∈l,f a b=some (cf a b)):totB f l=true:=by
 refine List.all_eq_true.2 fun a ha=>List.all_eq_true.2 fun b hb=>?_
 rw [hf a ha b hb,hf b hb a ha]
 simp only [Bool.and_eq_true]
 refine ⟨⟨⟨?_,?_⟩,?_⟩,List.all_eq_true.2 fun c hc=>?_⟩
 ·rw [beq_iff_eq]
  have:=T.zero a b
  by_cases h:a=b
  ·simp [h,this.2 h]
   rw [← h]
   exact (T.zero a a).2 rfl
  ·have h2:¬ cf a b=0:=fun e=>h (this.1 e)
   simp [h,h2]
 ·rw [beq_iff_eq]
  have:=T.swap a b
  by_cases h:cf a b<0
  ·simp [h];omega
  ·simp [h];omega
 ·have:=T.range a b
  exact decide_eq_true (by omega)
 ·rw [hf b hb c hc,hf a ha c hc]
  have r1:=T.range a b
  have r2:=T.range b c
  by_cases h1:cf a b<0
  ·by_cases h2:cf b c<0
   ·have:=T.trans a b c (by omega) (by omega)
    simp [h1,h2,this]
   ·simp [h1,h2]
  ·simp [h1]
theorem libSort_eq {cf:List Int→List Int→Int} (T:TotalCmp cf) {f:List Int→List Int→Option Int} {l:List (List Int)} (hl:l.length≤1000000000) (hf:∀ a∈l,∀ b∈l,f a b=some (cf a b)) :
  ∃ S,libSort l f=some S∧S.Perm l∧S.Pairwise (fun a b=>0≤cf b a):=by
 refine ⟨isortF f l,?_,isortF_perm f l,?_⟩
 ·unfold libSort
  rw [chk_pos hl,totB_of T hf]
  rfl
 ·have h:=isortF_sorted (totB_iff (totB_of T hf))
  rw [List.pairwise_iff_getElem] at h ⊢
  intro i j hi hj hij
  have:=h i j hi hj hij
  have m1:=(isortF_perm f l).mem_iff.1 (List.getElem_mem hi)
  have m2:=(isortF_perm f l).mem_iff.1 (List.getElem_mem hj)
  unfold NGt cfv at this
  rw [hf _ m2 _ m1] at this
  simp only [Option.getD_some] at this
  omega
theorem compact_eq {q:List Int→List Int→Option Bool} {l:List (List Int)} (hl:l.length≤1000000000) (hq:∀ a∈l,∀ b∈l,q a b=some (decide (a=b))):zq13 l q=some (dedupA l):=by
 unfold zq13
 by_cases h2:l.length<2
 ·rw [decide_eq_true (by omega),cond_true,dedupA_short (by omega)]
 rw [decide_eq_false (by omega),cond_false]
 have key:=iter_post (step:=fun k=>zq13.s20 l q k) (fun k=>1≤k∧k≤l.length∧dedupA (l.take k)=l.take k) (fun k=>l.length-k) (fun r=>Sum.elim (fun (_:Unit)=>some l) some r=some (dedupA l)) (fun k ⟨h1,h3,h4⟩=>by
  simp only [zq13.s20]
  by_cases h5:k<l.length
  ·have hx:=get_at h5
   have hp:=get_at (l:=l) (i:=k-1) (by omega)
   have hst:=dedupA_step (l:=l) (k:=k-1) (x:=l[k]) hp (by rw [show k-1+1=k by omega];exact hx)
   rw [show k-1+1=k by omega] at hst
   rw [dec_lt hx,cond_true,idxn_at hx,idx_at (i:=k-1) (by omega) hp,hq _ (List.getElem_mem _) _ (List.getElem_mem _)]
   simp only [Option.bind_some]
   by_cases h6:l[k]=l[k-1]'(by omega)
   ·right
    rw [if_pos h6] at hst
    rw [decide_eq_true h6,cond_true,chk_pos (by omega)]
    have inner:=iter_post (step:=fun (s:List (List Int)×Nat×Nat)=>zq13.s18 q k s.1 s.2.1 s.2.2) (fun s=>1≤s.2.2∧k+s.2.2≤l.length∧s.1.length=l.length∧s.2.1=(dedupA (l.take (k+s.2.2))).length∧s.2.1<k+s.2.2∧s.1.take s.2.1=dedupA (l.take (k+s.2.2))∧∀ j,s.2.1≤j→s.1[j]?=l[j]?) (fun s=>l.length-(k+s.2.2))
     (fun r=>r.2≤l.length∧r.1.length=l.length∧r.1.take r.2=dedupA l) (fun s ⟨g1,g2,g3,g4,g5,g6,g7⟩=>by
      obtain ⟨y,kk,t⟩:=s
      simp only at g1 g2 g3 g4 g5 g6 g7
      simp only [zq13.s18]
      by_cases g8:k+t<l.length
      ·left
       have gx:=get_at (l:=l) (i:=k+t) g8
       have gp:=get_at (l:=l) (i:=k+(t-1)) (by omega)
       have yx:y[k+t]?=some l[k+t]:=by rw [g7 _ (by omega)];exact gx
       have yp:y[k+(t-1)]?=some (l[k+(t-1)]'(by omega)):=by rw [g7 _ (by omega)];exact gp
       have hst2:=dedupA_step (l:=l) (k:=k+(t-1)) (x:=l[k+t]) gp (by rw [show k+(t-1)+1=k+t by omega];exact gx)
       rw [show k+(t-1)+1=k+t by omega] at hst2
       rw [decide_eq_true (show (↑t:Int)<(↑(List.length y-k):Int) by omega),cond_true,idxn_at yx,chk_pos (by omega),show Int.toNat ((↑t:Int)-1)=t-1 by omega,idxn_at yp,hq _ (List.getElem_mem _) _ (List.getElem_mem _)]
       simp only [Option.bind_some]
       by_cases g9:l[k+t]=l[k+(t-1)]'(by omega)
       ·rw [if_pos g9] at hst2
        refine ⟨(y,kk,t+1),by rw [decide_eq_true g9];rfl,⟨by simp only;omega,by simp only;omega,g3,?_,by simp only;omega,?_,g7⟩,by simp only;omega⟩
        ·simp only
         rw [show k+(t+1)=k+t+1 by omega,hst2]
         exact g4
        ·simp only
         rw [show k+(t+1)=k+t+1 by omega,hst2]
         exact g6
       ·rw [if_neg g9] at hst2
        have yk:=get_at (l:=y) (i:=kk) (by omega)
        refine ⟨(y.set kk l[k+t],kk+1,t+1),?_,⟨by simp only;omega,by simp only;omega,by simp only [List.length_set];exact g3,?_,by simp only;omega,?_,fun j hj=>?_⟩,by simp only;omega⟩
        ·rw [decide_eq_false g9]
         simp only [Bool.not_false,cond_true]
         rw [idxn_at yx,idxn_at yk,chk_pos (by unfold inR;omega)]
        ·simp only
         rw [show k+(t+1)=k+t+1 by omega,hst2,List.length_append,← g4]
         rfl
        ·simp only
         have e1:(y.set kk l[k+t])[kk]?=some l[k+t]:=by rw [List.getElem?_set];simp;omega
         rw [show k+(t+1)=k+t+1 by omega,hst2,take_step e1,List.take_set_of_le (Nat.le_refl _),g6]
        ·simp only at hj
         rw [List.getElem?_set_ne (by omega)]
         exact g7 j (by omega)
      ·right
       have e:k+t=l.length:=by omega
       refine ⟨(y,kk),?_,by simp only;omega,g3,?_⟩
       ·rw [decide_eq_false (by omega),cond_false]
       ·simp only
        rw [e,List.take_length] at g6
        exact g6) fuel (l,k,1) ⟨Nat.le_refl _,by simp only;omega,rfl,by simp only;rw [hst,h4,List.length_take];omega,by simp only;omega,by simp only;rw [hst,h4],fun j _=>rfl⟩ (by have:=fuel_big;simp only;omega)
    obtain ⟨⟨y,kk⟩,e,g1,g2,g3⟩:=inner
    simp only at g1 g2 g3
    refine ⟨.inr (dedupA l),?_,rfl⟩
    rw [e]
    simp only [Option.bind_some,zq13.k19]
    have e2:(List.take kk y++List.replicate (List.length y-kk) ([]:List Int)).length=l.length:=by
     rw [List.length_append,List.length_take,List.length_replicate]
     omega
    rw [chk_pos (by omega),chk_pos (by omega),chk_pos (by rw [e2];omega),List.take_append_of_le_length (by rw [List.length_take];omega),List.take_take,Nat.min_self,g3]
   ·left
    rw [if_neg h6] at hst
    refine ⟨k+1,by rw [decide_eq_false h6];rfl,⟨by omega,by omega,?_⟩,by omega⟩
    rw [hst,h4,take_step hx]
  ·right
   have e:k=l.length:=by omega
   subst e
   refine ⟨.inl (),?_,?_⟩
   ·rw [dec_end];rfl
   ·rw [List.take_length] at h4
    rw [h4]
    rfl) fuel 1 ⟨Nat.le_refl _,by omega,dedupA_short (by rw [List.length_take];omega)⟩ (by have:=fuel_big;omega)
 obtain ⟨r,e,hr⟩:=key
 rw [e]
 exact hr
theorem libclone_word {w:List Int} (h:SmW w):lib_Clone_int w=some w:=by
 unfold lib_Clone_int libClone
 exact chk_pos (by unfold SmW at h;unfold capOk;omega)
theorem libclone_words {l:List (List Int)} (h:l.length≤2000000):lib_Clone_words l=some l:=by
 unfold lib_Clone_words libClone
 exact chk_pos (by unfold capOk;omega)
theorem ordered_eq {cf:List Int→List Int→Int} (T:TotalCmp cf) {f:List Int→List Int→Option Int} {l:List (List Int)} (hl:SmL l) (hf:∀ a∈l,∀ b∈l,f a b=some (cf a b)) :
  ∃ S,zq71 l f=some S∧S.Pairwise (fun a b=>cf a b=-1)∧(∀ x,x∈S↔x∈l)∧S.length≤l.length:=by
 have hl1:l.length≤2000000:=hl.1
 obtain ⟨S,e1,hp,hs⟩:=libSort_eq T (by omega:l.length≤1000000000) hf
 obtain ⟨d1,d2⟩:=dedup_asc T hs
 have hm:∀ x,x∈dedupA S↔x∈l:=fun x=>by rw [d2,hp.mem_iff]
 have hlen:(dedupA S).length≤l.length:=by
  have:=dedupA_length S
  rw [hp.length_eq] at this
  exact this
 refine ⟨dedupA S,?_,d1,hm,hlen⟩
 unfold zq71 lib_SortFunc_words
 rw [libclone_words hl1]
 simp only [Option.bind_some]
 rw [e1]
 simp only [Option.bind_some]
 rw [compact_eq (by rw [hp.length_eq];omega) (fun a ha b hb=>by
  unfold zq59
  rw [hf a (hp.mem_iff.1 ha) b (hp.mem_iff.1 hb)]
  simp only [Option.bind_some]
  congr 1
  exact decide_eq_decide.2 (T.zero a b))]
 simp only [Option.bind_some]
 rw [iter_eq (r:=dedupA S) (fun s=>s.1=dedupA S) (fun s=>(dedupA S).length-s.2) (fun s h1=>by
  simp only [zq71.s2]
  by_cases h3:s.2<(dedupA S).length
  ·left
   have hx:=get_at h3
   have hxs:SmW ((dedupA S)[s.2]):=hl.2 _ ((hm _).1 (List.getElem_mem _))
   refine ⟨(dedupA S,s.2+1),?_,rfl,by simp only;omega⟩
   rw [dec_lt hx,cond_true,h1,idxn_at hx,libclone_word hxs]
   simp only [Option.bind_some]
   rw [idxn_at hx,chk_pos (by unfold inR;omega),List.set_getElem_self]
  ·right
   rw [decide_eq_false (by omega),cond_false,h1]) (s:=(dedupA S,0)) rfl (by have:=fuel_big;simp only;omega)]
 rfl
theorem wordset_Sorted_eq {l:List (List Int)} (hl:SmL l):zq81 l=some (sortW l):=by
 obtain ⟨S,e,h1,h2,_⟩:=ordered_eq cmpW_total (f:=fun u0 u1=>word_Compare u0 u1) hl fun a ha b hb=>word_Compare_eq a b (by have:SmW a:=hl.2 a ha;unfold SmW at this;omega)
 unfold zq81
 rw [e]
 show some S=_
 congr 1
 exact asc_ext h1 (sortW_asc l) fun x=>by rw [h2,mem_sortW]
theorem sml_sort {l:List (List Int)} (h:SmL l):SmL (sortW l):=⟨Nat.le_trans (sortW_length l) h.1,fun x hx=>h.2 x ((mem_sortW l x).1 hx)⟩
theorem R02_place_eq {l:List (List Int)} {w:List Int} (hA:Asc l) (hl:SmL l):R02_place l w=some (↑(placeL l w):Int):=by
 have hl1:l.length≤2000000:=hl.1
 have hsp:=placeL_spec l w
 have hle:=placeL_le l w
 unfold R02_place
 rw [iter_eq (r:=placeL l w) (fun s=>s.1≤placeL l w∧placeL l w≤s.2∧s.2≤l.length) (fun s=>s.2-s.1) (fun s ⟨h1,h2,h3⟩=>by
  obtain ⟨lo,hi⟩:=s
  simp only at h1 h2 h3
  simp only [R02_place.s2]
  by_cases h4:lo<hi
  ·left
   have hx:=get_at (l:=l) (i:=(lo+hi) / 2) (by omega)
   rw [decide_eq_true (by omega),cond_true,chk_pos (by unfold inR;omega),chk_pos (by unfold inR;omega),idxn_at hx,R01_Compare_eq _ _ (hl.2 _ (List.getElem_mem _))]
   simp only [Option.bind_some]
   by_cases h5:cmpW (l[(lo+hi) / 2]'(by omega)) w<0
   ·refine ⟨((lo+hi) / 2+1,hi),by rw [decide_eq_true h5,cond_true,chk_pos (by unfold inR;omega)],⟨?_,h2,h3⟩,by simp only;omega⟩
    simp only
    rcases Nat.lt_or_ge ((lo+hi) / 2) (placeL l w) with h | h
    ·exact h
    ·exfalso
     have hp:=get_at (l:=l) (i:=placeL l w) (by omega)
     have hne:=hsp.2 _ hp
     have r1:=cmpW_range (l[(lo+hi) / 2]'(by omega)) w
     rcases Nat.lt_or_ge (placeL l w) ((lo+hi) / 2) with h' | h'
     ·have:=hA.get h' hp hx
      exact hne (cmpW_trans _ _ _ this (by omega))
     ·have e:placeL l w=(lo+hi) / 2:=by omega
      simp only [e] at hne
      omega
   ·refine ⟨(lo,(lo+hi) / 2),by rw [decide_eq_false h5,cond_false],⟨h1,?_,by simp only;omega⟩,by simp only;omega⟩
    simp only
    rcases Nat.lt_or_ge ((lo+hi) / 2) (placeL l w) with h | h
    ·exfalso
     have:=hsp.1 _ _ h hx
     omega
    ·exact h
  ·right
   rw [decide_eq_false (by omega),cond_false,show lo=placeL l w by omega]) (s:=(0,l.length)) ⟨Nat.zero_le _,hle,Nat.le_refl _⟩ (by have:=fuel_big;simp only;omega)]
 rfl
theorem R02_with_eq {l:List (List Int)} {w:List Int} (hA:Asc l) (hl:SmL l) (hw:SmW w):R02_with l w=some (insW l w):=by
 have hl1:l.length≤2000000:=hl.1
 have hw1:w.length≤2000000:=hw
 have hle:=placeL_le l w
 have hmp:=hA.mem_place w
 unfold R02_with
 rw [R02_place_eq hA hl]
 simp only [Option.bind_some]
 by_cases hm:w∈l
 ·have hx:=hmp.1 hm
  have hlt:=(List.getElem?_eq_some_iff.1 hx).1
  rw [decide_eq_true (show (↑(placeL l w):Int)<(↑(List.length l):Int) by omega),cond_true,idx_at rfl hx,R01_Same_eq _ _ hw]
  unfold insW
  rw [if_pos hm]
  simp
 ·have hc:(cond (decide ((↑(placeL l w):Int)<(↑(List.length l):Int))) (idx l (↑(placeL l w):Int) fun e59=>(R01_Same e59 w).bind fun c60=>some c60) (some false):Option Bool)=some false:=by
   by_cases hlt:placeL l w<l.length
   ·have hx:=get_at hlt
    rw [decide_eq_true (by omega),cond_true,idx_at rfl hx,R01_Same_eq _ _ (hl.2 _ (List.getElem_mem _))]
    have:¬ l[placeL l w]=w:=fun e=>hm (hmp.2 (by rw [hx,e]))
    simp [this]
   ·rw [decide_eq_false (by omega),cond_false]
  rw [hc]
  simp only [Option.bind_some,cond_false]
  have hlen:(l++[([]:List Int)]).length=l.length+1:=by simp
  rw [chk_pos (by unfold capOk;omega),chk_pos (by rw [hlen];unfold inR;omega)]
  have key:=iter_post (step:=fun (s:List (List Int)×Int)=>R02_with.s2 (↑(placeL l w):Int) s.1 s.2) (fun s=>∃ i:Nat,s.2=(i:Int)∧placeL l w≤i∧i≤l.length∧∃ z,s.1=stage l z i) (fun s=>s.2.toNat-placeL l w) (fun r=>∃ z,r=stage l z (placeL l w)) (fun s ⟨i,h1,h2,h3,z,h4⟩=>by
   obtain ⟨y,i'⟩:=s
   simp only at h1 h4
   subst h1 h4
   simp only [R02_with.s2]
   by_cases h5:placeL l w<i
   ·left
    have hx:=get_at (l:=l) (i:=i-1) (by omega)
    have e1:(stage l z i)[i-1]?=some (l[i-1]'(by omega)):=by rw [stage_before (by omega) h3];exact hx
    have e2:(stage l z i)[i]?=some z:=stage_at h3
    refine ⟨(stage l (l[i-1]'(by omega)) (i-1),↑(i-1:Nat)),?_,⟨i-1,rfl,by omega,by omega,_,rfl⟩,by simp only;omega⟩
    rw [decide_eq_true (by omega),cond_true,chk_pos (by unfold inR;omega),idx_at (i:=i-1) (by omega) e1,idx_at rfl e2,chk_pos (by unfold inR;omega),Int.toNat_natCast,stage_set h3]
    have h6:=stage_down (us:=l) (j:=i-1) hx
    rw [show i-1+1=i by omega] at h6
    rw [h6,show (↑i:Int)-1=((i-1:Nat):Int) by omega]
   ·right
    have e:i=placeL l w:=by omega
    subst e
    refine ⟨_,by rw [decide_eq_false (by omega),cond_false],z,rfl⟩) fuel (l++[[]],(↑(l++[([]:List Int)]).length:Int)-1) ⟨l.length,by simp only [hlen];omega,hle,Nat.le_refl _,[],(stage_end l []).symm⟩ (by have:=fuel_big;simp only [hlen];omega)
  obtain ⟨r,e,z,hz⟩:=key
  subst hz
  rw [e]
  simp only [Option.bind_some]
  have e2:(stage l z (placeL l w))[placeL l w]?=some z:=stage_at hle
  rw [chk_pos (by unfold capOk;simp;omega),idx_at rfl e2,Int.toNat_natCast,stage_set hle,List.nil_append]
  unfold insW
  rw [if_neg hm]
  rfl
theorem sml_ins {l:List (List Int)} {w:List Int} (hl:l.length≤1999999∧∀ x∈l,SmW x) (hw:SmW w):SmL (insW l w):=by
 refine ⟨by have:=insW_length l w;omega,fun x hx=>?_⟩
 rcases (mem_insW l w x).1 hx with h | h
 ·exact hl.2 x h
 ·rw [h];exact hw
theorem R02_Sorted_eq {l:List (List Int)} (hl:SmL l):R02_Sorted l=some (sortW l):=by
 have hl1:l.length≤2000000:=hl.1
 unfold R02_Sorted
 rw [iter_eq (r:=sortW l) (fun s=>s.2≤l.length∧s.1=sortW (l.take s.2)) (fun s=>l.length-s.2) (fun s ⟨h1,h2⟩=>by
  obtain ⟨y,i⟩:=s
  simp only at h1 h2
  subst h2
  simp only [R02_Sorted.s2]
  by_cases h3:i<l.length
  ·left
   have hx:=get_at h3
   have hsm:SmL (sortW (l.take i)):=sml_sort ⟨by rw [List.length_take];omega,fun x hx=>hl.2 x (List.mem_of_mem_take hx)⟩
   refine ⟨(sortW (l.take (i+1)),i+1),?_,⟨h3,rfl⟩,by simp only;omega⟩
   rw [dec_lt hx,cond_true,idxn_at hx,R02_with_eq (sortW_asc _) hsm (hl.2 _ (List.getElem_mem _)),take_step hx,sortW_snoc]
   rfl
  ·right
   have e:i=l.length:=by omega
   subst e
   rw [decide_eq_false (by omega),cond_false,List.take_length]) (s:=([],0)) ⟨Nat.zero_le _,by simp [sortW]⟩ (by have:=fuel_big;simp only;omega)]
 rfl
theorem R02_Union_eq {ls:List (List (List Int))} (h0:ls.length≤100000000) (hl:SmL ls.flatten):R02_Union ls=some (sortW ls.flatten):=by
 have hl1:ls.flatten.length≤2000000:=hl.1
 unfold R02_Union
 rw [iter_eq (r:=ls.flatten) (fun s=>s.2≤ls.length∧s.1=(ls.take s.2).flatten) (fun s=>ls.length-s.2) (fun s ⟨h1,h2⟩=>by
  simp only [R02_Union.s2]
  by_cases h3:s.2<ls.length
  ·left
   have hx:=get_at h3
   have h4:=flat_take_succ hx
   have h5:=flat_take_len (l:=ls) (s.2+1)
   rw [h4,List.length_append] at h5
   refine ⟨((ls.take (s.2+1)).flatten,s.2+1),?_,⟨by omega,rfl⟩,by simp only;omega⟩
   rw [dec_lt hx,cond_true,idxn_at hx,chk_pos (by rw [h2];unfold capOk;omega),h4,h2]
  ·right
   have e:s.2=ls.length:=by omega
   rw [decide_eq_false (by omega),cond_false,h2,e,List.take_length]) (s:=([],0)) ⟨Nat.zero_le _,by simp⟩ (by have:=fuel_big;simp only;omega)]
 simp only [Option.bind_some]
 rw [R02_Sorted_eq hl]
 rfl
end Go.Proofs.YtedabpfahmealaaGreatDoor.Sym

/-
 Tables that grow: the program's Prefix and Suffix are the document's. Plain laws.
-/
namespace Go.Proofs.YtedabpfahmealaaGreatDoor.Sym
set_option maxRecDepth 100000
theorem preL_take_len {l:List (List Int)} (i:Nat):(preL (l.take i)).length≤(preL l).length:=by
 unfold preL
 rw [List.flatMap_def,List.flatMap_def,List.map_take]
 exact flat_take_len i
theorem R02_Prefixes_in {l:List (List Int)} {i:Nat} {x:List Int} {y:List (List Int)} (hx:l[i]?=some x) (hx1:x.length≤1000000) (hy:SmL y) (hlen:y.length+x.length+1≤2000000) :
  iter (fun (s:List (List Int)×Nat)=>R02_Prefixes.s13 l i s.1 s.2) fuel (sortW y,0)=some (sortW (y++prefixes x)):=by
 refine iter_eq (fun s=>s.2≤x.length+1∧s.1=sortW (y++(prefixes x).take s.2)) (fun s=>x.length+1-s.2) (fun s ⟨g1,g2⟩=>?_) ⟨Nat.zero_le _,by simp⟩ (by have:=fuel_big;simp only;omega)
 obtain ⟨z,k⟩:=s
 simp only at g1 g2
 subst g2
 simp only [R02_Prefixes.s13]
 rw [idxn_at hx]
 by_cases g3:k<x.length+1
 ·left
  have e1:SmL (y++(prefixes x).take k):=by
   refine ⟨by rw [List.length_append,List.length_take,prefixes_length];omega,fun u hu=>?_⟩
   rcases List.mem_append.1 hu with h | h
   ·exact hy.2 u h
   ·have h2:=List.mem_of_mem_take h
    unfold prefixes at h2
    obtain ⟨j,_,rfl⟩:=List.mem_map.1 h2
    unfold SmW
    rw [List.length_take]
    omega
  have e2:SmW (x.take k):=by
   unfold SmW
   rw [List.length_take]
   omega
  have e3:=R02_with_eq (sortW_asc (y++(prefixes x).take k)) (sml_sort e1) e2
  refine ⟨(sortW (y++(prefixes x).take (k+1)),k+1),?_,⟨g3,rfl⟩,by simp only;omega⟩
  rw [decide_eq_true (by omega),cond_true,idxn_at hx,chk_pos (by omega),e3]
  simp only [obind]
  rw [chk_pos (by unfold inR;omega),prefixes_take _ (by omega),← List.append_assoc,sortW_snoc]
 ·right
  have e:k=x.length+1:=by omega
  subst e
  rw [decide_eq_false (by omega),cond_false,← prefixes_length,List.take_length]
theorem R02_Prefixes_eq {l:List (List Int)} (hl:SmL l) (hw:∀ x∈l,x.length≤1000000) (hp:SmL (preL l)):R02_Prefixes l=some (sortW (preL l)):=by
 have hl1:l.length≤2000000:=hl.1
 have hp1:(preL l).length≤2000000:=hp.1
 unfold R02_Prefixes
 have key:=iter_eq (step:=fun (s:List (List Int)×Nat)=>R02_Prefixes.s14 l s.1 s.2) (r:=sortW (preL l)) (fun s=>s.2≤l.length∧s.1=sortW (preL (l.take s.2))) (fun s=>l.length-s.2) (fun s ⟨h1,h2⟩=>by
  obtain ⟨y,i⟩:=s
  simp only at h1 h2
  subst h2
  simp only [R02_Prefixes.s14]
  by_cases h3:i<l.length
  ·left
   have hx:=get_at h3
   have hst:=preL_step hx
   have hle:=preL_take_len (l:=l) (i+1)
   rw [hst,List.length_append,prefixes_length] at hle
   have hin:=R02_Prefixes_in (y:=preL (l.take i)) hx (hw _ (List.getElem_mem _)) ⟨by omega,fun u hu=>hp.2 u (by
    unfold preL at hu ⊢
    obtain ⟨z,hz,hz2⟩:=List.mem_flatMap.1 hu
    exact List.mem_flatMap.2 ⟨z,List.mem_of_mem_take hz,hz2⟩)⟩ (by omega)
   refine ⟨(sortW (preL (l.take i)++prefixes l[i]),i+1),?_,⟨h3,by simp only;rw [hst]⟩,by simp only;omega⟩
   rw [dec_lt hx,cond_true,hin]
   simp only [obind]
  ·right
   have e:i=l.length:=by omega
   subst e
   rw [decide_eq_false (by omega),cond_false,List.take_length]) (n:=fuel) (s:=([],0)) ⟨Nat.zero_le _,by simp [preL,sortW]⟩ (by have:=fuel_big;simp only;omega)
 rw [key]
 simp only [obind]
theorem R01_Join_eq (l:List (List Int)) (hl:l.length≤100000000) (hf:l.flatten.length≤1000000000):R01_Join l=some l.flatten:=by
 unfold R01_Join
 rw [iter_eq (r:=l.flatten) (fun s=>s.2≤l.length∧s.1=(l.take s.2).flatten) (fun s=>l.length-s.2) (fun s ⟨h1,h2⟩=>by
  simp only [R01_Join.s2]
  by_cases h3:s.2<l.length
  ·left
   have hx:=get_at h3
   have h4:=flat_take_succ hx
   have h5:=flat_take_len (l:=l) (s.2+1)
   rw [h4,List.length_append] at h5
   refine ⟨((l.take (s.2+1)).flatten,s.2+1),?_,⟨by omega,rfl⟩,by simp only;omega⟩
   rw [dec_lt hx,cond_true,idxn_at hx,chk_pos (by rw [h2];unfold capOk;omega),h4,h2]
  ·right
   have e:s.2=l.length:=by omega
   rw [decide_eq_false (by omega),cond_false,h2,e,List.take_length]) (s:=([],0)) ⟨Nat.zero_le _,by simp⟩ (by have:=fuel_big;simp only;omega)]
 rfl
theorem R23_Joined_eq {u v:List Int} (hu:SmW u) (hv:SmW v):R23_Joined u v=some (u++v):=by
 unfold R23_Joined
 unfold SmW at hu hv
 rw [R01_Join_eq [u,v] (by simp) (by simp;omega)]
 simp
theorem R23_copied_eq {l:List (List Int)} (hl:SmL l):R23_copied l=some l:=by
 have hl1:l.length≤2000000:=hl.1
 unfold R23_copied
 rw [iter_eq (r:=l) (fun s=>s.2≤l.length∧s.1=l.take s.2) (fun s=>l.length-s.2) (fun s ⟨h1,h2⟩=>by
  simp only [R23_copied.s2]
  by_cases h3:s.2<l.length
  ·left
   have hx:=get_at h3
   refine ⟨(l.take (s.2+1),s.2+1),?_,⟨by omega,rfl⟩,by simp only;omega⟩
   rw [dec_lt hx,cond_true,idxn_at hx,R23_Joined_eq (hl.2 _ (List.getElem_mem _)) (by simp [SmW])]
   simp only [obind]
   rw [chk_pos (by rw [h2,List.length_take];unfold capOk;omega),take_step hx,h2,List.append_nil]
  ·right
   have e:s.2=l.length:=by omega
   rw [decide_eq_false (by omega),cond_false,h2,e,List.take_length]) (s:=([],0)) ⟨Nat.zero_le _,by simp⟩ (by have:=fuel_big;simp only;omega)]
 rfl
theorem two_flat (a b:List (List Int)):[a,b].flatten=a++b:=by simp
theorem sml_append {a b:List (List Int)} (h:a.length+b.length≤2000000) (ha:SmL a) (hb:SmL b):SmL (a++b) :=
 ⟨by rw [List.length_append];exact h,fun x hx=>(List.mem_append.1 hx).elim (ha.2 x) (hb.2 x)⟩
theorem sml_nil:SmL []:=⟨by simp,fun x hx=>by cases hx⟩
theorem R23_With_eq {t:T_api_Table} {p s:List (List Int)} (h1:SmL t.Prefixes) (h2:SmL t.Suffixes) (hp:SmL p) (hs:SmL s) (h3:t.Prefixes.length+p.length≤2000000) (h4:t.Suffixes.length+s.length≤2000000) :
  R23_With t p s=some ⟨t.Inputs,sortW (t.Prefixes++p),sortW (t.Suffixes++s)⟩:=by
 unfold R23_With
 rw [R23_copied_eq h1,R23_copied_eq h2,R23_copied_eq hp,R23_copied_eq hs]
 simp only [obind]
 rw [R02_Union_eq (by simp) (by rw [two_flat];exact sml_append h3 h1 hp),R02_Union_eq (by simp) (by rw [two_flat];exact sml_append h4 h2 hs),two_flat,two_flat]
 rfl
def growT (t:T_api_Table) (p s:List (List Int)):T_api_Table×Int :=
 if validT ⟨t.Inputs,sortW (t.Prefixes++p),sortW (t.Suffixes++s)⟩≠0 then (t,validT ⟨t.Inputs,sortW (t.Prefixes++p),sortW (t.Suffixes++s)⟩) else (⟨t.Inputs,sortW (t.Prefixes++p),sortW (t.Suffixes++s)⟩,0)
def prefixT (t:T_api_Table) (w:List Int):T_api_Table×Int :=
 if validT t≠0 then (t,validT t) else if checkI w t.Inputs≠0 then (t,checkI w t.Inputs) else growT t (sortW (preL [w])) []
def suffixT (t:T_api_Table) (w:List Int):T_api_Table×Int :=
 if validT t≠0 then (t,validT t) else if w.length=0 then (t,19) else if checkI w t.Inputs≠0 then (t,checkI w t.Inputs) else growT t [] [w]
theorem smt_grow {t:T_api_Table} {p s:List (List Int)} (ht:SmT t) (hp:SmL p) (hs:SmL s) (h3:t.Prefixes.length+p.length≤2000000) (h4:t.Suffixes.length+s.length≤2000000) (hr:∀ x∈p,∀ a∈x,inR a) :
  SmT ⟨t.Inputs,sortW (t.Prefixes++p),sortW (t.Suffixes++s)⟩ :=
 ⟨ht.1,sml_sort (sml_append h3 ht.2.1 hp),sml_sort (sml_append h4 ht.2.2.1 hs),fun x hx=>by
  rcases List.mem_append.1 ((mem_sortW _ _).1 hx) with h | h
  ·exact ht.2.2.2 x h
  ·exact hr x h⟩
theorem preL_one (w:List Int):preL [w]=prefixes w:=by simp [preL]
theorem sml_pre {w:List Int} (hw:w.length≤100000):SmL (preL [w]):=by
 rw [preL_one]
 refine ⟨by rw [prefixes_length];omega,fun x hx=>?_⟩
 unfold prefixes at hx
 obtain ⟨k,_,rfl⟩:=List.mem_map.1 hx
 show (w.take k).length≤2000000
 rw [List.length_take]
 omega
theorem sml_one {w:List Int} (hw:w.length≤100000):SmL [w]:=⟨by simp,fun x hx=>by rcases List.mem_singleton.1 hx with rfl;show x.length≤2000000;omega⟩
theorem R23_Prefix_eq {t:T_api_Table} {w:List Int} (ht:SmT t) (hw:w.length≤100000) (hr:∀ a∈w,inR a) (h3:t.Prefixes.length+200000≤2000000):R23_Prefix t w=some (prefixT t w):=by
 unfold R23_Prefix prefixT
 have hpl:(sortW (preL [w])).length≤100001:=by
  have:=sortW_length (preL [w])
  rw [preL_one,prefixes_length] at this
  rw [preL_one]
  omega
 have hsp:=sml_sort (sml_pre hw)
 rw [R23_Valid_eq t ht,R01_Check_eq w _ (by unfold SmW;omega),R02_Prefixes_eq (sml_one hw) (fun x hx=>by rcases List.mem_singleton.1 hx with rfl;omega) (sml_pre hw)]
 simp only [obind]
 by_cases h1:validT t=0
 ·by_cases h2:checkI w t.Inputs=0
  ·rw [decide_eq_false (by simpa using h1),decide_eq_false (by simpa using h2),if_neg (by simpa using h1),if_neg (by simpa using h2),cond_false,cond_false]
   rw [R23_With_eq ht.2.1 ht.2.2.1 hsp sml_nil (by omega) (by have:=ht.2.2.1.1;simp;omega)]
   simp only [obind]
   have hg:=smt_grow (s:=[]) ht hsp sml_nil (by omega) (by have:=ht.2.2.1.1;simp;omega) (fun x hx a ha=>by
    have hx:=(mem_sortW _ _).1 hx
    rw [preL_one] at hx
    unfold prefixes at hx
    obtain ⟨k,_,rfl⟩:=List.mem_map.1 hx
    exact hr a (List.mem_of_mem_take ha))
   rw [R23_Valid_eq _ hg]
   unfold growT
   simp only [obind]
   by_cases h5:validT ⟨t.Inputs,sortW (t.Prefixes++sortW (preL [w])),sortW (t.Suffixes++[])⟩=0
   ·rw [decide_eq_false (by simpa using h5),cond_false,if_neg (by simpa using h5)]
   ·rw [decide_eq_true h5,cond_true,if_pos h5]
  ·rw [decide_eq_false (by simpa using h1),decide_eq_true h2,if_neg (by simpa using h1),if_pos h2,cond_false,cond_true]
 ·rw [decide_eq_true h1,if_pos h1,cond_true]
theorem R23_Suffix_eq {t:T_api_Table} {w:List Int} (ht:SmT t) (hw:w.length≤100000) (h3:t.Suffixes.length+200000≤2000000):R23_Suffix t w=some (suffixT t w):=by
 unfold R23_Suffix suffixT
 rw [R23_Valid_eq t ht,R01_Check_eq w _ (by unfold SmW;omega)]
 simp only [obind]
 by_cases h1:validT t=0
 ·rw [decide_eq_false (by simpa using h1),if_neg (by simpa using h1),cond_false]
  by_cases h0:w.length=0
  ·rw [decide_eq_true (by omega),cond_true,if_pos h0]
  ·rw [decide_eq_false (by omega),cond_false,if_neg h0]
   by_cases h2:checkI w t.Inputs=0
   ·rw [decide_eq_false (by simpa using h2),if_neg (by simpa using h2),cond_false]
    rw [R23_With_eq ht.2.1 ht.2.2.1 sml_nil (sml_one hw) (by have:=ht.2.1.1;simp;omega) (by simp;omega)]
    simp only [obind]
    have hg:=smt_grow (p:=[]) (s:=[w]) ht sml_nil (sml_one hw) (by have:=ht.2.1.1;simp;omega) (by simp;omega) (fun x hx=>by cases hx)
    rw [R23_Valid_eq _ hg]
    unfold growT
    simp only [obind]
    by_cases h5:validT ⟨t.Inputs,sortW (t.Prefixes++[]),sortW (t.Suffixes++[w])⟩=0
    ·rw [decide_eq_false (by simpa using h5),cond_false,if_neg (by simpa using h5)]
    ·rw [decide_eq_true h5,cond_true,if_pos h5]
   ·rw [decide_eq_true h2,if_pos h2,cond_true]
 ·rw [decide_eq_true h1,if_pos h1,cond_true]
theorem L23_Long_eq (l:List (List Int)) (m:Int) (hl:l.length≤2000000):L23_Long l m=some (decide (m<↑l.length)||!l.all fun x=>decide (x.length≤30)):=by
 unfold L23_Long
 by_cases h:m<↑l.length
 ·rw [decide_eq_true h,cond_true];rfl
 ·have key:=iter_scan (step:=fun s=>L23_Long.s2 l s) (l:=l) (fun _ x=>if decide (x.length≤30)=true then none else some true) (fun i x hx=>by
   simp only [L23_Long.s2]
   rw [dec_lt hx,cond_true,idxn_at hx]
   by_cases h1:x.length≤30
   ·rw [decide_eq_false (by omega),cond_false,decide_eq_true h1];rfl
   ·rw [decide_eq_true (by omega),cond_true,decide_eq_false h1];rfl) (by
   simp only [L23_Long.s2]
   rw [dec_end]
   rfl) (by omega)
  rw [decide_eq_false h,cond_false,key,scan_all (p:=fun (x:List Int)=>decide (x.length≤30))]
  cases (l.all fun x=>decide (x.length≤30))<;>rfl
def greatT (t:T_api_Table) (o:T_api_Obs):Bool :=
 decide (4<t.Inputs)||(decide (30<t.Prefixes.length)||!t.Prefixes.all fun x=>decide (x.length≤30))||(decide (12<t.Suffixes.length)||!t.Suffixes.all fun x=>decide (x.length≤30))||decide (400<o.Traces.length)||!o.Traces.all fun x=>decide (x.In.length≤90)
theorem L23_Great_eq (t:T_api_Table) (o:T_api_Obs) (h1:t.Prefixes.length≤2000000) (h2:t.Suffixes.length≤2000000) (h3:o.Traces.length≤2000000):L23_Great t o=some (greatT t o):=by
 unfold L23_Great greatT
 rw [L23_Long_eq _ _ h1,L23_Long_eq _ _ h2]
 have e1:((30:Int)<↑t.Prefixes.length)↔30<t.Prefixes.length:=by omega
 have e2:((12:Int)<↑t.Suffixes.length)↔12<t.Suffixes.length:=by omega
 have e3:((400:Int)<↑o.Traces.length)↔400<o.Traces.length:=by omega
 simp only [e1,e2,e3,obind]
 have key:=iter_scan (step:=fun s=>L23_Great.s2 o s) (l:=o.Traces) (fun _ x=>if decide (x.In.length≤90)=true then none else some true) (fun i x hx=>by
  simp only [L23_Great.s2]
  rw [dec_lt hx,cond_true,idxn_at hx]
  by_cases h1:x.In.length≤90
  ·rw [decide_eq_false (by omega),cond_false,decide_eq_true h1];rfl
  ·rw [decide_eq_true (by omega),cond_true,decide_eq_false h1];rfl) (by
  simp only [L23_Great.s2]
  rw [dec_end]
  rfl) (by omega)
 rw [key,scan_all (p:=fun (x:T_api_Trace)=>decide (x.In.length≤90))]
 cases decide (4<t.Inputs)<;>cases (decide (30<t.Prefixes.length)||!t.Prefixes.all fun x=>decide (x.length≤30))<;>cases (decide (12<t.Suffixes.length)||!t.Suffixes.all fun x=>decide (x.length≤30))<;>cases decide (400<o.Traces.length)<;>cases (o.Traces.all fun x=>decide (x.In.length≤90))<;>rfl
theorem growT_sml {t:T_api_Table} {p s:List (List Int)} (ht:SmT t) (hp:SmL p) (hs:SmL s) (h3:t.Prefixes.length+p.length≤2000000) (h4:t.Suffixes.length+s.length≤2000000):SmL (growT t p s).1.Prefixes∧SmL (growT t p s).1.Suffixes:=by
 unfold growT
 split
 ·exact ⟨ht.2.1,ht.2.2.1⟩
 ·exact ⟨sml_sort (sml_append h3 ht.2.1 hp),sml_sort (sml_append h4 ht.2.2.1 hs)⟩
end Go.Proofs.YtedabpfahmealaaGreatDoor.Sym

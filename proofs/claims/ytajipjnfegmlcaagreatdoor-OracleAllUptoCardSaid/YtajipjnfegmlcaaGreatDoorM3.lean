/-
 The contract of slices.Clone.
-/
import Derived.Test.YtajipjnfegmlcaaGreatDoorM2
import Derived.Shelf.SlSortCmp.NoneTotal
import Derived.Lib.OwnBridge
import Derived.Laws.OwnMore
import Derived.Lib.BufferRead
import Derived.Lib.Hide
import Derived.WalkSmall
import Derived.Shelf.SlSortCmp.Whole1
import Derived.Shelf.SlSortCmp.WholeK
import Derived.Ground.SlsfProg
import Derived.Test.YtajipjnfegmlcaaGreatDoorProg
import Derived.Lib.AppendZerosOnto
import Derived.Lib.Overlaps
import Derived.Lib.Walk
import Derived.Shelf.RegionOpenPlain
import Derived.Laws.NewBlocks
import Derived.Deep.WholeRow
set_option linter.all false
namespace Go.Proofs.YtajipjnfegmlcaaGreatDoor.Sym
open Go.RowKit
section
variable {P:Program} {w:World}
theorem wpList_append_k {ops:Array Oper} {rest:List Oper} {o:Oper} {a:Act} {Q:Exit→Act→World→Prop} (hgd:o.guard=none) (s x:Operand) (t:TypeId)
  (ho:o.op=.call { callee:=.builtin .append,args:=#[s,x],argTypes:=#[t,t] })
  (base:Nat) (e:TypeId) (i:TypeInfo) (z:Value) (size bytes:Nat) (ht:P.underlying t=some (.slice e)) (hi:P.info? e=some i) (hz:i.zero=some z)
  (hsize:i.size=size) (hby:i.bytes=bytes) (hzs:z.cells.size=size) (hsz:0<size) (v:Value) (n:Nat) (xs:List Value) (hs:a.eval s=v) (hown:w.ownsRow base e size v n xs)
  (A:Option Addr) (m c:Nat) (news:List Value) (hx:a.eval x=.slice A m c) (hl:news.length=m*size) (hsrc:0<m→∃ b q,A=some ⟨b,q,none⟩∧∀ (j:Nat) u,news[j]?=some u→w.cell? ⟨b,q+j,none⟩=some u) (h1:∀ u∈news,u.oneCell'=true)
  (h63:n+m≤maxLen) (hbytes:(n+m)*bytes≤140737488355328) (hbase:base≤w.heap.size)
  (h:∀ v' w',w'.ownsRow base e size v' (n+m) (xs++news)→w.grownBy w' v.ownBlock→(v'.ownBlock=v.ownBlock∨v'.ownBlock=some w.heap.size)→wpList P ops Q rest (a.put o.dst v') w') :
  wpList P ops Q (o::rest) a w:=by
 refine wpList_plain hgd fun _ hK=>?_
 obtain ⟨v',w',hrun,h2,h3,h4⟩:=run_append_k (P:=P) base t o.type e i z size bytes ht hi hz hsize hby hzs hsz v n xs hown A m c news hl hsrc h1 h63 hbytes hbase
 unfold Oper.wp execOp
 simp only [ho,resolve,invoke,builtin,Sem.run_bind,Sem.run_pure,Result.andThen_ok,List.map_toArray,List.map_cons,List.map_nil,hs,hx,hrun]
 exact hK _ _ (h v' w' h2 h3 h4)
end
theorem grown_step {a b c:World} {row row':Option Nat} (h:a.grownBy b row) (k:b.grownBy c row') (hr:row'=row∨∀ g,row'=some g→a.heap.size≤g):a.grownBy c row :=
 ⟨k.os.trans h.os,k.tape.trans h.tape,k.output.trans h.output,Nat.le_trans h.size k.size,fun i hi hne =>
  (k.block i (Nat.lt_of_lt_of_le hi h.size) (by
   rcases hr with e | e
   ·rw [e];exact hne
   ·intro he
    have:=e i he.symm
    omega)).trans (h.block i hi hne)⟩
def ClonePost (t:TypeId) (k n:Nat) (us:List Value) (w:World) (e:Ending) (w':World):Prop :=
 ∃ v',e=.returned v'∧w'.ownsRow w.heap.size t k v' n us∧Below w.heap.size w w'
theorem ownsRow_none (w:World) (t:TypeId) (k:Nat):(w.alloc (.cells #[] t)).ownsRow w.heap.size t k (.slice (some ⟨w.heap.size,0,none⟩) 0 0) 0 []:=by
 refine ⟨by simp,.inr ⟨w.heap.size,0,#[],rfl,Nat.le_refl _,?_,Nat.zero_le _,by unfold maxLen;omega,by simp,by simp⟩⟩
 exact heap_alloc_new w _
theorem sp_of_clone {g:FuncId} {t:TypeId} {k by_:Nat} (he:∀ args w,(callFunc g args).run Tryz.prog w=.ok (.enter g args) w) (hk0:0<k)
  (h:∀ (w:World) (A:Option Addr) (n c:Nat) (us:List Value),us.length=n*k→(0<n→∃ b q,A=some ⟨b,q,none⟩∧∀ (j:Nat) u,us[j]?=some u→w.cell? ⟨b,q+j,none⟩=some u) →
   (∀ u∈us,u.oneCell'=true)→n≤17592186044416→n*by_≤140737488355328→Calls Tryz.prog g #[.slice A n c] w (ClonePost t k n us w))
  {es:List (List IV)} (hk:∀ e∈es,e.length=k) (hc:capOk es.length by_):Sp Tryz.prog g [.im (.sl es)] (.row t k es):=by
 refine ⟨he,fun w S vs F hS hv hn hF=>?_⟩
 match vs,hv with
 | [v],⟨F1,F2,⟨h3,e1⟩,h5,e3⟩ =>
  have h5:F2=[]:=h5
  subst e1 h5 e3
  obtain ⟨A,c,us,rfl,hl,h1,hlim,hcell,hr⟩:=sl_src h3 hk
  have hlk:us.length=es.length*k:=by rw [hl,flat_length hk]
  refine (h w A es.length c us hlk hcell h1 hlim hc.1).mono ?_
  rintro e w' ⟨v',rfl,ho,hb⟩
  have ho0:w'.ownsRow 0 t k v' es.length us:=by
   refine ⟨ho.1,?_⟩
   rcases ho.2 with h6 | ⟨g1,cap,cur,k1,_,k3⟩
   ·exact .inl h6
   ·exact .inr ⟨g1,cap,cur,k1,Nat.zero_le _,k3⟩
  have hlt:=ho.lt
  have hbk:∀ b∈(blkOf v').toList,w.heap.size≤b∧b<w'.heap.size:=fun b hb=>by
   refine hlt b ?_
   rw [row_blk ho0]
   simpa using hb
  refine ⟨v',(blkOf v').toList,rfl,.of hb,⟨[v'],(blkOf v').toList,[],rfl,⟨(blkOf v').toList,[],⟨row_one ho0,[],⟨us,hk0,hk,hlim,ho0,hl,h1,fun i u x hu hx=>?_⟩,rfl⟩,rfl,by simp⟩,rfl,by simp⟩,?_,fun b hb=>⟨.inl (hbk b hb).1,(hbk b hb).2⟩⟩
  ·have k1:∀ b,S b→(S b∨w.heap.size≤b∨b∈[])∧b<w'.heap.size∧b∉(blkOf v').toList:=fun b hb'=>⟨.inl hb',Nat.lt_of_lt_of_le (hS b hb') hb.size,fun hm=>by
    have h1:=(hbk b hm).1
    have h2:=hS b hb'
    omega⟩
   have k2:∀ (p:Addr) u,S p.block→w.cell? p=some u→w'.cell? p=some u:=fun p u hp hu=>by
    have h6:=hb.block p.block (hS _ hp)
    have h7:w'.cell? p=w.cell? p:=by
     unfold World.cell?
     rw [h6]
    rw [h7]
    exact hu
   exact (hr i u x hu hx).mono k1 k2
  ·cases blkOf v'<;>simp
end Go.Proofs.YtajipjnfegmlcaaGreatDoor.Sym

/-
 Walks of slices.Clone.
-/
namespace Go.Proofs.YtajipjnfegmlcaaGreatDoor.Sym
open Go.RowKit
theorem Tryz.infoC_int:(Tryz.prog.info? 3).map (fun i=>(i.zero,i.size,i.bytes))=some (some (.int .i64 0),1,8):=by kernel_rfl
set_option maxRecDepth 100000 in
set_option maxHeartbeats 400000 in
theorem clone_int (w:World) (A:Option Addr) (n c:Nat) (us:List Value) (hl:us.length=n*1) (hs:0<n→∃ b q,A=some ⟨b,q,none⟩∧∀ (j:Nat) u,us[j]?=some u→w.cell? ⟨b,q+j,none⟩=some u)
  (h1:∀ u∈us,u.oneCell'=true) (hn:n≤17592186044416) (hby:n*8≤140737488355328):Calls Tryz.prog 23 #[.slice A n c] w (ClonePost 3 1 n us w):=by
 obtain ⟨j0,ji,jz0,jz1,jz2⟩:=info_parts Tryz.infoC_int
 have hnil:=Lib.run_eql_slice_nil (P:=Tryz.prog) w 25 3 A n c 0 0 Tryz.underlying25
 cases A with
 | none =>
  have h0:n=0:=by
   rcases Nat.eq_zero_or_pos n with h | h
   ·exact h
   ·obtain ⟨b,q,e,_⟩:=hs h;cases e
  subst h0
  have hxs:us=[]:=List.eq_nil_of_length_eq_zero (by omega)
  have HX:=Lib.hid hxs
  clear hxs hs hl h1
  go_enter Tryz.func23,Tryz.ntmps23
  go_wp2
  go_ret
  rw [HX.out]
  exact ⟨_,rfl,World.ownsRow_nil _ _ _ _,Below.refl _ _⟩
 | some a =>
  have hsrc:∀ o,0<n→∃ b q,some a=some ⟨b,q,none⟩∧∀ (j:Nat) u,us[j]?=some u→(w.alloc o).cell? ⟨b,q+j,none⟩=some u:=fun o h=>by
   obtain ⟨b,q,e,hc⟩:=hs h
   exact ⟨b,q,e,fun j u hu=>grown_keeps (World.grownBy_alloc w o none) _ _ (hc j u hu)⟩
  have hc6:0+n≤maxLen:=by unfold maxLen;omega
  have hc7:(0+n)*8≤140737488355328:=by omega
  have hc8:∀ o,w.heap.size≤(w.alloc o).heap.size:=fun o=>by simp
  have HXL:=Lib.hid hl
  clear hs
  go_enter Tryz.func23,Tryz.ntmps23
  go_wp2_with (at_builtin;refine wpList_append_k rfl (.tmp 5) (.tmp 6) 25 rfl w.heap.size 3 j0 (.int .i64 0) 1 8 Tryz.underlying25 ji jz0 jz1 jz2 rfl (by decide) (.slice (some ⟨w.heap.size,0,none⟩) 0 0) 0 _ rfl (ownsRow_none _ _ _) _ _ _ _ rfl HXL.out (hsrc _) h1 hc6 hc7 (hc8 _) ?_;intro v1 w1 hown1 hg1 hb1)
  go_ret
  have hgr:w.grownBy w1 none:=grown_step (World.grownBy_alloc w _ none) hg1 (.inr fun g e=>by
   have:some w.heap.size=some g:=e
   injection this with this
   omega)
  exact ⟨v1,rfl,by simpa using hown1,grown_below hgr (Nat.le_refl _) (fun g e=>by cases e)⟩
theorem Tryz.infoC_words:(Tryz.prog.info? 25).map (fun i=>(i.zero,i.size,i.bytes))=some (some (.slice none 0 0),1,24):=by kernel_rfl
set_option maxRecDepth 100000 in
set_option maxHeartbeats 400000 in
theorem clone_words (w:World) (A:Option Addr) (n c:Nat) (us:List Value) (hl:us.length=n*1) (hs:0<n→∃ b q,A=some ⟨b,q,none⟩∧∀ (j:Nat) u,us[j]?=some u→w.cell? ⟨b,q+j,none⟩=some u)
  (h1:∀ u∈us,u.oneCell'=true) (hn:n≤17592186044416) (hby:n*24≤140737488355328):Calls Tryz.prog 106 #[.slice A n c] w (ClonePost 25 1 n us w):=by
 obtain ⟨j0,ji,jz0,jz1,jz2⟩:=info_parts Tryz.infoC_words
 have hnil:=Lib.run_eql_slice_nil (P:=Tryz.prog) w 22 25 A n c 0 0 Tryz.underlying22
 cases A with
 | none =>
  have h0:n=0:=by
   rcases Nat.eq_zero_or_pos n with h | h
   ·exact h
   ·obtain ⟨b,q,e,_⟩:=hs h;cases e
  subst h0
  have hxs:us=[]:=List.eq_nil_of_length_eq_zero (by omega)
  have HX:=Lib.hid hxs
  clear hxs hs hl h1
  go_enter Tryz.func106,Tryz.ntmps106
  go_wp2
  go_ret
  rw [HX.out]
  exact ⟨_,rfl,World.ownsRow_nil _ _ _ _,Below.refl _ _⟩
 | some a =>
  have hsrc:∀ o,0<n→∃ b q,some a=some ⟨b,q,none⟩∧∀ (j:Nat) u,us[j]?=some u→(w.alloc o).cell? ⟨b,q+j,none⟩=some u:=fun o h=>by
   obtain ⟨b,q,e,hc⟩:=hs h
   exact ⟨b,q,e,fun j u hu=>grown_keeps (World.grownBy_alloc w o none) _ _ (hc j u hu)⟩
  have hc6:0+n≤maxLen:=by unfold maxLen;omega
  have hc7:(0+n)*24≤140737488355328:=by omega
  have hc8:∀ o,w.heap.size≤(w.alloc o).heap.size:=fun o=>by simp
  have HXL:=Lib.hid hl
  clear hs
  go_enter Tryz.func106,Tryz.ntmps106
  go_wp2_with (at_builtin;refine wpList_append_k rfl (.tmp 5) (.tmp 6) 22 rfl w.heap.size 25 j0 (.slice none 0 0) 1 24 Tryz.underlying22 ji jz0 jz1 jz2 rfl (by decide) (.slice (some ⟨w.heap.size,0,none⟩) 0 0) 0 _ rfl (ownsRow_none _ _ _) _ _ _ _ rfl HXL.out (hsrc _) h1 hc6 hc7 (hc8 _) ?_;intro v1 w1 hown1 hg1 hb1)
  go_ret
  have hgr:w.grownBy w1 none:=grown_step (World.grownBy_alloc w _ none) hg1 (.inr fun g e=>by
   have:some w.heap.size=some g:=e
   injection this with this
   omega)
  exact ⟨v1,rfl,by simpa using hown1,grown_below hgr (Nat.le_refl _) (fun g e=>by cases e)⟩
end Go.Proofs.YtajipjnfegmlcaaGreatDoor.Sym

/-
 The contract of slices.SortFunc under a total comparison.
-/
namespace Go.Proofs.YtajipjnfegmlcaaGreatDoor.Sym
open Go.RowKit Go.Sort
section plain
variable {α:Type}
def totB [DecidableEq α] (f:α→α→Option Int) (l:List α):Bool :=
 l.all fun a=>l.all fun b=>match f a b,f b a with
  | some m,some n=>(decide (m=0)==decide (a=b))&&(decide (m<0)==decide (0<n))&&(decide (-1≤m∧m≤1))&&l.all fun c=>!(decide (m<0)&&(match f b c with | some x=>decide (x<0) | none=>false))||(match f a c with | some x=>decide (x<0) | none=>false)
  | _,_=>false
def insF (f:α→α→Option Int) (x:α):List α→List α
 | []=>[x]
 | y::l=>match f x y with
  | some m=>cond (decide (m≤0)) (x::y::l) (y::insF f x l)
  | none=>x::y::l
def isortF (f:α→α→Option Int):List α→List α
 | []=>[]
 | x::l=>insF f x (isortF f l)
def libSort [DecidableEq α] (l:List α) (f:α→α→Option Int):Option (List α):=chk (l.length≤1000000000) (cond (totB f l) (some (isortF f l)) none)
def cfv (f:α→α→Option Int) (a b:α):Int:=(f a b).getD 0
structure TotF (f:α→α→Option Int) (l:List α):Prop where
 get:∀ a∈l,∀ b∈l,f a b=some (cfv f a b)
 zero:∀ a∈l,∀ b∈l,cfv f a b=0→a=b
 self:∀ a∈l,cfv f a a=0
 swap:∀ a∈l,∀ b∈l,(cfv f a b<0↔0<cfv f b a)
 trans:∀ a∈l,∀ b∈l,∀ c∈l,cfv f a b<0→cfv f b c<0→cfv f a c<0
theorem totB_iff [DecidableEq α] {f:α→α→Option Int} {l:List α} (h:totB f l=true):TotF f l:=by
 have key:∀ a∈l,∀ b∈l,∃ m n,f a b=some m∧f b a=some n∧(m=0↔a=b)∧(m<0↔0<n)∧∀ c∈l,m<0→(∃ x,f b c=some x∧x<0)→∃ x,f a c=some x∧x<0:=by
  intro a ha b hb
  have h1:=List.all_eq_true.1 (List.all_eq_true.1 h a ha) b hb
  cases e1:f a b with
  | none=>rw [e1] at h1;cases h1
  | some m =>
   cases e2:f b a with
   | none=>rw [e1,e2] at h1;cases h1
   | some n =>
    rw [e1,e2] at h1
    simp only [Bool.and_eq_true] at h1
    obtain ⟨⟨⟨h2,h3⟩,_⟩,h5⟩:=h1
    refine ⟨m,n,rfl,rfl,?_,?_,fun c hc hm ⟨x,hx,hx0⟩=>?_⟩
    ·have h2:=eq_of_beq h2
     simpa using h2
    ·have h3:=eq_of_beq h3
     simpa using h3
    ·have h6:=List.all_eq_true.1 h5 c hc
     rw [hx] at h6
     simp only [hm,hx0,decide_true,Bool.and_self,Bool.not_true,Bool.false_or] at h6
     cases e3:f a c with
     | none=>rw [e3] at h6;cases h6
     | some y=>rw [e3] at h6;exact ⟨y,rfl,by simpa using h6⟩
 have get:∀ a∈l,∀ b∈l,f a b=some (cfv f a b):=fun a ha b hb=>by
  obtain ⟨m,n,e1,_⟩:=key a ha b hb
  unfold cfv
  rw [e1]
  rfl
 refine ⟨get,fun a ha b hb=>?_,fun a ha=>?_,fun a ha b hb=>?_,fun a ha b hb c hc h1 h2=>?_⟩
 ·obtain ⟨m,n,e1,e2,h3,_⟩:=key a ha b hb
  rw [get a ha b hb] at e1
  injection e1 with e1
  rw [e1]
  exact h3.1
 ·obtain ⟨m,n,e1,e2,h3,_⟩:=key a ha a ha
  rw [get a ha a ha] at e1
  injection e1 with e1
  rw [e1]
  exact h3.2 rfl
 ·obtain ⟨m,n,e1,e2,h3,h4,_⟩:=key a ha b hb
  rw [get a ha b hb] at e1
  rw [get b hb a ha] at e2
  injection e1 with e1
  injection e2 with e2
  rw [e1,e2]
  exact h4
 ·obtain ⟨m,n,e1,e2,h3,h4,h5⟩:=key a ha b hb
  rw [get a ha b hb] at e1
  injection e1 with e1
  obtain ⟨x,hx,hx0⟩:=h5 c hc (by omega) ⟨_,get b hb c hc,h2⟩
  rw [get a ha c hc] at hx
  injection hx with hx
  omega
theorem TotF.sub {f:α→α→Option Int} {l l':List α} (T:TotF f l) (h:∀ x∈l',x∈l):TotF f l' :=
 ⟨fun a ha b hb=>T.get a (h a ha) b (h b hb),fun a ha b hb=>T.zero a (h a ha) b (h b hb),fun a ha=>T.self a (h a ha),fun a ha b hb=>T.swap a (h a ha) b (h b hb),fun a ha b hb c hc=>T.trans a (h a ha) b (h b hb) c (h c hc)⟩
def NGt (f:α→α→Option Int) (a b:α):Prop:=¬ cfv f b a<0
theorem TotF.ngt_trans {f:α→α→Option Int} {l:List α} (T:TotF f l) {a b c:α} (ha:a∈l) (hb:b∈l) (hc:c∈l) (h1:NGt f a b) (h2:NGt f b c):NGt f a c:=by
 intro h3
 have s1:=T.swap a ha b hb
 have s2:=T.swap b hb c hc
 have s3:=T.swap c hc a ha
 have t1:=T.swap b hb a ha
 have t2:=T.swap c hc b hb
 unfold NGt at h1 h2
 by_cases e1:cfv f b a=0
 ·have:=T.zero b hb a ha e1
  subst this
  exact h2 h3
 ·by_cases e2:cfv f c b=0
  ·have:=T.zero c hc b hb e2
   subst this
   exact h1 h3
  ·have h4:cfv f a b<0:=s1.2 (by omega)
   have h5:=T.trans c hc a ha b hb h3 h4
   exact h2 h5
theorem insF_le {f:α→α→Option Int} {x y:α} {l:List α} {m:Int} (h:f x y=some m) (hm:m≤0):insF f x (y::l)=x::y::l:=by
 simp [insF,h,hm]
theorem insF_gt {f:α→α→Option Int} {x y:α} {l:List α} {m:Int} (h:f x y=some m) (hm:¬ m≤0):insF f x (y::l)=y::insF f x l:=by
 simp [insF,h,hm]
theorem insF_perm (f:α→α→Option Int) (x:α):∀ l:List α,(insF f x l).Perm (x::l)
 | []=>List.Perm.refl _
 | y::l=>by
  cases h:f x y with
  | none=>simp [insF,h]
  | some m =>
   by_cases hm:m≤0
   ·rw [insF_le h hm]
   ·rw [insF_gt h hm]
    exact ((insF_perm f x l).cons y).trans (List.Perm.swap x y l)
theorem isortF_perm (f:α→α→Option Int):∀ l:List α,(isortF f l).Perm l
 | []=>List.Perm.refl _
 | x::l=>(insF_perm f x _).trans ((isortF_perm f l).cons x)
theorem insF_sorted {f:α→α→Option Int} {x:α}:∀ {l:List α},TotF f (x::l)→l.Pairwise (NGt f)→(insF f x l).Pairwise (NGt f)
 | [],_,_=>List.pairwise_singleton _ _
 | y::l,T,h=>by
  have hx:x∈x::y::l:=by simp
  have hy:y∈x::y::l:=by simp
  have hc:=List.pairwise_cons.1 h
  by_cases hd:cfv f x y≤0
  ·rw [insF_le (T.get x hx y hy) hd]
   have hxy:NGt f x y:=fun h0=>by
    have:=(T.swap y hy x hx).1 h0
    omega
   exact List.pairwise_cons.2 ⟨fun z hz=>by
    rcases List.mem_cons.1 hz with rfl | hz'
    ·exact hxy
    ·exact T.ngt_trans hx hy (by simp [hz']) hxy (hc.1 z hz'),h⟩
  ·rw [insF_gt (T.get x hx y hy) hd]
   have hyx:NGt f y x:=by unfold NGt;omega
   refine List.pairwise_cons.2 ⟨fun z hz=>?_,insF_sorted (T.sub fun z hz=>?_) hc.2⟩
   ·rcases List.mem_cons.1 ((insF_perm f x l).mem_iff.1 hz) with rfl | hz'
    ·exact hyx
    ·exact hc.1 z hz'
   ·rcases List.mem_cons.1 hz with rfl | hz'
    ·simp
    ·simp [hz']
theorem isortF_sorted {f:α→α→Option Int}:∀ {l:List α},TotF f l→(isortF f l).Pairwise (NGt f)
 | [],_=>List.Pairwise.nil
 | x::l,T=>insF_sorted (T.sub fun z hz=>by
   rcases List.mem_cons.1 hz with rfl | hz'
   ·simp
   ·exact List.mem_cons_of_mem _ ((isortF_perm f l).mem_iff.1 hz')) (isortF_sorted (T.sub fun z hz=>List.mem_cons_of_mem _ hz))
theorem sorted_uniq {f:α→α→Option Int}:∀ {l1 l2:List α},TotF f l1→l1.Perm l2→l1.Pairwise (NGt f)→l2.Pairwise (NGt f)→l1=l2
 | [],l2,_,hp,_,_=>(List.nil_perm.1 hp).symm
 | x::l1,[],_,hp,_,_=>absurd hp.length_eq (by simp)
 | x::l1,y::l2,T,hp,h1,h2=>by
  have p1:=List.pairwise_cons.1 h1
  have p2:=List.pairwise_cons.1 h2
  have hx:x∈x::l1:=by simp
  have hy:y∈x::l1:=hp.mem_iff.2 (by simp)
  have e:x=y:=by
   rcases List.mem_cons.1 hy with e | hy'
   ·exact e.symm
   ·have hxy:=p1.1 y hy'
    rcases List.mem_cons.1 (hp.mem_iff.1 hx) with e | hx'
    ·exact e
    ·have hyx:=p2.1 x hx'
     have s1:=T.swap y hy x hx
     have s2:=T.swap x hx y hy
     unfold NGt at hxy hyx
     exact T.zero x hx y hy (by omega)
  subst e
  rw [sorted_uniq (T.sub fun z hz=>List.mem_cons_of_mem _ hz) (List.Perm.cons_inv hp) p1.2 p2.2]
end plain
section model
variable {α:Type}
def CmpG (P:Program) (g:FuncId) (X:α→IV) (f:α→α→Option Int):Prop :=
 ∀ (W:World) (S:Nat→Prop) (u u':Value) (x y:α) (r:Int),f x y=some r→RepI W S u (X x)→RepI W S u' (X y) →
  Calls P g #[u,u'] W fun e w'=>e=.returned (.int .i64 r)∧∃ q os,w'=Sort.grow (W.drewN q) os
def El (w:World) (S:Nat→Prop) (k:Nat) (c:α→List IV) (l:List α):Type:={ p:List Value×α // p.1.length=k∧(∀ v∈p.1,v.oneCell'=true)∧RepIs w S p.1 (c p.2)∧p.2∈l }
variable {w:World} {S:Nat→Prop} {k:Nat} {c:α→List IV} {l:List α}
def El.enc (x:El w S k c l):List Value:=x.val.1
def El.wd (x:El w S k c l):α:=x.val.2
def El.of (us:List Value) (x:α) (h1:us.length=k) (h2:∀ v∈us,v.oneCell'=true) (h3:RepIs w S us (c x)) (h4:x∈l):El w S k c l:=⟨(us,x),h1,h2,h3,h4⟩
theorem el_list (hk:∀ x,(c x).length=k):∀ (l0:List α) (us:List Value),(∀ x∈l0,x∈l)→us.length=(l0.map c).flatten.length→(∀ u∈us,u.oneCell'=true) →
  (∀ (i:Nat) u x,us[i]?=some u→(l0.map c).flatten[i]?=some x→RepI w S u x)→∃ zs:List (El w S k c l),(zs.map El.enc).flatten=us∧zs.map El.wd=l0
 | [],us,_,hl,_,_=>⟨[],(List.eq_nil_of_length_eq_zero hl).symm,rfl⟩
 | x::l0,us,hm,hl,h1,hr=>by
  rw [List.map_cons,List.flatten_cons] at hl hr
  rw [List.length_append,hk] at hl
  obtain ⟨zs,e1,e2⟩:=el_list hk l0 (us.drop k) (fun y hy=>hm y (List.mem_cons_of_mem _ hy)) (by rw [List.length_drop];omega) (fun u hu=>h1 u (List.mem_of_mem_drop hu)) fun i u y hu hy=>by
   rw [List.getElem?_drop] at hu
   refine hr (k+i) u y hu ?_
   rw [List.getElem?_append,if_neg (by rw [hk];omega),hk]
   rwa [Nat.add_sub_cancel_left]
  have hx1:(us.take k).length=k:=by rw [List.length_take];omega
  have hx2:∀ v∈us.take k,v.oneCell'=true:=fun u hu=>h1 u (List.mem_of_mem_take hu)
  have hx3:RepIs w S (us.take k) (c x):=⟨by rw [hx1,hk],fun i u y hu hy=>by
   have hi:i<k:=by
    rw [← hk x]
    exact (List.getElem?_eq_some_iff.1 hy).1
   rw [List.getElem?_take,if_pos hi] at hu
   exact hr i u y hu (by rw [List.getElem?_append,if_pos (by rw [hk];exact hi)];exact hy)⟩
  refine ⟨El.of (us.take k) x hx1 hx2 hx3 (hm x (by simp))::zs,?_,?_⟩
  ·rw [List.map_cons,List.flatten_cons,e1]
   exact List.take_append_drop k us
  ·rw [List.map_cons,e2]
   rfl
theorem el_swo {f:α→α→Option Int} (T:TotF f l):SWO (ltOf fun x y:El w S k c l=>cfv f x.wd y.wd) where
 irrefl x:=by
  have:=T.self x.wd x.property.2.2.2
  simp [ltOf,this]
 trans x y z h1 h2:=by
  simp only [ltOf,decide_eq_true_eq] at *
  exact T.trans _ x.property.2.2.2 _ y.property.2.2.2 _ z.property.2.2.2 h1 h2
 ntrans x y z h1 h2:=by
  simp only [ltOf,decide_eq_false_iff_not] at *
  exact T.ngt_trans z.property.2.2.2 y.property.2.2.2 x.property.2.2.2 h2 h1
def SortC (P:Program) (sg:FuncId) (k:Nat) (mk:List Value→Value):Prop :=
 (∀ (p:Option Addr) (cap:Nat) (fv:Value) (w:World),Calls P sg #[.slice p 0 cap,fv] w fun e w'=>e=.returned (.tuple #[])∧w'=w) ∧
 ∀ (E:Type) [Inhabited E] (enc:E→List Value) (cf:E→E→Int) (g blk cap:Nat) (d:Array E) (w:World),(∀ x,(enc x).length=k)→(∀ x,∀ v∈enc x,v.oneCell'=true)→SWO (ltOf cf) →
  (∀ args w,(callFunc g args).run P w=.ok (.enter g args) w) →
  (∀ (m:Nat) (os:Array Obj) (dk:Array E),dk.size=d.size→∀ x y:E,Calls P g #[mk (enc x),mk (enc y)] (Sort.grow (putRow id (Sort.ahead w m) blk 0 (Go.Sort.flatK enc k dk)) os) fun e w' =>
   e=.returned (.int .i64 (cf x y))∧∃ q os',w'=Sort.grow ((Sort.grow (putRow id (Sort.ahead w m) blk 0 (Go.Sort.flatK enc k dk)) os).drewN q) os') →
  Go.Sort.Holds id w blk 0 (Go.Sort.flatK enc k d)→blk<w.heap.size→d.size<4611686018427387904 →
  Calls P sg #[.slice (some ⟨blk,0,none⟩) d.size cap,.func (.func g) #[] #[]] w fun e w' =>
   e=.returned (.tuple #[])∧∃ d' n os,PermIn 0 d.size d d'∧SortedIn (ltOf cf) 0 d.size d'∧w'=Sort.grow (putRow id (Sort.ahead w n) blk 0 (Go.Sort.flatK enc k d')) os
theorem perm_of_in' {β:Type} [Inhabited β] {d d':Array β} (h:PermIn 0 d.size d d'):d'.toList.Perm d.toList:=by
 obtain ⟨hs,_,hp⟩:=h
 have e1:d'.extract 0 d.size=d':=by rw [← hs];simp
 have e2:d.extract 0 d.size=d:=by simp
 rwa [e1,e2] at hp
theorem pairwise_of_in' {β:Type} [Inhabited β] {lt:β→β→Bool} {d:Array β} {n:Nat} (hn:d.size=n) (h:SortedIn lt 0 n d):d.toList.Pairwise fun a b=>lt b a=false:=by
 rw [List.pairwise_iff_getElem]
 intro i j hi hj hij
 have:=h i j (Nat.zero_le _) hij (by rw [← hn];simpa using hj)
 simp at hi hj
 simpa [getElem!_pos,hi,hj] using this
theorem flatK_list {β:Type} [Inhabited β] {enc:β→List Value} {k:Nat} (hk:∀ x,(enc x).length=k) (d:Array β):Go.Sort.flatK enc k d=(d.toList.map enc).flatten.toArray:=by
 have hl:((d.toList.map enc).flatten).length=d.size*k:=by
  rw [flat_length (k:=k) fun x hx=>by obtain ⟨y,_,rfl⟩:=List.mem_map.1 hx;exact hk y]
  simp
 refine ext_get! (by simp [hl]) fun t ht=>?_
 rw [size_flatK] at ht
 rw [get_flatK _ _ _ t ht]
 have k0:0<k:=by
  rcases Nat.eq_zero_or_pos k with h | h
  ·subst h;simp at ht
  ·exact h
 have hq:t / k<d.size:=Nat.div_lt_of_lt_mul (by rwa [Nat.mul_comm] at ht)
 have hm:t%k<k:=Nat.mod_lt _ k0
 have hg:=flat_get (es:=d.toList.map enc) (i:=t / k) (j:=t%k) (e:=enc (d[t / k]'hq)) (fun x hx=>by obtain ⟨y,_,rfl⟩:=List.mem_map.1 hx;exact hk y) (by simp [hq]) hm
 rw [show t / k*k+t%k=t by rw [Nat.mul_comm];exact Nat.div_add_mod t k] at hg
 have hm2:t%k<(enc (d[t / k]'hq)).length:=by rw [hk];exact hm
 rw [List.getElem?_eq_getElem hm2,List.getElem?_eq_getElem (by rw [hl];exact ht)] at hg
 injection hg with hg
 rw [getElem!_pos d _ hq,getElem!_pos (enc (d[t / k]'hq)) (t%k) hm2,getElem!_pos ((d.toList.map enc).flatten.toArray) t (by simpa [hl] using ht)]
 simpa using hg.symm
theorem own_put {w:World} {base:Nat} {e:TypeId} {g n cap k q:Nat} {us us':List Value} {os:Array Obj} (h:w.ownsRow base e k (.slice (some ⟨g,0,none⟩) n cap) n us) (hl:us'.length=n*k) :
  (Sort.grow (putRow id (Sort.ahead w q) g 0 us'.toArray) os).ownsRow base e k (.slice (some ⟨g,0,none⟩) n cap) n us':=by
 rcases h.2 with ⟨e0,_⟩ | ⟨g',cap',cur,e0,hb,hg,hn,hm,hs,ht⟩
 ·cases e0
 ·injection e0 with e1 _ e3
  injection e1 with e1
  injection e1 with e1
  subst e1;subst e3
  have hlt:g<w.heap.size:=by
   rcases Nat.lt_or_ge g w.heap.size with h' | h'
   ·exact h'
   ·rw [Array.getElem?_eq_none h'] at hg;cases hg
  refine ⟨hl,.inr ⟨g,cap,putCells id 0 us'.toArray cur,rfl,hb,?_,hn,hm,by simpa [putCells] using hs,?_⟩⟩
  ·have:g<(putRow id (Sort.ahead w q) g 0 us'.toArray).heap.size:=by simpa [putRow,mapBlock,Sort.ahead] using hlt
   simp only [Sort.grow,Array.getElem?_append,if_pos this]
   simp [putRow,mapBlock,Sort.ahead,Array.getElem?_modify,hg,onCells]
  ·have hle:n*k≤cap*k:=Nat.mul_le_mul_right k hn
   apply List.ext_getElem?
   intro j
   rw [List.getElem?_take,Array.getElem?_toList]
   by_cases hj:j<n*k
   ·have hjc:j<cur.size:=by omega
    rw [if_pos hj]
    simp only [putCells,Array.getElem?_mapIdx,Array.getElem?_eq_getElem hjc,Option.map_some]
    rw [if_pos (by simp;omega),List.getElem?_eq_getElem (by omega)]
    simp [getElem!_pos,show j<us'.length by omega]
   ·rw [if_neg hj,List.getElem?_eq_none (by omega)]
theorem holds_own {w:World} {base:Nat} {e:TypeId} {g n cap k:Nat} {us:List Value} (h:w.ownsRow base e k (.slice (some ⟨g,0,none⟩) n cap) n us):Go.Sort.Holds id w g 0 us.toArray:=by
 rcases h.2 with ⟨e0,_⟩ | ⟨g',cap',cur,e0,hb,hg,hn,hm,hs,ht⟩
 ·cases e0
 ·injection e0 with e1 _ e3
  injection e1 with e1
  injection e1 with e1
  subst e1;subst e3
  intro j hj
  have hj':j<us.length:=by simpa using hj
  have hjn:j<n*k:=by rw [← h.1];exact hj'
  have hle:n*k≤cap*k:=Nat.mul_le_mul_right k hn
  have hjc:j<cur.size:=by omega
  have e1:(cur.toList.take (n*k))[j]?=us[j]?:=by rw [ht]
  rw [List.getElem?_take,if_pos hjn,Array.getElem?_toList,List.getElem?_eq_getElem hj'] at e1
  refine ⟨?_,by simp [World.frozen?,hg]⟩
  simp only [World.cell?,hg,Nat.zero_add,Option.isSome_none,Bool.false_eq_true,if_false]
  rw [e1]
  simp [getElem!_pos,hj']
theorem put_block {w:World} {g q:Nat} {F:Array Value} {os:Array Obj} {b:Nat} (hb:b<w.heap.size) (hne:b≠g):(Sort.grow (putRow id (Sort.ahead w q) g 0 F) os).heap[b]?=w.heap[b]?:=by
 have:b<(putRow id (Sort.ahead w q) g 0 F).heap.size:=by simpa [putRow,mapBlock,Sort.ahead] using hb
 simp only [Sort.grow,Array.getElem?_append,if_pos this]
 simp [putRow,mapBlock,Sort.ahead,Array.getElem?_modify,Ne.symm hne]
theorem put_cell {w:World} {g q:Nat} {F:Array Value} {os:Array Obj} {p:Addr} {u:Value} (hne:p.block≠g) (h:w.cell? p=some u):(Sort.grow (putRow id (Sort.ahead w q) g 0 F) os).cell? p=some u:=by
 have hlt:=World.block_lt_of_cell? w _ h
 unfold World.cell? at h ⊢
 rw [put_block hlt hne]
 exact h
theorem sp_of_sort [DecidableEq α] {P:Program} {sg:FuncId} {mk:List Value→Value} {t:TypeId} {X:α→IV} (he:∀ args w,(callFunc sg args).run P w=.ok (.enter sg args) w) (C:SortC P sg k mk) (hk0:0<k) (hk:∀ x,(c x).length=k)
  (hX:∀ (W:World) (S:Nat→Prop) us x,us.length=k→(∀ v∈us,v.oneCell'=true)→RepIs W S us (c x)→RepI W S (mk us) (X x))
  {f:α→α→Option Int} {g:FuncId} (eg:∀ args w,(callFunc g args).run P w=.ok (.enter g args) w) (hg:CmpG P g X f) {l r:List α} (h:libSort l f=some r) :
  Sp P sg [.lent (.row t k (l.map c)),.im (.fn g [])] (.mk true [] [.lent (.row t k (r.map c))]):=by
 obtain ⟨hlen,h⟩:=chk_some h
 cases hT:totB f l with
 | false=>rw [hT] at h;cases h
 | true =>
 rw [hT] at h
 injection h with h
 subst h
 have T:=totB_iff hT
 refine ⟨he,fun w S vs F hS hv hn hF=>?_⟩
 match vs,hv with
 | [v,u],⟨F1,F2,⟨hv1,inn,hrow,e1⟩,⟨F3,F4,⟨h4,e2⟩,h5,e3⟩,e4⟩ =>
  have h5:F4=[]:=h5
  have e1:F1=(blkOf v).toList:=e1
  subst e1 e2 h5 e3
  have e4:F=(blkOf v).toList:=by rw [e4];simp
  subst e4
  obtain ⟨us,_,_,hlim,hown,hul,h1,hr⟩:=hrow
  rw [List.length_map] at hown hlim
  have hu:u=.func (.func g) #[] #[]:=by
   generalize hx:IV.fn g []=x at h4
   cases h4 with
   | fn f us cs hl hr =>
    injection hx with hx1 hx2
    subst hx1 hx2
    have:=List.eq_nil_of_length_eq_zero hl
    subst this
    rfl
   | _=>cases hx
  subst hu
  have fin:∀ (w':World) (us':List Value),w'.ownsRow 0 t k v l.length us'→us'.length=((isortF f l).map c).flatten.length→(∀ u∈us',u.oneCell'=true) →
    Belo (fun b=>b∈(blkOf v).toList) w.heap.size w w'→(∀ (i:Nat) u x,us'[i]?=some u→((isortF f l).map c).flatten[i]?=some x→RepI w' (fun b=>(S b∨w.heap.size≤b∨b∈(blkOf v).toList)∧b<w'.heap.size∧b∉(blkOf v).toList) u x) →
    ∃ (v1:Value) (F':List Nat),Ending.returned (.tuple #[])=.returned v1∧Belo (fun b=>b∈(blkOf v).toList) w.heap.size w w' ∧
     ResOk w' (fun b=>(S b∨w.heap.size≤b∨b∈(blkOf v).toList)∧b<w'.heap.size∧b∉F') v1 (bxVs [v,.func (.func g) #[] #[]] [.lent (.row t k (l.map c)),.im (.fn g [])]) (.mk true [] [.lent (.row t k ((isortF f l).map c))]) F'∧F'.Nodup∧∀ b∈F',(w.heap.size≤b∨b∈(blkOf v).toList)∧b<w'.heap.size:=by
   intro w' us' ho hl' h1' hb hr'
   refine ⟨_,(blkOf v).toList,rfl,hb,⟨[],[],(blkOf v).toList,rfl,rfl,⟨(blkOf v).toList,[],⟨hv1,inn,⟨us',hk0,fun x hx=>?_,?_,?_,hl',h1',hr'⟩,rfl⟩,rfl,by simp⟩,by simp⟩,hn,fun b hb'=>⟨.inr hb',Nat.lt_of_lt_of_le (hF b hb').2 hb.size⟩⟩
   ·obtain ⟨y,_,rfl⟩:=List.mem_map.1 hx
    exact hk y
   ·rw [List.length_map,(isortF_perm f l).length_eq]
    exact hlim
   ·rw [List.length_map,(isortF_perm f l).length_eq]
    exact ho
  by_cases hnil:v=.slice none 0 0
  ·subst hnil
   have hl0:l.length=0:=by
    rcases hown.2 with ⟨_,h0⟩ | ⟨_,_,_,e,_⟩
    ·exact h0
    ·cases e
   have hl0:l=[]:=List.eq_nil_of_length_eq_zero hl0
   subst hl0
   refine (C.1 none 0 _ w).mono ?_
   rintro e w' ⟨rfl,rfl⟩
   have hus:us=[]:=List.eq_nil_of_length_eq_zero (by rw [hul];rfl)
   subst hus
   exact fin w' [] hown rfl (fun u hu=>by cases hu) (Belo.refl _ _ _) fun i u x hu=>by simp at hu
  ·obtain ⟨blk,cap,rfl⟩:∃ blk cap,v=.slice (some ⟨blk,0,none⟩) l.length cap:=by
    rcases hown.2 with ⟨e0,_⟩ | ⟨g,cap,cur,e,_⟩
    ·exact absurd e0 hnil
    ·exact ⟨g,cap,e⟩
   have hblk:blk<w.heap.size:=(hF blk (by simp [blkOf])).2
   have hnS:¬ S blk:=(hF blk (by simp [blkOf])).1
   obtain ⟨zs,hz1,hz2⟩:=el_list (w:=w) (S:=S) (l:=l) hk l us (fun x hx=>hx) hul h1 hr
   by_cases hl0:l=[]
   ·subst hl0
    refine (C.1 (some ⟨blk,0,none⟩) cap _ w).mono ?_
    rintro e w' ⟨rfl,rfl⟩
    have hus:us=[]:=List.eq_nil_of_length_eq_zero (by rw [hul];rfl)
    subst hus
    exact fin w' [] hown rfl (fun u hu=>by cases hu) (Belo.refl _ _ _) fun i u x hu=>by simp at hu
   ·have hzl:zs.length=l.length:=by have:=congrArg List.length hz2;simpa using this
    obtain ⟨z0,hz0⟩:∃ z,z∈zs:=by
     cases zs with
     | nil=>exact absurd (by simpa using hz2.symm) hl0
     | cons z zs=>exact ⟨z,by simp⟩
    haveI:Inhabited (El w S k c l):=⟨z0⟩
    have henc:∀ x:El w S k c l,(El.enc x).length=k:=fun x=>x.property.1
    have hflat:∀ d:Array (El w S k c l),Go.Sort.flatK El.enc k d=(d.toList.map El.enc).flatten.toArray:=flatK_list henc
    have hcall:=C.2 (El w S k c l) El.enc (fun x y=>cfv f x.wd y.wd) g blk cap zs.toArray w henc (fun x=>x.property.2.1) (el_swo T) eg (fun m os dk _ x y=>by
      refine hg _ S _ _ x.wd y.wd _ (T.get _ x.property.2.2.2 _ y.property.2.2.2) (hX _ _ _ _ x.property.1 x.property.2.1 ⟨x.property.2.2.1.1,fun i u z hu hz=>?_⟩) (hX _ _ _ _ y.property.1 y.property.2.1 ⟨y.property.2.2.1.1,fun i u z hu hz=>?_⟩)
      ·exact (x.property.2.2.1.2 i u z hu hz).mono (fun _ h=>h) fun p u hp hu=>put_cell (fun e=>hnS (by rw [← e];exact hp)) hu
      ·exact (y.property.2.2.1.2 i u z hu hz).mono (fun _ h=>h) fun p u hp hu=>put_cell (fun e=>hnS (by rw [← e];exact hp)) hu)
     (by rw [hflat];show Go.Sort.Holds id w blk 0 ((zs.map El.enc).flatten).toArray;rw [hz1];exact holds_own hown) hblk (by simp;omega)
    have hsz:zs.toArray.size=l.length:=by simpa using hzl
    rw [hsz] at hcall
    refine hcall.mono ?_
    rintro e w' ⟨rfl,d',n,os,hp,hs,rfl⟩
    have hd':d'.size=l.length:=by rw [hp.1];exact hsz
    have hperm:=perm_of_in' (d:=zs.toArray) (by rw [hsz];exact hp)
    have hpw:=pairwise_of_in' hd' hs
    have hwd:d'.toList.map El.wd=isortF f l:=by
     have hp1:(d'.toList.map El.wd).Perm l:=(hperm.map El.wd).trans (List.Perm.of_eq hz2)
     refine sorted_uniq (T.sub fun x hx=>hp1.mem_iff.1 hx) (hp1.trans (isortF_perm f l).symm) ?_ (isortF_sorted T)
     rw [List.pairwise_map]
     refine hpw.imp fun {a b} hab=>?_
     have hab2:¬ cfv f b.wd a.wd<0:=by simpa only [ltOf,decide_eq_false_iff_not] using hab
     exact hab2
    rw [hflat]
    have hlen':((d'.toList.map El.enc).flatten).length=l.length*k:=by
     rw [flat_length (k:=k) fun x hx=>by obtain ⟨y,_,rfl⟩:=List.mem_map.1 hx;exact henc y]
     simp [hd']
    have hflen:((isortF f l).map c).flatten.length=l.length*k:=by
     rw [flat_length (k:=k) fun x hx=>by obtain ⟨y,_,rfl⟩:=List.mem_map.1 hx;exact hk y,List.length_map,(isortF_perm f l).length_eq]
    refine fin _ _ (own_put hown hlen') (by rw [hlen',hflen]) (fun u hu=>?_) ⟨rfl,rfl,rfl,?_,fun b hb hnb=>put_block hb fun e=>hnb (by simp [blkOf,e])⟩ fun i u x hu hx=>?_
    ·obtain ⟨us2,h2,h3⟩:=List.mem_flatten.1 hu
     obtain ⟨y,_,rfl⟩:=List.mem_map.1 h2
     exact y.property.2.1 u h3
    ·simp [Sort.grow,putRow,mapBlock,Sort.ahead]
    ·have hi:i<l.length*k:=by rw [← hlen'];exact (List.getElem?_eq_some_iff.1 hu).1
     have hq:i / k<l.length:=Nat.div_lt_of_lt_mul (by rwa [Nat.mul_comm] at hi)
     have hm:i%k<k:=Nat.mod_lt _ hk0
     have hik:i / k*k+i%k=i:=by rw [Nat.mul_comm];exact Nat.div_add_mod i k
     have hq':i / k<d'.size:=by rw [hd'];exact hq
     have g1:=flat_get (es:=d'.toList.map El.enc) (i:=i / k) (j:=i%k) (e:=El.enc (d'[i / k]'hq')) (fun x hx=>by obtain ⟨y,_,rfl⟩:=List.mem_map.1 hx;exact henc y) (by simp [hq']) hm
     have g2:=flat_get (es:=(isortF f l).map c) (i:=i / k) (j:=i%k) (e:=c (El.wd (d'[i / k]'hq'))) (fun x hx=>by obtain ⟨y,_,rfl⟩:=List.mem_map.1 hx;exact hk y) (by rw [← hwd];simp [hq']) hm
     rw [hik,hu] at g1
     rw [hik,hx] at g2
     refine ((d'[i / k]'hq').property.2.2.1.2 _ _ _ g1.symm g2.symm).mono (fun b hb=>⟨.inl hb,?_,?_⟩) fun p u hp hu=>put_cell (fun e=>hnS (by rw [← e];exact hp)) hu
     ·have:w.heap.size≤(Sort.grow (putRow id (Sort.ahead w n) blk 0 ((d'.toList.map El.enc).flatten).toArray) os).heap.size:=by simp [Sort.grow,putRow,mapBlock,Sort.ahead]
      exact Nat.lt_of_lt_of_le (hS b hb) this
     ·intro hb'
      have:b=blk:=by simpa [blkOf] using hb'
      subst this
      exact hnS hb
end model
end Go.Proofs.YtajipjnfegmlcaaGreatDoor.Sym

/-
 Plain laws on the key of a word: the digits at base 36, and that no two words have the same key. No program in sight.
-/
namespace Go.Proofs.YtajipjnfegmlcaaGreatDoor
def dig36 (d:Nat):UInt8:=if d<10 then UInt8.ofNat (48+d) else UInt8.ofNat (87+d)
def digsF:Nat→Nat→List UInt8
 | 0,u=>[dig36 u]
 | f+1,u=>if u<36 then [dig36 u] else digsF f (u / 36)++[dig36 (u%36)]
theorem digsF_more:∀ (f g u:Nat),u≤f→u≤g→digsF f u=digsF g u
 | 0,0,_,_,_=>rfl
 | 0,g+1,u,h,_=>by
  have h0:u=0:=by omega
  subst h0
  rfl
 | f+1,0,u,_,h=>by
  have h0:u=0:=by omega
  subst h0
  rfl
 | f+1,g+1,u,h1,h2=>by
  unfold digsF
  by_cases h:u<36
  ·rw [if_pos h,if_pos h]
  ·rw [if_neg h,if_neg h,digsF_more f g (u / 36) (by omega) (by omega)]
def digs (u:Nat):List UInt8:=digsF u u
theorem digs_small {u:Nat} (h:u<36):digs u=[dig36 u]:=by
 unfold digs
 cases u with
 | zero=>rfl
 | succ u=>unfold digsF;rw [if_pos h]
theorem digs_big {u:Nat} (h:36≤u):digs u=digs (u / 36)++[dig36 (u%36)]:=by
 obtain ⟨v,rfl⟩:∃ v,u=v+1:=⟨u-1,by omega⟩
 show digsF (v+1) (v+1)=digsF ((v+1) / 36) ((v+1) / 36)++[dig36 ((v+1)%36)]
 rw [digsF,if_neg (by omega),digsF_more v ((v+1) / 36) ((v+1) / 36) (by omega) (Nat.le_refl _)]
theorem digs_len:∀ (k u:Nat),u<36^(k+1)→(digs u).length≤k+1
 | 0,u,h=>by rw [digs_small (by simpa using h)];simp
 | k+1,u,h=>by
  by_cases h1:u<36
  ·rw [digs_small h1];simp
  ·rw [digs_big (by omega),List.length_append]
   have:=digs_len k (u / 36) (by rw [Nat.div_lt_iff_lt_mul (by omega),← Nat.pow_succ];exact h)
   simp;omega
theorem digs_len13 {u:Nat} (h:u<18446744073709551616):(digs u).length≤13 :=
 digs_len 12 u (Nat.lt_of_lt_of_le h (by decide))
theorem digs_pos (u:Nat):0<(digs u).length:=by
 by_cases h1:u<36
 ·rw [digs_small h1];simp
 ·rw [digs_big (by omega)];simp
def undig (c:UInt8):Nat:=if c.toNat<58 then c.toNat-48 else c.toNat-87
theorem undig_dig {d:Nat} (h:d<36):undig (dig36 d)=d:=by
 have:∀ d:Fin 36,undig (dig36 d.1)=d.1:=by decide
 exact this ⟨d,h⟩
theorem dig_char {d:Nat} (h:d<36):48≤(dig36 d).toNat:=by
 have:∀ d:Fin 36,48≤(dig36 d.1).toNat:=by decide
 exact this ⟨d,h⟩
def undigs (l:List UInt8):Nat:=l.foldl (fun n c=>n*36+undig c) 0
theorem undigs_digs (u:Nat):undigs (digs u)=u:=by
 induction u using Nat.strongRecOn with
 | _ u ih =>
  by_cases h1:u<36
  ·rw [digs_small h1];simp [undigs,undig_dig h1]
  ·rw [digs_big (by omega),undigs,List.foldl_append]
   have:=ih (u / 36) (by omega)
   rw [undigs] at this
   simp only [List.foldl_cons,List.foldl_nil,this,undig_dig (Nat.mod_lt u (by omega))]
   omega
theorem digs_inj {u v:Nat} (h:digs u=digs v):u=v:=by rw [← undigs_digs u,h,undigs_digs]
theorem digs_char (u:Nat):∀ c∈digs u,48≤c.toNat:=by
 induction u using Nat.strongRecOn with
 | _ u ih =>
  by_cases h1:u<36
  ·rw [digs_small h1]
   intro c hc
   simp at hc
   rw [hc];exact dig_char h1
  ·rw [digs_big (by omega)]
   intro c hc
   rw [List.mem_append] at hc
   rcases hc with hc | hc
   ·exact ih (u / 36) (by omega) c hc
   ·simp at hc
    rw [hc];exact dig_char (Nat.mod_lt u (by omega))
def enc36 (a:Int):List UInt8:=if a<0 then 45::digs a.natAbs else digs a.natAbs
theorem enc36_char (a:Int):∀ c∈enc36 a,c≠32:=by
 intro c hc e
 subst e
 unfold enc36 at hc
 split at hc
 ·simp only [List.mem_cons] at hc
  rcases hc with hc | hc
  ·exact absurd hc (by decide)
  ·have:=digs_char _ _ hc
   exact absurd this (by decide)
 ·have:=digs_char _ _ hc
  exact absurd this (by decide)
theorem enc36_inj {a b:Int} (h:enc36 a=enc36 b):a=b:=by
 have hne:∀ u v:Nat,45::digs u≠digs v:=fun u v e=>by
  have:=digs_char v 45 (by rw [← e];simp)
  exact absurd this (by decide)
 unfold enc36 at h
 split at h<;>split at h
 ·injection h with _ h
  have:=digs_inj h
  omega
 ·exact absurd h (hne _ _)
 ·exact absurd h.symm (hne _ _)
 ·have:=digs_inj h
  omega
theorem enc36_len {a:Int} (h1:-9223372036854775808≤a) (h2:a≤9223372036854775807):(enc36 a).length≤14:=by
 have:=digs_len13 (u:=a.natAbs) (by omega)
 unfold enc36
 split<;>simp<;>omega
def keyL:List Int→List UInt8
 | []=>[]
 | a::xs=>enc36 a++32::keyL xs
theorem keyL_append:∀ xs ys:List Int,keyL (xs++ys)=keyL xs++keyL ys
 | [],_=>rfl
 | a::xs,ys=>by simp [keyL,keyL_append xs ys]
theorem split_at {c:UInt8}:∀ {xs ys rs ss:List UInt8},(∀ d∈xs,d≠c)→(∀ d∈ys,d≠c)→xs++c::rs=ys++c::ss→xs=ys∧rs=ss
 | [],[],rs,ss,_,_,h=>by simpa using h
 | [],y::ys,rs,ss,_,h2,h=>by
  simp at h
  exact absurd h.1.symm (h2 y (by simp))
 | x::xs,[],rs,ss,h1,_,h=>by
  simp at h
  exact absurd h.1 (h1 x (by simp))
 | x::xs,y::ys,rs,ss,h1,h2,h=>by
  simp only [List.cons_append,List.cons.injEq] at h
  obtain ⟨e1,e2⟩:=split_at (fun d hd=>h1 d (by simp [hd])) (fun d hd=>h2 d (by simp [hd])) h.2
  exact ⟨by rw [h.1,e1],e2⟩
theorem keyL_inj:∀ {xs ys:List Int},keyL xs=keyL ys→xs=ys
 | [],[],_=>rfl
 | [],a::ys,h=>by simp [keyL] at h
 | a::xs,[],h=>by simp [keyL] at h
 | a::xs,b::ys,h=>by
  simp only [keyL] at h
  obtain ⟨e1,e2⟩:=split_at (enc36_char a) (enc36_char b) h
  rw [enc36_inj e1,keyL_inj e2]
theorem keyL_len:∀ {xs:List Int},(∀ x∈xs,-9223372036854775808≤x∧x≤9223372036854775807)→(keyL xs).length≤15*xs.length
 | [],_=>by simp [keyL]
 | a::xs,h=>by
  have h1:=keyL_len (xs:=xs) fun x hx=>h x (by simp [hx])
  have h2:=h a (by simp)
  have h3:=enc36_len h2.1 h2.2
  simp only [keyL,List.length_append,List.length_cons]
  omega
end Go.Proofs.YtajipjnfegmlcaaGreatDoor

/-
 Walks of strconv.AppendInt at base 36 (internal/strconv.AppendInt, AppendUint, formatBits).
-/
namespace Go.Proofs.YtajipjnfegmlcaaGreatDoor
open Go.RowKit
theorem Tryz.infoByte:(Tryz.prog.info? 5).map (fun i=>(i.zero,i.size,i.bytes))=some (some (.int .u8 0),1,1):=by kernel_rfl
def bcells (l:List UInt8):List Value:=l.map fun b=>.int .u8 (b.toNat:Int)
theorem bcells_length (l:List UInt8):(bcells l).length=l.length:=by simp [bcells]
theorem bcells_append (l m:List UInt8):bcells (l++m)=bcells l++bcells m:=by simp [bcells]
theorem bcells_one (l:List UInt8):∀ u∈bcells l,u.oneCell'=true:=by
 intro u hu
 simp only [bcells,List.mem_map] at hu
 obtain ⟨b,_,rfl⟩:=hu
 rfl
def OwnB (w:World) (base:Nat) (v:Value) (l:List UInt8):Prop:=w.ownsRow base 5 1 v l.length (bcells l)
theorem OwnB.lt {w:World} {base:Nat} {v:Value} {l:List UInt8} (h:OwnB w base v l):∀ k,v.ownBlock=some k→base≤k∧k<w.heap.size:=World.ownsRow.lt h
theorem OwnB.nil_ (w:World) (base:Nat):OwnB w base (.slice none 0 0) []:=World.ownsRow_nil _ _ _ _
def MoreB (w:World) (base:Nat) (l:List UInt8) (e:Ending) (w':World):Prop:=∃ v',e=.returned v'∧OwnB w' base v' l∧Below base w w'
theorem idx36 (k:IntKind) (z:Int) (d:Nat) (hz:z=(d:Int)) (hd:d<36) (w:World) :
  (Instr.index 9 (.string { data:=#[48,49,50,51,52,53,54,55,56,57,97,98,99,100,101,102,103,104,105,106,107,108,109,110,111,112,113,114,115,116,117,118,119,120,121,122] }) (.int k z)).run Tryz.prog w=.ok (.int .u8 ((dig36 d).toNat:Int)) w:=by
 subst hz
 rw [run_index_string w 9 _ k _ Tryz.underlying9,dif_pos ⟨by omega,by show (d:Int)<((36:Nat):Int);omega⟩]
 have:∀ d:Fin 36,(({ data:=#[48,49,50,51,52,53,54,55,56,57,97,98,99,100,101,102,103,104,105,106,107,108,109,110,111,112,113,114,115,116,117,118,119,120,121,122] }:ByteArray)[d.1]'(by show d.1<36;exact d.2))=dig36 d.1:=by decide
 have h:=this ⟨d,hd⟩
 simp only [Int.toNat_natCast]
 rw [h]
def Dig (zs:List Value) (i:Nat) (l:List UInt8):Prop:=zs.length=65∧zs.drop i=bcells l
theorem Dig.push {zs:List Value} {j:Nat} {m:List UInt8} (h:Dig zs (j+1) m) (hj:j<65) (c:UInt8):Dig (zs.set j (.int .u8 (c.toNat:Int))) j (c::m):=by
 obtain ⟨h1,h2⟩:=h
 refine ⟨by simpa using h1,?_⟩
 rw [List.drop_eq_getElem_cons (by simp;omega),List.getElem_set_self,List.drop_set_of_lt (by omega),h2]
 rfl
set_option maxRecDepth 100000 in
set_option maxHeartbeats 1600000 in
theorem formatBits_any {B u:Nat} {sv:Value} {l:List UInt8} {w:World} (hu:u<18446744073709551616) (hown:OwnB w B sv l) (hB:B≤w.heap.size) (hl:l.length≤1000000000) :
  Calls Tryz.prog 126 #[sv,.int .u64 u,.int .i64 36,.bool false,.bool true] w (fun e w'=>∃ v',e=.returned (.tuple #[v',.string ByteArray.empty])∧OwnB w' B v' (l++digs u)∧Below B w w'):=by
 obtain ⟨i0,hi,hz0,hz1,hz2⟩:=info_parts Tryz.infoByte
 have HOWN:=Lib.hid hown
 clear hown
 have hbits:(bits BinOp.and IntKind.i64 36 35==0)=false:=by decide
 go_enter Tryz.func126,Tryz.ntmps126
 go_wp2
 go_loopw [1,13,18] (fun v i _ wr=>∃ k j:Nat,∃ m:List UInt8,∃ zs,v=.int .u64 k∧i=.int .i64 j∧k<18446744073709551616∧j+m.length=65∧Hid (digs k++m=digs u)∧Hid (Dig zs j m)∧wr.ownsRow w.heap.size 173 1 (.slice (some ⟨w.heap.size,0,none⟩) 65 65) 65 zs∧Below w.heap.size w wr) (fun v _ _ _=>(intOf v).toNat)
 case atStart=>exact ⟨u,65,[],_,rfl,rfl,hu,rfl,Lib.hid (by simp),Lib.hid ⟨rfl,rfl⟩,World.ownsRow_lit w _ 65 (Nat.le_refl _) (by unfold maxLen;omega) rfl,(Below.refl _ _).alloc (Nat.le_refl _) _⟩
 case round =>
  obtain ⟨k,j,m,zs,rfl,rfl,hk,hj,HD,HZ,hrow,hbel⟩:=hrel
  have hlen:m.length≤12:=by
   have h1:=congrArg List.length HD.out
   rw [List.length_append] at h1
   have h2:=digs_pos k
   have h3:=digs_len13 hu
   omega
  obtain ⟨j,rfl⟩:∃ j':Nat,j=j'+1:=⟨j-1,by omega⟩
  have hzl:j<zs.length:=by rw [HZ.out.1];omega
  have q1:wr.cell? ⟨w.heap.size,j,none⟩=some (zs[j]):=by rw [hrow.cellAt j (by omega)];exact List.getElem?_eq_getElem hzl
  have q2:wr.frozen? ⟨w.heap.size,j,none⟩=false:=hrow.frozenAt j
  generalize zs[j]=z0 at q1
  have HR:=Lib.hid hrow
  have HB:=Lib.hid hbel
  clear hrow hbel hzl
  by_cases h1:36≤k
  ·have e0:((j+1:Nat):Int)-1=(j:Int):=by omega
   have hix:=fun W=>idx36 .u64 ((k:Int)-(k:Int) / 36*36) (k%36) (by omega) (by omega) W
   go_wp2
   go_roundw
   case rel =>
    obtain ⟨s1,s2⟩:=HR.out.stored j (.int .u8 ((dig36 (k%36)).toNat:Int))
    exact ⟨k / 36,j,dig36 (k%36)::m,_,by go_num,rfl,by omega,by simp;omega,Lib.hid (by rw [← HD.out,digs_big h1];simp),Lib.hid (HZ.out.push (by omega) _),s1,HB.out.grown s2 HB.out.size (fun g e=>by injection e with e;omega)⟩
   case measure=>simp [intOf]<;>omega
  ·have e0:((j+1:Nat):Int)-1=(j:Int):=by omega
   have hix:=fun W=>idx36 .u64 (k:Int) k rfl (by omega) W
   have hal:Tryz.prog.arrayLen 173=65:=by simp [Program.arrayLen,Tryz.underlying173]
   have hsl:∀ W,(Instr.sliceAt 173 (.pointer (some ⟨w.heap.size,0,none⟩)) (some (.int .i64 (j:Int))) none none).run Tryz.prog W=.ok (.slice (some ⟨w.heap.size,j,none⟩) (65-j) (65-j)) W:=fun W=>by
    rw [run_sliceAt_array_l W 173 ⟨w.heap.size,0,none⟩ (by simp [Program.arrayLen,Program.elem,Tryz.underlying173]) .i64 (j:Int) (by omega) (by rw [hal];omega)]
    go_simp
    omega
   obtain ⟨s1,s2⟩:=HR.out.stored j (.int .u8 ((dig36 k).toNat:Int))
   have hb2:Below w.heap.size w (wr.setCell ⟨w.heap.size,j,none⟩ (.int .u8 ((dig36 k).toNat:Int))):=HB.out.grown s2 HB.out.size (fun g e=>by injection e with e;omega)
   have hown2:OwnB (wr.setCell ⟨w.heap.size,j,none⟩ (.int .u8 ((dig36 k).toNat:Int))) B sv l:=World.ownsRow.kept HOWN.out (grown_none hb2) (by cases sv.ownBlock<;>simp)
   have hdz:=HZ.out.push (by omega) (dig36 k)
   have hsrc:Src (wr.setCell ⟨w.heap.size,j,none⟩ (.int .u8 ((dig36 k).toNat:Int))) (some ⟨w.heap.size,j,none⟩) (65-j) (bcells (dig36 k::m)):=by
    refine ⟨by rw [bcells_length];simp;omega,fun _=>⟨_,_,rfl,fun i v hv=>?_⟩⟩
    have hi:i<(bcells (dig36 k::m)).length:=(List.getElem?_eq_some_iff.1 hv).1
    rw [bcells_length,List.length_cons] at hi
    rw [s1.cellAt (j+i) (by omega),← hv,← hdz.2,List.getElem?_drop]
   have hone:=bcells_one (dig36 k::m)
   have hc1:l.length+(65-j)≤maxLen:=by unfold maxLen;omega
   have hc2:(l.length+(65-j))*1≤140737488355328:=by omega
   have hc3:B≤(wr.setCell ⟨w.heap.size,j,none⟩ (.int .u8 ((dig36 k).toNat:Int))).heap.size:=Nat.le_trans hB hb2.size
   have hfull:bcells l++bcells (dig36 k::m)=bcells (l++digs u):=by
    rw [← bcells_append,← HD.out,digs_small (by omega)];rfl
   have hfl:l.length+(65-j)=(l++digs u).length:=by
    rw [← HD.out,digs_small (by omega)];simp;omega
   have HF:=Lib.hid (And.intro hfull hfl)
   have HB2:=Lib.hid hb2
   clear s1 s2 hdz hb2 hfull hfl hal
   unfold OwnB at hown2
   go_wp2_with (at_builtin;refine wpList_append_row rfl (.tmp 95) (.tmp 97) 126 rfl B 5 i0 (.int .u8 0) 1 Tryz.underlying126 hi hz0 hz1 hz2 rfl sv _ _ rfl hown2 _ (65-j) (65-j) _ rfl hsrc hone hc1 hc2 hc3 ?_;intro v1 w1 hown1 hg1 hb1)
   go_ret2
   have hlt:=hown2
   refine ⟨_,rfl,?_,?_⟩
   ·unfold OwnB
    rw [← HF.out.1,← HF.out.2]
    exact hown1
   ·exact (HB2.out.mono hB).grown hg1 hc3 fun g e=>(OwnB.lt hown2 g e).1
set_option maxRecDepth 100000 in
set_option maxHeartbeats 800000 in
theorem appendUint_any {B u:Nat} {sv:Value} {l:List UInt8} {w:World} (hu:u<18446744073709551616) (hown:OwnB w B sv l) (hB:B≤w.heap.size) (hl:l.length≤1000000000) :
  Calls Tryz.prog 114 #[sv,.int .u64 u,.int .i64 36] w (MoreB w B (l++digs u)):=by
 have hcall:=formatBits_any hu hown hB hl
 clear hown
 go_enter Tryz.func114,Tryz.ntmps114
 go_wp2_with (go_at_call 126;refine hcall.mono ?_;rintro e w' ⟨v',rfl,hown',hb'⟩)
 go_ret
 exact ⟨_,rfl,hown',hb'⟩
set_option maxRecDepth 100000 in
set_option maxHeartbeats 800000 in
theorem appendInt_any {B:Nat} {a:Int} {sv:Value} {l:List UInt8} {w:World} (ha1:-9223372036854775808≤a) (ha2:a≤9223372036854775807) (hown:OwnB w B sv l) (hB:B≤w.heap.size) (hl:l.length≤100000000) :
  Calls Tryz.prog 96 #[sv,.int .i64 a,.int .i64 36] w (MoreB w B (l++enc36 a)):=by
 obtain ⟨i0,hi,hz0,hz1,hz2⟩:=info_parts Tryz.infoByte
 by_cases h1:a<0
 ·have hs1:∀ t,Src (w.alloc (.cells #[.int .u8 45] t)) (some ⟨w.heap.size,0,none⟩) 1 [.int .u8 45]:=fun t=>src_one w _ t
  have hone:∀ u∈[Value.int .u8 45],u.oneCell'=true:=by intro u hu;simp at hu;subst hu;rfl
  have hownA:∀ o,(w.alloc o).ownsRow B 5 1 sv l.length (bcells l):=fun o=>World.ownsRow.alloc hown o
  have hc1:l.length+1≤maxLen:=by unfold maxLen;omega
  have hc2:(l.length+1)*1≤140737488355328:=by omega
  have hc3:∀ o,B≤(w.alloc o).heap.size:=fun o=>by simp;omega
  have hlt:=OwnB.lt hown
  have hB1:∀ o,Below B w (w.alloc o):=fun o=>(Below.refl B w).alloc hB o
  have HOWN:=Lib.hid hown
  clear hown
  have e1:(enc36 a)=45::digs a.natAbs:=by unfold enc36;rw [if_pos h1]
  have HE:=Lib.hid e1
  clear e1
  go_enter Tryz.func96,Tryz.ntmps96
  go_wp2_with (at_builtin;refine wpList_append_row rfl (.tmp 12) (.tmp 13) 126 rfl B 5 i0 (.int .u8 0) 1 Tryz.underlying126 hi hz0 hz1 hz2 rfl sv _ _ rfl (hownA _) _ 1 1 [.int .u8 45] rfl (hs1 _) hone hc1 hc2 (hc3 _) ?_;intro v1 w1 hown1 hg1 hb1)
  have hw:IntKind.u64.wrap (-IntKind.u64.wrap a)=((a.natAbs:Nat):Int):=by
   rw [IntKind.wrap_u64,IntKind.wrap_u64];omega
  rw [hw]
  have hown2:OwnB w1 B v1 (l++[45]):=by
   unfold OwnB
   rw [bcells_append,List.length_append]
   exact hown1
  have hb2:Below B w w1:=(hB1 _).grown hg1 (hc3 _) fun g e=>(hlt g e).1
  have hcall:=appendUint_any (u:=a.natAbs) (by omega) hown2 (Nat.le_trans hB (by have:=hg1.size;simp at this;omega)) (by simp;omega)
  clear hown1 hg1 hb1 hown2 hownA hs1 hc3
  refine hcall.mono ?_
  rintro e w' ⟨v',rfl,hown',hb'⟩
  go_wp2
  go_ret
  refine ⟨_,rfl,?_,hb2.trans hb'⟩
  rw [HE.out]
  simpa using hown'
 ·have HOWN:=Lib.hid hown
  have e1:(enc36 a)=digs a.natAbs:=by unfold enc36;rw [if_neg h1]
  have hw:IntKind.u64.wrap a=((a.natAbs:Nat):Int):=by
   rw [IntKind.wrap_u64];omega
  have hcall:=appendUint_any (u:=a.natAbs) (by omega) hown hB (by omega)
  clear hown
  go_enter Tryz.func96,Tryz.ntmps96
  go_wp2_with (go_at_call 114;refine hcall.mono ?_;rintro e w' ⟨v',rfl,hown',hb'⟩)
  go_ret
  exact ⟨_,rfl,by rw [e1];exact hown',hb'⟩
set_option maxRecDepth 100000 in
theorem strconvAppendInt_any {B:Nat} {a:Int} {sv:Value} {l:List UInt8} {w:World} (ha1:-9223372036854775808≤a) (ha2:a≤9223372036854775807) (hown:OwnB w B sv l) (hB:B≤w.heap.size) (hl:l.length≤100000000) :
  Calls Tryz.prog 82 #[sv,.int .i64 a,.int .i64 36] w (MoreB w B (l++enc36 a)):=by
 have hcall:=appendInt_any ha1 ha2 hown hB hl
 clear hown
 go_enter Tryz.func82,Tryz.ntmps82
 go_wp2_with (go_at_call 96;refine hcall.mono ?_;rintro e w' ⟨v',rfl,hown',hb'⟩)
 go_ret
 exact ⟨_,rfl,hown',hb'⟩
theorem keyL_take {xs:List Int} {k:Nat} {x:Int} (h:xs[k]?=some x):keyL (xs.take (k+1))=(keyL (xs.take k)++enc36 x)++[32]:=by
 rw [take_step h,keyL_append];simp [keyL]
def Rng (x:Int):Prop:=-9223372036854775808≤x∧x≤9223372036854775807
def KeyPost (w:World) (l:List UInt8) (e:Ending) (w':World):Prop:=e=.returned (.string ⟨l.toArray⟩)∧Below w.heap.size w w'
set_option maxRecDepth 100000 in
set_option maxHeartbeats 1600000 in
theorem key_any {A:Option Addr} {n c:Nat} {xs:List Int} {w:World} (hx:RowOf w IsInt A n c xs) (hr:∀ x∈xs,Rng x) (hn:n≤2000000) :
  Calls Tryz.prog 56 #[.slice A n c] w (KeyPost w (keyL xs)):=by
 have HL:=Lib.hid hx.len
 have HR:=Lib.hid hr
 obtain ⟨i0,hi,hz0,hz1,hz2⟩:=info_parts Tryz.infoByte
 clear hr
 go_enter Tryz.func56,Tryz.ntmps56
 go_wp2
 go_loopw [3,5,8] (fun v _ i wr=>∃ k:Nat,k≤n∧i=.int .i64 k∧OwnB wr w.heap.size v (keyL (xs.take k))∧Below w.heap.size w wr) (fun _ _ i _=>n-(intOf i).toNat)
 case atStart=>exact ⟨0,by omega,rfl,OwnB.nil_ _ _,Below.refl _ _⟩
 case round =>
  obtain ⟨k,hk,rfl,hown,hbel⟩:=hrel
  have hkl:(keyL (xs.take k)).length≤15*k:=by
   have:=keyL_len (xs:=xs.take k) fun x hx=>HR.out x (List.mem_of_mem_take hx)
   rw [List.length_take] at this
   omega
  by_cases h1:k<n
  ·obtain ⟨b,o,x,rfl,hx1,hx2⟩:=hx.int_at h1
   have hc:=Keeps.of_below hbel _ _ hx2
   have hrx:=HR.out x (List.mem_of_getElem? hx1)
   have HX:=Lib.hid hx1
   have HC:=Lib.hid (strconvAppendInt_any hrx.1 hrx.2 hown hbel.size (by omega))
   have hlen:=enc36_len hrx.1 hrx.2
   have HB:=Lib.hid hbel
   clear hx1 hx2 hrx hown hbel
   have hone:∀ u∈[Value.int .u8 32],u.oneCell'=true:=by intro u hu;simp at hu;subst hu;rfl
   have hc1:(keyL (xs.take k)++enc36 x).length+1≤maxLen:=by unfold maxLen;simp;omega
   have hc2:((keyL (xs.take k)++enc36 x).length+1)*1≤140737488355328:=by simp;omega
   go_wp2_with (first | (go_at_call 82;refine HC.out.mono ?_;rintro e w1 ⟨v1,rfl,hown1,hb1⟩;have HH:=Lib.hid (And.intro hown1 hb1);have hs1:=fun t=>src_one w1 (.int .u8 32) t;have hownA:=fun o=>World.ownsRow.alloc hown1 o;have hc3:∀ o,w.heap.size≤(w1.alloc o).heap.size:=(fun o=>by have:=HB.out.size;have:=hb1.size;simp;omega);clear hown1 hb1) | (at_builtin;refine wpList_append_row rfl (.tmp 14) (.tmp 15) 126 rfl w.heap.size 5 i0 (.int .u8 0) 1 Tryz.underlying126 hi hz0 hz1 hz2 rfl v1 _ _ rfl (hownA _) _ 1 1 [.int .u8 32] rfl (hs1 _) hone hc1 hc2 (hc3 _) ?_;intro v2 w2 hown2 hg2 hb2))
   have hfin:OwnB w2 w.heap.size v2 (keyL (xs.take (k+1))):=by
    unfold OwnB
    rw [keyL_take HX.out,bcells_append,List.length_append]
    exact hown2
   have hbel':Below w.heap.size w w2:=((HB.out.trans (HH.out.2.mono (Nat.le_refl _))).alloc (by have:=HB.out.size;have:=HH.out.2.size;omega) _).grown hg2 (hc3 _) fun g e=>(OwnB.lt HH.out.1 g e).1
   clear hown2 hg2 hb2 hs1 hownA hc3
   go_roundw
   case rel=>exact ⟨k+1,by omega,by go_num,hfin,hbel'⟩
   case measure=>simp [intOf]<;>omega
  ·rw [List.take_of_length_le (by rw [HL.out];omega)] at hown
   have hconv:(convert 126 9 u3).run Tryz.prog wr=.ok (.string ⟨(keyL xs).toArray⟩) wr:=by
    rcases hown.2 with ⟨rfl,h0⟩ | ⟨g,cap,cur,rfl,_,_,_⟩
    ·have h00:keyL xs=[]:=List.eq_nil_of_length_eq_zero h0
     rw [h00]
     exact Lib.run_convert_nil_bytes wr _ _ _ 0 Tryz.underlying126 Tryz.underlying5 Tryz.underlying9
    ·refine run_convert_bytes_back wr _ _ _ ⟨g,0,none⟩ cap (keyL xs) Tryz.underlying126 Tryz.underlying5 Tryz.underlying9 fun j hj=>?_
     rw [hown.cells (g:=g) rfl j (.int .u8 ((keyL xs)[j].toNat:Int)) (by simp [bcells,hj])]
   clear hown
   go_wp2
   go_ret
   exact ⟨rfl,hbel⟩
end Go.Proofs.YtajipjnfegmlcaaGreatDoor

/-
 The contract of the key of a word.
-/
namespace Go.Proofs.YtajipjnfegmlcaaGreatDoor.Sym
open Go.RowKit
theorem rowOf_ints {w:World} {S:Nat→Prop} {v:Value} {l:List Int} (h:RepI w S v (nL cI l)):∃ A n c,v=.slice A n c∧RowOf w IsInt A n c l:=by
 have h:RepI w S v (.sl (l.map cI)):=h
 generalize he:l.map cI=es at h
 cases h with
 | emp A c =>
  have:l=[]:=by simpa using he
  subst this
  exact ⟨A,0,c,rfl,rfl,Nat.zero_le _,by omega,fun h=>by omega⟩
 | sl b o c k n _ us hn hk hc hs hS hl h1 hu hr =>
  subst he
  have hf:(l.map cI).flatten=l.map fun x=>nI x:=by
   clear hn hk hl hr h
   induction l with
   | nil=>rfl
   | cons x l ih=>rw [List.map_cons,List.flatten_cons,ih];rfl
  rw [hf] at hl hr
  refine ⟨_,_,_,rfl,by simpa using hn,hc,hs,fun _=>⟨b,o,rfl,fun i x hx=>?_⟩⟩
  have hi:i<us.length:=by rw [hl,List.length_map];exact (List.getElem?_eq_some_iff.1 hx).1
  have hg:=List.getElem?_eq_getElem hi
  refine ⟨_,hu i _ hg,?_⟩
  have:=hr i _ (nI x) hg (by rw [List.getElem?_map,hx];rfl)
  generalize us[i]=u at this
  cases this with
  | val _=>rfl
def nondet_key (l:List Int):Option ByteArray:=chk (∀ x∈l,inR x) (chk (l.length≤2000000) (some ⟨(keyL l).toArray⟩))
set_option maxRecDepth 100000 in
theorem sp_nondet_key (l:List Int) (r:ByteArray) (h:nondet_key l=some r):Sp Tryz.prog 56 [.im (nL cI l)] (.im (nS r)):=by
 obtain ⟨h1,h⟩:=chk_some h
 obtain ⟨h2,h⟩:=chk_some h
 injection h with h
 subst h
 refine ⟨fun args w=>run_enter rfl rfl rfl args w,fun w S vs F hS hv hn hF=>?_⟩
 match vs,hv with
 | [v],⟨F1,F2,⟨h3,e1⟩,h4,e2⟩ =>
  have h4:F2=[]:=h4
  subst e1 h4 e2
  obtain ⟨A,n,c,rfl,hrow⟩:=rowOf_ints h3
  refine (key_any hrow h1 (by rw [← hrow.1];exact h2)).mono ?_
  rintro e w' ⟨rfl,hb⟩
  exact ⟨_,[],rfl,.of hb,⟨[_],[],[],rfl,⟨[],[],⟨.val _,rfl⟩,rfl,rfl⟩,rfl,rfl⟩,List.nodup_nil,fun b hb=>by simp at hb⟩
end Go.Proofs.YtajipjnfegmlcaaGreatDoor.Sym

/-
 Walks of cmp.Compare, slices.Compare, word.Lex, cmp.Or, word.Compare.
-/
namespace Go.Proofs.YtajipjnfegmlcaaGreatDoor
open Go.RowKit
def cmpI (x y:Int):Int:=if x<y then -1 else if y<x then 1 else 0
theorem cmpCompare_any (x y:Int) (w:World) :
  Calls Tryz.prog 120 #[.int .i64 x,.int .i64 y] w fun e w'=>e=.returned (.int .i64 (cmpI x y))∧w=w':=by
 by_cases h1:x<y
 ·go_enter Tryz.func120,Tryz.ntmps120
  go_wp2
  go_ret
  exact ⟨ret_int (by unfold cmpI;rw [if_pos h1]),rfl⟩
 ·by_cases h2:y<x
  ·go_enter Tryz.func120,Tryz.ntmps120
   go_wp2
   go_ret
   exact ⟨ret_int (by unfold cmpI;rw [if_neg (by omega),if_pos h2]),rfl⟩
  ·go_enter Tryz.func120,Tryz.ntmps120
   go_wp2
   go_ret
   exact ⟨ret_int (by unfold cmpI;rw [if_neg (by omega),if_neg (by omega)]),rfl⟩
theorem lexI_step {xs ys:List Int} {k:Nat} {x y:Int} (hx:xs[k]?=some x) (hy:ys[k]?=some y) :
  lexI (xs.drop k) (ys.drop k)=if cmpI x y=0 then lexI (xs.drop (k+1)) (ys.drop (k+1)) else cmpI x y:=by
 obtain ⟨h1,h1'⟩:=List.getElem?_eq_some_iff.1 hx
 obtain ⟨h2,h2'⟩:=List.getElem?_eq_some_iff.1 hy
 rw [List.drop_eq_getElem_cons h1,List.drop_eq_getElem_cons h2,h1',h2']
 simp only [lexI,cmpI]
 by_cases a:x<y
 ·simp [a]
 ·by_cases b:y<x
  ·simp [a,b]
  ·simp [a,b]
theorem lexI_long {xs ys:List Int} {k:Nat} (h1:k<xs.length) (h2:ys.length≤k):lexI (xs.drop k) (ys.drop k)=1:=by
 rw [List.drop_eq_getElem_cons h1,List.drop_eq_nil_of_le h2];rfl
theorem lexI_end {xs ys:List Int} {k:Nat} (h1:xs.length≤k):lexI (xs.drop k) (ys.drop k)=if k<ys.length then -1 else 0:=by
 rw [List.drop_eq_nil_of_le h1]
 by_cases h2:k<ys.length
 ·rw [if_pos h2,List.drop_eq_getElem_cons h2];rfl
 ·rw [if_neg h2,List.drop_eq_nil_of_le (by omega)];rfl
set_option maxHeartbeats 800000 in
theorem slicesCompare_any {A B:Option Addr} {n c m c':Nat} {xs ys:List Int} {w:World} (hx:RowOf w IsInt A n c xs) (hy:RowOf w IsInt B m c' ys) :
  Calls Tryz.prog 110 #[.slice A n c,.slice B m c'] w fun e w'=>e=.returned (.int .i64 (lexI xs ys))∧w=w':=by
 have hn:=hx.small
 have hm:=hy.small
 have HL:=Lib.hid (And.intro hx.len hy.len)
 go_enter Tryz.func110,Tryz.ntmps110
 go_wp2
 go_loop [5,6,7,8,11] (fun _ _ _ _ i=>∃ k:Nat,k≤n∧k≤m∧i=.int .i64 k∧Hid (lexI xs ys=lexI (xs.drop k) (ys.drop k))) (fun _ _ _ _ i=>n-(intOf i).toNat)
 case atStart=>exact ⟨0,by omega,by omega,rfl,Lib.hid (by simp)⟩
 case round =>
  obtain ⟨k,hk,hk',rfl,HT⟩:=hrel
  by_cases h1:k<n
  ·obtain ⟨b,o,x,rfl,hx1,hx2⟩:=hx.int_at h1
   have HX:=Lib.hid hx1
   clear hx1
   by_cases h2:k<m
   ·obtain ⟨b',o',y,rfl,hy1,hy2⟩:=hy.int_at h2
    have HY:=Lib.hid hy1
    clear hy1
    have hst:=lexI_step HX.out HY.out
    by_cases h3:cmpI x y=0
    ·rw [if_pos h3] at hst
     have HST:=Lib.hid hst
     have d3:(cmpI x y != 0)=false:=by simp [h3]
     have H3:=Lib.hid h3
     clear h3 hst
     go_wp2_with (go_at_call 120;refine (cmpCompare_any _ _ _).mono ?_;rintro e w' ⟨rfl,rfl⟩)
     go_round
     case rel=>exact ⟨k+1,by omega,by omega,by go_num,Lib.hid (by rw [HT.out,HST.out])⟩
     case measure=>simp [intOf];omega
    ·rw [if_neg h3] at hst
     have HST:=Lib.hid hst
     have d3:(cmpI x y != 0)=true:=by simp [h3]
     clear h3 hst
     go_wp2_with (go_at_call 120;refine (cmpCompare_any _ _ _).mono ?_;rintro e w' ⟨rfl,rfl⟩)
     go_ret
     exact ⟨ret_int (by rw [HT.out,HST.out]),rfl⟩
   ·go_wp2
    go_ret
    obtain ⟨h3,h4⟩:=HL.out
    exact ⟨ret_int (by rw [HT.out,lexI_long (by omega) (by omega)]),rfl⟩
  ·obtain ⟨h3,h4⟩:=HL.out
   have HE:=Lib.hid (lexI_end (xs:=xs) (ys:=ys) (k:=k) (by omega))
   clear h3 h4
   by_cases h2:n<m
   ·go_wp2
    go_ret
    obtain ⟨h3,h4⟩:=HL.out
    exact ⟨ret_int (by rw [HT.out,HE.out,if_pos (by omega)]),rfl⟩
   ·go_wp2
    go_ret
    obtain ⟨h3,h4⟩:=HL.out
    exact ⟨ret_int (by rw [HT.out,HE.out,if_neg (by omega)]),rfl⟩
theorem wordLex_any {A B:Option Addr} {n c m c':Nat} {xs ys:List Int} {w:World} (hx:RowOf w IsInt A n c xs) (hy:RowOf w IsInt B m c' ys) :
  Calls Tryz.prog 91 #[.slice A n c,.slice B m c'] w fun e w'=>e=.returned (.int .i64 (lexI xs ys))∧w=w':=by
 go_enter Tryz.func91,Tryz.ntmps91
 go_wp2_with (go_at_call 110;refine (slicesCompare_any hx hy).mono ?_;rintro e w' ⟨rfl,rfl⟩)
 go_ret
 exact ⟨rfl,rfl⟩
def orI (xs:List Int):Int:=(xs.find? fun a=>a != 0).getD 0
set_option maxHeartbeats 400000 in
theorem cmpOr_any {A:Option Addr} {n c:Nat} {xs:List Int} {w:World} (hx:RowOf w IsInt A n c xs) :
  Calls Tryz.prog 121 #[.slice A n c] w fun e w'=>e=.returned (.int .i64 (orI xs))∧w=w':=by
 have hns:=hx.small
 have HL:=Lib.hid hx.len
 go_enter Tryz.func121,Tryz.ntmps121
 go_wp2
 go_loop [5,8] (fun _ i=>∃ k:Nat,k≤n∧i=.int .i64 k∧Hid (((xs.take k).find? fun a=>a != 0)=none)) (fun _ i=>n-(intOf i).toNat)
 case atStart=>exact ⟨0,by omega,rfl,Lib.hid (by simp)⟩
 case round =>
  obtain ⟨k,hk,rfl,HT⟩:=hrel
  by_cases h1:k<n
  ·obtain ⟨b,o,x,rfl,hx1,hx2⟩:=hx.int_at h1
   have HX:=Lib.hid hx1
   clear hx1
   by_cases h2:x=0
   ·have d2:(x != 0)=false:=by simp [h2]
    have H2:=Lib.hid h2
    clear h2
    go_wp2
    go_round
    case rel=>exact ⟨k+1,by omega,by go_num,Lib.hid (by rw [take_step HX.out,List.find?_append,HT.out,H2.out];rfl)⟩
    case measure=>simp [intOf]<;>omega
   ·have d2:(x != 0)=true:=by simp [h2]
    go_wp2
    go_ret
    refine ⟨ret_int ?_,rfl⟩
    have hsp:=List.take_append_drop (k+1) xs
    unfold orI
    rw [← hsp,List.find?_append,take_step HX.out,List.find?_append,HT.out]
    simp [h2]
  ·go_wp2
   go_ret
   have ht:=HT.out
   rw [List.take_of_length_le (by rw [HL.out];omega)] at ht
   exact ⟨ret_int (by unfold orI;rw [ht];rfl),rfl⟩
theorem orI_cmp (xs ys:List Int):orI [cmpI xs.length ys.length,lexI xs ys]=cmpW xs ys:=by
 unfold orI cmpI cmpW
 by_cases h1:xs.length<ys.length
 ·rw [if_pos (by omega),if_pos h1];rfl
 ·by_cases h2:ys.length<xs.length
  ·rw [if_neg (by omega),if_pos (by omega),if_neg h1,if_pos h2];rfl
  ·rw [if_neg (by omega),if_neg (by omega),if_neg h1,if_neg h2]
   by_cases h3:lexI xs ys=0
   ·simp [h3]
   ·simp [h3]
theorem src_two {w:World} (x y:Value) (t:TypeId):Src (w.alloc (.cells #[x,y] t)) (some ⟨w.heap.size,0,none⟩) 2 [x,y] :=
 ⟨rfl,fun _=>⟨_,_,rfl,fun j u hu=>by
  have:=cell_two_new w x y t j u hu
  rwa [addr_add] at this⟩⟩
theorem ints_row {w:World} (x y:Int) (t:TypeId):RowOf (w.alloc (.cells #[.int .i64 x,.int .i64 y] t)) IsInt (some ⟨w.heap.size,0,none⟩) 2 2 [x,y]:=by
 refine ⟨rfl,Nat.le_refl _,by omega,fun _=>⟨_,_,rfl,fun i z hz=>?_⟩⟩
 obtain ⟨_,hc⟩:=src_two (w:=w) (.int .i64 x) (.int .i64 y) t
 obtain ⟨b,o,e,hcc⟩:=hc (by omega)
 injection e with e
 injection e with e1 e2
 subst e1 e2
 match i,hz with
 | 0,hz =>
  simp at hz
  subst hz
  exact ⟨_,hcc 0 _ rfl,rfl⟩
 | 1,hz =>
  simp at hz
  subst hz
  exact ⟨_,hcc 1 _ rfl,rfl⟩
set_option maxHeartbeats 400000 in
theorem wordCompare_any {A B:Option Addr} {n c m c':Nat} {xs ys:List Int} {w:World} (hx:RowOf w IsInt A n c xs) (hy:RowOf w IsInt B m c' ys) :
  Calls Tryz.prog 111 #[.slice A n c,.slice B m c'] w fun e w'=>e=.returned (.int .i64 (cmpW xs ys))∧w.alloc (.cells #[.int .i64 (cmpI xs.length ys.length),.int .i64 (lexI xs ys)] 3)=w':=by
 have hn:=hx.small
 have hm:=hy.small
 have hc1:=Lib.hid (slicesCompare_any hx hy)
 have HE:=Lib.hid (orI_cmp xs ys)
 have h1:=hx.len
 have h2:=hy.len
 have HO:=Lib.hid (fun t=>cmpOr_any (ints_row (w:=w) (cmpI xs.length ys.length) (lexI xs ys) t))
 rw [h1,h2] at HE HO
 rw [h1,h2]
 clear h1 h2 hx hy
 go_enter Tryz.func111,Tryz.ntmps111
 go_wp2_with (first | (go_at_call 120;refine (cmpCompare_any _ _ _).mono ?_;rintro e w' ⟨rfl,rfl⟩) | (go_at_call 110;refine hc1.out.mono ?_;rintro e w' ⟨rfl,rfl⟩) | (go_at_call 121;refine (HO.out _).mono ?_;rintro e w' ⟨rfl,rfl⟩))
 go_ret
 exact ⟨ret_int HE.out,rfl⟩
end Go.Proofs.YtajipjnfegmlcaaGreatDoor

/-
 DERIVED: THE SHELF's CONTRACTS AT THIS DUMP, IN PLAIN WORDS (tools/lay-plain.mjs out of 'YtajipjnfegmlcaaGreatDoorShelf.lean', which tools/lay-shelf.mjs wrote): THE SAME DECLARATIONS UNDER THE SAME NAMES: 'import', 'namespace', 'open', 'def', 'theorem' AND NOTHING ELSE: no command of the shelf's: FOR A HAND-IN. Each laying: the table of numbers ('.._ren') and one theorem, a field a fact of the dump's own or the kernel's comparison; each contract: ONE APPLICATION.
-/
namespace Go.Proofs
open Go.Shelf
def Tryz.sortW_ren:Go.Shelf.Ren:=⟨fun | 6=>107 | 15=>119 | 14=>118 | 28=>136 | 29=>137 | 20=>128 | 21=>129 | 22=>130 | 23=>131 | 24=>132 | 25=>133 | 26=>134 | 27=>135 | 46=>144 | 47=>145 | 48=>146 | 49=>147 | 50=>148 | 57=>151 | n=>n,fun | 22=>22 | 24=>25 | 25=>89 | 3=>3 | 39=>149 | 0=>0 | 53=>169 | 55=>30 | 4=>4 | 46=>163 | 45=>162 | 50=>140 | 5=>5 | 9=>9 | 66=>175 | 70=>179 | 76=>181 | 77=>182 | n=>n,fun | n=>n⟩
theorem Tryz.sortW:Go.Proofs.SlLaysF.n6 Tryz.prog Tryz.sortW_ren:={
 mixed:=by kernel_rfl
 f6:=⟨Tryz.f107.name,by decide,Tryz.func107.trans (congrArg some (by kernel_rfl))⟩
 f14:=⟨Tryz.f118.name,by decide,Tryz.func118.trans (congrArg some (by kernel_rfl))⟩
 f15:=Tryz.func119.trans (congrArg some (by kernel_rfl))
 f20:=⟨Tryz.f128.name,by decide,Tryz.func128.trans (congrArg some (by kernel_rfl))⟩
 f21:=⟨Tryz.f129.name,by decide,Tryz.func129.trans (congrArg some (by kernel_rfl))⟩
 f22:=⟨Tryz.f130.name,by decide,Tryz.func130.trans (congrArg some (by kernel_rfl))⟩
 f23:=⟨Tryz.f131.name,by decide,Tryz.func131.trans (congrArg some (by kernel_rfl))⟩
 f24:=⟨Tryz.f132.name,by decide,Tryz.func132.trans (congrArg some (by kernel_rfl))⟩
 f25:=⟨Tryz.f133.name,by decide,Tryz.func133.trans (congrArg some (by kernel_rfl))⟩
 f26:=⟨Tryz.f134.name,by decide,Tryz.func134.trans (congrArg some (by kernel_rfl))⟩
 f27:=⟨Tryz.f135.name,by decide,Tryz.func135.trans (congrArg some (by kernel_rfl))⟩
 f28:=Tryz.func136.trans (congrArg some (by kernel_rfl))
 f29:=Tryz.func137.trans (congrArg some (by kernel_rfl))
 f46:=⟨Tryz.f144.name,by decide,Tryz.func144.trans (congrArg some (by kernel_rfl))⟩
 f47:=Tryz.func145.trans (congrArg some (by kernel_rfl))
 f48:=Tryz.func146.trans (congrArg some (by kernel_rfl))
 f49:=⟨Tryz.f147.name,by decide,Tryz.func147.trans (congrArg some (by kernel_rfl))⟩
 f50:=⟨Tryz.f148.name,by decide,Tryz.func148.trans (congrArg some (by kernel_rfl))⟩
 f57:=⟨Tryz.f151.name,by decide,Tryz.func151.trans (congrArg some (by kernel_rfl))⟩
 t0:=Tryz.underlying0
 a0:=Tryz.isAgg0
 z0:=Tryz.sizeOf0
 v0:=Tryz.zeroValue0
 t3:=Tryz.underlying3
 a3:=Tryz.isAgg3
 z3:=Tryz.sizeOf3
 v3:=Tryz.zeroValue3
 t4:=Tryz.underlying4
 a4:=Tryz.isAgg4
 z4:=Tryz.sizeOf4
 v4:=Tryz.zeroValue4
 t5:=Tryz.underlying5
 a5:=Tryz.isAgg5
 z5:=Tryz.sizeOf5
 v5:=Tryz.zeroValue5
 t9:=Tryz.underlying9
 a9:=Tryz.isAgg9
 z9:=Tryz.sizeOf9
 v9:=Tryz.zeroValue9
 t22:=Tryz.underlying22
 a22:=Tryz.isAgg22
 z22:=Tryz.sizeOf22
 v22:=Tryz.zeroValue22
 a24:=Tryz.isAgg25
 z24:=Tryz.sizeOf25
 t25:=Tryz.underlying89
 a25:=Tryz.isAgg89
 z25:=Tryz.sizeOf89
 v25:=Tryz.zeroValue89
 t39:=Tryz.underlying149
 a39:=Tryz.isAgg149
 z39:=Tryz.sizeOf149
 v39:=Tryz.zeroValue149
 t45:=Tryz.underlying162
 a45:=Tryz.isAgg162
 z45:=Tryz.sizeOf162
 v45:=Tryz.zeroValue162
 t46:=Tryz.underlying163
 a46:=Tryz.isAgg163
 z46:=Tryz.sizeOf163
 v46:=Tryz.zeroValue163
 t50:=Tryz.underlying140
 a50:=Tryz.isAgg140
 z50:=Tryz.sizeOf140
 v50:=Tryz.zeroValue140
 t53:=Tryz.underlying169
 a53:=Tryz.isAgg169
 z53:=Tryz.sizeOf169
 v53:=Tryz.zeroValue169
 t55:=Tryz.underlying30
 a55:=Tryz.isAgg30
 z55:=Tryz.sizeOf30
 v55:=Tryz.zeroValue30
 t66:=Tryz.underlying175
 a66:=Tryz.isAgg175
 z66:=Tryz.sizeOf175
 v66:=Tryz.zeroValue175
 t70:=Tryz.underlying179
 a70:=Tryz.isAgg179
 z70:=Tryz.sizeOf179
 v70:=Tryz.zeroValue179
 t76:=Tryz.underlying181
 a76:=Tryz.isAgg181
 z76:=Tryz.sizeOf181
 v76:=Tryz.zeroValue181
 t77:=Tryz.underlying182
 a77:=Tryz.isAgg182
 z77:=Tryz.sizeOf182
 v77:=Tryz.zeroValue182 }
end Go.Proofs

/-
 The sort at this program's types, and the comparisons that it is handed.
-/
namespace Go.Proofs.YtajipjnfegmlcaaGreatDoor.Sym
open Go.RowKit Go.Sort
set_option maxRecDepth 100000
theorem putRow_map {E:Type} [Inhabited E] (enc:E→Value) (w:World) (blk off:Nat) (d:Array E):putRow enc w blk off d=putRow id w blk off (d.map enc):=by
 unfold putRow
 congr 1
 funext c
 unfold putCells
 congr 1
 funext k x
 rw [Array.size_map]
 by_cases h:off≤k∧k<off+d.size
 ·have h1:k-off<d.size:=by omega
  rw [if_pos h,if_pos h,getElem!_pos d _ h1,getElem!_pos (d.map enc) _ (by simpa using h1)]
  simp
 ·rw [if_neg h,if_neg h]
theorem holds_map {E:Type} [Inhabited E] {enc:E→Value} {w:World} {blk off:Nat} {d:Array E} (h:Go.Sort.Holds id w blk off (d.map enc)):Go.Sort.Holds enc w blk off d:=fun j hj=>by
 have:=h j (by simpa using hj)
 rw [getElem!_pos (d.map enc) _ (by simpa using hj)] at this
 rw [getElem!_pos d _ hj]
 simpa using this
def one1 (us:List Value):Value:=us.headD undef
theorem flat_one1 {E:Type} [Inhabited E] {enc:E→List Value} (hk:∀ x,(enc x).length=1) (d:Array E):Go.Sort.flatK enc 1 d=d.map fun x=>one1 (enc x):=by
 rw [flatK_list hk]
 have:(d.toList.map enc).flatten=d.toList.map fun x=>one1 (enc x):=by
  generalize d.toList=l
  induction l with
  | nil=>rfl
  | cons x l ih =>
   rw [List.map_cons,List.flatten_cons,ih,List.map_cons]
   have:=hk x
   match h:enc x,this with
   | [v],_=>rfl
 rw [this]
 apply Array.ext'
 simp
theorem sortC_words:SortC Tryz.prog 107 1 one1:=by
 refine ⟨fun p cap fv w=>AnyF.slices_SortFunc_none { Tryz.sortW with } p cap fv w,?_⟩
 intro E _ enc cf g blk cap d w hk h1 hO eg hcmp hH hblk hsz
 have e1:∀ m (dk:Array E),putRow (fun x=>one1 (enc x)) (Sort.ahead w m) blk 0 dk=putRow id (Sort.ahead w m) blk 0 (Go.Sort.flatK enc 1 dk):=fun m dk=>by rw [flat_one1 hk,putRow_map]
 have hone:OneCell fun x=>one1 (enc x):=fun x=>by
  have h2:=hk x
  have h3:=h1 x
  match h:enc x,h2 with
  | [v],_ =>
   show (one1 (enc x)).oneCell'=true
   rw [h] at h3 ⊢
   exact h3 v (by simp)
 refine (Any.slices_SortFunc Tryz.sortW (fun x=>one1 (enc x)) hone cf hO g #[] blk 0 cap d w eg (fun m os dk hs x y=>?_) (holds_map (by rw [← flat_one1 hk];exact hH)) hblk hsz).mono ?_
 ·have:=hcmp m os dk hs x y
  unfold sortWorld
  rw [e1]
  simpa using this
 ·rintro e w' ⟨he,d',n,os,hp,hs,hw⟩
  exact ⟨he,d',n,os,hp,hs,by rw [hw];unfold sortWorld;rw [e1]⟩
theorem cmpG_lex {f:List Int→List Int→Option Int} (hf:∀ x y r,x.length≤17592186044416→f x y=some r→r=lexI x y):CmpG Tryz.prog 91 (nL cI) f:=by
 intro W S u u' x y r h hu hu'
 obtain ⟨A,n,c,rfl,h1⟩:=rowOf_ints hu
 have:=hf x y r (by rw [h1.len];exact h1.small) h
 subst this
 obtain ⟨B,m,c',rfl,h2⟩:=rowOf_ints hu'
 refine (wordLex_any h1 h2).mono fun e w' ⟨he,hw⟩=>⟨he,0,#[],?_⟩
 rw [← hw,Sort.grow_empty]
 rfl
theorem cmpG_compare {f:List Int→List Int→Option Int} (hf:∀ x y r,x.length≤17592186044416→f x y=some r→r=cmpW x y):CmpG Tryz.prog 111 (nL cI) f:=by
 intro W S u u' x y r h hu hu'
 obtain ⟨A,n,c,rfl,h1⟩:=rowOf_ints hu
 have:=hf x y r (by rw [h1.len];exact h1.small) h
 subst this
 obtain ⟨B,m,c',rfl,h2⟩:=rowOf_ints hu'
 refine (wordCompare_any h1 h2).mono fun e w' ⟨he,hw⟩=>⟨he,0,#[.cells #[.int .i64 (cmpI x.length y.length),.int .i64 (lexI x y)] 3],?_⟩
 rw [← hw,Sort.alloc_eq_grow]
 rfl
theorem rep_of_one {W:World} {S:Nat→Prop} {us:List Value} {x:IV} (hl:us.length=1) (hr:RepIs W S us [x]):RepI W S (one1 us) x:=by
 match us,hl with
 | [u],_=>exact hr.2 0 u x rfl rfl
def CmpE {T:Type} (P:Program) (g:FuncId) (X:T→IV) (f:T→T→Option Int):Prop:=(∀ args w,(callFunc g args).run P w=.ok (.enter g args) w)∧CmpG P g X f
end Go.Proofs.YtajipjnfegmlcaaGreatDoor.Sym

/-
 The contract of slices.Insert of one element.
-/
namespace Go.Proofs.YtajipjnfegmlcaaGreatDoor.Sym
open Go.RowKit
theorem Tryz.infoI_traces:(Tryz.prog.info? 72).map (fun i=>(i.zero,i.size,i.bytes))=some (some (.agg #[.slice none 0 0,.slice none 0 0]),2,48):=by kernel_rfl
section
variable {P:Program}
theorem run_copy_k (w:World) (dT sT ty elem:TypeId) (g o dLen dCap:Nat) (a:Addr) (sLen sCap:Nat) (cur:Array Value) (t:TypeId) (cs:List Value) (k:Nat)
  (hu:P.underlying dT=some (.slice elem)) (hs:(P.info? elem).map (·.size)=some k)
  (hg:w.heap[g]?=some (.cells cur t (0,0))) (hn:cs.length=Nat.min sLen dLen*k)
  (hsrc:∀ j v,cs[j]?=some v→w.cell? (a.add j)=some v) (hfit:o+cs.length≤cur.size) (h1:∀ v∈cs,v.oneCell'=true) :
  (Builtin.copy_ #[dT,sT] ty #[.slice (some ⟨g,o,none⟩) dLen dCap,.slice (some a) sLen sCap]).run P w =
   .ok (goInt (Nat.min sLen dLen)) (w.setRow g (cur.toList.take o++cs++cur.toList.drop (o+cs.length)).toArray):=by
 have hl:=run_loadCells_list (P:=P) w a cs hsrc
 have hst:=run_storeCells_at P g o t cs 0 cur w hg (by simpa using hfit) h1
 cases hq:P.info? elem with
 | none=>simp [hq] at hs
 | some i =>
  have hi:i.size=k:=by simpa [hq] using hs
  rw [hn] at hl
  simp [Builtin.copy_,run_underlying hu,Builtin.lenOf,Builtin.firstCells,sizeOf,typeInfo,hq,hi,hl,hst]
theorem wp_copy_at (w:World) {o:Oper} {a:Act} {K:Act→World→Prop} {Q:Exit→Act→World→Prop} (d s:Operand) (t t':TypeId)
  (ho:o.op=.call { callee:=.builtin .copy,args:=#[d,s],argTypes:=#[t,t'] }) (v u:Value) (hd:a.eval d=v) (hs:a.eval s=u) {v':Value} {w':World}
  (hr:(Builtin.copy_ #[t,t'] o.type #[v,u]).run P w=.ok v' w') (h:K (a.put o.dst v') w'):o.wp P a w K Q:=by
 unfold Oper.wp execOp
 simp only [ho,resolve,invoke,builtin,Sem.run_bind,Sem.run_pure,Result.andThen_ok,List.map_toArray,List.map_cons,List.map_nil,hd,hs,hr]
 exact h
theorem wpList_copy_at (w:World) {ops:Array Oper} {rest:List Oper} {o:Oper} {a:Act} {Q:Exit→Act→World→Prop} (hgd:o.guard=none) (d s:Operand) (t t':TypeId)
  (ho:o.op=.call { callee:=.builtin .copy,args:=#[d,s],argTypes:=#[t,t'] }) (v u:Value) (hd:a.eval d=v) (hs:a.eval s=u) {v':Value} {w':World}
  (hr:(Builtin.copy_ #[t,t'] o.type #[v,u]).run P w=.ok v' w') (h:wpList P ops Q rest (a.put o.dst v') w'):wpList P ops Q (o::rest) a w :=
 wpList_plain hgd fun _ hK=>wp_copy_at w d s t t' ho v u hd hs hr (hK _ _ h)
theorem step_copy_at {ops:Array Oper} {o:Oper} {a:Act} {w:World} {K:Act→World→Prop} {Q:Exit→Act→World→Prop} {E:Prop}
  (hg:o.guard=none) (d x:Operand) (dT sT:TypeId) (hop:o.op=Op.call { callee:=Callee.builtin Builtin.copy,args:=#[d,x],argTypes:=#[dT,sT] })
  (v u:Value) (hd:a.eval d=v) (hx:a.eval x=u) {v':Value} {w':World} (hr:(Builtin.copy_ #[dT,sT] o.type #[v,u]).run P w=.ok v' w') (hK:K (a.put o.dst v') w') :
  if Region.wanted o (yielded ops a.tmps)=true then Oper.wp P o a w K Q else E:=by
 have hw:Region.wanted o (yielded ops a.tmps)=true:=by simp [Region.wanted,hg]
 rw [if_pos hw]
 exact wp_copy_at w d x dT sT hop v u hd hx hr hK
end
def InsPost (t:TypeId) (k n:Nat) (us:List Value) (v:Value) (w:World) (e:Ending) (w':World):Prop :=
 ∃ v',e=.returned v'∧w'.ownsRow 0 t k v' (n+1) us∧w.grownBy w' v.ownBlock∧(v'.ownBlock=v.ownBlock∨v'.ownBlock=some w.heap.size)
set_option maxRecDepth 100000 in
set_option maxHeartbeats 400000 in
theorem insert_end (w:World) (v:Value) (n vb vc:Nat) (us news:List Value) (ho:w.ownsRow 0 72 2 v n us) (hl:news.length=1*2) (hb:∀ (j:Nat) u,news[j]?=some u→w.cell? ⟨vb,0+j,none⟩=some u)
  (h1:∀ u∈news,u.oneCell'=true) (hn:n≤1000000):Calls Tryz.prog 104 #[v,.int .i64 n,.slice (some ⟨vb,0,none⟩) 1 vc] w (InsPost 72 2 n (us++news) v w):=by
 obtain ⟨j0,ji,jz0,jz1,jz2⟩:=info_parts Tryz.infoI_traces
 have hc6:n+1≤maxLen:=by unfold maxLen;omega
 have hc7:(n+1)*48≤140737488355328:=by omega
 rcases ho.2 with ⟨hv,h0⟩ | ⟨g,cap,cur,hv,_,hg,hnc,hcm,hcz,hct⟩
 ·subst hv h0
  go_enter Tryz.func104,Tryz.ntmps104
  go_wp2_with (at_builtin;refine wpList_append_k rfl (.tmp 23) (.tmp 24) 33 rfl 0 72 j0 (.agg #[.slice none 0 0,.slice none 0 0]) 2 48 Tryz.underlying33 ji jz0 jz1 jz2 rfl (by decide) _ _ _ rfl ho _ _ _ _ rfl hl (fun _=>⟨vb,0,rfl,hb⟩) h1 hc6 hc7 (Nat.zero_le _) ?_;intro v1 w1 hown1 hg1 hb1)
  all_goals (go_ret;exact ⟨v1,rfl,hown1,hg1,hb1⟩)
 ·subst hv
  go_enter Tryz.func104,Tryz.ntmps104
  go_wp2_with (at_builtin;refine wpList_append_k rfl (.tmp 23) (.tmp 24) 33 rfl 0 72 j0 (.agg #[.slice none 0 0,.slice none 0 0]) 2 48 Tryz.underlying33 ji jz0 jz1 jz2 rfl (by decide) _ _ _ rfl ho _ _ _ _ rfl hl (fun _=>⟨vb,0,rfl,hb⟩) h1 hc6 hc7 (Nat.zero_le _) ?_;intro v1 w1 hown1 hg1 hb1)
  all_goals (go_ret;exact ⟨v1,rfl,hown1,hg1,hb1⟩)
set_option maxRecDepth 100000 in
set_option maxHeartbeats 800000 in
theorem insert_shift (w:World) (g cap n i vb vc:Nat) (cur cur2:Array Value) (us news:List Value) (hg:w.heap[g]?=some (.cells cur 72 (0,0))) (hcz:cur.size=cap*2) (hct:cur.toList.take (n*2)=us)
  (hcm:cap≤maxLen) (hne:vb≠g) (hvb:w.heap[vb]?=some (.cells cur2 72 (0,0))) (hvz:cur2.toList.take 2=news) (hl:news.length=2) (h1:∀ u∈us,u.oneCell'=true) (h2:∀ u∈news,u.oneCell'=true) (hi:i<n) (hr:n<cap) (hn:n≤1000000) :
  Calls Tryz.prog 104 #[.slice (some ⟨g,0,none⟩) n cap,.int .i64 i,.slice (some ⟨vb,0,none⟩) 1 vc] w (InsPost 72 2 n (us.take (i*2)++news++us.drop (i*2)) (.slice (some ⟨g,0,none⟩) n cap) w):=by
 obtain ⟨j0,ji,jz0,jz1,jz2⟩:=info_parts Tryz.infoI_traces
 have hz2:¬ ((i:Int)=(n:Int)):=by omega
 have hov:∀ lb cb,(callFunc 115 #[.slice (some ⟨vb,0,none⟩) 1 vc,.slice (some ⟨g,(i+1)*2,none⟩) lb cb]).run Tryz.prog w=.ok (.value (.bool false)) w:=fun lb cb=>by
  rw [run_callFunc_extern Tryz.func115 (by kernel_rfl) (by kernel_rfl) (by kernel_rfl) (e:=Extern.SlicesOverlaps.overlaps #[33,33] #[4]) (by kernel_rfl),
   Lib.run_overlaps_apart w 33 4 72 Tryz.underlying33 2 Tryz.sizeOf72 ⟨vb,0,none⟩ ⟨g,(i+1)*2,none⟩ 1 vc lb cb hne 72 72 cur2.size cur.size (by simp [World.shape?,hvb]) (by simp [World.shape?,hg]) (by omega) (by simp [World.frozen?,hvb]) (by simp [World.frozen?,hvb])]
  rfl
 have hct':∀ (j:Nat),j<n*2→cur[j]?=us[j]?:=fun j hj=>by
  rw [← hct,List.getElem?_take,if_pos hj,Array.getElem?_toList]
 have hul:us.length=n*2:=by
  rw [← hct,List.length_take,Array.length_toList]
  omega
 have hdl:(us.drop (i*2)).length=(n-i)*2:=by rw [List.length_drop,hul];omega
 obtain ⟨R1,hR1⟩:∃ R1,R1=(cur.toList.take ((i+1)*2)++us.drop (i*2)++cur.toList.drop ((i+1)*2+(us.drop (i*2)).length)).toArray:=⟨_,rfl⟩
 have hcp1:∀ ty dl dc sl sc,dl=n-i→sl=n+1-i→(Builtin.copy_ #[33,33] ty #[.slice (some ⟨g,(i+1)*2,none⟩) dl dc,.slice (some ⟨g,i*2,none⟩) sl sc]).run Tryz.prog w.drew=.ok (goInt ((n-i:Nat):Int)) (w.drew.setRow g R1):=fun ty dl dc sl sc hd hs=>by
  have hm:Nat.min sl dl=n-i:=by rw [hd,hs];simp only [Nat.min_def];split<;>omega
  have:=run_copy_k (P:=Tryz.prog) w.drew 33 33 ty 72 g ((i+1)*2) dl dc ⟨g,i*2,none⟩ sl sc cur 72 (us.drop (i*2)) 2 Tryz.underlying33 (by rw [ji];simp [jz1]) hg (by rw [hm,hdl]) (fun j v hj=>by
   rw [Addr.add_lit]
   rw [List.getElem?_drop] at hj
   have hlt:=(List.getElem?_eq_some_iff.1 hj).1
   show w.cell? _=_
   simp only [World.cell?,hg]
   rw [hct' _ (by omega)]
   simpa using hj) (by rw [hdl];omega) (fun v hv=>h1 v (List.mem_of_mem_drop hv))
  rw [hm,← hR1] at this
  exact this
 have hR1z:R1.size=cap*2:=by
  rw [hR1]
  simp only [List.size_toArray,List.length_append,List.length_take,List.length_drop,Array.length_toList]
  omega
 have hg1:(w.drew.setRow g R1).heap[g]?=some (.cells R1 72 (0,0)):=setRow_heap w.drew g cur R1 _ _ hg
 have hvb1:(w.drew.setRow g R1).heap[vb]?=some (.cells cur2 72 (0,0)):=by
  rw [setRow_other _ _ _ _ hne]
  exact hvb
 obtain ⟨R2,hR2⟩:∃ R2,R2=(R1.toList.take (i*2)++news++R1.toList.drop (i*2+news.length)).toArray:=⟨_,rfl⟩
 have hcp2:∀ (W:World) ty dl dc,W.heap[g]?=some (.cells R1 72 (0,0))→W.heap[vb]?=some (.cells cur2 72 (0,0))→1≤dl→(Builtin.copy_ #[33,33] ty #[.slice (some ⟨g,i*2,none⟩) dl dc,.slice (some ⟨vb,0,none⟩) 1 vc]).run Tryz.prog W=.ok (goInt ((1:Nat):Int)) (W.setRow g R2):=fun W ty dl dc hW hV hd=>by
  have hm:Nat.min 1 dl=1:=by simp only [Nat.min_def];split<;>omega
  have:=run_copy_k (P:=Tryz.prog) W 33 33 ty 72 g (i*2) dl dc ⟨vb,0,none⟩ 1 vc R1 72 news 2 Tryz.underlying33 (by rw [ji];simp [jz1]) hW (by rw [hm,hl]) (fun j v hj=>by
   rw [Addr.add_lit]
   have hlt:=(List.getElem?_eq_some_iff.1 hj).1
   simp only [World.cell?,hV]
   rw [← hvz,List.getElem?_take,if_pos (by omega),Array.getElem?_toList] at hj
   simpa using hj) (by rw [hl];omega) h2
  rw [hm,← hR2] at this
  exact this
 obtain ⟨US,hUS⟩:∃ US,US=us.take (i*2)++news++us.drop (i*2):=⟨_,rfl⟩
 rw [← hUS]
 have HUS:=Lib.hid hUS
 have HR1:=Lib.hid hR1
 have HR2:=Lib.hid hR2
 have HDL:=Lib.hid hdl
 have HUL:=Lib.hid hul
 have HCT:=Lib.hid hct
 have HL:=Lib.hid hl
 have HVZ:=Lib.hid hvz
 clear hUS hR1 hR2 hdl hul hct hct' hl hvz h1 h2
 have hcp3:=fun ty dl dc=>hcp2 (w.drew.setRow g R1) ty dl dc hg1 hvb1
 have hcd:1≤n+1-i:=by omega
 clear hcp2 hg1 hvb1
 have mixed:Tryz.prog.follows Departure.mixedOrders=true:=by kernel_rfl
 have hw1:IntKind.i64.wrap ((i:Int)+1)=(i:Int)+1:=by rw [IntKind.wrap_i64];omega
 have hb1:(0:Int)≤(i:Int)+1:=by omega
 have hin:i≤n:=by omega
 have htn:((i:Int)+1).toNat=i+1:=by omega
 have hb2:¬ (cap=i+1):=by omega
 have hb3:(i:Int)≤(n:Int)+1:=by omega
 have hb4:¬ (cap=i):=by omega
 go_enter Tryz.func104,Tryz.ntmps104
 go_wp2_with (simp only [hov])
 go_region_law_o (refine step_copy_at rfl _ _ 33 33 rfl _ _ (by simp [Act.eval,Act.put]) (by simp [Act.eval,Act.put]) (hcp1 _ _ _ _ _ (by omega) (by omega)) ?_)
 go_wp2_with (at_builtin;refine wpList_copy_at _ rfl _ _ 33 33 rfl _ _ rfl rfl (hcp3 3 (n+1-i) (cap-i) hcd) ?_)
 go_ret
 have hl:=HL.out
 have hul:=HUL.out
 have hct:=HCT.out
 have hdl:=HDL.out
 have hRL1:R1.toList=cur.toList.take ((i+1)*2)++us.drop (i*2)++cur.toList.drop ((i+1)*2+(us.drop (i*2)).length):=by rw [HR1.out]
 have hA1:(cur.toList.take ((i+1)*2)).length=(i+1)*2:=by rw [List.length_take,Array.length_toList];omega
 have hT:R1.toList.take (i*2)=us.take (i*2):=by
  rw [hRL1,List.append_assoc,List.take_append_of_le_length (by rw [hA1];omega),List.take_take,← hct,List.take_take]
  congr 1
  omega
 have hD:R1.toList.drop (i*2+2)=us.drop (i*2)++cur.toList.drop ((i+1)*2+(us.drop (i*2)).length):=by
  rw [hRL1,List.append_assoc,List.drop_append_of_le_length (by rw [hA1];omega),List.drop_of_length_le (by rw [hA1];omega),List.nil_append]
 have hRL2:R2.toList=US++cur.toList.drop ((i+1)*2+(us.drop (i*2)).length):=by
  rw [HR2.out,HUS.out,hl,hT,hD]
  simp
 have hUL:US.length=(n+1)*2:=by
  rw [HUS.out,List.length_append,List.length_append,hdl,hl,List.length_take,hul]
  omega
 refine ⟨_,rfl,⟨hUL,.inr ⟨g,cap,R2,rfl,Nat.zero_le _,?_,by omega,hcm,?_,?_⟩⟩,⟨rfl,rfl,rfl,?_,fun k hk hkn=>?_⟩,.inl rfl⟩
 ·exact setRow_heap _ g R1 R2 _ _ (setRow_heap w.drew g cur R1 _ _ hg)
 ·rw [← Array.length_toList,hRL2,List.length_append,hUL,List.length_drop,Array.length_toList,hdl]
  omega
 ·rw [hRL2,List.take_append_of_le_length (by omega),List.take_of_length_le (by omega)]
 ·simp
 ·have hkg:k≠g:=fun e=>hkn (by rw [e];rfl)
  rw [setRow_other _ _ _ _ hkg,setRow_other _ _ _ _ hkg]
  rfl
set_option maxRecDepth 100000 in
set_option maxHeartbeats 800000 in
theorem insert_grow (w:World) (g n i vb vc:Nat) (cur cur2:Array Value) (us news:List Value) (hg:w.heap[g]?=some (.cells cur 72 (0,0))) (hcz:cur.size=n*2) (hct:cur.toList.take (n*2)=us)
  (hvb:w.heap[vb]?=some (.cells cur2 72 (0,0))) (hvz:cur2.toList.take 2=news) (hl:news.length=2) (h1:∀ u∈us,u.oneCell'=true) (h2:∀ u∈news,u.oneCell'=true) (hi:i<n) (hn:n≤1000000) :
  Calls Tryz.prog 104 #[.slice (some ⟨g,0,none⟩) n n,.int .i64 i,.slice (some ⟨vb,0,none⟩) 1 vc] w (InsPost 72 2 n (us.take (i*2)++news++us.drop (i*2)) (.slice (some ⟨g,0,none⟩) n n) w):=by
 obtain ⟨j0,ji,jz0,jz1,jz2⟩:=info_parts Tryz.infoI_traces
 have hz2:¬ ((i:Int)=(n:Int)):=by omega
 have hz3:(n:Int)<(n:Int)+1:=by omega
 have hct':∀ (j:Nat),j<n*2→cur[j]?=us[j]?:=fun j hj=>by
  rw [← hct,List.getElem?_take,if_pos hj,Array.getElem?_toList]
 have hul:us.length=n*2:=by
  rw [← hct,List.length_take,Array.length_toList]
  omega
 have hdl:(us.drop (i*2)).length=(n-i)*2:=by rw [List.length_drop,hul];omega
 have htl:(us.take (i*2)).length=i*2:=by rw [List.length_take,hul];omega
 have hgl:g<w.heap.size:=by
  rcases Nat.lt_or_ge g w.heap.size with h | h
  ·exact h
  ·rw [Array.getElem?_eq_none h] at hg
   cases hg
 have hvl:vb<w.heap.size:=by
  rcases Nat.lt_or_ge vb w.heap.size with h | h
  ·exact h
  ·rw [Array.getElem?_eq_none h] at hvb
   cases hvb
 obtain ⟨N,hN⟩:∃ N,N=w.heap.size:=⟨_,rfl⟩
 have hold:(Builtin.firstCells j0.size i (.slice (some ⟨g,0,none⟩) i n)).run Tryz.prog w.drew=.ok (us.take (i*2)).toArray w.drew:=by
  rw [jz1]
  exact run_firstCells_some w.drew 2 i ⟨g,0,none⟩ i n (us.take (i*2)) htl (fun j v hj=>by
   rw [Addr.add_lit]
   rw [List.getElem?_take] at hj
   split at hj
   ·show w.cell? _=_
    simp only [World.cell?,hg]
    rw [Nat.zero_add,hct' _ (by omega)]
    exact hj
   ·cases hj)
 obtain ⟨G,hG⟩:∃ G,G=grownCap w (n+1) n 72:=⟨_,rfl⟩
 obtain ⟨ROW,hROW⟩:∃ ROW:Array Value,ROW=(us.take (i*2)).toArray++Builtin.zeroCells (Value.agg #[.slice none 0 0,.slice none 0 0]).cells (n+1-i)++Builtin.zeroCells (Value.agg #[.slice none 0 0,.slice none 0 0]).cells (G-(n+1)):=⟨_,rfl⟩
 have hGn:n+1≤G:=by rw [hG];exact grownCap_ge w _ _ _
 have hGm:G≤maxLen:=by rw [hG];exact grownCap_le_maxLen w (n+1) n 72 (by unfold maxLen;omega)
 have hG63:G≤9223372036854775807:=by unfold maxLen at hGm;omega
 obtain ⟨W1,hW1⟩:∃ W1,W1=w.drew.alloc (.cells ROW 72):=⟨_,rfl⟩
 have hrz:∀ ty,(Builtin.append_ #[33,3] ty #[.slice (some ⟨g,0,none⟩) i n,.int .i64 ((n:Int)+1-(i:Int))]).run Tryz.prog w=.ok (.slice (some ⟨N,0,none⟩) (n+1) G) W1:=fun ty=>by
  have h:=Lib.run_append_grow_zeros w 33 3 ty 72 j0 _ .i64 .i64 Tryz.underlying33 Tryz.underlying3 ji jz0 (some ⟨g,0,none⟩) i n (us.take (i*2)) hold (n+1-i) (by omega) (by omega) (by omega) (by omega) (by rw [jz2];omega) (by rw [jz2,show i+(n+1-i)=n+1 by omega];exact growslice_fits (by omega) (by omega))
  rw [show i+(n+1-i)=n+1 by omega,← hG,← hROW,← hN,← hW1] at h
  rw [show (n:Int)+1-(i:Int)=((n+1-i:Nat):Int) by omega]
  exact h
 have hRz:ROW.size=G*2:=by
  rw [hROW]
  simp only [Array.size_append,List.size_toArray,htl,Builtin.zeroCells,Value.cells,Array.size_map,Array.size_range]
  simp
  omega
 have hROWL:ROW.toList.take (i*2)=us.take (i*2):=by
  rw [hROW,Array.toList_append,Array.toList_append,List.append_assoc,List.take_append_of_le_length (by simp [htl]),List.take_of_length_le (by simp [htl])]
 have hA0:W1.heap[N]?=some (.cells ROW 72 (0,0)):=by
  rw [hW1,hN]
  exact heap_alloc_new w.drew _
 have hAold:∀ k,k<w.heap.size→W1.heap[k]?=w.heap[k]?:=fun k hk=>by
  rw [hW1]
  exact heap_alloc_old w.drew _ hk
 obtain ⟨R1,hR1⟩:∃ R1,R1=(ROW.toList.take (i*2)++news++ROW.toList.drop (i*2+news.length)).toArray:=⟨_,rfl⟩
 have hcpA:∀ (W:World) ty dl dc,W.heap[N]?=some (.cells ROW 72 (0,0))→W.heap[vb]?=some (.cells cur2 72 (0,0))→1≤dl→(Builtin.copy_ #[33,33] ty #[.slice (some ⟨N,i*2,none⟩) dl dc,.slice (some ⟨vb,0,none⟩) 1 vc]).run Tryz.prog W=.ok (goInt ((1:Nat):Int)) (W.setRow N R1):=fun W ty dl dc hW hV hd=>by
  have hm:Nat.min 1 dl=1:=by simp only [Nat.min_def];split<;>omega
  have:=run_copy_k (P:=Tryz.prog) W 33 33 ty 72 N (i*2) dl dc ⟨vb,0,none⟩ 1 vc ROW 72 news 2 Tryz.underlying33 (by rw [ji];simp [jz1]) hW (by rw [hm,hl]) (fun j v hj=>by
   rw [Addr.add_lit]
   have hlt:=(List.getElem?_eq_some_iff.1 hj).1
   simp only [World.cell?,hV]
   rw [← hvz,List.getElem?_take,if_pos (by omega),Array.getElem?_toList] at hj
   simpa using hj) (by rw [hl];omega) h2
  rw [hm,← hR1] at this
  exact this
 have hR1z:R1.size=G*2:=by
  rw [hR1]
  simp only [List.size_toArray,List.length_append,List.length_take,List.length_drop,Array.length_toList,hl]
  omega
 obtain ⟨R2,hR2⟩:∃ R2,R2=(R1.toList.take ((i+1)*2)++us.drop (i*2)++R1.toList.drop ((i+1)*2+(us.drop (i*2)).length)).toArray:=⟨_,rfl⟩
 have hcpB:∀ (W:World) ty dl dc sl sc,W.heap[N]?=some (.cells R1 72 (0,0))→W.heap[g]?=some (.cells cur 72 (0,0))→dl=n-i→sl=n-i→(Builtin.copy_ #[33,33] ty #[.slice (some ⟨N,(i+1)*2,none⟩) dl dc,.slice (some ⟨g,i*2,none⟩) sl sc]).run Tryz.prog W=.ok (goInt ((n-i:Nat):Int)) (W.setRow N R2):=fun W ty dl dc sl sc hW hV hd hs=>by
  have hm:Nat.min sl dl=n-i:=by rw [hd,hs];simp only [Nat.min_def];split<;>omega
  have:=run_copy_k (P:=Tryz.prog) W 33 33 ty 72 N ((i+1)*2) dl dc ⟨g,i*2,none⟩ sl sc R1 72 (us.drop (i*2)) 2 Tryz.underlying33 (by rw [ji];simp [jz1]) hW (by rw [hm,hdl]) (fun j v hj=>by
   rw [Addr.add_lit]
   rw [List.getElem?_drop] at hj
   have hlt:=(List.getElem?_eq_some_iff.1 hj).1
   simp only [World.cell?,hV]
   rw [hct' _ (by omega)]
   simpa using hj) (by rw [hdl,hR1z];omega) (fun v hv=>h1 v (List.mem_of_mem_drop hv))
  rw [hm,← hR2] at this
  exact this
 have hcdA:1≤n+1-i:=by omega
 have hvN:vb≠N:=by omega
 have hgN:g≠N:=by omega
 have hA1:=fun ty dc=>hcpA W1 ty (n+1-i) dc hA0 (by rw [hAold vb hvl];exact hvb) hcdA
 have hB0:(W1.setRow N R1).heap[N]?=some (.cells R1 72 (0,0)):=setRow_heap W1 N ROW R1 _ _ hA0
 have hB1:(W1.setRow N R1).drew.heap[g]?=some (.cells cur 72 (0,0)):=by
  show (W1.setRow N R1).heap[g]?=_
  rw [setRow_other _ _ _ _ hgN,hAold g hgl]
  exact hg
 have hB2:=fun ty dl dc sl sc h3 h4=>hcpB (W1.setRow N R1).drew ty dl dc sl sc hB0 hB1 h3 h4
 obtain ⟨US,hUS⟩:∃ US,US=us.take (i*2)++news++us.drop (i*2):=⟨_,rfl⟩
 rw [← hUS]
 have hfin:∃ REST,R2.toList=US++REST:=by
  refine ⟨R1.toList.drop ((i+1)*2+(us.drop (i*2)).length),?_⟩
  have hT:R1.toList.take ((i+1)*2)=us.take (i*2)++news:=by
   have hz:(us.take (i*2)++news).length=(i+1)*2:=by rw [List.length_append,htl,hl];omega
   rw [hR1,hROWL,← hz,List.take_append_of_le_length (Nat.le_refl _),List.take_length]
  rw [hR2,hT,hUS]
 have hUL:US.length=(n+1)*2:=by
  rw [hUS,List.length_append,List.length_append,hdl,hl,htl]
  omega
 have hR2z:R2.size=G*2:=by
  rw [hR2]
  simp only [List.size_toArray,List.length_append,List.length_take,List.length_drop,Array.length_toList]
  omega
 have HR1:=Lib.hid hR1
 have HN:=Lib.hid hN
 have HG:=Lib.hid hG
 have HW1:=Lib.hid hW1
 have HOLD:=Lib.hid hAold
 clear hUS hR1 hR2 hdl hul hct hct' hl hvz h1 h2 hold hROW hROWL htl hcpA hcpB hRz hR1z hG hN hW1 hAold
 have mixed:Tryz.prog.follows Departure.mixedOrders=true:=by kernel_rfl
 have hw1:IntKind.i64.wrap ((i:Int)+1)=(i:Int)+1:=by rw [IntKind.wrap_i64];omega
 have hb1:(0:Int)≤(i:Int)+1:=by omega
 have hin:i≤n:=by omega
 have htn:((i:Int)+1).toNat=i+1:=by omega
 have hb3:(i:Int)≤(n:Int):=by omega
 have hGi:¬ (G=i):=by omega
 have hGim:¬ (G=i+1):=by omega
 have hci:¬ (n=i):=by omega
 go_enter Tryz.func104,Tryz.ntmps104
 go_wp2_with (first
  | (at_builtin;refine Lib.wpList_append_run _ rfl _ _ _ _ rfl _ _ rfl rfl _ _ (hrz _) ?_)
  | (at_builtin;refine wpList_copy_at _ rfl _ _ 33 33 rfl _ _ rfl rfl (hA1 _ _) ?_))
 go_region_law_o (refine step_copy_at rfl _ _ 33 33 rfl _ _ (by simp [Act.eval,Act.put]) (by simp [Act.eval,Act.put]) (hB2 _ _ _ _ _ (by omega) (by omega)) ?_)
 go_wp2
 go_ret
 obtain ⟨REST,hREST⟩:=hfin
 have hN:=HN.out
 refine ⟨_,rfl,⟨hUL,.inr ⟨N,G,R2,rfl,Nat.zero_le _,?_,hGn,hGm,hR2z,?_⟩⟩,⟨?_,?_,?_,?_,fun k hk hkn=>?_⟩,.inr (by rw [← hN];rfl)⟩
 ·exact setRow_heap _ N R1 R2 _ _ hB0
 ·rw [hREST,List.take_append_of_le_length (by omega),List.take_of_length_le (by omega)]
 ·rw [HW1.out];rfl
 ·rw [HW1.out];rfl
 ·rw [HW1.out];rfl
 ·simp [HW1.out]
 ·have hkg:k≠N:=by omega
  rw [setRow_other _ _ _ _ hkg]
  show (W1.setRow N R1).heap[k]?=_
  rw [setRow_other _ _ _ _ hkg,HOLD.out k hk]
theorem flat_take_k {α:Type} {k:Nat}:∀ {es:List (List α)} (i:Nat),(∀ e∈es,e.length=k)→(es.take i).flatten=es.flatten.take (i*k)∧(es.drop i).flatten=es.flatten.drop (i*k)
 | [],i,_=>by simp
 | e::es,0,_=>by simp
 | e::es,i+1,h=>by
  have he:=h e (by simp)
  obtain ⟨h1,h2⟩:=flat_take_k (es:=es) i fun x hx=>h x (by simp [hx])
  have hz:(i+1)*k=e.length+i*k:=by rw [he,Nat.succ_mul,Nat.add_comm]
  constructor
  ·rw [List.take_succ_cons,List.flatten_cons,List.flatten_cons,h1,hz,List.take_append (l₁:=e),List.take_of_length_le (l:=e) (by omega),Nat.add_sub_cancel_left]
  ·rw [List.drop_succ_cons,List.flatten_cons,h2,hz,List.drop_append (l₁:=e),List.drop_of_length_le (l:=e) (by omega),List.nil_append,Nat.add_sub_cancel_left]
def RelW (R:Value→IV→Prop) (us:List Value) (xs:List IV):Prop:=∀ (i:Nat) u x,us[i]?=some u→xs[i]?=some x→R u x
theorem RelW.append {R:Value→IV→Prop} {us vs:List Value} {xs ys:List IV} (hl:us.length=xs.length) (h1:RelW R us xs) (h2:RelW R vs ys):RelW R (us++vs) (xs++ys):=fun i u x hu hx=>by
 rcases Nat.lt_or_ge i us.length with h | h
 ·rw [List.getElem?_append_left h] at hu
  rw [List.getElem?_append_left (by omega)] at hx
  exact h1 i u x hu hx
 ·rw [List.getElem?_append_right h] at hu
  rw [List.getElem?_append_right (by omega),← hl] at hx
  exact h2 _ u x hu hx
theorem RelW.take {R:Value→IV→Prop} {us:List Value} {xs:List IV} (k:Nat) (h:RelW R us xs):RelW R (us.take k) (xs.take k):=fun i u x hu hx=>by
 rw [List.getElem?_take] at hu hx
 split at hu
 ·rename_i g
  rw [if_pos g] at hx
  exact h i u x hu hx
 ·cases hu
theorem RelW.drop {R:Value→IV→Prop} {us:List Value} {xs:List IV} (k:Nat) (h:RelW R us xs):RelW R (us.drop k) (xs.drop k):=fun i u x hu hx=>by
 rw [List.getElem?_drop] at hu hx
 exact h _ u x hu hx
set_option maxRecDepth 100000 in
theorem sp_of_insert {es:List (List IV)} {e:List IV} {i:Int} (hk:∀ x∈es,x.length=2) (hke:e.length=2) (h0:0≤i) (h1:i≤(↑es.length:Int)) (hn:es.length≤1000000) :
  Sp Tryz.prog 104 [.row 72 2 es,.im (nI i),.row 72 2 [e]] (.row 72 2 (es.take i.toNat++[e]++es.drop i.toNat)):=by
 refine ⟨fun args w=>run_enter rfl rfl rfl args w,fun w S vs F hS hv hnd hF=>?_⟩
 match vs,hv with
 | [v,vi,va],⟨F1,F2,⟨hv1,inn,hrow,e1⟩,⟨F3,F4,⟨h4,e2⟩,⟨F5,F6,⟨hva1,inn2,hrow2,e5⟩,h6,e6⟩,e3⟩,e4⟩ =>
  have h6:F6=[]:=h6
  have e1:F1=(blkOf v).toList:=e1
  have e5:F5=(blkOf va).toList:=e5
  subst e1 e2 e5 h6
  have e6:F4=(blkOf va).toList:=by rw [e6];simp
  subst e6
  have e3:F2=(blkOf va).toList:=by rw [e3];simp
  subst e3
  subst e4
  cases h4
  obtain ⟨us,_,_,hlim,hown,hul,hu1,hr⟩:=hrow
  obtain ⟨news,_,_,_,hown2,hul2,hu2,hr2⟩:=hrow2
  have hlen:([e]:List (List IV)).length=1:=rfl
  rw [hlen] at hown2
  have hnl:news.length=2:=by
   rw [hul2]
   simp [hke]
  obtain ⟨vb,vc,cur2,rfl,_,hvb,hvc,hvm,hvz,hvt⟩:∃ vb vc cur2,va=.slice (some ⟨vb,0,none⟩) 1 vc∧0≤vb∧w.heap[vb]?=some (.cells cur2 72 (0,0))∧1≤vc∧vc≤maxLen∧cur2.size=vc*2∧cur2.toList.take (1*2)=news:=by
   rcases hown2.2 with ⟨_,h⟩ | h
   ·cases h
   ·exact h
  have hbva:blkOf (.slice (some ⟨vb,0,none⟩) 1 vc)=some vb:=rfl
  rw [hbva] at hnd hF ⊢
  have hvbF:¬ S vb∧vb<w.heap.size:=hF vb (by simp)
  have hull:us.length=es.length*2:=hown.1
  have ei:i=(↑i.toNat:Int):=by omega
  have hcall:Calls Tryz.prog 104 #[v,.int .i64 i,.slice (some ⟨vb,0,none⟩) 1 vc] w (InsPost 72 2 es.length (us.take (i.toNat*2)++news++us.drop (i.toNat*2)) v w):=by
   rw [ei]
   simp only [Int.toNat_natCast]
   by_cases hend:i.toNat=es.length
   ·have:=insert_end w v es.length vb vc us news hown (by omega) (fun j u hj=>by
     have hlt:=(List.getElem?_eq_some_iff.1 hj).1
     simp only [World.cell?,hvb]
     rw [← hvt,List.getElem?_take,if_pos (by omega),Array.getElem?_toList] at hj
     simpa using hj) hu2 hn
    rw [hend,List.take_of_length_le (by omega),List.drop_of_length_le (by omega),List.append_nil]
    exact this
   ·rcases hown.2 with ⟨_,h⟩ | ⟨g,cap,cur,hv,_,hg,hnc,hcm,hcz,hct⟩
    ·omega
    ·subst hv
     have hne:vb≠g:=fun e=>by
      have:blkOf (.slice (some ⟨g,0,none⟩) es.length cap)=some g:=rfl
      rw [this,e] at hnd
      simp at hnd
     by_cases hroom:es.length<cap
     ·exact insert_shift w g cap es.length i.toNat vb vc cur cur2 us news hg hcz hct hcm hne hvb hvt hnl hu1 hu2 (by omega) hroom hn
     ·have hc:cap=es.length:=by omega
      subst hc
      exact insert_grow w g es.length i.toNat vb vc cur cur2 us news hg hcz hct hvb hvt hnl hu1 hu2 (by omega) hn
  refine hcall.mono ?_
  rintro ex w' ⟨v',rfl,ho,hgr,hbl⟩
  have hown0:=hown
  have hbv:v.ownBlock=blkOf v:=by
   rcases hown.2 with ⟨rfl,_⟩ | ⟨g,cap,cur,rfl,_⟩<;>rfl
  have hbv':v'.ownBlock=blkOf v':=by
   rcases ho.2 with ⟨rfl,_⟩ | ⟨g,cap,cur,rfl,_⟩<;>rfl
  have hlt:=ho.lt
  have hbk:∀ b∈(blkOf v').toList,(w.heap.size≤b∨b∈(blkOf v).toList)∧b<w'.heap.size:=fun b hb=>by
   have h2:blkOf v'=some b:=by simpa using hb
   refine ⟨?_,?_⟩
   ·rcases hbl with h | h
    ·rw [hbv,hbv',h2] at h
     exact .inr (by rw [← h];simp)
    ·rw [hbv',h2] at h
     injection h with h
     exact .inl (by omega)
   ·refine (hlt b ?_).2
    rw [row_blk ho]
    simpa using hb
  have hbe:Belo (fun b=>b∈(blkOf v).toList++[vb]) w.heap.size w w':=⟨hgr.os,hgr.tape,hgr.output,hgr.size,fun b hb hnb=>hgr.block b hb fun h=>hnb (by
   rw [hbv] at h
   rw [← h]
   simp)⟩
  have hS':∀ b,S b→b<w.heap.size∧b∉(blkOf v).toList∧b≠vb:=fun b hb=>⟨hS b hb,fun hm=>(hF b (by simp [hm])).1 hb,fun e=>hvbF.1 (e ▸ hb)⟩
  have hkeep:∀ u x,RepI w S u x→RepI w' (fun b=>(S b∨w.heap.size≤b∨b∈(blkOf v).toList++[vb])∧b<w'.heap.size∧b∉(blkOf v').toList) u x:=fun u x h=>h.mono (fun b hb=>⟨.inl hb,Nat.lt_of_lt_of_le (hS b hb) hgr.size,fun hm=>by
    rcases (hbk b hm).1 with h2 | h2
    ·have:=hS b hb
     omega
    ·exact (hS' b hb).2.1 h2⟩) fun p y hp hy=>by
   have h6:=hgr.block p.block (hS _ hp) fun h=>(hS' _ hp).2.1 (by
    rw [hbv] at h
    rw [← h]
    simp)
   have h7:w'.cell? p=w.cell? p:=by
    unfold World.cell?
    rw [h6]
   rw [h7]
   exact hy
  have hfl:=flat_take_k (es:=es) (k:=2) i.toNat hk
  have hflat:(es.take i.toNat++[e]++es.drop i.toNat).flatten=es.flatten.take (i.toNat*2)++[e].flatten++es.flatten.drop (i.toNat*2):=by
   rw [List.flatten_append,List.flatten_append,hfl.1,hfl.2]
  have hlen2:(es.take i.toNat++[e]++es.drop i.toNat).length=es.length+1:=by
   rw [List.length_append,List.length_append,List.length_take,List.length_drop,List.length_singleton]
   omega
  refine ⟨v',(blkOf v').toList,rfl,hbe,⟨[v'],(blkOf v').toList,[],rfl,⟨(blkOf v').toList,[],⟨row_one ho,[],⟨_,by decide,fun x hx=>?_,by rw [hlen2];omega,by rw [hlen2];exact ho,?_,fun u hu=>?_,?_⟩,rfl⟩,rfl,by simp⟩,rfl,by simp⟩,?_,fun b hb=>⟨?_,(hbk b hb).2⟩⟩
  ·rcases List.mem_append.1 hx with hx | hx
   ·rcases List.mem_append.1 hx with hx | hx
    ·exact hk x (List.mem_of_mem_take hx)
    ·rw [List.mem_singleton.1 hx]
     exact hke
   ·exact hk x (List.mem_of_mem_drop hx)
  ·rw [hflat]
   simp only [List.length_append,List.length_take,List.length_drop,← hul,← hul2]
  ·rcases List.mem_append.1 hu with hu | hu
   ·rcases List.mem_append.1 hu with hu | hu
    ·exact hu1 u (List.mem_of_mem_take hu)
    ·exact hu2 u hu
   ·exact hu1 u (List.mem_of_mem_drop hu)
  ·rw [hflat]
   have q1:RelW (RepI w S) us es.flatten:=hr
   have q2:RelW (RepI w S) news [e].flatten:=hr2
   have:=RelW.append (by simp only [List.length_append,List.length_take,← hul,← hul2]) (RelW.append (by simp only [List.length_take,← hul]) (q1.take (i.toNat*2)) q2) (q1.drop (i.toNat*2))
   exact fun j u x hu hx=>hkeep u x (this j u x hu hx)
  ·cases blkOf v'<;>simp
  ·rcases (hbk b hb).1 with h | h
   ·exact .inl h
   ·exact .inr (by simp [h])
end Go.Proofs.YtajipjnfegmlcaaGreatDoor.Sym

namespace Go.Proofs.YtajipjnfegmlcaaGreatDoor.Sym
open Go.RowKit
set_option maxRecDepth 100000
set_option linter.unusedVariables false
set_option maxHeartbeats 4000000
def libClone {α:Type} (by_:Nat) (l:List α):Option (List α):=chk (capOk l.length by_) (some l)
def lib_Clone_int (l:List Int):Option (List Int):=libClone 8 l
theorem sp_lib_Clone_int (l r:List Int) (h:lib_Clone_int l=some r):Sp Tryz.prog 23 [.im (nL cI l)] (.row 3 1 (List.map cI r)):=by
 obtain ⟨h1,h⟩:=chk_some h
 injection h with h
 subst h
 exact sp_of_clone (by_:=8) (fun args w=>run_enter rfl rfl rfl args w) (by decide) clone_int (fun e he=>by obtain ⟨y,_,rfl⟩:=List.mem_map.1 he;rfl) (by rw [List.length_map];exact h1)
def lib_Clone_words (l:List (List Int)):Option (List (List Int)):=libClone 24 l
theorem sp_lib_Clone_words (l r:List (List Int)) (h:lib_Clone_words l=some r):Sp Tryz.prog 106 [.im (nL (cL cI) l)] (.row 25 1 (List.map (cL cI) r)):=by
 obtain ⟨h1,h⟩:=chk_some h
 injection h with h
 subst h
 exact sp_of_clone (by_:=24) (fun args w=>run_enter rfl rfl rfl args w) (by decide) clone_words (fun e he=>by obtain ⟨y,_,rfl⟩:=List.mem_map.1 he;rfl) (by rw [List.length_map];exact h1)
def lib_SortFunc_words (l:List (List Int)) (f:(List Int)→(List Int)→Option Int):Option (List (List Int)):=libSort l f
theorem sp_lib_SortFunc_words (l:List (List Int)) (f:(List Int)→(List Int)→Option Int) (g:FuncId) (hd:CmpE Tryz.prog g (fun x=>nL cI x) f) (r:List (List Int)) (h:lib_SortFunc_words l f=some r):Sp Tryz.prog 107 [.lent (.row 25 1 (List.map (cL cI) l)),.im (.fn g [])] (.mk true [] [.lent (.row 25 1 (List.map (cL cI) r))]) :=
 sp_of_sort (fun args w=>run_enter rfl rfl rfl args w) sortC_words (by decide) (fun _=>rfl) (fun W S us x hl h1 hr=>rep_of_one hl hr) hd.1 hd.2 h
def lib_Insert_traces (l:List T_api_Trace) (i:Int) (v:List T_api_Trace):Option (List T_api_Trace):=chk (0≤i∧i≤(↑l.length:Int)∧v.length=1∧l.length≤1000000) (some (l.take i.toNat++v++l.drop i.toNat))
theorem sp_lib_Insert_traces (l:List T_api_Trace) (i:Int) (v:List T_api_Trace) (r:List T_api_Trace) (h:lib_Insert_traces l i v=some r):Sp Tryz.prog 104 [.row 72 2 (List.map c_api_Trace l),.im (nI i),.row 72 2 (List.map c_api_Trace v)] (.row 72 2 (List.map c_api_Trace r)):=by
 obtain ⟨h1,h⟩:=chk_some h
 injection h with h
 subst h
 match v,h1 with
 | [x],h1 =>
  have:=sp_of_insert (es:=l.map c_api_Trace) (e:=c_api_Trace x) (i:=i) (fun e he=>by obtain ⟨y,_,rfl⟩:=List.mem_map.1 he;rfl) rfl h1.1 (by rw [List.length_map];exact h1.2.1) (by rw [List.length_map];exact h1.2.2.2)
  simpa [List.map_append,List.map_take,List.map_drop] using this
end Go.Proofs.YtajipjnfegmlcaaGreatDoor.Sym

namespace Go.Proofs.YtajipjnfegmlcaaGreatDoor.Sym
open Go.RowKit
set_option maxRecDepth 100000
set_option linter.unusedVariables false
set_option maxHeartbeats 4000000
def slices_IndexFunc_Sint_int.s2 (s_:List Int) (f_:Int→Option Bool) (y71:Nat):Option (Nat⊕(Unit⊕Int)) :=
 cond (decide ((↑y71:Int)<(↑(List.length s_):Int))) (idxn s_ y71 fun e78=>(f_ e78).bind fun c79=>cond (c79) (some (.inr (.inr (↑y71:Int)))) (some (.inl (y71+1)))) (some (.inr (.inl ())))
def slices_IndexFunc_Sint_int (s_:List Int) (f_:Int→Option Bool):Option (Int) :=
 (iter (fun (s:Nat)=>slices_IndexFunc_Sint_int.s2 s_ f_ s) fuel 0:Option (Unit⊕Int)).bind (Sum.elim (fun (_:Unit)=>some (-1:Int)) some)
def slices_ContainsFunc_Sint_int (s_:List Int) (f_:Int→Option Bool):Option (Bool) :=
 (slices_IndexFunc_Sint_int s_ f_).bind fun c51=>some (decide (0≤c51))
def word_permitted (inputs_:Int):Option (Bool) :=
 (cond (decide (1≤inputs_)) (some (decide (inputs_≤1024))) (some false):Option (Bool)).bind (fun (y54:Bool)=>some y54)
def word_Check_1 (a_:Int) (p1_:Int):Option (Bool) :=
 (cond (decide (a_<0)) (some true) (some (decide (p1_≤a_))):Option (Bool)).bind (fun (y54:Bool)=>some y54)
def slices_IndexFunc_Sint_int_n1.s2 (s_:List Int) (f_:Int→Option Bool) (y71:Nat):Option (Nat⊕(Unit⊕Int)) :=
 cond (decide ((↑y71:Int)<(↑(List.length s_):Int))) (idxn s_ y71 fun e78=>(f_ e78).bind fun c79=>cond (c79) (some (.inr (.inr (↑y71:Int)))) (some (.inl (y71+1)))) (some (.inr (.inl ())))
def slices_IndexFunc_Sint_int_n1 (s_:List Int) (f_:Int→Option Bool):Option (Int) :=
 (iter (fun (s:Nat)=>slices_IndexFunc_Sint_int_n1.s2 s_ f_ s) fuel 0:Option (Unit⊕Int)).bind (Sum.elim (fun (_:Unit)=>some (-1:Int)) some)
def slices_ContainsFunc_Sint_int_n1 (s_:List Int) (f_:Int→Option Bool):Option (Bool) :=
 (slices_IndexFunc_Sint_int_n1 s_ f_).bind fun c51=>some (decide (0≤c51))
def word_Check (w_:List Int) (inputs_:Int):Option (Int) :=
 (word_permitted inputs_).bind fun c51=>cond ((!c51)) (some 2) (cond (decide (1024<(↑(List.length w_):Int))) (some 3) ((slices_ContainsFunc_Sint_int_n1 w_ (fun u0=>word_Check_1 u0 inputs_)).bind fun c54=>cond (c54) (some 1) (some 0)))
def word_Common.s2 (a_:List Int) (b_:List Int) (y72:Nat):Option (Nat⊕(Unit⊕Int)) :=
 cond (decide ((↑y72:Int)<(min (↑(List.length a_):Int) (↑(List.length b_):Int)))) (idxn a_ y72 fun e79=>idxn b_ y72 fun e80=>cond (decide (e79≠e80)) (some (.inr (.inr (↑y72:Int)))) (some (.inl (y72+1)))) (some (.inr (.inl ())))
def word_Common (a_:List Int) (b_:List Int):Option (Int) :=
 (iter (fun (s:Nat)=>word_Common.s2 a_ b_ s) fuel 0:Option (Unit⊕Int)).bind (Sum.elim (fun (_:Unit)=>some (min (↑(List.length a_):Int) (↑(List.length b_):Int))) some)
def word_HasPrefix (w_:List Int) (p_:List Int):Option (Bool) :=
 (word_Common w_ p_).bind fun c51=>some (decide (c51=(↑(List.length p_):Int)))
def observe_Answer_1 (t_:T_api_Trace) (p1_:List Int):Option (Bool) :=
 (word_HasPrefix t_.In p1_).bind fun c51=>some c51
def slices_IndexFunc_Sapi_Trace_api_Trace_n1.s2 (s_:List T_api_Trace) (f_:T_api_Trace→Option Bool) (y71:Nat):Option (Nat⊕(Unit⊕Int)) :=
 cond (decide ((↑y71:Int)<(↑(List.length s_):Int))) (idxn s_ y71 fun e78=>(f_ e78).bind fun c79=>cond (c79) (some (.inr (.inr (↑y71:Int)))) (some (.inl (y71+1)))) (some (.inr (.inl ())))
def slices_IndexFunc_Sapi_Trace_api_Trace_n1 (s_:List T_api_Trace) (f_:T_api_Trace→Option Bool):Option (Int) :=
 (iter (fun (s:Nat)=>slices_IndexFunc_Sapi_Trace_api_Trace_n1.s2 s_ f_ s) fuel 0:Option (Unit⊕Int)).bind (Sum.elim (fun (_:Unit)=>some (-1:Int)) some)
def observe_Answer (o_:T_api_Obs) (w_:List Int):Option (List Int×Bool) :=
 cond (decide ((↑(List.length w_):Int)=0)) (some ([],true)) ((slices_IndexFunc_Sapi_Trace_api_Trace_n1 o_.Traces (fun u0=>observe_Answer_1 u0 w_)).bind fun c52=>cond (decide (c52<0)) (some ([],false)) (idx o_.Traces c52 fun e54=>chk ((0:Int)≤(min (↑(List.length w_):Int) (↑(List.length e54.Out):Int))∧(min (↑(List.length w_):Int) (↑(List.length e54.Out):Int))≤(↑(List.length e54.Out):Int)) ((lib_Clone_int (List.take (Int.toNat (min (↑(List.length w_):Int) (↑(List.length e54.Out):Int))) e54.Out)).bind fun c56=>some (c56,true))))
def mealy_Valid.s13 (m_:T_api_Mealy) (y509:Nat) (y697:Nat):Option (Nat⊕(Unit⊕(Nat⊕(Unit⊕Int)))) :=
 cond (decide ((↑y697:Int)<m_.Inputs)) (idxn m_.Next y509 fun e716=>idxn e716 y697 fun e717=>idxn m_.Out y509 fun e718=>idxn e718 y697 fun e719=>(cond (decide (e717<0)) (some true) (cond (decide ((↑(List.length m_.Next):Int)≤e717)) (some true) (cond (decide (e719<0)) (some true) (some (decide (1048576<e719))))):Option (Bool)).bind (fun (y725:Bool)=>cond (y725) (some (.inr (.inr (.inr (.inr 2))))) (chk (inR ((↑y697:Int)+1)) (some (.inl (y697+1)))))) (some (.inr (.inl ())))
def mealy_Valid.s14 (m_:T_api_Mealy) (y509:Nat):Option (Nat⊕(Unit⊕Int)) :=
 cond (decide ((↑y509:Int)<(↑(List.length m_.Next):Int))) ((idxn m_.Next y509 fun e628=>cond (decide ((↑(List.length e628):Int)≠m_.Inputs)) (some true) (idxn m_.Out y509 fun e630=>some (decide ((↑(List.length e630):Int)≠m_.Inputs))):Option (Bool)).bind (fun (y627:Bool)=>cond (y627) (some (.inr (.inr 1))) ((iter (fun (s:Nat)=>mealy_Valid.s13 m_ y509 s) fuel 0:Option (Unit⊕(Nat⊕(Unit⊕Int)))).bind (Sum.elim (fun (_:Unit)=>some (.inl (y509+1))) some)))) (some (.inr (.inl ())))
def mealy_Valid (m_:T_api_Mealy):Option (Int) :=
 (cond (decide (m_.Inputs<1)) (some true) (some (decide (64<m_.Inputs))):Option (Bool)).bind (fun (y54:Bool)=>cond (y54) (some 2) (cond (decide ((↑(List.length m_.Next):Int)=0)) (some 19) (cond (decide (128<(↑(List.length m_.Next):Int))) (some 11) ((cond (decide (m_.Start<0)) (some true) (some (decide ((↑(List.length m_.Next):Int)≤m_.Start))):Option (Bool)).bind (fun (y62:Bool)=>cond (y62) (some 2) (cond (decide ((↑(List.length m_.Out):Int)≠(↑(List.length m_.Next):Int))) (some 1) ((iter (fun (s:Nat)=>mealy_Valid.s14 m_ s) fuel 0:Option (Unit⊕Int)).bind (Sum.elim (fun (_:Unit)=>some 0) some))))))))
def device_outside (n_:Int) (most_:Int):Option (Bool) :=
 (cond (decide (n_<0)) (some true) (some (decide (most_<n_))):Option (Bool)).bind (fun (y54:Bool)=>some y54)
def device_costs_1 (n_:Int):Option (Bool) :=
 (device_outside n_ 1048576).bind fun c51=>some c51
def device_costs (l_:T_api_Latency):Option (Int) :=
 ((device_costs_1 l_.Reset).bind fun c57=>cond (c57) (some true) ((slices_ContainsFunc_Sint_int l_.Step (fun u0=>device_costs_1 u0)).bind fun c59=>some c59):Option (Bool)).bind (fun (y56:Bool)=>cond (y56) (some 2) (some 0))
def device_unit_counted (u_:T_device_unit):Option (Bool) :=
 ((device_outside u_.Device.Steps 1125899906842624).bind fun c59=>cond ((!c59)) ((device_outside u_.Device.Resets 1125899906842624).bind fun c61=>cond ((!c61)) ((device_outside u_.Device.Time 1125899906842624).bind fun c63=>some (!c63)) (some false)) (some false):Option (Bool)).bind (fun (y58:Bool)=>some y58)
def device_Valid (d_:T_api_Device):Option (Int) :=
 (mealy_Valid d_.M).bind fun c51=>cond (decide (c51≠0)) (some c51) ((device_outside d_.State ((↑(List.length d_.M.Next):Int)-1)).bind fun c53=>cond (c53) (some 2) (cond (decide ((↑(List.length d_.Latency.Step):Int)≠d_.M.Inputs)) (some 1) ((device_costs d_.Latency).bind fun c56=>cond (decide (c56≠0)) (some c56) (((device_outside d_.Faults.Lost 10000).bind fun c71=>cond (c71) (some true) ((device_outside d_.Faults.Wrong 10000).bind fun c73=>cond (c73) (some true) ((device_outside d_.Faults.Crash 10000).bind fun c75=>cond (c75) (some true) (chk (inR (d_.Faults.Lost+d_.Faults.Wrong)) (chk (inR ((d_.Faults.Lost+d_.Faults.Wrong)+d_.Faults.Crash)) (cond (decide (10000<((d_.Faults.Lost+d_.Faults.Wrong)+d_.Faults.Crash))) (some true) ((device_unit_counted (⟨d_⟩:T_device_unit)).bind fun c80=>some (!c80))))))):Option (Bool)).bind (fun (y70:Bool)=>cond (y70) (some 2) (some 0))))))
def device_rows.s2 (l_:List (List Int)) (y75:List (List Int)) (y76:Nat):Option ((List (List Int)×Nat)⊕List (List Int)) :=
 cond (decide ((↑y76:Int)<(↑(List.length l_):Int))) (idxn l_ y76 fun e83=>(lib_Clone_int e83).bind fun c84=>chk (capOk (List.length y75+1) 24) (some (.inl ((y75++[c84]),(y76+1))))) (some (.inr y75))
def device_rows (l_:List (List Int)):Option (List (List Int)) :=
 chk ((0:Int)≤0∧0≤(↑(List.length l_):Int)∧capOk (Int.toNat (↑(List.length l_):Int)) 24) ((iter (fun (s:List (List Int)×Nat)=>device_rows.s2 l_ s.1 s.2) fuel ([],0):Option (List (List Int))).bind (fun (y70:List (List Int))=>some y70))
def device_copied (d_:T_api_Device):Option (T_api_Device) :=
 (device_rows d_.M.Next).bind fun c51=>(device_rows d_.M.Out).bind fun c52=>(lib_Clone_int d_.Latency.Step).bind fun c53=>some (⟨(⟨d_.M.Inputs,d_.M.Start,c51,c52⟩:T_api_Mealy),d_.State,d_.Ready,(⟨c53,d_.Latency.Reset⟩:T_api_Latency),d_.Faults,d_.Seed,d_.Steps,d_.Resets,d_.Time⟩:T_api_Device)
def device_unit_reset (u_:T_device_unit):Option (Int×T_device_unit) :=
 chk (inR (u_.Device.Resets+1)) (chk (inR (u_.Device.Time+u_.Device.Latency.Reset)) ((device_unit_counted (⟨(⟨u_.Device.M,u_.Device.M.Start,true,u_.Device.Latency,u_.Device.Faults,u_.Device.Seed,u_.Device.Steps,(u_.Device.Resets+1),(u_.Device.Time+u_.Device.Latency.Reset)⟩:T_api_Device)⟩:T_device_unit)).bind fun c53=>cond ((!c53)) (some (11,u_)) (some (0,(⟨(⟨u_.Device.M,u_.Device.M.Start,true,u_.Device.Latency,u_.Device.Faults,u_.Device.Seed,u_.Device.Steps,(u_.Device.Resets+1),(u_.Device.Time+u_.Device.Latency.Reset)⟩:T_api_Device)⟩:T_device_unit)))))
def random_Next (state_:Int):Option (Int×Int) :=
 chk ((0:Int)≤(mdU (state_+11400714819323198485))∧(mdU (state_+11400714819323198485))≤18446744073709551615) (chk ((0:Int)≤(mdU ((xorK .u64 (mdU (state_+11400714819323198485)) ((mdU (state_+11400714819323198485)) / 2^30))*13787848793156543929))∧(mdU ((xorK .u64 (mdU (state_+11400714819323198485)) ((mdU (state_+11400714819323198485)) / 2^30))*13787848793156543929))≤18446744073709551615) (chk ((0:Int)≤(mdU ((xorK .u64 (mdU ((xorK .u64 (mdU (state_+11400714819323198485)) ((mdU (state_+11400714819323198485)) / 2^30))*13787848793156543929)) ((mdU ((xorK .u64 (mdU (state_+11400714819323198485)) ((mdU (state_+11400714819323198485)) / 2^30))*13787848793156543929)) / 2^27))*10723151780598845931))∧(mdU ((xorK .u64 (mdU ((xorK .u64 (mdU (state_+11400714819323198485)) ((mdU (state_+11400714819323198485)) / 2^30))*13787848793156543929)) ((mdU ((xorK .u64 (mdU (state_+11400714819323198485)) ((mdU (state_+11400714819323198485)) / 2^30))*13787848793156543929)) / 2^27))*10723151780598845931))≤18446744073709551615) (some ((xorK .u64 (mdU ((xorK .u64 (mdU ((xorK .u64 (mdU (state_+11400714819323198485)) ((mdU (state_+11400714819323198485)) / 2^30))*13787848793156543929)) ((mdU ((xorK .u64 (mdU (state_+11400714819323198485)) ((mdU (state_+11400714819323198485)) / 2^30))*13787848793156543929)) / 2^27))*10723151780598845931)) ((mdU ((xorK .u64 (mdU ((xorK .u64 (mdU (state_+11400714819323198485)) ((mdU (state_+11400714819323198485)) / 2^30))*13787848793156543929)) ((mdU ((xorK .u64 (mdU (state_+11400714819323198485)) ((mdU (state_+11400714819323198485)) / 2^30))*13787848793156543929)) / 2^27))*10723151780598845931)) / 2^31)),(mdU (state_+11400714819323198485))))))
def random_below.s1 (n_:Int) (state62:Int):Option (Int⊕(Int×Int)) :=
 (random_Next state62).bind fun c73=>(cond (decide (((mdU (0-n_))%n_)=0)) (some true) (some (decide (c73.1<(mdU (0-((mdU (0-n_))%n_)))))):Option (Bool)).bind (fun (y77:Bool)=>cond (y77) (chk (((0:Int)≤(c73.1%n_)∧(c73.1%n_)≤18446744073709551615)∧(0:Int)≤c73.1∧(1:Int)≤n_) (chk (inR (c73.1%n_)) (some (.inr ((c73.1%n_),c73.2))))) (some (.inl c73.2)))
def random_below (state_:Int) (n_:Int):Option (Int×Int) :=
 chk ((0:Int)≤n_∧n_≤18446744073709551615) (chk (((0:Int)≤((mdU (0-n_))%n_)∧((mdU (0-n_))%n_)≤18446744073709551615)∧(0:Int)≤(mdU (0-n_))∧(1:Int)≤n_) (iter (fun (s:Int)=>random_below.s1 n_ s) fuel state_))
def random_Below (state_:Int) (n_:Int):Option (Int×Int×Int) :=
 (cond (decide (n_<1)) (some true) (some (decide (2147483648<n_))):Option (Bool)).bind (fun (y54:Bool)=>cond (y54) (some (0,0,2)) ((random_below state_ n_).bind fun c57=>some (c57.1,c57.2,0)))
def device_unit_step (u_:T_device_unit) (a_:Int):Option (Int×Int×T_device_unit) :=
 cond ((!u_.Device.Ready)) (some (0,10,u_)) (chk (inR (u_.Device.M.Inputs-1)) ((device_outside a_ (u_.Device.M.Inputs-1)).bind fun c53=>cond (c53) (some (0,2,u_)) (chk (inR (u_.Device.Steps+1)) (idx u_.Device.Latency.Step a_ fun e56=>chk (inR (u_.Device.Time+e56)) ((device_unit_counted (⟨(⟨u_.Device.M,u_.Device.State,u_.Device.Ready,u_.Device.Latency,u_.Device.Faults,u_.Device.Seed,(u_.Device.Steps+1),u_.Device.Resets,(u_.Device.Time+e56)⟩:T_api_Device)⟩:T_device_unit)).bind fun c58=>cond ((!c58)) (some (0,11,u_)) ((random_Below u_.Device.Seed 10000).bind fun c60=>cond (decide (c60.2.2≠0)) (some (0,c60.2.2,u_)) (idx u_.Device.M.Next u_.Device.State fun e62=>idx e62 a_ fun e63=>idx u_.Device.M.Out u_.Device.State fun e64=>idx e64 a_ fun e65=>cond (decide (c60.1<u_.Device.Faults.Lost)) (some ((-1:Int),0,(⟨(⟨u_.Device.M,e63,u_.Device.Ready,u_.Device.Latency,u_.Device.Faults,c60.2.1,(u_.Device.Steps+1),u_.Device.Resets,(u_.Device.Time+e56)⟩:T_api_Device)⟩:T_device_unit))) ((chk (inR (u_.Device.Faults.Lost+u_.Device.Faults.Wrong)) (cond (decide (c60.1<(u_.Device.Faults.Lost+u_.Device.Faults.Wrong))) (some (decide (e65=1048576))) (some false)):Option (Bool)).bind (fun (y71:Bool)=>cond (y71) (chk (inR (e65-1)) (some ((e65-1),0,(⟨(⟨u_.Device.M,e63,u_.Device.Ready,u_.Device.Latency,u_.Device.Faults,c60.2.1,(u_.Device.Steps+1),u_.Device.Resets,(u_.Device.Time+e56)⟩:T_api_Device)⟩:T_device_unit)))) (chk (inR (u_.Device.Faults.Lost+u_.Device.Faults.Wrong)) (cond (decide (c60.1<(u_.Device.Faults.Lost+u_.Device.Faults.Wrong))) (chk (inR (e65+1)) (some ((e65+1),0,(⟨(⟨u_.Device.M,e63,u_.Device.Ready,u_.Device.Latency,u_.Device.Faults,c60.2.1,(u_.Device.Steps+1),u_.Device.Resets,(u_.Device.Time+e56)⟩:T_api_Device)⟩:T_device_unit)))) (chk (inR (u_.Device.Faults.Lost+u_.Device.Faults.Wrong)) (chk (inR ((u_.Device.Faults.Lost+u_.Device.Faults.Wrong)+u_.Device.Faults.Crash)) (cond (decide (c60.1<((u_.Device.Faults.Lost+u_.Device.Faults.Wrong)+u_.Device.Faults.Crash))) (some (e65,0,(⟨(⟨u_.Device.M,e63,false,u_.Device.Latency,u_.Device.Faults,c60.2.1,(u_.Device.Steps+1),u_.Device.Resets,(u_.Device.Time+e56)⟩:T_api_Device)⟩:T_device_unit))) (some (e65,0,(⟨(⟨u_.Device.M,e63,u_.Device.Ready,u_.Device.Latency,u_.Device.Faults,c60.2.1,(u_.Device.Steps+1),u_.Device.Resets,(u_.Device.Time+e56)⟩:T_api_Device)⟩:T_device_unit)))))))))))))))))
def device_Query.s2 (w_:List Int) (y171:Int) (y172:Int) (y173:List (List Int)) (y174:List (List Int)) (y175:Int) (y176:Bool) (y177:List Int) (y178:Int) (y179:Int) (y180:Int) (y181:Int) (y182:Int) (y183:Int) (y184:Int) (y185:Int) (y186:List Int) (y187:Nat):Option ((Int×Int×List (List Int)×List (List Int)×Int×Bool×List Int×Int×Int×Int×Int×Int×Int×Int×Int×List Int×Nat)⊕((Int×Int×List (List Int)×List (List Int)×Int×Bool×List Int×Int×Int×Int×Int×Int×Int×Int×Int×List Int)⊕(T_api_Device×List Int×Int))) :=
 cond (decide ((↑y187:Int)<(↑(List.length w_):Int))) (idxn w_ y187 fun e208=>(device_unit_step (⟨(⟨(⟨y171,y172,y173,y174⟩:T_api_Mealy),y175,y176,(⟨y177,y178⟩:T_api_Latency),(⟨y179,y180,y181⟩:T_api_Faults),y182,y183,y184,y185⟩:T_api_Device)⟩:T_device_unit) e208).bind fun c209=>cond (decide (c209.2.1≠0)) (some (.inr (.inr (c209.2.2.Device,[],c209.2.1)))) ((cond (decide (c209.1<0)) (some true) (cond ((!c209.2.2.Device.Ready)) (some (decide (((↑y187:Int)+1)<(↑(List.length w_):Int)))) (some false)):Option (Bool)).bind (fun (y215:Bool)=>cond (y215) (some (.inr (.inr (c209.2.2.Device,[],14)))) (chk (capOk (List.length y186+1) 8) (some (.inl (c209.2.2.Device.M.Inputs,c209.2.2.Device.M.Start,c209.2.2.Device.M.Next,c209.2.2.Device.M.Out,c209.2.2.Device.State,c209.2.2.Device.Ready,c209.2.2.Device.Latency.Step,c209.2.2.Device.Latency.Reset,c209.2.2.Device.Faults.Lost,c209.2.2.Device.Faults.Wrong,c209.2.2.Device.Faults.Crash,c209.2.2.Device.Seed,c209.2.2.Device.Steps,c209.2.2.Device.Resets,c209.2.2.Device.Time,(y186++[c209.1]),(y187+1)))))))) (some (.inr (.inl (y171,y172,y173,y174,y175,y176,y177,y178,y179,y180,y181,y182,y183,y184,y185,y186))))
def device_Query.k3 (y137:Int) (y138:Int) (y139:List (List Int)) (y140:List (List Int)) (y141:Int) (y142:Bool) (y143:List Int) (y144:Int) (y145:Int) (y146:Int) (y147:Int) (y148:Int) (y149:Int) (y150:Int) (y151:Int) (y152:List Int):Option (T_api_Device×List Int×Int) :=
 some ((⟨(⟨y137,y138,y139,y140⟩:T_api_Mealy),y141,y142,(⟨y143,y144⟩:T_api_Latency),(⟨y145,y146,y147⟩:T_api_Faults),y148,y149,y150,y151⟩:T_api_Device),y152,0)
def device_Query (d_:T_api_Device) (w_:List Int):Option (T_api_Device×List Int×Int) :=
 (device_Valid d_).bind fun c51=>cond (decide (c51≠0)) (some (d_,[],c51)) ((word_Check w_ d_.M.Inputs).bind fun c53=>cond (decide (c53≠0)) (some (d_,[],c53)) ((device_copied d_).bind fun c55=>(device_unit_reset (⟨c55⟩:T_device_unit)).bind fun c56=>cond (decide (c56.1≠0)) (some (d_,[],c56.1)) (chk ((0:Int)≤0∧0≤(↑(List.length w_):Int)∧capOk (Int.toNat (↑(List.length w_):Int)) 8) ((iter (fun (s:Int×Int×List (List Int)×List (List Int)×Int×Bool×List Int×Int×Int×Int×Int×Int×Int×Int×Int×List Int×Nat)=>device_Query.s2 w_ s.1 s.2.1 s.2.2.1 s.2.2.2.1 s.2.2.2.2.1 s.2.2.2.2.2.1 s.2.2.2.2.2.2.1 s.2.2.2.2.2.2.2.1 s.2.2.2.2.2.2.2.2.1 s.2.2.2.2.2.2.2.2.2.1 s.2.2.2.2.2.2.2.2.2.2.1 s.2.2.2.2.2.2.2.2.2.2.2.1 s.2.2.2.2.2.2.2.2.2.2.2.2.1 s.2.2.2.2.2.2.2.2.2.2.2.2.2.1 s.2.2.2.2.2.2.2.2.2.2.2.2.2.2.1 s.2.2.2.2.2.2.2.2.2.2.2.2.2.2.2.1 s.2.2.2.2.2.2.2.2.2.2.2.2.2.2.2.2) fuel (c56.2.Device.M.Inputs,c56.2.Device.M.Start,c56.2.Device.M.Next,c56.2.Device.M.Out,c56.2.Device.State,c56.2.Device.Ready,c56.2.Device.Latency.Step,c56.2.Device.Latency.Reset,c56.2.Device.Faults.Lost,c56.2.Device.Faults.Wrong,c56.2.Device.Faults.Crash,c56.2.Device.Seed,c56.2.Device.Steps,c56.2.Device.Resets,c56.2.Device.Time,[],0):Option ((Int×Int×List (List Int)×List (List Int)×Int×Bool×List Int×Int×Int×Int×Int×Int×Int×Int×Int×List Int)⊕(T_api_Device×List Int×Int))).bind (Sum.elim (fun (s:Int×Int×List (List Int)×List (List Int)×Int×Bool×List Int×Int×Int×Int×Int×Int×Int×Int×Int×List Int)=>device_Query.k3 s.1 s.2.1 s.2.2.1 s.2.2.2.1 s.2.2.2.2.1 s.2.2.2.2.2.1 s.2.2.2.2.2.2.1 s.2.2.2.2.2.2.2.1 s.2.2.2.2.2.2.2.2.1 s.2.2.2.2.2.2.2.2.2.1 s.2.2.2.2.2.2.2.2.2.2.1 s.2.2.2.2.2.2.2.2.2.2.2.1 s.2.2.2.2.2.2.2.2.2.2.2.2.1 s.2.2.2.2.2.2.2.2.2.2.2.2.2.1 s.2.2.2.2.2.2.2.2.2.2.2.2.2.2.1 s.2.2.2.2.2.2.2.2.2.2.2.2.2.2.2) some)))))
def oracle_rows.s2 (l_:List (List Int)) (y72:List (List Int)) (y73:Nat):Option ((List (List Int)×Nat)⊕List (List Int)) :=
 cond (decide ((↑y73:Int)<(↑(List.length l_):Int))) (idxn l_ y73 fun e80=>(lib_Clone_int e80).bind fun c81=>chk (capOk (List.length y72+1) 24) (some (.inl ((y72++[c81]),(y73+1))))) (some (.inr y72))
def oracle_rows (l_:List (List Int)):Option (List (List Int)) :=
 (iter (fun (s:List (List Int)×Nat)=>oracle_rows.s2 l_ s.1 s.2) fuel ([],0):Option (List (List Int))).bind (fun (y68:List (List Int))=>some y68)
def oracle_copied.s2 (q_:T_api_Oracle) (y82:List T_api_Trace) (y83:Nat):Option ((List T_api_Trace×Nat)⊕List T_api_Trace) :=
 cond (decide ((↑y83:Int)<(↑(List.length q_.Obs.Traces):Int))) (idxn q_.Obs.Traces y83 fun e91=>(lib_Clone_int e91.In).bind fun c92=>(lib_Clone_int e91.Out).bind fun c93=>chk (capOk (List.length y82+1) 48) (some (.inl ((y82++[(⟨c92,c93⟩:T_api_Trace)]),(y83+1))))) (some (.inr y82))
def oracle_copied (q_:T_api_Oracle):Option (T_api_Oracle) :=
 (oracle_rows q_.Device.M.Next).bind fun c51=>(oracle_rows q_.Device.M.Out).bind fun c52=>(lib_Clone_int q_.Device.Latency.Step).bind fun c53=>(iter (fun (s:List T_api_Trace×Nat)=>oracle_copied.s2 q_ s.1 s.2) fuel ([],0):Option (List T_api_Trace)).bind (fun (y77:List T_api_Trace)=>some (⟨(⟨(⟨q_.Device.M.Inputs,q_.Device.M.Start,c51,c52⟩:T_api_Mealy),q_.Device.State,q_.Device.Ready,(⟨c53,q_.Device.Latency.Reset⟩:T_api_Latency),q_.Device.Faults,q_.Device.Seed,q_.Device.Steps,q_.Device.Resets,q_.Device.Time⟩:T_api_Device),(⟨q_.Obs.Inputs,y77⟩:T_api_Obs),q_.Votes,q_.Tries,q_.Asked,q_.Hits⟩:T_api_Oracle))
def observe_copied (t_:T_api_Trace):Option (T_api_Trace) :=
 (lib_Clone_int t_.In).bind fun c51=>(lib_Clone_int t_.Out).bind fun c52=>some (⟨c51,c52⟩:T_api_Trace)
def observe_owned.s2 (l_:List T_api_Trace) (y75:List T_api_Trace) (y76:Nat):Option ((List T_api_Trace×Nat)⊕List T_api_Trace) :=
 cond (decide ((↑y76:Int)<(↑(List.length l_):Int))) (idxn l_ y76 fun e83=>(observe_copied e83).bind fun c84=>chk (capOk (List.length y75+1) 48) (some (.inl ((y75++[c84]),(y76+1))))) (some (.inr y75))
def observe_owned (l_:List T_api_Trace):Option (List T_api_Trace) :=
 chk ((0:Int)≤0∧0≤((↑(List.length l_):Int)+1)∧capOk (Int.toNat ((↑(List.length l_):Int)+1)) 48) ((iter (fun (s:List T_api_Trace×Nat)=>observe_owned.s2 l_ s.1 s.2) fuel ([],0):Option (List T_api_Trace)).bind (fun (y70:List T_api_Trace)=>some y70))
def slices_BinarySearchFunc_Sapi_Trace_api_Trace_api_Trace.s2 (x_:List T_api_Trace) (target_:T_api_Trace) (cmp_:T_api_Trace→T_api_Trace→Option Int) (i89:Int) (j90:Int):Option ((Int×Int)⊕Int) :=
 cond (decide (i89<j90)) (chk (inR (i89+j90)) (chk ((0:Int)≤(i89+j90)∧(i89+j90)≤18446744073709551615) (chk ((0:Int)≤(i89+j90)∧(i89+j90)≤18446744073709551615) (chk (inR ((i89+j90) / 2^1)) (idx x_ ((i89+j90) / 2^1) fun e106=>(cmp_ e106 target_).bind fun c107=>cond (decide (c107<0)) (chk (inR (((i89+j90) / 2^1)+1)) (some (.inl ((((i89+j90) / 2^1)+1),j90)))) (some (.inl (i89,((i89+j90) / 2^1))))))))) (some (.inr i89))
def slices_BinarySearchFunc_Sapi_Trace_api_Trace_api_Trace (x_:List T_api_Trace) (target_:T_api_Trace) (cmp_:T_api_Trace→T_api_Trace→Option Int):Option (Int×Bool) :=
 (iter (fun (s:Int×Int)=>slices_BinarySearchFunc_Sapi_Trace_api_Trace_api_Trace.s2 x_ target_ cmp_ s.1 s.2) fuel (0,(↑(List.length x_):Int)):Option (Int)).bind (fun (i81:Int)=>(cond (decide (i81<(↑(List.length x_):Int))) (idx x_ i81 fun e119=>(cmp_ e119 target_).bind fun c120=>some (decide (c120=0))) (some false):Option (Bool)).bind (fun (y117:Bool)=>some (i81,y117)))
def observe_differ (a_:T_api_Trace) (b_:T_api_Trace):Option (Int) :=
 (word_Common a_.In b_.In).bind fun c51=>chk ((0:Int)≤(min (min c51 (↑(List.length a_.Out):Int)) (↑(List.length b_.Out):Int))∧(min (min c51 (↑(List.length a_.Out):Int)) (↑(List.length b_.Out):Int))≤(↑(List.length a_.Out):Int)) (chk ((0:Int)≤(min (min c51 (↑(List.length a_.Out):Int)) (↑(List.length b_.Out):Int))∧(min (min c51 (↑(List.length a_.Out):Int)) (↑(List.length b_.Out):Int))≤(↑(List.length b_.Out):Int)) ((word_Common (List.take (Int.toNat (min (min c51 (↑(List.length a_.Out):Int)) (↑(List.length b_.Out):Int))) a_.Out) (List.take (Int.toNat (min (min c51 (↑(List.length a_.Out):Int)) (↑(List.length b_.Out):Int))) b_.Out)).bind fun c54=>cond (decide (c54<(min (min c51 (↑(List.length a_.Out):Int)) (↑(List.length b_.Out):Int)))) (some c54) (some (-1:Int))))
def observe_add_1 (u_:T_api_Trace) (p1_:T_api_Trace):Option (Bool) :=
 (word_HasPrefix p1_.In u_.In).bind fun c51=>some c51
def slices_DeleteFunc_Sapi_Trace_api_Trace_n1.s2 (del_:T_api_Trace→Option Bool) (y94:List T_api_Trace) (i95:Int) (j96:Int):Option ((List T_api_Trace×Int×Int)⊕(List T_api_Trace×Int)) :=
 cond (decide (j96<(↑(List.length y94):Int))) (idx y94 j96 fun e107=>(del_ e107).bind fun c108=>cond ((!c108)) (idx y94 i95 fun e110=>chk (inR (i95+1)) (chk (inR (j96+1)) (some (.inl ((List.set y94 i95.toNat e107),(i95+1),(j96+1)))))) (chk (inR (j96+1)) (some (.inl (y94,i95,(j96+1)))))) (some (.inr (y94,i95)))
def slices_DeleteFunc_Sapi_Trace_api_Trace_n1.k3 (y84:List T_api_Trace) (i85:Int):Option (List T_api_Trace) :=
 chk ((0:Int)≤i85∧i85≤(↑(List.length y84):Int)∧0<List.length y84) (chk ((Int.toNat i85)≤List.length y84) (chk ((0:Int)≤i85∧i85≤(↑(List.length (List.take (Int.toNat i85) y84++List.replicate (List.length y84-(Int.toNat i85)) (⟨[],[]⟩:T_api_Trace))):Int)∧0<List.length (List.take (Int.toNat i85) y84++List.replicate (List.length y84-(Int.toNat i85)) (⟨[],[]⟩:T_api_Trace))) (some (List.take (Int.toNat i85) (List.take (Int.toNat i85) y84++List.replicate (List.length y84-(Int.toNat i85)) (⟨[],[]⟩:T_api_Trace))))))
def slices_DeleteFunc_Sapi_Trace_api_Trace_n1 (s_:List T_api_Trace) (del_:T_api_Trace→Option Bool):Option (List T_api_Trace) :=
 (slices_IndexFunc_Sapi_Trace_api_Trace_n1 s_ del_).bind fun c51=>cond (decide (c51=(-1:Int))) (some s_) (chk (inR (c51+1)) ((iter (fun (s:List T_api_Trace×Int×Int)=>slices_DeleteFunc_Sapi_Trace_api_Trace_n1.s2 del_ s.1 s.2.1 s.2.2) fuel (s_,c51,(c51+1)):Option (List T_api_Trace×Int)).bind (fun (s:List T_api_Trace×Int)=>slices_DeleteFunc_Sapi_Trace_api_Trace_n1.k3 s.1 s.2)))
def cmp_isNaN_int (x_:Int):Option (Bool) :=
 some (decide (x_≠x_))
def cmp_Compare_int (x_:Int) (y_:Int):Option (Int) :=
 (cmp_isNaN_int x_).bind fun c51=>(cmp_isNaN_int y_).bind fun c52=>cond (c51) (cond (c52) (some 0) (some (-1:Int))) (cond (c52) (some 1) (cond (decide (x_<y_)) (some (-1:Int)) (cond (decide (y_<x_)) (some 1) (some 0))))
def slices_Compare_Sint_int.s2 (s1_:List Int) (s2_:List Int) (y80:Nat):Option (Nat⊕(Unit⊕Int)) :=
 cond (decide ((↑y80:Int)<(↑(List.length s1_):Int))) (idxn s1_ y80 fun e89=>cond (decide ((↑(List.length s2_):Int)≤(↑y80:Int))) (some (.inr (.inr 1))) (idxn s2_ y80 fun e91=>(cmp_Compare_int e89 e91).bind fun c92=>cond (decide (c92≠0)) (some (.inr (.inr c92))) (some (.inl (y80+1))))) (some (.inr (.inl ())))
def slices_Compare_Sint_int (s1_:List Int) (s2_:List Int):Option (Int) :=
 (iter (fun (s:Nat)=>slices_Compare_Sint_int.s2 s1_ s2_ s) fuel 0:Option (Unit⊕Int)).bind (Sum.elim (fun (_:Unit)=>cond (decide ((↑(List.length s1_):Int)<(↑(List.length s2_):Int))) (some (-1:Int)) (some 0)) some)
def cmp_Or_int.s2 (vals_:List Int) (y67:Nat):Option (Nat⊕(Unit⊕Int)) :=
 cond (decide ((↑y67:Int)<(↑(List.length vals_):Int))) (idxn vals_ y67 fun e73=>cond (decide (e73≠0)) (some (.inr (.inr e73))) (some (.inl (y67+1)))) (some (.inr (.inl ())))
def cmp_Or_int (vals_:List Int):Option (Int) :=
 (iter (fun (s:Nat)=>cmp_Or_int.s2 vals_ s) fuel 0:Option (Unit⊕Int)).bind (Sum.elim (fun (_:Unit)=>some 0) some)
def word_Compare (a_:List Int) (b_:List Int):Option (Int) :=
 (cmp_Compare_int (↑(List.length a_):Int) (↑(List.length b_):Int)).bind fun c51=>(slices_Compare_Sint_int a_ b_).bind fun c52=>(cmp_Or_int [c51,c52]).bind fun c53=>some c53
def observe_order (a_:T_api_Trace) (b_:T_api_Trace):Option (Int) :=
 (word_Compare a_.In b_.In).bind fun c51=>some c51
def observe_add.s2 (l_:List T_api_Trace) (t_:T_api_Trace) (inside79:Bool) (y80:Nat):Option ((Bool×Nat)⊕(Bool⊕(List T_api_Trace×Int))) :=
 cond (decide ((↑y80:Int)<(↑(List.length l_):Int))) (idxn l_ y80 fun e89=>(observe_differ e89 t_).bind fun c90=>cond (decide (0≤c90)) (some (.inr (.inr ([],13)))) (cond (inside79) (some (.inl (true,(y80+1)))) ((word_HasPrefix e89.In t_.In).bind fun c93=>some (.inl (c93,(y80+1)))))) (some (.inr (.inl inside79)))
def observe_add (l_:List T_api_Trace) (t_:T_api_Trace):Option (List T_api_Trace×Int) :=
 (iter (fun (s:Bool×Nat)=>observe_add.s2 l_ t_ s.1 s.2) fuel (false,0):Option (Bool⊕(List T_api_Trace×Int))).bind (Sum.elim (fun (inside73:Bool)=>(cond (inside73) (some true) (some (decide ((↑(List.length t_.In):Int)=0))):Option (Bool)).bind (fun (y99:Bool)=>cond (y99) (some (l_,0)) ((slices_DeleteFunc_Sapi_Trace_api_Trace_n1 l_ (fun u0=>observe_add_1 u0 t_)).bind fun c103=>cond (decide ((↑(List.length c103):Int)=10000)) (some ([],11)) ((slices_BinarySearchFunc_Sapi_Trace_api_Trace_api_Trace c103 t_ (fun u0 u1=>observe_order u0 u1)).bind fun c105=>(observe_copied t_).bind fun c106=>(lib_Insert_traces c103 c105.1 [c106]).bind fun c107=>some (c107,0))))) some)
def observe_proper_1 (o_:Int):Option (Bool) :=
 (cond (decide (o_<0)) (some true) (some (decide (1048576<o_))):Option (Bool)).bind (fun (y54:Bool)=>some y54)
def observe_proper (t_:T_api_Trace) (inputs_:Int):Option (Int) :=
 (word_Check t_.In inputs_).bind fun c51=>cond (decide (c51≠0)) (some c51) (cond (decide ((↑(List.length t_.Out):Int)≠(↑(List.length t_.In):Int))) (some 1) ((slices_ContainsFunc_Sint_int t_.Out (fun u0=>observe_proper_1 u0)).bind fun c54=>cond (c54) (some 2) (some 0)))
def observe_all.s2 (o_:T_api_Obs) (l_:List T_api_Trace) (y83:List T_api_Trace) (y84:Nat):Option ((List T_api_Trace×Nat)⊕(List T_api_Trace⊕(T_api_Obs×Int))) :=
 cond (decide ((↑y84:Int)<(↑(List.length l_):Int))) (idxn l_ y84 fun e93=>(observe_proper e93 o_.Inputs).bind fun c94=>cond (decide (c94≠0)) (some (.inr (.inr (o_,c94)))) ((observe_add y83 e93).bind fun c96=>cond (decide (c96.2≠0)) (some (.inr (.inr (o_,c96.2)))) (some (.inl (c96.1,(y84+1)))))) (some (.inr (.inl y83)))
def observe_all (o_:T_api_Obs) (l_:List T_api_Trace):Option (T_api_Obs×Int) :=
 (observe_owned o_.Traces).bind fun c51=>(iter (fun (s:List T_api_Trace×Nat)=>observe_all.s2 o_ l_ s.1 s.2) fuel (c51,0):Option (List T_api_Trace⊕(T_api_Obs×Int))).bind (Sum.elim (fun (y76:List T_api_Trace)=>some ((⟨o_.Inputs,y76⟩:T_api_Obs),0)) some)
def observe_Add (o_:T_api_Obs) (t_:T_api_Trace):Option (T_api_Obs×Int) :=
 (observe_all o_ [t_]).bind fun c51=>some (c51.1,c51.2)
def nondet_Vote_L.s2 (l_:List (List Int)) (need_:Int) (y87:List (ByteArray×Int)) (y88:Nat):Option (((List (ByteArray×Int))×Nat)⊕(Unit⊕(List Int×Int×List (List Int)))) :=
 cond (decide ((↑y88:Int)<(↑(List.length l_):Int))) (idxn l_ y88 fun e97=>(nondet_key e97).bind fun c98=>chk (inR (((mget c98 y87).getD 0)+1)) (cond (decide (((mget c98 (mset c98 (((mget c98 y87).getD 0)+1) y87)).getD 0)=need_)) ((lib_Clone_int e97).bind fun c101=>some (.inr (.inr (c101,0,l_)))) (some (.inl ((mset c98 (((mget c98 y87).getD 0)+1) y87),(y88+1)))))) (some (.inr (.inl ())))
def nondet_Vote_L (l_:List (List Int)) (need_:Int):Option (List Int×Int×List (List Int)) :=
 (cond (decide (need_<1)) (some true) (some (decide (9<need_))):Option (Bool)).bind (fun (y54:Bool)=>cond (y54) (some ([],2,l_)) ((iter (fun (s:(List (ByteArray×Int))×Nat)=>nondet_Vote_L.s2 l_ need_ s.1 s.2) fuel (([]:List (ByteArray×Int)),0):Option (Unit⊕(List Int×Int×List (List Int)))).bind (Sum.elim (fun (_:Unit)=>some ([],13,l_)) some)))
def oracle_Ask.k9 (y377:Int) (y381:Int) (y427:Int) (y428:Int) (y429:List (List Int)) (y430:List (List Int)) (y431:Int) (y432:Bool) (y433:List Int) (y434:Int) (y435:Int) (y436:Int) (y437:Int) (y438:Int) (y439:Int) (y440:Int) (y441:Int) (y442:List (List Int)) (answer443:List Int) (code444:Int):Option ((Int×Int×List (List Int)×List (List Int)×Int×Bool×List Int×Int×Int×Int×Int×Int×Int×Int×Int×Int×List (List Int)×List Int×Int×Int)⊕(Int×Int×List (List Int)×List (List Int)×Int×Bool×List Int×Int×Int×Int×Int×Int×Int×Int×Int×Int×List Int×Int)) :=
 some (.inl (y427,y428,y429,y430,y431,y432,y433,y434,y435,y436,y437,y438,y439,y440,y441,(mdI (y377+1)),y442,answer443,code444,(mdI (y381+1))))
def oracle_Ask.s10 (w_:List Int) (c53:T_api_Oracle) (y362:Int) (y363:Int) (y364:List (List Int)) (y365:List (List Int)) (y366:Int) (y367:Bool) (y368:List Int) (y369:Int) (y370:Int) (y371:Int) (y372:Int) (y373:Int) (y374:Int) (y375:Int) (y376:Int) (y377:Int) (y378:List (List Int)) (answer379:List Int) (code380:Int) (y381:Int):Option ((Int×Int×List (List Int)×List (List Int)×Int×Bool×List Int×Int×Int×Int×Int×Int×Int×Int×Int×Int×List (List Int)×List Int×Int×Int)⊕(Int×Int×List (List Int)×List (List Int)×Int×Bool×List Int×Int×Int×Int×Int×Int×Int×Int×Int×Int×List Int×Int)) :=
 cond (decide (y381<c53.Tries)) (((device_Query (⟨(⟨y362,y363,y364,y365⟩:T_api_Mealy),y366,y367,(⟨y368,y369⟩:T_api_Latency),(⟨y370,y371,y372⟩:T_api_Faults),y373,y374,y375,y376⟩:T_api_Device) w_).bind fun c445=>cond (decide (c445.2.2≠0)) (some (.inl (c445.1.M.Inputs,c445.1.M.Start,c445.1.M.Next,c445.1.M.Out,c445.1.State,c445.1.Ready,c445.1.Latency.Step,c445.1.Latency.Reset,c445.1.Faults.Lost,c445.1.Faults.Wrong,c445.1.Faults.Crash,c445.1.Seed,c445.1.Steps,c445.1.Resets,c445.1.Time,y378,answer379,code380))) (chk (capOk (List.length y378+1) 24) ((nondet_Vote_L (y378++[c445.2.1]) c53.Votes).bind fun c448=>cond (decide (c448.2.1=0)) (some (.inr (.inr (c445.1.M.Inputs,c445.1.M.Start,c445.1.M.Next,c445.1.M.Out,c445.1.State,c445.1.Ready,c445.1.Latency.Step,c445.1.Latency.Reset,c445.1.Faults.Lost,c445.1.Faults.Wrong,c445.1.Faults.Crash,c445.1.Seed,c445.1.Steps,c445.1.Resets,c445.1.Time,(mdI (y377+1)),c448.1,c448.2.1)))) (some (.inl (c445.1.M.Inputs,c445.1.M.Start,c445.1.M.Next,c445.1.M.Out,c445.1.State,c445.1.Ready,c445.1.Latency.Step,c445.1.Latency.Reset,c445.1.Faults.Lost,c445.1.Faults.Wrong,c445.1.Faults.Crash,c445.1.Seed,c445.1.Steps,c445.1.Resets,c445.1.Time,c448.2.2,c448.1,c448.2.1))))):Option ((Int×Int×List (List Int)×List (List Int)×Int×Bool×List Int×Int×Int×Int×Int×Int×Int×Int×Int×List (List Int)×List Int×Int)⊕((Int×Int×List (List Int)×List (List Int)×Int×Bool×List Int×Int×Int×Int×Int×Int×Int×Int×Int×Int×List (List Int)×List Int×Int×Int)⊕(Int×Int×List (List Int)×List (List Int)×Int×Bool×List Int×Int×Int×Int×Int×Int×Int×Int×Int×Int×List Int×Int)))).bind (Sum.elim (fun (s:Int×Int×List (List Int)×List (List Int)×Int×Bool×List Int×Int×Int×Int×Int×Int×Int×Int×Int×List (List Int)×List Int×Int)=>oracle_Ask.k9 y377 y381 s.1 s.2.1 s.2.2.1 s.2.2.2.1 s.2.2.2.2.1 s.2.2.2.2.2.1 s.2.2.2.2.2.2.1 s.2.2.2.2.2.2.2.1 s.2.2.2.2.2.2.2.2.1 s.2.2.2.2.2.2.2.2.2.1 s.2.2.2.2.2.2.2.2.2.2.1 s.2.2.2.2.2.2.2.2.2.2.2.1 s.2.2.2.2.2.2.2.2.2.2.2.2.1 s.2.2.2.2.2.2.2.2.2.2.2.2.2.1 s.2.2.2.2.2.2.2.2.2.2.2.2.2.2.1 s.2.2.2.2.2.2.2.2.2.2.2.2.2.2.2.1 s.2.2.2.2.2.2.2.2.2.2.2.2.2.2.2.2.1 s.2.2.2.2.2.2.2.2.2.2.2.2.2.2.2.2.2) some)) (some (.inr (y362,y363,y364,y365,y366,y367,y368,y369,y370,y371,y372,y373,y374,y375,y376,y377,answer379,code380)))
def oracle_Ask.k11 (w_:List Int) (c53:T_api_Oracle) (y252:Int) (y253:Int) (y254:List (List Int)) (y255:List (List Int)) (y256:Int) (y257:Bool) (y258:List Int) (y259:Int) (y260:Int) (y261:Int) (y262:Int) (y263:Int) (y264:Int) (y265:Int) (y266:Int) (y267:Int) (answer268:List Int) (code269:Int):Option (T_api_Oracle×List Int×Int) :=
 cond (decide (code269≠0)) (some ((⟨(⟨(⟨y252,y253,y254,y255⟩:T_api_Mealy),y256,y257,(⟨y258,y259⟩:T_api_Latency),(⟨y260,y261,y262⟩:T_api_Faults),y263,y264,y265,y266⟩:T_api_Device),c53.Obs,c53.Votes,c53.Tries,y267,c53.Hits⟩:T_api_Oracle),[],code269)) ((lib_Clone_int w_).bind fun c471=>(lib_Clone_int answer268).bind fun c472=>(observe_Add c53.Obs (⟨c471,c472⟩:T_api_Trace)).bind fun c473=>cond (decide (c473.2≠0)) (some ((⟨(⟨(⟨y252,y253,y254,y255⟩:T_api_Mealy),y256,y257,(⟨y258,y259⟩:T_api_Latency),(⟨y260,y261,y262⟩:T_api_Faults),y263,y264,y265,y266⟩:T_api_Device),c53.Obs,c53.Votes,c53.Tries,y267,c53.Hits⟩:T_api_Oracle),[],c473.2)) ((lib_Clone_int answer268).bind fun c475=>some ((⟨(⟨(⟨y252,y253,y254,y255⟩:T_api_Mealy),y256,y257,(⟨y258,y259⟩:T_api_Latency),(⟨y260,y261,y262⟩:T_api_Faults),y263,y264,y265,y266⟩:T_api_Device),c473.1,c53.Votes,c53.Tries,y267,c53.Hits⟩:T_api_Oracle),c475,0)))
def oracle_Ask (q_:T_api_Oracle) (w_:List Int):Option (T_api_Oracle×List Int×Int) :=
 (word_Check w_ q_.Device.M.Inputs).bind fun c51=>cond (decide (c51≠0)) (some (q_,[],c51)) ((oracle_copied q_).bind fun c53=>(observe_Answer c53.Obs w_).bind fun c54=>cond (c54.2) ((lib_Clone_int c54.1).bind fun c56=>some ((⟨c53.Device,c53.Obs,c53.Votes,c53.Tries,c53.Asked,(mdI (c53.Hits+1))⟩:T_api_Oracle),c56,0)) ((iter (fun (s:Int×Int×List (List Int)×List (List Int)×Int×Bool×List Int×Int×Int×Int×Int×Int×Int×Int×Int×Int×List (List Int)×List Int×Int×Int)=>oracle_Ask.s10 w_ c53 s.1 s.2.1 s.2.2.1 s.2.2.2.1 s.2.2.2.2.1 s.2.2.2.2.2.1 s.2.2.2.2.2.2.1 s.2.2.2.2.2.2.2.1 s.2.2.2.2.2.2.2.2.1 s.2.2.2.2.2.2.2.2.2.1 s.2.2.2.2.2.2.2.2.2.2.1 s.2.2.2.2.2.2.2.2.2.2.2.1 s.2.2.2.2.2.2.2.2.2.2.2.2.1 s.2.2.2.2.2.2.2.2.2.2.2.2.2.1 s.2.2.2.2.2.2.2.2.2.2.2.2.2.2.1 s.2.2.2.2.2.2.2.2.2.2.2.2.2.2.2.1 s.2.2.2.2.2.2.2.2.2.2.2.2.2.2.2.2.1 s.2.2.2.2.2.2.2.2.2.2.2.2.2.2.2.2.2.1 s.2.2.2.2.2.2.2.2.2.2.2.2.2.2.2.2.2.2.1 s.2.2.2.2.2.2.2.2.2.2.2.2.2.2.2.2.2.2.2) fuel (c53.Device.M.Inputs,c53.Device.M.Start,c53.Device.M.Next,c53.Device.M.Out,c53.Device.State,c53.Device.Ready,c53.Device.Latency.Step,c53.Device.Latency.Reset,c53.Device.Faults.Lost,c53.Device.Faults.Wrong,c53.Device.Faults.Crash,c53.Device.Seed,c53.Device.Steps,c53.Device.Resets,c53.Device.Time,c53.Asked,[],[],14,0):Option (Int×Int×List (List Int)×List (List Int)×Int×Bool×List Int×Int×Int×Int×Int×Int×Int×Int×Int×Int×List Int×Int)).bind (fun (s:Int×Int×List (List Int)×List (List Int)×Int×Bool×List Int×Int×Int×Int×Int×Int×Int×Int×Int×Int×List Int×Int)=>oracle_Ask.k11 w_ c53 s.1 s.2.1 s.2.2.1 s.2.2.2.1 s.2.2.2.2.1 s.2.2.2.2.2.1 s.2.2.2.2.2.2.1 s.2.2.2.2.2.2.2.1 s.2.2.2.2.2.2.2.2.1 s.2.2.2.2.2.2.2.2.2.1 s.2.2.2.2.2.2.2.2.2.2.1 s.2.2.2.2.2.2.2.2.2.2.2.1 s.2.2.2.2.2.2.2.2.2.2.2.2.1 s.2.2.2.2.2.2.2.2.2.2.2.2.2.1 s.2.2.2.2.2.2.2.2.2.2.2.2.2.2.1 s.2.2.2.2.2.2.2.2.2.2.2.2.2.2.2.1 s.2.2.2.2.2.2.2.2.2.2.2.2.2.2.2.2.1 s.2.2.2.2.2.2.2.2.2.2.2.2.2.2.2.2.2)))
def R01_Size (inputs_:Int):Option (Bool) :=
 (cond (decide (1≤inputs_)) (some (decide (inputs_≤1024))) (some false):Option (Bool)).bind (fun (y54:Bool)=>some y54)
def R01_Check.s2 (w_:List Int) (inputs_:Int) (i106:Nat):Option (Nat⊕(Unit⊕Int)) :=
 cond (decide ((↑i106:Int)<(↑(List.length w_):Int))) ((idxn w_ i106 fun e127=>cond (decide (e127<0)) (some true) (idxn w_ i106 fun e129=>some (decide (inputs_≤e129))):Option (Bool)).bind (fun (y126:Bool)=>cond (y126) (some (.inr (.inr 1))) (some (.inl (i106+1))))) (some (.inr (.inl ())))
def R01_Check (w_:List Int) (inputs_:Int):Option (Int) :=
 (R01_Size inputs_).bind fun c51=>cond ((!c51)) (some 2) (cond (decide (1024<(↑(List.length w_):Int))) (some 3) ((iter (fun (s:Nat)=>R01_Check.s2 w_ inputs_ s) fuel 0:Option (Unit⊕Int)).bind (Sum.elim (fun (_:Unit)=>some 0) some)))
def R01_Common.s2 (a_:List Int) (b_:List Int) (i115:Nat):Option (Nat⊕Nat) :=
 (cond (decide ((↑i115:Int)<(↑(List.length a_):Int))) (cond (decide ((↑i115:Int)<(↑(List.length b_):Int))) (idxn a_ i115 fun e141=>idxn b_ i115 fun e142=>some (decide (e141=e142))) (some false)) (some false):Option (Bool)).bind (fun (y138:Bool)=>cond (y138) (chk (inR ((↑i115:Int)+1)) (some (.inl (i115+1)))) (some (.inr i115)))
def R01_Common (a_:List Int) (b_:List Int):Option (Int) :=
 (iter (fun (s:Nat)=>R01_Common.s2 a_ b_ s) fuel 0:Option (Nat)).bind (fun (i100:Nat)=>some (↑i100:Int))
def R01_HasPrefix (w_:List Int) (p_:List Int):Option (Bool) :=
 (R01_Common w_ p_).bind fun c51=>some (decide (c51=(↑(List.length p_):Int)))
def R01_Join.s2 (parts_:List (List Int)) (y70:List Int) (i71:Nat):Option ((List Int×Nat)⊕List Int) :=
 cond (decide ((↑i71:Int)<(↑(List.length parts_):Int))) (idxn parts_ i71 fun e77=>chk (capOk (List.length y70+List.length e77) 8) (some (.inl ((y70++e77),(i71+1))))) (some (.inr y70))
def R01_Join (parts_:List (List Int)):Option (List Int) :=
 (iter (fun (s:List Int×Nat)=>R01_Join.s2 parts_ s.1 s.2) fuel ([],0):Option (List Int)).bind (fun (y66:List Int)=>some y66)
def R16_Answer.s2 (o_:T_api_Obs) (w_:List Int) (i84:Nat):Option (Nat⊕(Unit⊕(List Int×Bool))) :=
 cond (decide ((↑i84:Int)<(↑(List.length o_.Traces):Int))) (idxn o_.Traces i84 fun e94=>(R01_HasPrefix e94.In w_).bind fun c95=>cond (c95) (idxn o_.Traces i84 fun e97=>chk ((0:Int)≤(↑(List.length w_):Int)∧(↑(List.length w_):Int)≤(↑(List.length e97.Out):Int)) ((R01_Join [(List.take (List.length w_) e97.Out)]).bind fun c99=>some (.inr (.inr (c99,true))))) (some (.inl (i84+1)))) (some (.inr (.inl ())))
def R16_Answer (o_:T_api_Obs) (w_:List Int):Option (List Int×Bool) :=
 cond (decide ((↑(List.length w_):Int)=0)) (some ([],true)) ((iter (fun (s:Nat)=>R16_Answer.s2 o_ w_ s) fuel 0:Option (Unit⊕(List Int×Bool))).bind (Sum.elim (fun (_:Unit)=>some ([],false)) some))
def R06_row.s2 (m_:T_api_Mealy) (s_:Int) (a174:Nat):Option (Nat⊕(Unit⊕Int)) :=
 cond (decide ((↑a174:Int)<m_.Inputs)) ((idx m_.Next s_ fun e219=>idxn e219 a174 fun e220=>cond (decide (e220<0)) (some true) (idx m_.Next s_ fun e222=>idxn e222 a174 fun e223=>cond (decide ((↑(List.length m_.Next):Int)≤e223)) (some true) (idx m_.Out s_ fun e225=>idxn e225 a174 fun e226=>cond (decide (e226<0)) (some true) (idx m_.Out s_ fun e228=>idxn e228 a174 fun e229=>some (decide (1048576<e229))))):Option (Bool)).bind (fun (y218:Bool)=>cond (y218) (some (.inr (.inr 2))) (chk (inR ((↑a174:Int)+1)) (some (.inl (a174+1)))))) (some (.inr (.inl ())))
def R06_row (m_:T_api_Mealy) (s_:Int):Option (Int) :=
 (idx m_.Next s_ fun e57=>cond (decide ((↑(List.length e57):Int)≠m_.Inputs)) (some true) (idx m_.Out s_ fun e59=>some (decide ((↑(List.length e59):Int)≠m_.Inputs))):Option (Bool)).bind (fun (y56:Bool)=>cond (y56) (some 1) ((iter (fun (s:Nat)=>R06_row.s2 m_ s_ s) fuel 0:Option (Unit⊕Int)).bind (Sum.elim (fun (_:Unit)=>some 0) some)))
def R06_Valid.s2 (m_:T_api_Mealy) (s81:Nat):Option (Nat⊕(Unit⊕Int)) :=
 cond (decide ((↑s81:Int)<(↑(List.length m_.Next):Int))) ((R06_row m_ (↑s81:Int)).bind fun c87=>cond (decide (c87≠0)) (some (.inr (.inr c87))) (some (.inl (s81+1)))) (some (.inr (.inl ())))
def R06_Valid (m_:T_api_Mealy):Option (Int) :=
 (cond (decide (m_.Inputs<1)) (some true) (some (decide (64<m_.Inputs))):Option (Bool)).bind (fun (y54:Bool)=>cond (y54) (some 2) (cond (decide ((↑(List.length m_.Next):Int)=0)) (some 19) (cond (decide (128<(↑(List.length m_.Next):Int))) (some 11) ((cond (decide (m_.Start<0)) (some true) (some (decide ((↑(List.length m_.Next):Int)≤m_.Start))):Option (Bool)).bind (fun (y62:Bool)=>cond (y62) (some 2) (cond (decide ((↑(List.length m_.Out):Int)≠(↑(List.length m_.Next):Int))) (some 1) ((iter (fun (s:Nat)=>R06_Valid.s2 m_ s) fuel 0:Option (Unit⊕Int)).bind (Sum.elim (fun (_:Unit)=>some 0) some))))))))
def R19_costs.s2 (l_:T_api_Latency) (i98:Nat):Option (Nat⊕(Unit⊕Bool)) :=
 cond (decide ((↑i98:Int)<(↑(List.length l_.Step):Int))) ((idxn l_.Step i98 fun e118=>cond (decide (e118<0)) (some true) (idxn l_.Step i98 fun e120=>some (decide (1048576<e120))):Option (Bool)).bind (fun (y117:Bool)=>cond (y117) (some (.inr (.inr false))) (some (.inl (i98+1))))) (some (.inr (.inl ())))
def R19_costs (l_:T_api_Latency):Option (Bool) :=
 (iter (fun (s:Nat)=>R19_costs.s2 l_ s) fuel 0:Option (Unit⊕Bool)).bind (Sum.elim (fun (_:Unit)=>(cond (decide (0≤l_.Reset)) (some (decide (l_.Reset≤1048576))) (some false):Option (Bool)).bind (fun (y125:Bool)=>some y125)) some)
def R19_Fits (l_:T_api_Latency) (inputs_:Int):Option (Int) :=
 cond (decide ((↑(List.length l_.Step):Int)≠inputs_)) (some 1) ((R19_costs l_).bind fun c52=>cond ((!c52)) (some 2) (some 0))
def R19_rate (n_:Int):Option (Bool) :=
 (cond (decide (0≤n_)) (some (decide (n_≤10000))) (some false):Option (Bool)).bind (fun (y54:Bool)=>some y54)
def R19_counter (n_:Int):Option (Bool) :=
 (cond (decide (0≤n_)) (some (decide (n_≤1125899906842624))) (some false):Option (Bool)).bind (fun (y54:Bool)=>some y54)
def R19_Valid (d_:T_api_Device):Option (Int) :=
 (R06_Valid d_.M).bind fun c51=>cond (decide (c51≠0)) ((R06_Valid d_.M).bind fun c53=>some c53) ((cond (decide (d_.State<0)) (some true) (some (decide ((↑(List.length d_.M.Next):Int)≤d_.State))):Option (Bool)).bind (fun (y57:Bool)=>cond (y57) (some 2) ((R19_Fits d_.Latency d_.M.Inputs).bind fun c60=>cond (decide (c60≠0)) ((R19_Fits d_.Latency d_.M.Inputs).bind fun c62=>some c62) (((R19_rate d_.Faults.Lost).bind fun c74=>cond ((!c74)) (some true) ((R19_rate d_.Faults.Wrong).bind fun c76=>cond ((!c76)) (some true) ((R19_rate d_.Faults.Crash).bind fun c78=>cond ((!c78)) (some true) (chk (inR (d_.Faults.Lost+d_.Faults.Wrong)) (chk (inR ((d_.Faults.Lost+d_.Faults.Wrong)+d_.Faults.Crash)) (some (decide (10000<((d_.Faults.Lost+d_.Faults.Wrong)+d_.Faults.Crash)))))))):Option (Bool)).bind (fun (y73:Bool)=>cond (y73) (some 2) (((R19_counter d_.Steps).bind fun c91=>cond ((!c91)) (some true) ((R19_counter d_.Resets).bind fun c93=>cond ((!c93)) (some true) ((R19_counter d_.Time).bind fun c95=>some (!c95))):Option (Bool)).bind (fun (y90:Bool)=>cond (y90) (some 2) (some 0))))))))
def R19_Reset (d_:T_api_Device):Option (T_api_Device×Int) :=
 (R19_Valid d_).bind fun c51=>cond (decide (c51≠0)) ((R19_Valid d_).bind fun c53=>some (d_,c53)) ((chk (inR (d_.Resets+1)) ((R19_counter (d_.Resets+1)).bind fun c63=>cond ((!c63)) (some true) (chk (inR (d_.Time+d_.Latency.Reset)) ((R19_counter (d_.Time+d_.Latency.Reset)).bind fun c66=>some (!c66)))):Option (Bool)).bind (fun (y61:Bool)=>cond (y61) (some (d_,11)) (chk (inR (d_.Resets+1)) (chk (inR (d_.Time+d_.Latency.Reset)) (some ((⟨d_.M,d_.M.Start,true,d_.Latency,d_.Faults,d_.Seed,d_.Steps,(d_.Resets+1),(d_.Time+d_.Latency.Reset)⟩:T_api_Device),0))))))
def R04_Next (state_:Int):Option (Int×Int) :=
 chk ((0:Int)≤(mdU (state_+11400714819323198485))∧(mdU (state_+11400714819323198485))≤18446744073709551615) (chk ((0:Int)≤(mdU ((xorK .u64 (mdU (state_+11400714819323198485)) ((mdU (state_+11400714819323198485)) / 2^30))*13787848793156543929))∧(mdU ((xorK .u64 (mdU (state_+11400714819323198485)) ((mdU (state_+11400714819323198485)) / 2^30))*13787848793156543929))≤18446744073709551615) (chk ((0:Int)≤(mdU ((xorK .u64 (mdU ((xorK .u64 (mdU (state_+11400714819323198485)) ((mdU (state_+11400714819323198485)) / 2^30))*13787848793156543929)) ((mdU ((xorK .u64 (mdU (state_+11400714819323198485)) ((mdU (state_+11400714819323198485)) / 2^30))*13787848793156543929)) / 2^27))*10723151780598845931))∧(mdU ((xorK .u64 (mdU ((xorK .u64 (mdU (state_+11400714819323198485)) ((mdU (state_+11400714819323198485)) / 2^30))*13787848793156543929)) ((mdU ((xorK .u64 (mdU (state_+11400714819323198485)) ((mdU (state_+11400714819323198485)) / 2^30))*13787848793156543929)) / 2^27))*10723151780598845931))≤18446744073709551615) (some ((xorK .u64 (mdU ((xorK .u64 (mdU ((xorK .u64 (mdU (state_+11400714819323198485)) ((mdU (state_+11400714819323198485)) / 2^30))*13787848793156543929)) ((mdU ((xorK .u64 (mdU (state_+11400714819323198485)) ((mdU (state_+11400714819323198485)) / 2^30))*13787848793156543929)) / 2^27))*10723151780598845931)) ((mdU ((xorK .u64 (mdU ((xorK .u64 (mdU (state_+11400714819323198485)) ((mdU (state_+11400714819323198485)) / 2^30))*13787848793156543929)) ((mdU ((xorK .u64 (mdU (state_+11400714819323198485)) ((mdU (state_+11400714819323198485)) / 2^30))*13787848793156543929)) / 2^27))*10723151780598845931)) / 2^31)),(mdU (state_+11400714819323198485))))))
def R04_draw.s2 (n_:Int) (x89:Int) (next90:Int):Option ((Int×Int)⊕(Int×Int)) :=
 (cond (decide (0<((mdU ((mdU (18446744073709551615-n_))+1))%n_))) (some (decide ((mdU (18446744073709551615-((mdU ((mdU (18446744073709551615-n_))+1))%n_)))<x89))) (some false):Option (Bool)).bind (fun (y102:Bool)=>cond (y102) ((R04_Next next90).bind fun c105=>some (.inl (c105.1,c105.2))) (some (.inr (x89,next90))))
def R04_draw.k3 (n_:Int) (x80:Int) (next81:Int):Option (Int×Int) :=
 chk ((0:Int)≤n_∧n_≤18446744073709551615) (chk (((0:Int)≤(x80%n_)∧(x80%n_)≤18446744073709551615)∧(0:Int)≤x80∧(1:Int)≤n_) (chk (inR (x80%n_)) (some ((x80%n_),next81))))
def R04_draw (state_:Int) (n_:Int):Option (Int×Int) :=
 chk ((0:Int)≤n_∧n_≤18446744073709551615) (chk ((0:Int)≤n_∧n_≤18446744073709551615) (chk (((0:Int)≤((mdU ((mdU (18446744073709551615-n_))+1))%n_)∧((mdU ((mdU (18446744073709551615-n_))+1))%n_)≤18446744073709551615)∧(0:Int)≤(mdU ((mdU (18446744073709551615-n_))+1))∧(1:Int)≤n_) ((R04_Next state_).bind fun c54=>(iter (fun (s:Int×Int)=>R04_draw.s2 n_ s.1 s.2) fuel (c54.1,c54.2):Option (Int×Int)).bind (fun (s:Int×Int)=>R04_draw.k3 n_ s.1 s.2))))
def R04_Below (state_:Int) (n_:Int):Option (Int×Int×Int) :=
 (cond (decide (n_<1)) (some true) (some (decide (2147483648<n_))):Option (Bool)).bind (fun (y54:Bool)=>cond (y54) (some (0,0,2)) ((R04_draw state_ n_).bind fun c57=>some (c57.1,c57.2,0)))
def R19_Step (d_:T_api_Device) (a_:Int):Option (T_api_Device×Int×Int) :=
 (R19_Valid d_).bind fun c51=>cond (decide (c51≠0)) ((R19_Valid d_).bind fun c53=>some (d_,0,c53)) (cond ((!d_.Ready)) (some (d_,0,10)) ((cond (decide (a_<0)) (some true) (some (decide (d_.M.Inputs≤a_))):Option (Bool)).bind (fun (y58:Bool)=>cond (y58) (some (d_,0,2)) ((chk (inR (d_.Steps+1)) ((R19_counter (d_.Steps+1)).bind fun c74=>cond ((!c74)) (some true) (idx d_.Latency.Step a_ fun e76=>chk (inR (d_.Time+e76)) ((R19_counter (d_.Time+e76)).bind fun c78=>some (!c78)))):Option (Bool)).bind (fun (y72:Bool)=>cond (y72) (some (d_,0,11)) (idx d_.M.Out d_.State fun e83=>idx e83 a_ fun e84=>(R04_Below d_.Seed 10000).bind fun c85=>idx d_.M.Next d_.State fun e86=>idx e86 a_ fun e87=>chk (inR (d_.Steps+1)) (idx d_.Latency.Step a_ fun e89=>chk (inR (d_.Time+e89)) (cond (decide (c85.1<d_.Faults.Lost)) (some ((⟨d_.M,e87,d_.Ready,d_.Latency,d_.Faults,c85.2.1,(d_.Steps+1),d_.Resets,(d_.Time+e89)⟩:T_api_Device),(-1:Int),0)) ((chk (inR (d_.Faults.Lost+d_.Faults.Wrong)) (cond (decide (c85.1<(d_.Faults.Lost+d_.Faults.Wrong))) (some (decide (e84=1048576))) (some false)):Option (Bool)).bind (fun (y96:Bool)=>cond (y96) (chk (inR (e84-1)) (some ((⟨d_.M,e87,d_.Ready,d_.Latency,d_.Faults,c85.2.1,(d_.Steps+1),d_.Resets,(d_.Time+e89)⟩:T_api_Device),(e84-1),0))) (chk (inR (d_.Faults.Lost+d_.Faults.Wrong)) (cond (decide (c85.1<(d_.Faults.Lost+d_.Faults.Wrong))) (chk (inR (e84+1)) (some ((⟨d_.M,e87,d_.Ready,d_.Latency,d_.Faults,c85.2.1,(d_.Steps+1),d_.Resets,(d_.Time+e89)⟩:T_api_Device),(e84+1),0))) (chk (inR (d_.Faults.Lost+d_.Faults.Wrong)) (chk (inR ((d_.Faults.Lost+d_.Faults.Wrong)+d_.Faults.Crash)) (cond (decide (c85.1<((d_.Faults.Lost+d_.Faults.Wrong)+d_.Faults.Crash))) (some ((⟨d_.M,e87,false,d_.Latency,d_.Faults,c85.2.1,(d_.Steps+1),d_.Resets,(d_.Time+e89)⟩:T_api_Device),e84,0)) (some ((⟨d_.M,e87,d_.Ready,d_.Latency,d_.Faults,c85.2.1,(d_.Steps+1),d_.Resets,(d_.Time+e89)⟩:T_api_Device),e84,0)))))))))))))))))
def R19_Query.s2 (w_:List Int) (y166:Int) (y167:Int) (y168:List (List Int)) (y169:List (List Int)) (y170:Int) (y171:Bool) (y172:List Int) (y173:Int) (y174:Int) (y175:Int) (y176:Int) (y177:Int) (y178:Int) (y179:Int) (y180:Int) (y181:List Int) (i182:Nat):Option ((Int×Int×List (List Int)×List (List Int)×Int×Bool×List Int×Int×Int×Int×Int×Int×Int×Int×Int×List Int×Nat)⊕((Int×Int×List (List Int)×List (List Int)×Int×Bool×List Int×Int×Int×Int×Int×Int×Int×Int×Int×List Int)⊕(T_api_Device×List Int×Int))) :=
 cond (decide ((↑i182:Int)<(↑(List.length w_):Int))) (idxn w_ i182 fun e203=>(R19_Step (⟨(⟨y166,y167,y168,y169⟩:T_api_Mealy),y170,y171,(⟨y172,y173⟩:T_api_Latency),(⟨y174,y175,y176⟩:T_api_Faults),y177,y178,y179,y180⟩:T_api_Device) e203).bind fun c204=>cond (decide (c204.2.2≠0)) (some (.inr (.inr (c204.1,[],c204.2.2)))) ((cond (decide (c204.2.1=(-1:Int))) (some true) (cond ((!c204.1.Ready)) (some (decide ((↑i182:Int)<((↑(List.length w_):Int)-1)))) (some false)):Option (Bool)).bind (fun (y210:Bool)=>cond (y210) (some (.inr (.inr (c204.1,[],14)))) (chk (capOk (List.length y181+1) 8) (some (.inl (c204.1.M.Inputs,c204.1.M.Start,c204.1.M.Next,c204.1.M.Out,c204.1.State,c204.1.Ready,c204.1.Latency.Step,c204.1.Latency.Reset,c204.1.Faults.Lost,c204.1.Faults.Wrong,c204.1.Faults.Crash,c204.1.Seed,c204.1.Steps,c204.1.Resets,c204.1.Time,(y181++[c204.2.1]),(i182+1)))))))) (some (.inr (.inl (y166,y167,y168,y169,y170,y171,y172,y173,y174,y175,y176,y177,y178,y179,y180,y181))))
def R19_Query.k3 (y134:Int) (y135:Int) (y136:List (List Int)) (y137:List (List Int)) (y138:Int) (y139:Bool) (y140:List Int) (y141:Int) (y142:Int) (y143:Int) (y144:Int) (y145:Int) (y146:Int) (y147:Int) (y148:Int) (y149:List Int):Option (T_api_Device×List Int×Int) :=
 some ((⟨(⟨y134,y135,y136,y137⟩:T_api_Mealy),y138,y139,(⟨y140,y141⟩:T_api_Latency),(⟨y142,y143,y144⟩:T_api_Faults),y145,y146,y147,y148⟩:T_api_Device),y149,0)
def R19_Query (d_:T_api_Device) (w_:List Int):Option (T_api_Device×List Int×Int) :=
 (R19_Valid d_).bind fun c51=>cond (decide (c51≠0)) ((R19_Valid d_).bind fun c53=>some (d_,[],c53)) ((R01_Check w_ d_.M.Inputs).bind fun c54=>cond (decide (c54≠0)) (some (d_,[],c54)) ((R19_Reset d_).bind fun c56=>cond (decide (c56.2≠0)) (some (c56.1,[],c56.2)) ((iter (fun (s:Int×Int×List (List Int)×List (List Int)×Int×Bool×List Int×Int×Int×Int×Int×Int×Int×Int×Int×List Int×Nat)=>R19_Query.s2 w_ s.1 s.2.1 s.2.2.1 s.2.2.2.1 s.2.2.2.2.1 s.2.2.2.2.2.1 s.2.2.2.2.2.2.1 s.2.2.2.2.2.2.2.1 s.2.2.2.2.2.2.2.2.1 s.2.2.2.2.2.2.2.2.2.1 s.2.2.2.2.2.2.2.2.2.2.1 s.2.2.2.2.2.2.2.2.2.2.2.1 s.2.2.2.2.2.2.2.2.2.2.2.2.1 s.2.2.2.2.2.2.2.2.2.2.2.2.2.1 s.2.2.2.2.2.2.2.2.2.2.2.2.2.2.1 s.2.2.2.2.2.2.2.2.2.2.2.2.2.2.2.1 s.2.2.2.2.2.2.2.2.2.2.2.2.2.2.2.2) fuel (c56.1.M.Inputs,c56.1.M.Start,c56.1.M.Next,c56.1.M.Out,c56.1.State,c56.1.Ready,c56.1.Latency.Step,c56.1.Latency.Reset,c56.1.Faults.Lost,c56.1.Faults.Wrong,c56.1.Faults.Crash,c56.1.Seed,c56.1.Steps,c56.1.Resets,c56.1.Time,[],0):Option ((Int×Int×List (List Int)×List (List Int)×Int×Bool×List Int×Int×Int×Int×Int×Int×Int×Int×Int×List Int)⊕(T_api_Device×List Int×Int))).bind (Sum.elim (fun (s:Int×Int×List (List Int)×List (List Int)×Int×Bool×List Int×Int×Int×Int×Int×Int×Int×Int×Int×List Int)=>R19_Query.k3 s.1 s.2.1 s.2.2.1 s.2.2.2.1 s.2.2.2.2.1 s.2.2.2.2.2.1 s.2.2.2.2.2.2.1 s.2.2.2.2.2.2.2.1 s.2.2.2.2.2.2.2.2.1 s.2.2.2.2.2.2.2.2.2.1 s.2.2.2.2.2.2.2.2.2.2.1 s.2.2.2.2.2.2.2.2.2.2.2.1 s.2.2.2.2.2.2.2.2.2.2.2.2.1 s.2.2.2.2.2.2.2.2.2.2.2.2.2.1 s.2.2.2.2.2.2.2.2.2.2.2.2.2.2.1 s.2.2.2.2.2.2.2.2.2.2.2.2.2.2.2) some))))
def R06_Ints.s2 (a_:List Int) (b_:List Int) (i73:Nat):Option (Nat⊕(Unit⊕Bool)) :=
 cond (decide ((↑i73:Int)<(↑(List.length a_):Int))) (idxn a_ i73 fun e80=>idxn b_ i73 fun e81=>cond (decide (e80≠e81)) (some (.inr (.inr false))) (some (.inl (i73+1)))) (some (.inr (.inl ())))
def R06_Ints (a_:List Int) (b_:List Int):Option (Bool) :=
 cond (decide ((↑(List.length a_):Int)≠(↑(List.length b_):Int))) (some false) ((iter (fun (s:Nat)=>R06_Ints.s2 a_ b_ s) fuel 0:Option (Unit⊕Bool)).bind (Sum.elim (fun (_:Unit)=>some true) some))
def R21_times.s2 (l_:List (List Int)) (w_:List Int) (n76:Nat) (i77:Nat):Option ((Nat×Nat)⊕Nat) :=
 cond (decide ((↑i77:Int)<(↑(List.length l_):Int))) (idxn l_ i77 fun e85=>(R06_Ints e85 w_).bind fun c86=>cond (c86) (chk (inR ((↑n76:Int)+1)) (some (.inl ((n76+1),(i77+1))))) (some (.inl (n76,(i77+1))))) (some (.inr n76))
def R21_times (l_:List (List Int)) (w_:List Int):Option (Int) :=
 (iter (fun (s:Nat×Nat)=>R21_times.s2 l_ w_ s.1 s.2) fuel (0,0):Option (Nat)).bind (fun (n71:Nat)=>some (↑n71:Int))
def R16_Proper.s2 (t_:T_api_Trace) (i101:Nat):Option (Nat⊕(Unit⊕Int)) :=
 cond (decide ((↑i101:Int)<(↑(List.length t_.Out):Int))) ((idxn t_.Out i101 fun e121=>cond (decide (e121<0)) (some true) (idxn t_.Out i101 fun e123=>some (decide (1048576<e123))):Option (Bool)).bind (fun (y120:Bool)=>cond (y120) (some (.inr (.inr 2))) (some (.inl (i101+1))))) (some (.inr (.inl ())))
def R16_Proper (t_:T_api_Trace) (inputs_:Int):Option (Int) :=
 (R01_Check t_.In inputs_).bind fun c51=>cond (decide (c51≠0)) (some c51) (cond (decide ((↑(List.length t_.Out):Int)≠(↑(List.length t_.In):Int))) (some 1) ((iter (fun (s:Nat)=>R16_Proper.s2 t_ s) fuel 0:Option (Unit⊕Int)).bind (Sum.elim (fun (_:Unit)=>some 0) some)))
def R16_Differ.s2 (a_:T_api_Trace) (b_:T_api_Trace) (c51:Int) (i73:Nat):Option (Nat⊕(Unit⊕Int)) :=
 cond (decide ((↑i73:Int)<c51)) (idxn a_.Out i73 fun e81=>idxn b_.Out i73 fun e82=>cond (decide (e81≠e82)) (some (.inr (.inr (↑i73:Int)))) (chk (inR ((↑i73:Int)+1)) (some (.inl (i73+1))))) (some (.inr (.inl ())))
def R16_Differ (a_:T_api_Trace) (b_:T_api_Trace):Option (Int) :=
 (R01_Common a_.In b_.In).bind fun c51=>(iter (fun (s:Nat)=>R16_Differ.s2 a_ b_ c51 s) fuel 0:Option (Unit⊕Int)).bind (Sum.elim (fun (_:Unit)=>some (-1:Int)) some)
def R01_Lex (a_:List Int) (b_:List Int):Option (Int) :=
 (R01_Common a_ b_).bind fun c51=>(cond (decide (c51=(↑(List.length a_):Int))) (some (decide (c51=(↑(List.length b_):Int)))) (some false):Option (Bool)).bind (fun (y55:Bool)=>cond (y55) (some 0) ((cond (decide (c51=(↑(List.length a_):Int))) (some (decide (c51=(↑(List.length a_):Int)))) (cond (decide (c51<(↑(List.length b_):Int))) (idx a_ c51 fun e69=>idx b_ c51 fun e70=>some (decide (e69<e70))) (some false)):Option (Bool)).bind (fun (y66:Bool)=>cond (y66) (some (-1:Int)) (some 1))))
def R01_Compare (a_:List Int) (b_:List Int):Option (Int) :=
 cond (decide ((↑(List.length a_):Int)<(↑(List.length b_):Int))) (some (-1:Int)) (cond (decide ((↑(List.length b_):Int)<(↑(List.length a_):Int))) (some 1) ((R01_Lex a_ b_).bind fun c53=>some c53))
def R16_copied (t_:T_api_Trace):Option (T_api_Trace) :=
 (R01_Join [t_.In]).bind fun c51=>(R01_Join [t_.Out]).bind fun c52=>some (⟨c51,c52⟩:T_api_Trace)
def R16_add.s2 (o_:T_api_Obs) (t_:T_api_Trace) (done72:Bool) (i73:Nat):Option ((Bool×Nat)⊕Bool) :=
 cond (decide ((↑i73:Int)<(↑(List.length o_.Traces):Int))) (cond (done72) (some (.inl (true,(i73+1)))) (idxn o_.Traces i73 fun e81=>(R01_HasPrefix e81.In t_.In).bind fun c82=>some (.inl (c82,(i73+1))))) (some (.inr done72))
def R16_add.k9 (t_:T_api_Trace) (i277:Nat) (e328:T_api_Trace) (y344:List T_api_Trace) (done345:Bool):Option ((List T_api_Trace×Bool×Nat)⊕(List T_api_Trace×Bool)) :=
 ((R01_HasPrefix t_.In e328.In).bind fun c367=>cond ((!c367)) (some true) (some (decide ((↑(List.length t_.In):Int)=(↑(List.length e328.In):Int)))):Option (Bool)).bind (fun (y366:Bool)=>cond (y366) ((R16_copied e328).bind fun c373=>chk (capOk (List.length y344+1) 48) (some (.inl ((y344++[c373]),done345,(i277+1))))) (some (.inl (y344,done345,(i277+1)))))
def R16_add.s10 (o_:T_api_Obs) (t_:T_api_Trace) (y275:List T_api_Trace) (done276:Bool) (i277:Nat):Option ((List T_api_Trace×Bool×Nat)⊕(List T_api_Trace×Bool)) :=
 cond (decide ((↑i277:Int)<(↑(List.length o_.Traces):Int))) (idxn o_.Traces i277 fun e328=>((cond ((!done276)) ((R01_Compare t_.In e328.In).bind fun c352=>some (decide (c352<0))) (some false):Option (Bool)).bind (fun (y350:Bool)=>cond (y350) ((R16_copied t_).bind fun c357=>chk (capOk (List.length y275+1) 48) (some ((y275++[c357]),true))) (some (y275,done276))):Option (List T_api_Trace×Bool)).bind (fun (s:List T_api_Trace×Bool)=>R16_add.k9 t_ i277 e328 s.1 s.2)) (some (.inr (y275,done276)))
def R16_add.k11 (o_:T_api_Obs) (t_:T_api_Trace) (y229:List T_api_Trace) (done230:Bool):Option (T_api_Obs) :=
 (cond ((!done230)) ((R16_copied t_).bind fun c384=>chk (capOk (List.length y229+1) 48) (some (y229++[c384]))) (some y229):Option (List T_api_Trace)).bind (fun (y382:List T_api_Trace)=>some (⟨o_.Inputs,y382⟩:T_api_Obs))
def R16_add (o_:T_api_Obs) (t_:T_api_Trace):Option (T_api_Obs) :=
 (iter (fun (s:Bool×Nat)=>R16_add.s2 o_ t_ s.1 s.2) fuel (decide ((↑(List.length t_.In):Int)=0),0):Option (Bool)).bind (fun (done67:Bool)=>(iter (fun (s:List T_api_Trace×Bool×Nat)=>R16_add.s10 o_ t_ s.1 s.2.1 s.2.2) fuel ([],done67,0):Option (List T_api_Trace×Bool)).bind (fun (s:List T_api_Trace×Bool)=>R16_add.k11 o_ t_ s.1 s.2))
def R16_Add.s2 (o_:T_api_Obs) (t_:T_api_Trace) (i72:Nat):Option (Nat⊕(Unit⊕(T_api_Obs×Int))) :=
 cond (decide ((↑i72:Int)<(↑(List.length o_.Traces):Int))) (idxn o_.Traces i72 fun e79=>(R16_Differ e79 t_).bind fun c80=>cond (decide (0≤c80)) (some (.inr (.inr (o_,13)))) (some (.inl (i72+1)))) (some (.inr (.inl ())))
def R16_Add (o_:T_api_Obs) (t_:T_api_Trace):Option (T_api_Obs×Int) :=
 (R16_Proper t_ o_.Inputs).bind fun c51=>cond (decide (c51≠0)) (some (o_,c51)) ((iter (fun (s:Nat)=>R16_Add.s2 o_ t_ s) fuel 0:Option (Unit⊕(T_api_Obs×Int))).bind (Sum.elim (fun (_:Unit)=>(R16_add o_ t_).bind fun c82=>cond (decide (10000<(↑(List.length c82.Traces):Int))) (some (o_,11)) (some (c82,0))) some))
def R21_Ask.k9 (y373:Int) (i375:Int) (y424:Int) (y425:Int) (y426:List (List Int)) (y427:List (List Int)) (y428:Int) (y429:Bool) (y430:List Int) (y431:Int) (y432:Int) (y433:Int) (y434:Int) (y435:Int) (y436:Int) (y437:Int) (y438:Int) (y439:List (List Int)):Option ((Int×Int×List (List Int)×List (List Int)×Int×Bool×List Int×Int×Int×Int×Int×Int×Int×Int×Int×Int×List (List Int)×Int)⊕((Int×Int×List (List Int)×List (List Int)×Int×Bool×List Int×Int×Int×Int×Int×Int×Int×Int×Int×Int×List (List Int))⊕(T_api_Oracle×List Int×Int))) :=
 some (.inl (y424,y425,y426,y427,y428,y429,y430,y431,y432,y433,y434,y435,y436,y437,y438,(mdI (y373+1)),y439,(mdI (i375+1))))
def R21_Ask.s10 (q_:T_api_Oracle) (w_:List Int) (y358:Int) (y359:Int) (y360:List (List Int)) (y361:List (List Int)) (y362:Int) (y363:Bool) (y364:List Int) (y365:Int) (y366:Int) (y367:Int) (y368:Int) (y369:Int) (y370:Int) (y371:Int) (y372:Int) (y373:Int) (y374:List (List Int)) (i375:Int):Option ((Int×Int×List (List Int)×List (List Int)×Int×Bool×List Int×Int×Int×Int×Int×Int×Int×Int×Int×Int×List (List Int)×Int)⊕((Int×Int×List (List Int)×List (List Int)×Int×Bool×List Int×Int×Int×Int×Int×Int×Int×Int×Int×Int×List (List Int))⊕(T_api_Oracle×List Int×Int))) :=
 cond (decide (i375<q_.Tries)) (((R19_Query (⟨(⟨y358,y359,y360,y361⟩:T_api_Mealy),y362,y363,(⟨y364,y365⟩:T_api_Latency),(⟨y366,y367,y368⟩:T_api_Faults),y369,y370,y371,y372⟩:T_api_Device) w_).bind fun c440=>cond (decide (c440.2.2≠0)) (some (.inl (c440.1.M.Inputs,c440.1.M.Start,c440.1.M.Next,c440.1.M.Out,c440.1.State,c440.1.Ready,c440.1.Latency.Step,c440.1.Latency.Reset,c440.1.Faults.Lost,c440.1.Faults.Wrong,c440.1.Faults.Crash,c440.1.Seed,c440.1.Steps,c440.1.Resets,c440.1.Time,y374))) (chk (capOk (List.length y374+1) 24) ((R21_times (y374++[c440.2.1]) c440.2.1).bind fun c443=>cond (decide (c443<q_.Votes)) (some (.inl (c440.1.M.Inputs,c440.1.M.Start,c440.1.M.Next,c440.1.M.Out,c440.1.State,c440.1.Ready,c440.1.Latency.Step,c440.1.Latency.Reset,c440.1.Faults.Lost,c440.1.Faults.Wrong,c440.1.Faults.Crash,c440.1.Seed,c440.1.Steps,c440.1.Resets,c440.1.Time,(y374++[c440.2.1])))) ((R16_Add q_.Obs (⟨w_,c440.2.1⟩:T_api_Trace)).bind fun c445=>cond (decide (c445.2≠0)) (some (.inr (.inr (.inr ((⟨c440.1,q_.Obs,q_.Votes,q_.Tries,(mdI (y373+1)),q_.Hits⟩:T_api_Oracle),[],c445.2))))) (some (.inr (.inr (.inr ((⟨c440.1,c445.1,q_.Votes,q_.Tries,(mdI (y373+1)),q_.Hits⟩:T_api_Oracle),c440.2.1,0)))))))):Option ((Int×Int×List (List Int)×List (List Int)×Int×Bool×List Int×Int×Int×Int×Int×Int×Int×Int×Int×List (List Int))⊕((Int×Int×List (List Int)×List (List Int)×Int×Bool×List Int×Int×Int×Int×Int×Int×Int×Int×Int×Int×List (List Int)×Int)⊕((Int×Int×List (List Int)×List (List Int)×Int×Bool×List Int×Int×Int×Int×Int×Int×Int×Int×Int×Int×List (List Int))⊕(T_api_Oracle×List Int×Int))))).bind (Sum.elim (fun (s:Int×Int×List (List Int)×List (List Int)×Int×Bool×List Int×Int×Int×Int×Int×Int×Int×Int×Int×List (List Int))=>R21_Ask.k9 y373 i375 s.1 s.2.1 s.2.2.1 s.2.2.2.1 s.2.2.2.2.1 s.2.2.2.2.2.1 s.2.2.2.2.2.2.1 s.2.2.2.2.2.2.2.1 s.2.2.2.2.2.2.2.2.1 s.2.2.2.2.2.2.2.2.2.1 s.2.2.2.2.2.2.2.2.2.2.1 s.2.2.2.2.2.2.2.2.2.2.2.1 s.2.2.2.2.2.2.2.2.2.2.2.2.1 s.2.2.2.2.2.2.2.2.2.2.2.2.2.1 s.2.2.2.2.2.2.2.2.2.2.2.2.2.2.1 s.2.2.2.2.2.2.2.2.2.2.2.2.2.2.2) some)) (some (.inr (.inl (y358,y359,y360,y361,y362,y363,y364,y365,y366,y367,y368,y369,y370,y371,y372,y373,y374))))
def R21_Ask.k11 (q_:T_api_Oracle) (y249:Int) (y250:Int) (y251:List (List Int)) (y252:List (List Int)) (y253:Int) (y254:Bool) (y255:List Int) (y256:Int) (y257:Int) (y258:Int) (y259:Int) (y260:Int) (y261:Int) (y262:Int) (y263:Int) (y264:Int) (y265:List (List Int)):Option (T_api_Oracle×List Int×Int) :=
 cond (decide (0<(↑(List.length y265):Int))) (some ((⟨(⟨(⟨y249,y250,y251,y252⟩:T_api_Mealy),y253,y254,(⟨y255,y256⟩:T_api_Latency),(⟨y257,y258,y259⟩:T_api_Faults),y260,y261,y262,y263⟩:T_api_Device),q_.Obs,q_.Votes,q_.Tries,y264,q_.Hits⟩:T_api_Oracle),[],13)) (some ((⟨(⟨(⟨y249,y250,y251,y252⟩:T_api_Mealy),y253,y254,(⟨y255,y256⟩:T_api_Latency),(⟨y257,y258,y259⟩:T_api_Faults),y260,y261,y262,y263⟩:T_api_Device),q_.Obs,q_.Votes,q_.Tries,y264,q_.Hits⟩:T_api_Oracle),[],14))
def R21_Ask (q_:T_api_Oracle) (w_:List Int):Option (T_api_Oracle×List Int×Int) :=
 (R01_Check w_ q_.Device.M.Inputs).bind fun c51=>cond (decide (c51≠0)) (some (q_,[],c51)) ((R16_Answer q_.Obs w_).bind fun c53=>cond (c53.2) (some ((⟨q_.Device,q_.Obs,q_.Votes,q_.Tries,q_.Asked,(mdI (q_.Hits+1))⟩:T_api_Oracle),c53.1,0)) ((iter (fun (s:Int×Int×List (List Int)×List (List Int)×Int×Bool×List Int×Int×Int×Int×Int×Int×Int×Int×Int×Int×List (List Int)×Int)=>R21_Ask.s10 q_ w_ s.1 s.2.1 s.2.2.1 s.2.2.2.1 s.2.2.2.2.1 s.2.2.2.2.2.1 s.2.2.2.2.2.2.1 s.2.2.2.2.2.2.2.1 s.2.2.2.2.2.2.2.2.1 s.2.2.2.2.2.2.2.2.2.1 s.2.2.2.2.2.2.2.2.2.2.1 s.2.2.2.2.2.2.2.2.2.2.2.1 s.2.2.2.2.2.2.2.2.2.2.2.2.1 s.2.2.2.2.2.2.2.2.2.2.2.2.2.1 s.2.2.2.2.2.2.2.2.2.2.2.2.2.2.1 s.2.2.2.2.2.2.2.2.2.2.2.2.2.2.2.1 s.2.2.2.2.2.2.2.2.2.2.2.2.2.2.2.2.1 s.2.2.2.2.2.2.2.2.2.2.2.2.2.2.2.2.2) fuel (q_.Device.M.Inputs,q_.Device.M.Start,q_.Device.M.Next,q_.Device.M.Out,q_.Device.State,q_.Device.Ready,q_.Device.Latency.Step,q_.Device.Latency.Reset,q_.Device.Faults.Lost,q_.Device.Faults.Wrong,q_.Device.Faults.Crash,q_.Device.Seed,q_.Device.Steps,q_.Device.Resets,q_.Device.Time,q_.Asked,[],0):Option ((Int×Int×List (List Int)×List (List Int)×Int×Bool×List Int×Int×Int×Int×Int×Int×Int×Int×Int×Int×List (List Int))⊕(T_api_Oracle×List Int×Int))).bind (Sum.elim (fun (s:Int×Int×List (List Int)×List (List Int)×Int×Bool×List Int×Int×Int×Int×Int×Int×Int×Int×Int×Int×List (List Int))=>R21_Ask.k11 q_ s.1 s.2.1 s.2.2.1 s.2.2.2.1 s.2.2.2.2.1 s.2.2.2.2.2.1 s.2.2.2.2.2.2.1 s.2.2.2.2.2.2.2.1 s.2.2.2.2.2.2.2.2.1 s.2.2.2.2.2.2.2.2.2.1 s.2.2.2.2.2.2.2.2.2.2.1 s.2.2.2.2.2.2.2.2.2.2.2.1 s.2.2.2.2.2.2.2.2.2.2.2.2.1 s.2.2.2.2.2.2.2.2.2.2.2.2.2.1 s.2.2.2.2.2.2.2.2.2.2.2.2.2.2.1 s.2.2.2.2.2.2.2.2.2.2.2.2.2.2.2.1 s.2.2.2.2.2.2.2.2.2.2.2.2.2.2.2.2) some)))
def L16_Great.s2 (o_:T_api_Obs) (i99:Nat):Option (Nat⊕(Unit⊕Bool)) :=
 cond (decide ((↑i99:Int)<(↑(List.length o_.Traces):Int))) ((idxn o_.Traces i99 fun e119=>cond (decide (100<(↑(List.length e119.In):Int))) (some true) (idxn o_.Traces i99 fun e121=>some (decide (100<(↑(List.length e121.Out):Int)))):Option (Bool)).bind (fun (y118:Bool)=>cond (y118) (some (.inr (.inr true))) (some (.inl (i99+1))))) (some (.inr (.inl ())))
def L16_Great (o_:T_api_Obs):Option (Bool) :=
 cond (decide (60<(↑(List.length o_.Traces):Int))) (some true) ((iter (fun (s:Nat)=>L16_Great.s2 o_ s) fuel 0:Option (Unit⊕Bool)).bind (Sum.elim (fun (_:Unit)=>some false) some))
def L21_Great (q_:T_api_Oracle):Option (Bool) :=
 (cond (decide (20<(↑(List.length q_.Device.M.Next):Int))) (some true) (cond (decide (10<q_.Device.M.Inputs)) (some true) (cond (decide (20<(↑(List.length q_.Device.Latency.Step):Int))) (some true) ((L16_Great q_.Obs).bind fun c61=>some c61))):Option (Bool)).bind (fun (y57:Bool)=>some y57)
def R16_apart.s30 (o_:T_api_Obs) (i518:Nat) (prefix714:Bool) (clash715:Bool) (k716:Nat):Option ((Bool×Bool×Nat)⊕(Bool×Bool)) :=
 cond (decide ((↑k716:Int)<(↑(List.length o_.Traces):Int))) ((cond (prefix714) (some true) (idxn o_.Traces k716 fun e743=>idxn o_.Traces i518 fun e744=>(R01_HasPrefix e743.In e744.In).bind fun c745=>some c745):Option (Bool)).bind (fun (prefix741:Bool)=>cond (clash715) (some (.inl (prefix741,true,(k716+1)))) (idxn o_.Traces i518 fun e747=>idxn o_.Traces k716 fun e748=>(R16_Differ e747 e748).bind fun c749=>some (.inl (prefix741,decide (0≤c749),(k716+1)))))) (some (.inr (prefix714,clash715)))
def R16_apart.k31 (i518:Nat) (prefix693:Bool) (clash694:Bool):Option (Nat⊕(Unit⊕Int)) :=
 cond (prefix693) (some (.inr (.inr 7))) (cond (clash694) (some (.inr (.inr 13))) (some (.inl (i518+1))))
def R16_apart.s32 (o_:T_api_Obs) (i518:Nat):Option (Nat⊕(Unit⊕Int)) :=
 cond (decide ((↑i518:Int)<(↑(List.length o_.Traces):Int))) ((iter (fun (s:Bool×Bool×Nat)=>R16_apart.s30 o_ i518 s.1 s.2.1 s.2.2) fuel (false,false,(i518+1)):Option (Bool×Bool)).bind (fun (s:Bool×Bool)=>R16_apart.k31 i518 s.1 s.2)) (some (.inr (.inl ())))
def R16_apart (o_:T_api_Obs):Option (Int) :=
 (iter (fun (s:Nat)=>R16_apart.s32 o_ s) fuel 0:Option (Unit⊕Int)).bind (Sum.elim (fun (_:Unit)=>some 0) some)
def R16_Valid.s2 (o_:T_api_Obs) (i129:Nat):Option (Nat⊕(Unit⊕Int)) :=
 cond (decide ((↑i129:Int)<(↑(List.length o_.Traces):Int))) (idxn o_.Traces i129 fun e149=>(R01_Check e149.In o_.Inputs).bind fun c150=>cond (decide (c150≠0)) (some (.inr (.inr c150))) (cond (decide ((↑(List.length e149.In):Int)=0)) (some (.inr (.inr 19))) ((R16_Proper e149 o_.Inputs).bind fun c153=>cond (decide (c153≠0)) (some (.inr (.inr c153))) ((cond (decide (0<(↑i129:Int))) (idx o_.Traces ((↑i129:Int)-1) fun e162=>(R01_Compare e162.In e149.In).bind fun c163=>some (decide (0≤c163))) (some false):Option (Bool)).bind (fun (y160:Bool)=>cond (y160) (some (.inr (.inr 10))) (some (.inl (i129+1)))))))) (some (.inr (.inl ())))
def R16_Valid (o_:T_api_Obs):Option (Int) :=
 (cond (decide (o_.Inputs<1)) (some true) (some (decide (64<o_.Inputs))):Option (Bool)).bind (fun (y54:Bool)=>cond (y54) (some 2) (cond (decide (10000<(↑(List.length o_.Traces):Int))) (some 11) ((iter (fun (s:Nat)=>R16_Valid.s2 o_ s) fuel 0:Option (Unit⊕Int)).bind (Sum.elim (fun (_:Unit)=>(R16_apart o_).bind fun c165=>some c165) some))))
def R21_Valid (q_:T_api_Oracle):Option (Bool) :=
 ((R19_Valid q_.Device).bind fun c62=>cond (decide (c62=0)) ((R16_Valid q_.Obs).bind fun c64=>cond (decide (c64=0)) (cond (decide (q_.Obs.Inputs=q_.Device.M.Inputs)) (cond (decide (1≤q_.Votes)) (cond (decide (q_.Votes≤9)) (cond (decide (q_.Votes≤q_.Tries)) (some (decide (q_.Tries≤64))) (some false)) (some false)) (some false)) (some false)) (some false)) (some false):Option (Bool)).bind (fun (y61:Bool)=>some y61)
def device_New (m_:T_api_Mealy) (l_:T_api_Latency) (f_:T_api_Faults) (seed_:Int):Option (T_api_Device×Int) :=
 (device_Valid (⟨m_,m_.Start,false,l_,f_,seed_,0,0,0⟩:T_api_Device)).bind fun c51=>cond (decide (c51≠0)) (some ((⟨(⟨0,0,[],[]⟩:T_api_Mealy),0,false,(⟨[],0⟩:T_api_Latency),(⟨0,0,0⟩:T_api_Faults),0,0,0,0⟩:T_api_Device),c51)) ((device_copied (⟨m_,m_.Start,false,l_,f_,seed_,0,0,0⟩:T_api_Device)).bind fun c53=>some (c53,0))
def L21_gate:Option (T_api_Device×Int) :=
 (device_New (⟨2,0,[[1,0],[1,0]],[[1,0],[1,2]]⟩:T_api_Mealy) (⟨[1,1],1⟩:T_api_Latency) (⟨0,0,0⟩:T_api_Faults) 7).bind fun c51=>some (c51.1,c51.2)
def observe_New (inputs_:Int):Option (T_api_Obs×Int) :=
 (cond (decide (inputs_<1)) (some true) (some (decide (64<inputs_))):Option (Bool)).bind (fun (y54:Bool)=>cond (y54) (some ((⟨0,[]⟩:T_api_Obs),2)) (some ((⟨inputs_,[]⟩:T_api_Obs),0)))
def oracle_New (d_:T_api_Device) (votes_:Int) (tries_:Int):Option (T_api_Oracle×Int) :=
 (device_Valid d_).bind fun c51=>cond (decide (c51≠0)) (some ((⟨(⟨(⟨0,0,[],[]⟩:T_api_Mealy),0,false,(⟨[],0⟩:T_api_Latency),(⟨0,0,0⟩:T_api_Faults),0,0,0,0⟩:T_api_Device),(⟨0,[]⟩:T_api_Obs),0,0,0,0⟩:T_api_Oracle),c51)) ((cond (decide (votes_<1)) (some true) (cond (decide (9<votes_)) (some true) (cond (decide (tries_<votes_)) (some true) (some (decide (64<tries_))))):Option (Bool)).bind (fun (y58:Bool)=>cond (y58) (some ((⟨(⟨(⟨0,0,[],[]⟩:T_api_Mealy),0,false,(⟨[],0⟩:T_api_Latency),(⟨0,0,0⟩:T_api_Faults),0,0,0,0⟩:T_api_Device),(⟨0,[]⟩:T_api_Obs),0,0,0,0⟩:T_api_Oracle),2)) ((observe_New d_.M.Inputs).bind fun c63=>cond (decide (c63.2≠0)) (some ((⟨(⟨(⟨0,0,[],[]⟩:T_api_Mealy),0,false,(⟨[],0⟩:T_api_Latency),(⟨0,0,0⟩:T_api_Faults),0,0,0,0⟩:T_api_Device),(⟨0,[]⟩:T_api_Obs),0,0,0,0⟩:T_api_Oracle),c63.2)) ((oracle_copied (⟨d_,c63.1,votes_,tries_,0,0⟩:T_api_Oracle)).bind fun c65=>some (c65,0)))))
def L21_awake:Option (Bool) :=
 (L21_gate).bind fun c51=>(oracle_New c51.1 2 3).bind fun c52=>(oracle_Ask c52.1 [0,1]).bind fun c53=>(oracle_Ask c53.1 [0]).bind fun c54=>(cond (decide (c51.2=0)) (cond (decide (c52.2=0)) (cond (decide (c53.2.2=0)) (cond (decide (c54.2.2=0)) ((R06_Ints c53.2.1 [1,2]).bind fun c71=>cond (c71) ((R06_Ints c54.2.1 [1]).bind fun c73=>cond (c73) (cond (decide (c54.1.Asked=2)) (some (decide (c54.1.Hits=1))) (some false)) (some false)) (some false)) (some false)) (some false)) (some false)) (some false):Option (Bool)).bind (fun (y66:Bool)=>some y66)
def R01_Same (a_:List Int) (b_:List Int):Option (Bool) :=
 (cond (decide ((↑(List.length a_):Int)=(↑(List.length b_):Int))) ((R01_Common a_ b_).bind fun c57=>some (decide (c57=(↑(List.length a_):Int)))) (some false):Option (Bool)).bind (fun (y55:Bool)=>some y55)
def R06_Lists.s2 (a_:List (List Int)) (b_:List (List Int)) (i77:Nat):Option (Nat⊕(Unit⊕Bool)) :=
 cond (decide ((↑i77:Int)<(↑(List.length a_):Int))) (idxn a_ i77 fun e85=>idxn b_ i77 fun e86=>(R06_Ints e85 e86).bind fun c87=>cond ((!c87)) (some (.inr (.inr false))) (some (.inl (i77+1)))) (some (.inr (.inl ())))
def R06_Lists (a_:List (List Int)) (b_:List (List Int)):Option (Bool) :=
 cond (decide ((↑(List.length a_):Int)≠(↑(List.length b_):Int))) (some false) ((iter (fun (s:Nat)=>R06_Lists.s2 a_ b_ s) fuel 0:Option (Unit⊕Bool)).bind (Sum.elim (fun (_:Unit)=>some true) some))
def R06_Same (a_:T_api_Mealy) (b_:T_api_Mealy):Option (Bool) :=
 (cond (decide (a_.Inputs=b_.Inputs)) (cond (decide (a_.Start=b_.Start)) ((R06_Lists a_.Next b_.Next).bind fun c61=>cond (c61) ((R06_Lists a_.Out b_.Out).bind fun c63=>some c63) (some false)) (some false)) (some false):Option (Bool)).bind (fun (y58:Bool)=>some y58)
def R19_Same (a_:T_api_Device) (b_:T_api_Device):Option (Bool) :=
 ((R06_Same a_.M b_.M).bind fun c65=>cond (c65) (cond (decide (a_.State=b_.State)) (cond ((a_.Ready==b_.Ready)) ((R01_Same a_.Latency.Step b_.Latency.Step).bind fun c69=>cond (c69) (cond (decide (a_.Latency.Reset=b_.Latency.Reset)) (cond ((decide (a_.Faults.Lost=b_.Faults.Lost)&&(decide (a_.Faults.Wrong=b_.Faults.Wrong)&&(decide (a_.Faults.Crash=b_.Faults.Crash)&&true)))) (cond (decide (a_.Seed=b_.Seed)) (cond (decide (a_.Steps=b_.Steps)) (cond (decide (a_.Resets=b_.Resets)) (some (decide (a_.Time=b_.Time))) (some false)) (some false)) (some false)) (some false)) (some false)) (some false)) (some false)) (some false)) (some false):Option (Bool)).bind (fun (y64:Bool)=>some y64)
def R06_SameTraces.s2 (a_:List T_api_Trace) (b_:List T_api_Trace) (i141:Nat):Option (Nat⊕(Unit⊕Bool)) :=
 cond (decide ((↑i141:Int)<(↑(List.length a_):Int))) ((idxn a_ i141 fun e175=>idxn b_ i141 fun e176=>(R06_Ints e175.In e176.In).bind fun c177=>cond ((!c177)) (some true) (idxn a_ i141 fun e179=>idxn b_ i141 fun e180=>(R06_Ints e179.Out e180.Out).bind fun c181=>some (!c181)):Option (Bool)).bind (fun (y174:Bool)=>cond (y174) (some (.inr (.inr false))) (some (.inl (i141+1))))) (some (.inr (.inl ())))
def R06_SameTraces (a_:List T_api_Trace) (b_:List T_api_Trace):Option (Bool) :=
 cond (decide ((↑(List.length a_):Int)≠(↑(List.length b_):Int))) (some false) ((iter (fun (s:Nat)=>R06_SameTraces.s2 a_ b_ s) fuel 0:Option (Unit⊕Bool)).bind (Sum.elim (fun (_:Unit)=>some true) some))
def R16_Same (a_:T_api_Obs) (b_:T_api_Obs):Option (Bool) :=
 (cond (decide (a_.Inputs=b_.Inputs)) ((R06_SameTraces a_.Traces b_.Traces).bind fun c57=>some c57) (some false):Option (Bool)).bind (fun (y55:Bool)=>some y55)
def R21_Same (a_:T_api_Oracle) (b_:T_api_Oracle):Option (Bool) :=
 ((R19_Same a_.Device b_.Device).bind fun c61=>cond (c61) ((R16_Same a_.Obs b_.Obs).bind fun c63=>cond (c63) (cond (decide (a_.Votes=b_.Votes)) (cond (decide (a_.Tries=b_.Tries)) (cond (decide (a_.Asked=b_.Asked)) (some (decide (a_.Hits=b_.Hits))) (some false)) (some false)) (some false)) (some false)) (some false):Option (Bool)).bind (fun (y60:Bool)=>some y60)
def L21_long.s2 (l_:List (List Int)) (i68:Nat):Option (Nat⊕(Unit⊕Bool)) :=
 cond (decide ((↑i68:Int)<(↑(List.length l_):Int))) (idxn l_ i68 fun e74=>cond (decide (60<(↑(List.length e74):Int))) (some (.inr (.inr true))) (some (.inl (i68+1)))) (some (.inr (.inl ())))
def L21_long (l_:List (List Int)):Option (Bool) :=
 cond (decide (30<(↑(List.length l_):Int))) (some true) ((iter (fun (s:Nat)=>L21_long.s2 l_ s) fuel 0:Option (Unit⊕Bool)).bind (Sum.elim (fun (_:Unit)=>some false) some))
def wordset_ordered_1 (a_:List Int) (b_:List Int) (p2_:(List Int)→(List Int)→Option Int):Option (Bool) :=
 (p2_ a_ b_).bind fun c51=>some (decide (c51=0))
def slices_CompactFunc_SSint_Sint_n1.s18 (eq_:(List Int)→(List Int)→Option Bool) (k356:Nat) (y481:List (List Int)) (k482:Nat) (y483:Nat):Option ((List (List Int)×Nat×Nat)⊕(List (List Int)×Nat)) :=
 cond (decide ((↑y483:Int)<(↑(List.length y481-k356):Int))) (idxn y481 (k356+y483) fun e495=>chk ((0:Int)≤((↑y483:Int)-1)) (idxn y481 (k356+(Int.toNat ((↑y483:Int)-1))) fun e496=>(eq_ e495 e496).bind fun c498=>cond ((!c498)) (idxn y481 (k356+y483) fun e500=>idxn y481 k482 fun e501=>chk (inR ((↑k482:Int)+1)) (some (.inl ((List.set y481 k482 e500),(k482+1),(y483+1))))) (some (.inl (y481,k482,(y483+1)))))) (some (.inr (y481,k482)))
def slices_CompactFunc_SSint_Sint_n1.k19 (y471:List (List Int)) (k472:Nat):Option (Nat⊕(Unit⊕List (List Int))) :=
 chk ((0:Int)≤(↑k472:Int)∧(↑k472:Int)≤(↑(List.length y471):Int)∧0<List.length y471) (chk (k472≤List.length y471) (chk ((0:Int)≤(↑k472:Int)∧(↑k472:Int)≤(↑(List.length (List.take k472 y471++List.replicate (List.length y471-k472) [])):Int)∧0<List.length (List.take k472 y471++List.replicate (List.length y471-k472) [])) (some (.inr (.inr (List.take k472 (List.take k472 y471++List.replicate (List.length y471-k472) [])))))))
def slices_CompactFunc_SSint_Sint_n1.s20 (s_:List (List Int)) (eq_:(List Int)→(List Int)→Option Bool) (k356:Nat):Option (Nat⊕(Unit⊕List (List Int))) :=
 cond (decide ((↑k356:Int)<(↑(List.length s_):Int))) (idxn s_ k356 fun e434=>idx s_ ((↑k356:Int)-1) fun e435=>(eq_ e434 e435).bind fun c436=>cond (c436) (chk ((0:Int)≤(↑k356:Int)∧(↑k356:Int)≤(↑(List.length s_):Int)∧0<List.length s_) ((iter (fun (s:List (List Int)×Nat×Nat)=>slices_CompactFunc_SSint_Sint_n1.s18 eq_ k356 s.1 s.2.1 s.2.2) fuel (s_,k356,1):Option (List (List Int)×Nat)).bind (fun (s:List (List Int)×Nat)=>slices_CompactFunc_SSint_Sint_n1.k19 s.1 s.2))) (some (.inl (k356+1)))) (some (.inr (.inl ())))
def slices_CompactFunc_SSint_Sint_n1 (s_:List (List Int)) (eq_:(List Int)→(List Int)→Option Bool):Option (List (List Int)) :=
 cond (decide ((↑(List.length s_):Int)<2)) (some s_) ((iter (fun (s:Nat)=>slices_CompactFunc_SSint_Sint_n1.s20 s_ eq_ s) fuel 1:Option (Unit⊕List (List Int))).bind (Sum.elim (fun (_:Unit)=>some s_) some))
def wordset_ordered.s2 (c53:List (List Int)) (y78:List (List Int)) (y79:Nat):Option ((List (List Int)×Nat)⊕List (List Int)) :=
 cond (decide ((↑y79:Int)<(↑(List.length c53):Int))) (idxn y78 y79 fun e87=>(lib_Clone_int e87).bind fun c88=>idxn y78 y79 fun e89=>chk (inR ((↑y79:Int)+1)) (some (.inl ((List.set y78 y79 c88),(y79+1))))) (some (.inr y78))
def wordset_ordered (l_:List (List Int)) (order_:(List Int)→(List Int)→Option Int):Option (List (List Int)) :=
 (lib_Clone_words l_).bind fun c51=>(lib_SortFunc_words c51 order_).bind fun c52=>(slices_CompactFunc_SSint_Sint_n1 c52 (fun u0 u1=>wordset_ordered_1 u0 u1 order_)).bind fun c53=>(iter (fun (s:List (List Int)×Nat)=>wordset_ordered.s2 c53 s.1 s.2) fuel (c53,0):Option (List (List Int))).bind (fun (y73:List (List Int))=>some y73)
def wordset_Sorted (l_:List (List Int)):Option (List (List Int)) :=
 (wordset_ordered l_ (fun u0 u1=>word_Compare u0 u1)).bind fun c51=>some c51
def word_Lex (a_:List Int) (b_:List Int):Option (Int) :=
 (slices_Compare_Sint_int a_ b_).bind fun c51=>some c51
def wordset_Maximal.s2 (c51:List (List Int)) (y119:List (List Int)) (y120:Nat):Option ((List (List Int)×Nat)⊕List (List Int)) :=
 cond (decide ((↑y120:Int)<(↑(List.length c51):Int))) (idxn c51 y120 fun e139=>(cond (decide (((↑y120:Int)+1)=(↑(List.length c51):Int))) (some true) (idxn c51 (y120+1) fun e147=>(word_HasPrefix e147 e139).bind fun c148=>some (!c148)):Option (Bool)).bind (fun (y145:Bool)=>cond (y145) (chk (capOk (List.length y119+1) 24) (some (.inl ((y119++[e139]),(y120+1))))) (some (.inl (y119,(y120+1)))))) (some (.inr y119))
def wordset_Maximal (l_:List (List Int)):Option (List (List Int)) :=
 (wordset_ordered l_ (fun u0 u1=>word_Lex u0 u1)).bind fun c51=>(iter (fun (s:List (List Int)×Nat)=>wordset_Maximal.s2 c51 s.1 s.2) fuel ([],0):Option (List (List Int))).bind (fun (y104:List (List Int))=>(wordset_Sorted y104).bind fun c157=>some c157)
def batch_Plan.s2 (o_:T_api_Obs) (queries_:List (List Int)) (y71:Nat):Option (Nat⊕(Unit⊕(List (List Int)×Int))) :=
 cond (decide ((↑y71:Int)<(↑(List.length queries_):Int))) (idxn queries_ y71 fun e78=>(word_Check e78 o_.Inputs).bind fun c79=>cond (decide (c79≠0)) (some (.inr (.inr ([],c79)))) (some (.inl (y71+1)))) (some (.inr (.inl ())))
def batch_Plan.s4 (o_:T_api_Obs) (queries_:List (List Int)) (y111:List (List Int)) (y112:Nat):Option ((List (List Int)×Nat)⊕List (List Int)) :=
 cond (decide ((↑y112:Int)<(↑(List.length queries_):Int))) (idxn queries_ y112 fun e120=>(observe_Answer o_ e120).bind fun c121=>cond ((!c121.2)) (chk (capOk (List.length y111+1) 24) (some (.inl ((y111++[e120]),(y112+1))))) (some (.inl (y111,(y112+1))))) (some (.inr y111))
def batch_Plan (o_:T_api_Obs) (queries_:List (List Int)):Option (List (List Int)×Int) :=
 (iter (fun (s:Nat)=>batch_Plan.s2 o_ queries_ s) fuel 0:Option (Unit⊕(List (List Int)×Int))).bind (Sum.elim (fun (_:Unit)=>chk ((0:Int)≤0∧0≤(↑(List.length queries_):Int)∧capOk (Int.toNat (↑(List.length queries_):Int)) 24) ((iter (fun (s:List (List Int)×Nat)=>batch_Plan.s4 o_ queries_ s.1 s.2) fuel ([],0):Option (List (List Int))).bind (fun (y105:List (List Int))=>(wordset_Maximal y105).bind fun c127=>some (c127,0)))) some)
def oracle_All.s2 (q_:T_api_Oracle) (words_:List (List Int)) (y76:Nat):Option (Nat⊕(Unit⊕(T_api_Oracle×Int))) :=
 cond (decide ((↑y76:Int)<(↑(List.length words_):Int))) (idxn words_ y76 fun e83=>(word_Check e83 q_.Device.M.Inputs).bind fun c84=>cond (decide (c84≠0)) (some (.inr (.inr (q_,c84)))) (some (.inl (y76+1)))) (some (.inr (.inl ())))
def oracle_All.s4 (c96:List (List Int)×Int) (y164:Int) (y165:Int) (y166:List (List Int)) (y167:List (List Int)) (y168:Int) (y169:Bool) (y170:List Int) (y171:Int) (y172:Int) (y173:Int) (y174:Int) (y175:Int) (y176:Int) (y177:Int) (y178:Int) (y179:Int) (y180:List T_api_Trace) (y181:Int) (y182:Int) (y183:Int) (y184:Int) (y185:Nat):Option ((Int×Int×List (List Int)×List (List Int)×Int×Bool×List Int×Int×Int×Int×Int×Int×Int×Int×Int×Int×List T_api_Trace×Int×Int×Int×Int×Nat)⊕((Int×Int×List (List Int)×List (List Int)×Int×Bool×List Int×Int×Int×Int×Int×Int×Int×Int×Int×Int×List T_api_Trace×Int×Int×Int×Int)⊕(T_api_Oracle×Int))) :=
 cond (decide ((↑y185:Int)<(↑(List.length c96.1):Int))) (idxn c96.1 y185 fun e192=>(oracle_Ask (⟨(⟨(⟨y164,y165,y166,y167⟩:T_api_Mealy),y168,y169,(⟨y170,y171⟩:T_api_Latency),(⟨y172,y173,y174⟩:T_api_Faults),y175,y176,y177,y178⟩:T_api_Device),(⟨y179,y180⟩:T_api_Obs),y181,y182,y183,y184⟩:T_api_Oracle) e192).bind fun c193=>cond (decide (c193.2.2≠0)) (some (.inr (.inr (c193.1,c193.2.2)))) (some (.inl (c193.1.Device.M.Inputs,c193.1.Device.M.Start,c193.1.Device.M.Next,c193.1.Device.M.Out,c193.1.Device.State,c193.1.Device.Ready,c193.1.Device.Latency.Step,c193.1.Device.Latency.Reset,c193.1.Device.Faults.Lost,c193.1.Device.Faults.Wrong,c193.1.Device.Faults.Crash,c193.1.Device.Seed,c193.1.Device.Steps,c193.1.Device.Resets,c193.1.Device.Time,c193.1.Obs.Inputs,c193.1.Obs.Traces,c193.1.Votes,c193.1.Tries,c193.1.Asked,c193.1.Hits,(y185+1))))) (some (.inr (.inl (y164,y165,y166,y167,y168,y169,y170,y171,y172,y173,y174,y175,y176,y177,y178,y179,y180,y181,y182,y183,y184))))
def oracle_All.k5 (y139:Int) (y140:Int) (y141:List (List Int)) (y142:List (List Int)) (y143:Int) (y144:Bool) (y145:List Int) (y146:Int) (y147:Int) (y148:Int) (y149:Int) (y150:Int) (y151:Int) (y152:Int) (y153:Int) (y154:Int) (y155:List T_api_Trace) (y156:Int) (y157:Int) (y158:Int) (y159:Int):Option (T_api_Oracle×Int) :=
 some ((⟨(⟨(⟨y139,y140,y141,y142⟩:T_api_Mealy),y143,y144,(⟨y145,y146⟩:T_api_Latency),(⟨y147,y148,y149⟩:T_api_Faults),y150,y151,y152,y153⟩:T_api_Device),(⟨y154,y155⟩:T_api_Obs),y156,y157,y158,y159⟩:T_api_Oracle),0)
def oracle_All (q_:T_api_Oracle) (words_:List (List Int)):Option (T_api_Oracle×Int) :=
 cond (decide (10000<(↑(List.length words_):Int))) (some (q_,11)) ((iter (fun (s:Nat)=>oracle_All.s2 q_ words_ s) fuel 0:Option (Unit⊕(T_api_Oracle×Int))).bind (Sum.elim (fun (_:Unit)=>(batch_Plan q_.Obs words_).bind fun c96=>cond (decide (c96.2≠0)) (some (q_,c96.2)) ((iter (fun (s:Int×Int×List (List Int)×List (List Int)×Int×Bool×List Int×Int×Int×Int×Int×Int×Int×Int×Int×Int×List T_api_Trace×Int×Int×Int×Int×Nat)=>oracle_All.s4 c96 s.1 s.2.1 s.2.2.1 s.2.2.2.1 s.2.2.2.2.1 s.2.2.2.2.2.1 s.2.2.2.2.2.2.1 s.2.2.2.2.2.2.2.1 s.2.2.2.2.2.2.2.2.1 s.2.2.2.2.2.2.2.2.2.1 s.2.2.2.2.2.2.2.2.2.2.1 s.2.2.2.2.2.2.2.2.2.2.2.1 s.2.2.2.2.2.2.2.2.2.2.2.2.1 s.2.2.2.2.2.2.2.2.2.2.2.2.2.1 s.2.2.2.2.2.2.2.2.2.2.2.2.2.2.1 s.2.2.2.2.2.2.2.2.2.2.2.2.2.2.2.1 s.2.2.2.2.2.2.2.2.2.2.2.2.2.2.2.2.1 s.2.2.2.2.2.2.2.2.2.2.2.2.2.2.2.2.2.1 s.2.2.2.2.2.2.2.2.2.2.2.2.2.2.2.2.2.2.1 s.2.2.2.2.2.2.2.2.2.2.2.2.2.2.2.2.2.2.2.1 s.2.2.2.2.2.2.2.2.2.2.2.2.2.2.2.2.2.2.2.2.1 s.2.2.2.2.2.2.2.2.2.2.2.2.2.2.2.2.2.2.2.2.2) fuel (q_.Device.M.Inputs,q_.Device.M.Start,q_.Device.M.Next,q_.Device.M.Out,q_.Device.State,q_.Device.Ready,q_.Device.Latency.Step,q_.Device.Latency.Reset,q_.Device.Faults.Lost,q_.Device.Faults.Wrong,q_.Device.Faults.Crash,q_.Device.Seed,q_.Device.Steps,q_.Device.Resets,q_.Device.Time,q_.Obs.Inputs,q_.Obs.Traces,q_.Votes,q_.Tries,q_.Asked,q_.Hits,0):Option ((Int×Int×List (List Int)×List (List Int)×Int×Bool×List Int×Int×Int×Int×Int×Int×Int×Int×Int×Int×List T_api_Trace×Int×Int×Int×Int)⊕(T_api_Oracle×Int))).bind (Sum.elim (fun (s:Int×Int×List (List Int)×List (List Int)×Int×Bool×List Int×Int×Int×Int×Int×Int×Int×Int×Int×Int×List T_api_Trace×Int×Int×Int×Int)=>oracle_All.k5 s.1 s.2.1 s.2.2.1 s.2.2.2.1 s.2.2.2.2.1 s.2.2.2.2.2.1 s.2.2.2.2.2.2.1 s.2.2.2.2.2.2.2.1 s.2.2.2.2.2.2.2.2.1 s.2.2.2.2.2.2.2.2.2.1 s.2.2.2.2.2.2.2.2.2.2.1 s.2.2.2.2.2.2.2.2.2.2.2.1 s.2.2.2.2.2.2.2.2.2.2.2.2.1 s.2.2.2.2.2.2.2.2.2.2.2.2.2.1 s.2.2.2.2.2.2.2.2.2.2.2.2.2.2.1 s.2.2.2.2.2.2.2.2.2.2.2.2.2.2.2.1 s.2.2.2.2.2.2.2.2.2.2.2.2.2.2.2.2.1 s.2.2.2.2.2.2.2.2.2.2.2.2.2.2.2.2.2.1 s.2.2.2.2.2.2.2.2.2.2.2.2.2.2.2.2.2.2.1 s.2.2.2.2.2.2.2.2.2.2.2.2.2.2.2.2.2.2.2.1 s.2.2.2.2.2.2.2.2.2.2.2.2.2.2.2.2.2.2.2.2) some))) some))
def R20_check.s2 (words_:List (List Int)) (inputs_:Int) (i71:Nat):Option (Nat⊕(Unit⊕Int)) :=
 cond (decide ((↑i71:Int)<(↑(List.length words_):Int))) (idxn words_ i71 fun e78=>(R01_Check e78 inputs_).bind fun c79=>cond (decide (c79≠0)) (some (.inr (.inr c79))) (some (.inl (i71+1)))) (some (.inr (.inl ())))
def R20_check (words_:List (List Int)) (inputs_:Int):Option (Int) :=
 (iter (fun (s:Nat)=>R20_check.s2 words_ inputs_ s) fuel 0:Option (Unit⊕Int)).bind (Sum.elim (fun (_:Unit)=>some 0) some)
def R02_place.s2 (l_:List (List Int)) (w_:List Int) (low84:Nat) (high85:Nat):Option ((Nat×Nat)⊕Nat) :=
 cond (decide ((↑low84:Int)<(↑high85:Int))) (chk (inR ((↑low84:Int)+(↑high85:Int))) (chk (inR (((↑low84:Int)+(↑high85:Int)) / 2)∧(0:Int)≤((↑low84:Int)+(↑high85:Int))∧(1:Int)≤2) (idxn l_ ((low84+high85) / 2) fun e97=>(R01_Compare e97 w_).bind fun c98=>cond (decide (c98<0)) (chk (inR ((((↑low84:Int)+(↑high85:Int)) / 2)+1)) (some (.inl ((((low84+high85) / 2)+1),high85)))) (some (.inl (low84,((low84+high85) / 2))))))) (some (.inr low84))
def R02_place (l_:List (List Int)) (w_:List Int):Option (Int) :=
 (iter (fun (s:Nat×Nat)=>R02_place.s2 l_ w_ s.1 s.2) fuel (0,(List.length l_)):Option (Nat)).bind (fun (low77:Nat)=>some (↑low77:Int))
def R02_with.s2 (c51:Int) (y93:List (List Int)) (i94:Int):Option ((List (List Int)×Int)⊕List (List Int)) :=
 cond (decide (c51<i94)) (chk (inR (i94-1)) (idx y93 (i94-1) fun e103=>idx y93 i94 fun e104=>chk (inR (i94-1)) (some (.inl ((List.set y93 i94.toNat e103),(i94-1)))))) (some (.inr y93))
def R02_with (l_:List (List Int)) (w_:List Int):Option (List (List Int)) :=
 (R02_place l_ w_).bind fun c51=>(cond (decide (c51<(↑(List.length l_):Int))) (idx l_ c51 fun e59=>(R01_Same e59 w_).bind fun c60=>some c60) (some false):Option (Bool)).bind (fun (y57:Bool)=>cond (y57) (some l_) (chk (capOk (List.length l_+1) 24) (chk (inR ((↑(List.length (l_++[[]])):Int)-1)) ((iter (fun (s:List (List Int)×Int)=>R02_with.s2 c51 s.1 s.2) fuel ((l_++[[]]),((↑(List.length (l_++[[]])):Int)-1)):Option (List (List Int))).bind (fun (y87:List (List Int))=>chk (capOk (List.length ([]:List Unit)+List.length w_) 8) (idx y87 c51 fun e111=>some (List.set y87 c51.toNat ([]++w_))))))))
def R02_Sorted.s2 (l_:List (List Int)) (y70:List (List Int)) (i71:Nat):Option ((List (List Int)×Nat)⊕List (List Int)) :=
 cond (decide ((↑i71:Int)<(↑(List.length l_):Int))) (idxn l_ i71 fun e77=>(R02_with y70 e77).bind fun c78=>some (.inl (c78,(i71+1)))) (some (.inr y70))
def R02_Sorted (l_:List (List Int)):Option (List (List Int)) :=
 (iter (fun (s:List (List Int)×Nat)=>R02_Sorted.s2 l_ s.1 s.2) fuel ([],0):Option (List (List Int))).bind (fun (y66:List (List Int))=>some y66)
def R02_Maximal.s13 (c51:List (List Int)) (i308:Nat) (top412:Bool) (k413:Nat):Option ((Bool×Nat)⊕Bool) :=
 cond (decide ((↑k413:Int)<(↑(List.length c51):Int))) (cond (top412) (idxn c51 k413 fun e425=>idxn c51 i308 fun e426=>cond (decide ((↑(List.length e425):Int)=(↑(List.length e426):Int))) (some (.inl (true,(k413+1)))) (idxn c51 k413 fun e428=>idxn c51 i308 fun e429=>(R01_HasPrefix e428 e429).bind fun c430=>some (.inl ((!c430),(k413+1))))) (some (.inl (false,(k413+1))))) (some (.inr top412))
def R02_Maximal.s14 (c51:List (List Int)) (y307:List (List Int)) (i308:Nat):Option ((List (List Int)×Nat)⊕List (List Int)) :=
 cond (decide ((↑i308:Int)<(↑(List.length c51):Int))) ((iter (fun (s:Bool×Nat)=>R02_Maximal.s13 c51 i308 s.1 s.2) fuel (true,(i308+1)):Option (Bool)).bind (fun (top404:Bool)=>cond (top404) (idxn c51 i308 fun e436=>chk (capOk (List.length y307+1) 24) (some (.inl ((y307++[e436]),(i308+1))))) (some (.inl (y307,(i308+1)))))) (some (.inr y307))
def R02_Maximal (l_:List (List Int)):Option (List (List Int)) :=
 (R02_Sorted l_).bind fun c51=>(iter (fun (s:List (List Int)×Nat)=>R02_Maximal.s14 c51 s.1 s.2) fuel ([],0):Option (List (List Int))).bind (fun (y246:List (List Int))=>some y246)
def R20_Plan.s2 (o_:T_api_Obs) (queries_:List (List Int)) (y82:List (List Int)) (i83:Nat):Option ((List (List Int)×Nat)⊕List (List Int)) :=
 cond (decide ((↑i83:Int)<(↑(List.length queries_):Int))) (idxn queries_ i83 fun e92=>(R16_Answer o_ e92).bind fun c93=>cond ((!c93.2)) (idxn queries_ i83 fun e95=>chk (capOk (List.length y82+1) 24) (some (.inl ((y82++[e95]),(i83+1))))) (some (.inl (y82,(i83+1))))) (some (.inr y82))
def R20_Plan (o_:T_api_Obs) (queries_:List (List Int)):Option (List (List Int)×Int) :=
 (R20_check queries_ o_.Inputs).bind fun c51=>cond (decide (c51≠0)) (some ([],c51)) ((iter (fun (s:List (List Int)×Nat)=>R20_Plan.s2 o_ queries_ s.1 s.2) fuel ([],0):Option (List (List Int))).bind (fun (y76:List (List Int))=>(R02_Maximal y76).bind fun c100=>some (c100,0)))
def R21_All.s2 (q_:T_api_Oracle) (words_:List (List Int)) (i76:Nat):Option (Nat⊕(Unit⊕(T_api_Oracle×Int))) :=
 cond (decide ((↑i76:Int)<(↑(List.length words_):Int))) (idxn words_ i76 fun e83=>(R01_Check e83 q_.Device.M.Inputs).bind fun c84=>cond (decide (c84≠0)) (some (.inr (.inr (q_,c84)))) (some (.inl (i76+1)))) (some (.inr (.inl ())))
def R21_All.s4 (c96:List (List Int)×Int) (y164:Int) (y165:Int) (y166:List (List Int)) (y167:List (List Int)) (y168:Int) (y169:Bool) (y170:List Int) (y171:Int) (y172:Int) (y173:Int) (y174:Int) (y175:Int) (y176:Int) (y177:Int) (y178:Int) (y179:Int) (y180:List T_api_Trace) (y181:Int) (y182:Int) (y183:Int) (y184:Int) (i185:Nat):Option ((Int×Int×List (List Int)×List (List Int)×Int×Bool×List Int×Int×Int×Int×Int×Int×Int×Int×Int×Int×List T_api_Trace×Int×Int×Int×Int×Nat)⊕((Int×Int×List (List Int)×List (List Int)×Int×Bool×List Int×Int×Int×Int×Int×Int×Int×Int×Int×Int×List T_api_Trace×Int×Int×Int×Int)⊕(T_api_Oracle×Int))) :=
 cond (decide ((↑i185:Int)<(↑(List.length c96.1):Int))) (idxn c96.1 i185 fun e192=>(R21_Ask (⟨(⟨(⟨y164,y165,y166,y167⟩:T_api_Mealy),y168,y169,(⟨y170,y171⟩:T_api_Latency),(⟨y172,y173,y174⟩:T_api_Faults),y175,y176,y177,y178⟩:T_api_Device),(⟨y179,y180⟩:T_api_Obs),y181,y182,y183,y184⟩:T_api_Oracle) e192).bind fun c193=>cond (decide (c193.2.2≠0)) (some (.inr (.inr (c193.1,c193.2.2)))) (some (.inl (c193.1.Device.M.Inputs,c193.1.Device.M.Start,c193.1.Device.M.Next,c193.1.Device.M.Out,c193.1.Device.State,c193.1.Device.Ready,c193.1.Device.Latency.Step,c193.1.Device.Latency.Reset,c193.1.Device.Faults.Lost,c193.1.Device.Faults.Wrong,c193.1.Device.Faults.Crash,c193.1.Device.Seed,c193.1.Device.Steps,c193.1.Device.Resets,c193.1.Device.Time,c193.1.Obs.Inputs,c193.1.Obs.Traces,c193.1.Votes,c193.1.Tries,c193.1.Asked,c193.1.Hits,(i185+1))))) (some (.inr (.inl (y164,y165,y166,y167,y168,y169,y170,y171,y172,y173,y174,y175,y176,y177,y178,y179,y180,y181,y182,y183,y184))))
def R21_All.k5 (y139:Int) (y140:Int) (y141:List (List Int)) (y142:List (List Int)) (y143:Int) (y144:Bool) (y145:List Int) (y146:Int) (y147:Int) (y148:Int) (y149:Int) (y150:Int) (y151:Int) (y152:Int) (y153:Int) (y154:Int) (y155:List T_api_Trace) (y156:Int) (y157:Int) (y158:Int) (y159:Int):Option (T_api_Oracle×Int) :=
 some ((⟨(⟨(⟨y139,y140,y141,y142⟩:T_api_Mealy),y143,y144,(⟨y145,y146⟩:T_api_Latency),(⟨y147,y148,y149⟩:T_api_Faults),y150,y151,y152,y153⟩:T_api_Device),(⟨y154,y155⟩:T_api_Obs),y156,y157,y158,y159⟩:T_api_Oracle),0)
def R21_All (q_:T_api_Oracle) (words_:List (List Int)):Option (T_api_Oracle×Int) :=
 cond (decide (10000<(↑(List.length words_):Int))) (some (q_,11)) ((iter (fun (s:Nat)=>R21_All.s2 q_ words_ s) fuel 0:Option (Unit⊕(T_api_Oracle×Int))).bind (Sum.elim (fun (_:Unit)=>(R20_Plan q_.Obs words_).bind fun c96=>cond (decide (c96.2≠0)) (some (q_,c96.2)) ((iter (fun (s:Int×Int×List (List Int)×List (List Int)×Int×Bool×List Int×Int×Int×Int×Int×Int×Int×Int×Int×Int×List T_api_Trace×Int×Int×Int×Int×Nat)=>R21_All.s4 c96 s.1 s.2.1 s.2.2.1 s.2.2.2.1 s.2.2.2.2.1 s.2.2.2.2.2.1 s.2.2.2.2.2.2.1 s.2.2.2.2.2.2.2.1 s.2.2.2.2.2.2.2.2.1 s.2.2.2.2.2.2.2.2.2.1 s.2.2.2.2.2.2.2.2.2.2.1 s.2.2.2.2.2.2.2.2.2.2.2.1 s.2.2.2.2.2.2.2.2.2.2.2.2.1 s.2.2.2.2.2.2.2.2.2.2.2.2.2.1 s.2.2.2.2.2.2.2.2.2.2.2.2.2.2.1 s.2.2.2.2.2.2.2.2.2.2.2.2.2.2.2.1 s.2.2.2.2.2.2.2.2.2.2.2.2.2.2.2.2.1 s.2.2.2.2.2.2.2.2.2.2.2.2.2.2.2.2.2.1 s.2.2.2.2.2.2.2.2.2.2.2.2.2.2.2.2.2.2.1 s.2.2.2.2.2.2.2.2.2.2.2.2.2.2.2.2.2.2.2.1 s.2.2.2.2.2.2.2.2.2.2.2.2.2.2.2.2.2.2.2.2.1 s.2.2.2.2.2.2.2.2.2.2.2.2.2.2.2.2.2.2.2.2.2) fuel (q_.Device.M.Inputs,q_.Device.M.Start,q_.Device.M.Next,q_.Device.M.Out,q_.Device.State,q_.Device.Ready,q_.Device.Latency.Step,q_.Device.Latency.Reset,q_.Device.Faults.Lost,q_.Device.Faults.Wrong,q_.Device.Faults.Crash,q_.Device.Seed,q_.Device.Steps,q_.Device.Resets,q_.Device.Time,q_.Obs.Inputs,q_.Obs.Traces,q_.Votes,q_.Tries,q_.Asked,q_.Hits,0):Option ((Int×Int×List (List Int)×List (List Int)×Int×Bool×List Int×Int×Int×Int×Int×Int×Int×Int×Int×Int×List T_api_Trace×Int×Int×Int×Int)⊕(T_api_Oracle×Int))).bind (Sum.elim (fun (s:Int×Int×List (List Int)×List (List Int)×Int×Bool×List Int×Int×Int×Int×Int×Int×Int×Int×Int×Int×List T_api_Trace×Int×Int×Int×Int)=>R21_All.k5 s.1 s.2.1 s.2.2.1 s.2.2.2.1 s.2.2.2.2.1 s.2.2.2.2.2.1 s.2.2.2.2.2.2.1 s.2.2.2.2.2.2.2.1 s.2.2.2.2.2.2.2.2.1 s.2.2.2.2.2.2.2.2.2.1 s.2.2.2.2.2.2.2.2.2.2.1 s.2.2.2.2.2.2.2.2.2.2.2.1 s.2.2.2.2.2.2.2.2.2.2.2.2.1 s.2.2.2.2.2.2.2.2.2.2.2.2.2.1 s.2.2.2.2.2.2.2.2.2.2.2.2.2.2.1 s.2.2.2.2.2.2.2.2.2.2.2.2.2.2.2.1 s.2.2.2.2.2.2.2.2.2.2.2.2.2.2.2.2.1 s.2.2.2.2.2.2.2.2.2.2.2.2.2.2.2.2.2.1 s.2.2.2.2.2.2.2.2.2.2.2.2.2.2.2.2.2.2.1 s.2.2.2.2.2.2.2.2.2.2.2.2.2.2.2.2.2.2.2.1 s.2.2.2.2.2.2.2.2.2.2.2.2.2.2.2.2.2.2.2.2) some))) some))
def L21_OracleAll (q_:T_api_Oracle) (words_:List (List Int)):Option (Bool) :=
 ((L21_Great q_).bind fun c59=>cond (c59) (some true) ((L21_long words_).bind fun c61=>cond (c61) (some true) ((R21_Valid q_).bind fun c63=>some (!c63))):Option (Bool)).bind (fun (y58:Bool)=>cond (y58) ((L21_awake).bind fun c66=>some c66) ((oracle_All q_ words_).bind fun c67=>(R21_All q_ words_).bind fun c68=>((R21_Same c67.1 c68.1).bind fun c76=>cond (c76) (cond (decide (c67.2=c68.2)) ((L21_awake).bind fun c79=>some c79) (some false)) (some false):Option (Bool)).bind (fun (y75:Bool)=>some y75)))
end Go.Proofs.YtajipjnfegmlcaaGreatDoor.Sym

/-
 Laws of rounds: what a loop comes to, in plain words. No program in sight.
-/
namespace Go.Proofs.YtajipjnfegmlcaaGreatDoor.Sym
section
variable {S R A B α β:Type}
theorem iter_post {step:S→Option (S⊕R)} (I:S→Prop) (m:S→Nat) (Q:R→Prop) (h:∀ s,I s→(∃ s',step s=some (.inl s')∧I s'∧m s'<m s)∨∃ r,step s=some (.inr r)∧Q r) :
  ∀ (n:Nat) (s:S),I s→m s<n→∃ r,iter step n s=some r∧Q r
 | 0,_,_,hm=>absurd hm (Nat.not_lt_zero _)
 | n+1,s,hi,hm=>by
  unfold iter
  rcases h s hi with ⟨s',e,hi',hm'⟩ | ⟨r,e,hq⟩
  ·rw [e]
   exact iter_post I m Q h n s' hi' (by omega)
  ·rw [e]
   exact ⟨r,rfl,hq⟩
theorem iter_eq {step:S→Option (S⊕R)} {r:R} (I:S→Prop) (m:S→Nat) (h:∀ s,I s→(∃ s',step s=some (.inl s')∧I s'∧m s'<m s)∨step s=some (.inr r)) {n:Nat} {s:S} (hi:I s) (hm:m s<n):iter step n s=some r:=by
 obtain ⟨r',e,rfl⟩:=iter_post I m (fun r'=>r'=r) (fun s hs=>(h s hs).imp id fun e=>⟨r,e,rfl⟩) n s hi hm
 exact e
def walk (g:A→Nat→α→Option (A⊕R)) (fin:A→Option R):A→Nat→List α→Option R
 | a,_,[]=>fin a
 | a,i,x::l=>(g a i x).bind (Sum.elim (fun a'=>walk g fin a' (i+1) l) some)
theorem idxn_at {l:List α} {i:Nat} {x:α} {k:α→Option β} (h:l[i]?=some x):idxn l i k=k x:=by unfold idxn;rw [h]
theorem idx_at {l:List α} {n:Int} {i:Nat} {x:α} {k:α→Option β} (hn:n=(i:Int)) (h:l[i]?=some x):idx l n k=k x:=by
 subst hn
 unfold idx
 rw [if_pos (by omega),Int.toNat_natCast,h]
theorem chk_pos {c:Prop} [Decidable c] {k:Option α} (h:c):chk c k=k:=by unfold chk;rw [if_pos h]
theorem obind {a:α} {f:α→Option β}:(some a).bind f=f a:=(Option.bind_some a f).trans (Eq.trans rfl rfl)
theorem fuel_big:100000000000000<fuel:=by unfold fuel;omega
theorem dec_lt {l:List α} {i:Nat} {x:α} (h:l[i]?=some x):decide ((↑i:Int)<(↑l.length:Int))=true:=by
 have:=(List.getElem?_eq_some_iff.1 h).1
 simpa using this
theorem dec_end (l:List α):decide ((↑l.length:Int)<(↑l.length:Int))=false:=by simp
def scan (g:Nat→α→Option R):Nat→List α→Option R
 | _,[]=>none
 | i,x::l=>match g i x with | some r=>some r | none=>scan g (i+1) l
theorem scan_none {g:Nat→α→Option R}:∀ {l:List α} {j:Nat},scan g j l=none↔∀ i x,l[i]?=some x→g (j+i) x=none
 | [],j=>by simp [scan]
 | y::l,j=>by
  constructor
  ·intro h i x hx
   unfold scan at h
   cases e:g j y with
   | some r=>rw [e] at h;cases h
   | none =>
    rw [e] at h
    match i,hx with
    | 0,hx =>
     simp at hx
     subst hx
     exact e
    | i+1,hx =>
     have:=(scan_none (g:=g) (l:=l) (j:=j+1)).1 h i x (by simpa using hx)
     rwa [show j+1+i=j+(i+1) by omega] at this
  ·intro h
   unfold scan
   have h0:=h 0 y rfl
   rw [Nat.add_zero] at h0
   rw [h0]
   exact (scan_none (g:=g) (l:=l) (j:=j+1)).2 fun i x hx=>by
    have:=h (i+1) x (by simpa using hx)
    rwa [show j+(i+1)=j+1+i by omega] at this
theorem iter_scan {step:Nat→Option (Nat⊕(Unit⊕R))} {l:List α} (g:Nat→α→Option R) (h1:∀ i x,l[i]?=some x→step i=some (match g i x with | some r=>.inr (.inr r) | none=>.inl (i+1))) (h2:step l.length=some (.inr (.inl ()))) (hl:l.length≤100000000000000) :
  iter step fuel 0=some (match scan g 0 l with | some r=>.inr r | none=>.inl ()):=by
 have key:∀ (n i:Nat),i≤l.length→l.length-i<n→iter step n i=some (match scan g i (l.drop i) with | some r=>.inr r | none=>.inl ()):=by
  intro n
  induction n with
  | zero=>intro i _ h;omega
  | succ n ih =>
   intro i hi hn
   rcases Nat.lt_or_ge i l.length with h | h
   ·rw [List.drop_eq_getElem_cons h]
    unfold iter scan
    rw [h1 i _ (List.getElem?_eq_getElem h)]
    cases g i l[i] with
    | some r=>rfl
    | none=>exact ih (i+1) h (by omega)
   ·have e:i=l.length:=by omega
    subst e
    rw [List.drop_length]
    unfold iter scan
    rw [h2]
 exact key fuel 0 (Nat.zero_le _) (by have:=fuel_big;omega)
end
end Go.Proofs.YtajipjnfegmlcaaGreatDoor.Sym

/-
 The comparisons of words are what they say; they may be handed to a sort.
-/
namespace Go.Proofs.YtajipjnfegmlcaaGreatDoor.Sym
open Go.RowKit
set_option maxRecDepth 100000
theorem cmp_Compare_int_eq (x y:Int):cmp_Compare_int x y=some (cmpI x y):=by
 unfold cmp_Compare_int cmp_isNaN_int cmpI
 by_cases h1:x<y
 ·simp [h1]
 ·by_cases h2:y<x<;>simp [h1,h2]
theorem slices_Compare_eq (s t:List Int) (hs:s.length≤100000000000000):slices_Compare_Sint_int s t=some (lexI s t):=by
 have key:=iter_post (step:=fun k=>slices_Compare_Sint_int.s2 s t k) (fun k=>k≤s.length∧k≤t.length∧lexI s t=lexI (s.drop k) (t.drop k)) (fun k=>s.length-k)
  (fun r=>Sum.elim (fun (_:Unit)=>cond (decide ((↑(List.length s):Int)<(↑(List.length t):Int))) (some (-1:Int)) (some 0)) some r=some (lexI s t)) (fun k ⟨h1,h2,h3⟩=>by
   unfold slices_Compare_Sint_int.s2
   rcases Nat.lt_or_ge k s.length with h | h
   ·have hx:=List.getElem?_eq_getElem h
    rw [dec_lt hx,cond_true,idxn_at hx]
    by_cases h4:t.length≤k
    ·right
     refine ⟨.inr 1,by simp [h4],?_⟩
     rw [h3,lexI_long h h4]
     rfl
    ·have hy:=List.getElem?_eq_getElem (show k<t.length by omega)
     have hst:=lexI_step hx hy
     have d4:decide ((↑(List.length t):Int)≤(↑k:Int))=false:=by simp;omega
     rw [d4,cond_false,idxn_at hy,cmp_Compare_int_eq]
     by_cases h5:cmpI s[k] t[k]=0
     ·left
      rw [if_pos h5] at hst
      exact ⟨k+1,by simp [h5],⟨by omega,by omega,by rw [h3,hst]⟩,by omega⟩
     ·right
      rw [if_neg h5] at hst
      exact ⟨.inr (cmpI s[k] t[k]),by simp [h5],by rw [h3,hst];rfl⟩
   ·right
    have e:k=s.length:=by omega
    subst e
    rw [dec_end,cond_false]
    refine ⟨.inl (),rfl,?_⟩
    rw [h3,lexI_end (Nat.le_refl _)]
    by_cases h4:s.length<t.length<;>simp [h4]) fuel 0 ⟨Nat.zero_le _,Nat.zero_le _,rfl⟩ (by have:=fuel_big;simp only [Nat.sub_zero];omega)
 obtain ⟨r,e,hq⟩:=key
 unfold slices_Compare_Sint_int
 rw [e]
 exact hq
theorem cmp_Or_two (x y:Int):cmp_Or_int [x,y]=some (if x≠0 then x else y):=by
 unfold cmp_Or_int
 have e:fuel=(fuel-3)+1+1+1:=by unfold fuel;omega
 rw [e]
 by_cases h1:x=0
 ·by_cases h2:y=0
  ·simp [iter,cmp_Or_int.s2,idxn,h1,h2]
  ·simp [iter,cmp_Or_int.s2,idxn,h1,h2]
 ·simp [iter,cmp_Or_int.s2,idxn,h1]
theorem word_Lex_eq (s t:List Int) (hs:s.length≤100000000000000):word_Lex s t=some (lexI s t):=by
 unfold word_Lex
 rw [slices_Compare_eq s t hs]
 rfl
theorem word_Compare_eq (s t:List Int) (hs:s.length≤100000000000000):word_Compare s t=some (cmpW s t):=by
 unfold word_Compare
 rw [slices_Compare_eq s t hs,cmp_Compare_int_eq]
 show (cmp_Or_int [cmpI s.length t.length,lexI s t]).bind some=_
 rw [cmp_Or_two]
 show some _=some _
 congr 1
 unfold cmpI cmpW
 by_cases h1:s.length<t.length
 ·simp [h1]
 ·by_cases h2:t.length<s.length
  ·simp [h1,h2]
  ·simp [h1,h2]
theorem cmpE_word_Lex:CmpE Tryz.prog 91 (fun x=>nL cI x) (fun x y=>word_Lex x y) :=
 ⟨fun args w=>run_enter rfl rfl rfl args w,cmpG_lex fun x y r hx h=>by rw [word_Lex_eq x y (by omega)] at h;injection h with h;exact h.symm⟩
theorem cmpE_word_Compare:CmpE Tryz.prog 111 (fun x=>nL cI x) (fun x y=>word_Compare x y) :=
 ⟨fun args w=>run_enter rfl rfl rfl args w,cmpG_compare fun x y r hx h=>by rw [word_Compare_eq x y (by omega)] at h;injection h with h;exact h.symm⟩
end Go.Proofs.YtajipjnfegmlcaaGreatDoor.Sym

/-
 What the basic functions on words come to: plain laws.
-/
namespace Go.Proofs.YtajipjnfegmlcaaGreatDoor.Sym
set_option maxRecDepth 100000
section
variable {α β R:Type}
theorem get_at {l:List α} {i:Nat} (h:i<l.length):l[i]?=some l[i]:=List.getElem?_eq_getElem h
theorem iter_all2 [DecidableEq α] {a b:List α} {step:Nat→Option (Nat⊕(Unit⊕Bool))} (hlen:a.length=b.length) (h1:∀ i x y,a[i]?=some x→b[i]?=some y→step i=some (if x=y then .inl (i+1) else .inr (.inr false)))
  (h2:step a.length=some (.inr (.inl ()))) (hl:a.length≤100000000000000):(iter step fuel 0).bind (Sum.elim (fun _=>some true) some)=some (decide (a=b)):=by
 rw [iter_scan (l:=a) (fun i x=>if b[i]?=some x then none else some false) (fun i x hx=>?_) h2 hl]
 ·cases e:scan (fun i x=>if b[i]?=some x then none else some false) 0 a with
  | none =>
   have:=scan_none.1 e
   have hab:a=b:=by
    apply List.ext_getElem?
    intro i
    rcases Nat.lt_or_ge i a.length with h | h
    ·have h3:=this i _ (get_at h)
     rw [Nat.zero_add] at h3
     split at h3
     ·rename_i h4
      rw [get_at h,h4]
     ·cases h3
    ·rw [List.getElem?_eq_none h,List.getElem?_eq_none (by omega)]
   simp [hab]
  | some r =>
   have hne:a≠b:=fun hab=>by
    subst hab
    have:scan (fun i x=>if a[i]?=some x then none else some false) 0 a=none:=scan_none.2 fun i x hx=>by rw [Nat.zero_add,if_pos hx]
    rw [this] at e
    cases e
   have hr:r=false:=by
    have key:∀ (l:List α) (j:Nat),scan (fun i x=>if b[i]?=some x then none else some false) j l=some r→r=false:=by
     intro l
     induction l with
     | nil=>intro j h;cases h
     | cons x l ih =>
      intro j h
      unfold scan at h
      split at h
      ·rename_i r' h3
       injection h with h
       subst h
       split at h3
       ·cases h3
       ·injection h3 with h3
        exact h3.symm
      ·exact ih _ h
    exact key a 0 e
   subst hr
   simp [hne]
 ·have hi:=(List.getElem?_eq_some_iff.1 hx).1
  have hy:=get_at (l:=b) (i:=i) (by omega)
  rw [h1 i x _ hx hy]
  by_cases h:x=b[i]'(by omega)
  ·rw [if_pos h,hy,if_pos (by rw [h])]
  ·rw [if_neg h,hy,if_neg (fun h3=>h (by injection h3 with h3;exact h3.symm))]
end
theorem R06_Ints_eq (a b:List Int) (hl:a.length≤100000000000000):R06_Ints a b=some (decide (a=b)):=by
 unfold R06_Ints
 by_cases hlen:a.length=b.length
 ·rw [show decide ((↑(List.length a):Int)≠(↑(List.length b):Int))=false by simp [hlen],cond_false]
  refine iter_all2 hlen (fun i x y hx hy=>?_) ?_ hl
  ·simp only [R06_Ints.s2]
   rw [dec_lt hx,cond_true,idxn_at hx,idxn_at hy]
   by_cases h:x=y<;>simp [h]
  ·simp only [R06_Ints.s2]
   rw [dec_end]
   rfl
 ·rw [show decide ((↑(List.length a):Int)≠(↑(List.length b):Int))=true by simp;omega,cond_true]
  have:a≠b:=fun h=>hlen (by rw [h])
  simp [this]
theorem R06_Lists_eq (a b:List (List Int)) (hl:a.length≤100000000000000) (hw:∀ x∈a,x.length≤100000000000000):R06_Lists a b=some (decide (a=b)):=by
 unfold R06_Lists
 by_cases hlen:a.length=b.length
 ·rw [show decide ((↑(List.length a):Int)≠(↑(List.length b):Int))=false by simp [hlen],cond_false]
  refine iter_all2 hlen (fun i x y hx hy=>?_) ?_ hl
  ·simp only [R06_Lists.s2]
   rw [dec_lt hx,cond_true,idxn_at hx,idxn_at hy,R06_Ints_eq x y (hw x (List.mem_of_getElem? hx))]
   by_cases h:x=y<;>simp [h]
  ·simp only [R06_Lists.s2]
   rw [dec_end]
   rfl
 ·rw [show decide ((↑(List.length a):Int)≠(↑(List.length b):Int))=true by simp;omega,cond_true]
  have:a≠b:=fun h=>hlen (by rw [h])
  simp [this]
def SmW (x:List Int):Prop:=x.length≤2000000
def SmL (l:List (List Int)):Prop:=l.length≤2000000∧∀ x∈l,SmW x
theorem R01_Size_eq (n:Int):R01_Size n=some (decide (1≤n∧n≤1024)):=by
 unfold R01_Size
 by_cases h1:1≤n<;>by_cases h2:n≤1024<;>simp [h1,h2]
theorem word_permitted_eq (n:Int):word_permitted n=some (decide (1≤n∧n≤1024)):=by
 unfold word_permitted
 by_cases h1:1≤n<;>by_cases h2:n≤1024<;>simp [h1,h2]
theorem scan_all {α R:Type} {p:α→Bool} {r:R}:∀ (l:List α) (j:Nat),scan (fun _ x=>if p x=true then none else some r) j l=if l.all p=true then none else some r
 | [],_=>rfl
 | x::l,j=>by
  unfold scan
  by_cases h:p x=true
  ·simp only [h,if_true,List.all_cons,Bool.true_and]
   exact scan_all l (j+1)
  ·simp [h]
theorem R01_Check_eq (w:List Int) (n:Int) (hl:SmW w):R01_Check w n=some (checkI w n):=by
 unfold R01_Check checkI
 rw [R01_Size_eq]
 by_cases h1:1≤n∧n≤1024
 ·rw [if_pos h1]
  simp only [Option.bind_some,h1,and_self,decide_true,Bool.not_true,cond_false]
  by_cases h2:1024<w.length
  ·rw [if_pos h2,show decide ((1024:Int)<(↑(List.length w):Int))=true from decide_eq_true (by omega),cond_true]
  ·rw [if_neg h2,show decide ((1024:Int)<(↑(List.length w):Int))=false from decide_eq_false (by omega),cond_false]
   have key:=iter_scan (step:=fun s=>R01_Check.s2 w n s) (l:=w) (fun _ x=>if decide (0≤x∧x<n)=true then none else some (1:Int)) (fun i x hx=>by
    simp only [R01_Check.s2]
    rw [dec_lt hx,cond_true,idxn_at hx,idxn_at hx]
    by_cases a1:x<0
    ·simp [a1,show ¬ (0≤x) by omega]
    ·by_cases a2:n≤x
     ·simp [a1,a2,show ¬ (x<n) by omega]
     ·simp [a1,a2,show 0≤x by omega,show x<n by omega]) (by
    simp only [R01_Check.s2]
    rw [dec_end]
    rfl) (by unfold SmW at hl;omega)
   rw [key,scan_all (p:=fun x=>decide (0≤x∧x<n))]
   by_cases h:(w.all fun x=>decide (0≤x∧x<n))=true
   ·rw [if_pos h,if_pos h];rfl
   ·rw [if_neg h,if_neg h];rfl
 ·rw [if_neg h1]
  simp [h1]
theorem word_Check_eq (w:List Int) (n:Int) (hl:SmW w):word_Check w n=some (checkI w n):=by
 unfold word_Check checkI slices_ContainsFunc_Sint_int_n1 slices_IndexFunc_Sint_int_n1
 rw [word_permitted_eq]
 by_cases h1:1≤n∧n≤1024
 ·rw [if_pos h1]
  simp only [Option.bind_some,h1,and_self,decide_true,Bool.not_true,cond_false]
  by_cases h2:1024<w.length
  ·rw [if_pos h2,show decide ((1024:Int)<(↑(List.length w):Int))=true from decide_eq_true (by omega),cond_true]
  ·rw [if_neg h2,show decide ((1024:Int)<(↑(List.length w):Int))=false from decide_eq_false (by omega),cond_false]
   have key:=iter_scan (step:=fun s=>slices_IndexFunc_Sint_int_n1.s2 w (fun u0=>word_Check_1 u0 n) s) (l:=w) (fun i x=>if decide (0≤x∧x<n)=true then none else some (i:Int)) (fun i x hx=>by
    simp only [slices_IndexFunc_Sint_int_n1.s2,word_Check_1]
    rw [dec_lt hx,cond_true,idxn_at hx]
    by_cases a1:x<0
    ·simp [a1,show ¬ (0≤x) by omega]
    ·by_cases a2:n≤x
     ·simp [a1,a2,show ¬ (x<n) by omega]
     ·simp [a1,a2,show 0≤x by omega,show x<n by omega]) (by
    simp only [slices_IndexFunc_Sint_int_n1.s2]
    rw [dec_end]
    rfl) (by unfold SmW at hl;omega)
   rw [key]
   cases e:scan (fun i x=>if decide (0≤x∧x<n)=true then none else some (i:Int)) 0 w with
   | none =>
    have h3:=scan_none.1 e
    have h:(w.all fun x=>decide (0≤x∧x<n))=true:=List.all_eq_true.2 fun x hx=>by
     obtain ⟨i,hi,rfl⟩:=List.mem_iff_getElem.1 hx
     have:=h3 i _ (get_at hi)
     split at this
     ·assumption
     ·cases this
    rw [if_pos h]
    simp
   | some r =>
    have h:¬ (w.all fun x=>decide (0≤x∧x<n))=true:=fun h=>by
     have:scan (fun i x=>if decide (0≤x∧x<n)=true then none else some (i:Int)) 0 w=none:=scan_none.2 fun i x hx=>if_pos (List.all_eq_true.1 h x (List.mem_of_getElem? hx))
     rw [this] at e
     cases e
    have hr:0≤r:=by
     have key:∀ (l:List Int) (j:Nat),scan (fun i x=>if decide (0≤x∧x<n)=true then none else some (i:Int)) j l=some r→0≤r:=by
      intro l
      induction l with
      | nil=>intro j h;cases h
      | cons x l ih =>
       intro j h
       unfold scan at h
       split at h
       ·rename_i r' h3
        injection h with h
        subst h
        split at h3
        ·cases h3
        ·injection h3 with h3
         omega
       ·exact ih _ h
     exact key w 0 e
    rw [if_neg h]
    simp [hr]
 ·rw [if_neg h1]
  simp [h1]
theorem R01_Common_eq (a b:List Int) (ha:SmW a):R01_Common a b=some (common a b:Int):=by
 unfold R01_Common
 rw [iter_eq (r:=common a b) (fun k=>k≤a.length∧common a b=common (a.drop k) (b.drop k)+k) (fun k=>a.length-k) (fun k ⟨h1,h2⟩=>?_) ⟨Nat.zero_le _,by simp⟩ (by have:=fuel_big;unfold SmW at ha;omega)]
 ·rfl
 ·simp only [R01_Common.s2]
  rcases Nat.lt_or_ge k a.length with h | h
  ·have hx:=get_at h
   rcases Nat.lt_or_ge k b.length with h' | h'
   ·have hy:=get_at h'
    rw [dec_lt hx,dec_lt hy,cond_true,cond_true,idxn_at hx,idxn_at hy]
    rw [List.drop_eq_getElem_cons h,List.drop_eq_getElem_cons h'] at h2
    by_cases e:a[k]=b[k]
    ·left
     unfold SmW at ha
     refine ⟨k+1,?_,⟨h,?_⟩,by omega⟩
     ·rw [chk_pos (by unfold inR;omega)]
      simp [e]
     ·rw [h2,e]
      simp [common]
      omega
    ·right
     simp only [common,e,if_false,Nat.zero_add] at h2
     simp [e,h2]
   ·right
    rw [dec_lt hx,cond_true,show decide ((↑k:Int)<(↑(List.length b):Int))=false by simp;omega]
    rw [common_end (Or.inr h'),Nat.zero_add] at h2
    simp [h2]
  ·right
   rw [show decide ((↑k:Int)<(↑(List.length a):Int))=false by simp;omega]
   rw [common_end (Or.inl h),Nat.zero_add] at h2
   simp [h2]
theorem R01_Same_eq (a b:List Int) (ha:SmW a):R01_Same a b=some (decide (a=b)):=by
 unfold R01_Same
 rw [R01_Common_eq a b ha]
 have h:=same_iff a b
 by_cases h1:a.length=b.length
 ·rw [show decide ((↑(List.length a):Int)=(↑(List.length b):Int))=true from decide_eq_true (by omega),cond_true]
  by_cases h2:common a b=a.length
  ·have:a=b:=h.1 ⟨h1,h2⟩
   subst this
   simp [common_self]
  ·have:a≠b:=fun e=>h2 (h.2 e).2
   simp only [Option.bind_some,this,decide_false]
   rw [decide_eq_false (by omega)]
 ·have:a≠b:=fun e=>h1 (by rw [e])
  rw [show decide ((↑(List.length a):Int)=(↑(List.length b):Int))=false from decide_eq_false (by omega),cond_false]
  simp [this]
theorem R01_Lex_eq (a b:List Int) (ha:SmW a):R01_Lex a b=some (lexI a b):=by
 unfold R01_Lex
 rw [R01_Common_eq a b ha]
 have hle:=common_le a b
 have hlc:=lexI_common a b
 rw [hlc]
 simp only [Option.bind_some]
 by_cases h1:common a b=a.length
 ·rw [show decide ((↑(common a b):Int)=↑a.length)=true from decide_eq_true (by omega),cond_true,cond_true]
  by_cases h2:common a b=b.length
  ·rw [show decide ((↑(common a b):Int)=↑b.length)=true from decide_eq_true (by omega),if_pos ⟨h1,h2⟩]
   rfl
  ·rw [show decide ((↑(common a b):Int)=↑b.length)=false from decide_eq_false (by omega),if_neg (fun h=>h2 h.2),if_pos (Or.inl h1)]
   rfl
 ·rw [show decide ((↑(common a b):Int)=↑a.length)=false from decide_eq_false (by omega),cond_false,cond_false,if_neg (fun h=>h1 h.1)]
  by_cases h2:common a b=b.length
  ·rw [show decide ((↑(common a b):Int)<(↑(List.length b):Int))=false from decide_eq_false (by omega),if_neg (fun h=>by omega)]
   rfl
  ·have hx:=get_at (l:=a) (i:=common a b) (by omega)
   have hy:=get_at (l:=b) (i:=common a b) (by omega)
   rw [show decide ((↑(common a b):Int)<(↑(List.length b):Int))=true from decide_eq_true (by omega),cond_true,idx_at rfl hx,idx_at rfl hy]
   rw [List.getD_eq_getElem?_getD,List.getD_eq_getElem?_getD,hx,hy]
   by_cases h3:a[common a b]'(by omega)<b[common a b]'(by omega)
   ·rw [if_pos (Or.inr ⟨by omega,h3⟩)]
    simp [h3]
   ·rw [if_neg (fun h=>by
     rcases h with h | ⟨_,h⟩
     ·omega
     ·exact h3 h)]
    simp [h3]
theorem R01_Compare_eq (a b:List Int) (ha:SmW a):R01_Compare a b=some (cmpW a b):=by
 unfold R01_Compare cmpW
 rw [R01_Lex_eq a b ha]
 by_cases h1:a.length<b.length
 ·rw [show decide ((↑(List.length a):Int)<(↑(List.length b):Int))=true from decide_eq_true (by omega),if_pos h1]
  rfl
 ·rw [show decide ((↑(List.length a):Int)<(↑(List.length b):Int))=false from decide_eq_false (by omega),if_neg h1,cond_false]
  by_cases h2:b.length<a.length
  ·rw [show decide ((↑(List.length b):Int)<(↑(List.length a):Int))=true from decide_eq_true (by omega),if_pos h2]
   rfl
  ·rw [show decide ((↑(List.length b):Int)<(↑(List.length a):Int))=false from decide_eq_false (by omega),if_neg h2]
   rfl
end Go.Proofs.YtajipjnfegmlcaaGreatDoor.Sym

/-
 Plain laws on the random numbers: the mixing is one to one, so that a draw below 10000 ends after at most 1617 numbers. No program in sight.
-/
namespace Go.Proofs.YtajipjnfegmlcaaGreatDoor
def M64:Nat:=18446744073709551616
def gold:Nat:=11400714819323198485
def mulA:Nat:=13787848793156543929
def mulB:Nat:=10723151780598845931
theorem xs_lt {a k:Nat} (h:a<M64):a ^^^ (a >>> k)<M64:=by
 have h2:a >>> k<2^64:=Nat.lt_of_le_of_lt (by rw [Nat.shiftRight_eq_div_pow];exact Nat.div_le_self _ _) h
 exact Nat.xor_lt_two_pow (n:=64) h h2
theorem xs_inj {a b k:Nat} (hk:0<k) (h:a ^^^ (a >>> k)=b ^^^ (b >>> k)):a=b:=by
 have hd:(a ^^^ b) ^^^ ((a ^^^ b) >>> k)=0:=by
  rw [Nat.shiftRight_xor_distrib]
  have e:(a ^^^ b) ^^^ (a >>> k ^^^ b >>> k)=(a ^^^ (a >>> k)) ^^^ (b ^^^ (b >>> k)):=by
   rw [Nat.xor_assoc,← Nat.xor_assoc b,Nat.xor_comm b,Nat.xor_assoc (a >>> k) b,← Nat.xor_assoc]
  rw [e,h,Nat.xor_self]
 generalize hdd:a ^^^ b=d at hd
 have hz:d=d >>> k:=by
  have h1:d ^^^ (d ^^^ (d >>> k))=d:=by rw [hd,Nat.xor_zero]
  rw [← Nat.xor_assoc,Nat.xor_self,Nat.zero_xor] at h1
  exact h1.symm
 have h0:d=0:=by
  rw [Nat.shiftRight_eq_div_pow] at hz
  rcases Nat.eq_zero_or_pos d with h0 | h0
  ·exact h0
  ·have h2:1<2^k:=Nat.one_lt_two_pow (by omega)
   have:=Nat.div_lt_self h0 h2
   omega
 rw [h0] at hdd
 have h3:a ^^^ (a ^^^ b)=a:=by rw [hdd,Nat.xor_zero]
 rw [← Nat.xor_assoc,Nat.xor_self,Nat.zero_xor] at h3
 exact h3.symm
theorem mul_inj {a b c d:Nat} (hc:c*d%M64=1) (ha:a<M64) (hb:b<M64) (h:a*c%M64=b*c%M64):a=b:=by
 have key:∀ x,x<M64→x*c%M64*d%M64=x:=fun x hx=>by
  rw [Nat.mod_mul_mod,Nat.mul_assoc,Nat.mul_mod,hc,Nat.mul_one,Nat.mod_mod,Nat.mod_eq_of_lt hx]
 rw [← key a ha,h,key b hb]
def mix (y:Nat):Nat :=
 let z:=(y ^^^ (y >>> 30))*mulA%M64
 let u:=(z ^^^ (z >>> 27))*mulB%M64
 u ^^^ (u >>> 31)
theorem mix_lt (y:Nat):mix y<M64:=xs_lt (Nat.mod_lt _ (by decide))
theorem mix_inj {a b:Nat} (ha:a<M64) (hb:b<M64) (h:mix a=mix b):a=b:=by
 have h1:=xs_inj (by decide) h
 have h2:=mul_inj (d:=3573116690164977347) (by decide) (xs_lt (Nat.mod_lt _ (by decide))) (xs_lt (Nat.mod_lt _ (by decide))) h1
 have h3:=xs_inj (by decide) h2
 have h4:=mul_inj (d:=10871156337175269513) (by decide) (xs_lt ha) (xs_lt hb) h3
 exact xs_inj (by decide) h4
def stateAt (s j:Nat):Nat:=(s+j*gold)%M64
theorem stateAt_inj {s i j:Nat} (hi:i<M64) (hj:j<M64) (h:stateAt s i=stateAt s j):i=j:=by
 refine mul_inj (c:=gold) (d:=17428512612931826493) (by decide) hi hj ?_
 unfold stateAt at h
 have h1:=congrArg (fun x=>(x+(M64-s%M64))%M64) h
 simp only [Nat.mod_add_mod] at h1
 have key:∀ k:Nat,(s+k+(M64-s%M64))%M64=k%M64:=fun k=>by
  have h2:s%M64<M64:=Nat.mod_lt _ (by decide)
  have h3:=Nat.div_add_mod s M64
  have h4:s+k+(M64-s%M64)=k+M64*(s / M64+1):=by
   rw [Nat.mul_add,Nat.mul_one];omega
  rw [h4,Nat.add_mul_mod_self_left]
 rw [key,key] at h1
 exact h1
theorem few:∀ (k a:Nat) (l:List Nat),l.Nodup→(∀ x∈l,a≤x∧x<a+k)→l.length≤k
 | 0,a,l,_,h=>by
  cases l with
  | nil=>simp
  | cons x l=>have:=h x (by simp);omega
 | k+1,a,l,hn,h=>by
  have h1:=few k a (l.erase (a+k)) (hn.erase _) fun x hx=>by
   have h2:=(hn.mem_erase_iff).1 hx
   have h3:=h x h2.2
   have h4:=h2.1
   omega
  by_cases hm:a+k∈l
  ·have:=List.length_erase_of_mem hm
   omega
  ·rw [List.erase_of_not_mem hm] at h1
   omega
theorem refused_few (s n:Nat) (h:∀ j,j<n→M64-1616≤mix (stateAt s (j+1))) (hn:n<100000):n≤1616:=by
 have h1:=few 1616 (M64-1616) ((List.range n).map fun j=>mix (stateAt s (j+1))) ?_ ?_
 ·simpa using h1
 ·rw [List.nodup_iff_pairwise_ne,List.pairwise_map]
  refine List.Pairwise.imp_of_mem ?_ (List.nodup_iff_pairwise_ne.1 List.nodup_range)
  intro i j hi hj hne e
  rw [List.mem_range] at hi hj
  have h2:=mix_inj (Nat.mod_lt _ (by decide)) (Nat.mod_lt _ (by decide)) e
  have h3:=stateAt_inj (by unfold M64;omega) (by unfold M64;omega) h2
  omega
 ·intro x hx
  obtain ⟨j,hj,rfl⟩:=List.mem_map.1 hx
  rw [List.mem_range] at hj
  have h2:=h j hj
  have h3:=mix_lt (stateAt s (j+1))
  unfold M64 at h2 h3 ⊢
  omega
def drawF:Nat→Nat→Nat×Nat
 | 0,s=>(0,s)
 | f+1,s=>if mix ((s+gold)%M64)<M64-1616 then (mix ((s+gold)%M64)%10000,(s+gold)%M64) else drawF f ((s+gold)%M64)
def draw (s:Nat):Nat×Nat:=drawF 1617 s
end Go.Proofs.YtajipjnfegmlcaaGreatDoor

/-
 Random numbers: the draws below 10000 end, and are the document's.
-/
namespace Go.Proofs.YtajipjnfegmlcaaGreatDoor.Sym
set_option maxRecDepth 100000
theorem xorK_nat {a b:Nat} (ha:a<M64) (hb:b<M64):xorK .u64 (↑a) (↑b)=↑(a ^^^ b):=by
 have h:a ^^^ b<2^64:=Nat.xor_lt_two_pow (n:=64) ha hb
 have e:(BitVec.ofInt 64 (↑a:Int) ^^^ BitVec.ofInt 64 (↑b:Int)).toNat=a ^^^ b:=by
  rw [BitVec.toNat_xor,BitVec.ofInt_natCast,BitVec.ofInt_natCast,BitVec.toNat_ofNat,BitVec.toNat_ofNat,Nat.mod_eq_of_lt (show a<2^64 from ha),Nat.mod_eq_of_lt (show b<2^64 from hb)]
 show IntKind.u64.wrap ((BitVec.ofInt 64 (↑a:Int) ^^^ BitVec.ofInt 64 (↑b:Int)).toNat:Int)=_
 rw [e,mdU_eq]
 unfold mdU
 omega
theorem shr_nat (y k:Nat):(↑y / 2^k:Int)=↑(y >>> k):=by
 rw [Nat.shiftRight_eq_div_pow]
 push_cast
 rfl
theorem xs_nat {y:Nat} (k:Nat) (hy:y<M64):xorK .u64 ↑y (↑y / 2^k)=↑(y ^^^ (y >>> k)):=by
 rw [shr_nat]
 exact xorK_nat hy (Nat.lt_of_le_of_lt (by rw [Nat.shiftRight_eq_div_pow];exact Nat.div_le_self _ _) hy)
theorem mulA_nat (a:Nat):mdU (↑a*13787848793156543929)=↑(a*mulA%M64):=by
 unfold mdU mulA M64
 omega
theorem mulB_nat (a:Nat):mdU (↑a*10723151780598845931)=↑(a*mulB%M64):=by
 unfold mdU mulB M64
 omega
theorem gold_nat (s:Nat):mdU (↑s+11400714819323198485)=↑((s+gold)%M64):=by
 unfold mdU gold M64
 omega
theorem u64_nat {a:Nat} (h:a<M64):(0:Int)≤↑a∧(↑a:Int)≤18446744073709551615:=by
 unfold M64 at h
 omega
theorem mod_lt' (a:Nat):a%M64<M64:=Nat.mod_lt _ (by decide)
theorem random_Next_eq (s:Nat):random_Next ↑s=some (↑(mix ((s+gold)%M64)),↑((s+gold)%M64)):=by
 unfold random_Next
 rw [gold_nat]
 have hy:=mod_lt' (s+gold)
 generalize (s+gold)%M64=y at hy
 rw [xs_nat 30 hy,mulA_nat,xs_nat 27 (mod_lt' _),mulB_nat,xs_nat 31 (mod_lt' _),chk_pos (u64_nat hy),chk_pos (u64_nat (mod_lt' _)),chk_pos (u64_nat (mod_lt' _))]
 rfl
theorem R04_Next_eq (s:Nat):R04_Next ↑s=some (↑(mix ((s+gold)%M64)),↑((s+gold)%M64)):=by
 unfold R04_Next
 rw [gold_nat]
 have hy:=mod_lt' (s+gold)
 generalize (s+gold)%M64=y at hy
 rw [xs_nat 30 hy,mulA_nat,xs_nat 27 (mod_lt' _),mulB_nat,xs_nat 31 (mod_lt' _),chk_pos (u64_nat hy),chk_pos (u64_nat (mod_lt' _)),chk_pos (u64_nat (mod_lt' _))]
 rfl
theorem stateAt_next (s j:Nat):stateAt ((s+gold)%M64) j=stateAt s (j+1):=by
 unfold stateAt
 rw [Nat.mod_add_mod]
 congr 1
 rw [Nat.add_mul]
 omega
theorem hit_within (s:Nat):∃ j,j<1617∧mix (stateAt s (j+1))<M64-1616:=by
 refine Classical.byContradiction fun h=>?_
 have:=refused_few s 1617 (fun j hj=>Nat.le_of_not_lt fun h2=>h ⟨j,hj,h2⟩) (by decide)
 omega
def goOn (good:Nat→Bool) (nx:Nat→Nat):Nat→Nat→Nat
 | 0,s=>s
 | f+1,s=>cond (good s) s (goOn good nx f (nx s))
def steps (nx:Nat→Nat):Nat→Nat→Nat
 | 0,s=>s
 | j+1,s=>steps nx j (nx s)
theorem iter_goOn {S R:Type} {step:S→Option (S⊕R)} {good:Nat→Bool} {nx:Nat→Nat} {st:Nat→S} {res:Nat→R} (h:∀ s,step (st s)=some (cond (good s) (.inr (res s)) (.inl (st (nx s))))) :
  ∀ (f k s:Nat),(∃ j,j<f∧good (steps nx j s)=true)→iter step (f+k) (st s)=some (res (goOn good nx f s))
 | 0,_,_,⟨_,hj,_⟩=>absurd hj (Nat.not_lt_zero _)
 | f+1,k,s,⟨j,hj,hg⟩=>by
  rw [show f+1+k=(f+k)+1 by omega]
  unfold iter goOn
  rw [h]
  cases hs:good s with
  | true=>rfl
  | false =>
   simp only [cond_false]
   cases j with
   | zero=>exact absurd (show good s=true from hg) (by rw [hs];exact Bool.false_ne_true)
   | succ j=>exact iter_goOn h f k (nx s) ⟨j,by omega,hg⟩
theorem goOn_shift {good:Nat→Bool} {nx:Nat→Nat}:∀ (f s:Nat),nx (goOn (fun s=>good (nx s)) nx f s)=goOn good nx f (nx s)
 | 0,_=>rfl
 | f+1,s=>by
  unfold goOn
  cases good (nx s) with
  | true=>rfl
  | false=>exact goOn_shift f (nx s)
def nxt (s:Nat):Nat:=(s+gold)%M64
def hitN (s:Nat):Bool:=decide (mix s<M64-1616)
def drawS (s:Nat):Nat:=goOn (fun s=>hitN (nxt s)) nxt 1617 s
def drawN (s:Nat):Nat×Nat:=(mix (nxt (drawS s))%10000,nxt (drawS s))
theorem nxt_def (s:Nat):nxt s=(s+gold)%M64:=by unfold nxt;with_reducible rfl
theorem steps_shift {nx:Nat→Nat}:∀ (j s:Nat),steps nx j (nx s)=nx (steps nx j s)
 | 0,_=>rfl
 | j+1,s=>steps_shift j (nx s)
theorem steps_one {nx:Nat→Nat} (j s:Nat):steps nx (j+1) s=steps nx j (nx s):=rfl
theorem steps_zero {nx:Nat→Nat} (s:Nat):steps nx 0 s=s:=rfl
theorem stateAt_one (s:Nat):stateAt s (0+1)=(s+gold)%M64:=by
 unfold stateAt
 rw [Nat.zero_add,Nat.one_mul]
theorem steps_at (j:Nat):∀ (s:Nat),nxt (steps nxt j s)=stateAt s (j+1):=by
 induction j with
 | zero =>
  intro s
  rw [steps_zero,nxt_def,stateAt_one]
 | succ j ih =>
  intro s
  rw [steps_one,ih,nxt_def,stateAt_next]
theorem hit_some (s:Nat):∃ j,j<1617∧hitN (nxt (steps nxt j s))=true:=by
 obtain ⟨j,hj,hm⟩:=hit_within s
 exact ⟨j,hj,by rw [steps_at];exact decide_eq_true hm⟩
theorem fuel_split:fuel=1617+999999999999999998383:=by decide
theorem hit_yes {y:Nat} (h:mix y<M64-1616):hitN y=true:=by
 unfold hitN
 exact decide_eq_true h
theorem hit_no {y:Nat} (h:¬ mix y<M64-1616):hitN y=false:=by
 unfold hitN
 exact decide_eq_false h
theorem below_body {x y:Nat} (hm:x<M64):(cond (decide ((mdU (0-10000))%10000=0)) (some true) (some (decide ((↑x:Int)<(mdU (0-((mdU (0-10000))%10000)))))):Option Bool).bind (fun (y77:Bool)=>cond y77 (chk (((0:Int)≤((↑x:Int)%10000)∧((↑x:Int)%10000)≤18446744073709551615)∧(0:Int)≤(↑x:Int)∧(1:Int)≤10000) (chk (inR ((↑x:Int)%10000)) (some (.inr (((↑x:Int)%10000),(↑y:Int)):Int⊕(Int×Int))))) (some (.inl (↑y:Int))))=some (if x<M64-1616 then .inr ((↑(x%10000):Int),(↑y:Int)) else .inl (↑y:Int)):=by
 have c1:(mdU (0-10000))%10000=1616:=by decide
 have c2:mdU (0-1616)=18446744073709550000:=by decide
 rw [c1,c2,decide_eq_false (by decide),cond_false,obind]
 by_cases h:x<M64-1616
 ·rw [if_pos h,decide_eq_true (by unfold M64 at h;omega),cond_true]
  unfold M64 at hm
  rw [chk_pos (by omega),chk_pos (by unfold inR;omega)]
  simp
 ·rw [if_neg h,decide_eq_false (by unfold M64 at h hm;omega),cond_false]
theorem below_step (s:Nat):random_below.s1 10000 ↑s=some (cond (hitN (nxt s)) (.inr (↑(mix (nxt s)%10000),↑(nxt s))) (.inl ↑(nxt s))):=by
 unfold random_below.s1
 rw [random_Next_eq,obind,← nxt_def]
 refine (below_body (mix_lt (nxt s))).trans ?_
 by_cases h:mix (nxt s)<M64-1616
 ·rw [if_pos h,hit_yes h,cond_true]
 ·rw [if_neg h,hit_no h,cond_false]
theorem random_below_eq (s:Nat):random_below ↑s 10000=some (↑(drawN s).1,↑(drawN s).2):=by
 unfold random_below
 have c1:(mdU (0-10000))%10000=1616:=by decide
 rw [c1,chk_pos (by decide),chk_pos (by decide),fuel_split]
 exact iter_goOn (st:=fun s=>(↑s:Int)) (res:=fun s=>((↑(mix (nxt s)%10000):Int),(↑(nxt s):Int))) below_step 1617 _ s (hit_some s)
theorem random_Below_eq (s:Nat):random_Below ↑s 10000=some (↑(drawN s).1,↑(drawN s).2,0):=by
 unfold random_Below
 rw [decide_eq_false (by decide),cond_false,decide_eq_false (by decide),obind,cond_false,random_below_eq,obind]
theorem draw_body {x s:Nat} {r:Int⊕Int} {k:Option ((Int×Int)⊕(Int×Int))} (hm:x<M64):(cond (decide (0<((mdU ((mdU (18446744073709551615-10000))+1))%10000))) (some (decide ((mdU (18446744073709551615-((mdU ((mdU (18446744073709551615-10000))+1))%10000)))<(↑x:Int)))) (some false):Option Bool).bind (fun (y102:Bool)=>cond y102 k (some (.inr ((↑x:Int),(↑s:Int)))))=if x<M64-1616 then some (.inr ((↑x:Int),(↑s:Int))) else k:=by
 have c1:(mdU ((mdU (18446744073709551615-10000))+1))%10000=1616:=by decide
 have c2:mdU (18446744073709551615-1616)=18446744073709549999:=by decide
 rw [c1,c2,decide_eq_true (by decide),cond_true,obind]
 by_cases h:x<M64-1616
 ·rw [if_pos h,decide_eq_false (by unfold M64 at h;omega),cond_false]
 ·rw [if_neg h,decide_eq_true (by unfold M64 at h;omega),cond_true]
theorem draw_step (s:Nat):R04_draw.s2 10000 ↑(mix s) ↑s=some (cond (hitN s) (.inr (↑(mix s),↑s)) (.inl (↑(mix (nxt s)),↑(nxt s)))):=by
 unfold R04_draw.s2
 rw [R04_Next_eq,obind,← nxt_def]
 refine (draw_body (r:=.inl 0) (mix_lt s)).trans ?_
 by_cases h:mix s<M64-1616
 ·rw [if_pos h,hit_yes h,cond_true]
 ·rw [if_neg h,hit_no h,cond_false]
theorem draw_end {x y:Nat} (h:x<M64):R04_draw.k3 10000 (↑x:Int) (↑y:Int)=some ((↑(x%10000):Int),(↑y:Int)):=by
 unfold R04_draw.k3
 unfold M64 at h
 rw [chk_pos (by decide),chk_pos (by omega),chk_pos (by unfold inR;omega)]
 simp
theorem R04_draw_eq (s:Nat):R04_draw ↑s 10000=some (↑(drawN s).1,↑(drawN s).2):=by
 unfold R04_draw
 have c1:(mdU ((mdU (18446744073709551615-10000))+1))%10000=1616:=by decide
 rw [c1,chk_pos (by decide),chk_pos (by decide),chk_pos (by decide),R04_Next_eq,obind,fuel_split]
 have key:=iter_goOn (step:=fun (x:Int×Int)=>R04_draw.s2 10000 x.1 x.2) (st:=fun s=>((↑(mix s):Int),(↑s:Int))) (res:=fun s=>((↑(mix s):Int),(↑s:Int))) (good:=hitN) (nx:=nxt) draw_step 1617 999999999999999998383 (nxt s) (by
  obtain ⟨j,hj,h⟩:=hit_some s
  exact ⟨j,hj,by rw [steps_shift];exact h⟩)
 rw [← nxt_def]
 refine (congrArg (fun z=>Option.bind z fun (s:Int×Int)=>R04_draw.k3 10000 s.1 s.2) key).trans ?_
 rw [obind,← goOn_shift]
 unfold drawN
 rw [show goOn (fun s=>hitN (nxt s)) nxt 1617 s=drawS s by unfold drawS;with_reducible rfl]
 exact draw_end (mix_lt _)
theorem R04_Below_eq (s:Nat):R04_Below ↑s 10000=some (↑(drawN s).1,↑(drawN s).2,0):=by
 unfold R04_Below
 rw [decide_eq_false (by decide),cond_false,decide_eq_false (by decide),obind,cond_false,R04_draw_eq,obind]
theorem nxt_lt (s:Nat):nxt s<18446744073709551616:=Nat.mod_lt _ (by decide)
theorem draw_lt (s:Nat):(drawN s).1<10000∧(drawN s).2<18446744073709551616:=⟨Nat.mod_lt _ (by decide),nxt_lt _⟩
end Go.Proofs.YtajipjnfegmlcaaGreatDoor.Sym

/-
 Tables: the first one, and what makes a table valid: the program's answer and the document's are one plain number.
-/
namespace Go.Proofs.YtajipjnfegmlcaaGreatDoor.Sym
set_option maxRecDepth 100000
section
variable {κ ν:Type} [BEq κ]
theorem mget_mset_same {k:κ} {v:ν} (hb:∀ a b:κ,(a==b)=true↔a=b):∀ m:List (κ×ν),mget k (mset k v m)=some v
 | []=>by
  unfold mset mget
  rw [(hb k k).2 rfl]
 | p::m=>by
  unfold mset
  cases h:k==p.1 with
  | true =>
   show mget k ((k,v)::m)=_
   unfold mget
   rw [(hb k k).2 rfl]
  | false =>
   show mget k (p::mset k v m)=_
   unfold mget
   rw [h]
   exact mget_mset_same hb m
theorem mget_mset_ne {k k':κ} {v:ν} (hb:∀ a b:κ,(a==b)=true↔a=b) (hne:¬ k'=k):∀ m:List (κ×ν),mget k' (mset k v m)=mget k' m
 | []=>by
  have e:(k'==k)=false:=by
   cases e:k'==k with
   | true=>exact absurd ((hb _ _).1 e) hne
   | false=>rfl
  unfold mset mget
  simp only [e]
  rfl
 | p::m=>by
  unfold mset
  cases h:k==p.1 with
  | true =>
   have e1:k=p.1:=(hb _ _).1 h
   show mget k' ((k,v)::m)=mget k' (p::m)
   have e:(k'==k)=false:=by
    cases e:k'==k with
    | true=>exact absurd ((hb _ _).1 e) hne
    | false=>rfl
   unfold mget
   rw [← e1]
   simp only [e]
  | false =>
   show mget k' (p::mset k v m)=mget k' (p::m)
   unfold mget
   rw [mget_mset_ne hb hne m]
end
theorem ba_beq (a b:ByteArray):(a==b)=true↔a=b:=by
 cases a
 cases b
 show ByteArray.beq _ _=true↔_
 unfold ByteArray.beq
 simp
end Go.Proofs.YtajipjnfegmlcaaGreatDoor.Sym

/-
 The examples of the chapter, reckoned.
-/
namespace Go.Proofs.YtajipjnfegmlcaaGreatDoor.Sym
set_option maxRecDepth 100000
end Go.Proofs.YtajipjnfegmlcaaGreatDoor.Sym

/-
 Tables: the program's own checks, the first table, and the law of both.
-/
namespace Go.Proofs.YtajipjnfegmlcaaGreatDoor.Sym
set_option maxRecDepth 100000
theorem check_mem {w:List Int} {n:Int} (h:checkI w n=0):∀ a∈w,0≤a∧a<n:=by
 unfold checkI at h
 split at h
 ·split at h
  ·cases h
  ·split at h
   ·rename_i h3
    intro a ha
    exact of_decide_eq_true (List.all_eq_true.1 h3 a ha)
   ·cases h
 ·cases h
end Go.Proofs.YtajipjnfegmlcaaGreatDoor.Sym

/-
 Sorted lists of words, duplicates struck: plain laws.
-/
namespace Go.Proofs.YtajipjnfegmlcaaGreatDoor
structure TotalCmp (cf:List Int→List Int→Int):Prop where
 range:∀ a b,cf a b=-1∨cf a b=0∨cf a b=1
 zero:∀ a b,cf a b=0↔a=b
 swap:∀ a b,cf b a=- cf a b
 trans:∀ a b c,cf a b=-1→cf b c=-1→cf a c=-1
theorem cmpW_total:TotalCmp cmpW:=⟨cmpW_range,cmpW_zero,cmpW_swap,cmpW_trans⟩
theorem lexI_total:TotalCmp lexI:=⟨lexI_range,lexI_zero,lexI_swap,lexI_trans⟩
def dedupA (l:List (List Int)):List (List Int):=l.foldl (fun acc x=>if acc.getLast?=some x then acc else acc++[x]) []
theorem dedupA_snoc (l:List (List Int)) (x:List Int):dedupA (l++[x])=if (dedupA l).getLast?=some x then dedupA l else dedupA l++[x]:=by
 unfold dedupA
 rw [List.foldl_append]
 rfl
theorem dedup_foldl:∀ (l acc:List (List Int)),(l.foldl (fun acc x=>if acc.getLast?=some x then acc else acc++[x]) acc).getLast?=if l=[] then acc.getLast? else l.getLast?
 | [],acc=>by rw [if_pos rfl];rfl
 | x::l,acc=>by
  have hx:(if acc.getLast?=some x then acc else acc++[x]).getLast?=some x:=by
   split
   ·assumption
   ·simp
  rw [List.foldl_cons,dedup_foldl l,if_neg (show ¬ x::l=[] by simp)]
  cases l with
  | nil=>rw [if_pos rfl,hx];rfl
  | cons y l =>
   rw [if_neg (show ¬ y::l=[] by simp),List.getLast?_cons_cons]
theorem dedupA_last (l:List (List Int)):(dedupA l).getLast?=l.getLast?:=by
 unfold dedupA
 rw [dedup_foldl]
 split
 ·rename_i h;rw [h]
 ·rfl
theorem dedupA_step {l:List (List Int)} {k:Nat} {x y:List Int} (hy:l[k]?=some y) (hx:l[k+1]?=some x) :
  dedupA (l.take (k+1+1))=if x=y then dedupA (l.take (k+1)) else dedupA (l.take (k+1))++[x]:=by
 rw [take_step hx,dedupA_snoc,dedupA_last,take_step hy]
 simp only [List.getLast?_append,List.getLast?_singleton,Option.some_or]
 by_cases h:y=x
 ·subst h;simp
 ·have h':¬ x=y:=fun e=>h e.symm
  simp [h,h']
theorem dedupA_short {l:List (List Int)} (h:l.length≤1):dedupA l=l:=by
 match l,h with
 | [],_=>rfl
 | [x],_=>rfl
theorem dedup_asc {cf:List Int→List Int→Int} (T:TotalCmp cf):∀ {l:List (List Int)},l.Pairwise (fun a b=>0≤cf b a)→(dedupA l).Pairwise (fun a b=>cf a b=-1)∧∀ x,x∈dedupA l↔x∈l:=by
 intro l
 -- from the end of the list
 suffices H:∀ n (l:List (List Int)),l.length=n→l.Pairwise (fun a b=>0≤cf b a)→(dedupA l).Pairwise (fun a b=>cf a b=-1)∧∀ x,x∈dedupA l↔x∈l from H _ l rfl
 intro n
 induction n with
 | zero =>
  intro l hl _
  have:l=[]:=List.eq_nil_of_length_eq_zero hl
  subst this
  exact ⟨List.Pairwise.nil,fun x=>Iff.rfl⟩
 | succ n ih =>
  intro l hl hp
  obtain ⟨m,x,rfl⟩:∃ m x,l=m++[x]:=by
   have hne:l≠[]:=by intro e;rw [e] at hl;simp at hl
   exact ⟨l.dropLast,l.getLast hne,(List.dropLast_concat_getLast hne).symm⟩
  have hml:m.length=n:=by simpa using hl
  rw [List.pairwise_append] at hp
  obtain ⟨hp1,_,hp3⟩:=hp
  obtain ⟨h1,h2⟩:=ih m hml hp1
  rw [dedupA_snoc]
  by_cases h:(dedupA m).getLast?=some x
  ·rw [if_pos h]
   refine ⟨h1,fun y=>?_⟩
   have hx:x∈m:=(h2 x).1 (List.mem_of_getLast? h)
   rw [h2,List.mem_append,List.mem_singleton]
   constructor
   ·exact Or.inl
   ·rintro (h' | rfl)
    ·exact h'
    ·exact hx
  ·rw [if_neg h]
   refine ⟨?_,fun y=>by rw [List.mem_append,List.mem_append,h2]⟩
   rw [List.pairwise_append]
   refine ⟨h1,by simp,fun a ha b hb=>?_⟩
   rw [List.mem_singleton] at hb
   subst hb
   have ha':a∈m:=(h2 a).1 ha
   have hle:0≤cf b a:=hp3 a ha' b (by simp)
   have hr:=T.range b a
   have hsw:=T.swap b a
   by_cases e:cf b a=0
   ·-- a would be the last one
    exfalso
    have hab:b=a:=(T.zero _ _).1 e
    subst hab
    -- the last of m is the greatest, and b is in m and not less than it
    have hne:dedupA m≠[]:=fun e=>by rw [e] at ha;cases ha
    have hl2:=List.getLast?_eq_some_getLast hne
    have hlast:(dedupA m).getLast hne∈m:=(h2 _).1 (List.getLast_mem hne)
    have h3:0≤cf b ((dedupA m).getLast hne):=hp3 _ hlast b (by simp)
    have hsplit:dedupA m=(dedupA m).dropLast++[(dedupA m).getLast hne]:=(List.dropLast_concat_getLast hne).symm
    have h4:b=(dedupA m).getLast hne∨cf b ((dedupA m).getLast hne)=-1:=by
     rw [hsplit] at ha h1
     rw [List.pairwise_append] at h1
     rcases List.mem_append.1 ha with h5 | h5
     ·exact Or.inr (h1.2.2 b h5 _ (by simp))
     ·exact Or.inl (List.mem_singleton.1 h5)
    rcases h4 with h4 | h4
    ·exact h (by rw [hl2,← h4])
    ·omega
   ·omega
theorem dedupA_length (l:List (List Int)):(dedupA l).length≤l.length:=by
 suffices H:∀ (l acc:List (List Int)),(l.foldl (fun acc x=>if acc.getLast?=some x then acc else acc++[x]) acc).length≤acc.length+l.length by
  simpa [dedupA] using H l []
 intro l
 induction l with
 | nil=>intro acc;simp
 | cons x l ih =>
  intro acc
  rw [List.foldl_cons]
  refine Nat.le_trans (ih _) ?_
  split
  ·simp
  ·simp;omega
end Go.Proofs.YtajipjnfegmlcaaGreatDoor

/-
 Prefixes, suffixes and maximal words: plain laws.
-/
namespace Go.Proofs.YtajipjnfegmlcaaGreatDoor
def prefixes (x:List Int):List (List Int):=(List.range (x.length+1)).map x.take
def suffixes (x:List Int):List (List Int):=(List.range (x.length+1)).map x.drop
def topB (all:List (List Int)) (x:List Int):Bool:=all.all fun y=>decide (y=x∨¬ x <+: y)
def maxR (l:List (List Int)):List (List Int):=(sortW l).filter (topB (sortW l))
def tailB (x:List Int) (l:List (List Int)):Bool:=l.all fun y=>decide (y.length=x.length∨¬ x <+: y)
theorem top_eq {all:List (List Int)} (hs:Asc all) {k:Nat} {x:List Int} (hx:all[k]?=some x):tailB x (all.drop (k+1))=topB all x:=by
 rw [Bool.eq_iff_iff,tailB,topB,List.all_eq_true,List.all_eq_true]
 simp only [decide_eq_true_eq]
 constructor
 ·intro h y hy
  obtain ⟨i,hi⟩:=List.getElem?_of_mem hy
  rcases Nat.lt_trichotomy i k with hik | hik | hik
  ·right
   intro hp
   have hc:=hs.get hik hi hx
   have hl:=hp.length_le
   have:x=y:=hp.eq_of_length_le (by
    unfold cmpW at hc
    split at hc
    ·omega
    ·split at hc
     ·omega
     ·omega)
   rw [this,cmpW_refl] at hc
   omega
  ·left
   rw [hik,hx] at hi
   injection hi with hi
   exact hi.symm
  ·have hmem:y∈all.drop (k+1):=by
    have:(all.drop (k+1))[i-(k+1)]?=some y:=by rw [List.getElem?_drop,show k+1+(i-(k+1))=i by omega];exact hi
    exact List.mem_of_getElem? this
   rcases h y hmem with h1 | h1
   ·by_cases hp:x <+: y
    ·left
     exact (hp.eq_of_length h1.symm).symm
    ·exact Or.inr hp
   ·exact Or.inr h1
 ·intro h y hy
  obtain ⟨i,hi⟩:=List.getElem?_of_mem hy
  rw [List.getElem?_drop] at hi
  rcases h y (List.mem_of_getElem? hi) with h1 | h1
  ·have hc:=hs.get (show k<k+1+i by omega) hx hi
   rw [h1,cmpW_refl] at hc
   omega
  ·exact Or.inr h1
theorem tailB_step {x y:List Int} {all:List (List Int)} {k j:Nat} (hk:k+1≤j) (hy:all[j]?=some y) :
  tailB x ((all.take (j+1)).drop (k+1))=(tailB x ((all.take j).drop (k+1))&&decide (y.length=x.length∨¬ x <+: y)):=by
 have hj:j<all.length:=(List.getElem?_eq_some_iff.1 hy).1
 rw [take_step hy,List.drop_append_of_le_length (by rw [List.length_take];omega)]
 simp [tailB,List.all_append]
theorem filter_step {p:List Int→Bool} {all:List (List Int)} {k:Nat} {x:List Int} (h:all[k]?=some x):(all.take (k+1)).filter p=(all.take k).filter p++(if p x=true then [x] else []):=by
 rw [take_step h,List.filter_append]
 by_cases hp:p x=true<;>simp [hp]
theorem mem_maxR {l:List (List Int)} {x:List Int} (h:x∈maxR l):x∈l:=by
 unfold maxR at h
 exact (mem_sortW l x).1 (List.mem_filter.1 h).1
theorem maxR_length (l:List (List Int)):(maxR l).length≤l.length:=Nat.le_trans (List.length_filter_le _ _) (sortW_length l)
def keepM:List (List Int)→List (List Int)
 | []=>[]
 | [x]=>[x]
 | x::y::l=>if x <+: y then keepM (y::l) else x::keepM (y::l)
theorem keepM_end {L:List (List Int)} {k:Nat} {x:List Int} (hx:L[k]?=some x) (hl:k+1=L.length):keepM (L.drop k)=x::keepM (L.drop (k+1)):=by
 obtain ⟨h1,h2⟩:=List.getElem?_eq_some_iff.1 hx
 rw [List.drop_eq_getElem_cons h1,h2,List.drop_eq_nil_of_le (by omega)]
 rfl
theorem keepM_step {L:List (List Int)} {k:Nat} {x y:List Int} (hx:L[k]?=some x) (hy:L[k+1]?=some y):keepM (L.drop k)=if x <+: y then keepM (L.drop (k+1)) else x::keepM (L.drop (k+1)):=by
 obtain ⟨h1,h2⟩:=List.getElem?_eq_some_iff.1 hx
 obtain ⟨h3,h4⟩:=List.getElem?_eq_some_iff.1 hy
 rw [List.drop_eq_getElem_cons h1,h2,List.drop_eq_getElem_cons h3,h4]
 rfl
theorem keepM_sub:∀ L:List (List Int),(keepM L).Sublist L
 | []=>List.Sublist.refl _
 | [x]=>List.Sublist.refl _
 | x::y::l=>by
  rw [keepM]
  split
  ·exact (keepM_sub (y::l)).cons x
  ·exact (keepM_sub (y::l)).cons_cons x
theorem lex_between:∀ (x z y:List Int),lexI x z=-1→(z=y∨lexI z y=-1)→x <+: y→x <+: z
 | [],z,_,_,_,_=>List.nil_prefix
 | a::x,[],_,h,_,_=>by simp [lexI] at h
 | a::x,b::z,[],_,_,h=>by simp at h
 | a::x,b::z,c::y,h1,h2,h3=>by
  rw [List.cons_prefix_cons] at h3
  obtain ⟨rfl,h3⟩:=h3
  simp only [lexI] at h1
  have hle:b≤a:=by
   rcases h2 with h2 | h2
   ·injection h2 with e1 e2;omega
   ·simp only [lexI] at h2
    split at h2
    ·omega
    ·split at h2
     ·omega
     ·omega
  have hab:a=b:=by
   split at h1
   ·omega
   ·split at h1
    ·omega
    ·omega
  subst hab
  rw [if_neg (by omega),if_neg (by omega)] at h1
  rw [List.cons_prefix_cons]
  refine ⟨rfl,lex_between x z y h1 ?_ h3⟩
  rcases h2 with h2 | h2
  ·injection h2 with e1 e2;exact Or.inl e2
  ·simp only [lexI] at h2
   rw [if_neg (by omega),if_neg (by omega)] at h2
   exact Or.inr h2
theorem prefix_lex:∀ (x y:List Int),x <+: y→x≠y→lexI x y=-1
 | [],[],_,h=>absurd rfl h
 | [],_::_,_,_=>rfl
 | a::x,[],h,_=>by simp at h
 | a::x,b::y,h,hne=>by
  rw [List.cons_prefix_cons] at h
  obtain ⟨rfl,h⟩:=h
  simp only [lexI]
  rw [if_neg (by omega),if_neg (by omega)]
  exact prefix_lex x y h (fun e=>hne (by rw [e]))
theorem mem_keepM:∀ {L:List (List Int)},L.Pairwise (fun a b=>lexI a b=-1)→∀ x,x∈keepM L↔x∈L∧∀ y∈L,y=x∨¬ x <+: y
 | [],_,x=>by simp [keepM]
 | [z],_,x=>by
  simp only [keepM,List.mem_singleton]
  constructor
  ·rintro rfl;exact ⟨rfl,fun y hy=>Or.inl hy⟩
  ·exact fun h=>h.1
 | z::y::l,h,x=>by
  obtain ⟨h1,h2⟩:=List.pairwise_cons.1 h
  have ih:=mem_keepM (L:=y::l) h2
  have hzl:∀ t∈y::l,z≠t:=fun t ht e=>by
   have:=h1 t ht
   rw [e,lexI_refl] at this
   omega
  have hlow:∀ t∈y::l,¬ t <+: z:=fun t ht hp=>by
   have h3:=h1 t ht
   have h4:=prefix_lex t z hp (fun e=>hzl t ht e.symm)
   rw [lexI_swap] at h4
   omega
  have hyl:∀ t∈y::l,y=t∨lexI y t=-1:=fun t ht=>by
   rcases List.mem_cons.1 ht with e | e
   ·exact Or.inl e.symm
   ·exact Or.inr ((List.pairwise_cons.1 h2).1 t e)
  rw [keepM]
  by_cases hp:z <+: y
  ·rw [if_pos hp,ih]
   constructor
   ·rintro ⟨ha,hb⟩
    refine ⟨List.mem_cons_of_mem _ ha,fun t ht=>?_⟩
    rcases List.mem_cons.1 ht with rfl | ht
    ·exact Or.inr (hlow x ha)
    ·exact hb t ht
   ·rintro ⟨ha,hb⟩
    rcases List.mem_cons.1 ha with rfl | ha
    ·rcases hb y (by simp) with e | e
     ·exact absurd e.symm (hzl y (by simp))
     ·exact absurd hp e
    ·exact ⟨ha,fun t ht=>hb t (List.mem_cons_of_mem _ ht)⟩
  ·rw [if_neg hp,List.mem_cons,ih]
   constructor
   ·rintro (rfl | ⟨ha,hb⟩)
    ·refine ⟨by simp,fun t ht=>?_⟩
     rcases List.mem_cons.1 ht with rfl | ht
     ·exact Or.inl rfl
     ·exact Or.inr fun hpt=>hp (lex_between x y t (h1 y (by simp)) (hyl t ht) hpt)
    ·refine ⟨List.mem_cons_of_mem _ ha,fun t ht=>?_⟩
     rcases List.mem_cons.1 ht with rfl | ht
     ·exact Or.inr (hlow x ha)
     ·exact hb t ht
   ·rintro ⟨ha,hb⟩
    rcases List.mem_cons.1 ha with rfl | ha
    ·exact Or.inl rfl
    ·exact Or.inr ⟨ha,fun t ht=>hb t (List.mem_cons_of_mem _ ht)⟩
theorem mem_maxR_iff (l:List (List Int)) (x:List Int):x∈maxR l↔x∈l∧∀ y∈l,y=x∨¬ x <+: y:=by
 unfold maxR
 rw [List.mem_filter,mem_sortW,topB,List.all_eq_true]
 simp only [mem_sortW,decide_eq_true_eq]
theorem maxR_asc (l:List (List Int)):Asc (maxR l):=List.Pairwise.sublist List.filter_sublist (sortW_asc l)
theorem sortW_keepM {L l:List (List Int)} (h:L.Pairwise fun a b=>lexI a b=-1) (hm:∀ x,x∈L↔x∈l):sortW (keepM L)=maxR l :=
 asc_ext (sortW_asc _) (maxR_asc l) fun x=>by
  rw [mem_sortW,mem_keepM h,mem_maxR_iff]
  simp only [hm]
end Go.Proofs.YtajipjnfegmlcaaGreatDoor

/-
 What the functions on lists of words come to: plain laws.
-/
namespace Go.Proofs.YtajipjnfegmlcaaGreatDoor.Sym
set_option maxRecDepth 100000
theorem flat_take_succ {α:Type} {l:List (List α)} {i:Nat} {x:List α} (h:l[i]?=some x):(l.take (i+1)).flatten=(l.take i).flatten++x:=by
 rw [take_step h]
 simp
theorem flat_take_len {α:Type} {l:List (List α)} (i:Nat):(l.take i).flatten.length≤l.flatten.length:=by
 have h:l.flatten=(l.take i).flatten++(l.drop i).flatten:=by rw [← List.flatten_append,List.take_append_drop]
 rw [h,List.length_append]
 omega
theorem totB_of {cf:List Int→List Int→Int} (T:TotalCmp cf) {f:List Int→List Int→Option Int} {l:List (List Int)} (hf:∀ a∈l,∀ b∈l,f a b=some (cf a b)):totB f l=true:=by
 refine List.all_eq_true.2 fun a ha=>List.all_eq_true.2 fun b hb=>?_
 rw [hf a ha b hb,hf b hb a ha]
 simp only [Bool.and_eq_true]
 refine ⟨⟨⟨?_,?_⟩,?_⟩,List.all_eq_true.2 fun c hc=>?_⟩
 ·rw [beq_iff_eq]
  have:=T.zero a b
  by_cases h:a=b
  ·simp [h,this.2 h]
   rw [← h]
   exact (T.zero a a).2 rfl
  ·have h2:¬ cf a b=0:=fun e=>h (this.1 e)
   simp [h,h2]
 ·rw [beq_iff_eq]
  have:=T.swap a b
  by_cases h:cf a b<0
  ·simp [h];omega
  ·simp [h];omega
 ·have:=T.range a b
  exact decide_eq_true (by omega)
 ·rw [hf b hb c hc,hf a ha c hc]
  have r1:=T.range a b
  have r2:=T.range b c
  by_cases h1:cf a b<0
  ·by_cases h2:cf b c<0
   ·have:=T.trans a b c (by omega) (by omega)
    simp [h1,h2,this]
   ·simp [h1,h2]
  ·simp [h1]
theorem libSort_eq {cf:List Int→List Int→Int} (T:TotalCmp cf) {f:List Int→List Int→Option Int} {l:List (List Int)} (hl:l.length≤1000000000) (hf:∀ a∈l,∀ b∈l,f a b=some (cf a b)) :
  ∃ S,libSort l f=some S∧S.Perm l∧S.Pairwise (fun a b=>0≤cf b a):=by
 refine ⟨isortF f l,?_,isortF_perm f l,?_⟩
 ·unfold libSort
  rw [chk_pos hl,totB_of T hf]
  rfl
 ·have h:=isortF_sorted (totB_iff (totB_of T hf))
  rw [List.pairwise_iff_getElem] at h ⊢
  intro i j hi hj hij
  have:=h i j hi hj hij
  have m1:=(isortF_perm f l).mem_iff.1 (List.getElem_mem hi)
  have m2:=(isortF_perm f l).mem_iff.1 (List.getElem_mem hj)
  unfold NGt cfv at this
  rw [hf _ m2 _ m1] at this
  simp only [Option.getD_some] at this
  omega
theorem compact_eq {q:List Int→List Int→Option Bool} {l:List (List Int)} (hl:l.length≤1000000000) (hq:∀ a∈l,∀ b∈l,q a b=some (decide (a=b))):slices_CompactFunc_SSint_Sint_n1 l q=some (dedupA l):=by
 unfold slices_CompactFunc_SSint_Sint_n1
 by_cases h2:l.length<2
 ·rw [decide_eq_true (by omega),cond_true,dedupA_short (by omega)]
 rw [decide_eq_false (by omega),cond_false]
 have key:=iter_post (step:=fun k=>slices_CompactFunc_SSint_Sint_n1.s20 l q k) (fun k=>1≤k∧k≤l.length∧dedupA (l.take k)=l.take k) (fun k=>l.length-k) (fun r=>Sum.elim (fun (_:Unit)=>some l) some r=some (dedupA l)) (fun k ⟨h1,h3,h4⟩=>by
  simp only [slices_CompactFunc_SSint_Sint_n1.s20]
  by_cases h5:k<l.length
  ·have hx:=get_at h5
   have hp:=get_at (l:=l) (i:=k-1) (by omega)
   have hst:=dedupA_step (l:=l) (k:=k-1) (x:=l[k]) hp (by rw [show k-1+1=k by omega];exact hx)
   rw [show k-1+1=k by omega] at hst
   rw [dec_lt hx,cond_true,idxn_at hx,idx_at (i:=k-1) (by omega) hp,hq _ (List.getElem_mem _) _ (List.getElem_mem _)]
   simp only [Option.bind_some]
   by_cases h6:l[k]=l[k-1]'(by omega)
   ·right
    rw [if_pos h6] at hst
    rw [decide_eq_true h6,cond_true,chk_pos (by omega)]
    have inner:=iter_post (step:=fun (s:List (List Int)×Nat×Nat)=>slices_CompactFunc_SSint_Sint_n1.s18 q k s.1 s.2.1 s.2.2) (fun s=>1≤s.2.2∧k+s.2.2≤l.length∧s.1.length=l.length∧s.2.1=(dedupA (l.take (k+s.2.2))).length∧s.2.1<k+s.2.2∧s.1.take s.2.1=dedupA (l.take (k+s.2.2))∧∀ j,s.2.1≤j→s.1[j]?=l[j]?) (fun s=>l.length-(k+s.2.2))
     (fun r=>r.2≤l.length∧r.1.length=l.length∧r.1.take r.2=dedupA l) (fun s ⟨g1,g2,g3,g4,g5,g6,g7⟩=>by
      obtain ⟨y,kk,t⟩:=s
      simp only at g1 g2 g3 g4 g5 g6 g7
      simp only [slices_CompactFunc_SSint_Sint_n1.s18]
      by_cases g8:k+t<l.length
      ·left
       have gx:=get_at (l:=l) (i:=k+t) g8
       have gp:=get_at (l:=l) (i:=k+(t-1)) (by omega)
       have yx:y[k+t]?=some l[k+t]:=by rw [g7 _ (by omega)];exact gx
       have yp:y[k+(t-1)]?=some (l[k+(t-1)]'(by omega)):=by rw [g7 _ (by omega)];exact gp
       have hst2:=dedupA_step (l:=l) (k:=k+(t-1)) (x:=l[k+t]) gp (by rw [show k+(t-1)+1=k+t by omega];exact gx)
       rw [show k+(t-1)+1=k+t by omega] at hst2
       rw [decide_eq_true (show (↑t:Int)<(↑(List.length y-k):Int) by omega),cond_true,idxn_at yx,chk_pos (by omega),show Int.toNat ((↑t:Int)-1)=t-1 by omega,idxn_at yp,hq _ (List.getElem_mem _) _ (List.getElem_mem _)]
       simp only [Option.bind_some]
       by_cases g9:l[k+t]=l[k+(t-1)]'(by omega)
       ·rw [if_pos g9] at hst2
        refine ⟨(y,kk,t+1),by rw [decide_eq_true g9];rfl,⟨by simp only;omega,by simp only;omega,g3,?_,by simp only;omega,?_,g7⟩,by simp only;omega⟩
        ·simp only
         rw [show k+(t+1)=k+t+1 by omega,hst2]
         exact g4
        ·simp only
         rw [show k+(t+1)=k+t+1 by omega,hst2]
         exact g6
       ·rw [if_neg g9] at hst2
        have yk:=get_at (l:=y) (i:=kk) (by omega)
        refine ⟨(y.set kk l[k+t],kk+1,t+1),?_,⟨by simp only;omega,by simp only;omega,by simp only [List.length_set];exact g3,?_,by simp only;omega,?_,fun j hj=>?_⟩,by simp only;omega⟩
        ·rw [decide_eq_false g9]
         simp only [Bool.not_false,cond_true]
         rw [idxn_at yx,idxn_at yk,chk_pos (by unfold inR;omega)]
        ·simp only
         rw [show k+(t+1)=k+t+1 by omega,hst2,List.length_append,← g4]
         rfl
        ·simp only
         have e1:(y.set kk l[k+t])[kk]?=some l[k+t]:=by rw [List.getElem?_set];simp;omega
         rw [show k+(t+1)=k+t+1 by omega,hst2,take_step e1,List.take_set_of_le (Nat.le_refl _),g6]
        ·simp only at hj
         rw [List.getElem?_set_ne (by omega)]
         exact g7 j (by omega)
      ·right
       have e:k+t=l.length:=by omega
       refine ⟨(y,kk),?_,by simp only;omega,g3,?_⟩
       ·rw [decide_eq_false (by omega),cond_false]
       ·simp only
        rw [e,List.take_length] at g6
        exact g6) fuel (l,k,1) ⟨Nat.le_refl _,by simp only;omega,rfl,by simp only;rw [hst,h4,List.length_take];omega,by simp only;omega,by simp only;rw [hst,h4],fun j _=>rfl⟩ (by have:=fuel_big;simp only;omega)
    obtain ⟨⟨y,kk⟩,e,g1,g2,g3⟩:=inner
    simp only at g1 g2 g3
    refine ⟨.inr (dedupA l),?_,rfl⟩
    rw [e]
    simp only [Option.bind_some,slices_CompactFunc_SSint_Sint_n1.k19]
    have e2:(List.take kk y++List.replicate (List.length y-kk) ([]:List Int)).length=l.length:=by
     rw [List.length_append,List.length_take,List.length_replicate]
     omega
    rw [chk_pos (by omega),chk_pos (by omega),chk_pos (by rw [e2];omega),List.take_append_of_le_length (by rw [List.length_take];omega),List.take_take,Nat.min_self,g3]
   ·left
    rw [if_neg h6] at hst
    refine ⟨k+1,by rw [decide_eq_false h6];rfl,⟨by omega,by omega,?_⟩,by omega⟩
    rw [hst,h4,take_step hx]
  ·right
   have e:k=l.length:=by omega
   subst e
   refine ⟨.inl (),?_,?_⟩
   ·rw [dec_end];rfl
   ·rw [List.take_length] at h4
    rw [h4]
    rfl) fuel 1 ⟨Nat.le_refl _,by omega,dedupA_short (by rw [List.length_take];omega)⟩ (by have:=fuel_big;omega)
 obtain ⟨r,e,hr⟩:=key
 rw [e]
 exact hr
theorem libclone_word {w:List Int} (h:SmW w):lib_Clone_int w=some w:=by
 unfold lib_Clone_int libClone
 exact chk_pos (by unfold SmW at h;unfold capOk;omega)
theorem libclone_words {l:List (List Int)} (h:l.length≤2000000):lib_Clone_words l=some l:=by
 unfold lib_Clone_words libClone
 exact chk_pos (by unfold capOk;omega)
theorem ordered_eq {cf:List Int→List Int→Int} (T:TotalCmp cf) {f:List Int→List Int→Option Int} {l:List (List Int)} (hl:SmL l) (hf:∀ a∈l,∀ b∈l,f a b=some (cf a b)) :
  ∃ S,wordset_ordered l f=some S∧S.Pairwise (fun a b=>cf a b=-1)∧(∀ x,x∈S↔x∈l)∧S.length≤l.length:=by
 have hl1:l.length≤2000000:=hl.1
 obtain ⟨S,e1,hp,hs⟩:=libSort_eq T (by omega:l.length≤1000000000) hf
 obtain ⟨d1,d2⟩:=dedup_asc T hs
 have hm:∀ x,x∈dedupA S↔x∈l:=fun x=>by rw [d2,hp.mem_iff]
 have hlen:(dedupA S).length≤l.length:=by
  have:=dedupA_length S
  rw [hp.length_eq] at this
  exact this
 refine ⟨dedupA S,?_,d1,hm,hlen⟩
 unfold wordset_ordered lib_SortFunc_words
 rw [libclone_words hl1]
 simp only [Option.bind_some]
 rw [e1]
 simp only [Option.bind_some]
 rw [compact_eq (by rw [hp.length_eq];omega) (fun a ha b hb=>by
  unfold wordset_ordered_1
  rw [hf a (hp.mem_iff.1 ha) b (hp.mem_iff.1 hb)]
  simp only [Option.bind_some]
  congr 1
  exact decide_eq_decide.2 (T.zero a b))]
 simp only [Option.bind_some]
 rw [iter_eq (r:=dedupA S) (fun s=>s.1=dedupA S) (fun s=>(dedupA S).length-s.2) (fun s h1=>by
  simp only [wordset_ordered.s2]
  by_cases h3:s.2<(dedupA S).length
  ·left
   have hx:=get_at h3
   have hxs:SmW ((dedupA S)[s.2]):=hl.2 _ ((hm _).1 (List.getElem_mem _))
   refine ⟨(dedupA S,s.2+1),?_,rfl,by simp only;omega⟩
   rw [dec_lt hx,cond_true,h1,idxn_at hx,libclone_word hxs]
   simp only [Option.bind_some]
   rw [idxn_at hx,chk_pos (by unfold inR;omega),List.set_getElem_self]
  ·right
   rw [decide_eq_false (by omega),cond_false,h1]) (s:=(dedupA S,0)) rfl (by have:=fuel_big;simp only;omega)]
 rfl
theorem wordset_Sorted_eq {l:List (List Int)} (hl:SmL l):wordset_Sorted l=some (sortW l):=by
 obtain ⟨S,e,h1,h2,_⟩:=ordered_eq cmpW_total (f:=fun u0 u1=>word_Compare u0 u1) hl fun a ha b hb=>word_Compare_eq a b (by have:SmW a:=hl.2 a ha;unfold SmW at this;omega)
 unfold wordset_Sorted
 rw [e]
 show some S=_
 congr 1
 exact asc_ext h1 (sortW_asc l) fun x=>by rw [h2,mem_sortW]
theorem sml_sort {l:List (List Int)} (h:SmL l):SmL (sortW l):=⟨Nat.le_trans (sortW_length l) h.1,fun x hx=>h.2 x ((mem_sortW l x).1 hx)⟩
theorem R02_place_eq {l:List (List Int)} {w:List Int} (hA:Asc l) (hl:SmL l):R02_place l w=some (↑(placeL l w):Int):=by
 have hl1:l.length≤2000000:=hl.1
 have hsp:=placeL_spec l w
 have hle:=placeL_le l w
 unfold R02_place
 rw [iter_eq (r:=placeL l w) (fun s=>s.1≤placeL l w∧placeL l w≤s.2∧s.2≤l.length) (fun s=>s.2-s.1) (fun s ⟨h1,h2,h3⟩=>by
  obtain ⟨lo,hi⟩:=s
  simp only at h1 h2 h3
  simp only [R02_place.s2]
  by_cases h4:lo<hi
  ·left
   have hx:=get_at (l:=l) (i:=(lo+hi) / 2) (by omega)
   rw [decide_eq_true (by omega),cond_true,chk_pos (by unfold inR;omega),chk_pos (by unfold inR;omega),idxn_at hx,R01_Compare_eq _ _ (hl.2 _ (List.getElem_mem _))]
   simp only [Option.bind_some]
   by_cases h5:cmpW (l[(lo+hi) / 2]'(by omega)) w<0
   ·refine ⟨((lo+hi) / 2+1,hi),by rw [decide_eq_true h5,cond_true,chk_pos (by unfold inR;omega)],⟨?_,h2,h3⟩,by simp only;omega⟩
    simp only
    rcases Nat.lt_or_ge ((lo+hi) / 2) (placeL l w) with h | h
    ·exact h
    ·exfalso
     have hp:=get_at (l:=l) (i:=placeL l w) (by omega)
     have hne:=hsp.2 _ hp
     have r1:=cmpW_range (l[(lo+hi) / 2]'(by omega)) w
     rcases Nat.lt_or_ge (placeL l w) ((lo+hi) / 2) with h' | h'
     ·have:=hA.get h' hp hx
      exact hne (cmpW_trans _ _ _ this (by omega))
     ·have e:placeL l w=(lo+hi) / 2:=by omega
      simp only [e] at hne
      omega
   ·refine ⟨(lo,(lo+hi) / 2),by rw [decide_eq_false h5,cond_false],⟨h1,?_,by simp only;omega⟩,by simp only;omega⟩
    simp only
    rcases Nat.lt_or_ge ((lo+hi) / 2) (placeL l w) with h | h
    ·exfalso
     have:=hsp.1 _ _ h hx
     omega
    ·exact h
  ·right
   rw [decide_eq_false (by omega),cond_false,show lo=placeL l w by omega]) (s:=(0,l.length)) ⟨Nat.zero_le _,hle,Nat.le_refl _⟩ (by have:=fuel_big;simp only;omega)]
 rfl
theorem R02_with_eq {l:List (List Int)} {w:List Int} (hA:Asc l) (hl:SmL l) (hw:SmW w):R02_with l w=some (insW l w):=by
 have hl1:l.length≤2000000:=hl.1
 have hw1:w.length≤2000000:=hw
 have hle:=placeL_le l w
 have hmp:=hA.mem_place w
 unfold R02_with
 rw [R02_place_eq hA hl]
 simp only [Option.bind_some]
 by_cases hm:w∈l
 ·have hx:=hmp.1 hm
  have hlt:=(List.getElem?_eq_some_iff.1 hx).1
  rw [decide_eq_true (show (↑(placeL l w):Int)<(↑(List.length l):Int) by omega),cond_true,idx_at rfl hx,R01_Same_eq _ _ hw]
  unfold insW
  rw [if_pos hm]
  simp
 ·have hc:(cond (decide ((↑(placeL l w):Int)<(↑(List.length l):Int))) (idx l (↑(placeL l w):Int) fun e59=>(R01_Same e59 w).bind fun c60=>some c60) (some false):Option Bool)=some false:=by
   by_cases hlt:placeL l w<l.length
   ·have hx:=get_at hlt
    rw [decide_eq_true (by omega),cond_true,idx_at rfl hx,R01_Same_eq _ _ (hl.2 _ (List.getElem_mem _))]
    have:¬ l[placeL l w]=w:=fun e=>hm (hmp.2 (by rw [hx,e]))
    simp [this]
   ·rw [decide_eq_false (by omega),cond_false]
  rw [hc]
  simp only [Option.bind_some,cond_false]
  have hlen:(l++[([]:List Int)]).length=l.length+1:=by simp
  rw [chk_pos (by unfold capOk;omega),chk_pos (by rw [hlen];unfold inR;omega)]
  have key:=iter_post (step:=fun (s:List (List Int)×Int)=>R02_with.s2 (↑(placeL l w):Int) s.1 s.2) (fun s=>∃ i:Nat,s.2=(i:Int)∧placeL l w≤i∧i≤l.length∧∃ z,s.1=stage l z i) (fun s=>s.2.toNat-placeL l w) (fun r=>∃ z,r=stage l z (placeL l w)) (fun s ⟨i,h1,h2,h3,z,h4⟩=>by
   obtain ⟨y,i'⟩:=s
   simp only at h1 h4
   subst h1 h4
   simp only [R02_with.s2]
   by_cases h5:placeL l w<i
   ·left
    have hx:=get_at (l:=l) (i:=i-1) (by omega)
    have e1:(stage l z i)[i-1]?=some (l[i-1]'(by omega)):=by rw [stage_before (by omega) h3];exact hx
    have e2:(stage l z i)[i]?=some z:=stage_at h3
    refine ⟨(stage l (l[i-1]'(by omega)) (i-1),↑(i-1:Nat)),?_,⟨i-1,rfl,by omega,by omega,_,rfl⟩,by simp only;omega⟩
    rw [decide_eq_true (by omega),cond_true,chk_pos (by unfold inR;omega),idx_at (i:=i-1) (by omega) e1,idx_at rfl e2,chk_pos (by unfold inR;omega),Int.toNat_natCast,stage_set h3]
    have h6:=stage_down (us:=l) (j:=i-1) hx
    rw [show i-1+1=i by omega] at h6
    rw [h6,show (↑i:Int)-1=((i-1:Nat):Int) by omega]
   ·right
    have e:i=placeL l w:=by omega
    subst e
    refine ⟨_,by rw [decide_eq_false (by omega),cond_false],z,rfl⟩) fuel (l++[[]],(↑(l++[([]:List Int)]).length:Int)-1) ⟨l.length,by simp only [hlen];omega,hle,Nat.le_refl _,[],(stage_end l []).symm⟩ (by have:=fuel_big;simp only [hlen];omega)
  obtain ⟨r,e,z,hz⟩:=key
  subst hz
  rw [e]
  simp only [Option.bind_some]
  have e2:(stage l z (placeL l w))[placeL l w]?=some z:=stage_at hle
  rw [chk_pos (by unfold capOk;simp;omega),idx_at rfl e2,Int.toNat_natCast,stage_set hle,List.nil_append]
  unfold insW
  rw [if_neg hm]
  rfl
theorem R02_Sorted_eq {l:List (List Int)} (hl:SmL l):R02_Sorted l=some (sortW l):=by
 have hl1:l.length≤2000000:=hl.1
 unfold R02_Sorted
 rw [iter_eq (r:=sortW l) (fun s=>s.2≤l.length∧s.1=sortW (l.take s.2)) (fun s=>l.length-s.2) (fun s ⟨h1,h2⟩=>by
  obtain ⟨y,i⟩:=s
  simp only at h1 h2
  subst h2
  simp only [R02_Sorted.s2]
  by_cases h3:i<l.length
  ·left
   have hx:=get_at h3
   have hsm:SmL (sortW (l.take i)):=sml_sort ⟨by rw [List.length_take];omega,fun x hx=>hl.2 x (List.mem_of_mem_take hx)⟩
   refine ⟨(sortW (l.take (i+1)),i+1),?_,⟨h3,rfl⟩,by simp only;omega⟩
   rw [dec_lt hx,cond_true,idxn_at hx,R02_with_eq (sortW_asc _) hsm (hl.2 _ (List.getElem_mem _)),take_step hx,sortW_snoc]
   rfl
  ·right
   have e:i=l.length:=by omega
   subst e
   rw [decide_eq_false (by omega),cond_false,List.take_length]) (s:=([],0)) ⟨Nat.zero_le _,by simp [sortW]⟩ (by have:=fuel_big;simp only;omega)]
 rfl
end Go.Proofs.YtajipjnfegmlcaaGreatDoor.Sym

/-
 Tables that grow: the program's Prefix and Suffix are the document's. Plain laws.
-/
namespace Go.Proofs.YtajipjnfegmlcaaGreatDoor.Sym
set_option maxRecDepth 100000
theorem R01_Join_eq (l:List (List Int)) (hl:l.length≤100000000) (hf:l.flatten.length≤1000000000):R01_Join l=some l.flatten:=by
 unfold R01_Join
 rw [iter_eq (r:=l.flatten) (fun s=>s.2≤l.length∧s.1=(l.take s.2).flatten) (fun s=>l.length-s.2) (fun s ⟨h1,h2⟩=>by
  simp only [R01_Join.s2]
  by_cases h3:s.2<l.length
  ·left
   have hx:=get_at h3
   have h4:=flat_take_succ hx
   have h5:=flat_take_len (l:=l) (s.2+1)
   rw [h4,List.length_append] at h5
   refine ⟨((l.take (s.2+1)).flatten,s.2+1),?_,⟨by omega,rfl⟩,by simp only;omega⟩
   rw [dec_lt hx,cond_true,idxn_at hx,chk_pos (by rw [h2];unfold capOk;omega),h4,h2]
  ·right
   have e:s.2=l.length:=by omega
   rw [decide_eq_false (by omega),cond_false,h2,e,List.take_length]) (s:=([],0)) ⟨Nat.zero_le _,by simp⟩ (by have:=fuel_big;simp only;omega)]
 rfl
end Go.Proofs.YtajipjnfegmlcaaGreatDoor.Sym

/-
 Observations: what makes them valid, and their answers. Plain laws.
-/
namespace Go.Proofs.YtajipjnfegmlcaaGreatDoor.Sym
set_option maxRecDepth 100000
def SmO (o:T_api_Obs):Prop:=o.Traces.length≤1100000∧∀ t∈o.Traces,t.In.length≤1100000∧t.Out.length≤2000000
theorem R01_HasPrefix_eq (w p:List Int) (hw:SmW w):R01_HasPrefix w p=some (decide (p <+: w)):=by
 unfold R01_HasPrefix
 rw [R01_Common_eq w p hw,obind]
 congr 1
 exact decide_eq_decide.2 (by rw [← prefix_iff w p];omega)
theorem word_Common_eq (a b:List Int) (ha:SmW a):word_Common a b=some (common a b:Int):=by
 have ha':a.length≤2000000:=ha
 have hle:=common_le a b
 unfold word_Common
 have key:=iter_post (step:=fun k=>word_Common.s2 a b k) (fun k=>k≤a.length∧k≤b.length∧common a b=common (a.drop k) (b.drop k)+k) (fun k=>a.length-k) (fun r=>Sum.elim (fun (_:Unit)=>some (min (↑(List.length a):Int) (↑(List.length b):Int))) some r=some (common a b:Int)) (fun k ⟨h1,h2,h3⟩=>by
  simp only [word_Common.s2]
  by_cases h4:k<a.length∧k<b.length
  ·have hx:=get_at h4.1
   have hy:=get_at h4.2
   rw [decide_eq_true (show (↑k:Int)<min (↑(List.length a):Int) (↑(List.length b):Int) by omega),cond_true,idxn_at hx,idxn_at hy]
   rw [List.drop_eq_getElem_cons h4.1,List.drop_eq_getElem_cons h4.2] at h3
   by_cases e:a[k]=b[k]
   ·left
    refine ⟨k+1,by simp [e],⟨h4.1,h4.2,?_⟩,by omega⟩
    rw [h3,e]
    simp [common]
    omega
   ·right
    simp only [common,e,if_false,Nat.zero_add] at h3
    exact ⟨.inr (k:Int),by simp [e],by rw [h3];rfl⟩
  ·right
   rw [decide_eq_false (by omega),cond_false]
   refine ⟨.inl (),rfl,?_⟩
   rw [common_end (by omega),Nat.zero_add] at h3
   simp only [Sum.elim_inl]
   congr 1
   omega) fuel 0 ⟨Nat.zero_le _,Nat.zero_le _,by simp⟩ (by have:=fuel_big;omega)
 obtain ⟨r,e,hq⟩:=key
 rw [e]
 exact hq
theorem word_HasPrefix_eq (w p:List Int) (hw:SmW w):word_HasPrefix w p=some (decide (p <+: w)):=by
 unfold word_HasPrefix
 rw [word_Common_eq w p hw,obind]
 congr 1
 exact decide_eq_decide.2 (by rw [← prefix_iff w p];omega)
def PropT (n:Int) (t:T_api_Trace):Prop:=checkI t.In n=0∧t.Out.length=t.In.length∧∀ y∈t.Out,0≤y∧y≤1048576
theorem R16_Proper_tot (t:T_api_Trace) (n:Int) (h1:SmW t.In) (h2:SmW t.Out):∃ e,R16_Proper t n=some e∧(e=0→PropT n t):=by
 unfold R16_Proper
 rw [R01_Check_eq _ _ h1,obind]
 by_cases g1:checkI t.In n=0
 ·rw [decide_eq_false (by simpa using g1),cond_false]
  by_cases g2:t.Out.length=t.In.length
  ·rw [decide_eq_false (by omega),cond_false]
   have key:=iter_scan (step:=fun s=>R16_Proper.s2 t s) (l:=t.Out) (fun _ y=>if decide (0≤y∧y≤1048576)=true then none else some (2:Int)) (fun i y hy=>by
    simp only [R16_Proper.s2]
    rw [dec_lt hy,cond_true,idxn_at hy,idxn_at hy]
    by_cases a1:y<0
    ·rw [decide_eq_true a1,cond_true,obind,cond_true,decide_eq_false (show ¬ (0≤y∧y≤1048576) by omega)];rfl
    ·by_cases a2:1048576<y
     ·rw [decide_eq_false a1,cond_false,decide_eq_true a2,obind,cond_true,decide_eq_false (show ¬ (0≤y∧y≤1048576) by omega)];rfl
     ·rw [decide_eq_false a1,cond_false,decide_eq_false a2,obind,cond_false,decide_eq_true (show (0≤y∧y≤1048576) by omega)];rfl) (by
    simp only [R16_Proper.s2]
    rw [dec_end]
    rfl) (by unfold SmW at h2;omega)
   rw [key,scan_all (p:=fun y=>decide (0≤y∧y≤1048576))]
   by_cases h:(t.Out.all fun y=>decide (0≤y∧y≤1048576))=true
   ·rw [if_pos h]
    exact ⟨0,rfl,fun _=>⟨g1,g2,fun y hy=>of_decide_eq_true (List.all_eq_true.1 h y hy)⟩⟩
   ·rw [if_neg h]
    exact ⟨2,rfl,fun e=>by cases e⟩
  ·rw [decide_eq_true (by omega),cond_true]
   exact ⟨1,rfl,fun e=>by cases e⟩
 ·rw [decide_eq_true g1,cond_true]
  exact ⟨_,rfl,fun e=>absurd e g1⟩
def Agree (a b:T_api_Trace):Prop:=a.Out.take (common a.In b.In)=b.Out.take (common a.In b.In)
theorem R16_Differ_tot (a b:T_api_Trace) {n:Int} (ha:PropT n a) (hb:PropT n b) (h1:SmW a.In):∃ d,R16_Differ a b=some d∧(¬ 0≤d→Agree a b):=by
 have h1':a.In.length≤2000000:=h1
 have hc:=common_le a.In b.In
 have la:=ha.2.1
 have lb:=hb.2.1
 unfold R16_Differ
 rw [R01_Common_eq _ _ h1,obind]
 have key:=iter_post (step:=fun k=>R16_Differ.s2 a b (↑(common a.In b.In):Int) k) (fun k=>k≤common a.In b.In∧a.Out.take k=b.Out.take k) (fun k=>common a.In b.In-k) (fun r=>match r with | .inl ()=>Agree a b | .inr d=>0≤d) (fun k ⟨g1,g2⟩=>by
  simp only [R16_Differ.s2]
  by_cases g3:k<common a.In b.In
  ·have hx:=get_at (l:=a.Out) (i:=k) (by omega)
   have hy:=get_at (l:=b.Out) (i:=k) (by omega)
   rw [decide_eq_true (by omega),cond_true,idxn_at hx,idxn_at hy]
   by_cases e:a.Out[k]'(by omega)=b.Out[k]'(by omega)
   ·left
    refine ⟨k+1,by rw [decide_eq_false (by simpa using e),cond_false,chk_pos (by unfold inR;omega)],⟨g3,?_⟩,by omega⟩
    rw [take_step hx,take_step hy,g2,e]
   ·right
    exact ⟨.inr (k:Int),by rw [decide_eq_true e,cond_true],by simp⟩
  ·right
   have e:k=common a.In b.In:=by omega
   subst e
   exact ⟨.inl (),by rw [decide_eq_false (by omega),cond_false],g2⟩) fuel 0 ⟨Nat.zero_le _,by simp⟩ (by have:=fuel_big;omega)
 obtain ⟨r,e,hq⟩:=key
 rw [e]
 cases r with
 | inl u=>exact ⟨-1,rfl,fun _=>hq⟩
 | inr d=>exact ⟨d,rfl,fun h=>absurd hq h⟩
structure ObsOk (o:T_api_Obs):Prop where
 inp:1≤o.Inputs∧o.Inputs≤64
 num:o.Traces.length≤10000
 prop:∀ t∈o.Traces,PropT o.Inputs t∧t.In≠[]
 asc:∀ (i j:Nat) a b,i<j→o.Traces[i]?=some a→o.Traces[j]?=some b→cmpW a.In b.In=-1
 apart:∀ (i j:Nat) a b,i<j→o.Traces[i]?=some a→o.Traces[j]?=some b→¬ a.In <+: b.In∧Agree a b
theorem R16_apart_tot (o:T_api_Obs) (ho:SmO o) (hp:∀ t∈o.Traces,PropT o.Inputs t):∃ e,R16_apart o=some e∧(e=0→∀ (i j:Nat) a b,i<j→o.Traces[i]?=some a→o.Traces[j]?=some b→¬ a.In <+: b.In∧Agree a b):=by
 obtain ⟨hl,hs⟩:=ho
 unfold R16_apart
 have inner:∀ (i:Nat) (a:T_api_Trace),o.Traces[i]?=some a→∃ p c,iter (fun (s:Bool×Bool×Nat)=>R16_apart.s30 o i s.1 s.2.1 s.2.2) fuel (false,false,i+1)=some (p,c)∧(p=false→c=false→∀ j b,i<j→o.Traces[j]?=some b→¬ a.In <+: b.In∧Agree a b):=by
  intro i a ha
  have hi:=(List.getElem?_eq_some_iff.1 ha).1
  have ham:=List.mem_of_getElem? ha
  have key:=iter_post (step:=fun (s:Bool×Bool×Nat)=>R16_apart.s30 o i s.1 s.2.1 s.2.2) (fun s=>i<s.2.2∧s.2.2≤o.Traces.length∧(s.1=false→s.2.1=false→∀ j b,i<j→j<s.2.2→o.Traces[j]?=some b→¬ a.In <+: b.In∧Agree a b)) (fun s=>o.Traces.length-s.2.2) (fun r=>r.1=false→r.2=false→∀ j b,i<j→o.Traces[j]?=some b→¬ a.In <+: b.In∧Agree a b) (fun s ⟨g1,g2,g3⟩=>by
   obtain ⟨p,c,k⟩:=s
   simp only at g1 g2 g3
   simp only [R16_apart.s30]
   by_cases g4:k<o.Traces.length
   ·left
    have hx:=get_at g4
    have hxm:=List.getElem_mem g4
    have sx:SmW o.Traces[k].In:=by have:=(hs _ hxm).1;unfold SmW;omega
    have sa:SmW a.In:=by have:=(hs _ ham).1;unfold SmW;omega
    obtain ⟨d,hd,hd2⟩:=R16_Differ_tot a o.Traces[k] (hp a ham) (hp _ hxm) sa
    have hc1:(cond p (some true) (idxn o.Traces k fun e743=>idxn o.Traces i fun e744=>(R01_HasPrefix e743.In e744.In).bind fun c745=>some c745):Option Bool)=some (p||decide (a.In <+: o.Traces[k].In)):=by
     cases p with
     | true=>rfl
     | false =>
      rw [cond_false,idxn_at hx,idxn_at ha,R01_HasPrefix_eq _ _ sx,obind]
      rfl
    rw [dec_lt hx,cond_true,hc1,obind]
    cases c with
    | true =>
     refine ⟨(p||decide (a.In <+: o.Traces[k].In),true,k+1),rfl,⟨by simp only;omega,by simp only;omega,fun _ h=>by cases h⟩,by simp only;omega⟩
    | false =>
     rw [cond_false,idxn_at ha,idxn_at hx,hd,obind]
     refine ⟨(p||decide (a.In <+: o.Traces[k].In),decide (0≤d),k+1),rfl,⟨by simp only;omega,by simp only;omega,fun h1 h2 j b hj1 hj2 hb=>?_⟩,by simp only;omega⟩
     simp only [Bool.or_eq_false_iff] at h1
     rcases Nat.lt_or_ge j k with h | h
     ·exact g3 h1.1 rfl j b hj1 h hb
     ·simp only at hj2
      have e:j=k:=by omega
      subst e
      rw [hx] at hb
      injection hb with hb
      subst hb
      exact ⟨of_decide_eq_false h1.2,hd2 (of_decide_eq_false h2)⟩
   ·right
    have e:k=o.Traces.length:=by omega
    refine ⟨(p,c),by rw [decide_eq_false (by omega),cond_false],fun h1 h2 j b hj hb=>g3 h1 h2 j b hj ?_ hb⟩
    have:=(List.getElem?_eq_some_iff.1 hb).1
    omega) fuel (false,false,i+1) ⟨by simp only;omega,by simp only;omega,fun _ _ j b h1 h2=>by simp only at h2;omega⟩ (by have:=fuel_big;simp only;omega)
  obtain ⟨⟨p,c⟩,e,hq⟩:=key
  exact ⟨p,c,e,hq⟩
 have key:=iter_post (step:=fun i=>R16_apart.s32 o i) (fun i=>i≤o.Traces.length∧∀ i' j a b,i'<i→i'<j→o.Traces[i']?=some a→o.Traces[j]?=some b→¬ a.In <+: b.In∧Agree a b) (fun i=>o.Traces.length-i) (fun r=>match r with | .inl ()=>∀ (i j:Nat) a b,i<j→o.Traces[i]?=some a→o.Traces[j]?=some b→¬ a.In <+: b.In∧Agree a b | .inr e=>e≠0) (fun i ⟨g1,g2⟩=>by
  simp only [R16_apart.s32]
  by_cases g3:i<o.Traces.length
  ·have hx:=get_at g3
   obtain ⟨p,c,e,hq⟩:=inner i _ hx
   rw [dec_lt hx,cond_true,e,obind]
   simp only [R16_apart.k31]
   cases p with
   | true=>exact .inr ⟨.inr 7,rfl,(show (7:Int)≠0 by decide)⟩
   | false =>
    cases c with
    | true=>exact .inr ⟨.inr 13,rfl,(show (13:Int)≠0 by decide)⟩
    | false =>
     left
     refine ⟨i+1,rfl,⟨g3,fun i' j a b h1 h2 ha hb=>?_⟩,by omega⟩
     rcases Nat.lt_or_ge i' i with h | h
     ·exact g2 i' j a b h h2 ha hb
     ·have e:i'=i:=by omega
      subst e
      rw [hx] at ha
      injection ha with ha
      subst ha
      exact hq rfl rfl j b h2 hb
  ·right
   refine ⟨.inl (),by rw [decide_eq_false (by omega),cond_false],fun i' j a b h ha hb=>g2 i' j a b ?_ h ha hb⟩
   have:=(List.getElem?_eq_some_iff.1 ha).1
   omega) fuel 0 ⟨Nat.zero_le _,fun i' j a b h=>by omega⟩ (by have:=fuel_big;omega)
 obtain ⟨r,e,hq⟩:=key
 rw [e]
 cases r with
 | inl u=>exact ⟨0,rfl,fun _=>hq⟩
 | inr e'=>exact ⟨e',rfl,fun h=>absurd h hq⟩
theorem R16_Valid_tot (o:T_api_Obs) (ho:SmO o):∃ e,R16_Valid o=some e∧(e=0→ObsOk o):=by
 obtain ⟨hl,hs⟩:=ho
 unfold R16_Valid
 by_cases h1:o.Inputs<1
 ·rw [decide_eq_true h1,cond_true,obind,cond_true]
  exact ⟨2,rfl,fun e=>by cases e⟩
 by_cases h2:64<o.Inputs
 ·rw [decide_eq_false h1,cond_false,decide_eq_true h2,obind,cond_true]
  exact ⟨2,rfl,fun e=>by cases e⟩
 rw [decide_eq_false h1,cond_false,decide_eq_false h2,obind,cond_false]
 by_cases h3:10000<o.Traces.length
 ·rw [decide_eq_true (by omega),cond_true]
  exact ⟨11,rfl,fun e=>by cases e⟩
 rw [decide_eq_false (by omega),cond_false]
 have key:=iter_post (step:=fun i=>R16_Valid.s2 o i) (fun i=>i≤o.Traces.length∧(∀ j t,j<i→o.Traces[j]?=some t→PropT o.Inputs t∧t.In≠[])∧∀ j a b,j+1<i→o.Traces[j]?=some a→o.Traces[j+1]?=some b→cmpW a.In b.In=-1) (fun i=>o.Traces.length-i)
  (fun r=>match r with | .inl ()=>(∀ t∈o.Traces,PropT o.Inputs t∧t.In≠[])∧∀ (j:Nat) a b,o.Traces[j]?=some a→o.Traces[j+1]?=some b→cmpW a.In b.In=-1 | .inr e=>e≠0) (fun i ⟨g1,g2,g3⟩=>by
  simp only [R16_Valid.s2]
  by_cases g4:i<o.Traces.length
  ·have hx:=get_at g4
   have hxm:=List.getElem_mem g4
   have sx:SmW o.Traces[i].In:=by have:=(hs _ hxm).1;unfold SmW;omega
   obtain ⟨e,he,he2⟩:=R16_Proper_tot o.Traces[i] o.Inputs sx (hs _ hxm).2
   rw [dec_lt hx,cond_true,idxn_at hx,R01_Check_eq _ _ sx,obind]
   by_cases g5:checkI o.Traces[i].In o.Inputs=0
   ·rw [decide_eq_false (by simpa using g5),cond_false]
    by_cases g6:o.Traces[i].In.length=0
    ·rw [decide_eq_true (by omega),cond_true]
     exact .inr ⟨.inr 19,rfl,(show (19:Int)≠0 by decide)⟩
    ·rw [decide_eq_false (by omega),cond_false,he,obind]
     by_cases g7:e=0
     ·rw [decide_eq_false (by simpa using g7),cond_false]
      have hP:=he2 g7
      have fin:∀ b:Bool,(b=false→0<i→∀ a,o.Traces[i-1]?=some a→cmpW a.In o.Traces[i].In=-1)→(∃ s',(some b).bind (fun (y160:Bool)=>cond y160 (some (.inr (.inr 10))) (some (.inl (i+1))))=some (.inl s':Nat⊕(Unit⊕Int))∧(s'≤o.Traces.length∧(∀ j t,j<s'→o.Traces[j]?=some t→PropT o.Inputs t∧t.In≠[])∧∀ j a b,j+1<s'→o.Traces[j]?=some a→o.Traces[j+1]?=some b→cmpW a.In b.In=-1)∧o.Traces.length-s'<o.Traces.length-i)∨∃ r,(some b).bind (fun (y160:Bool)=>cond y160 (some (.inr (.inr 10))) (some (.inl (i+1))))=some (.inr r:Nat⊕(Unit⊕Int))∧(match r with | .inl ()=>(∀ t∈o.Traces,PropT o.Inputs t∧t.In≠[])∧∀ (j:Nat) a b,o.Traces[j]?=some a→o.Traces[j+1]?=some b→cmpW a.In b.In=-1 | .inr e=>e≠0):=by
       intro b hb
       cases b with
       | true=>exact .inr ⟨.inr 10,rfl,(show (10:Int)≠0 by decide)⟩
       | false =>
        left
        refine ⟨i+1,rfl,⟨g4,fun j t hj ht=>?_,fun j a b hj ha hb'=>?_⟩,by omega⟩
        ·rcases Nat.lt_or_ge j i with h | h
         ·exact g2 j t h ht
         ·have ej:j=i:=by omega
          subst ej
          rw [hx] at ht
          injection ht with ht
          subst ht
          exact ⟨hP,fun e=>g6 (by rw [e];rfl)⟩
        ·rcases Nat.lt_or_ge (j+1) i with h | h
         ·exact g3 j a b h ha hb'
         ·have ej:j+1=i:=by omega
          subst ej
          rw [hx] at hb'
          injection hb' with hb'
          subst hb'
          exact hb rfl (by omega) a (by simpa using ha)
      by_cases g8:0<i
      ·have hpv:=get_at (l:=o.Traces) (i:=i-1) (by omega)
       have sp:SmW (o.Traces[i-1]'(by omega)).In:=by have:=(hs _ (List.getElem_mem (show i-1<o.Traces.length by omega))).1;unfold SmW;omega
       rw [decide_eq_true (by omega),cond_true,idx_at (i:=i-1) (by omega) hpv,R01_Compare_eq _ _ sp,obind]
       refine fin _ fun hb _ a ha=>?_
       rw [hpv] at ha
       injection ha with ha
       subst ha
       have h5:=of_decide_eq_false hb
       have:=cmpW_range (o.Traces[i-1]'(by omega)).In o.Traces[i].In
       omega
      ·rw [decide_eq_false (by omega),cond_false]
       exact fin false fun _ h=>absurd h g8
     ·rw [decide_eq_true g7,cond_true]
      exact .inr ⟨.inr e,rfl,g7⟩
   ·rw [decide_eq_true g5,cond_true]
    exact .inr ⟨.inr _,rfl,g5⟩
  ·right
   refine ⟨.inl (),by rw [decide_eq_false (by omega),cond_false],fun t ht=>?_,fun j a b ha hb=>g3 j a b ?_ ha hb⟩
   ·obtain ⟨j,hj,rfl⟩:=List.mem_iff_getElem.1 ht
    exact g2 j _ (by omega) (get_at hj)
   ·have:=(List.getElem?_eq_some_iff.1 hb).1
    omega) fuel 0 ⟨Nat.zero_le _,fun j t h=>by omega,fun j a b h=>by omega⟩ (by have:=fuel_big;omega)
 obtain ⟨r,e,hq⟩:=key
 rw [e,obind]
 cases r with
 | inr e'=>exact ⟨e',rfl,fun h=>absurd h hq⟩
 | inl u =>
  obtain ⟨hp,hone⟩:=hq
  obtain ⟨e',he,he2⟩:=R16_apart_tot o ⟨hl,hs⟩ fun t ht=>(hp t ht).1
  simp only [Sum.elim_inl]
  rw [he,obind]
  refine ⟨e',rfl,fun h=>⟨by omega,by omega,hp,?_,he2 h⟩⟩
  have key:∀ (d i:Nat) a b,o.Traces[i]?=some a→o.Traces[i+d+1]?=some b→cmpW a.In b.In=-1:=by
   intro d
   induction d with
   | zero=>exact fun i a b=>hone i a b
   | succ d ih =>
    intro i a b ha hb
    have hj:=(List.getElem?_eq_some_iff.1 hb).1
    have hm:=get_at (l:=o.Traces) (i:=i+d+1) (by omega)
    exact cmpW_trans _ _ _ (ih i a _ ha hm) (hone _ _ _ hm (by rw [show i+d+1+1=i+(d+1)+1 by omega];exact hb))
  intro i j a b hij ha hb
  exact key (j-i-1) i a b ha (by rw [show i+(j-i-1)+1=j by omega];exact hb)
end Go.Proofs.YtajipjnfegmlcaaGreatDoor.Sym

/-
 Answers and rows: the program's finder answers as the document's observations do. Plain laws.
-/
namespace Go.Proofs.YtajipjnfegmlcaaGreatDoor.Sym
set_option maxRecDepth 100000
def ansO (o:T_api_Obs) (w:List Int):Option (List Int) :=
 if w=[] then some [] else (o.Traces.find? fun t=>decide (w <+: t.In)).map fun t=>t.Out.take w.length
abbrev tw {α:Type} (x:Option (List α)):List α×Bool:=match x with | some r=>(r,true) | none=>([],false)
theorem smo_in {o:T_api_Obs} (ho:SmO o) {t:T_api_Trace} (h:t∈o.Traces):SmW t.In:=by
 have:=(ho.2 t h).1
 unfold SmW
 omega
theorem pre_len {p w:List Int} (h:p <+: w):p.length≤w.length:=h.length_le
theorem R16_Answer_eq {o:T_api_Obs} {w:List Int} (ho:SmO o) (hv:ObsOk o):R16_Answer o w=some (tw (ansO o w)):=by
 have hl:=ho.1
 unfold R16_Answer ansO
 by_cases h0:w=[]
 ·subst h0
  rfl
 ·rw [if_neg h0,decide_eq_false (by
   intro h
   exact h0 (List.eq_nil_of_length_eq_zero (by omega))),cond_false]
  have key:=iter_scan (step:=fun i=>R16_Answer.s2 o w i) (l:=o.Traces) (fun _ t=>if w <+: t.In then some (t.Out.take w.length,true) else none) (fun i t ht=>by
   have htm:=List.mem_of_getElem? ht
   have hP:=(hv.prop t htm).1
   simp only [R16_Answer.s2]
   rw [dec_lt ht,cond_true,idxn_at ht,R01_HasPrefix_eq _ _ (smo_in ho htm),obind]
   by_cases h:w <+: t.In
   ·have hlen:=pre_len h
    have:=hP.2.1
    have h2:=(ho.2 t htm).1
    rw [decide_eq_true h,cond_true,idxn_at ht,chk_pos (by omega),R01_Join_eq _ (by simp) (by simp;omega),obind,if_pos h]
    simp
   ·rw [decide_eq_false h,cond_false,if_neg h]) (by
   simp only [R16_Answer.s2]
   rw [dec_end]
   rfl) (by omega)
  rw [key,obind]
  have key2:∀ (l:List T_api_Trace) (j:Nat),scan (fun _ t=>if w <+: t.In then some (t.Out.take w.length,true) else none) j l=((l.find? fun t=>decide (w <+: t.In)).map fun t=>t.Out.take w.length).map fun r=>(r,true):=by
   intro l
   induction l with
   | nil=>intro j;rfl
   | cons t l ih =>
    intro j
    unfold scan
    by_cases h:w <+: t.In
    ·rw [if_pos h,List.find?_cons_of_pos (by simpa using h)]
     rfl
    ·rw [if_neg h,List.find?_cons_of_neg (by simpa using h)]
     exact ih _
  rw [key2]
  cases (o.Traces.find? fun t=>decide (w <+: t.In)).map fun t=>t.Out.take w.length<;>rfl
end Go.Proofs.YtajipjnfegmlcaaGreatDoor.Sym

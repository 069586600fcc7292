/-
  Parts of the proof, behind each other.
-/
import Derived.Test.YtcneaiejdidooaaGreatDoorM2
import Derived.Test.YtcneaiejdidooaaGreatDoorProg
import Derived.Lib.AppendZeros
import Derived.Shelf.SlSortCmp.NoneTotal
import Derived.Lib.OwnBridge
import Derived.Laws.OwnMore
import Derived.Lib.BufferRead
import Derived.Lib.Hide
import Derived.WalkSmall
import Derived.Shelf.SlSortCmp.Whole1
import Derived.Shelf.SlGeneric
import Derived.Ground.SlsfProg
import Derived.Lib.AppendZerosOnto
import Derived.Lib.Overlaps
import Derived.Lib.Walk
import Derived.Shelf.RegionOpenPlain
import Derived.Laws.NewBlocks
import Derived.Deep.WholeRow
set_option linter.all false
namespace Go.Proofs.YtcneaiejdidooaaGreatDoor
section
open Go.RowKit
theorem Tryz.infoInt:(Tryz.prog.info? 3).map (fun i=>(i.zero,i.size,i.bytes))=some (some (.int .i64 0),1,8):=by kernel_rfl
theorem addr_add (b o j:Nat):(⟨b,o,none⟩:Addr).add j=⟨b,o+j,none⟩:=by
 unfold Addr.add;split
 ·rename_i h;subst h;rfl
 ·rfl
def Src (w:World) (A:Option Addr) (m:Nat) (news:List Value):Prop :=
 news.length=m∧(0<m→∃ b o,A=some ⟨b,o,none⟩∧∀ j u,news[j]?=some u→w.cell? ⟨b,o+j,none⟩=some u)
section
variable {P:Program} {w:World}
theorem zsx (base:Nat) (t ty e:TypeId) (i:TypeInfo) (z:Value) (bytes:Nat) (ht:P.underlying t=some (.slice e)) (hi:P.info? e=some i) (hz:i.zero=some z)
  (hsize:i.size=1) (hby:i.bytes=bytes) (hzs:z.cells.size=1) (v:Value) (n:Nat) (xs:List Value) (hown:w.ownsRow base e 1 v n xs)
  (A:Option Addr) (m c:Nat) (news:List Value) (hs:Src w A m news) (h1:∀ u∈news,u.oneCell'=true)
  (h63:n+m≤maxLen) (hbytes:(n+m)*bytes≤140737488355328) (hbase:base≤w.heap.size) :
  ∃ v' w',(Builtin.append_ #[t,t] ty #[v,.slice A m c]).run P w=.ok v' w'∧w'.ownsRow base e 1 v' (n+m) (xs++news)∧w.grownBy w' v.ownBlock ∧
   (v'.ownBlock=v.ownBlock∨v'.ownBlock=some w.heap.size):=by
 obtain ⟨hl,hc⟩:=hs;cases A with
 | none =>
  have hm:m=0:=by
   rcases Nat.eq_zero_or_pos m with h0 | h0
   ·exact h0
   ·obtain ⟨b,o,h,_⟩:=hc h0;cases h
  subst hm;have hn:news=[]:=List.eq_nil_of_length_eq_zero hl;subst hn;refine ⟨v,w,?_,by simpa using hown,World.grownBy.refl w _,.inl rfl⟩;rcases hown.2 with ⟨rfl,rfl⟩ | ⟨g,cap,cur,rfl,_,_,hnc,_⟩
  ·simp [Builtin.append_,run_underlying ht,sizeOf,typeInfo,hi,Builtin.lenOf,Builtin.firstCells]
  ·simp [Builtin.append_,run_underlying ht,sizeOf,typeInfo,hi,Builtin.lenOf,Builtin.firstCells,hnc,storeCells]
 | some ad =>
  have hcells:∀ j u,news[j]?=some u→w.cell? (ad.add j)=some u:=by
   intro j u hu;rcases Nat.eq_zero_or_pos m with h0 | h0
   ·subst h0;have hn:news=[]:=List.eq_nil_of_length_eq_zero hl;subst hn;simp at hu
   ·obtain ⟨b,o,h,hcc⟩:=hc h0;injection h with h
    subst h;rw [addr_add];exact hcc j u hu
  obtain ⟨v',w',hrun,h2,h3,_,h5⟩:=run_append_own_at (P:=P) w base t ty e i z 1 bytes ht hi hz hsize hby hzs (by omega) v n xs hown ad m c news (by omega) hcells h1 h63 hbytes hbase;exact ⟨v',w',hrun,h2,h3,h5⟩
theorem wp_append_row {o:Oper} {a:Act} {K:Act→World→Prop} {Q:Exit→Act→World→Prop} (s x:Operand) (t:TypeId)
  (ho:o.op=.call { callee:=.builtin .append,args:=#[s,x],argTypes:=#[t,t] })
  (base:Nat) (e:TypeId) (i:TypeInfo) (z:Value) (bytes:Nat) (ht:P.underlying t=some (.slice e)) (hi:P.info? e=some i) (hz:i.zero=some z)
  (hsize:i.size=1) (hby:i.bytes=bytes) (hzs:z.cells.size=1) (v:Value) (n:Nat) (xs:List Value) (hs:a.eval s=v) (hown:w.ownsRow base e 1 v n xs)
  (A:Option Addr) (m c:Nat) (news:List Value) (hx:a.eval x=.slice A m c) (hsrc:Src w A m news) (h1:∀ u∈news,u.oneCell'=true)
  (h63:n+m≤maxLen) (hbytes:(n+m)*bytes≤140737488355328) (hbase:base≤w.heap.size)
  (h:∀ v' w',w'.ownsRow base e 1 v' (n+m) (xs++news)→w.grownBy w' v.ownBlock→(v'.ownBlock=v.ownBlock∨v'.ownBlock=some w.heap.size)→K (a.put o.dst v') w'):o.wp P a w K Q:=by
 obtain ⟨v',w',hrun,h2,h3,h4⟩:=zsx (P:=P) base t o.type e i z bytes ht hi hz hsize hby hzs v n xs hown A m c news hsrc h1 h63 hbytes hbase;unfold Oper.wp execOp;simp only [ho,resolve,invoke,builtin,Sem.run_bind,Sem.run_pure,Result.andThen_ok,List.map_toArray,List.map_cons,List.map_nil,hs,hx,hrun];exact h v' w' h2 h3 h4
theorem zg1 {ops:Array Oper} {rest:List Oper} {o:Oper} {a:Act} {Q:Exit→Act→World→Prop} (hgd:o.guard=none) (s x:Operand) (t:TypeId)
  (ho:o.op=.call { callee:=.builtin .append,args:=#[s,x],argTypes:=#[t,t] })
  (base:Nat) (e:TypeId) (i:TypeInfo) (z:Value) (bytes:Nat) (ht:P.underlying t=some (.slice e)) (hi:P.info? e=some i) (hz:i.zero=some z)
  (hsize:i.size=1) (hby:i.bytes=bytes) (hzs:z.cells.size=1) (v:Value) (n:Nat) (xs:List Value) (hs:a.eval s=v) (hown:w.ownsRow base e 1 v n xs)
  (A:Option Addr) (m c:Nat) (news:List Value) (hx:a.eval x=.slice A m c) (hsrc:Src w A m news) (h1:∀ u∈news,u.oneCell'=true)
  (h63:n+m≤maxLen) (hbytes:(n+m)*bytes≤140737488355328) (hbase:base≤w.heap.size)
  (h:∀ v' w',w'.ownsRow base e 1 v' (n+m) (xs++news)→w.grownBy w' v.ownBlock→(v'.ownBlock=v.ownBlock∨v'.ownBlock=some w.heap.size)→wpList P ops Q rest (a.put o.dst v') w') :
  wpList P ops Q (o::rest) a w :=
 wpList_plain hgd fun _ hK=>wp_append_row s x t ho base e i z bytes ht hi hz hsize hby hzs v n xs hs hown A m c news hx hsrc h1 h63 hbytes hbase fun v' w' h2 h3 h4=>hK _ _ (h v' w' h2 h3 h4)
end
def Off (u:Value) (row:Option Nat):Prop:=∀ a n c,u=.slice (some a) n c→0<n→row≠some a.block
def OwnI (w:World) (base:Nat) (v:Value) (xs:List Int):Prop:=w.ownsRow base 3 1 v xs.length (xs.map (Value.int .i64))
def OwnW (w:World) (base:Nat) (v:Value) (l:List (List Int)):Prop :=
 ∃ us:List Value,us.length=l.length∧w.ownsRow base 25 1 v us.length us ∧
  ∀ (i:Nat) x,l[i]?=some x→∃ u,us[i]?=some u∧IsI w u x∧Off u v.ownBlock
theorem IsI.lt {w:World} {v:Value} {x:List Int} (h:IsI w v x):∀ a n c,v=.slice (some a) n c→0<n→a.block<w.heap.size:=by
 obtain ⟨A,n,c,rfl,hr⟩:=h;rintro a n' c' e h0;injection e with e1 e2 e3
 subst e1 e2;obtain ⟨b,o,u,y,e,_,hu,_⟩:=hr.at_ h0;injection e with e
 subst e;exact World.block_lt_of_cell? w _ hu
theorem IsI.off_new {w:World} {v:Value} {x:List Int} (h:IsI w v x) {g:Nat} (hg:w.heap.size≤g):Off v (some g):=fun a n c e h0 hh=>by
 have:=h.lt a n c e h0;injection hh with hh
 omega
theorem IsI.grown {w w':World} {v:Value} {x:List Int} {row:Option Nat} (h:IsI w v x) (hg:w.grownBy w' row) (ho:Off v row):IsI w' v x:=by
 obtain ⟨A,n,c,rfl,hr⟩:=h;refine ⟨A,n,c,rfl,hr.1,hr.2.1,hr.2.2.1,fun hn=>?_⟩;obtain ⟨b,o,rfl,hc⟩:=hr.2.2.2 hn;refine ⟨b,o,rfl,fun i y hy=>?_⟩;obtain ⟨u,hu,hr'⟩:=hc i y hy;exact ⟨u,hg.cell hu (fun e=>ho _ _ _ rfl hn e.symm),hr'⟩
theorem zjv {w w':World} (hg:w.grownBy w' none):ziu w w':=fun _ _ hu=>hg.cell hu (by simp)
theorem zt1 {w w':World} (h:Below w.heap.size w w'):w.grownBy w' none:=⟨h.os,h.tape,h.output,h.size,fun k hk _=>h.block k hk⟩
theorem zsn {w w':World} {row:Option Nat} (hg:w.grownBy w' row) {B:Nat} (hB:B≤w.heap.size) (hr:∀ g,row=some g→B≤g):Below B w w':=(Below.refl B w).grown hg hB hr
theorem OwnI.nil_ (w:World) (base:Nat):OwnI w base (.slice none 0 0) []:=World.ownsRow_nil _ _ _ _
theorem OwnW.nil_ (w:World) (base:Nat):OwnW w base (.slice none 0 0) []:=⟨[],rfl,World.ownsRow_nil _ _ _ _,fun i x h=>by simp at h⟩
theorem OwnI.lt {w:World} {base:Nat} {v:Value} {xs:List Int} (h:OwnI w base v xs):∀ k,v.ownBlock=some k→base≤k∧k<w.heap.size:=World.ownsRow.lt h
theorem OwnW.lt {w:World} {base:Nat} {v:Value} {l:List (List Int)} (h:OwnW w base v l):∀ k,v.ownBlock=some k→base≤k∧k<w.heap.size:=by
 obtain ⟨us,_,hown,_⟩:=h;exact hown.lt
theorem OwnI.kept {w w':World} {base:Nat} {v:Value} {xs:List Int} {row:Option Nat} (h:OwnI w base v xs) (hg:w.grownBy w' row) (hne:v.ownBlock=none∨v.ownBlock≠row):OwnI w' base v xs :=
 World.ownsRow.kept h hg hne
theorem OwnW.kept {w w':World} {base:Nat} {v:Value} {l:List (List Int)} (h:OwnW w base v l) (hg:w.grownBy w' none):OwnW w' base v l:=by
 obtain ⟨us,hl,hown,hel⟩:=h;refine ⟨us,hl,hown.kept hg (by cases v.ownBlock<;>simp),fun i x hx=>?_⟩;obtain ⟨u,hu,hi,ho⟩:=hel i x hx;exact ⟨u,hu,hi.keep (zjv hg),ho⟩
theorem OwnW.alloc {w:World} {base:Nat} {v:Value} {l:List (List Int)} (h:OwnW w base v l) (o:Obj):OwnW (w.alloc o) base v l:=h.kept (World.grownBy_alloc w o none)
theorem OwnI.alloc {w:World} {base:Nat} {v:Value} {xs:List Int} (h:OwnI w base v xs) (o:Obj):OwnI (w.alloc o) base v xs:=World.ownsRow.alloc h o
theorem OwnW.push {w w1 w2:World} {base:Nat} {v v' u:Value} {l:List (List Int)} {x:List Int} {us:List Value} (hl:us.length=l.length)
  (hel:∀ (i:Nat) x,l[i]?=some x→∃ u,us[i]?=some u∧IsI w u x∧Off u v.ownBlock) (hx:IsI w u x) (hoff:Off u v.ownBlock) (h1:w.grownBy w1 none)
  (hown:w2.ownsRow base 25 1 v' (us.length+1) (us++[u])) (hg:w1.grownBy w2 v.ownBlock) (hb:v'.ownBlock=v.ownBlock∨v'.ownBlock=some w1.heap.size):OwnW w2 base v' (l++[x]):=by
 have key:∀ u x,IsI w u x→Off u v.ownBlock→IsI w2 u x∧Off u v'.ownBlock:=fun u x hi ho=>by
  refine ⟨(hi.keep (zjv h1)).grown hg ho,?_⟩;rcases hb with e | e
  ·rw [e];exact ho
  ·rw [e];exact hi.off_new h1.size
 refine ⟨us++[u],by simp [hl],by simpa using hown,fun i y hy=>?_⟩;rw [List.getElem?_append] at hy;split at hy
 ·rename_i hi;obtain ⟨u',hu',h3,h4⟩:=hel i y hy;exact ⟨u',by rw [List.getElem?_append,if_pos (by omega)];exact hu',key u' y h3 h4⟩
 ·rename_i hi
  have hi0:i-l.length=0:=by
   rcases Nat.eq_zero_or_pos (i-l.length) with h0 | h0
   ·exact h0
   ·rw [List.getElem?_eq_none (by simp;omega)] at hy;cases hy
  rw [hi0] at hy;simp at hy;subst hy;exact ⟨u,by rw [List.getElem?_append,if_neg (by omega)];simp [hl,hi0],key u x hx hoff⟩
theorem zea.src {w:World} {A:Option Addr} {n c:Nat} {xs:List Int} (h:zea w zob A n c xs):Src w A n (xs.map (Value.int .i64)):=by
 refine ⟨by simp [h.len],fun h0=>?_⟩;obtain ⟨b,o,e,hc⟩:=h.2.2.2 h0;refine ⟨b,o,e,fun j u hu=>?_⟩;rw [List.getElem?_map] at hu;cases hx:xs[j]? with
 | none=>rw [hx] at hu;cases hu
 | some x =>
  rw [hx] at hu;simp at hu;obtain ⟨u',hu',rfl⟩:=hc j x hx;rw [← hu];exact hu'
theorem src_one (w:World) (x:Value) (t:TypeId):Src (w.alloc (.cells #[x] t)) (some ⟨w.heap.size,0,none⟩) 1 [x] :=
 ⟨rfl,fun _=>⟨_,_,rfl,fun j u hu=>by
  have:=cell_one_new w x t j u hu
  rwa [addr_add] at this⟩⟩
end
end Go.Proofs.YtcneaiejdidooaaGreatDoor
namespace Go.Proofs.YtcneaiejdidooaaGreatDoor.Sym
section
open Go.RowKit
section
variable {P:Program} {w:World}
theorem zgf {ops:Array Oper} {rest:List Oper} {o:Oper} {a:Act} {Q:Exit→Act→World→Prop} (hgd:o.guard=none) (s x:Operand) (t:TypeId)
  (ho:o.op=.call { callee:=.builtin .append,args:=#[s,x],argTypes:=#[t,t] })
  (base:Nat) (e:TypeId) (i:TypeInfo) (z:Value) (size bytes:Nat) (ht:P.underlying t=some (.slice e)) (hi:P.info? e=some i) (hz:i.zero=some z)
  (hsize:i.size=size) (hby:i.bytes=bytes) (hzs:z.cells.size=size) (hsz:0<size) (v:Value) (n:Nat) (xs:List Value) (hs:a.eval s=v) (hown:w.ownsRow base e size v n xs)
  (A:Option Addr) (m c:Nat) (news:List Value) (hx:a.eval x=.slice A m c) (hl:news.length=m*size) (hsrc:0<m→∃ b q,A=some ⟨b,q,none⟩∧∀ (j:Nat) u,news[j]?=some u→w.cell? ⟨b,q+j,none⟩=some u) (h1:∀ u∈news,u.oneCell'=true)
  (h63:n+m≤maxLen) (hbytes:(n+m)*bytes≤140737488355328) (hbase:base≤w.heap.size)
  (h:∀ v' w',w'.ownsRow base e size v' (n+m) (xs++news)→w.grownBy w' v.ownBlock→(v'.ownBlock=v.ownBlock∨v'.ownBlock=some w.heap.size)→wpList P ops Q rest (a.put o.dst v') w') :
  wpList P ops Q (o::rest) a w:=by
 refine wpList_plain hgd fun _ hK=>?_;obtain ⟨v',w',hrun,h2,h3,h4⟩:=zic (P:=P) base t o.type e i z size bytes ht hi hz hsize hby hzs hsz v n xs hown A m c news hl hsrc h1 h63 hbytes hbase;unfold Oper.wp execOp;simp only [ho,resolve,invoke,builtin,Sem.run_bind,Sem.run_pure,Result.andThen_ok,List.map_toArray,List.map_cons,List.map_nil,hs,hx,hrun];exact hK _ _ (h v' w' h2 h3 h4)
end
theorem zt0 {a b c:World} {row row':Option Nat} (h:a.grownBy b row) (k:b.grownBy c row') (hr:row'=row∨∀ g,row'=some g→a.heap.size≤g):a.grownBy c row :=
 ⟨k.os.trans h.os,k.tape.trans h.tape,k.output.trans h.output,Nat.le_trans h.size k.size,fun i hi hne =>
  (k.block i (Nat.lt_of_lt_of_le hi h.size) (by
   rcases hr with e | e
   ·rw [e];exact hne
   ·intro he
    have:=e i he.symm
    omega)).trans (h.block i hi hne)⟩
def zrq (t:TypeId) (k n:Nat) (us:List Value) (w:World) (e:Ending) (w':World):Prop :=
 ∃ v',e=.returned v'∧w'.ownsRow w.heap.size t k v' n us∧Below w.heap.size w w'
theorem zo5 (w:World) (t:TypeId) (k:Nat):(w.alloc (.cells #[] t)).ownsRow w.heap.size t k (.slice (some ⟨w.heap.size,0,none⟩) 0 0) 0 []:=by
 refine ⟨by simp,.inr ⟨w.heap.size,0,#[],rfl,Nat.le_refl _,?_,Nat.zero_le _,by unfold maxLen;omega,by simp,by simp⟩⟩;exact heap_alloc_new w _
theorem zq5 {g:FuncId} {t:TypeId} {k by_:Nat} (he:∀ args w,(callFunc g args).run Tryz.prog w=.ok (.enter g args) w) (hk0:0<k)
  (h:∀ (w:World) (A:Option Addr) (n c:Nat) (us:List Value),us.length=n*k→(0<n→∃ b q,A=some ⟨b,q,none⟩∧∀ (j:Nat) u,us[j]?=some u→w.cell? ⟨b,q+j,none⟩=some u) →
   (∀ u∈us,u.oneCell'=true)→n≤17592186044416→n*by_≤140737488355328→Calls Tryz.prog g #[.slice A n c] w (zrq t k n us w))
  {es:List (List IV)} (hk:∀ e∈es,e.length=k) (hc:zbh es.length by_):Sp Tryz.prog g [.im (.sl es)] (.row t k es):=by
 refine ⟨he,fun w S vs F hS hv hn hF=>?_⟩
 match vs,hv with
 | [v],⟨F1,F2,⟨h3,e1⟩,h5,e3⟩ =>
  have h5:F2=[]:=h5;subst e1 h5 e3;obtain ⟨A,c,us,rfl,hl,h1,hlim,hcell,hr⟩:=zt6 h3 hk;have hlk:us.length=es.length*k:=by rw [hl,zbm hk]
  refine (h w A es.length c us hlk hcell h1 hlim hc.1).mono ?_;rintro e w' ⟨v',rfl,ho,hb⟩
  have ho0:w'.ownsRow 0 t k v' es.length us:=by
   refine ⟨ho.1,?_⟩;rcases ho.2 with h6 | ⟨g1,cap,cur,k1,_,k3⟩
   ·exact .inl h6
   ·exact .inr ⟨g1,cap,cur,k1,Nat.zero_le _,k3⟩
  have hlt:=ho.lt
  have hbk:∀ b∈(zb2 v').toList,w.heap.size≤b∧b<w'.heap.size:=fun b hb=>by
   refine hlt b ?_;rw [zmm ho0];simpa using hb
  refine ⟨v',(zb2 v').toList,rfl,.of hb,⟨[v'],(zb2 v').toList,[],rfl,⟨(zb2 v').toList,[],⟨row_one ho0,[],⟨us,hk0,hk,hlim,ho0,hl,h1,fun i u x hu hx=>?_⟩,rfl⟩,rfl,by simp⟩,rfl,by simp⟩,?_,fun b hb=>⟨.inl (hbk b hb).1,(hbk b hb).2⟩⟩
  ·have k1:∀ b,S b→(S b∨w.heap.size≤b∨b∈[])∧b<w'.heap.size∧b∉(zb2 v').toList:=fun b hb'=>⟨.inl hb',Nat.lt_of_lt_of_le (hS b hb') hb.size,fun hm=>by
    have h1:=(hbk b hm).1
    have h2:=hS b hb'
    omega⟩
   have k2:∀ (p:Addr) u,S p.block→w.cell? p=some u→w'.cell? p=some u:=fun p u hp hu=>by
    have h6:=hb.block p.block (hS _ hp)
    have h7:w'.cell? p=w.cell? p:=by
     unfold World.cell?;rw [h6]
    rw [h7];exact hu
   exact (hr i u x hu hx).mono k1 k2
  ·cases zb2 v'<;>simp
end
section
open Go.RowKit
theorem Tryz.infoC_int:(Tryz.prog.info? 3).map (fun i=>(i.zero,i.size,i.bytes))=some (some (.int .i64 0),1,8):=by kernel_rfl
set_option maxRecDepth 100000 in
set_option maxHeartbeats 400000 in
theorem clone_int (w:World) (A:Option Addr) (n c:Nat) (us:List Value) (hl:us.length=n*1) (hs:0<n→∃ b q,A=some ⟨b,q,none⟩∧∀ (j:Nat) u,us[j]?=some u→w.cell? ⟨b,q+j,none⟩=some u)
  (h1:∀ u∈us,u.oneCell'=true) (hn:n≤17592186044416) (hby:n*8≤140737488355328):Calls Tryz.prog 46 #[.slice A n c] w (zrq 3 1 n us w):=by
 obtain ⟨j0,ji,jz0,jz1,jz2⟩:=info_parts Tryz.infoC_int;have hnil:=Lib.run_eql_slice_nil (P:=Tryz.prog) w 25 3 A n c 0 0 Tryz.underlying25;cases A with
 | none =>
  have h0:n=0:=by
   rcases Nat.eq_zero_or_pos n with h | h
   ·exact h
   ·obtain ⟨b,q,e,_⟩:=hs h;cases e
  subst h0;have hxs:us=[]:=List.eq_nil_of_length_eq_zero (by omega);have HX:=Lib.hid hxs;clear hxs hs hl h1
  go_enter Tryz.func46,Tryz.ntmps46
  go_wp2
  go_ret
  rw [HX.out];exact ⟨_,rfl,World.ownsRow_nil _ _ _ _,Below.refl _ _⟩
 | some a =>
  have hsrc:∀ o,0<n→∃ b q,some a=some ⟨b,q,none⟩∧∀ (j:Nat) u,us[j]?=some u→(w.alloc o).cell? ⟨b,q+j,none⟩=some u:=fun o h=>by
   obtain ⟨b,q,e,hc⟩:=hs h;exact ⟨b,q,e,fun j u hu=>zjv (World.grownBy_alloc w o none) _ _ (hc j u hu)⟩
  have hc6:0+n≤maxLen:=by unfold maxLen;omega
  have hc7:(0+n)*8≤140737488355328:=by omega
  have hc8:∀ o,w.heap.size≤(w.alloc o).heap.size:=fun o=>by simp
  have HXL:=Lib.hid hl;clear hs
  go_enter Tryz.func46,Tryz.ntmps46
  go_wp2_with (at_builtin;refine zgf rfl (.tmp 5) (.tmp 6) 25 rfl w.heap.size 3 j0 (.int .i64 0) 1 8 Tryz.underlying25 ji jz0 jz1 jz2 rfl (by decide) (.slice (some ⟨w.heap.size,0,none⟩) 0 0) 0 _ rfl (zo5 _ _ _) _ _ _ _ rfl HXL.out (hsrc _) h1 hc6 hc7 (hc8 _) ?_;intro v1 w1 hown1 hg1 hb1)
  go_ret
  have hgr:w.grownBy w1 none:=zt0 (World.grownBy_alloc w _ none) hg1 (.inr fun g e=>by
   have:some w.heap.size=some g:=e
   injection this with this
   omega)
  exact ⟨v1,rfl,by simpa using hown1,zsn hgr (Nat.le_refl _) (fun g e=>by cases e)⟩
theorem Tryz.infoC_words:(Tryz.prog.info? 25).map (fun i=>(i.zero,i.size,i.bytes))=some (some (.slice none 0 0),1,24):=by kernel_rfl
set_option maxRecDepth 100000 in
set_option maxHeartbeats 400000 in
theorem clone_words (w:World) (A:Option Addr) (n c:Nat) (us:List Value) (hl:us.length=n*1) (hs:0<n→∃ b q,A=some ⟨b,q,none⟩∧∀ (j:Nat) u,us[j]?=some u→w.cell? ⟨b,q+j,none⟩=some u)
  (h1:∀ u∈us,u.oneCell'=true) (hn:n≤17592186044416) (hby:n*24≤140737488355328):Calls Tryz.prog 137 #[.slice A n c] w (zrq 25 1 n us w):=by
 obtain ⟨j0,ji,jz0,jz1,jz2⟩:=info_parts Tryz.infoC_words;have hnil:=Lib.run_eql_slice_nil (P:=Tryz.prog) w 22 25 A n c 0 0 Tryz.underlying22;cases A with
 | none =>
  have h0:n=0:=by
   rcases Nat.eq_zero_or_pos n with h | h
   ·exact h
   ·obtain ⟨b,q,e,_⟩:=hs h;cases e
  subst h0;have hxs:us=[]:=List.eq_nil_of_length_eq_zero (by omega);have HX:=Lib.hid hxs;clear hxs hs hl h1
  go_enter Tryz.func137,Tryz.ntmps137
  go_wp2
  go_ret
  rw [HX.out];exact ⟨_,rfl,World.ownsRow_nil _ _ _ _,Below.refl _ _⟩
 | some a =>
  have hsrc:∀ o,0<n→∃ b q,some a=some ⟨b,q,none⟩∧∀ (j:Nat) u,us[j]?=some u→(w.alloc o).cell? ⟨b,q+j,none⟩=some u:=fun o h=>by
   obtain ⟨b,q,e,hc⟩:=hs h;exact ⟨b,q,e,fun j u hu=>zjv (World.grownBy_alloc w o none) _ _ (hc j u hu)⟩
  have hc6:0+n≤maxLen:=by unfold maxLen;omega
  have hc7:(0+n)*24≤140737488355328:=by omega
  have hc8:∀ o,w.heap.size≤(w.alloc o).heap.size:=fun o=>by simp
  have HXL:=Lib.hid hl;clear hs
  go_enter Tryz.func137,Tryz.ntmps137
  go_wp2_with (at_builtin;refine zgf rfl (.tmp 5) (.tmp 6) 22 rfl w.heap.size 25 j0 (.slice none 0 0) 1 24 Tryz.underlying22 ji jz0 jz1 jz2 rfl (by decide) (.slice (some ⟨w.heap.size,0,none⟩) 0 0) 0 _ rfl (zo5 _ _ _) _ _ _ _ rfl HXL.out (hsrc _) h1 hc6 hc7 (hc8 _) ?_;intro v1 w1 hown1 hg1 hb1)
  go_ret
  have hgr:w.grownBy w1 none:=zt0 (World.grownBy_alloc w _ none) hg1 (.inr fun g e=>by
   have:some w.heap.size=some g:=e
   injection this with this
   omega)
  exact ⟨v1,rfl,by simpa using hown1,zsn hgr (Nat.le_refl _) (fun g e=>by cases e)⟩
end
end Go.Proofs.YtcneaiejdidooaaGreatDoor.Sym
namespace Go.Proofs.YtcneaiejdidooaaGreatDoor
section
open Go.RowKit
def GrowPost (t:TypeId) (w:World) (e:Ending) (w':World):Prop:=∃ v',e=.returned v'∧w'.ownsRow w.heap.size t 1 v' 0 []∧Below w.heap.size w w'
theorem ownsRow_zeros (w:World) (Z:Array Value) (t:TypeId) (c:Nat) (hc:c≤maxLen) (hZ:Z.size=c) :
  (w.drew.alloc (.cells Z t)).ownsRow w.heap.size t 1 (.slice (some ⟨w.heap.size,0,none⟩) 0 c) 0 []:=by
 refine ⟨rfl,.inr ⟨w.heap.size,c,Z,rfl,Nat.le_refl _,?_,Nat.zero_le _,hc,by omega,by simp⟩⟩;exact heap_alloc_new w.drew _
theorem below_zeros (w:World) (o:Obj):Below w.heap.size w (w.drew.alloc o):=(Below.refl w.heap.size w).drew.alloc (Nat.le_refl _) o
set_option maxRecDepth 100000 in
set_option maxHeartbeats 800000 in
theorem growI_any (n:Nat) (hn:n≤1000000000) (w:World) :
  Calls Tryz.prog 136 #[.slice none 0 0,.int .i64 n] w (GrowPost 3 w):=by
 obtain ⟨i0,hi,hz0,hz1,hz2⟩:=info_parts Tryz.infoInt;have h1:¬ ((n:Int)<0):=by omega
 by_cases h0:n=0
 ·subst h0
  go_enter Tryz.func136,Tryz.ntmps136
  go_wp2
  go_ret
  exact ⟨_,rfl,World.ownsRow_nil _ _ _ _,Below.refl _ _⟩
 ·have h4:(n:Int) > 0:=by omega
  have happ:=Lib.run_append_nil_zeros (P:=Tryz.prog) w 25 3 25 3 i0 (.int .i64 0) .i64 .i64 Tryz.underlying25 Tryz.underlying3 hi hz0 n (by omega) (by omega) (by omega) (by rw [hz2];omega);generalize hcap:grownCap w n 0 3=cap2 at happ;have hcapge:n≤cap2:=by rw [← hcap];exact grownCap_ge w _ 0 _
  have hcaple:cap2≤maxLen:=by rw [← hcap];exact grownCap_le_maxLen w _ 0 _ (by unfold maxLen;omega)
  generalize hZ:(Builtin.zeroCells (Value.cells (.int .i64 0)) n++Builtin.zeroCells (Value.cells (.int .i64 0)) (cap2-n))=Z at happ;have hZs:Z.size=cap2:=by rw [← hZ];simp [size_zeroCells,Value.cells];omega
  have hown:=ownsRow_zeros w Z 3 cap2 hcaple hZs;have hcap63:cap2≤9223372036854775807:=by unfold maxLen at hcaple;omega
  have HO:=Lib.hid (And.intro hown (below_zeros w (.cells Z 3)));clear hcap hZ hown hZs
  go_enter Tryz.func136,Tryz.ntmps136
  go_wp2_with (at_builtin;refine Lib.wpList_append_run _ rfl _ _ _ _ rfl _ _ rfl rfl _ _ happ ?_)
  go_ret
  exact ⟨_,rfl,HO.out.1,HO.out.2⟩
end
end Go.Proofs.YtcneaiejdidooaaGreatDoor
namespace Go.Proofs.YtcneaiejdidooaaGreatDoor.Sym
section
open Go.RowKit
set_option maxRecDepth 100000
theorem sp_of_grow {g:FuncId} {t:TypeId} {n:Int} (he:∀ args w,(callFunc g args).run Tryz.prog w=.ok (.enter g args) w) (h0:0≤n) (h1:n≤1000000000)
  (h:∀ (n:Nat),n≤1000000000→∀ w,Calls Tryz.prog g #[.slice none 0 0,.int .i64 n] w (GrowPost t w)):Sp Tryz.prog g [.im (.val (.slice none 0 0)),.im (nI n)] (.row t 1 []):=by
 refine ⟨he,fun w S vs F hS hv hn hF=>?_⟩
 match vs,hv with
 | [v,u],⟨F1,F2,⟨h3,e1⟩,⟨F3,F4,⟨h4,e2⟩,h5,e3⟩,e4⟩ =>
  have h5:F4=[]:=h5;subst e1 e2 h5 e3 e4;cases h3;cases h4;have hc:=h n.toNat (by omega) w;rw [Int.toNat_of_nonneg h0] at hc;refine hc.mono ?_;rintro e w' ⟨v',rfl,ho,hb⟩
  have ho0:w'.ownsRow 0 t 1 v' 0 []:=by
   refine ⟨ho.1,?_⟩;rcases ho.2 with h6 | ⟨g1,cap,cur,k1,_,k3⟩
   ·exact .inl h6
   ·exact .inr ⟨g1,cap,cur,k1,Nat.zero_le _,k3⟩
  have hlt:=ho.lt
  have hbk:∀ b∈(zb2 v').toList,w.heap.size≤b∧b<w'.heap.size:=fun b hb=>by
   refine hlt b ?_;rw [zmm ho0];simpa using hb
  refine ⟨v',(zb2 v').toList,rfl,.of hb,⟨[v'],(zb2 v').toList,[],rfl,⟨(zb2 v').toList,[],⟨row_one ho0,[],⟨[],Nat.one_pos,fun x hx=>by simp at hx,by decide,ho0,rfl,fun u hu=>by simp at hu,fun i u x hu=>by simp at hu⟩,rfl⟩,rfl,by simp⟩,rfl,by simp⟩,?_,fun b hb=>⟨.inl (hbk b hb).1,(hbk b hb).2⟩⟩;cases zb2 v'<;>simp
def zkk (n:Int):Option (List Int):=chk (0≤n∧n≤1000000000) (some [])
theorem zrp (n:Int) (r:List Int) (h:zkk n=some r):Sp Tryz.prog 136 [.im (.val (.slice none 0 0)),.im (nI n)] (.row 3 1 (List.map cI r)):=by
 obtain ⟨h1,h⟩:=zam h;injection h with h
 subst h;exact sp_of_grow (fun args w=>zga rfl rfl rfl args w) h1.1 h1.2 growI_any
end
section
open Go.RowKit Go.Sort
section plain
variable {α:Type}
def totB [DecidableEq α] (f:α→α→Option Int) (l:List α):Bool :=
 l.all fun a=>l.all fun b=>match f a b,f b a with
  | some m,some n=>(decide (m=0)==decide (a=b))&&(decide (m<0)==decide (0<n))&&(decide (-1≤m∧m≤1))&&l.all fun c=>!(decide (m<0)&&(match f b c with | some x=>decide (x<0) | none=>false))||(match f a c with | some x=>decide (x<0) | none=>false)
  | _,_=>false
def insF (f:α→α→Option Int) (x:α):List α→List α
 | []=>[x]
 | y::l=>match f x y with
  | some m=>cond (decide (m≤0)) (x::y::l) (y::insF f x l)
  | none=>x::y::l
def zky (f:α→α→Option Int):List α→List α
 | []=>[]
 | x::l=>insF f x (zky f l)
def libSort [DecidableEq α] (l:List α) (f:α→α→Option Int):Option (List α):=chk (l.length≤1000000000) (cond (totB f l) (some (zky f l)) none)
def cfv (f:α→α→Option Int) (a b:α):Int:=(f a b).getD 0
structure TotF (f:α→α→Option Int) (l:List α):Prop where
 get:∀ a∈l,∀ b∈l,f a b=some (cfv f a b)
 zero:∀ a∈l,∀ b∈l,cfv f a b=0→a=b
 self:∀ a∈l,cfv f a a=0
 swap:∀ a∈l,∀ b∈l,(cfv f a b<0↔0<cfv f b a)
 trans:∀ a∈l,∀ b∈l,∀ c∈l,cfv f a b<0→cfv f b c<0→cfv f a c<0
theorem totB_iff [DecidableEq α] {f:α→α→Option Int} {l:List α} (h:totB f l=true):TotF f l:=by
 have key:∀ a∈l,∀ b∈l,∃ m n,f a b=some m∧f b a=some n∧(m=0↔a=b)∧(m<0↔0<n)∧∀ c∈l,m<0→(∃ x,f b c=some x∧x<0)→∃ x,f a c=some x∧x<0:=by
  intro a ha b hb;have h1:=List.all_eq_true.1 (List.all_eq_true.1 h a ha) b hb;cases e1:f a b with
  | none=>rw [e1] at h1;cases h1
  | some m =>
   cases e2:f b a with
   | none=>rw [e1,e2] at h1;cases h1
   | some n =>
    rw [e1,e2] at h1;simp only [Bool.and_eq_true] at h1;obtain ⟨⟨⟨h2,h3⟩,_⟩,h5⟩:=h1;refine ⟨m,n,rfl,rfl,?_,?_,fun c hc hm ⟨x,hx,hx0⟩=>?_⟩
    ·have h2:=eq_of_beq h2;simpa using h2
    ·have h3:=eq_of_beq h3;simpa using h3
    ·have h6:=List.all_eq_true.1 h5 c hc;rw [hx] at h6;simp only [hm,hx0,decide_true,Bool.and_self,Bool.not_true,Bool.false_or] at h6;cases e3:f a c with
     | none=>rw [e3] at h6;cases h6
     | some y=>rw [e3] at h6;exact ⟨y,rfl,by simpa using h6⟩
 have get:∀ a∈l,∀ b∈l,f a b=some (cfv f a b):=fun a ha b hb=>by
  obtain ⟨m,n,e1,_⟩:=key a ha b hb;unfold cfv;rw [e1];rfl
 refine ⟨get,fun a ha b hb=>?_,fun a ha=>?_,fun a ha b hb=>?_,fun a ha b hb c hc h1 h2=>?_⟩
 ·obtain ⟨m,n,e1,e2,h3,_⟩:=key a ha b hb;rw [get a ha b hb] at e1;injection e1 with e1
  rw [e1];exact h3.1
 ·obtain ⟨m,n,e1,e2,h3,_⟩:=key a ha a ha;rw [get a ha a ha] at e1;injection e1 with e1
  rw [e1];exact h3.2 rfl
 ·obtain ⟨m,n,e1,e2,h3,h4,_⟩:=key a ha b hb;rw [get a ha b hb] at e1;rw [get b hb a ha] at e2;injection e1 with e1
  injection e2 with e2
  rw [e1,e2];exact h4
 ·obtain ⟨m,n,e1,e2,h3,h4,h5⟩:=key a ha b hb;rw [get a ha b hb] at e1;injection e1 with e1
  obtain ⟨x,hx,hx0⟩:=h5 c hc (by omega) ⟨_,get b hb c hc,h2⟩;rw [get a ha c hc] at hx;injection hx with hx
  omega
theorem TotF.sub {f:α→α→Option Int} {l l':List α} (T:TotF f l) (h:∀ x∈l',x∈l):TotF f l' :=
 ⟨fun a ha b hb=>T.get a (h a ha) b (h b hb),fun a ha b hb=>T.zero a (h a ha) b (h b hb),fun a ha=>T.self a (h a ha),fun a ha b hb=>T.swap a (h a ha) b (h b hb),fun a ha b hb c hc=>T.trans a (h a ha) b (h b hb) c (h c hc)⟩
def NGt (f:α→α→Option Int) (a b:α):Prop:=¬ cfv f b a<0
theorem TotF.ngt_trans {f:α→α→Option Int} {l:List α} (T:TotF f l) {a b c:α} (ha:a∈l) (hb:b∈l) (hc:c∈l) (h1:NGt f a b) (h2:NGt f b c):NGt f a c:=by
 intro h3;have s1:=T.swap a ha b hb;have s2:=T.swap b hb c hc;have s3:=T.swap c hc a ha;have t1:=T.swap b hb a ha;have t2:=T.swap c hc b hb;unfold NGt at h1 h2;by_cases e1:cfv f b a=0
 ·have:=T.zero b hb a ha e1;subst this;exact h2 h3
 ·by_cases e2:cfv f c b=0
  ·have:=T.zero c hc b hb e2;subst this;exact h1 h3
  ·have h4:cfv f a b<0:=s1.2 (by omega);have h5:=T.trans c hc a ha b hb h3 h4;exact h2 h5
theorem insF_le {f:α→α→Option Int} {x y:α} {l:List α} {m:Int} (h:f x y=some m) (hm:m≤0):insF f x (y::l)=x::y::l:=by
 simp [insF,h,hm]
theorem insF_gt {f:α→α→Option Int} {x y:α} {l:List α} {m:Int} (h:f x y=some m) (hm:¬ m≤0):insF f x (y::l)=y::insF f x l:=by
 simp [insF,h,hm]
theorem zsl (f:α→α→Option Int) (x:α):∀ l:List α,(insF f x l).Perm (x::l)
 | []=>List.Perm.refl _
 | y::l=>by
  cases h:f x y with
  | none=>simp [insF,h]
  | some m =>
   by_cases hm:m≤0
   ·rw [insF_le h hm]
   ·rw [insF_gt h hm];exact ((zsl f x l).cons y).trans (List.Perm.swap x y l)
theorem zeq (f:α→α→Option Int):∀ l:List α,(zky f l).Perm l
 | []=>List.Perm.refl _
 | x::l=>(zsl f x _).trans ((zeq f l).cons x)
theorem zrv {f:α→α→Option Int} {x:α}:∀ {l:List α},TotF f (x::l)→l.Pairwise (NGt f)→(insF f x l).Pairwise (NGt f)
 | [],_,_=>List.pairwise_singleton _ _
 | y::l,T,h=>by
  have hx:x∈x::y::l:=by simp
  have hy:y∈x::y::l:=by simp
  have hc:=List.pairwise_cons.1 h;by_cases hd:cfv f x y≤0
  ·rw [insF_le (T.get x hx y hy) hd]
   have hxy:NGt f x y:=fun h0=>by
    have:=(T.swap y hy x hx).1 h0;omega
   exact List.pairwise_cons.2 ⟨fun z hz=>by
    rcases List.mem_cons.1 hz with rfl | hz'
    ·exact hxy
    ·exact T.ngt_trans hx hy (by simp [hz']) hxy (hc.1 z hz'),h⟩
  ·rw [insF_gt (T.get x hx y hy) hd];have hyx:NGt f y x:=by unfold NGt;omega
   refine List.pairwise_cons.2 ⟨fun z hz=>?_,zrv (T.sub fun z hz=>?_) hc.2⟩
   ·rcases List.mem_cons.1 ((zsl f x l).mem_iff.1 hz) with rfl | hz'
    ·exact hyx
    ·exact hc.1 z hz'
   ·rcases List.mem_cons.1 hz with rfl | hz'
    ·simp
    ·simp [hz']
theorem zjy {f:α→α→Option Int}:∀ {l:List α},TotF f l→(zky f l).Pairwise (NGt f)
 | [],_=>List.Pairwise.nil
 | x::l,T=>zrv (T.sub fun z hz=>by
   rcases List.mem_cons.1 hz with rfl | hz'
   ·simp
   ·exact List.mem_cons_of_mem _ ((zeq f l).mem_iff.1 hz')) (zjy (T.sub fun z hz=>List.mem_cons_of_mem _ hz))
theorem zsf {f:α→α→Option Int}:∀ {l1 l2:List α},TotF f l1→l1.Perm l2→l1.Pairwise (NGt f)→l2.Pairwise (NGt f)→l1=l2
 | [],l2,_,hp,_,_=>(List.nil_perm.1 hp).symm
 | x::l1,[],_,hp,_,_=>absurd hp.length_eq (by simp)
 | x::l1,y::l2,T,hp,h1,h2=>by
  have p1:=List.pairwise_cons.1 h1;have p2:=List.pairwise_cons.1 h2;have hx:x∈x::l1:=by simp
  have hy:y∈x::l1:=hp.mem_iff.2 (by simp)
  have e:x=y:=by
   rcases List.mem_cons.1 hy with e | hy'
   ·exact e.symm
   ·have hxy:=p1.1 y hy';rcases List.mem_cons.1 (hp.mem_iff.1 hx) with e | hx'
    ·exact e
    ·have hyx:=p2.1 x hx';have s1:=T.swap y hy x hx;have s2:=T.swap x hx y hy;unfold NGt at hxy hyx;exact T.zero x hx y hy (by omega)
  subst e;rw [zsf (T.sub fun z hz=>List.mem_cons_of_mem _ hz) (List.Perm.cons_inv hp) p1.2 p2.2]
end plain
section model
variable {α:Type}
def CmpG (P:Program) (g:FuncId) (X:α→IV) (f:α→α→Option Int):Prop :=
 ∀ (W:World) (S:Nat→Prop) (u u':Value) (x y:α) (r:Int),f x y=some r→RepI W S u (X x)→RepI W S u' (X y) →
  Calls P g #[u,u'] W fun e w'=>e=.returned (.int .i64 r)∧∃ q os,w'=Sort.grow (W.drewN q) os
def El (w:World) (S:Nat→Prop) (k:Nat) (c:α→List IV) (l:List α):Type:={ p:List Value×α // p.1.length=k∧(∀ v∈p.1,v.oneCell'=true)∧ziq w S p.1 (c p.2)∧p.2∈l }
variable {w:World} {S:Nat→Prop} {k:Nat} {c:α→List IV} {l:List α}
def El.enc (x:El w S k c l):List Value:=x.val.1
def El.wd (x:El w S k c l):α:=x.val.2
def El.of (us:List Value) (x:α) (h1:us.length=k) (h2:∀ v∈us,v.oneCell'=true) (h3:ziq w S us (c x)) (h4:x∈l):El w S k c l:=⟨(us,x),h1,h2,h3,h4⟩
theorem el_list (hk:∀ x,(c x).length=k):∀ (l0:List α) (us:List Value),(∀ x∈l0,x∈l)→us.length=(l0.map c).flatten.length→(∀ u∈us,u.oneCell'=true) →
  (∀ (i:Nat) u x,us[i]?=some u→(l0.map c).flatten[i]?=some x→RepI w S u x)→∃ zs:List (El w S k c l),(zs.map El.enc).flatten=us∧zs.map El.wd=l0
 | [],us,_,hl,_,_=>⟨[],(List.eq_nil_of_length_eq_zero hl).symm,rfl⟩
 | x::l0,us,hm,hl,h1,hr=>by
  rw [List.map_cons,List.flatten_cons] at hl hr;rw [zkJ,hk] at hl
  obtain ⟨zs,e1,e2⟩:=el_list hk l0 (us.drop k) (fun y hy=>hm y (List.mem_cons_of_mem _ hy)) (by rw [List.length_drop];omega) (fun u hu=>h1 u (List.mem_of_mem_drop hu)) fun i u y hu hy=>by
   rw [List.getElem?_drop] at hu;refine hr (k+i) u y hu ?_;rw [List.getElem?_append,if_neg (by rw [hk];omega),hk]
   rwa [Nat.add_sub_cancel_left]
  have hx1:(us.take k).length=k:=by rw [List.length_take];omega
  have hx2:∀ v∈us.take k,v.oneCell'=true:=fun u hu=>h1 u (List.mem_of_mem_take hu)
  have hx3:ziq w S (us.take k) (c x):=⟨by rw [hx1,hk],fun i u y hu hy=>by
   have hi:i<k:=by
    rw [← hk x]
    exact (zkI.1 hy).1
   rw [List.getElem?_take,if_pos hi] at hu
   exact hr i u y hu (by rw [List.getElem?_append,if_pos (by rw [hk];exact hi)];exact hy)⟩
  refine ⟨El.of (us.take k) x hx1 hx2 hx3 (hm x (by simp))::zs,?_,?_⟩
  ·rw [List.map_cons,List.flatten_cons,e1];exact List.take_append_drop k us
  ·rw [List.map_cons,e2];rfl
theorem el_swo {f:α→α→Option Int} (T:TotF f l):SWO (ltOf fun x y:El w S k c l=>cfv f x.wd y.wd) where
 irrefl x:=by
  have:=T.self x.wd x.property.2.2.2;simp [ltOf,this]
 trans x y z h1 h2:=by
  simp only [ltOf,decide_eq_true_eq] at *;exact T.trans _ x.property.2.2.2 _ y.property.2.2.2 _ z.property.2.2.2 h1 h2
 ntrans x y z h1 h2:=by
  simp only [ltOf,decide_eq_false_iff_not] at *;exact T.ngt_trans z.property.2.2.2 y.property.2.2.2 x.property.2.2.2 h2 h1
def SortC (P:Program) (sg:FuncId) (k:Nat) (mk:List Value→Value):Prop :=
 (∀ (p:Option Addr) (cap:Nat) (fv:Value) (w:World),Calls P sg #[.slice p 0 cap,fv] w fun e w'=>e=.returned (.tuple #[])∧w'=w) ∧
 ∀ (E:Type) [Inhabited E] (enc:E→List Value) (cf:E→E→Int) (g blk cap:Nat) (d:Array E) (w:World),(∀ x,(enc x).length=k)→(∀ x,∀ v∈enc x,v.oneCell'=true)→SWO (ltOf cf) →
  (∀ args w,(callFunc g args).run P w=.ok (.enter g args) w) →
  (∀ (m:Nat) (os:Array Obj) (dk:Array E),dk.size=d.size→∀ x y:E,Calls P g #[mk (enc x),mk (enc y)] (Sort.grow (putRow id (Sort.ahead w m) blk 0 (Go.Sort.flatK enc k dk)) os) fun e w' =>
   e=.returned (.int .i64 (cf x y))∧∃ q os',w'=Sort.grow ((Sort.grow (putRow id (Sort.ahead w m) blk 0 (Go.Sort.flatK enc k dk)) os).drewN q) os') →
  Go.Sort.Holds id w blk 0 (Go.Sort.flatK enc k d)→blk<w.heap.size→d.size<4611686018427387904 →
  Calls P sg #[.slice (some ⟨blk,0,none⟩) d.size cap,.func (.func g) #[] #[]] w fun e w' =>
   e=.returned (.tuple #[])∧∃ d' n os,PermIn 0 d.size d d'∧SortedIn (ltOf cf) 0 d.size d'∧w'=Sort.grow (putRow id (Sort.ahead w n) blk 0 (Go.Sort.flatK enc k d')) os
theorem perm_of_in' {β:Type} [Inhabited β] {d d':Array β} (h:PermIn 0 d.size d d'):d'.toList.Perm d.toList:=by
 obtain ⟨hs,_,hp⟩:=h;have e1:d'.extract 0 d.size=d':=by rw [← hs];simp
 have e2:d.extract 0 d.size=d:=by simp
 rwa [e1,e2] at hp
theorem zrl {β:Type} [Inhabited β] {lt:β→β→Bool} {d:Array β} {n:Nat} (hn:d.size=n) (h:SortedIn lt 0 n d):d.toList.Pairwise fun a b=>lt b a=false:=by
 rw [List.pairwise_iff_getElem];intro i j hi hj hij;have:=h i j (Nat.zero_le _) hij (by rw [← hn];simpa using hj);simp at hi hj;simpa [getElem!_pos,hi,hj] using this
theorem zub {β:Type} [Inhabited β] {enc:β→List Value} {k:Nat} (hk:∀ x,(enc x).length=k) (d:Array β):Go.Sort.flatK enc k d=(d.toList.map enc).flatten.toArray:=by
 have hl:((d.toList.map enc).flatten).length=d.size*k:=by
  rw [zbm (k:=k) fun x hx=>by obtain ⟨y,_,rfl⟩:=List.mem_map.1 hx;exact hk y];simp
 refine ext_get! (by simp [hl]) fun t ht=>?_;rw [size_flatK] at ht;rw [get_flatK _ _ _ t ht]
 have k0:0<k:=by
  rcases Nat.eq_zero_or_pos k with h | h
  ·subst h;simp at ht
  ·exact h
 have hq:t / k<d.size:=Nat.div_lt_of_lt_mul (by rwa [Nat.mul_comm] at ht);have hm:t%k<k:=Nat.mod_lt _ k0;have hg:=flat_get (es:=d.toList.map enc) (i:=t / k) (j:=t%k) (e:=enc (d[t / k]'hq)) (fun x hx=>by obtain ⟨y,_,rfl⟩:=List.mem_map.1 hx;exact hk y) (by simp [hq]) hm;rw [show t / k*k+t%k=t by rw [Nat.mul_comm];exact Nat.div_add_mod t k] at hg;have hm2:t%k<(enc (d[t / k]'hq)).length:=by rw [hk];exact hm
 rw [zkM hm2,zkM (by rw [hl];exact ht)] at hg;injection hg with hg
 rw [getElem!_pos d _ hq,getElem!_pos (enc (d[t / k]'hq)) (t%k) hm2,getElem!_pos ((d.toList.map enc).flatten.toArray) t (by simpa [hl] using ht)];simpa using hg.symm
theorem own_put {w:World} {base:Nat} {e:TypeId} {g n cap k q:Nat} {us us':List Value} {os:Array Obj} (h:w.ownsRow base e k (.slice (some ⟨g,0,none⟩) n cap) n us) (hl:us'.length=n*k) :
  (Sort.grow (putRow id (Sort.ahead w q) g 0 us'.toArray) os).ownsRow base e k (.slice (some ⟨g,0,none⟩) n cap) n us':=by
 rcases h.2 with ⟨e0,_⟩ | ⟨g',cap',cur,e0,hb,hg,hn,hm,hs,ht⟩
 ·cases e0
 ·injection e0 with e1 _ e3
  injection e1 with e1
  injection e1 with e1
  subst e1;subst e3
  have hlt:g<w.heap.size:=by
   rcases Nat.lt_or_ge g w.heap.size with h' | h'
   ·exact h'
   ·rw [Array.getElem?_eq_none h'] at hg;cases hg
  refine ⟨hl,.inr ⟨g,cap,putCells id 0 us'.toArray cur,rfl,hb,?_,hn,hm,by simpa [putCells] using hs,?_⟩⟩
  ·have:g<(putRow id (Sort.ahead w q) g 0 us'.toArray).heap.size:=by simpa [putRow,mapBlock,Sort.ahead] using hlt
   simp only [Sort.grow,Array.getElem?_append,if_pos this];simp [putRow,mapBlock,Sort.ahead,Array.getElem?_modify,hg,onCells]
  ·have hle:n*k≤cap*k:=Nat.mul_le_mul_right k hn;apply List.ext_getElem?;intro j;rw [List.getElem?_take,Array.getElem?_toList];by_cases hj:j<n*k
   ·have hjc:j<cur.size:=by omega
    rw [if_pos hj];simp only [putCells,Array.getElem?_mapIdx,Array.getElem?_eq_getElem hjc,Option.map_some];rw [if_pos (by simp;omega),zkM (by omega)];simp [getElem!_pos,show j<us'.length by omega]
   ·rw [if_neg hj,List.getElem?_eq_none (by omega)]
theorem holds_own {w:World} {base:Nat} {e:TypeId} {g n cap k:Nat} {us:List Value} (h:w.ownsRow base e k (.slice (some ⟨g,0,none⟩) n cap) n us):Go.Sort.Holds id w g 0 us.toArray:=by
 rcases h.2 with ⟨e0,_⟩ | ⟨g',cap',cur,e0,hb,hg,hn,hm,hs,ht⟩
 ·cases e0
 ·injection e0 with e1 _ e3
  injection e1 with e1
  injection e1 with e1
  subst e1;subst e3;intro j hj;have hj':j<us.length:=by simpa using hj
  have hjn:j<n*k:=by rw [← h.1];exact hj'
  have hle:n*k≤cap*k:=Nat.mul_le_mul_right k hn;have hjc:j<cur.size:=by omega
  have e1:(cur.toList.take (n*k))[j]?=us[j]?:=by rw [ht]
  rw [List.getElem?_take,if_pos hjn,Array.getElem?_toList,zkM hj'] at e1;refine ⟨?_,by simp [World.frozen?,hg]⟩;simp only [World.cell?,hg,Nat.zero_add,Option.isSome_none,Bool.false_eq_true,if_false];rw [e1];simp [getElem!_pos,hj']
theorem put_block {w:World} {g q:Nat} {F:Array Value} {os:Array Obj} {b:Nat} (hb:b<w.heap.size) (hne:b≠g):(Sort.grow (putRow id (Sort.ahead w q) g 0 F) os).heap[b]?=w.heap[b]?:=by
 have:b<(putRow id (Sort.ahead w q) g 0 F).heap.size:=by simpa [putRow,mapBlock,Sort.ahead] using hb
 simp only [Sort.grow,Array.getElem?_append,if_pos this];simp [putRow,mapBlock,Sort.ahead,Array.getElem?_modify,Ne.symm hne]
theorem put_cell {w:World} {g q:Nat} {F:Array Value} {os:Array Obj} {p:Addr} {u:Value} (hne:p.block≠g) (h:w.cell? p=some u):(Sort.grow (putRow id (Sort.ahead w q) g 0 F) os).cell? p=some u:=by
 have hlt:=World.block_lt_of_cell? w _ h;unfold World.cell? at h ⊢;rw [put_block hlt hne];exact h
theorem sp_of_sort [DecidableEq α] {P:Program} {sg:FuncId} {mk:List Value→Value} {t:TypeId} {X:α→IV} (he:∀ args w,(callFunc sg args).run P w=.ok (.enter sg args) w) (C:SortC P sg k mk) (hk0:0<k) (hk:∀ x,(c x).length=k)
  (hX:∀ (W:World) (S:Nat→Prop) us x,us.length=k→(∀ v∈us,v.oneCell'=true)→ziq W S us (c x)→RepI W S (mk us) (X x))
  {f:α→α→Option Int} {g:FuncId} (eg:∀ args w,(callFunc g args).run P w=.ok (.enter g args) w) (hg:CmpG P g X f) {l r:List α} (h:libSort l f=some r) :
  Sp P sg [.lent (.row t k (l.map c)),.im (.fn g [])] (.mk true [] [.lent (.row t k (r.map c))]):=by
 obtain ⟨hlen,h⟩:=zam h;cases hT:totB f l with
 | false=>rw [hT] at h;cases h
 | true =>
 rw [hT] at h;injection h with h
 subst h;have T:=totB_iff hT;refine ⟨he,fun w S vs F hS hv hn hF=>?_⟩
 match vs,hv with
 | [v,u],⟨F1,F2,⟨hv1,inn,hrow,e1⟩,⟨F3,F4,⟨h4,e2⟩,h5,e3⟩,e4⟩ =>
  have h5:F4=[]:=h5;have e1:F1=(zb2 v).toList:=e1;subst e1 e2 h5 e3;have e4:F=(zb2 v).toList:=by rw [e4];simp
  subst e4;obtain ⟨us,_,_,hlim,hown,hul,h1,hr⟩:=hrow;rw [zkK] at hown hlim
  have hu:u=.func (.func g) #[] #[]:=by
   generalize hx:IV.fn g []=x at h4;cases h4 with
   | fn f us cs hl hr =>
    injection hx with hx1 hx2
    subst hx1 hx2;have:=List.eq_nil_of_length_eq_zero hl;subst this;rfl
   | _=>cases hx
  subst hu
  have fin:∀ (w':World) (us':List Value),w'.ownsRow 0 t k v l.length us'→us'.length=((zky f l).map c).flatten.length→(∀ u∈us',u.oneCell'=true) →
    Belo (fun b=>b∈(zb2 v).toList) w.heap.size w w'→(∀ (i:Nat) u x,us'[i]?=some u→((zky f l).map c).flatten[i]?=some x→RepI w' (fun b=>(S b∨w.heap.size≤b∨b∈(zb2 v).toList)∧b<w'.heap.size∧b∉(zb2 v).toList) u x) →
    ∃ (v1:Value) (F':List Nat),Ending.returned (.tuple #[])=.returned v1∧Belo (fun b=>b∈(zb2 v).toList) w.heap.size w w' ∧
     ResOk w' (fun b=>(S b∨w.heap.size≤b∨b∈(zb2 v).toList)∧b<w'.heap.size∧b∉F') v1 (bxVs [v,.func (.func g) #[] #[]] [.lent (.row t k (l.map c)),.im (.fn g [])]) (.mk true [] [.lent (.row t k ((zky f l).map c))]) F'∧F'.Nodup∧∀ b∈F',(w.heap.size≤b∨b∈(zb2 v).toList)∧b<w'.heap.size:=by
   intro w' us' ho hl' h1' hb hr';refine ⟨_,(zb2 v).toList,rfl,hb,⟨[],[],(zb2 v).toList,rfl,rfl,⟨(zb2 v).toList,[],⟨hv1,inn,⟨us',hk0,fun x hx=>?_,?_,?_,hl',h1',hr'⟩,rfl⟩,rfl,by simp⟩,by simp⟩,hn,fun b hb'=>⟨.inr hb',Nat.lt_of_lt_of_le (hF b hb').2 hb.size⟩⟩
   ·obtain ⟨y,_,rfl⟩:=List.mem_map.1 hx;exact hk y
   ·rw [zkK,(zeq f l).length_eq];exact hlim
   ·rw [zkK,(zeq f l).length_eq];exact ho
  by_cases hnil:v=.slice none 0 0
  ·subst hnil
   have hl0:l.length=0:=by
    rcases hown.2 with ⟨_,h0⟩ | ⟨_,_,_,e,_⟩
    ·exact h0
    ·cases e
   have hl0:l=[]:=List.eq_nil_of_length_eq_zero hl0;subst hl0;refine (C.1 none 0 _ w).mono ?_;rintro e w' ⟨rfl,rfl⟩;have hus:us=[]:=List.eq_nil_of_length_eq_zero (by rw [hul];rfl);subst hus;exact fin w' [] hown rfl (fun u hu=>by cases hu) (Belo.refl _ _ _) fun i u x hu=>by simp at hu
  ·obtain ⟨blk,cap,rfl⟩:∃ blk cap,v=.slice (some ⟨blk,0,none⟩) l.length cap:=by
    rcases hown.2 with ⟨e0,_⟩ | ⟨g,cap,cur,e,_⟩
    ·exact absurd e0 hnil
    ·exact ⟨g,cap,e⟩
   have hblk:blk<w.heap.size:=(hF blk (by simp [zb2])).2;have hnS:¬ S blk:=(hF blk (by simp [zb2])).1;obtain ⟨zs,hz1,hz2⟩:=el_list (w:=w) (S:=S) (l:=l) hk l us (fun x hx=>hx) hul h1 hr;by_cases hl0:l=[]
   ·subst hl0;refine (C.1 (some ⟨blk,0,none⟩) cap _ w).mono ?_;rintro e w' ⟨rfl,rfl⟩;have hus:us=[]:=List.eq_nil_of_length_eq_zero (by rw [hul];rfl);subst hus;exact fin w' [] hown rfl (fun u hu=>by cases hu) (Belo.refl _ _ _) fun i u x hu=>by simp at hu
   ·have hzl:zs.length=l.length:=by have:=congrArg List.length hz2;simpa using this
    obtain ⟨z0,hz0⟩:∃ z,z∈zs:=by
     cases zs with
     | nil=>exact absurd (by simpa using hz2.symm) hl0
     | cons z zs=>exact ⟨z,by simp⟩
    haveI:Inhabited (El w S k c l):=⟨z0⟩
    have henc:∀ x:El w S k c l,(El.enc x).length=k:=fun x=>x.property.1;have hflat:∀ d:Array (El w S k c l),Go.Sort.flatK El.enc k d=(d.toList.map El.enc).flatten.toArray:=zub henc
    have hcall:=C.2 (El w S k c l) El.enc (fun x y=>cfv f x.wd y.wd) g blk cap zs.toArray w henc (fun x=>x.property.2.1) (el_swo T) eg (fun m os dk _ x y=>by
      refine hg _ S _ _ x.wd y.wd _ (T.get _ x.property.2.2.2 _ y.property.2.2.2) (hX _ _ _ _ x.property.1 x.property.2.1 ⟨x.property.2.2.1.1,fun i u z hu hz=>?_⟩) (hX _ _ _ _ y.property.1 y.property.2.1 ⟨y.property.2.2.1.1,fun i u z hu hz=>?_⟩)
      ·exact (x.property.2.2.1.2 i u z hu hz).mono (fun _ h=>h) fun p u hp hu=>put_cell (fun e=>hnS (by rw [← e];exact hp)) hu
      ·exact (y.property.2.2.1.2 i u z hu hz).mono (fun _ h=>h) fun p u hp hu=>put_cell (fun e=>hnS (by rw [← e];exact hp)) hu)
     (by rw [hflat];show Go.Sort.Holds id w blk 0 ((zs.map El.enc).flatten).toArray;rw [hz1];exact holds_own hown) hblk (by simp;omega)
    have hsz:zs.toArray.size=l.length:=by simpa using hzl
    rw [hsz] at hcall;refine hcall.mono ?_;rintro e w' ⟨rfl,d',n,os,hp,hs,rfl⟩;have hd':d'.size=l.length:=by rw [hp.1];exact hsz
    have hperm:=perm_of_in' (d:=zs.toArray) (by rw [hsz];exact hp);have hpw:=zrl hd' hs
    have hwd:d'.toList.map El.wd=zky f l:=by
     have hp1:(d'.toList.map El.wd).Perm l:=(hperm.map El.wd).trans (List.Perm.of_eq hz2);refine zsf (T.sub fun x hx=>hp1.mem_iff.1 hx) (hp1.trans (zeq f l).symm) ?_ (zjy T);rw [List.pairwise_map];refine hpw.imp fun {a b} hab=>?_;have hab2:¬ cfv f b.wd a.wd<0:=by simpa only [ltOf,decide_eq_false_iff_not] using hab
     exact hab2
    rw [hflat]
    have hlen':((d'.toList.map El.enc).flatten).length=l.length*k:=by
     rw [zbm (k:=k) fun x hx=>by obtain ⟨y,_,rfl⟩:=List.mem_map.1 hx;exact henc y];simp [hd']
    have hflen:((zky f l).map c).flatten.length=l.length*k:=by
     rw [zbm (k:=k) fun x hx=>by obtain ⟨y,_,rfl⟩:=List.mem_map.1 hx;exact hk y,zkK,(zeq f l).length_eq]
    refine fin _ _ (own_put hown hlen') (by rw [hlen',hflen]) (fun u hu=>?_) ⟨rfl,rfl,rfl,?_,fun b hb hnb=>put_block hb fun e=>hnb (by simp [zb2,e])⟩ fun i u x hu hx=>?_
    ·obtain ⟨us2,h2,h3⟩:=List.mem_flatten.1 hu;obtain ⟨y,_,rfl⟩:=List.mem_map.1 h2;exact y.property.2.1 u h3
    ·simp [Sort.grow,putRow,mapBlock,Sort.ahead]
    ·have hi:i<l.length*k:=by rw [← hlen'];exact (zkI.1 hu).1
     have hq:i / k<l.length:=Nat.div_lt_of_lt_mul (by rwa [Nat.mul_comm] at hi);have hm:i%k<k:=Nat.mod_lt _ hk0;have hik:i / k*k+i%k=i:=by rw [Nat.mul_comm];exact Nat.div_add_mod i k
     have hq':i / k<d'.size:=by rw [hd'];exact hq
     have g1:=flat_get (es:=d'.toList.map El.enc) (i:=i / k) (j:=i%k) (e:=El.enc (d'[i / k]'hq')) (fun x hx=>by obtain ⟨y,_,rfl⟩:=List.mem_map.1 hx;exact henc y) (by simp [hq']) hm;have g2:=flat_get (es:=(zky f l).map c) (i:=i / k) (j:=i%k) (e:=c (El.wd (d'[i / k]'hq'))) (fun x hx=>by obtain ⟨y,_,rfl⟩:=List.mem_map.1 hx;exact hk y) (by rw [← hwd];simp [hq']) hm;rw [hik,hu] at g1;rw [hik,hx] at g2;refine ((d'[i / k]'hq').property.2.2.1.2 _ _ _ g1.symm g2.symm).mono (fun b hb=>⟨.inl hb,?_,?_⟩) fun p u hp hu=>put_cell (fun e=>hnS (by rw [← e];exact hp)) hu
     ·have:w.heap.size≤(Sort.grow (putRow id (Sort.ahead w n) blk 0 ((d'.toList.map El.enc).flatten).toArray) os).heap.size:=by simp [Sort.grow,putRow,mapBlock,Sort.ahead]
      exact Nat.lt_of_lt_of_le (hS b hb) this
     ·intro hb';have:b=blk:=by simpa [zb2] using hb'
      subst this;exact hnS hb
end model
end
end Go.Proofs.YtcneaiejdidooaaGreatDoor.Sym
namespace Go.Proofs.YtcneaiejdidooaaGreatDoor
section
def zhr (d:Nat):UInt8:=if d<10 then UInt8.ofNat (48+d) else UInt8.ofNat (87+d)
def digsF:Nat→Nat→List UInt8
 | 0,u=>[zhr u]
 | f+1,u=>if u<36 then [zhr u] else digsF f (u / 36)++[zhr (u%36)]
theorem zt7:∀ (f g u:Nat),u≤f→u≤g→digsF f u=digsF g u
 | 0,0,_,_,_=>rfl
 | 0,g+1,u,h,_=>by
  have h0:u=0:=by omega
  subst h0;rfl
 | f+1,0,u,_,h=>by
  have h0:u=0:=by omega
  subst h0;rfl
 | f+1,g+1,u,h1,h2=>by
  unfold digsF;by_cases h:u<36
  ·rw [if_pos h,if_pos h]
  ·rw [if_neg h,if_neg h,zt7 f g (u / 36) (by omega) (by omega)]
def digs (u:Nat):List UInt8:=digsF u u
theorem zgx {u:Nat} (h:u<36):digs u=[zhr u]:=by
 unfold digs;cases u with
 | zero=>rfl
 | succ u=>unfold digsF;rw [if_pos h]
theorem zn5 {u:Nat} (h:36≤u):digs u=digs (u / 36)++[zhr (u%36)]:=by
 obtain ⟨v,rfl⟩:∃ v,u=v+1:=⟨u-1,by omega⟩;show digsF (v+1) (v+1)=digsF ((v+1) / 36) ((v+1) / 36)++[zhr ((v+1)%36)];rw [digsF,if_neg (by omega),zt7 v ((v+1) / 36) ((v+1) / 36) (by omega) (Nat.le_refl _)]
theorem digs_len:∀ (k u:Nat),u<36^(k+1)→(digs u).length≤k+1
 | 0,u,h=>by rw [zgx (by simpa using h)];simp
 | k+1,u,h=>by
  by_cases h1:u<36
  ·rw [zgx h1];simp
  ·rw [zn5 (by omega),List.length_append];have:=digs_len k (u / 36) (by rw [Nat.div_lt_iff_lt_mul (by omega),← Nat.pow_succ];exact h);simp;omega
theorem ztm {u:Nat} (h:u<18446744073709551616):(digs u).length≤13 :=
 digs_len 12 u (Nat.lt_of_lt_of_le h (by decide))
theorem digs_pos (u:Nat):0<(digs u).length:=by
 by_cases h1:u<36
 ·rw [zgx h1];simp
 ·rw [zn5 (by omega)];simp
def undig (c:UInt8):Nat:=if c.toNat<58 then c.toNat-48 else c.toNat-87
theorem undig_dig {d:Nat} (h:d<36):undig (zhr d)=d:=by
 have:∀ d:Fin 36,undig (zhr d.1)=d.1:=by decide
 exact this ⟨d,h⟩
theorem dig_char {d:Nat} (h:d<36):48≤(zhr d).toNat:=by
 have:∀ d:Fin 36,48≤(zhr d.1).toNat:=by decide
 exact this ⟨d,h⟩
def undigs (l:List UInt8):Nat:=l.foldl (fun n c=>n*36+undig c) 0
theorem zro (u:Nat):undigs (digs u)=u:=by
 induction u using Nat.strongRecOn with
 | _ u ih =>
  by_cases h1:u<36
  ·rw [zgx h1];simp [undigs,undig_dig h1]
  ·rw [zn5 (by omega),undigs,List.foldl_append];have:=ih (u / 36) (by omega);rw [undigs] at this;simp only [List.foldl_cons,List.foldl_nil,this,undig_dig (Nat.mod_lt u (by omega))];omega
theorem digs_inj {u v:Nat} (h:digs u=digs v):u=v:=by rw [← zro u,h,zro]
theorem zr9 (u:Nat):∀ c∈digs u,48≤c.toNat:=by
 induction u using Nat.strongRecOn with
 | _ u ih =>
  by_cases h1:u<36
  ·rw [zgx h1];intro c hc;simp at hc;rw [hc];exact dig_char h1
  ·rw [zn5 (by omega)];intro c hc;rw [List.mem_append] at hc;rcases hc with hc | hc
   ·exact ih (u / 36) (by omega) c hc
   ·simp at hc;rw [hc];exact dig_char (Nat.mod_lt u (by omega))
def zkd (a:Int):List UInt8:=if a<0 then 45::digs a.natAbs else digs a.natAbs
theorem ztw (a:Int):∀ c∈zkd a,c≠32:=by
 intro c hc e;subst e;unfold zkd at hc;split at hc
 ·simp only [List.mem_cons] at hc;rcases hc with hc | hc
  ·exact absurd hc (by decide)
  ·have:=zr9 _ _ hc;exact absurd this (by decide)
 ·have:=zr9 _ _ hc;exact absurd this (by decide)
theorem enc36_inj {a b:Int} (h:zkd a=zkd b):a=b:=by
 have hne:∀ u v:Nat,45::digs u≠digs v:=fun u v e=>by
  have:=zr9 v 45 (by rw [← e];simp);exact absurd this (by decide)
 unfold zkd at h;split at h<;>split at h
 ·injection h with _ h
  have:=digs_inj h;omega
 ·exact absurd h (hne _ _)
 ·exact absurd h.symm (hne _ _)
 ·have:=digs_inj h;omega
theorem enc36_len {a:Int} (h1:-9223372036854775808≤a) (h2:a≤9223372036854775807):(zkd a).length≤14:=by
 have:=ztm (u:=a.natAbs) (by omega);unfold zkd;split<;>simp<;>omega
def keyL:List Int→List UInt8
 | []=>[]
 | a::xs=>zkd a++32::keyL xs
theorem zqe:∀ xs ys:List Int,keyL (xs++ys)=keyL xs++keyL ys
 | [],_=>rfl
 | a::xs,ys=>by simp [keyL,zqe xs ys]
theorem split_at {c:UInt8}:∀ {xs ys rs ss:List UInt8},(∀ d∈xs,d≠c)→(∀ d∈ys,d≠c)→xs++c::rs=ys++c::ss→xs=ys∧rs=ss
 | [],[],rs,ss,_,_,h=>by simpa using h
 | [],y::ys,rs,ss,_,h2,h=>by
  simp at h;exact absurd h.1.symm (h2 y (by simp))
 | x::xs,[],rs,ss,h1,_,h=>by
  simp at h;exact absurd h.1 (h1 x (by simp))
 | x::xs,y::ys,rs,ss,h1,h2,h=>by
  simp only [List.cons_append,List.cons.injEq] at h;obtain ⟨e1,e2⟩:=split_at (fun d hd=>h1 d (by simp [hd])) (fun d hd=>h2 d (by simp [hd])) h.2;exact ⟨by rw [h.1,e1],e2⟩
theorem keyL_inj:∀ {xs ys:List Int},keyL xs=keyL ys→xs=ys
 | [],[],_=>rfl
 | [],a::ys,h=>by simp [keyL] at h
 | a::xs,[],h=>by simp [keyL] at h
 | a::xs,b::ys,h=>by
  simp only [keyL] at h;obtain ⟨e1,e2⟩:=split_at (ztw a) (ztw b) h;rw [enc36_inj e1,keyL_inj e2]
theorem keyL_len:∀ {xs:List Int},(∀ x∈xs,-9223372036854775808≤x∧x≤9223372036854775807)→(keyL xs).length≤15*xs.length
 | [],_=>by simp [keyL]
 | a::xs,h=>by
  have h1:=keyL_len (xs:=xs) fun x hx=>h x (by simp [hx]);have h2:=h a (by simp);have h3:=enc36_len h2.1 h2.2;simp only [keyL,List.length_append,List.length_cons];omega
end
section
open Go.RowKit
theorem Tryz.infoByte:(Tryz.prog.info? 5).map (fun i=>(i.zero,i.size,i.bytes))=some (some (.int .u8 0),1,1):=by kernel_rfl
def zhi (l:List UInt8):List Value:=l.map fun b=>.int .u8 (b.toNat:Int)
theorem znf (l:List UInt8):(zhi l).length=l.length:=by simp [zhi]
theorem zjx (l m:List UInt8):zhi (l++m)=zhi l++zhi m:=by simp [zhi]
theorem bcells_one (l:List UInt8):∀ u∈zhi l,u.oneCell'=true:=by
 intro u hu;simp only [zhi,List.mem_map] at hu;obtain ⟨b,_,rfl⟩:=hu;rfl
def OwnB (w:World) (base:Nat) (v:Value) (l:List UInt8):Prop:=w.ownsRow base 5 1 v l.length (zhi l)
theorem OwnB.lt {w:World} {base:Nat} {v:Value} {l:List UInt8} (h:OwnB w base v l):∀ k,v.ownBlock=some k→base≤k∧k<w.heap.size:=World.ownsRow.lt h
theorem OwnB.nil_ (w:World) (base:Nat):OwnB w base (.slice none 0 0) []:=World.ownsRow_nil _ _ _ _
def MoreB (w:World) (base:Nat) (l:List UInt8) (e:Ending) (w':World):Prop:=∃ v',e=.returned v'∧OwnB w' base v' l∧Below base w w'
theorem idx36 (k:IntKind) (z:Int) (d:Nat) (hz:z=(d:Int)) (hd:d<36) (w:World) :
  (Instr.index 9 (.string { data:=#[48,49,50,51,52,53,54,55,56,57,97,98,99,100,101,102,103,104,105,106,107,108,109,110,111,112,113,114,115,116,117,118,119,120,121,122] }) (.int k z)).run Tryz.prog w=.ok (.int .u8 ((zhr d).toNat:Int)) w:=by
 subst hz;rw [run_index_string w 9 _ k _ Tryz.underlying9,dif_pos ⟨by omega,by show (d:Int)<((36:Nat):Int);omega⟩];have:∀ d:Fin 36,(({ data:=#[48,49,50,51,52,53,54,55,56,57,97,98,99,100,101,102,103,104,105,106,107,108,109,110,111,112,113,114,115,116,117,118,119,120,121,122] }:ByteArray)[d.1]'(by show d.1<36;exact d.2))=zhr d.1:=by decide
 have h:=this ⟨d,hd⟩;simp only [Int.toNat_natCast];rw [h]
def Dig (zs:List Value) (i:Nat) (l:List UInt8):Prop:=zs.length=65∧zs.drop i=zhi l
theorem Dig.push {zs:List Value} {j:Nat} {m:List UInt8} (h:Dig zs (j+1) m) (hj:j<65) (c:UInt8):Dig (zs.set j (.int .u8 (c.toNat:Int))) j (c::m):=by
 obtain ⟨h1,h2⟩:=h;refine ⟨by simpa using h1,?_⟩;rw [List.drop_eq_getElem_cons (by simp;omega),List.getElem_set_self,List.drop_set_of_lt (by omega),h2];rfl
set_option maxRecDepth 100000 in
set_option maxHeartbeats 1600000 in
theorem ztd {B u:Nat} {sv:Value} {l:List UInt8} {w:World} (hu:u<18446744073709551616) (hown:OwnB w B sv l) (hB:B≤w.heap.size) (hl:l.length≤1000000000) :
  Calls Tryz.prog 177 #[sv,.int .u64 u,.int .i64 36,.bool false,.bool true] w (fun e w'=>∃ v',e=.returned (.tuple #[v',.string ByteArray.empty])∧OwnB w' B v' (l++digs u)∧Below B w w'):=by
 obtain ⟨i0,hi,hz0,hz1,hz2⟩:=info_parts Tryz.infoByte;have HOWN:=Lib.hid hown;clear hown;have hbits:(bits BinOp.and IntKind.i64 36 35==0)=false:=by decide
 go_enter Tryz.func177,Tryz.ntmps177
 go_wp2
 go_loopw [1,13,18] (fun v i _ wr=>∃ k j:Nat,∃ m:List UInt8,∃ zs,v=.int .u64 k∧i=.int .i64 j∧k<18446744073709551616∧j+m.length=65∧Hid (digs k++m=digs u)∧Hid (Dig zs j m)∧wr.ownsRow w.heap.size 250 1 (.slice (some ⟨w.heap.size,0,none⟩) 65 65) 65 zs∧Below w.heap.size w wr) (fun v _ _ _=>(intOf v).toNat)
 case atStart=>exact ⟨u,65,[],_,rfl,rfl,hu,rfl,Lib.hid (by simp),Lib.hid ⟨rfl,rfl⟩,World.ownsRow_lit w _ 65 (Nat.le_refl _) (by unfold maxLen;omega) rfl,(Below.refl _ _).alloc (Nat.le_refl _) _⟩
 case round =>
  obtain ⟨k,j,m,zs,rfl,rfl,hk,hj,HD,HZ,hrow,hbel⟩:=hrel
  have hlen:m.length≤12:=by
   have h1:=congrArg List.length HD.out;rw [List.length_append] at h1;have h2:=digs_pos k;have h3:=ztm hu;omega
  obtain ⟨j,rfl⟩:∃ j':Nat,j=j'+1:=⟨j-1,by omega⟩;have hzl:j<zs.length:=by rw [HZ.out.1];omega
  have q1:wr.cell? ⟨w.heap.size,j,none⟩=some (zs[j]):=by rw [hrow.cellAt j (by omega)];exact List.getElem?_eq_getElem hzl
  have q2:wr.frozen? ⟨w.heap.size,j,none⟩=false:=hrow.frozenAt j;generalize zs[j]=z0 at q1;have HR:=Lib.hid hrow;have HB:=Lib.hid hbel;clear hrow hbel hzl;by_cases h1:36≤k
  ·have e0:((j+1:Nat):Int)-1=(j:Int):=by omega
   have hix:=fun W=>idx36 .u64 ((k:Int)-(k:Int) / 36*36) (k%36) (by omega) (by omega) W
   go_wp2
   go_roundw
   case rel =>
    obtain ⟨s1,s2⟩:=HR.out.stored j (.int .u8 ((zhr (k%36)).toNat:Int));exact ⟨k / 36,j,zhr (k%36)::m,_,by go_num,rfl,by omega,by simp;omega,Lib.hid (by rw [← HD.out,zn5 h1];simp),Lib.hid (HZ.out.push (by omega) _),s1,HB.out.grown s2 HB.out.size (fun g e=>by injection e with e;omega)⟩
   case measure=>simp [intOf]<;>omega
  ·have e0:((j+1:Nat):Int)-1=(j:Int):=by omega
   have hix:=fun W=>idx36 .u64 (k:Int) k rfl (by omega) W;have hal:Tryz.prog.arrayLen 250=65:=by simp [Program.arrayLen,Tryz.underlying250]
   have hsl:∀ W,(Instr.sliceAt 250 (.pointer (some ⟨w.heap.size,0,none⟩)) (some (.int .i64 (j:Int))) none none).run Tryz.prog W=.ok (.slice (some ⟨w.heap.size,j,none⟩) (65-j) (65-j)) W:=fun W=>by
    rw [run_sliceAt_array_l W 250 ⟨w.heap.size,0,none⟩ (by simp [Program.arrayLen,Program.elem,Tryz.underlying250]) .i64 (j:Int) (by omega) (by rw [hal];omega)]
    go_simp
    omega
   obtain ⟨s1,s2⟩:=HR.out.stored j (.int .u8 ((zhr k).toNat:Int));have hb2:Below w.heap.size w (wr.setCell ⟨w.heap.size,j,none⟩ (.int .u8 ((zhr k).toNat:Int))):=HB.out.grown s2 HB.out.size (fun g e=>by injection e with e;omega);have hown2:OwnB (wr.setCell ⟨w.heap.size,j,none⟩ (.int .u8 ((zhr k).toNat:Int))) B sv l:=World.ownsRow.kept HOWN.out (zt1 hb2) (by cases sv.ownBlock<;>simp);have hdz:=HZ.out.push (by omega) (zhr k)
   have hsrc:Src (wr.setCell ⟨w.heap.size,j,none⟩ (.int .u8 ((zhr k).toNat:Int))) (some ⟨w.heap.size,j,none⟩) (65-j) (zhi (zhr k::m)):=by
    refine ⟨by rw [znf];simp;omega,fun _=>⟨_,_,rfl,fun i v hv=>?_⟩⟩;have hi:i<(zhi (zhr k::m)).length:=(List.getElem?_eq_some_iff.1 hv).1;rw [znf,List.length_cons] at hi;rw [s1.cellAt (j+i) (by omega),← hv,← hdz.2,List.getElem?_drop]
   have hone:=bcells_one (zhr k::m);have hc1:l.length+(65-j)≤maxLen:=by unfold maxLen;omega
   have hc2:(l.length+(65-j))*1≤140737488355328:=by omega
   have hc3:B≤(wr.setCell ⟨w.heap.size,j,none⟩ (.int .u8 ((zhr k).toNat:Int))).heap.size:=Nat.le_trans hB hb2.size
   have hfull:zhi l++zhi (zhr k::m)=zhi (l++digs u):=by
    rw [← zjx,← HD.out,zgx (by omega)];rfl
   have hfl:l.length+(65-j)=(l++digs u).length:=by
    rw [← HD.out,zgx (by omega)];simp;omega
   have HF:=Lib.hid (And.intro hfull hfl);have HB2:=Lib.hid hb2;clear s1 s2 hdz hb2 hfull hfl hal;unfold OwnB at hown2
   go_wp2_with (at_builtin;refine zg1 rfl (.tmp 95) (.tmp 97) 192 rfl B 5 i0 (.int .u8 0) 1 Tryz.underlying192 hi hz0 hz1 hz2 rfl sv _ _ rfl hown2 _ (65-j) (65-j) _ rfl hsrc hone hc1 hc2 hc3 ?_;intro v1 w1 hown1 hg1 hb1)
   go_ret2
   have hlt:=hown2;refine ⟨_,rfl,?_,?_⟩
   ·unfold OwnB;rw [← HF.out.1,← HF.out.2];exact hown1
   ·exact (HB2.out.mono hB).grown hg1 hc3 fun g e=>(OwnB.lt hown2 g e).1
set_option maxRecDepth 100000 in
set_option maxHeartbeats 800000 in
theorem zl3 {B u:Nat} {sv:Value} {l:List UInt8} {w:World} (hu:u<18446744073709551616) (hown:OwnB w B sv l) (hB:B≤w.heap.size) (hl:l.length≤1000000000) :
  Calls Tryz.prog 159 #[sv,.int .u64 u,.int .i64 36] w (MoreB w B (l++digs u)):=by
 have hcall:=ztd hu hown hB hl;clear hown
 go_enter Tryz.func159,Tryz.ntmps159
 go_wp2_with (go_at_call 177;refine hcall.mono ?_;rintro e w' ⟨v',rfl,hown',hb'⟩)
 go_ret
 exact ⟨_,rfl,hown',hb'⟩
set_option maxRecDepth 100000 in
set_option maxHeartbeats 800000 in
theorem appendInt_any {B:Nat} {a:Int} {sv:Value} {l:List UInt8} {w:World} (ha1:-9223372036854775808≤a) (ha2:a≤9223372036854775807) (hown:OwnB w B sv l) (hB:B≤w.heap.size) (hl:l.length≤100000000) :
  Calls Tryz.prog 144 #[sv,.int .i64 a,.int .i64 36] w (MoreB w B (l++zkd a)):=by
 obtain ⟨i0,hi,hz0,hz1,hz2⟩:=info_parts Tryz.infoByte;by_cases h1:a<0
 ·have hs1:∀ t,Src (w.alloc (.cells #[.int .u8 45] t)) (some ⟨w.heap.size,0,none⟩) 1 [.int .u8 45]:=fun t=>src_one w _ t;have hone:∀ u∈[Value.int .u8 45],u.oneCell'=true:=by intro u hu;simp at hu;subst hu;rfl
  have hownA:∀ o,(w.alloc o).ownsRow B 5 1 sv l.length (zhi l):=fun o=>World.ownsRow.alloc hown o;have hc1:l.length+1≤maxLen:=by unfold maxLen;omega
  have hc2:(l.length+1)*1≤140737488355328:=by omega
  have hc3:∀ o,B≤(w.alloc o).heap.size:=fun o=>by simp;omega
  have hlt:=OwnB.lt hown;have hB1:∀ o,Below B w (w.alloc o):=fun o=>(Below.refl B w).alloc hB o;have HOWN:=Lib.hid hown;clear hown;have e1:(zkd a)=45::digs a.natAbs:=by unfold zkd;rw [if_pos h1]
  have HE:=Lib.hid e1;clear e1
  go_enter Tryz.func144,Tryz.ntmps144
  go_wp2_with (at_builtin;refine zg1 rfl (.tmp 12) (.tmp 13) 192 rfl B 5 i0 (.int .u8 0) 1 Tryz.underlying192 hi hz0 hz1 hz2 rfl sv _ _ rfl (hownA _) _ 1 1 [.int .u8 45] rfl (hs1 _) hone hc1 hc2 (hc3 _) ?_;intro v1 w1 hown1 hg1 hb1)
  have hw:IntKind.u64.wrap (-IntKind.u64.wrap a)=((a.natAbs:Nat):Int):=by
   rw [IntKind.wrap_u64,IntKind.wrap_u64];omega
  rw [hw]
  have hown2:OwnB w1 B v1 (l++[45]):=by
   unfold OwnB;rw [zjx,List.length_append];exact hown1
  have hb2:Below B w w1:=(hB1 _).grown hg1 (hc3 _) fun g e=>(hlt g e).1;have hcall:=zl3 (u:=a.natAbs) (by omega) hown2 (Nat.le_trans hB (by have:=hg1.size;simp at this;omega)) (by simp;omega);clear hown1 hg1 hb1 hown2 hownA hs1 hc3;refine hcall.mono ?_;rintro e w' ⟨v',rfl,hown',hb'⟩
  go_wp2
  go_ret
  refine ⟨_,rfl,?_,hb2.trans hb'⟩;rw [HE.out];simpa using hown'
 ·have HOWN:=Lib.hid hown;have e1:(zkd a)=digs a.natAbs:=by unfold zkd;rw [if_neg h1]
  have hw:IntKind.u64.wrap a=((a.natAbs:Nat):Int):=by
   rw [IntKind.wrap_u64];omega
  have hcall:=zl3 (u:=a.natAbs) (by omega) hown hB (by omega);clear hown
  go_enter Tryz.func144,Tryz.ntmps144
  go_wp2_with (go_at_call 159;refine hcall.mono ?_;rintro e w' ⟨v',rfl,hown',hb'⟩)
  go_ret
  exact ⟨_,rfl,by rw [e1];exact hown',hb'⟩
set_option maxRecDepth 100000 in
theorem zlo {B:Nat} {a:Int} {sv:Value} {l:List UInt8} {w:World} (ha1:-9223372036854775808≤a) (ha2:a≤9223372036854775807) (hown:OwnB w B sv l) (hB:B≤w.heap.size) (hl:l.length≤100000000) :
  Calls Tryz.prog 127 #[sv,.int .i64 a,.int .i64 36] w (MoreB w B (l++zkd a)):=by
 have hcall:=appendInt_any ha1 ha2 hown hB hl;clear hown
 go_enter Tryz.func127,Tryz.ntmps127
 go_wp2_with (go_at_call 144;refine hcall.mono ?_;rintro e w' ⟨v',rfl,hown',hb'⟩)
 go_ret
 exact ⟨_,rfl,hown',hb'⟩
theorem keyL_take {xs:List Int} {k:Nat} {x:Int} (h:xs[k]?=some x):keyL (xs.take (k+1))=(keyL (xs.take k)++zkd x)++[32]:=by
 rw [zck h,zqe];simp [keyL]
def Rng (x:Int):Prop:=-9223372036854775808≤x∧x≤9223372036854775807
def KeyPost (w:World) (l:List UInt8) (e:Ending) (w':World):Prop:=e=.returned (.string ⟨l.toArray⟩)∧Below w.heap.size w w'
set_option maxRecDepth 100000 in
set_option maxHeartbeats 1600000 in
theorem key_any {A:Option Addr} {n c:Nat} {xs:List Int} {w:World} (hx:zea w zob A n c xs) (hr:∀ x∈xs,Rng x) (hn:n≤2000000) :
  Calls Tryz.prog 109 #[.slice A n c] w (KeyPost w (keyL xs)):=by
 have HL:=Lib.hid hx.len;have HR:=Lib.hid hr;obtain ⟨i0,hi,hz0,hz1,hz2⟩:=info_parts Tryz.infoByte;clear hr
 go_enter Tryz.func109,Tryz.ntmps109
 go_wp2
 go_loopw [3,5,8] (fun v _ i wr=>∃ k:Nat,k≤n∧i=.int .i64 k∧OwnB wr w.heap.size v (keyL (xs.take k))∧Below w.heap.size w wr) (fun _ _ i _=>n-(intOf i).toNat)
 case atStart=>exact ⟨0,by omega,rfl,OwnB.nil_ _ _,Below.refl _ _⟩
 case round =>
  obtain ⟨k,hk,rfl,hown,hbel⟩:=hrel
  have hkl:(keyL (xs.take k)).length≤15*k:=by
   have:=keyL_len (xs:=xs.take k) fun x hx=>HR.out x (List.mem_of_mem_take hx);rw [List.length_take] at this;omega
  by_cases h1:k<n
  ·obtain ⟨b,o,x,rfl,hx1,hx2⟩:=hx.int_at h1;have hc:=ziu.of_below hbel _ _ hx2;have hrx:=HR.out x (List.mem_of_getElem? hx1);have HX:=Lib.hid hx1;have HC:=Lib.hid (zlo hrx.1 hrx.2 hown hbel.size (by omega));have hlen:=enc36_len hrx.1 hrx.2;have HB:=Lib.hid hbel;clear hx1 hx2 hrx hown hbel;have hone:∀ u∈[Value.int .u8 32],u.oneCell'=true:=by intro u hu;simp at hu;subst hu;rfl
   have hc1:(keyL (xs.take k)++zkd x).length+1≤maxLen:=by unfold maxLen;simp;omega
   have hc2:((keyL (xs.take k)++zkd x).length+1)*1≤140737488355328:=by simp;omega
   go_wp2_with (first | (go_at_call 127;refine HC.out.mono ?_;rintro e w1 ⟨v1,rfl,hown1,hb1⟩;have HH:=Lib.hid (And.intro hown1 hb1);have hs1:=fun t=>src_one w1 (.int .u8 32) t;have hownA:=fun o=>World.ownsRow.alloc hown1 o;have hc3:∀ o,w.heap.size≤(w1.alloc o).heap.size:=(fun o=>by have:=HB.out.size;have:=hb1.size;simp;omega);clear hown1 hb1) | (at_builtin;refine zg1 rfl (.tmp 14) (.tmp 15) 192 rfl w.heap.size 5 i0 (.int .u8 0) 1 Tryz.underlying192 hi hz0 hz1 hz2 rfl v1 _ _ rfl (hownA _) _ 1 1 [.int .u8 32] rfl (hs1 _) hone hc1 hc2 (hc3 _) ?_;intro v2 w2 hown2 hg2 hb2))
   have hfin:OwnB w2 w.heap.size v2 (keyL (xs.take (k+1))):=by
    unfold OwnB;rw [keyL_take HX.out,zjx,List.length_append];exact hown2
   have hbel':Below w.heap.size w w2:=((HB.out.trans (HH.out.2.mono (Nat.le_refl _))).alloc (by have:=HB.out.size;have:=HH.out.2.size;omega) _).grown hg2 (hc3 _) fun g e=>(OwnB.lt HH.out.1 g e).1;clear hown2 hg2 hb2 hs1 hownA hc3
   go_roundw
   case rel=>exact ⟨k+1,by omega,by go_num,hfin,hbel'⟩
   case measure=>simp [intOf]<;>omega
  ·rw [List.take_of_length_le (by rw [HL.out];omega)] at hown
   have hconv:(convert 192 9 u3).run Tryz.prog wr=.ok (.string ⟨(keyL xs).toArray⟩) wr:=by
    rcases hown.2 with ⟨rfl,h0⟩ | ⟨g,cap,cur,rfl,_,_,_⟩
    ·have h00:keyL xs=[]:=List.eq_nil_of_length_eq_zero h0;rw [h00];exact Lib.run_convert_nil_bytes wr _ _ _ 0 Tryz.underlying192 Tryz.underlying5 Tryz.underlying9
    ·refine run_convert_bytes_back wr _ _ _ ⟨g,0,none⟩ cap (keyL xs) Tryz.underlying192 Tryz.underlying5 Tryz.underlying9 fun j hj=>?_;rw [hown.cells (g:=g) rfl j (.int .u8 ((keyL xs)[j].toNat:Int)) (by simp [zhi,hj])]
   clear hown
   go_wp2
   go_ret
   exact ⟨rfl,hbel⟩
end
end Go.Proofs.YtcneaiejdidooaaGreatDoor
namespace Go.Proofs.YtcneaiejdidooaaGreatDoor.Sym
section
open Go.RowKit
theorem zjb {w:World} {S:Nat→Prop} {v:Value} {l:List Int} (h:RepI w S v (nL cI l)):∃ A n c,v=.slice A n c∧zea w zob A n c l:=by
 have h:RepI w S v (.sl (l.map cI)):=h;generalize he:l.map cI=es at h;cases h with
 | emp A c =>
  have:l=[]:=by simpa using he
  subst this;exact ⟨A,0,c,rfl,rfl,Nat.zero_le _,by omega,fun h=>by omega⟩
 | sl b o c k n _ us hn hk hc hs hS hl h1 hu hr =>
  subst he
  have hf:(l.map cI).flatten=l.map fun x=>nI x:=by
   clear hn hk hl hr h
   induction l with
   | nil=>rfl
   | cons x l ih=>rw [List.map_cons,List.flatten_cons,ih];rfl
  rw [hf] at hl hr;refine ⟨_,_,_,rfl,by simpa using hn,hc,hs,fun _=>⟨b,o,rfl,fun i x hx=>?_⟩⟩;have hi:i<us.length:=by rw [hl,zkK];exact (zkI.1 hx).1
  have hg:=zkM hi;refine ⟨_,hu i _ hg,?_⟩;have:=hr i _ (nI x) hg (by rw [List.getElem?_map,hx];rfl);generalize us[i]=u at this;cases this with
  | val _=>rfl
def zlc (l:List Int):Option ByteArray:=chk (∀ x∈l,inR x) (chk (l.length≤2000000) (some ⟨(keyL l).toArray⟩))
set_option maxRecDepth 100000 in
theorem sp_nondet_key (l:List Int) (r:ByteArray) (h:zlc l=some r):Sp Tryz.prog 109 [.im (nL cI l)] (.im (nS r)):=by
 obtain ⟨h1,h⟩:=zam h;obtain ⟨h2,h⟩:=zam h;injection h with h
 subst h;refine ⟨fun args w=>zga rfl rfl rfl args w,fun w S vs F hS hv hn hF=>?_⟩
 match vs,hv with
 | [v],⟨F1,F2,⟨h3,e1⟩,h4,e2⟩ =>
  have h4:F2=[]:=h4;subst e1 h4 e2;obtain ⟨A,n,c,rfl,hrow⟩:=zjb h3;refine (key_any hrow h1 (by rw [← hrow.1];exact h2)).mono ?_;rintro e w' ⟨rfl,hb⟩;exact ⟨_,[],rfl,.of hb,⟨[_],[],[],rfl,⟨[],[],⟨.val _,rfl⟩,rfl,rfl⟩,rfl,rfl⟩,List.nodup_nil,fun b hb=>by simp at hb⟩
end
end Go.Proofs.YtcneaiejdidooaaGreatDoor.Sym
namespace Go.Proofs.YtcneaiejdidooaaGreatDoor
section
open Go.RowKit
def cmpI (x y:Int):Int:=if x<y then -1 else if y<x then 1 else 0
theorem zis (x y:Int) (w:World) :
  Calls Tryz.prog 155 #[.int .i64 x,.int .i64 y] w fun e w'=>e=.returned (.int .i64 (cmpI x y))∧w=w':=by
 by_cases h1:x<y
 ·go_enter Tryz.func155,Tryz.ntmps155
  go_wp2
  go_ret
  exact ⟨zix (by unfold cmpI;rw [if_pos h1]),rfl⟩
 ·by_cases h2:y<x
  ·go_enter Tryz.func155,Tryz.ntmps155
   go_wp2
   go_ret
   exact ⟨zix (by unfold cmpI;rw [if_neg (by omega),if_pos h2]),rfl⟩
  ·go_enter Tryz.func155,Tryz.ntmps155
   go_wp2
   go_ret
   exact ⟨zix (by unfold cmpI;rw [if_neg (by omega),if_neg (by omega)]),rfl⟩
theorem lexI_step {xs ys:List Int} {k:Nat} {x y:Int} (hx:xs[k]?=some x) (hy:ys[k]?=some y) :
  lexI (xs.drop k) (ys.drop k)=if cmpI x y=0 then lexI (xs.drop (k+1)) (ys.drop (k+1)) else cmpI x y:=by
 obtain ⟨h1,h1'⟩:=List.getElem?_eq_some_iff.1 hx;obtain ⟨h2,h2'⟩:=List.getElem?_eq_some_iff.1 hy;rw [List.drop_eq_getElem_cons h1,List.drop_eq_getElem_cons h2,h1',h2'];simp only [lexI,cmpI];by_cases a:x<y
 ·simp [a]
 ·by_cases b:y<x
  ·simp [a,b]
  ·simp [a,b]
theorem lexI_long {xs ys:List Int} {k:Nat} (h1:k<xs.length) (h2:ys.length≤k):lexI (xs.drop k) (ys.drop k)=1:=by
 rw [List.drop_eq_getElem_cons h1,List.drop_eq_nil_of_le h2];rfl
theorem lexI_end {xs ys:List Int} {k:Nat} (h1:xs.length≤k):lexI (xs.drop k) (ys.drop k)=if k<ys.length then -1 else 0:=by
 rw [List.drop_eq_nil_of_le h1];by_cases h2:k<ys.length
 ·rw [if_pos h2,List.drop_eq_getElem_cons h2];rfl
 ·rw [if_neg h2,List.drop_eq_nil_of_le (by omega)];rfl
set_option maxHeartbeats 800000 in
theorem zjj {A B:Option Addr} {n c m c':Nat} {xs ys:List Int} {w:World} (hx:zea w zob A n c xs) (hy:zea w zob B m c' ys) :
  Calls Tryz.prog 141 #[.slice A n c,.slice B m c'] w fun e w'=>e=.returned (.int .i64 (lexI xs ys))∧w=w':=by
 have hn:=hx.small;have hm:=hy.small;have HL:=Lib.hid (And.intro hx.len hy.len)
 go_enter Tryz.func141,Tryz.ntmps141
 go_wp2
 go_loop [5,6,7,8,11] (fun _ _ _ _ i=>∃ k:Nat,k≤n∧k≤m∧i=.int .i64 k∧Hid (lexI xs ys=lexI (xs.drop k) (ys.drop k))) (fun _ _ _ _ i=>n-(intOf i).toNat)
 case atStart=>exact ⟨0,by omega,by omega,rfl,Lib.hid (by simp)⟩
 case round =>
  obtain ⟨k,hk,hk',rfl,HT⟩:=hrel;by_cases h1:k<n
  ·obtain ⟨b,o,x,rfl,hx1,hx2⟩:=hx.int_at h1;have HX:=Lib.hid hx1;clear hx1;by_cases h2:k<m
   ·obtain ⟨b',o',y,rfl,hy1,hy2⟩:=hy.int_at h2;have HY:=Lib.hid hy1;clear hy1;have hst:=lexI_step HX.out HY.out;by_cases h3:cmpI x y=0
    ·rw [if_pos h3] at hst;have HST:=Lib.hid hst;have d3:(cmpI x y != 0)=false:=by simp [h3]
     have H3:=Lib.hid h3;clear h3 hst
     go_wp2_with (go_at_call 155;refine (zis _ _ _).mono ?_;rintro e w' ⟨rfl,rfl⟩)
     go_round
     case rel=>exact ⟨k+1,by omega,by omega,by go_num,Lib.hid (by rw [HT.out,HST.out])⟩
     case measure=>simp [intOf];omega
    ·rw [if_neg h3] at hst;have HST:=Lib.hid hst;have d3:(cmpI x y != 0)=true:=by simp [h3]
     clear h3 hst
     go_wp2_with (go_at_call 155;refine (zis _ _ _).mono ?_;rintro e w' ⟨rfl,rfl⟩)
     go_ret
     exact ⟨zix (by rw [HT.out,HST.out]),rfl⟩
   ·go_wp2
    go_ret
    obtain ⟨h3,h4⟩:=HL.out;exact ⟨zix (by rw [HT.out,lexI_long (by omega) (by omega)]),rfl⟩
  ·obtain ⟨h3,h4⟩:=HL.out;have HE:=Lib.hid (lexI_end (xs:=xs) (ys:=ys) (k:=k) (by omega));clear h3 h4;by_cases h2:n<m
   ·go_wp2
    go_ret
    obtain ⟨h3,h4⟩:=HL.out;exact ⟨zix (by rw [HT.out,HE.out,if_pos (by omega)]),rfl⟩
   ·go_wp2
    go_ret
    obtain ⟨h3,h4⟩:=HL.out;exact ⟨zix (by rw [HT.out,HE.out,if_neg (by omega)]),rfl⟩
theorem wordLex_any {A B:Option Addr} {n c m c':Nat} {xs ys:List Int} {w:World} (hx:zea w zob A n c xs) (hy:zea w zob B m c' ys) :
  Calls Tryz.prog 122 #[.slice A n c,.slice B m c'] w fun e w'=>e=.returned (.int .i64 (lexI xs ys))∧w=w':=by
 go_enter Tryz.func122,Tryz.ntmps122
 go_wp2_with (go_at_call 141;refine (zjj hx hy).mono ?_;rintro e w' ⟨rfl,rfl⟩)
 go_ret
 exact ⟨rfl,rfl⟩
def orI (xs:List Int):Int:=(xs.find? fun a=>a != 0).getD 0
set_option maxHeartbeats 400000 in
theorem cmpOr_any {A:Option Addr} {n c:Nat} {xs:List Int} {w:World} (hx:zea w zob A n c xs) :
  Calls Tryz.prog 154 #[.slice A n c] w fun e w'=>e=.returned (.int .i64 (orI xs))∧w=w':=by
 have hns:=hx.small;have HL:=Lib.hid hx.len
 go_enter Tryz.func154,Tryz.ntmps154
 go_wp2
 go_loop [5,8] (fun _ i=>∃ k:Nat,k≤n∧i=.int .i64 k∧Hid (((xs.take k).find? fun a=>a != 0)=none)) (fun _ i=>n-(intOf i).toNat)
 case atStart=>exact ⟨0,by omega,rfl,Lib.hid (by simp)⟩
 case round =>
  obtain ⟨k,hk,rfl,HT⟩:=hrel;by_cases h1:k<n
  ·obtain ⟨b,o,x,rfl,hx1,hx2⟩:=hx.int_at h1;have HX:=Lib.hid hx1;clear hx1;by_cases h2:x=0
   ·have d2:(x != 0)=false:=by simp [h2]
    have H2:=Lib.hid h2;clear h2
    go_wp2
    go_round
    case rel=>exact ⟨k+1,by omega,by go_num,Lib.hid (by rw [zck HX.out,List.find?_append,HT.out,H2.out];rfl)⟩
    case measure=>simp [intOf]<;>omega
   ·have d2:(x != 0)=true:=by simp [h2]
    go_wp2
    go_ret
    refine ⟨zix ?_,rfl⟩;have hsp:=List.take_append_drop (k+1) xs;unfold orI;rw [← hsp,List.find?_append,zck HX.out,List.find?_append,HT.out];simp [h2]
  ·go_wp2
   go_ret
   have ht:=HT.out;rw [List.take_of_length_le (by rw [HL.out];omega)] at ht;exact ⟨zix (by unfold orI;rw [ht];rfl),rfl⟩
theorem orI_cmp (xs ys:List Int):orI [cmpI xs.length ys.length,lexI xs ys]=cmpW xs ys:=by
 unfold orI cmpI cmpW;by_cases h1:xs.length<ys.length
 ·rw [if_pos (by omega),if_pos h1];rfl
 ·by_cases h2:ys.length<xs.length
  ·rw [if_neg (by omega),if_pos (by omega),if_neg h1,if_pos h2];rfl
  ·rw [if_neg (by omega),if_neg (by omega),if_neg h1,if_neg h2];by_cases h3:lexI xs ys=0
   ·simp [h3]
   ·simp [h3]
theorem src_two {w:World} (x y:Value) (t:TypeId):Src (w.alloc (.cells #[x,y] t)) (some ⟨w.heap.size,0,none⟩) 2 [x,y] :=
 ⟨rfl,fun _=>⟨_,_,rfl,fun j u hu=>by
  have:=cell_two_new w x y t j u hu
  rwa [addr_add] at this⟩⟩
theorem ints_row {w:World} (x y:Int) (t:TypeId):zea (w.alloc (.cells #[.int .i64 x,.int .i64 y] t)) zob (some ⟨w.heap.size,0,none⟩) 2 2 [x,y]:=by
 refine ⟨rfl,Nat.le_refl _,by omega,fun _=>⟨_,_,rfl,fun i z hz=>?_⟩⟩;obtain ⟨_,hc⟩:=src_two (w:=w) (.int .i64 x) (.int .i64 y) t;obtain ⟨b,o,e,hcc⟩:=hc (by omega);injection e with e
 injection e with e1 e2
 subst e1 e2
 match i,hz with
 | 0,hz =>
  simp at hz;subst hz;exact ⟨_,hcc 0 _ rfl,rfl⟩
 | 1,hz =>
  simp at hz;subst hz;exact ⟨_,hcc 1 _ rfl,rfl⟩
set_option maxHeartbeats 400000 in
theorem zqq {A B:Option Addr} {n c m c':Nat} {xs ys:List Int} {w:World} (hx:zea w zob A n c xs) (hy:zea w zob B m c' ys) :
  Calls Tryz.prog 135 #[.slice A n c,.slice B m c'] w fun e w'=>e=.returned (.int .i64 (cmpW xs ys))∧w.alloc (.cells #[.int .i64 (cmpI xs.length ys.length),.int .i64 (lexI xs ys)] 3)=w':=by
 have hn:=hx.small;have hm:=hy.small;have hc1:=Lib.hid (zjj hx hy);have HE:=Lib.hid (orI_cmp xs ys);have h1:=hx.len;have h2:=hy.len;have HO:=Lib.hid (fun t=>cmpOr_any (ints_row (w:=w) (cmpI xs.length ys.length) (lexI xs ys) t));rw [h1,h2] at HE HO;rw [h1,h2];clear h1 h2 hx hy
 go_enter Tryz.func135,Tryz.ntmps135
 go_wp2_with (first | (go_at_call 155;refine (zis _ _ _).mono ?_;rintro e w' ⟨rfl,rfl⟩) | (go_at_call 141;refine hc1.out.mono ?_;rintro e w' ⟨rfl,rfl⟩) | (go_at_call 154;refine (HO.out _).mono ?_;rintro e w' ⟨rfl,rfl⟩))
 go_ret
 exact ⟨zix HE.out,rfl⟩
end
end Go.Proofs.YtcneaiejdidooaaGreatDoor
namespace Go.Proofs
section
open Go.Shelf
def Tryz.sortW_ren:Go.Shelf.Ren:=⟨fun | 6=>138 | 15=>157 | 14=>156 | 28=>172 | 29=>173 | 20=>164 | 21=>165 | 22=>166 | 23=>167 | 24=>168 | 25=>169 | 26=>170 | 27=>171 | 46=>179 | 47=>180 | 48=>181 | 49=>182 | 50=>183 | 57=>189 | n=>n,fun | 22=>22 | 24=>25 | 25=>101 | 3=>3 | 39=>218 | 0=>0 | 53=>234 | 55=>30 | 4=>4 | 46=>228 | 45=>227 | 50=>211 | 5=>5 | 9=>9 | 66=>241 | 70=>245 | 76=>252 | 77=>176 | n=>n,fun | n=>n⟩
theorem Tryz.sortW:Go.Proofs.SlLaysF.n6 Tryz.prog Tryz.sortW_ren:={
 mixed:=by kernel_rfl
 f6:=⟨Tryz.f138.name,by decide,Tryz.func138.trans (congrArg some (by kernel_rfl))⟩
 f14:=⟨Tryz.f156.name,by decide,Tryz.func156.trans (congrArg some (by kernel_rfl))⟩
 f15:=Tryz.func157.trans (congrArg some (by kernel_rfl))
 f20:=⟨Tryz.f164.name,by decide,Tryz.func164.trans (congrArg some (by kernel_rfl))⟩
 f21:=⟨Tryz.f165.name,by decide,Tryz.func165.trans (congrArg some (by kernel_rfl))⟩
 f22:=⟨Tryz.f166.name,by decide,Tryz.func166.trans (congrArg some (by kernel_rfl))⟩
 f23:=⟨Tryz.f167.name,by decide,Tryz.func167.trans (congrArg some (by kernel_rfl))⟩
 f24:=⟨Tryz.f168.name,by decide,Tryz.func168.trans (congrArg some (by kernel_rfl))⟩
 f25:=⟨Tryz.f169.name,by decide,Tryz.func169.trans (congrArg some (by kernel_rfl))⟩
 f26:=⟨Tryz.f170.name,by decide,Tryz.func170.trans (congrArg some (by kernel_rfl))⟩
 f27:=⟨Tryz.f171.name,by decide,Tryz.func171.trans (congrArg some (by kernel_rfl))⟩
 f28:=Tryz.func172.trans (congrArg some (by kernel_rfl))
 f29:=Tryz.func173.trans (congrArg some (by kernel_rfl))
 f46:=⟨Tryz.f179.name,by decide,Tryz.func179.trans (congrArg some (by kernel_rfl))⟩
 f47:=Tryz.func180.trans (congrArg some (by kernel_rfl))
 f48:=Tryz.func181.trans (congrArg some (by kernel_rfl))
 f49:=⟨Tryz.f182.name,by decide,Tryz.func182.trans (congrArg some (by kernel_rfl))⟩
 f50:=⟨Tryz.f183.name,by decide,Tryz.func183.trans (congrArg some (by kernel_rfl))⟩
 f57:=⟨Tryz.f189.name,by decide,Tryz.func189.trans (congrArg some (by kernel_rfl))⟩
 t0:=Tryz.underlying0
 a0:=Tryz.isAgg0
 z0:=Tryz.sizeOf0
 v0:=Tryz.zeroValue0
 t3:=Tryz.underlying3
 a3:=Tryz.isAgg3
 z3:=Tryz.sizeOf3
 v3:=Tryz.zeroValue3
 t4:=Tryz.underlying4
 a4:=Tryz.isAgg4
 z4:=Tryz.sizeOf4
 v4:=Tryz.zeroValue4
 t5:=Tryz.underlying5
 a5:=Tryz.isAgg5
 z5:=Tryz.sizeOf5
 v5:=Tryz.zeroValue5
 t9:=Tryz.underlying9
 a9:=Tryz.isAgg9
 z9:=Tryz.sizeOf9
 v9:=Tryz.zeroValue9
 t22:=Tryz.underlying22
 a22:=Tryz.isAgg22
 z22:=Tryz.sizeOf22
 v22:=Tryz.zeroValue22
 a24:=Tryz.isAgg25
 z24:=Tryz.sizeOf25
 t25:=Tryz.underlying101
 a25:=Tryz.isAgg101
 z25:=Tryz.sizeOf101
 v25:=Tryz.zeroValue101
 t39:=Tryz.underlying218
 a39:=Tryz.isAgg218
 z39:=Tryz.sizeOf218
 v39:=Tryz.zeroValue218
 t45:=Tryz.underlying227
 a45:=Tryz.isAgg227
 z45:=Tryz.sizeOf227
 v45:=Tryz.zeroValue227
 t46:=Tryz.underlying228
 a46:=Tryz.isAgg228
 z46:=Tryz.sizeOf228
 v46:=Tryz.zeroValue228
 t50:=Tryz.underlying211
 a50:=Tryz.isAgg211
 z50:=Tryz.sizeOf211
 v50:=Tryz.zeroValue211
 t53:=Tryz.underlying234
 a53:=Tryz.isAgg234
 z53:=Tryz.sizeOf234
 v53:=Tryz.zeroValue234
 t55:=Tryz.underlying30
 a55:=Tryz.isAgg30
 z55:=Tryz.sizeOf30
 v55:=Tryz.zeroValue30
 t66:=Tryz.underlying241
 a66:=Tryz.isAgg241
 z66:=Tryz.sizeOf241
 v66:=Tryz.zeroValue241
 t70:=Tryz.underlying245
 a70:=Tryz.isAgg245
 z70:=Tryz.sizeOf245
 v70:=Tryz.zeroValue245
 t76:=Tryz.underlying252
 a76:=Tryz.isAgg252
 z76:=Tryz.sizeOf252
 v76:=Tryz.zeroValue252
 t77:=Tryz.underlying176
 a77:=Tryz.isAgg176
 z77:=Tryz.sizeOf176
 v77:=Tryz.zeroValue176 }
end
end Go.Proofs
namespace Go.Proofs.YtcneaiejdidooaaGreatDoor.Sym
section
open Go.RowKit Go.Sort
set_option maxRecDepth 100000
theorem putRow_map {E:Type} [Inhabited E] (enc:E→Value) (w:World) (blk off:Nat) (d:Array E):putRow enc w blk off d=putRow id w blk off (d.map enc):=by
 unfold putRow;congr 1;funext c;unfold putCells;congr 1;funext k x;rw [Array.size_map];by_cases h:off≤k∧k<off+d.size
 ·have h1:k-off<d.size:=by omega
  rw [if_pos h,if_pos h,getElem!_pos d _ h1,getElem!_pos (d.map enc) _ (by simpa using h1)];simp
 ·rw [if_neg h,if_neg h]
theorem holds_map {E:Type} [Inhabited E] {enc:E→Value} {w:World} {blk off:Nat} {d:Array E} (h:Go.Sort.Holds id w blk off (d.map enc)):Go.Sort.Holds enc w blk off d:=fun j hj=>by
 have:=h j (by simpa using hj);rw [getElem!_pos (d.map enc) _ (by simpa using hj)] at this;rw [getElem!_pos d _ hj];simpa using this
def one1 (us:List Value):Value:=us.headD undef
theorem flat_one1 {E:Type} [Inhabited E] {enc:E→List Value} (hk:∀ x,(enc x).length=1) (d:Array E):Go.Sort.flatK enc 1 d=d.map fun x=>one1 (enc x):=by
 rw [zub hk]
 have:(d.toList.map enc).flatten=d.toList.map fun x=>one1 (enc x):=by
  generalize d.toList=l
  induction l with
  | nil=>rfl
  | cons x l ih =>
   rw [List.map_cons,List.flatten_cons,ih,List.map_cons];have:=hk x
   match h:enc x,this with
   | [v],_=>rfl
 rw [this];apply Array.ext';simp
theorem sortC_words:SortC Tryz.prog 138 1 one1:=by
 refine ⟨fun p cap fv w=>AnyF.slices_SortFunc_none { Tryz.sortW with } p cap fv w,?_⟩;intro E _ enc cf g blk cap d w hk h1 hO eg hcmp hH hblk hsz;have e1:∀ m (dk:Array E),putRow (fun x=>one1 (enc x)) (Sort.ahead w m) blk 0 dk=putRow id (Sort.ahead w m) blk 0 (Go.Sort.flatK enc 1 dk):=fun m dk=>by rw [flat_one1 hk,putRow_map]
 have hone:OneCell fun x=>one1 (enc x):=fun x=>by
  have h2:=hk x;have h3:=h1 x
  match h:enc x,h2 with
  | [v],_ =>
   show (one1 (enc x)).oneCell'=true;rw [h] at h3 ⊢;exact h3 v (by simp)
 refine (Any.slices_SortFunc Tryz.sortW (fun x=>one1 (enc x)) hone cf hO g #[] blk 0 cap d w eg (fun m os dk hs x y=>?_) (holds_map (by rw [← flat_one1 hk];exact hH)) hblk hsz).mono ?_
 ·have:=hcmp m os dk hs x y;unfold sortWorld;rw [e1];simpa using this
 ·rintro e w' ⟨he,d',n,os,hp,hs,hw⟩;exact ⟨he,d',n,os,hp,hs,by rw [hw];unfold sortWorld;rw [e1]⟩
theorem cmpG_lex {f:List Int→List Int→Option Int} (hf:∀ x y r,x.length≤17592186044416→f x y=some r→r=lexI x y):CmpG Tryz.prog 122 (nL cI) f:=by
 intro W S u u' x y r h hu hu';obtain ⟨A,n,c,rfl,h1⟩:=zjb hu;have:=hf x y r (by rw [h1.len];exact h1.small) h;subst this;obtain ⟨B,m,c',rfl,h2⟩:=zjb hu';refine (wordLex_any h1 h2).mono fun e w' ⟨he,hw⟩=>⟨he,0,#[],?_⟩;rw [← hw,Sort.grow_empty];rfl
theorem cmpG_compare {f:List Int→List Int→Option Int} (hf:∀ x y r,x.length≤17592186044416→f x y=some r→r=cmpW x y):CmpG Tryz.prog 135 (nL cI) f:=by
 intro W S u u' x y r h hu hu';obtain ⟨A,n,c,rfl,h1⟩:=zjb hu;have:=hf x y r (by rw [h1.len];exact h1.small) h;subst this;obtain ⟨B,m,c',rfl,h2⟩:=zjb hu';refine (zqq h1 h2).mono fun e w' ⟨he,hw⟩=>⟨he,0,#[.cells #[.int .i64 (cmpI x.length y.length),.int .i64 (lexI x y)] 3],?_⟩;rw [← hw,Sort.alloc_eq_grow];rfl
theorem rep_of_one {W:World} {S:Nat→Prop} {us:List Value} {x:IV} (hl:us.length=1) (hr:ziq W S us [x]):RepI W S (one1 us) x:=by
 match us,hl with
 | [u],_=>exact hr.2 0 u x rfl rfl
def CmpE {T:Type} (P:Program) (g:FuncId) (X:T→IV) (f:T→T→Option Int):Prop:=(∀ args w,(callFunc g args).run P w=.ok (.enter g args) w)∧CmpG P g X f
end
section
open Go.RowKit
theorem Tryz.infoI_traces:(Tryz.prog.info? 55).map (fun i=>(i.zero,i.size,i.bytes))=some (some (.agg #[.slice none 0 0,.slice none 0 0]),2,48):=by kernel_rfl
section
variable {P:Program}
theorem zud (w:World) {o:Oper} {a:Act} {K:Act→World→Prop} {Q:Exit→Act→World→Prop} (d s:Operand) (t t':TypeId)
  (ho:o.op=.call { callee:=.builtin .copy,args:=#[d,s],argTypes:=#[t,t'] }) (v u:Value) (hd:a.eval d=v) (hs:a.eval s=u) {v':Value} {w':World}
  (hr:(Builtin.copy_ #[t,t'] o.type #[v,u]).run P w=.ok v' w') (h:K (a.put o.dst v') w'):o.wp P a w K Q:=by
 unfold Oper.wp execOp;simp only [ho,resolve,invoke,builtin,Sem.run_bind,Sem.run_pure,Result.andThen_ok,List.map_toArray,List.map_cons,List.map_nil,hd,hs,hr];exact h
theorem zl5 (w:World) {ops:Array Oper} {rest:List Oper} {o:Oper} {a:Act} {Q:Exit→Act→World→Prop} (hgd:o.guard=none) (d s:Operand) (t t':TypeId)
  (ho:o.op=.call { callee:=.builtin .copy,args:=#[d,s],argTypes:=#[t,t'] }) (v u:Value) (hd:a.eval d=v) (hs:a.eval s=u) {v':Value} {w':World}
  (hr:(Builtin.copy_ #[t,t'] o.type #[v,u]).run P w=.ok v' w') (h:wpList P ops Q rest (a.put o.dst v') w'):wpList P ops Q (o::rest) a w :=
 wpList_plain hgd fun _ hK=>zud w d s t t' ho v u hd hs hr (hK _ _ h)
theorem zpk {ops:Array Oper} {o:Oper} {a:Act} {w:World} {K:Act→World→Prop} {Q:Exit→Act→World→Prop} {E:Prop}
  (hg:o.guard=none) (d x:Operand) (dT sT:TypeId) (hop:o.op=Op.call { callee:=Callee.builtin Builtin.copy,args:=#[d,x],argTypes:=#[dT,sT] })
  (v u:Value) (hd:a.eval d=v) (hx:a.eval x=u) {v':Value} {w':World} (hr:(Builtin.copy_ #[dT,sT] o.type #[v,u]).run P w=.ok v' w') (hK:K (a.put o.dst v') w') :
  if Region.wanted o (yielded ops a.tmps)=true then Oper.wp P o a w K Q else E:=by
 have hw:Region.wanted o (yielded ops a.tmps)=true:=by simp [Region.wanted,hg]
 rw [if_pos hw];exact zud w d x dT sT hop v u hd hx hr hK
end
def InsPost (t:TypeId) (k n:Nat) (us:List Value) (v:Value) (w:World) (e:Ending) (w':World):Prop :=
 ∃ v',e=.returned v'∧w'.ownsRow 0 t k v' (n+1) us∧w.grownBy w' v.ownBlock∧(v'.ownBlock=v.ownBlock∨v'.ownBlock=some w.heap.size)
set_option maxRecDepth 100000 in
set_option maxHeartbeats 400000 in
theorem insert_end (w:World) (v:Value) (n vb vc:Nat) (us news:List Value) (ho:w.ownsRow 0 55 2 v n us) (hl:news.length=1*2) (hb:∀ (j:Nat) u,news[j]?=some u→w.cell? ⟨vb,0+j,none⟩=some u)
  (h1:∀ u∈news,u.oneCell'=true) (hn:n≤1000000):Calls Tryz.prog 152 #[v,.int .i64 n,.slice (some ⟨vb,0,none⟩) 1 vc] w (InsPost 55 2 n (us++news) v w):=by
 obtain ⟨j0,ji,jz0,jz1,jz2⟩:=info_parts Tryz.infoI_traces;have hc6:n+1≤maxLen:=by unfold maxLen;omega
 have hc7:(n+1)*48≤140737488355328:=by omega
 rcases ho.2 with ⟨hv,h0⟩ | ⟨g,cap,cur,hv,_,hg,hnc,hcm,hcz,hct⟩
 ·subst hv h0
  go_enter Tryz.func152,Tryz.ntmps152
  go_wp2_with (at_builtin;refine zgf rfl (.tmp 23) (.tmp 24) 33 rfl 0 55 j0 (.agg #[.slice none 0 0,.slice none 0 0]) 2 48 Tryz.underlying33 ji jz0 jz1 jz2 rfl (by decide) _ _ _ rfl ho _ _ _ _ rfl hl (fun _=>⟨vb,0,rfl,hb⟩) h1 hc6 hc7 (Nat.zero_le _) ?_;intro v1 w1 hown1 hg1 hb1)
  all_goals (go_ret;exact ⟨v1,rfl,hown1,hg1,hb1⟩)
 ·subst hv
  go_enter Tryz.func152,Tryz.ntmps152
  go_wp2_with (at_builtin;refine zgf rfl (.tmp 23) (.tmp 24) 33 rfl 0 55 j0 (.agg #[.slice none 0 0,.slice none 0 0]) 2 48 Tryz.underlying33 ji jz0 jz1 jz2 rfl (by decide) _ _ _ rfl ho _ _ _ _ rfl hl (fun _=>⟨vb,0,rfl,hb⟩) h1 hc6 hc7 (Nat.zero_le _) ?_;intro v1 w1 hown1 hg1 hb1)
  all_goals (go_ret;exact ⟨v1,rfl,hown1,hg1,hb1⟩)
set_option maxRecDepth 100000 in
set_option maxHeartbeats 800000 in
theorem insert_shift (w:World) (g cap n i vb vc:Nat) (cur cur2:Array Value) (us news:List Value) (hg:w.heap[g]?=some (.cells cur 55 (0,0))) (hcz:cur.size=cap*2) (hct:cur.toList.take (n*2)=us)
  (hcm:cap≤maxLen) (hne:vb≠g) (hvb:w.heap[vb]?=some (.cells cur2 55 (0,0))) (hvz:cur2.toList.take 2=news) (hl:news.length=2) (h1:∀ u∈us,u.oneCell'=true) (h2:∀ u∈news,u.oneCell'=true) (hi:i<n) (hr:n<cap) (hn:n≤1000000) :
  Calls Tryz.prog 152 #[.slice (some ⟨g,0,none⟩) n cap,.int .i64 i,.slice (some ⟨vb,0,none⟩) 1 vc] w (InsPost 55 2 n (us.take (i*2)++news++us.drop (i*2)) (.slice (some ⟨g,0,none⟩) n cap) w):=by
 obtain ⟨j0,ji,jz0,jz1,jz2⟩:=info_parts Tryz.infoI_traces;have hz2:¬ ((i:Int)=(n:Int)):=by omega
 have hov:∀ lb cb,(callFunc 160 #[.slice (some ⟨vb,0,none⟩) 1 vc,.slice (some ⟨g,(i+1)*2,none⟩) lb cb]).run Tryz.prog w=.ok (.value (.bool false)) w:=fun lb cb=>by
  rw [run_callFunc_extern Tryz.func160 (by kernel_rfl) (by kernel_rfl) (by kernel_rfl) (e:=Extern.SlicesOverlaps.overlaps #[33,33] #[4]) (by kernel_rfl),
   Lib.run_overlaps_apart w 33 4 55 Tryz.underlying33 2 Tryz.sizeOf55 ⟨vb,0,none⟩ ⟨g,(i+1)*2,none⟩ 1 vc lb cb hne 55 55 cur2.size cur.size (by simp [World.shape?,hvb]) (by simp [World.shape?,hg]) (by omega) (by simp [World.frozen?,hvb]) (by simp [World.frozen?,hvb])]
  rfl
 have hct':∀ (j:Nat),j<n*2→cur[j]?=us[j]?:=fun j hj=>by
  rw [← hct,List.getElem?_take,if_pos hj,Array.getElem?_toList]
 have hul:us.length=n*2:=by
  rw [← hct,List.length_take,Array.length_toList];omega
 have hdl:(us.drop (i*2)).length=(n-i)*2:=by rw [List.length_drop,hul];omega
 obtain ⟨R1,hR1⟩:∃ R1,R1=(cur.toList.take ((i+1)*2)++us.drop (i*2)++cur.toList.drop ((i+1)*2+(us.drop (i*2)).length)).toArray:=⟨_,rfl⟩
 have hcp1:∀ ty dl dc sl sc,dl=n-i→sl=n+1-i→(Builtin.copy_ #[33,33] ty #[.slice (some ⟨g,(i+1)*2,none⟩) dl dc,.slice (some ⟨g,i*2,none⟩) sl sc]).run Tryz.prog w.drew=.ok (goInt ((n-i:Nat):Int)) (w.drew.setRow g R1):=fun ty dl dc sl sc hd hs=>by
  have hm:Nat.min sl dl=n-i:=by rw [hd,hs];simp only [Nat.min_def];split<;>omega
  have:=zjk (P:=Tryz.prog) w.drew 33 33 ty 55 g ((i+1)*2) dl dc ⟨g,i*2,none⟩ sl sc cur 55 (us.drop (i*2)) 2 Tryz.underlying33 (by rw [ji];simp [jz1]) hg (by rw [hm,hdl]) (fun j v hj=>by
   rw [Addr.add_lit]
   rw [List.getElem?_drop] at hj
   have hlt:=(zkI.1 hj).1
   show w.cell? _=_
   simp only [World.cell?,hg]
   rw [hct' _ (by omega)]
   simpa using hj) (by rw [hdl];omega) (fun v hv=>h1 v (List.mem_of_mem_drop hv))
  rw [hm,← hR1] at this;exact this
 have hR1z:R1.size=cap*2:=by
  rw [hR1];simp only [List.size_toArray,zkJ,List.length_take,List.length_drop,Array.length_toList];omega
 have hg1:(w.drew.setRow g R1).heap[g]?=some (.cells R1 55 (0,0)):=setRow_heap w.drew g cur R1 _ _ hg
 have hvb1:(w.drew.setRow g R1).heap[vb]?=some (.cells cur2 55 (0,0)):=by
  rw [setRow_other _ _ _ _ hne];exact hvb
 obtain ⟨R2,hR2⟩:∃ R2,R2=(R1.toList.take (i*2)++news++R1.toList.drop (i*2+news.length)).toArray:=⟨_,rfl⟩
 have hcp2:∀ (W:World) ty dl dc,W.heap[g]?=some (.cells R1 55 (0,0))→W.heap[vb]?=some (.cells cur2 55 (0,0))→1≤dl→(Builtin.copy_ #[33,33] ty #[.slice (some ⟨g,i*2,none⟩) dl dc,.slice (some ⟨vb,0,none⟩) 1 vc]).run Tryz.prog W=.ok (goInt ((1:Nat):Int)) (W.setRow g R2):=fun W ty dl dc hW hV hd=>by
  have hm:Nat.min 1 dl=1:=by simp only [Nat.min_def];split<;>omega
  have:=zjk (P:=Tryz.prog) W 33 33 ty 55 g (i*2) dl dc ⟨vb,0,none⟩ 1 vc R1 55 news 2 Tryz.underlying33 (by rw [ji];simp [jz1]) hW (by rw [hm,hl]) (fun j v hj=>by
   rw [Addr.add_lit]
   have hlt:=(zkI.1 hj).1
   simp only [World.cell?,hV]
   rw [← hvz,List.getElem?_take,if_pos (by omega),Array.getElem?_toList] at hj
   simpa using hj) (by rw [hl];omega) h2
  rw [hm,← hR2] at this;exact this
 obtain ⟨US,hUS⟩:∃ US,US=us.take (i*2)++news++us.drop (i*2):=⟨_,rfl⟩;rw [← hUS];have HUS:=Lib.hid hUS;have HR1:=Lib.hid hR1;have HR2:=Lib.hid hR2;have HDL:=Lib.hid hdl;have HUL:=Lib.hid hul;have HCT:=Lib.hid hct;have HL:=Lib.hid hl;have HVZ:=Lib.hid hvz;clear hUS hR1 hR2 hdl hul hct hct' hl hvz h1 h2;have hcp3:=fun ty dl dc=>hcp2 (w.drew.setRow g R1) ty dl dc hg1 hvb1;have hcd:1≤n+1-i:=by omega
 clear hcp2 hg1 hvb1;have mixed:Tryz.prog.follows Departure.mixedOrders=true:=by kernel_rfl
 have hw1:IntKind.i64.wrap ((i:Int)+1)=(i:Int)+1:=by rw [IntKind.wrap_i64];omega
 have hb1:(0:Int)≤(i:Int)+1:=by omega
 have hin:i≤n:=by omega
 have htn:((i:Int)+1).toNat=i+1:=by omega
 have hb2:¬ (cap=i+1):=by omega
 have hb3:(i:Int)≤(n:Int)+1:=by omega
 have hb4:¬ (cap=i):=by omega
 go_enter Tryz.func152,Tryz.ntmps152
 go_wp2_with (simp only [hov])
 go_region_law_o (refine zpk rfl _ _ 33 33 rfl _ _ (by simp [Act.eval,Act.put]) (by simp [Act.eval,Act.put]) (hcp1 _ _ _ _ _ (by omega) (by omega)) ?_)
 go_wp2_with (at_builtin;refine zl5 _ rfl _ _ 33 33 rfl _ _ rfl rfl (hcp3 3 (n+1-i) (cap-i) hcd) ?_)
 go_ret
 have hl:=HL.out;have hul:=HUL.out;have hct:=HCT.out;have hdl:=HDL.out;have hRL1:R1.toList=cur.toList.take ((i+1)*2)++us.drop (i*2)++cur.toList.drop ((i+1)*2+(us.drop (i*2)).length):=by rw [HR1.out]
 have hA1:(cur.toList.take ((i+1)*2)).length=(i+1)*2:=by rw [List.length_take,Array.length_toList];omega
 have hT:R1.toList.take (i*2)=us.take (i*2):=by
  rw [hRL1,List.append_assoc,List.take_append_of_le_length (by rw [hA1];omega),List.take_take,← hct,List.take_take];congr 1;omega
 have hD:R1.toList.drop (i*2+2)=us.drop (i*2)++cur.toList.drop ((i+1)*2+(us.drop (i*2)).length):=by
  rw [hRL1,List.append_assoc,List.drop_append_of_le_length (by rw [hA1];omega),List.drop_of_length_le (by rw [hA1];omega),List.nil_append]
 have hRL2:R2.toList=US++cur.toList.drop ((i+1)*2+(us.drop (i*2)).length):=by
  rw [HR2.out,HUS.out,hl,hT,hD];simp
 have hUL:US.length=(n+1)*2:=by
  rw [HUS.out,zkJ,zkJ,hdl,hl,List.length_take,hul];omega
 refine ⟨_,rfl,⟨hUL,.inr ⟨g,cap,R2,rfl,Nat.zero_le _,?_,by omega,hcm,?_,?_⟩⟩,⟨rfl,rfl,rfl,?_,fun k hk hkn=>?_⟩,.inl rfl⟩
 ·exact setRow_heap _ g R1 R2 _ _ (setRow_heap w.drew g cur R1 _ _ hg)
 ·rw [← Array.length_toList,hRL2,zkJ,hUL,List.length_drop,Array.length_toList,hdl];omega
 ·rw [hRL2,List.take_append_of_le_length (by omega),List.take_of_length_le (by omega)]
 ·simp
 ·have hkg:k≠g:=fun e=>hkn (by rw [e];rfl);rw [setRow_other _ _ _ _ hkg,setRow_other _ _ _ _ hkg];rfl
set_option maxRecDepth 100000 in
set_option maxHeartbeats 800000 in
theorem insert_grow (w:World) (g n i vb vc:Nat) (cur cur2:Array Value) (us news:List Value) (hg:w.heap[g]?=some (.cells cur 55 (0,0))) (hcz:cur.size=n*2) (hct:cur.toList.take (n*2)=us)
  (hvb:w.heap[vb]?=some (.cells cur2 55 (0,0))) (hvz:cur2.toList.take 2=news) (hl:news.length=2) (h1:∀ u∈us,u.oneCell'=true) (h2:∀ u∈news,u.oneCell'=true) (hi:i<n) (hn:n≤1000000) :
  Calls Tryz.prog 152 #[.slice (some ⟨g,0,none⟩) n n,.int .i64 i,.slice (some ⟨vb,0,none⟩) 1 vc] w (InsPost 55 2 n (us.take (i*2)++news++us.drop (i*2)) (.slice (some ⟨g,0,none⟩) n n) w):=by
 obtain ⟨j0,ji,jz0,jz1,jz2⟩:=info_parts Tryz.infoI_traces;have hz2:¬ ((i:Int)=(n:Int)):=by omega
 have hz3:(n:Int)<(n:Int)+1:=by omega
 have hct':∀ (j:Nat),j<n*2→cur[j]?=us[j]?:=fun j hj=>by
  rw [← hct,List.getElem?_take,if_pos hj,Array.getElem?_toList]
 have hul:us.length=n*2:=by
  rw [← hct,List.length_take,Array.length_toList];omega
 have hdl:(us.drop (i*2)).length=(n-i)*2:=by rw [List.length_drop,hul];omega
 have htl:(us.take (i*2)).length=i*2:=by rw [List.length_take,hul];omega
 have hgl:g<w.heap.size:=by
  rcases Nat.lt_or_ge g w.heap.size with h | h
  ·exact h
  ·rw [Array.getElem?_eq_none h] at hg;cases hg
 have hvl:vb<w.heap.size:=by
  rcases Nat.lt_or_ge vb w.heap.size with h | h
  ·exact h
  ·rw [Array.getElem?_eq_none h] at hvb;cases hvb
 obtain ⟨N,hN⟩:∃ N,N=w.heap.size:=⟨_,rfl⟩
 have hold:(Builtin.firstCells j0.size i (.slice (some ⟨g,0,none⟩) i n)).run Tryz.prog w.drew=.ok (us.take (i*2)).toArray w.drew:=by
  rw [jz1]
  exact run_firstCells_some w.drew 2 i ⟨g,0,none⟩ i n (us.take (i*2)) htl (fun j v hj=>by
   rw [Addr.add_lit]
   rw [List.getElem?_take] at hj
   split at hj
   ·show w.cell? _=_
    simp only [World.cell?,hg]
    rw [Nat.zero_add,hct' _ (by omega)]
    exact hj
   ·cases hj)
 obtain ⟨G,hG⟩:∃ G,G=grownCap w (n+1) n 55:=⟨_,rfl⟩;obtain ⟨ROW,hROW⟩:∃ ROW:Array Value,ROW=(us.take (i*2)).toArray++Builtin.zeroCells (Value.agg #[.slice none 0 0,.slice none 0 0]).cells (n+1-i)++Builtin.zeroCells (Value.agg #[.slice none 0 0,.slice none 0 0]).cells (G-(n+1)):=⟨_,rfl⟩;have hGn:n+1≤G:=by rw [hG];exact grownCap_ge w _ _ _
 have hGm:G≤maxLen:=by rw [hG];exact grownCap_le_maxLen w (n+1) n 55 (by unfold maxLen;omega)
 have hG63:G≤9223372036854775807:=by unfold maxLen at hGm;omega
 obtain ⟨W1,hW1⟩:∃ W1,W1=w.drew.alloc (.cells ROW 55):=⟨_,rfl⟩
 have hrz:∀ ty,(Builtin.append_ #[33,3] ty #[.slice (some ⟨g,0,none⟩) i n,.int .i64 ((n:Int)+1-(i:Int))]).run Tryz.prog w=.ok (.slice (some ⟨N,0,none⟩) (n+1) G) W1:=fun ty=>by
  have h:=Lib.run_append_grow_zeros w 33 3 ty 55 j0 _ .i64 .i64 Tryz.underlying33 Tryz.underlying3 ji jz0 (some ⟨g,0,none⟩) i n (us.take (i*2)) hold (n+1-i) (by omega) (by omega) (by omega) (by omega) (by rw [jz2];omega) (by rw [jz2,show i+(n+1-i)=n+1 by omega];exact growslice_fits (by omega) (by omega));rw [show i+(n+1-i)=n+1 by omega,← hG,← hROW,← hN,← hW1] at h;rw [show (n:Int)+1-(i:Int)=((n+1-i:Nat):Int) by omega];exact h
 have hRz:ROW.size=G*2:=by
  rw [hROW];simp only [Array.size_append,List.size_toArray,htl,Builtin.zeroCells,Value.cells,Array.size_map,Array.size_range];simp;omega
 have hROWL:ROW.toList.take (i*2)=us.take (i*2):=by
  rw [hROW,Array.toList_append,Array.toList_append,List.append_assoc,List.take_append_of_le_length (by simp [htl]),List.take_of_length_le (by simp [htl])]
 have hA0:W1.heap[N]?=some (.cells ROW 55 (0,0)):=by
  rw [hW1,hN];exact heap_alloc_new w.drew _
 have hAold:∀ k,k<w.heap.size→W1.heap[k]?=w.heap[k]?:=fun k hk=>by
  rw [hW1];exact heap_alloc_old w.drew _ hk
 obtain ⟨R1,hR1⟩:∃ R1,R1=(ROW.toList.take (i*2)++news++ROW.toList.drop (i*2+news.length)).toArray:=⟨_,rfl⟩
 have hcpA:∀ (W:World) ty dl dc,W.heap[N]?=some (.cells ROW 55 (0,0))→W.heap[vb]?=some (.cells cur2 55 (0,0))→1≤dl→(Builtin.copy_ #[33,33] ty #[.slice (some ⟨N,i*2,none⟩) dl dc,.slice (some ⟨vb,0,none⟩) 1 vc]).run Tryz.prog W=.ok (goInt ((1:Nat):Int)) (W.setRow N R1):=fun W ty dl dc hW hV hd=>by
  have hm:Nat.min 1 dl=1:=by simp only [Nat.min_def];split<;>omega
  have:=zjk (P:=Tryz.prog) W 33 33 ty 55 N (i*2) dl dc ⟨vb,0,none⟩ 1 vc ROW 55 news 2 Tryz.underlying33 (by rw [ji];simp [jz1]) hW (by rw [hm,hl]) (fun j v hj=>by
   rw [Addr.add_lit]
   have hlt:=(zkI.1 hj).1
   simp only [World.cell?,hV]
   rw [← hvz,List.getElem?_take,if_pos (by omega),Array.getElem?_toList] at hj
   simpa using hj) (by rw [hl];omega) h2
  rw [hm,← hR1] at this;exact this
 have hR1z:R1.size=G*2:=by
  rw [hR1];simp only [List.size_toArray,zkJ,List.length_take,List.length_drop,Array.length_toList,hl];omega
 obtain ⟨R2,hR2⟩:∃ R2,R2=(R1.toList.take ((i+1)*2)++us.drop (i*2)++R1.toList.drop ((i+1)*2+(us.drop (i*2)).length)).toArray:=⟨_,rfl⟩
 have hcpB:∀ (W:World) ty dl dc sl sc,W.heap[N]?=some (.cells R1 55 (0,0))→W.heap[g]?=some (.cells cur 55 (0,0))→dl=n-i→sl=n-i→(Builtin.copy_ #[33,33] ty #[.slice (some ⟨N,(i+1)*2,none⟩) dl dc,.slice (some ⟨g,i*2,none⟩) sl sc]).run Tryz.prog W=.ok (goInt ((n-i:Nat):Int)) (W.setRow N R2):=fun W ty dl dc sl sc hW hV hd hs=>by
  have hm:Nat.min sl dl=n-i:=by rw [hd,hs];simp only [Nat.min_def];split<;>omega
  have:=zjk (P:=Tryz.prog) W 33 33 ty 55 N ((i+1)*2) dl dc ⟨g,i*2,none⟩ sl sc R1 55 (us.drop (i*2)) 2 Tryz.underlying33 (by rw [ji];simp [jz1]) hW (by rw [hm,hdl]) (fun j v hj=>by
   rw [Addr.add_lit]
   rw [List.getElem?_drop] at hj
   have hlt:=(zkI.1 hj).1
   simp only [World.cell?,hV]
   rw [hct' _ (by omega)]
   simpa using hj) (by rw [hdl,hR1z];omega) (fun v hv=>h1 v (List.mem_of_mem_drop hv))
  rw [hm,← hR2] at this;exact this
 have hcdA:1≤n+1-i:=by omega
 have hvN:vb≠N:=by omega
 have hgN:g≠N:=by omega
 have hA1:=fun ty dc=>hcpA W1 ty (n+1-i) dc hA0 (by rw [hAold vb hvl];exact hvb) hcdA;have hB0:(W1.setRow N R1).heap[N]?=some (.cells R1 55 (0,0)):=setRow_heap W1 N ROW R1 _ _ hA0
 have hB1:(W1.setRow N R1).drew.heap[g]?=some (.cells cur 55 (0,0)):=by
  show (W1.setRow N R1).heap[g]?=_;rw [setRow_other _ _ _ _ hgN,hAold g hgl];exact hg
 have hB2:=fun ty dl dc sl sc h3 h4=>hcpB (W1.setRow N R1).drew ty dl dc sl sc hB0 hB1 h3 h4;obtain ⟨US,hUS⟩:∃ US,US=us.take (i*2)++news++us.drop (i*2):=⟨_,rfl⟩;rw [← hUS]
 have hfin:∃ REST,R2.toList=US++REST:=by
  refine ⟨R1.toList.drop ((i+1)*2+(us.drop (i*2)).length),?_⟩
  have hT:R1.toList.take ((i+1)*2)=us.take (i*2)++news:=by
   have hz:(us.take (i*2)++news).length=(i+1)*2:=by rw [zkJ,htl,hl];omega
   rw [hR1,hROWL,← hz,List.take_append_of_le_length (Nat.le_refl _),List.take_length]
  rw [hR2,hT,hUS]
 have hUL:US.length=(n+1)*2:=by
  rw [hUS,zkJ,zkJ,hdl,hl,htl];omega
 have hR2z:R2.size=G*2:=by
  rw [hR2];simp only [List.size_toArray,zkJ,List.length_take,List.length_drop,Array.length_toList];omega
 have HR1:=Lib.hid hR1;have HN:=Lib.hid hN;have HG:=Lib.hid hG;have HW1:=Lib.hid hW1;have HOLD:=Lib.hid hAold;clear hUS hR1 hR2 hdl hul hct hct' hl hvz h1 h2 hold hROW hROWL htl hcpA hcpB hRz hR1z hG hN hW1 hAold;have mixed:Tryz.prog.follows Departure.mixedOrders=true:=by kernel_rfl
 have hw1:IntKind.i64.wrap ((i:Int)+1)=(i:Int)+1:=by rw [IntKind.wrap_i64];omega
 have hb1:(0:Int)≤(i:Int)+1:=by omega
 have hin:i≤n:=by omega
 have htn:((i:Int)+1).toNat=i+1:=by omega
 have hb3:(i:Int)≤(n:Int):=by omega
 have hGi:¬ (G=i):=by omega
 have hGim:¬ (G=i+1):=by omega
 have hci:¬ (n=i):=by omega
 go_enter Tryz.func152,Tryz.ntmps152
 go_wp2_with (first
  | (at_builtin;refine Lib.wpList_append_run _ rfl _ _ _ _ rfl _ _ rfl rfl _ _ (hrz _) ?_)
  | (at_builtin;refine zl5 _ rfl _ _ 33 33 rfl _ _ rfl rfl (hA1 _ _) ?_))
 go_region_law_o (refine zpk rfl _ _ 33 33 rfl _ _ (by simp [Act.eval,Act.put]) (by simp [Act.eval,Act.put]) (hB2 _ _ _ _ _ (by omega) (by omega)) ?_)
 go_wp2
 go_ret
 obtain ⟨REST,hREST⟩:=hfin;have hN:=HN.out;refine ⟨_,rfl,⟨hUL,.inr ⟨N,G,R2,rfl,Nat.zero_le _,?_,hGn,hGm,hR2z,?_⟩⟩,⟨?_,?_,?_,?_,fun k hk hkn=>?_⟩,.inr (by rw [← hN];rfl)⟩
 ·exact setRow_heap _ N R1 R2 _ _ hB0
 ·rw [hREST,List.take_append_of_le_length (by omega),List.take_of_length_le (by omega)]
 ·rw [HW1.out];rfl
 ·rw [HW1.out];rfl
 ·rw [HW1.out];rfl
 ·simp [HW1.out]
 ·have hkg:k≠N:=by omega
  rw [setRow_other _ _ _ _ hkg];show (W1.setRow N R1).heap[k]?=_;rw [setRow_other _ _ _ _ hkg,HOLD.out k hk]
theorem zrd {α:Type} {k:Nat}:∀ {es:List (List α)} (i:Nat),(∀ e∈es,e.length=k)→(es.take i).flatten=es.flatten.take (i*k)∧(es.drop i).flatten=es.flatten.drop (i*k)
 | [],i,_=>by simp
 | e::es,0,_=>by simp
 | e::es,i+1,h=>by
  have he:=h e (by simp);obtain ⟨h1,h2⟩:=zrd (es:=es) i fun x hx=>h x (by simp [hx]);have hz:(i+1)*k=e.length+i*k:=by rw [he,Nat.succ_mul,Nat.add_comm]
  constructor
  ·rw [List.take_succ_cons,List.flatten_cons,List.flatten_cons,h1,hz,List.take_append (l₁:=e),List.take_of_length_le (l:=e) (by omega),Nat.add_sub_cancel_left]
  ·rw [List.drop_succ_cons,List.flatten_cons,h2,hz,List.drop_append (l₁:=e),List.drop_of_length_le (l:=e) (by omega),List.nil_append,Nat.add_sub_cancel_left]
def RelW (R:Value→IV→Prop) (us:List Value) (xs:List IV):Prop:=∀ (i:Nat) u x,us[i]?=some u→xs[i]?=some x→R u x
theorem RelW.append {R:Value→IV→Prop} {us vs:List Value} {xs ys:List IV} (hl:us.length=xs.length) (h1:RelW R us xs) (h2:RelW R vs ys):RelW R (us++vs) (xs++ys):=fun i u x hu hx=>by
 rcases Nat.lt_or_ge i us.length with h | h
 ·rw [List.getElem?_append_left h] at hu;rw [List.getElem?_append_left (by omega)] at hx;exact h1 i u x hu hx
 ·rw [List.getElem?_append_right h] at hu;rw [List.getElem?_append_right (by omega),← hl] at hx;exact h2 _ u x hu hx
theorem RelW.take {R:Value→IV→Prop} {us:List Value} {xs:List IV} (k:Nat) (h:RelW R us xs):RelW R (us.take k) (xs.take k):=fun i u x hu hx=>by
 rw [List.getElem?_take] at hu hx;split at hu
 ·rename_i g;rw [if_pos g] at hx;exact h i u x hu hx
 ·cases hu
theorem RelW.drop {R:Value→IV→Prop} {us:List Value} {xs:List IV} (k:Nat) (h:RelW R us xs):RelW R (us.drop k) (xs.drop k):=fun i u x hu hx=>by
 rw [List.getElem?_drop] at hu hx;exact h _ u x hu hx
set_option maxRecDepth 100000 in
theorem sp_of_insert {es:List (List IV)} {e:List IV} {i:Int} (hk:∀ x∈es,x.length=2) (hke:e.length=2) (h0:0≤i) (h1:i≤(↑es.length:Int)) (hn:es.length≤1000000) :
  Sp Tryz.prog 152 [.row 55 2 es,.im (nI i),.row 55 2 [e]] (.row 55 2 (es.take i.toNat++[e]++es.drop i.toNat)):=by
 refine ⟨fun args w=>zga rfl rfl rfl args w,fun w S vs F hS hv hnd hF=>?_⟩
 match vs,hv with
 | [v,vi,va],⟨F1,F2,⟨hv1,inn,hrow,e1⟩,⟨F3,F4,⟨h4,e2⟩,⟨F5,F6,⟨hva1,inn2,hrow2,e5⟩,h6,e6⟩,e3⟩,e4⟩ =>
  have h6:F6=[]:=h6;have e1:F1=(zb2 v).toList:=e1;have e5:F5=(zb2 va).toList:=e5;subst e1 e2 e5 h6;have e6:F4=(zb2 va).toList:=by rw [e6];simp
  subst e6;have e3:F2=(zb2 va).toList:=by rw [e3];simp
  subst e3;subst e4;cases h4;obtain ⟨us,_,_,hlim,hown,hul,hu1,hr⟩:=hrow;obtain ⟨news,_,_,_,hown2,hul2,hu2,hr2⟩:=hrow2;have hlen:([e]:List (List IV)).length=1:=rfl;rw [hlen] at hown2
  have hnl:news.length=2:=by
   rw [hul2];simp [hke]
  obtain ⟨vb,vc,cur2,rfl,_,hvb,hvc,hvm,hvz,hvt⟩:∃ vb vc cur2,va=.slice (some ⟨vb,0,none⟩) 1 vc∧0≤vb∧w.heap[vb]?=some (.cells cur2 55 (0,0))∧1≤vc∧vc≤maxLen∧cur2.size=vc*2∧cur2.toList.take (1*2)=news:=by
   rcases hown2.2 with ⟨_,h⟩ | h
   ·cases h
   ·exact h
  have hbva:zb2 (.slice (some ⟨vb,0,none⟩) 1 vc)=some vb:=rfl;rw [hbva] at hnd hF ⊢;have hvbF:¬ S vb∧vb<w.heap.size:=hF vb (by simp);have hull:us.length=es.length*2:=hown.1;have ei:i=(↑i.toNat:Int):=by omega
  have hcall:Calls Tryz.prog 152 #[v,.int .i64 i,.slice (some ⟨vb,0,none⟩) 1 vc] w (InsPost 55 2 es.length (us.take (i.toNat*2)++news++us.drop (i.toNat*2)) v w):=by
   rw [ei];simp only [Int.toNat_natCast];by_cases hend:i.toNat=es.length
   ·have:=insert_end w v es.length vb vc us news hown (by omega) (fun j u hj=>by
     have hlt:=(zkI.1 hj).1
     simp only [World.cell?,hvb]
     rw [← hvt,List.getElem?_take,if_pos (by omega),Array.getElem?_toList] at hj
     simpa using hj) hu2 hn
    rw [hend,List.take_of_length_le (by omega),List.drop_of_length_le (by omega),List.append_nil];exact this
   ·rcases hown.2 with ⟨_,h⟩ | ⟨g,cap,cur,hv,_,hg,hnc,hcm,hcz,hct⟩
    ·omega
    ·subst hv
     have hne:vb≠g:=fun e=>by
      have:zb2 (.slice (some ⟨g,0,none⟩) es.length cap)=some g:=rfl;rw [this,e] at hnd;simp at hnd
     by_cases hroom:es.length<cap
     ·exact insert_shift w g cap es.length i.toNat vb vc cur cur2 us news hg hcz hct hcm hne hvb hvt hnl hu1 hu2 (by omega) hroom hn
     ·have hc:cap=es.length:=by omega
      subst hc;exact insert_grow w g es.length i.toNat vb vc cur cur2 us news hg hcz hct hvb hvt hnl hu1 hu2 (by omega) hn
  refine hcall.mono ?_;rintro ex w' ⟨v',rfl,ho,hgr,hbl⟩;have hown0:=hown
  have hbv:v.ownBlock=zb2 v:=by
   rcases hown.2 with ⟨rfl,_⟩ | ⟨g,cap,cur,rfl,_⟩<;>rfl
  have hbv':v'.ownBlock=zb2 v':=by
   rcases ho.2 with ⟨rfl,_⟩ | ⟨g,cap,cur,rfl,_⟩<;>rfl
  have hlt:=ho.lt
  have hbk:∀ b∈(zb2 v').toList,(w.heap.size≤b∨b∈(zb2 v).toList)∧b<w'.heap.size:=fun b hb=>by
   have h2:zb2 v'=some b:=by simpa using hb
   refine ⟨?_,?_⟩
   ·rcases hbl with h | h
    ·rw [hbv,hbv',h2] at h;exact .inr (by rw [← h];simp)
    ·rw [hbv',h2] at h;injection h with h
     exact .inl (by omega)
   ·refine (hlt b ?_).2;rw [zmm ho];simpa using hb
  have hbe:Belo (fun b=>b∈(zb2 v).toList++[vb]) w.heap.size w w':=⟨hgr.os,hgr.tape,hgr.output,hgr.size,fun b hb hnb=>hgr.block b hb fun h=>hnb (by
   rw [hbv] at h
   rw [← h]
   simp)⟩
  have hS':∀ b,S b→b<w.heap.size∧b∉(zb2 v).toList∧b≠vb:=fun b hb=>⟨hS b hb,fun hm=>(hF b (by simp [hm])).1 hb,fun e=>hvbF.1 (e ▸ hb)⟩
  have hkeep:∀ u x,RepI w S u x→RepI w' (fun b=>(S b∨w.heap.size≤b∨b∈(zb2 v).toList++[vb])∧b<w'.heap.size∧b∉(zb2 v').toList) u x:=fun u x h=>h.mono (fun b hb=>⟨.inl hb,Nat.lt_of_lt_of_le (hS b hb) hgr.size,fun hm=>by
    rcases (hbk b hm).1 with h2 | h2
    ·have:=hS b hb
     omega
    ·exact (hS' b hb).2.1 h2⟩) fun p y hp hy=>by
   have h6:=hgr.block p.block (hS _ hp) fun h=>(hS' _ hp).2.1 (by
    rw [hbv] at h
    rw [← h]
    simp)
   have h7:w'.cell? p=w.cell? p:=by
    unfold World.cell?;rw [h6]
   rw [h7];exact hy
  have hfl:=zrd (es:=es) (k:=2) i.toNat hk
  have hflat:(es.take i.toNat++[e]++es.drop i.toNat).flatten=es.flatten.take (i.toNat*2)++[e].flatten++es.flatten.drop (i.toNat*2):=by
   rw [List.flatten_append,List.flatten_append,hfl.1,hfl.2]
  have hlen2:(es.take i.toNat++[e]++es.drop i.toNat).length=es.length+1:=by
   rw [zkJ,zkJ,List.length_take,List.length_drop,List.length_singleton];omega
  refine ⟨v',(zb2 v').toList,rfl,hbe,⟨[v'],(zb2 v').toList,[],rfl,⟨(zb2 v').toList,[],⟨row_one ho,[],⟨_,by decide,fun x hx=>?_,by rw [hlen2];omega,by rw [hlen2];exact ho,?_,fun u hu=>?_,?_⟩,rfl⟩,rfl,by simp⟩,rfl,by simp⟩,?_,fun b hb=>⟨?_,(hbk b hb).2⟩⟩
  ·rcases List.mem_append.1 hx with hx | hx
   ·rcases List.mem_append.1 hx with hx | hx
    ·exact hk x (List.mem_of_mem_take hx)
    ·rw [List.mem_singleton.1 hx];exact hke
   ·exact hk x (List.mem_of_mem_drop hx)
  ·rw [hflat];simp only [zkJ,List.length_take,List.length_drop,← hul,← hul2]
  ·rcases List.mem_append.1 hu with hu | hu
   ·rcases List.mem_append.1 hu with hu | hu
    ·exact hu1 u (List.mem_of_mem_take hu)
    ·exact hu2 u hu
   ·exact hu1 u (List.mem_of_mem_drop hu)
  ·rw [hflat];have q1:RelW (RepI w S) us es.flatten:=hr;have q2:RelW (RepI w S) news [e].flatten:=hr2;have:=RelW.append (by simp only [zkJ,List.length_take,← hul,← hul2]) (RelW.append (by simp only [List.length_take,← hul]) (q1.take (i.toNat*2)) q2) (q1.drop (i.toNat*2));exact fun j u x hu hx=>hkeep u x (this j u x hu hx)
  ·cases zb2 v'<;>simp
  ·rcases (hbk b hb).1 with h | h
   ·exact .inl h
   ·exact .inr (by simp [h])
end
section
open Go.RowKit
set_option maxRecDepth 100000
set_option linter.unusedVariables false
set_option maxHeartbeats 4000000
def zp7 {α:Type} (by_:Nat) (l:List α):Option (List α):=chk (zbh l.length by_) (some l)
def zbt (l:List Int):Option (List Int):=zp7 8 l
theorem zbl (l r:List Int) (h:zbt l=some r):Sp Tryz.prog 46 [.im (nL cI l)] (.row 3 1 (List.map cI r)):=by
 obtain ⟨h1,h⟩:=zam h;injection h with h
 subst h;exact zq5 (by_:=8) (fun args w=>zga rfl rfl rfl args w) (by decide) clone_int (fun e he=>by obtain ⟨y,_,rfl⟩:=List.mem_map.1 he;rfl) (by rw [zkK];exact h1)
def zgm (l:List (List Int)):Option (List (List Int)):=zp7 24 l
theorem znw (l r:List (List Int)) (h:zgm l=some r):Sp Tryz.prog 137 [.im (nL (cL cI) l)] (.row 25 1 (List.map (cL cI) r)):=by
 obtain ⟨h1,h⟩:=zam h;injection h with h
 subst h;exact zq5 (by_:=24) (fun args w=>zga rfl rfl rfl args w) (by decide) clone_words (fun e he=>by obtain ⟨y,_,rfl⟩:=List.mem_map.1 he;rfl) (by rw [zkK];exact h1)
def zgh (l:List (List Int)) (f:(List Int)→(List Int)→Option Int):Option (List (List Int)):=libSort l f
theorem zkx (l:List (List Int)) (f:(List Int)→(List Int)→Option Int) (g:FuncId) (hd:CmpE Tryz.prog g (fun x=>nL cI x) f) (r:List (List Int)) (h:zgh l f=some r):Sp Tryz.prog 138 [.lent (.row 25 1 (List.map (cL cI) l)),.im (.fn g [])] (.mk true [] [.lent (.row 25 1 (List.map (cL cI) r))]) :=
 sp_of_sort (fun args w=>zga rfl rfl rfl args w) sortC_words (by decide) (fun _=>rfl) (fun W S us x hl h1 hr=>rep_of_one hl hr) hd.1 hd.2 h
def zgw (l:List zab) (i:Int) (v:List zab):Option (List zab):=chk (0≤i∧i≤(↑l.length:Int)∧v.length=1∧l.length≤1000000) (some (l.take i.toNat++v++l.drop i.toNat))
theorem zll (l:List zab) (i:Int) (v:List zab) (r:List zab) (h:zgw l i v=some r):Sp Tryz.prog 152 [.row 55 2 (List.map zac l),.im (nI i),.row 55 2 (List.map zac v)] (.row 55 2 (List.map zac r)):=by
 obtain ⟨h1,h⟩:=zam h;injection h with h
 subst h
 match v,h1 with
 | [x],h1 =>
  have:=sp_of_insert (es:=l.map zac) (e:=zac x) (i:=i) (fun e he=>by obtain ⟨y,_,rfl⟩:=List.mem_map.1 he;rfl) rfl h1.1 (by rw [zkK];exact h1.2.1) (by rw [zkK];exact h1.2.2.2);simpa [List.map_append,List.map_take,List.map_drop] using this
end
section
open Go.RowKit
set_option maxRecDepth 100000
set_option linter.unusedVariables false
set_option maxHeartbeats 4000000
def zhy.s2 (m_:zaa) (s_:Int) (a174:Nat):Option (Nat⊕(Unit⊕Int)) :=
 cond (decide ((↑a174:Int)<m_.Inputs)) ((idx m_.Next s_ fun e219=>idxn e219 a174 fun e220=>cond (decide (e220<0)) (some true) (idx m_.Next s_ fun e222=>idxn e222 a174 fun e223=>cond (decide ((↑(List.length m_.Next):Int)≤e223)) (some true) (idx m_.Out s_ fun e225=>idxn e225 a174 fun e226=>cond (decide (e226<0)) (some true) (idx m_.Out s_ fun e228=>idxn e228 a174 fun e229=>some (decide (1048576<e229))))):Option (Bool)).bind (fun (y218:Bool)=>cond (y218) (some (.inr (.inr 2))) (chk (inR ((↑a174:Int)+1)) (some (.inl (a174+1)))))) (some (.inr (.inl ())))
def zhy (m_:zaa) (s_:Int):Option (Int) :=
 (idx m_.Next s_ fun e57=>cond (decide ((↑(List.length e57):Int)≠m_.Inputs)) (some true) (idx m_.Out s_ fun e59=>some (decide ((↑(List.length e59):Int)≠m_.Inputs))):Option (Bool)).bind (fun (y56:Bool)=>cond (y56) (some 1) ((iter (fun (s:Nat)=>zhy.s2 m_ s_ s) fuel 0:Option (Unit⊕Int)).bind (Sum.elim (fun (_:Unit)=>some 0) some)))
def zex.s2 (m_:zaa) (s81:Nat):Option (Nat⊕(Unit⊕Int)) :=
 cond (decide ((↑s81:Int)<(↑(List.length m_.Next):Int))) ((zhy m_ (↑s81:Int)).bind fun c87=>cond (decide (c87≠0)) (some (.inr (.inr c87))) (some (.inl (s81+1)))) (some (.inr (.inl ())))
def zex (m_:zaa):Option (Int) :=
 (cond (decide (m_.Inputs<1)) (some true) (some (decide (64<m_.Inputs))):Option (Bool)).bind (fun (y54:Bool)=>cond (y54) (some 2) (cond (decide ((↑(List.length m_.Next):Int)=0)) (some 19) (cond (decide (128<(↑(List.length m_.Next):Int))) (some 11) ((cond (decide (m_.Start<0)) (some true) (some (decide ((↑(List.length m_.Next):Int)≤m_.Start))):Option (Bool)).bind (fun (y62:Bool)=>cond (y62) (some 2) (cond (decide ((↑(List.length m_.Out):Int)≠(↑(List.length m_.Next):Int))) (some 1) ((iter (fun (s:Nat)=>zex.s2 m_ s) fuel 0:Option (Unit⊕Int)).bind (Sum.elim (fun (_:Unit)=>some 0) some))))))))
def zd6.s2 (a_:List Int) (b_:List Int) (i73:Nat):Option (Nat⊕(Unit⊕Bool)) :=
 cond (decide ((↑i73:Int)<(↑(List.length a_):Int))) (idxn a_ i73 fun e80=>idxn b_ i73 fun e81=>cond (decide (e80≠e81)) (some (.inr (.inr false))) (some (.inl (i73+1)))) (some (.inr (.inl ())))
def zd6 (a_:List Int) (b_:List Int):Option (Bool) :=
 cond (decide ((↑(List.length a_):Int)≠(↑(List.length b_):Int))) (some false) ((iter (fun (s:Nat)=>zd6.s2 a_ b_ s) fuel 0:Option (Unit⊕Bool)).bind (Sum.elim (fun (_:Unit)=>some true) some))
def zhe.s2 (a_:List (List Int)) (b_:List (List Int)) (i77:Nat):Option (Nat⊕(Unit⊕Bool)) :=
 cond (decide ((↑i77:Int)<(↑(List.length a_):Int))) (idxn a_ i77 fun e85=>idxn b_ i77 fun e86=>(zd6 e85 e86).bind fun c87=>cond ((!c87)) (some (.inr (.inr false))) (some (.inl (i77+1)))) (some (.inr (.inl ())))
def zhe (a_:List (List Int)) (b_:List (List Int)):Option (Bool) :=
 cond (decide ((↑(List.length a_):Int)≠(↑(List.length b_):Int))) (some false) ((iter (fun (s:Nat)=>zhe.s2 a_ b_ s) fuel 0:Option (Unit⊕Bool)).bind (Sum.elim (fun (_:Unit)=>some true) some))
def zng:Option (zaa) :=
 some (⟨2,0,[[1,0],[1,0]],[[1,0],[1,2]]⟩:zaa)
def zdv.s2 (ids_:List (List (List Int))) (n65:Int) (y66:Nat):Option ((Int×Nat)⊕Int) :=
 cond (decide ((↑y66:Int)<(↑(List.length ids_):Int))) (idxn ids_ y66 fun e71=>some (.inl ((max n65 (↑(List.length e71):Int)),(y66+1)))) (some (.inr n65))
def zdv (ids_:List (List (List Int))):Option (Int) :=
 (iter (fun (s:Int×Nat)=>zdv.s2 ids_ s.1 s.2) fuel (1,0):Option (Int)).bind (fun (n62:Int)=>some n62)
def zaz.s2 (slices_:List (List Int)) (size73:Nat) (y74:Nat):Option ((Nat×Nat)⊕Nat) :=
 cond (decide ((↑y74:Int)<(↑(List.length slices_):Int))) (idxn slices_ y74 fun e81=>chk (inR ((↑size73:Int)+(↑(List.length e81):Int))) (cond (decide (((↑size73:Int)+(↑(List.length e81):Int))<0)) (none) (some (.inl ((size73+(List.length e81)),(y74+1)))))) (some (.inr size73))
def zaz.s4 (slices_:List (List Int)) (y106:List Int) (y107:Nat):Option ((List Int×Nat)⊕List Int) :=
 cond (decide ((↑y107:Int)<(↑(List.length slices_):Int))) (idxn slices_ y107 fun e113=>chk (zbh (List.length y106+List.length e113) 8) (some (.inl ((y106++e113),(y107+1))))) (some (.inr y106))
def zaz (slices_:List (List Int)):Option (List Int) :=
 (iter (fun (s:Nat×Nat)=>zaz.s2 slices_ s.1 s.2) fuel (0,0):Option (Nat)).bind (fun (size68:Nat)=>(zkk (↑size68:Int)).bind fun c86=>(iter (fun (s:List Int×Nat)=>zaz.s4 slices_ s.1 s.2) fuel (c86,0):Option (List Int)).bind (fun (y102:List Int)=>some y102))
def ze0 (parts_:List (List Int)):Option (List Int) :=
 (zaz parts_).bind fun c51=>some c51
def zbc.s2 (s_:List Int) (f_:Int→Option Bool) (y71:Nat):Option (Nat⊕(Unit⊕Int)) :=
 cond (decide ((↑y71:Int)<(↑(List.length s_):Int))) (idxn s_ y71 fun e78=>(f_ e78).bind fun c79=>cond (c79) (some (.inr (.inr (↑y71:Int)))) (some (.inl (y71+1)))) (some (.inr (.inl ())))
def zbc (s_:List Int) (f_:Int→Option Bool):Option (Int) :=
 (iter (fun (s:Nat)=>zbc.s2 s_ f_ s) fuel 0:Option (Unit⊕Int)).bind (Sum.elim (fun (_:Unit)=>some (-1:Int)) some)
def zb4 (s_:List Int) (f_:Int→Option Bool):Option (Bool) :=
 (zbc s_ f_).bind fun c51=>some (decide (0≤c51))
def zfo (inputs_:Int):Option (Bool) :=
 (cond (decide (1≤inputs_)) (some (decide (inputs_≤1024))) (some false):Option (Bool)).bind (fun (y54:Bool)=>some y54)
def zf8 (a_:Int) (p1_:Int):Option (Bool) :=
 (cond (decide (a_<0)) (some true) (some (decide (p1_≤a_))):Option (Bool)).bind (fun (y54:Bool)=>some y54)
def za2.s2 (s_:List Int) (f_:Int→Option Bool) (y71:Nat):Option (Nat⊕(Unit⊕Int)) :=
 cond (decide ((↑y71:Int)<(↑(List.length s_):Int))) (idxn s_ y71 fun e78=>(f_ e78).bind fun c79=>cond (c79) (some (.inr (.inr (↑y71:Int)))) (some (.inl (y71+1)))) (some (.inr (.inl ())))
def za2 (s_:List Int) (f_:Int→Option Bool):Option (Int) :=
 (iter (fun (s:Nat)=>za2.s2 s_ f_ s) fuel 0:Option (Unit⊕Int)).bind (Sum.elim (fun (_:Unit)=>some (-1:Int)) some)
def zct (s_:List Int) (f_:Int→Option Bool):Option (Bool) :=
 (za2 s_ f_).bind fun c51=>some (decide (0≤c51))
def zeh (w_:List Int) (inputs_:Int):Option (Int) :=
 (zfo inputs_).bind fun c51=>cond ((!c51)) (some 2) (cond (decide (1024<(↑(List.length w_):Int))) (some 3) ((zct w_ (fun u0=>zf8 u0 inputs_)).bind fun c54=>cond (c54) (some 1) (some 0)))
def ze6 (m_:zdf) (s_:Int) (a_:Int):Option (Int×Int) :=
 idx m_.Mealy.Next s_ fun e51=>idx e51 a_ fun e52=>idx m_.Mealy.Out s_ fun e53=>idx e53 a_ fun e54=>some (e52,e54)
def zbs.s2 (r_:zcn) (w_:List Int) (y76:Int) (y77:List Int) (y78:Nat):Option ((Int×List Int×Nat)⊕(Int×List Int)) :=
 cond (decide ((↑y78:Int)<(↑(List.length w_):Int))) (idxn w_ y78 fun e85=>(ze6 r_.machine y76 e85).bind fun c86=>chk (zbh (List.length y77+1) 8) (some (.inl (c86.1,(y77++[c86.2]),(y78+1))))) (some (.inr (y76,y77)))
def zbs.k3 (r_:zcn) (y71:Int) (y72:List Int):Option (List Int×zcn) :=
 some (y72,(⟨r_.machine,y71⟩:zcn))
def zbs (r_:zcn) (w_:List Int):Option (List Int×zcn) :=
 (iter (fun (s:Int×List Int×Nat)=>zbs.s2 r_ w_ s.1 s.2.1 s.2.2) fuel (r_.at_,[],0):Option (Int×List Int)).bind (fun (s:Int×List Int)=>zbs.k3 r_ s.1 s.2)
def za4.s13 (m_:zaa) (y509:Nat) (y697:Nat):Option (Nat⊕(Unit⊕(Nat⊕(Unit⊕Int)))) :=
 cond (decide ((↑y697:Int)<m_.Inputs)) (idxn m_.Next y509 fun e716=>idxn e716 y697 fun e717=>idxn m_.Out y509 fun e718=>idxn e718 y697 fun e719=>(cond (decide (e717<0)) (some true) (cond (decide ((↑(List.length m_.Next):Int)≤e717)) (some true) (cond (decide (e719<0)) (some true) (some (decide (1048576<e719))))):Option (Bool)).bind (fun (y725:Bool)=>cond (y725) (some (.inr (.inr (.inr (.inr 2))))) (chk (inR ((↑y697:Int)+1)) (some (.inl (y697+1)))))) (some (.inr (.inl ())))
def za4.s14 (m_:zaa) (y509:Nat):Option (Nat⊕(Unit⊕Int)) :=
 cond (decide ((↑y509:Int)<(↑(List.length m_.Next):Int))) ((idxn m_.Next y509 fun e628=>cond (decide ((↑(List.length e628):Int)≠m_.Inputs)) (some true) (idxn m_.Out y509 fun e630=>some (decide ((↑(List.length e630):Int)≠m_.Inputs))):Option (Bool)).bind (fun (y627:Bool)=>cond (y627) (some (.inr (.inr 1))) ((iter (fun (s:Nat)=>za4.s13 m_ y509 s) fuel 0:Option (Unit⊕(Nat⊕(Unit⊕Int)))).bind (Sum.elim (fun (_:Unit)=>some (.inl (y509+1))) some)))) (some (.inr (.inl ())))
def za4 (m_:zaa):Option (Int) :=
 (cond (decide (m_.Inputs<1)) (some true) (some (decide (64<m_.Inputs))):Option (Bool)).bind (fun (y54:Bool)=>cond (y54) (some 2) (cond (decide ((↑(List.length m_.Next):Int)=0)) (some 19) (cond (decide (128<(↑(List.length m_.Next):Int))) (some 11) ((cond (decide (m_.Start<0)) (some true) (some (decide ((↑(List.length m_.Next):Int)≤m_.Start))):Option (Bool)).bind (fun (y62:Bool)=>cond (y62) (some 2) (cond (decide ((↑(List.length m_.Out):Int)≠(↑(List.length m_.Next):Int))) (some 1) ((iter (fun (s:Nat)=>za4.s14 m_ s) fuel 0:Option (Unit⊕Int)).bind (Sum.elim (fun (_:Unit)=>some 0) some))))))))
def zjz (m_:zaa) (s_:Int):Option (Int) :=
 (za4 m_).bind fun c51=>cond (decide (c51≠0)) (some c51) ((cond (decide (s_<0)) (some true) (some (decide ((↑(List.length m_.Next):Int)≤s_))):Option (Bool)).bind (fun (y56:Bool)=>cond (y56) (some 2) (some 0)))
def zhw (m_:zaa) (s_:Int) (w_:List Int):Option (List Int×Int×Int) :=
 (zjz m_ s_).bind fun c51=>cond (decide (c51≠0)) (some ([],0,c51)) ((zeh w_ m_.Inputs).bind fun c53=>cond (decide (c53≠0)) (some ([],0,c53)) ((zbs (⟨(⟨m_⟩:zdf),s_⟩:zcn) w_).bind fun c55=>some (c55.1,c55.2.at_,0)))
def zcr.s2 (u_:List Int) (tails_:List (List Int)) (y73:List (List Int)) (y74:Nat):Option ((List (List Int)×Nat)⊕List (List Int)) :=
 cond (decide ((↑y74:Int)<(↑(List.length tails_):Int))) (idxn tails_ y74 fun e81=>(ze0 [u_,e81]).bind fun c82=>chk (zbh (List.length y73+1) 24) (some (.inl ((y73++[c82]),(y74+1))))) (some (.inr y73))
def zcr (u_:List Int) (tails_:List (List Int)):Option (List (List Int)) :=
 (iter (fun (s:List (List Int)×Nat)=>zcr.s2 u_ tails_ s.1 s.2) fuel ([],0):Option (List (List Int))).bind (fun (y69:List (List Int))=>some y69)
def zhk (m_:zaa) (ids_:List (List (List Int))) (w_:List Int):Option (List (List Int)×Int) :=
 (zhw m_ m_.Start w_).bind fun c51=>cond (decide (c51.2.2≠0)) (some ([],c51.2.2)) (cond (decide ((↑(List.length ids_):Int)≠(↑(List.length m_.Next):Int))) (some ([],1)) (idx ids_ c51.2.1 fun e54=>cond (decide ((↑(List.length e54):Int)=0)) (some ([[]],0)) (idx ids_ c51.2.1 fun e56=>(zcr [] e56).bind fun c57=>some (c57,0))))
def zef (a_:List Int) (b_:List Int) (p2_:(List Int)→(List Int)→Option Int):Option (Bool) :=
 (p2_ a_ b_).bind fun c51=>some (decide (c51=0))
def zag.s18 (eq_:(List Int)→(List Int)→Option Bool) (k356:Nat) (y481:List (List Int)) (k482:Nat) (y483:Nat):Option ((List (List Int)×Nat×Nat)⊕(List (List Int)×Nat)) :=
 cond (decide ((↑y483:Int)<(↑(List.length y481-k356):Int))) (idxn y481 (k356+y483) fun e495=>chk ((0:Int)≤((↑y483:Int)-1)) (idxn y481 (k356+(Int.toNat ((↑y483:Int)-1))) fun e496=>(eq_ e495 e496).bind fun c498=>cond ((!c498)) (idxn y481 (k356+y483) fun e500=>idxn y481 k482 fun e501=>chk (inR ((↑k482:Int)+1)) (some (.inl ((List.set y481 k482 e500),(k482+1),(y483+1))))) (some (.inl (y481,k482,(y483+1)))))) (some (.inr (y481,k482)))
def zag.k19 (y471:List (List Int)) (k472:Nat):Option (Nat⊕(Unit⊕List (List Int))) :=
 chk ((0:Int)≤(↑k472:Int)∧(↑k472:Int)≤(↑(List.length y471):Int)∧0<List.length y471) (chk (k472≤List.length y471) (chk ((0:Int)≤(↑k472:Int)∧(↑k472:Int)≤(↑(List.length (List.take k472 y471++List.replicate (List.length y471-k472) [])):Int)∧0<List.length (List.take k472 y471++List.replicate (List.length y471-k472) [])) (some (.inr (.inr (List.take k472 (List.take k472 y471++List.replicate (List.length y471-k472) [])))))))
def zag.s20 (s_:List (List Int)) (eq_:(List Int)→(List Int)→Option Bool) (k356:Nat):Option (Nat⊕(Unit⊕List (List Int))) :=
 cond (decide ((↑k356:Int)<(↑(List.length s_):Int))) (idxn s_ k356 fun e434=>idx s_ ((↑k356:Int)-1) fun e435=>(eq_ e434 e435).bind fun c436=>cond (c436) (chk ((0:Int)≤(↑k356:Int)∧(↑k356:Int)≤(↑(List.length s_):Int)∧0<List.length s_) ((iter (fun (s:List (List Int)×Nat×Nat)=>zag.s18 eq_ k356 s.1 s.2.1 s.2.2) fuel (s_,k356,1):Option (List (List Int)×Nat)).bind (fun (s:List (List Int)×Nat)=>zag.k19 s.1 s.2))) (some (.inl (k356+1)))) (some (.inr (.inl ())))
def zag (s_:List (List Int)) (eq_:(List Int)→(List Int)→Option Bool):Option (List (List Int)) :=
 cond (decide ((↑(List.length s_):Int)<2)) (some s_) ((iter (fun (s:Nat)=>zag.s20 s_ eq_ s) fuel 1:Option (Unit⊕List (List Int))).bind (Sum.elim (fun (_:Unit)=>some s_) some))
def zci.s2 (c53:List (List Int)) (y78:List (List Int)) (y79:Nat):Option ((List (List Int)×Nat)⊕List (List Int)) :=
 cond (decide ((↑y79:Int)<(↑(List.length c53):Int))) (idxn y78 y79 fun e87=>(zbt e87).bind fun c88=>idxn y78 y79 fun e89=>chk (inR ((↑y79:Int)+1)) (some (.inl ((List.set y78 y79 c88),(y79+1))))) (some (.inr y78))
def zci (l_:List (List Int)) (order_:(List Int)→(List Int)→Option Int):Option (List (List Int)) :=
 (zgm l_).bind fun c51=>(zgh c51 order_).bind fun c52=>(zag c52 (fun u0 u1=>zef u0 u1 order_)).bind fun c53=>(iter (fun (s:List (List Int)×Nat)=>zci.s2 c53 s.1 s.2) fuel (c53,0):Option (List (List Int))).bind (fun (y73:List (List Int))=>some y73)
def zc8.s2 (a_:List Int) (b_:List Int) (y72:Nat):Option (Nat⊕(Unit⊕Int)) :=
 cond (decide ((↑y72:Int)<(min (↑(List.length a_):Int) (↑(List.length b_):Int)))) (idxn a_ y72 fun e79=>idxn b_ y72 fun e80=>cond (decide (e79≠e80)) (some (.inr (.inr (↑y72:Int)))) (some (.inl (y72+1)))) (some (.inr (.inl ())))
def zc8 (a_:List Int) (b_:List Int):Option (Int) :=
 (iter (fun (s:Nat)=>zc8.s2 a_ b_ s) fuel 0:Option (Unit⊕Int)).bind (Sum.elim (fun (_:Unit)=>some (min (↑(List.length a_):Int) (↑(List.length b_):Int))) some)
def zdo (w_:List Int) (p_:List Int):Option (Bool) :=
 (zc8 w_ p_).bind fun c51=>some (decide (c51=(↑(List.length p_):Int)))
def cmp_isNaN_int (x_:Int):Option (Bool) :=
 some (decide (x_≠x_))
def cmp_Compare_int (x_:Int) (y_:Int):Option (Int) :=
 (cmp_isNaN_int x_).bind fun c51=>(cmp_isNaN_int y_).bind fun c52=>cond (c51) (cond (c52) (some 0) (some (-1:Int))) (cond (c52) (some 1) (cond (decide (x_<y_)) (some (-1:Int)) (cond (decide (y_<x_)) (some 1) (some 0))))
def zbd.s2 (s1_:List Int) (s2_:List Int) (y80:Nat):Option (Nat⊕(Unit⊕Int)) :=
 cond (decide ((↑y80:Int)<(↑(List.length s1_):Int))) (idxn s1_ y80 fun e89=>cond (decide ((↑(List.length s2_):Int)≤(↑y80:Int))) (some (.inr (.inr 1))) (idxn s2_ y80 fun e91=>(cmp_Compare_int e89 e91).bind fun c92=>cond (decide (c92≠0)) (some (.inr (.inr c92))) (some (.inl (y80+1))))) (some (.inr (.inl ())))
def zbd (s1_:List Int) (s2_:List Int):Option (Int) :=
 (iter (fun (s:Nat)=>zbd.s2 s1_ s2_ s) fuel 0:Option (Unit⊕Int)).bind (Sum.elim (fun (_:Unit)=>cond (decide ((↑(List.length s1_):Int)<(↑(List.length s2_):Int))) (some (-1:Int)) (some 0)) some)
def zds.s2 (vals_:List Int) (y67:Nat):Option (Nat⊕(Unit⊕Int)) :=
 cond (decide ((↑y67:Int)<(↑(List.length vals_):Int))) (idxn vals_ y67 fun e73=>cond (decide (e73≠0)) (some (.inr (.inr e73))) (some (.inl (y67+1)))) (some (.inr (.inl ())))
def zds (vals_:List Int):Option (Int) :=
 (iter (fun (s:Nat)=>zds.s2 vals_ s) fuel 0:Option (Unit⊕Int)).bind (Sum.elim (fun (_:Unit)=>some 0) some)
def zeb (a_:List Int) (b_:List Int):Option (Int) :=
 (cmp_Compare_int (↑(List.length a_):Int) (↑(List.length b_):Int)).bind fun c51=>(zbd a_ b_).bind fun c52=>(zds [c51,c52]).bind fun c53=>some c53
def ze2 (l_:List (List Int)):Option (List (List Int)) :=
 (zci l_ (fun u0 u1=>zeb u0 u1)).bind fun c51=>some c51
def zio (a_:List Int) (b_:List Int):Option (Int) :=
 (zbd a_ b_).bind fun c51=>some c51
def zb7.s2 (c51:List (List Int)) (y119:List (List Int)) (y120:Nat):Option ((List (List Int)×Nat)⊕List (List Int)) :=
 cond (decide ((↑y120:Int)<(↑(List.length c51):Int))) (idxn c51 y120 fun e139=>(cond (decide (((↑y120:Int)+1)=(↑(List.length c51):Int))) (some true) (idxn c51 (y120+1) fun e147=>(zdo e147 e139).bind fun c148=>some (!c148)):Option (Bool)).bind (fun (y145:Bool)=>cond (y145) (chk (zbh (List.length y119+1) 24) (some (.inl ((y119++[e139]),(y120+1))))) (some (.inl (y119,(y120+1)))))) (some (.inr y119))
def zb7 (l_:List (List Int)):Option (List (List Int)) :=
 (zci l_ (fun u0 u1=>zio u0 u1)).bind fun c51=>(iter (fun (s:List (List Int)×Nat)=>zb7.s2 c51 s.1 s.2) fuel ([],0):Option (List (List Int))).bind (fun (y104:List (List Int))=>(ze2 y104).bind fun c157=>some c157)
def zbw.s18 (e359:List Int) (y394:List Bool) (y395:List Int) (y396:Nat):Option ((List Bool×List Int×Nat)⊕(List Bool×List Int)) :=
 cond (decide ((↑y396:Int)<(↑(List.length e359):Int))) (idxn e359 y396 fun e405=>idx y394 e405 fun e406=>cond ((!e406)) (idx y394 e405 fun e408=>chk (zbh (List.length y395+1) 8) (some (.inl ((List.set y394 e405.toNat true),(y395++[e405]),(y396+1))))) (some (.inl (y394,y395,(y396+1))))) (some (.inr (y394,y395)))
def zbw.k19 (i297:Nat) (y386:List Bool) (y387:List Int):Option ((List Bool×List Int×Nat)⊕List Int) :=
 some (.inl (y386,y387,(i297+1)))
def zbw.s20 (m_:zaa) (y295:List Bool) (y296:List Int) (i297:Nat):Option ((List Bool×List Int×Nat)⊕List Int) :=
 cond (decide ((↑i297:Int)<(↑(List.length y296):Int))) (idxn y296 i297 fun e358=>idx m_.Next e358 fun e359=>(iter (fun (s:List Bool×List Int×Nat)=>zbw.s18 e359 s.1 s.2.1 s.2.2) fuel (y295,y296,0):Option (List Bool×List Int)).bind (fun (s:List Bool×List Int)=>zbw.k19 i297 s.1 s.2)) (some (.inr y296))
def zbw (m_:zaa):Option (List Int) :=
 (za4 m_).bind fun c51=>cond (decide (c51≠0)) (some []) (chk ((0:Int)≤(↑(List.length m_.Next):Int)∧(↑(List.length m_.Next):Int)≤(↑(List.length m_.Next):Int)∧zbh (Int.toNat (↑(List.length m_.Next):Int)) 1) (idx (List.replicate (List.length m_.Next) false) m_.Start fun e54=>(iter (fun (s:List Bool×List Int×Nat)=>zbw.s20 m_ s.1 s.2.1 s.2.2) fuel ((List.set (List.replicate (List.length m_.Next) false) m_.Start.toNat true),[m_.Start],0):Option (List Int)).bind (fun (y236:List Int)=>some y236)))
def zbn.s2 (c53:List Int) (y74:List Int) (y75:Nat):Option ((List Int×Nat)⊕List Int) :=
 cond (decide ((↑y75:Int)<(↑(List.length c53):Int))) (idxn c53 y75 fun e81=>idx y74 e81 fun e82=>some (.inl ((List.set y74 e81.toNat (↑y75:Int)),(y75+1)))) (some (.inr y74))
def zbn.s15 (y70:List Int) (e374:List Int) (y402:List Int) (y403:Nat):Option ((List Int×Nat)⊕List Int) :=
 cond (decide ((↑y403:Int)<(↑(List.length e374):Int))) (idxn e374 y403 fun e410=>idx y70 e410 fun e411=>idxn y402 y403 fun e412=>some (.inl ((List.set y402 y403 e411),(y403+1)))) (some (.inr y402))
def zbn.s16 (m_:zaa) (c53:List Int) (y70:List Int) (y310:List (List Int)) (y311:List (List Int)) (y312:Nat):Option ((List (List Int)×List (List Int)×Nat)⊕(List (List Int)×List (List Int))) :=
 cond (decide ((↑y312:Int)<(↑(List.length c53):Int))) (idxn c53 y312 fun e372=>chk ((0:Int)≤m_.Inputs∧m_.Inputs≤m_.Inputs∧zbh (Int.toNat m_.Inputs) 8) (idx m_.Next e372 fun e374=>(iter (fun (s:List Int×Nat)=>zbn.s15 y70 e374 s.1 s.2) fuel ((List.replicate (Int.toNat m_.Inputs) 0),0):Option (List Int)).bind (fun (y397:List Int)=>chk (zbh (List.length y310+1) 24) (idx m_.Out e372 fun e425=>(zbt e425).bind fun c426=>chk (zbh (List.length y311+1) 24) (some (.inl ((y310++[y397]),(y311++[c426]),(y312+1)))))))) (some (.inr (y310,y311)))
def zbn.k17 (m_:zaa) (y259:List (List Int)) (y260:List (List Int)):Option (zaa×Int) :=
 some ((⟨m_.Inputs,0,y259,y260⟩:zaa),0)
def zbn (m_:zaa):Option (zaa×Int) :=
 (za4 m_).bind fun c51=>cond (decide (c51≠0)) (some ((⟨0,0,[],[]⟩:zaa),c51)) ((zbw m_).bind fun c53=>chk ((0:Int)≤(↑(List.length m_.Next):Int)∧(↑(List.length m_.Next):Int)≤(↑(List.length m_.Next):Int)∧zbh (Int.toNat (↑(List.length m_.Next):Int)) 8) ((iter (fun (s:List Int×Nat)=>zbn.s2 c53 s.1 s.2) fuel ((List.replicate (List.length m_.Next) 0),0):Option (List Int)).bind (fun (y70:List Int)=>(iter (fun (s:List (List Int)×List (List Int)×Nat)=>zbn.s16 m_ c53 y70 s.1 s.2.1 s.2.2) fuel ([],[],0):Option (List (List Int)×List (List Int))).bind (fun (s:List (List Int)×List (List Int))=>zbn.k17 m_ s.1 s.2))))
def za6.s18 (m_:zaa) (class_:List Int) (y467:Nat) (y623:List Int) (y624:Nat):Option ((List Int×Nat)⊕List Int) :=
 cond (decide ((↑y624:Int)<m_.Inputs)) (idxn m_.Out y467 fun e639=>idxn e639 y624 fun e640=>chk ((↑y624:Int)<128) (idxn y623 y624 fun e641=>chk (inR (64+(↑y624:Int))) (idxn m_.Next y467 fun e644=>idxn e644 y624 fun e645=>idx class_ e645 fun e646=>chk ((64+(↑y624:Int))<128) (idxn (List.set y623 y624 e640) (64+y624) fun e647=>chk (inR ((↑y624:Int)+1)) (some (.inl ((List.set (List.set y623 y624 e640) (64+y624) e646),(y624+1)))))))) (some (.inr y623))
def za6.k19 (y466:List Int) (y467:Nat) (y663:List (List Int×Int)) (n664:Int):Option (((List (List Int×Int))×List Int×Nat)⊕((List (List Int×Int))×List Int)) :=
 idxn y466 y467 fun e670=>some (.inl (y663,(List.set y466 y467 n664),(y467+1)))
def za6.s20 (m_:zaa) (class_:List Int) (y465:List (List Int×Int)) (y466:List Int) (y467:Nat):Option (((List (List Int×Int))×List Int×Nat)⊕((List (List Int×Int))×List Int)) :=
 cond (decide ((↑y467:Int)<(↑(List.length class_):Int))) ((iter (fun (s:List Int×Nat)=>za6.s18 m_ class_ y467 s.1 s.2) fuel ((List.replicate 128 0),0):Option (List Int)).bind (fun (y612:List Int)=>chk (List.length y612=128) (chk (List.length y612=128∧∀ p∈y465,List.length p.1=128) ((cond ((!((mget y612 y465).isSome))) (chk (List.length y612=128) (chk (List.length y612=128∧∀ p∈y465,List.length p.1=128) (some ((mset y612 (↑(List.length y465):Int) y465),(↑(List.length y465):Int))))) (some (y465,((mget y612 y465).getD 0))):Option ((List (List Int×Int))×Int)).bind (fun (s:(List (List Int×Int))×Int)=>za6.k19 y466 y467 s.1 s.2))))) (some (.inr (y465,y466)))
def za6.k21 (y362:List (List Int×Int)) (y363:List Int):Option (List Int×Int) :=
 some (y363,(↑(List.length y362):Int))
def za6 (m_:zaa) (class_:List Int):Option (List Int×Int) :=
 chk ((0:Int)≤(↑(List.length class_):Int)∧(↑(List.length class_):Int)≤(↑(List.length class_):Int)∧zbh (Int.toNat (↑(List.length class_):Int)) 8) ((iter (fun (s:(List (List Int×Int))×List Int×Nat)=>za6.s20 m_ class_ s.1 s.2.1 s.2.2) fuel (([]:List (List Int×Int)),(List.replicate (List.length class_) 0),0):Option ((List (List Int×Int))×List Int)).bind (fun (s:(List (List Int×Int))×List Int)=>za6.k21 s.1 s.2))
def zcj.s2 (m_:zaa) (k_:Int) (class71:List Int) (n72:Int) (y73:Nat):Option ((List Int×Int×Nat)⊕(List Int⊕(List Int×Int))) :=
 cond (decide ((↑y73:Int)<(min (max k_ 0) (↑(List.length m_.Next):Int)))) ((za6 m_ class71).bind fun c79=>cond (decide (c79.2=n72)) (some (.inr (.inr (class71,(↑y73:Int))))) (some (.inl (c79.1,c79.2,(y73+1))))) (some (.inr (.inl class71)))
def zcj (m_:zaa) (k_:Int):Option (List Int×Int) :=
 chk ((0:Int)≤(↑(List.length m_.Next):Int)∧(↑(List.length m_.Next):Int)≤(↑(List.length m_.Next):Int)∧zbh (Int.toNat (↑(List.length m_.Next):Int)) 8) ((iter (fun (s:List Int×Int×Nat)=>zcj.s2 m_ k_ s.1 s.2.1 s.2.2) fuel ((List.replicate (List.length m_.Next) 0),1,0):Option (List Int⊕(List Int×Int))).bind (Sum.elim (fun (class67:List Int)=>some (class67,(min (max k_ 0) (↑(List.length m_.Next):Int)))) some))
def ze7 (m_:zaa) (k_:Int):Option (List Int×Int) :=
 (za4 m_).bind fun c51=>cond (decide (c51≠0)) (some ([],c51)) ((zcj m_ k_).bind fun c53=>some (c53.1,0))
def zez (m_:zaa):Option (List Int×Int) :=
 (ze7 m_ 128).bind fun c51=>some (c51.1,c51.2)
def za0.s30 (c53:List Int×Int) (e717:List Int) (y744:List Int) (y745:Nat):Option ((List Int×Nat)⊕List Int) :=
 cond (decide ((↑y745:Int)<(↑(List.length e717):Int))) (idxn e717 y745 fun e752=>idx c53.1 e752 fun e753=>chk (zbh (List.length y744+1) 8) (some (.inl ((y744++[e753]),(y745+1))))) (some (.inr y744))
def za0.k31 (y529:Nat) (y713:List (List Int)) (y714:List (List Int)):Option ((List (List Int)×List (List Int)×Nat)⊕(List (List Int)×List (List Int))) :=
 some (.inl (y713,y714,(y529+1)))
def za0.s32 (c51:zaa×Int) (c53:List Int×Int) (y527:List (List Int)) (y528:List (List Int)) (y529:Nat):Option ((List (List Int)×List (List Int)×Nat)⊕(List (List Int)×List (List Int))) :=
 cond (decide ((↑y529:Int)<(↑(List.length c53.1):Int))) ((idxn c53.1 y529 fun e715=>cond (decide (e715<(↑(List.length y527):Int))) (some (y527,y528)) (idxn c51.1.Next y529 fun e717=>(iter (fun (s:List Int×Nat)=>za0.s30 c53 e717 s.1 s.2) fuel ([],0):Option (List Int)).bind (fun (y740:List Int)=>chk (zbh (List.length y527+1) 24) (idxn c51.1.Out y529 fun e769=>chk (zbh (List.length ([]:List Unit)+List.length e769) 8) (chk (zbh (List.length y528+1) 24) (some ((y527++[y740]),(y528++[([]++e769)]))))))):Option (List (List Int)×List (List Int))).bind (fun (s:List (List Int)×List (List Int))=>za0.k31 y529 s.1 s.2)) (some (.inr (y527,y528)))
def za0.k33 (c51:zaa×Int) (y418:List (List Int)) (y419:List (List Int)):Option (zaa×Int) :=
 some ((⟨c51.1.Inputs,0,y418,y419⟩:zaa),0)
def za0 (m_:zaa):Option (zaa×Int) :=
 (zbn m_).bind fun c51=>cond (decide (c51.2≠0)) (some ((⟨0,0,[],[]⟩:zaa),c51.2)) ((zez c51.1).bind fun c53=>cond (decide (c53.2≠0)) (some ((⟨0,0,[],[]⟩:zaa),c53.2)) ((iter (fun (s:List (List Int)×List (List Int)×Nat)=>za0.s32 c51 c53 s.1 s.2.1 s.2.2) fuel ([],[],0):Option (List (List Int)×List (List Int))).bind (fun (s:List (List Int)×List (List Int))=>za0.k33 c51 s.1 s.2)))
def zbp.s18 (i343:Nat) (e417:List Int) (y460:List Bool) (y461:List za3) (y462:Nat):Option ((List Bool×List za3×Nat)⊕(List Bool×List za3)) :=
 cond (decide ((↑y462:Int)<(↑(List.length e417):Int))) (idxn e417 y462 fun e473=>idx y460 e473 fun e474=>cond ((!e474)) (idx y460 e473 fun e476=>idxn y461 i343 fun e477=>(ze0 [e477.word,[(↑y462:Int)]]).bind fun c478=>chk (zbh (List.length y461+1) 32) (some (.inl ((List.set y460 e473.toNat true),(y461++[(⟨e473,c478⟩:za3)]),(y462+1))))) (some (.inl (y460,y461,(y462+1))))) (some (.inr (y460,y461)))
def zbp.k19 (i343:Nat) (y450:List Bool) (y451:List za3):Option ((List Bool×List za3×Nat)⊕List za3) :=
 some (.inl (y450,y451,(i343+1)))
def zbp.s20 (m_:zaa) (y341:List Bool) (y342:List za3) (i343:Nat):Option ((List Bool×List za3×Nat)⊕List za3) :=
 cond (decide ((↑i343:Int)<(↑(List.length y342):Int))) (idxn y342 i343 fun e416=>idx m_.Next e416.state fun e417=>(iter (fun (s:List Bool×List za3×Nat)=>zbp.s18 i343 e417 s.1 s.2.1 s.2.2) fuel (y341,y342,0):Option (List Bool×List za3)).bind (fun (s:List Bool×List za3)=>zbp.k19 i343 s.1 s.2)) (some (.inr y342))
def zbp (m_:zaa) (from_:Int):Option (List za3) :=
 chk ((0:Int)≤(↑(List.length m_.Next):Int)∧(↑(List.length m_.Next):Int)≤(↑(List.length m_.Next):Int)∧zbh (Int.toNat (↑(List.length m_.Next):Int)) 1) (idx (List.replicate (List.length m_.Next) false) from_ fun e52=>(iter (fun (s:List Bool×List za3×Nat)=>zbp.s20 m_ s.1 s.2.1 s.2.2) fuel ((List.set (List.replicate (List.length m_.Next) false) from_.toNat true),[(⟨from_,[]⟩:za3)],0):Option (List za3)).bind (fun (y270:List za3)=>some y270))
def zcq.s2 (c53:List za3) (y76:List Int) (y77:List (List Int)) (y78:Nat):Option ((List Int×List (List Int)×Nat)⊕(List Int×List (List Int))) :=
 cond (decide ((↑y78:Int)<(↑(List.length c53):Int))) (idxn c53 y78 fun e85=>chk (zbh (List.length y76+1) 8) (chk (zbh (List.length y77+1) 24) (some (.inl ((y76++[e85.state]),(y77++[e85.word]),(y78+1)))))) (some (.inr (y76,y77)))
def zcq.k3 (y72:List Int) (y73:List (List Int)):Option (List Int×List (List Int)×Int) :=
 some (y72,y73,0)
def zcq (m_:zaa):Option (List Int×List (List Int)×Int) :=
 (za4 m_).bind fun c51=>cond (decide (c51≠0)) (some ([],[],c51)) ((zbp m_ m_.Start).bind fun c53=>(iter (fun (s:List Int×List (List Int)×Nat)=>zcq.s2 c53 s.1 s.2.1 s.2.2) fuel ([],[],0):Option (List Int×List (List Int))).bind (fun (s:List Int×List (List Int))=>zcq.k3 s.1 s.2))
def zey (m_:zaa):Option (List (List Int)×Int) :=
 (zcq m_).bind fun c51=>some (c51.2.1,c51.2.2)
def zhf.s2 (inputs_:Int) (y97:List Int) (i98:Int):Option ((List Int×Int)⊕(List Int⊕(List Int×Bool))) :=
 cond (decide (0≤i98)) (idx y97 i98 fun e110=>chk (inR (e110+1)) (cond (decide ((e110+1)<inputs_)) (idx y97 i98 fun e113=>chk (inR (e113+1)) (idx y97 i98 fun e115=>some (.inr (.inr ((List.set y97 i98.toNat (e113+1)),true))))) (idx y97 i98 fun e116=>chk (inR (i98-1)) (some (.inl ((List.set y97 i98.toNat 0),(i98-1))))))) (some (.inr (.inl y97)))
def zhf (w_:List Int) (inputs_:Int):Option (List Int×Bool) :=
 (zeh w_ inputs_).bind fun c51=>cond (decide (c51≠0)) (some ([],false)) ((zbt w_).bind fun c53=>chk (inR ((↑(List.length c53):Int)-1)) ((iter (fun (s:List Int×Int)=>zhf.s2 inputs_ s.1 s.2) fuel (c53,((↑(List.length c53):Int)-1)):Option (List Int⊕(List Int×Bool))).bind (Sum.elim (fun (y87:List Int)=>cond (decide ((↑(List.length y87):Int)=1024)) (some ([],false)) (chk (zbh (List.length y87+1) 8) (some ((y87++[0]),true)))) some)))
def zdr.s2 (inputs_:Int) (n_:Int) (y101:List (List Int)) (w102:List Int) (ok103:Bool):Option ((List (List Int)×List Int×Bool)⊕(List (List Int)⊕(List (List Int)×Int))) :=
 (cond (ok103) (some (decide ((↑(List.length w102):Int)≤n_))) (some false):Option (Bool)).bind (fun (y119:Bool)=>cond (y119) (cond (decide ((↑(List.length y101):Int)=10000)) (some (.inr (.inr ([],11)))) (chk (zbh (List.length y101+1) 24) ((zhf w102 inputs_).bind fun c126=>some (.inl ((y101++[w102]),c126.1,c126.2))))) (some (.inr (.inl y101))))
def zdr (inputs_:Int) (n_:Int):Option (List (List Int)×Int) :=
 ((zeh [] inputs_).bind fun c57=>cond (decide (c57≠0)) (some true) (cond (decide (n_<0)) (some true) (some (decide (1024<n_)))):Option (Bool)).bind (fun (y56:Bool)=>cond (y56) (some ([],2)) ((iter (fun (s:List (List Int)×List Int×Bool)=>zdr.s2 inputs_ n_ s.1 s.2.1 s.2.2) fuel ([],[],true):Option (List (List Int)⊕(List (List Int)×Int))).bind (Sum.elim (fun (y95:List (List Int))=>some (y95,0)) some)))
def zet (m_:zaa):Option (Bool) :=
 ((za4 m_).bind fun c57=>cond (decide (c57≠0)) (some true) ((zbw m_).bind fun c59=>some (decide ((↑(List.length c59):Int)≠(↑(List.length m_.Next):Int)))):Option (Bool)).bind (fun (y56:Bool)=>cond (y56) (some false) ((za0 m_).bind fun c61=>(cond (decide (c61.2=0)) (some (decide ((↑(List.length c61.1.Next):Int)=(↑(List.length m_.Next):Int)))) (some false):Option (Bool)).bind (fun (y65:Bool)=>some y65)))
def zfu (m_:zaa):Option (Int) :=
 (za4 m_).bind fun c51=>cond (decide (c51≠0)) (some c51) ((zet m_).bind fun c53=>cond ((!c53)) (some 1) (some 0))
def za8.s2 (a_:zaa) (b_:zaa) (y72:List (List Bool)) (y73:Nat):Option ((List (List Bool)×Nat)⊕List (List Bool)) :=
 cond (decide ((↑y73:Int)<(↑(List.length (List.replicate (List.length a_.Next) ([]:List Bool))):Int))) (chk ((0:Int)≤(↑(List.length b_.Next):Int)∧(↑(List.length b_.Next):Int)≤(↑(List.length b_.Next):Int)∧zbh (Int.toNat (↑(List.length b_.Next):Int)) 1) (idxn y72 y73 fun e81=>chk (inR ((↑y73:Int)+1)) (some (.inl ((List.set y72 y73 (List.replicate (List.length b_.Next) false)),(y73+1)))))) (some (.inr y72))
def za8.s20 (a_:zaa) (b_:zaa) (i900:Nat) (e1104:zba) (y1234:List (List Bool)) (y1235:List zba) (y1236:Nat):Option ((List (List Bool)×List zba×Nat)⊕((List (List Bool)×List zba)⊕((List (List Bool)×List zba×Nat)⊕(Unit⊕(List Int×Bool))))) :=
 cond (decide ((↑y1236:Int)<a_.Inputs)) (idx a_.Out e1104.at_.s fun e1270=>idxn e1270 y1236 fun e1271=>idx b_.Out e1104.at_.t fun e1272=>idxn e1272 y1236 fun e1273=>cond (decide (e1271≠e1273)) (idxn y1235 i900 fun e1275=>(ze0 [e1275.word,[(↑y1236:Int)]]).bind fun c1276=>some (.inr (.inr (.inr (.inr (c1276,true)))))) (idx a_.Next e1104.at_.s fun e1277=>idxn e1277 y1236 fun e1278=>idx b_.Next e1104.at_.t fun e1279=>idxn e1279 y1236 fun e1280=>(cond ((!(decide (e1278=e1104.at_.s)&&(decide (e1280=e1104.at_.t)&&true)))) (idx y1234 e1278 fun e1288=>idx e1288 e1280 fun e1289=>some (!e1289)) (some false):Option (Bool)).bind (fun (y1286:Bool)=>cond (y1286) (idx y1234 e1278 fun e1293=>idx e1293 e1280 fun e1294=>idxn y1235 i900 fun e1295=>(ze0 [e1295.word,[(↑y1236:Int)]]).bind fun c1296=>chk (zbh (List.length y1235+1) 40) (chk (inR ((↑y1236:Int)+1)) (some (.inl ((List.set y1234 (Int.toNat e1278) (List.set e1293 (Int.toNat e1280) true)),(y1235++[(⟨(⟨e1278,e1280⟩:zc0),c1296⟩:zba)]),(y1236+1)))))) (chk (inR ((↑y1236:Int)+1)) (some (.inl (y1234,y1235,(y1236+1)))))))) (some (.inr (.inl (y1234,y1235))))
def za8.k21 (i900:Nat) (y1203:List (List Bool)) (y1204:List zba):Option ((List (List Bool)×List zba×Nat)⊕(Unit⊕(List Int×Bool))) :=
 some (.inl (y1203,y1204,(i900+1)))
def za8.s22 (a_:zaa) (b_:zaa) (y898:List (List Bool)) (y899:List zba) (i900:Nat):Option ((List (List Bool)×List zba×Nat)⊕(Unit⊕(List Int×Bool))) :=
 cond (decide ((↑i900:Int)<(↑(List.length y899):Int))) (idxn y899 i900 fun e1104=>(iter (fun (s:List (List Bool)×List zba×Nat)=>za8.s20 a_ b_ i900 e1104 s.1 s.2.1 s.2.2) fuel (y898,y899,0):Option ((List (List Bool)×List zba)⊕((List (List Bool)×List zba×Nat)⊕(Unit⊕(List Int×Bool))))).bind (Sum.elim (fun (s:List (List Bool)×List zba)=>za8.k21 i900 s.1 s.2) some)) (some (.inr (.inl ())))
def za8 (a_:zaa) (b_:zaa) (first_:zc0):Option (List Int×Bool) :=
 chk ((0:Int)≤(↑(List.length a_.Next):Int)∧(↑(List.length a_.Next):Int)≤(↑(List.length a_.Next):Int)∧zbh (Int.toNat (↑(List.length a_.Next):Int)) 24) ((iter (fun (s:List (List Bool)×Nat)=>za8.s2 a_ b_ s.1 s.2) fuel ((List.replicate (List.length a_.Next) ([]:List Bool)),0):Option (List (List Bool))).bind (fun (y68:List (List Bool))=>idx y68 first_.s fun e85=>idx e85 first_.t fun e86=>(iter (fun (s:List (List Bool)×List zba×Nat)=>za8.s22 a_ b_ s.1 s.2.1 s.2.2) fuel ((List.set y68 (Int.toNat first_.s) (List.set e85 (Int.toNat first_.t) true)),[(⟨first_,[]⟩:zba)],0):Option (Unit⊕(List Int×Bool))).bind (Sum.elim (fun (_:Unit)=>some ([],false)) some)))
def zha (m_:zaa) (s_:Int) (t_:Int):Option (List Int×Bool×Int) :=
 (za4 m_).bind fun c51=>cond (decide (c51≠0)) (some ([],false,c51)) ((cond (decide (s_<0)) (some true) (cond (decide ((↑(List.length m_.Next):Int)≤s_)) (some true) (cond (decide (t_<0)) (some true) (some (decide ((↑(List.length m_.Next):Int)≤t_))))):Option (Bool)).bind (fun (y58:Bool)=>cond (y58) (some ([],false,2)) ((za8 m_ m_ (⟨s_,t_⟩:zc0)).bind fun c63=>some (c63.1,c63.2,0))))
def zas.s13 (m_:zaa) (y325:Nat) (y436:List (List (List Int))) (t437:Nat):Option ((List (List (List Int))×Nat)⊕(List (List (List Int))⊕((List (List (List Int))×Nat)⊕(List (List (List Int))⊕(List (List (List Int))×Int))))) :=
 cond (decide ((↑t437:Int)<(↑(List.length m_.Next):Int))) ((zha m_ (↑y325:Int) (↑t437:Int)).bind fun c449=>cond (decide (c449.2.2≠0)) (some (.inr (.inr (.inr (.inr ([],c449.2.2)))))) (idxn y436 y325 fun e451=>chk (zbh (List.length e451+1) 24) (idxn y436 y325 fun e453=>idxn (List.set y436 y325 (e451++[c449.1])) t437 fun e454=>chk (zbh (List.length e454+1) 24) (idxn (List.set y436 y325 (e451++[c449.1])) t437 fun e456=>some (.inl ((List.set (List.set y436 y325 (e451++[c449.1])) t437 (e454++[c449.1])),(t437+1))))))) (some (.inr (.inl y436)))
def zas.s14 (m_:zaa) (y324:List (List (List Int))) (y325:Nat):Option ((List (List (List Int))×Nat)⊕(List (List (List Int))⊕(List (List (List Int))×Int))) :=
 cond (decide ((↑y325:Int)<(↑(List.length m_.Next):Int))) ((iter (fun (s:List (List (List Int))×Nat)=>zas.s13 m_ y325 s.1 s.2) fuel (y324,(y325+1)):Option (List (List (List Int))⊕((List (List (List Int))×Nat)⊕(List (List (List Int))⊕(List (List (List Int))×Int))))).bind (Sum.elim (fun (y426:List (List (List Int)))=>some (.inl (y426,(y325+1)))) some)) (some (.inr (.inl y324)))
def zas.s16 (y257:List (List (List Int))) (y485:List (List (List Int))) (y486:Nat):Option ((List (List (List Int))×Nat)⊕List (List (List Int))) :=
 cond (decide ((↑y486:Int)<(↑(List.length y257):Int))) (idxn y257 y486 fun e493=>(ze2 e493).bind fun c494=>chk (zbh (List.length y485+1) 24) (some (.inl ((y485++[c494]),(y486+1))))) (some (.inr y485))
def zas (m_:zaa):Option (List (List (List Int))×Int) :=
 (zfu m_).bind fun c51=>cond (decide (c51≠0)) (some ([],c51)) (chk ((0:Int)≤(↑(List.length m_.Next):Int)∧(↑(List.length m_.Next):Int)≤(↑(List.length m_.Next):Int)∧zbh (Int.toNat (↑(List.length m_.Next):Int)) 24) ((iter (fun (s:List (List (List Int))×Nat)=>zas.s14 m_ s.1 s.2) fuel ((List.replicate (List.length m_.Next) ([]:List (List Int))),0):Option (List (List (List Int))⊕(List (List (List Int))×Int))).bind (Sum.elim (fun (y257:List (List (List Int)))=>chk ((0:Int)≤0∧0≤(↑(List.length y257):Int)∧zbh (Int.toNat (↑(List.length y257):Int)) 24) ((iter (fun (s:List (List (List Int))×Nat)=>zas.s16 y257 s.1 s.2) fuel ([],0):Option (List (List (List Int)))).bind (fun (y480:List (List (List Int)))=>some (y480,0)))) some)))
def zbu.s13 (c59:zaa×Int) (c64:List (List Int)×Int) (c66:List (List (List Int))×Int) (e447:List Int) (y488:List (List Int)) (y489:Nat):Option ((List (List Int)×Nat)⊕(List (List Int)⊕((List (List Int)×Nat)⊕(List (List Int)⊕(List (List Int)×Int))))) :=
 cond (decide ((↑y489:Int)<(↑(List.length c64.1):Int))) (idxn c64.1 y489 fun e499=>(ze0 [e447,e499]).bind fun c500=>(zhk c59.1 c66.1 c500).bind fun c501=>cond (decide (c501.2≠0)) (some (.inr (.inr (.inr (.inr ([],c501.2)))))) ((zcr c500 c501.1).bind fun c503=>chk (zbh (List.length y488+List.length c503) 24) (some (.inl ((y488++c503),(y489+1)))))) (some (.inr (.inl y488)))
def zbu.s14 (c59:zaa×Int) (c61:List (List Int)×Int) (c64:List (List Int)×Int) (c66:List (List (List Int))×Int) (y371:List (List Int)) (y372:Nat):Option ((List (List Int)×Nat)⊕(List (List Int)⊕(List (List Int)×Int))) :=
 cond (decide ((↑y372:Int)<(↑(List.length c61.1):Int))) (idxn c61.1 y372 fun e447=>(iter (fun (s:List (List Int)×Nat)=>zbu.s13 c59 c64 c66 e447 s.1 s.2) fuel (y371,0):Option (List (List Int)⊕((List (List Int)×Nat)⊕(List (List Int)⊕(List (List Int)×Int))))).bind (Sum.elim (fun (y480:List (List Int))=>some (.inl (y480,(y372+1)))) some)) (some (.inr (.inl y371)))
def zbu (m_:zaa) (extra_:Int):Option (List (List Int)×Int) :=
 (za4 m_).bind fun c51=>cond (decide (c51≠0)) (some ([],c51)) ((cond (decide (extra_<0)) (some true) (some (decide (3<extra_))):Option (Bool)).bind (fun (y56:Bool)=>cond (y56) (some ([],2)) ((za0 m_).bind fun c59=>cond (decide (c59.2≠0)) (some ([],c59.2)) ((zey c59.1).bind fun c61=>cond (decide (c61.2≠0)) (some ([],c61.2)) (chk (inR (extra_+1)) ((zdr c59.1.Inputs (extra_+1)).bind fun c64=>cond (decide (c64.2≠0)) (some ([],c64.2)) ((zas c59.1).bind fun c66=>cond (decide (c66.2≠0)) (some ([],c66.2)) (chk (inR ((↑(List.length c61.1):Int)*(↑(List.length c64.1):Int))) ((zdv c66.1).bind fun c69=>chk (inR (((↑(List.length c61.1):Int)*(↑(List.length c64.1):Int))*c69)) (cond (decide (10000<(((↑(List.length c61.1):Int)*(↑(List.length c64.1):Int))*c69))) (some ([],11)) ((iter (fun (s:List (List Int)×Nat)=>zbu.s14 c59 c61 c64 c66 s.1 s.2) fuel ([],0):Option (List (List Int)⊕(List (List Int)×Int))).bind (Sum.elim (fun (y298:List (List Int))=>(zb7 y298).bind fun c525=>some (c525,0)) some))))))))))))
def zep (m_:zaa) (extra_:Int):Option (zco×Int) :=
 (zbu m_ extra_).bind fun c51=>cond (decide (c51.2≠0)) (some ((⟨(⟨0,0,[],[]⟩:zaa),[]⟩:zco),c51.2)) ((za0 m_).bind fun c53=>cond (decide (c53.2≠0)) (some ((⟨(⟨0,0,[],[]⟩:zaa),[]⟩:zco),c53.2)) (some ((⟨c53.1,c51.1⟩:zco),0)))
def zdg (t_:zab) (p1_:List Int):Option (Bool) :=
 (zdo p1_ t_.In).bind fun c51=>some c51
def zan.s2 (s_:List zab) (f_:zab→Option Bool) (y71:Nat):Option (Nat⊕(Unit⊕Int)) :=
 cond (decide ((↑y71:Int)<(↑(List.length s_):Int))) (idxn s_ y71 fun e78=>(f_ e78).bind fun c79=>cond (c79) (some (.inr (.inr (↑y71:Int)))) (some (.inl (y71+1)))) (some (.inr (.inl ())))
def zan (s_:List zab) (f_:zab→Option Bool):Option (Int) :=
 (iter (fun (s:Nat)=>zan.s2 s_ f_ s) fuel 0:Option (Unit⊕Int)).bind (Sum.elim (fun (_:Unit)=>some (-1:Int)) some)
def zbj (s_:List zab) (f_:zab→Option Bool):Option (Bool) :=
 (zan s_ f_).bind fun c51=>some (decide (0≤c51))
def zdb (r_:zbb) (w_:List Int):Option (Bool×zbb) :=
 (zbj r_.report.Changes (fun u0=>zdg u0 w_)).bind fun c51=>some ((!c51),r_)
def zi5 (m_:zaa) (w_:List Int):Option (List Int×Int) :=
 (zhw m_ m_.Start w_).bind fun c51=>some (c51.1,c51.2.2)
def zg2 (l_:List Int) (n_:Int):Option (List Int) :=
 chk ((0:Int)≤n_∧n_≤n_∧zbh (Int.toNat n_) 8) (chk (0<List.length ((List.replicate (Int.toNat n_) 0):List Int)∧0<List.length l_) (some (List.take (List.length ((List.replicate (Int.toNat n_) 0):List Int)) l_++List.drop (List.length l_) ((List.replicate (Int.toNat n_) 0):List Int))))
def zdl (r_:zbb) (w_:List Int) (answer_:List Int):Option (Int×zbb) :=
 (zi5 r_.m w_).bind fun c51=>cond (decide (c51.2≠0)) (some (c51.2,r_)) (chk (inR (r_.report.Run+1)) (((zc8 c51.1 answer_).bind fun c64=>cond (decide (c64<(↑(List.length w_):Int))) (chk (inR (c64+1)) ((zg2 w_ (c64+1)).bind fun c67=>chk (inR (c64+1)) ((zg2 answer_ (c64+1)).bind fun c69=>chk (zbh (List.length r_.report.Changes+1) 48) (some (r_.report.Changes++[(⟨c67,c69⟩:zab)]))))) (some r_.report.Changes):Option (List zab)).bind (fun (y63:List zab)=>some (0,(⟨r_.m,(⟨(r_.report.Run+1),y63⟩:zaf)⟩:zbb)))))
def zav.k18 (y401:Int) (y402:Int) (y403:List (List Int)) (y404:List (List Int)) (y405:Int) (y406:List zab) (e407:Int):Option ((Int×Int×List (List Int)×List (List Int)×Int×List zab)⊕((Int×Int×List (List Int)×List (List Int)×Int×List zab×Nat)⊕((Int×Int×List (List Int)×List (List Int)×Int×List zab)⊕(zaf×Int)))) :=
 cond (decide (e407≠0)) (some (.inr (.inr (.inr ((⟨0,[]⟩:zaf),e407))))) (some (.inl (y401,y402,y403,y404,y405,y406)))
def zav.k19 (y305:Nat) (y387:Int) (y388:Int) (y389:List (List Int)) (y390:List (List Int)) (y391:Int) (y392:List zab):Option ((Int×Int×List (List Int)×List (List Int)×Int×List zab×Nat)⊕((Int×Int×List (List Int)×List (List Int)×Int×List zab)⊕(zaf×Int))) :=
 some (.inl (y387,y388,y389,y390,y391,y392,(y305+1)))
def zav.s20 (b_:zaa) (c51:zco×Int) (y299:Int) (y300:Int) (y301:List (List Int)) (y302:List (List Int)) (y303:Int) (y304:List zab) (y305:Nat):Option ((Int×Int×List (List Int)×List (List Int)×Int×List zab×Nat)⊕((Int×Int×List (List Int)×List (List Int)×Int×List zab)⊕(zaf×Int))) :=
 cond (decide ((↑y305:Int)<(↑(List.length c51.1.Words):Int))) ((idxn c51.1.Words y305 fun e393=>(zdb (⟨(⟨y299,y300,y301,y302⟩:zaa),(⟨y303,y304⟩:zaf)⟩:zbb) e393).bind fun c394=>cond ((!c394.1)) (some (.inl (y299,y300,y301,y302,y303,c394.2.report.Changes))) ((zi5 b_ e393).bind fun c396=>(cond (decide (c396.2=0)) ((zdl (⟨(⟨y299,y300,y301,y302⟩:zaa),(⟨y303,c394.2.report.Changes⟩:zaf)⟩:zbb) e393 c396.1).bind fun c409=>some (c409.2.m.Inputs,c409.2.m.Start,c409.2.m.Next,c409.2.m.Out,c409.2.report.Run,c409.2.report.Changes,c409.1)) (some (y299,y300,y301,y302,y303,c394.2.report.Changes,c396.2)):Option (Int×Int×List (List Int)×List (List Int)×Int×List zab×Int)).bind (fun (s:Int×Int×List (List Int)×List (List Int)×Int×List zab×Int)=>zav.k18 s.1 s.2.1 s.2.2.1 s.2.2.2.1 s.2.2.2.2.1 s.2.2.2.2.2.1 s.2.2.2.2.2.2)):Option ((Int×Int×List (List Int)×List (List Int)×Int×List zab)⊕((Int×Int×List (List Int)×List (List Int)×Int×List zab×Nat)⊕((Int×Int×List (List Int)×List (List Int)×Int×List zab)⊕(zaf×Int))))).bind (Sum.elim (fun (s:Int×Int×List (List Int)×List (List Int)×Int×List zab)=>zav.k19 y305 s.1 s.2.1 s.2.2.1 s.2.2.2.1 s.2.2.2.2.1 s.2.2.2.2.2) some)) (some (.inr (.inl (y299,y300,y301,y302,y303,y304))))
def zav.k21 (y237:Int) (y238:Int) (y239:List (List Int)) (y240:List (List Int)) (y241:Int) (y242:List zab):Option (zaf×Int) :=
 some ((⟨y241,y242⟩:zaf),0)
def zav (a_:zaa) (b_:zaa) (extra_:Int):Option (zaf×Int) :=
 (zep a_ extra_).bind fun c51=>cond (decide (c51.2≠0)) (some ((⟨0,[]⟩:zaf),c51.2)) ((za4 b_).bind fun c53=>cond (decide (c53≠0)) (some ((⟨0,[]⟩:zaf),c53)) (cond (decide (a_.Inputs≠b_.Inputs)) (some ((⟨0,[]⟩:zaf),15)) ((iter (fun (s:Int×Int×List (List Int)×List (List Int)×Int×List zab×Nat)=>zav.s20 b_ c51 s.1 s.2.1 s.2.2.1 s.2.2.2.1 s.2.2.2.2.1 s.2.2.2.2.2.1 s.2.2.2.2.2.2) fuel (c51.1.M.Inputs,c51.1.M.Start,c51.1.M.Next,c51.1.M.Out,0,[],0):Option ((Int×Int×List (List Int)×List (List Int)×Int×List zab)⊕(zaf×Int))).bind (Sum.elim (fun (s:Int×Int×List (List Int)×List (List Int)×Int×List zab)=>zav.k21 s.1 s.2.1 s.2.2.1 s.2.2.2.1 s.2.2.2.2.1 s.2.2.2.2.2) some))))
def zg9:Option (Bool) :=
 (zng).bind fun c51=>(zep c51 0).bind fun c52=>(zng).bind fun c53=>(zav c53 (⟨2,0,[[1,0],[1,1]],[[1,0],[1,2]]⟩:zaa) 0).bind fun c54=>(zng).bind fun c55=>(zav c55 (⟨2,0,[[1,0],[1,0]],[[0,0],[1,2]]⟩:zaa) 0).bind fun c56=>(cond (decide (c52.2≠0)) (some true) (cond (decide (c54.2≠0)) (some true) (cond (decide (c56.2≠0)) (some true) ((zhe c52.1.Words [[1,1],[0,0,1],[0,1,1]]).bind fun c71=>cond ((!c71)) (some true) (cond (decide (c54.1.Run≠3)) (some true) (cond (decide ((↑(List.length c54.1.Changes):Int)≠1)) (some true) (cond (decide (c56.1.Run≠2)) (some true) (some (decide ((↑(List.length c56.1.Changes):Int)≠1))))))))):Option (Bool)).bind (fun (y67:Bool)=>cond (y67) (some false) ((idxn c54.1.Changes 0 fun e93=>(zd6 e93.In [0,1,1]).bind fun c94=>cond (c94) (idxn c54.1.Changes 0 fun e96=>(zd6 e96.Out [1,2,2]).bind fun c97=>cond (c97) (idxn c56.1.Changes 0 fun e99=>(zd6 e99.In [0]).bind fun c100=>cond (c100) (idxn c56.1.Changes 0 fun e102=>(zd6 e102.Out [0]).bind fun c103=>some c103) (some false)) (some false)) (some false):Option (Bool)).bind (fun (y92:Bool)=>some y92)))
def ze1 (t_:zab) (p1_:List Int):Option (Bool) :=
 (zdo t_.In p1_).bind fun c51=>some c51
def zfv (o_:zaw) (w_:List Int):Option (List Int×Bool) :=
 cond (decide ((↑(List.length w_):Int)=0)) (some ([],true)) ((zan o_.Traces (fun u0=>ze1 u0 w_)).bind fun c52=>cond (decide (c52<0)) (some ([],false)) (idx o_.Traces c52 fun e54=>chk ((0:Int)≤(min (↑(List.length w_):Int) (↑(List.length e54.Out):Int))∧(min (↑(List.length w_):Int) (↑(List.length e54.Out):Int))≤(↑(List.length e54.Out):Int)) ((zbt (List.take (Int.toNat (min (↑(List.length w_):Int) (↑(List.length e54.Out):Int))) e54.Out)).bind fun c56=>some (c56,true))))
def zcp (n_:Int) (most_:Int):Option (Bool) :=
 (cond (decide (n_<0)) (some true) (some (decide (most_<n_))):Option (Bool)).bind (fun (y54:Bool)=>some y54)
def zed (n_:Int):Option (Bool) :=
 (zcp n_ 1048576).bind fun c51=>some c51
def zfa (l_:zbf):Option (Int) :=
 ((zed l_.Reset).bind fun c57=>cond (c57) (some true) ((zb4 l_.Step (fun u0=>zed u0)).bind fun c59=>some c59):Option (Bool)).bind (fun (y56:Bool)=>cond (y56) (some 2) (some 0))
def zda (u_:za5):Option (Bool) :=
 ((zcp u_.Device.Steps 1125899906842624).bind fun c59=>cond ((!c59)) ((zcp u_.Device.Resets 1125899906842624).bind fun c61=>cond ((!c61)) ((zcp u_.Device.Time 1125899906842624).bind fun c63=>some (!c63)) (some false)) (some false):Option (Bool)).bind (fun (y58:Bool)=>some y58)
def zeo (d_:zae):Option (Int) :=
 (za4 d_.M).bind fun c51=>cond (decide (c51≠0)) (some c51) ((zcp d_.State ((↑(List.length d_.M.Next):Int)-1)).bind fun c53=>cond (c53) (some 2) (cond (decide ((↑(List.length d_.Latency.Step):Int)≠d_.M.Inputs)) (some 1) ((zfa d_.Latency).bind fun c56=>cond (decide (c56≠0)) (some c56) (((zcp d_.Faults.Lost 10000).bind fun c71=>cond (c71) (some true) ((zcp d_.Faults.Wrong 10000).bind fun c73=>cond (c73) (some true) ((zcp d_.Faults.Crash 10000).bind fun c75=>cond (c75) (some true) (chk (inR (d_.Faults.Lost+d_.Faults.Wrong)) (chk (inR ((d_.Faults.Lost+d_.Faults.Wrong)+d_.Faults.Crash)) (cond (decide (10000<((d_.Faults.Lost+d_.Faults.Wrong)+d_.Faults.Crash))) (some true) ((zda (⟨d_⟩:za5)).bind fun c80=>some (!c80))))))):Option (Bool)).bind (fun (y70:Bool)=>cond (y70) (some 2) (some 0))))))
def zdk.s2 (l_:List (List Int)) (y75:List (List Int)) (y76:Nat):Option ((List (List Int)×Nat)⊕List (List Int)) :=
 cond (decide ((↑y76:Int)<(↑(List.length l_):Int))) (idxn l_ y76 fun e83=>(zbt e83).bind fun c84=>chk (zbh (List.length y75+1) 24) (some (.inl ((y75++[c84]),(y76+1))))) (some (.inr y75))
def zdk (l_:List (List Int)):Option (List (List Int)) :=
 chk ((0:Int)≤0∧0≤(↑(List.length l_):Int)∧zbh (Int.toNat (↑(List.length l_):Int)) 24) ((iter (fun (s:List (List Int)×Nat)=>zdk.s2 l_ s.1 s.2) fuel ([],0):Option (List (List Int))).bind (fun (y70:List (List Int))=>some y70))
def zge (d_:zae):Option (zae) :=
 (zdk d_.M.Next).bind fun c51=>(zdk d_.M.Out).bind fun c52=>(zbt d_.Latency.Step).bind fun c53=>some (⟨(⟨d_.M.Inputs,d_.M.Start,c51,c52⟩:zaa),d_.State,d_.Ready,(⟨c53,d_.Latency.Reset⟩:zbf),d_.Faults,d_.Seed,d_.Steps,d_.Resets,d_.Time⟩:zae)
def zek (u_:za5):Option (Int×za5) :=
 chk (inR (u_.Device.Resets+1)) (chk (inR (u_.Device.Time+u_.Device.Latency.Reset)) ((zda (⟨(⟨u_.Device.M,u_.Device.M.Start,true,u_.Device.Latency,u_.Device.Faults,u_.Device.Seed,u_.Device.Steps,(u_.Device.Resets+1),(u_.Device.Time+u_.Device.Latency.Reset)⟩:zae)⟩:za5)).bind fun c53=>cond ((!c53)) (some (11,u_)) (some (0,(⟨(⟨u_.Device.M,u_.Device.M.Start,true,u_.Device.Latency,u_.Device.Faults,u_.Device.Seed,u_.Device.Steps,(u_.Device.Resets+1),(u_.Device.Time+u_.Device.Latency.Reset)⟩:zae)⟩:za5)))))
def zh3 (state_:Int):Option (Int×Int) :=
 chk ((0:Int)≤(mdU (state_+11400714819323198485))∧(mdU (state_+11400714819323198485))≤18446744073709551615) (chk ((0:Int)≤(mdU ((xorK .u64 (mdU (state_+11400714819323198485)) ((mdU (state_+11400714819323198485)) / 2^30))*13787848793156543929))∧(mdU ((xorK .u64 (mdU (state_+11400714819323198485)) ((mdU (state_+11400714819323198485)) / 2^30))*13787848793156543929))≤18446744073709551615) (chk ((0:Int)≤(mdU ((xorK .u64 (mdU ((xorK .u64 (mdU (state_+11400714819323198485)) ((mdU (state_+11400714819323198485)) / 2^30))*13787848793156543929)) ((mdU ((xorK .u64 (mdU (state_+11400714819323198485)) ((mdU (state_+11400714819323198485)) / 2^30))*13787848793156543929)) / 2^27))*10723151780598845931))∧(mdU ((xorK .u64 (mdU ((xorK .u64 (mdU (state_+11400714819323198485)) ((mdU (state_+11400714819323198485)) / 2^30))*13787848793156543929)) ((mdU ((xorK .u64 (mdU (state_+11400714819323198485)) ((mdU (state_+11400714819323198485)) / 2^30))*13787848793156543929)) / 2^27))*10723151780598845931))≤18446744073709551615) (some ((xorK .u64 (mdU ((xorK .u64 (mdU ((xorK .u64 (mdU (state_+11400714819323198485)) ((mdU (state_+11400714819323198485)) / 2^30))*13787848793156543929)) ((mdU ((xorK .u64 (mdU (state_+11400714819323198485)) ((mdU (state_+11400714819323198485)) / 2^30))*13787848793156543929)) / 2^27))*10723151780598845931)) ((mdU ((xorK .u64 (mdU ((xorK .u64 (mdU (state_+11400714819323198485)) ((mdU (state_+11400714819323198485)) / 2^30))*13787848793156543929)) ((mdU ((xorK .u64 (mdU (state_+11400714819323198485)) ((mdU (state_+11400714819323198485)) / 2^30))*13787848793156543929)) / 2^27))*10723151780598845931)) / 2^31)),(mdU (state_+11400714819323198485))))))
def zdh.s1 (n_:Int) (state62:Int):Option (Int⊕(Int×Int)) :=
 (zh3 state62).bind fun c73=>(cond (decide (((mdU (0-n_))%n_)=0)) (some true) (some (decide (c73.1<(mdU (0-((mdU (0-n_))%n_)))))):Option (Bool)).bind (fun (y77:Bool)=>cond (y77) (chk (((0:Int)≤(c73.1%n_)∧(c73.1%n_)≤18446744073709551615)∧(0:Int)≤c73.1∧(1:Int)≤n_) (chk (inR (c73.1%n_)) (some (.inr ((c73.1%n_),c73.2))))) (some (.inl c73.2)))
def zdh (state_:Int) (n_:Int):Option (Int×Int) :=
 chk ((0:Int)≤n_∧n_≤18446744073709551615) (chk (((0:Int)≤((mdU (0-n_))%n_)∧((mdU (0-n_))%n_)≤18446744073709551615)∧(0:Int)≤(mdU (0-n_))∧(1:Int)≤n_) (iter (fun (s:Int)=>zdh.s1 n_ s) fuel state_))
def zhg (state_:Int) (n_:Int):Option (Int×Int×Int) :=
 (cond (decide (n_<1)) (some true) (some (decide (2147483648<n_))):Option (Bool)).bind (fun (y54:Bool)=>cond (y54) (some (0,0,2)) ((zdh state_ n_).bind fun c57=>some (c57.1,c57.2,0)))
def zeu (u_:za5) (a_:Int):Option (Int×Int×za5) :=
 cond ((!u_.Device.Ready)) (some (0,10,u_)) (chk (inR (u_.Device.M.Inputs-1)) ((zcp a_ (u_.Device.M.Inputs-1)).bind fun c53=>cond (c53) (some (0,2,u_)) (chk (inR (u_.Device.Steps+1)) (idx u_.Device.Latency.Step a_ fun e56=>chk (inR (u_.Device.Time+e56)) ((zda (⟨(⟨u_.Device.M,u_.Device.State,u_.Device.Ready,u_.Device.Latency,u_.Device.Faults,u_.Device.Seed,(u_.Device.Steps+1),u_.Device.Resets,(u_.Device.Time+e56)⟩:zae)⟩:za5)).bind fun c58=>cond ((!c58)) (some (0,11,u_)) ((zhg u_.Device.Seed 10000).bind fun c60=>cond (decide (c60.2.2≠0)) (some (0,c60.2.2,u_)) (idx u_.Device.M.Next u_.Device.State fun e62=>idx e62 a_ fun e63=>idx u_.Device.M.Out u_.Device.State fun e64=>idx e64 a_ fun e65=>cond (decide (c60.1<u_.Device.Faults.Lost)) (some ((-1:Int),0,(⟨(⟨u_.Device.M,e63,u_.Device.Ready,u_.Device.Latency,u_.Device.Faults,c60.2.1,(u_.Device.Steps+1),u_.Device.Resets,(u_.Device.Time+e56)⟩:zae)⟩:za5))) ((chk (inR (u_.Device.Faults.Lost+u_.Device.Faults.Wrong)) (cond (decide (c60.1<(u_.Device.Faults.Lost+u_.Device.Faults.Wrong))) (some (decide (e65=1048576))) (some false)):Option (Bool)).bind (fun (y71:Bool)=>cond (y71) (chk (inR (e65-1)) (some ((e65-1),0,(⟨(⟨u_.Device.M,e63,u_.Device.Ready,u_.Device.Latency,u_.Device.Faults,c60.2.1,(u_.Device.Steps+1),u_.Device.Resets,(u_.Device.Time+e56)⟩:zae)⟩:za5)))) (chk (inR (u_.Device.Faults.Lost+u_.Device.Faults.Wrong)) (cond (decide (c60.1<(u_.Device.Faults.Lost+u_.Device.Faults.Wrong))) (chk (inR (e65+1)) (some ((e65+1),0,(⟨(⟨u_.Device.M,e63,u_.Device.Ready,u_.Device.Latency,u_.Device.Faults,c60.2.1,(u_.Device.Steps+1),u_.Device.Resets,(u_.Device.Time+e56)⟩:zae)⟩:za5)))) (chk (inR (u_.Device.Faults.Lost+u_.Device.Faults.Wrong)) (chk (inR ((u_.Device.Faults.Lost+u_.Device.Faults.Wrong)+u_.Device.Faults.Crash)) (cond (decide (c60.1<((u_.Device.Faults.Lost+u_.Device.Faults.Wrong)+u_.Device.Faults.Crash))) (some (e65,0,(⟨(⟨u_.Device.M,e63,false,u_.Device.Latency,u_.Device.Faults,c60.2.1,(u_.Device.Steps+1),u_.Device.Resets,(u_.Device.Time+e56)⟩:zae)⟩:za5))) (some (e65,0,(⟨(⟨u_.Device.M,e63,u_.Device.Ready,u_.Device.Latency,u_.Device.Faults,c60.2.1,(u_.Device.Steps+1),u_.Device.Resets,(u_.Device.Time+e56)⟩:zae)⟩:za5)))))))))))))))))
def zb0.s2 (w_:List Int) (y171:Int) (y172:Int) (y173:List (List Int)) (y174:List (List Int)) (y175:Int) (y176:Bool) (y177:List Int) (y178:Int) (y179:Int) (y180:Int) (y181:Int) (y182:Int) (y183:Int) (y184:Int) (y185:Int) (y186:List Int) (y187:Nat):Option ((Int×Int×List (List Int)×List (List Int)×Int×Bool×List Int×Int×Int×Int×Int×Int×Int×Int×Int×List Int×Nat)⊕((Int×Int×List (List Int)×List (List Int)×Int×Bool×List Int×Int×Int×Int×Int×Int×Int×Int×Int×List Int)⊕(zae×List Int×Int))) :=
 cond (decide ((↑y187:Int)<(↑(List.length w_):Int))) (idxn w_ y187 fun e208=>(zeu (⟨(⟨(⟨y171,y172,y173,y174⟩:zaa),y175,y176,(⟨y177,y178⟩:zbf),(⟨y179,y180,y181⟩:zbz),y182,y183,y184,y185⟩:zae)⟩:za5) e208).bind fun c209=>cond (decide (c209.2.1≠0)) (some (.inr (.inr (c209.2.2.Device,[],c209.2.1)))) ((cond (decide (c209.1<0)) (some true) (cond ((!c209.2.2.Device.Ready)) (some (decide (((↑y187:Int)+1)<(↑(List.length w_):Int)))) (some false)):Option (Bool)).bind (fun (y215:Bool)=>cond (y215) (some (.inr (.inr (c209.2.2.Device,[],14)))) (chk (zbh (List.length y186+1) 8) (some (.inl (c209.2.2.Device.M.Inputs,c209.2.2.Device.M.Start,c209.2.2.Device.M.Next,c209.2.2.Device.M.Out,c209.2.2.Device.State,c209.2.2.Device.Ready,c209.2.2.Device.Latency.Step,c209.2.2.Device.Latency.Reset,c209.2.2.Device.Faults.Lost,c209.2.2.Device.Faults.Wrong,c209.2.2.Device.Faults.Crash,c209.2.2.Device.Seed,c209.2.2.Device.Steps,c209.2.2.Device.Resets,c209.2.2.Device.Time,(y186++[c209.1]),(y187+1)))))))) (some (.inr (.inl (y171,y172,y173,y174,y175,y176,y177,y178,y179,y180,y181,y182,y183,y184,y185,y186))))
def zb0.k3 (y137:Int) (y138:Int) (y139:List (List Int)) (y140:List (List Int)) (y141:Int) (y142:Bool) (y143:List Int) (y144:Int) (y145:Int) (y146:Int) (y147:Int) (y148:Int) (y149:Int) (y150:Int) (y151:Int) (y152:List Int):Option (zae×List Int×Int) :=
 some ((⟨(⟨y137,y138,y139,y140⟩:zaa),y141,y142,(⟨y143,y144⟩:zbf),(⟨y145,y146,y147⟩:zbz),y148,y149,y150,y151⟩:zae),y152,0)
def zb0 (d_:zae) (w_:List Int):Option (zae×List Int×Int) :=
 (zeo d_).bind fun c51=>cond (decide (c51≠0)) (some (d_,[],c51)) ((zeh w_ d_.M.Inputs).bind fun c53=>cond (decide (c53≠0)) (some (d_,[],c53)) ((zge d_).bind fun c55=>(zek (⟨c55⟩:za5)).bind fun c56=>cond (decide (c56.1≠0)) (some (d_,[],c56.1)) (chk ((0:Int)≤0∧0≤(↑(List.length w_):Int)∧zbh (Int.toNat (↑(List.length w_):Int)) 8) ((iter (fun (s:Int×Int×List (List Int)×List (List Int)×Int×Bool×List Int×Int×Int×Int×Int×Int×Int×Int×Int×List Int×Nat)=>zb0.s2 w_ s.1 s.2.1 s.2.2.1 s.2.2.2.1 s.2.2.2.2.1 s.2.2.2.2.2.1 s.2.2.2.2.2.2.1 s.2.2.2.2.2.2.2.1 s.2.2.2.2.2.2.2.2.1 s.2.2.2.2.2.2.2.2.2.1 s.2.2.2.2.2.2.2.2.2.2.1 s.2.2.2.2.2.2.2.2.2.2.2.1 s.2.2.2.2.2.2.2.2.2.2.2.2.1 s.2.2.2.2.2.2.2.2.2.2.2.2.2.1 s.2.2.2.2.2.2.2.2.2.2.2.2.2.2.1 s.2.2.2.2.2.2.2.2.2.2.2.2.2.2.2.1 s.2.2.2.2.2.2.2.2.2.2.2.2.2.2.2.2) fuel (c56.2.Device.M.Inputs,c56.2.Device.M.Start,c56.2.Device.M.Next,c56.2.Device.M.Out,c56.2.Device.State,c56.2.Device.Ready,c56.2.Device.Latency.Step,c56.2.Device.Latency.Reset,c56.2.Device.Faults.Lost,c56.2.Device.Faults.Wrong,c56.2.Device.Faults.Crash,c56.2.Device.Seed,c56.2.Device.Steps,c56.2.Device.Resets,c56.2.Device.Time,[],0):Option ((Int×Int×List (List Int)×List (List Int)×Int×Bool×List Int×Int×Int×Int×Int×Int×Int×Int×Int×List Int)⊕(zae×List Int×Int))).bind (Sum.elim (fun (s:Int×Int×List (List Int)×List (List Int)×Int×Bool×List Int×Int×Int×Int×Int×Int×Int×Int×Int×List Int)=>zb0.k3 s.1 s.2.1 s.2.2.1 s.2.2.2.1 s.2.2.2.2.1 s.2.2.2.2.2.1 s.2.2.2.2.2.2.1 s.2.2.2.2.2.2.2.1 s.2.2.2.2.2.2.2.2.1 s.2.2.2.2.2.2.2.2.2.1 s.2.2.2.2.2.2.2.2.2.2.1 s.2.2.2.2.2.2.2.2.2.2.2.1 s.2.2.2.2.2.2.2.2.2.2.2.2.1 s.2.2.2.2.2.2.2.2.2.2.2.2.2.1 s.2.2.2.2.2.2.2.2.2.2.2.2.2.2.1 s.2.2.2.2.2.2.2.2.2.2.2.2.2.2.2) some)))))
def zdm.s2 (l_:List (List Int)) (y72:List (List Int)) (y73:Nat):Option ((List (List Int)×Nat)⊕List (List Int)) :=
 cond (decide ((↑y73:Int)<(↑(List.length l_):Int))) (idxn l_ y73 fun e80=>(zbt e80).bind fun c81=>chk (zbh (List.length y72+1) 24) (some (.inl ((y72++[c81]),(y73+1))))) (some (.inr y72))
def zdm (l_:List (List Int)):Option (List (List Int)) :=
 (iter (fun (s:List (List Int)×Nat)=>zdm.s2 l_ s.1 s.2) fuel ([],0):Option (List (List Int))).bind (fun (y68:List (List Int))=>some y68)
def zcw.s2 (q_:zah) (y82:List zab) (y83:Nat):Option ((List zab×Nat)⊕List zab) :=
 cond (decide ((↑y83:Int)<(↑(List.length q_.Obs.Traces):Int))) (idxn q_.Obs.Traces y83 fun e91=>(zbt e91.In).bind fun c92=>(zbt e91.Out).bind fun c93=>chk (zbh (List.length y82+1) 48) (some (.inl ((y82++[(⟨c92,c93⟩:zab)]),(y83+1))))) (some (.inr y82))
def zcw (q_:zah):Option (zah) :=
 (zdm q_.Device.M.Next).bind fun c51=>(zdm q_.Device.M.Out).bind fun c52=>(zbt q_.Device.Latency.Step).bind fun c53=>(iter (fun (s:List zab×Nat)=>zcw.s2 q_ s.1 s.2) fuel ([],0):Option (List zab)).bind (fun (y77:List zab)=>some (⟨(⟨(⟨q_.Device.M.Inputs,q_.Device.M.Start,c51,c52⟩:zaa),q_.Device.State,q_.Device.Ready,(⟨c53,q_.Device.Latency.Reset⟩:zbf),q_.Device.Faults,q_.Device.Seed,q_.Device.Steps,q_.Device.Resets,q_.Device.Time⟩:zae),(⟨q_.Obs.Inputs,y77⟩:zaw),q_.Votes,q_.Tries,q_.Asked,q_.Hits⟩:zah))
def ze3 (t_:zab):Option (zab) :=
 (zbt t_.In).bind fun c51=>(zbt t_.Out).bind fun c52=>some (⟨c51,c52⟩:zab)
def zc6.s2 (l_:List zab) (y75:List zab) (y76:Nat):Option ((List zab×Nat)⊕List zab) :=
 cond (decide ((↑y76:Int)<(↑(List.length l_):Int))) (idxn l_ y76 fun e83=>(ze3 e83).bind fun c84=>chk (zbh (List.length y75+1) 48) (some (.inl ((y75++[c84]),(y76+1))))) (some (.inr y75))
def zc6 (l_:List zab):Option (List zab) :=
 chk ((0:Int)≤0∧0≤((↑(List.length l_):Int)+1)∧zbh (Int.toNat ((↑(List.length l_):Int)+1)) 48) ((iter (fun (s:List zab×Nat)=>zc6.s2 l_ s.1 s.2) fuel ([],0):Option (List zab)).bind (fun (y70:List zab)=>some y70))
def zaj.s2 (x_:List zab) (target_:zab) (cmp_:zab→zab→Option Int) (i89:Int) (j90:Int):Option ((Int×Int)⊕Int) :=
 cond (decide (i89<j90)) (chk (inR (i89+j90)) (chk ((0:Int)≤(i89+j90)∧(i89+j90)≤18446744073709551615) (chk ((0:Int)≤(i89+j90)∧(i89+j90)≤18446744073709551615) (chk (inR ((i89+j90) / 2^1)) (idx x_ ((i89+j90) / 2^1) fun e106=>(cmp_ e106 target_).bind fun c107=>cond (decide (c107<0)) (chk (inR (((i89+j90) / 2^1)+1)) (some (.inl ((((i89+j90) / 2^1)+1),j90)))) (some (.inl (i89,((i89+j90) / 2^1))))))))) (some (.inr i89))
def zaj (x_:List zab) (target_:zab) (cmp_:zab→zab→Option Int):Option (Int×Bool) :=
 (iter (fun (s:Int×Int)=>zaj.s2 x_ target_ cmp_ s.1 s.2) fuel (0,(↑(List.length x_):Int)):Option (Int)).bind (fun (i81:Int)=>(cond (decide (i81<(↑(List.length x_):Int))) (idx x_ i81 fun e119=>(cmp_ e119 target_).bind fun c120=>some (decide (c120=0))) (some false):Option (Bool)).bind (fun (y117:Bool)=>some (i81,y117)))
def zfr (a_:zab) (b_:zab):Option (Int) :=
 (zc8 a_.In b_.In).bind fun c51=>chk ((0:Int)≤(min (min c51 (↑(List.length a_.Out):Int)) (↑(List.length b_.Out):Int))∧(min (min c51 (↑(List.length a_.Out):Int)) (↑(List.length b_.Out):Int))≤(↑(List.length a_.Out):Int)) (chk ((0:Int)≤(min (min c51 (↑(List.length a_.Out):Int)) (↑(List.length b_.Out):Int))∧(min (min c51 (↑(List.length a_.Out):Int)) (↑(List.length b_.Out):Int))≤(↑(List.length b_.Out):Int)) ((zc8 (List.take (Int.toNat (min (min c51 (↑(List.length a_.Out):Int)) (↑(List.length b_.Out):Int))) a_.Out) (List.take (Int.toNat (min (min c51 (↑(List.length a_.Out):Int)) (↑(List.length b_.Out):Int))) b_.Out)).bind fun c54=>cond (decide (c54<(min (min c51 (↑(List.length a_.Out):Int)) (↑(List.length b_.Out):Int)))) (some c54) (some (-1:Int))))
def zgb (u_:zab) (p1_:zab):Option (Bool) :=
 (zdo p1_.In u_.In).bind fun c51=>some c51
def zai.s2 (del_:zab→Option Bool) (y94:List zab) (i95:Int) (j96:Int):Option ((List zab×Int×Int)⊕(List zab×Int)) :=
 cond (decide (j96<(↑(List.length y94):Int))) (idx y94 j96 fun e107=>(del_ e107).bind fun c108=>cond ((!c108)) (idx y94 i95 fun e110=>chk (inR (i95+1)) (chk (inR (j96+1)) (some (.inl ((List.set y94 i95.toNat e107),(i95+1),(j96+1)))))) (chk (inR (j96+1)) (some (.inl (y94,i95,(j96+1)))))) (some (.inr (y94,i95)))
def zai.k3 (y84:List zab) (i85:Int):Option (List zab) :=
 chk ((0:Int)≤i85∧i85≤(↑(List.length y84):Int)∧0<List.length y84) (chk ((Int.toNat i85)≤List.length y84) (chk ((0:Int)≤i85∧i85≤(↑(List.length (List.take (Int.toNat i85) y84++List.replicate (List.length y84-(Int.toNat i85)) (⟨[],[]⟩:zab))):Int)∧0<List.length (List.take (Int.toNat i85) y84++List.replicate (List.length y84-(Int.toNat i85)) (⟨[],[]⟩:zab))) (some (List.take (Int.toNat i85) (List.take (Int.toNat i85) y84++List.replicate (List.length y84-(Int.toNat i85)) (⟨[],[]⟩:zab))))))
def zai (s_:List zab) (del_:zab→Option Bool):Option (List zab) :=
 (zan s_ del_).bind fun c51=>cond (decide (c51=(-1:Int))) (some s_) (chk (inR (c51+1)) ((iter (fun (s:List zab×Int×Int)=>zai.s2 del_ s.1 s.2.1 s.2.2) fuel (s_,c51,(c51+1)):Option (List zab×Int)).bind (fun (s:List zab×Int)=>zai.k3 s.1 s.2)))
def zdz (a_:zab) (b_:zab):Option (Int) :=
 (zeb a_.In b_.In).bind fun c51=>some c51
def zdt.s2 (l_:List zab) (t_:zab) (inside79:Bool) (y80:Nat):Option ((Bool×Nat)⊕(Bool⊕(List zab×Int))) :=
 cond (decide ((↑y80:Int)<(↑(List.length l_):Int))) (idxn l_ y80 fun e89=>(zfr e89 t_).bind fun c90=>cond (decide (0≤c90)) (some (.inr (.inr ([],13)))) (cond (inside79) (some (.inl (true,(y80+1)))) ((zdo e89.In t_.In).bind fun c93=>some (.inl (c93,(y80+1)))))) (some (.inr (.inl inside79)))
def zdt (l_:List zab) (t_:zab):Option (List zab×Int) :=
 (iter (fun (s:Bool×Nat)=>zdt.s2 l_ t_ s.1 s.2) fuel (false,0):Option (Bool⊕(List zab×Int))).bind (Sum.elim (fun (inside73:Bool)=>(cond (inside73) (some true) (some (decide ((↑(List.length t_.In):Int)=0))):Option (Bool)).bind (fun (y99:Bool)=>cond (y99) (some (l_,0)) ((zai l_ (fun u0=>zgb u0 t_)).bind fun c103=>cond (decide ((↑(List.length c103):Int)=10000)) (some ([],11)) ((zaj c103 t_ (fun u0 u1=>zdz u0 u1)).bind fun c105=>(ze3 t_).bind fun c106=>(zgw c103 c105.1 [c106]).bind fun c107=>some (c107,0))))) some)
def zew (o_:Int):Option (Bool) :=
 (cond (decide (o_<0)) (some true) (some (decide (1048576<o_))):Option (Bool)).bind (fun (y54:Bool)=>some y54)
def zfw (t_:zab) (inputs_:Int):Option (Int) :=
 (zeh t_.In inputs_).bind fun c51=>cond (decide (c51≠0)) (some c51) (cond (decide ((↑(List.length t_.Out):Int)≠(↑(List.length t_.In):Int))) (some 1) ((zb4 t_.Out (fun u0=>zew u0)).bind fun c54=>cond (c54) (some 2) (some 0)))
def zdn.s2 (o_:zaw) (l_:List zab) (y83:List zab) (y84:Nat):Option ((List zab×Nat)⊕(List zab⊕(zaw×Int))) :=
 cond (decide ((↑y84:Int)<(↑(List.length l_):Int))) (idxn l_ y84 fun e93=>(zfw e93 o_.Inputs).bind fun c94=>cond (decide (c94≠0)) (some (.inr (.inr (o_,c94)))) ((zdt y83 e93).bind fun c96=>cond (decide (c96.2≠0)) (some (.inr (.inr (o_,c96.2)))) (some (.inl (c96.1,(y84+1)))))) (some (.inr (.inl y83)))
def zdn (o_:zaw) (l_:List zab):Option (zaw×Int) :=
 (zc6 o_.Traces).bind fun c51=>(iter (fun (s:List zab×Nat)=>zdn.s2 o_ l_ s.1 s.2) fuel (c51,0):Option (List zab⊕(zaw×Int))).bind (Sum.elim (fun (y76:List zab)=>some ((⟨o_.Inputs,y76⟩:zaw),0)) some)
def zhz (o_:zaw) (t_:zab):Option (zaw×Int) :=
 (zdn o_ [t_]).bind fun c51=>some (c51.1,c51.2)
def zcu.s2 (l_:List (List Int)) (need_:Int) (y87:List (ByteArray×Int)) (y88:Nat):Option (((List (ByteArray×Int))×Nat)⊕(Unit⊕(List Int×Int×List (List Int)))) :=
 cond (decide ((↑y88:Int)<(↑(List.length l_):Int))) (idxn l_ y88 fun e97=>(zlc e97).bind fun c98=>chk (inR (((mget c98 y87).getD 0)+1)) (cond (decide (((mget c98 (mset c98 (((mget c98 y87).getD 0)+1) y87)).getD 0)=need_)) ((zbt e97).bind fun c101=>some (.inr (.inr (c101,0,l_)))) (some (.inl ((mset c98 (((mget c98 y87).getD 0)+1) y87),(y88+1)))))) (some (.inr (.inl ())))
def zcu (l_:List (List Int)) (need_:Int):Option (List Int×Int×List (List Int)) :=
 (cond (decide (need_<1)) (some true) (some (decide (9<need_))):Option (Bool)).bind (fun (y54:Bool)=>cond (y54) (some ([],2,l_)) ((iter (fun (s:(List (ByteArray×Int))×Nat)=>zcu.s2 l_ need_ s.1 s.2) fuel (([]:List (ByteArray×Int)),0):Option (Unit⊕(List Int×Int×List (List Int)))).bind (Sum.elim (fun (_:Unit)=>some ([],13,l_)) some)))
def zcd.k9 (y377:Int) (y381:Int) (y427:Int) (y428:Int) (y429:List (List Int)) (y430:List (List Int)) (y431:Int) (y432:Bool) (y433:List Int) (y434:Int) (y435:Int) (y436:Int) (y437:Int) (y438:Int) (y439:Int) (y440:Int) (y441:Int) (y442:List (List Int)) (answer443:List Int) (code444:Int):Option ((Int×Int×List (List Int)×List (List Int)×Int×Bool×List Int×Int×Int×Int×Int×Int×Int×Int×Int×Int×List (List Int)×List Int×Int×Int)⊕(Int×Int×List (List Int)×List (List Int)×Int×Bool×List Int×Int×Int×Int×Int×Int×Int×Int×Int×Int×List Int×Int)) :=
 some (.inl (y427,y428,y429,y430,y431,y432,y433,y434,y435,y436,y437,y438,y439,y440,y441,(mdI (y377+1)),y442,answer443,code444,(mdI (y381+1))))
def zcd.s10 (w_:List Int) (c53:zah) (y362:Int) (y363:Int) (y364:List (List Int)) (y365:List (List Int)) (y366:Int) (y367:Bool) (y368:List Int) (y369:Int) (y370:Int) (y371:Int) (y372:Int) (y373:Int) (y374:Int) (y375:Int) (y376:Int) (y377:Int) (y378:List (List Int)) (answer379:List Int) (code380:Int) (y381:Int):Option ((Int×Int×List (List Int)×List (List Int)×Int×Bool×List Int×Int×Int×Int×Int×Int×Int×Int×Int×Int×List (List Int)×List Int×Int×Int)⊕(Int×Int×List (List Int)×List (List Int)×Int×Bool×List Int×Int×Int×Int×Int×Int×Int×Int×Int×Int×List Int×Int)) :=
 cond (decide (y381<c53.Tries)) (((zb0 (⟨(⟨y362,y363,y364,y365⟩:zaa),y366,y367,(⟨y368,y369⟩:zbf),(⟨y370,y371,y372⟩:zbz),y373,y374,y375,y376⟩:zae) w_).bind fun c445=>cond (decide (c445.2.2≠0)) (some (.inl (c445.1.M.Inputs,c445.1.M.Start,c445.1.M.Next,c445.1.M.Out,c445.1.State,c445.1.Ready,c445.1.Latency.Step,c445.1.Latency.Reset,c445.1.Faults.Lost,c445.1.Faults.Wrong,c445.1.Faults.Crash,c445.1.Seed,c445.1.Steps,c445.1.Resets,c445.1.Time,y378,answer379,code380))) (chk (zbh (List.length y378+1) 24) ((zcu (y378++[c445.2.1]) c53.Votes).bind fun c448=>cond (decide (c448.2.1=0)) (some (.inr (.inr (c445.1.M.Inputs,c445.1.M.Start,c445.1.M.Next,c445.1.M.Out,c445.1.State,c445.1.Ready,c445.1.Latency.Step,c445.1.Latency.Reset,c445.1.Faults.Lost,c445.1.Faults.Wrong,c445.1.Faults.Crash,c445.1.Seed,c445.1.Steps,c445.1.Resets,c445.1.Time,(mdI (y377+1)),c448.1,c448.2.1)))) (some (.inl (c445.1.M.Inputs,c445.1.M.Start,c445.1.M.Next,c445.1.M.Out,c445.1.State,c445.1.Ready,c445.1.Latency.Step,c445.1.Latency.Reset,c445.1.Faults.Lost,c445.1.Faults.Wrong,c445.1.Faults.Crash,c445.1.Seed,c445.1.Steps,c445.1.Resets,c445.1.Time,c448.2.2,c448.1,c448.2.1))))):Option ((Int×Int×List (List Int)×List (List Int)×Int×Bool×List Int×Int×Int×Int×Int×Int×Int×Int×Int×List (List Int)×List Int×Int)⊕((Int×Int×List (List Int)×List (List Int)×Int×Bool×List Int×Int×Int×Int×Int×Int×Int×Int×Int×Int×List (List Int)×List Int×Int×Int)⊕(Int×Int×List (List Int)×List (List Int)×Int×Bool×List Int×Int×Int×Int×Int×Int×Int×Int×Int×Int×List Int×Int)))).bind (Sum.elim (fun (s:Int×Int×List (List Int)×List (List Int)×Int×Bool×List Int×Int×Int×Int×Int×Int×Int×Int×Int×List (List Int)×List Int×Int)=>zcd.k9 y377 y381 s.1 s.2.1 s.2.2.1 s.2.2.2.1 s.2.2.2.2.1 s.2.2.2.2.2.1 s.2.2.2.2.2.2.1 s.2.2.2.2.2.2.2.1 s.2.2.2.2.2.2.2.2.1 s.2.2.2.2.2.2.2.2.2.1 s.2.2.2.2.2.2.2.2.2.2.1 s.2.2.2.2.2.2.2.2.2.2.2.1 s.2.2.2.2.2.2.2.2.2.2.2.2.1 s.2.2.2.2.2.2.2.2.2.2.2.2.2.1 s.2.2.2.2.2.2.2.2.2.2.2.2.2.2.1 s.2.2.2.2.2.2.2.2.2.2.2.2.2.2.2.1 s.2.2.2.2.2.2.2.2.2.2.2.2.2.2.2.2.1 s.2.2.2.2.2.2.2.2.2.2.2.2.2.2.2.2.2) some)) (some (.inr (y362,y363,y364,y365,y366,y367,y368,y369,y370,y371,y372,y373,y374,y375,y376,y377,answer379,code380)))
def zcd.k11 (w_:List Int) (c53:zah) (y252:Int) (y253:Int) (y254:List (List Int)) (y255:List (List Int)) (y256:Int) (y257:Bool) (y258:List Int) (y259:Int) (y260:Int) (y261:Int) (y262:Int) (y263:Int) (y264:Int) (y265:Int) (y266:Int) (y267:Int) (answer268:List Int) (code269:Int):Option (zah×List Int×Int) :=
 cond (decide (code269≠0)) (some ((⟨(⟨(⟨y252,y253,y254,y255⟩:zaa),y256,y257,(⟨y258,y259⟩:zbf),(⟨y260,y261,y262⟩:zbz),y263,y264,y265,y266⟩:zae),c53.Obs,c53.Votes,c53.Tries,y267,c53.Hits⟩:zah),[],code269)) ((zbt w_).bind fun c471=>(zbt answer268).bind fun c472=>(zhz c53.Obs (⟨c471,c472⟩:zab)).bind fun c473=>cond (decide (c473.2≠0)) (some ((⟨(⟨(⟨y252,y253,y254,y255⟩:zaa),y256,y257,(⟨y258,y259⟩:zbf),(⟨y260,y261,y262⟩:zbz),y263,y264,y265,y266⟩:zae),c53.Obs,c53.Votes,c53.Tries,y267,c53.Hits⟩:zah),[],c473.2)) ((zbt answer268).bind fun c475=>some ((⟨(⟨(⟨y252,y253,y254,y255⟩:zaa),y256,y257,(⟨y258,y259⟩:zbf),(⟨y260,y261,y262⟩:zbz),y263,y264,y265,y266⟩:zae),c473.1,c53.Votes,c53.Tries,y267,c53.Hits⟩:zah),c475,0)))
def zcd (q_:zah) (w_:List Int):Option (zah×List Int×Int) :=
 (zeh w_ q_.Device.M.Inputs).bind fun c51=>cond (decide (c51≠0)) (some (q_,[],c51)) ((zcw q_).bind fun c53=>(zfv c53.Obs w_).bind fun c54=>cond (c54.2) ((zbt c54.1).bind fun c56=>some ((⟨c53.Device,c53.Obs,c53.Votes,c53.Tries,c53.Asked,(mdI (c53.Hits+1))⟩:zah),c56,0)) ((iter (fun (s:Int×Int×List (List Int)×List (List Int)×Int×Bool×List Int×Int×Int×Int×Int×Int×Int×Int×Int×Int×List (List Int)×List Int×Int×Int)=>zcd.s10 w_ c53 s.1 s.2.1 s.2.2.1 s.2.2.2.1 s.2.2.2.2.1 s.2.2.2.2.2.1 s.2.2.2.2.2.2.1 s.2.2.2.2.2.2.2.1 s.2.2.2.2.2.2.2.2.1 s.2.2.2.2.2.2.2.2.2.1 s.2.2.2.2.2.2.2.2.2.2.1 s.2.2.2.2.2.2.2.2.2.2.2.1 s.2.2.2.2.2.2.2.2.2.2.2.2.1 s.2.2.2.2.2.2.2.2.2.2.2.2.2.1 s.2.2.2.2.2.2.2.2.2.2.2.2.2.2.1 s.2.2.2.2.2.2.2.2.2.2.2.2.2.2.2.1 s.2.2.2.2.2.2.2.2.2.2.2.2.2.2.2.2.1 s.2.2.2.2.2.2.2.2.2.2.2.2.2.2.2.2.2.1 s.2.2.2.2.2.2.2.2.2.2.2.2.2.2.2.2.2.2.1 s.2.2.2.2.2.2.2.2.2.2.2.2.2.2.2.2.2.2.2) fuel (c53.Device.M.Inputs,c53.Device.M.Start,c53.Device.M.Next,c53.Device.M.Out,c53.Device.State,c53.Device.Ready,c53.Device.Latency.Step,c53.Device.Latency.Reset,c53.Device.Faults.Lost,c53.Device.Faults.Wrong,c53.Device.Faults.Crash,c53.Device.Seed,c53.Device.Steps,c53.Device.Resets,c53.Device.Time,c53.Asked,[],[],14,0):Option (Int×Int×List (List Int)×List (List Int)×Int×Bool×List Int×Int×Int×Int×Int×Int×Int×Int×Int×Int×List Int×Int)).bind (fun (s:Int×Int×List (List Int)×List (List Int)×Int×Bool×List Int×Int×Int×Int×Int×Int×Int×Int×Int×Int×List Int×Int)=>zcd.k11 w_ c53 s.1 s.2.1 s.2.2.1 s.2.2.2.1 s.2.2.2.2.1 s.2.2.2.2.2.1 s.2.2.2.2.2.2.1 s.2.2.2.2.2.2.2.1 s.2.2.2.2.2.2.2.2.1 s.2.2.2.2.2.2.2.2.2.1 s.2.2.2.2.2.2.2.2.2.2.1 s.2.2.2.2.2.2.2.2.2.2.2.1 s.2.2.2.2.2.2.2.2.2.2.2.2.1 s.2.2.2.2.2.2.2.2.2.2.2.2.2.1 s.2.2.2.2.2.2.2.2.2.2.2.2.2.2.1 s.2.2.2.2.2.2.2.2.2.2.2.2.2.2.2.1 s.2.2.2.2.2.2.2.2.2.2.2.2.2.2.2.2.1 s.2.2.2.2.2.2.2.2.2.2.2.2.2.2.2.2.2)))
def za9.s2 (q_:zah) (b_:zco) (y78:Nat):Option (Nat⊕(Unit⊕(zah×zaf×Int))) :=
 cond (decide ((↑y78:Int)<(↑(List.length b_.Words):Int))) (idxn b_.Words y78 fun e85=>(zeh e85 b_.M.Inputs).bind fun c86=>cond (decide (c86≠0)) (some (.inr (.inr (q_,(⟨0,[]⟩:zaf),c86)))) (some (.inl (y78+1)))) (some (.inr (.inl ())))
def za9.k20 (c695:zah×List Int×Int) (y700:Int) (y701:Int) (y702:List (List Int)) (y703:List (List Int)) (y704:Int) (y705:List zab) (e706:Int):Option ((Int×Int×List (List Int)×List (List Int)×Int×Bool×List Int×Int×Int×Int×Int×Int×Int×Int×Int×Int×List zab×Int×Int×Int×Int×Int×Int×List (List Int)×List (List Int)×Int×List zab)⊕((Int×Int×List (List Int)×List (List Int)×Int×Bool×List Int×Int×Int×Int×Int×Int×Int×Int×Int×Int×List zab×Int×Int×Int×Int×Int×Int×List (List Int)×List (List Int)×Int×List zab×Nat)⊕((Int×Int×List (List Int)×List (List Int)×Int×Bool×List Int×Int×Int×Int×Int×Int×Int×Int×Int×Int×List zab×Int×Int×Int×Int×Int×Int×List (List Int)×List (List Int)×Int×List zab)⊕(zah×zaf×Int)))) :=
 cond (decide (e706≠0)) (some (.inr (.inr (.inr (c695.1,(⟨0,[]⟩:zaf),e706))))) (some (.inl (c695.1.Device.M.Inputs,c695.1.Device.M.Start,c695.1.Device.M.Next,c695.1.Device.M.Out,c695.1.Device.State,c695.1.Device.Ready,c695.1.Device.Latency.Step,c695.1.Device.Latency.Reset,c695.1.Device.Faults.Lost,c695.1.Device.Faults.Wrong,c695.1.Device.Faults.Crash,c695.1.Device.Seed,c695.1.Device.Steps,c695.1.Device.Resets,c695.1.Device.Time,c695.1.Obs.Inputs,c695.1.Obs.Traces,c695.1.Votes,c695.1.Tries,c695.1.Asked,c695.1.Hits,y700,y701,y702,y703,y704,y705)))
def za9.k21 (y546:Nat) (y665:Int) (y666:Int) (y667:List (List Int)) (y668:List (List Int)) (y669:Int) (y670:Bool) (y671:List Int) (y672:Int) (y673:Int) (y674:Int) (y675:Int) (y676:Int) (y677:Int) (y678:Int) (y679:Int) (y680:Int) (y681:List zab) (y682:Int) (y683:Int) (y684:Int) (y685:Int) (y686:Int) (y687:Int) (y688:List (List Int)) (y689:List (List Int)) (y690:Int) (y691:List zab):Option ((Int×Int×List (List Int)×List (List Int)×Int×Bool×List Int×Int×Int×Int×Int×Int×Int×Int×Int×Int×List zab×Int×Int×Int×Int×Int×Int×List (List Int)×List (List Int)×Int×List zab×Nat)⊕((Int×Int×List (List Int)×List (List Int)×Int×Bool×List Int×Int×Int×Int×Int×Int×Int×Int×Int×Int×List zab×Int×Int×Int×Int×Int×Int×List (List Int)×List (List Int)×Int×List zab)⊕(zah×zaf×Int))) :=
 some (.inl (y665,y666,y667,y668,y669,y670,y671,y672,y673,y674,y675,y676,y677,y678,y679,y680,y681,y682,y683,y684,y685,y686,y687,y688,y689,y690,y691,(y546+1)))
def za9.s22 (b_:zco) (y519:Int) (y520:Int) (y521:List (List Int)) (y522:List (List Int)) (y523:Int) (y524:Bool) (y525:List Int) (y526:Int) (y527:Int) (y528:Int) (y529:Int) (y530:Int) (y531:Int) (y532:Int) (y533:Int) (y534:Int) (y535:List zab) (y536:Int) (y537:Int) (y538:Int) (y539:Int) (y540:Int) (y541:Int) (y542:List (List Int)) (y543:List (List Int)) (y544:Int) (y545:List zab) (y546:Nat):Option ((Int×Int×List (List Int)×List (List Int)×Int×Bool×List Int×Int×Int×Int×Int×Int×Int×Int×Int×Int×List zab×Int×Int×Int×Int×Int×Int×List (List Int)×List (List Int)×Int×List zab×Nat)⊕((Int×Int×List (List Int)×List (List Int)×Int×Bool×List Int×Int×Int×Int×Int×Int×Int×Int×Int×Int×List zab×Int×Int×Int×Int×Int×Int×List (List Int)×List (List Int)×Int×List zab)⊕(zah×zaf×Int))) :=
 cond (decide ((↑y546:Int)<(↑(List.length b_.Words):Int))) ((idxn b_.Words y546 fun e692=>(zdb (⟨(⟨y540,y541,y542,y543⟩:zaa),(⟨y544,y545⟩:zaf)⟩:zbb) e692).bind fun c693=>cond ((!c693.1)) (some (.inl (y519,y520,y521,y522,y523,y524,y525,y526,y527,y528,y529,y530,y531,y532,y533,y534,y535,y536,y537,y538,y539,y540,y541,y542,y543,y544,c693.2.report.Changes))) ((zcd (⟨(⟨(⟨y519,y520,y521,y522⟩:zaa),y523,y524,(⟨y525,y526⟩:zbf),(⟨y527,y528,y529⟩:zbz),y530,y531,y532,y533⟩:zae),(⟨y534,y535⟩:zaw),y536,y537,y538,y539⟩:zah) e692).bind fun c695=>(cond (decide (c695.2.2=0)) ((zdl (⟨(⟨y540,y541,y542,y543⟩:zaa),(⟨y544,c693.2.report.Changes⟩:zaf)⟩:zbb) e692 c695.2.1).bind fun c708=>some (c708.2.m.Inputs,c708.2.m.Start,c708.2.m.Next,c708.2.m.Out,c708.2.report.Run,c708.2.report.Changes,c708.1)) (some (y540,y541,y542,y543,y544,c693.2.report.Changes,c695.2.2)):Option (Int×Int×List (List Int)×List (List Int)×Int×List zab×Int)).bind (fun (s:Int×Int×List (List Int)×List (List Int)×Int×List zab×Int)=>za9.k20 c695 s.1 s.2.1 s.2.2.1 s.2.2.2.1 s.2.2.2.2.1 s.2.2.2.2.2.1 s.2.2.2.2.2.2)):Option ((Int×Int×List (List Int)×List (List Int)×Int×Bool×List Int×Int×Int×Int×Int×Int×Int×Int×Int×Int×List zab×Int×Int×Int×Int×Int×Int×List (List Int)×List (List Int)×Int×List zab)⊕((Int×Int×List (List Int)×List (List Int)×Int×Bool×List Int×Int×Int×Int×Int×Int×Int×Int×Int×Int×List zab×Int×Int×Int×Int×Int×Int×List (List Int)×List (List Int)×Int×List zab×Nat)⊕((Int×Int×List (List Int)×List (List Int)×Int×Bool×List Int×Int×Int×Int×Int×Int×Int×Int×Int×Int×List zab×Int×Int×Int×Int×Int×Int×List (List Int)×List (List Int)×Int×List zab)⊕(zah×zaf×Int))))).bind (Sum.elim (fun (s:Int×Int×List (List Int)×List (List Int)×Int×Bool×List Int×Int×Int×Int×Int×Int×Int×Int×Int×Int×List zab×Int×Int×Int×Int×Int×Int×List (List Int)×List (List Int)×Int×List zab)=>za9.k21 y546 s.1 s.2.1 s.2.2.1 s.2.2.2.1 s.2.2.2.2.1 s.2.2.2.2.2.1 s.2.2.2.2.2.2.1 s.2.2.2.2.2.2.2.1 s.2.2.2.2.2.2.2.2.1 s.2.2.2.2.2.2.2.2.2.1 s.2.2.2.2.2.2.2.2.2.2.1 s.2.2.2.2.2.2.2.2.2.2.2.1 s.2.2.2.2.2.2.2.2.2.2.2.2.1 s.2.2.2.2.2.2.2.2.2.2.2.2.2.1 s.2.2.2.2.2.2.2.2.2.2.2.2.2.2.1 s.2.2.2.2.2.2.2.2.2.2.2.2.2.2.2.1 s.2.2.2.2.2.2.2.2.2.2.2.2.2.2.2.2.1 s.2.2.2.2.2.2.2.2.2.2.2.2.2.2.2.2.2.1 s.2.2.2.2.2.2.2.2.2.2.2.2.2.2.2.2.2.2.1 s.2.2.2.2.2.2.2.2.2.2.2.2.2.2.2.2.2.2.2.1 s.2.2.2.2.2.2.2.2.2.2.2.2.2.2.2.2.2.2.2.2.1 s.2.2.2.2.2.2.2.2.2.2.2.2.2.2.2.2.2.2.2.2.2.1 s.2.2.2.2.2.2.2.2.2.2.2.2.2.2.2.2.2.2.2.2.2.2.1 s.2.2.2.2.2.2.2.2.2.2.2.2.2.2.2.2.2.2.2.2.2.2.2.1 s.2.2.2.2.2.2.2.2.2.2.2.2.2.2.2.2.2.2.2.2.2.2.2.2.1 s.2.2.2.2.2.2.2.2.2.2.2.2.2.2.2.2.2.2.2.2.2.2.2.2.2.1 s.2.2.2.2.2.2.2.2.2.2.2.2.2.2.2.2.2.2.2.2.2.2.2.2.2.2) some)) (some (.inr (.inl (y519,y520,y521,y522,y523,y524,y525,y526,y527,y528,y529,y530,y531,y532,y533,y534,y535,y536,y537,y538,y539,y540,y541,y542,y543,y544,y545))))
def za9.k23 (y403:Int) (y404:Int) (y405:List (List Int)) (y406:List (List Int)) (y407:Int) (y408:Bool) (y409:List Int) (y410:Int) (y411:Int) (y412:Int) (y413:Int) (y414:Int) (y415:Int) (y416:Int) (y417:Int) (y418:Int) (y419:List zab) (y420:Int) (y421:Int) (y422:Int) (y423:Int) (y424:Int) (y425:Int) (y426:List (List Int)) (y427:List (List Int)) (y428:Int) (y429:List zab):Option (zah×zaf×Int) :=
 some ((⟨(⟨(⟨y403,y404,y405,y406⟩:zaa),y407,y408,(⟨y409,y410⟩:zbf),(⟨y411,y412,y413⟩:zbz),y414,y415,y416,y417⟩:zae),(⟨y418,y419⟩:zaw),y420,y421,y422,y423⟩:zah),(⟨y428,y429⟩:zaf),0)
def za9 (q_:zah) (b_:zco):Option (zah×zaf×Int) :=
 (za4 b_.M).bind fun c51=>cond (decide (c51≠0)) (some (q_,(⟨0,[]⟩:zaf),c51)) (cond (decide (10000<(↑(List.length b_.Words):Int))) (some (q_,(⟨0,[]⟩:zaf),11)) ((iter (fun (s:Nat)=>za9.s2 q_ b_ s) fuel 0:Option (Unit⊕(zah×zaf×Int))).bind (Sum.elim (fun (_:Unit)=>cond (decide (q_.Obs.Inputs≠b_.M.Inputs)) (some (q_,(⟨0,[]⟩:zaf),15)) ((iter (fun (s:Int×Int×List (List Int)×List (List Int)×Int×Bool×List Int×Int×Int×Int×Int×Int×Int×Int×Int×Int×List zab×Int×Int×Int×Int×Int×Int×List (List Int)×List (List Int)×Int×List zab×Nat)=>za9.s22 b_ s.1 s.2.1 s.2.2.1 s.2.2.2.1 s.2.2.2.2.1 s.2.2.2.2.2.1 s.2.2.2.2.2.2.1 s.2.2.2.2.2.2.2.1 s.2.2.2.2.2.2.2.2.1 s.2.2.2.2.2.2.2.2.2.1 s.2.2.2.2.2.2.2.2.2.2.1 s.2.2.2.2.2.2.2.2.2.2.2.1 s.2.2.2.2.2.2.2.2.2.2.2.2.1 s.2.2.2.2.2.2.2.2.2.2.2.2.2.1 s.2.2.2.2.2.2.2.2.2.2.2.2.2.2.1 s.2.2.2.2.2.2.2.2.2.2.2.2.2.2.2.1 s.2.2.2.2.2.2.2.2.2.2.2.2.2.2.2.2.1 s.2.2.2.2.2.2.2.2.2.2.2.2.2.2.2.2.2.1 s.2.2.2.2.2.2.2.2.2.2.2.2.2.2.2.2.2.2.1 s.2.2.2.2.2.2.2.2.2.2.2.2.2.2.2.2.2.2.2.1 s.2.2.2.2.2.2.2.2.2.2.2.2.2.2.2.2.2.2.2.2.1 s.2.2.2.2.2.2.2.2.2.2.2.2.2.2.2.2.2.2.2.2.2.1 s.2.2.2.2.2.2.2.2.2.2.2.2.2.2.2.2.2.2.2.2.2.2.1 s.2.2.2.2.2.2.2.2.2.2.2.2.2.2.2.2.2.2.2.2.2.2.2.1 s.2.2.2.2.2.2.2.2.2.2.2.2.2.2.2.2.2.2.2.2.2.2.2.2.1 s.2.2.2.2.2.2.2.2.2.2.2.2.2.2.2.2.2.2.2.2.2.2.2.2.2.1 s.2.2.2.2.2.2.2.2.2.2.2.2.2.2.2.2.2.2.2.2.2.2.2.2.2.2.1 s.2.2.2.2.2.2.2.2.2.2.2.2.2.2.2.2.2.2.2.2.2.2.2.2.2.2.2) fuel (q_.Device.M.Inputs,q_.Device.M.Start,q_.Device.M.Next,q_.Device.M.Out,q_.Device.State,q_.Device.Ready,q_.Device.Latency.Step,q_.Device.Latency.Reset,q_.Device.Faults.Lost,q_.Device.Faults.Wrong,q_.Device.Faults.Crash,q_.Device.Seed,q_.Device.Steps,q_.Device.Resets,q_.Device.Time,q_.Obs.Inputs,q_.Obs.Traces,q_.Votes,q_.Tries,q_.Asked,q_.Hits,b_.M.Inputs,b_.M.Start,b_.M.Next,b_.M.Out,0,[],0):Option ((Int×Int×List (List Int)×List (List Int)×Int×Bool×List Int×Int×Int×Int×Int×Int×Int×Int×Int×Int×List zab×Int×Int×Int×Int×Int×Int×List (List Int)×List (List Int)×Int×List zab)⊕(zah×zaf×Int))).bind (Sum.elim (fun (s:Int×Int×List (List Int)×List (List Int)×Int×Bool×List Int×Int×Int×Int×Int×Int×Int×Int×Int×Int×List zab×Int×Int×Int×Int×Int×Int×List (List Int)×List (List Int)×Int×List zab)=>za9.k23 s.1 s.2.1 s.2.2.1 s.2.2.2.1 s.2.2.2.2.1 s.2.2.2.2.2.1 s.2.2.2.2.2.2.1 s.2.2.2.2.2.2.2.1 s.2.2.2.2.2.2.2.2.1 s.2.2.2.2.2.2.2.2.2.1 s.2.2.2.2.2.2.2.2.2.2.1 s.2.2.2.2.2.2.2.2.2.2.2.1 s.2.2.2.2.2.2.2.2.2.2.2.2.1 s.2.2.2.2.2.2.2.2.2.2.2.2.2.1 s.2.2.2.2.2.2.2.2.2.2.2.2.2.2.1 s.2.2.2.2.2.2.2.2.2.2.2.2.2.2.2.1 s.2.2.2.2.2.2.2.2.2.2.2.2.2.2.2.2.1 s.2.2.2.2.2.2.2.2.2.2.2.2.2.2.2.2.2.1 s.2.2.2.2.2.2.2.2.2.2.2.2.2.2.2.2.2.2.1 s.2.2.2.2.2.2.2.2.2.2.2.2.2.2.2.2.2.2.2.1 s.2.2.2.2.2.2.2.2.2.2.2.2.2.2.2.2.2.2.2.2.1 s.2.2.2.2.2.2.2.2.2.2.2.2.2.2.2.2.2.2.2.2.2.1 s.2.2.2.2.2.2.2.2.2.2.2.2.2.2.2.2.2.2.2.2.2.2.1 s.2.2.2.2.2.2.2.2.2.2.2.2.2.2.2.2.2.2.2.2.2.2.2.1 s.2.2.2.2.2.2.2.2.2.2.2.2.2.2.2.2.2.2.2.2.2.2.2.2.1 s.2.2.2.2.2.2.2.2.2.2.2.2.2.2.2.2.2.2.2.2.2.2.2.2.2.1 s.2.2.2.2.2.2.2.2.2.2.2.2.2.2.2.2.2.2.2.2.2.2.2.2.2.2) some))) some)))
def zcm.s2 (a_:List zab) (b_:List zab) (i141:Nat):Option (Nat⊕(Unit⊕Bool)) :=
 cond (decide ((↑i141:Int)<(↑(List.length a_):Int))) ((idxn a_ i141 fun e175=>idxn b_ i141 fun e176=>(zd6 e175.In e176.In).bind fun c177=>cond ((!c177)) (some true) (idxn a_ i141 fun e179=>idxn b_ i141 fun e180=>(zd6 e179.Out e180.Out).bind fun c181=>some (!c181)):Option (Bool)).bind (fun (y174:Bool)=>cond (y174) (some (.inr (.inr false))) (some (.inl (i141+1))))) (some (.inr (.inl ())))
def zcm (a_:List zab) (b_:List zab):Option (Bool) :=
 cond (decide ((↑(List.length a_):Int)≠(↑(List.length b_):Int))) (some false) ((iter (fun (s:Nat)=>zcm.s2 a_ b_ s) fuel 0:Option (Unit⊕Bool)).bind (Sum.elim (fun (_:Unit)=>some true) some))
def zfn (a_:zaf) (b_:zaf):Option (Bool) :=
 (cond (decide (a_.Run=b_.Run)) ((zcm a_.Changes b_.Changes).bind fun c57=>some c57) (some false):Option (Bool)).bind (fun (y55:Bool)=>some y55)
def zmz (m_:zaa) (extra_:Int):Option (Bool) :=
 (cond (decide ((↑(List.length m_.Next):Int)≤6)) (cond (decide (m_.Inputs≤3)) (some (decide (extra_≤2))) (some false)) (some false):Option (Bool)).bind (fun (y55:Bool)=>some y55)
def zmx (d_:zae):Option (Bool) :=
 (cond (decide (d_.Steps<562949953421312)) (cond (decide (d_.Resets<562949953421312)) (some (decide (d_.Time<562949953421312))) (some false)) (some false):Option (Bool)).bind (fun (y55:Bool)=>some y55)
def zjn (inputs_:Int):Option (zaw×Int) :=
 (cond (decide (inputs_<1)) (some true) (some (decide (64<inputs_))):Option (Bool)).bind (fun (y54:Bool)=>cond (y54) (some ((⟨0,[]⟩:zaw),2)) (some ((⟨inputs_,[]⟩:zaw),0)))
def zjh (d_:zae) (votes_:Int) (tries_:Int):Option (zah×Int) :=
 (zeo d_).bind fun c51=>cond (decide (c51≠0)) (some ((⟨(⟨(⟨0,0,[],[]⟩:zaa),0,false,(⟨[],0⟩:zbf),(⟨0,0,0⟩:zbz),0,0,0,0⟩:zae),(⟨0,[]⟩:zaw),0,0,0,0⟩:zah),c51)) ((cond (decide (votes_<1)) (some true) (cond (decide (9<votes_)) (some true) (cond (decide (tries_<votes_)) (some true) (some (decide (64<tries_))))):Option (Bool)).bind (fun (y58:Bool)=>cond (y58) (some ((⟨(⟨(⟨0,0,[],[]⟩:zaa),0,false,(⟨[],0⟩:zbf),(⟨0,0,0⟩:zbz),0,0,0,0⟩:zae),(⟨0,[]⟩:zaw),0,0,0,0⟩:zah),2)) ((zjn d_.M.Inputs).bind fun c63=>cond (decide (c63.2≠0)) (some ((⟨(⟨(⟨0,0,[],[]⟩:zaa),0,false,(⟨[],0⟩:zbf),(⟨0,0,0⟩:zbz),0,0,0,0⟩:zae),(⟨0,[]⟩:zaw),0,0,0,0⟩:zah),c63.2)) ((zcw (⟨d_,c63.1,votes_,tries_,0,0⟩:zah)).bind fun c65=>some (c65,0)))))
def zdw.s2 (a_:zaa) (b_:zaa) (y82:Nat):Option (Nat⊕(Unit⊕Int)) :=
 cond (decide ((↑y82:Int)<2)) (cond (decide ((↑y82:Int)=0)) ((za4 a_).bind fun c93=>cond (decide (c93≠0)) (some (.inr (.inr c93))) (some (.inl (y82+1)))) (chk ((↑y82:Int)=1) ((za4 b_).bind fun c96=>cond (decide (c96≠0)) (some (.inr (.inr c96))) (some (.inl (y82+1)))))) (some (.inr (.inl ())))
def zdw (a_:zaa) (b_:zaa):Option (Int) :=
 (iter (fun (s:Nat)=>zdw.s2 a_ b_ s) fuel 0:Option (Unit⊕Int)).bind (Sum.elim (fun (_:Unit)=>cond (decide (a_.Inputs≠b_.Inputs)) (some 15) (some 0)) some)
def zfh (a_:zaa) (b_:zaa):Option (List Int×Bool×Int) :=
 (zdw a_ b_).bind fun c51=>cond (decide (c51≠0)) (some ([],false,c51)) ((za8 a_ b_ (⟨a_.Start,b_.Start⟩:zc0)).bind fun c53=>some (c53.1,c53.2,0))
def zh6 (a_:zaa) (b_:zaa):Option (Bool×Int) :=
 (zfh a_ b_).bind fun c51=>(cond (decide (c51.2.2=0)) (some (!c51.2.1)) (some false):Option (Bool)).bind (fun (y55:Bool)=>some (y55,c51.2.2))
def zd9 (a_:zaa) (d_:zae) (extra_:Int):Option (Bool) :=
 ((zmz a_ extra_).bind fun c60=>cond ((!c60)) (some true) (cond (decide (9<(↑(List.length d_.M.Next):Int))) (some true) (cond (decide (20<(↑(List.length d_.Latency.Step):Int))) (some true) ((zmx d_).bind fun c64=>cond ((!c64)) (some true) (some (!(decide (d_.Faults.Lost=0)&&(decide (d_.Faults.Wrong=0)&&(decide (d_.Faults.Crash=0)&&true)))))))):Option (Bool)).bind (fun (y59:Bool)=>cond (y59) ((zg9).bind fun c67=>some c67) ((zep a_ extra_).bind fun c68=>(zav a_ d_.M extra_).bind fun c69=>(zjh d_ 1 1).bind fun c70=>(za0 a_).bind fun c71=>(cond (decide (c68.2≠0)) (some true) (cond (decide (c69.2≠0)) (some true) (cond (decide (c70.2≠0)) (some true) (some (decide (c71.2≠0))))):Option (Bool)).bind (fun (y77:Bool)=>cond (y77) ((zg9).bind fun c92=>some c92) ((za9 c70.1 c68.1).bind fun c93=>(zh6 a_ d_.M).bind fun c94=>(cond (decide (c93.2.2≠0)) (some true) (cond (decide (c94.2≠0)) (some true) ((zfn c69.1 c93.2.1).bind fun c105=>cond ((!c105)) (some true) (cond (c94.1) (some (decide (0<(↑(List.length c69.1.Changes):Int)))) (some false)))):Option (Bool)).bind (fun (y102:Bool)=>cond (y102) (some false) ((cond (c94.1) ((zg9).bind fun c123=>some c123) (cond (decide (0<(↑(List.length c69.1.Changes):Int))) ((zg9).bind fun c125=>some c125) (chk (inR ((↑(List.length c71.1.Next):Int)+extra_)) (cond (decide (((↑(List.length c71.1.Next):Int)+extra_)<(↑(List.length d_.M.Next):Int))) ((zg9).bind fun c128=>some c128) (some false)))):Option (Bool)).bind (fun (y121:Bool)=>some y121)))))))
end
section
section
variable {S R A B α β:Type}
theorem zb1 {step:S→Option (S⊕R)} (I:S→Prop) (m:S→Nat) (Q:R→Prop) (h:∀ s,I s→(∃ s',step s=some (.inl s')∧I s'∧m s'<m s)∨∃ r,step s=some (.inr r)∧Q r) :
  ∀ (n:Nat) (s:S),I s→m s<n→∃ r,iter step n s=some r∧Q r
 | 0,_,_,hm=>absurd hm (Nat.not_lt_zero _)
 | n+1,s,hi,hm=>by
  unfold iter;rcases h s hi with ⟨s',e,hi',hm'⟩ | ⟨r,e,hq⟩
  ·rw [e];exact zb1 I m Q h n s' hi' (by omega)
  ·rw [e];exact ⟨r,rfl,hq⟩
theorem zgs {step:S→Option (S⊕R)} {r:R} (I:S→Prop) (m:S→Nat) (h:∀ s,I s→(∃ s',step s=some (.inl s')∧I s'∧m s'<m s)∨step s=some (.inr r)) {n:Nat} {s:S} (hi:I s) (hm:m s<n):iter step n s=some r:=by
 obtain ⟨r',e,rfl⟩:=zb1 I m (fun r'=>r'=r) (fun s hs=>(h s hs).imp id fun e=>⟨r,e,rfl⟩) n s hi hm;exact e
def walk (g:A→Nat→α→Option (A⊕R)) (fin:A→Option R):A→Nat→List α→Option R
 | a,_,[]=>fin a
 | a,i,x::l=>(g a i x).bind (Sum.elim (fun a'=>walk g fin a' (i+1) l) some)
theorem zau {l:List α} {i:Nat} {x:α} {k:α→Option β} (h:l[i]?=some x):idxn l i k=k x:=by unfold idxn;rw [h]
theorem zcs {l:List α} {n:Int} {i:Nat} {x:α} {k:α→Option β} (hn:n=(i:Int)) (h:l[i]?=some x):idx l n k=k x:=by
 subst hn;unfold idx;rw [if_pos (by omega),Int.toNat_natCast,h]
theorem zar {c:Prop} [Decidable c] {k:Option α} (h:c):chk c k=k:=by unfold chk;rw [if_pos h]
theorem zao {a:α} {f:α→Option β}:(some a).bind f=f a:=(Option.bind_some a f).trans (Eq.trans rfl rfl)
theorem zbg:100000000000000<fuel:=by unfold fuel;omega
theorem zfl {l:List α} {i:Nat} {x:α} (h:l[i]?=some x):decide ((↑i:Int)<(↑l.length:Int))=true:=by
 have:=(zkI.1 h).1;simpa using this
theorem zfd (l:List α):decide ((↑l.length:Int)<(↑l.length:Int))=false:=by simp
def scan (g:Nat→α→Option R):Nat→List α→Option R
 | _,[]=>none
 | i,x::l=>match g i x with | some r=>some r | none=>scan g (i+1) l
theorem zhd {g:Nat→α→Option R}:∀ {l:List α} {j:Nat},scan g j l=none↔∀ i x,l[i]?=some x→g (j+i) x=none
 | [],j=>by simp [scan]
 | y::l,j=>by
  constructor
  ·intro h i x hx;unfold scan at h;cases e:g j y with
   | some r=>rw [e] at h;cases h
   | none =>
    rw [e] at h
    match i,hx with
    | 0,hx =>
     simp at hx;subst hx;exact e
    | i+1,hx =>
     have:=(zhd (g:=g) (l:=l) (j:=j+1)).1 h i x (by simpa using hx)
     rwa [show j+1+i=j+(i+1) by omega] at this
  ·intro h;unfold scan;have h0:=h 0 y rfl;rw [Nat.add_zero] at h0;rw [h0]
   exact (zhd (g:=g) (l:=l) (j:=j+1)).2 fun i x hx=>by
    have:=h (i+1) x (by simpa using hx)
    rwa [show j+(i+1)=j+1+i by omega] at this
theorem zfq {step:Nat→Option (Nat⊕(Unit⊕R))} {l:List α} (g:Nat→α→Option R) (h1:∀ i x,l[i]?=some x→step i=some (match g i x with | some r=>.inr (.inr r) | none=>.inl (i+1))) (h2:step l.length=some (.inr (.inl ()))) (hl:l.length≤100000000000000) :
  iter step fuel 0=some (match scan g 0 l with | some r=>.inr r | none=>.inl ()):=by
 have key:∀ (n i:Nat),i≤l.length→l.length-i<n→iter step n i=some (match scan g i (l.drop i) with | some r=>.inr r | none=>.inl ()):=by
  intro n
  induction n with
  | zero=>intro i _ h;omega
  | succ n ih =>
   intro i hi hn;rcases Nat.lt_or_ge i l.length with h | h
   ·rw [List.drop_eq_getElem_cons h];unfold iter scan;rw [h1 i _ (zkM h)];cases g i l[i] with
    | some r=>rfl
    | none=>exact ih (i+1) h (by omega)
   ·have e:i=l.length:=by omega
    subst e;rw [List.drop_length];unfold iter scan;rw [h2]
 exact key fuel 0 (Nat.zero_le _) (by have:=zbg;omega)
def foldi (f:A→Nat→α→A):A→Nat→List α→A
 | a,_,[]=>a
 | a,i,x::l=>foldi f (f a i x) (i+1) l
theorem iter_fold {step:A×Nat→Option ((A×Nat)⊕R)} {l:List α} (f:A→Nat→α→A) (fin:A→R) (Inv:A→Nat→Prop) (h1:∀ a i x,Inv a i→l[i]?=some x→step (a,i)=some (.inl (f a i x,i+1))∧Inv (f a i x) (i+1))
  (h2:∀ a,Inv a l.length→step (a,l.length)=some (.inr (fin a))) (hl:l.length≤100000000000000) {a0:A} (h0:Inv a0 0):iter step fuel (a0,0)=some (fin (foldi f a0 0 l))∧Inv (foldi f a0 0 l) l.length:=by
 have key:∀ (n i:Nat) (a:A),Inv a i→i≤l.length→l.length-i<n→iter step n (a,i)=some (fin (foldi f a i (l.drop i)))∧Inv (foldi f a i (l.drop i)) l.length:=by
  intro n
  induction n with
  | zero=>intro i _ _ _ h;omega
  | succ n ih =>
   intro i a hv hi hn;rcases Nat.lt_or_ge i l.length with h | h
   ·rw [List.drop_eq_getElem_cons h];unfold iter foldi;obtain ⟨e,hv'⟩:=h1 a i _ hv (zkM h);rw [e];exact ih (i+1) _ hv' h (by omega)
   ·have e:i=l.length:=by omega
    subst e;rw [List.drop_length];unfold iter foldi;rw [h2 a hv];exact ⟨rfl,hv⟩
 exact key fuel 0 a0 h0 (Nat.zero_le _) (by have:=zbg;omega)
theorem foldi_eq {f:A→α→A}:∀ (l:List α) (a:A) (i:Nat),foldi (fun a _ x=>f a x) a i l=l.foldl f a
 | [],_,_=>rfl
 | x::l,a,i=>by unfold foldi;exact foldi_eq l (f a x) (i+1)
end
end
section
open Go.RowKit
set_option maxRecDepth 100000
theorem zim (x y:Int):cmp_Compare_int x y=some (cmpI x y):=by
 unfold cmp_Compare_int cmp_isNaN_int cmpI;by_cases h1:x<y
 ·simp [h1]
 ·by_cases h2:y<x<;>simp [h1,h2]
theorem zi0 (s t:List Int) (hs:s.length≤100000000000000):zbd s t=some (lexI s t):=by
 have key:=zb1 (step:=fun k=>zbd.s2 s t k) (fun k=>k≤s.length∧k≤t.length∧lexI s t=lexI (s.drop k) (t.drop k)) (fun k=>s.length-k)
  (fun r=>Sum.elim (fun (_:Unit)=>cond (decide ((↑(List.length s):Int)<(↑(List.length t):Int))) (some (-1:Int)) (some 0)) some r=some (lexI s t)) (fun k ⟨h1,h2,h3⟩=>by
   unfold zbd.s2
   rcases Nat.lt_or_ge k s.length with h | h
   ·have hx:=zkM h
    rw [zfl hx,zkD,zau hx]
    by_cases h4:t.length≤k
    ·right
     refine ⟨.inr 1,by simp [h4],?_⟩
     rw [h3,lexI_long h h4]
     rfl
    ·have hy:=zkM (show k<t.length by omega)
     have hst:=lexI_step hx hy
     have d4:decide ((↑(List.length t):Int)≤(↑k:Int))=false:=by simp;omega
     rw [d4,zkC,zau hy,zim]
     by_cases h5:cmpI s[k] t[k]=0
     ·left
      rw [if_pos h5] at hst
      exact ⟨k+1,by simp [h5],⟨by omega,by omega,by rw [h3,hst]⟩,by omega⟩
     ·right
      rw [if_neg h5] at hst
      exact ⟨.inr (cmpI s[k] t[k]),by simp [h5],by rw [h3,hst];rfl⟩
   ·right
    have e:k=s.length:=by omega
    subst e
    rw [zfd,zkC]
    refine ⟨.inl (),rfl,?_⟩
    rw [h3,lexI_end (Nat.le_refl _)]
    by_cases h4:s.length<t.length<;>simp [h4]) fuel 0 ⟨Nat.zero_le _,Nat.zero_le _,rfl⟩ (by have:=zbg;simp only [Nat.sub_zero];omega)
 obtain ⟨r,e,hq⟩:=key;unfold zbd;rw [e];exact hq
theorem cmp_Or_two (x y:Int):zds [x,y]=some (if x≠0 then x else y):=by
 unfold zds;have e:fuel=(fuel-3)+1+1+1:=by unfold fuel;omega
 rw [e];by_cases h1:x=0
 ·by_cases h2:y=0
  ·simp [iter,zds.s2,idxn,h1,h2]
  ·simp [iter,zds.s2,idxn,h1,h2]
 ·simp [iter,zds.s2,idxn,h1]
theorem zrr (s t:List Int) (hs:s.length≤100000000000000):zio s t=some (lexI s t):=by
 unfold zio;rw [zi0 s t hs];rfl
theorem zh8 (s t:List Int) (hs:s.length≤100000000000000):zeb s t=some (cmpW s t):=by
 unfold zeb;rw [zi0 s t hs,zim];show (zds [cmpI s.length t.length,lexI s t]).bind some=_;rw [cmp_Or_two];show some _=some _;congr 1;unfold cmpI cmpW;by_cases h1:s.length<t.length
 ·simp [h1]
 ·by_cases h2:t.length<s.length
  ·simp [h1,h2]
  ·simp [h1,h2]
theorem cmpE_word_Lex:CmpE Tryz.prog 122 (fun x=>nL cI x) (fun x y=>zio x y) :=
 ⟨fun args w=>zga rfl rfl rfl args w,cmpG_lex fun x y r hx h=>by rw [zrr x y (by omega)] at h;injection h with h;exact h.symm⟩
theorem zok:CmpE Tryz.prog 135 (fun x=>nL cI x) (fun x y=>zeb x y) :=
 ⟨fun args w=>zga rfl rfl rfl args w,cmpG_compare fun x y r hx h=>by rw [zh8 x y (by omega)] at h;injection h with h;exact h.symm⟩
end
section
set_option maxRecDepth 100000
section
variable {α β R:Type}
theorem get_at {l:List α} {i:Nat} (h:i<l.length):l[i]?=some l[i]:=zkM h
theorem iter_all2 [DecidableEq α] {a b:List α} {step:Nat→Option (Nat⊕(Unit⊕Bool))} (hlen:a.length=b.length) (h1:∀ i x y,a[i]?=some x→b[i]?=some y→step i=some (if x=y then .inl (i+1) else .inr (.inr false)))
  (h2:step a.length=some (.inr (.inl ()))) (hl:a.length≤100000000000000):(iter step fuel 0).bind (Sum.elim (fun _=>some true) some)=some (decide (a=b)):=by
 rw [zfq (l:=a) (fun i x=>if b[i]?=some x then none else some false) (fun i x hx=>?_) h2 hl]
 ·cases e:scan (fun i x=>if b[i]?=some x then none else some false) 0 a with
  | none =>
   have:=zhd.1 e
   have hab:a=b:=by
    apply List.ext_getElem?;intro i;rcases Nat.lt_or_ge i a.length with h | h
    ·have h3:=this i _ (get_at h);rw [Nat.zero_add] at h3;split at h3
     ·rename_i h4;rw [get_at h,h4]
     ·cases h3
    ·rw [List.getElem?_eq_none h,List.getElem?_eq_none (by omega)]
   simp [hab]
  | some r =>
   have hne:a≠b:=fun hab=>by
    subst hab;have:scan (fun i x=>if a[i]?=some x then none else some false) 0 a=none:=zhd.2 fun i x hx=>by rw [Nat.zero_add,if_pos hx]
    rw [this] at e;cases e
   have hr:r=false:=by
    have key:∀ (l:List α) (j:Nat),scan (fun i x=>if b[i]?=some x then none else some false) j l=some r→r=false:=by
     intro l
     induction l with
     | nil=>intro j h;cases h
     | cons x l ih =>
      intro j h;unfold scan at h;split at h
      ·rename_i r' h3;injection h with h
       subst h;split at h3
       ·cases h3
       ·injection h3 with h3
        exact h3.symm
      ·exact ih _ h
    exact key a 0 e
   subst hr;simp [hne]
 ·have hi:=(zkI.1 hx).1;have hy:=get_at (l:=b) (i:=i) (by omega);rw [h1 i x _ hx hy];by_cases h:x=b[i]'(by omega)
  ·rw [if_pos h,hy,if_pos (by rw [h])]
  ·rw [if_neg h,hy,if_neg (fun h3=>h (by injection h3 with h3;exact h3.symm))]
end
theorem zrf (a b:List Int) (hl:a.length≤100000000000000):zd6 a b=some (decide (a=b)):=by
 unfold zd6;by_cases hlen:a.length=b.length
 ·rw [show decide ((↑(List.length a):Int)≠(↑(List.length b):Int))=false by simp [hlen],zkC];refine iter_all2 hlen (fun i x y hx hy=>?_) ?_ hl
  ·simp only [zd6.s2];rw [zfl hx,zkD,zau hx,zau hy];by_cases h:x=y<;>simp [h]
  ·simp only [zd6.s2];rw [zfd];rfl
 ·rw [show decide ((↑(List.length a):Int)≠(↑(List.length b):Int))=true by simp;omega,zkD];have:a≠b:=fun h=>hlen (by rw [h]);simp [this]
def SmW (x:List Int):Prop:=x.length≤2000000
def SmL (l:List (List Int)):Prop:=l.length≤2000000∧∀ x∈l,SmW x
theorem zol (n:Int):zfo n=some (decide (1≤n∧n≤1024)):=by
 unfold zfo;by_cases h1:1≤n<;>by_cases h2:n≤1024<;>simp [h1,h2]
theorem zgg (w:List Int) (n:Int) (hl:SmW w):zeh w n=some (zby w n):=by
 unfold zeh zby zct za2;rw [zol];by_cases h1:1≤n∧n≤1024
 ·rw [if_pos h1];simp only [Option.bind_some,h1,and_self,decide_true,Bool.not_true,zkC];by_cases h2:1024<w.length
  ·rw [if_pos h2,show decide ((1024:Int)<(↑(List.length w):Int))=true from zkB (by omega),zkD]
  ·rw [if_neg h2,show decide ((1024:Int)<(↑(List.length w):Int))=false from zkA (by omega),zkC]
   have key:=zfq (step:=fun s=>za2.s2 w (fun u0=>zf8 u0 n) s) (l:=w) (fun i x=>if decide (0≤x∧x<n)=true then none else some (i:Int)) (fun i x hx=>by
    simp only [za2.s2,zf8]
    rw [zfl hx,zkD,zau hx]
    by_cases a1:x<0
    ·simp [a1,show ¬ (0≤x) by omega]
    ·by_cases a2:n≤x
     ·simp [a1,a2,show ¬ (x<n) by omega]
     ·simp [a1,a2,show 0≤x by omega,show x<n by omega]) (by
    simp only [za2.s2]
    rw [zfd]
    rfl) (by unfold SmW at hl;omega)
   rw [key];cases e:scan (fun i x=>if decide (0≤x∧x<n)=true then none else some (i:Int)) 0 w with
   | none =>
    have h3:=zhd.1 e
    have h:(w.all fun x=>decide (0≤x∧x<n))=true:=List.all_eq_true.2 fun x hx=>by
     obtain ⟨i,hi,rfl⟩:=List.mem_iff_getElem.1 hx;have:=h3 i _ (get_at hi);split at this
     ·assumption
     ·cases this
    rw [if_pos h];simp
   | some r =>
    have h:¬ (w.all fun x=>decide (0≤x∧x<n))=true:=fun h=>by
     have:scan (fun i x=>if decide (0≤x∧x<n)=true then none else some (i:Int)) 0 w=none:=zhd.2 fun i x hx=>if_pos (List.all_eq_true.1 h x (zkH hx));rw [this] at e;cases e
    have hr:0≤r:=by
     have key:∀ (l:List Int) (j:Nat),scan (fun i x=>if decide (0≤x∧x<n)=true then none else some (i:Int)) j l=some r→0≤r:=by
      intro l
      induction l with
      | nil=>intro j h;cases h
      | cons x l ih =>
       intro j h;unfold scan at h;split at h
       ·rename_i r' h3;injection h with h
        subst h;split at h3
        ·cases h3
        ·injection h3 with h3
         omega
       ·exact ih _ h
     exact key w 0 e
    rw [if_neg h];simp [hr]
 ·rw [if_neg h1];simp [h1]
end
end Go.Proofs.YtcneaiejdidooaaGreatDoor.Sym
namespace Go.Proofs.YtcneaiejdidooaaGreatDoor
section
def M64:Nat:=18446744073709551616
def gold:Nat:=11400714819323198485
def mulA:Nat:=13787848793156543929
def mulB:Nat:=10723151780598845931
theorem xs_lt {a k:Nat} (h:a<M64):a ^^^ (a >>> k)<M64:=by
 have h2:a >>> k<2^64:=Nat.lt_of_le_of_lt (by rw [Nat.shiftRight_eq_div_pow];exact Nat.div_le_self _ _) h;exact Nat.xor_lt_two_pow (n:=64) h h2
theorem xs_inj {a b k:Nat} (hk:0<k) (h:a ^^^ (a >>> k)=b ^^^ (b >>> k)):a=b:=by
 have hd:(a ^^^ b) ^^^ ((a ^^^ b) >>> k)=0:=by
  rw [Nat.shiftRight_xor_distrib]
  have e:(a ^^^ b) ^^^ (a >>> k ^^^ b >>> k)=(a ^^^ (a >>> k)) ^^^ (b ^^^ (b >>> k)):=by
   rw [Nat.xor_assoc,← Nat.xor_assoc b,Nat.xor_comm b,Nat.xor_assoc (a >>> k) b,← Nat.xor_assoc]
  rw [e,h,Nat.xor_self]
 generalize hdd:a ^^^ b=d at hd
 have hz:d=d >>> k:=by
  have h1:d ^^^ (d ^^^ (d >>> k))=d:=by rw [hd,Nat.xor_zero]
  rw [← Nat.xor_assoc,Nat.xor_self,Nat.zero_xor] at h1;exact h1.symm
 have h0:d=0:=by
  rw [Nat.shiftRight_eq_div_pow] at hz;rcases Nat.eq_zero_or_pos d with h0 | h0
  ·exact h0
  ·have h2:1<2^k:=Nat.one_lt_two_pow (by omega);have:=Nat.div_lt_self h0 h2;omega
 rw [h0] at hdd;have h3:a ^^^ (a ^^^ b)=a:=by rw [hdd,Nat.xor_zero]
 rw [← Nat.xor_assoc,Nat.xor_self,Nat.zero_xor] at h3;exact h3.symm
theorem mul_inj {a b c d:Nat} (hc:c*d%M64=1) (ha:a<M64) (hb:b<M64) (h:a*c%M64=b*c%M64):a=b:=by
 have key:∀ x,x<M64→x*c%M64*d%M64=x:=fun x hx=>by
  rw [Nat.mod_mul_mod,Nat.mul_assoc,Nat.mul_mod,hc,Nat.mul_one,Nat.mod_mod,Nat.mod_eq_of_lt hx]
 rw [← key a ha,h,key b hb]
def mix (y:Nat):Nat :=
 let z:=(y ^^^ (y >>> 30))*mulA%M64
 let u:=(z ^^^ (z >>> 27))*mulB%M64
 u ^^^ (u >>> 31)
theorem mix_lt (y:Nat):mix y<M64:=xs_lt (Nat.mod_lt _ (by decide))
theorem mix_inj {a b:Nat} (ha:a<M64) (hb:b<M64) (h:mix a=mix b):a=b:=by
 have h1:=xs_inj (by decide) h;have h2:=mul_inj (d:=3573116690164977347) (by decide) (xs_lt (Nat.mod_lt _ (by decide))) (xs_lt (Nat.mod_lt _ (by decide))) h1;have h3:=xs_inj (by decide) h2;have h4:=mul_inj (d:=10871156337175269513) (by decide) (xs_lt ha) (xs_lt hb) h3;exact xs_inj (by decide) h4
def zgu (s j:Nat):Nat:=(s+j*gold)%M64
theorem stateAt_inj {s i j:Nat} (hi:i<M64) (hj:j<M64) (h:zgu s i=zgu s j):i=j:=by
 refine mul_inj (c:=gold) (d:=17428512612931826493) (by decide) hi hj ?_;unfold zgu at h;have h1:=congrArg (fun x=>(x+(M64-s%M64))%M64) h;simp only [Nat.mod_add_mod] at h1
 have key:∀ k:Nat,(s+k+(M64-s%M64))%M64=k%M64:=fun k=>by
  have h2:s%M64<M64:=Nat.mod_lt _ (by decide);have h3:=Nat.div_add_mod s M64
  have h4:s+k+(M64-s%M64)=k+M64*(s / M64+1):=by
   rw [Nat.mul_add,Nat.mul_one];omega
  rw [h4,Nat.add_mul_mod_self_left]
 rw [key,key] at h1;exact h1
theorem few:∀ (k a:Nat) (l:List Nat),l.Nodup→(∀ x∈l,a≤x∧x<a+k)→l.length≤k
 | 0,a,l,_,h=>by
  cases l with
  | nil=>simp
  | cons x l=>have:=h x (by simp);omega
 | k+1,a,l,hn,h=>by
  have h1:=few k a (l.erase (a+k)) (hn.erase _) fun x hx=>by
   have h2:=(hn.mem_erase_iff).1 hx;have h3:=h x h2.2;have h4:=h2.1;omega
  by_cases hm:a+k∈l
  ·have:=List.length_erase_of_mem hm;omega
  ·rw [List.erase_of_not_mem hm] at h1;omega
theorem refused_few (s n:Nat) (h:∀ j,j<n→M64-1616≤mix (zgu s (j+1))) (hn:n<100000):n≤1616:=by
 have h1:=few 1616 (M64-1616) ((List.range n).map fun j=>mix (zgu s (j+1))) ?_ ?_
 ·simpa using h1
 ·rw [List.nodup_iff_pairwise_ne,List.pairwise_map];refine List.Pairwise.imp_of_mem ?_ (List.nodup_iff_pairwise_ne.1 List.nodup_range);intro i j hi hj hne e;rw [List.mem_range] at hi hj;have h2:=mix_inj (Nat.mod_lt _ (by decide)) (Nat.mod_lt _ (by decide)) e;have h3:=stateAt_inj (by unfold M64;omega) (by unfold M64;omega) h2;omega
 ·intro x hx;obtain ⟨j,hj,rfl⟩:=List.mem_map.1 hx;rw [List.mem_range] at hj;have h2:=h j hj;have h3:=mix_lt (zgu s (j+1));unfold M64 at h2 h3 ⊢;omega
def drawF:Nat→Nat→Nat×Nat
 | 0,s=>(0,s)
 | f+1,s=>if mix ((s+gold)%M64)<M64-1616 then (mix ((s+gold)%M64)%10000,(s+gold)%M64) else drawF f ((s+gold)%M64)
def draw (s:Nat):Nat×Nat:=drawF 1617 s
end
end Go.Proofs.YtcneaiejdidooaaGreatDoor
namespace Go.Proofs.YtcneaiejdidooaaGreatDoor.Sym
section
set_option maxRecDepth 100000
theorem xorK_nat {a b:Nat} (ha:a<M64) (hb:b<M64):xorK .u64 (↑a) (↑b)=↑(a ^^^ b):=by
 have h:a ^^^ b<2^64:=Nat.xor_lt_two_pow (n:=64) ha hb
 have e:(BitVec.ofInt 64 (↑a:Int) ^^^ BitVec.ofInt 64 (↑b:Int)).toNat=a ^^^ b:=by
  rw [BitVec.toNat_xor,BitVec.ofInt_natCast,BitVec.ofInt_natCast,BitVec.toNat_ofNat,BitVec.toNat_ofNat,Nat.mod_eq_of_lt (show a<2^64 from ha),Nat.mod_eq_of_lt (show b<2^64 from hb)]
 show IntKind.u64.wrap ((BitVec.ofInt 64 (↑a:Int) ^^^ BitVec.ofInt 64 (↑b:Int)).toNat:Int)=_;rw [e,zt9];unfold mdU;omega
theorem shr_nat (y k:Nat):(↑y / 2^k:Int)=↑(y >>> k):=by
 rw [Nat.shiftRight_eq_div_pow]
 push_cast
 rfl
theorem xs_nat {y:Nat} (k:Nat) (hy:y<M64):xorK .u64 ↑y (↑y / 2^k)=↑(y ^^^ (y >>> k)):=by
 rw [shr_nat];exact xorK_nat hy (Nat.lt_of_le_of_lt (by rw [Nat.shiftRight_eq_div_pow];exact Nat.div_le_self _ _) hy)
theorem mulA_nat (a:Nat):mdU (↑a*13787848793156543929)=↑(a*mulA%M64):=by
 unfold mdU mulA M64;omega
theorem mulB_nat (a:Nat):mdU (↑a*10723151780598845931)=↑(a*mulB%M64):=by
 unfold mdU mulB M64;omega
theorem gold_nat (s:Nat):mdU (↑s+11400714819323198485)=↑((s+gold)%M64):=by
 unfold mdU gold M64;omega
theorem u64_nat {a:Nat} (h:a<M64):(0:Int)≤↑a∧(↑a:Int)≤18446744073709551615:=by
 unfold M64 at h;omega
theorem zq9 (a:Nat):a%M64<M64:=Nat.mod_lt _ (by decide)
theorem zsy (s:Nat):zh3 ↑s=some (↑(mix ((s+gold)%M64)),↑((s+gold)%M64)):=by
 unfold zh3;rw [gold_nat];have hy:=zq9 (s+gold);generalize (s+gold)%M64=y at hy;rw [xs_nat 30 hy,mulA_nat,xs_nat 27 (zq9 _),mulB_nat,xs_nat 31 (zq9 _),zar (u64_nat hy),zar (u64_nat (zq9 _)),zar (u64_nat (zq9 _))];rfl
theorem stateAt_next (s j:Nat):zgu ((s+gold)%M64) j=zgu s (j+1):=by
 unfold zgu;rw [Nat.mod_add_mod];congr 1;rw [Nat.add_mul];omega
theorem hit_within (s:Nat):∃ j,j<1617∧mix (zgu s (j+1))<M64-1616:=by
 refine Classical.byContradiction fun h=>?_;have:=refused_few s 1617 (fun j hj=>Nat.le_of_not_lt fun h2=>h ⟨j,hj,h2⟩) (by decide);omega
def goOn (good:Nat→Bool) (nx:Nat→Nat):Nat→Nat→Nat
 | 0,s=>s
 | f+1,s=>cond (good s) s (goOn good nx f (nx s))
def steps (nx:Nat→Nat):Nat→Nat→Nat
 | 0,s=>s
 | j+1,s=>steps nx j (nx s)
theorem iter_goOn {S R:Type} {step:S→Option (S⊕R)} {good:Nat→Bool} {nx:Nat→Nat} {st:Nat→S} {res:Nat→R} (h:∀ s,step (st s)=some (cond (good s) (.inr (res s)) (.inl (st (nx s))))) :
  ∀ (f k s:Nat),(∃ j,j<f∧good (steps nx j s)=true)→iter step (f+k) (st s)=some (res (goOn good nx f s))
 | 0,_,_,⟨_,hj,_⟩=>absurd hj (Nat.not_lt_zero _)
 | f+1,k,s,⟨j,hj,hg⟩=>by
  rw [show f+1+k=(f+k)+1 by omega];unfold iter goOn;rw [h];cases hs:good s with
  | true=>rfl
  | false =>
   simp only [zkC];cases j with
   | zero=>exact absurd (show good s=true from hg) (by rw [hs];exact Bool.false_ne_true)
   | succ j=>exact iter_goOn h f k (nx s) ⟨j,by omega,hg⟩
def nxt (s:Nat):Nat:=(s+gold)%M64
def hitN (s:Nat):Bool:=decide (mix s<M64-1616)
def drawS (s:Nat):Nat:=goOn (fun s=>hitN (nxt s)) nxt 1617 s
def zpv (s:Nat):Nat×Nat:=(mix (nxt (drawS s))%10000,nxt (drawS s))
theorem nxt_def (s:Nat):nxt s=(s+gold)%M64:=by unfold nxt;with_reducible rfl
theorem steps_one {nx:Nat→Nat} (j s:Nat):steps nx (j+1) s=steps nx j (nx s):=rfl
theorem steps_zero {nx:Nat→Nat} (s:Nat):steps nx 0 s=s:=rfl
theorem stateAt_one (s:Nat):zgu s (0+1)=(s+gold)%M64:=by
 unfold zgu;rw [Nat.zero_add,Nat.one_mul]
theorem steps_at (j:Nat):∀ (s:Nat),nxt (steps nxt j s)=zgu s (j+1):=by
 induction j with
 | zero =>
  intro s;rw [steps_zero,nxt_def,stateAt_one]
 | succ j ih =>
  intro s;rw [steps_one,ih,nxt_def,stateAt_next]
theorem hit_some (s:Nat):∃ j,j<1617∧hitN (nxt (steps nxt j s))=true:=by
 obtain ⟨j,hj,hm⟩:=hit_within s;exact ⟨j,hj,by rw [steps_at];exact zkB hm⟩
theorem fuel_split:fuel=1617+999999999999999998383:=by decide
theorem hit_yes {y:Nat} (h:mix y<M64-1616):hitN y=true:=by
 unfold hitN;exact zkB h
theorem hit_no {y:Nat} (h:¬ mix y<M64-1616):hitN y=false:=by
 unfold hitN;exact zkA h
theorem below_body {x y:Nat} (hm:x<M64):(cond (decide ((mdU (0-10000))%10000=0)) (some true) (some (decide ((↑x:Int)<(mdU (0-((mdU (0-10000))%10000)))))):Option Bool).bind (fun (y77:Bool)=>cond y77 (chk (((0:Int)≤((↑x:Int)%10000)∧((↑x:Int)%10000)≤18446744073709551615)∧(0:Int)≤(↑x:Int)∧(1:Int)≤10000) (chk (inR ((↑x:Int)%10000)) (some (.inr (((↑x:Int)%10000),(↑y:Int)):Int⊕(Int×Int))))) (some (.inl (↑y:Int))))=some (if x<M64-1616 then .inr ((↑(x%10000):Int),(↑y:Int)) else .inl (↑y:Int)):=by
 have c1:(mdU (0-10000))%10000=1616:=by decide
 have c2:mdU (0-1616)=18446744073709550000:=by decide
 rw [c1,c2,zkA (by decide),zkC,zao];by_cases h:x<M64-1616
 ·rw [if_pos h,zkB (by unfold M64 at h;omega),zkD];unfold M64 at hm;rw [zar (by omega),zar (by unfold inR;omega)];simp
 ·rw [if_neg h,zkA (by unfold M64 at h hm;omega),zkC]
theorem below_step (s:Nat):zdh.s1 10000 ↑s=some (cond (hitN (nxt s)) (.inr (↑(mix (nxt s)%10000),↑(nxt s))) (.inl ↑(nxt s))):=by
 unfold zdh.s1;rw [zsy,zao,← nxt_def];refine (below_body (mix_lt (nxt s))).trans ?_;by_cases h:mix (nxt s)<M64-1616
 ·rw [if_pos h,hit_yes h,zkD]
 ·rw [if_neg h,hit_no h,zkC]
theorem zqs (s:Nat):zdh ↑s 10000=some (↑(zpv s).1,↑(zpv s).2):=by
 unfold zdh;have c1:(mdU (0-10000))%10000=1616:=by decide
 rw [c1,zar (by decide),zar (by decide),fuel_split];exact iter_goOn (st:=fun s=>(↑s:Int)) (res:=fun s=>((↑(mix (nxt s)%10000):Int),(↑(nxt s):Int))) below_step 1617 _ s (hit_some s)
theorem zqd (s:Nat):zhg ↑s 10000=some (↑(zpv s).1,↑(zpv s).2,0):=by
 unfold zhg;rw [zkA (by decide),zkC,zkA (by decide),zao,zkC,zqs,zao]
theorem nxt_lt (s:Nat):nxt s<18446744073709551616:=Nat.mod_lt _ (by decide)
theorem draw_lt (s:Nat):(zpv s).1<10000∧(zpv s).2<18446744073709551616:=⟨Nat.mod_lt _ (by decide),nxt_lt _⟩
end
section
set_option maxRecDepth 100000
section
variable {κ ν:Type} [BEq κ]
theorem zg8 {k:κ} {v:ν} (hb:∀ a b:κ,(a==b)=true↔a=b):∀ m:List (κ×ν),mget k (mset k v m)=some v
 | []=>by
  unfold mset mget;rw [(hb k k).2 rfl]
 | p::m=>by
  unfold mset;cases h:k==p.1 with
  | true =>
   show mget k ((k,v)::m)=_;unfold mget;rw [(hb k k).2 rfl]
  | false =>
   show mget k (p::mset k v m)=_;unfold mget;rw [h];exact zg8 hb m
theorem zik {k k':κ} {v:ν} (hb:∀ a b:κ,(a==b)=true↔a=b) (hne:¬ k'=k):∀ m:List (κ×ν),mget k' (mset k v m)=mget k' m
 | []=>by
  have e:(k'==k)=false:=by
   cases e:k'==k with
   | true=>exact absurd ((hb _ _).1 e) hne
   | false=>rfl
  unfold mset mget;simp only [e];rfl
 | p::m=>by
  unfold mset;cases h:k==p.1 with
  | true =>
   have e1:k=p.1:=(hb _ _).1 h;show mget k' ((k,v)::m)=mget k' (p::m)
   have e:(k'==k)=false:=by
    cases e:k'==k with
    | true=>exact absurd ((hb _ _).1 e) hne
    | false=>rfl
   unfold mget;rw [← e1];simp only [e]
  | false =>
   show mget k' (p::mset k v m)=mget k' (p::m);unfold mget;rw [zik hb hne m]
end
theorem ba_beq (a b:ByteArray):(a==b)=true↔a=b:=by
 cases a;cases b;show ByteArray.beq _ _=true↔_;unfold ByteArray.beq;simp
end
section
set_option maxRecDepth 100000
end
section
set_option maxRecDepth 100000
theorem zqt {w:List Int} {n:Int} (h:zby w n=0):∀ a∈w,0≤a∧a<n:=by
 unfold zby at h;split at h
 ·split at h
  ·cases h
  ·split at h
   ·rename_i h3;intro a ha;exact of_decide_eq_true (List.all_eq_true.1 h3 a ha)
   ·cases h
 ·cases h
end
end Go.Proofs.YtcneaiejdidooaaGreatDoor.Sym
namespace Go.Proofs.YtcneaiejdidooaaGreatDoor
section
structure zld (cf:List Int→List Int→Int):Prop where
 range:∀ a b,cf a b=-1∨cf a b=0∨cf a b=1
 zero:∀ a b,cf a b=0↔a=b
 swap:∀ a b,cf b a=- cf a b
 trans:∀ a b c,cf a b=-1→cf b c=-1→cf a c=-1
theorem cmpW_total:zld cmpW:=⟨zjd,zko,zji,zhx⟩
theorem lexI_total:zld lexI:=⟨zoz,zn4,zm6,zn9⟩
def zc2 (l:List (List Int)):List (List Int):=l.foldl (fun acc x=>if acc.getLast?=some x then acc else acc++[x]) []
theorem zrm (l:List (List Int)) (x:List Int):zc2 (l++[x])=if (zc2 l).getLast?=some x then zc2 l else zc2 l++[x]:=by
 unfold zc2;rw [List.foldl_append];rfl
theorem zqh:∀ (l acc:List (List Int)),(l.foldl (fun acc x=>if acc.getLast?=some x then acc else acc++[x]) acc).getLast?=if l=[] then acc.getLast? else l.getLast?
 | [],acc=>by rw [if_pos rfl];rfl
 | x::l,acc=>by
  have hx:(if acc.getLast?=some x then acc else acc++[x]).getLast?=some x:=by
   split
   ·assumption
   ·simp
  rw [List.foldl_cons,zqh l,if_neg (show ¬ x::l=[] by simp)];cases l with
  | nil=>rw [if_pos rfl,hx];rfl
  | cons y l =>
   rw [if_neg (show ¬ y::l=[] by simp),List.getLast?_cons_cons]
theorem dedupA_last (l:List (List Int)):(zc2 l).getLast?=l.getLast?:=by
 unfold zc2;rw [zqh];split
 ·rename_i h;rw [h]
 ·rfl
theorem zrn {l:List (List Int)} {k:Nat} {x y:List Int} (hy:l[k]?=some y) (hx:l[k+1]?=some x) :
  zc2 (l.take (k+1+1))=if x=y then zc2 (l.take (k+1)) else zc2 (l.take (k+1))++[x]:=by
 rw [zck hx,zrm,dedupA_last,zck hy];simp only [List.getLast?_append,List.getLast?_singleton,Option.some_or];by_cases h:y=x
 ·subst h;simp
 ·have h':¬ x=y:=fun e=>h e.symm;simp [h,h']
theorem zpe {l:List (List Int)} (h:l.length≤1):zc2 l=l:=by
 match l,h with
 | [],_=>rfl
 | [x],_=>rfl
theorem dedup_asc {cf:List Int→List Int→Int} (T:zld cf):∀ {l:List (List Int)},l.Pairwise (fun a b=>0≤cf b a)→(zc2 l).Pairwise (fun a b=>cf a b=-1)∧∀ x,x∈zc2 l↔x∈l:=by
 intro l
 -- from the end of the list
 suffices H:∀ n (l:List (List Int)),l.length=n→l.Pairwise (fun a b=>0≤cf b a)→(zc2 l).Pairwise (fun a b=>cf a b=-1)∧∀ x,x∈zc2 l↔x∈l from H _ l rfl
 intro n
 induction n with
 | zero =>
  intro l hl _;have:l=[]:=List.eq_nil_of_length_eq_zero hl;subst this;exact ⟨List.Pairwise.nil,fun x=>Iff.rfl⟩
 | succ n ih =>
  intro l hl hp
  obtain ⟨m,x,rfl⟩:∃ m x,l=m++[x]:=by
   have hne:l≠[]:=by intro e;rw [e] at hl;simp at hl
   exact ⟨l.dropLast,l.getLast hne,(List.dropLast_concat_getLast hne).symm⟩
  have hml:m.length=n:=by simpa using hl
  rw [List.pairwise_append] at hp;obtain ⟨hp1,_,hp3⟩:=hp;obtain ⟨h1,h2⟩:=ih m hml hp1;rw [zrm];by_cases h:(zc2 m).getLast?=some x
  ·rw [if_pos h];refine ⟨h1,fun y=>?_⟩;have hx:x∈m:=(h2 x).1 (List.mem_of_getLast? h);rw [h2,List.mem_append,List.mem_singleton];constructor
   ·exact Or.inl
   ·rintro (h' | rfl)
    ·exact h'
    ·exact hx
  ·rw [if_neg h];refine ⟨?_,fun y=>by rw [List.mem_append,List.mem_append,h2]⟩;rw [List.pairwise_append];refine ⟨h1,by simp,fun a ha b hb=>?_⟩;rw [List.mem_singleton] at hb;subst hb;have ha':a∈m:=(h2 a).1 ha;have hle:0≤cf b a:=hp3 a ha' b (by simp);have hr:=T.range b a;have hsw:=T.swap b a;by_cases e:cf b a=0
   ·-- a would be the last one
    exfalso;have hab:b=a:=(T.zero _ _).1 e;subst hab
    -- the last of m is the greatest, and b is in m and not less than it
    have hne:zc2 m≠[]:=fun e=>by rw [e] at ha;cases ha
    have hl2:=List.getLast?_eq_some_getLast hne;have hlast:(zc2 m).getLast hne∈m:=(h2 _).1 (List.getLast_mem hne);have h3:0≤cf b ((zc2 m).getLast hne):=hp3 _ hlast b (by simp);have hsplit:zc2 m=(zc2 m).dropLast++[(zc2 m).getLast hne]:=(List.dropLast_concat_getLast hne).symm
    have h4:b=(zc2 m).getLast hne∨cf b ((zc2 m).getLast hne)=-1:=by
     rw [hsplit] at ha h1;rw [List.pairwise_append] at h1;rcases List.mem_append.1 ha with h5 | h5
     ·exact Or.inr (h1.2.2 b h5 _ (by simp))
     ·exact Or.inl (List.mem_singleton.1 h5)
    rcases h4 with h4 | h4
    ·exact h (by rw [hl2,← h4])
    ·omega
   ·omega
theorem dedupA_length (l:List (List Int)):(zc2 l).length≤l.length:=by
 suffices H:∀ (l acc:List (List Int)),(l.foldl (fun acc x=>if acc.getLast?=some x then acc else acc++[x]) acc).length≤acc.length+l.length by
  simpa [zc2] using H l []
 intro l
 induction l with
 | nil=>intro acc;simp
 | cons x l ih =>
  intro acc;rw [List.foldl_cons];refine Nat.le_trans (ih _) ?_;split
  ·simp
  ·simp;omega
end
section
def prefixes (x:List Int):List (List Int):=(List.range (x.length+1)).map x.take
def suffixes (x:List Int):List (List Int):=(List.range (x.length+1)).map x.drop
def topB (all:List (List Int)) (x:List Int):Bool:=all.all fun y=>decide (y=x∨¬ x <+: y)
def maxR (l:List (List Int)):List (List Int):=(sortW l).filter (topB (sortW l))
theorem mem_maxR {l:List (List Int)} {x:List Int} (h:x∈maxR l):x∈l:=by
 unfold maxR at h;exact (zhb l x).1 (List.mem_filter.1 h).1
theorem maxR_length (l:List (List Int)):(maxR l).length≤l.length:=Nat.le_trans (List.length_filter_le _ _) (zpf l)
def zjp:List (List Int)→List (List Int)
 | []=>[]
 | [x]=>[x]
 | x::y::l=>if x <+: y then zjp (y::l) else x::zjp (y::l)
theorem keepM_end {L:List (List Int)} {k:Nat} {x:List Int} (hx:L[k]?=some x) (hl:k+1=L.length):zjp (L.drop k)=x::zjp (L.drop (k+1)):=by
 obtain ⟨h1,h2⟩:=List.getElem?_eq_some_iff.1 hx;rw [List.drop_eq_getElem_cons h1,h2,List.drop_eq_nil_of_le (by omega)];rfl
theorem keepM_step {L:List (List Int)} {k:Nat} {x y:List Int} (hx:L[k]?=some x) (hy:L[k+1]?=some y):zjp (L.drop k)=if x <+: y then zjp (L.drop (k+1)) else x::zjp (L.drop (k+1)):=by
 obtain ⟨h1,h2⟩:=List.getElem?_eq_some_iff.1 hx;obtain ⟨h3,h4⟩:=List.getElem?_eq_some_iff.1 hy;rw [List.drop_eq_getElem_cons h1,h2,List.drop_eq_getElem_cons h3,h4];rfl
theorem zsb:∀ L:List (List Int),(zjp L).Sublist L
 | []=>List.Sublist.refl _
 | [x]=>List.Sublist.refl _
 | x::y::l=>by
  rw [zjp];split
  ·exact (zsb (y::l)).cons x
  ·exact (zsb (y::l)).cons_cons x
theorem zse:∀ (x z y:List Int),lexI x z=-1→(z=y∨lexI z y=-1)→x <+: y→x <+: z
 | [],z,_,_,_,_=>List.nil_prefix
 | a::x,[],_,h,_,_=>by simp [lexI] at h
 | a::x,b::z,[],_,_,h=>by simp at h
 | a::x,b::z,c::y,h1,h2,h3=>by
  rw [List.cons_prefix_cons] at h3;obtain ⟨rfl,h3⟩:=h3;simp only [lexI] at h1
  have hle:b≤a:=by
   rcases h2 with h2 | h2
   ·injection h2 with e1 e2;omega
   ·simp only [lexI] at h2;split at h2
    ·omega
    ·split at h2
     ·omega
     ·omega
  have hab:a=b:=by
   split at h1
   ·omega
   ·split at h1
    ·omega
    ·omega
  subst hab;rw [if_neg (by omega),if_neg (by omega)] at h1;rw [List.cons_prefix_cons];refine ⟨rfl,zse x z y h1 ?_ h3⟩;rcases h2 with h2 | h2
  ·injection h2 with e1 e2;exact Or.inl e2
  ·simp only [lexI] at h2;rw [if_neg (by omega),if_neg (by omega)] at h2;exact Or.inr h2
theorem ztu:∀ (x y:List Int),x <+: y→x≠y→lexI x y=-1
 | [],[],_,h=>absurd rfl h
 | [],_::_,_,_=>rfl
 | a::x,[],h,_=>by simp at h
 | a::x,b::y,h,hne=>by
  rw [List.cons_prefix_cons] at h;obtain ⟨rfl,h⟩:=h;simp only [lexI];rw [if_neg (by omega),if_neg (by omega)];exact ztu x y h (fun e=>hne (by rw [e]))
theorem mem_keepM:∀ {L:List (List Int)},L.Pairwise (fun a b=>lexI a b=-1)→∀ x,x∈zjp L↔x∈L∧∀ y∈L,y=x∨¬ x <+: y
 | [],_,x=>by simp [zjp]
 | [z],_,x=>by
  simp only [zjp,List.mem_singleton];constructor
  ·rintro rfl;exact ⟨rfl,fun y hy=>Or.inl hy⟩
  ·exact fun h=>h.1
 | z::y::l,h,x=>by
  obtain ⟨h1,h2⟩:=List.pairwise_cons.1 h;have ih:=mem_keepM (L:=y::l) h2
  have hzl:∀ t∈y::l,z≠t:=fun t ht e=>by
   have:=h1 t ht;rw [e,lexI_refl] at this;omega
  have hlow:∀ t∈y::l,¬ t <+: z:=fun t ht hp=>by
   have h3:=h1 t ht;have h4:=ztu t z hp (fun e=>hzl t ht e.symm);rw [zm6] at h4;omega
  have hyl:∀ t∈y::l,y=t∨lexI y t=-1:=fun t ht=>by
   rcases List.mem_cons.1 ht with e | e
   ·exact Or.inl e.symm
   ·exact Or.inr ((List.pairwise_cons.1 h2).1 t e)
  rw [zjp];by_cases hp:z <+: y
  ·rw [if_pos hp,ih];constructor
   ·rintro ⟨ha,hb⟩;refine ⟨List.mem_cons_of_mem _ ha,fun t ht=>?_⟩;rcases List.mem_cons.1 ht with rfl | ht
    ·exact Or.inr (hlow x ha)
    ·exact hb t ht
   ·rintro ⟨ha,hb⟩;rcases List.mem_cons.1 ha with rfl | ha
    ·rcases hb y (by simp) with e | e
     ·exact absurd e.symm (hzl y (by simp))
     ·exact absurd hp e
    ·exact ⟨ha,fun t ht=>hb t (List.mem_cons_of_mem _ ht)⟩
  ·rw [if_neg hp,List.mem_cons,ih];constructor
   ·rintro (rfl | ⟨ha,hb⟩)
    ·refine ⟨by simp,fun t ht=>?_⟩;rcases List.mem_cons.1 ht with rfl | ht
     ·exact Or.inl rfl
     ·exact Or.inr fun hpt=>hp (zse x y t (h1 y (by simp)) (hyl t ht) hpt)
    ·refine ⟨List.mem_cons_of_mem _ ha,fun t ht=>?_⟩;rcases List.mem_cons.1 ht with rfl | ht
     ·exact Or.inr (hlow x ha)
     ·exact hb t ht
   ·rintro ⟨ha,hb⟩;rcases List.mem_cons.1 ha with rfl | ha
    ·exact Or.inl rfl
    ·exact Or.inr ⟨ha,fun t ht=>hb t (List.mem_cons_of_mem _ ht)⟩
theorem zkt (l:List (List Int)) (x:List Int):x∈maxR l↔x∈l∧∀ y∈l,y=x∨¬ x <+: y:=by
 unfold maxR;rw [List.mem_filter,zhb,topB,List.all_eq_true];simp only [zhb,decide_eq_true_eq]
theorem maxR_asc (l:List (List Int)):Asc (maxR l):=List.Pairwise.sublist List.filter_sublist (zr7 l)
theorem sortW_keepM {L l:List (List Int)} (h:L.Pairwise fun a b=>lexI a b=-1) (hm:∀ x,x∈L↔x∈l):sortW (zjp L)=maxR l :=
 asc_ext (zr7 _) (maxR_asc l) fun x=>by
  rw [zhb,mem_keepM h,zkt];simp only [hm]
end
end Go.Proofs.YtcneaiejdidooaaGreatDoor
namespace Go.Proofs.YtcneaiejdidooaaGreatDoor.Sym
section
set_option maxRecDepth 100000
theorem zlu {α:Type} {l:List (List α)} {i:Nat} {x:List α} (h:l[i]?=some x):(l.take (i+1)).flatten=(l.take i).flatten++x:=by
 rw [zck h];simp
theorem zm0 {α:Type} {l:List (List α)} (i:Nat):(l.take i).flatten.length≤l.flatten.length:=by
 have h:l.flatten=(l.take i).flatten++(l.drop i).flatten:=by rw [← List.flatten_append,List.take_append_drop]
 rw [h,zkJ];omega
theorem concat_ints (l:List (List Int)) (hl:l.length≤100000000) (hf:l.flatten.length≤1000000000):zaz l=some l.flatten:=by
 unfold zaz
 rw [zgs (r:=l.flatten.length) (fun s=>s.2≤l.length∧s.1=(l.take s.2).flatten.length) (fun s=>l.length-s.2) (fun s ⟨h1,h2⟩=>by
  simp only [zaz.s2]
  by_cases h3:s.2<l.length
  ·left
   have hx:=get_at h3
   have h4:=zlu hx
   have h5:=zm0 (l:=l) (s.2+1)
   rw [h4,zkJ] at h5
   refine ⟨((l.take (s.2+1)).flatten.length,s.2+1),?_,⟨by omega,rfl⟩,by simp only;omega⟩
   rw [zfl hx,zkD,zau hx,zar (by unfold inR;omega),zkA (by omega),zkC,h4,zkJ,h2]
  ·right
   have e:s.2=l.length:=by omega
   rw [zkA (by omega),zkC,h2,e,List.take_length]) (s:=(0,0)) ⟨Nat.zero_le _,by simp⟩ (by have:=zbg;simp only;omega)]
 simp only [Option.bind_some];unfold zkk;rw [zar (by omega)];simp only [Option.bind_some]
 rw [zgs (r:=l.flatten) (fun s=>s.2≤l.length∧s.1=(l.take s.2).flatten) (fun s=>l.length-s.2) (fun s ⟨h1,h2⟩=>by
  simp only [zaz.s4]
  by_cases h3:s.2<l.length
  ·left
   have hx:=get_at h3
   have h4:=zlu hx
   have h5:=zm0 (l:=l) (s.2+1)
   rw [h4,zkJ] at h5
   refine ⟨((l.take (s.2+1)).flatten,s.2+1),?_,⟨by omega,rfl⟩,by simp only;omega⟩
   rw [zfl hx,zkD,zau hx,zar (by rw [h2];unfold zbh;omega),h4,h2]
  ·right
   have e:s.2=l.length:=by omega
   rw [zkA (by omega),zkC,h2,e,List.take_length]) (s:=([],0)) ⟨Nat.zero_le _,by simp⟩ (by have:=zbg;simp only;omega)]
 rfl
theorem zhh (l:List (List Int)) (hl:l.length≤100000000) (hf:l.flatten.length≤1000000000):ze0 l=some l.flatten:=by
 unfold ze0;rw [concat_ints l hl hf];rfl
theorem totB_of {cf:List Int→List Int→Int} (T:zld cf) {f:List Int→List Int→Option Int} {l:List (List Int)} (hf:∀ a∈l,∀ b∈l,f a b=some (cf a b)):totB f l=true:=by
 refine List.all_eq_true.2 fun a ha=>List.all_eq_true.2 fun b hb=>?_;rw [hf a ha b hb,hf b hb a ha];simp only [Bool.and_eq_true];refine ⟨⟨⟨?_,?_⟩,?_⟩,List.all_eq_true.2 fun c hc=>?_⟩
 ·rw [beq_iff_eq];have:=T.zero a b;by_cases h:a=b
  ·simp [h,this.2 h];rw [← h];exact (T.zero a a).2 rfl
  ·have h2:¬ cf a b=0:=fun e=>h (this.1 e);simp [h,h2]
 ·rw [beq_iff_eq];have:=T.swap a b;by_cases h:cf a b<0
  ·simp [h];omega
  ·simp [h];omega
 ·have:=T.range a b;exact zkB (by omega)
 ·rw [hf b hb c hc,hf a ha c hc];have r1:=T.range a b;have r2:=T.range b c;by_cases h1:cf a b<0
  ·by_cases h2:cf b c<0
   ·have:=T.trans a b c (by omega) (by omega);simp [h1,h2,this]
   ·simp [h1,h2]
  ·simp [h1]
theorem libSort_eq {cf:List Int→List Int→Int} (T:zld cf) {f:List Int→List Int→Option Int} {l:List (List Int)} (hl:l.length≤1000000000) (hf:∀ a∈l,∀ b∈l,f a b=some (cf a b)) :
  ∃ S,libSort l f=some S∧S.Perm l∧S.Pairwise (fun a b=>0≤cf b a):=by
 refine ⟨zky f l,?_,zeq f l,?_⟩
 ·unfold libSort;rw [zar hl,totB_of T hf];rfl
 ·have h:=zjy (totB_iff (totB_of T hf));rw [List.pairwise_iff_getElem] at h ⊢;intro i j hi hj hij;have:=h i j hi hj hij;have m1:=(zeq f l).mem_iff.1 (List.getElem_mem hi);have m2:=(zeq f l).mem_iff.1 (List.getElem_mem hj);unfold NGt cfv at this;rw [hf _ m2 _ m1] at this;simp only [Option.getD_some] at this;omega
theorem compact_eq {q:List Int→List Int→Option Bool} {l:List (List Int)} (hl:l.length≤1000000000) (hq:∀ a∈l,∀ b∈l,q a b=some (decide (a=b))):zag l q=some (zc2 l):=by
 unfold zag;by_cases h2:l.length<2
 ·rw [zkB (by omega),zkD,zpe (by omega)]
 rw [zkA (by omega),zkC]
 have key:=zb1 (step:=fun k=>zag.s20 l q k) (fun k=>1≤k∧k≤l.length∧zc2 (l.take k)=l.take k) (fun k=>l.length-k) (fun r=>Sum.elim (fun (_:Unit)=>some l) some r=some (zc2 l)) (fun k ⟨h1,h3,h4⟩=>by
  simp only [zag.s20]
  by_cases h5:k<l.length
  ·have hx:=get_at h5
   have hp:=get_at (l:=l) (i:=k-1) (by omega)
   have hst:=zrn (l:=l) (k:=k-1) (x:=l[k]) hp (by rw [show k-1+1=k by omega];exact hx)
   rw [show k-1+1=k by omega] at hst
   rw [zfl hx,zkD,zau hx,zcs (i:=k-1) (by omega) hp,hq _ (List.getElem_mem _) _ (List.getElem_mem _)]
   simp only [Option.bind_some]
   by_cases h6:l[k]=l[k-1]'(by omega)
   ·right
    rw [if_pos h6] at hst
    rw [zkB h6,zkD,zar (by omega)]
    have inner:=zb1 (step:=fun (s:List (List Int)×Nat×Nat)=>zag.s18 q k s.1 s.2.1 s.2.2) (fun s=>1≤s.2.2∧k+s.2.2≤l.length∧s.1.length=l.length∧s.2.1=(zc2 (l.take (k+s.2.2))).length∧s.2.1<k+s.2.2∧s.1.take s.2.1=zc2 (l.take (k+s.2.2))∧∀ j,s.2.1≤j→s.1[j]?=l[j]?) (fun s=>l.length-(k+s.2.2))
     (fun r=>r.2≤l.length∧r.1.length=l.length∧r.1.take r.2=zc2 l) (fun s ⟨g1,g2,g3,g4,g5,g6,g7⟩=>by
      obtain ⟨y,kk,t⟩:=s
      simp only at g1 g2 g3 g4 g5 g6 g7
      simp only [zag.s18]
      by_cases g8:k+t<l.length
      ·left
       have gx:=get_at (l:=l) (i:=k+t) g8
       have gp:=get_at (l:=l) (i:=k+(t-1)) (by omega)
       have yx:y[k+t]?=some l[k+t]:=by rw [g7 _ (by omega)];exact gx
       have yp:y[k+(t-1)]?=some (l[k+(t-1)]'(by omega)):=by rw [g7 _ (by omega)];exact gp
       have hst2:=zrn (l:=l) (k:=k+(t-1)) (x:=l[k+t]) gp (by rw [show k+(t-1)+1=k+t by omega];exact gx)
       rw [show k+(t-1)+1=k+t by omega] at hst2
       rw [zkB (show (↑t:Int)<(↑(List.length y-k):Int) by omega),zkD,zau yx,zar (by omega),show Int.toNat ((↑t:Int)-1)=t-1 by omega,zau yp,hq _ (List.getElem_mem _) _ (List.getElem_mem _)]
       simp only [Option.bind_some]
       by_cases g9:l[k+t]=l[k+(t-1)]'(by omega)
       ·rw [if_pos g9] at hst2
        refine ⟨(y,kk,t+1),by rw [zkB g9];rfl,⟨by simp only;omega,by simp only;omega,g3,?_,by simp only;omega,?_,g7⟩,by simp only;omega⟩
        ·simp only
         rw [show k+(t+1)=k+t+1 by omega,hst2]
         exact g4
        ·simp only
         rw [show k+(t+1)=k+t+1 by omega,hst2]
         exact g6
       ·rw [if_neg g9] at hst2
        have yk:=get_at (l:=y) (i:=kk) (by omega)
        refine ⟨(y.set kk l[k+t],kk+1,t+1),?_,⟨by simp only;omega,by simp only;omega,by simp only [List.length_set];exact g3,?_,by simp only;omega,?_,fun j hj=>?_⟩,by simp only;omega⟩
        ·rw [zkA g9]
         simp only [Bool.not_false,zkD]
         rw [zau yx,zau yk,zar (by unfold inR;omega)]
        ·simp only
         rw [show k+(t+1)=k+t+1 by omega,hst2,zkJ,← g4]
         rfl
        ·simp only
         have e1:(y.set kk l[k+t])[kk]?=some l[k+t]:=by rw [List.getElem?_set];simp;omega
         rw [show k+(t+1)=k+t+1 by omega,hst2,zck e1,List.take_set_of_le (Nat.le_refl _),g6]
        ·simp only at hj
         rw [List.getElem?_set_ne (by omega)]
         exact g7 j (by omega)
      ·right
       have e:k+t=l.length:=by omega
       refine ⟨(y,kk),?_,by simp only;omega,g3,?_⟩
       ·rw [zkA (by omega),zkC]
       ·simp only
        rw [e,List.take_length] at g6
        exact g6) fuel (l,k,1) ⟨Nat.le_refl _,by simp only;omega,rfl,by simp only;rw [hst,h4,List.length_take];omega,by simp only;omega,by simp only;rw [hst,h4],fun j _=>rfl⟩ (by have:=zbg;simp only;omega)
    obtain ⟨⟨y,kk⟩,e,g1,g2,g3⟩:=inner
    simp only at g1 g2 g3
    refine ⟨.inr (zc2 l),?_,rfl⟩
    rw [e]
    simp only [Option.bind_some,zag.k19]
    have e2:(List.take kk y++List.replicate (List.length y-kk) ([]:List Int)).length=l.length:=by
     rw [zkJ,List.length_take,List.length_replicate]
     omega
    rw [zar (by omega),zar (by omega),zar (by rw [e2];omega),List.take_append_of_le_length (by rw [List.length_take];omega),List.take_take,Nat.min_self,g3]
   ·left
    rw [if_neg h6] at hst
    refine ⟨k+1,by rw [zkA h6];rfl,⟨by omega,by omega,?_⟩,by omega⟩
    rw [hst,h4,zck hx]
  ·right
   have e:k=l.length:=by omega
   subst e
   refine ⟨.inl (),?_,?_⟩
   ·rw [zfd];rfl
   ·rw [List.take_length] at h4
    rw [h4]
    rfl) fuel 1 ⟨Nat.le_refl _,by omega,zpe (by rw [List.length_take];omega)⟩ (by have:=zbg;omega)
 obtain ⟨r,e,hr⟩:=key;rw [e];exact hr
theorem zce {w:List Int} (h:SmW w):zbt w=some w:=by
 unfold zbt zp7;exact zar (by unfold SmW at h;unfold zbh;omega)
theorem ztg {l:List (List Int)} (h:l.length≤2000000):zgm l=some l:=by
 unfold zgm zp7;exact zar (by unfold zbh;omega)
theorem zt2 {cf:List Int→List Int→Int} (T:zld cf) {f:List Int→List Int→Option Int} {l:List (List Int)} (hl:SmL l) (hf:∀ a∈l,∀ b∈l,f a b=some (cf a b)) :
  ∃ S,zci l f=some S∧S.Pairwise (fun a b=>cf a b=-1)∧(∀ x,x∈S↔x∈l)∧S.length≤l.length:=by
 have hl1:l.length≤2000000:=hl.1;obtain ⟨S,e1,hp,hs⟩:=libSort_eq T (by omega:l.length≤1000000000) hf;obtain ⟨d1,d2⟩:=dedup_asc T hs;have hm:∀ x,x∈zc2 S↔x∈l:=fun x=>by rw [d2,hp.mem_iff]
 have hlen:(zc2 S).length≤l.length:=by
  have:=dedupA_length S;rw [hp.length_eq] at this;exact this
 refine ⟨zc2 S,?_,d1,hm,hlen⟩;unfold zci zgh;rw [ztg hl1];simp only [Option.bind_some];rw [e1];simp only [Option.bind_some]
 rw [compact_eq (by rw [hp.length_eq];omega) (fun a ha b hb=>by
  unfold zef
  rw [hf a (hp.mem_iff.1 ha) b (hp.mem_iff.1 hb)]
  simp only [Option.bind_some]
  congr 1
  exact decide_eq_decide.2 (T.zero a b))]
 simp only [Option.bind_some]
 rw [zgs (r:=zc2 S) (fun s=>s.1=zc2 S) (fun s=>(zc2 S).length-s.2) (fun s h1=>by
  simp only [zci.s2]
  by_cases h3:s.2<(zc2 S).length
  ·left
   have hx:=get_at h3
   have hxs:SmW ((zc2 S)[s.2]):=hl.2 _ ((hm _).1 (List.getElem_mem _))
   refine ⟨(zc2 S,s.2+1),?_,rfl,by simp only;omega⟩
   rw [zfl hx,zkD,h1,zau hx,zce hxs]
   simp only [Option.bind_some]
   rw [zau hx,zar (by unfold inR;omega),List.set_getElem_self]
  ·right
   rw [zkA (by omega),zkC,h1]) (s:=(zc2 S,0)) rfl (by have:=zbg;simp only;omega)]
 rfl
theorem zi4 {l:List (List Int)} (hl:SmL l):ze2 l=some (sortW l):=by
 obtain ⟨S,e,h1,h2,_⟩:=zt2 cmpW_total (f:=fun u0 u1=>zeb u0 u1) hl fun a ha b hb=>zh8 a b (by have:SmW a:=hl.2 a ha;unfold SmW at this;omega);unfold ze2;rw [e];show some S=_;congr 1;exact asc_ext h1 (zr7 l) fun x=>by rw [h2,zhb]
end
section
set_option maxRecDepth 100000
end
section
set_option maxRecDepth 100000
def SmO (o:zaw):Prop:=o.Traces.length≤1100000∧∀ t∈o.Traces,t.In.length≤1100000∧t.Out.length≤2000000
theorem zg6 (a b:List Int) (ha:SmW a):zc8 a b=some (zbk a b:Int):=by
 have ha':a.length≤2000000:=ha;have hle:=zks a b;unfold zc8
 have key:=zb1 (step:=fun k=>zc8.s2 a b k) (fun k=>k≤a.length∧k≤b.length∧zbk a b=zbk (a.drop k) (b.drop k)+k) (fun k=>a.length-k) (fun r=>Sum.elim (fun (_:Unit)=>some (min (↑(List.length a):Int) (↑(List.length b):Int))) some r=some (zbk a b:Int)) (fun k ⟨h1,h2,h3⟩=>by
  simp only [zc8.s2]
  by_cases h4:k<a.length∧k<b.length
  ·have hx:=get_at h4.1
   have hy:=get_at h4.2
   rw [zkB (show (↑k:Int)<min (↑(List.length a):Int) (↑(List.length b):Int) by omega),zkD,zau hx,zau hy]
   rw [List.drop_eq_getElem_cons h4.1,List.drop_eq_getElem_cons h4.2] at h3
   by_cases e:a[k]=b[k]
   ·left
    refine ⟨k+1,by simp [e],⟨h4.1,h4.2,?_⟩,by omega⟩
    rw [h3,e]
    simp [zbk]
    omega
   ·right
    simp only [zbk,e,if_false,Nat.zero_add] at h3
    exact ⟨.inr (k:Int),by simp [e],by rw [h3];rfl⟩
  ·right
   rw [zkA (by omega),zkC]
   refine ⟨.inl (),rfl,?_⟩
   rw [common_end (by omega),Nat.zero_add] at h3
   simp only [Sum.elim_inl]
   congr 1
   omega) fuel 0 ⟨Nat.zero_le _,Nat.zero_le _,by simp⟩ (by have:=zbg;omega)
 obtain ⟨r,e,hq⟩:=key;rw [e];exact hq
theorem zej (w p:List Int) (hw:SmW w):zdo w p=some (decide (p <+: w)):=by
 unfold zdo;rw [zg6 w p hw,zao];congr 1;exact decide_eq_decide.2 (by rw [← zk9 w p];omega)
def PropT (n:Int) (t:zab):Prop:=zby t.In n=0∧t.Out.length=t.In.length∧∀ y∈t.Out,0≤y∧y≤1048576
def Agree (a b:zab):Prop:=a.Out.take (zbk a.In b.In)=b.Out.take (zbk a.In b.In)
structure zj8 (o:zaw):Prop where
 inp:1≤o.Inputs∧o.Inputs≤64
 num:o.Traces.length≤10000
 prop:∀ t∈o.Traces,PropT o.Inputs t∧t.In≠[]
 asc:∀ (i j:Nat) a b,i<j→o.Traces[i]?=some a→o.Traces[j]?=some b→cmpW a.In b.In=-1
 apart:∀ (i j:Nat) a b,i<j→o.Traces[i]?=some a→o.Traces[j]?=some b→¬ a.In <+: b.In∧Agree a b
end
section
set_option maxRecDepth 100000
def ansO (o:zaw) (w:List Int):Option (List Int) :=
 if w=[] then some [] else (o.Traces.find? fun t=>decide (w <+: t.In)).map fun t=>t.Out.take w.length
abbrev tw {α:Type} (x:Option (List α)):List α×Bool:=match x with | some r=>(r,true) | none=>([],false)
theorem pre_len {p w:List Int} (h:p <+: w):p.length≤w.length:=h.length_le
end
section
set_option maxRecDepth 100000
theorem scan_idx {α:Type} {p:α→Bool}:∀ (l:List α) (j:Nat),scan (fun i x=>if p x=true then some (↑i:Int) else none) j l=if l.any p=true then some (↑(j+l.findIdx p):Int) else none
 | [],_=>rfl
 | x::l,j=>by
  unfold scan;by_cases h:p x=true
  ·simp [h,List.findIdx_cons]
  ·have hf:p x=false:=by simpa using h
   rw [if_neg h];simp only;rw [scan_idx l (j+1)];simp only [List.any_cons,hf,Bool.false_or,List.findIdx_cons,zkC];split
   ·congr 2;omega
   ·rfl
theorem find_idx {α:Type} {p:α→Bool}:∀ (l:List α),l.find? p=if l.any p=true then l[l.findIdx p]? else none
 | []=>rfl
 | x::l=>by
  by_cases h:p x=true
  ·simp [h,List.findIdx_cons]
  ·have hf:p x=false:=by simpa using h
   rw [List.find?_cons_of_neg (by simp [hf]),find_idx l];simp [hf,List.findIdx_cons]
theorem zre {l:List zab} {f:zab→Option Bool} {p:zab→Bool} (hl:l.length≤100000000000000) (hf:∀ x∈l,f x=some (p x)) :
  zan l f=some (if l.any p=true then (↑(l.findIdx p):Int) else -1):=by
 unfold zan
 have key:=zfq (step:=fun s=>zan.s2 l f s) (l:=l) (fun i x=>if p x=true then some (↑i:Int) else none) (fun i x hx=>by
  simp only [zan.s2]
  rw [zfl hx,zkD,zau hx,hf x (zkH hx),zao]
  cases p x<;>rfl) (by
  simp only [zan.s2]
  rw [zfd]
  rfl) hl
 rw [key,scan_idx,zao];by_cases h:l.any p=true
 ·rw [if_pos h,if_pos h,Nat.zero_add];rfl
 ·rw [if_neg h,if_neg h];rfl
theorem zql {l:List Int} {f:Int→Option Bool} {p:Int→Bool} (hl:l.length≤100000000000000) (hf:∀ x∈l,f x=some (p x)) :
  zb4 l f=some (l.any p):=by
 unfold zb4 zbc
 have key:=zfq (step:=fun s=>zbc.s2 l f s) (l:=l) (fun i x=>if p x=true then some (↑i:Int) else none) (fun i x hx=>by
  simp only [zbc.s2]
  rw [zfl hx,zkD,zau hx,hf x (zkH hx),zao]
  cases p x<;>rfl) (by
  simp only [zbc.s2]
  rw [zfd]
  rfl) hl
 rw [key,scan_idx];by_cases h:l.any p=true
 ·rw [if_pos h,h];simp
 ·have h':l.any p=false:=by simpa using h
  rw [if_neg h,h'];rfl
def zpm (t:zab) (n:Int):Int :=
 if zby t.In n≠0 then zby t.In n else if t.Out.length≠t.In.length then 1 else if (t.Out.all fun y=>decide (0≤y∧y≤1048576))=true then 0 else 2
theorem zla {t:zab} {n:Int}:zpm t n=0↔PropT n t:=by
 unfold zpm PropT;by_cases h1:zby t.In n=0
 ·rw [if_neg (by simpa using h1)];by_cases h2:t.Out.length=t.In.length
  ·rw [if_neg (by simpa using h2)];by_cases h3:(t.Out.all fun y=>decide (0≤y∧y≤1048576))=true
   ·rw [if_pos h3];exact ⟨fun _=>⟨h1,h2,fun y hy=>of_decide_eq_true (List.all_eq_true.1 h3 y hy)⟩,fun _=>rfl⟩
   ·rw [if_neg h3];exact ⟨fun h=>(by cases h),fun h=>absurd (List.all_eq_true.2 fun y hy=>zkB (h.2.2 y hy)) h3⟩
  ·rw [if_pos h2];exact ⟨fun h=>(by cases h),fun h=>absurd h.2.1 h2⟩
 ·rw [if_pos h1];exact ⟨fun h=>absurd h h1,fun h=>absurd h.1 h1⟩
theorem zow (t:zab) (n:Int) (h1:SmW t.In) (h2:SmW t.Out):zfw t n=some (zpm t n):=by
 unfold zfw zpm;rw [zgg _ _ h1,zao];by_cases g1:zby t.In n=0
 ·rw [zkA (by simpa using g1),zkC,if_neg (by simpa using g1)];by_cases g2:t.Out.length=t.In.length
  ·rw [zkA (by omega),zkC,if_neg (by simpa using g2)]
   rw [zql (p:=fun y=>!decide (0≤y∧y≤1048576)) (by unfold SmW at h2;omega) fun y _=>by
    unfold zew
    by_cases a1:y<0
    ·rw [zkB a1,zkD,zao,zkA (show ¬ (0≤y∧y≤1048576) by omega)];rfl
    ·by_cases a2:1048576<y
     ·rw [zkA a1,zkC,zkB a2,zao,zkA (show ¬ (0≤y∧y≤1048576) by omega)];rfl
     ·rw [zkA a1,zkC,zkA a2,zao,zkB (show (0≤y∧y≤1048576) by omega)];rfl,zao]
   by_cases h:(t.Out.all fun y=>decide (0≤y∧y≤1048576))=true
   ·have h':(t.Out.any fun y=>!decide (0≤y∧y≤1048576))=false:=by
     rw [List.any_eq_false];intro y hy;have:=List.all_eq_true.1 h y hy;simp only [this,Bool.not_true];exact Bool.false_ne_true
    rw [h',zkC,if_pos h]
   ·have h':(t.Out.any fun y=>!decide (0≤y∧y≤1048576))=true:=by
     refine Classical.byContradiction fun hn=>h (List.all_eq_true.2 fun y hy=>?_);refine Classical.byContradiction fun hm=>hn (List.any_eq_true.2 ⟨y,hy,?_⟩);have:decide (0≤y∧y≤1048576)=false:=by simpa only [Bool.not_eq_true] using hm
     rw [this];rfl
    rw [h',zkD,if_neg h]
  ·rw [zkB (by omega),zkD,if_pos g2]
 ·rw [zkB g1,zkD,if_pos g1]
theorem zqw:∀ a b:List Int,zbk a b=zbk b a
 | [],[]=>rfl
 | [],_::_=>rfl
 | _::_,[]=>rfl
 | x::a,y::b=>by
  unfold zbk;by_cases h:x=y
  ·rw [if_pos h,if_pos h.symm,zqw a b]
  ·rw [if_neg h,if_neg fun e=>h e.symm]
theorem Agree.symm {a b:zab} (h:Agree a b):Agree b a:=by
 unfold Agree at h ⊢;rw [zqw];exact h.symm
theorem common_eq_iff {x y:List Int} (h:x.length=y.length):zbk x y=y.length↔x=y:=by
 rw [zk9];exact ⟨fun hp=>(hp.eq_of_length h.symm).symm,fun e=>e ▸ List.prefix_refl _⟩
theorem zni (a b:zab) {n:Int} (ha:PropT n a) (hb:PropT n b) (h1:SmW a.In):∃ d,zfr a b=some d∧(0≤d↔¬ Agree a b):=by
 have h1':a.In.length≤2000000:=h1;have hc:=zks a.In b.In;have la:=ha.2.1;have lb:=hb.2.1;unfold zfr;rw [zg6 _ _ h1,zao];have hm:min (min (↑(zbk a.In b.In):Int) (↑(List.length a.Out):Int)) (↑(List.length b.Out):Int)=↑(zbk a.In b.In):=by omega
 rw [hm,zar (by omega),zar (by omega),Int.toNat_natCast,zg6 _ _ (by unfold SmW;rw [List.length_take];omega),zao];have l1:(a.Out.take (zbk a.In b.In)).length=zbk a.In b.In:=by rw [List.length_take];omega
 have l2:(b.Out.take (zbk a.In b.In)).length=zbk a.In b.In:=by rw [List.length_take];omega
 have hle:=zks (a.Out.take (zbk a.In b.In)) (b.Out.take (zbk a.In b.In));have hiff:=common_eq_iff (x:=a.Out.take (zbk a.In b.In)) (y:=b.Out.take (zbk a.In b.In)) (by omega);by_cases h:zbk (a.Out.take (zbk a.In b.In)) (b.Out.take (zbk a.In b.In))<zbk a.In b.In
 ·rw [zkB (by omega),zkD];exact ⟨_,rfl,fun _ hA=>by have:=hiff.2 hA;omega,fun _=>by omega⟩
 ·rw [zkA (by omega),zkC];exact ⟨-1,rfl,fun h=>absurd h (by decide),fun hA=>absurd (hiff.1 (by omega)) hA⟩
def zlx (l:List zab) (t:zab):Prop:=∃ u∈l,¬ Agree u t
def zgv (l:List zab) (w:List Int):Bool:=l.any fun u=>decide (w <+: u.In)
def insT:List zab→zab→List zab
 | [],t=>[t]
 | x::r,t=>if cmpW t.In x.In=-1 then t::x::r else x::insT r t
def zs6 (l:List zab) (t:zab):List zab:=l.filter fun u=>!decide (u.In <+: t.In)
def addL (l:List zab) (t:zab):List zab:=if zgv l t.In=true∨t.In=[] then l else insT (zs6 l t) t
instance (a b:zab):Decidable (Agree a b):=by unfold Agree;infer_instance
instance (l:List zab) (t:zab):Decidable (zlx l t):=by unfold zlx;infer_instance
def addO (o:zaw) (t:zab):zaw×Int :=
 if zpm t o.Inputs≠0 then (o,zpm t o.Inputs) else if zlx o.Traces t then (o,13) else if 10000<(addL o.Traces t).length then (o,11) else (⟨o.Inputs,addL o.Traces t⟩,0)
theorem zqz (l:List zab) (t:zab):(insT l t).length=l.length+1:=by
 induction l with
 | nil=>rfl
 | cons x r ih =>
  unfold insT;split
  ·rfl
  ·simp [ih]
theorem zo9 (l:List zab) (t:zab):(zs6 l t).length≤l.length:=List.length_filter_le _ _
theorem zq6 (l:List zab) (t:zab):(addL l t).length≤l.length+1:=by
 unfold addL;split
 ·omega
 ·rw [zqz];have:=zo9 l t;omega
theorem zhu {l:List zab} {t x:zab}:x∈insT l t↔x=t∨x∈l:=by
 induction l with
 | nil=>simp [insT]
 | cons y r ih =>
  unfold insT;split
  ·simp
  ·simp only [List.mem_cons,ih];constructor
   ·rintro (h | h | h)
    ·exact .inr (.inl h)
    ·exact .inl h
    ·exact .inr (.inr h)
   ·rintro (h | h | h)
    ·exact .inr (.inl h)
    ·exact .inl h
    ·exact .inr (.inr h)
theorem insT_at:∀ {l:List zab} {t:zab} {k:Nat},k≤l.length→(∀ j x,j<k→l[j]?=some x→cmpW x.In t.In=-1)→(∀ x,l[k]?=some x→cmpW x.In t.In≠-1)→(∀ x∈l,x.In≠t.In)→insT l t=l.take k++[t]++l.drop k
 | [],t,k,hk,_,_,_=>by
  have:k=0:=by simpa using hk
  subst this;rfl
 | x::r,t,0,_,_,h2,h3=>by
  have h4:=h2 x rfl;have h5:=h3 x (by simp);have r1:=zjd x.In t.In;have z1:=zko x.In t.In;have s1:=zji x.In t.In;have h6:¬ cmpW x.In t.In=0:=fun e=>h5 (z1.1 e);unfold insT;rw [if_pos (by omega)];rfl
 | x::r,t,k+1,hk,h1,h2,h3=>by
  have h4:=h1 0 x (Nat.succ_pos _) rfl;have s1:=zji x.In t.In;unfold insT;rw [if_neg (by omega),insT_at (k:=k) (by simpa using hk) (fun j y hj hy=>h1 (j+1) y (by omega) (by simpa using hy)) (fun y hy=>h2 y (by simpa using hy)) fun y hy=>h3 y (by simp [hy])];rfl
theorem insT_pair {S:zab→zab→Prop} {t:zab}:∀ {l:List zab},l.Pairwise S→(∀ x∈l,S x t∧S t x)→(insT l t).Pairwise S
 | [],_,_=>by simp [insT]
 | x::r,h,ht=>by
  unfold insT;have hx:=List.pairwise_cons.1 h;split
  ·exact List.pairwise_cons.2 ⟨fun y hy=>(ht y hy).2,h⟩
  ·refine List.pairwise_cons.2 ⟨fun y hy=>?_,insT_pair hx.2 fun y hy=>ht y (by simp [hy])⟩;rcases zhu.1 hy with e | e
   ·subst e;exact (ht x (by simp)).1
   ·exact hx.1 y e
theorem insT_asc {t:zab}:∀ {l:List zab},l.Pairwise (fun a b=>cmpW a.In b.In=-1)→(∀ x∈l,x.In≠t.In)→(insT l t).Pairwise (fun a b=>cmpW a.In b.In=-1)
 | [],_,_=>by simp [insT]
 | x::r,h,hn=>by
  unfold insT;have hx:=List.pairwise_cons.1 h;split
  ·rename_i h1;refine List.pairwise_cons.2 ⟨fun y hy=>?_,h⟩;rcases List.mem_cons.1 hy with e | e
   ·rw [e];exact h1
   ·exact zhx _ _ _ h1 (hx.1 y e)
  ·rename_i h1;refine List.pairwise_cons.2 ⟨fun y hy=>?_,insT_asc hx.2 fun y hy=>hn y (by simp [hy])⟩;rcases zhu.1 hy with e | e
   ·subst e;have r1:=zjd x.In y.In;have z1:=zko x.In y.In;have s1:=zji x.In y.In;have h6:¬ cmpW x.In y.In=0:=fun e=>hn x (by simp) (z1.1 e);omega
   ·exact hx.1 y e
theorem zj8.pw {o:zaw} (hv:zj8 o):o.Traces.Pairwise (fun a b=>cmpW a.In b.In=-1)∧o.Traces.Pairwise (fun a b=>¬ a.In <+: b.In∧Agree a b) :=
 ⟨List.pairwise_iff_getElem.2 fun i j hi hj hij=>hv.asc i j _ _ hij (get_at hi) (get_at hj),List.pairwise_iff_getElem.2 fun i j hi hj hij=>hv.apart i j _ _ hij (get_at hi) (get_at hj)⟩
theorem obsOk_of {o:zaw} (h1:1≤o.Inputs∧o.Inputs≤64) (h2:o.Traces.length≤10000) (h3:∀ t∈o.Traces,PropT o.Inputs t∧t.In≠[]) (h4:o.Traces.Pairwise (fun a b=>cmpW a.In b.In=-1)) (h5:o.Traces.Pairwise (fun a b=>¬ a.In <+: b.In∧Agree a b)):zj8 o:=by
 refine ⟨h1,h2,h3,fun i j a b hij ha hb=>?_,fun i j a b hij ha hb=>?_⟩
 all_goals
  obtain ⟨hi,rfl⟩:=zkI.1 ha;obtain ⟨hj,rfl⟩:=zkI.1 hb
 ·exact List.pairwise_iff_getElem.1 h4 i j hi hj hij
 ·exact List.pairwise_iff_getElem.1 h5 i j hi hj hij
theorem insideO_false {l:List zab} {w:List Int} (h:¬ zgv l w=true):∀ u∈l,¬ w <+: u.In:=fun u hu hp=>h (List.any_eq_true.2 ⟨u,hu,zkB hp⟩)
theorem addO_ok {o:zaw} {t:zab} (hv:zj8 o):zj8 (addO o t).1:=by
 unfold addO;split
 ·exact hv
 rename_i hp;have hp:PropT o.Inputs t:=zla.1 (by simpa using hp);split
 ·exact hv
 rename_i hc;split
 ·exact hv
 rename_i hn;have hn:(addL o.Traces t).length≤10000:=by omega
 unfold addL at hn ⊢;by_cases h:zgv o.Traces t.In=true∨t.In=[]
 ·rw [if_pos h];exact hv
 ·rw [if_neg h] at hn ⊢;have h1:=insideO_false fun e=>h (.inl e);have h2:t.In≠[]:=fun e=>h (.inr e);have hsub:(zs6 o.Traces t).Sublist o.Traces:=List.filter_sublist
  have hrest:∀ x∈zs6 o.Traces t,x∈o.Traces∧¬ x.In <+: t.In:=fun x hx=>by
   have:=List.mem_filter.1 hx;refine ⟨this.1,fun e=>?_⟩;rw [zkB e] at this;exact Bool.false_ne_true this.2
  have hag:∀ x∈o.Traces,Agree x t:=fun x hx=>Classical.byContradiction fun e=>hc ⟨x,hx,e⟩;refine obsOk_of hv.inp hn (fun x hx=>?_) (insT_asc (hv.pw.1.sublist hsub) fun x hx e=>(hrest x hx).2 (e ▸ List.prefix_refl _)) (insT_pair (hv.pw.2.sublist hsub) fun x hx=>⟨⟨(hrest x hx).2,hag x (hrest x hx).1⟩,h1 x (hrest x hx).1,(hag x (hrest x hx).1).symm⟩);rcases zhu.1 hx with e | e
  ·rw [e];exact ⟨hp,h2⟩
  ·exact hv.prop x (hrest x e).1
end
section
set_option maxRecDepth 100000
def SmX (t:zab):Prop:=SmW t.In∧SmW t.Out
def SmTr (l:List zab):Prop:=l.length≤1200000∧∀ t∈l,SmX t
theorem SmO.tr {o:zaw} (h:SmO o):SmTr o.Traces:=⟨by have:=h.1;omega,fun t ht=>⟨by have:=(h.2 t ht).1;unfold SmW;omega,(h.2 t ht).2⟩⟩
theorem capT {n:Nat} (h:n≤3000000):zbh n 48:=by unfold zbh;omega
theorem zi8 {t:zab} (h:SmX t):ze3 t=some t:=by
 unfold ze3;rw [zce h.1,zao,zce h.2,zao]
theorem zpy {l:List zab} (h:SmTr l):zc6 l=some l:=by
 have hl:=h.1;unfold zc6;rw [zar ⟨by decide,by omega,by rw [show ((↑l.length:Int)+1).toNat=l.length+1 by omega];exact capT (by omega)⟩]
 have key:=zb1 (step:=fun (s:List zab×Nat)=>zc6.s2 l s.1 s.2) (fun s=>s.2≤l.length∧s.1=l.take s.2) (fun s=>l.length-s.2) (fun r=>r=l) (fun ⟨y,i⟩ ⟨g1,g2⟩=>by
  simp only at g1 g2
  subst g2
  simp only [zc6.s2]
  by_cases g3:i<l.length
  ·left
   have hx:=get_at g3
   refine ⟨(l.take (i+1),i+1),?_,⟨g3,rfl⟩,by simp only;omega⟩
   rw [zfl hx,zkD,zau hx,zi8 (h.2 _ (List.getElem_mem _)),zao,zar (capT (by rw [List.length_take];omega)),zck hx]
  ·right
   have e:i=l.length:=by omega
   subst e
   exact ⟨l,by rw [zfd,zkC,List.take_length],rfl⟩) fuel ([],0) ⟨Nat.zero_le _,rfl⟩ (by have:=zbg;simp only;omega)
 obtain ⟨r,e,rfl⟩:=key;rw [e,zao]
theorem tdelete_eq {l:List zab} {f:zab→Option Bool} {p:zab→Bool} (hl:l.length≤100000000) (hf:∀ x∈l,f x=some (p x)) :
  zai l f=some (l.filter fun x=>!p x):=by
 unfold zai;rw [zre (by omega) hf,zao];by_cases h:l.any p=true
 ·rw [if_pos h,zkA (by omega),zkC];have hi:l.findIdx p<l.length:=List.findIdx_lt_length_of_exists (by simpa using List.any_eq_true.1 h);have hx:=get_at hi;have hpx:p l[l.findIdx p]=true:=List.findIdx_getElem
  have hbefore:∀ (k:Nat),k≤l.findIdx p→(l.take k).filter (fun x=>!p x)=l.take k:=fun k hk=>by
   refine List.filter_eq_self.2 fun x hx=>?_;obtain ⟨j,hj,rfl⟩:=List.mem_iff_getElem.1 hx;rw [List.length_take] at hj;rw [List.getElem_take];have:=List.not_of_lt_findIdx (p:=p) (xs:=l) (i:=j) (by omega);have h9:p l[j]=false:=by simpa using this
   rw [h9];rfl
  rw [zar (by unfold inR;omega)]
  have key:=zb1 (step:=fun (s:List zab×Int×Int)=>zai.s2 f s.1 s.2.1 s.2.2)
   (fun s=>∃ i j:Nat,s.2.1=(i:Int)∧s.2.2=(j:Int)∧i<j∧j≤l.length∧s.1.length=l.length∧s.1.drop j=l.drop j∧s.1.take i=(l.take j).filter fun x=>!p x) (fun s=>(↑l.length-s.2.2).toNat)
   (fun r=>∃ i:Nat,r.2=(i:Int)∧i≤l.length∧0<l.length∧r.1.length=l.length∧r.1.take i=l.filter fun x=>!p x) (fun ⟨y,si,sj⟩ ⟨i,j,g1,g2,g3,g4,g5,g6,g7⟩=>by
    simp only at g1 g2 g5 g6 g7
    subst g1 g2
    simp only [zai.s2]
    by_cases g8:j<l.length
    ·left
     have hz:=get_at g8
     have hy:y[j]?=some l[j]:=by
      have h1:(y.drop j)[0]?=(l.drop j)[0]?:=by rw [g6]
      rw [List.getElem?_drop,List.getElem?_drop,Nat.add_zero,hz] at h1
      exact h1
     rw [zkB (by omega),zkD,zcs rfl hy,hf _ (List.getElem_mem _),zao]
     have hd:∀ u:List zab,u.drop j=l.drop j→u.drop (j+1)=l.drop (j+1):=fun u hu=>by
      rw [← List.drop_drop,hu,List.drop_drop]
     cases hp:p l[j] with
     | false =>
      have hyi:=get_at (l:=y) (i:=i) (by omega)
      refine ⟨(y.set i l[j],((i+1:Nat):Int),((j+1:Nat):Int)),?_,⟨i+1,j+1,rfl,rfl,by omega,by omega,by simpa using g5,?_,?_⟩,by simp only;omega⟩
      ·rw [Bool.not_false,zkD,zcs rfl hyi,zar (by unfold inR;omega),zar (by unfold inR;omega)]
       simp
      ·rw [List.drop_set_of_lt (by omega)]
       exact hd y g6
      ·rw [zck hz,List.filter_append,← g7]
       have hset:(y.set i l[j])[i]?=some l[j]:=by rw [List.getElem?_set_self (by omega)]
       rw [zck hset,List.take_set_of_le (by omega)]
       simp [hp]
     | true =>
      refine ⟨(y,(i:Int),((j+1:Nat):Int)),?_,⟨i,j+1,rfl,rfl,by omega,by omega,g5,hd y g6,?_⟩,by simp only;omega⟩
      ·rw [Bool.not_true,zkC,zar (by unfold inR;omega)]
       simp
      ·rw [zck hz,List.filter_append,← g7]
       simp [hp]
    ·right
     have e:j=l.length:=by omega
     subst e
     refine ⟨(y,(i:Int)),by rw [zkA (by omega),zkC],i,rfl,by omega,by omega,g5,?_⟩
     rw [g7,List.take_length]) fuel (l,(↑(l.findIdx p):Int),(↑(l.findIdx p):Int)+1) ⟨l.findIdx p,l.findIdx p+1,rfl,by simp,by omega,hi,rfl,rfl,by
    rw [zck hx,List.filter_append,hbefore _ (Nat.le_refl _)]
    simp [hpx]⟩ (by have:=zbg;simp only;omega)
  obtain ⟨⟨y,si⟩,e,i,g1,g2,g3,g4,g5⟩:=key;simp only at g1 g4 g5;subst g1;rw [e,zao];simp only [zai.k3]
  have hlen:(List.take i y++List.replicate (y.length-i) (⟨[],[]⟩:zab)).length=y.length:=by
   rw [zkJ,List.length_take,List.length_replicate];omega
  rw [Int.toNat_natCast,hlen,zar (by omega),zar (by omega),zar (by omega),List.take_append_of_le_length (by rw [List.length_take];omega),List.take_take,Nat.min_self,g5]
 ·have h':l.any p=false:=by simpa using h
  rw [if_neg h,zkB rfl,zkD];congr 1;refine (List.filter_eq_self.2 fun x hx=>?_).symm;have:=List.any_eq_false.1 h' x hx;simpa using this
theorem tsearch_eq {F:List zab} {t:zab} (hs:F.Pairwise fun a b=>cmpW a.In b.In=-1) (hl:F.length≤2000000) (hw:∀ x∈F,SmW x.In) :
  ∃ k:Nat,∃ b,zaj F t (fun u0 u1=>zdz u0 u1)=some ((↑k:Int),b)∧k≤F.length∧(∀ j x,j<k→F[j]?=some x→cmpW x.In t.In=-1)∧∀ x,F[k]?=some x→cmpW x.In t.In≠-1:=by
 have hc:∀ x∈F,zdz x t=some (cmpW x.In t.In):=fun x hx=>by
  unfold zdz;rw [zh8 _ _ (by have:=hw x hx;unfold SmW at this;omega),zao]
 have hlt:∀ {i j:Nat} {a b:zab},i<j→F[i]?=some a→F[j]?=some b→cmpW a.In b.In=-1:=fun {i j a b} hij ha hb=>by
  obtain ⟨hi,rfl⟩:=zkI.1 ha;obtain ⟨hj,rfl⟩:=zkI.1 hb;exact List.pairwise_iff_getElem.1 hs i j hi hj hij
 have key:=zb1 (step:=fun (s:Int×Int)=>zaj.s2 F t (fun u0 u1=>zdz u0 u1) s.1 s.2)
  (fun s=>∃ i j:Nat,s.1=(i:Int)∧s.2=(j:Int)∧i≤j∧j≤F.length∧(∀ k x,k<i→F[k]?=some x→cmpW x.In t.In=-1)∧∀ k x,j≤k→F[k]?=some x→cmpW x.In t.In≠-1) (fun s=>(s.2-s.1).toNat)
  (fun r=>∃ k:Nat,r=(k:Int)∧k≤F.length∧(∀ j x,j<k→F[j]?=some x→cmpW x.In t.In=-1)∧∀ x,F[k]?=some x→cmpW x.In t.In≠-1) (fun s ⟨i,j,g1,g2,g3,g4,g5,g6⟩=>by
   obtain ⟨si,sj⟩:=s
   simp only at g1 g2
   subst g1 g2
   simp only [zaj.s2]
   by_cases g7:i<j
   ·left
    have hmid:((↑i:Int)+↑j) / 2^1=((i+j) / 2:Nat):=by omega
    have hx:=get_at (l:=F) (i:=(i+j) / 2) (by omega)
    rw [zkB (by omega),zkD,zar (by unfold inR;omega),zar (by omega),zar (by omega),zar (by unfold inR;omega),zcs hmid hx,hc _ (List.getElem_mem _),zao]
    have r:=zjd (F[(i+j) / 2]'(by omega)).In t.In
    by_cases g8:cmpW (F[(i+j) / 2]'(by omega)).In t.In<0
    ·refine ⟨(((i+j) / 2+1:Nat),(j:Int)),?_,⟨(i+j) / 2+1,j,rfl,rfl,by omega,g4,fun k x hk hx2=>?_,g6⟩,by simp only;omega⟩
     ·rw [zkB g8,zkD,zar (by unfold inR;omega),hmid]
      simp
     ·rcases Nat.lt_or_ge k ((i+j) / 2) with h | h
      ·exact zhx _ _ _ (hlt h hx2 hx) (by omega)
      ·have e:k=(i+j) / 2:=by omega
       subst e
       rw [hx] at hx2
       injection hx2 with hx2
       subst hx2
       omega
    ·refine ⟨((i:Int),(((i+j) / 2:Nat):Int)),?_,⟨i,(i+j) / 2,rfl,rfl,by omega,by omega,g5,fun k x hk hx2=>?_⟩,by simp only;omega⟩
     ·rw [zkA g8,zkC,hmid]
     ·intro h9
      rcases Nat.lt_or_ge ((i+j) / 2) k with h | h
      ·have:=zhx _ _ _ (hlt h hx hx2) h9
       omega
      ·have e:k=(i+j) / 2:=by omega
       subst e
       rw [hx] at hx2
       injection hx2 with hx2
       subst hx2
       omega
   ·right
    have e:i=j:=by omega
    subst e
    refine ⟨(i:Int),by rw [zkA (by omega),zkC],i,rfl,g4,g5,fun x hx2=>g6 i x (Nat.le_refl _) hx2⟩) fuel (0,(↑(List.length F):Int)) ⟨0,F.length,rfl,rfl,Nat.zero_le _,Nat.le_refl _,fun k x h=>by omega,fun k x h hx2=>by
    have:=(zkI.1 hx2).1
    omega⟩ (by have:=zbg;simp only;omega)
 obtain ⟨r,e,k,hk,h1,h2,h3⟩:=key;subst hk;unfold zaj;rw [e,zao];by_cases h4:k<F.length
 ·have hx:=get_at h4;rw [zkB (by omega),zkD,zcs rfl hx,show (fun (u0:zab) (u1:zab)=>zdz u0 u1) F[k] t=some (cmpW F[k].In t.In) from hc _ (List.getElem_mem _),zao,zao];exact ⟨k,_,rfl,h1,h2,h3⟩
 ·rw [zkA (by omega),zkC,zao];exact ⟨k,_,rfl,h1,h2,h3⟩
theorem ztc {o:zaw} {t:zab} (ho:SmTr o.Traces) (hv:zj8 o) (ht:SmX t) (hp:PropT o.Inputs t) :
  zdt o.Traces t=some (if zlx o.Traces t then ([],13) else if 10000<(addL o.Traces t).length then ([],11) else (addL o.Traces t,0)):=by
 have hl:=ho.1;unfold zdt
 have key:=zb1 (step:=fun (s:Bool×Nat)=>zdt.s2 o.Traces t s.1 s.2) (fun s=>s.2≤o.Traces.length∧(∀ u∈o.Traces.take s.2,Agree u t)∧s.1=zgv (o.Traces.take s.2) t.In) (fun s=>o.Traces.length-s.2)
  (fun r=>match r with | .inl b=>¬ zlx o.Traces t∧b=zgv o.Traces t.In | .inr x=>zlx o.Traces t∧x=([],13)) (fun ⟨b,i⟩ ⟨g1,g2,g3⟩=>by
   simp only at g1 g2 g3
   simp only [zdt.s2]
   by_cases g4:i<o.Traces.length
   ·have hx:=get_at g4
    have hxm:=List.getElem_mem g4
    obtain ⟨d,hd,hd2⟩:=zni o.Traces[i] t (hv.prop _ hxm).1 hp (ho.2 _ hxm).1
    rw [zfl hx,zkD,zau hx,hd,zao]
    by_cases g5:0≤d
    ·right
     exact ⟨.inr ([],13),by rw [zkB g5,zkD],⟨_,hxm,hd2.1 g5⟩,rfl⟩
    ·left
     have hA:Agree o.Traces[i] t:=Classical.byContradiction fun e=>g5 (hd2.2 e)
     have hst:zgv (o.Traces.take (i+1)) t.In=(b||decide (t.In <+: o.Traces[i].In)):=by
      rw [zck hx,g3]
      unfold zgv
      rw [List.any_append]
      simp
     refine ⟨(zgv (o.Traces.take (i+1)) t.In,i+1),?_,⟨g4,fun u hu=>?_,rfl⟩,by simp only;omega⟩
     ·rw [zkA g5,zkC,hst]
      cases b with
      | true=>rfl
      | false =>
       rw [zkC,zej _ _ (ho.2 _ hxm).1,zao]
       rfl
     ·rw [zck hx] at hu
      rcases List.mem_append.1 hu with h | h
      ·exact g2 u h
      ·rw [List.mem_singleton.1 h]
       exact hA
   ·right
    have e:i=o.Traces.length:=by omega
    subst e
    rw [List.take_length] at g2 g3
    exact ⟨.inl b,by rw [zfd,zkC],fun ⟨u,hu,h⟩=>h (g2 u hu),g3⟩) fuel (false,0) ⟨Nat.zero_le _,fun u hu=>by simp at hu,rfl⟩ (by have:=zbg;simp only;omega)
 obtain ⟨r,e,hq⟩:=key;rw [e,zao];cases r with
 | inr x =>
  rw [if_pos hq.1,hq.2];rfl
 | inl b =>
  obtain ⟨h1,rfl⟩:=hq;rw [if_neg h1];simp only [Sum.elim_inl]
  have hb:(cond (zgv o.Traces t.In) (some true) (some (decide ((↑(List.length t.In):Int)=0))):Option Bool)=some (decide (zgv o.Traces t.In=true∨t.In=[])):=by
   cases hi:zgv o.Traces t.In with
   | true=>rfl
   | false =>
    rw [zkC];congr 1;refine decide_eq_decide.2 ⟨fun h=>.inr (List.eq_nil_of_length_eq_zero (by omega)),fun h=>?_⟩;rcases h with h | h
    ·cases h
    ·rw [h];rfl
  rw [hb,zao];by_cases h2:zgv o.Traces t.In=true∨t.In=[]
  ·have ha:addL o.Traces t=o.Traces:=if_pos h2;have hn:=hv.num;rw [zkB h2,zkD,ha,if_neg (by omega)]
  ·have ha:addL o.Traces t=insT (zs6 o.Traces t) t:=if_neg h2
   rw [zkA h2,zkC,tdelete_eq (p:=fun u=>decide (u.In <+: t.In)) (by omega) fun x hx=>by
    unfold zgb
    rw [zej _ _ ht.1,zao],zao]
   have hrl:=zo9 o.Traces t;have hn:=hv.num;have hil:=zqz (zs6 o.Traces t) t;rw [show (o.Traces.filter fun x=>!decide (x.In <+: t.In))=zs6 o.Traces t from rfl,ha];by_cases h3:(zs6 o.Traces t).length=10000
   ·rw [zkB (by omega),zkD,if_pos (by omega)]
   ·rw [zkA (by omega),zkC,if_neg (by omega)];have hsub:(zs6 o.Traces t).Sublist o.Traces:=List.filter_sublist
    have hne:∀ x∈zs6 o.Traces t,x.In≠t.In:=fun x hx e=>by
     have:=(List.mem_filter.1 hx).2;rw [e,zkB (List.prefix_refl _)] at this;exact Bool.false_ne_true this
    obtain ⟨k,b,e,k1,k2,k3⟩:=tsearch_eq (t:=t) (hv.pw.1.sublist hsub) (by omega) fun x hx=>(ho.2 x (hsub.subset hx)).1;rw [e,zao,zi8 ht,zao];simp only;unfold zgw;rw [zar ⟨by omega,by omega,rfl,by omega⟩,zao,Int.toNat_natCast,← insT_at k1 k2 k3 hne]
theorem zsw {o:zaw} {t:zab} (ho:SmTr o.Traces) (hv:zj8 o) (ht:SmX t):zhz o t=some (addO o t):=by
 have hl:=ho.1;unfold zhz zdn addO;rw [zpy ho,zao,show fuel=2+(fuel-2) by unfold fuel;rfl]
 have h1:zdn.s2 o [t] o.Traces 0=if zpm t o.Inputs≠0 then some (.inr (.inr (o,zpm t o.Inputs))) else if zlx o.Traces t then some (.inr (.inr (o,13))) else if 10000<(addL o.Traces t).length then some (.inr (.inr (o,11))) else some (.inl (addL o.Traces t,1)):=by
  unfold zdn.s2;rw [zkB (by simp),zkD,zau (x:=t) rfl,zow _ _ ht.1 ht.2,zao];by_cases g1:zpm t o.Inputs=0
  ·rw [zkA (by simpa using g1),zkC,if_neg (by simpa using g1),ztc ho hv ht (zla.1 g1),zao];split
   ·rfl
   ·split
    ·rfl
    ·rfl
  ·rw [zkB g1,zkD,if_pos g1]
 have h2:∀ l,zdn.s2 o [t] l 1=some (.inr (.inl l)):=fun l=>by
  unfold zdn.s2;rw [zkA (by simp),zkC]
 rw [Nat.add_comm 2 (fuel-2)];unfold iter;rw [h1];by_cases g1:zpm t o.Inputs≠0
 ·simp [g1]
 ·simp only [g1,if_false];by_cases g2:zlx o.Traces t
  ·simp [g2]
  ·simp only [g2,if_false];by_cases g3:10000<(addL o.Traces t).length
   ·simp [g3]
   ·simp only [g3,if_false];unfold iter;rw [h2];simp
theorem zna {o:zaw} {w:List Int} (ho:SmTr o.Traces) (hv:zj8 o):zfv o w=some (tw (ansO o w)):=by
 have hl:=ho.1;unfold zfv ansO;by_cases h0:w=[]
 ·subst h0;rfl
 ·have hwl:w.length≠0:=fun h=>h0 (List.eq_nil_of_length_eq_zero h)
  rw [if_neg h0,zkA (by omega),zkC,zre (p:=fun u=>decide (w <+: u.In)) (by omega) fun x hx=>by
   unfold ze1
   rw [zej _ _ (ho.2 x hx).1,zao],zao,find_idx]
  by_cases h:(o.Traces.any fun u=>decide (w <+: u.In))=true
  ·rw [if_pos h,if_pos h,zkA (by omega),zkC];have hi:o.Traces.findIdx (fun u=>decide (w <+: u.In))<o.Traces.length:=List.findIdx_lt_length_of_exists (by simpa using List.any_eq_true.1 h);have hx:=get_at hi;have hpx:decide (w <+: (o.Traces[o.Traces.findIdx fun u=>decide (w <+: u.In)]).In)=true:=List.findIdx_getElem (p:=fun (u:zab)=>decide (w <+: u.In));have hpx:=of_decide_eq_true hpx;have hm:=List.getElem_mem hi;have hP:=(hv.prop _ hm).1;have hS:=ho.2 _ hm;have hle:=hpx.length_le;have hlo:=hP.2.1;have hso:=hS.2;unfold SmW at hso;rw [zcs rfl hx,hx];generalize o.Traces[o.Traces.findIdx fun u=>decide (w <+: u.In)]=u at hpx hP hS hle hlo hso;rw [show min (↑w.length:Int) ↑u.Out.length=↑w.length by omega,zar (by omega),Int.toNat_natCast,zce (by unfold SmW;rw [List.length_take];omega),zao];rfl
  ·rw [if_neg h,if_neg h,zkB (by decide),zkD];rfl
end
section
set_option maxRecDepth 100000
theorem ansO_len {o:zaw} (hv:zj8 o) {w r:List Int} (h:ansO o w=some r):r.length=w.length:=by
 unfold ansO at h;split at h
 ·rename_i h0;injection h with h
  rw [← h,h0]
 ·obtain ⟨t,ht,rfl⟩:=Option.map_eq_some_iff.1 h;have hm:=List.mem_of_find?_eq_some ht;have hp:w <+: t.In:=by simpa using List.find?_some ht
  have:=(hv.prop t hm).1.2.1;have:=pre_len hp;rw [List.length_take];omega
theorem znz {l:List (List Int)} (hl:SmL l):zb7 l=some (maxR l):=by
 have hl1:l.length≤2000000:=hl.1;obtain ⟨L,e1,h1,h2,h3⟩:=zt2 lexI_total (f:=fun u0 u1=>zio u0 u1) hl fun a ha b hb=>zrr a b (by have:SmW a:=hl.2 a ha;unfold SmW at this;omega);have hLs:∀ x∈L,SmW x:=fun x hx=>hl.2 x ((h2 x).1 hx);unfold zb7;rw [e1,zao]
 have key:=zgs (step:=fun (s:List (List Int)×Nat)=>zb7.s2 L s.1 s.2) (r:=zjp L) (fun s=>s.2≤L.length∧s.1.length≤s.2∧zjp L=s.1++zjp (L.drop s.2)) (fun s=>L.length-s.2) (fun s ⟨g1,g2,g3⟩=>by
  obtain ⟨y,i⟩:=s
  simp only at g1 g2 g3
  simp only [zb7.s2]
  by_cases g4:i<L.length
  ·left
   have hx:=get_at g4
   rw [zfl hx,zkD,zau hx]
   by_cases g5:i+1=L.length
   ·rw [keepM_end hx g5] at g3
    refine ⟨(y++[L[i]],i+1),?_,⟨by simp only;omega,by simp;omega,by simp only;rw [g3];simp⟩,by simp only;omega⟩
    rw [zkB (by omega),zkD,zao,zkD,zar (by unfold zbh;omega)]
   ·have hy:=get_at (l:=L) (i:=i+1) (by omega)
    rw [keepM_step hx hy] at g3
    rw [zkA (by omega),zkC,zau hy,zej _ _ (hLs _ (List.getElem_mem _)),zao,zao]
    by_cases g6:L[i] <+: (L[i+1]'(by omega))
    ·rw [if_pos g6] at g3
     refine ⟨(y,i+1),?_,⟨by simp only;omega,by simp only;omega,g3⟩,by simp only;omega⟩
     rw [zkB g6]
     rfl
    ·rw [if_neg g6] at g3
     refine ⟨(y++[L[i]],i+1),?_,⟨by simp only;omega,by simp;omega,by simp only;rw [g3];simp⟩,by simp only;omega⟩
     rw [zkA g6,Bool.not_false,zkD,zar (by unfold zbh;omega)]
  ·right
   have e:i=L.length:=by omega
   subst e
   rw [List.drop_length] at g3
   rw [zkA (by omega),zkC,g3]
   simp [zjp]) (n:=fuel) (s:=([],0)) ⟨Nat.zero_le _,by simp,by simp⟩ (by have:=zbg;simp only;omega)
 have hk:=zsb L;have hkl:SmL (zjp L):=⟨by have:=hk.length_le;omega,fun x hx=>hLs x (hk.mem hx)⟩;rw [key,zao,zi4 hkl,zao,sortW_keepM h1 h2]
end
end Go.Proofs.YtcneaiejdidooaaGreatDoor.Sym

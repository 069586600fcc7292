/-
 A tree that is numbered anew has its words in order. Plain laws.
-/
import Derived.Test.YteigfkncoiiaiaaGreatDoorM4
set_option linter.all false
namespace Go.Proofs.YteigfkncoiiaiaaGreatDoor.Sym
set_option maxRecDepth 100000
theorem zjo:∀ (x y:List Int) (a b:Int),x.length=y.length→(lexI x y=-1∨x=y∧a<b)→lexI (x++[a]) (y++[b])=-1
 | [],[],a,b,_,h=>by
  rcases h with h | ⟨_,h⟩
  ·simp [lexI] at h
  ·simp [lexI,h]
 | [],_::_,_,_,h,_=>by simp at h
 | _::_,[],_,_,h,_=>by simp at h
 | u::x,v::y,a,b,hl,h=>by
  have ih:=zjo x y a b (by simpa using hl)
  simp only [List.cons_append,lexI]
  by_cases h1:u<v
  ·rw [if_pos h1]
  ·rw [if_neg h1]
   rcases h with h | ⟨h,h2⟩
   ·simp only [lexI,if_neg h1] at h
    by_cases h3:v<u
    ·rw [if_pos h3] at h
     exact absurd h (by decide)
    ·rw [if_neg h3] at h ⊢
     exact ih (.inl h)
   ·injection h with e1 e2
    rw [if_neg (by omega)]
    exact ih (.inr ⟨e2,h2⟩)
theorem cmpW_snoc {x y:List Int} {a b:Int} (h:cmpW x y=-1∨x=y∧a<b):cmpW (x++[a]) (y++[b])=-1:=by
 unfold cmpW at h ⊢
 simp only [List.length_append,List.length_singleton]
 by_cases h1:x.length<y.length
 ·rw [if_pos (by omega)]
 ·rcases h with h | ⟨rfl,h⟩
  ·rw [if_neg h1] at h
   by_cases h2:y.length<x.length
   ·rw [if_pos h2] at h
    exact absurd h (by decide)
   ·rw [if_neg h2] at h
    rw [if_neg (by omega),if_neg (by omega)]
    exact zjo x y a b (by omega) (.inl h)
  ·rw [if_neg (by omega),if_neg (by omega)]
   exact zjo x x a b rfl (.inr ⟨rfl,h⟩)
def wd (W:List (List Int)) (c:Nat):List Int:=(W[c]?).getD []
theorem wd_at {W:List (List Int)} {c:Nat} {w:List Int} (h:W[c]?=some w):wd W c=w:=by
 unfold wd
 rw [h,Option.getD_some]
section
variable {W N O:List (List Int)} {I:Nat} {ov:List Int→Int}
theorem tree_kid (T:TreeM W I (fun v=>v∈W) ov N O) {c i u:Nat} (h:((N[c]?).getD [])[i]?=some (↑u:Int)) :
  c<W.length∧i<I∧W[u]?=some (wd W c++[(↑i:Int)]):=by
 have hl:=T.gn.len
 have hc:c<W.length:=by
  rcases Nat.lt_or_ge c W.length with g | g
  ·exact g
  ·rw [List.getElem?_eq_none (l:=N) (by omega)] at h
   simp at h
 have hi:i<I:=by
  obtain ⟨x,x1,x2⟩:=T.gn.row c hc
  rw [x1,Option.getD_some] at h
  have:=(List.getElem?_eq_some_iff.1 h).1
  omega
 refine ⟨hc,hi,?_⟩
 have hg:gx N c i=(↑u:Int):=by
  unfold gx
  rw [h,Option.getD_some]
 have hw:=get_at hc
 rw [wd_at hw]
 by_cases d:W[c]++[(↑i:Int)]∈W
 ·have:=(T.yes c i _ hw hi d).1
  have e:u=W.idxOf (W[c]++[(↑i:Int)]):=by omega
  rw [e]
  exact at_idx d
 ·have:=(T.no c i _ hw hi d).1
  omega
theorem tree_ren (H:Stem W) (T:TreeM W I (fun v=>v∈W) ov N O) (hI:I≤64) (hn:W.length≤1000000):RenOk (⟨(↑I:Int),0,N,O⟩:zaa):=by
 have hl:=T.gn.len
 have h0:=(List.getElem?_eq_some_iff.1 H.hd).1
 refine ⟨by simp,by simp only;omega,by simp only;omega,⟨0,rfl,by simp only;omega⟩,?_,?_,fun q a hq ha=>?_⟩
 ·simp only [Int.toNat_natCast,hl]
  exact T.gn
 ·simp only [Int.toNat_natCast,hl]
  exact T.go
 ·simp only [Int.toNat_natCast] at hq ha ⊢
  rw [hl] at hq
  have hw:=get_at hq
  by_cases d:W[q]++[(↑a:Int)]∈W
  ·refine .inr ⟨_,(T.yes q a _ hw ha d).1,?_⟩
   rw [hl]
   exact List.idxOf_lt_length_of_mem d
  ·exact .inl (T.no q a _ hw ha d).1
theorem tree_ord (H:Stem W) (T:TreeM W I (fun v=>v∈W) ov N O) (hI:I≤64) (hn:W.length≤1000000) (hlet:∀ w x,w++[x]∈W→∃ a:Nat,x=(↑a:Int)∧a<I) :
  (ordP (⟨(↑I:Int),0,N,O⟩:zaa)).map (wd W)=sortW W:=by
 have R:=tree_ren H T hI hn
 have hl:=T.gn.len
 obtain ⟨nums,_,A⟩:=zbo R
 have h0:=H.hd
 have hkid:∀ {c t:Nat},kids (fun c=>(N[c]?).getD []) c t→∃ i,W[t]?=some (wd W c++[(↑i:Int)]):=fun {c t} h=>by
  obtain ⟨i,hi,e⟩:=List.getElem_of_mem h
  exact ⟨i,(tree_kid T (by rw [get_at hi,e])).2.2⟩
 have hs:(ordP (⟨(↑I:Int),0,N,O⟩:zaa)).Pairwise (fun u v=>cmpW (wd W u) (wd W v)=-1):=by
  unfold ordP
  simp only
  refine zle (R:=fun c=>(N[c]?).getD []) (lt:=fun u v=>cmpW (wd W u) (wd W v)=-1) (st:=Int.toNat 0) (fun c i j u v hij h1 h2=>?_) (fun c t ht=>?_) (fun c t ht=>?_) (fun u v c d huv hu hv=>?_) _ 0 [Int.toNat 0] (by simp) (fun w hw=>.inl (List.mem_singleton.1 hw))
  ·rw [wd_at (tree_kid T h1).2.2,wd_at (tree_kid T h2).2.2]
   exact cmpW_snoc (.inr ⟨rfl,by omega⟩)
  ·obtain ⟨i,hi,e⟩:=List.getElem_of_mem ht
   have hc:c<N.length:=by
    rcases Nat.lt_or_ge c N.length with g | g
    ·exact g
    ·rw [List.getElem?_eq_none g] at hi
     simp at hi
   have hx:=get_at hc
   have hi2:i<I:=by
    obtain ⟨x,x1,x2⟩:=T.gn.row c (by omega)
    rw [x1] at hi
    simp only [Option.getD_some] at hi
    omega
   have hg:gx N c i=t:=by
    unfold gx
    rw [get_at (l:=(N[c]?).getD []) hi,Option.getD_some,e]
   rcases R.rng c i (by simp only;omega) (by simpa using hi2) with q | ⟨u,q,_⟩
   ·simp only at q
    exact .inl (by omega)
   ·simp only at q
    exact .inr (by omega)
  ·obtain ⟨i,hi⟩:=hkid ht
   rw [wd_at hi,wd_at (c:=Int.toNat 0) h0]
   unfold cmpW
   rw [if_pos (by simp)]
  ·obtain ⟨i,hi⟩:=hkid hu
   obtain ⟨j,hj⟩:=hkid hv
   rw [wd_at hi,wd_at hj]
   exact cmpW_snoc (.inl huv)
 have hall:∀ (n:Nat) (w:List Int),w.length=n→w∈W→W.idxOf w∈ordP (⟨(↑I:Int),0,N,O⟩:zaa):=by
  intro n
  induction n with
  | zero =>
   intro w hw hm
   have:w=[]:=List.eq_nil_of_length_eq_zero hw
   subst this
   rw [zgk H.nd h0]
   exact ziq _
  | succ n ih =>
   intro w hw hm
   rcases List.eq_nil_or_concat w with rfl | ⟨v,x,rfl⟩
   ·simp at hw
   rw [List.concat_eq_append] at hw hm ⊢
   obtain ⟨a,rfl,ha⟩:=hlet v x hm
   have hv:=H.pc v _ hm
   have h1:=ih v (by simpa using hw) hv
   have hy:=(T.yes _ a v (at_idx hv) ha hm).1
   have h2:=(zdx R h1 (a:=a) (by simpa using ha)).resolve_left (by simp only;omega)
   simp only [hy,Int.toNat_natCast] at h2
   exact h2
 refine asc_ext (List.pairwise_map.2 hs) (zgv W) fun w=>?_
 rw [zd1]
 constructor
 ·intro h
  obtain ⟨c,hc,rfl⟩:=List.mem_map.1 h
  have hcl:c<W.length:=by have:=A.lt c hc;simp only at this;omega
  rw [wd_at (get_at hcl)]
  exact List.getElem_mem hcl
 ·intro h
  exact List.mem_map.2 ⟨_,hall _ w rfl h,wd_at (at_idx h)⟩
theorem tree_sorted (H:Stem W) (T:TreeM W I (fun v=>v∈W) ov N O) (hI:I≤64) (hn:W.length≤1000000) (hlet:∀ w x,w++[x]∈W→∃ a:Nat,x=(↑a:Int)∧a<I) :
  TreeM (sortW W) I (fun v=>v∈sortW W) ov (renP (⟨(↑I:Int),0,N,O⟩:zaa)).Next (renP (⟨(↑I:Int),0,N,O⟩:zaa)).Out:=by
 have R:=tree_ren H T hI hn
 have hl:=T.gn.len
 obtain ⟨nums,_,A⟩:=zbo R
 have hord:=tree_ord H T hI hn hlet
 have hnd:(sortW W).Nodup:=(zgv W).imp fun {a b} h e=>by
  rw [e,cmpW_refl] at h
  exact absurd h (by decide)
 have hlt:=A.lt
 unfold renP
 simp only
 generalize ordP (⟨(↑I:Int),0,N,O⟩:zaa)=F at hord hlt
 have hFl:F.length=(sortW W).length:=by rw [← hord,List.length_map]
 have hF:∀ (q:Nat) (w:List Int),(sortW W)[q]?=some w→∃ c,F[q]?=some c∧W[c]?=some w:=fun q w h=>by
  rw [← hord,List.getElem?_map] at h
  cases e:F[q]? with
  | none=>rw [e] at h;simp at h
  | some c =>
   rw [e] at h
   simp only [Option.map_some,Option.some.injEq] at h
   have hc:=hlt c (List.mem_of_getElem? e)
   simp only at hc
   have hw:=get_at (l:=W) (i:=c) (by omega)
   rw [wd_at hw] at h
   exact ⟨c,rfl,by rw [hw,h]⟩
 have hidx:∀ v,v∈W→F.idxOf (W.idxOf v)=(sortW W).idxOf v∧W.idxOf v∈F:=fun v hv=>by
  have hm:v∈sortW W:=(zd1 W v).2 hv
  obtain ⟨c,h1,h2⟩:=hF _ v (at_idx hm)
  have hc:=zgk H.nd h2
  have hmF:W.idxOf v∈F:=by rw [hc];exact List.mem_of_getElem? h1
  refine ⟨?_,hmF⟩
  have hlF:=List.idxOf_lt_length_of_mem hmF
  have h3:(sortW W)[F.idxOf (W.idxOf v)]?=some v:=by
   rw [← hord,List.getElem?_map,get_at hlF,List.getElem_idxOf hlF,Option.map_some,wd_at (at_idx hv)]
  exact (zgk hnd h3).symm
 have hgx:∀ (f:Nat→List Int) (g:Nat→Nat→Int),(∀ c,f c=(List.range I).map (g c))→∀ q a c,F[q]?=some c→a<I→gx (F.map f) q a=g c a:=fun f g hf q a c hq ha=>by
  unfold gx
  rw [List.getElem?_map,hq,Option.map_some,Option.getD_some,hf,List.getElem?_map,List.getElem?_range ha,Option.map_some,Option.getD_some]
 have hgrid:∀ (f:Nat→List Int),(∀ c,(f c).length=I)→Grid (sortW W).length I (F.map f):=fun f hf=>⟨by rw [List.length_map,hFl],fun q hq=>by
  rw [List.getElem?_map,get_at (l:=F) (by omega),Option.map_some]
  exact ⟨_,rfl,hf _⟩⟩
 refine ⟨hgrid _ fun c=>by unfold rowNQ;simp,hgrid _ fun c=>by unfold rowOQ;simp,fun q a w hw ha hd=>?_,fun q a w hw ha hd=>?_⟩
 ·obtain ⟨c,h1,h2⟩:=hF q w hw
  have hd':=(zd1 W _).1 hd
  obtain ⟨y1,y2⟩:=T.yes c a w h2 ha hd'
  obtain ⟨z1,z2⟩:=hidx _ hd'
  rw [hgx _ (fun c a=>numT F (gx N c a)) (fun c=>by unfold rowNQ;simp) q a c h1 ha,hgx _ (fun c a=>if gx N c a=-1 then (-1:Int) else gx O c a) (fun c=>by unfold rowOQ;simp) q a c h1 ha]
  rw [y1,y2]
  refine ⟨?_,if_neg (by omega)⟩
  unfold numT
  rw [if_pos ⟨by omega,by rw [Int.toNat_natCast];exact z2⟩,Int.toNat_natCast,z1]
 ·obtain ⟨c,h1,h2⟩:=hF q w hw
  obtain ⟨y1,y2⟩:=T.no c a w h2 ha fun h=>hd ((zd1 W _).2 h)
  rw [hgx _ (fun c a=>numT F (gx N c a)) (fun c=>by unfold rowNQ;simp) q a c h1 ha,hgx _ (fun c a=>if gx N c a=-1 then (-1:Int) else gx O c a) (fun c=>by unfold rowOQ;simp) q a c h1 ha]
  rw [y1]
  refine ⟨?_,if_pos rfl⟩
  unfold numT
  rw [if_neg fun h=>h.1 rfl]
end
end Go.Proofs.YteigfkncoiiaiaaGreatDoor.Sym

/-
 The prefix tree of observations: the program's is the document's. Plain laws.
-/
namespace Go.Proofs.YteigfkncoiiaiaaGreatDoor.Sym
set_option maxRecDepth 100000
section
variable {o:zal} {S:List (List Int)}
end
theorem ovT_rng {o:zal} (hv:ObsOk o) {v:List Int} {x:Int} (h:v++[x]∈allP o):(∃ a:Nat,x=(↑a:Int)∧a<o.Inputs.toNat)∧0≤ovT o.Traces (v++[x])∧ovT o.Traces (v++[x])≤1048576:=by
 obtain ⟨i1,i2⟩:=hv.inp
 obtain ⟨t,ht,hp⟩:=(mem_allP.1 h).resolve_left (by simp)
 have hlen:=hp.length_le
 rw [List.length_append,List.length_singleton] at hlen
 have he:=List.prefix_iff_eq_take.1 hp
 rw [List.length_append,List.length_singleton] at he
 have hx:x∈t.In:=hp.subset (List.mem_append_right _ (List.mem_singleton.2 rfl))
 obtain ⟨c1,c2⟩:=(zde (hv.prop t ht).1.1).2 x hx
 have hov:=ovT_eq hv ht (k:=v.length) (by omega)
 rw [← he] at hov
 obtain ⟨o1,o2⟩:=(hv.prop t ht).1.2.2 _ (List.mem_of_getElem? hov)
 exact ⟨⟨x.toNat,by omega,by omega⟩,o1,o2⟩
end Go.Proofs.YteigfkncoiiaiaaGreatDoor.Sym

/-
 Tree and Learn return the specified machines. Plain law.
-/
namespace Go.Proofs.YteigfkncoiiaiaaGreatDoor.Sym
set_option maxRecDepth 100000
theorem R35_Large_eq {o:zal} (ho:SmO o):∃ b,zcu o=some b∧(b=false→(allP o).length≤61∧o.Inputs≤4):=by
 obtain ⟨hn,hs⟩:=ho
 unfold zcu
 have key:=za3 (step:=fun (s:Nat×Nat)=>zcu.s2 o s.1 s.2) (fun s=>s.2≤o.Traces.length∧s.1≤2000000∧s.1=(preL ((o.Traces.take s.2).map fun t=>t.In)).length) (fun s=>o.Traces.length-s.2) (fun n=>60<n∨n+1=(allP o).length) (fun ⟨n,i⟩ ⟨g1,g2,g3⟩=>by
  simp only at g1 g2 g3
  simp only [zcu.s2]
  by_cases h:i<o.Traces.length
  ·have hx:=get_at h
   have hlen:=(hs _ (List.getElem_mem h)).1
   rw [dec_lt hx,cond_true,obind]
   by_cases h2:n≤60
   ·left
    rw [decide_eq_true (by omega),cond_true,chk_pos (by unfold inR;omega),idxn_at hx,chk_pos (by unfold inR;omega),chk_pos (by unfold inR;omega)]
    refine ⟨_,rfl,⟨h,by simp only;omega,?_⟩,by simp only;omega⟩
    simp only
    rw [zfe hx,List.map_append,List.map_singleton]
    unfold preL at g3 ⊢
    rw [List.flatMap_append,List.length_append,← g3,List.flatMap_singleton,zgq]
    omega
   ·right
    rw [decide_eq_false (by omega),cond_false]
    exact ⟨_,rfl,.inl (by omega)⟩
  ·right
   rw [decide_eq_false (by omega),cond_false,obind,cond_false]
   refine ⟨_,rfl,.inr ?_⟩
   rw [List.take_of_length_le (by omega)] at g3
   unfold allP
   unfold preL at g3 ⊢
   rw [List.flatMap_cons,List.length_append,← g3,zgq]
   simp only [List.length_nil]
   omega) fuel (0,0) ⟨Nat.zero_le _,by simp,rfl⟩ (by have:=fuel_big;simp only;omega)
 obtain ⟨n,e,hq⟩:=key
 rw [e,obind]
 by_cases h:60<n
 ·rw [decide_eq_true (by omega),cond_true,obind]
  exact ⟨true,rfl,fun h=>by cases h⟩
 ·rw [decide_eq_false (by omega),cond_false,obind]
  refine ⟨_,rfl,fun hb=>?_⟩
  have:=of_decide_eq_false hb
  omega
def red0 (p:zaa):List Bool:=List.set (List.replicate p.Next.length false) 0 true
theorem learn_start {P:zaa} (H:PartOk P) (G:Conn P):LrnI P (red0 P):=⟨H,G,by unfold red0;rw [List.length_set,List.length_replicate]⟩
end Go.Proofs.YteigfkncoiiaiaaGreatDoor.Sym

/-
 Runs of partial machines, and what folding keeps of them. Plain laws.
-/
namespace Go.Proofs.YteigfkncoiiaiaaGreatDoor.Sym
set_option maxRecDepth 100000
theorem PartOk.valid {p:zaa} (H:PartOk p):validP p=0:=by
 have h1:=H.i1
 have h2:=H.i2
 have h3:=H.n1
 have h4:=H.n2
 have h5:=H.st
 have h6:=H.ol
 have hs:scan (rowG p) 0 p.Next=none:=zfc.2 fun s x hx=>by
  have hsl:=(List.getElem?_eq_some_iff.1 hx).1
  obtain ⟨x',y,e1,e2,e3,e4,e5⟩:=H.row s hsl
  rw [hx] at e1
  injection e1 with e1
  subst e1
  unfold rowG
  rw [Nat.zero_add,e2,Option.getD_some,if_neg (by omega)]
  refine zfc.2 fun a t ht=>?_
  have hal:=(List.getElem?_eq_some_iff.1 ht).1
  have ho:=get_at (l:=y) (i:=a) (by omega)
  obtain ⟨k1,k2,k3,k4,k5⟩:=e5 a t _ ht ho
  have hc:cellE p.Next.length t y[a]=0:=by
   unfold cellE
   rw [if_neg (by omega),if_neg (fun h=>h (propext k5))]
  unfold cellP
  rw [Nat.zero_add,ho,Option.getD_some,hc,if_neg (fun h=>h rfl)]
 unfold validP
 rw [if_neg (by omega),if_neg (by omega),if_neg (by omega),if_neg (by omega),if_neg (by omega),hs]
def Goes (p:zaa):Nat→List Int→List Int→Nat→Prop
 | q,[],y,c=>y=[]∧c=q
 | q,x::w,y,c=>∃ (a u:Nat) (y':List Int),x=(↑a:Int)∧pnx p q a=(↑u:Int)∧y=pot p q a::y'∧Goes p u w y' c
theorem Goes.snoc {p:zaa}:∀ {w y:List Int} {q c:Nat},Goes p q w y c→∀ {a u:Nat},pnx p c a=(↑u:Int)→Goes p q (w++[(↑a:Int)]) (y++[pot p c a]) u
 | [],y,q,c,h,a,u,hu=>by
  obtain ⟨rfl,rfl⟩:=h
  exact ⟨a,u,[],rfl,hu,rfl,rfl,rfl⟩
 | x::w,y,q,c,h,a,u,hu=>by
  obtain ⟨b,v,y',h1,h2,rfl,h4⟩:=h
  exact ⟨b,v,_,h1,h2,rfl,h4.snoc hu⟩
theorem Goes.app {p:zaa}:∀ {w y w' y':List Int} {q c d:Nat},Goes p q w y c→Goes p c w' y' d→Goes p q (w++w') (y++y') d
 | [],y,w',y',q,c,d,h,k=>by
  obtain ⟨rfl,rfl⟩:=h
  exact k
 | x::w,y,w',y',q,c,d,h,k=>by
  obtain ⟨b,v,z,h1,h2,rfl,h4⟩:=h
  exact ⟨b,v,_,h1,h2,rfl,h4.app k⟩
theorem Goes.split {p:zaa}:∀ {w w' y:List Int} {q d:Nat},Goes p q (w++w') y d→∃ c y1 y2,y=y1++y2∧Goes p q w y1 c∧Goes p c w' y2 d
 | [],w',y,q,d,h=>⟨q,[],y,rfl,⟨rfl,rfl⟩,h⟩
 | x::w,w',y,q,d,h=>by
  obtain ⟨b,v,z,h1,h2,rfl,h4⟩:=h
  obtain ⟨c,y1,y2,rfl,h5,h6⟩:=h4.split
  exact ⟨c,_,y2,rfl,⟨b,v,y1,h1,h2,rfl,h5⟩,h6⟩
theorem Goes.len {p:zaa}:∀ {w y:List Int} {q c:Nat},Goes p q w y c→y.length=w.length
 | [],y,q,c,h=>by rw [h.1]
 | x::w,y,q,c,h=>by
  obtain ⟨b,v,z,h1,h2,rfl,h4⟩:=h
  rw [List.length_cons,List.length_cons,h4.len]
theorem Goes.lt {p:zaa} (H:PartOk p):∀ {w y:List Int} {q c:Nat},q<p.Next.length→Goes p q w y c→c<p.Next.length
 | [],y,q,c,hq,h=>by rw [h.2];exact hq
 | x::w,y,q,c,hq,h=>by
  obtain ⟨b,v,z,h1,h2,rfl,h4⟩:=h
  exact h4.lt H (pnx_rng H h2).2.2
theorem Goes.rs {p:zaa}:∀ {w y:List Int} {q c:Nat},RS p q→Goes p q w y c→RS p c
 | [],y,q,c,hq,h=>by rw [h.2];exact hq
 | x::w,y,q,c,hq,h=>by
  obtain ⟨b,v,z,h1,h2,rfl,h4⟩:=h
  exact h4.rs (.step b v hq h2)
theorem RS.word {p:zaa} {q:Nat} (h:RS p q):∃ w y,Goes p p.Start.toNat w y q:=by
 induction h with
 | st=>exact ⟨[],[],rfl,rfl⟩
 | step a u h hu ih =>
  obtain ⟨w,y,g⟩:=ih
  exact ⟨_,_,g.snoc hu⟩
theorem run_goes {p:zaa} (H:PartOk p) {w y:List Int} {c:Nat} (hw:w.length≤1000000) (g:Goes p p.Start.toNat w y c):zb3 p w=some (y,true):=by
 have hn:=H.n2
 have hst:=H.st
 unfold zb3
 rw [zdb (by omega),obind,H.valid,decide_eq_false (fun h=>h rfl),cond_false]
 have key:=za3 (step:=fun (s:Int×List Int×Nat)=>zb3.s2 p w s.1 s.2.1 s.2.2) (fun s=>s.2.2≤w.length∧s.2.1.length=s.2.2∧∃ (q:Nat) (y':List Int),s.1=(↑q:Int)∧Goes p q (w.drop s.2.2) y' c∧s.2.1++y'=y) (fun s=>w.length-s.2.2) (fun r=>r=.inl y) (fun ⟨s,z,i⟩ ⟨g1,g2,q,y',g3,g4,g5⟩=>by
  simp only at g1 g2 g3 g4 g5
  subst g3
  simp only [zb3.s2]
  by_cases h:i<w.length
  ·left
   have hx:=get_at h
   rw [List.drop_eq_getElem_cons h] at g4
   obtain ⟨a,u,z',k1,k2,rfl,k4⟩:=g4
   obtain ⟨r1,r2,r3⟩:=pnx_rng H k2
   obtain ⟨_,_,_,_,_,x,o,x1,x2,x3,x4,_,_⟩:=H.at r1 r2
   rw [k1] at hx
   rw [dec_lt hx,cond_true,idxn_at hx,decide_eq_false (by omega),cond_false,decide_eq_false (by omega),cond_false,idx_at rfl x1,idx_at rfl x3,obind,decide_eq_false (by omega),cond_false,idx_at rfl x2,idx_at rfl x4,chk_pos (by unfold capOk;omega),idx_at rfl x1,idx_at rfl x3]
   refine ⟨_,rfl,⟨h,by simp only [List.length_append,List.length_singleton];omega,u,z',k2,k4,?_⟩,by simp only;omega⟩
   simp only
   rw [List.append_assoc]
   exact g5
  ·right
   rw [decide_eq_false (by omega),cond_false]
   rw [List.drop_eq_nil_of_le (by omega)] at g4
   refine ⟨_,rfl,?_⟩
   rw [← g5,g4.1,List.append_nil]) fuel (p.Start,[],0) ⟨Nat.zero_le _,rfl,p.Start.toNat,y,by simp only;omega,by rw [List.drop_zero];exact g,rfl⟩ (by have:=fuel_big;simp only;omega)
 obtain ⟨r,e,rfl⟩:=key
 rw [e,obind]
 rfl
structure Hom (p p':zaa) (h:Nat→Nat):Prop where
 inp:p'.Inputs=p.Inputs
 st:p'.Start.toNat=h p.Start.toNat
 mv:∀ q a (u:Nat),RS p q→pnx p q a=(↑u:Int)→pnx p' (h q) a=(↑(h u):Int)∧pot p' (h q) a=pot p q a
theorem Hom.goes {p p':zaa} {h:Nat→Nat} (K:Hom p p' h):∀ {w y:List Int} {q c:Nat},RS p q→Goes p q w y c→Goes p' (h q) w y (h c)
 | [],y,q,c,hq,g=>by
  obtain ⟨rfl,rfl⟩:=g
  exact ⟨rfl,rfl⟩
 | x::w,y,q,c,hq,g=>by
  obtain ⟨b,v,z,h1,h2,rfl,h4⟩:=g
  obtain ⟨k1,k2⟩:=K.mv q b v hq h2
  exact ⟨b,h v,z,h1,k1,by rw [k2],K.goes (.step b v hq h2) h4⟩
theorem Hom.rs {p p':zaa} {h:Nat→Nat} (K:Hom p p' h) {q:Nat} (hq:RS p q):RS p' (h q):=by
 induction hq with
 | st=>exact K.st ▸ .st
 | step a u hq hu ih=>exact .step a _ ih (K.mv _ _ _ hq hu).1
theorem Hom.refl (p:zaa):Hom p p id:=⟨rfl,rfl,fun q a u _ h=>⟨h,rfl⟩⟩
theorem renP_at {Q:zaa} (R:RenOk Q) {c a:Nat} (hc:c∈ordP Q) (ha:a<Q.Inputs.toNat) (h:gx Q.Next c a≠-1):pnx (renP Q) ((ordP Q).idxOf c) a=(↑((ordP Q).idxOf (gx Q.Next c a).toNat):Int)∧pot (renP Q) ((ordP Q).idxOf c) a=gx Q.Out c a:=by
 have hm:=(zdx R hc ha).resolve_left h
 have hlt:=List.idxOf_lt_length_of_mem hc
 constructor
 ·unfold pnx renP
  rw [List.getElem?_map,get_at hlt,Option.map_some,Option.getD_some,List.getElem_idxOf hlt]
  unfold rowNQ
  rw [List.getElem?_map,List.getElem?_range ha,Option.map_some,Option.getD_some]
  unfold numT
  rw [if_pos ⟨h,hm⟩]
 ·unfold pot renP
  rw [List.getElem?_map,get_at hlt,Option.map_some,Option.getD_some,List.getElem_idxOf hlt]
  unfold rowOQ
  rw [List.getElem?_map,List.getElem?_range ha,Option.map_some,Option.getD_some,if_neg h]
theorem fold_hom {p Q:zaa} {cl:Nat→Nat} (H:PartOk p) (K:QuoOk p Q cl):Hom p (renP Q) fun q=>(ordP Q).idxOf (cl q):=by
 refine ⟨K.inp,?_,fun q a u hq hu=>?_⟩
 ·have h0:(ordP Q).idxOf Q.Start.toNat=0:=by
   obtain ⟨T,hT⟩:=bfs_pre (fun c=>(Q.Next[c]?).getD []) (Q.Next.length+1) 0 [Q.Start.toNat]
   unfold ordP
   rw [← hT]
   simp
  rw [K.st,Int.toNat_natCast] at h0
  rw [h0]
  rfl
 ·obtain ⟨h1,h2,h3⟩:=pnx_rng H hu
  have hc:=K.lt q h1
  obtain ⟨r1,r2⟩:=K.row (cl q) a hc h2 (K.idem q h1)
  have hne:pnx p q a≠-1:=by omega
  have hg:gx Q.Next (cl q) a≠-1:=fun e=>hne (r1 e q h1 rfl)
  obtain ⟨k1,k2⟩:=(r2 hg).2 q h1 rfl hne
  obtain ⟨l1,l2⟩:=renP_at K.ren (K.mem H hq) (by rw [K.inp];exact h2) hg
  rw [l1,l2,k1,k2,Int.toNat_natCast,hu,Int.toNat_natCast]
  exact ⟨rfl,rfl⟩
theorem tree_goes {S:List (List Int)} {I:Nat} {ov:List Int→Int} {P:zaa} (T:TreeM S I (fun v=>v∈S) ov P.Next P.Out) {t:zae} (hl:t.Out.length=t.In.length) (hS:∀ k,t.In.take k∈S) (hlet:∀ x∈t.In,∃ a:Nat,x=(↑a:Int)∧a<I) (hov:∀ k,k<t.In.length→t.Out[k]?=some (ov (t.In.take (k+1)))) :
  ∀ n k,k+n=t.In.length→Goes P (S.idxOf (t.In.take k)) (t.In.drop k) (t.Out.drop k) (S.idxOf t.In)
 | 0,k,e=>by
  rw [List.drop_eq_nil_of_le (by omega),List.drop_eq_nil_of_le (by omega),List.take_of_length_le (by omega)]
  exact ⟨rfl,rfl⟩
 | n+1,k,e=>by
  have hk:k<t.In.length:=by omega
  obtain ⟨a,ha,hI⟩:=hlet _ (List.getElem_mem hk)
  have hx:=get_at hk
  have hwa:t.In.take (k+1)=t.In.take k++[(↑a:Int)]:=by
   rw [List.take_add_one,hx,ha]
   rfl
  have hm:=hS (k+1)
  rw [hwa] at hm
  obtain ⟨h1,h2⟩:=T.yes _ a _ (at_idx (hS k)) hI hm
  have ho:=hov k hk
  have ho':=get_at (l:=t.Out) (i:=k) (by omega)
  rw [ho'] at ho
  injection ho with ho
  rw [List.drop_eq_getElem_cons hk,List.drop_eq_getElem_cons (by omega:k<t.Out.length)]
  refine ⟨a,S.idxOf (t.In.take (k+1)),t.Out.drop (k+1),ha,by rw [hwa];exact h1,?_,tree_goes T hl hS hlet hov n (k+1) (by omega)⟩
  rw [ho,hwa,← h2]
  rfl
theorem sort_nil {l:List (List Int)} (h:[]∈l):(sortW l).idxOf []=0:=by
 have hm:[]∈sortW l:=(zd1 l []).2 h
 have hi:=at_idx hm
 rcases Nat.eq_zero_or_pos ((sortW l).idxOf []) with e | e
 ·exact e
 ·have hlt:=List.idxOf_lt_length_of_mem hm
  have:=(zgv l).get e (get_at (by omega)) hi
  unfold cmpW at this
  rw [if_neg (by simp)] at this
  split at this
  ·exact absurd this (by decide)
  ·rename_i g
   have e0:(sortW l)[0]'(by omega)=[]:=List.eq_nil_of_length_eq_zero (by simpa using g)
   rw [e0] at this
   exact absurd this (by decide)
theorem tree_run {o:zal} (hv:ObsOk o) {P:zaa} (h0:P.Start=0) (T:TreeM (sortW (allP o)) o.Inputs.toNat (fun v=>v∈sortW (allP o)) (ovT o.Traces) P.Next P.Out) {t:zae} (ht:t∈o.Traces):Goes P P.Start.toNat t.In t.Out ((sortW (allP o)).idxOf t.In):=by
 obtain ⟨i1,i2⟩:=hv.inp
 have:=tree_goes T (hv.prop t ht).1.2.1 (fun k=>(zd1 _ _).2 (mem_allP.2 (.inr ⟨t,ht,List.take_prefix _ _⟩))) (fun x hx=>by
  obtain ⟨c1,c2⟩:=(zde (hv.prop t ht).1.1).2 x hx
  exact ⟨x.toNat,by omega,by omega⟩) (fun k hk=>ovT_eq hv ht hk) t.In.length 0 (by omega)
 rw [List.take_zero,List.drop_zero,List.drop_zero,sort_nil (mem_allP.2 (.inl rfl))] at this
 rw [h0]
 exact this
end Go.Proofs.YteigfkncoiiaiaaGreatDoor.Sym

/-
 The program's search with any property that its rounds keep. Plain laws.
-/
namespace Go.Proofs.YteigfkncoiiaiaaGreatDoor.Sym
set_option maxRecDepth 100000
theorem tree_prog {o:zal} (ho:SmO o) (hv:ObsOk o) (hP:(allP o).length≤4000) :
  ∃ P:zaa,zao o=some (P,0)∧PartOk P∧Conn P∧P.Start=0∧P.Inputs=o.Inputs∧TreeM (sortW (allP o)) o.Inputs.toNat (fun v=>v∈sortW (allP o)) (ovT o.Traces) P.Next P.Out:=by
 obtain ⟨i1,i2⟩:=hv.inp
 have hn:=hv.num
 obtain ⟨W,N,O,e1,K,hW⟩:=tree_loop56 hv hP
 have hle:=K.le
 have hcast:(↑o.Inputs.toNat:Int)=o.Inputs:=Int.toNat_of_nonneg (by omega)
 have hI:o.Inputs.toNat≤64:=by omega
 have hlet:∀ w x,w++[x]∈W→∃ a:Nat,x=(↑a:Int)∧a<o.Inputs.toNat:=fun w x h=>(ovT_rng hv (K.sub _ h)).1
 have R:=tree_ren K.st K.tm hI (by omega)
 have TS:=tree_sorted K.st K.tm hI (by omega) hlet
 have hWS:sortW W=sortW (allP o):=asc_ext (zgv _) (zgv _) fun x=>by rw [zd1,zd1];exact hW x
 rw [hWS,hcast] at TS
 rw [hcast] at R
 obtain ⟨nums,e2,A⟩:=zbo R
 have hl:=K.tm.gn.len
 have hok:PartOk (renP (⟨o.Inputs,0,N,O⟩:zaa)):=renP_ok R i1 (by simp only;omega) fun c a hc ha hne=>by
  have hcl:c<W.length:=by have:=A.lt c hc;simp only at this;omega
  have hw:=get_at hcl
  simp only at ha hne ⊢
  by_cases d:W[c]++[(↑a:Int)]∈W
  ·rw [(K.tm.yes c a _ hw ha d).2]
   exact (ovT_rng hv (K.sub _ d)).2
  ·exact absurd (K.tm.no c a _ hw ha d).1 hne
 have hrow:zbr o.Inputs=some (List.replicate o.Inputs.toNat (-1)):=by
  have:=zes (x:=o.Inputs.toNat) (by omega)
  rwa [hcast] at this
 refine ⟨renP ⟨o.Inputs,0,N,O⟩,?_,hok,renP_conn R,rfl,rfl,TS⟩
 unfold zao
 rw [zjd ho hv,obind,decide_eq_false (by decide),cond_false,hrow,obind,obind,e1,obind]
 simp only [Sum.elim_inl,zao.k57]
 rw [e2,obind]
section
variable {p:zaa}
theorem QuoOk.ord {Q:zaa} {cl:Nat→Nat} (H:PartOk p) (K:QuoOk p Q cl):OrdI p.Next.length cl (ordP Q):=by
 obtain ⟨nums,_,A⟩:=zbo K.ren
 refine ⟨A.nd,fun c hc=>⟨by have:=A.lt c hc;rwa [K.len] at this,?_⟩⟩
 have hst:=H.st
 have key:=zj1 (fun c=>(Q.Next[c]?).getD []) (fun c=>c<p.Next.length∧cl c=c) (fun c ⟨h1,h2⟩ t ht hne=>by
  obtain ⟨i,hi,e⟩:=List.getElem_of_mem ht
  obtain ⟨x,x1,x2⟩:=K.ren.gn.row c (by rw [K.len];exact h1)
  have hi2:i<p.Inputs.toNat:=by
   rw [x1,Option.getD_some,x2,K.inp] at hi
   exact hi
  have hg:gx Q.Next c i=t:=by
   unfold gx
   rw [get_at (l:=(Q.Next[c]?).getD []) hi,Option.getD_some,e]
  obtain ⟨⟨r,r1,r2,r3⟩,h4⟩:=(K.row c i h1 hi2 h2).2 (by rw [hg];exact hne)
  obtain ⟨h5,_⟩:=h4 r r1 r2 r3
  rw [hg] at h5
  obtain ⟨b1,b2,_⟩:=H.at r1 hi2
  rw [h5,Int.toNat_natCast]
  exact ⟨K.lt _ (by omega),K.idem _ (by omega)⟩) (Q.Next.length+1) 0 [Q.Start.toNat] (fun c hc=>by
  rw [List.mem_singleton.1 hc,K.st,Int.toNat_natCast]
  exact ⟨K.lt _ (by omega),K.idem _ (by omega)⟩) c hc
 exact key.2
theorem quo_part {Q:zaa} {cl:Nat→Nat} (H:PartOk p) (K:QuoOk p Q cl):PartOk (renP Q)∧(renP Q).Next.length≤p.Next.length∧((∃ x,x<p.Next.length∧cl x≠x)→(renP Q).Next.length<p.Next.length):=by
 have hO:=K.ord H
 have hlen:(renP Q).Next.length=(ordP Q).length:=by unfold renP;simp only [List.length_map]
 refine ⟨renP_ok K.ren (by rw [K.inp];exact H.i1) (by rw [K.len];exact H.n2) fun c a hc ha h=>?_,by rw [hlen];exact hO.le,fun ⟨x,x1,x2⟩=>?_⟩
 ·obtain ⟨c1,c2⟩:=hO.lt c hc
  rw [K.inp] at ha
  obtain ⟨⟨r,r1,r2,r3⟩,h3⟩:=(K.row c a c1 ha c2).2 h
  obtain ⟨_,h4⟩:=h3 r r1 r2 r3
  obtain ⟨b1,b2,b3,b4,b5,_⟩:=H.at r1 ha
  rw [← h4]
  exact ⟨by omega,b4⟩
 ·rw [hlen]
  have:=zfk (a:=x::ordP Q) (b:=List.range p.Next.length) (List.nodup_cons.2 ⟨fun h=>x2 (hO.lt x h).2,hO.nd⟩) fun y hy=>by
   rcases List.mem_cons.1 hy with rfl | hy
   ·exact List.mem_range.2 x1
   ·exact List.mem_range.2 (hO.lt y hy).1
  rw [List.length_cons,List.length_range] at this
  omega
theorem reds_mem (H:PartOk p) (G:Conn p) {Q:zaa} {cl:Nat→Nat} (K:QuoOk p Q cl) {red:List Bool} (hr:red.length=p.Next.length) :
  ∃ red':List Bool,iter (fun (s:List Bool×Nat)=>za0.s25 red (renP Q,(List.range p.Next.length).map (fun q=>numT (ordP Q) (↑(cl q):Int)),true) s.1 s.2) fuel (List.replicate (List.length (renP Q).Next) false,0)=some red'∧red'.length=(renP Q).Next.length∧∀ i,red'[i]?=some true↔∃ q,red[q]?=some true∧(ordP Q).idxOf (cl q)=i:=by
 have hn:=H.n2
 have hle:=(K.ord H).le
 have hlen:(renP Q).Next.length=(ordP Q).length:=by unfold renP;simp only [List.length_map]
 have key:=za3 (step:=fun (s:List Bool×Nat)=>za0.s25 red (renP Q,(List.range p.Next.length).map (fun q=>numT (ordP Q) (↑(cl q):Int)),true) s.1 s.2) (fun s=>s.2≤p.Next.length∧s.1.length=(ordP Q).length∧∀ i,s.1[i]?=some true↔∃ q,q<s.2∧red[q]?=some true∧(ordP Q).idxOf (cl q)=i) (fun s=>p.Next.length-s.2) (fun r=>r.length=(ordP Q).length∧∀ i,r[i]?=some true↔∃ q,red[q]?=some true∧(ordP Q).idxOf (cl q)=i) (fun ⟨y,q⟩ ⟨g1,g2,g3⟩=>by
  simp only at g1 g2 g3
  simp only [za0.s25]
  by_cases h:q<p.Next.length
  ·left
   have hx:=get_at (l:=red) (i:=q) (by omega)
   have hm:=K.mem H (G q h)
   have hml:=List.idxOf_lt_length_of_mem hm
   have e1:((List.range p.Next.length).map (fun q=>numT (ordP Q) (↑(cl q):Int)))[q]?=some (↑((ordP Q).idxOf (cl q)):Int):=by
    rw [List.getElem?_map,List.getElem?_range h,Option.map_some]
    unfold numT
    rw [Int.toNat_natCast,if_pos ⟨by omega,hm⟩]
   rw [decide_eq_true (by omega),cond_true,idxn_at hx]
   cases hc:red[q] with
   | false =>
    refine ⟨(y,q+1),by rw [cond_false,obind,cond_false],⟨h,g2,fun i=>(g3 i).trans ⟨fun ⟨u,u1,u2⟩=>⟨u,by simp only;omega,u2⟩,fun ⟨u,u1,u2,u3⟩=>?_⟩⟩,by simp only;omega⟩
    rcases Nat.lt_or_ge u q with g | g
    ·exact ⟨u,g,u2,u3⟩
    ·have e:u=q:=by simp only at u1;omega
     rw [e,hx,hc] at u2
     cases u2
   | true =>
    refine ⟨(y.set ((ordP Q).idxOf (cl q)) true,q+1),by rw [cond_true,idxn_at e1,obind,decide_eq_true (by omega),cond_true,idxn_at e1,idx_at (i:=(ordP Q).idxOf (cl q)) rfl (get_at (l:=y) (i:=(ordP Q).idxOf (cl q)) (by omega)),Int.toNat_natCast],⟨h,by simp only [List.length_set];exact g2,fun i=>?_⟩,by simp only;omega⟩
    simp only
    by_cases e:i=(ordP Q).idxOf (cl q)
    ·subst e
     rw [List.getElem?_set_self (by omega)]
     exact ⟨fun _=>⟨q,Nat.lt_succ_self _,by rw [hx,hc],rfl⟩,fun _=>rfl⟩
    ·rw [List.getElem?_set_ne (fun h=>e h.symm),g3 i]
     constructor
     ·rintro ⟨u,u1,u2⟩
      exact ⟨u,by omega,u2⟩
     ·rintro ⟨u,u1,u2,u3⟩
      rcases Nat.lt_or_ge u q with g | g
      ·exact ⟨u,g,u2,u3⟩
      ·have eu:u=q:=by omega
       rw [eu] at u3
       exact absurd u3.symm e
  ·right
   refine ⟨_,by rw [decide_eq_false (by omega),cond_false],g2,fun i=>(g3 i).trans ⟨fun ⟨u,_,u2⟩=>⟨u,u2⟩,fun ⟨u,u2,u3⟩=>⟨u,?_,u2,u3⟩⟩⟩
   have:=(List.getElem?_eq_some_iff.1 u2).1
   omega) fuel (List.replicate (ordP Q).length false,0) ⟨Nat.zero_le _,List.length_replicate,fun i=>⟨(fun h=>by
  rw [List.getElem?_replicate] at h
  split at h<;>cases h),fun ⟨u,u1,_⟩=>absurd u1 (Nat.not_lt_zero _)⟩⟩ (by have:=fuel_big;simp only;omega)
 obtain ⟨red',e,h1,h2⟩:=key
 exact ⟨red',by rw [hlen];exact e,by rw [hlen];exact h1,h2⟩
theorem pm_none (H:PartOk p) {red:List Bool} (hr:red.length=p.Next.length) {b:Nat} (hred:red[b]?=some false) (h:∀ r:Nat,red[r]?=some true→zac p (↑r:Int) (↑b:Int)=some (⟨0,0,[],[]⟩,[],false)):za0 p red (↑b:Int)=some (p,red.set b true):=by
 have hn:=H.n2
 have key:=za3 (step:=fun (s:Nat)=>za0.s26 p red (↑b:Int) s) (fun r=>r≤p.Next.length) (fun r=>p.Next.length-r) (fun q=>q=.inl ()) (fun r g1=>by
  simp only [za0.s26]
  by_cases hrl:r<p.Next.length
  ·left
   have hx:=get_at (l:=red) (i:=r) (by omega)
   rw [decide_eq_true (by omega),cond_true,idxn_at hx]
   refine ⟨r+1,?_,hrl,by omega⟩
   cases hc:red[r] with
   | false=>rw [Bool.not_false,cond_true,obind,Sum.elim_inl]
   | true=>rw [Bool.not_true,cond_false,h r (by rw [hx,hc]),obind,Bool.not_false,cond_true,obind,Sum.elim_inl]
  ·right
   exact ⟨.inl (),by rw [decide_eq_false (by omega),cond_false],rfl⟩) fuel 0 (Nat.zero_le _) (by have:=fuel_big;omega)
 obtain ⟨q,e,rfl⟩:=key
 unfold za0
 rw [e,obind,Sum.elim_inl,chk_pos (by unfold capOk;simp only [List.length_nil];omega),List.nil_append,idx_at (i:=b) rfl hred,Int.toNat_natCast]
theorem pm_some (H:PartOk p) {red:List Bool} (hr:red.length=p.Next.length) {b r0:Nat} (h0:red[r0]?=some true) (h:∀ r:Nat,r<r0→red[r]?=some true→zac p (↑r:Int) (↑b:Int)=some (⟨0,0,[],[]⟩,[],false)) {p':zaa} {pl:List Int} {red':List Bool} (e1:zac p (↑r0:Int) (↑b:Int)=some (p',pl,true)) (e2:iter (fun (s:List Bool×Nat)=>za0.s25 red (p',pl,true) s.1 s.2) fuel (List.replicate (List.length p'.Next) false,0)=some red') (hl:p'.Next.length≤4096):za0 p red (↑b:Int)=some (p',red'):=by
 have hn:=H.n2
 have hl0:=(List.getElem?_eq_some_iff.1 h0).1
 have key:=za3 (step:=fun (s:Nat)=>za0.s26 p red (↑b:Int) s) (fun r=>r≤r0) (fun r=>r0+1-r) (fun q=>q=.inr (p',red')) (fun r g1=>by
  simp only [za0.s26]
  have hx:=get_at (l:=red) (i:=r) (by omega)
  rw [decide_eq_true (by omega),cond_true,idxn_at hx]
  by_cases hrl:r<r0
  ·left
   refine ⟨r+1,?_,hrl,by omega⟩
   cases hc:red[r] with
   | false=>rw [Bool.not_false,cond_true,obind,Sum.elim_inl]
   | true=>rw [Bool.not_true,cond_false,h r hrl (by rw [hx,hc]),obind,Bool.not_false,cond_true,obind,Sum.elim_inl]
  ·right
   have e:r=r0:=by omega
   subst e
   have hc:=h0
   rw [hx] at hc
   injection hc with hc
   refine ⟨.inr (p',red'),?_,rfl⟩
   rw [hc,Bool.not_true,cond_false,e1,obind,Bool.not_true,cond_false,chk_pos ⟨by simp only;omega,Int.le_refl _,by unfold capOk;simp only;omega⟩,e2,obind,obind,Sum.elim_inr]) fuel 0 (Nat.zero_le _) (by have:=fuel_big;omega)
 obtain ⟨q,e,rfl⟩:=key
 unfold za0
 rw [e,obind,Sum.elim_inr]
structure BlueB (p:zaa) (red:List Bool) (b:Nat):Prop where
 lt:b<p.Next.length
 wh:red[b]?=some false
 ex:∃ r a,CandOf p red r a b
 le:∀ r a c,CandOf p red r a c→b≤c
structure FoldB (p:zaa) (red:List Bool) (r0 b:Nat) (Q:zaa) (cl:Nat→Nat) (red':List Bool):Prop where
 rd0:red[r0]?=some true
 no:¬ Confl p r0 b
 quo:QuoOk p Q cl
 cls:∀ q,q<p.Next.length→cl q=clsOf p r0 b q
 rds:∀ i,red'[i]?=some true↔∃ q,red[q]?=some true∧(ordP Q).idxOf (cl q)=i
 ok:LrnI (renP Q) red'
 lt:(renP Q).Next.length<p.Next.length
theorem prog_step {red:List Bool} (K:LrnI p red) :
  (zbc.s1 p.Inputs p.Start p.Next p.Out red=some (.inr (p,0))∧∀ r a b,¬ CandOf p red r a b) ∨
  ∃ b,BlueB p red b∧(((∀ r:Nat,red[r]?=some true→Confl p r b)∧zbc.s1 p.Inputs p.Start p.Next p.Out red=some (.inl (p.Inputs,p.Start,p.Next,p.Out,red.set b true))) ∨
   ∃ r0 Q cl red',FoldB p red r0 b Q cl red'∧zbc.s1 p.Inputs p.Start p.Next p.Out red=some (.inl ((renP Q).Inputs,(renP Q).Start,(renP Q).Next,(renP Q).Out,red'))):=by
 obtain ⟨H,G,hr⟩:=K
 have hn:=H.n2
 obtain ⟨B,e1,c1,c2,c3⟩:=merge_blue_eq H hr
 by_cases hB:B<p.Next.length
 ·right
  obtain ⟨r1,a1,hc⟩:=c2 hB
  have hw:red[B]?=some false:=hc.2.2
  rw [decide_eq_true hB] at e1
  have hm1:zbc.s1 p.Inputs p.Start p.Next p.Out red=(za0 p red (↑B:Int)).bind fun c69=>some (.inl (c69.1.Inputs,c69.1.Start,c69.1.Next,c69.1.Out,c69.2)):=by
   unfold zbc.s1
   rw [e1,obind,Bool.not_true,cond_false]
  refine ⟨B,⟨hB,hw,⟨r1,a1,hc⟩,c3⟩,?_⟩
  have hlt:∀ r,red[r]?=some true→r<p.Next.length:=fun r h=>by have:=(List.getElem?_eq_some_iff.1 h).1;omega
  rcases least_or (fun r=>red[r]?=some true∧¬ Confl p r B) p.Next.length with h | ⟨r0,h0,hs,h⟩
  ·left
   have hall:∀ r,red[r]?=some true→Confl p r B:=fun r hr=>Classical.byContradiction fun g=>h r (hlt r hr) ⟨hr,g⟩
   refine ⟨hall,?_⟩
   rw [hm1,pm_none H hr hw fun r hr=>?_,obind]
   rcases zdp H (hlt r hr) hB with ⟨_,f2⟩ | ⟨f1,_⟩
   ·exact f2
   ·exact absurd (hall r hr) f1
  ·right
   obtain ⟨hs1,hs2⟩:=hs
   rcases zdp H h0 hB with ⟨f1,_⟩ | ⟨f1,Q,cl,K,f2,f3⟩
   ·exact absurd f1 hs2
   ·obtain ⟨red',l1,l2,l3⟩:=reds_mem H G K hr
    obtain ⟨q1,q2,q3⟩:=quo_part H K
    have hne:r0≠B:=fun e=>by rw [e,hw] at hs1;cases hs1
    have hst:cl r0=cl B:=by rw [f2 r0 h0,f2 B hB];exact zlf.1 .base
    have hx:∃ x,x<p.Next.length∧cl x≠x:=by
     by_cases k:cl r0=r0
     ·exact ⟨B,hB,fun e=>hne (by rw [← k,hst,e])⟩
     ·exact ⟨r0,h0,k⟩
    refine ⟨r0,Q,cl,red',⟨hs1,hs2,K,f2,l3,⟨q1,renP_conn K.ren,l2⟩,q3 hx⟩,?_⟩
    rw [hm1,pm_some H hr hs1 (fun r hr1 hr2=>?_) f3 l1 (by omega),obind]
    rcases zdp H (hlt r hr2) hB with ⟨_,g2⟩ | ⟨g1,_⟩
    ·exact g2
    ·exact absurd ⟨hr2,g1⟩ (h r hr1)
 ·left
  rw [decide_eq_false hB] at e1
  refine ⟨?_,fun r a b hc=>?_⟩
  ·unfold zbc.s1
   rw [e1,obind,Bool.not_false,cond_true]
  ·have:=c3 r a b hc
   have:=(pnx_rng H hc.2.1).2.2
   omega
end
theorem learn_inv {J:zaa→List Bool→Prop}
  (h1:∀ p red b,LrnI p red→J p red→BlueB p red b→(∀ r:Nat,red[r]?=some true→Confl p r b)→J p (red.set b true))
  (h2:∀ p red b r0 Q cl red',LrnI p red→J p red→BlueB p red b→FoldB p red r0 b Q cl red'→J (renP Q) red') {p:zaa} {red:List Bool} (K:LrnI p red) (j:J p red) :
  ∃ p' red',iter (fun (s:Int×Int×List (List Int)×List (List Int)×List Bool)=>zbc.s1 s.1 s.2.1 s.2.2.1 s.2.2.2.1 s.2.2.2.2) fuel (p.Inputs,p.Start,p.Next,p.Out,red)=some (p',0)∧LrnI p' red'∧J p' red'∧∀ r a b,¬ CandOf p' red' r a b:=by
 have hwl:∀ {q:zaa} {rd:List Bool},LrnI q rd→whites rd≤4096:=fun {q rd} K=>by
  have:=K.ok.n2
  unfold whites
  refine Nat.le_trans List.countP_le_length ?_
  rw [K.len]
  exact this
 have hw:=hwl K
 have hn:=K.ok.n2
 have key:=za3 (step:=fun (s:Int×Int×List (List Int)×List (List Int)×List Bool)=>zbc.s1 s.1 s.2.1 s.2.2.1 s.2.2.2.1 s.2.2.2.2) (fun s=>LrnI ⟨s.1,s.2.1,s.2.2.1,s.2.2.2.1⟩ s.2.2.2.2∧J ⟨s.1,s.2.1,s.2.2.1,s.2.2.2.1⟩ s.2.2.2.2) (fun s=>5000*s.2.2.1.length+whites s.2.2.2.2) (fun r=>∃ p' red',r=(p',0)∧LrnI p' red'∧J p' red'∧∀ r a b,¬ CandOf p' red' r a b) (fun ⟨y1,y2,y3,y4,rd⟩ ⟨k1,k2⟩=>by
  simp only at k1 k2 ⊢
  rcases prog_step k1 with ⟨e,hc⟩ | ⟨b,hb,⟨hc,e⟩ | ⟨r0,Q,cl,red',hF,e⟩⟩
  ·exact .inr ⟨_,e,_,rd,rfl,k1,k2,hc⟩
  ·refine .inl ⟨_,e,⟨⟨k1.ok,k1.con,by simp only [List.length_set];exact k1.len⟩,h1 _ _ b k1 k2 hb hc⟩,?_⟩
   have:=whites_set hb.wh
   simp only
   omega
  ·refine .inl ⟨_,e,⟨hF.ok,h2 _ _ b r0 Q cl red' k1 k2 hb hF⟩,?_⟩
   have hlt:=hF.lt
   have:=hwl hF.ok
   simp only at this hlt ⊢
   omega) fuel (p.Inputs,p.Start,p.Next,p.Out,red) ⟨K,j⟩ (by have:=fuel_big;simp only;omega)
 obtain ⟨r,e,p',red',rfl,q⟩:=key
 exact ⟨p',red',e,q⟩
theorem learn_prog {o:zal} {P:zaa} (e1:zao o=some (P,0)) (H:PartOk P) (h0:P.Start=0) {p':zaa} (l1:iter (fun (s:Int×Int×List (List Int)×List (List Int)×List Bool)=>zbc.s1 s.1 s.2.1 s.2.2.1 s.2.2.2.1 s.2.2.2.2) fuel (P.Inputs,P.Start,P.Next,P.Out,red0 P)=some (p',0)):zbc o=some (p',0):=by
 have hn:=H.n2
 have hp:=H.n1
 unfold zbc
 rw [e1,obind,decide_eq_false (fun h=>h rfl),cond_false,chk_pos ⟨by omega,Int.le_refl _,by unfold capOk;simp only [Int.toNat_natCast];omega⟩]
 simp only
 rw [idx_at (i:=0) (x:=false) h0 (by rw [List.getElem?_replicate,if_pos hp])]
 have:List.set (List.replicate P.Next.length false) P.Start.toNat true=red0 P:=by rw [h0];rfl
 rw [this]
 exact l1
end Go.Proofs.YteigfkncoiiaiaaGreatDoor.Sym

/-
 The tree, the learned machine and every fold explain what was observed. Plain law.
-/
namespace Go.Proofs.YteigfkncoiiaiaaGreatDoor.Sym
set_option maxRecDepth 100000
def Tells (o:zal) (p:zaa):Prop:=PartOk p∧∀ t∈o.Traces,∃ c,Goes p p.Start.toNat t.In t.Out c
theorem Tells.hom {o:zal} {p p':zaa} {h:Nat→Nat} (T:Tells o p) (H:PartOk p') (K:Hom p p' h):Tells o p' :=
 ⟨H,fun t ht=>by
  obtain ⟨c,g⟩:=T.2 t ht
  exact ⟨h c,K.st ▸ K.goes .st g⟩⟩
theorem Tells.run {o:zal} {p:zaa} (hv:ObsOk o) (T:Tells o p) {t:zae} (ht:t∈o.Traces):zb3 p t.In=some (t.Out,true):=by
 obtain ⟨c,g⟩:=T.2 t ht
 exact run_goes T.1 (by have:=(zde (hv.prop t ht).1.1).1;omega) g
theorem fold_tells {o:zal} {p:zaa} (T:Tells o p) {s t:Nat} (hs:s<p.Next.length) (ht:t<p.Next.length) :
  ∃ q b,zds p (↑s:Int) (↑t:Int)=some (q,b,0)∧(b=false→q=⟨0,0,[],[]⟩)∧(b=true→Tells o q∧(s≠t→q.Next.length<p.Next.length)):=by
 have H:=T.1
 have hn:=H.n2
 unfold zds
 rw [zdb (by omega),obind,H.valid,decide_eq_false (fun h=>h rfl),cond_false]
 rw [decide_eq_false (by omega),cond_false,decide_eq_false (by omega),obind,cond_false]
 rcases zdp H hs ht with ⟨f1,f2⟩ | ⟨f1,Q,cl,K,f2,f3⟩
 ·rw [f2,obind]
  exact ⟨_,_,rfl,fun _=>rfl,(fun h=>by cases h)⟩
 ·obtain ⟨q1,q2,q3⟩:=quo_part H K
  rw [f3,obind]
  refine ⟨_,_,rfl,(fun h=>by cases h),fun _=>⟨T.hom q1 (fold_hom H K),fun hne=>q3 ?_⟩⟩
  have hst:cl s=cl t:=by rw [f2 s hs,f2 t ht];exact zlf.1 .base
  by_cases k:cl s=s
  ·exact ⟨t,ht,fun e=>hne (by rw [← k,hst,e])⟩
  ·exact ⟨s,hs,k⟩
theorem learn_tells {o:zal} {P:zaa} (e1:zao o=some (P,0)) (T:Tells o P) (G:Conn P) (h0:P.Start=0) :
  ∃ p',zbc o=some (p',0)∧Tells o p'∧p'.Next.length≤P.Next.length:=by
 obtain ⟨p',red',l1,K,⟨j1,j2⟩,-⟩:=learn_inv (J:=fun p _=>Tells o p∧p.Next.length≤P.Next.length) (fun p red b _ j _ _=>j) (fun p red b r0 Q cl red' K j hb hF=>⟨j.1.hom hF.ok.ok (fold_hom K.ok hF.quo),by have:=hF.lt;have:=j.2;omega⟩) (learn_start T.1 G) ⟨T,Nat.le_refl _⟩
 exact ⟨p',learn_prog e1 T.1 h0 l1,j1,j2⟩
theorem explains_loop {o:zal} (ho:SmO o) (hv:ObsOk o) {P l q:zaa} {b:Bool} (T1:Tells o P) (T2:Tells o l) (hq:b=false→q=⟨0,0,[],[]⟩) (T3:b=true→Tells o q):iter (fun (s:Nat)=>zba.s2 o (P,0) (l,0) (q,b,0) s) fuel 0=some (.inl ()):=by
 have hn:=hv.num
 refine iter_eq (fun j=>j≤o.Traces.length) (fun j=>o.Traces.length-j) (fun j g=>?_) (Nat.zero_le _) (by have:=fuel_big;omega)
 simp only [zba.s2]
 by_cases h:j<o.Traces.length
 ·left
  have hx:=get_at h
  have ht:=List.getElem_mem h
  have hout:SmW o.Traces[j].Out:=(ho.2 _ ht).2
  have hin:=(zde (hv.prop _ ht).1.1).1
  refine ⟨j+1,?_,h,by omega⟩
  have hsame:R01_Same o.Traces[j].Out o.Traces[j].Out=some true:=by rw [R01_Same_eq _ _ hout,decide_eq_true rfl]
  rw [dec_lt hx,cond_true,idxn_at hx,T1.run hv ht,obind,idxn_at hx,T2.run hv ht,obind,idxn_at hx]
  cases b with
  | false =>
   have e:zb3 (⟨0,0,[],[]⟩:zaa) o.Traces[j].In=some ([],false):=by
    unfold zb3
    rw [zdb (by simp),obind]
    rfl
   rw [hq rfl,e,obind]
   simp only [Bool.not_true,cond_false,idxn_at hx,hsame,obind]
  | true =>
   rw [(T3 rfl).run hv ht,obind]
   simp only [Bool.not_true,cond_false,cond_true,idxn_at hx,hsame,obind]
 ·right
  rw [decide_eq_false (by omega),cond_false]
theorem zkw (o:zal) (s t:Int) (ho:SmO o) (hs:0≤s∧s≤1000) (ht:0≤t∧t≤1000):zba o s t=some true:=by
 unfold zba
 obtain ⟨b,e1,hb⟩:=R35_Large_eq ho
 have stop:∀ k:Option Bool,((some true:Option Bool).bind fun y=>cond y ((ze9).bind fun c=>some c) k)=some true:=fun k=>by rw [obind,cond_true,zi3,obind]
 rw [e1,obind]
 cases b with
 | true=>rw [cond_true];exact stop _
 | false =>
  obtain ⟨hP,hI⟩:=hb rfl
  obtain ⟨e,e2,he⟩:=R16_Valid_tot o ho
  rw [cond_false,e2,obind]
  by_cases h:e=0
  ·have hv:=he h
   obtain ⟨P,t1,H,G,h0,_,TM⟩:=tree_prog ho hv (by omega)
   have T1:Tells o P:=⟨H,fun t ht=>⟨_,tree_run hv h0 TM ht⟩⟩
   obtain ⟨l,t2,T2,hl⟩:=learn_tells t1 T1 G h0
   have hn1:=H.n1
   have hn2:=H.n2
   have hm1:=Int.emod_nonneg s (b:=(↑P.Next.length:Int)) (by omega)
   have hm2:=Int.emod_lt_of_pos s (b:=(↑P.Next.length:Int)) (by omega)
   have hk1:=Int.emod_nonneg t (b:=(↑P.Next.length:Int)) (by omega)
   have hk2:=Int.emod_lt_of_pos t (b:=(↑P.Next.length:Int)) (by omega)
   rw [decide_eq_false (fun g=>g h),obind,cond_false,t1,t2,obind,obind]
   simp only
   rw [zdb (by omega),zdb (by omega),H.valid,T2.1.valid]
   generalize hi:s%(↑P.Next.length:Int)=i at hm1 hm2 ⊢
   generalize hk:t%(↑P.Next.length:Int)=k at hk1 hk2 ⊢
   obtain ⟨i,rfl⟩:=Int.eq_ofNat_of_zero_le hm1
   obtain ⟨k,rfl⟩:=Int.eq_ofNat_of_zero_le hk1
   obtain ⟨q,b,f1,f2,f3⟩:=fold_tells T1 (s:=i) (t:=k) (by omega) (by omega)
   have hc:(cond (decide ((0:Int)≠0)) (some true) (cond (decide ((0:Int)≠0)) (some true) ((some (0:Int)).bind fun c76=>cond (decide (c76≠0)) (some true) ((some (0:Int)).bind fun c78=>cond (decide (c78≠0)) (some true) (cond (decide ((↑(List.length P.Next):Int)<(↑(List.length l.Next):Int))) (some true) (some (decide ((↑(List.length P.Next):Int)=0))))))):Option Bool)=some false:=by
    rw [decide_eq_false (fun g=>g rfl),cond_false,cond_false,obind,decide_eq_false (fun g=>g rfl),cond_false,obind,decide_eq_false (fun g=>g rfl),cond_false,decide_eq_false (by omega),cond_false,decide_eq_false (by omega)]
   rw [hc,obind,cond_false,chk_pos (by unfold inR;omega),chk_pos ⟨by unfold inR;omega,hs.1,by omega⟩,chk_pos (by unfold inR;omega),chk_pos ⟨by unfold inR;omega,ht.1,by omega⟩,f1,obind]
   have hd:(cond (decide ((0:Int)≠0)) (some true) (cond b (cond (decide ((↑i:Int)≠(↑k:Int))) (some (decide ((↑(List.length P.Next):Int)≤(↑(List.length q.Next):Int)))) (some false)) (some false)):Option Bool)=some false:=by
    rw [decide_eq_false (fun g=>g rfl),cond_false]
    cases b with
    | false=>rfl
    | true =>
     rw [cond_true]
     by_cases g:i=k
     ·rw [decide_eq_false (fun z=>z (by omega)),cond_false]
     ·have:=(f3 rfl).2 g
      rw [decide_eq_true (by omega),cond_true,decide_eq_false (by omega)]
   simp only
   rw [hd,obind,cond_false,explains_loop ho hv T1 T2 f2 (fun g=>(f3 g).1),obind]
   simp only [Sum.elim_inl]
   rw [zi3,obind]
  ·rw [decide_eq_true h]
   exact stop _
end Go.Proofs.YteigfkncoiiaiaaGreatDoor.Sym

/-
 The law of MergeExplains, for arguments within the bound.
-/
namespace Go.Proofs.YteigfkncoiiaiaaGreatDoor.Sym
theorem zgx (x0:zal) (x1 x2:Int) (_:zlb x0) (s0:zgy x0≤1048576) (k1:okY x1) (k2:okY x2):zba x0 x1 x2=some true :=
 zkw x0 x1 x2 (smo_of s0) (by unfold okY at k1;omega) (by unfold okY at k2;omega)
end Go.Proofs.YteigfkncoiiaiaaGreatDoor.Sym

/-
  The contracts of the functions, read from the code by a program (ext.py): each function has its plain twin as its contract.
-/
namespace Go.Proofs.YteigfkncoiiaiaaGreatDoor.Sym
open Go.RowKit
set_option maxRecDepth 100000
set_option linter.unusedVariables false
set_option maxHeartbeats 4000000
theorem eI {σ:St} {src:List (Nat×Option Nat)} {γ:Nat→Nat} {t:Nat} {y b:IV} (h1:σ.av t=.im y) (h2:AV.im y=.im b):∃ x,σ.av t=x∧SubR σ src γ x (.im b):=⟨.im y,h1,.im (Sub.rfl' h2)⟩
theorem odt {p:Prop} [Decidable p] (h:decide p=true):p:=of_decide_eq_true h
theorem odf {p:Prop} [Decidable p] (h:decide p=false):¬ p:=of_decide_eq_false h
theorem ctd {α:Type} {p:Prop} [Decidable p] {x y z:α} (hb:decide p=true) (h:cond (decide p) x y=z):x=z∧p:=⟨cond_t hb h,odt hb⟩
theorem cfd {α:Type} {p:Prop} [Decidable p] {x y z:α} (hb:decide p=false) (h:cond (decide p) x y=z):y=z∧¬ p:=⟨cond_f hb h,odf hb⟩
theorem hT {σ:St}:Holds σ True:=Holds.true_ _
abbrev lZ {α:Type} (l:List α):Prop:=List.length l≤17592186044416
theorem eA {σ:St} {avs:List (Nat×AV)} {kds:List (Nat×Kd)} {cels:List (Nat×Nat×AV)} (src:List (Nat×Option Nat)) (hn:ndB (srcs src) []=true:=by exact rfl) (ha:SubL σ src (gnM kds) avs:=by repeat' (first | exact trivial | refine ⟨eI rfl rfl,?_⟩ | refine ⟨⟨.own _ _ _,rfl,.own rfl rfl rfl⟩,?_⟩ | refine ⟨⟨.osl _ _,rfl,.osl rfl rfl rfl⟩,?_⟩ | refine ⟨⟨.im (.val (.slice none 0 0)),rfl,.made rfl rfl⟩,?_⟩)) (hk:KdL σ src kds:=by repeat' (first | exact trivial | refine ⟨.inl ⟨_,rfl,rfl,trivial⟩,?_⟩ | refine ⟨.inl ⟨_,rfl,rfl,⟨rfl,rfl⟩⟩,?_⟩ | refine ⟨.inr ⟨rfl,rfl,.inl ⟨_,_,rfl,by decide⟩⟩,?_⟩)) (hc:CeL σ src (gnM kds) cels:=by repeat' (first | exact trivial | refine ⟨⟨_,.im _,rfl,rfl,.im (Sub.rfl' rfl)⟩,?_⟩ | refine ⟨⟨_,.own _ _ _,rfl,rfl,.own rfl rfl rfl⟩,?_⟩ | refine ⟨⟨_,.osl _ _,rfl,rfl,.osl rfl rfl rfl⟩,?_⟩)):Ent σ (mkSt avs kds cels):=Ent.mk src hn ha hk hc
theorem zc7 (p_:zaa) (r:Int) (h:Ok (.agg (zak p_))→za9 p_=some r):Sp Tryz.prog 15 [.im (.agg (zak p_))] (.im (nI r)):=by
 refine sp_of rfl [700001] rfl rfl rfl (Nat.le_of_ble_eq_true rfl) rfl fun hk=>?_
 replace h:=h hk.1
 have z1:lZ p_.Next:=ok_len (Ok.agg_at hk.1 2 rfl)
 have z2:lZ p_.Out:=ok_len (Ok.agg_at hk.1 3 rfl)
 unfold za9 at h
 conv=>whnf
 refine Nf.mk (List.length p_.Next) len_map ?_
 conv=>whnf
 obtain ⟨y54,hc,hk52⟩:=bind_some h
 clear h
 have h:=hc
 clear hc
 refine Cut.mk (mkSt [(1,.im (.ref (zak p_))),(3,.im (nI (↑(List.length p_.Next):Int))),(11,.im (nB y54))] [] []) (True) (hT) ?_ (fun hp=>?_)
 conv=>whnf
 refine Both.mk ?_ ?_<;>intro b55
 replace b55:=beq_ff b55
 obtain ⟨h,b55d⟩:=cfd b55 h
 conv=>whnf
 iterate 2 (refine Both.yes (ff_beq b55) ?_;(conv=>whnf))
 refine Both.no b55 ?_
 conv=>whnf
 cases h
 exact Join.mk (eA [])
 replace b55:=beq_ft b55
 obtain ⟨h,b55d⟩:=ctd b55 h
 conv=>whnf
 iterate 2 (refine Both.no (tf_beq b55) ?_;(conv=>whnf))
 refine Both.yes b55 ?_
 conv=>whnf
 cases h
 exact Join.mk (eA [])
 replace h:=hk52
 conv=>whnf
 refine Both.mk ?_ ?_<;>intro b56
 replace h:=cond_t b56 h
 conv=>whnf
 cases h
 conv=>whnf
 exact ⟨rfl,rfl⟩
 replace h:=cond_f b56 h
 conv=>whnf
 refine Both.mk ?_ ?_<;>intro b57
 obtain ⟨h,b57d⟩:=ctd b57 h
 conv=>whnf
 cases h
 conv=>whnf
 exact ⟨rfl,rfl⟩
 obtain ⟨h,b57d⟩:=cfd b57 h
 conv=>whnf
 refine Both.mk ?_ ?_<;>intro b58
 obtain ⟨h,b58d⟩:=ctd b58 h
 conv=>whnf
 cases h
 conv=>whnf
 exact ⟨rfl,rfl⟩
 obtain ⟨h,b58d⟩:=cfd b58 h
 conv=>whnf
 obtain ⟨y62,hc,hk60⟩:=bind_some h
 clear h
 have h:=hc
 clear hc
 refine Cut.mk (mkSt [(1,.im (.ref (zak p_))),(3,.im (nI (↑(List.length p_.Next):Int))),(26,.im (nB y62))] [] []) (True) (hT) ?_ (fun hp=>?_)
 conv=>whnf
 refine Both.mk ?_ ?_<;>intro b63
 replace b63:=beq_ff b63
 obtain ⟨h,b63d⟩:=cfd b63 h
 conv=>whnf
 iterate 3 (refine Both.yes (ff_beq b63) ?_;(conv=>whnf))
 refine Both.no b63 ?_
 conv=>whnf
 cases h
 exact Join.mk (eA [])
 replace b63:=beq_ft b63
 obtain ⟨h,b63d⟩:=ctd b63 h
 conv=>whnf
 iterate 3 (refine Both.no (tf_beq b63) ?_;(conv=>whnf))
 refine Both.yes b63 ?_
 conv=>whnf
 cases h
 exact Join.mk (eA [])
 replace h:=hk60
 conv=>whnf
 refine Both.mk ?_ ?_<;>intro b64
 replace h:=cond_t b64 h
 conv=>whnf
 cases h
 conv=>whnf
 exact ⟨rfl,rfl⟩
 replace h:=cond_f b64 h
 conv=>whnf
 refine Nf.mk (List.length p_.Out) len_map ?_
 conv=>whnf
 refine Both.mk ?_ ?_<;>intro b65
 obtain ⟨h,b65d⟩:=ctd b65 h
 conv=>whnf
 cases h
 conv=>whnf
 exact ⟨rfl,rfl⟩
 obtain ⟨h,b65d⟩:=cfd b65 h
 conv=>whnf
 obtain ⟨oc,hc,hk66⟩:=bind_some h
 clear h
 have h:=hc
 clear hc
 refine Cut.mkS oc (Y:=Unit) (fun (_:Unit)=>mkSt [] [] []) (fun (_:Unit)=>True) (by rintro ⟨⟩;exact (hT)) ?_ ?_
 conv=>whnf
 refine Loops.iter (fun (s:Nat)=>za9.s14 p_ s) (fun y529=>mkSt [(1,.im (.ref (zak p_))),(3,.im (nI (↑(List.length p_.Next):Int))),(42,.im (nI (↑(List.length p_.Next):Int))),(43,.im (nI (↑y529:Int)))] [] []) (fun y529=>True) h (eA []) (by rintro y529;exact (hT)) ?_
 clear h
 rintro k y529 o hp h ho645
 replace h:za9.s14 p_ y529=some o:=h
 unfold za9.s14 at h
 conv=>whnf
 refine Both.mk ?_ ?_<;>intro b646
 obtain ⟨h,b646d⟩:=ctd b646 h
 conv=>whnf
 obtain ⟨y652,hc,hk648⟩:=bind_some h
 clear h
 have h:=hc
 clear hc
 refine Cut.mk (mkSt [(1,.im (.ref (zak p_))),(3,.im (nI (↑(List.length p_.Next):Int))),(4,.im (nI (↑y529:Int))),(42,.im (nI (↑(List.length p_.Next):Int))),(43,.im (nI (↑y529:Int))),(65,.im (nB y652))] [] []) (True) (hT) ?_ (fun hp=>?_)
 conv=>whnf
 obtain ⟨e653,he653,h⟩:=zab h
 refine ⟨_,⟨(by omega),map_at he653,rfl⟩,?_⟩
 conv=>whnf
 refine Nf.mk (List.length e653) len_map ?_
 conv=>whnf
 refine Both.mk ?_ ?_<;>intro b654
 replace b654:=beq_ff b654
 obtain ⟨h,b654d⟩:=cfd b654 h
 conv=>whnf
 iterate 3 (refine Both.yes (ff_beq b654) ?_;(conv=>whnf))
 obtain ⟨e655,he655,h⟩:=zab h
 refine ⟨_,⟨(by omega),map_at he655,rfl⟩,?_⟩
 conv=>whnf
 iterate 2 (refine Both.yes (ff_beq b654) ?_;(conv=>whnf))
 refine Nf.mk (List.length e655) len_map ?_
 conv=>whnf
 iterate 3 (refine Both.yes (ff_beq b654) ?_;(conv=>whnf))
 refine Both.no b654 ?_
 conv=>whnf
 cases h
 exact Join.mk (eA [])
 replace b654:=beq_ft b654
 obtain ⟨h,b654d⟩:=ctd b654 h
 conv=>whnf
 iterate 8 (refine Both.no (tf_beq b654) ?_;(conv=>whnf))
 refine Both.yes b654 ?_
 conv=>whnf
 cases h
 exact Join.mk (eA [])
 replace h:=hk648
 conv=>whnf
 refine Both.mk ?_ ?_<;>intro b656
 replace h:=cond_t b656 h
 conv=>whnf
 cases h
 have ho645:_=_:=ho645
 cases ho645
 replace h:some _=some _:=hk66
 cases h
 conv=>whnf
 exact ⟨rfl,rfl⟩
 replace h:=cond_f b656 h
 conv=>whnf
 obtain ⟨e657,he657,h⟩:=zab h
 refine ⟨_,⟨(by omega),map_at he657,rfl⟩,?_⟩
 conv=>whnf
 refine Nf.mk (List.length e657) len_map ?_
 conv=>whnf
 obtain ⟨oc,hc,hk658⟩:=bind_some h
 clear h
 have h:=hc
 clear hc
 refine Cut.mkS oc (Y:=Unit) (fun (_:Unit)=>mkSt [(1,.im (.ref (zak p_))),(3,.im (nI (↑(List.length p_.Next):Int))),(42,.im (nI (↑(List.length p_.Next):Int))),(43,.im (nI (↑y529:Int)))] [] []) (fun (_:Unit)=>True) (by rintro ⟨⟩;exact (hT)) ?_ ?_
 conv=>whnf
 refine Loops.iter (fun (s:Nat)=>za9.s13 p_ y529 e657 s) (fun y726=>mkSt [(1,.im (.ref (zak p_))),(3,.im (nI (↑(List.length p_.Next):Int))),(4,.im (nI (↑y529:Int))),(42,.im (nI (↑(List.length p_.Next):Int))),(43,.im (nI (↑y529:Int))),(70,.im (nL cI e657)),(71,.im (nI (↑(List.length e657):Int))),(72,.im (nI (↑y726:Int)))] [] []) (fun y726=>lZ e657∧True) h (eA []) (by rintro y726;exact ((Holds.avl 70 rfl).and (hT))) ?_
 clear h
 rintro k y726 o hp h ho743
 replace h:za9.s13 p_ y529 e657 y726=some o:=h
 unfold za9.s13 at h
 obtain ⟨z760,_⟩:=hp
 conv=>whnf
 refine Both.mk ?_ ?_<;>intro b744
 obtain ⟨h,b744d⟩:=ctd b744 h
 conv=>whnf
 obtain ⟨e745,he745,h⟩:=zab h
 refine ⟨_,⟨(by omega),map_at he745,rfl⟩,?_⟩
 conv=>whnf
 obtain ⟨e746,he746,h⟩:=zab h
 refine ⟨_,⟨(by omega),map_at he746,rfl⟩,?_⟩
 conv=>whnf
 obtain ⟨e747,he747,h⟩:=zab h
 refine ⟨_,⟨(by omega),map_at he747,rfl⟩,?_⟩
 conv=>whnf
 obtain ⟨y753,hc,hk749⟩:=bind_some h
 clear h
 have h:=hc
 clear hc
 refine Cut.mk (mkSt [(1,.im (.ref (zak p_))),(3,.im (nI (↑(List.length p_.Next):Int))),(4,.im (nI (↑y529:Int))),(6,.im (nI e745)),(7,.im (nI e747)),(42,.im (nI (↑(List.length p_.Next):Int))),(43,.im (nI (↑y529:Int))),(70,.im (nL cI e657)),(71,.im (nI (↑(List.length e657):Int))),(72,.im (nI (↑y726:Int))),(99,.im (nB y753))] [] []) (lZ e657∧True) ((Holds.avl 70 rfl).and (hT)) ?_ (fun hp=>?_)
 conv=>whnf
 refine Both.mk ?_ ?_<;>intro b754
 replace b754:=beq_ff b754
 obtain ⟨h,b754d⟩:=cfd b754 h
 conv=>whnf
 iterate 2 (refine Both.yes (ff_beq b754) ?_;(conv=>whnf))
 refine Both.no b754 ?_
 conv=>whnf
 refine Both.mk ?_ ?_<;>intro b755
 replace b755:=beq_ff b755
 obtain ⟨h,b755d⟩:=cfd b755 h
 conv=>whnf
 refine Both.yes (ff_beq b755) ?_
 conv=>whnf
 refine Both.no b755 ?_
 conv=>whnf
 refine Both.mk ?_ ?_<;>intro b756
 replace b756:=beq_ff b756
 obtain ⟨h,b756d⟩:=cfd b756 h
 conv=>whnf
 refine Both.yes (ff_beq b756) ?_
 conv=>whnf
 refine Both.no b756 ?_
 conv=>whnf
 cases h
 exact Join.mk (eA [])
 replace b756:=beq_ft b756
 obtain ⟨h,b756d⟩:=ctd b756 h
 conv=>whnf
 refine Both.no (tf_beq b756) ?_
 conv=>whnf
 refine Both.yes b756 ?_
 conv=>whnf
 cases h
 exact Join.mk (eA [])
 replace b755:=beq_ft b755
 obtain ⟨h,b755d⟩:=ctd b755 h
 conv=>whnf
 refine Both.no (tf_beq b755) ?_
 conv=>whnf
 refine Both.yes b755 ?_
 conv=>whnf
 iterate 2 (refine Both.no rfl ?_;(conv=>whnf))
 refine Both.yes rfl ?_
 conv=>whnf
 cases h
 exact Join.mk (eA [])
 replace b754:=beq_ft b754
 obtain ⟨h,b754d⟩:=ctd b754 h
 conv=>whnf
 iterate 2 (refine Both.no (tf_beq b754) ?_;(conv=>whnf))
 refine Both.yes b754 ?_
 conv=>whnf
 iterate 2 (refine Both.no rfl ?_;(conv=>whnf))
 refine Both.yes rfl ?_
 conv=>whnf
 iterate 2 (refine Both.no rfl ?_;(conv=>whnf))
 refine Both.yes rfl ?_
 conv=>whnf
 cases h
 exact Join.mk (eA [])
 replace h:=hk749
 obtain ⟨z757,_⟩:=hp
 conv=>whnf
 refine Both.mk ?_ ?_<;>intro b758
 replace h:=cond_t b758 h
 conv=>whnf
 cases h
 have ho743:_=_:=ho743
 cases ho743
 replace h:some _=some _:=hk658
 cases h
 have ho645:_=_:=ho645
 cases ho645
 replace h:some _=some _:=hk66
 cases h
 conv=>whnf
 exact ⟨rfl,rfl⟩
 replace h:=cond_f b758 h
 conv=>whnf
 refine Both.mk ?_ ?_<;>intro b759
 replace h:=cond_t b759 h
 conv=>whnf
 cases h
 have ho743:_=_:=ho743
 cases ho743
 replace h:some _=some _:=hk658
 cases h
 have ho645:_=_:=ho645
 cases ho645
 replace h:some _=some _:=hk66
 cases h
 conv=>whnf
 exact ⟨rfl,rfl⟩
 replace h:=cond_f b759 h
 conv=>whnf
 refine Arith.mk (by show inR _;unfold inR;omega) ?_
 conv=>whnf
 cases h
 exact Nxt.mk _ ho743 (eA [])
 obtain ⟨h,b744d⟩:=cfd b744 h
 conv=>whnf
 cases h
 have ho743:_=_:=ho743
 cases ho743
 exact JoinS.mk' _ rfl (eA [])
 rintro ⟨⟩ rfl hp
 replace h:=sum_inl hk658
 conv=>whnf
 refine Arith.mk (by show inR _;unfold inR;omega) ?_
 conv=>whnf
 cases h
 exact Nxt.mk _ ho645 (eA [])
 obtain ⟨h,b646d⟩:=cfd b646 h
 conv=>whnf
 cases h
 have ho645:_=_:=ho645
 cases ho645
 exact JoinS.mk' _ rfl (eA [])
 rintro ⟨⟩ rfl hp
 replace h:=sum_inl hk66
 conv=>whnf
 cases h
 conv=>whnf
 exact ⟨rfl,rfl⟩
theorem zeq (p_:zaa) (w_:List Int) (r:List Int×Bool) (h:Ok (.agg (zak p_))→Ok (nL cI w_)→zb3 p_ w_=some r):Sp Tryz.prog 9 [.im (.agg (zak p_)),.im (nL cI w_)] (.tup [nL cI r.1,nB r.2]):=by
 refine sp_of rfl [700002] rfl rfl rfl (Nat.le_of_ble_eq_true rfl) rfl fun hk=>?_
 replace h:=h hk.1 hk.2.1
 have z1:lZ p_.Next:=ok_len (Ok.agg_at hk.1 2 rfl)
 have z2:lZ p_.Out:=ok_len (Ok.agg_at hk.1 3 rfl)
 have z3:lZ w_:=ok_len hk.2.1
 unfold zb3 at h
 conv=>whnf
 obtain ⟨c51,hc51,h⟩:=bind_some h
 refine ⟨_,(zc7 p_ c51 (fun _=>hc51)),?_⟩
 conv=>whnf
 refine Both.mk ?_ ?_<;>intro b52
 obtain ⟨h,b52d⟩:=ctd b52 h
 conv=>whnf
 cases h
 conv=>whnf
 exact ⟨rfl,rfl⟩
 obtain ⟨h,b52d⟩:=cfd b52 h
 conv=>whnf
 refine Nf.mk (List.length w_) len_map ?_
 conv=>whnf
 obtain ⟨oc,hc,hk53⟩:=bind_some h
 clear h
 have h:=hc
 clear hc
 refine Cut.mkS oc (Y:=List Int) (fun y121=>mkSt [(7,.osl 64 1)] [(64,.row 3 1 (List.map cI y121))] []) (fun y121=>lZ y121∧True) (by rintro y121;exact ((Holds.kdl 64 rfl).and (hT))) ?_ ?_
 conv=>whnf
 refine Loops.iter (fun (s:Int×List Int×Nat)=>zb3.s2 p_ w_ s.1 s.2.1 s.2.2) (fun (s141,y142,y143)=>mkSt [(2,.im (.ref (zak p_))),(6,.im (nI s141)),(7,.osl 64 1),(15,.im (nL cI w_)),(16,.im (nI (↑(List.length w_):Int))),(17,.im (nI (↑y143:Int)))] [(64,.row 3 1 (List.map cI y142))] []) (fun (s141,y142,y143)=>lZ w_∧lZ y142∧True) h (eA [(64,none)]) (by rintro ⟨s141,y142,y143⟩;exact ((Holds.avl 15 rfl).and ((Holds.kdl 64 rfl).and (hT)))) ?_
 clear h
 rintro k ⟨s141,y142,y143⟩ o hp h ho165
 replace h:zb3.s2 p_ w_ s141 y142 y143=some o:=h
 unfold zb3.s2 at h
 obtain ⟨z187,z188,_⟩:=hp
 conv=>whnf
 refine Both.mk ?_ ?_<;>intro b166
 obtain ⟨h,b166d⟩:=ctd b166 h
 conv=>whnf
 obtain ⟨e167,he167,h⟩:=zab h
 refine ⟨_,⟨(by omega),map_at he167,rfl⟩,?_⟩
 conv=>whnf
 obtain ⟨y174,hc,hk169⟩:=bind_some h
 clear h
 have h:=hc
 clear hc
 refine Cut.mk (mkSt [(2,.im (.ref (zak p_))),(6,.im (nI s141)),(7,.osl 64 1),(9,.im (nI e167)),(15,.im (nL cI w_)),(16,.im (nI (↑(List.length w_):Int))),(17,.im (nI (↑y143:Int))),(39,.im (nB y174))] [(64,.row 3 1 (List.map cI y142))] []) (lZ w_∧lZ y142∧True) ((Holds.avl 15 rfl).and ((Holds.kdl 64 rfl).and (hT))) ?_ (fun hp=>?_)
 conv=>whnf
 refine Both.mk ?_ ?_<;>intro b175
 replace b175:=beq_ff b175
 obtain ⟨h,b175d⟩:=cfd b175 h
 conv=>whnf
 iterate 3 (refine Both.yes (ff_beq b175) ?_;(conv=>whnf))
 refine Both.no b175 ?_
 conv=>whnf
 refine Both.mk ?_ ?_<;>intro b176
 replace b176:=beq_ff b176
 obtain ⟨h,b176d⟩:=cfd b176 h
 conv=>whnf
 iterate 3 (refine Both.yes (ff_beq b176) ?_;(conv=>whnf))
 obtain ⟨e177,he177z,he177,h⟩:=idx_some h
 refine ⟨_,⟨he177z,map_at he177,rfl⟩,?_⟩
 conv=>whnf
 iterate 3 (refine Both.yes (ff_beq b176) ?_;(conv=>whnf))
 obtain ⟨e178,he178z,he178,h⟩:=idx_some h
 refine ⟨_,⟨he178z,map_at he178,rfl⟩,?_⟩
 conv=>whnf
 iterate 2 (refine Both.yes (ff_beq b176) ?_;(conv=>whnf))
 refine Both.no b176 ?_
 conv=>whnf
 cases h
 exact Join.mk (eA [(64,some 64)])
 replace b176:=beq_ft b176
 obtain ⟨h,b176d⟩:=ctd b176 h
 conv=>whnf
 iterate 8 (refine Both.no (tf_beq b176) ?_;(conv=>whnf))
 refine Both.yes b176 ?_
 conv=>whnf
 cases h
 exact Join.mk (eA [(64,some 64)])
 replace b175:=beq_ft b175
 obtain ⟨h,b175d⟩:=ctd b175 h
 conv=>whnf
 iterate 3 (refine Both.no (tf_beq b175) ?_;(conv=>whnf))
 refine Both.yes b175 ?_
 conv=>whnf
 iterate 9 (refine Both.no rfl ?_;(conv=>whnf))
 refine Both.yes rfl ?_
 conv=>whnf
 cases h
 exact Join.mk (eA [(64,some 64)])
 replace h:=hk169
 obtain ⟨z179,z180,_⟩:=hp
 conv=>whnf
 refine Both.mk ?_ ?_<;>intro b181
 replace h:=cond_t b181 h
 conv=>whnf
 cases h
 have ho165:_=_:=ho165
 cases ho165
 replace h:some _=some _:=hk53
 cases h
 conv=>whnf
 exact ⟨rfl,rfl⟩
 replace h:=cond_f b181 h
 conv=>whnf
 obtain ⟨e182,he182z,he182,h⟩:=idx_some h
 refine ⟨_,⟨he182z,map_at he182,rfl⟩,?_⟩
 conv=>whnf
 obtain ⟨e183,he183z,he183,h⟩:=idx_some h
 refine ⟨_,⟨he183z,map_at he183,rfl⟩,?_⟩
 conv=>whnf
 obtain ⟨c184,h⟩:=chk_some h
 refine Side.mk ⟨rfl,map_len (l:=[e183]) (c:=cI) fun _=>rfl,show capOk _ 8 by simpa only [List.length_map,List.length_cons,List.length_nil,Nat.zero_add] using c184⟩ ?_
 conv=>whnf
 refine Nf.mk (List.map cI (y142++[e183])) (app_map (l:=y142) (m:=[e183]) (c:=cI)) ?_
 conv=>whnf
 obtain ⟨e185,he185z,he185,h⟩:=idx_some h
 refine ⟨_,⟨he185z,map_at he185,rfl⟩,?_⟩
 conv=>whnf
 obtain ⟨e186,he186z,he186,h⟩:=idx_some h
 refine ⟨_,⟨he186z,map_at he186,rfl⟩,?_⟩
 conv=>whnf
 refine Arith.mk (by show inR _;unfold inR;omega) ?_
 conv=>whnf
 cases h
 exact Nxt.mk _ ho165 (eA [(64,some 64)])
 obtain ⟨h,b166d⟩:=cfd b166 h
 conv=>whnf
 cases h
 have ho165:_=_:=ho165
 cases ho165
 exact JoinS.mk' _ rfl (eA [(64,some 64)])
 rintro y121 rfl hp
 replace h:=sum_inl hk53
 obtain ⟨z189,_⟩:=hp
 conv=>whnf
 cases h
 conv=>whnf
 exact Side.mk ⟨rfl,trivial⟩ ⟨rfl,rfl⟩
theorem zea (a_:List Int) (b_:List Int) (r:Int) (h:Ok (nL cI a_)→Ok (nL cI b_)→zb9 a_ b_=some r):Sp Tryz.prog 37 [.im (nL cI a_),.im (nL cI b_)] (.im (nI r)):=by
 refine sp_of rfl [] rfl rfl rfl (Nat.le_of_ble_eq_true rfl) rfl fun hk=>?_
 replace h:=h hk.1 hk.2.1
 have z1:lZ a_:=ok_len hk.1
 have z2:lZ b_:=ok_len hk.2.1
 unfold zb9 at h
 conv=>whnf
 obtain ⟨i100,hc,hk51⟩:=bind_some h
 clear h
 have h:=hc
 clear hc
 refine Cut.mk (mkSt [(5,.im (nI (↑i100:Int)))] [] []) (True) (hT) ?_ (fun hp=>?_)
 conv=>whnf
 refine Loops.iter (fun (s:Nat)=>zb9.s2 a_ b_ s) (fun i115=>mkSt [(0,.im (nL cI a_)),(1,.im (nL cI b_)),(5,.im (nI (↑i115:Int)))] [] []) (fun i115=>lZ a_∧lZ b_∧True) h (eA []) (by rintro i115;exact ((Holds.avl 0 rfl).and ((Holds.avl 1 rfl).and (hT)))) ?_
 clear h
 rintro k i115 o hp h ho131
 replace h:zb9.s2 a_ b_ i115=some o:=h
 unfold zb9.s2 at h
 obtain ⟨z147,z148,_⟩:=hp
 conv=>whnf
 obtain ⟨y138,hc,hk133⟩:=bind_some h
 clear h
 have h:=hc
 clear hc
 refine Cut.mk (mkSt [(0,.im (nL cI a_)),(1,.im (nL cI b_)),(5,.im (nI (↑i115:Int))),(26,.im (nB y138))] [] []) (lZ a_∧lZ b_∧True) ((Holds.avl 0 rfl).and ((Holds.avl 1 rfl).and (hT))) ?_ (fun hp=>?_)
 conv=>whnf
 refine Nf.mk (List.length a_) len_map ?_
 conv=>whnf
 refine Both.mk ?_ ?_<;>intro b139
 replace b139:=beq_tt b139
 obtain ⟨h,b139d⟩:=ctd b139 h
 conv=>whnf
 iterate 2 (refine Both.yes (tt_beq b139) ?_;(conv=>whnf))
 refine Nf.mk (List.length b_) len_map ?_
 conv=>whnf
 refine Both.yes (tt_beq b139) ?_
 conv=>whnf
 refine Both.yes b139 ?_
 conv=>whnf
 refine Both.mk ?_ ?_<;>intro b140
 replace b140:=beq_tt b140
 obtain ⟨h,b140d⟩:=ctd b140 h
 conv=>whnf
 iterate 2 (refine Both.yes (tt_beq b140) ?_;(conv=>whnf))
 obtain ⟨e141,he141,h⟩:=zab h
 refine ⟨_,⟨(by omega),map_at he141,rfl⟩,?_⟩
 conv=>whnf
 iterate 4 (refine Both.yes (tt_beq b140) ?_;(conv=>whnf))
 obtain ⟨e142,he142,h⟩:=zab h
 refine ⟨_,⟨(by omega),map_at he142,rfl⟩,?_⟩
 conv=>whnf
 iterate 2 (refine Both.yes (tt_beq b140) ?_;(conv=>whnf))
 refine Both.yes b140 ?_
 conv=>whnf
 cases h
 exact Join.mk (eA [])
 replace b140:=beq_tf b140
 obtain ⟨h,b140d⟩:=cfd b140 h
 conv=>whnf
 iterate 8 (refine Both.no (ft_beq b140) ?_;(conv=>whnf))
 refine Both.no b140 ?_
 conv=>whnf
 cases h
 exact Join.mk (eA [])
 replace b139:=beq_tf b139
 obtain ⟨h,b139d⟩:=cfd b139 h
 conv=>whnf
 iterate 3 (refine Both.no (ft_beq b139) ?_;(conv=>whnf))
 refine Both.no b139 ?_
 conv=>whnf
 iterate 10 (refine Both.no rfl ?_;(conv=>whnf))
 cases h
 exact Join.mk (eA [])
 replace h:=hk133
 obtain ⟨z143,z144,_⟩:=hp
 conv=>whnf
 refine Both.mk ?_ ?_<;>intro b145
 replace h:=cond_t b145 h
 conv=>whnf
 obtain ⟨c146,h⟩:=chk_some h
 refine Arith.mk c146 ?_
 conv=>whnf
 cases h
 exact Nxt.mk _ ho131 (eA [])
 replace h:=cond_f b145 h
 conv=>whnf
 cases h
 have ho131:_=_:=ho131
 cases ho131
 exact Join.mk (eA [])
 replace h:=hk51
 conv=>whnf
 cases h
 conv=>whnf
 exact ⟨rfl,rfl⟩
theorem zef (a_:List Int) (b_:List Int) (r:Bool) (h:Ok (nL cI a_)→Ok (nL cI b_)→R01_Same a_ b_=some r):Sp Tryz.prog 17 [.im (nL cI a_),.im (nL cI b_)] (.im (nB r)):=by
 refine sp_of rfl [] rfl rfl rfl (Nat.le_of_ble_eq_true rfl) rfl fun hk=>?_
 replace h:=h hk.1 hk.2.1
 have z1:lZ a_:=ok_len hk.1
 have z2:lZ b_:=ok_len hk.2.1
 unfold R01_Same at h
 conv=>whnf
 obtain ⟨y55,hc,hk52⟩:=bind_some h
 clear h
 have h:=hc
 clear hc
 refine Cut.mk (mkSt [(4,.im (nB y55))] [] []) (True) (hT) ?_ (fun hp=>?_)
 conv=>whnf
 refine Nf.mk (List.length a_) len_map ?_
 conv=>whnf
 refine Nf.mk (List.length b_) len_map ?_
 conv=>whnf
 refine Both.mk ?_ ?_<;>intro b56
 replace b56:=beq_tt b56
 obtain ⟨h,b56d⟩:=ctd b56 h
 conv=>whnf
 iterate 2 (refine Both.yes (tt_beq b56) ?_;(conv=>whnf))
 obtain ⟨c57,hc57,h⟩:=bind_some h
 refine ⟨_,(zea a_ b_ c57 (fun _ _=>hc57)),?_⟩
 conv=>whnf
 iterate 2 (refine Both.yes (tt_beq b56) ?_;(conv=>whnf))
 refine Nf.mk (List.length a_) len_map ?_
 conv=>whnf
 refine Both.yes (tt_beq b56) ?_
 conv=>whnf
 refine Both.yes b56 ?_
 conv=>whnf
 cases h
 exact Join.mk (eA [])
 replace b56:=beq_tf b56
 obtain ⟨h,b56d⟩:=cfd b56 h
 conv=>whnf
 iterate 5 (refine Both.no (ft_beq b56) ?_;(conv=>whnf))
 refine Both.no b56 ?_
 conv=>whnf
 cases h
 exact Join.mk (eA [])
 replace h:=hk52
 conv=>whnf
 cases h
 conv=>whnf
 exact ⟨rfl,rfl⟩
theorem sp_R35_Large (o_:zal) (r:Bool) (h:Ok (.agg (zaz o_))→zcu o_=some r):Sp Tryz.prog 20 [.im (.agg (zaz o_))] (.im (nB r)):=by
 refine sp_of rfl [700001] rfl rfl rfl (Nat.le_of_ble_eq_true rfl) rfl fun hk=>?_
 replace h:=h hk.1
 have z1:lZ o_.Traces:=ok_len (Ok.agg_at hk.1 1 rfl)
 unfold zcu at h
 conv=>whnf
 obtain ⟨n83,hc,hk51⟩:=bind_some h
 clear h
 have h:=hc
 clear hc
 refine Cut.mk (mkSt [(1,.im (.ref (zaz o_))),(3,.im (nI (↑n83:Int)))] [] []) (True) (hT) ?_ (fun hp=>?_)
 conv=>whnf
 refine Loops.iter (fun (s:Nat×Nat)=>zcu.s2 o_ s.1 s.2) (fun (n92,i93)=>mkSt [(1,.im (.ref (zaz o_))),(3,.im (nI (↑n92:Int))),(4,.im (nI (↑i93:Int)))] [] []) (fun (n92,i93)=>True) h (eA []) (by rintro ⟨n92,i93⟩;exact (hT)) ?_
 clear h
 rintro k ⟨n92,i93⟩ o hp h ho104
 replace h:zcu.s2 o_ n92 i93=some o:=h
 unfold zcu.s2 at h
 conv=>whnf
 obtain ⟨y108,hc,hk106⟩:=bind_some h
 clear h
 have h:=hc
 clear hc
 refine Cut.mk (mkSt [(1,.im (.ref (zaz o_))),(3,.im (nI (↑n92:Int))),(4,.im (nI (↑i93:Int))),(13,.im (nB y108))] [] []) (True) (hT) ?_ (fun hp=>?_)
 conv=>whnf
 refine Nf.mk (List.length o_.Traces) len_map ?_
 conv=>whnf
 refine Both.mk ?_ ?_<;>intro b109
 replace b109:=beq_tt b109
 obtain ⟨h,b109d⟩:=ctd b109 h
 conv=>whnf
 refine Both.yes (tt_beq b109) ?_
 conv=>whnf
 refine Both.yes b109 ?_
 conv=>whnf
 cases h
 exact Join.mk (eA [])
 replace b109:=beq_tf b109
 obtain ⟨h,b109d⟩:=cfd b109 h
 conv=>whnf
 refine Both.no (ft_beq b109) ?_
 conv=>whnf
 refine Both.no b109 ?_
 conv=>whnf
 cases h
 exact Join.mk (eA [])
 replace h:=hk106
 conv=>whnf
 refine Both.mk ?_ ?_<;>intro b110
 replace h:=cond_t b110 h
 conv=>whnf
 obtain ⟨c111,h⟩:=chk_some h
 refine Arith.mk c111 ?_
 conv=>whnf
 obtain ⟨e112,he112,h⟩:=zab h
 refine ⟨_,⟨(by omega),map_at he112,rfl⟩,?_⟩
 conv=>whnf
 refine Nf.mk (List.length e112.In) len_map ?_
 conv=>whnf
 obtain ⟨c113,h⟩:=chk_some h
 refine Arith.mk c113 ?_
 conv=>whnf
 obtain ⟨c114,h⟩:=chk_some h
 refine Arith.mk c114 ?_
 conv=>whnf
 cases h
 exact Nxt.mk _ ho104 (eA [])
 replace h:=cond_f b110 h
 conv=>whnf
 cases h
 have ho104:_=_:=ho104
 cases ho104
 exact Join.mk (eA [])
 replace h:=hk51
 conv=>whnf
 obtain ⟨y118,hc,hk116⟩:=bind_some h
 clear h
 have h:=hc
 clear hc
 refine Cut.mk (mkSt [(2,.im (nB y118))] [] []) (True) (hT) ?_ (fun hp=>?_)
 conv=>whnf
 refine Both.mk ?_ ?_<;>intro b119
 replace b119:=beq_ff b119
 obtain ⟨h,b119d⟩:=cfd b119 h
 conv=>whnf
 iterate 2 (refine Both.yes (ff_beq b119) ?_;(conv=>whnf))
 refine Both.no b119 ?_
 conv=>whnf
 cases h
 exact Join.mk (eA [])
 replace b119:=beq_ft b119
 obtain ⟨h,b119d⟩:=ctd b119 h
 conv=>whnf
 iterate 2 (refine Both.no (tf_beq b119) ?_;(conv=>whnf))
 refine Both.yes b119 ?_
 conv=>whnf
 cases h
 exact Join.mk (eA [])
 replace h:=hk116
 conv=>whnf
 cases h
 conv=>whnf
 exact ⟨rfl,rfl⟩
theorem sp_R01_Size (inputs_:Int) (r:Bool) (h:Ok (nI inputs_)→R01_Size inputs_=some r):Sp Tryz.prog 71 [.im (nI inputs_)] (.im (nB r)):=by
 refine sp_of rfl [] rfl rfl rfl (Nat.le_of_ble_eq_true rfl) rfl fun hk=>?_
 replace h:=h hk.1
 unfold R01_Size at h
 conv=>whnf
 obtain ⟨y54,hc,hk52⟩:=bind_some h
 clear h
 have h:=hc
 clear hc
 refine Cut.mk (mkSt [(2,.im (nB y54))] [] []) (True) (hT) ?_ (fun hp=>?_)
 conv=>whnf
 refine Both.mk ?_ ?_<;>intro b55
 replace b55:=beq_tt b55
 obtain ⟨h,b55d⟩:=ctd b55 h
 conv=>whnf
 refine Both.yes (tt_beq b55) ?_
 conv=>whnf
 refine Both.yes b55 ?_
 conv=>whnf
 cases h
 exact Join.mk (eA [])
 replace b55:=beq_tf b55
 obtain ⟨h,b55d⟩:=cfd b55 h
 conv=>whnf
 refine Both.no (ft_beq b55) ?_
 conv=>whnf
 refine Both.no b55 ?_
 conv=>whnf
 cases h
 exact Join.mk (eA [])
 replace h:=hk52
 conv=>whnf
 cases h
 conv=>whnf
 exact ⟨rfl,rfl⟩
theorem zi2 (w_:List Int) (inputs_:Int) (r:Int) (h:Ok (nL cI w_)→Ok (nI inputs_)→zcl w_ inputs_=some r):Sp Tryz.prog 39 [.im (nL cI w_),.im (nI inputs_)] (.im (nI r)):=by
 refine sp_of rfl [] rfl rfl rfl (Nat.le_of_ble_eq_true rfl) rfl fun hk=>?_
 replace h:=h hk.1 hk.2.1
 have z1:lZ w_:=ok_len hk.1
 unfold zcl at h
 conv=>whnf
 obtain ⟨c51,hc51,h⟩:=bind_some h
 refine ⟨_,(sp_R01_Size inputs_ c51 (fun _=>hc51)),?_⟩
 conv=>whnf
 refine Both.mk ?_ ?_<;>intro b52
 replace h:=cond_t b52 h
 conv=>whnf
 cases h
 conv=>whnf
 exact ⟨rfl,rfl⟩
 replace h:=cond_f b52 h
 conv=>whnf
 refine Nf.mk (List.length w_) len_map ?_
 conv=>whnf
 refine Both.mk ?_ ?_<;>intro b53
 obtain ⟨h,b53d⟩:=ctd b53 h
 conv=>whnf
 cases h
 conv=>whnf
 exact ⟨rfl,rfl⟩
 obtain ⟨h,b53d⟩:=cfd b53 h
 conv=>whnf
 obtain ⟨oc,hc,hk54⟩:=bind_some h
 clear h
 have h:=hc
 clear hc
 refine Cut.mkS oc (Y:=Unit) (fun (_:Unit)=>mkSt [] [] []) (fun (_:Unit)=>True) (by rintro ⟨⟩;exact (hT)) ?_ ?_
 conv=>whnf
 refine Loops.iter (fun (s:Nat)=>zcl.s2 w_ inputs_ s) (fun i106=>mkSt [(0,.im (nL cI w_)),(1,.im (nI inputs_)),(5,.im (nI (↑i106:Int)))] [] []) (fun i106=>lZ w_∧True) h (eA []) (by rintro i106;exact ((Holds.avl 0 rfl).and (hT))) ?_
 clear h
 rintro k i106 o hp h ho119
 replace h:zcl.s2 w_ inputs_ i106=some o:=h
 unfold zcl.s2 at h
 obtain ⟨z132,_⟩:=hp
 conv=>whnf
 refine Nf.mk (List.length w_) len_map ?_
 conv=>whnf
 refine Both.mk ?_ ?_<;>intro b120
 obtain ⟨h,b120d⟩:=ctd b120 h
 conv=>whnf
 obtain ⟨y126,hc,hk122⟩:=bind_some h
 clear h
 have h:=hc
 clear hc
 refine Cut.mk (mkSt [(0,.im (nL cI w_)),(1,.im (nI inputs_)),(5,.im (nI (↑i106:Int))),(30,.im (nB y126))] [] []) (lZ w_∧True) ((Holds.avl 0 rfl).and (hT)) ?_ (fun hp=>?_)
 conv=>whnf
 obtain ⟨e127,he127,h⟩:=zab h
 refine ⟨_,⟨(by omega),map_at he127,rfl⟩,?_⟩
 conv=>whnf
 refine Both.mk ?_ ?_<;>intro b128
 replace b128:=beq_ff b128
 obtain ⟨h,b128d⟩:=cfd b128 h
 conv=>whnf
 iterate 2 (refine Both.yes (ff_beq b128) ?_;(conv=>whnf))
 obtain ⟨e129,he129,h⟩:=zab h
 refine ⟨_,⟨(by omega),map_at he129,rfl⟩,?_⟩
 conv=>whnf
 iterate 3 (refine Both.yes (ff_beq b128) ?_;(conv=>whnf))
 refine Both.no b128 ?_
 conv=>whnf
 cases h
 exact Join.mk (eA [])
 replace b128:=beq_ft b128
 obtain ⟨h,b128d⟩:=ctd b128 h
 conv=>whnf
 iterate 5 (refine Both.no (tf_beq b128) ?_;(conv=>whnf))
 refine Both.yes b128 ?_
 conv=>whnf
 cases h
 exact Join.mk (eA [])
 replace h:=hk122
 obtain ⟨z130,_⟩:=hp
 conv=>whnf
 refine Both.mk ?_ ?_<;>intro b131
 replace h:=cond_t b131 h
 conv=>whnf
 cases h
 have ho119:_=_:=ho119
 cases ho119
 replace h:some _=some _:=hk54
 cases h
 conv=>whnf
 exact ⟨rfl,rfl⟩
 replace h:=cond_f b131 h
 conv=>whnf
 refine Arith.mk (by show inR _;unfold inR;omega) ?_
 conv=>whnf
 cases h
 exact Nxt.mk _ ho119 (eA [])
 obtain ⟨h,b120d⟩:=cfd b120 h
 conv=>whnf
 cases h
 have ho119:_=_:=ho119
 cases ho119
 exact JoinS.mk' _ rfl (eA [])
 rintro ⟨⟩ rfl hp
 replace h:=sum_inl hk54
 conv=>whnf
 cases h
 conv=>whnf
 exact ⟨rfl,rfl⟩
theorem sp_R01_Lex (a_:List Int) (b_:List Int) (r:Int) (h:Ok (nL cI a_)→Ok (nL cI b_)→R01_Lex a_ b_=some r):Sp Tryz.prog 72 [.im (nL cI a_),.im (nL cI b_)] (.im (nI r)):=by
 refine sp_of rfl [] rfl rfl rfl (Nat.le_of_ble_eq_true rfl) rfl fun hk=>?_
 replace h:=h hk.1 hk.2.1
 have z1:lZ a_:=ok_len hk.1
 have z2:lZ b_:=ok_len hk.2.1
 unfold R01_Lex at h
 conv=>whnf
 obtain ⟨c51,hc51,h⟩:=bind_some h
 refine ⟨_,(zea a_ b_ c51 (fun _ _=>hc51)),?_⟩
 conv=>whnf
 obtain ⟨y55,hc,hk53⟩:=bind_some h
 clear h
 have h:=hc
 clear hc
 refine Cut.mk (mkSt [(0,.im (nL cI a_)),(1,.im (nL cI b_)),(5,.im (nI c51)),(9,.im (nB y55))] [] []) (lZ a_∧lZ b_∧True) ((Holds.avl 0 rfl).and ((Holds.avl 1 rfl).and (hT))) ?_ (fun hp=>?_)
 conv=>whnf
 refine Nf.mk (List.length a_) len_map ?_
 conv=>whnf
 refine Both.mk ?_ ?_<;>intro b56
 replace b56:=beq_tt b56
 obtain ⟨h,b56d⟩:=ctd b56 h
 conv=>whnf
 iterate 2 (refine Both.yes (tt_beq b56) ?_;(conv=>whnf))
 refine Nf.mk (List.length b_) len_map ?_
 conv=>whnf
 refine Both.yes (tt_beq b56) ?_
 conv=>whnf
 refine Both.yes b56 ?_
 conv=>whnf
 cases h
 exact Join.mk (eA [])
 replace b56:=beq_tf b56
 obtain ⟨h,b56d⟩:=cfd b56 h
 conv=>whnf
 iterate 3 (refine Both.no (ft_beq b56) ?_;(conv=>whnf))
 refine Both.no b56 ?_
 conv=>whnf
 cases h
 exact Join.mk (eA [])
 replace h:=hk53
 obtain ⟨z57,z58,_⟩:=hp
 conv=>whnf
 refine Both.mk ?_ ?_<;>intro b59
 replace h:=cond_t b59 h
 conv=>whnf
 cases h
 conv=>whnf
 exact ⟨rfl,rfl⟩
 replace h:=cond_f b59 h
 conv=>whnf
 obtain ⟨y66,hc,hk61⟩:=bind_some h
 clear h
 have h:=hc
 clear hc
 refine Cut.mk (mkSt [(20,.im (nB y66))] [] []) (True) (hT) ?_ (fun hp=>?_)
 conv=>whnf
 refine Nf.mk (List.length a_) len_map ?_
 conv=>whnf
 refine Both.mk ?_ ?_<;>intro b67
 obtain ⟨h,b67d⟩:=ctd b67 h
 conv=>whnf
 cases h
 exact Join.mk (eA [])
 obtain ⟨h,b67d⟩:=cfd b67 h
 conv=>whnf
 refine Nf.mk (List.length b_) len_map ?_
 conv=>whnf
 refine Both.mk ?_ ?_<;>intro b68
 replace b68:=beq_tt b68
 obtain ⟨h,b68d⟩:=ctd b68 h
 conv=>whnf
 iterate 2 (refine Both.yes (tt_beq b68) ?_;(conv=>whnf))
 obtain ⟨e69,he69z,he69,h⟩:=idx_some h
 refine ⟨_,⟨he69z,map_at he69,rfl⟩,?_⟩
 conv=>whnf
 iterate 4 (refine Both.yes (tt_beq b68) ?_;(conv=>whnf))
 obtain ⟨e70,he70z,he70,h⟩:=idx_some h
 refine ⟨_,⟨he70z,map_at he70,rfl⟩,?_⟩
 conv=>whnf
 iterate 2 (refine Both.yes (tt_beq b68) ?_;(conv=>whnf))
 refine Both.yes b68 ?_
 conv=>whnf
 cases h
 exact Join.mk (eA [])
 replace b68:=beq_tf b68
 obtain ⟨h,b68d⟩:=cfd b68 h
 conv=>whnf
 iterate 8 (refine Both.no (ft_beq b68) ?_;(conv=>whnf))
 refine Both.no b68 ?_
 conv=>whnf
 cases h
 exact Join.mk (eA [])
 replace h:=hk61
 conv=>whnf
 refine Both.mk ?_ ?_<;>intro b71
 replace h:=cond_t b71 h
 conv=>whnf
 cases h
 conv=>whnf
 exact ⟨rfl,rfl⟩
 replace h:=cond_f b71 h
 conv=>whnf
 cases h
 conv=>whnf
 exact ⟨rfl,rfl⟩
theorem zkv (a_:List Int) (b_:List Int) (r:Int) (h:Ok (nL cI a_)→Ok (nL cI b_)→zdw a_ b_=some r):Sp Tryz.prog 41 [.im (nL cI a_),.im (nL cI b_)] (.im (nI r)):=by
 refine sp_of rfl [] rfl rfl rfl (Nat.le_of_ble_eq_true rfl) rfl fun hk=>?_
 replace h:=h hk.1 hk.2.1
 have z1:lZ a_:=ok_len hk.1
 have z2:lZ b_:=ok_len hk.2.1
 unfold zdw at h
 conv=>whnf
 refine Nf.mk (List.length a_) len_map ?_
 conv=>whnf
 refine Nf.mk (List.length b_) len_map ?_
 conv=>whnf
 refine Both.mk ?_ ?_<;>intro b51
 obtain ⟨h,b51d⟩:=ctd b51 h
 conv=>whnf
 cases h
 conv=>whnf
 exact ⟨rfl,rfl⟩
 obtain ⟨h,b51d⟩:=cfd b51 h
 conv=>whnf
 refine Nf.mk (List.length a_) len_map ?_
 conv=>whnf
 refine Nf.mk (List.length b_) len_map ?_
 conv=>whnf
 refine Both.mk ?_ ?_<;>intro b52
 obtain ⟨h,b52d⟩:=ctd b52 h
 conv=>whnf
 cases h
 conv=>whnf
 exact ⟨rfl,rfl⟩
 obtain ⟨h,b52d⟩:=cfd b52 h
 conv=>whnf
 obtain ⟨c53,hc53,h⟩:=bind_some h
 refine ⟨_,(sp_R01_Lex a_ b_ c53 (fun _ _=>hc53)),?_⟩
 conv=>whnf
 cases h
 conv=>whnf
 exact ⟨rfl,rfl⟩
theorem sp_R16_Proper (t_:zae) (inputs_:Int) (r:Int) (h:Ok (.agg (zaj t_))→Ok (nI inputs_)→zci t_ inputs_=some r):Sp Tryz.prog 40 [.im (.agg (zaj t_)),.im (nI inputs_)] (.im (nI r)):=by
 refine sp_of rfl [700002] rfl rfl rfl (Nat.le_of_ble_eq_true rfl) rfl fun hk=>?_
 replace h:=h hk.1 hk.2.1
 have z1:lZ t_.In:=ok_len (Ok.agg_at hk.1 0 rfl)
 have z2:lZ t_.Out:=ok_len (Ok.agg_at hk.1 1 rfl)
 unfold zci at h
 conv=>whnf
 obtain ⟨c51,hc51,h⟩:=bind_some h
 refine ⟨_,(zi2 t_.In inputs_ c51 (fun _ _=>hc51)),?_⟩
 conv=>whnf
 refine Both.mk ?_ ?_<;>intro b52
 obtain ⟨h,b52d⟩:=ctd b52 h
 conv=>whnf
 cases h
 conv=>whnf
 exact ⟨rfl,rfl⟩
 obtain ⟨h,b52d⟩:=cfd b52 h
 conv=>whnf
 refine Nf.mk (List.length t_.Out) len_map ?_
 conv=>whnf
 refine Nf.mk (List.length t_.In) len_map ?_
 conv=>whnf
 refine Both.mk ?_ ?_<;>intro b53
 obtain ⟨h,b53d⟩:=ctd b53 h
 conv=>whnf
 cases h
 conv=>whnf
 exact ⟨rfl,rfl⟩
 obtain ⟨h,b53d⟩:=cfd b53 h
 conv=>whnf
 obtain ⟨oc,hc,hk54⟩:=bind_some h
 clear h
 have h:=hc
 clear hc
 refine Cut.mkS oc (Y:=Unit) (fun (_:Unit)=>mkSt [] [] []) (fun (_:Unit)=>True) (by rintro ⟨⟩;exact (hT)) ?_ ?_
 conv=>whnf
 refine Loops.iter (fun (s:Nat)=>zci.s2 t_ s) (fun i101=>mkSt [(2,.im (.ref (zaj t_))),(6,.im (nI (↑i101:Int)))] [] []) (fun i101=>True) h (eA []) (by rintro i101;exact (hT)) ?_
 clear h
 rintro k i101 o hp h ho113
 replace h:zci.s2 t_ i101=some o:=h
 unfold zci.s2 at h
 conv=>whnf
 refine Nf.mk (List.length t_.Out) len_map ?_
 conv=>whnf
 refine Both.mk ?_ ?_<;>intro b114
 obtain ⟨h,b114d⟩:=ctd b114 h
 conv=>whnf
 obtain ⟨y120,hc,hk116⟩:=bind_some h
 clear h
 have h:=hc
 clear hc
 refine Cut.mk (mkSt [(2,.im (.ref (zaj t_))),(6,.im (nI (↑i101:Int))),(41,.im (nB y120))] [] []) (True) (hT) ?_ (fun hp=>?_)
 conv=>whnf
 obtain ⟨e121,he121,h⟩:=zab h
 refine ⟨_,⟨(by omega),map_at he121,rfl⟩,?_⟩
 conv=>whnf
 refine Both.mk ?_ ?_<;>intro b122
 replace b122:=beq_ff b122
 obtain ⟨h,b122d⟩:=cfd b122 h
 conv=>whnf
 iterate 3 (refine Both.yes (ff_beq b122) ?_;(conv=>whnf))
 obtain ⟨e123,he123,h⟩:=zab h
 refine ⟨_,⟨(by omega),map_at he123,rfl⟩,?_⟩
 conv=>whnf
 iterate 2 (refine Both.yes (ff_beq b122) ?_;(conv=>whnf))
 refine Both.no b122 ?_
 conv=>whnf
 cases h
 exact Join.mk (eA [])
 replace b122:=beq_ft b122
 obtain ⟨h,b122d⟩:=ctd b122 h
 conv=>whnf
 iterate 5 (refine Both.no (tf_beq b122) ?_;(conv=>whnf))
 refine Both.yes b122 ?_
 conv=>whnf
 cases h
 exact Join.mk (eA [])
 replace h:=hk116
 conv=>whnf
 refine Both.mk ?_ ?_<;>intro b124
 replace h:=cond_t b124 h
 conv=>whnf
 cases h
 have ho113:_=_:=ho113
 cases ho113
 replace h:some _=some _:=hk54
 cases h
 conv=>whnf
 exact ⟨rfl,rfl⟩
 replace h:=cond_f b124 h
 conv=>whnf
 refine Arith.mk (by show inR _;unfold inR;omega) ?_
 conv=>whnf
 cases h
 exact Nxt.mk _ ho113 (eA [])
 obtain ⟨h,b114d⟩:=cfd b114 h
 conv=>whnf
 cases h
 have ho113:_=_:=ho113
 cases ho113
 exact JoinS.mk' _ rfl (eA [])
 rintro ⟨⟩ rfl hp
 replace h:=sum_inl hk54
 conv=>whnf
 cases h
 conv=>whnf
 exact ⟨rfl,rfl⟩
theorem zje (w_:List Int) (p_:List Int) (r:Bool) (h:Ok (nL cI w_)→Ok (nL cI p_)→zc3 w_ p_=some r):Sp Tryz.prog 73 [.im (nL cI w_),.im (nL cI p_)] (.im (nB r)):=by
 refine sp_of rfl [] rfl rfl rfl (Nat.le_of_ble_eq_true rfl) rfl fun hk=>?_
 replace h:=h hk.1 hk.2.1
 have z1:lZ w_:=ok_len hk.1
 have z2:lZ p_:=ok_len hk.2.1
 unfold zc3 at h
 conv=>whnf
 obtain ⟨c51,hc51,h⟩:=bind_some h
 refine ⟨_,(zea w_ p_ c51 (fun _ _=>hc51)),?_⟩
 conv=>whnf
 refine Nf.mk (List.length p_) len_map ?_
 conv=>whnf
 cases h
 conv=>whnf
 exact ⟨rfl,rfl⟩
theorem sp_R16_Differ (a_:zae) (b_:zae) (r:Int) (h:Ok (.agg (zaj a_))→Ok (.agg (zaj b_))→zck a_ b_=some r):Sp Tryz.prog 74 [.im (.agg (zaj a_)),.im (.agg (zaj b_))] (.im (nI r)):=by
 refine sp_of rfl [700002,700003] rfl rfl rfl (Nat.le_of_ble_eq_true rfl) rfl fun hk=>?_
 replace h:=h hk.1 hk.2.1
 have z1:lZ a_.In:=ok_len (Ok.agg_at hk.1 0 rfl)
 have z2:lZ a_.Out:=ok_len (Ok.agg_at hk.1 1 rfl)
 have z3:lZ b_.In:=ok_len (Ok.agg_at hk.2.1 0 rfl)
 have z4:lZ b_.Out:=ok_len (Ok.agg_at hk.2.1 1 rfl)
 unfold zck at h
 conv=>whnf
 obtain ⟨c51,hc51,h⟩:=bind_some h
 refine ⟨_,(zea a_.In b_.In c51 (fun _ _=>hc51)),?_⟩
 conv=>whnf
 obtain ⟨oc,hc,hk52⟩:=bind_some h
 clear h
 have h:=hc
 clear hc
 refine Cut.mkS oc (Y:=Unit) (fun (_:Unit)=>mkSt [] [] []) (fun (_:Unit)=>True) (by rintro ⟨⟩;exact (hT)) ?_ ?_
 conv=>whnf
 refine Loops.iter (fun (s:Nat)=>zck.s2 a_ b_ c51 s) (fun i73=>mkSt [(2,.im (.ref (zaj a_))),(3,.im (.ref (zaj b_))),(5,.im (nI c51)),(6,.im (nI (↑i73:Int)))] [] []) (fun i73=>True) h (eA []) (by rintro i73;exact (hT)) ?_
 clear h
 rintro k i73 o hp h ho79
 replace h:zck.s2 a_ b_ c51 i73=some o:=h
 unfold zck.s2 at h
 conv=>whnf
 refine Both.mk ?_ ?_<;>intro b80
 obtain ⟨h,b80d⟩:=ctd b80 h
 conv=>whnf
 obtain ⟨e81,he81,h⟩:=zab h
 refine ⟨_,⟨(by omega),map_at he81,rfl⟩,?_⟩
 conv=>whnf
 obtain ⟨e82,he82,h⟩:=zab h
 refine ⟨_,⟨(by omega),map_at he82,rfl⟩,?_⟩
 conv=>whnf
 refine Both.mk ?_ ?_<;>intro b83
 obtain ⟨h,b83d⟩:=ctd b83 h
 conv=>whnf
 cases h
 have ho79:_=_:=ho79
 cases ho79
 replace h:some _=some _:=hk52
 cases h
 conv=>whnf
 exact ⟨rfl,rfl⟩
 obtain ⟨h,b83d⟩:=cfd b83 h
 conv=>whnf
 obtain ⟨c84,h⟩:=chk_some h
 refine Arith.mk c84 ?_
 conv=>whnf
 cases h
 exact Nxt.mk _ ho79 (eA [])
 obtain ⟨h,b80d⟩:=cfd b80 h
 conv=>whnf
 cases h
 have ho79:_=_:=ho79
 cases ho79
 exact JoinS.mk' _ rfl (eA [])
 rintro ⟨⟩ rfl hp
 replace h:=sum_inl hk52
 conv=>whnf
 cases h
 conv=>whnf
 exact ⟨rfl,rfl⟩
theorem sp_R16_apart (o_:zal) (r:Int) (h:Ok (.agg (zaz o_))→zbk o_=some r):Sp Tryz.prog 42 [.im (.agg (zaz o_))] (.im (nI r)):=by
 refine sp_of rfl [700001] rfl rfl rfl (Nat.le_of_ble_eq_true rfl) rfl fun hk=>?_
 replace h:=h hk.1
 have z1:lZ o_.Traces:=ok_len (Ok.agg_at hk.1 1 rfl)
 unfold zbk at h
 conv=>whnf
 obtain ⟨oc,hc,hk51⟩:=bind_some h
 clear h
 have h:=hc
 clear hc
 refine Cut.mkS oc (Y:=Unit) (fun (_:Unit)=>mkSt [] [] []) (fun (_:Unit)=>True) (by rintro ⟨⟩;exact (hT)) ?_ ?_
 conv=>whnf
 refine Loops.iter (fun (s:Nat)=>zbk.s32 o_ s) (fun i518=>mkSt [(1,.im (.ref (zaz o_))),(3,.im (nI (↑i518:Int)))] [] []) (fun i518=>True) h (eA []) (by rintro i518;exact (hT)) ?_
 clear h
 rintro k i518 o hp h ho635
 replace h:zbk.s32 o_ i518=some o:=h
 unfold zbk.s32 at h
 conv=>whnf
 refine Nf.mk (List.length o_.Traces) len_map ?_
 conv=>whnf
 refine Both.mk ?_ ?_<;>intro b636
 obtain ⟨h,b636d⟩:=ctd b636 h
 conv=>whnf
 refine Arith.mk (by show inR _;unfold inR;omega) ?_
 conv=>whnf
 obtain ⟨⟨prefix693,clash694⟩,hc,hk637⟩:=bind_some h
 clear h
 have h:=hc
 clear hc
 refine Cut.mk (mkSt [(1,.im (.ref (zaz o_))),(3,.im (nI (↑i518:Int))),(4,.im (nB prefix693)),(5,.im (nB clash694))] [] []) (True) (hT) ?_ (fun hp=>?_)
 conv=>whnf
 refine Loops.iter (fun (s:Bool×Bool×Nat)=>zbk.s30 o_ i518 s.1 s.2.1 s.2.2) (fun (prefix714,clash715,k716)=>mkSt [(1,.im (.ref (zaz o_))),(3,.im (nI (↑i518:Int))),(4,.im (nB prefix714)),(5,.im (nB clash715)),(6,.im (nI (↑k716:Int)))] [] []) (fun (prefix714,clash715,k716)=>True) h (eA []) (by rintro ⟨prefix714,clash715,k716⟩;exact (hT)) ?_
 clear h
 rintro k ⟨prefix714,clash715,k716⟩ o hp h ho733
 replace h:zbk.s30 o_ i518 prefix714 clash715 k716=some o:=h
 unfold zbk.s30 at h
 conv=>whnf
 refine Nf.mk (List.length o_.Traces) len_map ?_
 conv=>whnf
 refine Both.mk ?_ ?_<;>intro b734
 obtain ⟨h,b734d⟩:=ctd b734 h
 conv=>whnf
 obtain ⟨prefix741,hc,hk736⟩:=bind_some h
 clear h
 have h:=hc
 clear hc
 refine Cut.mk (mkSt [(1,.im (.ref (zaz o_))),(3,.im (nI (↑i518:Int))),(4,.im (nB prefix741)),(5,.im (nB clash715)),(6,.im (nI (↑k716:Int)))] [] []) (True) (hT) ?_ (fun hp=>?_)
 conv=>whnf
 refine Both.mk ?_ ?_<;>intro b742
 replace b742:=beq_ff b742
 replace h:=cond_f b742 h
 conv=>whnf
 iterate 3 (refine Both.yes (ff_beq b742) ?_;(conv=>whnf))
 obtain ⟨e743,he743,h⟩:=zab h
 refine ⟨_,⟨(by omega),map_at he743,rfl⟩,?_⟩
 conv=>whnf
 iterate 6 (refine Both.yes (ff_beq b742) ?_;(conv=>whnf))
 obtain ⟨e744,he744,h⟩:=zab h
 refine ⟨_,⟨(by omega),map_at he744,rfl⟩,?_⟩
 conv=>whnf
 iterate 3 (refine Both.yes (ff_beq b742) ?_;(conv=>whnf))
 obtain ⟨c745,hc745,h⟩:=bind_some h
 refine ⟨_,(zje e743.In e744.In c745 (fun _ _=>hc745)),?_⟩
 conv=>whnf
 refine Both.no b742 ?_
 conv=>whnf
 cases h
 exact Join.mk (eA [])
 replace b742:=beq_ft b742
 replace h:=cond_t b742 h
 conv=>whnf
 iterate 12 (refine Both.no (tf_beq b742) ?_;(conv=>whnf))
 refine Both.yes b742 ?_
 conv=>whnf
 cases h
 exact Join.mk (eA [])
 replace h:=hk736
 conv=>whnf
 refine Both.mk ?_ ?_<;>intro b746
 replace b746:=beq_ff b746
 replace h:=cond_f b746 h
 conv=>whnf
 iterate 3 (refine Both.yes (ff_beq b746) ?_;(conv=>whnf))
 obtain ⟨e747,he747,h⟩:=zab h
 refine ⟨_,⟨(by omega),map_at he747,rfl⟩,?_⟩
 conv=>whnf
 iterate 5 (refine Both.yes (ff_beq b746) ?_;(conv=>whnf))
 obtain ⟨e748,he748,h⟩:=zab h
 refine ⟨_,⟨(by omega),map_at he748,rfl⟩,?_⟩
 conv=>whnf
 iterate 2 (refine Both.yes (ff_beq b746) ?_;(conv=>whnf))
 obtain ⟨c749,hc749,h⟩:=bind_some h
 refine ⟨_,(sp_R16_Differ e747 e748 c749 (fun _ _=>hc749)),?_⟩
 conv=>whnf
 refine Both.yes (ff_beq b746) ?_
 conv=>whnf
 refine Both.no b746 ?_
 conv=>whnf
 refine Arith.mk (by show inR _;unfold inR;omega) ?_
 conv=>whnf
 cases h
 exact Nxt.mk _ ho733 (eA [])
 replace b746:=beq_ft b746
 replace h:=cond_t b746 h
 conv=>whnf
 iterate 11 (refine Both.no (tf_beq b746) ?_;(conv=>whnf))
 refine Both.yes b746 ?_
 conv=>whnf
 refine Arith.mk (by show inR _;unfold inR;omega) ?_
 conv=>whnf
 cases h
 exact Nxt.mk _ ho733 (eA [])
 obtain ⟨h,b734d⟩:=cfd b734 h
 conv=>whnf
 cases h
 have ho733:_=_:=ho733
 cases ho733
 exact Join.mk (eA [])
 replace h:zbk.k31 i518 prefix693 clash694=some _:=hk637
 unfold zbk.k31 at h
 conv=>whnf
 refine Both.mk ?_ ?_<;>intro b750
 replace h:=cond_t b750 h
 conv=>whnf
 cases h
 have ho635:_=_:=ho635
 cases ho635
 replace h:some _=some _:=hk51
 cases h
 conv=>whnf
 exact ⟨rfl,rfl⟩
 replace h:=cond_f b750 h
 conv=>whnf
 refine Both.mk ?_ ?_<;>intro b751
 replace h:=cond_t b751 h
 conv=>whnf
 cases h
 have ho635:_=_:=ho635
 cases ho635
 replace h:some _=some _:=hk51
 cases h
 conv=>whnf
 exact ⟨rfl,rfl⟩
 replace h:=cond_f b751 h
 conv=>whnf
 refine Arith.mk (by show inR _;unfold inR;omega) ?_
 conv=>whnf
 cases h
 exact Nxt.mk _ ho635 (eA [])
 obtain ⟨h,b636d⟩:=cfd b636 h
 conv=>whnf
 cases h
 have ho635:_=_:=ho635
 cases ho635
 exact JoinS.mk' _ rfl (eA [])
 rintro ⟨⟩ rfl hp
 replace h:=sum_inl hk51
 conv=>whnf
 cases h
 conv=>whnf
 exact ⟨rfl,rfl⟩
theorem sp_R16_Valid (o_:zal) (r:Int) (h:Ok (.agg (zaz o_))→zcv o_=some r):Sp Tryz.prog 21 [.im (.agg (zaz o_))] (.im (nI r)):=by
 refine sp_of rfl [700001] rfl rfl rfl (Nat.le_of_ble_eq_true rfl) rfl fun hk=>?_
 replace h:=h hk.1
 have z1:lZ o_.Traces:=ok_len (Ok.agg_at hk.1 1 rfl)
 unfold zcv at h
 conv=>whnf
 obtain ⟨y54,hc,hk52⟩:=bind_some h
 clear h
 have h:=hc
 clear hc
 refine Cut.mk (mkSt [(1,.im (.ref (zaz o_))),(14,.im (nB y54))] [] []) (True) (hT) ?_ (fun hp=>?_)
 conv=>whnf
 refine Both.mk ?_ ?_<;>intro b55
 replace b55:=beq_ff b55
 obtain ⟨h,b55d⟩:=cfd b55 h
 conv=>whnf
 iterate 2 (refine Both.yes (ff_beq b55) ?_;(conv=>whnf))
 refine Both.no b55 ?_
 conv=>whnf
 cases h
 exact Join.mk (eA [])
 replace b55:=beq_ft b55
 obtain ⟨h,b55d⟩:=ctd b55 h
 conv=>whnf
 iterate 2 (refine Both.no (tf_beq b55) ?_;(conv=>whnf))
 refine Both.yes b55 ?_
 conv=>whnf
 cases h
 exact Join.mk (eA [])
 replace h:=hk52
 conv=>whnf
 refine Both.mk ?_ ?_<;>intro b56
 replace h:=cond_t b56 h
 conv=>whnf
 cases h
 conv=>whnf
 exact ⟨rfl,rfl⟩
 replace h:=cond_f b56 h
 conv=>whnf
 refine Nf.mk (List.length o_.Traces) len_map ?_
 conv=>whnf
 refine Both.mk ?_ ?_<;>intro b57
 obtain ⟨h,b57d⟩:=ctd b57 h
 conv=>whnf
 cases h
 conv=>whnf
 exact ⟨rfl,rfl⟩
 obtain ⟨h,b57d⟩:=cfd b57 h
 conv=>whnf
 obtain ⟨oc,hc,hk58⟩:=bind_some h
 clear h
 have h:=hc
 clear hc
 refine Cut.mkS oc (Y:=Unit) (fun (_:Unit)=>mkSt [(1,.im (.ref (zaz o_)))] [] []) (fun (_:Unit)=>True) (by rintro ⟨⟩;exact (hT)) ?_ ?_
 conv=>whnf
 refine Loops.iter (fun (s:Nat)=>zcv.s2 o_ s) (fun i129=>mkSt [(1,.im (.ref (zaz o_))),(3,.im (nI (↑i129:Int)))] [] []) (fun i129=>True) h (eA []) (by rintro i129;exact (hT)) ?_
 clear h
 rintro k i129 o hp h ho147
 replace h:zcv.s2 o_ i129=some o:=h
 unfold zcv.s2 at h
 conv=>whnf
 refine Nf.mk (List.length o_.Traces) len_map ?_
 conv=>whnf
 refine Both.mk ?_ ?_<;>intro b148
 obtain ⟨h,b148d⟩:=ctd b148 h
 conv=>whnf
 obtain ⟨e149,he149,h⟩:=zab h
 refine ⟨_,⟨(by omega),map_at he149,rfl⟩,?_⟩
 conv=>whnf
 refine Side.mk rfl ?_
 conv=>whnf
 refine Side.mk rfl ?_
 conv=>whnf
 refine Side.mk rfl ?_
 conv=>whnf
 obtain ⟨c150,hc150,h⟩:=bind_some h
 refine ⟨_,(zi2 e149.In o_.Inputs c150 (fun _ _=>hc150)),?_⟩
 conv=>whnf
 refine Both.mk ?_ ?_<;>intro b151
 obtain ⟨h,b151d⟩:=ctd b151 h
 conv=>whnf
 cases h
 have ho147:_=_:=ho147
 cases ho147
 replace h:some _=some _:=hk58
 cases h
 conv=>whnf
 exact ⟨rfl,rfl⟩
 obtain ⟨h,b151d⟩:=cfd b151 h
 conv=>whnf
 refine Side.mk rfl ?_
 conv=>whnf
 refine Side.mk rfl ?_
 conv=>whnf
 refine Nf.mk (List.length e149.In) len_map ?_
 conv=>whnf
 refine Both.mk ?_ ?_<;>intro b152
 obtain ⟨h,b152d⟩:=ctd b152 h
 conv=>whnf
 cases h
 have ho147:_=_:=ho147
 cases ho147
 replace h:some _=some _:=hk58
 cases h
 conv=>whnf
 exact ⟨rfl,rfl⟩
 obtain ⟨h,b152d⟩:=cfd b152 h
 conv=>whnf
 refine Side.mk rfl ?_
 conv=>whnf
 obtain ⟨c153,hc153,h⟩:=bind_some h
 refine ⟨_,(sp_R16_Proper e149 o_.Inputs c153 (fun _ _=>hc153)),?_⟩
 conv=>whnf
 refine Both.mk ?_ ?_<;>intro b154
 obtain ⟨h,b154d⟩:=ctd b154 h
 conv=>whnf
 cases h
 have ho147:_=_:=ho147
 cases ho147
 replace h:some _=some _:=hk58
 cases h
 conv=>whnf
 exact ⟨rfl,rfl⟩
 obtain ⟨h,b154d⟩:=cfd b154 h
 conv=>whnf
 obtain ⟨y160,hc,hk156⟩:=bind_some h
 clear h
 have h:=hc
 clear hc
 refine Cut.mk (mkSt [(1,.im (.ref (zaz o_))),(3,.im (nI (↑i129:Int))),(64,.im (nB y160))] [] []) (True) (hT) ?_ (fun hp=>?_)
 conv=>whnf
 refine Both.mk ?_ ?_<;>intro b161
 replace b161:=beq_tt b161
 obtain ⟨h,b161d⟩:=ctd b161 h
 conv=>whnf
 iterate 3 (refine Both.yes (tt_beq b161) ?_;(conv=>whnf))
 refine Arith.mk (by show inR _;unfold inR;omega) ?_
 conv=>whnf
 refine Both.yes (tt_beq b161) ?_
 conv=>whnf
 obtain ⟨e162,he162z,he162,h⟩:=idx_some h
 refine ⟨_,⟨he162z,map_at he162,rfl⟩,?_⟩
 conv=>whnf
 iterate 3 (refine Both.yes (tt_beq b161) ?_;(conv=>whnf))
 refine Side.mk rfl ?_
 conv=>whnf
 refine Both.yes (tt_beq b161) ?_
 conv=>whnf
 refine Side.mk rfl ?_
 conv=>whnf
 refine Both.yes (tt_beq b161) ?_
 conv=>whnf
 obtain ⟨c163,hc163,h⟩:=bind_some h
 refine ⟨_,(zkv e162.In e149.In c163 (fun _ _=>hc163)),?_⟩
 conv=>whnf
 refine Both.yes (tt_beq b161) ?_
 conv=>whnf
 refine Both.yes b161 ?_
 conv=>whnf
 cases h
 exact Join.mk (eA [])
 replace b161:=beq_tf b161
 obtain ⟨h,b161d⟩:=cfd b161 h
 conv=>whnf
 iterate 10 (refine Both.no (ft_beq b161) ?_;(conv=>whnf))
 refine Both.no b161 ?_
 conv=>whnf
 cases h
 exact Join.mk (eA [])
 replace h:=hk156
 conv=>whnf
 refine Both.mk ?_ ?_<;>intro b164
 replace h:=cond_t b164 h
 conv=>whnf
 cases h
 have ho147:_=_:=ho147
 cases ho147
 replace h:some _=some _:=hk58
 cases h
 conv=>whnf
 exact ⟨rfl,rfl⟩
 replace h:=cond_f b164 h
 conv=>whnf
 refine Arith.mk (by show inR _;unfold inR;omega) ?_
 conv=>whnf
 cases h
 exact Nxt.mk _ ho147 (eA [])
 obtain ⟨h,b148d⟩:=cfd b148 h
 conv=>whnf
 cases h
 have ho147:_=_:=ho147
 cases ho147
 exact JoinS.mk' _ rfl (eA [])
 rintro ⟨⟩ rfl hp
 replace h:=sum_inl hk58
 conv=>whnf
 obtain ⟨c165,hc165,h⟩:=bind_some h
 refine ⟨_,(sp_R16_apart o_ c165 (fun _=>hc165)),?_⟩
 conv=>whnf
 cases h
 conv=>whnf
 exact ⟨rfl,rfl⟩
theorem zcw (a_:List (List Int)) (b_:List (List Int)) (r:Bool) (h:Ok (nL (cL cI) a_)→Ok (nL (cL cI) b_)→zbs a_ b_=some r):Sp Tryz.prog 32 [.im (nL (cL cI) a_),.im (nL (cL cI) b_)] (.im (nB r)):=by
 refine sp_of rfl [] rfl rfl rfl (Nat.le_of_ble_eq_true rfl) rfl fun hk=>?_
 replace h:=h hk.1 hk.2.1
 have z1:lZ a_:=ok_len hk.1
 have z2:lZ b_:=ok_len hk.2.1
 unfold zbs at h
 conv=>whnf
 refine Nf.mk (List.length a_) len_map ?_
 conv=>whnf
 refine Nf.mk (List.length b_) len_map ?_
 conv=>whnf
 refine Both.mk ?_ ?_<;>intro b51
 obtain ⟨h,b51d⟩:=ctd b51 h
 conv=>whnf
 cases h
 conv=>whnf
 exact ⟨rfl,rfl⟩
 obtain ⟨h,b51d⟩:=cfd b51 h
 conv=>whnf
 obtain ⟨oc,hc,hk52⟩:=bind_some h
 clear h
 have h:=hc
 clear hc
 refine Cut.mkS oc (Y:=Unit) (fun (_:Unit)=>mkSt [] [] []) (fun (_:Unit)=>True) (by rintro ⟨⟩;exact (hT)) ?_ ?_
 conv=>whnf
 refine Loops.iter (fun (s:Nat)=>zbs.s2 a_ b_ s) (fun i77=>mkSt [(0,.im (nL (cL cI) a_)),(1,.im (nL (cL cI) b_)),(5,.im (nI (↑i77:Int)))] [] []) (fun i77=>lZ a_∧lZ b_∧True) h (eA []) (by rintro i77;exact ((Holds.avl 0 rfl).and ((Holds.avl 1 rfl).and (hT)))) ?_
 clear h
 rintro k i77 o hp h ho83
 replace h:zbs.s2 a_ b_ i77=some o:=h
 unfold zbs.s2 at h
 obtain ⟨z89,z90,_⟩:=hp
 conv=>whnf
 refine Nf.mk (List.length a_) len_map ?_
 conv=>whnf
 refine Both.mk ?_ ?_<;>intro b84
 obtain ⟨h,b84d⟩:=ctd b84 h
 conv=>whnf
 obtain ⟨e85,he85,h⟩:=zab h
 refine ⟨_,⟨(by omega),map_at he85,rfl⟩,?_⟩
 conv=>whnf
 obtain ⟨e86,he86,h⟩:=zab h
 refine ⟨_,⟨(by omega),map_at he86,rfl⟩,?_⟩
 conv=>whnf
 obtain ⟨c87,hc87,h⟩:=bind_some h
 refine ⟨_,(zef e85 e86 c87 (fun _ _=>hc87)),?_⟩
 conv=>whnf
 refine Both.mk ?_ ?_<;>intro b88
 replace h:=cond_t b88 h
 conv=>whnf
 cases h
 have ho83:_=_:=ho83
 cases ho83
 replace h:some _=some _:=hk52
 cases h
 conv=>whnf
 exact ⟨rfl,rfl⟩
 replace h:=cond_f b88 h
 conv=>whnf
 refine Arith.mk (by show inR _;unfold inR;omega) ?_
 conv=>whnf
 cases h
 exact Nxt.mk _ ho83 (eA [])
 obtain ⟨h,b84d⟩:=cfd b84 h
 conv=>whnf
 cases h
 have ho83:_=_:=ho83
 cases ho83
 exact JoinS.mk' _ rfl (eA [])
 rintro ⟨⟩ rfl hp
 replace h:=sum_inl hk52
 conv=>whnf
 cases h
 conv=>whnf
 exact ⟨rfl,rfl⟩
theorem zec (s_:List Int) (f_:Int→Option Bool) (f1_:FuncId) (hf1:∀ x0 r,f_ x0=some r→Sp Tryz.prog f1_ [.im (nI x0)] (.im (nB r))) (r:Int) (h:Ok (nL cI s_)→Ok (.fn f1_ [])→zar s_ f_=some r):Sp Tryz.prog 137 [.im (nL cI s_),.im (.fn f1_ [])] (.im (nI r)):=by
 refine sp_of rfl [] rfl rfl rfl (Nat.le_of_ble_eq_true rfl) rfl fun hk=>?_
 replace h:=h hk.1 hk.2.1
 have z1:lZ s_:=ok_len hk.1
 unfold zar at h
 conv=>whnf
 refine Nf.mk (List.length s_) len_map ?_
 conv=>whnf
 obtain ⟨oc,hc,hk51⟩:=bind_some h
 clear h
 have h:=hc
 clear hc
 refine Cut.mkS oc (Y:=Unit) (fun (_:Unit)=>mkSt [] [] []) (fun (_:Unit)=>True) (by rintro ⟨⟩;exact (hT)) ?_ ?_
 conv=>whnf
 refine Loops.iter (fun (s:Nat)=>zar.s2 s_ f_ s) (fun y71=>mkSt [(0,.im (nL cI s_)),(1,.im (.fn f1_ [])),(7,.im (nI (↑(List.length s_):Int))),(8,.im (nI (↑y71:Int)))] [] []) (fun y71=>lZ s_∧True) h (eA []) (by rintro y71;exact ((Holds.avl 0 rfl).and (hT))) ?_
 clear h
 rintro k y71 o hp h ho76
 replace h:zar.s2 s_ f_ y71=some o:=h
 unfold zar.s2 at h
 obtain ⟨z81,_⟩:=hp
 conv=>whnf
 refine Both.mk ?_ ?_<;>intro b77
 obtain ⟨h,b77d⟩:=ctd b77 h
 conv=>whnf
 obtain ⟨e78,he78,h⟩:=zab h
 refine ⟨_,⟨(by omega),map_at he78,rfl⟩,?_⟩
 conv=>whnf
 obtain ⟨c79,hc79,h⟩:=bind_some h
 refine ⟨_,hf1 e78 c79 hc79,?_⟩
 conv=>whnf
 refine Both.mk ?_ ?_<;>intro b80
 replace h:=cond_t b80 h
 conv=>whnf
 cases h
 have ho76:_=_:=ho76
 cases ho76
 replace h:some _=some _:=hk51
 cases h
 conv=>whnf
 exact ⟨rfl,rfl⟩
 replace h:=cond_f b80 h
 conv=>whnf
 refine Arith.mk (by show inR _;unfold inR;omega) ?_
 conv=>whnf
 cases h
 exact Nxt.mk _ ho76 (eA [])
 obtain ⟨h,b77d⟩:=cfd b77 h
 conv=>whnf
 cases h
 have ho76:_=_:=ho76
 cases ho76
 exact JoinS.mk' _ rfl (eA [])
 rintro ⟨⟩ rfl hp
 replace h:=sum_inl hk51
 conv=>whnf
 cases h
 conv=>whnf
 exact ⟨rfl,rfl⟩
theorem zdt (s_:List Int) (f_:Int→Option Bool) (f1_:FuncId) (hf1:∀ x0 r,f_ x0=some r→Sp Tryz.prog f1_ [.im (nI x0)] (.im (nB r))) (r:Bool) (h:Ok (nL cI s_)→Ok (.fn f1_ [])→zbm s_ f_=some r):Sp Tryz.prog 105 [.im (nL cI s_),.im (.fn f1_ [])] (.im (nB r)):=by
 refine sp_of rfl [] rfl rfl rfl (Nat.le_of_ble_eq_true rfl) rfl fun hk=>?_
 replace h:=h hk.1 hk.2.1
 have z1:lZ s_:=ok_len hk.1
 unfold zbm at h
 conv=>whnf
 obtain ⟨c51,hc51,h⟩:=bind_some h
 refine ⟨_,(zec s_ f_ f1_ hf1 c51 (fun _ _=>hc51)),?_⟩
 conv=>whnf
 cases h
 conv=>whnf
 exact ⟨rfl,rfl⟩
theorem zif (inputs_:Int) (r:Bool) (h:Ok (nI inputs_)→zc9 inputs_=some r):Sp Tryz.prog 104 [.im (nI inputs_)] (.im (nB r)):=by
 refine sp_of rfl [] rfl rfl rfl (Nat.le_of_ble_eq_true rfl) rfl fun hk=>?_
 replace h:=h hk.1
 unfold zc9 at h
 conv=>whnf
 obtain ⟨y54,hc,hk52⟩:=bind_some h
 clear h
 have h:=hc
 clear hc
 refine Cut.mk (mkSt [(2,.im (nB y54))] [] []) (True) (hT) ?_ (fun hp=>?_)
 conv=>whnf
 refine Both.mk ?_ ?_<;>intro b55
 replace b55:=beq_tt b55
 obtain ⟨h,b55d⟩:=ctd b55 h
 conv=>whnf
 refine Both.yes (tt_beq b55) ?_
 conv=>whnf
 refine Both.yes b55 ?_
 conv=>whnf
 cases h
 exact Join.mk (eA [])
 replace b55:=beq_tf b55
 obtain ⟨h,b55d⟩:=cfd b55 h
 conv=>whnf
 refine Both.no (ft_beq b55) ?_
 conv=>whnf
 refine Both.no b55 ?_
 conv=>whnf
 cases h
 exact Join.mk (eA [])
 replace h:=hk52
 conv=>whnf
 cases h
 conv=>whnf
 exact ⟨rfl,rfl⟩
theorem zjl (a_:Int) (p1_:Int) (r:Bool) (h:Ok (nI a_)→Ok (.ref (cI p1_))→zdh a_ p1_=some r):Sp Tryz.prog 106 [.im (nI a_),.im (.ref (cI p1_))] (.im (nB r)):=by
 refine sp_of rfl [] rfl rfl rfl (Nat.le_of_ble_eq_true rfl) rfl fun hk=>?_
 replace h:=h hk.1 hk.2.1
 unfold zdh at h
 conv=>whnf
 obtain ⟨y54,hc,hk52⟩:=bind_some h
 clear h
 have h:=hc
 clear hc
 refine Cut.mk (mkSt [(3,.im (nB y54))] [] []) (True) (hT) ?_ (fun hp=>?_)
 conv=>whnf
 refine Both.mk ?_ ?_<;>intro b55
 replace b55:=beq_ff b55
 obtain ⟨h,b55d⟩:=cfd b55 h
 conv=>whnf
 iterate 2 (refine Both.yes (ff_beq b55) ?_;(conv=>whnf))
 refine Both.no b55 ?_
 conv=>whnf
 cases h
 exact Join.mk (eA [])
 replace b55:=beq_ft b55
 obtain ⟨h,b55d⟩:=ctd b55 h
 conv=>whnf
 iterate 2 (refine Both.no (tf_beq b55) ?_;(conv=>whnf))
 refine Both.yes b55 ?_
 conv=>whnf
 cases h
 exact Join.mk (eA [])
 replace h:=hk52
 conv=>whnf
 cases h
 conv=>whnf
 exact ⟨rfl,rfl⟩
theorem zdu (s_:List Int) (f_:Int→Option Bool) (f1_:FuncId) (k1_0:IV) (hk1_0:nz k1_0=k1_0) (hf1:∀ x0 r,f_ x0=some r→Sp Tryz.prog f1_ [.im (nI x0),.im k1_0] (.im (nB r))) (r:Int) (h:Ok (nL cI s_)→Ok (.fn f1_ [k1_0])→zan s_ f_=some r):Sp Tryz.prog 137 [.im (nL cI s_),.im (.fn f1_ [k1_0])] (.im (nI r)):=by
 refine sp_of rfl [] rfl rfl rfl (Nat.le_of_ble_eq_true rfl) rfl fun hk=>?_
 replace h:=h hk.1 hk.2.1
 have z1:lZ s_:=ok_len hk.1
 unfold zan at h
 conv=>whnf
 refine Nf.mk (List.length s_) len_map ?_
 conv=>whnf
 obtain ⟨oc,hc,hk51⟩:=bind_some h
 clear h
 have h:=hc
 clear hc
 refine Cut.mkS oc (Y:=Unit) (fun (_:Unit)=>mkSt [] [] []) (fun (_:Unit)=>True) (by rintro ⟨⟩;exact (hT)) ?_ ?_
 conv=>whnf
 refine Loops.iter (fun (s:Nat)=>zan.s2 s_ f_ s) (fun y71=>mkSt [(0,.im (nL cI s_)),(1,.im (.fn f1_ [k1_0])),(7,.im (nI (↑(List.length s_):Int))),(8,.im (nI (↑y71:Int)))] [] []) (fun y71=>lZ s_∧True) h (eA []) (by rintro y71;exact ((Holds.avl 0 rfl).and (hT))) ?_
 clear h
 rintro k y71 o hp h ho76
 replace h:zan.s2 s_ f_ y71=some o:=h
 unfold zan.s2 at h
 obtain ⟨z81,_⟩:=hp
 conv=>whnf
 refine Both.mk ?_ ?_<;>intro b77
 obtain ⟨h,b77d⟩:=ctd b77 h
 conv=>whnf
 obtain ⟨e78,he78,h⟩:=zab h
 refine ⟨_,⟨(by omega),map_at he78,rfl⟩,?_⟩
 conv=>whnf
 obtain ⟨c79,hc79,h⟩:=bind_some h
 refine ⟨_,Sp.args (hf1 e78 c79 hc79) (by rw [hk1_0];try rfl),?_⟩
 conv=>whnf
 refine Both.mk ?_ ?_<;>intro b80
 replace h:=cond_t b80 h
 conv=>whnf
 cases h
 have ho76:_=_:=ho76
 cases ho76
 replace h:some _=some _:=hk51
 cases h
 conv=>whnf
 exact ⟨rfl,rfl⟩
 replace h:=cond_f b80 h
 conv=>whnf
 refine Arith.mk (by show inR _;unfold inR;omega) ?_
 conv=>whnf
 cases h
 exact Nxt.mk _ ho76 (eA [])
 obtain ⟨h,b77d⟩:=cfd b77 h
 conv=>whnf
 cases h
 have ho76:_=_:=ho76
 cases ho76
 exact JoinS.mk' _ rfl (eA [])
 rintro ⟨⟩ rfl hp
 replace h:=sum_inl hk51
 conv=>whnf
 cases h
 conv=>whnf
 exact ⟨rfl,rfl⟩
theorem zdi (s_:List Int) (f_:Int→Option Bool) (f1_:FuncId) (k1_0:IV) (hk1_0:nz k1_0=k1_0) (hf1:∀ x0 r,f_ x0=some r→Sp Tryz.prog f1_ [.im (nI x0),.im k1_0] (.im (nB r))) (r:Bool) (h:Ok (nL cI s_)→Ok (.fn f1_ [k1_0])→zbq s_ f_=some r):Sp Tryz.prog 105 [.im (nL cI s_),.im (.fn f1_ [k1_0])] (.im (nB r)):=by
 refine sp_of rfl [] rfl rfl rfl (Nat.le_of_ble_eq_true rfl) rfl fun hk=>?_
 replace h:=h hk.1 hk.2.1
 have z1:lZ s_:=ok_len hk.1
 unfold zbq at h
 conv=>whnf
 obtain ⟨c51,hc51,h⟩:=bind_some h
 refine ⟨_,(zdu s_ f_ f1_ k1_0 hk1_0 hf1 c51 (fun _ _=>hc51)),?_⟩
 conv=>whnf
 cases h
 conv=>whnf
 exact ⟨rfl,rfl⟩
theorem zia (w_:List Int) (inputs_:Int) (r:Int) (h:Ok (nL cI w_)→Ok (nI inputs_)→zee w_ inputs_=some r):Sp Tryz.prog 75 [.im (nL cI w_),.im (nI inputs_)] (.im (nI r)):=by
 refine sp_of rfl [700003] rfl rfl rfl (Nat.le_of_ble_eq_true rfl) rfl fun hk=>?_
 replace h:=h hk.1 hk.2.1
 have z1:lZ w_:=ok_len hk.1
 unfold zee at h
 conv=>whnf
 obtain ⟨c51,hc51,h⟩:=bind_some h
 refine ⟨_,(zif inputs_ c51 (fun _=>hc51)),?_⟩
 conv=>whnf
 refine Both.mk ?_ ?_<;>intro b52
 replace h:=cond_t b52 h
 conv=>whnf
 cases h
 conv=>whnf
 exact ⟨rfl,rfl⟩
 replace h:=cond_f b52 h
 conv=>whnf
 refine Nf.mk (List.length w_) len_map ?_
 conv=>whnf
 refine Both.mk ?_ ?_<;>intro b53
 obtain ⟨h,b53d⟩:=ctd b53 h
 conv=>whnf
 cases h
 conv=>whnf
 exact ⟨rfl,rfl⟩
 obtain ⟨h,b53d⟩:=cfd b53 h
 conv=>whnf
 obtain ⟨c54,hc54,h⟩:=bind_some h
 refine ⟨_,(zdi w_ (fun u0=>zdh u0 inputs_) 106 (.ref (cI inputs_)) rfl (fun u0 r h=>(zjl u0 inputs_ r (fun _ _=>h))) c54 (fun _ _=>hc54)),?_⟩
 conv=>whnf
 refine Both.mk ?_ ?_<;>intro b55
 replace h:=cond_t b55 h
 conv=>whnf
 cases h
 conv=>whnf
 exact ⟨rfl,rfl⟩
 replace h:=cond_f b55 h
 conv=>whnf
 cases h
 conv=>whnf
 exact ⟨rfl,rfl⟩
theorem ze2 (a_:List Int) (b_:List Int) (r:Int) (h:Ok (nL cI a_)→Ok (nL cI b_)→zbz a_ b_=some r):Sp Tryz.prog 112 [.im (nL cI a_),.im (nL cI b_)] (.im (nI r)):=by
 refine sp_of rfl [] rfl rfl rfl (Nat.le_of_ble_eq_true rfl) rfl fun hk=>?_
 replace h:=h hk.1 hk.2.1
 have z1:lZ a_:=ok_len hk.1
 have z2:lZ b_:=ok_len hk.2.1
 unfold zbz at h
 conv=>whnf
 refine Nf.mk (List.length a_) len_map ?_
 conv=>whnf
 refine Nf.mk (List.length b_) len_map ?_
 conv=>whnf
 obtain ⟨oc,hc,hk51⟩:=bind_some h
 clear h
 have h:=hc
 clear hc
 refine Cut.mkS oc (Y:=Unit) (fun (_:Unit)=>mkSt [(0,.im (nL cI a_)),(1,.im (nL cI b_))] [] []) (fun (_:Unit)=>lZ a_∧lZ b_∧True) (by rintro ⟨⟩;exact ((Holds.avl 0 rfl).and ((Holds.avl 1 rfl).and (hT)))) ?_ ?_
 conv=>whnf
 refine Loops.iter (fun (s:Nat)=>zbz.s2 a_ b_ s) (fun y72=>mkSt [(0,.im (nL cI a_)),(1,.im (nL cI b_)),(10,.im (nI (min (↑(List.length a_):Int) (↑(List.length b_):Int)))),(11,.im (nI (↑y72:Int)))] [] []) (fun y72=>lZ a_∧lZ b_∧True) h (eA []) (by rintro y72;exact ((Holds.avl 0 rfl).and ((Holds.avl 1 rfl).and (hT)))) ?_
 clear h
 rintro k y72 o hp h ho77
 replace h:zbz.s2 a_ b_ y72=some o:=h
 unfold zbz.s2 at h
 obtain ⟨z82,z83,_⟩:=hp
 conv=>whnf
 refine Both.mk ?_ ?_<;>intro b78
 obtain ⟨h,b78d⟩:=ctd b78 h
 conv=>whnf
 obtain ⟨e79,he79,h⟩:=zab h
 refine ⟨_,⟨(by omega),map_at he79,rfl⟩,?_⟩
 conv=>whnf
 obtain ⟨e80,he80,h⟩:=zab h
 refine ⟨_,⟨(by omega),map_at he80,rfl⟩,?_⟩
 conv=>whnf
 refine Both.mk ?_ ?_<;>intro b81
 obtain ⟨h,b81d⟩:=ctd b81 h
 conv=>whnf
 cases h
 have ho77:_=_:=ho77
 cases ho77
 replace h:some _=some _:=hk51
 cases h
 conv=>whnf
 exact ⟨rfl,rfl⟩
 obtain ⟨h,b81d⟩:=cfd b81 h
 conv=>whnf
 refine Arith.mk (by show inR _;unfold inR;omega) ?_
 conv=>whnf
 cases h
 exact Nxt.mk _ ho77 (eA [])
 obtain ⟨h,b78d⟩:=cfd b78 h
 conv=>whnf
 cases h
 have ho77:_=_:=ho77
 cases ho77
 exact JoinS.mk' _ rfl (eA [])
 rintro ⟨⟩ rfl hp
 replace h:=sum_inl hk51
 obtain ⟨z84,z85,_⟩:=hp
 conv=>whnf
 refine Nf.mk (List.length a_) len_map ?_
 conv=>whnf
 refine Nf.mk (List.length b_) len_map ?_
 conv=>whnf
 cases h
 conv=>whnf
 exact ⟨rfl,rfl⟩
theorem zdq (w_:List Int) (p_:List Int) (r:Bool) (h:Ok (nL cI w_)→Ok (nL cI p_)→zcm w_ p_=some r):Sp Tryz.prog 81 [.im (nL cI w_),.im (nL cI p_)] (.im (nB r)):=by
 refine sp_of rfl [] rfl rfl rfl (Nat.le_of_ble_eq_true rfl) rfl fun hk=>?_
 replace h:=h hk.1 hk.2.1
 have z1:lZ w_:=ok_len hk.1
 have z2:lZ p_:=ok_len hk.2.1
 unfold zcm at h
 conv=>whnf
 obtain ⟨c51,hc51,h⟩:=bind_some h
 refine ⟨_,(ze2 w_ p_ c51 (fun _ _=>hc51)),?_⟩
 conv=>whnf
 refine Nf.mk (List.length p_) len_map ?_
 conv=>whnf
 cases h
 conv=>whnf
 exact ⟨rfl,rfl⟩
theorem zfb (a_:zae) (b_:zae) (r:Int) (h:Ok (.agg (zaj a_))→Ok (.agg (zaj b_))→zcx a_ b_=some r):Sp Tryz.prog 83 [.im (.agg (zaj a_)),.im (.agg (zaj b_))] (.im (nI r)):=by
 refine sp_of rfl [700002,700003] rfl rfl rfl (Nat.le_of_ble_eq_true rfl) rfl fun hk=>?_
 replace h:=h hk.1 hk.2.1
 have z1:lZ a_.In:=ok_len (Ok.agg_at hk.1 0 rfl)
 have z2:lZ a_.Out:=ok_len (Ok.agg_at hk.1 1 rfl)
 have z3:lZ b_.In:=ok_len (Ok.agg_at hk.2.1 0 rfl)
 have z4:lZ b_.Out:=ok_len (Ok.agg_at hk.2.1 1 rfl)
 unfold zcx at h
 conv=>whnf
 obtain ⟨c51,hc51,h⟩:=bind_some h
 refine ⟨_,(ze2 a_.In b_.In c51 (fun _ _=>hc51)),?_⟩
 conv=>whnf
 refine Nf.mk (List.length a_.Out) len_map ?_
 conv=>whnf
 refine Nf.mk (List.length b_.Out) len_map ?_
 conv=>whnf
 obtain ⟨c52,h⟩:=chk_some h
 refine Side.mk (show (0:Int)≤(0:Int)∧(0:Int)≤(min (min c51 (↑(List.length a_.Out):Int)) (↑(List.length b_.Out):Int))∧(min (min c51 (↑(List.length a_.Out):Int)) (↑(List.length b_.Out):Int))≤(↑(List.length (List.map cI a_.Out)):Int)∧(∀ e∈List.map cI a_.Out,List.length e=1) from ⟨by omega,by first | omega | (simp only [List.length_map];omega),by first | omega | (simp only [List.length_map];omega),map_len fun _=>rfl⟩) ?_
 conv=>whnf
 refine Nf.mk (List.map cI (List.take (Int.toNat (min (min c51 (↑(List.length a_.Out):Int)) (↑(List.length b_.Out):Int))) a_.Out)) take_map ?_
 conv=>whnf
 obtain ⟨c53,h⟩:=chk_some h
 refine Side.mk (show (0:Int)≤(0:Int)∧(0:Int)≤(min (min c51 (↑(List.length a_.Out):Int)) (↑(List.length b_.Out):Int))∧(min (min c51 (↑(List.length a_.Out):Int)) (↑(List.length b_.Out):Int))≤(↑(List.length (List.map cI b_.Out)):Int)∧(∀ e∈List.map cI b_.Out,List.length e=1) from ⟨by omega,by first | omega | (simp only [List.length_map];omega),by first | omega | (simp only [List.length_map];omega),map_len fun _=>rfl⟩) ?_
 conv=>whnf
 refine Nf.mk (List.map cI (List.take (Int.toNat (min (min c51 (↑(List.length a_.Out):Int)) (↑(List.length b_.Out):Int))) b_.Out)) take_map ?_
 conv=>whnf
 obtain ⟨c54,hc54,h⟩:=bind_some h
 refine ⟨_,(ze2 (List.take (Int.toNat (min (min c51 (↑(List.length a_.Out):Int)) (↑(List.length b_.Out):Int))) a_.Out) (List.take (Int.toNat (min (min c51 (↑(List.length a_.Out):Int)) (↑(List.length b_.Out):Int))) b_.Out) c54 (fun _ _=>hc54)),?_⟩
 conv=>whnf
 refine Both.mk ?_ ?_<;>intro b55
 obtain ⟨h,b55d⟩:=ctd b55 h
 conv=>whnf
 cases h
 conv=>whnf
 exact ⟨rfl,rfl⟩
 obtain ⟨h,b55d⟩:=cfd b55 h
 conv=>whnf
 cases h
 conv=>whnf
 exact ⟨rfl,rfl⟩
theorem zf1 (x_:Int) (r:Bool) (h:Ok (nI x_)→cmp_isNaN_int x_=some r):Sp Tryz.prog 152 [.im (nI x_)] (.im (nB r)):=by
 refine sp_of rfl [] rfl rfl rfl (Nat.le_of_ble_eq_true rfl) rfl fun hk=>?_
 replace h:=h hk.1
 unfold cmp_isNaN_int at h
 conv=>whnf
 cases h
 conv=>whnf
 exact ⟨rfl,rfl⟩
theorem zex (x_:Int) (y_:Int) (r:Int) (h:Ok (nI x_)→Ok (nI y_)→cmp_Compare_int x_ y_=some r):Sp Tryz.prog 129 [.im (nI x_),.im (nI y_)] (.im (nI r)):=by
 refine sp_of rfl [] rfl rfl rfl (Nat.le_of_ble_eq_true rfl) rfl fun hk=>?_
 replace h:=h hk.1 hk.2.1
 unfold cmp_Compare_int at h
 conv=>whnf
 obtain ⟨c51,hc51,h⟩:=bind_some h
 refine ⟨_,(zf1 x_ c51 (fun _=>hc51)),?_⟩
 conv=>whnf
 obtain ⟨c52,hc52,h⟩:=bind_some h
 refine ⟨_,(zf1 y_ c52 (fun _=>hc52)),?_⟩
 conv=>whnf
 refine Both.mk ?_ ?_<;>intro b53
 replace h:=cond_t b53 h
 conv=>whnf
 refine Both.mk ?_ ?_<;>intro b54
 replace h:=cond_t b54 h
 conv=>whnf
 cases h
 conv=>whnf
 exact ⟨rfl,rfl⟩
 replace h:=cond_f b54 h
 conv=>whnf
 cases h
 conv=>whnf
 exact ⟨rfl,rfl⟩
 replace h:=cond_f b53 h
 conv=>whnf
 refine Both.mk ?_ ?_<;>intro b55
 replace h:=cond_t b55 h
 conv=>whnf
 cases h
 conv=>whnf
 exact ⟨rfl,rfl⟩
 replace h:=cond_f b55 h
 conv=>whnf
 refine Both.mk ?_ ?_<;>intro b56
 obtain ⟨h,b56d⟩:=ctd b56 h
 conv=>whnf
 cases h
 conv=>whnf
 exact ⟨rfl,rfl⟩
 obtain ⟨h,b56d⟩:=cfd b56 h
 conv=>whnf
 refine Both.mk ?_ ?_<;>intro b57
 obtain ⟨h,b57d⟩:=ctd b57 h
 conv=>whnf
 cases h
 conv=>whnf
 exact ⟨rfl,rfl⟩
 obtain ⟨h,b57d⟩:=cfd b57 h
 conv=>whnf
 cases h
 conv=>whnf
 exact ⟨rfl,rfl⟩
theorem zc6 (s1_:List Int) (s2_:List Int) (r:Int) (h:Ok (nL cI s1_)→Ok (nL cI s2_)→zas s1_ s2_=some r):Sp Tryz.prog 130 [.im (nL cI s1_),.im (nL cI s2_)] (.im (nI r)):=by
 refine sp_of rfl [] rfl rfl rfl (Nat.le_of_ble_eq_true rfl) rfl fun hk=>?_
 replace h:=h hk.1 hk.2.1
 have z1:lZ s1_:=ok_len hk.1
 have z2:lZ s2_:=ok_len hk.2.1
 unfold zas at h
 conv=>whnf
 refine Nf.mk (List.length s1_) len_map ?_
 conv=>whnf
 obtain ⟨oc,hc,hk51⟩:=bind_some h
 clear h
 have h:=hc
 clear hc
 refine Cut.mkS oc (Y:=Unit) (fun (_:Unit)=>mkSt [(0,.im (nL cI s1_)),(1,.im (nL cI s2_))] [] []) (fun (_:Unit)=>lZ s1_∧lZ s2_∧True) (by rintro ⟨⟩;exact ((Holds.avl 0 rfl).and ((Holds.avl 1 rfl).and (hT)))) ?_ ?_
 conv=>whnf
 refine Loops.iter (fun (s:Nat)=>zas.s2 s1_ s2_ s) (fun y80=>mkSt [(0,.im (nL cI s1_)),(1,.im (nL cI s2_)),(9,.im (nL cI s1_)),(10,.im (nI (↑(List.length s1_):Int))),(11,.im (nI (↑y80:Int)))] [] []) (fun y80=>lZ s1_∧lZ s2_∧True) h (eA []) (by rintro y80;exact ((Holds.avl 0 rfl).and ((Holds.avl 1 rfl).and (hT)))) ?_
 clear h
 rintro k y80 o hp h ho87
 replace h:zas.s2 s1_ s2_ y80=some o:=h
 unfold zas.s2 at h
 obtain ⟨z94,z95,_⟩:=hp
 conv=>whnf
 refine Both.mk ?_ ?_<;>intro b88
 obtain ⟨h,b88d⟩:=ctd b88 h
 conv=>whnf
 obtain ⟨e89,he89,h⟩:=zab h
 refine ⟨_,⟨(by omega),map_at he89,rfl⟩,?_⟩
 conv=>whnf
 refine Nf.mk (List.length s2_) len_map ?_
 conv=>whnf
 refine Both.mk ?_ ?_<;>intro b90
 obtain ⟨h,b90d⟩:=ctd b90 h
 conv=>whnf
 cases h
 have ho87:_=_:=ho87
 cases ho87
 replace h:some _=some _:=hk51
 cases h
 conv=>whnf
 exact ⟨rfl,rfl⟩
 obtain ⟨h,b90d⟩:=cfd b90 h
 conv=>whnf
 obtain ⟨e91,he91,h⟩:=zab h
 refine ⟨_,⟨(by omega),map_at he91,rfl⟩,?_⟩
 conv=>whnf
 obtain ⟨c92,hc92,h⟩:=bind_some h
 refine ⟨_,(zex e89 e91 c92 (fun _ _=>hc92)),?_⟩
 conv=>whnf
 refine Both.mk ?_ ?_<;>intro b93
 obtain ⟨h,b93d⟩:=ctd b93 h
 conv=>whnf
 cases h
 have ho87:_=_:=ho87
 cases ho87
 replace h:some _=some _:=hk51
 cases h
 conv=>whnf
 exact ⟨rfl,rfl⟩
 obtain ⟨h,b93d⟩:=cfd b93 h
 conv=>whnf
 refine Arith.mk (by show inR _;unfold inR;omega) ?_
 conv=>whnf
 cases h
 exact Nxt.mk _ ho87 (eA [])
 obtain ⟨h,b88d⟩:=cfd b88 h
 conv=>whnf
 cases h
 have ho87:_=_:=ho87
 cases ho87
 exact JoinS.mk' _ rfl (eA [])
 rintro ⟨⟩ rfl hp
 replace h:=sum_inl hk51
 obtain ⟨z96,z97,_⟩:=hp
 conv=>whnf
 refine Nf.mk (List.length s1_) len_map ?_
 conv=>whnf
 refine Nf.mk (List.length s2_) len_map ?_
 conv=>whnf
 refine Both.mk ?_ ?_<;>intro b98
 obtain ⟨h,b98d⟩:=ctd b98 h
 conv=>whnf
 cases h
 conv=>whnf
 exact ⟨rfl,rfl⟩
 obtain ⟨h,b98d⟩:=cfd b98 h
 conv=>whnf
 cases h
 conv=>whnf
 exact ⟨rfl,rfl⟩
theorem sp_word_Lex (a_:List Int) (b_:List Int) (r:Int) (h:Ok (nL cI a_)→Ok (nL cI b_)→word_Lex a_ b_=some r):Sp Tryz.prog 99 [.im (nL cI a_),.im (nL cI b_)] (.im (nI r)):=by
 refine sp_of rfl [] rfl rfl rfl (Nat.le_of_ble_eq_true rfl) rfl fun hk=>?_
 replace h:=h hk.1 hk.2.1
 have z1:lZ a_:=ok_len hk.1
 have z2:lZ b_:=ok_len hk.2.1
 unfold word_Lex at h
 conv=>whnf
 obtain ⟨c51,hc51,h⟩:=bind_some h
 refine ⟨_,(zc6 a_ b_ c51 (fun _ _=>hc51)),?_⟩
 conv=>whnf
 cases h
 conv=>whnf
 exact ⟨rfl,rfl⟩
theorem zjq (l_:List zae) (r:Bool) (h:Ok (nL zaj l_)→zb1 l_=some r):Sp Tryz.prog 78 [.im (nL zaj l_)] (.im (nB r)):=by
 refine sp_of rfl [8000,2008000] rfl rfl rfl (Nat.le_of_ble_eq_true rfl) rfl fun hk=>?_
 replace h:=h hk.1
 have z1:lZ l_:=ok_len hk.1
 unfold zb1 at h
 conv=>whnf
 obtain ⟨c51,hc51,h⟩:=bind_some h
 refine ⟨_,(zhr l_ c51 (hc51)),?_⟩
 conv=>whnf
 refine Side.mk ⟨rfl,trivial⟩ ?_
 conv=>whnf
 obtain ⟨c52,hc52,h⟩:=bind_some h
 refine ⟨_,(zf4 c51 (fun u0 u1=>zbx u0 u1) 110 zhd c52 (hc52)),?_⟩
 conv=>whnf
 obtain ⟨oc,hc,hk53⟩:=bind_some h
 clear h
 have h:=hc
 clear hc
 refine Cut.mkS oc (Y:=Unit) (fun (_:Unit)=>mkSt [] [] []) (fun (_:Unit)=>True) (by rintro ⟨⟩;exact (hT)) ?_ ?_
 conv=>whnf
 refine Loops.iter (fun (s:Nat)=>zb1.s2 c52 s) (fun i137=>mkSt [(0,.osl 64 1),(3,.im (nI (↑i137:Int)))] [(64,.row 58 2 (List.map zaj c52))] []) (fun i137=>lZ c52∧True) h (eA [(64,some 5)]) (by rintro i137;exact ((Holds.kdl 64 rfl).and (hT))) ?_
 clear h
 rintro k i137 o hp h ho158
 replace h:zb1.s2 c52 i137=some o:=h
 unfold zb1.s2 at h
 obtain ⟨z179,_⟩:=hp
 conv=>whnf
 refine Side.mk rfl ?_
 conv=>whnf
 refine Nf.mk (List.length c52) len_map ?_
 conv=>whnf
 refine Both.mk ?_ ?_<;>intro b159
 obtain ⟨h,b159d⟩:=ctd b159 h
 conv=>whnf
 obtain ⟨y169,hc,hk161⟩:=bind_some h
 clear h
 have h:=hc
 clear hc
 refine Cut.mk (mkSt [(0,.osl 64 1),(3,.im (nI (↑i137:Int))),(38,.im (nB y169))] [(64,.row 58 2 (List.map zaj c52))] []) (lZ c52∧True) ((Holds.kdl 64 rfl).and (hT)) ?_ (fun hp=>?_)
 conv=>whnf
 obtain ⟨e170,he170,h⟩:=zab h
 refine Side.mk ⟨(by omega),rfl,map_lt he170⟩ ?_
 conv=>whnf
 refine Side.mk rfl ?_
 conv=>whnf
 refine ⟨_,_,⟨rfl,map_at he170,rfl,rfl⟩,?_⟩
 conv=>whnf
 refine Arith.mk (by show inR _;unfold inR;omega) ?_
 conv=>whnf
 obtain ⟨e171,he171z,he171,h⟩:=idx_some h
 refine Side.mk ⟨he171z,rfl,map_lt he171⟩ ?_
 conv=>whnf
 refine Side.mk rfl ?_
 conv=>whnf
 refine ⟨_,_,⟨rfl,map_at he171,rfl,rfl⟩,?_⟩
 conv=>whnf
 obtain ⟨c172,hc172,h⟩:=bind_some h
 refine ⟨_,(zdq e170.In e171.In c172 (fun _ _=>hc172)),?_⟩
 conv=>whnf
 refine Both.mk ?_ ?_<;>intro b173
 replace b173:=beq_ff b173
 replace h:=cond_f b173 h
 conv=>whnf
 iterate 2 (refine Both.yes (ff_beq b173) ?_;(conv=>whnf))
 refine Arith.mk (by show inR _;unfold inR;omega) ?_
 conv=>whnf
 refine Both.yes (ff_beq b173) ?_
 conv=>whnf
 obtain ⟨e174,he174z,he174,h⟩:=idx_some h
 refine Side.mk ⟨he174z,rfl,map_lt he174⟩ ?_
 conv=>whnf
 refine Both.yes (ff_beq b173) ?_
 conv=>whnf
 refine ⟨_,⟨rfl,map_at he174,of_decide_eq_true rfl,rfl⟩,?_⟩
 conv=>whnf
 iterate 3 (refine Both.yes (ff_beq b173) ?_;(conv=>whnf))
 obtain ⟨e175,he175,h⟩:=zab h
 refine Side.mk ⟨(by omega),rfl,map_lt he175⟩ ?_
 conv=>whnf
 refine Both.yes (ff_beq b173) ?_
 conv=>whnf
 refine ⟨_,⟨rfl,map_at he175,of_decide_eq_true rfl,rfl⟩,?_⟩
 conv=>whnf
 refine Both.yes (ff_beq b173) ?_
 conv=>whnf
 obtain ⟨c176,hc176,h⟩:=bind_some h
 refine ⟨_,(zfb e174 e175 c176 (fun _ _=>hc176)),?_⟩
 conv=>whnf
 refine Both.yes (ff_beq b173) ?_
 conv=>whnf
 refine Both.no b173 ?_
 conv=>whnf
 cases h
 exact Join.mk (eA [(64,some 64)])
 replace b173:=beq_ft b173
 replace h:=cond_t b173 h
 conv=>whnf
 iterate 10 (refine Both.no (tf_beq b173) ?_;(conv=>whnf))
 refine Both.yes b173 ?_
 conv=>whnf
 cases h
 exact Join.mk (eA [(64,some 64)])
 replace h:=hk161
 obtain ⟨z177,_⟩:=hp
 conv=>whnf
 refine Both.mk ?_ ?_<;>intro b178
 replace h:=cond_t b178 h
 conv=>whnf
 cases h
 have ho158:_=_:=ho158
 cases ho158
 replace h:some _=some _:=hk53
 cases h
 conv=>whnf
 exact ⟨rfl,rfl⟩
 replace h:=cond_f b178 h
 conv=>whnf
 refine Arith.mk (by show inR _;unfold inR;omega) ?_
 conv=>whnf
 cases h
 exact Nxt.mk _ ho158 (eA [(64,some 64)])
 obtain ⟨h,b159d⟩:=cfd b159 h
 conv=>whnf
 cases h
 have ho158:_=_:=ho158
 cases ho158
 exact JoinS.mk' _ rfl (eA [])
 rintro ⟨⟩ rfl hp
 replace h:=sum_inl hk53
 conv=>whnf
 cases h
 conv=>whnf
 exact ⟨rfl,rfl⟩
theorem zhj (o_:Int) (r:Bool) (h:Ok (nI o_)→zct o_=some r):Sp Tryz.prog 107 [.im (nI o_)] (.im (nB r)):=by
 refine sp_of rfl [] rfl rfl rfl (Nat.le_of_ble_eq_true rfl) rfl fun hk=>?_
 replace h:=h hk.1
 unfold zct at h
 conv=>whnf
 obtain ⟨y54,hc,hk52⟩:=bind_some h
 clear h
 have h:=hc
 clear hc
 refine Cut.mk (mkSt [(2,.im (nB y54))] [] []) (True) (hT) ?_ (fun hp=>?_)
 conv=>whnf
 refine Both.mk ?_ ?_<;>intro b55
 replace b55:=beq_ff b55
 obtain ⟨h,b55d⟩:=cfd b55 h
 conv=>whnf
 refine Both.yes (ff_beq b55) ?_
 conv=>whnf
 refine Both.no b55 ?_
 conv=>whnf
 cases h
 exact Join.mk (eA [])
 replace b55:=beq_ft b55
 obtain ⟨h,b55d⟩:=ctd b55 h
 conv=>whnf
 refine Both.no (tf_beq b55) ?_
 conv=>whnf
 refine Both.yes b55 ?_
 conv=>whnf
 cases h
 exact Join.mk (eA [])
 replace h:=hk52
 conv=>whnf
 cases h
 conv=>whnf
 exact ⟨rfl,rfl⟩
theorem zig (t_:zae) (inputs_:Int) (r:Int) (h:Ok (.agg (zaj t_))→Ok (nI inputs_)→zc8 t_ inputs_=some r):Sp Tryz.prog 76 [.im (.agg (zaj t_)),.im (nI inputs_)] (.im (nI r)):=by
 refine sp_of rfl [700002] rfl rfl rfl (Nat.le_of_ble_eq_true rfl) rfl fun hk=>?_
 replace h:=h hk.1 hk.2.1
 have z1:lZ t_.In:=ok_len (Ok.agg_at hk.1 0 rfl)
 have z2:lZ t_.Out:=ok_len (Ok.agg_at hk.1 1 rfl)
 unfold zc8 at h
 conv=>whnf
 obtain ⟨c51,hc51,h⟩:=bind_some h
 refine ⟨_,(zia t_.In inputs_ c51 (fun _ _=>hc51)),?_⟩
 conv=>whnf
 refine Both.mk ?_ ?_<;>intro b52
 obtain ⟨h,b52d⟩:=ctd b52 h
 conv=>whnf
 cases h
 conv=>whnf
 exact ⟨rfl,rfl⟩
 obtain ⟨h,b52d⟩:=cfd b52 h
 conv=>whnf
 refine Nf.mk (List.length t_.Out) len_map ?_
 conv=>whnf
 refine Nf.mk (List.length t_.In) len_map ?_
 conv=>whnf
 refine Both.mk ?_ ?_<;>intro b53
 obtain ⟨h,b53d⟩:=ctd b53 h
 conv=>whnf
 cases h
 conv=>whnf
 exact ⟨rfl,rfl⟩
 obtain ⟨h,b53d⟩:=cfd b53 h
 conv=>whnf
 obtain ⟨c54,hc54,h⟩:=bind_some h
 refine ⟨_,(zdt t_.Out (fun u0=>zct u0) 107 (fun u0 r h=>(zhj u0 r (fun _=>h))) c54 (fun _ _=>hc54)),?_⟩
 conv=>whnf
 refine Both.mk ?_ ?_<;>intro b55
 replace h:=cond_t b55 h
 conv=>whnf
 cases h
 conv=>whnf
 exact ⟨rfl,rfl⟩
 replace h:=cond_f b55 h
 conv=>whnf
 cases h
 conv=>whnf
 exact ⟨rfl,rfl⟩
theorem sp_cmp_Or_int (vals_:List Int) (r:Int) (h:Ok (nL cI vals_)→zb8 vals_=some r):Sp Tryz.prog 128 [.im (nL cI vals_)] (.im (nI r)):=by
 refine sp_of rfl [] rfl rfl rfl (Nat.le_of_ble_eq_true rfl) rfl fun hk=>?_
 replace h:=h hk.1
 have z1:lZ vals_:=ok_len hk.1
 unfold zb8 at h
 conv=>whnf
 refine Nf.mk (List.length vals_) len_map ?_
 conv=>whnf
 obtain ⟨oc,hc,hk51⟩:=bind_some h
 clear h
 have h:=hc
 clear hc
 refine Cut.mkS oc (Y:=Unit) (fun (_:Unit)=>mkSt [(3,.im (nI 0))] [] []) (fun (_:Unit)=>True) (by rintro ⟨⟩;exact (hT)) ?_ ?_
 conv=>whnf
 refine Loops.iter (fun (s:Nat)=>zb8.s2 vals_ s) (fun y67=>mkSt [(3,.im (nI 0)),(6,.im (nL cI vals_)),(7,.im (nI (↑(List.length vals_):Int))),(8,.im (nI (↑y67:Int)))] [] []) (fun y67=>lZ vals_∧True) h (eA []) (by rintro y67;exact ((Holds.avl 6 rfl).and (hT))) ?_
 clear h
 rintro k y67 o hp h ho71
 replace h:zb8.s2 vals_ y67=some o:=h
 unfold zb8.s2 at h
 obtain ⟨z75,_⟩:=hp
 conv=>whnf
 refine Both.mk ?_ ?_<;>intro b72
 obtain ⟨h,b72d⟩:=ctd b72 h
 conv=>whnf
 obtain ⟨e73,he73,h⟩:=zab h
 refine ⟨_,⟨(by omega),map_at he73,rfl⟩,?_⟩
 conv=>whnf
 refine Both.mk ?_ ?_<;>intro b74
 obtain ⟨h,b74d⟩:=ctd b74 h
 conv=>whnf
 cases h
 have ho71:_=_:=ho71
 cases ho71
 replace h:some _=some _:=hk51
 cases h
 conv=>whnf
 exact ⟨rfl,rfl⟩
 obtain ⟨h,b74d⟩:=cfd b74 h
 conv=>whnf
 refine Arith.mk (by show inR _;unfold inR;omega) ?_
 conv=>whnf
 cases h
 exact Nxt.mk _ ho71 (eA [])
 obtain ⟨h,b72d⟩:=cfd b72 h
 conv=>whnf
 cases h
 have ho71:_=_:=ho71
 cases ho71
 exact JoinS.mk' _ rfl (eA [])
 rintro ⟨⟩ rfl hp
 replace h:=sum_inl hk51
 conv=>whnf
 cases h
 conv=>whnf
 exact ⟨rfl,rfl⟩
theorem zgr (a_:List Int) (b_:List Int) (r:Int) (h:Ok (nL cI a_)→Ok (nL cI b_)→zcg a_ b_=some r):Sp Tryz.prog 96 [.im (nL cI a_),.im (nL cI b_)] (.im (nI r)):=by
 refine sp_of rfl [] rfl rfl rfl (Nat.le_of_ble_eq_true rfl) rfl fun hk=>?_
 replace h:=h hk.1 hk.2.1
 have z1:lZ a_:=ok_len hk.1
 have z2:lZ b_:=ok_len hk.2.1
 unfold zcg at h
 conv=>whnf
 refine Nf.mk (List.length a_) len_map ?_
 conv=>whnf
 refine Nf.mk (List.length b_) len_map ?_
 conv=>whnf
 obtain ⟨c51,hc51,h⟩:=bind_some h
 refine ⟨_,(zex (↑(List.length a_):Int) (↑(List.length b_):Int) c51 (fun _ _=>hc51)),?_⟩
 conv=>whnf
 obtain ⟨c52,hc52,h⟩:=bind_some h
 refine ⟨_,(zc6 a_ b_ c52 (fun _ _=>hc52)),?_⟩
 conv=>whnf
 obtain ⟨c53,hc53,h⟩:=bind_some h
 refine ⟨_,(sp_cmp_Or_int [c51,c52] c53 (fun _=>hc53)),?_⟩
 conv=>whnf
 cases h
 conv=>whnf
 exact ⟨rfl,rfl⟩
theorem zja (a_:zae) (b_:zae) (r:Int) (h:Ok (.agg (zaj a_))→Ok (.agg (zaj b_))→zd8 a_ b_=some r):Sp Tryz.prog 77 [.im (.agg (zaj a_)),.im (.agg (zaj b_))] (.im (nI r)):=by
 refine sp_of rfl [700002,700003] rfl rfl rfl (Nat.le_of_ble_eq_true rfl) rfl fun hk=>?_
 replace h:=h hk.1 hk.2.1
 have z1:lZ a_.In:=ok_len (Ok.agg_at hk.1 0 rfl)
 have z2:lZ a_.Out:=ok_len (Ok.agg_at hk.1 1 rfl)
 have z3:lZ b_.In:=ok_len (Ok.agg_at hk.2.1 0 rfl)
 have z4:lZ b_.Out:=ok_len (Ok.agg_at hk.2.1 1 rfl)
 unfold zd8 at h
 conv=>whnf
 obtain ⟨c51,hc51,h⟩:=bind_some h
 refine ⟨_,(zgr a_.In b_.In c51 (fun _ _=>hc51)),?_⟩
 conv=>whnf
 cases h
 conv=>whnf
 exact ⟨rfl,rfl⟩
theorem zh5 (u_:zae) (p1_:zae) (r:Bool) (h:Ok (.agg (zaj u_))→Ok (.ref (zaj p1_))→zc2 u_ p1_=some r):Sp Tryz.prog 80 [.im (.agg (zaj u_)),.im (.ref (zaj p1_))] (.im (nB r)):=by
 refine sp_of rfl [700002] rfl rfl rfl (Nat.le_of_ble_eq_true rfl) rfl fun hk=>?_
 replace h:=h hk.1 hk.2.1
 have z1:lZ u_.In:=ok_len (Ok.agg_at hk.1 0 rfl)
 have z2:lZ u_.Out:=ok_len (Ok.agg_at hk.1 1 rfl)
 have z3:lZ p1_.In:=ok_len (Ok.ref_at hk.2.1 0 rfl)
 have z4:lZ p1_.Out:=ok_len (Ok.ref_at hk.2.1 1 rfl)
 unfold zc2 at h
 conv=>whnf
 obtain ⟨c51,hc51,h⟩:=bind_some h
 refine ⟨_,(zdq u_.In p1_.In c51 (fun _ _=>hc51)),?_⟩
 conv=>whnf
 cases h
 conv=>whnf
 exact ⟨rfl,rfl⟩
theorem zhw (u_:zae) (p1_:zae) (r:Bool) (h:Ok (.agg (zaj u_))→Ok (.ref (zaj p1_))→zc1 u_ p1_=some r):Sp Tryz.prog 82 [.im (.agg (zaj u_)),.im (.ref (zaj p1_))] (.im (nB r)):=by
 refine sp_of rfl [700002] rfl rfl rfl (Nat.le_of_ble_eq_true rfl) rfl fun hk=>?_
 replace h:=h hk.1 hk.2.1
 have z1:lZ u_.In:=ok_len (Ok.agg_at hk.1 0 rfl)
 have z2:lZ u_.Out:=ok_len (Ok.agg_at hk.1 1 rfl)
 have z3:lZ p1_.In:=ok_len (Ok.ref_at hk.2.1 0 rfl)
 have z4:lZ p1_.Out:=ok_len (Ok.ref_at hk.2.1 1 rfl)
 unfold zc1 at h
 conv=>whnf
 obtain ⟨c51,hc51,h⟩:=bind_some h
 refine ⟨_,(zfb p1_ u_ c51 (fun _ _=>hc51)),?_⟩
 conv=>whnf
 cases h
 conv=>whnf
 exact ⟨rfl,rfl⟩
theorem zcs (s_:List zae) (f_:zae→Option Bool) (f1_:FuncId) (k1_0:IV) (hk1_0:nz k1_0=k1_0) (hf1:∀ x0 r,f_ x0=some r→Sp Tryz.prog f1_ [.im (.agg (zaj x0)),.im k1_0] (.im (nB r))) (r:Int) (h:Ok (nL zaj s_)→Ok (.fn f1_ [k1_0])→zai s_ f_=some r):Sp Tryz.prog 111 [.im (nL zaj s_),.im (.fn f1_ [k1_0])] (.im (nI r)):=by
 refine sp_of rfl [] rfl rfl rfl (Nat.le_of_ble_eq_true rfl) rfl fun hk=>?_
 replace h:=h hk.1 hk.2.1
 have z1:lZ s_:=ok_len hk.1
 unfold zai at h
 conv=>whnf
 refine Nf.mk (List.length s_) len_map ?_
 conv=>whnf
 obtain ⟨oc,hc,hk51⟩:=bind_some h
 clear h
 have h:=hc
 clear hc
 refine Cut.mkS oc (Y:=Unit) (fun (_:Unit)=>mkSt [] [] []) (fun (_:Unit)=>True) (by rintro ⟨⟩;exact (hT)) ?_ ?_
 conv=>whnf
 refine Loops.iter (fun (s:Nat)=>zai.s2 s_ f_ s) (fun y71=>mkSt [(0,.im (nL zaj s_)),(1,.im (.fn f1_ [k1_0])),(7,.im (nI (↑(List.length s_):Int))),(8,.im (nI (↑y71:Int)))] [] []) (fun y71=>lZ s_∧True) h (eA []) (by rintro y71;exact ((Holds.avl 0 rfl).and (hT))) ?_
 clear h
 rintro k y71 o hp h ho76
 replace h:zai.s2 s_ f_ y71=some o:=h
 unfold zai.s2 at h
 obtain ⟨z81,_⟩:=hp
 conv=>whnf
 refine Both.mk ?_ ?_<;>intro b77
 obtain ⟨h,b77d⟩:=ctd b77 h
 conv=>whnf
 obtain ⟨e78,he78,h⟩:=zab h
 refine ⟨_,⟨(by omega),map_at he78,rfl⟩,?_⟩
 conv=>whnf
 obtain ⟨c79,hc79,h⟩:=bind_some h
 refine ⟨_,Sp.args (hf1 e78 c79 hc79) (by rw [hk1_0];try rfl),?_⟩
 conv=>whnf
 refine Both.mk ?_ ?_<;>intro b80
 replace h:=cond_t b80 h
 conv=>whnf
 cases h
 have ho76:_=_:=ho76
 cases ho76
 replace h:some _=some _:=hk51
 cases h
 conv=>whnf
 exact ⟨rfl,rfl⟩
 replace h:=cond_f b80 h
 conv=>whnf
 refine Arith.mk (by show inR _;unfold inR;omega) ?_
 conv=>whnf
 cases h
 exact Nxt.mk _ ho76 (eA [])
 obtain ⟨h,b77d⟩:=cfd b77 h
 conv=>whnf
 cases h
 have ho76:_=_:=ho76
 cases ho76
 exact JoinS.mk' _ rfl (eA [])
 rintro ⟨⟩ rfl hp
 replace h:=sum_inl hk51
 conv=>whnf
 cases h
 conv=>whnf
 exact ⟨rfl,rfl⟩
theorem zbu (s_:List zae) (f_:zae→Option Bool) (f1_:FuncId) (k1_0:IV) (hk1_0:nz k1_0=k1_0) (hf1:∀ x0 r,f_ x0=some r→Sp Tryz.prog f1_ [.im (.agg (zaj x0)),.im k1_0] (.im (nB r))) (r:Bool) (h:Ok (nL zaj s_)→Ok (.fn f1_ [k1_0])→zat s_ f_=some r):Sp Tryz.prog 79 [.im (nL zaj s_),.im (.fn f1_ [k1_0])] (.im (nB r)):=by
 refine sp_of rfl [] rfl rfl rfl (Nat.le_of_ble_eq_true rfl) rfl fun hk=>?_
 replace h:=h hk.1 hk.2.1
 have z1:lZ s_:=ok_len hk.1
 unfold zat at h
 conv=>whnf
 obtain ⟨c51,hc51,h⟩:=bind_some h
 refine ⟨_,(zcs s_ f_ f1_ k1_0 hk1_0 hf1 c51 (fun _ _=>hc51)),?_⟩
 conv=>whnf
 cases h
 conv=>whnf
 exact ⟨rfl,rfl⟩
theorem zjf (o_:zal) (r:Int) (h:Ok (.agg (zaz o_))→za4 o_=some r):Sp Tryz.prog 43 [.im (.agg (zaz o_))] (.im (nI r)):=by
 refine sp_of rfl [700001,800008] rfl rfl rfl (Nat.le_of_ble_eq_true rfl) rfl fun hk=>?_
 replace h:=h hk.1
 have z1:lZ o_.Traces:=ok_len (Ok.agg_at hk.1 1 rfl)
 unfold za4 at h
 conv=>whnf
 obtain ⟨y54,hc,hk52⟩:=bind_some h
 clear h
 have h:=hc
 clear hc
 refine Cut.mk (mkSt [(1,.im (.ref (zaz o_))),(17,.im (nB y54))] [] []) (True) (hT) ?_ (fun hp=>?_)
 conv=>whnf
 refine Both.mk ?_ ?_<;>intro b55
 replace b55:=beq_ff b55
 obtain ⟨h,b55d⟩:=cfd b55 h
 conv=>whnf
 iterate 2 (refine Both.yes (ff_beq b55) ?_;(conv=>whnf))
 refine Both.no b55 ?_
 conv=>whnf
 cases h
 exact Join.mk (eA [])
 replace b55:=beq_ft b55
 obtain ⟨h,b55d⟩:=ctd b55 h
 conv=>whnf
 iterate 2 (refine Both.no (tf_beq b55) ?_;(conv=>whnf))
 refine Both.yes b55 ?_
 conv=>whnf
 cases h
 exact Join.mk (eA [])
 replace h:=hk52
 conv=>whnf
 refine Both.mk ?_ ?_<;>intro b56
 replace h:=cond_t b56 h
 conv=>whnf
 cases h
 conv=>whnf
 exact ⟨rfl,rfl⟩
 replace h:=cond_f b56 h
 conv=>whnf
 refine Nf.mk (List.length o_.Traces) len_map ?_
 conv=>whnf
 refine Both.mk ?_ ?_<;>intro b57
 obtain ⟨h,b57d⟩:=ctd b57 h
 conv=>whnf
 cases h
 conv=>whnf
 exact ⟨rfl,rfl⟩
 obtain ⟨h,b57d⟩:=cfd b57 h
 conv=>whnf
 refine Nf.mk (List.length o_.Traces) len_map ?_
 conv=>whnf
 obtain ⟨oc,hc,hk58⟩:=bind_some h
 clear h
 have h:=hc
 clear hc
 refine Cut.mkS oc (Y:=Unit) (fun (_:Unit)=>mkSt [(1,.im (.ref (zaz o_)))] [] []) (fun (_:Unit)=>True) (by rintro ⟨⟩;exact (hT)) ?_ ?_
 conv=>whnf
 refine Loops.iter (fun (s:Nat)=>za4.s2 o_ s) (fun y134=>mkSt [(1,.im (.ref (zaz o_))),(23,.im (nL zaj o_.Traces)),(24,.im (nI (↑(List.length o_.Traces):Int))),(25,.im (nI (↑y134:Int)))] [] []) (fun y134=>lZ o_.Traces∧True) h (eA []) (by rintro y134;exact ((Holds.avl 23 rfl).and (hT))) ?_
 clear h
 rintro k y134 o hp h ho153
 replace h:za4.s2 o_ y134=some o:=h
 unfold za4.s2 at h
 obtain ⟨z172,_⟩:=hp
 conv=>whnf
 refine Both.mk ?_ ?_<;>intro b154
 obtain ⟨h,b154d⟩:=ctd b154 h
 conv=>whnf
 obtain ⟨e155,he155,h⟩:=zab h
 refine ⟨_,⟨(by omega),map_at he155,rfl⟩,?_⟩
 conv=>whnf
 refine Side.mk rfl ?_
 conv=>whnf
 refine Side.mk rfl ?_
 conv=>whnf
 refine Side.mk rfl ?_
 conv=>whnf
 obtain ⟨c156,hc156,h⟩:=bind_some h
 refine ⟨_,(zia e155.In o_.Inputs c156 (fun _ _=>hc156)),?_⟩
 conv=>whnf
 refine Both.mk ?_ ?_<;>intro b157
 obtain ⟨h,b157d⟩:=ctd b157 h
 conv=>whnf
 cases h
 have ho153:_=_:=ho153
 cases ho153
 replace h:some _=some _:=hk58
 cases h
 conv=>whnf
 exact ⟨rfl,rfl⟩
 obtain ⟨h,b157d⟩:=cfd b157 h
 conv=>whnf
 refine Side.mk rfl ?_
 conv=>whnf
 refine Side.mk rfl ?_
 conv=>whnf
 refine Nf.mk (List.length e155.In) len_map ?_
 conv=>whnf
 refine Both.mk ?_ ?_<;>intro b158
 obtain ⟨h,b158d⟩:=ctd b158 h
 conv=>whnf
 cases h
 have ho153:_=_:=ho153
 cases ho153
 replace h:some _=some _:=hk58
 cases h
 conv=>whnf
 exact ⟨rfl,rfl⟩
 obtain ⟨h,b158d⟩:=cfd b158 h
 conv=>whnf
 refine Side.mk rfl ?_
 conv=>whnf
 obtain ⟨c159,hc159,h⟩:=bind_some h
 refine ⟨_,(zig e155 o_.Inputs c159 (fun _ _=>hc159)),?_⟩
 conv=>whnf
 refine Both.mk ?_ ?_<;>intro b160
 obtain ⟨h,b160d⟩:=ctd b160 h
 conv=>whnf
 cases h
 have ho153:_=_:=ho153
 cases ho153
 replace h:some _=some _:=hk58
 cases h
 conv=>whnf
 exact ⟨rfl,rfl⟩
 obtain ⟨h,b160d⟩:=cfd b160 h
 conv=>whnf
 obtain ⟨y166,hc,hk162⟩:=bind_some h
 clear h
 have h:=hc
 clear hc
 refine Cut.mk (mkSt [(1,.im (.ref (zaz o_))),(23,.im (nL zaj o_.Traces)),(24,.im (nI (↑(List.length o_.Traces):Int))),(25,.im (nI (↑y134:Int))),(61,.im (nB y166))] [] []) (lZ o_.Traces∧True) ((Holds.avl 23 rfl).and (hT)) ?_ (fun hp=>?_)
 conv=>whnf
 refine Both.mk ?_ ?_<;>intro b167
 replace b167:=beq_tt b167
 obtain ⟨h,b167d⟩:=ctd b167 h
 conv=>whnf
 iterate 3 (refine Both.yes (tt_beq b167) ?_;(conv=>whnf))
 refine Arith.mk (by show inR _;unfold inR;omega) ?_
 conv=>whnf
 refine Both.yes (tt_beq b167) ?_
 conv=>whnf
 obtain ⟨e168,he168z,he168,h⟩:=idx_some h
 refine ⟨_,⟨he168z,map_at he168,rfl⟩,?_⟩
 conv=>whnf
 iterate 2 (refine Both.yes (tt_beq b167) ?_;(conv=>whnf))
 refine Side.mk rfl ?_
 conv=>whnf
 refine Both.yes (tt_beq b167) ?_
 conv=>whnf
 obtain ⟨c169,hc169,h⟩:=bind_some h
 refine ⟨_,(zja e168 e155 c169 (fun _ _=>hc169)),?_⟩
 conv=>whnf
 refine Both.yes (tt_beq b167) ?_
 conv=>whnf
 refine Both.yes b167 ?_
 conv=>whnf
 cases h
 exact Join.mk (eA [])
 replace b167:=beq_tf b167
 obtain ⟨h,b167d⟩:=cfd b167 h
 conv=>whnf
 iterate 8 (refine Both.no (ft_beq b167) ?_;(conv=>whnf))
 refine Both.no b167 ?_
 conv=>whnf
 cases h
 exact Join.mk (eA [])
 replace h:=hk162
 obtain ⟨z170,_⟩:=hp
 conv=>whnf
 refine Both.mk ?_ ?_<;>intro b171
 replace h:=cond_t b171 h
 conv=>whnf
 cases h
 have ho153:_=_:=ho153
 cases ho153
 replace h:some _=some _:=hk58
 cases h
 conv=>whnf
 exact ⟨rfl,rfl⟩
 replace h:=cond_f b171 h
 conv=>whnf
 refine Arith.mk (by show inR _;unfold inR;omega) ?_
 conv=>whnf
 cases h
 exact Nxt.mk _ ho153 (eA [])
 obtain ⟨h,b154d⟩:=cfd b154 h
 conv=>whnf
 cases h
 have ho153:_=_:=ho153
 cases ho153
 exact JoinS.mk' _ rfl (eA [])
 rintro ⟨⟩ rfl hp
 replace h:=sum_inl hk58
 conv=>whnf
 obtain ⟨c173,hc173,h⟩:=bind_some h
 refine ⟨_,(zjq o_.Traces c173 (fun _=>hc173)),?_⟩
 conv=>whnf
 refine Both.mk ?_ ?_<;>intro b174
 replace h:=cond_t b174 h
 conv=>whnf
 cases h
 conv=>whnf
 exact ⟨rfl,rfl⟩
 replace h:=cond_f b174 h
 conv=>whnf
 refine Nf.mk (List.length o_.Traces) len_map ?_
 conv=>whnf
 obtain ⟨oc,hc,hk175⟩:=bind_some h
 clear h
 have h:=hc
 clear hc
 refine Cut.mkS oc (Y:=Unit) (fun (_:Unit)=>mkSt [] [] []) (fun (_:Unit)=>True) (by rintro ⟨⟩;exact (hT)) ?_ ?_
 conv=>whnf
 refine Loops.iter (fun (s:Nat)=>za4.s4 o_ s) (fun y207=>mkSt [(1,.im (.ref (zaz o_))),(67,.im (nL zaj o_.Traces)),(68,.im (nI (↑(List.length o_.Traces):Int))),(69,.im (nI (↑y207:Int)))] [] []) (fun y207=>lZ o_.Traces∧True) h (eA []) (by rintro y207;exact ((Holds.avl 67 rfl).and (hT))) ?_
 clear h
 rintro k y207 o hp h ho215
 replace h:za4.s4 o_ y207=some o:=h
 unfold za4.s4 at h
 obtain ⟨z223,_⟩:=hp
 conv=>whnf
 refine Both.mk ?_ ?_<;>intro b216
 obtain ⟨h,b216d⟩:=ctd b216 h
 conv=>whnf
 obtain ⟨e217,he217,h⟩:=zab h
 refine ⟨_,⟨(by omega),map_at he217,rfl⟩,?_⟩
 conv=>whnf
 refine Side.mk rfl ?_
 conv=>whnf
 refine Arith.mk (by show inR _;unfold inR;omega) ?_
 conv=>whnf
 obtain ⟨c218,h⟩:=chk_some h
 refine Side.mk (show (0:Int)≤((↑y207:Int)+1)∧((↑y207:Int)+1)≤(↑(List.length (List.map zaj o_.Traces)):Int)∧(↑(List.length (List.map zaj o_.Traces)):Int)≤(↑(List.length (List.map zaj o_.Traces)):Int)∧(∀ e∈List.map zaj o_.Traces,List.length e=2) from ⟨by omega,by first | omega | (simp only [List.length_map];omega),by first | omega | (simp only [List.length_map];omega),map_len fun _=>rfl⟩) ?_
 conv=>whnf
 refine Nf.mk (List.map zaj (List.drop (y207+1) o_.Traces)) drop_map ?_
 conv=>whnf
 refine Side.mk ⟨rfl,trivial⟩ ?_
 conv=>whnf
 obtain ⟨c219,hc219,h⟩:=bind_some h
 refine ⟨_,(zbu (List.drop (y207+1) o_.Traces) (fun u0=>zc2 u0 e217) 80 (.ref (zaj e217)) rfl (fun u0 r h=>(zh5 u0 e217 r (fun _ _=>h))) c219 (fun _ _=>hc219)),?_⟩
 conv=>whnf
 refine Both.mk ?_ ?_<;>intro b220
 replace h:=cond_t b220 h
 conv=>whnf
 cases h
 have ho215:_=_:=ho215
 cases ho215
 replace h:some _=some _:=hk175
 cases h
 conv=>whnf
 exact ⟨rfl,rfl⟩
 replace h:=cond_f b220 h
 conv=>whnf
 obtain ⟨c221,hc221,h⟩:=bind_some h
 refine ⟨_,(zbu (List.drop (y207+1) o_.Traces) (fun u0=>zc1 u0 e217) 82 (.ref (zaj e217)) rfl (fun u0 r h=>(zhw u0 e217 r (fun _ _=>h))) c221 (fun _ _=>hc221)),?_⟩
 conv=>whnf
 refine Both.mk ?_ ?_<;>intro b222
 replace h:=cond_t b222 h
 conv=>whnf
 cases h
 have ho215:_=_:=ho215
 cases ho215
 replace h:some _=some _:=hk175
 cases h
 conv=>whnf
 exact ⟨rfl,rfl⟩
 replace h:=cond_f b222 h
 conv=>whnf
 refine Arith.mk (by show inR _;unfold inR;omega) ?_
 conv=>whnf
 cases h
 exact Nxt.mk _ ho215 (eA [])
 obtain ⟨h,b216d⟩:=cfd b216 h
 conv=>whnf
 cases h
 have ho215:_=_:=ho215
 cases ho215
 exact JoinS.mk' _ rfl (eA [])
 rintro ⟨⟩ rfl hp
 replace h:=sum_inl hk175
 conv=>whnf
 cases h
 conv=>whnf
 exact ⟨rfl,rfl⟩
theorem zcz (inputs_:Int) (r:List Int) (h:Ok (nI inputs_)→zbr inputs_=some r):Sp Tryz.prog 44 [.im (nI inputs_)] (.row 3 1 (List.map cI r)):=by
 refine sp_of rfl [] rfl rfl rfl (Nat.le_of_ble_eq_true rfl) rfl fun hk=>?_
 replace h:=h hk.1
 unfold zbr at h
 conv=>whnf
 obtain ⟨c51,h⟩:=chk_some h
 refine Side.mk c51 ?_
 conv=>whnf
 refine Nf.mk (List.map cI (List.replicate (Int.toNat inputs_) (0:Int))) (rep_map (c:=cI) (z:=0) (n:=(Int.toNat inputs_)) rfl rfl) ?_
 conv=>whnf
 refine Side.mk rfl ?_
 conv=>whnf
 refine Nf.mk (List.length (List.replicate (Int.toNat inputs_) (0:Int))) len_map ?_
 conv=>whnf
 obtain ⟨y65,hc,hk52⟩:=bind_some h
 clear h
 have h:=hc
 clear hc
 refine Cut.mk (mkSt [(3,.osl 64 1)] [(64,.row 3 1 (List.map cI y65))] []) (lZ y65∧True) ((Holds.kdl 64 rfl).and (hT)) ?_ (fun hp=>?_)
 conv=>whnf
 refine Loops.iter (fun (s:List Int×Nat)=>zbr.s2 inputs_ s.1 s.2) (fun (y68,y69)=>mkSt [(3,.osl 64 1),(8,.im (nI (↑(List.length (List.replicate (Int.toNat inputs_) (0:Int))):Int))),(9,.im (nI (↑y69:Int)))] [(64,.row 3 1 (List.map cI y68))] []) (fun (y68,y69)=>lZ y68∧True) h (eA [(64,some 6)]) (by rintro ⟨y68,y69⟩;exact ((Holds.kdl 64 rfl).and (hT))) ?_
 clear h
 rintro k ⟨y68,y69⟩ o hp h ho73
 replace h:zbr.s2 inputs_ y68 y69=some o:=h
 unfold zbr.s2 at h
 obtain ⟨z77,_⟩:=hp
 conv=>whnf
 refine Both.mk ?_ ?_<;>intro b74
 obtain ⟨h,b74d⟩:=ctd b74 h
 conv=>whnf
 obtain ⟨e75,he75,h⟩:=zab h
 refine Side.mk ⟨(by omega),rfl,map_lt he75⟩ ?_
 conv=>whnf
 refine Side.mk ⟨rfl,trivial⟩ ?_
 conv=>whnf
 refine ⟨_,map_at he75,?_⟩
 conv=>whnf
 refine Nf.mk (List.map cI (List.set y68 y69 (-1:Int))) (set_map rfl) ?_
 conv=>whnf
 obtain ⟨c76,h⟩:=chk_some h
 refine Arith.mk c76 ?_
 conv=>whnf
 cases h
 exact Nxt.mk _ ho73 (eA [(64,some 64)])
 obtain ⟨h,b74d⟩:=cfd b74 h
 conv=>whnf
 cases h
 have ho73:_=_:=ho73
 cases ho73
 exact Join.mk (eA [(64,some 64)])
 replace h:=hk52
 obtain ⟨z78,_⟩:=hp
 conv=>whnf
 cases h
 conv=>whnf
 exact Side.mk ⟨rfl,trivial⟩ ⟨rfl,rfl⟩
theorem zem (p_:zaa) (r:zaa×List Int) (h:Ok (.agg (zak p_))→zag p_=some r):Sp Tryz.prog 45 [.im (.agg (zak p_))] (.tup [.agg (zak r.1),nL cI r.2]):=by
 refine sp_of rfl [26,700001] rfl rfl rfl (Nat.le_of_ble_eq_true rfl) rfl fun hk=>?_
 replace h:=h hk.1
 have z1:lZ p_.Next:=ok_len (Ok.agg_at hk.1 2 rfl)
 have z2:lZ p_.Out:=ok_len (Ok.agg_at hk.1 3 rfl)
 unfold zag at h
 conv=>whnf
 refine Nf.mk (List.length p_.Next) len_map ?_
 conv=>whnf
 obtain ⟨c51,hc51,h⟩:=bind_some h
 refine ⟨_,(zcz (↑(List.length p_.Next):Int) c51 (fun _=>hc51)),?_⟩
 conv=>whnf
 obtain ⟨e52,he52z,he52,h⟩:=idx_some h
 refine Side.mk ⟨he52z,rfl,map_lt he52⟩ ?_
 conv=>whnf
 refine Side.mk ⟨rfl,trivial⟩ ?_
 conv=>whnf
 refine ⟨_,map_at he52,?_⟩
 conv=>whnf
 refine Nf.mk (List.map cI (List.set c51 p_.Start.toNat 0)) (set_map rfl) ?_
 conv=>whnf
 obtain ⟨⟨y396,y397⟩,hc,hk53⟩:=bind_some h
 clear h
 have h:=hc
 clear hc
 refine Cut.mk (mkSt [(1,.im (.ref (zak p_))),(2,.own 127 1 0),(4,.osl 128 1),(5,.osl 129 1)] [(127,.box 24 4),(128,.row 3 1 (List.map cI y396)),(129,.row 3 1 (List.map cI y397))] [(127,0,.im (nI 0)),(127,1,.im (nI 0)),(127,2,.im (.val (.slice none 0 0))),(127,3,.im (.val (.slice none 0 0)))]) (lZ y396∧lZ y397∧True) ((Holds.kdl 128 rfl).and ((Holds.kdl 129 rfl).and (hT))) ?_ (fun hp=>?_)
 conv=>whnf
 refine Loops.iter (fun (s:List Int×List Int×Nat)=>zag.s20 p_ s.1 s.2.1 s.2.2) (fun (y510,y511,i512)=>mkSt [(1,.im (.ref (zak p_))),(2,.own 127 1 0),(4,.osl 128 1),(5,.osl 129 1),(6,.im (nI (↑i512:Int)))] [(127,.box 24 4),(128,.row 3 1 (List.map cI y510)),(129,.row 3 1 (List.map cI y511))] [(127,0,.im (nI 0)),(127,1,.im (nI 0)),(127,2,.im (.val (.slice none 0 0))),(127,3,.im (.val (.slice none 0 0)))]) (fun (y510,y511,i512)=>lZ y510∧lZ y511∧True) h (eA [(127,some 2),(128,some 19),(129,some 26)]) (by rintro ⟨y510,y511,i512⟩;exact ((Holds.kdl 128 rfl).and ((Holds.kdl 129 rfl).and (hT)))) ?_
 clear h
 rintro k ⟨y510,y511,i512⟩ o hp h ho625
 replace h:zag.s20 p_ y510 y511 i512=some o:=h
 unfold zag.s20 at h
 obtain ⟨z738,z739,_⟩:=hp
 conv=>whnf
 refine Side.mk rfl ?_
 conv=>whnf
 refine Nf.mk (List.length y511) len_map ?_
 conv=>whnf
 refine Both.mk ?_ ?_<;>intro b626
 obtain ⟨h,b626d⟩:=ctd b626 h
 conv=>whnf
 obtain ⟨e627,he627,h⟩:=zab h
 refine Side.mk ⟨(by omega),rfl,map_lt he627⟩ ?_
 conv=>whnf
 refine ⟨_,_,⟨rfl,map_at he627,rfl,rfl⟩,?_⟩
 conv=>whnf
 obtain ⟨e628,he628z,he628,h⟩:=idx_some h
 refine ⟨_,⟨he628z,map_at he628,rfl⟩,?_⟩
 conv=>whnf
 refine Nf.mk (List.length e628) len_map ?_
 conv=>whnf
 obtain ⟨⟨y682,y683⟩,hc,hk629⟩:=bind_some h
 clear h
 have h:=hc
 clear hc
 refine Cut.mk (mkSt [(1,.im (.ref (zak p_))),(2,.own 127 1 0),(4,.osl 128 1),(5,.osl 129 1),(6,.im (nI (↑i512:Int)))] [(127,.box 24 4),(128,.row 3 1 (List.map cI y682)),(129,.row 3 1 (List.map cI y683))] [(127,0,.im (nI 0)),(127,1,.im (nI 0)),(127,2,.im (.val (.slice none 0 0))),(127,3,.im (.val (.slice none 0 0)))]) (lZ y682∧lZ y683∧True) ((Holds.kdl 128 rfl).and ((Holds.kdl 129 rfl).and (hT))) ?_ (fun hp=>?_)
 conv=>whnf
 refine Loops.iter (fun (s:List Int×List Int×Nat)=>zag.s18 e628 s.1 s.2.1 s.2.2) (fun (y699,y700,y701)=>mkSt [(1,.im (.ref (zak p_))),(2,.own 127 1 0),(4,.osl 128 1),(5,.osl 129 1),(6,.im (nI (↑i512:Int))),(40,.im (nL cI e628)),(41,.im (nI (↑(List.length e628):Int))),(42,.im (nI (↑y701:Int)))] [(127,.box 24 4),(128,.row 3 1 (List.map cI y699)),(129,.row 3 1 (List.map cI y700))] [(127,0,.im (nI 0)),(127,1,.im (nI 0)),(127,2,.im (.val (.slice none 0 0))),(127,3,.im (.val (.slice none 0 0)))]) (fun (y699,y700,y701)=>lZ e628∧lZ y699∧lZ y700∧True) h (eA [(127,some 127),(128,some 128),(129,some 129)]) (by rintro ⟨y699,y700,y701⟩;exact ((Holds.avl 40 rfl).and ((Holds.kdl 128 rfl).and ((Holds.kdl 129 rfl).and (hT))))) ?_
 clear h
 rintro k ⟨y699,y700,y701⟩ o hp h ho717
 replace h:zag.s18 e628 y699 y700 y701=some o:=h
 unfold zag.s18 at h
 obtain ⟨z733,z734,z735,_⟩:=hp
 conv=>whnf
 refine Both.mk ?_ ?_<;>intro b718
 obtain ⟨h,b718d⟩:=ctd b718 h
 conv=>whnf
 obtain ⟨e719,he719,h⟩:=zab h
 refine ⟨_,⟨(by omega),map_at he719,rfl⟩,?_⟩
 conv=>whnf
 obtain ⟨y724,hc,hk721⟩:=bind_some h
 clear h
 have h:=hc
 clear hc
 refine Cut.mk (mkSt [(1,.im (.ref (zak p_))),(2,.own 127 1 0),(4,.osl 128 1),(5,.osl 129 1),(6,.im (nI (↑i512:Int))),(8,.im (nI e719)),(40,.im (nL cI e628)),(41,.im (nI (↑(List.length e628):Int))),(42,.im (nI (↑y701:Int))),(54,.im (nB y724))] [(127,.box 24 4),(128,.row 3 1 (List.map cI y699)),(129,.row 3 1 (List.map cI y700))] [(127,0,.im (nI 0)),(127,1,.im (nI 0)),(127,2,.im (.val (.slice none 0 0))),(127,3,.im (.val (.slice none 0 0)))]) (lZ e628∧lZ y699∧lZ y700∧True) ((Holds.avl 40 rfl).and ((Holds.kdl 128 rfl).and ((Holds.kdl 129 rfl).and (hT)))) ?_ (fun hp=>?_)
 conv=>whnf
 refine Both.mk ?_ ?_<;>intro b725
 replace b725:=beq_tt b725
 obtain ⟨h,b725d⟩:=ctd b725 h
 conv=>whnf
 iterate 2 (refine Both.yes (tt_beq b725) ?_;(conv=>whnf))
 obtain ⟨e726,he726z,he726,h⟩:=idx_some h
 refine Side.mk ⟨he726z,rfl,map_lt he726⟩ ?_
 conv=>whnf
 refine Both.yes (tt_beq b725) ?_
 conv=>whnf
 refine ⟨_,_,⟨rfl,map_at he726,rfl,rfl⟩,?_⟩
 conv=>whnf
 refine Both.yes (tt_beq b725) ?_
 conv=>whnf
 refine Both.yes b725 ?_
 conv=>whnf
 cases h
 exact Join.mk (eA [(127,some 127),(128,some 128),(129,some 129)])
 replace b725:=beq_tf b725
 obtain ⟨h,b725d⟩:=cfd b725 h
 conv=>whnf
 iterate 4 (refine Both.no (ft_beq b725) ?_;(conv=>whnf))
 refine Both.no b725 ?_
 conv=>whnf
 cases h
 exact Join.mk (eA [(127,some 127),(128,some 128),(129,some 129)])
 replace h:=hk721
 obtain ⟨z727,z728,z729,_⟩:=hp
 conv=>whnf
 refine Both.mk ?_ ?_<;>intro b730
 replace h:=cond_t b730 h
 conv=>whnf
 refine Side.mk rfl ?_
 conv=>whnf
 refine Nf.mk (List.length y700) len_map ?_
 conv=>whnf
 obtain ⟨e731,he731z,he731,h⟩:=idx_some h
 refine Side.mk ⟨he731z,rfl,map_lt he731⟩ ?_
 conv=>whnf
 refine Side.mk ⟨rfl,trivial⟩ ?_
 conv=>whnf
 refine ⟨_,map_at he731,?_⟩
 conv=>whnf
 refine Nf.mk (List.map cI (List.set y699 e719.toNat (↑(List.length y700):Int))) (set_map rfl) ?_
 conv=>whnf
 obtain ⟨c732,h⟩:=chk_some h
 refine Side.mk ⟨rfl,map_len (l:=[e719]) (c:=cI) fun _=>rfl,show capOk _ 8 by simpa only [List.length_map,List.length_cons,List.length_nil,Nat.zero_add] using c732⟩ ?_
 conv=>whnf
 refine Nf.mk (List.map cI (y700++[e719])) (app_map (l:=y700) (m:=[e719]) (c:=cI)) ?_
 conv=>whnf
 refine Arith.mk (by show inR _;unfold inR;omega) ?_
 conv=>whnf
 cases h
 exact Nxt.mk _ ho717 (eA [(127,some 127),(128,some 128),(129,some 129)])
 replace h:=cond_f b730 h
 conv=>whnf
 refine Arith.mk (by show inR _;unfold inR;omega) ?_
 conv=>whnf
 cases h
 exact Nxt.mk _ ho717 (eA [(127,some 127),(128,some 128),(129,some 129)])
 obtain ⟨h,b718d⟩:=cfd b718 h
 conv=>whnf
 cases h
 have ho717:_=_:=ho717
 cases ho717
 exact Join.mk (eA [(127,some 127),(128,some 128),(129,some 129)])
 replace h:zag.k19 i512 y682 y683=some _:=hk629
 unfold zag.k19 at h
 obtain ⟨z736,z737,_⟩:=hp
 conv=>whnf
 refine Arith.mk (by show inR _;unfold inR;omega) ?_
 conv=>whnf
 cases h
 exact Nxt.mk _ ho625 (eA [(127,some 127),(128,some 128),(129,some 129)])
 obtain ⟨h,b626d⟩:=cfd b626 h
 conv=>whnf
 cases h
 have ho625:_=_:=ho625
 cases ho625
 exact Join.mk (eA [(127,some 127),(128,some 128),(129,some 129)])
 replace h:zag.k42 p_ y396 y397=some _:=hk53
 unfold zag.k42 at h
 obtain ⟨z740,z741,_⟩:=hp
 conv=>whnf
 refine Side.mk rfl ?_
 conv=>whnf
 refine Side.mk rfl ?_
 conv=>whnf
 refine Nf.mk (List.length y397) len_map ?_
 conv=>whnf
 obtain ⟨⟨y1001,y1002⟩,hc,hk742⟩:=bind_some h
 clear h
 have h:=hc
 clear hc
 refine Cut.mk (mkSt [(2,.own 127 1 0),(4,.osl 128 1),(9,.own 129 1 0)] [(127,.box 24 4),(128,.row 3 1 (List.map cI y396)),(129,.box 24 4),(130,.row 25 1 (List.map (cL cI) y1001)),(131,.row 25 1 (List.map (cL cI) y1002))] [(127,0,.im (nI 0)),(127,1,.im (nI 0)),(127,2,.im (.val (.slice none 0 0))),(127,3,.im (.val (.slice none 0 0))),(129,0,.im (nI p_.Inputs)),(129,1,.im (nI 0)),(129,2,.osl 130 1),(129,3,.osl 131 1)]) (lZ y396∧lZ y1001∧lZ y1002∧True) ((Holds.kdl 128 rfl).and ((Holds.kdl 130 rfl).and ((Holds.kdl 131 rfl).and (hT)))) ?_ (fun hp=>?_)
 conv=>whnf
 refine Loops.iter (fun (s:List (List Int)×List (List Int)×Nat)=>zag.s40 p_ y396 y397 s.1 s.2.1 s.2.2) (fun (y1081,y1082,y1083)=>mkSt [(1,.im (.ref (zak p_))),(2,.own 127 1 0),(4,.osl 128 1),(9,.own 129 1 0),(68,.osl 132 1),(69,.im (nI (↑(List.length y397):Int))),(70,.im (nI (↑y1083:Int)))] [(127,.box 24 4),(128,.row 3 1 (List.map cI y396)),(129,.box 24 4),(130,.row 25 1 (List.map (cL cI) y1081)),(131,.row 25 1 (List.map (cL cI) y1082)),(132,.row 3 1 (List.map cI y397))] [(127,0,.im (nI 0)),(127,1,.im (nI 0)),(127,2,.im (.val (.slice none 0 0))),(127,3,.im (.val (.slice none 0 0))),(129,0,.im (nI p_.Inputs)),(129,1,.im (nI 0)),(129,2,.osl 130 1),(129,3,.osl 131 1)]) (fun (y1081,y1082,y1083)=>lZ y396∧lZ y1081∧lZ y1082∧lZ y397∧True) h (Ent.mk [(127,some 127),(128,some 128),(129,some 9),(130,none),(131,none),(132,some 129)] rfl ⟨eI rfl rfl,⟨.own 127 _ 0,rfl,.own rfl rfl rfl⟩,⟨.osl 128 _,rfl,.osl rfl rfl rfl⟩,⟨.own 9 _ 0,rfl,.own rfl rfl rfl⟩,⟨.osl 129 _,rfl,.osl rfl rfl rfl⟩,eI rfl rfl,eI rfl rfl,trivial⟩ ⟨.inl ⟨127,rfl,rfl,trivial⟩,.inl ⟨128,rfl,rfl,trivial⟩,.inl ⟨9,rfl,rfl,trivial⟩,.inr ⟨rfl,rfl,.inl ⟨_,_,rfl,by decide⟩⟩,.inr ⟨rfl,rfl,.inl ⟨_,_,rfl,by decide⟩⟩,.inl ⟨129,rfl,rfl,trivial⟩,trivial⟩ ⟨⟨127,.im _,rfl,rfl,.im (Sub.rfl' rfl)⟩,⟨127,.im _,rfl,rfl,.im (Sub.rfl' rfl)⟩,⟨127,.im (.val (.slice none 0 0)),rfl,rfl,.im (Sub.rfl' rfl)⟩,⟨127,.im (.val (.slice none 0 0)),rfl,rfl,.im (Sub.rfl' rfl)⟩,⟨9,.im _,rfl,rfl,.im (Sub.rfl' rfl)⟩,⟨9,.im _,rfl,rfl,.im (Sub.rfl' rfl)⟩,⟨9,.im (.val (.slice none 0 0)),rfl,rfl,.made rfl rfl⟩,⟨9,.im (.val (.slice none 0 0)),rfl,rfl,.made rfl rfl⟩,trivial⟩) (by rintro ⟨y1081,y1082,y1083⟩;exact ((Holds.kdl 128 rfl).and ((Holds.kdl 130 rfl).and ((Holds.kdl 131 rfl).and ((Holds.kdl 132 rfl).and (hT)))))) ?_
 clear h
 rintro k ⟨y1081,y1082,y1083⟩ o hp h ho1170
 replace h:zag.s40 p_ y396 y397 y1081 y1082 y1083=some o:=h
 unfold zag.s40 at h
 obtain ⟨z1257,z1258,z1259,z1260,_⟩:=hp
 conv=>whnf
 refine Both.mk ?_ ?_<;>intro b1171
 obtain ⟨h,b1171d⟩:=ctd b1171 h
 conv=>whnf
 obtain ⟨e1172,he1172,h⟩:=zab h
 refine Side.mk ⟨(by omega),rfl,map_lt he1172⟩ ?_
 conv=>whnf
 refine ⟨_,_,⟨rfl,map_at he1172,rfl,rfl⟩,?_⟩
 conv=>whnf
 obtain ⟨c1173,hc1173,h⟩:=bind_some h
 refine ⟨_,(zcz p_.Inputs c1173 (fun _=>hc1173)),?_⟩
 conv=>whnf
 obtain ⟨c1174,hc1174,h⟩:=bind_some h
 refine ⟨_,(zcz p_.Inputs c1174 (fun _=>hc1174)),?_⟩
 conv=>whnf
 obtain ⟨e1175,he1175z,he1175,h⟩:=idx_some h
 refine ⟨_,⟨he1175z,map_at he1175,rfl⟩,?_⟩
 conv=>whnf
 refine Nf.mk (List.length e1175) len_map ?_
 conv=>whnf
 obtain ⟨⟨y1212,y1213⟩,hc,hk1176⟩:=bind_some h
 clear h
 have h:=hc
 clear hc
 refine Cut.mk (mkSt [(1,.im (.ref (zak p_))),(2,.own 127 1 0),(4,.osl 128 1),(9,.own 129 1 0),(12,.osl 132 1),(13,.osl 133 1),(68,.osl 134 1),(69,.im (nI (↑(List.length y397):Int))),(70,.im (nI (↑y1083:Int)))] [(127,.box 24 4),(128,.row 3 1 (List.map cI y396)),(129,.box 24 4),(130,.row 25 1 (List.map (cL cI) y1081)),(131,.row 25 1 (List.map (cL cI) y1082)),(132,.row 3 1 (List.map cI y1212)),(133,.row 3 1 (List.map cI y1213)),(134,.row 3 1 (List.map cI y397))] [(127,0,.im (nI 0)),(127,1,.im (nI 0)),(127,2,.im (.val (.slice none 0 0))),(127,3,.im (.val (.slice none 0 0))),(129,0,.im (nI p_.Inputs)),(129,1,.im (nI 0)),(129,2,.osl 130 1),(129,3,.osl 131 1)]) (lZ y396∧lZ y1081∧lZ y1082∧lZ y1212∧lZ y1213∧lZ y397∧True) ((Holds.kdl 128 rfl).and ((Holds.kdl 130 rfl).and ((Holds.kdl 131 rfl).and ((Holds.kdl 132 rfl).and ((Holds.kdl 133 rfl).and ((Holds.kdl 134 rfl).and (hT))))))) ?_ (fun hp=>?_)
 conv=>whnf
 refine Loops.iter (fun (s:List Int×List Int×Nat)=>zag.s38 p_ y396 e1172 e1175 s.1 s.2.1 s.2.2) (fun (y1222,y1223,y1224)=>mkSt [(1,.im (.ref (zak p_))),(2,.own 127 1 0),(4,.osl 128 1),(9,.own 129 1 0),(11,.im (nI e1172)),(12,.osl 132 1),(13,.osl 133 1),(68,.osl 134 1),(69,.im (nI (↑(List.length y397):Int))),(70,.im (nI (↑y1083:Int))),(84,.im (nL cI e1175)),(85,.im (nI (↑(List.length e1175):Int))),(86,.im (nI (↑y1224:Int)))] [(127,.box 24 4),(128,.row 3 1 (List.map cI y396)),(129,.box 24 4),(130,.row 25 1 (List.map (cL cI) y1081)),(131,.row 25 1 (List.map (cL cI) y1082)),(132,.row 3 1 (List.map cI y1222)),(133,.row 3 1 (List.map cI y1223)),(134,.row 3 1 (List.map cI y397))] [(127,0,.im (nI 0)),(127,1,.im (nI 0)),(127,2,.im (.val (.slice none 0 0))),(127,3,.im (.val (.slice none 0 0))),(129,0,.im (nI p_.Inputs)),(129,1,.im (nI 0)),(129,2,.osl 130 1),(129,3,.osl 131 1)]) (fun (y1222,y1223,y1224)=>lZ e1175∧lZ y396∧lZ y1081∧lZ y1082∧lZ y1222∧lZ y1223∧lZ y397∧True) h (eA [(127,some 127),(128,some 128),(129,some 129),(130,some 130),(131,some 131),(132,some 76),(133,some 79),(134,some 132)]) (by rintro ⟨y1222,y1223,y1224⟩;exact ((Holds.avl 84 rfl).and ((Holds.kdl 128 rfl).and ((Holds.kdl 130 rfl).and ((Holds.kdl 131 rfl).and ((Holds.kdl 132 rfl).and ((Holds.kdl 133 rfl).and ((Holds.kdl 134 rfl).and (hT))))))))) ?_
 clear h
 rintro k ⟨y1222,y1223,y1224⟩ o hp h ho1233
 replace h:zag.s38 p_ y396 e1172 e1175 y1222 y1223 y1224=some o:=h
 unfold zag.s38 at h
 obtain ⟨z1242,z1243,z1244,z1245,z1246,z1247,z1248,_⟩:=hp
 conv=>whnf
 refine Both.mk ?_ ?_<;>intro b1234
 obtain ⟨h,b1234d⟩:=ctd b1234 h
 conv=>whnf
 obtain ⟨e1235,he1235,h⟩:=zab h
 refine ⟨_,⟨(by omega),map_at he1235,rfl⟩,?_⟩
 conv=>whnf
 refine Both.mk ?_ ?_<;>intro b1236
 obtain ⟨h,b1236d⟩:=ctd b1236 h
 conv=>whnf
 obtain ⟨e1237,he1237z,he1237,h⟩:=idx_some h
 refine Side.mk ⟨he1237z,rfl,map_lt he1237⟩ ?_
 conv=>whnf
 refine ⟨_,_,⟨rfl,map_at he1237,rfl,rfl⟩,?_⟩
 conv=>whnf
 obtain ⟨e1238,he1238z,he1238,h⟩:=idx_some h
 refine ⟨_,⟨he1238z,map_at he1238,rfl⟩,?_⟩
 conv=>whnf
 obtain ⟨e1239,he1239,h⟩:=zab h
 refine ⟨_,⟨(by omega),map_at he1239,rfl⟩,?_⟩
 conv=>whnf
 obtain ⟨e1240,he1240,h⟩:=zab h
 refine Side.mk ⟨(by omega),rfl,map_lt he1240⟩ ?_
 conv=>whnf
 refine Side.mk ⟨rfl,trivial⟩ ?_
 conv=>whnf
 refine ⟨_,map_at he1240,?_⟩
 conv=>whnf
 refine Nf.mk (List.map cI (List.set y1222 y1224 e1237)) (set_map rfl) ?_
 conv=>whnf
 obtain ⟨e1241,he1241,h⟩:=zab h
 refine Side.mk ⟨(by omega),rfl,map_lt he1241⟩ ?_
 conv=>whnf
 refine Side.mk ⟨rfl,trivial⟩ ?_
 conv=>whnf
 refine ⟨_,map_at he1241,?_⟩
 conv=>whnf
 refine Nf.mk (List.map cI (List.set y1223 y1224 e1239)) (set_map rfl) ?_
 conv=>whnf
 refine Arith.mk (by show inR _;unfold inR;omega) ?_
 conv=>whnf
 cases h
 exact Nxt.mk _ ho1233 (eA [(127,some 127),(128,some 128),(129,some 129),(130,some 130),(131,some 131),(132,some 132),(133,some 133),(134,some 134)])
 obtain ⟨h,b1236d⟩:=cfd b1236 h
 conv=>whnf
 refine Arith.mk (by show inR _;unfold inR;omega) ?_
 conv=>whnf
 cases h
 exact Nxt.mk _ ho1233 (eA [(127,some 127),(128,some 128),(129,some 129),(130,some 130),(131,some 131),(132,some 132),(133,some 133),(134,some 134)])
 obtain ⟨h,b1234d⟩:=cfd b1234 h
 conv=>whnf
 cases h
 have ho1233:_=_:=ho1233
 cases ho1233
 exact Join.mk (eA [(127,some 127),(128,some 128),(129,some 129),(130,some 130),(131,some 131),(132,some 132),(133,some 133),(134,some 134)])
 replace h:zag.k39 y1081 y1082 y1083 y1212 y1213=some _:=hk1176
 unfold zag.k39 at h
 obtain ⟨z1249,z1250,z1251,z1252,z1253,z1254,_⟩:=hp
 conv=>whnf
 refine Side.mk rfl ?_
 conv=>whnf
 refine Side.mk rfl ?_
 conv=>whnf
 refine Side.mk ⟨rfl,trivial⟩ ?_
 conv=>whnf
 obtain ⟨c1255,h⟩:=chk_some h
 refine Side.mk ⟨rfl,map_len (l:=[y1212]) (c:=cL cI) fun _=>rfl,show capOk _ 24 by simpa only [List.length_map,List.length_cons,List.length_nil,Nat.zero_add] using c1255⟩ ?_
 conv=>whnf
 refine Nf.mk (List.map (cL cI) (y1081++[y1212])) (app_map (l:=y1081) (m:=[y1212]) (c:=cL cI)) ?_
 conv=>whnf
 refine Side.mk rfl ?_
 conv=>whnf
 refine Side.mk rfl ?_
 conv=>whnf
 refine Side.mk ⟨rfl,trivial⟩ ?_
 conv=>whnf
 obtain ⟨c1256,h⟩:=chk_some h
 refine Side.mk ⟨rfl,map_len (l:=[y1213]) (c:=cL cI) fun _=>rfl,show capOk _ 24 by simpa only [List.length_map,List.length_cons,List.length_nil,Nat.zero_add] using c1256⟩ ?_
 conv=>whnf
 refine Nf.mk (List.map (cL cI) (y1082++[y1213])) (app_map (l:=y1082) (m:=[y1213]) (c:=cL cI)) ?_
 conv=>whnf
 refine Side.mk rfl ?_
 conv=>whnf
 refine Side.mk rfl ?_
 conv=>whnf
 refine Side.mk rfl ?_
 conv=>whnf
 refine Side.mk rfl ?_
 conv=>whnf
 refine Arith.mk (by show inR _;unfold inR;omega) ?_
 conv=>whnf
 cases h
 exact Nxt.mk _ ho1170 (eA [(127,some 127),(128,some 128),(129,some 129),(130,some 130),(131,some 131),(132,some 134)])
 obtain ⟨h,b1171d⟩:=cfd b1171 h
 conv=>whnf
 cases h
 have ho1170:_=_:=ho1170
 cases ho1170
 exact Join.mk (eA [(127,some 127),(128,some 128),(129,some 129),(130,some 130),(131,some 131)])
 replace h:zag.k41 p_ y396 y1001 y1002=some _:=hk742
 unfold zag.k41 at h
 obtain ⟨z1261,z1262,z1263,_⟩:=hp
 conv=>whnf
 refine Side.mk rfl ?_
 conv=>whnf
 refine Side.mk rfl ?_
 conv=>whnf
 cases h
 conv=>whnf
 refine Side.mk ⟨rfl,trivial⟩ ?_
 conv=>whnf
 exact Side.mk ⟨rfl,rfl,rfl,trivial⟩ ⟨rfl,rfl⟩
theorem zfy (o_:zal) (r:zaa×Int) (h:Ok (.agg (zaz o_))→zao o_=some r):Sp Tryz.prog 22 [.im (.agg (zaz o_))] (.tup [.agg (zak r.1),nI r.2]):=by
 refine sp_of rfl [700001,9000023,9000027,9000078,9000084] rfl rfl rfl (Nat.le_of_ble_eq_true rfl) rfl fun hk=>?_
 replace h:=h hk.1
 have z1:lZ o_.Traces:=ok_len (Ok.agg_at hk.1 1 rfl)
 unfold zao at h
 conv=>whnf
 obtain ⟨c51,hc51,h⟩:=bind_some h
 refine ⟨_,(zjf o_ c51 (fun _=>hc51)),?_⟩
 conv=>whnf
 refine Both.mk ?_ ?_<;>intro b52
 obtain ⟨h,b52d⟩:=ctd b52 h
 conv=>whnf
 refine Side.mk rfl ?_
 conv=>whnf
 cases h
 conv=>whnf
 refine Side.mk ⟨rfl,trivial⟩ ?_
 conv=>whnf
 exact ⟨rfl,rfl⟩
 obtain ⟨h,b52d⟩:=cfd b52 h
 conv=>whnf
 obtain ⟨c53,hc53,h⟩:=bind_some h
 refine ⟨_,(zcz o_.Inputs c53 (fun _=>hc53)),?_⟩
 conv=>whnf
 refine Side.mk ⟨rfl,trivial⟩ ?_
 conv=>whnf
 refine Nf.mk (List.map (cL cI) [c53]) rfl ?_
 conv=>whnf
 obtain ⟨c54,hc54,h⟩:=bind_some h
 refine ⟨_,(zcz o_.Inputs c54 (fun _=>hc54)),?_⟩
 conv=>whnf
 refine Side.mk ⟨rfl,trivial⟩ ?_
 conv=>whnf
 refine Nf.mk (List.map (cL cI) [c54]) rfl ?_
 conv=>whnf
 refine Nf.mk (List.length o_.Traces) len_map ?_
 conv=>whnf
 obtain ⟨oc,hc,hk55⟩:=bind_some h
 clear h
 have h:=hc
 clear hc
 refine Cut.mkS oc (Y:=List (List Int)×List (List Int)) (fun (y849,y850)=>mkSt [(1,.im (.ref (zaz o_))),(2,.own 105 1 0),(5,.osl 106 1),(6,.osl 107 1)] [(105,.box 24 4),(106,.grid 25 3 1 (List.map (cL cI) y849) none),(107,.grid 25 3 1 (List.map (cL cI) y850) none)] [(105,0,.im (nI 0)),(105,1,.im (nI 0)),(105,2,.im (.val (.slice none 0 0))),(105,3,.im (.val (.slice none 0 0)))]) (fun (y849,y850)=>lZ y849∧lZ y850∧True) (by rintro ⟨y849,y850⟩;exact ((Holds.kdg 106 rfl).and ((Holds.kdg 107 rfl).and (hT)))) ?_ ?_
 conv=>whnf
 refine Loops.iter (fun (s:List (List Int)×List (List Int)×Nat)=>zao.s56 o_ s.1 s.2.1 s.2.2) (fun (y1113,y1114,y1115)=>mkSt [(1,.im (.ref (zaz o_))),(2,.own 105 1 0),(5,.osl 106 1),(6,.osl 107 1),(29,.im (nL zaj o_.Traces)),(30,.im (nI (↑(List.length o_.Traces):Int))),(31,.im (nI (↑y1115:Int)))] [(105,.box 24 4),(106,.grid 25 3 1 (List.map (cL cI) y1113) none),(107,.grid 25 3 1 (List.map (cL cI) y1114) none)] [(105,0,.im (nI 0)),(105,1,.im (nI 0)),(105,2,.im (.val (.slice none 0 0))),(105,3,.im (.val (.slice none 0 0)))]) (fun (y1113,y1114,y1115)=>lZ o_.Traces∧lZ y1113∧lZ y1114∧True) h (eA [(105,some 2),(106,some 23),(107,some 27)]) (by rintro ⟨y1113,y1114,y1115⟩;exact ((Holds.avl 29 rfl).and ((Holds.kdg 106 rfl).and ((Holds.kdg 107 rfl).and (hT))))) ?_
 clear h
 rintro k ⟨y1113,y1114,y1115⟩ o hp h ho1378
 replace h:zao.s56 o_ y1113 y1114 y1115=some o:=h
 unfold zao.s56 at h
 obtain ⟨z1641,z1642,z1643,_⟩:=hp
 conv=>whnf
 refine Both.mk ?_ ?_<;>intro b1379
 obtain ⟨h,b1379d⟩:=ctd b1379 h
 conv=>whnf
 obtain ⟨e1380,he1380,h⟩:=zab h
 refine ⟨_,⟨(by omega),map_at he1380,rfl⟩,?_⟩
 conv=>whnf
 refine Side.mk rfl ?_
 conv=>whnf
 refine Side.mk rfl ?_
 conv=>whnf
 refine Side.mk rfl ?_
 conv=>whnf
 refine Nf.mk (List.length e1380.In) len_map ?_
 conv=>whnf
 obtain ⟨oc,hc,hk1381⟩:=bind_some h
 clear h
 have h:=hc
 clear hc
 refine Cut.mkS oc (Y:=List (List Int)×List (List Int)) (fun (y1509,y1510)=>mkSt [(1,.im (.ref (zaz o_))),(2,.own 105 1 0),(5,.osl 106 1),(6,.osl 107 1),(29,.im (nL zaj o_.Traces)),(30,.im (nI (↑(List.length o_.Traces):Int))),(31,.im (nI (↑y1115:Int)))] [(105,.box 24 4),(106,.grid 25 3 1 (List.map (cL cI) y1509) none),(107,.grid 25 3 1 (List.map (cL cI) y1510) none)] [(105,0,.im (nI 0)),(105,1,.im (nI 0)),(105,2,.im (.val (.slice none 0 0))),(105,3,.im (.val (.slice none 0 0)))]) (fun (y1509,y1510)=>lZ o_.Traces∧lZ y1509∧lZ y1510∧True) (by rintro ⟨y1509,y1510⟩;exact ((Holds.avl 29 rfl).and ((Holds.kdg 106 rfl).and ((Holds.kdg 107 rfl).and (hT))))) ?_ ?_
 conv=>whnf
 refine Loops.iter (fun (s:List (List Int)×List (List Int)×Int×Nat)=>zao.s54 o_ e1380 s.1 s.2.1 s.2.2.1 s.2.2.2) (fun (y1550,y1551,s1552,y1553)=>mkSt [(1,.im (.ref (zaz o_))),(2,.own 105 1 0),(5,.osl 106 1),(6,.osl 107 1),(8,.own 108 1 0),(9,.im (nI s1552)),(29,.im (nL zaj o_.Traces)),(30,.im (nI (↑(List.length o_.Traces):Int))),(31,.im (nI (↑y1115:Int))),(36,.im (nL cI e1380.In)),(37,.im (nI (↑(List.length e1380.In):Int))),(38,.im (nI (↑y1553:Int)))] [(105,.box 24 4),(106,.grid 25 3 1 (List.map (cL cI) y1550) none),(107,.grid 25 3 1 (List.map (cL cI) y1551) none),(108,.box 58 2)] [(105,0,.im (nI 0)),(105,1,.im (nI 0)),(105,2,.im (.val (.slice none 0 0))),(105,3,.im (.val (.slice none 0 0))),(108,0,.im (nL cI e1380.In)),(108,1,.im (nL cI e1380.Out))]) (fun (y1550,y1551,s1552,y1553)=>lZ o_.Traces∧lZ e1380.In∧lZ y1550∧lZ y1551∧lZ e1380.Out∧True) h (eA [(105,some 105),(106,some 106),(107,some 107),(108,some 8)]) (by rintro ⟨y1550,y1551,s1552,y1553⟩;exact ((Holds.avl 29 rfl).and ((Holds.avl 36 rfl).and ((Holds.kdg 106 rfl).and ((Holds.kdg 107 rfl).and ((Holds.cel 108 1 rfl (by decide) rfl).and (hT))))))) ?_
 clear h
 rintro k ⟨y1550,y1551,s1552,y1553⟩ o hp h ho1593
 replace h:zao.s54 o_ e1380 y1550 y1551 s1552 y1553=some o:=h
 unfold zao.s54 at h
 obtain ⟨z1633,z1634,z1635,z1636,z1637,_⟩:=hp
 conv=>whnf
 refine Both.mk ?_ ?_<;>intro b1594
 obtain ⟨h,b1594d⟩:=ctd b1594 h
 conv=>whnf
 obtain ⟨e1595,he1595,h⟩:=zab h
 refine ⟨_,⟨(by omega),map_at he1595,rfl⟩,?_⟩
 conv=>whnf
 obtain ⟨oc,hc,hk1597⟩:=bind_some h
 clear h
 have h:=hc
 clear hc
 refine Cut.mkS oc (Y:=List (List Int)×List (List Int)) (fun (y1611,y1612)=>mkSt [(1,.im (.ref (zaz o_))),(2,.own 105 1 0),(5,.osl 106 1),(6,.osl 107 1),(8,.own 108 1 0),(9,.im (nI s1552)),(11,.im (nI e1595)),(29,.im (nL zaj o_.Traces)),(30,.im (nI (↑(List.length o_.Traces):Int))),(31,.im (nI (↑y1115:Int))),(36,.im (nL cI e1380.In)),(37,.im (nI (↑(List.length e1380.In):Int))),(38,.im (nI (↑y1553:Int)))] [(105,.box 24 4),(106,.grid 25 3 1 (List.map (cL cI) y1611) none),(107,.grid 25 3 1 (List.map (cL cI) y1612) none),(108,.box 58 2)] [(105,0,.im (nI 0)),(105,1,.im (nI 0)),(105,2,.im (.val (.slice none 0 0))),(105,3,.im (.val (.slice none 0 0))),(108,0,.im (nL cI e1380.In)),(108,1,.im (nL cI e1380.Out))]) (fun (y1611,y1612)=>lZ o_.Traces∧lZ e1380.In∧lZ y1611∧lZ y1612∧lZ e1380.Out∧True) (by rintro ⟨y1611,y1612⟩;exact ((Holds.avl 29 rfl).and ((Holds.avl 36 rfl).and ((Holds.kdg 106 rfl).and ((Holds.kdg 107 rfl).and ((Holds.cel 108 1 rfl (by decide) rfl).and (hT))))))) ?_ ?_
 conv=>whnf
 obtain ⟨e1613,he1613z,he1613,h⟩:=idx_some h
 refine Side.mk ⟨he1613z,rfl,map_lt he1613⟩ ?_
 conv=>whnf
 refine Side.mk ⟨rfl,map_lt he1613⟩ ?_
 conv=>whnf
 obtain ⟨e1614,he1614z,he1614,h⟩:=idx_some h
 refine ⟨_,⟨he1614z,rfl,map_at he1613,map_lt he1614⟩,?_⟩
 conv=>whnf
 refine ⟨_,_,_,⟨rfl,map_at he1613,map_at he1614,rfl⟩,?_⟩
 conv=>whnf
 refine Both.mk ?_ ?_<;>intro b1615
 obtain ⟨h,b1615d⟩:=ctd b1615 h
 conv=>whnf
 refine Side.mk rfl ?_
 conv=>whnf
 refine Nf.mk (List.length y1550) len_map ?_
 conv=>whnf
 refine Both.mk ?_ ?_<;>intro b1616
 obtain ⟨h,b1616d⟩:=ctd b1616 h
 conv=>whnf
 refine Side.mk rfl ?_
 conv=>whnf
 cases h
 replace h:some _=some _:=hk1597
 cases h
 have ho1593:_=_:=ho1593
 cases ho1593
 replace h:some _=some _:=hk1381
 cases h
 have ho1378:_=_:=ho1378
 cases ho1378
 replace h:some _=some _:=hk55
 cases h
 conv=>whnf
 refine Side.mk ⟨rfl,trivial⟩ ?_
 conv=>whnf
 exact ⟨rfl,rfl⟩
 obtain ⟨h,b1616d⟩:=cfd b1616 h
 conv=>whnf
 obtain ⟨e1617,he1617z,he1617,h⟩:=idx_some h
 refine Side.mk ⟨he1617z,rfl,map_lt he1617⟩ ?_
 conv=>whnf
 refine Side.mk ⟨rfl,map_lt he1617⟩ ?_
 conv=>whnf
 obtain ⟨e1618,he1618z,he1618,h⟩:=idx_some h
 refine Side.mk ⟨he1618z,rfl,map_lt he1618⟩ ?_
 conv=>whnf
 refine Side.mk ⟨rfl,map_lt he1618⟩ ?_
 conv=>whnf
 refine Side.mk rfl ?_
 conv=>whnf
 refine Nf.mk (List.length y1550) len_map ?_
 conv=>whnf
 refine Side.mk rfl ?_
 conv=>whnf
 refine Side.mk rfl ?_
 conv=>whnf
 obtain ⟨e1619,he1619,h⟩:=zab h
 refine ⟨_,⟨(by omega),map_at he1619,rfl⟩,?_⟩
 conv=>whnf
 obtain ⟨e1620,he1620z,he1620,h⟩:=idx_some h
 refine ⟨_,⟨he1620z,rfl,map_at he1617,map_lt he1620⟩,?_⟩
 conv=>whnf
 refine ⟨_,_,⟨rfl,map_at he1617,map_at he1620⟩,?_⟩
 conv=>whnf
 refine Nf.mk (List.map (cL cI) (List.set y1550 (Int.toNat s1552) (List.set e1617 (Int.toNat e1595) (↑(List.length y1550):Int)))) (zel rfl) ?_
 conv=>whnf
 obtain ⟨e1621,he1621z,he1621,h⟩:=idx_some h
 refine ⟨_,⟨he1621z,rfl,map_at he1618,map_lt he1621⟩,?_⟩
 conv=>whnf
 refine ⟨_,_,⟨rfl,map_at he1618,map_at he1621⟩,?_⟩
 conv=>whnf
 refine Nf.mk (List.map (cL cI) (List.set y1551 (Int.toNat s1552) (List.set e1618 (Int.toNat e1595) e1619))) (zel rfl) ?_
 conv=>whnf
 obtain ⟨c1622,hc1622,h⟩:=bind_some h
 refine ⟨_,(zcz o_.Inputs c1622 (fun _=>hc1622)),?_⟩
 conv=>whnf
 refine Side.mk ⟨rfl,trivial⟩ ?_
 conv=>whnf
 refine Nf.mk (List.map (cL cI) [c1622]) rfl ?_
 conv=>whnf
 obtain ⟨c1623,h⟩:=chk_some h
 refine Side.mk ⟨rfl,rfl,trivial⟩ ?_
 conv=>whnf
 refine Side.mk (show capOk _ 24 by have hh_:=c1623;simpa only [List.length_map] using hh_) ?_
 conv=>whnf
 refine Nf.mk (List.map (cL cI) ((List.set y1550 (Int.toNat s1552) (List.set e1617 (Int.toNat e1595) (↑(List.length y1550):Int)))++[c1622])) (app_map (l:=(List.set y1550 (Int.toNat s1552) (List.set e1617 (Int.toNat e1595) (↑(List.length y1550):Int)))) (m:=[c1622]) (c:=cL cI)) ?_
 conv=>whnf
 obtain ⟨c1624,hc1624,h⟩:=bind_some h
 refine ⟨_,(zcz o_.Inputs c1624 (fun _=>hc1624)),?_⟩
 conv=>whnf
 refine Side.mk ⟨rfl,trivial⟩ ?_
 conv=>whnf
 refine Nf.mk (List.map (cL cI) [c1624]) rfl ?_
 conv=>whnf
 obtain ⟨c1625,h⟩:=chk_some h
 refine Side.mk ⟨rfl,rfl,trivial⟩ ?_
 conv=>whnf
 refine Side.mk (show capOk _ 24 by have hh_:=c1625;simpa only [List.length_map] using hh_) ?_
 conv=>whnf
 refine Nf.mk (List.map (cL cI) ((List.set y1551 (Int.toNat s1552) (List.set e1618 (Int.toNat e1595) e1619))++[c1624])) (app_map (l:=(List.set y1551 (Int.toNat s1552) (List.set e1618 (Int.toNat e1595) e1619))) (m:=[c1624]) (c:=cL cI)) ?_
 conv=>whnf
 cases h
 exact JoinS.mk' _ rfl (eA [(105,some 105),(106,some 79),(107,some 85),(108,some 108)])
 obtain ⟨h,b1615d⟩:=cfd b1615 h
 conv=>whnf
 cases h
 exact JoinS.mk' _ rfl (eA [(105,some 105),(106,some 106),(107,some 107),(108,some 108)])
 rintro ⟨y1611,y1612⟩ rfl hp
 have hx_:=sum_inl hk1597
 replace h:zao.k53 s1552 y1553 e1595 y1611 y1612=some _:=hx_
 clear hx_
 unfold zao.k53 at h
 obtain ⟨z1626,z1627,z1628,z1629,z1630,_⟩:=hp
 conv=>whnf
 obtain ⟨e1631,he1631z,he1631,h⟩:=idx_some h
 refine Side.mk ⟨he1631z,rfl,map_lt he1631⟩ ?_
 conv=>whnf
 refine Side.mk ⟨rfl,map_lt he1631⟩ ?_
 conv=>whnf
 obtain ⟨e1632,he1632z,he1632,h⟩:=idx_some h
 refine ⟨_,⟨he1632z,rfl,map_at he1631,map_lt he1632⟩,?_⟩
 conv=>whnf
 refine ⟨_,_,_,⟨rfl,map_at he1631,map_at he1632,rfl⟩,?_⟩
 conv=>whnf
 refine Arith.mk (by show inR _;unfold inR;omega) ?_
 conv=>whnf
 cases h
 exact Nxt.mk _ ho1593 (eA [(105,some 105),(106,some 106),(107,some 107),(108,some 108)])
 obtain ⟨h,b1594d⟩:=cfd b1594 h
 conv=>whnf
 cases h
 have ho1593:_=_:=ho1593
 cases ho1593
 exact JoinS.mk' _ rfl (eA [(105,some 105),(106,some 106),(107,some 107)])
 rintro ⟨y1509,y1510⟩ rfl hp
 have hx_:=sum_inl hk1381
 replace h:zao.k55 y1115 y1509 y1510=some _:=hx_
 clear hx_
 unfold zao.k55 at h
 obtain ⟨z1638,z1639,z1640,_⟩:=hp
 conv=>whnf
 refine Arith.mk (by show inR _;unfold inR;omega) ?_
 conv=>whnf
 cases h
 exact Nxt.mk _ ho1378 (eA [(105,some 105),(106,some 106),(107,some 107)])
 obtain ⟨h,b1379d⟩:=cfd b1379 h
 conv=>whnf
 cases h
 have ho1378:_=_:=ho1378
 cases ho1378
 exact JoinS.mk' _ rfl (eA [(105,some 105),(106,some 106),(107,some 107)])
 rintro ⟨y849,y850⟩ rfl hp
 have hx_:=sum_inl hk55
 replace h:zao.k57 o_ y849 y850=some _:=hx_
 clear hx_
 unfold zao.k57 at h
 obtain ⟨z1644,z1645,_⟩:=hp
 conv=>whnf
 refine Side.mk ⟨rfl,rfl,trivial⟩ ?_
 conv=>whnf
 obtain ⟨c1646,hc1646,h⟩:=bind_some h
 refine ⟨_,(zem (⟨o_.Inputs,0,y849,y850⟩:zaa) c1646 (fun _=>hc1646)),?_⟩
 conv=>whnf
 refine Side.mk rfl ?_
 conv=>whnf
 refine Side.mk rfl ?_
 conv=>whnf
 refine Side.mk rfl ?_
 conv=>whnf
 cases h
 conv=>whnf
 refine Side.mk ⟨rfl,trivial⟩ ?_
 conv=>whnf
 exact ⟨rfl,rfl⟩
theorem zb2 (b_:zaq) (x_:Int) (r:Int×(List (Int×Int))) (h:OkA (.lent (.map (mapV wI wI b_.up)))→Ok (nI x_)→zau b_ x_=some r):SpX Tryz.prog 65 (.lent .dead::.box 0 [.im .any]::[.lent (.map (mapV wI wI b_.up)),.im (nI x_)]) (.mk false [.im (nI r.1)] [.lent (.map (mapV wI wI r.2))]):=by
 refine sp_ofA rfl [] 0 [.im .any] 1 rfl rfl rfl rfl (Nat.le_of_ble_eq_true rfl) (Nat.le_of_ble_eq_true rfl) rfl fun hk=>?_
 replace h:=h hk.1 hk.2.1
 unfold zau at h
 conv=>whnf
 refine Loops.iter (fun (s:Int)=>zau.s1 b_ s) (fun x52=>mkSt [(0,.agg [.osl 0 0]),(1,.im (nI x52)),(2,.own 65 1 0)] [(0,.map (mapV wI wI b_.up)),(65,.box 104 1)] [(65,0,.osl 0 0)]) (fun x52=>True) h (Ent.mk [(0,some 0),(65,some 2)] rfl ⟨⟨.agg [.osl 0 _],rfl,.agg (.cons (.osl rfl rfl rfl) (.nil))⟩,eI rfl rfl,⟨.own 2 _ 0,rfl,.own rfl rfl rfl⟩,trivial⟩ ⟨.inl ⟨0,rfl,rfl,⟨rfl,rfl⟩⟩,.inl ⟨2,rfl,rfl,trivial⟩,trivial⟩ ⟨⟨2,.osl 0 _,rfl,rfl,.osl rfl rfl rfl⟩,trivial⟩) (by rintro x52;exact (hT)) ?_
 clear h
 rintro k x52 o hp h ho54
 replace h:zau.s1 b_ x52=some o:=h
 unfold zau.s1 at h
 conv=>whnf
 refine Side.mk rfl ?_
 conv=>whnf
 refine Side.mk rfl ?_
 conv=>whnf
 refine Side.mk rfl ?_
 conv=>whnf
 refine ⟨_,find_int _ wI _,?_⟩
 conv=>whnf
 refine Nf.mk (wI ((mget x52 b_.up).getD 0)) (getD_map rfl _) ?_
 conv=>whnf
 refine Nf.mk (mget x52 b_.up).isSome (zlk _) ?_
 conv=>whnf
 refine Both.mk ?_ ?_<;>intro b55
 replace h:=cond_t b55 h
 conv=>whnf
 cases h
 have ho54:_=_:=ho54
 cases ho54
 conv=>whnf
 exact Side.mk ⟨rfl,trivial⟩ ⟨rfl,rfl⟩
 replace h:=cond_f b55 h
 conv=>whnf
 cases h
 exact Nxt.mk _ ho54 (Ent.mk [(0,some 0),(65,some 65)] rfl ⟨⟨.agg [.osl 0 _],rfl,.agg (.cons (.osl rfl rfl rfl) (.nil))⟩,eI rfl rfl,⟨.own 65 _ 0,rfl,.own rfl rfl rfl⟩,trivial⟩ ⟨.inl ⟨0,rfl,rfl,⟨rfl,rfl⟩⟩,.inl ⟨65,rfl,rfl,trivial⟩,trivial⟩ ⟨⟨65,.osl 0 _,rfl,rfl,.osl rfl rfl rfl⟩,trivial⟩)
theorem zfi (b_:zaq) (x_:Int) (y_:Int) (r:List (Int×Int)) (h:OkA (.lent (.map (mapV wI wI b_.up)))→Ok (nI x_)→Ok (nI y_)→zb7 b_ x_ y_=some r):SpX Tryz.prog 66 (.lent .dead::.box 0 [.im .any]::[.lent (.map (mapV wI wI b_.up)),.im (nI x_),.im (nI y_)]) (.mk true [] [.lent (.map (mapV wI wI r))]):=by
 refine sp_ofA rfl [] 0 [.im .any] 2 rfl rfl rfl rfl (Nat.le_of_ble_eq_true rfl) (Nat.le_of_ble_eq_true rfl) rfl fun hk=>?_
 replace h:=h hk.1 hk.2.1 hk.2.2.1
 unfold zb7 at h
 conv=>whnf
 refine Side.mk rfl ?_
 conv=>whnf
 refine Side.mk rfl ?_
 conv=>whnf
 refine Side.mk rfl ?_
 conv=>whnf
 refine ⟨_,set_int _ x_ wI _,?_⟩
 conv=>whnf
 cases h
 conv=>whnf
 exact Side.mk ⟨rfl,trivial⟩ ⟨rfl,rfl⟩
end Go.Proofs.YteigfkncoiiaiaaGreatDoor.Sym

/-
 The plain reading is the model's: a region in whatever order; code; a function.
-/
import Derived.Test.YtkeplokjplkcmaaGreatM2
import Derived.Scope
import Derived.Test.YtkeplokjplkcmaaGreatRows
import Derived.ProofKit
import Derived.OpenShut
import Derived.JoinedCond
import Derived.Deep.DeepHandedRow
import Derived.Deep.Slices
import Derived.WalkKit
import Derived.Deep.AppendLies
import Derived.Deep.Draws
import Derived.Maps.AppendAt
import Derived.Deep.QuietTactic
import Derived.BigQuiet
import Derived.WalkSpells
import Derived.Outline
import Derived.Lib.Hide
import Derived.Test.YtkeplokjplkcmaaGreatProg
import Derived.Lib.AppendZeros
import Derived.Shelf.SlSortCmp.NoneTotal
import Derived.Lib.OwnBridge
import Derived.Laws.OwnMore
import Derived.Lib.BufferRead
import Derived.WalkSmall
import Derived.Shelf.SlSortCmp.Whole1
import Derived.Shelf.SlSortCmp.WholeK
import Derived.Shelf.SlGeneric
import Derived.Ground.SlsfProg
set_option linter.all false
namespace Go.Proofs.YtkeplokjplkcmaaGreat.Sym
open Go.RowKit
theorem befStep_spec {acc:List Nat} {o:Oper} {j:Nat} (h:(befStep acc o).testBit j=true):∃ e∈o.after.toList,Region.binds .any e=true∧(j=e.on∨(acc.getD e.on 0).testBit j=true):=by
 unfold befStep at h
 have key:∀ (l:List Edge) (s:Nat),(l.foldl (fun s e=>if Region.binds .any e=true then s ||| 2^e.on ||| acc.getD e.on 0 else s) s).testBit j=true →
   s.testBit j=true∨∃ e∈l,Region.binds .any e=true∧(j=e.on∨(acc.getD e.on 0).testBit j=true):=by
  intro l
  induction l with
  | nil=>intro s h;exact .inl h
  | cons e l ih =>
   intro s h
   rw [List.foldl_cons] at h
   rcases ih _ h with h1 | ⟨e',he',h2⟩
   ·by_cases hb:Region.binds .any e=true
    ·rw [if_pos hb,Nat.testBit_or,Nat.testBit_or,Bool.or_eq_true,Bool.or_eq_true] at h1
     rcases h1 with (h1 | h1) | h1
     ·exact .inl h1
     ·rw [Nat.testBit_two_pow] at h1
      exact .inr ⟨e,by simp,hb,.inl (of_decide_eq_true h1).symm⟩
     ·exact .inr ⟨e,by simp,hb,.inr h1⟩
    ·rw [if_neg hb] at h1
     exact .inl h1
   ·exact .inr ⟨e',by simp [he'],h2⟩
 rcases key _ 0 h with h1 | h1
 ·simp at h1
 ·exact h1
theorem befs_spec (ops:List Oper):∀ (i:Nat) (o:Oper),ops[i]?=some o→∀ j,((befs ops).getD i 0).testBit j=true→∃ e∈o.after.toList,Region.binds .any e=true∧(j=e.on∨((befs ops).getD e.on 0).testBit j=true):=by
 have key:∀ (rest pre:List Oper) (acc:List Nat),acc.length=pre.length→(∀ (i:Nat) (o:Oper),pre[i]?=some o→∀ j,(acc.getD i 0).testBit j=true→∃ e∈o.after.toList,Region.binds .any e=true∧(j=e.on∨(acc.getD e.on 0).testBit j=true)) →
   (∀ (i:Nat) (o:Oper),(pre++rest)[i]?=some o→∀ j,((rest.foldl (fun acc o=>acc++[befStep acc o]) acc).getD i 0).testBit j=true→∃ e∈o.after.toList,Region.binds .any e=true∧(j=e.on∨((rest.foldl (fun acc o=>acc++[befStep acc o]) acc).getD e.on 0).testBit j=true)):=by
  intro rest
  induction rest with
  | nil=>intro pre acc _ h;simpa using h
  | cons o rest ih =>
   intro pre acc hl h
   have e:pre++o::rest=(pre++[o])++rest:=by simp
   rw [e]
   have grow:∀ p j,(acc.getD p 0).testBit j=true→((acc++[befStep acc o]).getD p 0).testBit j=true:=fun p j hj=>by
    by_cases hp:p<acc.length
    ·rw [List.getD_eq_getElem?_getD,List.getElem?_append,if_pos hp,← List.getD_eq_getElem?_getD]
     exact hj
    ·rw [List.getD_eq_getElem?_getD,List.getElem?_eq_none (by omega)] at hj
     simp at hj
   refine ih (pre++[o]) (acc++[befStep acc o]) (by simp [hl]) fun i o' ho' j hj=>?_
   rw [List.getElem?_append] at ho'
   split at ho'
   ·rename_i hi
    rw [List.getD_eq_getElem?_getD,List.getElem?_append,if_pos (by omega),← List.getD_eq_getElem?_getD] at hj
    obtain ⟨e1,h1,h2,h3⟩:=h i o' ho' j hj
    exact ⟨e1,h1,h2,h3.imp id (grow _ _)⟩
   ·rename_i hi
    have hi0:i=acc.length:=by
     have:=(List.getElem?_eq_some_iff.1 ho').1
     simp at this
     omega
    subst hi0
    have:o'=o:=by simpa [hl] using ho'.symm
    subst this
    rw [List.getD_eq_getElem?_getD,List.getElem?_append,if_neg (by omega)] at hj
    simp at hj
    obtain ⟨e1,h1,h2,h3⟩:=befStep_spec hj
    exact ⟨e1,h1,h2,h3.imp id (grow _ _)⟩
 intro i o ho j hj
 exact key ops [] [] rfl (by simp) i o (by simpa using ho) j hj
theorem drawRow_spec {bs:List Nat} {f:Mk} {i:Nat}:∀ {fs:List Mk} {j:Nat},drawRow bs f i j fs=true→∀ (k:Nat) g,fs[k]?=some g→indepM f g=true∨(bs.getD (j+k) 0).testBit i=true
 | [],j,_,k,g,h=>by simp at h
 | g0::fs,j,h,k,g,hg=>by
  simp only [drawRow,Bool.and_eq_true,Bool.or_eq_true] at h
  cases k with
  | zero=>simp at hg;subst hg;exact h.1
  | succ k =>
   have:=drawRow_spec h.2 k g (by simpa using hg)
   rw [show j+1+k=j+(k+1) from by omega] at this
   exact this
theorem drawAll_spec {bs:List Nat}:∀ {fs:List Mk} {i:Nat},drawAll bs i fs=true→∀ (p q:Nat) f g,p<q→fs[p]?=some f→fs[q]?=some g→indepM f g=true∨(bs.getD (i+q) 0).testBit (i+p)=true
 | [],i,_,p,q,f,g,_,hf,_=>by simp at hf
 | f0::fs,i,h,p,q,f,g,hpq,hf,hg=>by
  simp only [drawAll,Bool.and_eq_true] at h
  cases q with
  | zero=>omega
  | succ q =>
   cases p with
   | zero =>
    simp at hf
    subst hf
    have:=drawRow_spec h.1 q g (by simpa using hg)
    rw [show i+1+q=i+(q+1) from by omega] at this
    exact this
   | succ p =>
    have:=drawAll_spec h.2 p q f g (by omega) (by simpa using hf) (by simpa using hg)
    rw [show i+1+q=i+(q+1) from by omega,show i+1+p=i+(p+1) from by omega] at this
    exact this
theorem edgeOk_spec:∀ {l:List Oper} {i:Nat},edgeOk i l=true→∀ (k:Nat) o,l[k]?=some o→∀ e∈o.after.toList,Region.binds .any e=true→e.on<i+k
 | [],i,_,k,o,h=>by simp at h
 | o0::l,i,h,k,o,ho=>by
  simp only [edgeOk,Bool.and_eq_true,List.all_eq_true,Bool.or_eq_true,Bool.not_eq_true'] at h
  cases k with
  | zero =>
   simp at ho
   subst ho
   intro e he hb
   rcases h.1 e he with h1 | h1
   ·rw [hb] at h1;cases h1
   ·exact blt_spec h1
  | succ k =>
   intro e he hb
   have:=edgeOk_spec h.2 k o (by simpa using ho) e he hb
   omega
section
variable {P:Program} {B:Base} {ops:Array Oper}
theorem runs_idx {l:List Nat} {σ σ':St} {fs:List (Nat×Fx)} (h:Runs P B ops l σ fs σ'):fs.map (·.1)=l∧∀ i∈l,i<ops.size:=by
 induction h with
 | nil σ=>exact ⟨rfl,by simp⟩
 | cons i o l σ σ' fx fs ho he hr ih =>
  refine ⟨by simp [ih.1],fun j hj=>?_⟩
  rcases List.mem_cons.1 hj with rfl | hj
  ·exact (Array.getElem?_eq_some_iff.1 ho).1
  ·exact ih.2 j hj
def Apart (ops:Array Oper) (fs:List (Nat×Fx)):Prop :=
 fs.Pairwise fun p q=>indep p.2 q.2=true∨((befs ops.toList).getD q.1 0).testBit p.1=true
theorem getD_two {l:Array Bool} {i:Nat} (h:i<l.size) (d d':Bool):l.getD i d=l.getD i d':=by simp [h]
theorem runs_any {Q:Exit→Act→World→Prop} (hed:edgeOk 0 ops.toList=true):∀ (fuel:Nat) (listed:Array Bool) (l:List Nat) (σ σ':St) (fs:List (Nat×Fx)) (a:Act) (w:World),listed.size=ops.size→l.length=fuel→(∀ i,i∈l↔listed.getD i true=false) →
  (∀ k o,ops[k]?=some o→listed.getD k false=true→∀ j,((befs ops.toList).getD k 0).testBit j=true→listed.getD j false=true)→Apart ops fs→l.Pairwise (·<·)→Runs P B ops l σ fs σ'→Sat B σ a w→(∀ a' w',Sat B σ' a' w'→Q .normal a' w') →
  wpAny P .any ops Q fuel listed a w
 | 0,listed,l,σ,σ',fs,a,w,hsz,hlen,hmem,hdn,hap,hnd,hr,hs,hQ=>by
  have hl:l=[]:=List.eq_nil_of_length_eq_zero hlen
  subst hl
  cases hr with
  | nil _ =>
   refine ⟨?_,hQ a w hs⟩
   rw [List.eq_nil_iff_forall_not_mem]
   intro i hi
   exact absurd ((hmem i).2 (mem_ready.1 hi).1) (by simp)
 | fuel+1,listed,l,σ,σ',fs,a,w,hsz,hlen,hmem,hdn,hap,hnd,hr,hs,hQ=>by
  obtain ⟨hidx,hlt⟩:=runs_idx hr
  have hon:∀ i o,ops[i]?=some o→∀ e∈o.after.toList,Region.binds .any e=true→e.on<i:=fun i o ho e he hb=>by
   have:=edgeOk_spec hed i o (by rw [Array.getElem?_toList];exact ho) e he hb
   omega
  refine ⟨fun hnil=>?_,fun i hi=>?_⟩
  ·exfalso
   cases l with
   | nil=>simp at hlen
   | cons i l =>
    have hi:=hlt i (by simp)
    have hrd:i∈Region.ready .any ops listed:=by
     rw [mem_ready]
     refine ⟨(hmem i).1 (by simp),ops[i],Array.getElem?_eq_getElem hi,fun e he hb=>?_⟩
     have h1:=hon i ops[i] (Array.getElem?_eq_getElem hi) e (by simpa using he) hb
     have h2:e.on∉i::l:=fun hm=>by
      rcases List.mem_cons.1 hm with h | h
      ·omega
      ·have:=(List.pairwise_cons.1 hnd).1 _ h;omega
     rw [getD_two (by omega) false true]
     cases hc:listed.getD e.on true with
     | true=>rfl
     | false=>exact absurd ((hmem _).2 hc) h2
    rw [hnil] at hrd
    cases hrd
  ·obtain ⟨hun,o,ho,hall⟩:=mem_ready.1 hi
   have hil:i∈l:=(hmem i).2 hun
   have hisz:=hlt i hil
   have hbl:∀ j,((befs ops.toList).getD i 0).testBit j=true→listed.getD j false=true:=fun j hj=>by
    obtain ⟨e,he,hb,h1⟩:=befs_spec ops.toList i o (by rw [Array.getElem?_toList];exact ho) j hj
    have hl:=hall e (by simpa using he) hb
    have hlt':=hon i o ho e he hb
    rcases h1 with rfl | h1
    ·exact hl
    ·exact hdn e.on ops[e.on] (Array.getElem?_eq_getElem (by omega)) hl j h1
   obtain ⟨pre,fx,post,hfs⟩:∃ pre fx post,fs=pre++(i,fx)::post:=by
    rw [← hidx] at hil
    obtain ⟨p,hp,e⟩:=List.mem_map.1 hil
    obtain ⟨pre,post,hpp⟩:=List.append_of_mem hp
    exact ⟨pre,p.2,post,by rw [hpp,← e]⟩
   have hpre:∀ p∈pre,indep p.2 fx=true:=fun p hp=>by
    unfold Apart at hap
    rw [hfs,List.pairwise_append] at hap
    rcases hap.2.2 p hp (i,fx) List.mem_cons_self with h1 | h1
    ·exact h1
    ·have h2:=hbl p.1 h1
     have hpl:p.1∈l:=by rw [← hidx,hfs];exact List.mem_map.2 ⟨p,List.mem_append_left _ hp,rfl⟩
     have h3:=(hmem p.1).1 hpl
     rw [getD_two (by rw [hsz];exact hlt _ hpl) true false,h2] at h3
     cases h3
   obtain ⟨l',hr'⟩:=runs_front hr hfs hpre
   have hidx':=(runs_idx hr').1
   simp only [List.map_cons,List.cons.injEq,true_and] at hidx'
   have hll:l=pre.map (·.1)++i::post.map (·.1):=by rw [← hidx,hfs];simp
   have hl':l'=pre.map (·.1)++post.map (·.1):=by rw [← hidx'];simp
   have hsub:List.Sublist l' l:=by
    rw [hll,hl']
    exact List.Sublist.append (List.Sublist.refl _) (List.sublist_cons_self _ _)
   have hnot:i∉l':=by
    rw [hll,List.pairwise_append] at hnd
    obtain ⟨_,h2,h3⟩:=hnd
    rw [hl',List.mem_append]
    rintro (h | h)
    ·have:=h3 i h i (by simp);omega
    ·have:=(List.pairwise_cons.1 h2).1 i h;omega
   cases hr' with
   | cons _ oi _ _ _ _ _ hoi hei hr2 =>
    refine wanted_wp hoi (hei σ (fun _ _=>rfl) a w hs _ Q fun a' w' hs'=>?_)
    refine runs_any hed fuel (listed.setIfInBounds i true) l' _ σ' (pre++post) a' w' (by simp [hsz]) ?_ (fun j=>?_) (fun k ok hok hk j hj=>?_) ?_ (hnd.sublist hsub) hr2 hs' hQ
    ·rw [hll] at hlen
     rw [hl']
     simp at hlen ⊢
     omega
    ·by_cases e:j=i
     ·subst e
      constructor
      ·intro h;exact absurd h hnot
      ·intro h
       rw [getD_two (by simp [hsz];exact hisz) true false,show (listed.setIfInBounds j true).getD j false=true by simp [hsz,hisz]] at h
       cases h
     ·rw [getD_set_ne true (Ne.symm e),← hmem j,hll,hl']
      simp [e]
    ·by_cases e:k=i
     ·subst e
      exact getD_set_true (hbl j hj)
     ·rw [getD_set_ne false (Ne.symm e)] at hk
      exact getD_set_true (hdn k ok hok hk j hj)
    ·unfold Apart at hap ⊢
     rw [hfs] at hap
     exact hap.sublist (List.Sublist.append (List.Sublist.refl _) (List.sublist_cons_self _ _))
theorem apart_of {fs:List (Nat×Fx)} {n:Nat} (hidx:fs.map (·.1)=List.range n) (h:drawAll (befs ops.toList) 0 (fs.map fun p=>fxm p.2)=true):Apart ops fs:=by
 unfold Apart
 rw [List.pairwise_iff_getElem]
 intro p q hp hq hpq
 have h1:=drawAll_spec h p q (fxm fs[p].2) (fxm fs[q].2) hpq (by simp [hp]) (by simp [hq])
 have idx:∀ r (hr:r<fs.length),fs[r].1=r:=fun r hr=>by
  have:(fs.map (·.1))[r]?=some fs[r].1:=by simp [hr]
  rw [hidx] at this
  have hlen:fs.length=n:=by have:=congrArg List.length hidx;simpa using this
  rw [List.getElem?_range (by omega)] at this
  injection this with this
  exact this.symm
 rw [idx p hp,idx q hq]
 unfold indep
 simpa only [Nat.zero_add] using h1
theorem aRegion_ok (hm:P.follows .mixedOrders=true) {C:FuncId→List Arg→Rs→Prop} (hC:∀ g xs r,C g xs r→SpX P g xs r) {own:List Nat} {id:Nat} {draw:Bool} {σ:St} {K:Exit→St→Prop}
  (h:aOps P C B.n own ops.toList ops.toList [] σ fun fs σ'=>Chk (!draw||drawOk ops.toList fs) (K .normal σ')) {a:Act} {w:World} (hs:Sat B σ a w) {Q:Exit→Act→World→Prop} (hQ:∀ e σ' a' w',K e σ'→Sat B σ' a' w'→Q e a' w'):(Code.region id ops draw).wp P Q a w:=by
 obtain ⟨fs,σ',hr,hk⟩:=aOps_runs (B:=B) (ops:=ops) hC ops.toList 0 [] σ _ (fun j=>by simp) h
 rw [← List.range_eq_range'] at hr
 rw [List.nil_append] at hk
 obtain ⟨hchk,hk2⟩:=hk.ok
 have hlen:ops.toList.length=ops.size:=by simp
 rw [hlen] at hr
 cases draw with
 | false=>exact wp_region (runs_wp hr hs fun a' w' hs'=>hQ .normal σ' a' w' hk2 hs')
 | true =>
  simp only [Bool.not_true,Bool.false_or] at hchk
  unfold drawOk at hchk
  rw [Bool.and_eq_true] at hchk
  refine wp_region_any hm ?_
  have hidx:=(runs_idx hr).1
  refine runs_any hchk.1 ops.size (Array.replicate ops.size false) (List.range ops.size) σ σ' fs a _ (by simp) (by simp) (fun i=>?_) (fun k o ho hk=>?_) (apart_of hidx hchk.2) List.pairwise_lt_range hr ?_ fun a' w' hs'=>hQ .normal σ' a' w' hk2 hs'
  ·by_cases h:i<ops.size
   ·simp [h]
   ·simp [h]
  ·have:k<ops.size:=(Array.getElem?_eq_some_iff.1 ho).1
   simp [this] at hk
  ·obtain ⟨ρ,hs⟩:=hs
   exact ⟨ρ,(hs.world (w':={ w with drawn:=w.drawn+1 }) ⟨rfl,rfl,rfl,Nat.le_refl _,fun _ _=>rfl⟩).1⟩
end
end Go.Proofs.YtkeplokjplkcmaaGreat.Sym

/-
 The plain reading is the model's: code, loops, a function's results, a function's contract.
-/
namespace Go.Proofs.YtkeplokjplkcmaaGreat.Sym
open Go.RowKit
theorem least {p:Nat→Prop} (h:∃ m,p m):∃ m,p m∧∀ k,p k→m≤k:=by
 obtain ⟨m,hm⟩:=h
 induction m using Nat.strongRecOn with
 | _ m ih =>
  by_cases hk:∃ k,k<m∧p k
  ·obtain ⟨k,h1,h2⟩:=hk
   exact ih k h1 h2
  ·exact ⟨m,hm,fun k hp=>by
    rcases Nat.lt_or_ge k m with h1 | h1
    ·exact absurd ⟨k,h1,hp⟩ hk
    ·exact h1⟩
section
variable {P:Program} {B:Base}
theorem Loops.out {body:(Exit→St→Prop)→St→Prop} {K:Exit→St→Prop} {σ:St} (h:Loops body K σ) :
  ∃ (I:Nat→St→Prop) (m:Nat),I m σ∧∀ m σ,I m σ→∃ σ1 φ,Ent σ σ1∧Holds σ1 φ∧(φ→body (fun e σ'=>match e with | .normal=>∃ m',m'<m∧I m' σ' | e=>K e σ') σ1):=by
 unfold Loops at h
 exact h
open Classical in
theorem loop_ok {body:Code} {K:Exit→St→Prop} {σ:St} {f:(Exit→St→Prop)→St→Prop} (h:Loops f K σ)
  (hbody:∀ (K':Exit→St→Prop) (σ:St),f K' σ→∀ a w,Sat B σ a w→∀ Q:Exit→Act→World→Prop,(∀ e σ' a' w',K' e σ'→Sat B σ' a' w'→Q e a' w')→body.wp P Q a w)
  {a:Act} {w:World} (hs:Sat B σ a w) {Q:Exit→Act→World→Prop} (hQ:∀ e σ' a' w',K e σ'→Sat B σ' a' w'→Q e a' w'):(Code.loop body).wp P Q a w:=by
 obtain ⟨I,m0,h0,hI⟩:=h.out
 let L:Act→World→Nat→Prop:=fun a w m=>∃ σ,I m σ∧Sat B σ a w
 let μ:Act→World→Nat:=fun a w=>if h:∃ m,L a w m then Classical.choose (least h) else 0
 refine wp_loop (fun a w=>∃ m,L a w m) μ ⟨m0,σ,h0,hs⟩ fun a w hL=>?_
 obtain ⟨h1,h2⟩:=Classical.choose_spec (least hL)
 have hμ:μ a w=Classical.choose (least hL):=by simp only [μ];rw [dif_pos hL]
 generalize hm:Classical.choose (least hL)=m at h1 h2 hμ
 obtain ⟨σ1,hσ1,hs1⟩:=h1
 obtain ⟨σ2,φ,hent,hφ,hb⟩:=hI m σ1 hσ1
 have hs2:=hent B a w hs1
 refine hbody _ σ2 (hb (hφ B a w hs2)) a w hs2 _ fun e σ' a' w' hk hs'=>?_
 cases e with
 | normal =>
  obtain ⟨m',hlt,hI'⟩:=hk
  have hL':∃ m,L a' w' m:=⟨m',σ',hI',hs'⟩
  refine ⟨hL',?_⟩
  have h3:=(Classical.choose_spec (least hL')).2 m' ⟨σ',hI',hs'⟩
  have hμ':μ a' w'=Classical.choose (least hL'):=by simp only [μ];rw [dif_pos hL']
  rw [hμ',hμ]
  omega
 | exit id=>exact hQ _ σ' a' w' hk hs'
 | goto l=>exact hQ _ σ' a' w' hk hs'
 | ret=>exact hQ _ σ' a' w' hk hs'
 | panic ch=>exact hQ _ σ' a' w' hk hs'
 | outgrown=>exact hQ _ σ' a' w' hk hs'
theorem aCode_ok (hm:P.follows .mixedOrders=true) {C:FuncId→List Arg→Rs→Prop} (hC:∀ g xs r,C g xs r→SpX P g xs r) {own:List Nat}:∀ (c:Code) (K:Exit→St→Prop) (σ:St),aCode P C B.n own c K σ→∀ a w,Sat B σ a w→∀ Q:Exit→Act→World→Prop,
  (∀ e σ' a' w',K e σ'→Sat B σ' a' w'→Q e a' w')→c.wp P Q a w
 | .skip,K,σ,h,a,w,hs,Q,hQ=>wp_skip (hQ .normal σ a w h hs)
 | .region id ops draw,K,σ,h,a,w,hs,Q,hQ=>aRegion_ok hm hC (id:=id) h hs hQ
 | .seq x y,K,σ,h,a,w,hs,Q,hQ=>by
  simp only [aCode] at h
  split at h
  case h_2 =>
   obtain ⟨Post,h1,h2⟩:=h.out
   refine wp_seq (aCode_ok hm hC x _ σ h1 a w hs _ fun e σ' a' w' hk hs'=>?_)
   cases e with
   | normal =>
    obtain ⟨σ1,he,hp⟩:=hk
    obtain ⟨φ,hφ,h3⟩:=h2 σ1 hp
    have hs1:=he B a' w' hs'
    exact aCode_ok hm hC y K σ1 (h3 (hφ B a' w' hs1)) a' w' hs1 Q hQ
   | exit id=>exact hQ _ σ' a' w' hk hs'
   | goto l=>exact hQ _ σ' a' w' hk hs'
   | ret=>exact hQ _ σ' a' w' hk hs'
   | panic ch=>exact hQ _ σ' a' w' hk hs'
   | outgrown=>exact hQ _ σ' a' w' hk hs'
  refine wp_seq (aCode_ok hm hC x _ σ h a w hs _ fun e σ' a' w' hk hs'=>?_)
  cases e with
  | normal=>exact aCode_ok hm hC y K σ' hk a' w' hs' Q hQ
  | exit id=>exact hQ _ σ' a' w' hk hs'
  | goto l=>exact hQ _ σ' a' w' hk hs'
  | ret=>exact hQ _ σ' a' w' hk hs'
  | panic ch=>exact hQ _ σ' a' w' hk hs'
  | outgrown=>exact hQ _ σ' a' w' hk hs'
 | .cond c x y,K,σ,h,a,w,hs,Q,hQ=>by
  simp only [aCode] at h
  split at h
  ·rename_i t ht
   obtain ⟨h1,h2⟩:=h.out
   have hc:a.eval c=.bool t:=by
    obtain ⟨ρ,hs⟩:=hs
    exact asBool_inv ht (evA_ok hs c)
   cases ht':t with
   | true=>exact wp_cond_true (hc.trans (by rw [ht'])) (aCode_ok hm hC x K σ (h1 ht') a w hs Q hQ)
   | false=>exact wp_cond_false (hc.trans (by rw [ht'])) (aCode_ok hm hC y K σ (h2 ht') a w hs Q hQ)
  ·exact h.elim
 | .block id body,K,σ,h,a,w,hs,Q,hQ=>by
  simp only [aCode] at h
  split at h
  case h_2 =>
   obtain ⟨Post,h1,h2⟩:=h.out
   have fin:∀ σ' a' w',(∃ σ1,Ent σ' σ1∧Post σ1)→Sat B σ' a' w'→Q .normal a' w':=fun σ' a' w' ⟨σ1,he,hp⟩ hs'=>by
    obtain ⟨φ,hφ,h3⟩:=h2 σ1 hp
    have hs1:=he B a' w' hs'
    exact hQ _ σ1 a' w' (h3 (hφ B a' w' hs1)) hs1
   refine wp_block (aCode_ok hm hC body _ σ h1 a w hs _ fun e σ' a' w' hk hs'=>?_)
   cases e with
   | exit j =>
    simp only at hk
    show (if j=id then Q .normal a' w' else Q (.exit j) a' w')
    by_cases e:j=id
    ·rw [if_pos e] at hk ⊢;exact fin σ' a' w' hk hs'
    ·rw [if_neg e] at hk ⊢;exact hQ _ σ' a' w' hk hs'
   | normal=>exact fin σ' a' w' hk hs'
   | goto l=>exact hQ _ σ' a' w' hk hs'
   | ret=>exact hQ _ σ' a' w' hk hs'
   | panic ch=>exact hQ _ σ' a' w' hk hs'
   | outgrown=>exact hQ _ σ' a' w' hk hs'
  refine wp_block (aCode_ok hm hC body _ σ h a w hs _ fun e σ' a' w' hk hs'=>?_)
  cases e with
  | exit j =>
   simp only at hk
   show (if j=id then Q .normal a' w' else Q (.exit j) a' w')
   by_cases e:j=id
   ·rw [if_pos e] at hk ⊢;exact hQ _ σ' a' w' hk hs'
   ·rw [if_neg e] at hk ⊢;exact hQ _ σ' a' w' hk hs'
  | normal=>exact hQ _ σ' a' w' hk hs'
  | goto l=>exact hQ _ σ' a' w' hk hs'
  | ret=>exact hQ _ σ' a' w' hk hs'
  | panic ch=>exact hQ _ σ' a' w' hk hs'
  | outgrown=>exact hQ _ σ' a' w' hk hs'
 | .loop body,K,σ,h,a,w,hs,Q,hQ=>loop_ok h (fun K' σ h a w hs Q hQ=>aCode_ok hm hC body K' σ h a w hs Q hQ) hs hQ
 | .exit id,K,σ,h,a,w,hs,Q,hQ=>wp_exit (hQ _ σ a w h hs)
 | .ret,K,σ,h,a,w,hs,Q,hQ=>wp_ret (hQ _ σ a w h hs)
 | .rangeFunc ..,_,_,h,_,_,_,_,_=>h.elim
 | .scope body,K,σ,h,a,w,hs,Q,hQ=>by
  refine wp_scope_straight (aCode_ok hm hC body _ σ h a w hs _ fun e σ' a' w' hk hs'=>?_)
  cases e with
  | goto l=>exact hk.elim
  | exit j=>exact hQ _ σ' a' w' hk hs'
  | normal=>exact hQ _ σ' a' w' hk hs'
  | ret=>exact hQ _ σ' a' w' hk hs'
  | panic ch=>exact hQ _ σ' a' w' hk hs'
  | outgrown=>exact hQ _ σ' a' w' hk hs'
 | .label _,K,σ,h,a,w,hs,Q,hQ=>wp_label (hQ _ σ a w h hs)
 | .goto _,_,_,h,_,_,_,_,_=>h.elim
 | .refuse _,_,_,h,_,_,_,_,_=>h.elim
def resA (P:Program) (σ:St):ResultVar→Option (AV×List (Nat×Nat))
 | .tmp t=>some (σ.av t,[])
 | .cell c t=>match σ.av c with
  | .own b g i=>match aggOf P t with
   | some false=>if Nat.blt i (boxLen σ b)=true then some (σ.ce b i,[(b,g)]) else none
   | some true=>match szOf P t with
    | some m=>if (Nat.blt 0 m&&Nat.ble (i+m) (boxLen σ b))=true then some (aggA ((List.range m).map fun j=>σ.ce b (i+j)),[(b,g)]) else none
    | none=>none
   | none=>none
  | _=>none
def resAs (P:Program) (σ:St):List ResultVar→Option (List AV×List (Nat×Nat))
 | []=>some ([],[])
 | r::l=>match resA P σ r,resAs P σ l with | some (v,b),some (vs,bs)=>some (v::vs,b++bs) | _,_=>none
def outC (σ:St) (c:Oc) (a:AV):Option (Oc×List (Nat×Nat)×List (Nat×Nat)):=match c with
 | .im _=>match fz σ a with
  | some (x,bs)=>some (.im x,bs,[])
  | none=>none
 | .ow k0=>match a with
  | .osl b g=>match objG σ b with
   | some k=>some (.ow k,[],[(b,g)])
   | none=>none
  | .im x=>match k0 with
   | .row e k _=>match nilRow x e k with
    | some q=>some (.ow q,[],[])
    | none=>none
   | _=>none
  | _=>none
def outCs (σ:St):List Oc→List AV→Option (List Oc×List (Nat×Nat)×List (Nat×Nat))
 | [],[]=>some ([],[],[])
 | c::cs,a::l=>match outC σ c a,outCs σ cs l with
  | some (x,bs,gs),some (xs,bs',gs')=>some (x::xs,bs++bs',gs++gs')
  | _,_=>none
 | _,_=>none
def bxOut (σ:St):Nat→List Arg→List Arg→Option (List Arg×List (Nat×Nat)×List (Nat×Nat))
 | _,[],[]=>some ([],[],[])
 | i,.im _::xs,ys=>bxOut σ (i+1) xs ys
 | i,.ow _::xs,ys=>bxOut σ (i+1) xs ys
 | i,.box _ _::xs,.box _ cs::ys=>match σ.kd i with
  | .box t _=>match outCs σ cs (boxCs σ i),bxOut σ (i+1) xs ys with
   | some (cs',bs,gs),some (l,bs',gs')=>some (.box t cs'::l,bs++bs',((i,0)::gs)++gs')
   | _,_=>none
  | _=>none
 | i,.lent _::xs,.lent _::ys=>match objG σ i,bxOut σ (i+1) xs ys with
  | some k,some (l,bs',gs')=>some (.lent k::l,bs',(i,0)::gs')
  | _,_=>none
 | _,_,_=>none
def RetOk (P:Program) (rs:List ResultVar) (xs:List Arg) (σ:St) (r:Rs):Prop :=
 match resAs P σ rs,r with
 | some (vs,c),.mk tp l ys=>Chk (match tp with | true=>!Nat.beq vs.length 1 | false=>Nat.beq vs.length 1) (SideG σ c (match outCs σ l vs,bxOut σ 0 xs ys with
  | some (l',bs,gs),some (ys',bs',gs')=>Chk (ndB ((gs++gs').map (·.1)) ((bs++bs').map (·.1))) (SideG σ ((bs++bs')++(gs++gs')) (l'=l∧ys'=ys))
  | _,_=>False))
 | none,_=>False
def retK (P:Program) (rs:List ResultVar) (xs:List Arg) (r:Rs):Exit→St→Prop
 | .ret,σ=>RetOk P rs xs σ r
 | .normal,σ=>RetOk P rs xs σ r
 | _,_=>False
def oneRes (tmps:Array Value):ResultVar→Sem Value
 | .tmp t=>pure (tmps.getD t undef)
 | .cell c t=>do loadVar t (← asAddr (tmps.getD c undef))
theorem results_eq (fn:Func) (tmps:Array Value):results fn tmps=(do let vs ← fn.results.mapM (oneRes tmps);pure (if h:vs.size=1 then vs[0] else .tuple vs)):=by
 unfold results
 have e:(fun r:ResultVar=>match r with
  | .tmp t=>(pure (tmps.getD t undef):Sem Value)
  | .cell a t=>do loadVar t (← asAddr (tmps.getD a undef)))=oneRes tmps:=funext fun r=>by cases r<;>rfl
 rw [← e]
 rfl
theorem resA_ok {σ:St} {a:Act} {w:World} {ρ:Ly} (h:SatR B σ a w ρ) {r:ResultVar} {v:AV} {bs:List (Nat×Nat)} (e:resA P σ r=some (v,bs)) (hg:∀ p∈bs,σ.gn p.1=p.2) :
  ∃ u,(oneRes a.tmps r).run P w=.ok u w∧RepA w (Imm B σ ρ w) ρ σ.gn u v:=by
 cases r with
 | tmp t =>
  simp only [resA,Option.some.injEq,Prod.mk.injEq] at e
  rw [← e.1]
  exact ⟨_,rfl,h.tms t⟩
 | cell c t =>
  simp only [resA] at e
  split at e
  ·rename_i b g i hc
   have h1:=h.tms c
   rw [hc] at h1
   have ld:∀ q u,a.tmps.getD c undef=.pointer (some q)→(Instr.loadAt t (.pointer (some q))).run P w=.ok u w→(do loadVar t (← asAddr (a.tmps.getD c undef)):Sem Value).run P w=.ok u w:=fun q u e1 e2=>by
    simp only [Instr.loadAt,Instr.sureAddr,Sem.run_bind,Sem.run_pure,Result.andThen_ok] at e2
    simp only [e1,asAddr,Sem.run_bind,Sem.run_pure,Result.andThen_ok,e2]
   split at e
   ·rename_i hagg
    split at e
    ·rename_i hi
     simp only [Option.some.injEq,Prod.mk.injEq] at e
     obtain ⟨rfl,rfl⟩:=e
     obtain ⟨t',m,hk,him⟩:=boxLen_spec (blt_spec hi)
     obtain ⟨q,us,e1,_,_,hl,h1c,hcc,hr⟩:=box_read h h1 (hg (b,g) (by simp)) hk
     obtain ⟨u,hu⟩:∃ u,us[i]?=some u:=⟨_,List.getElem?_eq_getElem (by omega)⟩
     exact ⟨u,ld _ u e1 (load_one hagg (hcc i u hu)),hr i u hu⟩
    ·cases e
   ·rename_i hagg
    split at e
    ·rename_i m hm
     split at e
     ·rename_i hi
      simp only [Option.some.injEq,Prod.mk.injEq] at e
      obtain ⟨rfl,rfl⟩:=e
      rw [Bool.and_eq_true] at hi
      have hm0:=blt_spec hi.1
      have hi:=ble_spec hi.2
      obtain ⟨t',m',hk,him⟩:=boxLen_spec (σ:=σ) (b:=b) (i:=i) (by omega)
      have hbl:=boxLen_eq hk
      obtain ⟨q,us,e1,_,_,hl,h1c,hcc,hr⟩:=box_read h h1 (hg (b,g) (by simp)) hk
      have hlt:((us.drop i).take m).length=m:=by rw [List.length_take,List.length_drop];omega
      refine ⟨.agg ((us.drop i).take m).toArray,ld _ _ e1 (load_many hagg (by rw [hlt];exact hm) fun j u hj=>hcc (i+j) u (drop_take_get hj).1),aggA_rep ⟨by rw [hlt];simp,fun j u x hj hx=>?_⟩ fun u hu=>h1c u (List.mem_of_mem_drop (List.mem_of_mem_take hu))⟩
      obtain ⟨h3,hjm⟩:=drop_take_get hj
      simp only [List.getElem?_map,List.getElem?_range hjm,Option.map_some,Option.some.injEq] at hx
      rw [← hx]
      exact hr _ u h3
     ·cases e
    ·cases e
   ·cases e
  ·cases e
theorem resAs_ok {σ:St} {a:Act} {w:World} {ρ:Ly} (h:SatR B σ a w ρ):∀ {rs:List ResultVar} {vs:List AV} {bs:List (Nat×Nat)},resAs P σ rs=some (vs,bs)→(∀ p∈bs,σ.gn p.1=p.2) →
  ∃ us:List Value,(rs.mapM (oneRes a.tmps)).run P w=.ok us w∧Reps w (Imm B σ ρ w) ρ σ.gn us vs
 | [],vs,bs,e,_=>by
  simp only [resAs,Option.some.injEq,Prod.mk.injEq] at e
  rw [← e.1]
  exact ⟨[],by simp,rfl,by simp⟩
 | r::rs,vs,bs,e,hg=>by
  simp only [resAs] at e
  split at e
  ·rename_i v b1 vs1 bs1 h1 h2
   simp only [Option.some.injEq,Prod.mk.injEq] at e
   obtain ⟨rfl,rfl⟩:=e
   obtain ⟨u,hu,hr⟩:=resA_ok h h1 fun p hp=>hg p (List.mem_append_left _ hp)
   obtain ⟨us,hus,hrs⟩:=resAs_ok h h2 fun p hp=>hg p (List.mem_append_right _ hp)
   refine ⟨u::us,?_,by simp [hrs.1],fun i x y hx hy=>?_⟩
   ·rw [List.mapM_cons]
    simp only [Sem.run_bind,hu,Result.andThen_ok,hus,Sem.run_pure]
   ·cases i with
    | zero=>simp at hx hy;rw [← hx,← hy];exact hr
    | succ i=>exact hrs.2 i x y (by simpa using hx) (by simpa using hy)
  ·cases e
theorem OcsOk.app {w:World} {S:Nat→Prop}:∀ {us vs:List Value} {cs ds:List Oc} {F G:List Nat},OcsOk w S us cs F→OcsOk w S vs ds G→OcsOk w S (us++vs) (cs++ds) (F++G)
 | [],vs,[],ds,F,G,h,k=>by
  have h:F=[]:=h
  subst h
  exact k
 | u::us,vs,c::cs,ds,F,G,⟨F1,F2,h1,h2,h3⟩,k=>by
  subst h3
  exact ⟨F1,F2++G,h1,h2.app k,List.append_assoc ..⟩
 | [],_,_::_,_,_,_,h,_=>h.elim
 | _::_,_,[],_,_,_,h,_=>h.elim
theorem outC_ok {σ:St} {a:Act} {w:World} {ρ:Ly} (h:SatR B σ a w ρ) {bs0:List (Nat×Nat)} (hgk:∀ p∈bs0,σ.gn p.1=p.2) {c:Oc} {u:Value} {v:AV} {x:Oc} {bs gs:List (Nat×Nat)} (hu:RepA w (Imm B σ ρ w) ρ σ.gn u v) (e:outC σ c v=some (x,bs,gs)) (hb:∀ p∈bs,p∈bs0) (hg:∀ p∈gs,σ.gn p.1=p.2) :
  OcOk w (Imm B (app σ (fwr bs0)) ρ w) u x (footG σ ρ gs):=by
 have hI:=(h.kills bs0).2
 unfold outC at e
 split at e
 ·split at e
  ·rename_i y bs' hy
   simp only [Option.some.injEq,Prod.mk.injEq] at e
   obtain ⟨rfl,rfl,rfl⟩:=e
   exact ⟨fz_ok h hgk hu hy hb,rfl⟩
  ·cases e
 ·split at e
  ·rename_i b g
   split at e
   ·rename_i k hk
    simp only [Option.some.injEq,Prod.mk.injEq] at e
    obtain ⟨rfl,rfl,rfl⟩:=e
    have hgb:=hg (b,g) (by simp)
    have hv:u=ρ b:=by
     cases hu with
     | osl _ _ _ _ _ hh=>exact hh hgb
    have hh:=obs_hold h hk
    subst hv
    refine ⟨hh.one,ρ.inn b,hh.mono (fun _ _=>rfl) hI,?_⟩
    unfold footG
    rw [List.flatMap_cons,List.flatMap_nil,List.append_nil,(objG_spec hk).1]
   ·cases e
  ·have hu:=hu.im_inv
   split at e
   ·split at e
    ·rename_i q hq
     simp only [Option.some.injEq,Prod.mk.injEq] at e
     obtain ⟨rfl,rfl,rfl⟩:=e
     obtain ⟨rfl,k',rfl⟩:=nilRow_spec hq
     cases hu
     exact nil_oc _ _ _ _
    ·cases e
   ·cases e
  ·cases e
theorem outCs_ok {σ:St} {a:Act} {w:World} {ρ:Ly} (h:SatR B σ a w ρ) {bs0:List (Nat×Nat)} (hgk:∀ p∈bs0,σ.gn p.1=p.2):∀ {cs:List Oc} {us:List Value} {vs:List AV} {xs:List Oc} {bs gs:List (Nat×Nat)},Reps w (Imm B σ ρ w) ρ σ.gn us vs→outCs σ cs vs=some (xs,bs,gs)→(∀ p∈bs,p∈bs0)→(∀ p∈gs,σ.gn p.1=p.2) →
  OcsOk w (Imm B (app σ (fwr bs0)) ρ w) us xs (footG σ ρ gs)
 | [],us,[],xs,bs,gs,hr,e,_,_=>by
  simp only [outCs,Option.some.injEq,Prod.mk.injEq] at e
  rw [← e.1,← e.2.2,List.eq_nil_of_length_eq_zero hr.1]
  exact rfl
 | [],_,_::_,_,_,_,_,e,_,_=>by simp [outCs] at e
 | _::_,_,[],_,_,_,_,e,_,_=>by simp [outCs] at e
 | c::cs,[],v::vs,_,_,_,hr,_,_,_=>by have:=hr.1;simp at this
 | c::cs,u::us,v::vs,xs,bs,gs,hr,e,hb,hg=>by
  simp only [outCs] at e
  split at e
  ·rename_i x b1 g1 xs1 bs1 gs1 h1 h2
   simp only [Option.some.injEq,Prod.mk.injEq] at e
   obtain ⟨rfl,rfl,rfl⟩:=e
   exact ⟨_,_,outC_ok h hgk (hr.2 0 u v rfl rfl) h1 (fun p hp=>hb p (List.mem_append_left _ hp)) fun p hp=>hg p (List.mem_append_left _ hp),
    outCs_ok h hgk ⟨by simpa using hr.1,fun i u x hu hx=>hr.2 (i+1) u x (by simpa using hu) (by simpa using hx)⟩ h2 (fun p hp=>hb p (List.mem_append_right _ hp)) fun p hp=>hg p (List.mem_append_right _ hp),footG_append _ _ _⟩
  ·cases e
def lentL (xs:List Arg) (vs:List Value) (o:Nat):Option Value:=match xs[o]? with
 | some (.box _ _)=>vs[o]?
 | some (.lent _)=>vs[o]?
 | _=>none
theorem bxOut_ok {σ:St} {a:Act} {w:World} {ρ:Ly} (h:SatR B σ a w ρ) {bs0:List (Nat×Nat)} (hgk:∀ p∈bs0,σ.gn p.1=p.2):∀ {xs:List Arg} {vs:List Value} {i:Nat} {ys ys':List Arg} {bs gs:List (Nat×Nat)},vs.length=xs.length→(∀ j v,lentL xs vs j=some v→B.L (i+j)=some v)→bxOut σ i xs ys=some (ys',bs,gs)→(∀ p∈bs,p∈bs0)→(∀ p∈gs,σ.gn p.1=p.2) →
  ArgsOk w (Imm B (app σ (fwr bs0)) ρ w) (bxVs vs xs) ys' (footG σ ρ gs)
 | [],[],i,ys,ys',bs,gs,hl,hL,e,hb,hg=>by
  cases ys with
  | nil =>
   simp only [bxOut,Option.some.injEq,Prod.mk.injEq] at e
   rw [← e.1,← e.2.2]
   exact rfl
  | cons _ _=>simp [bxOut] at e
 | [],_::_,_,_,_,_,_,hl,_,_,_,_=>by simp at hl
 | _::_,[],_,_,_,_,_,hl,_,_,_,_=>by simp at hl
 | .im x::xs,v::vs,i,ys,ys',bs,gs,hl,hL,e,hb,hg=>by
  have e:bxOut σ (i+1) xs ys=some (ys',bs,gs):=by cases ys<;>exact e
  exact bxOut_ok h hgk (xs:=xs) (vs:=vs) (i:=i+1) (by simpa using hl) (fun j v hv=>by rw [Nat.add_assoc,Nat.add_comm 1 j];exact hL (j+1) v (by simpa [lentL] using hv)) e hb hg
 | .ow k::xs,v::vs,i,ys,ys',bs,gs,hl,hL,e,hb,hg=>by
  have e:bxOut σ (i+1) xs ys=some (ys',bs,gs):=by cases ys<;>exact e
  exact bxOut_ok h hgk (xs:=xs) (vs:=vs) (i:=i+1) (by simpa using hl) (fun j v hv=>by rw [Nat.add_assoc,Nat.add_comm 1 j];exact hL (j+1) v (by simpa [lentL] using hv)) e hb hg
 | .lent _::xs,v::vs,i,[],ys',bs,gs,hl,hL,e,hb,hg=>by simp [bxOut] at e
 | .lent _::xs,v::vs,i,.im _::ys,ys',bs,gs,hl,hL,e,hb,hg=>by simp [bxOut] at e
 | .lent _::xs,v::vs,i,.ow _::ys,ys',bs,gs,hl,hL,e,hb,hg=>by simp [bxOut] at e
 | .lent _::xs,v::vs,i,.box _ _::ys,ys',bs,gs,hl,hL,e,hb,hg=>by simp [bxOut] at e
 | .box _ _::xs,v::vs,i,.lent _::ys,ys',bs,gs,hl,hL,e,hb,hg=>by simp [bxOut] at e
 | .lent k0::xs,v::vs,i,.lent k1::ys,ys',bs,gs,hl,hL,e,hb,hg=>by
  unfold bxOut at e
  split at e
  ·rename_i k l b2 g2 hk h2
   simp only [Option.some.injEq,Prod.mk.injEq] at e
   obtain ⟨rfl,rfl,rfl⟩:=e
   have hgi:σ.gn i=0:=hg (i,0) (by simp)
   have hv:ρ i=v:=h.rt i v (by have:=hL 0 v (by simp [lentL]);simpa using this) hgi
   have hh:=obs_hold h hk
   have hI:=(h.kills bs0).2
   refine ⟨fpk (ρ i) (ρ.inn i) k,footG σ ρ g2,⟨by rw [← hv];exact hh.one,ρ.inn i,by rw [← hv];exact hh.mono (fun _ _=>rfl) hI,by rw [← hv]⟩,
    bxOut_ok h hgk (xs:=xs) (vs:=vs) (i:=i+1) (by simpa using hl) (fun j v hv=>by rw [Nat.add_assoc,Nat.add_comm 1 j];exact hL (j+1) v (by simpa [lentL] using hv)) h2 hb (fun p hp=>hg p (by simp [hp])),?_⟩
   unfold footG
   rw [List.flatMap_cons,(objG_spec hk).1]
  ·cases e
 | .box t0 c0::xs,v::vs,i,[],ys',bs,gs,hl,hL,e,hb,hg=>by simp [bxOut] at e
 | .box t0 c0::xs,v::vs,i,.im _::ys,ys',bs,gs,hl,hL,e,hb,hg=>by simp [bxOut] at e
 | .box t0 c0::xs,v::vs,i,.ow _::ys,ys',bs,gs,hl,hL,e,hb,hg=>by simp [bxOut] at e
 | .box t0 c0::xs,v::vs,i,.box _ cs::ys,ys',bs,gs,hl,hL,e,hb,hg=>by
  unfold bxOut at e
  split at e
  ·rename_i t m hk
   split at e
   ·rename_i cs' b1 g1 l b2 g2 h1 h2
    simp only [Option.some.injEq,Prod.mk.injEq] at e
    obtain ⟨rfl,rfl,rfl⟩:=e
    have hgi:σ.gn i=0:=hg (i,0) (by simp)
    have hv:ρ i=v:=h.rt i v (by have:=hL 0 v (by simp [lentL]);simpa using this) hgi
    have ho:=h.obs i
    rw [hk] at ho
    obtain ⟨q,us,e1,e2,e3,e4,e5⟩:=ho
    have hr:=boxCs_reps (σ:=σ) (b:=i) (us:=us) (t:=t) (by rw [e3];exact hk) e5
    refine ⟨_,_,⟨q,us,footG σ ρ g1,by rw [← hv];exact e1,e2,e4,outCs_ok h hgk hr h1 (fun p hp=>hb p (List.mem_append_left _ hp)) (fun p hp=>hg p (by simp [hp])),rfl⟩,
     bxOut_ok h hgk (xs:=xs) (vs:=vs) (i:=i+1) (by simpa using hl) (fun j v hv=>by rw [Nat.add_assoc,Nat.add_comm 1 j];exact hL (j+1) v (by simpa [lentL] using hv)) h2 (fun p hp=>hb p (List.mem_append_right _ hp)) (fun p hp=>hg p (by simp [hp])),?_⟩
    rw [footG_append]
    unfold footG
    rw [List.flatMap_cons,hk,e1]
    rfl
   ·cases e
  ·cases e
theorem results_ok {fn:Func} {xs:List Arg} {vs0:List Value} {r:Rs} {σ:St} (h:RetOk P fn.results.toList xs σ r) {a:Act} {w:World} (hs:Sat B σ a w) (hl:vs0.length=xs.length) (hL:∀ j v,lentL xs vs0 j=some v→B.L j=some v) :
  ∃ v F',(results fn a.tmps).run P w=.ok v w∧ResOk w (fun b=>(B.S0 b∨Mine B b)∧b<w.heap.size∧b∉F') v (bxVs vs0 xs) r F'∧F'.Nodup∧∀ b∈F',Mine B b∧b<w.heap.size:=by
 obtain ⟨ρ,hs⟩:=hs
 unfold RetOk at h
 split at h
 ·rename_i vs c tp l ys hvs
  obtain ⟨htp,h⟩:=h.ok
  obtain ⟨hg,h⟩:=h.out
  obtain ⟨us,hus,hr⟩:=resAs_ok hs hvs hg
  have hrun:(results fn a.tmps).run P w=.ok (if h:us.toArray.size=1 then us.toArray[0] else .tuple us.toArray) w:=by
   rw [results_eq,Sem.run_bind,Array.mapM_eq_mapM_toList,map_eq_pure_bind,Sem.run_bind,hus]
   simp only [Result.andThen_ok,Sem.run_pure]
  split at h
  ·rename_i l' bs gs ys' bs' gs' h1 h2
   obtain ⟨hnd,h⟩:=h.ok
   obtain ⟨hnd1,hnd2⟩:=ndB_spec hnd
   obtain ⟨hgk,rfl,rfl⟩:=h.out
   have hgb:∀ p∈bs++bs',σ.gn p.1=p.2:=fun p hp=>hgk p (List.mem_append_left _ hp)
   have hgg:∀ p∈gs++gs',σ.gn p.1=p.2:=fun p hp=>hgk p (List.mem_append_right _ hp)
   have r1:=outCs_ok hs (bs0:=bs++bs') hgb hr h1 (fun p hp=>List.mem_append_left _ hp) fun p hp=>hgg p (List.mem_append_left _ hp)
   have r2:=bxOut_ok hs (bs0:=bs++bs') hgb hl (i:=0) (fun j v hv=>by rw [Nat.zero_add];exact hL j v hv) h2 (fun p hp=>List.mem_append_right _ hp) fun p hp=>hgg p (List.mem_append_right _ hp)
   have hup:∀ u x,RepI w (Imm B (app σ (fwr (bs++bs'))) ρ w) u x→RepI w (fun b=>(B.S0 b∨Mine B b)∧b<w.heap.size∧b∉footG σ ρ gs++footG σ ρ gs') u x:=fun u x hr=>hr.mono (fun b hb=>⟨hb.1,hb.2.1,fun hf=>by
    rw [← footG_append] at hf
    obtain ⟨p,hp,ho⟩:=footG_mem.1 hf
    refine hb.2.2.1 p.1 ?_
    unfold Owns at ho ⊢
    rw [fwr_kd,if_neg (hnd2 p.1 (List.mem_map.2 ⟨p,hp,rfl⟩))]
    exact ho⟩) fun _ _ _ h=>h
   have hn:=footG_nodup hs hnd1
   rw [footG_append] at hn
   have hm:∀ b∈footG σ ρ gs++footG σ ρ gs',Mine B b∧b<w.heap.size:=fun b hb=>by
    rw [← footG_append] at hb
    obtain ⟨p,hp,ho⟩:=footG_mem.1 hb
    exact hs.own p.1 b ho
   have hsz:us.toArray.size=vs.length:=by simp [hr.1]
   cases tp with
   | true =>
    have hne:¬ us.toArray.size=1:=fun e=>by
     rw [hsz] at e
     simp [e] at htp
    rw [dif_neg hne] at hrun
    exact ⟨_,_,hrun,⟨us,_,_,rfl,r1.mono hup,r2.mono hup,rfl⟩,hn,hm⟩
   | false =>
    have he:us.toArray.size=1:=by rw [hsz];simpa using htp
    rw [dif_pos he] at hrun
    obtain ⟨u,rfl⟩:∃ u,us=[u]:=by
     match us,he with
     | [u],_=>exact ⟨u,rfl⟩
    exact ⟨_,_,hrun,⟨[u],_,_,rfl,r1.mono hup,r2.mono hup,rfl⟩,hn,hm⟩
  ·exact h.elim
 ·exact h.elim
def sig0:St:=fun l=>match l with
 | .tmp _=>.av (.im .any)
 | .gen _=>.n 0
 | .ign _=>.n 0
 | .knd _=>.kd .dead
 | .cel _ _=>.av (.im .any)
def tau0:St:=fun l=>match l with
 | .tmp _=>.av (.im .any)
 | .gen _=>.n 0
 | .ign _=>.n 0
 | .knd _=>.kd .dead
 | .cel o j=>.av (.osl (nmB o j) 0)
def topOc:Arg→Oc
 | .im x=>.im x
 | .ow k=>.ow k
 | .box _ _=>.im .any
 | .lent _=>.im .any
def bxIx:Nat→List Arg→List (Nat×Nat)
 | _,[]=>[]
 | i,.box _ _::xs=>(i,i)::bxIx (i+1) xs
 | i,.lent _::xs=>(i,i)::bxIx (i+1) xs
 | i,.im _::xs=>bxIx (i+1) xs
 | i,.ow _::xs=>bxIx (i+1) xs
def bxAs:List Arg→List Arg
 | []=>[]
 | .box t cs::xs=>.box t cs::bxAs xs
 | .lent k::xs=>.lent k::bxAs xs
 | .im _::xs=>bxAs xs
 | .ow _::xs=>bxAs xs
def argV (i:Nat) (x:Arg) (a:AV):AV:=match x with
 | .box _ _=>.own i 0 0
 | .lent _=>.osl i 0
 | _=>a
def tmpW:Nat→List Arg→List AV→List (Loc×Ct)
 | i,x::xs,a::al=>(.tmp i,.av (argV i x a))::tmpW (i+1) xs al
 | _,_,_=>[]
def entW (xs:List Arg):List (Loc×Ct):=match ocsPl tau0 (fun i=>i) 0 (xs.map topOc),bxPl tau0 (bxIx 0 xs) (bxAs xs) with
 | (al,ss),some (bl,ss')=>insWr tau0 (ss++ss')++(bxWr bl++tmpW 0 xs al)
 | _,none=>[]
def entOk (xs:List Arg):Bool:=match ocsPl tau0 (fun i=>i) 0 (xs.map topOc),bxPl tau0 (bxIx 0 xs) (bxAs xs) with
 | (_,ss),some (bl,ss')=>ndB ((ss++ss').map (·.1)) (bl.map (·.1))
 | _,none=>false
def st0 (xs:List Arg):St:=app sig0 (entW xs)
theorem args_split {w:World} {S:Nat→Prop}:∀ {vs:List Value} {xs:List Arg} {F:List Nat},ArgsOk w S vs xs F→∃ Ft Fb,OcsOk w S vs (xs.map topOc) Ft∧ArgsOk w S (bxVs vs xs) (bxAs xs) Fb∧F.Perm (Ft++Fb)
 | [],[],F,h=>⟨[],[],rfl,rfl,by have h:F=[]:=h;rw [h];exact .refl _⟩
 | v::vs,.im x::xs,F,⟨F1,F2,h1,h2,h3⟩=>by
  obtain ⟨Ft,Fb,a1,a2,a3⟩:=args_split h2
  obtain ⟨h1,rfl⟩:=h1
  exact ⟨[]++Ft,Fb,⟨[],Ft,⟨h1,rfl⟩,a1,rfl⟩,a2,by rw [h3];exact a3⟩
 | v::vs,.ow k::xs,F,⟨F1,F2,h1,h2,h3⟩=>by
  obtain ⟨Ft,Fb,a1,a2,a3⟩:=args_split h2
  exact ⟨F1++Ft,Fb,⟨F1,Ft,h1,a1,rfl⟩,a2,by rw [h3,List.append_assoc];exact a3.append_left F1⟩
 | v::vs,.box t cs::xs,F,⟨F1,F2,h1,h2,h3⟩=>by
  obtain ⟨Ft,Fb,a1,a2,a3⟩:=args_split h2
  refine ⟨[]++Ft,F1++Fb,⟨[],Ft,⟨.any _,rfl⟩,a1,rfl⟩,⟨F1,Fb,h1,a2,rfl⟩,?_⟩
  rw [h3,List.nil_append]
  refine (a3.append_left F1).trans ?_
  rw [← List.append_assoc,← List.append_assoc]
  exact List.perm_append_comm.append_right Fb
 | v::vs,.lent k::xs,F,⟨F1,F2,h1,h2,h3⟩=>by
  obtain ⟨Ft,Fb,a1,a2,a3⟩:=args_split h2
  refine ⟨[]++Ft,F1++Fb,⟨[],Ft,⟨.any _,rfl⟩,a1,rfl⟩,⟨F1,Fb,h1,a2,rfl⟩,?_⟩
  rw [h3,List.nil_append]
  refine (a3.append_left F1).trans ?_
  rw [← List.append_assoc,← List.append_assoc]
  exact List.perm_append_comm.append_right Fb
 | [],_::_,_,h=>h.elim
 | _::_,[],_,h=>h.elim
theorem ArgsOk.len {w:World} {S:Nat→Prop}:∀ {vs:List Value} {xs:List Arg} {F:List Nat},ArgsOk w S vs xs F→vs.length=xs.length
 | [],[],_,_=>rfl
 | _::_,_::_,_,⟨_,_,_,h,_⟩=>by simp [h.len]
 | [],_::_,_,h=>h.elim
 | _::_,[],_,h=>h.elim
theorem tmpW_get:∀ {xs:List Arg} {al:List AV} {i:Nat} {σ:St} {t:Nat},xs.length=al.length→(app σ (tmpW i xs al)).av t=match xs[t-i]?,al[t-i]? with | some x,some a=>if i≤t then argV t x a else σ.av t | _,_=>σ.av t
 | [],[],i,σ,t,_=>by simp [tmpW,app]
 | [],_::_,_,_,_,h=>by simp at h
 | _::_,[],_,_,_,h=>by simp at h
 | x::xs,a::al,i,σ,t,h=>by
  rw [tmpW,app_cons,tmpW_get (by simpa using h)]
  by_cases h1:i+1≤t
  ·obtain ⟨m,hm⟩:∃ m,t-i=m+1:=⟨t-i-1,by omega⟩
   rw [hm,show t-(i+1)=m from by omega]
   have h2:i≤t:=by omega
   have h3:t≠i:=by omega
   simp only [List.getElem?_cons_succ,h1,h2,if_true,av_tmp,h3,if_false]
  ·by_cases h2:t=i
   ·subst h2
    rw [Nat.sub_self]
    simp only [List.getElem?_cons_zero,Nat.le_refl,if_true,h1,if_false,av_tmp]
    split<;>rfl
   ·have h3:¬ i≤t:=by omega
    simp only [if_neg h1,if_neg h3,av_tmp,if_neg h2]
    split<;>split<;>rfl
theorem tmpW_same:∀ {xs:List Arg} {al:List AV} {i:Nat} {σ:St},SameObj σ (app σ (tmpW i xs al))
 | [],_,_,_=>⟨rfl,rfl,rfl,rfl⟩
 | _::_,[],_,_=>⟨rfl,rfl,rfl,rfl⟩
 | x::xs,a::al,i,σ=>by
  have h1:=SameObj.tmp σ i (.av (argV i x a))
  have h2:SameObj (upd σ (.tmp i) (.av (argV i x a))) (app (upd σ (.tmp i) (.av (argV i x a))) (tmpW (i+1) xs al)):=tmpW_same
  exact ⟨h2.gn.trans h1.gn,h2.ig.trans h1.ig,h2.kd.trans h1.kd,h2.ce.trans h1.ce⟩
theorem bxIx_spec:∀ {xs:List Arg} {vs:List Value} {i j:Nat} {b:Nat} {p:Value},vs.length=xs.length→((bxIx i xs).map (·.1))[j]?=some b→(bxVs vs xs)[j]?=some p→i≤b∧vs[b-i]?=some p
 | [],[],i,j,b,p,_,h,_=>by simp [bxIx] at h
 | [],_::_,_,_,_,_,h,_,_=>by simp at h
 | _::_,[],_,_,_,_,h,_,_=>by simp at h
 | .im x::xs,v::vs,i,j,b,p,hl,h,k=>by
  obtain ⟨h1,h2⟩:=bxIx_spec (i:=i+1) (by simpa using hl) h k
  obtain ⟨m,hm⟩:∃ m,b-i=m+1:=⟨b-i-1,by omega⟩
  exact ⟨by omega,by rw [hm,show m=b-(i+1) from by omega];simpa using h2⟩
 | .ow x::xs,v::vs,i,j,b,p,hl,h,k=>by
  obtain ⟨h1,h2⟩:=bxIx_spec (i:=i+1) (by simpa using hl) h k
  obtain ⟨m,hm⟩:∃ m,b-i=m+1:=⟨b-i-1,by omega⟩
  exact ⟨by omega,by rw [hm,show m=b-(i+1) from by omega];simpa using h2⟩
 | .lent q::xs,v::vs,i,0,b,p,hl,h,k=>by
  simp [bxIx] at h
  simp [bxVs] at k
  subst h k
  exact ⟨Nat.le_refl _,by simp⟩
 | .lent q::xs,v::vs,i,j+1,b,p,hl,h,k=>by
  obtain ⟨h1,h2⟩:=bxIx_spec (i:=i+1) (j:=j) (by simpa using hl) (by simpa [bxIx] using h) (by simpa [bxVs] using k)
  obtain ⟨m,hm⟩:∃ m,b-i=m+1:=⟨b-i-1,by omega⟩
  exact ⟨by omega,by rw [hm,show m=b-(i+1) from by omega];simpa using h2⟩
 | .box t cs::xs,v::vs,i,0,b,p,hl,h,k=>by
  simp [bxIx] at h
  simp [bxVs] at k
  subst h k
  exact ⟨Nat.le_refl _,by simp⟩
 | .box t cs::xs,v::vs,i,j+1,b,p,hl,h,k=>by
  obtain ⟨h1,h2⟩:=bxIx_spec (i:=i+1) (j:=j) (by simpa using hl) (by simpa [bxIx] using h) (by simpa [bxVs] using k)
  obtain ⟨m,hm⟩:∃ m,b-i=m+1:=⟨b-i-1,by omega⟩
  exact ⟨by omega,by rw [hm,show m=b-(i+1) from by omega];simpa using h2⟩
theorem bxIx_ge:∀ {xs:List Arg} {i b:Nat},b∈(bxIx i xs).map (·.1)→i≤b
 | [],i,b,h=>by simp [bxIx] at h
 | .im x::xs,i,b,h=>by have:=bxIx_ge (xs:=xs) (i:=i+1) h;omega
 | .ow x::xs,i,b,h=>by have:=bxIx_ge (xs:=xs) (i:=i+1) h;omega
 | .lent k::xs,i,b,h=>by
  rw [bxIx,List.map_cons] at h
  rcases List.mem_cons.1 h with h | h
  ·exact Nat.le_of_eq h.symm
  ·have:=bxIx_ge (xs:=xs) (i:=i+1) h;omega
 | .box t cs::xs,i,b,h=>by
  rw [bxIx,List.map_cons] at h
  rcases List.mem_cons.1 h with h | h
  ·exact Nat.le_of_eq h.symm
  ·have:=bxIx_ge (xs:=xs) (i:=i+1) h;omega
theorem bxIx_nodup:∀ {xs:List Arg} {i:Nat},((bxIx i xs).map (·.1)).Nodup
 | [],i=>List.nodup_nil
 | .im x::xs,i=>bxIx_nodup (xs:=xs) (i:=i+1)
 | .ow x::xs,i=>bxIx_nodup (xs:=xs) (i:=i+1)
 | .lent k::xs,i=>by
  rw [bxIx,List.map_cons,List.nodup_cons]
  exact ⟨fun h=>by have:=bxIx_ge h;omega,bxIx_nodup⟩
 | .box t cs::xs,i=>by
  rw [bxIx,List.map_cons,List.nodup_cons]
  exact ⟨fun h=>by have:=bxIx_ge h;omega,bxIx_nodup⟩
def isLent:Arg→Bool
 | .box _ _=>true
 | .lent _=>true
 | _=>false
theorem bxIx_mem:∀ {xs:List Arg} {i o:Nat} {x:Arg},xs[o]?=some x→isLent x=true→i+o∈(bxIx i xs).map (·.1)
 | [],i,o,x,h,_=>by simp at h
 | .box t' cs'::xs,i,0,x,h,_=>by simp [bxIx]
 | .lent k::xs,i,0,x,h,_=>by simp [bxIx]
 | .im y::xs,i,0,x,h,hl=>by simp at h;subst h;cases hl
 | .ow y::xs,i,0,x,h,hl=>by simp at h;subst h;cases hl
 | .im y::xs,i,o+1,x,h,hl=>by have:=bxIx_mem (xs:=xs) (i:=i+1) (o:=o) (x:=x) (by simpa using h) hl;rw [bxIx,show i+(o+1)=i+1+o from by omega];exact this
 | .ow y::xs,i,o+1,x,h,hl=>by have:=bxIx_mem (xs:=xs) (i:=i+1) (o:=o) (x:=x) (by simpa using h) hl;rw [bxIx,show i+(o+1)=i+1+o from by omega];exact this
 | .box t' cs'::xs,i,o+1,x,h,hl=>by
  have:=bxIx_mem (xs:=xs) (i:=i+1) (o:=o) (x:=x) (by simpa using h) hl
  rw [bxIx,List.map_cons,show i+(o+1)=i+1+o from by omega]
  exact List.mem_cons_of_mem _ this
 | .lent k::xs,i,o+1,x,h,hl=>by
  have:=bxIx_mem (xs:=xs) (i:=i+1) (o:=o) (x:=x) (by simpa using h) hl
  rw [bxIx,List.map_cons,show i+(o+1)=i+1+o from by omega]
  exact List.mem_cons_of_mem _ this
theorem lkWr_gn (σ:St) (b:Nat) (x:LK):(app σ (lkWr b x)).gn=σ.gn:=by
 cases x with
 | box t al =>
  show (app (upd σ (.knd b) (.kd (.box t al.length))) (celWr b 0 al)).gn=_
  rw [celWr_gn]
  exact funext fun o=>gn_knd σ b o _
 | obj k=>exact funext fun o=>gn_knd σ b o _
theorem lkWr_av (σ:St) (b:Nat) (x:LK) (t:Nat):(app σ (lkWr b x)).av t=σ.av t:=by
 cases x with
 | box ty al =>
  show (app (upd σ (.knd b) (.kd (.box ty al.length))) (celWr b 0 al)).av t=_
  rw [celWr_av,av_knd]
 | obj k=>exact av_knd σ b t _
theorem bxWr_gn:∀ {bl:List (Nat×LK)} {σ:St},(app σ (bxWr bl)).gn=σ.gn
 | [],_=>rfl
 | (b,x)::bl,σ=>by
  show (app σ (lkWr b x++bxWr bl)).gn=_
  rw [app_append,bxWr_gn,lkWr_gn]
theorem ArgsOk.ptr {w:World} {S:Nat→Prop}:∀ {vs:List Value} {xs:List Arg} {F:List Nat},ArgsOk w S vs xs F→∀ {i:Nat} {v:Value} {t:TypeId} {cs:List Oc},vs[i]?=some v→xs[i]?=some (.box t cs)→∃ q,v=.pointer (some ⟨q,0,none⟩)
 | [],[],_,_,i,_,_,_,h,_=>by simp at h
 | v::vs,x::xs,_,⟨_,_,h1,h2,_⟩,0,u,t,cs,h,k=>by
  simp at h k
  subst h k
  obtain ⟨q,_,_,e,_⟩:=h1
  exact ⟨q,e⟩
 | v::vs,x::xs,_,⟨_,_,h1,h2,_⟩,i+1,u,t,cs,h,k=>h2.ptr (by simpa using h) (by simpa using k)
 | [],_::_,_,h,_,_,_,_,_,_=>h.elim
 | _::_,[],_,h,_,_,_,_,_,_=>h.elim
theorem ArgsOk.one {w:World} {S:Nat→Prop}:∀ {vs:List Value} {xs:List Arg} {F:List Nat},ArgsOk w S vs xs F→∀ {i:Nat} {v:Value} {k:Kd},vs[i]?=some v→xs[i]?=some (.lent k)→v.oneCell'=true
 | [],[],_,_,i,_,_,h,_=>by simp at h
 | v::vs,x::xs,_,⟨_,_,h1,h2,_⟩,0,u,k',h,k=>by
  simp at h k
  subst h k
  exact h1.1
 | v::vs,x::xs,_,⟨_,_,h1,h2,_⟩,i+1,u,k',h,k=>h2.one (by simpa using h) (by simpa using k)
 | [],_::_,_,h,_,_,_,_,_=>h.elim
 | _::_,[],_,h,_,_,_,_,_=>h.elim
theorem st0_sat (w:World) (S:Nat→Prop) {vs:List Value} {xs:List Arg} {F:List Nat} (h:ArgsOk w S vs xs F) (hnd:F.Nodup) (hF:∀ b∈F,¬ S b∧b<w.heap.size) (hS:∀ b,S b→b<w.heap.size) (n:Nat) (hn:vs.length≤n) (hok:entOk xs=true) :
  Sat ⟨w,S,n,fun b=>b∈F,fun _=>False,lentL xs vs,[]⟩ (st0 xs) { tmps:=vs.toArray++Array.replicate (n-vs.toArray.size) undef,defers:=[] } w:=by
 have hlen:=h.len
 obtain ⟨Ft,Fb,a1,a2,a3⟩:=args_split h
 have hnd':=a3.nodup_iff.1 hnd
 rw [List.nodup_append] at hnd'
 have hmem:∀ b,b∈Ft∨b∈Fb→b∈F:=fun b hb=>a3.mem_iff.2 (List.mem_append.2 hb)
 unfold entOk at hok
 unfold st0 entW
 cases hbl:bxPl tau0 (bxIx 0 xs) (bxAs xs) with
 | none=>rw [hbl] at hok;cases hok
 | some q =>
  obtain ⟨bl,ss'⟩:=q
  rw [hbl] at hok
  simp only at hok ⊢
  obtain ⟨hn1,hn2⟩:=ndB_spec hok
  have hn1':=hn1
  rw [List.map_append,List.nodup_append] at hn1
  have h0:SatR ⟨w,S,n,fun b=>b∈F,fun b=>b∈F,lentL xs vs,[]⟩ sig0 { tmps:=vs.toArray++Array.replicate (n-vs.toArray.size) undef,defers:=[] } w ⟨fun o=>vs.getD o undef,fun _=>[],fun _=>0⟩:=by
   refine ⟨Belo.refl _ _ w,fun o=>trivial,fun o b ho=>absurd rfl ho.lv,fun o p b ho=>absurd rfl ho.lv,fun t=>.im _ _ (.any _),fun o=>rfl,fun b hb=>⟨⟨.inr hb,(hF b hb).2⟩,fun o ho=>absurd rfl ho.lv⟩,fun o v hl _=>?_,by simp;omega,rfl⟩
   have hl:lentL xs vs o=some v:=hl
   unfold lentL at hl
   split at hl
   ·show vs.getD o undef=v
    simp [List.getD,hl]
   ·show vs.getD o undef=v
    simp [List.getD,hl]
   ·cases hl
  have hSI:∀ b,S b→Imm ⟨w,S,n,fun b=>b∈F,fun b=>b∈F,lentL xs vs,[]⟩ sig0 ⟨fun o=>vs.getD o undef,fun _=>[],fun _=>0⟩ w b:=fun b hb=>⟨.inl hb,hS b hb,fun o ho=>absurd rfl ho.lv,fun hf=>(hF b hf).1 hb⟩
  obtain ⟨ρ2,Z2,b1,b2,b3,b4,b5,b6⟩:=adopt_ocs tau0 (fun i=>i) (l:=xs.map topOc) (i:=0) h0 a1 hSI hnd'.1 (fun b hb=>hmem b (.inl hb)) hn1.1 fun _ _=>⟨rfl,rfl⟩
  obtain ⟨ρ3,Z3,qs,c1,c2,c3,c4,c5,c6,c7,c8,c9⟩:=adopt_bxs tau0 hbl b1 a2 (fun b hb=>b5 b (hSI b hb)) hnd'.2.1 (fun b hb=>b2 b (hmem b (.inr hb)) fun hf=>hnd'.2.2 b hf b hb rfl) hn1.2.1 fun p hp=>by
   obtain ⟨_,d2,d3,_⟩:=b6 p.1 fun hm=>hn1.2.2 p.1 hm p.1 (List.mem_map.2 ⟨p,hp,rfl⟩) rfl
   exact ⟨d2,d3⟩
  have happ:app (app sig0 (insWr tau0 (ocsPl tau0 (fun i=>i) 0 (xs.map topOc)).2)) (insWr tau0 ss')=app sig0 (insWr tau0 ((ocsPl tau0 (fun i=>i) 0 (xs.map topOc)).2++ss')):=by rw [insWr_append,app_append]
  rw [happ] at c1 c5 c7 c8 c9
  have hroot:∀ b,b∈bl.map (·.1)→ρ3 b=vs.getD b undef:=fun b hb=>by
   have hne1:b∉(ocsPl tau0 (fun i=>i) 0 (xs.map topOc)).2.map (·.1):=fun hm=>hn2 b (by rw [List.map_append];exact List.mem_append_left _ hm) hb
   have hne2:b∉ss'.map (·.1):=fun hm=>hn2 b (by rw [List.map_append];exact List.mem_append_right _ hm) hb
   rw [(c9 b hne2).1,(b6 b hne1).1]
  obtain ⟨Z4,e1,e2,e3⟩:=adopt_boxes c1 c5 c4 (fun q hq=>(c3 q hq).1) (by rw [c6];exact bxIx_nodup) fun j b p hb hp=>by
   have hmb:=List.mem_of_getElem? hb
   rw [c6] at hb
   obtain ⟨_,hp⟩:=bxIx_spec hlen hb hp
   rw [hroot b hmb]
   rw [Nat.sub_zero] at hp
   simp [List.getD,hp]
  obtain ⟨g1,_,g3,_⟩:=e1.stepZ (σ':=app (app sig0 (insWr tau0 ((ocsPl tau0 (fun i=>i) 0 (xs.map topOc)).2++ss'))) (bxWr bl)) (ρ':=ρ3) (w':=w) (fun _=>False) (fun _=>False) (fun _=>rfl) (fun _ _=>⟨rfl,rfl,fun _=>rfl,rfl,rfl,rfl⟩) (fun _ hd=>hd.elim) e1.igs (Belo.refl _ _ _) (fun _ _ hd=>hd.elim) (fun _ _ _ hd=>hd.elim)
   (fun _ hb=>hb.elim) fun _ _ _ hd=>hd.elim
  refine ⟨ρ3,?_⟩
  rw [app_append,app_append]
  have lent:∀ t (ht:t<vs.length),t∈bl.map (·.1)→(app (app sig0 (insWr tau0 ((ocsPl tau0 (fun i=>i) 0 (xs.map topOc)).2++ss'))) (bxWr bl)).gn t=0∧ρ3 t=vs[t]:=fun t ht hb=>by
   have hne1:t∉(ocsPl tau0 (fun i=>i) 0 (xs.map topOc)).2.map (·.1):=fun hm=>hn2 t (by rw [List.map_append];exact List.mem_append_left _ hm) hb
   have hne2:t∉ss'.map (·.1):=fun hm=>hn2 t (by rw [List.map_append];exact List.mem_append_right _ hm) hb
   refine ⟨?_,by rw [hroot t hb];simp [List.getD,ht]⟩
   rw [bxWr_gn,(c9 t hne2).2.1,(b6 t hne1).2.1]
   rfl
  refine g1.slots tmpW_same (fun t=>?_) (by simp;omega) rfl
  have hal:xs.length=(ocsPl tau0 (fun i=>i) 0 (xs.map topOc)).1.length:=by rw [← b3.1,hlen]
  rw [tmpW_get hal,Nat.sub_zero]
  by_cases ht:t<vs.length
  ·have hx:t<xs.length:=by omega
   have hv:(vs.toArray++Array.replicate (n-vs.toArray.size) undef).getD t undef=vs[t]:=by
    simp only [Array.getD_eq_getD_getElem?]
    rw [Array.getElem?_append_left (by simpa using ht)]
    simp [ht]
   obtain ⟨al,hal'⟩:∃ al,(ocsPl tau0 (fun i=>i) 0 (xs.map topOc)).1[t]?=some al:=⟨_,List.getElem?_eq_getElem (by omega)⟩
   have hr:=g3 _ _ (e3 _ _ (c7 _ _ (b3.2 t vs[t] al (List.getElem?_eq_getElem ht) hal')))
   rw [hv,List.getElem?_eq_getElem hx,hal']
   simp only [Nat.zero_le,if_true]
   cases hxt:xs[t] with
   | im x=>exact hr
   | ow k=>exact hr
   | box ty cs =>
    have hb:t∈bl.map (·.1):=by
     rw [c6]
     have:=bxIx_mem (xs:=xs) (i:=0) (o:=t) (x:=.box ty cs) (by rw [List.getElem?_eq_getElem hx,hxt]) rfl
     rwa [Nat.zero_add] at this
    obtain ⟨hg,hvt⟩:=lent t ht hb
    obtain ⟨q,hq⟩:∃ q,vs[t]=.pointer (some ⟨q,0,none⟩):=ArgsOk.ptr h (List.getElem?_eq_getElem ht) (by rw [List.getElem?_eq_getElem hx,hxt])
    exact .own _ _ _ _ (by rw [hq];rfl) (by rw [hg];exact Nat.le_refl _) fun _=>⟨q,hvt.trans hq,hq⟩
   | lent k =>
    have hb:t∈bl.map (·.1):=by
     rw [c6]
     have:=bxIx_mem (xs:=xs) (i:=0) (o:=t) (x:=.lent k) (by rw [List.getElem?_eq_getElem hx,hxt]) rfl
     rwa [Nat.zero_add] at this
    obtain ⟨hg,hvt⟩:=lent t ht hb
    exact .osl _ _ _ (ArgsOk.one h (List.getElem?_eq_getElem ht) (by rw [List.getElem?_eq_getElem hx,hxt])) (by rw [hg];exact Nat.le_refl _) fun _=>hvt.symm
  ·rw [List.getElem?_eq_none (by omega)]
   have e0:(app (app sig0 (insWr tau0 ((ocsPl tau0 (fun i=>i) 0 (xs.map topOc)).2++ss'))) (bxWr bl)).av t=.im .any:=by
    have k1:∀ (bl:List (Nat×LK)) (σ:St),(app σ (bxWr bl)).av t=σ.av t:=by
     intro bl
     induction bl with
     | nil=>intro σ;rfl
     | cons x bl ih =>
      intro σ
      obtain ⟨b,x⟩:=x
      show (app σ (lkWr b x++bxWr bl)).av t=_
      rw [app_append,ih,lkWr_av]
    have k2:∀ (l:List (Nat×Kd)) (σ:St),(app σ (insWr tau0 l)).av t=σ.av t:=by
     intro l
     induction l with
     | nil=>intro σ;rfl
     | cons p l ih =>
      intro σ
      rw [insWr,app_append,ih]
      exact (mkK_eqs σ tau0 p.1 p.2).2.2.2.1 t
    rw [k1,k2]
    rfl
   simp only
   rw [e0]
   exact .im _ _ (.any _)
theorem run_enter {f:FuncId} {fn:Func} {c:Code} (hf:P.funcs[f]?=some fn) (hname:(fn.name=="runtime.NumGoroutine")=false) (hb:fn.body=some c) (args:Array Value) (w:World):(callFunc f args).run P w=.ok (.enter f args) w:=by
 have h1:fn.name≠"runtime.NumGoroutine":=by simpa using hname
 simp [callFunc,hf,h1,hb]
theorem sp_of_code (hm:P.follows .mixedOrders=true) {C:FuncId→List Arg→Rs→Prop} (hC:∀ g xs r,C g xs r→SpX P g xs r) {own:List Nat} {f:FuncId} {fn:Func} {c:Code} (hf:P.funcs[f]?=some fn) (hname:(fn.name=="runtime.NumGoroutine")=false) (hb:fn.body=some c)
  {xs:List Arg} {r:Rs} (hn:xs.length≤fn.ntmps) (hok:entOk xs=true) (h:∀ w S vs F,ArgsOk w S vs xs F→aCode P C fn.ntmps own c (retK P fn.results.toList xs r) (st0 xs)):Sp P f xs r:=by
 refine ⟨fun args w=>run_enter hf hname hb args w,fun w S vs F hS hrep hnd hF=>?_⟩
 have hlen:=hrep.len
 refine calls_of_wp hf hb (aCode_ok (B:=⟨w,S,fn.ntmps,fun b=>b∈F,fun _=>False,lentL xs vs,[]⟩) hm hC c _ _ (h w S vs F hrep) _ _ (st0_sat w S hrep hnd hF hS fn.ntmps (by rw [hlen];exact hn) hok) _ fun e σ' a' w' hk hs'=>?_)
 have fin:RetOk P fn.results.toList xs σ' r→a'.defers=[]∧∃ v,(results fn a'.tmps).run P w'=.ok v w'∧∃ (v':Value) (F':List Nat),Ending.returned v=.returned v'∧Belo (fun b=>b∈F) w.heap.size w w' ∧
   ResOk w' (fun b=>(S b∨w.heap.size≤b∨b∈F)∧b<w'.heap.size∧b∉F') v' (bxVs vs xs) r F'∧F'.Nodup∧∀ b∈F',(w.heap.size≤b∨b∈F)∧b<w'.heap.size:=fun hk=>by
  obtain ⟨v,F',hv,hres,h1,h2⟩:=results_ok (vs0:=vs) hk hs' hlen fun j v hv=>hv
  obtain ⟨ρ,hs'⟩:=hs'
  exact ⟨hs'.dfr,v,hv,v,F',rfl,hs'.bel,hres,h1,h2⟩
 cases e with
 | ret=>exact fin hk
 | normal=>exact fin hk
 | exit id=>exact hk.elim
 | goto l=>exact hk.elim
 | panic ch=>exact hk.elim
 | outgrown=>exact hk.elim
def RetOkB (P:Program) (rs:List ResultVar) (xs:List Arg) (σ:St) (r:Rs):Prop :=
 match resAs P σ rs,r with
 | some ([.agg vs],c),.mk true l ys=>SideG σ c (match outCs σ l vs,bxOut σ 0 xs ys with
  | some (l',bs,gs),some (ys',bs',gs')=>Chk (ndB ((gs++gs').map (·.1)) ((bs++bs').map (·.1))) (SideG σ ((bs++bs')++(gs++gs')) (l'=l∧ys'=ys))
  | _,_=>False)
 | _,_=>False
def RetOkA (P:Program) (t:TypeId) (rs:List ResultVar) (xs:List Arg) (σ:St) (r:Rs):Prop:=match t with
 | 0=>RetOk P rs xs σ r
 | _=>RetOkB P rs xs σ r
def retKA (P:Program) (t:TypeId) (rs:List ResultVar) (xs:List Arg) (r:Rs):Exit→St→Prop
 | .ret,σ=>RetOkA P t rs xs σ r
 | .normal,σ=>RetOkA P t rs xs σ r
 | _,_=>False
theorem results_okA {fn:Func} {xs:List Arg} {vs0:List Value} {r:Rs} {σ:St} {t:TypeId} (h:RetOkA P t fn.results.toList xs σ r) {a:Act} {w:World} (hs:Sat B σ a w) (hl:vs0.length=xs.length) (hL:∀ j v,lentL xs vs0 j=some v→B.L j=some v) :
  ∃ v u F',(results fn a.tmps).run P w=.ok v w∧RetA t v u∧ResOk w (fun b=>(B.S0 b∨Mine B b)∧b<w.heap.size∧b∉F') u (bxVs vs0 xs) r F'∧F'.Nodup∧∀ b∈F',Mine B b∧b<w.heap.size:=by
 match t,h with
 | 0,h =>
  obtain ⟨v,F',h1,h2⟩:=results_ok h hs hl hL
  exact ⟨v,v,F',h1,rfl,h2⟩
 | t+1,h =>
 obtain ⟨ρ,hs⟩:=hs
 have h:RetOkB P fn.results.toList xs σ r:=h
 unfold RetOkB at h
 split at h
 ·rename_i vs c l ys hvs _ _
  obtain ⟨hg,h⟩:=h.out
  obtain ⟨us,hus,hr⟩:=resAs_ok hs hvs hg
  obtain ⟨us1,rfl,hr,ho⟩:∃ us1:List Value,us=[.agg us1.toArray]∧Reps w (Imm B σ ρ w) ρ σ.gn us1 vs∧∀ u∈us1,u.oneCell'=true:=by
   match us,hr with
   | [],hr=>have:=hr.1;simp at this
   | [u],hr =>
    have h1:=hr.2 0 u (.agg vs) rfl rfl
    cases h1 with
    | agg us1 _ hl1 h1c hr1=>exact ⟨us1,rfl,⟨hl1,hr1⟩,h1c⟩
   | _::_::_,hr=>have:=hr.1;simp at this
  have hrun:(results fn a.tmps).run P w=.ok (.agg us1.toArray) w:=by
   rw [results_eq,Sem.run_bind,Array.mapM_eq_mapM_toList,map_eq_pure_bind,Sem.run_bind,hus]
   simp only [Result.andThen_ok,Sem.run_pure]
   rfl
  split at h
  ·rename_i l' bs gs ys' bs' gs' h1 h2
   obtain ⟨hnd,h⟩:=h.ok
   obtain ⟨hnd1,hnd2⟩:=ndB_spec hnd
   obtain ⟨hgk,rfl,rfl⟩:=h.out
   have hgb:∀ p∈bs++bs',σ.gn p.1=p.2:=fun p hp=>hgk p (List.mem_append_left _ hp)
   have hgg:∀ p∈gs++gs',σ.gn p.1=p.2:=fun p hp=>hgk p (List.mem_append_right _ hp)
   have r1:=outCs_ok hs (bs0:=bs++bs') hgb hr h1 (fun p hp=>List.mem_append_left _ hp) fun p hp=>hgg p (List.mem_append_left _ hp)
   have r2:=bxOut_ok hs (bs0:=bs++bs') hgb hl (i:=0) (fun j v hv=>by rw [Nat.zero_add];exact hL j v hv) h2 (fun p hp=>List.mem_append_right _ hp) fun p hp=>hgg p (List.mem_append_right _ hp)
   have hup:∀ u x,RepI w (Imm B (app σ (fwr (bs++bs'))) ρ w) u x→RepI w (fun b=>(B.S0 b∨Mine B b)∧b<w.heap.size∧b∉footG σ ρ gs++footG σ ρ gs') u x:=fun u x hr=>hr.mono (fun b hb=>⟨hb.1,hb.2.1,fun hf=>by
    rw [← footG_append] at hf
    obtain ⟨p,hp,ho⟩:=footG_mem.1 hf
    refine hb.2.2.1 p.1 ?_
    unfold Owns at ho ⊢
    rw [fwr_kd,if_neg (hnd2 p.1 (List.mem_map.2 ⟨p,hp,rfl⟩))]
    exact ho⟩) fun _ _ _ h=>h
   have hn:=footG_nodup hs hnd1
   rw [footG_append] at hn
   have hm:∀ b∈footG σ ρ gs++footG σ ρ gs',Mine B b∧b<w.heap.size:=fun b hb=>by
    rw [← footG_append] at hb
    obtain ⟨p,hp,ho⟩:=footG_mem.1 hb
    exact hs.own p.1 b ho
   exact ⟨_,_,_,hrun,⟨us1,rfl,rfl,ho⟩,⟨us1,_,_,rfl,r1.mono hup,r2.mono hup,rfl⟩,hn,hm⟩
  ·exact h.elim
 ·exact h.elim
def entA (n k:Nat) (σ:St):List (Loc×Ct) :=
 (.tmp 0,.av (.agg ((List.range n).map fun j=>σ.av j)))::((List.range k).map (fun j=>(Loc.tmp (1+j),Ct.av (σ.av (n+j))))++(List.range n).map fun j=>(Loc.tmp (k+1+j),Ct.av (.im .any)))
theorem tmps_av (f:Nat→AV) (a:Nat) (t:Nat):∀ (m:Nat) (σ:St),(app σ ((List.range m).map fun j=>(Loc.tmp (a+j),Ct.av (f j)))).av t=if a≤t∧t<a+m then f (t-a) else σ.av t
 | 0,σ=>by
  rw [if_neg (by omega)]
  rfl
 | m+1,σ=>by
  rw [List.range_succ,List.map_append,app_append]
  show (upd (app σ ((List.range m).map fun j=>(Loc.tmp (a+j),Ct.av (f j)))) (.tmp (a+m)) (.av (f m))).av t=_
  rw [av_tmp]
  by_cases h:t=a+m
  ·subst h
   rw [if_pos rfl,if_pos (by omega),Nat.add_sub_cancel_left]
  ·rw [if_neg h,tmps_av f a t m σ]
   by_cases h2:a≤t∧t<a+m
   ·rw [if_pos h2,if_pos (by omega)]
   ·rw [if_neg h2,if_neg (by omega)]
theorem tmps_same (f:Nat→Loc×Ct) (hf:∀ j,∃ t v,f j=(.tmp t,.av v)):∀ (l:List Nat) (σ:St),SameObj σ (app σ (l.map f))
 | [],_=>⟨rfl,rfl,rfl,rfl⟩
 | j::l,σ=>by
  obtain ⟨t,v,e⟩:=hf j
  rw [List.map_cons,e,app_cons]
  have h1:=SameObj.tmp σ t (.av v)
  have h2:=tmps_same f hf l (upd σ (.tmp t) (.av v))
  exact ⟨h2.gn.trans h1.gn,h2.ig.trans h1.ig,h2.kd.trans h1.kd,h2.ce.trans h1.ce⟩
theorem entA_av (n k t:Nat) (σ τ:St):(app σ (entA n k τ)).av t=if k+1≤t∧t<k+1+n then .im .any else if 1≤t∧t<1+k then τ.av (n+(t-1)) else if t=0 then .agg ((List.range n).map fun j=>τ.av j) else σ.av t:=by
 unfold entA
 rw [app_cons,app_append,tmps_av (fun _=>.im .any),tmps_av (fun j=>τ.av (n+j)),av_tmp]
theorem entA_same (n k:Nat) (σ τ:St):SameObj σ (app σ (entA n k τ)):=by
 unfold entA
 rw [app_cons,app_append]
 have h1:=SameObj.tmp σ 0 (.av (.agg ((List.range n).map fun j=>τ.av j)))
 have h2:=tmps_same (fun j=>(Loc.tmp (1+j),Ct.av (τ.av (n+j)))) (fun j=>⟨_,_,rfl⟩) (List.range k) (upd σ (.tmp 0) (.av (.agg ((List.range n).map fun j=>τ.av j))))
 have h3:=tmps_same (fun j=>(Loc.tmp (k+1+j),Ct.av (.im .any))) (fun j=>⟨_,_,rfl⟩) (List.range n) (app (upd σ (.tmp 0) (.av (.agg ((List.range n).map fun j=>τ.av j)))) ((List.range k).map fun j=>(Loc.tmp (1+j),Ct.av (τ.av (n+j)))))
 exact ⟨h3.gn.trans (h2.gn.trans h1.gn),h3.ig.trans (h2.ig.trans h1.ig),h3.kd.trans (h2.kd.trans h1.kd),h3.ce.trans (h2.ce.trans h1.ce)⟩
theorem pad_getD (vs:List Value) (N t:Nat):(vs.toArray++Array.replicate N undef).getD t undef=vs.getD t undef:=by
 simp only [Array.getD_eq_getD_getElem?,List.getD_eq_getElem?_getD]
 by_cases h:t<vs.length
 ·rw [Array.getElem?_append_left (by simpa using h)]
  simp
 ·rw [Array.getElem?_append_right (by simp;omega),List.getElem?_eq_none (by omega),Array.getElem?_replicate]
  split<;>rfl
theorem st0A_sat (w:World) (S:Nat→Prop) {us vs:List Value} {xs:List Arg} {F:List Nat} (h:ArgsOk w S (us++vs) xs F) (h1:∀ u∈us,u.oneCell'=true) (hnd:F.Nodup) (hF:∀ b∈F,¬ S b∧b<w.heap.size) (hS:∀ b,S b→b<w.heap.size) (N:Nat) (hn:xs.length≤N) (hn2:vs.length+1≤N) (hok:entOk xs=true) :
  Sat ⟨w,S,N,fun b=>b∈F,fun _=>False,lentL xs (us++vs),[]⟩ (app (st0 xs) (entA us.length vs.length (st0 xs))) { tmps:=(.agg us.toArray::vs).toArray++Array.replicate (N-(.agg us.toArray::vs).toArray.size) undef,defers:=[] } w:=by
 have hlen:=h.len
 obtain ⟨ρ,hs⟩:=st0_sat w S h hnd hF hS N (by omega) hok
 refine ⟨ρ,hs.slots (entA_same _ _ _ _) (fun t=>?_) (by simp;omega) rfl⟩
 rw [entA_av]
 have hv:∀ t,RepA w (Imm ⟨w,S,N,fun b=>b∈F,fun _=>False,lentL xs (us++vs),[]⟩ (st0 xs) ρ w) ρ (st0 xs).gn ((us++vs).getD t undef) ((st0 xs).av t):=fun t=>by
  have:=hs.tms t
  rw [pad_getD] at this
  exact this
 simp only [pad_getD]
 by_cases c1:vs.length+1≤t∧t<vs.length+1+us.length
 ·rw [if_pos c1]
  exact .im _ _ (.any _)
 ·rw [if_neg c1]
  by_cases c2:1≤t∧t<1+vs.length
  ·rw [if_pos c2]
   have:=hv (us.length+(t-1))
   obtain ⟨j,rfl⟩:∃ j,t=j+1:=⟨t-1,by omega⟩
   rw [Nat.add_sub_cancel] at this ⊢
   have e:(us++vs).getD (us.length+j) undef=(Value.agg us.toArray::vs).getD (j+1) undef:=by
    simp only [List.getD_eq_getElem?_getD]
    rw [List.getElem?_append_right (by omega),Nat.add_sub_cancel_left]
    rfl
   rw [← e]
   exact this
  ·rw [if_neg c2]
   by_cases c3:t=0
   ·subst c3
    rw [if_pos rfl]
    refine .agg us _ (by simp) h1 fun i u x hu hx=>?_
    have hi:=(List.getElem?_eq_some_iff.1 hu).1
    rw [List.getElem?_map,List.getElem?_range hi] at hx
    simp only [Option.map_some,Option.some.injEq] at hx
    subst hx
    have:=hv i
    have e:(us++vs).getD i undef=u:=by
     simp only [List.getD_eq_getElem?_getD]
     rw [List.getElem?_append_left hi,hu]
     rfl
    rw [e] at this
    exact this
   ·rw [if_neg c3]
    have:=hv t
    have e:(us++vs).getD t undef=(Value.agg us.toArray::vs).getD t undef:=by
     simp only [List.getD_eq_getElem?_getD]
     rw [List.getElem?_eq_none (by rw [List.length_append];omega),List.getElem?_eq_none (by rw [List.length_cons];omega)]
    rw [← e]
    exact this
theorem sp_ofT_code (hm:P.follows .mixedOrders=true) {C:FuncId→List Arg→Rs→Prop} (hC:∀ g xs r,C g xs r→SpX P g xs r) {own:List Nat} {f:FuncId} {fn:Func} {c:Code} (hf:P.funcs[f]?=some fn) (hname:(fn.name=="runtime.NumGoroutine")=false) (hb:fn.body=some c)
  {xs:List Arg} {r:Rs} (hn:xs.length≤fn.ntmps) (hok:entOk xs=true) (h:∀ w S vs F,ArgsOk w S vs xs F→aCode P C fn.ntmps own c (retKA P 1 fn.results.toList xs r) (st0 xs)):SpX P f (.lent .dead::.ow .dead::xs) r:=by
 refine ⟨fun args w=>run_enter hf hname hb args w,fun w S vs F hS hrep hnd hF=>?_⟩
 have hlen:=hrep.len
 refine calls_of_wp hf hb (aCode_ok (B:=⟨w,S,fn.ntmps,fun b=>b∈F,fun _=>False,lentL xs vs,[]⟩) hm hC c _ _ (h w S vs F hrep) _ _ (st0_sat w S hrep hnd hF hS fn.ntmps (by rw [hlen];exact hn) hok) _ fun e σ' a' w' hk hs'=>?_)
 have fin:RetOkA P 1 fn.results.toList xs σ' r→a'.defers=[]∧∃ v,(results fn a'.tmps).run P w'=.ok v w'∧∃ (v' u:Value) (F':List Nat),Ending.returned v=.returned v'∧RetA 1 v' u∧Belo (fun b=>b∈F) w.heap.size w w' ∧
   ResOk w' (fun b=>(S b∨w.heap.size≤b∨b∈F)∧b<w'.heap.size∧b∉F') u (bxVs vs xs) r F'∧F'.Nodup∧∀ b∈F',(w.heap.size≤b∨b∈F)∧b<w'.heap.size:=fun hk=>by
  obtain ⟨v,u,F',hv,hret,hres,h1,h2⟩:=results_okA (vs0:=vs) hk hs' hlen fun j v hv=>hv
  obtain ⟨ρ,hs'⟩:=hs'
  exact ⟨hs'.dfr,v,hv,v,u,F',rfl,hret,hs'.bel,hres,h1,h2⟩
 cases e with
 | ret=>exact fin hk
 | normal=>exact fin hk
 | exit id=>exact hk.elim
 | goto l=>exact hk.elim
 | panic ch=>exact hk.elim
 | outgrown=>exact hk.elim
theorem sp_ofA_code (hm:P.follows .mixedOrders=true) {C:FuncId→List Arg→Rs→Prop} (hC:∀ g xs r,C g xs r→SpX P g xs r) {own:List Nat} {f:FuncId} {fn:Func} {c:Code} (hf:P.funcs[f]?=some fn) (hname:(fn.name=="runtime.NumGoroutine")=false) (hb:fn.body=some c)
  {t:TypeId} {l:List Oc} {k:Nat} {xs:List Arg} {r:Rs} (hl:l.length+k=xs.length) (hn:xs.length≤fn.ntmps) (hn2:k+1≤fn.ntmps) (hok:entOk xs=true) (h:∀ w S vs F,ArgsOk w S vs xs F→aCode P C fn.ntmps own c (retKA P t fn.results.toList xs r) (app (st0 xs) (entA l.length k (st0 xs)))):SpX P f (.lent .dead::.box t l::xs) r:=by
 refine ⟨fun args w=>run_enter hf hname hb args w,fun w S us vs F hS hrep hu h1 hnd hF=>?_⟩
 have hlen:=hrep.len
 rw [List.length_append] at hlen
 have hk:k=vs.length:=by omega
 subst hk
 have hs0:=st0A_sat w S hrep h1 hnd hF hS fn.ntmps hn hn2 hok
 have h:=h w S _ F hrep
 rw [← hu] at h
 refine calls_of_wp hf hb (aCode_ok (B:=⟨w,S,fn.ntmps,fun b=>b∈F,fun _=>False,lentL xs (us++vs),[]⟩) hm hC c _ _ h _ _ hs0 _ fun e σ' a' w' hk hs'=>?_)
 have fin:RetOkA P t fn.results.toList xs σ' r→a'.defers=[]∧∃ v,(results fn a'.tmps).run P w'=.ok v w'∧∃ (v' u:Value) (F':List Nat),Ending.returned v=.returned v'∧RetA t v' u∧Belo (fun b=>b∈F) w.heap.size w w' ∧
   ResOk w' (fun b=>(S b∨w.heap.size≤b∨b∈F)∧b<w'.heap.size∧b∉F') u (bxVs (us++vs) xs) r F'∧F'.Nodup∧∀ b∈F',(w.heap.size≤b∨b∈F)∧b<w'.heap.size:=fun hk=>by
  obtain ⟨v,u,F',hv,hret,hres,h1,h2⟩:=results_okA (vs0:=us++vs) hk hs' hrep.len fun j v hv=>hv
  obtain ⟨ρ,hs'⟩:=hs'
  exact ⟨hs'.dfr,v,hv,v,u,F',rfl,hret,hs'.bel,hres,h1,h2⟩
 cases e with
 | ret=>exact fin hk
 | normal=>exact fin hk
 | exit id=>exact hk.elim
 | goto l=>exact hk.elim
 | panic ch=>exact hk.elim
 | outgrown=>exact hk.elim
end
end Go.Proofs.YtkeplokjplkcmaaGreat.Sym

/-
 The plain reading: states that say less, where ways meet, loops.
-/
namespace Go.Proofs.YtkeplokjplkcmaaGreat.Sym
open Go.RowKit
def lookA:List (Nat×AV)→Nat→AV
 | [],_=>.im .any
 | p::l,t=>match Nat.beq t p.1 with | true=>p.2 | false=>lookA l t
def lookK:List (Nat×Kd)→Nat→Kd
 | [],_=>.dead
 | p::l,t=>match Nat.beq t p.1 with | true=>p.2 | false=>lookK l t
def lookC:List (Nat×Nat×AV)→Nat→Nat→AV
 | [],_,_=>.im .any
 | p::l,o,i=>match Nat.beq o p.1&&Nat.beq i p.2.1 with | true=>p.2.2 | false=>lookC l o i
def gnM:List (Nat×Kd)→Nat→Nat
 | [],_=>1
 | p::l,o=>match Nat.beq o p.1 with | true=>(match Nat.blt o 64 with | true=>0 | false=>1) | false=>gnM l o
def mkSt (avs:List (Nat×AV)) (kds:List (Nat×Kd)) (cels:List (Nat×Nat×AV)):St:=fun l=>match l with
 | .tmp t=>.av (lookA avs t)
 | .gen o=>.n (gnM kds o)
 | .ign _=>.n 0
 | .knd o=>.kd (lookK kds o)
 | .cel o i=>.av (lookC cels o i)
inductive Sub:AV→AV→Prop
 | refl (a:AV):Sub a a
 | any (a:AV):Sub a (.im .any)
 | nz (x:IV):Sub (.im x) (.im (Sym.nz x))
theorem RepA.less {w:World} {S:Nat→Prop} {ρ:Ly} {γ:Nat→Nat} {v:Value} {x y:AV} (h:RepA w S ρ γ v x) (s:Sub x y):RepA w S ρ γ v y:=by
 cases s with
 | refl=>exact h
 | any=>exact .im _ _ (.any _)
 | nz x=>exact .im _ _ (nz_rep h.im_inv)
theorem Sub.rfl' {a b:AV} (h:a=b):Sub a b:=h ▸ .refl _
def srcOf:List (Nat×Option Nat)→Nat→Option (Option Nat)
 | [],_=>none
 | p::l,b=>match Nat.beq b p.1 with | true=>some p.2 | false=>srcOf l b
def srcs:List (Nat×Option Nat)→List Nat
 | []=>[]
 | (_,some a)::l=>a::srcs l
 | (_,none)::l=>srcs l
mutual
inductive SubR (σ:St) (src:List (Nat×Option Nat)) (γ:Nat→Nat):AV→AV→Prop
 | im {a:AV} {b:IV} (h:Sub a (.im b)):SubR σ src γ a (.im b)
 | osl {a b g g':Nat} (h:srcOf src b=some (some a)) (hg:σ.gn a=g) (hg':γ b=g'):SubR σ src γ (.osl a g) (.osl b g')
 | osv {a b g g' k m:Nat} (h:srcOf src b=some (some a)) (hg:σ.gn a=g) (hg':γ b=g'):SubR σ src γ (.osv a g k m) (.osv b g' k m)
 | made {b g':Nat} (h:srcOf src b=some none) (hg':γ b=g'):SubR σ src γ (.im (.val (.slice none 0 0))) (.osl b g')
 | own {a b g g' i:Nat} (h:srcOf src b=some (some a)) (hg:σ.gn a=g) (hg':γ b=g'):SubR σ src γ (.own a g i) (.own b g' i)
 | elt {a b g g' k i j:Nat} (h:srcOf src b=some (some a)) (hg:σ.gn a=g) (hg':γ b=g'):SubR σ src γ (.elt a g k i j) (.elt b g' k i j)
 | sub {a b g i:Nat} (h:srcOf src b=some (some a)) (hg:σ.ig a=g):SubR σ src γ (.sub a g i) (.sub b 0 i)
 | fn {f:FuncId} {cs ds:List AV} (h:SubRs σ src γ cs ds):SubR σ src γ (.fn f cs) (.fn f ds)
 | agg {cs ds:List AV} (h:SubRs σ src γ cs ds):SubR σ src γ (.agg cs) (.agg ds)
inductive SubRs (σ:St) (src:List (Nat×Option Nat)) (γ:Nat→Nat):List AV→List AV→Prop
 | nil:SubRs σ src γ [] []
 | cons {c d:AV} {cs ds:List AV} (h:SubR σ src γ c d) (t:SubRs σ src γ cs ds):SubRs σ src γ (c::cs) (d::ds)
end
section
variable {w:World} {S S':Nat→Prop} {σ:St} {ρ ρ':Ly} {src:List (Nat×Option Nat)} {γ:Nat→Nat}
mutual
theorem SubR.rep (hI:∀ v x,RepI w S v x→RepI w S' v x) (hρ:∀ b a,srcOf src b=some (some a)→ρ' b=ρ a∧ρ'.inn b=ρ.inn a) (hn:∀ b,srcOf src b=some none→ρ' b=.slice none 0 0) (hig:(∀ o,ρ.ig o=σ.ig o)∧∀ o,ρ'.ig o=0) :
  ∀ {x y:AV},SubR σ src γ x y→∀ {v:Value},RepA w S ρ σ.gn v x→RepA w S' ρ' γ v y
 | x,_,.im h,v,hr=>.im _ _ (hI _ _ (hr.less h).im_inv)
 | _,_,.osl h hg hg',v,hr=>by
  cases hr with
  | osl _ _ _ h1 h2 h3=>exact .osl _ _ _ h1 (Nat.le_of_eq hg'.symm) fun _=>by rw [(hρ _ _ h).1];exact h3 hg
 | _,_,.osv h hg hg',v,hr=>by
  cases hr with
  | osv _ _ _ _ _ h1 h2 h3=>exact .osv _ _ _ _ _ h1 (Nat.le_of_eq hg'.symm) fun _=>by rw [(hρ _ _ h).1];exact h3 hg
 | _,_,.made h hg',v,hr=>by
  cases hr.im_inv with
  | val _=>exact .osl _ _ _ rfl (Nat.le_of_eq hg'.symm) fun _=>(hn _ h).symm
 | _,_,.own h hg hg',v,hr=>by
  cases hr with
  | own _ _ _ _ h1 h2 h3=>exact .own _ _ _ _ h1 (Nat.le_of_eq hg'.symm) fun _=>by rw [(hρ _ _ h).1];exact h3 hg
 | _,_,.elt h hg hg',v,hr=>by
  cases hr with
  | elt _ _ _ _ _ _ h1 h2 h3=>exact .elt _ _ _ _ _ _ h1 (Nat.le_of_eq hg'.symm) fun _=>by rw [(hρ _ _ h).1];exact h3 hg
 | _,_,.sub h hg,v,hr=>by
  cases hr with
  | sub _ _ _ _ h1 h2 h3=>exact .sub _ _ _ _ h1 (Nat.zero_le _) fun _=>by rw [(hρ _ _ h).2];exact h3 ((hig.1 _).trans hg)
 | _,_,.fn h,v,hr=>by
  cases hr with
  | fn _ us _ hl h1 =>
   have:=SubRs.rep hI hρ hn hig h ⟨hl,h1⟩
   exact .fn _ _ _ this.1 this.2
 | _,_,.agg h,v,hr=>by
  cases hr with
  | agg us _ hl h0 h1 =>
   have:=SubRs.rep hI hρ hn hig h ⟨hl,h1⟩
   exact .agg _ _ this.1 h0 this.2
theorem SubRs.rep (hI:∀ v x,RepI w S v x→RepI w S' v x) (hρ:∀ b a,srcOf src b=some (some a)→ρ' b=ρ a∧ρ'.inn b=ρ.inn a) (hn:∀ b,srcOf src b=some none→ρ' b=.slice none 0 0) (hig:(∀ o,ρ.ig o=σ.ig o)∧∀ o,ρ'.ig o=0) :
  ∀ {xs ys:List AV},SubRs σ src γ xs ys→∀ {us:List Value},Reps w S ρ σ.gn us xs→Reps w S' ρ' γ us ys
 | _,_,.nil,us,hr=>⟨hr.1,fun i u x hu hx=>by simp at hx⟩
 | _,_,.cons h t,[],hr=>by have:=hr.1;simp at this
 | _,_,.cons h t,u::us,hr=>by
  have h1:=SubR.rep hI hρ hn hig h (hr.2 0 u _ rfl rfl)
  have h2:=SubRs.rep hI hρ hn hig t (us:=us) ⟨by simpa using hr.1,fun i u x hu hx=>hr.2 (i+1) u x (by simpa using hu) (by simpa using hx)⟩
  refine ⟨by simp [h2.1],fun i v x hv hx=>?_⟩
  cases i with
  | zero=>simp at hv hx;subst hv hx;exact h1
  | succ i=>exact h2.2 i v x (by simpa using hv) (by simpa using hx)
end
end
def SubL (σ:St) (src:List (Nat×Option Nat)) (γ:Nat→Nat):List (Nat×AV)→Prop
 | []=>True
 | p::l=>(∃ x,σ.av p.1=x∧SubR σ src γ x p.2)∧SubL σ src γ l
def KeepOk (σ:St) (o a:Nat):Prop:=match Nat.blt o 64 with | true=>a=o∧σ.gn a=0 | false=>True
def NilKd (o:Nat) (k:Kd):Prop:=Nat.blt o 64=false∧((∃ e m,k=.row e m []∧0<m)∨(∃ e e' m,k=.grid e e' m [] none)∨∃ t e m,k=.bag t e m [] none)
def KdL (σ:St) (src:List (Nat×Option Nat)):List (Nat×Kd)→Prop
 | []=>True
 | p::l=>((∃ a,srcOf src p.1=some (some a)∧σ.kd a=p.2∧KeepOk σ p.1 a)∨(srcOf src p.1=some none∧NilKd p.1 p.2))∧KdL σ src l
def CeL (σ:St) (src:List (Nat×Option Nat)) (γ:Nat→Nat):List (Nat×Nat×AV)→Prop
 | []=>True
 | p::l=>(∃ a x,srcOf src p.1=some (some a)∧σ.ce a p.2.1=x∧SubR σ src γ x p.2.2)∧CeL σ src γ l
theorem lookA_sub {σ:St} {src:List (Nat×Option Nat)} {γ:Nat→Nat}:∀ {avs:List (Nat×AV)},SubL σ src γ avs→∀ t,SubR σ src γ (σ.av t) (lookA avs t)
 | [],_,t=>.im (.any _)
 | p::l,h,t=>by
  unfold lookA
  split
  ·rename_i e
   have e:=Nat.eq_of_beq_eq_true e
   subst e
   obtain ⟨x,h1,h2⟩:=h.1
   rw [h1]
   exact h2
  ·exact lookA_sub h.2 t
theorem lookC_sub {σ:St} {src:List (Nat×Option Nat)} {γ:Nat→Nat}:∀ {cels:List (Nat×Nat×AV)},CeL σ src γ cels→∀ b a i,srcOf src b=some (some a)→SubR σ src γ (σ.ce a i) (lookC cels b i)
 | [],_,b,a,i,_=>.im (.any _)
 | p::l,h,b,a,i,hs=>by
  unfold lookC
  split
  ·rename_i e
   rw [Bool.and_eq_true] at e
   have e1:=Nat.eq_of_beq_eq_true e.1
   have e2:=Nat.eq_of_beq_eq_true e.2
   subst e1 e2
   obtain ⟨a',x,h1,h3,h2⟩:=h.1
   rw [hs] at h1
   injection h1 with h1
   injection h1 with h1
   subst h1
   rw [h3]
   exact h2
  ·exact lookC_sub h.2 b a i hs
theorem lookK_sub {σ:St} {src:List (Nat×Option Nat)}:∀ {kds:List (Nat×Kd)},KdL σ src kds→∀ o,lookK kds o≠.dead →
  (∃ a,srcOf src o=some (some a)∧σ.kd a=lookK kds o∧KeepOk σ o a)∨(srcOf src o=some none∧NilKd o (lookK kds o))
 | [],_,o,h=>absurd rfl h
 | p::l,h,o,hd=>by
  unfold lookK at hd ⊢
  split
  ·rename_i e
   have e:=Nat.eq_of_beq_eq_true e
   subst e
   exact h.1
  ·rename_i e
   rw [e] at hd
   exact lookK_sub h.2 o hd
theorem gnM_keep {σ:St} {src:List (Nat×Option Nat)}:∀ {kds:List (Nat×Kd)},KdL σ src kds→∀ o,gnM kds o=0→srcOf src o=some (some o)∧σ.gn o=0
 | [],_,o,h=>by simp [gnM] at h
 | p::l,h,o,hg=>by
  unfold gnM at hg
  split at hg
  ·rename_i e
   have e:=Nat.eq_of_beq_eq_true e
   subst e
   split at hg
   ·rename_i hb
    rcases h.1 with ⟨a,h1,_,h3⟩ | ⟨_,h3,_⟩
    ·unfold KeepOk at h3
     rw [hb] at h3
     obtain ⟨rfl,h4⟩:=h3
     exact ⟨h1,h4⟩
    ·rw [hb] at h3;cases h3
   ·cases hg
  ·exact gnM_keep h.2 o hg
theorem srcOf_mem:∀ {src:List (Nat×Option Nat)} {b a:Nat},srcOf src b=some (some a)→a∈srcs src
 | [],b,a,h=>by cases h
 | (c,o)::l,b,a,h=>by
  unfold srcOf at h
  split at h
  ·simp only [Option.some.injEq] at h
   subst h
   simp [srcs]
  ·cases o with
   | none=>exact srcOf_mem (src:=l) h
   | some d=>exact List.mem_cons_of_mem _ (srcOf_mem h)
theorem srcOf_inj:∀ {src:List (Nat×Option Nat)},(srcs src).Nodup→∀ {b c a:Nat},srcOf src b=some (some a)→srcOf src c=some (some a)→b=c
 | [],_,b,c,a,h,_=>by cases h
 | (d,o)::l,hn,b,c,a,h,k=>by
  unfold srcOf at h k
  cases o with
  | none =>
   split at h
   ·cases h
   ·split at k
    ·cases k
    ·exact srcOf_inj (src:=l) hn h k
  | some q =>
   obtain ⟨h1,h2⟩:=List.nodup_cons.1 hn
   split at h
   ·rename_i e1
    simp only [Option.some.injEq] at h
    subst h
    split at k
    ·rename_i e2
     rw [Nat.eq_of_beq_eq_true e1,Nat.eq_of_beq_eq_true e2]
    ·exact absurd (srcOf_mem k) h1
   ·split at k
    ·simp only [Option.some.injEq] at k
     subst k
     exact absurd (srcOf_mem h) h1
    ·exact srcOf_inj h2 h k
theorem Ent.refl (σ:St):Ent σ σ:=fun _ _ _ h=>h
theorem Ent.trans {σ σ' σ'':St} (h:Ent σ σ') (k:Ent σ' σ''):Ent σ σ'':=fun B a w hs=>k B a w (h B a w hs)
theorem Ent.mk {σ:St} {avs:List (Nat×AV)} {kds:List (Nat×Kd)} {cels:List (Nat×Nat×AV)} (src:List (Nat×Option Nat)) (hn:ndB (srcs src) []=true) (ha:SubL σ src (gnM kds) avs) (hk:KdL σ src kds) (hc:CeL σ src (gnM kds) cels):Ent σ (mkSt avs kds cels):=by
 rintro B a w ⟨ρ,hs⟩
 have hnd:=(ndB_spec hn).1
 let ρ':Ly:=⟨fun b=>match srcOf src b with | some (some a)=>ρ a | _=>.slice none 0 0,fun b=>match srcOf src b with | some (some a)=>ρ.inn a | _=>[],fun _=>0⟩
 have hρ:∀ b a,srcOf src b=some (some a)→ρ' b=ρ a∧ρ'.inn b=ρ.inn a:=fun b a h=>by simp only [ρ',h];exact ⟨trivial,trivial⟩
 have hρn:∀ b,srcOf src b=some none→ρ' b=.slice none 0 0:=fun b h=>by simp only [ρ',h]
 have hρi:∀ b,srcOf src b=some none→ρ'.inn b=[]:=fun b h=>by simp only [ρ',h]
 have hkd:∀ o,(mkSt avs kds cels).kd o=lookK kds o:=fun _=>rfl
 have hown:∀ o q,Owns (mkSt avs kds cels) ρ' o q→∃ a,srcOf src o=some (some a)∧Owns σ ρ a q:=fun o q hq=>by
  rcases lookK_sub hk o hq.lv with ⟨a,h1,h2,_⟩ | ⟨h1,_,h2⟩
  ·refine ⟨a,h1,?_⟩
   unfold Owns at hq ⊢
   rw [hkd,(hρ o a h1).1,(hρ o a h1).2] at hq
   rw [h2]
   exact hq
  ·unfold Owns at hq
   rw [hkd,hρn o h1,hρi o h1] at hq
   rcases h2 with ⟨e,m,h2,_⟩ | ⟨e,e',m,h2⟩ | ⟨t,e,m,h2⟩
   ·rw [h2] at hq;simp [fpk,blkOf] at hq
   ·rw [h2] at hq;simp [fpk,fpv,blkOf] at hq
   ·rw [h2] at hq;simp [fpk,fpv,blkOf] at hq
 have hS:∀ b,Imm B σ ρ w b→Imm B (mkSt avs kds cels) ρ' w b:=fun b hi=>⟨hi.1,hi.2.1,fun o hq=>by
  obtain ⟨a,_,h2⟩:=hown o b hq
  exact hi.2.2.1 a h2,hi.2.2.2⟩
 have hI:∀ v x,RepI w (Imm B σ ρ w) v x→RepI w (Imm B (mkSt avs kds cels) ρ' w) v x:=fun v x hr=>hr.mono hS fun _ _ _ h=>h
 have hA:∀ {x y:AV},SubR σ src (gnM kds) x y→∀ {v:Value},RepA w (Imm B σ ρ w) ρ σ.gn v x→RepA w (Imm B (mkSt avs kds cels) ρ' w) ρ' (mkSt avs kds cels).gn v y:=fun h _ hr=>SubR.rep hI hρ hρn ⟨hs.igs,fun _=>rfl⟩ h hr
 refine ⟨ρ',hs.bel,fun o=>?_,fun o b ho=>?_,fun o p b h1 h2=>?_,fun t=>hA (lookA_sub ha t) (hs.tms t),fun _=>rfl,fun b hb=>⟨(hs.res b hb).1,fun o ho=>?_⟩,fun o v hl hg=>?_,hs.siz,hs.dfr⟩
 ·rw [hkd]
  have nil:srcOf src o=some none→NilKd o (lookK kds o)→ObjOk B (mkSt avs kds cels) ρ' w o (lookK kds o):=fun h1 ⟨_,h2⟩=>by
   rcases h2 with ⟨e,m,h2,h3⟩ | ⟨e,e',m,h2⟩ | ⟨t,e,m,h2⟩
   ·rw [h2]
    show RowOk w _ (ρ' o) e m []
    rw [hρn o h1]
    exact ⟨[],h3,by simp,by simp,World.ownsRow_nil _ _ _ _,rfl,by simp,by simp⟩
   ·rw [h2]
    show GridOk w _ (ρ' o) (ρ'.inn o) e e' m [] none
    rw [hρn o h1,hρi o h1]
    exact ⟨List.nodup_nil,rfl,[],Nat.zero_le _,World.ownsRow_nil _ _ _ _,by simp,fun i u hu=>by simp at hu⟩
   ·rw [h2]
    show BagOk w _ (ρ' o) (ρ'.inn o) t e m []∧_
    rw [hρn o h1,hρi o h1]
    exact ⟨⟨rfl,List.nodup_nil,[],rfl,rfl,fun i g row hg _=>by simp at hg⟩,fun p hp=>by cases hp⟩
  have main:∀ a,srcOf src o=some (some a)→σ.kd a=lookK kds o→ObjOk B (mkSt avs kds cels) ρ' w o (lookK kds o):=fun a h1 h2=>by
   have ho:=hs.obs a
   rw [h2] at ho
   obtain ⟨e1,e2⟩:=hρ o a h1
   cases e:lookK kds o with
   | dead=>trivial
   | box t m =>
    rw [e] at ho
    obtain ⟨b,us,h3,h4,h5,h6,h7⟩:=ho
    exact ⟨b,us,e1.trans h3,h4,h5,h6,fun i u hu=>hA (lookC_sub hc o a i h1) (h7 i u hu)⟩
   | row t k es =>
    rw [e] at ho
    show HoldOk w (Imm B (mkSt avs kds cels) ρ' w) (ρ' o) (ρ'.inn o) (.row t k es)
    rw [e1,e2]
    exact HoldOk.mono (k:=.row t k es) ho (fun _ _=>rfl) hI
   | grid t t' k gs q =>
    rw [e] at ho
    show HoldOk w (Imm B (mkSt avs kds cels) ρ' w) (ρ' o) (ρ'.inn o) (.grid t t' k gs q)
    rw [e1,e2]
    exact HoldOk.mono (k:=.grid t t' k gs q) ho (fun _ _=>rfl) hI
   | map l =>
    rw [e] at ho
    show HoldOk w (Imm B (mkSt avs kds cels) ρ' w) (ρ' o) (ρ'.inn o) (.map l)
    rw [e1,e2]
    exact HoldOk.mono (k:=.map l) ho (fun _ _=>rfl) hI
   | bag ty te m l q =>
    rw [e] at ho
    show BagOk w (Imm B (mkSt avs kds cels) ρ' w) (ρ' o) (ρ'.inn o) ty te m l∧_
    rw [e1,e2]
    exact ⟨BagOk.mono ho.1 (fun _ _=>rfl) hI,fun p hp=>hA (lookC_sub hc o a 0 h1) (ho.2 p hp)⟩
   | mapI l c =>
    rw [e] at ho
    show GoOk w (Imm B (mkSt avs kds cels) ρ' w) (ρ' o) (ρ'.inn o) l c
    rw [e1,e2]
    exact GoOk.mono ho (fun _ _=>rfl) hI
   | que t k es =>
    rw [e] at ho
    show HoldOk w (Imm B (mkSt avs kds cels) ρ' w) (ρ' o) (ρ'.inn o) (.que t k es)
    rw [e1,e2]
    exact HoldOk.mono (k:=.que t k es) ho (fun _ _=>rfl) hI
  by_cases hd:lookK kds o=.dead
  ·rw [hd];trivial
  ·rcases lookK_sub hk o hd with ⟨a,h1,h2,_⟩ | ⟨h1,h2⟩
   ·exact main a h1 h2
   ·exact nil h1 h2
 ·obtain ⟨a,_,h2⟩:=hown o b ho
  exact hs.own a b h2
 ·obtain ⟨c,e1,b1⟩:=hown o b h1
  obtain ⟨d,e2,b2⟩:=hown p b h2
  have:=hs.dis c d b b1 b2
  subst this
  exact srcOf_inj hnd e1 e2
 ·obtain ⟨a,_,h2⟩:=hown o b ho
  exact (hs.res b hb).2 a h2
 ·obtain ⟨h1,h2⟩:=gnM_keep hk o hg
  rw [(hρ o o h1).1]
  exact hs.rt o v hl h2
theorem SatR.say {B:Base} {σ:St} {a:Act} {w:World} {ρ:Ly} (h:SatR B σ a w ρ) (t:Nat) {v:AV} (hv:RepA w (Imm B σ ρ w) ρ σ.gn (a.tmps.getD t undef) v):SatR B (upd σ (.tmp t) (.av v)) a w ρ:=by
 refine h.slots (SameObj.tmp σ t (.av v)) (fun u=>?_) h.siz h.dfr
 rw [av_tmp]
 by_cases e:u=t
 ·rw [if_pos e,e];exact hv
 ·rw [if_neg e];exact h.tms u
theorem Ent.fz {σ:St} (t:Nat) {x:IV} {bs:List (Nat×Nat)} (h:fz σ (σ.av t)=some (x,bs)) (hg:gok σ bs):Ent σ (upd (app σ (fwr bs)) (.tmp t) (.av (.im x))):=by
 rintro B a w ⟨ρ,hs⟩
 exact ⟨ρ,(hs.kills bs).1.say t (.im _ _ (fz_ok hs (bs':=bs) (gok_mem hg) (hs.tms t) h fun _ h=>h))⟩
theorem Ent.que {σ:St} (o:Nat) {e:TypeId} {k:Nat} {es:List (List IV)} (h:σ.kd o=.row e k es):Ent σ (upd σ (.knd o) (.kd (.que e k es))):=by
 rintro B a w ⟨ρ,hs⟩
 have hown:∀ p b,Owns (upd σ (.knd o) (.kd (.que e k es))) ρ p b↔Owns σ ρ p b:=fun p b=>by
  unfold Owns
  rw [kd_knd]
  by_cases hp:p=o
  ·rw [if_pos hp,hp,h];rfl
  ·rw [if_neg hp]
 have himm:Imm B (upd σ (.knd o) (.kd (.que e k es))) ρ w=Imm B σ ρ w:=by
  funext b
  unfold Imm
  simp only [hown]
 have hgn:(upd σ (.knd o) (.kd (.que e k es))).gn=σ.gn:=funext fun p=>gn_knd σ o p _
 refine ⟨ρ,hs.bel,fun p=>?_,fun p b hp=>hs.own p b ((hown p b).1 hp),fun p q b hp hq=>hs.dis p q b ((hown p b).1 hp) ((hown q b).1 hq),fun t=>?_,fun p=>by rw [ig_knd];exact hs.igs p,fun b hb=>⟨(hs.res b hb).1,fun p hp=>(hs.res b hb).2 p ((hown p b).1 hp)⟩,fun p v hl hg=>hs.rt p v hl (by rw [hgn] at hg;exact hg),hs.siz,hs.dfr⟩
 ·rw [kd_knd]
  by_cases hp:p=o
  ·rw [if_pos hp]
   have ho:=hs.obs p
   rw [hp,h] at ho
   show QueOk w (Imm B _ ρ w) (ρ p) e k es
   rw [himm,hp]
   exact RowOk.que ho
  ·rw [if_neg hp]
   exact (hs.obs p).mono rfl rfl (fun i=>ce_knd σ o p i _) (fun _ _=>rfl) (fun v x hr=>by rw [himm];exact hr) fun v x hr=>by rw [himm,hgn];exact hr
 ·rw [himm,hgn,av_knd]
  exact hs.tms t
def Ok (x:IV):Prop:=∃ w S v,RepI w S v x
def OkL (es:List (List IV)):Prop:=es.length≤17592186044416∧∀ e∈es,∀ x∈e,Ok x
theorem ok_flat {w:World} {S:Nat→Prop} {es:List (List IV)} {us:List Value} (hl:us.length=es.flatten.length) (hr:∀ (i:Nat) u x,us[i]?=some u→es.flatten[i]?=some x→RepI w S u x):∀ e∈es,∀ x∈e,Ok x:=fun e he x hx=>by
 have hm:x∈es.flatten:=List.mem_flatten.2 ⟨e,he,hx⟩
 obtain ⟨i,hi⟩:=List.getElem?_of_mem hm
 have hlt:i<us.length:=by rw [hl];exact (List.getElem?_eq_some_iff.1 hi).1
 exact ⟨w,S,_,hr i _ x (List.getElem?_eq_getElem hlt) hi⟩
theorem Ok.sl {es:List (List IV)} (h:Ok (.sl es)):OkL es:=by
 obtain ⟨w,S,v,h⟩:=h
 cases h with
 | emp A c=>exact ⟨Nat.zero_le _,by simp⟩
 | sl b o c k n _ us hn hk hc hs hS hl h1 hu hr=>exact ⟨by omega,ok_flat hl hr⟩
theorem ok_all {w:World} {S:Nat→Prop} {cs:List IV} {us:List Value} (hl:us.length=cs.length) (hr:∀ (i:Nat) u x,us[i]?=some u→cs[i]?=some x→RepI w S u x):∀ x∈cs,Ok x:=fun x hx=>by
 obtain ⟨i,hi⟩:=List.getElem?_of_mem hx
 have hlt:i<us.length:=by rw [hl];exact (List.getElem?_eq_some_iff.1 hi).1
 exact ⟨w,S,_,hr i _ x (List.getElem?_eq_getElem hlt) hi⟩
theorem Ok.agg {cs:List IV} (h:Ok (.agg cs)):∀ x∈cs,Ok x:=by
 obtain ⟨w,S,v,h⟩:=h
 cases h with
 | agg us _ hl h1 hr=>exact ok_all hl hr
theorem Ok.agg_at {cs:List IV} {x:IV} (h:Ok (.agg cs)) (i:Nat) (hx:cs[i]?=some x):Ok x:=h.agg x (List.mem_of_getElem? hx)
theorem Ok.ref {cs:List IV} (h:Ok (.ref cs)):∀ x∈cs,Ok x:=by
 obtain ⟨w,S,v,h⟩:=h
 cases h with
 | ref b o us _ hS hl h1 hu hr=>exact ok_all hl hr
theorem Ok.ref_at {cs:List IV} {x:IV} (h:Ok (.ref cs)) (i:Nat) (hx:cs[i]?=some x):Ok x:=h.ref x (List.mem_of_getElem? hx)
theorem Holds.true_ (σ:St):Holds σ True:=fun _ _ _ _=>trivial
theorem Holds.and {σ:St} {φ ψ:Prop} (h:Holds σ φ) (k:Holds σ ψ):Holds σ (φ∧ψ):=fun B a w hs=>⟨h B a w hs,k B a w hs⟩
theorem Holds.av {σ:St} (t:Nat) {x:IV} (h:σ.av t=.im x):Holds σ (Ok x):=by
 rintro B a w ⟨ρ,hs⟩
 have h1:=hs.tms t
 rw [h] at h1
 exact ⟨_,_,_,h1.im_inv⟩
theorem Holds.ce {σ:St} (o i:Nat) {t:TypeId} {m:Nat} {x:IV} (hk:σ.kd o=.box t m) (hi:i<m) (h:σ.ce o i=.im x):Holds σ (Ok x):=by
 rintro B a w ⟨ρ,hs⟩
 have ho:=hs.obs o
 rw [hk] at ho
 obtain ⟨b,us,h3,h5,h6,h7,h8⟩:=ho
 have:=h8 i _ (List.getElem?_eq_getElem (by omega))
 rw [h] at this
 exact ⟨_,_,_,this.im_inv⟩
theorem Holds.kd {σ:St} (o:Nat) {t:TypeId} {k:Nat} {es:List (List IV)} (hk:σ.kd o=.row t k es):Holds σ (OkL es):=by
 rintro B a w ⟨ρ,hs⟩
 have ho:=hs.obs o
 rw [hk] at ho
 obtain ⟨us,h1,h2,h3,h4,h5,h6,h7⟩:=ho
 exact ⟨h3,ok_flat h5 h7⟩
theorem Holds.kdq {σ:St} (o:Nat) {t:TypeId} {k:Nat} {es:List (List IV)} (hk:σ.kd o=.que t k es):Holds σ (OkL es):=by
 rintro B a w ⟨ρ,hs⟩
 have ho:=hs.obs o
 rw [hk] at ho
 obtain ⟨us,h1,h2,h3,h5,h6,h7,h8⟩:=ho
 exact ⟨h3,ok_flat h5 h7⟩
theorem Holds.mono {σ:St} {φ ψ:Prop} (h:Holds σ φ) (k:φ→ψ):Holds σ ψ:=fun B a w hs=>k (h B a w hs)
def iter {S R:Type} (step:S→Option (S⊕R)):Nat→S→Option R
 | 0,_=>none
 | n+1,s=>match step s with
  | none=>none
  | some (.inl s')=>iter step n s'
  | some (.inr r)=>some r
def Fin {S R:Type} (step:S→Option (S⊕R)) (r:R) (k:Nat):S⊕R→Prop
 | .inl s'=>iter step k s'=some r
 | .inr r'=>r'=r
def Nxt {S R:Type} (step:S→Option (S⊕R)) (r:R) (st:S→St) (k:Nat) (σ':St):Prop:=∃ m',m'<k+1∧∃ s,iter step m' s=some r∧Ent σ' (st s)
theorem Nxt.mk {S R:Type} {step:S→Option (S⊕R)} {r:R} {st:S→St} {k:Nat} {σ':St} (s:S) (h:Fin step r k (.inl s)) (e:Ent σ' (st s)):Nxt step r st k σ':=⟨k,Nat.lt_succ_self _,s,h,e⟩
attribute [irreducible] Nxt
theorem Loops.iter {S R:Type} (step:S→Option (S⊕R)) (st:S→St) (φ:S→Prop) {body:(Exit→St→Prop)→St→Prop} {K:Exit→St→Prop} {σ:St} {n:Nat} {s0:S} {r:R}
  (h:Sym.iter step n s0=some r) (e0:Ent σ (st s0)) (hφ:∀ s,Holds (st s) (φ s))
  (hb:∀ k s o,φ s→step s=some o→Fin step r k o→body (fun e σ'=>match e with | .normal=>Nxt step r st k σ' | e=>K e σ') (st s)):Loops body K σ:=by
 unfold Loops
 refine ⟨fun m σ=>∃ s,Sym.iter step m s=some r∧Ent σ (st s),n,⟨s0,h,e0⟩,?_⟩
 rintro m σ ⟨s,hm,he⟩
 refine ⟨st s,φ s,he,hφ s,fun hp=>?_⟩
 cases m with
 | zero=>cases hm
 | succ k =>
  unfold Sym.iter at hm
  split at hm
  ·cases hm
  ·rename_i s' hs
   have:=hb k s _ hp hs hm
   unfold Nxt at this
   exact this
  ·rename_i r' hs
   have:=hb k s _ hp hs (by injection hm)
   unfold Nxt at this
   exact this
def Join (s σ':St):Prop:=∃ σ1,Ent σ' σ1∧σ1=s
theorem Join.mk {s σ':St} (e:Ent σ' s):Join s σ':=⟨s,e,rfl⟩
attribute [irreducible] Join
theorem Cut.mk (s:St) (φ:Prop) {body:(St→Prop)→Prop} {rest:St→Prop} (hφ:Holds s φ) (h:body (Join s)) (k:φ→rest s):Cut body rest:=by
 unfold Cut
 unfold Join at h
 exact ⟨fun σ=>σ=s,h,fun σ e=>⟨φ,by rw [e];exact hφ,fun hp=>by rw [e];exact k hp⟩⟩
end Go.Proofs.YtkeplokjplkcmaaGreat.Sym

/-
 The plain reading at work: a function's contract out of its code; the steps of a walk; how values are written.
-/
namespace Go.Proofs.YtkeplokjplkcmaaGreat.Sym
open Go.RowKit
def OkOc:Oc→Prop
 | .im x=>Ok x
 | .ow (.row _ _ es)=>OkL es
 | .ow (.grid _ _ _ gs _)=>gs.length≤17592186044416
 | .ow _=>True
def OkOcs:List Oc→Prop
 | []=>True
 | c::l=>OkOc c∧OkOcs l
def OkA:Arg→Prop
 | .im x=>Ok x
 | .ow k=>OkOc (.ow k)
 | .box _ cs=>OkOcs cs
 | .lent k=>OkOc (.ow k)
def OkAs:List Arg→Prop
 | []=>True
 | x::l=>OkA x∧OkAs l
theorem okOc_of {w:World} {S:Nat→Prop} {u:Value}:∀ {c:Oc} {F:List Nat},OcOk w S u c F→OkOc c
 | .im x,_,h=>⟨w,S,u,h.1⟩
 | .ow (.row _ _ es),_,⟨_,_,⟨ws,h1,h2,h3,h4,h5,h6,h7⟩,_⟩=>⟨h3,ok_flat h5 h7⟩
 | .ow (.grid _ _ _ gs _),_,⟨_,_,⟨_,_,_,h,_⟩,_⟩=>h
 | .ow (.map _),_,_=>trivial
 | .ow .dead,_,_=>trivial
 | .ow (.box _ _),_,_=>trivial
 | .ow (.que _ _ _),_,_=>trivial
theorem okOcs_of {w:World} {S:Nat→Prop}:∀ {us:List Value} {cs:List Oc} {F:List Nat},OcsOk w S us cs F→OkOcs cs
 | [],[],_,_=>trivial
 | _::_,_::_,_,⟨_,_,h1,h2,_⟩=>⟨okOc_of h1,okOcs_of h2⟩
 | [],_::_,_,h=>h.elim
 | _::_,[],_,h=>h.elim
theorem okA_of {w:World} {S:Nat→Prop} {u:Value}:∀ {x:Arg} {F:List Nat},ArgOk w S u x F→OkA x
 | .im x,_,h=>⟨w,S,u,h.1⟩
 | .ow k,_,h=>okOc_of (c:=.ow k) h
 | .box _ _,_,⟨_,_,_,_,_,_,h,_⟩=>okOcs_of h
 | .lent k,_,h=>okOc_of (c:=.ow k) h
theorem oks_of {w:World} {S:Nat→Prop}:∀ {us:List Value} {xs:List Arg} {F:List Nat},ArgsOk w S us xs F→OkAs xs
 | [],[],_,_=>trivial
 | _::_,_::_,_,⟨_,_,h1,h2,_⟩=>⟨okA_of h1,oks_of h2⟩
 | [],_::_,_,h=>h.elim
 | _::_,[],_,h=>h.elim
theorem sp_of {P:Program} {f:FuncId} {fn:Func} {c:Code} {xs:List Arg} {r:Rs} (hm:P.follows .mixedOrders=true) (own:List Nat) (hf:P.funcs[f]?=some fn) (hname:(fn.name=="runtime.NumGoroutine")=false) (hb:fn.body=some c)
  (hn:xs.length≤fn.ntmps) (hok:entOk xs=true) (h:OkAs xs→frcW (entW xs) 0 sig0 fun _ σ=>aCode P (SpX P) fn.ntmps own c (retK P fn.results.toList xs r) σ):Sp P f xs r :=
 sp_of_code hm (C:=SpX P) (fun _ _ _ h=>h) hf hname hb hn hok fun _ _ _ _ ha=>by
  have:=h (oks_of ha)
  rw [frcW_eq] at this
  exact this
theorem sp_ofA {P:Program} {f:FuncId} {fn:Func} {c:Code} {xs:List Arg} {r:Rs} (hm:P.follows .mixedOrders=true) (own:List Nat) (t:TypeId) (l:List Oc) (k:Nat) (hl:l.length+k=xs.length) (hf:P.funcs[f]?=some fn) (hname:(fn.name=="runtime.NumGoroutine")=false) (hb:fn.body=some c)
  (hn:xs.length≤fn.ntmps) (hn2:k+1≤fn.ntmps) (hok:entOk xs=true) (h:OkAs xs→frcW (entW xs) 0 sig0 fun m σ=>frcW (entA l.length k σ) m σ fun _ σ'=>aCode P (SpX P) fn.ntmps own c (retKA P t fn.results.toList xs r) σ'):SpX P f (.lent .dead::.box t l::xs) r :=
 sp_ofA_code hm (C:=SpX P) (fun _ _ _ h=>h) hf hname hb hl hn hn2 hok fun _ _ _ _ ha=>by
  have:=h (oks_of ha)
  rw [frcW_eq,frcW_eq] at this
  exact this
theorem sp_ofT {P:Program} {f:FuncId} {fn:Func} {c:Code} {xs:List Arg} {r:Rs} (hm:P.follows .mixedOrders=true) (own:List Nat) (hf:P.funcs[f]?=some fn) (hname:(fn.name=="runtime.NumGoroutine")=false) (hb:fn.body=some c)
  (hn:xs.length≤fn.ntmps) (hok:entOk xs=true) (h:OkAs xs→frcW (entW xs) 0 sig0 fun _ σ=>aCode P (SpX P) fn.ntmps own c (retKA P 1 fn.results.toList xs r) σ):SpX P f (.lent .dead::.ow .dead::xs) r :=
 sp_ofT_code hm (C:=SpX P) (fun _ _ _ h=>h) hf hname hb hn hok fun _ _ _ _ ha=>by
  have:=h (oks_of ha)
  rw [frcW_eq] at this
  exact this
inductive FrzL:List Oc→List Oc→Prop
 | nil:FrzL [] []
 | keep (c:Oc) {l l':List Oc} (h:FrzL l l'):FrzL (c::l) (c::l')
 | row {e:TypeId} {k:Nat} {es:List (List IV)} {l l':List Oc} (h:FrzL l l'):FrzL (.ow (.row e k es)::l) (.im (.sl es)::l')
 | grid {e e':TypeId} {k:Nat} {gs:List (List IV)} {l l':List Oc} (h:FrzL l l'):FrzL (.ow (.grid e e' k gs none)::l) (.im (.sl gs)::l')
theorem RepI.up {w:World} {S S':Nat→Prop} (hS:∀ b,S b→S' b) {v:Value} {x:IV} (h:RepI w S v x):RepI w S' v x:=h.mono hS fun _ _ _ h=>h
theorem Sp.frz {P:Program} {g:FuncId} {xs:List Arg} {tp:Bool} {l l':List Oc} {ys:List Arg} (hl:FrzL l l') (h:Sp P g xs (.mk tp l ys)):Sp P g xs (.mk tp l' ys) :=
 ⟨h.1,fun w S vs F hS ha hn hF=>(h.2 w S vs F hS ha hn hF).mono fun e w' ⟨v,F',h1,h2,⟨us,F1,F2,h3,h4,h5,h6⟩,h7,h8⟩=>by
  subst h6
  rw [List.nodup_append] at h7
  -- the frozen blocks leave the footprint
  have hlt:∀ b∈F1,(w.heap.size≤b∨b∈F)∧b<w'.heap.size:=fun b hb=>h8 b (List.mem_append_left _ hb)
  have key:∀ (l l':List Oc),FrzL l l'→∀ (us:List Value) (F1:List Nat) (S:Nat→Prop),OcsOk w' S us l F1→F1.Nodup→∃ Fk,Fk.Sublist F1∧∀ (S':Nat→Prop),(∀ b,S b→S' b)→(∀ b∈F1,b∉Fk→S' b)→OcsOk w' S' us l' Fk:=by
   intro l l' hl
   induction hl with
   | nil =>
    intro us F1 S h _
    match us,h with
    | [],h=>exact ⟨[],List.nil_sublist _,fun _ _ _=>rfl⟩
   | keep c _ ih =>
    intro us F1 S h hnd
    match us,h with
    | u::us,⟨G1,G2,h1,h2,h3⟩ =>
     subst h3
     rw [List.nodup_append] at hnd
     obtain ⟨Fk,a1,a2⟩:=ih us G2 S h2 hnd.2.1
     exact ⟨G1++Fk,List.Sublist.append_left a1 _,fun S' hS hF=>⟨G1,Fk,h1.mono fun u x hr=>hr.up hS,a2 S' hS fun b hb hnb=>hF b (by simp [hb]) fun hm=>by
      rcases List.mem_append.1 hm with hm | hm
      ·exact hnd.2.2 b hm b hb rfl
      ·exact hnb hm,rfl⟩⟩
   | row _ ih =>
    intro us F1 S h hnd
    match us,h with
    | u::us,⟨G1,G2,⟨_,inn,h1,e1⟩,h2,h3⟩ =>
     subst h3
     rw [List.nodup_append] at hnd
     obtain ⟨Fk,a1,a2⟩:=ih us G2 S h2 hnd.2.1
     refine ⟨[]++Fk,(List.nil_append Fk).symm ▸ a1.trans (List.sublist_append_right _ _),fun S' hS hF=>⟨[],Fk,⟨RowOk.repI h1 (fun b hb=>?_) fun u x hr=>hr.up hS,rfl⟩,a2 S' hS fun b hb hnb=>hF b (by simp [hb]) (by simpa using hnb),rfl⟩⟩
     have hb1:b∈G1:=by rw [e1];simp [fpk,hb]
     exact ⟨hF b (by simp [hb1]) fun hm=>hnd.2.2 b hb1 b (a1.subset (by simpa using hm)) rfl,rfl⟩
   | grid _ ih =>
    intro us F1 S h hnd
    match us,h with
    | u::us,⟨G1,G2,⟨_,inn,h1,e1⟩,h2,h3⟩ =>
     subst h3
     rw [List.nodup_append] at hnd
     obtain ⟨Fk,a1,a2⟩:=ih us G2 S h2 hnd.2.1
     refine ⟨[]++Fk,(List.nil_append Fk).symm ▸ a1.trans (List.sublist_append_right _ _),fun S' hS hF=>⟨[],Fk,⟨GridOk.repI h1 (fun b hb=>?_) fun u x hr=>hr.up hS,rfl⟩,a2 S' hS fun b hb hnb=>hF b (by simp [hb]) (by simpa using hnb),rfl⟩⟩
     have hb1:b∈G1:=by rw [e1];exact hb
     exact ⟨hF b (by simp [hb1]) fun hm=>hnd.2.2 b hb1 b (a1.subset (by simpa using hm)) rfl,rfl⟩
  obtain ⟨Fk,a1,a2⟩:=key l l' hl us F1 _ h4 h7.1
  have hsub:∀ b,b∈Fk++F2→b∈F1++F2:=fun b hb=>by
   rcases List.mem_append.1 hb with hb | hb
   ·exact List.mem_append_left _ (a1.subset hb)
   ·exact List.mem_append_right _ hb
  have hup:∀ b,((S b∨w.heap.size≤b∨b∈F)∧b<w'.heap.size∧b∉F1++F2)→((S b∨w.heap.size≤b∨b∈F)∧b<w'.heap.size∧b∉Fk++F2):=fun b hb=>⟨hb.1,hb.2.1,fun hm=>hb.2.2 (hsub b hm)⟩
  refine ⟨v,Fk++F2,h1,h2,⟨us,Fk,F2,h3,a2 _ hup fun b hb hnb=>⟨.inr (hlt b hb).1,(hlt b hb).2,fun hm=>?_⟩,h5.mono fun u x hr=>hr.up hup,rfl⟩,?_,fun b hb=>h8 b (hsub b hb)⟩
  ·rcases List.mem_append.1 hm with hm | hm
   ·exact hnb hm
   ·exact h7.2.2 b hb b hm rfl
  ·rw [List.nodup_append]
   exact ⟨a1.nodup h7.1,h7.2.1,fun x hx y hy=>h7.2.2 x (a1.subset hx) y hy⟩⟩
theorem Sp.im {P:Program} {g:FuncId} {xs:List Arg} {e:TypeId} {k:Nat} {es:List (List IV)} (h:Sp P g xs (.row e k es)):Sp P g xs (.im (.sl es)):=Sp.frz (.row .nil) h
theorem Sp.args {P:Program} {g:FuncId} {xs ys:List Arg} {r:Rs} (h:Sp P g xs r) (e:ys=xs):Sp P g ys r:=e ▸ h
theorem Sp.rs {P:Program} {g:FuncId} {xs:List Arg} {r r':Rs} (h:Sp P g xs r) (e:r=r'):Sp P g xs r':=e ▸ h
abbrev cI (x:Int):List IV:=[.val (.int .i64 x)]
abbrev cB (x:Bool):List IV:=[.val (.bool x)]
abbrev cL {α:Type} (c:α→List IV) (l:List α):List IV:=[.sl (l.map c)]
abbrev nI (n:Int):IV:=.val (.int .i64 n)
abbrev nB (b:Bool):IV:=.val (.bool b)
abbrev nL {α:Type} (c:α→List IV) (l:List α):IV:=.sl (l.map c)
instance (n:Int):Decidable (inR n):=by unfold inR;infer_instance
instance (n b:Nat):Decidable (capOk n b):=by unfold capOk;infer_instance
def fuel:Nat:=1000000000000000000000
section
variable {α β:Type}
def chk (c:Prop) [Decidable c] (k:Option α):Option α:=if c then k else none
def idx (l:List α) (n:Int) (k:α→Option β):Option β:=if 0≤n then (match l[n.toNat]? with | some x=>k x | none=>none) else none
theorem chk_some {c:Prop} [Decidable c] {k:Option α} {r:α} (h:chk c k=some r):c∧k=some r:=by
 unfold chk at h
 split at h
 ·exact ⟨‹_›,h⟩
 ·cases h
theorem idx_some {l:List α} {n:Int} {k:α→Option β} {r:β} (h:idx l n k=some r):∃ x,0≤n∧l[n.toNat]?=some x∧k x=some r:=by
 unfold idx at h
 split at h
 ·split at h
  ·rename_i x hx
   exact ⟨x,‹_›,hx,h⟩
  ·cases h
 ·cases h
theorem bind_some {o:Option α} {f:α→Option β} {r:β} (h:o.bind f=some r):∃ x,o=some x∧f x=some r:=by
 cases o with
 | none=>cases h
 | some x=>exact ⟨x,rfl,h⟩
theorem sum_inl {Y Z R:Type} {f:Y→Option R} {g:Z→Option R} {y:Y} {r:R} (h:Sum.elim f g (.inl y)=some r):f y=some r:=h
theorem cond_t {b:Bool} {x y z:α} (hb:b=true) (h:cond b x y=z):x=z:=by rw [hb] at h;exact h
theorem cond_f {b:Bool} {x y z:α} (hb:b=false) (h:cond b x y=z):y=z:=by rw [hb] at h;exact h
def idxn (l:List α) (n:Nat) (k:α→Option β):Option β:=match l[n]? with | some x=>k x | none=>none
theorem idxn_some {l:List α} {n:Nat} {k:α→Option β} {r:β} (h:idxn l n k=some r):∃ x,l[n]?=some x∧k x=some r:=by
 unfold idxn at h
 split at h
 ·rename_i x hx
  exact ⟨x,hx,h⟩
 ·cases h
theorem beq_tt {b:Bool} (h:(b==true)=true):b=true:=by cases b<;>simp_all
theorem beq_tf {b:Bool} (h:(b==true)=false):b=false:=by cases b<;>simp_all
theorem beq_ff {b:Bool} (h:(b==false)=true):b=false:=by cases b<;>simp_all
theorem beq_ft {b:Bool} (h:(b==false)=false):b=true:=by cases b<;>simp_all
theorem tt_beq {b:Bool} (h:b=true):(b==true)=true:=by rw [h];rfl
theorem ff_beq {b:Bool} (h:b=false):(b==false)=true:=by rw [h];rfl
theorem tf_beq {b:Bool} (h:b=true):(b==false)=false:=by rw [h];rfl
theorem ft_beq {b:Bool} (h:b=false):(b==true)=false:=by rw [h];rfl
theorem map_at {l:List α} {c:α→β} {i:Nat} {x:α} (h:l[i]?=some x):(l.map c)[i]?=some (c x):=by rw [List.getElem?_map,h];rfl
theorem map_lt {l:List α} {c:α→β} {i:Nat} {x:α} (h:l[i]?=some x):i<(l.map c).length:=by
 rw [List.length_map]
 exact (List.getElem?_eq_some_iff.1 h).1
theorem map_len {l:List α} {c:α→List β} {k:Nat} (h:∀ x,(c x).length=k):∀ e∈l.map c,e.length=k:=fun e he=>by
 obtain ⟨x,_,rfl⟩:=List.mem_map.1 he
 exact h x
theorem len_map {l:List α} {c:α→β}:l.length=(l.map c).length:=(List.length_map _).symm
theorem app_map {l m:List α} {c:α→β}:(l++m).map c=l.map c++m.map c:=List.map_append
theorem take_map {l:List α} {c:α→β} {n:Nat}:(l.take n).map c=((l.map c).take n).drop 0:=by rw [List.map_take];rfl
theorem drop_map {l:List α} {c:α→β} {n:Nat}:(l.drop n).map c=((l.map c).take ((l.map c).length:Int).toNat).drop n:=by rw [List.map_drop,Int.toNat_natCast,List.take_length]
theorem set_map {l:List α} {c:α→List β} {i:Nat} {x y:α} {j:Nat} {xs:List β} (h:c y=splice (c x) j xs):(l.set i y).map c=(l.map c).set i (splice (c x) j xs):=by rw [List.map_set,h]
end
abbrev wI (n:Int):Value:=.int .i64 n
abbrev wB (b:Bool):Value:=.bool b
section
variable {κ ν:Type}
def mapV (f:κ→Value) (g:ν→Value) (m:List (κ×ν)):List (Value×Value):=m.map fun p=>(f p.1,g p.2)
def mget [BEq κ] (k:κ):List (κ×ν)→Option ν
 | []=>none
 | p::m=>match k==p.1 with | true=>some p.2 | false=>mget k m
def mset [BEq κ] (k:κ) (v:ν):List (κ×ν)→List (κ×ν)
 | []=>[(k,v)]
 | p::m=>match k==p.1 with | true=>(k,v)::m | false=>p::mset k v m
theorem find_int (k:Int) (g:ν→Value):∀ m:List (Int×ν),findV (.int .i64) (.int .i64 k) (mapV wI g m)=some ((mget k m).map g)
 | []=>rfl
 | p::m=>by
  have ih:=find_int k g m
  unfold mapV at ih ⊢
  rw [List.map_cons]
  unfold findV mget
  simp only [Instr.sameNow,if_true]
  cases k==p.1 with
  | true=>rfl
  | false=>exact ih
theorem set_int (k:Int) (v:ν) (g:ν→Value):∀ m:List (Int×ν),setV (.int .i64) (.int .i64 k) (g v) (mapV wI g m)=some (mapV wI g (mset k v m))
 | []=>rfl
 | p::m=>by
  have ih:=set_int k v g m
  unfold mapV at ih ⊢
  rw [List.map_cons]
  unfold setV mset
  simp only [Instr.sameNow,if_true]
  cases k==p.1 with
  | true=>rfl
  | false=>simp only [ih];rfl
theorem get_arr (ks:List Int) (g:ν→Value):∀ m:List (List Int×ν),getA ks (m.map fun p=>(p.1,g p.2))=(mget ks m).map g
 | []=>rfl
 | p::m=>by
  rw [List.map_cons]
  unfold getA mget
  rw [show (ks==p.1)=decide (ks=p.1) from by rw [Bool.eq_iff_iff];simp]
  simp only
  cases decide (ks=p.1) with
  | true=>rfl
  | false=>exact get_arr ks g m
theorem set_arr (ks:List Int) (v:ν) (g:ν→Value):∀ m:List (List Int×ν),setA ks (g v) (m.map fun p=>(p.1,g p.2))=(mset ks v m).map fun p=>(p.1,g p.2)
 | []=>rfl
 | p::m=>by
  rw [List.map_cons]
  unfold setA mset
  rw [show (ks==p.1)=decide (ks=p.1) from by rw [Bool.eq_iff_iff];simp]
  simp only
  cases decide (ks=p.1) with
  | true=>rfl
  | false=>simp only [set_arr ks v g m];rfl
def cA (l:List Int):List IV:=l.map fun c=>.val (.int .i64 c)
theorem flat_cA {l:List Int}:cA l=(l.map cI).flatten:=by
 induction l with
 | nil=>rfl
 | cons c l ih=>rw [List.map_cons,List.flatten_cons,← ih];rfl
theorem len_mapV {κ ν:Type} {f:κ→Value} {g:ν→Value} {m:List (κ×ν)}:m.length=(mapV f g m).length:=(List.length_map _).symm
theorem keys_arr {n:Nat} {cs:List IV} {ks:List Int} {g:ν→Value} {m:List (List Int×ν)} (hc:cs=ks.map fun c=>.val (.int .i64 c)) (hn:ks.length=n∧∀ p∈m,p.1.length=n):KeysA n cs (mapV wA g m) ks (m.map fun p=>(p.1,g p.2)) :=
 ⟨hc,hn.1,by unfold mapV;rw [List.map_map];rfl,fun p hp=>by obtain ⟨q,hq,rfl⟩:=List.mem_map.1 hp;exact hn.2 q hq⟩
theorem mapA_set (g:ν→Value) (m:List (List Int×ν)):mapV wA g m=(m.map fun p=>(p.1,g p.2)).map fun p=>(wA p.1,p.2):=by unfold mapV;rw [List.map_map];rfl
theorem getD_map {g:ν→Value} {d:ν} {z:Value} (h:g d=z) (o:Option ν):g (o.getD d)=(o.map g).getD z:=by cases o<;>simp [h]
theorem isSome_map {g:ν→Value} (o:Option ν):o.isSome=(o.map g).isSome:=by cases o<;>rfl
theorem clr_map {α β:Type} {c:α→β} {z:α} {e:β} {l:List α} {k:Nat} (hc:c z=e):(l.take k++List.replicate (l.length-k) z).map c=(l.map c).take k++List.replicate ((l.map c).length-k) e:=by rw [List.map_append,List.map_take,List.map_replicate,List.length_map,hc]
theorem cut_own {α β:Type} {c:α→β} {l:List α} {k:Nat}:(l.take k).map c=(l.map c).take k:=List.map_take
theorem len_own {α β:Type} {c:α→β} {l:List α} {k:Nat}:l.length-k=(l.map c).length-k:=by rw [List.length_map]
theorem rep_map {α β:Type} {c:α→β} {z:α} {e:β} {n m:Nat} (h:n=m) (hc:c z=e):(List.replicate n z).map c=List.replicate m e:=by rw [List.map_replicate,h,hc]
end
theorem flat_map {α:Type} {f:α→Value} {l:List α} (h:∀ x:α,∃ v,(IV.val (f x))=.val v):∀ e∈l.map (fun x=>[IV.val (f x)]),∀ x∈e,∃ v,x=.val v:=fun e he x hx=>by
 obtain ⟨y,_,rfl⟩:=List.mem_map.1 he
 rcases List.mem_singleton.1 hx with rfl
 exact ⟨_,rfl⟩
theorem flat_row {e:TypeId} {k:Nat} {es:List (List IV)} (h:∀ e∈es,∀ x∈e,∃ v,x=.val v):flatRs (.mk false [.ow (.row e k es)] []):=⟨fun c hc=>by rcases List.mem_singleton.1 hc with rfl;exact h,fun y hy=>by cases hy⟩
theorem flat_one {v:Value}:flatRs (.mk false [.im (.val v)] []):=⟨fun c hc=>by rcases List.mem_singleton.1 hc with rfl;exact Or.inl ⟨v,rfl⟩,fun y hy=>by cases hy⟩
theorem ok_len {α:Type} {c:α→List IV} {l:List α} (h:Ok (.sl (l.map c))):l.length≤17592186044416:=by have:=h.sl.1;rwa [List.length_map] at this
theorem okl_len {α:Type} {c:α→List IV} {l:List α} (h:OkL (l.map c)):l.length≤17592186044416:=by have:=h.1;rwa [List.length_map] at this
theorem Holds.avl {σ:St} {α:Type} {c:α→List IV} {l:List α} (t:Nat) (h:σ.av t=.im (.sl (l.map c))):Holds σ (l.length≤17592186044416):=(Holds.av t h).mono ok_len
theorem Holds.cel {σ:St} {α:Type} {c:α→List IV} {l:List α} (o i:Nat) {t:TypeId} {m:Nat} (hk:σ.kd o=.box t m) (hi:i<m) (h:σ.ce o i=.im (.sl (l.map c))):Holds σ (l.length≤17592186044416):=(Holds.ce o i hk hi h).mono ok_len
theorem rowAt_map {α:Type} {c:α→List IV} {g:List (List α)} {i:Nat} {e:List α} (h:g[i]?=some e):rowAt (g.map (cL c)) i=e.map c:=by
 unfold rowAt
 rw [List.getElem?_map,h]
 rfl
theorem sp_cast {P:Program} {g:FuncId} {xs xs':List Arg} {r:Rs} (h:xs'=xs) (c:Sp P g xs r):Sp P g xs' r:=h ▸ c
def oN {α:Type} (c:α→List IV):Option (List α)→IV
 | none=>.val (.slice none 0 0)
 | some l=>.nsl (l.map c)
abbrev cO {α:Type} (c:α→List IV) (o:Option (List α)):List IV:=[oN c o]
theorem nilS_oN {α:Type} {c:α→List IV} (o:Option (List α)):nilS (.im (oN c o)) o.isNone:=by
 cases o with
 | none=>exact .inl ⟨rfl,rfl⟩
 | some l=>exact .inr ⟨rfl,_,rfl⟩
theorem set_grid1 {α:Type} {c:α→List IV} {g:List (List α)} {i:Nat} {r:List α}:(g.set i r).map (cL c)=(g.map (cL c)).set i [.sl (r.map c)]:=by rw [List.map_set]
theorem set_grid2 {α:Type} {c:α→List IV} {g:List (List α)} {i j k:Nat} {ev:List α} {x y:α} {xs:List IV} (h:c y=splice (c x) k xs):(g.set i (ev.set j y)).map (cL c)=(g.map (cL c)).set i [.sl ((ev.map c).set j (splice (c x) k xs))]:=by
 rw [← h,List.map_set]
 show (g.map (cL c)).set i [.sl ((ev.set j y).map c)]=_
 rw [List.map_set]
theorem Holds.kdg {σ:St} {α:Type} {c:α→List IV} {l:List α} (o:Nat) {e e':TypeId} {k:Nat} {q:Option Nat} (hk:σ.kd o=.grid e e' k (l.map c) q):Holds σ (l.length≤17592186044416):=fun B a w ⟨ρ,hs⟩=>by
 have ho:=hs.obs o
 rw [hk] at ho
 obtain ⟨_,_,us,h,_⟩:=ho
 simpa using h
theorem Holds.kdql {σ:St} {α:Type} {c:α→List IV} {l:List α} (o:Nat) {t:TypeId} {k:Nat} (hk:σ.kd o=.que t k (l.map c)):Holds σ (l.length≤17592186044416):=(Holds.kdq o hk).mono okl_len
theorem Holds.kdl {σ:St} {α:Type} {c:α→List IV} {l:List α} (o:Nat) {t:TypeId} {k:Nat} (hk:σ.kd o=.row t k (l.map c)):Holds σ (l.length≤17592186044416):=(Holds.kd o hk).mono okl_len
def JoinS {Y Z:Type} (oc:Y⊕Z) (st:Y→St) (σ':St):Prop:=∃ y,oc=.inl y∧Ent σ' (st y)
theorem Cut.mkS {Y Z:Type} (oc:Y⊕Z) (st:Y→St) (φ:Y→Prop) {body:(St→Prop)→Prop} {rest:St→Prop} (hφ:∀ y,Holds (st y) (φ y)) (h:body (JoinS oc st)) (k:∀ y,oc=.inl y→φ y→rest (st y)):Cut body rest:=by
 unfold Cut
 have e:JoinS oc st=fun σ'=>∃ σ1,Ent σ' σ1∧∃ y,oc=.inl y∧σ1=st y:=funext fun σ'=>propext ⟨fun ⟨y,h1,h2⟩=>⟨_,h2,y,h1,rfl⟩,fun ⟨σ1,h1,y,h2,h3⟩=>⟨y,h2,h3 ▸ h1⟩⟩
 rw [e] at h
 refine ⟨fun σ1=>∃ y,oc=.inl y∧σ1=st y,h,?_⟩
 rintro σ ⟨y,h1,rfl⟩
 exact ⟨φ y,hφ y,k y h1⟩
attribute [irreducible] JoinS
theorem JoinS.mk' {Y Z:Type} {oc:Y⊕Z} {st:Y→St} {σ':St} (y:Y) (h:oc=.inl y) (e:Ent σ' (st y)):JoinS oc st σ':=by unfold JoinS;exact ⟨y,h,e⟩
end Go.Proofs.YtkeplokjplkcmaaGreat.Sym

namespace Go.Proofs.YtkeplokjplkcmaaGreat.Sym
open Go.RowKit
set_option maxRecDepth 100000
set_option linter.unusedVariables false
set_option maxHeartbeats 4000000
structure T_api_Mealy where
 Inputs:Int
 Start:Int
 Next:List (List Int)
 Out:List (List Int)
 deriving DecidableEq
def c_api_Mealy (s:T_api_Mealy):List IV:=[nI s.Inputs,nI s.Start,nL (cL cI) s.Next,nL (cL cI) s.Out]
structure T_api_Latency where
 Step:List Int
 Reset:Int
 deriving DecidableEq
structure T_api_Faults where
 Lost:Int
 Wrong:Int
 Crash:Int
 deriving DecidableEq
structure T_api_Device where
 M:T_api_Mealy
 State:Int
 Ready:Bool
 Latency:T_api_Latency
 Faults:T_api_Faults
 Seed:Int
 Steps:Int
 Resets:Int
 Time:Int
 deriving DecidableEq
structure T_api_Trace where
 In:List Int
 Out:List Int
 deriving DecidableEq
def c_api_Trace (s:T_api_Trace):List IV:=[nL cI s.In,nL cI s.Out]
structure T_api_Obs where
 Inputs:Int
 Traces:List T_api_Trace
 deriving DecidableEq
def c_api_Obs (s:T_api_Obs):List IV:=[nI s.Inputs,nL c_api_Trace s.Traces]
structure T_api_Oracle where
 Device:T_api_Device
 Obs:T_api_Obs
 Votes:Int
 Tries:Int
 Asked:Int
 Hits:Int
 deriving DecidableEq
structure T_api_Table where
 Inputs:Int
 Prefixes:List (List Int)
 Suffixes:List (List Int)
 deriving DecidableEq
def c_api_Table (s:T_api_Table):List IV:=[nI s.Inputs,nL (cL cI) s.Prefixes,nL (cL cI) s.Suffixes]
structure T_api_Baseline where
 M:T_api_Mealy
 Words:List (List Int)
 deriving DecidableEq
structure T_api_Report where
 Run:Int
 Changes:List T_api_Trace
 deriving DecidableEq
structure T_api_Mapper where
 Inputs:Int
 Abstract:Int
 Start:Int
 Next:List (List Int)
 Sym:List (List Int)
 deriving DecidableEq
structure T_api_Clash where
 Word:List Int
 First:Int
 Second:Int
 deriving DecidableEq
structure T_api_Hyp where
 M:T_api_Mealy
 Access:List (List Int)
 deriving DecidableEq
structure T_api_Part where
 Inputs:Int
 Start:Int
 Next:List (List Int)
 Out:List (List Int)
 deriving DecidableEq
def c_api_Part (s:T_api_Part):List IV:=[nI s.Inputs,nI s.Start,nL (cL cI) s.Next,nL (cL cI) s.Out]
structure T_api_Lazy where
 Inputs:Int
 Short:List (List Int)
 Suffixes:List (List Int)
 deriving DecidableEq
structure T_api_Split where
 Prefix:List Int
 Symbol:Int
 Suffix:List Int
 deriving DecidableEq
structure T_learnerlaw28_Case where
 M:T_api_Mealy
 O:T_api_Obs
 L:T_api_Lazy
 S:T_api_Split
 deriving DecidableEq
structure T_learnerlaw35_Parts where
 P:T_api_Part
 W:List Int
 S:Int
 T:Int
 Out:Int
 deriving DecidableEq
structure T_mealy_machine where
 Mealy:T_api_Mealy
 deriving DecidableEq
structure T_mealy_runner where
 machine:T_mealy_machine
 at_:Int
 deriving DecidableEq
structure T_api_Mutation where
 Kind:Int
 State:Int
 Input:Int
 Value:Int
 Value2:Int
 deriving DecidableEq
structure T_regress_runner where
 m:T_api_Mealy
 report:T_api_Report
 deriving DecidableEq
structure T_table_view where
 rows:List (List (List Int))
 prefixes:List Int
 next:List (List Int)
 number:List (ByteArray×Int)
 deriving DecidableEq
structure T_refine_reached where
 m:T_api_Mealy
 states:List Int
 words:List (List Int)
 class_:List Int
 deriving DecidableEq
structure T_mapper_set where
 list:List Int
 word:List Int
 deriving DecidableEq
structure T_mapper_builder where
 m:T_api_Mealy
 p:T_api_Mapper
 sets:List T_mapper_set
 of:List (ByteArray×Int)
 deriving DecidableEq
structure T_evidence_candidate where
 score:Int
 blue:Int
 red:Int
 deriving DecidableEq
def c_evidence_candidate (s:T_evidence_candidate):List IV:=[nI s.score,nI s.blue,nI s.red]
structure T_lazy_reader where
 l:T_api_Lazy
 o:T_api_Obs
 missing:List (List Int)
 long:Bool
 deriving DecidableEq
structure T_nondet_group where
 word:List Int
 before:List Int
 least:List Int
 deriving DecidableEq
structure T_device_unit where
 Device:T_api_Device
 deriving DecidableEq
structure T_equiv_pair where
 s:Int
 t:Int
 deriving DecidableEq
def c_equiv_pair (s:T_equiv_pair):List IV:=[nI s.s,nI s.t]
structure T_mapper_runner where
 Mapper:T_api_Mapper
 state:Int
 deriving DecidableEq
structure T_cover_place where
 state:Int
 word:List Int
 deriving DecidableEq
structure T_A2 where
 f0:Int
 f1:Int
 deriving DecidableEq
def c_A2 (s:T_A2):List IV:=[nI s.f0,nI s.f1]
structure T_merge_blocks_int_ where
 up:List (Int×Int)
 deriving DecidableEq
structure T_equiv_place where
 at_:T_equiv_pair
 word:List Int
 deriving DecidableEq
def c_equiv_place (s:T_equiv_place):List IV:=[nI s.at_.s,nI s.at_.t,nL cI s.word]
structure T_A2_api_Mealy where
 f0:T_api_Mealy
 f1:T_api_Mealy
 deriving DecidableEq
structure T_learnerref09_Pair where
 S:Int
 T:Int
 Word:List Int
 deriving DecidableEq
structure T_api_DNode where
 Leaf:Bool
 Access:List Int
 Suffix:List Int
 Outs:List (List Int)
 Kids:List Int
 deriving DecidableEq
structure T_api_DTree where
 Nodes:List T_api_DNode
 deriving DecidableEq
structure T_api_TreeState where
 Inputs:Int
 Tree:T_api_DTree
 deriving DecidableEq
structure T_treelearn_learner where
 TreeState:T_api_TreeState
 o:T_api_Obs
 deriving DecidableEq
structure T_analyze_subject where
 h:T_api_Hyp
 o:T_api_Obs
 w:List Int
 states:List Int
 outs:List Int
 deriving DecidableEq
structure T_treelearn_extension where
 w:List Int
 node:Int
 deriving DecidableEq
end Go.Proofs.YtkeplokjplkcmaaGreat.Sym

/-
 Of a seat without tables: what the rows ask of the program as a whole.
-/
namespace Go.Proofs.YtkeplokjplkcmaaGreat
open Go.ChangeShapes Go.WideShapes Go.ChangeAt Go.RowKit
theorem Tryz.own:ownKnob Tryz.prog.godebug=none:=by kernel_rfl
theorem Tryz.laidOut:laidOutB Tryz.prog=true:=by kernel_rfl
end Go.Proofs.YtkeplokjplkcmaaGreat

/-
 What the arguments read as in plain words, with the bound of the second form. No walk.
-/
namespace Go.Proofs.YtkeplokjplkcmaaGreat.Sym
open Go.ChangeShapes Go.WideShapes Go.ChangeAt Go.RowKit Go.Deep
set_option maxRecDepth 100000
section
variable {H:Type} {enc:TypeId×Value→H} {W:World} {α β:Type}
theorem bulk_pos (d:DataW H):1≤Rows.uptoBulk d:=by
 cases d with
 | lit l=>cases l<;>simp [Rows.uptoBulk]
 | nil=>simp [Rows.uptoBulk]
 | ptr d=>simp [Rows.uptoBulk]
 | slice elems spare=>simp [Rows.uptoBulk]
 | agg parts=>simp [Rows.uptoBulk]
 | iface t d=>simp [Rows.uptoBulk]
 | map entries=>simp [Rows.uptoBulk]
 | held h=>simp [Rows.uptoBulk]
theorem bulk_mem {d:DataW H} {l:List (DataW H)} (h:d∈l):Rows.uptoBulk d≤Rows.uptoBulkAll l:=by
 induction l with
 | nil=>cases h
 | cons x r ih =>
  simp only [Rows.uptoBulkAll]
  rcases List.mem_cons.1 h with e | e
  ·subst e;omega
  ·have:=ih e;omega
theorem bulk_append (l r:List (DataW H)):Rows.uptoBulkAll (l++r)=Rows.uptoBulkAll l+Rows.uptoBulkAll r:=by
 induction l with
 | nil=>simp [Rows.uptoBulkAll]
 | cons x l ih=>simp only [List.cons_append,Rows.uptoBulkAll,ih];omega
theorem bulk_length (l:List (DataW H)):l.length≤Rows.uptoBulkAll l:=by
 induction l with
 | nil=>simp [Rows.uptoBulkAll]
 | cons x r ih=>have:=bulk_pos x;simp only [Rows.uptoBulkAll,List.length_cons];omega
theorem bulk_small {l:List (DataW H)} (hk:Rows.uptoSmall H l=true):Rows.uptoBulkAll l≤1048576:=by
 simpa [Rows.uptoSmall] using hk
def lowS (W:World):Nat→Prop:=fun b=>b<W.heap.size
def Opn (W:World) (enc:TypeId×Value→H) (t:TypeId) (c:α→List IV) (sz:α→Nat) (ok:α→Prop):Prop :=
 ∀ (fuel:Nat) (cs:List Value) (d:DataW H) (ps:List MemPlace),DataW.trod enc Tryz.prog W 0 (fun _=>true) true fuel t cs=some (d,ps)→Rows.uptoBulk d≤1048576 →
  ∃ x,RepIs W (lowS W) cs (c x)∧(∀ u∈cs,u.oneCell'=true)∧sz x≤Rows.uptoBulk d∧ok x
def sz1 {α:Type} (_:α):Nat:=1
def szL (sz:α→Nat) (l:List α):Nat:=(l.map sz).sum+1
def okL (ok:α→Prop) (l:List α):Prop:=∀ x∈l,ok x
def okT {α:Type} (_:α):Prop:=True
theorem opn_int:Opn W enc 3 cI sz1 inR:=by
 intro fuel cs d ps h hd
 cases fuel with
 | zero=>simp [DataW.trod] at h
 | succ f =>
  unfold DataW.trod at h
  rw [Tryz.underlying3] at h
  split at h<;>try (cases h;done)
  all_goals (try (rename_i e;cases e;done))
  rename_i k k' n e
  injection e with e
  injection e with e
  subst e
  split at h
  ·rename_i hw
   injection h with h
   injection h with h1 h2
   subst h1
   obtain ⟨rfl,hw⟩:=hw
   refine ⟨n,⟨rfl,fun i u x hu hx=>?_⟩,fun u hu=>?_,by simp [sz1,Rows.uptoBulk],?_⟩
   ·match i,hu,hx with
    | 0,hu,hx =>
     simp at hu hx
     subst hu hx
     exact .val _
   ·rcases List.mem_singleton.1 hu with rfl
    rfl
   ·simp [Lit.wf,IntKind.min,IntKind.max,IntKind.wrap,IntKind.bits,IntKind.signed] at hw
    unfold inR
    omega
  ·cases h
theorem opn_elems {t:TypeId} {c:α→List IV} {sz:α→Nat} {ok:α→Prop} {k b o:Nat} (hc:∀ x,(c x).length=k) (D:Nat→DataW H):∀ (n:Nat),
  (∀ i,i<n→∃ (x:α) (cs:List Value),(∀ j,j<k→W.cell? ⟨b,o+(i*k+j),none⟩=cs[j]?)∧RepIs W (lowS W) cs (c x)∧(∀ u∈cs,u.oneCell'=true)∧sz x≤Rows.uptoBulk (D i)∧ok x) →
  ∃ (xs:List α) (us:List Value),xs.length=n∧us.length=n*k∧(∀ (i:Nat) u,us[i]?=some u→W.cell? ⟨b,o+i,none⟩=some u)∧RepIs W (lowS W) us (xs.map c).flatten∧(∀ u∈us,u.oneCell'=true) ∧
   (xs.map sz).sum≤Rows.uptoBulkAll ((List.range n).map D)∧∀ x∈xs,ok x
 | 0,_=>⟨[],[],rfl,by simp,by simp,⟨rfl,by simp⟩,by simp,by simp,by simp⟩
 | n+1,h=>by
  obtain ⟨xs,us,h1,h2,h3,h4,h5,h6,h7⟩:=opn_elems (t:=t) hc D n fun i hi=>h i (by omega)
  obtain ⟨x,cs,g1,g2,g3,g4,g5⟩:=h n (by omega)
  have hcl:cs.length=k:=by rw [g2.1,hc]
  have hfl:(xs.map c).flatten.length=n*k:=by rw [← h4.1,h2]
  refine ⟨xs++[x],us++cs,by simp [h1],by rw [List.length_append,h2,hcl,Nat.add_mul];omega,fun i u hu=>?_,⟨?_,fun i u y hu hy=>?_⟩,fun u hu=>?_,?_,fun y hy=>?_⟩
  ·rw [List.getElem?_append] at hu
   split at hu
   ·exact h3 i u hu
   ·rename_i hlt
    have hj:=(List.getElem?_eq_some_iff.1 hu).1
    have:=g1 (i-us.length) (by omega)
    rw [hu,show o+(n*k+(i-us.length))=o+i by omega] at this
    exact this
  ·rw [List.map_append,List.flatten_append,List.length_append,List.length_append,h4.1]
   simp [g2.1]
  ·rw [List.map_append,List.flatten_append,List.getElem?_append] at hy
   rw [List.getElem?_append] at hu
   by_cases hlt:i<us.length
   ·rw [if_pos hlt] at hu
    rw [if_pos (by rw [hfl,← h2];exact hlt)] at hy
    exact h4.2 i u y hu hy
   ·rw [if_neg hlt] at hu
    rw [if_neg (by rw [hfl,← h2];exact hlt),hfl,← h2] at hy
    simp only [List.map_cons,List.map_nil,List.flatten_cons,List.flatten_nil,List.append_nil] at hy
    exact g2.2 _ u y hu hy
  ·rcases List.mem_append.1 hu with hu | hu
   ·exact h5 u hu
   ·exact g3 u hu
  ·rw [List.range_succ,List.map_append,List.map_append,List.sum_append,bulk_append]
   simp only [List.map_cons,List.map_nil,List.sum_cons,List.sum_nil,Rows.uptoBulkAll]
   omega
  ·rcases List.mem_append.1 hy with hy | hy
   ·exact h7 y hy
   ·rcases List.mem_singleton.1 hy with rfl
    exact g5
theorem opn_slice {t e:TypeId} {c:α→List IV} {sz:α→Nat} {ok:α→Prop} {k:Nat} (ht:Tryz.prog.underlying t=some (.slice e)) (hk:Tryz.prog.cellsOf e=k) (hk0:0<k) (hc:∀ x,(c x).length=k) (O:Opn W enc e c sz ok) :
  Opn W enc t (cL c) (szL sz) (okL ok):=by
 intro fuel cs d ps h hd
 rcases open_slice ht h with ⟨rfl,hx⟩ | ⟨a,len,cap,m,n,D,Pl,rfl,_,hl,_,hm,hx,hel⟩
 ·injection hx with hx1 hx2
  subst hx1
  refine ⟨[],⟨rfl,fun i u x hu hx=>?_⟩,fun u hu=>?_,by simp [szL,Rows.uptoBulk],fun x hx=>by cases hx⟩
  ·match i,hu,hx with
   | 0,hu,hx =>
    simp at hu hx
    subst hu hx
    exact .emp _ _
  ·rcases List.mem_singleton.1 hu with rfl
   rfl
 ·injection hx with hx1 hx2
  subst hx1
  simp only [if_true] at hm
  subst hm
  have hbulk:Rows.uptoBulkAll ((List.range len).map D)+1≤Rows.uptoBulk (.slice ((List.range len).map D) ((List.range (m-len)).map fun j=>D (len+j))):=by
   simp only [Rows.uptoBulk];omega
  have hlen:len≤1048576:=by
   have:=bulk_length ((List.range len).map D)
   simp at this
   omega
  by_cases h0:len=0
  ·subst h0
   refine ⟨[],⟨rfl,fun i u x hu hx=>?_⟩,fun u hu=>?_,by simp [szL,Rows.uptoBulk],fun x hx=>by cases hx⟩
   ·match i,hu,hx with
    | 0,hu,hx =>
     simp at hu hx
     subst hu hx
     exact .emp _ _
   ·rcases List.mem_singleton.1 hu with rfl
    rfl
  ·obtain ⟨ab,ao,asp⟩:=a
   rw [hk] at hel
   have hsp:asp=none:=by
    obtain ⟨cs',h1,_⟩:=hel 0 (by omega)
    obtain ⟨_,hl',hcell⟩:=World.cells?_some h1
    have h2:=hcell 0 hk0
    rw [List.getElem?_eq_getElem (by omega)] at h2
    unfold World.cell? Addr.add at h2
    simp only [Nat.zero_mul,if_true] at h2
    cases asp with
    | none=>rfl
    | some q =>
     simp at h2
     split at h2<;>simp at h2
   subst hsp
   obtain ⟨xs,us,h1,h2,h3,h4,h5,h6,h7⟩:=opn_elems (W:=W) (t:=e) (sz:=sz) (ok:=ok) (b:=ab) (o:=ao) hc D len fun i hi=>by
    obtain ⟨cs',e1,e2⟩:=hel i (by omega)
    obtain ⟨_,hl',hcell⟩:=World.cells?_some e1
    obtain ⟨x,r1,r2,r3,r4⟩:=O _ _ _ _ e2 (Nat.le_trans (bulk_mem (List.mem_map.2 ⟨i,List.mem_range.2 hi,rfl⟩)) (by omega))
    refine ⟨x,cs',fun j hj=>?_,r1,r2,r3,r4⟩
    have:=hcell j hj
    rw [addr_add,addr_add,Nat.add_assoc] at this
    exact this
   have hblk:ab<W.heap.size:=by
    have hu0:0<us.length:=by rw [h2];exact Nat.mul_pos (by omega) hk0
    exact World.block_lt_of_cell? W _ (h3 0 _ (List.getElem?_eq_getElem hu0))
   refine ⟨xs,⟨rfl,fun i u x hu hx=>?_⟩,fun u hu=>?_,?_,h7⟩
   ·match i,hu,hx with
    | 0,hu,hx =>
     simp at hu hx
     subst hu hx
     refine .sl ab ao m k len (xs.map c) us (by simp [h1]) (fun e he=>by obtain ⟨y,_,rfl⟩:=List.mem_map.1 he;exact hc y) hl (by omega) hblk h4.1 h5 h3 h4.2
   ·rcases List.mem_singleton.1 hu with rfl
    rfl
   ·show (xs.map sz).sum+1≤_
    omega
def OpnFs (W:World) (enc:TypeId×Value→H) (fs:List Field) (off len:Nat) (c:α→List IV) (sz:α→Nat) (ok:α→Prop):Prop :=
 ∀ (n:Nat) (cs:List Value) (xs:List (DataW H×List MemPlace)),xs.length=fs.length →
  (∀ (i:Nat) f,fs[i]?=some f→DataW.trod enc Tryz.prog W 0 (fun _=>true) true n f.type ((cs.drop f.offset).take (Tryz.prog.cellsOf f.type))=xs[i]?)→Rows.uptoBulkAll (xs.map (·.1))≤1048576 →
  ∃ x,RepIs W (lowS W) ((cs.drop off).take len) (c x)∧(∀ u∈(cs.drop off).take len,u.oneCell'=true)∧sz x≤Rows.uptoBulkAll (xs.map (·.1))∧ok x
theorem opnFs_nil {off:Nat}:OpnFs W enc [] off 0 (fun _:Unit=>[]) (fun _=>0) okT:=by
 intro n cs xs hx h hb
 exact ⟨(),⟨by simp,by simp⟩,by simp,Nat.zero_le _,trivial⟩
theorem opnFs_cons {f:Field} {fs:List Field} {off k len:Nat} {c1:α→List IV} {c2:β→List IV} {s1:α→Nat} {s2:β→Nat} {ok1:α→Prop} {ok2:β→Prop} (ho:f.offset=off) (hk:Tryz.prog.cellsOf f.type=k)
  (O:Opn W enc f.type c1 s1 ok1) (hc:∀ x,(c1 x).length=k) (R:OpnFs W enc fs (off+k) len c2 s2 ok2) :
  OpnFs W enc (f::fs) off (k+len) (fun p:α×β=>c1 p.1++c2 p.2) (fun p=>s1 p.1+s2 p.2) (fun p=>ok1 p.1∧ok2 p.2):=by
 intro n cs xs hx h hb
 match xs,hx with
 | x::xs,hx =>
  have e0:=h 0 f rfl
  rw [ho,hk] at e0
  simp only [List.map_cons,Rows.uptoBulkAll] at hb
  obtain ⟨a,r1,r2,r3,r4⟩:=O n _ x.1 x.2 e0 (by omega)
  obtain ⟨b,q1,q2,q3,q4⟩:=R n cs xs (by simpa using hx) (fun i g hg=>by
   have:=h (i+1) g (by simpa using hg)
   simpa using this) (by omega)
  have hsplit:(cs.drop off).take (k+len)=(cs.drop off).take k++(cs.drop (off+k)).take len:=by
   rw [List.take_add,List.drop_drop]
  have hl1:((cs.drop off).take k).length=(c1 a).length:=r1.1
  refine ⟨(a,b),?_,fun u hu=>?_,by simp only [List.map_cons,Rows.uptoBulkAll];omega,r4,q4⟩
  ·rw [hsplit]
   refine ⟨by rw [List.length_append,List.length_append,r1.1,q1.1],fun i u y hu hy=>?_⟩
   rw [List.getElem?_append,hl1] at hu
   rw [List.getElem?_append] at hy
   split at hu
   ·rename_i hlt
    rw [if_pos hlt] at hy
    exact r1.2 i u y hu hy
   ·rename_i hlt
    rw [if_neg hlt] at hy
    exact q1.2 _ u y hu hy
  ·rw [hsplit] at hu
   rcases List.mem_append.1 hu with hu | hu
   ·exact r2 u hu
   ·exact q2 u hu
theorem opn_struct {t:TypeId} {fs:Array Field} {len:Nat} {c:α→List IV} {sz:α→Nat} {ok:α→Prop} {c':β→List IV} {sz':β→Nat} {ok':β→Prop} (ht:Tryz.prog.underlying t=some (.struct fs)) (hl:Tryz.prog.cellsOf t=len)
  (R:OpnFs W enc fs.toList 0 len c sz ok) (conv:α→β) (hc:∀ p,c' (conv p)=c p) (hs:∀ p,sz' (conv p)=sz p+1) (ho:∀ p,ok p→ok' (conv p)):Opn W enc t c' sz' ok':=by
 intro fuel cs d ps h hd
 obtain ⟨xs,n,rfl,hx,hcl,hxl,hf⟩:=DataW.trod_struct ht h
 injection hx with hx1 hx2
 subst hx1
 simp only [Rows.uptoBulk] at hd
 obtain ⟨x,r1,r2,r3,r4⟩:=R n cs xs (by rw [hxl];simp) (fun i f hi=>hf i f (by simpa using hi)) (by omega)
 rw [hl] at hcl
 have e:(cs.drop 0).take len=cs:=by rw [List.drop_zero,← hcl,List.take_length]
 rw [e] at r1 r2
 refine ⟨conv x,by rw [hc];exact r1,r2,?_,ho x r4⟩
 rw [hs]
 simp only [Rows.uptoBulk]
 omega
theorem arg_struct {t:TypeId} {fs:Array Field} {v:Value} {d:DataW H} {p:List MemPlace} {base:Nat} {c:α→List IV} {sz:α→Nat} {ok:α→Prop} (ht:Tryz.prog.underlying t=some (.struct fs)) (hv:Value.okWide Tryz.prog W .any base t v)
  (h:DataW.Trod enc Tryz.prog W 0 (fun _=>true) true t v d p) (O:Opn W enc t c sz ok) (hb:Rows.uptoBulk d≤1048576):∃ x,RepI W (lowS W) v (.agg (c x))∧sz x≤Rows.uptoBulk d∧ok x:=by
 obtain ⟨cs,rfl,_⟩:=okWide_struct ht hv
 obtain ⟨fuel,hf⟩:=h
 obtain ⟨x,r1,r2,r3,r4⟩:=O fuel cs.toList d p (by simpa [Value.cells] using hf) hb
 refine ⟨x,?_,r3,r4⟩
 have:=RepI.agg (w:=W) (S:=lowS W) cs.toList (c x) r1.1 r2 r1.2
 simpa using this
theorem arg_int {v:Value} {d:DataW H} {p:List MemPlace} {base:Nat} (hv:Value.okWide Tryz.prog W .any base 3 v) (h:DataW.Trod enc Tryz.prog W 0 (fun _=>true) true 3 v d p):∃ x,RepI W (lowS W) v (nI x)∧inR x:=by
 obtain ⟨z,rfl,rfl,rfl,wz⟩:=open_int Tryz.underlying3 hv h
 refine ⟨z,.val _,?_⟩
 simp [Lit.wf,IntKind.min,IntKind.max,IntKind.wrap,IntKind.bits,IntKind.signed] at wz
 unfold inR
 omega
theorem sp_law {f:FuncId} {W:World} {vs:List Value} {xs:List Arg} (h:Sp Tryz.prog f xs (.im (nB true))) (ha:ArgsOk W (lowS W) vs xs []) :
  Calls Tryz.prog f vs.toArray W fun e W'=>e=.returned (.bool true)∧Below W.heap.size W W':=by
 refine (h.2 W (lowS W) vs [] (fun b hb=>hb) ha List.nodup_nil (fun b hb=>by cases hb)).mono ?_
 rintro e W' ⟨v,F',rfl,hb,⟨us,F1,F2,e1,ho,_,_⟩,_,_⟩
 have e1:us=[v]:=e1
 subst e1
 refine ⟨?_,hb.below fun b hb=>by cases hb⟩
 obtain ⟨F3,F4,⟨hr,_⟩,_⟩:=ho
 cases hr
 rfl
end
end Go.Proofs.YtkeplokjplkcmaaGreat.Sym

namespace Go.Proofs.YtkeplokjplkcmaaGreat.Sym
open Go.RowKit
set_option maxRecDepth 100000
section
variable {H:Type} {enc:TypeId×Value→H} {W:World}
theorem opn_0:Opn W enc 60 (cL cI) (szL sz1) (okL inR):=opn_slice (k:=1) Tryz.underlying60 (by kernel_rfl) (by decide) (fun _=>rfl) opn_int
theorem opn_1:Opn W enc 22 (cL (cL cI)) (szL (szL sz1)) (okL (okL inR)):=opn_slice (k:=1) Tryz.underlying22 (by kernel_rfl) (by decide) (fun _=>rfl) opn_0
def sz_api_Part (x:T_api_Part):Nat:=(sz1 x.Inputs+(sz1 x.Start+((szL (szL sz1)) x.Next+((szL (szL sz1)) x.Out+0))))+1
def ok_api_Part (x:T_api_Part):Prop:=inR x.Inputs∧inR x.Start∧(okL (okL inR)) x.Next∧(okL (okL inR)) x.Out
theorem opn_api_Part:Opn W enc 24 c_api_Part sz_api_Part ok_api_Part :=
 opn_struct (len:=4) Tryz.underlying24 (by kernel_rfl) (opnFs_cons (k:=1) rfl (by kernel_rfl) opn_int (fun _=>rfl) (opnFs_cons (k:=1) rfl (by kernel_rfl) opn_int (fun _=>rfl) (opnFs_cons (k:=1) rfl (by kernel_rfl) opn_1 (fun _=>rfl) (opnFs_cons (k:=1) rfl (by kernel_rfl) opn_1 (fun _=>rfl) opnFs_nil)))) (fun p=>⟨p.1,p.2.1,p.2.2.1,p.2.2.2.1⟩) (fun _=>rfl) (fun _=>rfl) (fun p h=>⟨h.1,h.2.1,h.2.2.1,h.2.2.2.1⟩)
end
end Go.Proofs.YtkeplokjplkcmaaGreat.Sym

/-
 Plain functions on words (lists of integers) and lists of words, and their laws: no program in sight.
-/
namespace Go.Proofs.YtkeplokjplkcmaaGreat
def common:List Int→List Int→Nat
 | x::xs,y::ys=>if x=y then common xs ys+1 else 0
 | _,_=>0
def lexI:List Int→List Int→Int
 | [],[]=>0
 | [],_::_=>-1
 | _::_,[]=>1
 | x::xs,y::ys=>if x<y then -1 else if y<x then 1 else lexI xs ys
def cmpW (a b:List Int):Int:=if a.length<b.length then -1 else if b.length<a.length then 1 else lexI a b
theorem lexI_range:∀ a b:List Int,lexI a b=-1∨lexI a b=0∨lexI a b=1
 | [],[]=>by simp [lexI]
 | [],_::_=>by simp [lexI]
 | _::_,[]=>by simp [lexI]
 | x::xs,y::ys=>by
  simp only [lexI]
  split
  ·simp
  ·split
   ·simp
   ·exact lexI_range xs ys
theorem lexI_zero:∀ a b:List Int,lexI a b=0↔a=b
 | [],[]=>by simp [lexI]
 | [],_::_=>by simp [lexI]
 | _::_,[]=>by simp [lexI]
 | x::xs,y::ys=>by
  simp only [lexI,List.cons.injEq]
  by_cases h1:x<y
  ·rw [if_pos h1];constructor
   ·intro h;omega
   ·rintro ⟨rfl,_⟩;omega
  ·rw [if_neg h1]
   by_cases h2:y<x
   ·rw [if_pos h2];constructor
    ·intro h;omega
    ·rintro ⟨rfl,_⟩;omega
   ·rw [if_neg h2,lexI_zero xs ys]
    constructor
    ·intro h;exact ⟨by omega,h⟩
    ·rintro ⟨_,h⟩;exact h
theorem lexI_swap:∀ a b:List Int,lexI b a=- lexI a b
 | [],[]=>by simp [lexI]
 | [],_::_=>by simp [lexI]
 | _::_,[]=>by simp [lexI]
 | x::xs,y::ys=>by
  simp only [lexI]
  by_cases h1:x<y
  ·rw [if_neg (show ¬ y<x by omega),if_pos h1,if_pos h1];simp
  ·by_cases h2:y<x
   ·rw [if_pos h2,if_neg h1,if_pos h2]
   ·rw [if_neg h2,if_neg h1,if_neg h1,if_neg h2];exact lexI_swap xs ys
theorem lexI_trans:∀ a b c:List Int,lexI a b=-1→lexI b c=-1→lexI a c=-1
 | [],[],_,h,_=>by simp [lexI] at h
 | [],_::_,[],_,h=>by simp [lexI] at h
 | [],_::_,_::_,_,_=>by simp [lexI]
 | _::_,[],_,h,_=>by simp [lexI] at h
 | _::_,_::_,[],_,h=>by simp [lexI] at h
 | x::xs,y::ys,z::zs,h1,h2=>by
  simp only [lexI] at h1 h2 ⊢
  by_cases p:x<y
  ·by_cases q:y<z
   ·rw [if_pos (by omega)]
   ·rw [if_neg q] at h2
    by_cases r:z<y
    ·rw [if_pos r] at h2;omega
    ·rw [if_pos (by omega)]
  ·rw [if_neg p] at h1
   by_cases p':y<x
   ·rw [if_pos p'] at h1;omega
   ·rw [if_neg p'] at h1
    by_cases q:y<z
    ·rw [if_pos (by omega)]
    ·rw [if_neg q] at h2
     by_cases r:z<y
     ·rw [if_pos r] at h2;omega
     ·rw [if_neg r] at h2
      rw [if_neg (by omega),if_neg (by omega)]
      exact lexI_trans xs ys zs h1 h2
theorem cmpW_range (a b:List Int):cmpW a b=-1∨cmpW a b=0∨cmpW a b=1:=by
 unfold cmpW
 split
 ·simp
 ·split
  ·simp
  ·exact lexI_range a b
theorem cmpW_zero (a b:List Int):cmpW a b=0↔a=b:=by
 unfold cmpW
 by_cases h1:a.length<b.length
 ·rw [if_pos h1];constructor
  ·intro h;omega
  ·rintro rfl;omega
 ·rw [if_neg h1]
  by_cases h2:b.length<a.length
  ·rw [if_pos h2];constructor
   ·intro h;omega
   ·rintro rfl;omega
  ·rw [if_neg h2,lexI_zero]
theorem cmpW_refl (a:List Int):cmpW a a=0:=(cmpW_zero a a).2 rfl
theorem cmpW_swap (a b:List Int):cmpW b a=- cmpW a b:=by
 unfold cmpW
 by_cases h1:a.length<b.length
 ·rw [if_neg (by omega),if_pos h1,if_pos h1];simp
 ·by_cases h2:b.length<a.length
  ·rw [if_pos h2,if_neg h1,if_pos h2]
  ·rw [if_neg h2,if_neg h1,if_neg h1,if_neg h2];exact lexI_swap a b
theorem cmpW_trans (a b c:List Int) (h1:cmpW a b=-1) (h2:cmpW b c=-1):cmpW a c=-1:=by
 unfold cmpW at *
 by_cases p:a.length<b.length
 ·by_cases q:b.length<c.length
  ·rw [if_pos (by omega)]
  ·rw [if_neg q] at h2
   by_cases r:c.length<b.length
   ·rw [if_pos r] at h2;omega
   ·rw [if_pos (by omega)]
 ·rw [if_neg p] at h1
  by_cases p':b.length<a.length
  ·rw [if_pos p'] at h1;omega
  ·rw [if_neg p'] at h1
   by_cases q:b.length<c.length
   ·rw [if_pos (by omega)]
   ·rw [if_neg q] at h2
    by_cases r:c.length<b.length
    ·rw [if_pos r] at h2;omega
    ·rw [if_neg r] at h2
     rw [if_neg (by omega),if_neg (by omega)]
     exact lexI_trans a b c h1 h2
def Asc (l:List (List Int)):Prop:=l.Pairwise fun a b=>cmpW a b=-1
def placeL (l:List (List Int)) (w:List Int):Nat:=(l.takeWhile fun x=>cmpW x w==-1).length
def checkI (xs:List Int) (inputs:Int):Int :=
 if 1≤inputs∧inputs≤1024 then if 1024<xs.length then 3 else if xs.all fun a=>decide (0≤a∧a<inputs) then 0 else 1 else 2
theorem Asc.get {l:List (List Int)} (h:Asc l) {i j:Nat} {x y:List Int} (hij:i<j) (hx:l[i]?=some x) (hy:l[j]?=some y):cmpW x y=-1:=by
 have hj:j<l.length:=(List.getElem?_eq_some_iff.1 hy).1
 have h1:=List.pairwise_iff_getElem.1 h i j (by omega) hj hij
 rw [List.getElem?_eq_getElem (by omega)] at hx
 rw [List.getElem?_eq_getElem hj] at hy
 injection hx with hx
 injection hy with hy
 rw [← hx,← hy]
 exact h1
def insW (l:List (List Int)) (x:List Int):List (List Int):=if x∈l then l else l.take (placeL l x)++x::l.drop (placeL l x)
theorem placeL_spec:∀ (l:List (List Int)) (w:List Int),(∀ i x,i<placeL l w→l[i]?=some x→cmpW x w=-1)∧(∀ x,l[placeL l w]?=some x→cmpW x w≠-1)
 | [],w=>by simp [placeL]
 | y::l,w=>by
  have ih:=placeL_spec l w
  by_cases hy:cmpW y w=-1
  ·have e:placeL (y::l) w=placeL l w+1:=by simp [placeL,hy]
   rw [e]
   refine ⟨fun i x hi hx=>?_,fun x hx=>ih.2 x (by simpa using hx)⟩
   cases i with
   | zero=>simp at hx;rw [← hx];exact hy
   | succ i=>exact ih.1 i x (by omega) (by simpa using hx)
  ·have e:placeL (y::l) w=0:=by simp [placeL,hy]
   rw [e]
   refine ⟨fun i x hi=>absurd hi (by omega),fun x hx=>?_⟩
   simp at hx
   rw [← hx]
   exact hy
theorem Asc.insW {l:List (List Int)} (h:Asc l) (x:List Int):Asc (insW l x):=by
 unfold Go.Proofs.YtkeplokjplkcmaaGreat.insW
 split
 ·exact h
 ·rename_i hm
  have hs:=placeL_spec l x
  have hlo:∀ a∈l.take (placeL l x),cmpW a x=-1:=fun a ha=>by
   obtain ⟨i,hi⟩:=List.getElem?_of_mem ha
   rw [List.getElem?_take] at hi
   split at hi
   ·rename_i hlt;exact hs.1 i a hlt hi
   ·cases hi
  have hhi:∀ b∈l.drop (placeL l x),cmpW x b=-1:=fun b hb=>by
   obtain ⟨i,hi⟩:=List.getElem?_of_mem hb
   rw [List.getElem?_drop] at hi
   have hlen:placeL l x+i<l.length:=(List.getElem?_eq_some_iff.1 hi).1
   have hg:l[placeL l x]?=some l[placeL l x]:=List.getElem?_eq_getElem (by omega)
   have h0:=hs.2 _ hg
   have hne:cmpW l[placeL l x] x≠0:=fun e=>hm (by rw [← (cmpW_zero _ _).1 e];exact List.getElem_mem _)
   have hr:=cmpW_range l[placeL l x] x
   have h1:cmpW x l[placeL l x]=-1:=by rw [cmpW_swap];omega
   by_cases hi0:i=0
   ·subst hi0
    rw [Nat.add_zero,hg] at hi
    injection hi with hi
    rw [← hi];exact h1
   ·exact cmpW_trans _ _ _ h1 (h.get (by omega) hg hi)
  unfold Asc
  rw [List.pairwise_append,List.pairwise_cons]
  refine ⟨List.Pairwise.sublist (List.take_sublist _ _) h,⟨hhi,List.Pairwise.sublist (List.drop_sublist _ _) h⟩,fun a ha b hb=>?_⟩
  rcases List.mem_cons.1 hb with rfl | hb
  ·exact hlo a ha
  ·exact cmpW_trans _ _ _ (hlo a ha) (hhi b hb)
def sortW (l:List (List Int)):List (List Int):=l.foldl insW []
end Go.Proofs.YtkeplokjplkcmaaGreat

/-
 How slices of integers, of words and of lists of words read in a world, and what keeps them so. No function of the program in sight.
-/
namespace Go.Proofs.YtkeplokjplkcmaaGreat
open Go.RowKit
def Keeps (w w':World):Prop:=∀ p u,w.cell? p=some u→w'.cell? p=some u
theorem Keeps.refl (w:World):Keeps w w:=fun _ _ h=>h
theorem Keeps.trans {a b c:World} (h:Keeps a b) (k:Keeps b c):Keeps a c:=fun p u hu=>k p u (h p u hu)
theorem Keeps.of_below {w w':World} (h:Below w.heap.size w w'):Keeps w w':=fun p _ hu =>
 (h.cell (p:=p) (World.block_lt_of_cell? w p hu)).trans hu
theorem Keeps.drewN (w:World) (q:Nat):Keeps w (w.drewN q):=fun _ _ h=>h
def RowOf {α:Type} (w:World) (R:Value→α→Prop) (A:Option Addr) (n c:Nat) (l:List α):Prop :=
 l.length=n∧n≤c∧n≤17592186044416 ∧
  (0<n→∃ b o,A=some ⟨b,o,none⟩∧∀ i x,l[i]?=some x→∃ u,w.cell? ⟨b,o+i,none⟩=some u∧R u x)
def IsInt (u:Value) (x:Int):Prop:=u=.int .i64 x
def IsI (w:World) (v:Value) (xs:List Int):Prop:=∃ A n c,v=.slice A n c∧RowOf w IsInt A n c xs
def IsW (w:World) (v:Value) (l:List (List Int)):Prop:=∃ A n c,v=.slice A n c∧RowOf w (IsI w) A n c l
def IsL (w:World) (v:Value) (l:List (List (List Int))):Prop:=∃ A n c,v=.slice A n c∧RowOf w (IsW w) A n c l
section
variable {α:Type} {w w':World} {R R':Value→α→Prop} {A:Option Addr} {n c k:Nat} {l:List α}
theorem RowOf.len (h:RowOf w R A n c l):l.length=n:=h.1
theorem RowOf.cap (h:RowOf w R A n c l):n≤c:=h.2.1
theorem RowOf.small (h:RowOf w R A n c l):n≤17592186044416:=h.2.2.1
theorem RowOf.keep (h:RowOf w R A n c l) (hk:Keeps w w') (hR:∀ u x,R u x→R' u x):RowOf w' R' A n c l :=
 ⟨h.1,h.2.1,h.2.2.1,fun hn=>by
  obtain ⟨b,o,e,hc⟩:=h.2.2.2 hn
  refine ⟨b,o,e,fun i x hx=>?_⟩
  obtain ⟨u,hu,hr⟩:=hc i x hx
  exact ⟨u,hk _ _ hu,hR _ _ hr⟩⟩
theorem RowOf.at_ (h:RowOf w R A n c l) (hk:k<n):∃ b o u x,A=some ⟨b,o,none⟩∧l[k]?=some x∧w.cell? ⟨b,o+k,none⟩=some u∧R u x:=by
 obtain ⟨b,o,e,hc⟩:=h.2.2.2 (by omega)
 have hl:k<l.length:=by rw [h.1];exact hk
 obtain ⟨u,hu,hr⟩:=hc k l[k] (List.getElem?_eq_getElem hl)
 exact ⟨b,o,u,l[k],e,List.getElem?_eq_getElem hl,hu,hr⟩
theorem RowOf.take (h:RowOf w R A n c l) (hk:k≤n):RowOf w R A k c (l.take k):=by
 refine ⟨by rw [List.length_take,h.1];omega,Nat.le_trans hk h.2.1,Nat.le_trans hk h.2.2.1,fun h0=>?_⟩
 obtain ⟨b,o,e,hc⟩:=h.2.2.2 (by omega)
 refine ⟨b,o,e,fun i x hx=>hc i x ?_⟩
 rw [List.getElem?_take] at hx
 split at hx
 ·exact hx
 ·cases hx
end
theorem IsI.keep {w w':World} {v:Value} {xs:List Int} (h:IsI w v xs) (hk:Keeps w w'):IsI w' v xs:=by
 obtain ⟨A,n,c,e,hr⟩:=h
 exact ⟨A,n,c,e,hr.keep hk fun _ _ h=>h⟩
theorem IsW.keep {w w':World} {v:Value} {l:List (List Int)} (h:IsW w v l) (hk:Keeps w w'):IsW w' v l:=by
 obtain ⟨A,n,c,e,hr⟩:=h
 exact ⟨A,n,c,e,hr.keep hk fun _ _ h=>h.keep hk⟩
theorem IsL.keep {w w':World} {v:Value} {l:List (List (List Int))} (h:IsL w v l) (hk:Keeps w w'):IsL w' v l:=by
 obtain ⟨A,n,c,e,hr⟩:=h
 exact ⟨A,n,c,e,hr.keep hk fun _ _ h=>h.keep hk⟩
theorem IsI.below {w w':World} {v:Value} {xs:List Int} (h:IsI w v xs) (hb:Below w.heap.size w w'):IsI w' v xs:=h.keep (.of_below hb)
theorem IsW.below {w w':World} {v:Value} {l:List (List Int)} (h:IsW w v l) (hb:Below w.heap.size w w'):IsW w' v l:=h.keep (.of_below hb)
theorem IsL.below {w w':World} {v:Value} {l:List (List (List Int))} (h:IsL w v l) (hb:Below w.heap.size w w'):IsL w' v l:=h.keep (.of_below hb)
theorem RowOf.int_at {w:World} {A:Option Addr} {n c k:Nat} {xs:List Int} (h:RowOf w IsInt A n c xs) (hk:k<n) :
  ∃ b o x,A=some ⟨b,o,none⟩∧xs[k]?=some x∧w.cell? ⟨b,o+k,none⟩=some (.int .i64 x):=by
 obtain ⟨b,o,u,x,e,hx,hu,rfl⟩:=h.at_ hk
 exact ⟨b,o,x,e,hx,hu⟩
theorem drewN_two (w:World) (a b:Nat):∃ r,(w.drewN a).drewN b=w.drewN r:=⟨a+b,by rw [World.drewN_drewN]⟩
theorem ret_int {k:IntKind} {a b:Int} (h:a=b):Ending.returned (.int k a)=.returned (.int k b):=by rw [h]
def Qt (w w':World):Prop:=∃ q,w'=w.drewN q
theorem Qt.refl (w:World):Qt w w:=⟨0,rfl⟩
theorem Qt.drewN {w w':World} (h:Qt w w') (n:Nat):Qt w (w'.drewN n):=by
 obtain ⟨q,rfl⟩:=h
 exact drewN_two w q n
theorem Qt.keeps {w w':World} (h:Qt w w'):Keeps w w':=by
 obtain ⟨q,rfl⟩:=h
 exact Keeps.drewN w q
theorem Qt.trans {a b c:World} (h:Qt a b) (k:Qt b c):Qt a c:=by
 obtain ⟨q,rfl⟩:=k
 exact h.drewN q
theorem RowOf.kept {α:Type} {w w':World} {R:Value→α→Prop} {A:Option Addr} {n c:Nat} {l:List α} (h:RowOf w R A n c l) (hk:Keeps w w'):RowOf w' R A n c l:=h.keep hk fun _ _ h=>h
theorem RowOf.words {w w':World} {A:Option Addr} {n c:Nat} {l:List (List Int)} (h:RowOf w (IsI w) A n c l) (hk:Keeps w w'):RowOf w' (IsI w') A n c l:=h.keep hk fun _ _ h=>h.keep hk
theorem RowOf.lists {w w':World} {A:Option Addr} {n c:Nat} {l:List (List (List Int))} (h:RowOf w (IsW w) A n c l) (hk:Keeps w w'):RowOf w' (IsW w') A n c l:=h.keep hk fun _ _ h=>h.keep hk
theorem take_step {α:Type} {l:List α} {k:Nat} {x:α} (hl:l[k]?=some x):l.take (k+1)=l.take k++[x]:=by
 rw [List.take_add_one,hl];rfl
theorem getD_of_some {α:Type} {l:List α} {k:Nat} {x d:α} (h:l[k]?=some x):l.getD k d=x:=by simp [List.getD_eq_getElem?_getD,h]
end Go.Proofs.YtkeplokjplkcmaaGreat

/-
 Rows that the call itself made: words and lists of words that grow by append. No function of the program in sight.
-/
namespace Go.Proofs.YtkeplokjplkcmaaGreat
open Go.RowKit
theorem Tryz.infoInt:(Tryz.prog.info? 3).map (fun i=>(i.zero,i.size,i.bytes))=some (some (.int .i64 0),1,8):=by kernel_rfl
theorem Tryz.infoWord:(Tryz.prog.info? 60).map (fun i=>(i.zero,i.size,i.bytes))=some (some (.slice none 0 0),1,24):=by kernel_rfl
theorem addr_add (b o j:Nat):(⟨b,o,none⟩:Addr).add j=⟨b,o+j,none⟩:=by
 unfold Addr.add
 split
 ·rename_i h;subst h;rfl
 ·rfl
def Src (w:World) (A:Option Addr) (m:Nat) (news:List Value):Prop :=
 news.length=m∧(0<m→∃ b o,A=some ⟨b,o,none⟩∧∀ j u,news[j]?=some u→w.cell? ⟨b,o+j,none⟩=some u)
section
variable {P:Program} {w:World}
end
def Off (u:Value) (row:Option Nat):Prop:=∀ a n c,u=.slice (some a) n c→0<n→row≠some a.block
theorem Off.none_ (u:Value):Off u none:=fun _ _ _ _ _ h=>by cases h
def OwnI (w:World) (base:Nat) (v:Value) (xs:List Int):Prop:=w.ownsRow base 3 1 v xs.length (xs.map (Value.int .i64))
def OwnW (w:World) (base:Nat) (v:Value) (l:List (List Int)):Prop :=
 ∃ us:List Value,us.length=l.length∧w.ownsRow base 60 1 v us.length us ∧
  ∀ (i:Nat) x,l[i]?=some x→∃ u,us[i]?=some u∧IsI w u x∧Off u v.ownBlock
theorem IsI.lt {w:World} {v:Value} {x:List Int} (h:IsI w v x):∀ a n c,v=.slice (some a) n c→0<n→a.block<w.heap.size:=by
 obtain ⟨A,n,c,rfl,hr⟩:=h
 rintro a n' c' e h0
 injection e with e1 e2 e3
 subst e1 e2
 obtain ⟨b,o,u,y,e,_,hu,_⟩:=hr.at_ h0
 injection e with e
 subst e
 exact World.block_lt_of_cell? w _ hu
theorem IsI.off_new {w:World} {v:Value} {x:List Int} (h:IsI w v x) {g:Nat} (hg:w.heap.size≤g):Off v (some g):=fun a n c e h0 hh=>by
 have:=h.lt a n c e h0
 injection hh with hh
 omega
theorem IsI.grown {w w':World} {v:Value} {x:List Int} {row:Option Nat} (h:IsI w v x) (hg:w.grownBy w' row) (ho:Off v row):IsI w' v x:=by
 obtain ⟨A,n,c,rfl,hr⟩:=h
 refine ⟨A,n,c,rfl,hr.1,hr.2.1,hr.2.2.1,fun hn=>?_⟩
 obtain ⟨b,o,rfl,hc⟩:=hr.2.2.2 hn
 refine ⟨b,o,rfl,fun i y hy=>?_⟩
 obtain ⟨u,hu,hr'⟩:=hc i y hy
 exact ⟨u,hg.cell hu (fun e=>ho _ _ _ rfl hn e.symm),hr'⟩
theorem grown_keeps {w w':World} (hg:w.grownBy w' none):Keeps w w':=fun _ _ hu=>hg.cell hu (by simp)
theorem grown_below {w w':World} {row:Option Nat} (hg:w.grownBy w' row) {B:Nat} (hB:B≤w.heap.size) (hr:∀ g,row=some g→B≤g):Below B w w':=(Below.refl B w).grown hg hB hr
theorem OwnI.lt {w:World} {base:Nat} {v:Value} {xs:List Int} (h:OwnI w base v xs):∀ k,v.ownBlock=some k→base≤k∧k<w.heap.size:=World.ownsRow.lt h
theorem OwnW.lt {w:World} {base:Nat} {v:Value} {l:List (List Int)} (h:OwnW w base v l):∀ k,v.ownBlock=some k→base≤k∧k<w.heap.size:=by
 obtain ⟨us,_,hown,_⟩:=h
 exact hown.lt
theorem OwnI.kept {w w':World} {base:Nat} {v:Value} {xs:List Int} {row:Option Nat} (h:OwnI w base v xs) (hg:w.grownBy w' row) (hne:v.ownBlock=none∨v.ownBlock≠row):OwnI w' base v xs :=
 World.ownsRow.kept h hg hne
theorem OwnW.kept {w w':World} {base:Nat} {v:Value} {l:List (List Int)} (h:OwnW w base v l) (hg:w.grownBy w' none):OwnW w' base v l:=by
 obtain ⟨us,hl,hown,hel⟩:=h
 refine ⟨us,hl,hown.kept hg (by cases v.ownBlock<;>simp),fun i x hx=>?_⟩
 obtain ⟨u,hu,hi,ho⟩:=hel i x hx
 exact ⟨u,hu,hi.keep (grown_keeps hg),ho⟩
theorem OwnW.alloc {w:World} {base:Nat} {v:Value} {l:List (List Int)} (h:OwnW w base v l) (o:Obj):OwnW (w.alloc o) base v l:=h.kept (World.grownBy_alloc w o none)
theorem OwnI.alloc {w:World} {base:Nat} {v:Value} {xs:List Int} (h:OwnI w base v xs) (o:Obj):OwnI (w.alloc o) base v xs:=World.ownsRow.alloc h o
theorem OwnW.push {w w1 w2:World} {base:Nat} {v v' u:Value} {l:List (List Int)} {x:List Int} {us:List Value} (hl:us.length=l.length)
  (hel:∀ (i:Nat) x,l[i]?=some x→∃ u,us[i]?=some u∧IsI w u x∧Off u v.ownBlock) (hx:IsI w u x) (hoff:Off u v.ownBlock) (h1:w.grownBy w1 none)
  (hown:w2.ownsRow base 60 1 v' (us.length+1) (us++[u])) (hg:w1.grownBy w2 v.ownBlock) (hb:v'.ownBlock=v.ownBlock∨v'.ownBlock=some w1.heap.size):OwnW w2 base v' (l++[x]):=by
 have key:∀ u x,IsI w u x→Off u v.ownBlock→IsI w2 u x∧Off u v'.ownBlock:=fun u x hi ho=>by
  refine ⟨(hi.keep (grown_keeps h1)).grown hg ho,?_⟩
  rcases hb with e | e
  ·rw [e];exact ho
  ·rw [e];exact hi.off_new h1.size
 refine ⟨us++[u],by simp [hl],by simpa using hown,fun i y hy=>?_⟩
 rw [List.getElem?_append] at hy
 split at hy
 ·rename_i hi
  obtain ⟨u',hu',h3,h4⟩:=hel i y hy
  exact ⟨u',by rw [List.getElem?_append,if_pos (by omega)];exact hu',key u' y h3 h4⟩
 ·rename_i hi
  have hi0:i-l.length=0:=by
   rcases Nat.eq_zero_or_pos (i-l.length) with h0 | h0
   ·exact h0
   ·rw [List.getElem?_eq_none (by simp;omega)] at hy;cases hy
  rw [hi0] at hy
  simp at hy
  subst hy
  exact ⟨u,by rw [List.getElem?_append,if_neg (by omega)];simp [hl,hi0],key u x hx hoff⟩
theorem RowOf.src {w:World} {A:Option Addr} {n c:Nat} {xs:List Int} (h:RowOf w IsInt A n c xs):Src w A n (xs.map (Value.int .i64)):=by
 refine ⟨by simp [h.len],fun h0=>?_⟩
 obtain ⟨b,o,e,hc⟩:=h.2.2.2 h0
 refine ⟨b,o,e,fun j u hu=>?_⟩
 rw [List.getElem?_map] at hu
 cases hx:xs[j]? with
 | none=>rw [hx] at hu;cases hu
 | some x =>
  rw [hx] at hu
  simp at hu
  obtain ⟨u',hu',rfl⟩:=hc j x hx
  rw [← hu]
  exact hu'
end Go.Proofs.YtkeplokjplkcmaaGreat

/-
 The contract of slices.Clone.
-/
namespace Go.Proofs.YtkeplokjplkcmaaGreat.Sym
open Go.RowKit
section
variable {P:Program} {w:World}
theorem wpList_append_k {ops:Array Oper} {rest:List Oper} {o:Oper} {a:Act} {Q:Exit→Act→World→Prop} (hgd:o.guard=none) (s x:Operand) (t:TypeId)
  (ho:o.op=.call { callee:=.builtin .append,args:=#[s,x],argTypes:=#[t,t] })
  (base:Nat) (e:TypeId) (i:TypeInfo) (z:Value) (size bytes:Nat) (ht:P.underlying t=some (.slice e)) (hi:P.info? e=some i) (hz:i.zero=some z)
  (hsize:i.size=size) (hby:i.bytes=bytes) (hzs:z.cells.size=size) (hsz:0<size) (v:Value) (n:Nat) (xs:List Value) (hs:a.eval s=v) (hown:w.ownsRow base e size v n xs)
  (A:Option Addr) (m c:Nat) (news:List Value) (hx:a.eval x=.slice A m c) (hl:news.length=m*size) (hsrc:0<m→∃ b q,A=some ⟨b,q,none⟩∧∀ (j:Nat) u,news[j]?=some u→w.cell? ⟨b,q+j,none⟩=some u) (h1:∀ u∈news,u.oneCell'=true)
  (h63:n+m≤maxLen) (hbytes:(n+m)*bytes≤140737488355328) (hbase:base≤w.heap.size)
  (h:∀ v' w',w'.ownsRow base e size v' (n+m) (xs++news)→w.grownBy w' v.ownBlock→(v'.ownBlock=v.ownBlock∨v'.ownBlock=some w.heap.size)→wpList P ops Q rest (a.put o.dst v') w') :
  wpList P ops Q (o::rest) a w:=by
 refine wpList_plain hgd fun _ hK=>?_
 obtain ⟨v',w',hrun,h2,h3,h4⟩:=run_append_k (P:=P) base t o.type e i z size bytes ht hi hz hsize hby hzs hsz v n xs hown A m c news hl hsrc h1 h63 hbytes hbase
 unfold Oper.wp execOp
 simp only [ho,resolve,invoke,builtin,Sem.run_bind,Sem.run_pure,Result.andThen_ok,List.map_toArray,List.map_cons,List.map_nil,hs,hx,hrun]
 exact hK _ _ (h v' w' h2 h3 h4)
end
theorem grown_step {a b c:World} {row row':Option Nat} (h:a.grownBy b row) (k:b.grownBy c row') (hr:row'=row∨∀ g,row'=some g→a.heap.size≤g):a.grownBy c row :=
 ⟨k.os.trans h.os,k.tape.trans h.tape,k.output.trans h.output,Nat.le_trans h.size k.size,fun i hi hne =>
  (k.block i (Nat.lt_of_lt_of_le hi h.size) (by
   rcases hr with e | e
   ·rw [e];exact hne
   ·intro he
    have:=e i he.symm
    omega)).trans (h.block i hi hne)⟩
def ClonePost (t:TypeId) (k n:Nat) (us:List Value) (w:World) (e:Ending) (w':World):Prop :=
 ∃ v',e=.returned v'∧w'.ownsRow w.heap.size t k v' n us∧Below w.heap.size w w'
theorem ownsRow_none (w:World) (t:TypeId) (k:Nat):(w.alloc (.cells #[] t)).ownsRow w.heap.size t k (.slice (some ⟨w.heap.size,0,none⟩) 0 0) 0 []:=by
 refine ⟨by simp,.inr ⟨w.heap.size,0,#[],rfl,Nat.le_refl _,?_,Nat.zero_le _,by unfold maxLen;omega,by simp,by simp⟩⟩
 exact heap_alloc_new w _
theorem sp_of_clone {g:FuncId} {t:TypeId} {k by_:Nat} (he:∀ args w,(callFunc g args).run Tryz.prog w=.ok (.enter g args) w) (hk0:0<k)
  (h:∀ (w:World) (A:Option Addr) (n c:Nat) (us:List Value),us.length=n*k→(0<n→∃ b q,A=some ⟨b,q,none⟩∧∀ (j:Nat) u,us[j]?=some u→w.cell? ⟨b,q+j,none⟩=some u) →
   (∀ u∈us,u.oneCell'=true)→n≤17592186044416→n*by_≤140737488355328→Calls Tryz.prog g #[.slice A n c] w (ClonePost t k n us w))
  {es:List (List IV)} (hk:∀ e∈es,e.length=k) (hc:capOk es.length by_):Sp Tryz.prog g [.im (.sl es)] (.row t k es):=by
 refine ⟨he,fun w S vs F hS hv hn hF=>?_⟩
 match vs,hv with
 | [v],⟨F1,F2,⟨h3,e1⟩,h5,e3⟩ =>
  have h5:F2=[]:=h5
  subst e1 h5 e3
  obtain ⟨A,c,us,rfl,hl,h1,hlim,hcell,hr⟩:=sl_src h3 hk
  have hlk:us.length=es.length*k:=by rw [hl,flat_length hk]
  refine (h w A es.length c us hlk hcell h1 hlim hc.1).mono ?_
  rintro e w' ⟨v',rfl,ho,hb⟩
  have ho0:w'.ownsRow 0 t k v' es.length us:=by
   refine ⟨ho.1,?_⟩
   rcases ho.2 with h6 | ⟨g1,cap,cur,k1,_,k3⟩
   ·exact .inl h6
   ·exact .inr ⟨g1,cap,cur,k1,Nat.zero_le _,k3⟩
  have hlt:=ho.lt
  have hbk:∀ b∈(blkOf v').toList,w.heap.size≤b∧b<w'.heap.size:=fun b hb=>by
   refine hlt b ?_
   rw [row_blk ho0]
   simpa using hb
  refine ⟨v',(blkOf v').toList,rfl,.of hb,⟨[v'],(blkOf v').toList,[],rfl,⟨(blkOf v').toList,[],⟨row_one ho0,[],⟨us,hk0,hk,hlim,ho0,hl,h1,fun i u x hu hx=>?_⟩,rfl⟩,rfl,by simp⟩,rfl,by simp⟩,?_,fun b hb=>⟨.inl (hbk b hb).1,(hbk b hb).2⟩⟩
  ·have k1:∀ b,S b→(S b∨w.heap.size≤b∨b∈[])∧b<w'.heap.size∧b∉(blkOf v').toList:=fun b hb'=>⟨.inl hb',Nat.lt_of_lt_of_le (hS b hb') hb.size,fun hm=>by
    have h1:=(hbk b hm).1
    have h2:=hS b hb'
    omega⟩
   have k2:∀ (p:Addr) u,S p.block→w.cell? p=some u→w'.cell? p=some u:=fun p u hp hu=>by
    have h6:=hb.block p.block (hS _ hp)
    have h7:w'.cell? p=w.cell? p:=by
     unfold World.cell?
     rw [h6]
    rw [h7]
    exact hu
   exact (hr i u x hu hx).mono k1 k2
  ·cases blkOf v'<;>simp
end Go.Proofs.YtkeplokjplkcmaaGreat.Sym

/-
 Walks of slices.Clone.
-/
namespace Go.Proofs.YtkeplokjplkcmaaGreat.Sym
open Go.RowKit
theorem Tryz.infoC_int:(Tryz.prog.info? 3).map (fun i=>(i.zero,i.size,i.bytes))=some (some (.int .i64 0),1,8):=by kernel_rfl
set_option maxRecDepth 100000 in
set_option maxHeartbeats 400000 in
theorem clone_int (w:World) (A:Option Addr) (n c:Nat) (us:List Value) (hl:us.length=n*1) (hs:0<n→∃ b q,A=some ⟨b,q,none⟩∧∀ (j:Nat) u,us[j]?=some u→w.cell? ⟨b,q+j,none⟩=some u)
  (h1:∀ u∈us,u.oneCell'=true) (hn:n≤17592186044416) (hby:n*8≤140737488355328):Calls Tryz.prog 121 #[.slice A n c] w (ClonePost 3 1 n us w):=by
 obtain ⟨j0,ji,jz0,jz1,jz2⟩:=info_parts Tryz.infoC_int
 have hnil:=Lib.run_eql_slice_nil (P:=Tryz.prog) w 60 3 A n c 0 0 Tryz.underlying60
 cases A with
 | none =>
  have h0:n=0:=by
   rcases Nat.eq_zero_or_pos n with h | h
   ·exact h
   ·obtain ⟨b,q,e,_⟩:=hs h;cases e
  subst h0
  have hxs:us=[]:=List.eq_nil_of_length_eq_zero (by omega)
  have HX:=Lib.hid hxs
  clear hxs hs hl h1
  go_enter Tryz.func121,Tryz.ntmps121
  go_wp2
  go_ret
  rw [HX.out]
  exact ⟨_,rfl,World.ownsRow_nil _ _ _ _,Below.refl _ _⟩
 | some a =>
  have hsrc:∀ o,0<n→∃ b q,some a=some ⟨b,q,none⟩∧∀ (j:Nat) u,us[j]?=some u→(w.alloc o).cell? ⟨b,q+j,none⟩=some u:=fun o h=>by
   obtain ⟨b,q,e,hc⟩:=hs h
   exact ⟨b,q,e,fun j u hu=>grown_keeps (World.grownBy_alloc w o none) _ _ (hc j u hu)⟩
  have hc6:0+n≤maxLen:=by unfold maxLen;omega
  have hc7:(0+n)*8≤140737488355328:=by omega
  have hc8:∀ o,w.heap.size≤(w.alloc o).heap.size:=fun o=>by simp
  have HXL:=Lib.hid hl
  clear hs
  go_enter Tryz.func121,Tryz.ntmps121
  go_wp2_with (at_builtin;refine wpList_append_k rfl (.tmp 5) (.tmp 6) 60 rfl w.heap.size 3 j0 (.int .i64 0) 1 8 Tryz.underlying60 ji jz0 jz1 jz2 rfl (by decide) (.slice (some ⟨w.heap.size,0,none⟩) 0 0) 0 _ rfl (ownsRow_none _ _ _) _ _ _ _ rfl HXL.out (hsrc _) h1 hc6 hc7 (hc8 _) ?_;intro v1 w1 hown1 hg1 hb1)
  go_ret
  have hgr:w.grownBy w1 none:=grown_step (World.grownBy_alloc w _ none) hg1 (.inr fun g e=>by
   have:some w.heap.size=some g:=e
   injection this with this
   omega)
  exact ⟨v1,rfl,by simpa using hown1,grown_below hgr (Nat.le_refl _) (fun g e=>by cases e)⟩
theorem Tryz.infoC_words:(Tryz.prog.info? 60).map (fun i=>(i.zero,i.size,i.bytes))=some (some (.slice none 0 0),1,24):=by kernel_rfl
set_option maxRecDepth 100000 in
set_option maxHeartbeats 400000 in
theorem clone_words (w:World) (A:Option Addr) (n c:Nat) (us:List Value) (hl:us.length=n*1) (hs:0<n→∃ b q,A=some ⟨b,q,none⟩∧∀ (j:Nat) u,us[j]?=some u→w.cell? ⟨b,q+j,none⟩=some u)
  (h1:∀ u∈us,u.oneCell'=true) (hn:n≤17592186044416) (hby:n*24≤140737488355328):Calls Tryz.prog 148 #[.slice A n c] w (ClonePost 60 1 n us w):=by
 obtain ⟨j0,ji,jz0,jz1,jz2⟩:=info_parts Tryz.infoC_words
 have hnil:=Lib.run_eql_slice_nil (P:=Tryz.prog) w 22 60 A n c 0 0 Tryz.underlying22
 cases A with
 | none =>
  have h0:n=0:=by
   rcases Nat.eq_zero_or_pos n with h | h
   ·exact h
   ·obtain ⟨b,q,e,_⟩:=hs h;cases e
  subst h0
  have hxs:us=[]:=List.eq_nil_of_length_eq_zero (by omega)
  have HX:=Lib.hid hxs
  clear hxs hs hl h1
  go_enter Tryz.func148,Tryz.ntmps148
  go_wp2
  go_ret
  rw [HX.out]
  exact ⟨_,rfl,World.ownsRow_nil _ _ _ _,Below.refl _ _⟩
 | some a =>
  have hsrc:∀ o,0<n→∃ b q,some a=some ⟨b,q,none⟩∧∀ (j:Nat) u,us[j]?=some u→(w.alloc o).cell? ⟨b,q+j,none⟩=some u:=fun o h=>by
   obtain ⟨b,q,e,hc⟩:=hs h
   exact ⟨b,q,e,fun j u hu=>grown_keeps (World.grownBy_alloc w o none) _ _ (hc j u hu)⟩
  have hc6:0+n≤maxLen:=by unfold maxLen;omega
  have hc7:(0+n)*24≤140737488355328:=by omega
  have hc8:∀ o,w.heap.size≤(w.alloc o).heap.size:=fun o=>by simp
  have HXL:=Lib.hid hl
  clear hs
  go_enter Tryz.func148,Tryz.ntmps148
  go_wp2_with (at_builtin;refine wpList_append_k rfl (.tmp 5) (.tmp 6) 22 rfl w.heap.size 60 j0 (.slice none 0 0) 1 24 Tryz.underlying22 ji jz0 jz1 jz2 rfl (by decide) (.slice (some ⟨w.heap.size,0,none⟩) 0 0) 0 _ rfl (ownsRow_none _ _ _) _ _ _ _ rfl HXL.out (hsrc _) h1 hc6 hc7 (hc8 _) ?_;intro v1 w1 hown1 hg1 hb1)
  go_ret
  have hgr:w.grownBy w1 none:=grown_step (World.grownBy_alloc w _ none) hg1 (.inr fun g e=>by
   have:some w.heap.size=some g:=e
   injection this with this
   omega)
  exact ⟨v1,rfl,by simpa using hown1,grown_below hgr (Nat.le_refl _) (fun g e=>by cases e)⟩
theorem Tryz.infoC_traces:(Tryz.prog.info? 70).map (fun i=>(i.zero,i.size,i.bytes))=some (some (.agg #[.slice none 0 0,.slice none 0 0]),2,48):=by kernel_rfl
set_option maxRecDepth 100000 in
set_option maxHeartbeats 400000 in
theorem clone_traces (w:World) (A:Option Addr) (n c:Nat) (us:List Value) (hl:us.length=n*2) (hs:0<n→∃ b q,A=some ⟨b,q,none⟩∧∀ (j:Nat) u,us[j]?=some u→w.cell? ⟨b,q+j,none⟩=some u)
  (h1:∀ u∈us,u.oneCell'=true) (hn:n≤17592186044416) (hby:n*48≤140737488355328):Calls Tryz.prog 140 #[.slice A n c] w (ClonePost 70 2 n us w):=by
 obtain ⟨j0,ji,jz0,jz1,jz2⟩:=info_parts Tryz.infoC_traces
 have hnil:=Lib.run_eql_slice_nil (P:=Tryz.prog) w 33 70 A n c 0 0 Tryz.underlying33
 cases A with
 | none =>
  have h0:n=0:=by
   rcases Nat.eq_zero_or_pos n with h | h
   ·exact h
   ·obtain ⟨b,q,e,_⟩:=hs h;cases e
  subst h0
  have hxs:us=[]:=List.eq_nil_of_length_eq_zero (by omega)
  have HX:=Lib.hid hxs
  clear hxs hs hl h1
  go_enter Tryz.func140,Tryz.ntmps140
  go_wp2
  go_ret
  rw [HX.out]
  exact ⟨_,rfl,World.ownsRow_nil _ _ _ _,Below.refl _ _⟩
 | some a =>
  have hsrc:∀ o,0<n→∃ b q,some a=some ⟨b,q,none⟩∧∀ (j:Nat) u,us[j]?=some u→(w.alloc o).cell? ⟨b,q+j,none⟩=some u:=fun o h=>by
   obtain ⟨b,q,e,hc⟩:=hs h
   exact ⟨b,q,e,fun j u hu=>grown_keeps (World.grownBy_alloc w o none) _ _ (hc j u hu)⟩
  have hc6:0+n≤maxLen:=by unfold maxLen;omega
  have hc7:(0+n)*48≤140737488355328:=by omega
  have hc8:∀ o,w.heap.size≤(w.alloc o).heap.size:=fun o=>by simp
  have HXL:=Lib.hid hl
  clear hs
  go_enter Tryz.func140,Tryz.ntmps140
  go_wp2_with (at_builtin;refine wpList_append_k rfl (.tmp 5) (.tmp 6) 33 rfl w.heap.size 70 j0 (.agg #[.slice none 0 0,.slice none 0 0]) 2 48 Tryz.underlying33 ji jz0 jz1 jz2 rfl (by decide) (.slice (some ⟨w.heap.size,0,none⟩) 0 0) 0 _ rfl (ownsRow_none _ _ _) _ _ _ _ rfl HXL.out (hsrc _) h1 hc6 hc7 (hc8 _) ?_;intro v1 w1 hown1 hg1 hb1)
  go_ret
  have hgr:w.grownBy w1 none:=grown_step (World.grownBy_alloc w _ none) hg1 (.inr fun g e=>by
   have:some w.heap.size=some g:=e
   injection this with this
   omega)
  exact ⟨v1,rfl,by simpa using hown1,grown_below hgr (Nat.le_refl _) (fun g e=>by cases e)⟩
end Go.Proofs.YtkeplokjplkcmaaGreat.Sym

/-
 Walks of the program's slices.Grow.
-/
namespace Go.Proofs.YtkeplokjplkcmaaGreat
open Go.RowKit
def GrowPost (t:TypeId) (w:World) (e:Ending) (w':World):Prop:=∃ v',e=.returned v'∧w'.ownsRow w.heap.size t 1 v' 0 []∧Below w.heap.size w w'
theorem ownsRow_zeros (w:World) (Z:Array Value) (t:TypeId) (c:Nat) (hc:c≤maxLen) (hZ:Z.size=c) :
  (w.drew.alloc (.cells Z t)).ownsRow w.heap.size t 1 (.slice (some ⟨w.heap.size,0,none⟩) 0 c) 0 []:=by
 refine ⟨rfl,.inr ⟨w.heap.size,c,Z,rfl,Nat.le_refl _,?_,Nat.zero_le _,hc,by omega,by simp⟩⟩
 exact heap_alloc_new w.drew _
theorem below_zeros (w:World) (o:Obj):Below w.heap.size w (w.drew.alloc o):=(Below.refl w.heap.size w).drew.alloc (Nat.le_refl _) o
set_option maxRecDepth 100000 in
set_option maxHeartbeats 800000 in
theorem growI_any (n:Nat) (hn:n≤1000000000) (w:World) :
  Calls Tryz.prog 174 #[.slice none 0 0,.int .i64 n] w (GrowPost 3 w):=by
 obtain ⟨i0,hi,hz0,hz1,hz2⟩:=info_parts Tryz.infoInt
 have h1:¬ ((n:Int)<0):=by omega
 by_cases h0:n=0
 ·subst h0
  go_enter Tryz.func174,Tryz.ntmps174
  go_wp2
  go_ret
  exact ⟨_,rfl,World.ownsRow_nil _ _ _ _,Below.refl _ _⟩
 ·have h4:(n:Int) > 0:=by omega
  have happ:=Lib.run_append_nil_zeros (P:=Tryz.prog) w 60 3 60 3 i0 (.int .i64 0) .i64 .i64 Tryz.underlying60 Tryz.underlying3 hi hz0 n (by omega) (by omega) (by omega) (by rw [hz2];omega)
  generalize hcap:grownCap w n 0 3=cap2 at happ
  have hcapge:n≤cap2:=by rw [← hcap];exact grownCap_ge w _ 0 _
  have hcaple:cap2≤maxLen:=by rw [← hcap];exact grownCap_le_maxLen w _ 0 _ (by unfold maxLen;omega)
  generalize hZ:(Builtin.zeroCells (Value.cells (.int .i64 0)) n++Builtin.zeroCells (Value.cells (.int .i64 0)) (cap2-n))=Z at happ
  have hZs:Z.size=cap2:=by rw [← hZ];simp [size_zeroCells,Value.cells];omega
  have hown:=ownsRow_zeros w Z 3 cap2 hcaple hZs
  have hcap63:cap2≤9223372036854775807:=by unfold maxLen at hcaple;omega
  have HO:=Lib.hid (And.intro hown (below_zeros w (.cells Z 3)))
  clear hcap hZ hown hZs
  go_enter Tryz.func174,Tryz.ntmps174
  go_wp2_with (at_builtin;refine Lib.wpList_append_run _ rfl _ _ _ _ rfl _ _ rfl rfl _ _ happ ?_)
  go_ret
  exact ⟨_,rfl,HO.out.1,HO.out.2⟩
set_option maxRecDepth 100000 in
set_option maxHeartbeats 800000 in
theorem growW_any (n:Nat) (hn:n≤1000000000) (w:World) :
  Calls Tryz.prog 131 #[.slice none 0 0,.int .i64 n] w (GrowPost 60 w):=by
 obtain ⟨i0,hi,hz0,hz1,hz2⟩:=info_parts Tryz.infoWord
 have h1:¬ ((n:Int)<0):=by omega
 by_cases h0:n=0
 ·subst h0
  go_enter Tryz.func131,Tryz.ntmps131
  go_wp2
  go_ret
  exact ⟨_,rfl,World.ownsRow_nil _ _ _ _,Below.refl _ _⟩
 ·have h4:(n:Int) > 0:=by omega
  have happ:=Lib.run_append_nil_zeros (P:=Tryz.prog) w 22 3 22 60 i0 (.slice none 0 0) .i64 .i64 Tryz.underlying22 Tryz.underlying3 hi hz0 n (by omega) (by omega) (by omega) (by rw [hz2];omega)
  generalize hcap:grownCap w n 0 60=cap2 at happ
  have hcapge:n≤cap2:=by rw [← hcap];exact grownCap_ge w _ 0 _
  have hcaple:cap2≤maxLen:=by rw [← hcap];exact grownCap_le_maxLen w _ 0 _ (by unfold maxLen;omega)
  generalize hZ:(Builtin.zeroCells (Value.cells (.slice none 0 0)) n++Builtin.zeroCells (Value.cells (.slice none 0 0)) (cap2-n))=Z at happ
  have hZs:Z.size=cap2:=by rw [← hZ];simp [size_zeroCells,Value.cells];omega
  have hown:=ownsRow_zeros w Z 60 cap2 hcaple hZs
  have hcap63:cap2≤9223372036854775807:=by unfold maxLen at hcaple;omega
  have HO:=Lib.hid (And.intro hown (below_zeros w (.cells Z 60)))
  clear hcap hZ hown hZs
  go_enter Tryz.func131,Tryz.ntmps131
  go_wp2_with (at_builtin;refine Lib.wpList_append_run _ rfl _ _ _ _ rfl _ _ rfl rfl _ _ happ ?_)
  go_ret
  exact ⟨_,rfl,HO.out.1,HO.out.2⟩
end Go.Proofs.YtkeplokjplkcmaaGreat

/-
 The contract of slices.Grow of nil.
-/
namespace Go.Proofs.YtkeplokjplkcmaaGreat.Sym
open Go.RowKit
set_option maxRecDepth 100000
theorem sp_of_grow {g:FuncId} {t:TypeId} {n:Int} (he:∀ args w,(callFunc g args).run Tryz.prog w=.ok (.enter g args) w) (h0:0≤n) (h1:n≤1000000000)
  (h:∀ (n:Nat),n≤1000000000→∀ w,Calls Tryz.prog g #[.slice none 0 0,.int .i64 n] w (GrowPost t w)):Sp Tryz.prog g [.im (.val (.slice none 0 0)),.im (nI n)] (.row t 1 []):=by
 refine ⟨he,fun w S vs F hS hv hn hF=>?_⟩
 match vs,hv with
 | [v,u],⟨F1,F2,⟨h3,e1⟩,⟨F3,F4,⟨h4,e2⟩,h5,e3⟩,e4⟩ =>
  have h5:F4=[]:=h5
  subst e1 e2 h5 e3 e4
  cases h3
  cases h4
  have hc:=h n.toNat (by omega) w
  rw [Int.toNat_of_nonneg h0] at hc
  refine hc.mono ?_
  rintro e w' ⟨v',rfl,ho,hb⟩
  have ho0:w'.ownsRow 0 t 1 v' 0 []:=by
   refine ⟨ho.1,?_⟩
   rcases ho.2 with h6 | ⟨g1,cap,cur,k1,_,k3⟩
   ·exact .inl h6
   ·exact .inr ⟨g1,cap,cur,k1,Nat.zero_le _,k3⟩
  have hlt:=ho.lt
  have hbk:∀ b∈(blkOf v').toList,w.heap.size≤b∧b<w'.heap.size:=fun b hb=>by
   refine hlt b ?_
   rw [row_blk ho0]
   simpa using hb
  refine ⟨v',(blkOf v').toList,rfl,.of hb,⟨[v'],(blkOf v').toList,[],rfl,⟨(blkOf v').toList,[],⟨row_one ho0,[],⟨[],Nat.one_pos,fun x hx=>by simp at hx,by decide,ho0,rfl,fun u hu=>by simp at hu,fun i u x hu=>by simp at hu⟩,rfl⟩,rfl,by simp⟩,rfl,by simp⟩,?_,fun b hb=>⟨.inl (hbk b hb).1,(hbk b hb).2⟩⟩
  cases blkOf v'<;>simp
def lib_Grow_int (n:Int):Option (List Int):=chk (0≤n∧n≤1000000000) (some [])
theorem sp_lib_Grow_int (n:Int) (r:List Int) (h:lib_Grow_int n=some r):Sp Tryz.prog 174 [.im (.val (.slice none 0 0)),.im (nI n)] (.row 3 1 (List.map cI r)):=by
 obtain ⟨h1,h⟩:=chk_some h
 injection h with h
 subst h
 exact sp_of_grow (fun args w=>run_enter rfl rfl rfl args w) h1.1 h1.2 growI_any
def lib_Grow_words (n:Int):Option (List (List Int)):=chk (0≤n∧n≤1000000000) (some [])
theorem sp_lib_Grow_words (n:Int) (r:List (List Int)) (h:lib_Grow_words n=some r):Sp Tryz.prog 131 [.im (.val (.slice none 0 0)),.im (nI n)] (.row 60 1 (List.map (cL cI) r)):=by
 obtain ⟨h1,h⟩:=chk_some h
 injection h with h
 subst h
 exact sp_of_grow (fun args w=>run_enter rfl rfl rfl args w) h1.1 h1.2 growW_any
end Go.Proofs.YtkeplokjplkcmaaGreat.Sym

/-
 The contract of slices.SortFunc under a total comparison.
-/
namespace Go.Proofs.YtkeplokjplkcmaaGreat.Sym
open Go.RowKit Go.Sort
section plain
variable {α:Type}
def totB [DecidableEq α] (f:α→α→Option Int) (l:List α):Bool :=
 l.all fun a=>l.all fun b=>match f a b,f b a with
  | some m,some n=>(decide (m=0)==decide (a=b))&&(decide (m<0)==decide (0<n))&&(decide (-1≤m∧m≤1))&&l.all fun c=>!(decide (m<0)&&(match f b c with | some x=>decide (x<0) | none=>false))||(match f a c with | some x=>decide (x<0) | none=>false)
  | _,_=>false
def insF (f:α→α→Option Int) (x:α):List α→List α
 | []=>[x]
 | y::l=>match f x y with
  | some m=>cond (decide (m≤0)) (x::y::l) (y::insF f x l)
  | none=>x::y::l
def isortF (f:α→α→Option Int):List α→List α
 | []=>[]
 | x::l=>insF f x (isortF f l)
def libSort [DecidableEq α] (l:List α) (f:α→α→Option Int):Option (List α):=chk (l.length≤1000000000) (cond (totB f l) (some (isortF f l)) none)
def cfv (f:α→α→Option Int) (a b:α):Int:=(f a b).getD 0
structure TotF (f:α→α→Option Int) (l:List α):Prop where
 get:∀ a∈l,∀ b∈l,f a b=some (cfv f a b)
 zero:∀ a∈l,∀ b∈l,cfv f a b=0→a=b
 self:∀ a∈l,cfv f a a=0
 swap:∀ a∈l,∀ b∈l,(cfv f a b<0↔0<cfv f b a)
 trans:∀ a∈l,∀ b∈l,∀ c∈l,cfv f a b<0→cfv f b c<0→cfv f a c<0
theorem totB_iff [DecidableEq α] {f:α→α→Option Int} {l:List α} (h:totB f l=true):TotF f l:=by
 have key:∀ a∈l,∀ b∈l,∃ m n,f a b=some m∧f b a=some n∧(m=0↔a=b)∧(m<0↔0<n)∧∀ c∈l,m<0→(∃ x,f b c=some x∧x<0)→∃ x,f a c=some x∧x<0:=by
  intro a ha b hb
  have h1:=List.all_eq_true.1 (List.all_eq_true.1 h a ha) b hb
  cases e1:f a b with
  | none=>rw [e1] at h1;cases h1
  | some m =>
   cases e2:f b a with
   | none=>rw [e1,e2] at h1;cases h1
   | some n =>
    rw [e1,e2] at h1
    simp only [Bool.and_eq_true] at h1
    obtain ⟨⟨⟨h2,h3⟩,_⟩,h5⟩:=h1
    refine ⟨m,n,rfl,rfl,?_,?_,fun c hc hm ⟨x,hx,hx0⟩=>?_⟩
    ·have h2:=eq_of_beq h2
     simpa using h2
    ·have h3:=eq_of_beq h3
     simpa using h3
    ·have h6:=List.all_eq_true.1 h5 c hc
     rw [hx] at h6
     simp only [hm,hx0,decide_true,Bool.and_self,Bool.not_true,Bool.false_or] at h6
     cases e3:f a c with
     | none=>rw [e3] at h6;cases h6
     | some y=>rw [e3] at h6;exact ⟨y,rfl,by simpa using h6⟩
 have get:∀ a∈l,∀ b∈l,f a b=some (cfv f a b):=fun a ha b hb=>by
  obtain ⟨m,n,e1,_⟩:=key a ha b hb
  unfold cfv
  rw [e1]
  rfl
 refine ⟨get,fun a ha b hb=>?_,fun a ha=>?_,fun a ha b hb=>?_,fun a ha b hb c hc h1 h2=>?_⟩
 ·obtain ⟨m,n,e1,e2,h3,_⟩:=key a ha b hb
  rw [get a ha b hb] at e1
  injection e1 with e1
  rw [e1]
  exact h3.1
 ·obtain ⟨m,n,e1,e2,h3,_⟩:=key a ha a ha
  rw [get a ha a ha] at e1
  injection e1 with e1
  rw [e1]
  exact h3.2 rfl
 ·obtain ⟨m,n,e1,e2,h3,h4,_⟩:=key a ha b hb
  rw [get a ha b hb] at e1
  rw [get b hb a ha] at e2
  injection e1 with e1
  injection e2 with e2
  rw [e1,e2]
  exact h4
 ·obtain ⟨m,n,e1,e2,h3,h4,h5⟩:=key a ha b hb
  rw [get a ha b hb] at e1
  injection e1 with e1
  obtain ⟨x,hx,hx0⟩:=h5 c hc (by omega) ⟨_,get b hb c hc,h2⟩
  rw [get a ha c hc] at hx
  injection hx with hx
  omega
theorem TotF.sub {f:α→α→Option Int} {l l':List α} (T:TotF f l) (h:∀ x∈l',x∈l):TotF f l' :=
 ⟨fun a ha b hb=>T.get a (h a ha) b (h b hb),fun a ha b hb=>T.zero a (h a ha) b (h b hb),fun a ha=>T.self a (h a ha),fun a ha b hb=>T.swap a (h a ha) b (h b hb),fun a ha b hb c hc=>T.trans a (h a ha) b (h b hb) c (h c hc)⟩
def NGt (f:α→α→Option Int) (a b:α):Prop:=¬ cfv f b a<0
theorem TotF.ngt_trans {f:α→α→Option Int} {l:List α} (T:TotF f l) {a b c:α} (ha:a∈l) (hb:b∈l) (hc:c∈l) (h1:NGt f a b) (h2:NGt f b c):NGt f a c:=by
 intro h3
 have s1:=T.swap a ha b hb
 have s2:=T.swap b hb c hc
 have s3:=T.swap c hc a ha
 have t1:=T.swap b hb a ha
 have t2:=T.swap c hc b hb
 unfold NGt at h1 h2
 by_cases e1:cfv f b a=0
 ·have:=T.zero b hb a ha e1
  subst this
  exact h2 h3
 ·by_cases e2:cfv f c b=0
  ·have:=T.zero c hc b hb e2
   subst this
   exact h1 h3
  ·have h4:cfv f a b<0:=s1.2 (by omega)
   have h5:=T.trans c hc a ha b hb h3 h4
   exact h2 h5
theorem insF_le {f:α→α→Option Int} {x y:α} {l:List α} {m:Int} (h:f x y=some m) (hm:m≤0):insF f x (y::l)=x::y::l:=by
 simp [insF,h,hm]
theorem insF_gt {f:α→α→Option Int} {x y:α} {l:List α} {m:Int} (h:f x y=some m) (hm:¬ m≤0):insF f x (y::l)=y::insF f x l:=by
 simp [insF,h,hm]
theorem insF_perm (f:α→α→Option Int) (x:α):∀ l:List α,(insF f x l).Perm (x::l)
 | []=>List.Perm.refl _
 | y::l=>by
  cases h:f x y with
  | none=>simp [insF,h]
  | some m =>
   by_cases hm:m≤0
   ·rw [insF_le h hm]
   ·rw [insF_gt h hm]
    exact ((insF_perm f x l).cons y).trans (List.Perm.swap x y l)
theorem isortF_perm (f:α→α→Option Int):∀ l:List α,(isortF f l).Perm l
 | []=>List.Perm.refl _
 | x::l=>(insF_perm f x _).trans ((isortF_perm f l).cons x)
theorem insF_sorted {f:α→α→Option Int} {x:α}:∀ {l:List α},TotF f (x::l)→l.Pairwise (NGt f)→(insF f x l).Pairwise (NGt f)
 | [],_,_=>List.pairwise_singleton _ _
 | y::l,T,h=>by
  have hx:x∈x::y::l:=by simp
  have hy:y∈x::y::l:=by simp
  have hc:=List.pairwise_cons.1 h
  by_cases hd:cfv f x y≤0
  ·rw [insF_le (T.get x hx y hy) hd]
   have hxy:NGt f x y:=fun h0=>by
    have:=(T.swap y hy x hx).1 h0
    omega
   exact List.pairwise_cons.2 ⟨fun z hz=>by
    rcases List.mem_cons.1 hz with rfl | hz'
    ·exact hxy
    ·exact T.ngt_trans hx hy (by simp [hz']) hxy (hc.1 z hz'),h⟩
  ·rw [insF_gt (T.get x hx y hy) hd]
   have hyx:NGt f y x:=by unfold NGt;omega
   refine List.pairwise_cons.2 ⟨fun z hz=>?_,insF_sorted (T.sub fun z hz=>?_) hc.2⟩
   ·rcases List.mem_cons.1 ((insF_perm f x l).mem_iff.1 hz) with rfl | hz'
    ·exact hyx
    ·exact hc.1 z hz'
   ·rcases List.mem_cons.1 hz with rfl | hz'
    ·simp
    ·simp [hz']
theorem isortF_sorted {f:α→α→Option Int}:∀ {l:List α},TotF f l→(isortF f l).Pairwise (NGt f)
 | [],_=>List.Pairwise.nil
 | x::l,T=>insF_sorted (T.sub fun z hz=>by
   rcases List.mem_cons.1 hz with rfl | hz'
   ·simp
   ·exact List.mem_cons_of_mem _ ((isortF_perm f l).mem_iff.1 hz')) (isortF_sorted (T.sub fun z hz=>List.mem_cons_of_mem _ hz))
theorem sorted_uniq {f:α→α→Option Int}:∀ {l1 l2:List α},TotF f l1→l1.Perm l2→l1.Pairwise (NGt f)→l2.Pairwise (NGt f)→l1=l2
 | [],l2,_,hp,_,_=>(List.nil_perm.1 hp).symm
 | x::l1,[],_,hp,_,_=>absurd hp.length_eq (by simp)
 | x::l1,y::l2,T,hp,h1,h2=>by
  have p1:=List.pairwise_cons.1 h1
  have p2:=List.pairwise_cons.1 h2
  have hx:x∈x::l1:=by simp
  have hy:y∈x::l1:=hp.mem_iff.2 (by simp)
  have e:x=y:=by
   rcases List.mem_cons.1 hy with e | hy'
   ·exact e.symm
   ·have hxy:=p1.1 y hy'
    rcases List.mem_cons.1 (hp.mem_iff.1 hx) with e | hx'
    ·exact e
    ·have hyx:=p2.1 x hx'
     have s1:=T.swap y hy x hx
     have s2:=T.swap x hx y hy
     unfold NGt at hxy hyx
     exact T.zero x hx y hy (by omega)
  subst e
  rw [sorted_uniq (T.sub fun z hz=>List.mem_cons_of_mem _ hz) (List.Perm.cons_inv hp) p1.2 p2.2]
end plain
section model
variable {α:Type}
def CmpG (P:Program) (g:FuncId) (X:α→IV) (f:α→α→Option Int):Prop :=
 ∀ (W:World) (S:Nat→Prop) (u u':Value) (x y:α) (r:Int),f x y=some r→RepI W S u (X x)→RepI W S u' (X y) →
  Calls P g #[u,u'] W fun e w'=>e=.returned (.int .i64 r)∧∃ q os,w'=Sort.grow (W.drewN q) os
def El (w:World) (S:Nat→Prop) (k:Nat) (c:α→List IV) (l:List α):Type:={ p:List Value×α // p.1.length=k∧(∀ v∈p.1,v.oneCell'=true)∧RepIs w S p.1 (c p.2)∧p.2∈l }
variable {w:World} {S:Nat→Prop} {k:Nat} {c:α→List IV} {l:List α}
def El.enc (x:El w S k c l):List Value:=x.val.1
def El.wd (x:El w S k c l):α:=x.val.2
def El.of (us:List Value) (x:α) (h1:us.length=k) (h2:∀ v∈us,v.oneCell'=true) (h3:RepIs w S us (c x)) (h4:x∈l):El w S k c l:=⟨(us,x),h1,h2,h3,h4⟩
theorem el_list (hk:∀ x,(c x).length=k):∀ (l0:List α) (us:List Value),(∀ x∈l0,x∈l)→us.length=(l0.map c).flatten.length→(∀ u∈us,u.oneCell'=true) →
  (∀ (i:Nat) u x,us[i]?=some u→(l0.map c).flatten[i]?=some x→RepI w S u x)→∃ zs:List (El w S k c l),(zs.map El.enc).flatten=us∧zs.map El.wd=l0
 | [],us,_,hl,_,_=>⟨[],(List.eq_nil_of_length_eq_zero hl).symm,rfl⟩
 | x::l0,us,hm,hl,h1,hr=>by
  rw [List.map_cons,List.flatten_cons] at hl hr
  rw [List.length_append,hk] at hl
  obtain ⟨zs,e1,e2⟩:=el_list hk l0 (us.drop k) (fun y hy=>hm y (List.mem_cons_of_mem _ hy)) (by rw [List.length_drop];omega) (fun u hu=>h1 u (List.mem_of_mem_drop hu)) fun i u y hu hy=>by
   rw [List.getElem?_drop] at hu
   refine hr (k+i) u y hu ?_
   rw [List.getElem?_append,if_neg (by rw [hk];omega),hk]
   rwa [Nat.add_sub_cancel_left]
  have hx1:(us.take k).length=k:=by rw [List.length_take];omega
  have hx2:∀ v∈us.take k,v.oneCell'=true:=fun u hu=>h1 u (List.mem_of_mem_take hu)
  have hx3:RepIs w S (us.take k) (c x):=⟨by rw [hx1,hk],fun i u y hu hy=>by
   have hi:i<k:=by
    rw [← hk x]
    exact (List.getElem?_eq_some_iff.1 hy).1
   rw [List.getElem?_take,if_pos hi] at hu
   exact hr i u y hu (by rw [List.getElem?_append,if_pos (by rw [hk];exact hi)];exact hy)⟩
  refine ⟨El.of (us.take k) x hx1 hx2 hx3 (hm x (by simp))::zs,?_,?_⟩
  ·rw [List.map_cons,List.flatten_cons,e1]
   exact List.take_append_drop k us
  ·rw [List.map_cons,e2]
   rfl
theorem el_swo {f:α→α→Option Int} (T:TotF f l):SWO (ltOf fun x y:El w S k c l=>cfv f x.wd y.wd) where
 irrefl x:=by
  have:=T.self x.wd x.property.2.2.2
  simp [ltOf,this]
 trans x y z h1 h2:=by
  simp only [ltOf,decide_eq_true_eq] at *
  exact T.trans _ x.property.2.2.2 _ y.property.2.2.2 _ z.property.2.2.2 h1 h2
 ntrans x y z h1 h2:=by
  simp only [ltOf,decide_eq_false_iff_not] at *
  exact T.ngt_trans z.property.2.2.2 y.property.2.2.2 x.property.2.2.2 h2 h1
def SortC (P:Program) (sg:FuncId) (k:Nat) (mk:List Value→Value):Prop :=
 (∀ (p:Option Addr) (cap:Nat) (fv:Value) (w:World),Calls P sg #[.slice p 0 cap,fv] w fun e w'=>e=.returned (.tuple #[])∧w'=w) ∧
 ∀ (E:Type) [Inhabited E] (enc:E→List Value) (cf:E→E→Int) (g blk cap:Nat) (d:Array E) (w:World),(∀ x,(enc x).length=k)→(∀ x,∀ v∈enc x,v.oneCell'=true)→SWO (ltOf cf) →
  (∀ args w,(callFunc g args).run P w=.ok (.enter g args) w) →
  (∀ (m:Nat) (os:Array Obj) (dk:Array E),dk.size=d.size→∀ x y:E,Calls P g #[mk (enc x),mk (enc y)] (Sort.grow (putRow id (Sort.ahead w m) blk 0 (Go.Sort.flatK enc k dk)) os) fun e w' =>
   e=.returned (.int .i64 (cf x y))∧∃ q os',w'=Sort.grow ((Sort.grow (putRow id (Sort.ahead w m) blk 0 (Go.Sort.flatK enc k dk)) os).drewN q) os') →
  Go.Sort.Holds id w blk 0 (Go.Sort.flatK enc k d)→blk<w.heap.size→d.size<4611686018427387904 →
  Calls P sg #[.slice (some ⟨blk,0,none⟩) d.size cap,.func (.func g) #[] #[]] w fun e w' =>
   e=.returned (.tuple #[])∧∃ d' n os,PermIn 0 d.size d d'∧SortedIn (ltOf cf) 0 d.size d'∧w'=Sort.grow (putRow id (Sort.ahead w n) blk 0 (Go.Sort.flatK enc k d')) os
theorem perm_of_in' {β:Type} [Inhabited β] {d d':Array β} (h:PermIn 0 d.size d d'):d'.toList.Perm d.toList:=by
 obtain ⟨hs,_,hp⟩:=h
 have e1:d'.extract 0 d.size=d':=by rw [← hs];simp
 have e2:d.extract 0 d.size=d:=by simp
 rwa [e1,e2] at hp
theorem pairwise_of_in' {β:Type} [Inhabited β] {lt:β→β→Bool} {d:Array β} {n:Nat} (hn:d.size=n) (h:SortedIn lt 0 n d):d.toList.Pairwise fun a b=>lt b a=false:=by
 rw [List.pairwise_iff_getElem]
 intro i j hi hj hij
 have:=h i j (Nat.zero_le _) hij (by rw [← hn];simpa using hj)
 simp at hi hj
 simpa [getElem!_pos,hi,hj] using this
theorem flatK_list {β:Type} [Inhabited β] {enc:β→List Value} {k:Nat} (hk:∀ x,(enc x).length=k) (d:Array β):Go.Sort.flatK enc k d=(d.toList.map enc).flatten.toArray:=by
 have hl:((d.toList.map enc).flatten).length=d.size*k:=by
  rw [flat_length (k:=k) fun x hx=>by obtain ⟨y,_,rfl⟩:=List.mem_map.1 hx;exact hk y]
  simp
 refine ext_get! (by simp [hl]) fun t ht=>?_
 rw [size_flatK] at ht
 rw [get_flatK _ _ _ t ht]
 have k0:0<k:=by
  rcases Nat.eq_zero_or_pos k with h | h
  ·subst h;simp at ht
  ·exact h
 have hq:t / k<d.size:=Nat.div_lt_of_lt_mul (by rwa [Nat.mul_comm] at ht)
 have hm:t%k<k:=Nat.mod_lt _ k0
 have hg:=flat_get (es:=d.toList.map enc) (i:=t / k) (j:=t%k) (e:=enc (d[t / k]'hq)) (fun x hx=>by obtain ⟨y,_,rfl⟩:=List.mem_map.1 hx;exact hk y) (by simp [hq]) hm
 rw [show t / k*k+t%k=t by rw [Nat.mul_comm];exact Nat.div_add_mod t k] at hg
 have hm2:t%k<(enc (d[t / k]'hq)).length:=by rw [hk];exact hm
 rw [List.getElem?_eq_getElem hm2,List.getElem?_eq_getElem (by rw [hl];exact ht)] at hg
 injection hg with hg
 rw [getElem!_pos d _ hq,getElem!_pos (enc (d[t / k]'hq)) (t%k) hm2,getElem!_pos ((d.toList.map enc).flatten.toArray) t (by simpa [hl] using ht)]
 simpa using hg.symm
theorem own_put {w:World} {base:Nat} {e:TypeId} {g n cap k q:Nat} {us us':List Value} {os:Array Obj} (h:w.ownsRow base e k (.slice (some ⟨g,0,none⟩) n cap) n us) (hl:us'.length=n*k) :
  (Sort.grow (putRow id (Sort.ahead w q) g 0 us'.toArray) os).ownsRow base e k (.slice (some ⟨g,0,none⟩) n cap) n us':=by
 rcases h.2 with ⟨e0,_⟩ | ⟨g',cap',cur,e0,hb,hg,hn,hm,hs,ht⟩
 ·cases e0
 ·injection e0 with e1 _ e3
  injection e1 with e1
  injection e1 with e1
  subst e1;subst e3
  have hlt:g<w.heap.size:=by
   rcases Nat.lt_or_ge g w.heap.size with h' | h'
   ·exact h'
   ·rw [Array.getElem?_eq_none h'] at hg;cases hg
  refine ⟨hl,.inr ⟨g,cap,putCells id 0 us'.toArray cur,rfl,hb,?_,hn,hm,by simpa [putCells] using hs,?_⟩⟩
  ·have:g<(putRow id (Sort.ahead w q) g 0 us'.toArray).heap.size:=by simpa [putRow,mapBlock,Sort.ahead] using hlt
   simp only [Sort.grow,Array.getElem?_append,if_pos this]
   simp [putRow,mapBlock,Sort.ahead,Array.getElem?_modify,hg,onCells]
  ·have hle:n*k≤cap*k:=Nat.mul_le_mul_right k hn
   apply List.ext_getElem?
   intro j
   rw [List.getElem?_take,Array.getElem?_toList]
   by_cases hj:j<n*k
   ·have hjc:j<cur.size:=by omega
    rw [if_pos hj]
    simp only [putCells,Array.getElem?_mapIdx,Array.getElem?_eq_getElem hjc,Option.map_some]
    rw [if_pos (by simp;omega),List.getElem?_eq_getElem (by omega)]
    simp [getElem!_pos,show j<us'.length by omega]
   ·rw [if_neg hj,List.getElem?_eq_none (by omega)]
theorem holds_own {w:World} {base:Nat} {e:TypeId} {g n cap k:Nat} {us:List Value} (h:w.ownsRow base e k (.slice (some ⟨g,0,none⟩) n cap) n us):Go.Sort.Holds id w g 0 us.toArray:=by
 rcases h.2 with ⟨e0,_⟩ | ⟨g',cap',cur,e0,hb,hg,hn,hm,hs,ht⟩
 ·cases e0
 ·injection e0 with e1 _ e3
  injection e1 with e1
  injection e1 with e1
  subst e1;subst e3
  intro j hj
  have hj':j<us.length:=by simpa using hj
  have hjn:j<n*k:=by rw [← h.1];exact hj'
  have hle:n*k≤cap*k:=Nat.mul_le_mul_right k hn
  have hjc:j<cur.size:=by omega
  have e1:(cur.toList.take (n*k))[j]?=us[j]?:=by rw [ht]
  rw [List.getElem?_take,if_pos hjn,Array.getElem?_toList,List.getElem?_eq_getElem hj'] at e1
  refine ⟨?_,by simp [World.frozen?,hg]⟩
  simp only [World.cell?,hg,Nat.zero_add,Option.isSome_none,Bool.false_eq_true,if_false]
  rw [e1]
  simp [getElem!_pos,hj']
theorem put_block {w:World} {g q:Nat} {F:Array Value} {os:Array Obj} {b:Nat} (hb:b<w.heap.size) (hne:b≠g):(Sort.grow (putRow id (Sort.ahead w q) g 0 F) os).heap[b]?=w.heap[b]?:=by
 have:b<(putRow id (Sort.ahead w q) g 0 F).heap.size:=by simpa [putRow,mapBlock,Sort.ahead] using hb
 simp only [Sort.grow,Array.getElem?_append,if_pos this]
 simp [putRow,mapBlock,Sort.ahead,Array.getElem?_modify,Ne.symm hne]
theorem put_cell {w:World} {g q:Nat} {F:Array Value} {os:Array Obj} {p:Addr} {u:Value} (hne:p.block≠g) (h:w.cell? p=some u):(Sort.grow (putRow id (Sort.ahead w q) g 0 F) os).cell? p=some u:=by
 have hlt:=World.block_lt_of_cell? w _ h
 unfold World.cell? at h ⊢
 rw [put_block hlt hne]
 exact h
theorem sp_of_sort [DecidableEq α] {P:Program} {sg:FuncId} {mk:List Value→Value} {t:TypeId} {X:α→IV} (he:∀ args w,(callFunc sg args).run P w=.ok (.enter sg args) w) (C:SortC P sg k mk) (hk0:0<k) (hk:∀ x,(c x).length=k)
  (hX:∀ (W:World) (S:Nat→Prop) us x,us.length=k→(∀ v∈us,v.oneCell'=true)→RepIs W S us (c x)→RepI W S (mk us) (X x))
  {f:α→α→Option Int} {g:FuncId} (eg:∀ args w,(callFunc g args).run P w=.ok (.enter g args) w) (hg:CmpG P g X f) {l r:List α} (h:libSort l f=some r) :
  Sp P sg [.lent (.row t k (l.map c)),.im (.fn g [])] (.mk true [] [.lent (.row t k (r.map c))]):=by
 obtain ⟨hlen,h⟩:=chk_some h
 cases hT:totB f l with
 | false=>rw [hT] at h;cases h
 | true =>
 rw [hT] at h
 injection h with h
 subst h
 have T:=totB_iff hT
 refine ⟨he,fun w S vs F hS hv hn hF=>?_⟩
 match vs,hv with
 | [v,u],⟨F1,F2,⟨hv1,inn,hrow,e1⟩,⟨F3,F4,⟨h4,e2⟩,h5,e3⟩,e4⟩ =>
  have h5:F4=[]:=h5
  have e1:F1=(blkOf v).toList:=e1
  subst e1 e2 h5 e3
  have e4:F=(blkOf v).toList:=by rw [e4];simp
  subst e4
  obtain ⟨us,_,_,hlim,hown,hul,h1,hr⟩:=hrow
  rw [List.length_map] at hown hlim
  have hu:u=.func (.func g) #[] #[]:=by
   generalize hx:IV.fn g []=x at h4
   cases h4 with
   | fn f us cs hl hr =>
    injection hx with hx1 hx2
    subst hx1 hx2
    have:=List.eq_nil_of_length_eq_zero hl
    subst this
    rfl
   | _=>cases hx
  subst hu
  have fin:∀ (w':World) (us':List Value),w'.ownsRow 0 t k v l.length us'→us'.length=((isortF f l).map c).flatten.length→(∀ u∈us',u.oneCell'=true) →
    Belo (fun b=>b∈(blkOf v).toList) w.heap.size w w'→(∀ (i:Nat) u x,us'[i]?=some u→((isortF f l).map c).flatten[i]?=some x→RepI w' (fun b=>(S b∨w.heap.size≤b∨b∈(blkOf v).toList)∧b<w'.heap.size∧b∉(blkOf v).toList) u x) →
    ∃ (v1:Value) (F':List Nat),Ending.returned (.tuple #[])=.returned v1∧Belo (fun b=>b∈(blkOf v).toList) w.heap.size w w' ∧
     ResOk w' (fun b=>(S b∨w.heap.size≤b∨b∈(blkOf v).toList)∧b<w'.heap.size∧b∉F') v1 (bxVs [v,.func (.func g) #[] #[]] [.lent (.row t k (l.map c)),.im (.fn g [])]) (.mk true [] [.lent (.row t k ((isortF f l).map c))]) F'∧F'.Nodup∧∀ b∈F',(w.heap.size≤b∨b∈(blkOf v).toList)∧b<w'.heap.size:=by
   intro w' us' ho hl' h1' hb hr'
   refine ⟨_,(blkOf v).toList,rfl,hb,⟨[],[],(blkOf v).toList,rfl,rfl,⟨(blkOf v).toList,[],⟨hv1,inn,⟨us',hk0,fun x hx=>?_,?_,?_,hl',h1',hr'⟩,rfl⟩,rfl,by simp⟩,by simp⟩,hn,fun b hb'=>⟨.inr hb',Nat.lt_of_lt_of_le (hF b hb').2 hb.size⟩⟩
   ·obtain ⟨y,_,rfl⟩:=List.mem_map.1 hx
    exact hk y
   ·rw [List.length_map,(isortF_perm f l).length_eq]
    exact hlim
   ·rw [List.length_map,(isortF_perm f l).length_eq]
    exact ho
  by_cases hnil:v=.slice none 0 0
  ·subst hnil
   have hl0:l.length=0:=by
    rcases hown.2 with ⟨_,h0⟩ | ⟨_,_,_,e,_⟩
    ·exact h0
    ·cases e
   have hl0:l=[]:=List.eq_nil_of_length_eq_zero hl0
   subst hl0
   refine (C.1 none 0 _ w).mono ?_
   rintro e w' ⟨rfl,rfl⟩
   have hus:us=[]:=List.eq_nil_of_length_eq_zero (by rw [hul];rfl)
   subst hus
   exact fin w' [] hown rfl (fun u hu=>by cases hu) (Belo.refl _ _ _) fun i u x hu=>by simp at hu
  ·obtain ⟨blk,cap,rfl⟩:∃ blk cap,v=.slice (some ⟨blk,0,none⟩) l.length cap:=by
    rcases hown.2 with ⟨e0,_⟩ | ⟨g,cap,cur,e,_⟩
    ·exact absurd e0 hnil
    ·exact ⟨g,cap,e⟩
   have hblk:blk<w.heap.size:=(hF blk (by simp [blkOf])).2
   have hnS:¬ S blk:=(hF blk (by simp [blkOf])).1
   obtain ⟨zs,hz1,hz2⟩:=el_list (w:=w) (S:=S) (l:=l) hk l us (fun x hx=>hx) hul h1 hr
   by_cases hl0:l=[]
   ·subst hl0
    refine (C.1 (some ⟨blk,0,none⟩) cap _ w).mono ?_
    rintro e w' ⟨rfl,rfl⟩
    have hus:us=[]:=List.eq_nil_of_length_eq_zero (by rw [hul];rfl)
    subst hus
    exact fin w' [] hown rfl (fun u hu=>by cases hu) (Belo.refl _ _ _) fun i u x hu=>by simp at hu
   ·have hzl:zs.length=l.length:=by have:=congrArg List.length hz2;simpa using this
    obtain ⟨z0,hz0⟩:∃ z,z∈zs:=by
     cases zs with
     | nil=>exact absurd (by simpa using hz2.symm) hl0
     | cons z zs=>exact ⟨z,by simp⟩
    haveI:Inhabited (El w S k c l):=⟨z0⟩
    have henc:∀ x:El w S k c l,(El.enc x).length=k:=fun x=>x.property.1
    have hflat:∀ d:Array (El w S k c l),Go.Sort.flatK El.enc k d=(d.toList.map El.enc).flatten.toArray:=flatK_list henc
    have hcall:=C.2 (El w S k c l) El.enc (fun x y=>cfv f x.wd y.wd) g blk cap zs.toArray w henc (fun x=>x.property.2.1) (el_swo T) eg (fun m os dk _ x y=>by
      refine hg _ S _ _ x.wd y.wd _ (T.get _ x.property.2.2.2 _ y.property.2.2.2) (hX _ _ _ _ x.property.1 x.property.2.1 ⟨x.property.2.2.1.1,fun i u z hu hz=>?_⟩) (hX _ _ _ _ y.property.1 y.property.2.1 ⟨y.property.2.2.1.1,fun i u z hu hz=>?_⟩)
      ·exact (x.property.2.2.1.2 i u z hu hz).mono (fun _ h=>h) fun p u hp hu=>put_cell (fun e=>hnS (by rw [← e];exact hp)) hu
      ·exact (y.property.2.2.1.2 i u z hu hz).mono (fun _ h=>h) fun p u hp hu=>put_cell (fun e=>hnS (by rw [← e];exact hp)) hu)
     (by rw [hflat];show Go.Sort.Holds id w blk 0 ((zs.map El.enc).flatten).toArray;rw [hz1];exact holds_own hown) hblk (by simp;omega)
    have hsz:zs.toArray.size=l.length:=by simpa using hzl
    rw [hsz] at hcall
    refine hcall.mono ?_
    rintro e w' ⟨rfl,d',n,os,hp,hs,rfl⟩
    have hd':d'.size=l.length:=by rw [hp.1];exact hsz
    have hperm:=perm_of_in' (d:=zs.toArray) (by rw [hsz];exact hp)
    have hpw:=pairwise_of_in' hd' hs
    have hwd:d'.toList.map El.wd=isortF f l:=by
     have hp1:(d'.toList.map El.wd).Perm l:=(hperm.map El.wd).trans (List.Perm.of_eq hz2)
     refine sorted_uniq (T.sub fun x hx=>hp1.mem_iff.1 hx) (hp1.trans (isortF_perm f l).symm) ?_ (isortF_sorted T)
     rw [List.pairwise_map]
     refine hpw.imp fun {a b} hab=>?_
     have hab2:¬ cfv f b.wd a.wd<0:=by simpa only [ltOf,decide_eq_false_iff_not] using hab
     exact hab2
    rw [hflat]
    have hlen':((d'.toList.map El.enc).flatten).length=l.length*k:=by
     rw [flat_length (k:=k) fun x hx=>by obtain ⟨y,_,rfl⟩:=List.mem_map.1 hx;exact henc y]
     simp [hd']
    have hflen:((isortF f l).map c).flatten.length=l.length*k:=by
     rw [flat_length (k:=k) fun x hx=>by obtain ⟨y,_,rfl⟩:=List.mem_map.1 hx;exact hk y,List.length_map,(isortF_perm f l).length_eq]
    refine fin _ _ (own_put hown hlen') (by rw [hlen',hflen]) (fun u hu=>?_) ⟨rfl,rfl,rfl,?_,fun b hb hnb=>put_block hb fun e=>hnb (by simp [blkOf,e])⟩ fun i u x hu hx=>?_
    ·obtain ⟨us2,h2,h3⟩:=List.mem_flatten.1 hu
     obtain ⟨y,_,rfl⟩:=List.mem_map.1 h2
     exact y.property.2.1 u h3
    ·simp [Sort.grow,putRow,mapBlock,Sort.ahead]
    ·have hi:i<l.length*k:=by rw [← hlen'];exact (List.getElem?_eq_some_iff.1 hu).1
     have hq:i / k<l.length:=Nat.div_lt_of_lt_mul (by rwa [Nat.mul_comm] at hi)
     have hm:i%k<k:=Nat.mod_lt _ hk0
     have hik:i / k*k+i%k=i:=by rw [Nat.mul_comm];exact Nat.div_add_mod i k
     have hq':i / k<d'.size:=by rw [hd'];exact hq
     have g1:=flat_get (es:=d'.toList.map El.enc) (i:=i / k) (j:=i%k) (e:=El.enc (d'[i / k]'hq')) (fun x hx=>by obtain ⟨y,_,rfl⟩:=List.mem_map.1 hx;exact henc y) (by simp [hq']) hm
     have g2:=flat_get (es:=(isortF f l).map c) (i:=i / k) (j:=i%k) (e:=c (El.wd (d'[i / k]'hq'))) (fun x hx=>by obtain ⟨y,_,rfl⟩:=List.mem_map.1 hx;exact hk y) (by rw [← hwd];simp [hq']) hm
     rw [hik,hu] at g1
     rw [hik,hx] at g2
     refine ((d'[i / k]'hq').property.2.2.1.2 _ _ _ g1.symm g2.symm).mono (fun b hb=>⟨.inl hb,?_,?_⟩) fun p u hp hu=>put_cell (fun e=>hnS (by rw [← e];exact hp)) hu
     ·have:w.heap.size≤(Sort.grow (putRow id (Sort.ahead w n) blk 0 ((d'.toList.map El.enc).flatten).toArray) os).heap.size:=by simp [Sort.grow,putRow,mapBlock,Sort.ahead]
      exact Nat.lt_of_lt_of_le (hS b hb) this
     ·intro hb'
      have:b=blk:=by simpa [blkOf] using hb'
      subst this
      exact hnS hb
end model
end Go.Proofs.YtkeplokjplkcmaaGreat.Sym

/-
 Plain laws on the key of a word: the digits at base 36, and that no two words have the same key. No program in sight.
-/
namespace Go.Proofs.YtkeplokjplkcmaaGreat
end Go.Proofs.YtkeplokjplkcmaaGreat

/-
 Walks of strconv.AppendInt at base 36 (internal/strconv.AppendInt, AppendUint, formatBits).
-/
namespace Go.Proofs.YtkeplokjplkcmaaGreat
open Go.RowKit
def bcells (l:List UInt8):List Value:=l.map fun b=>.int .u8 (b.toNat:Int)
def OwnB (w:World) (base:Nat) (v:Value) (l:List UInt8):Prop:=w.ownsRow base 5 1 v l.length (bcells l)
theorem OwnB.lt {w:World} {base:Nat} {v:Value} {l:List UInt8} (h:OwnB w base v l):∀ k,v.ownBlock=some k→base≤k∧k<w.heap.size:=World.ownsRow.lt h
def Dig (zs:List Value) (i:Nat) (l:List UInt8):Prop:=zs.length=65∧zs.drop i=bcells l
theorem Dig.push {zs:List Value} {j:Nat} {m:List UInt8} (h:Dig zs (j+1) m) (hj:j<65) (c:UInt8):Dig (zs.set j (.int .u8 (c.toNat:Int))) j (c::m):=by
 obtain ⟨h1,h2⟩:=h
 refine ⟨by simpa using h1,?_⟩
 rw [List.drop_eq_getElem_cons (by simp;omega),List.getElem_set_self,List.drop_set_of_lt (by omega),h2]
 rfl
end Go.Proofs.YtkeplokjplkcmaaGreat

/-
 The contract of the key of a word.
-/
namespace Go.Proofs.YtkeplokjplkcmaaGreat.Sym
open Go.RowKit
theorem rowOf_ints {w:World} {S:Nat→Prop} {v:Value} {l:List Int} (h:RepI w S v (nL cI l)):∃ A n c,v=.slice A n c∧RowOf w IsInt A n c l:=by
 have h:RepI w S v (.sl (l.map cI)):=h
 generalize he:l.map cI=es at h
 cases h with
 | emp A c =>
  have:l=[]:=by simpa using he
  subst this
  exact ⟨A,0,c,rfl,rfl,Nat.zero_le _,by omega,fun h=>by omega⟩
 | sl b o c k n _ us hn hk hc hs hS hl h1 hu hr =>
  subst he
  have hf:(l.map cI).flatten=l.map fun x=>nI x:=by
   clear hn hk hl hr h
   induction l with
   | nil=>rfl
   | cons x l ih=>rw [List.map_cons,List.flatten_cons,ih];rfl
  rw [hf] at hl hr
  refine ⟨_,_,_,rfl,by simpa using hn,hc,hs,fun _=>⟨b,o,rfl,fun i x hx=>?_⟩⟩
  have hi:i<us.length:=by rw [hl,List.length_map];exact (List.getElem?_eq_some_iff.1 hx).1
  have hg:=List.getElem?_eq_getElem hi
  refine ⟨_,hu i _ hg,?_⟩
  have:=hr i _ (nI x) hg (by rw [List.getElem?_map,hx];rfl)
  generalize us[i]=u at this
  cases this with
  | val _=>rfl
end Go.Proofs.YtkeplokjplkcmaaGreat.Sym

/-
 Walks of cmp.Compare, slices.Compare, word.Lex, cmp.Or, word.Compare.
-/
namespace Go.Proofs.YtkeplokjplkcmaaGreat
open Go.RowKit
def cmpI (x y:Int):Int:=if x<y then -1 else if y<x then 1 else 0
theorem cmpCompare_any (x y:Int) (w:World) :
  Calls Tryz.prog 153 #[.int .i64 x,.int .i64 y] w fun e w'=>e=.returned (.int .i64 (cmpI x y))∧w=w':=by
 by_cases h1:x<y
 ·go_enter Tryz.func153,Tryz.ntmps153
  go_wp2
  go_ret
  exact ⟨ret_int (by unfold cmpI;rw [if_pos h1]),rfl⟩
 ·by_cases h2:y<x
  ·go_enter Tryz.func153,Tryz.ntmps153
   go_wp2
   go_ret
   exact ⟨ret_int (by unfold cmpI;rw [if_neg (by omega),if_pos h2]),rfl⟩
  ·go_enter Tryz.func153,Tryz.ntmps153
   go_wp2
   go_ret
   exact ⟨ret_int (by unfold cmpI;rw [if_neg (by omega),if_neg (by omega)]),rfl⟩
theorem lexI_step {xs ys:List Int} {k:Nat} {x y:Int} (hx:xs[k]?=some x) (hy:ys[k]?=some y) :
  lexI (xs.drop k) (ys.drop k)=if cmpI x y=0 then lexI (xs.drop (k+1)) (ys.drop (k+1)) else cmpI x y:=by
 obtain ⟨h1,h1'⟩:=List.getElem?_eq_some_iff.1 hx
 obtain ⟨h2,h2'⟩:=List.getElem?_eq_some_iff.1 hy
 rw [List.drop_eq_getElem_cons h1,List.drop_eq_getElem_cons h2,h1',h2']
 simp only [lexI,cmpI]
 by_cases a:x<y
 ·simp [a]
 ·by_cases b:y<x
  ·simp [a,b]
  ·simp [a,b]
theorem lexI_long {xs ys:List Int} {k:Nat} (h1:k<xs.length) (h2:ys.length≤k):lexI (xs.drop k) (ys.drop k)=1:=by
 rw [List.drop_eq_getElem_cons h1,List.drop_eq_nil_of_le h2];rfl
theorem lexI_end {xs ys:List Int} {k:Nat} (h1:xs.length≤k):lexI (xs.drop k) (ys.drop k)=if k<ys.length then -1 else 0:=by
 rw [List.drop_eq_nil_of_le h1]
 by_cases h2:k<ys.length
 ·rw [if_pos h2,List.drop_eq_getElem_cons h2];rfl
 ·rw [if_neg h2,List.drop_eq_nil_of_le (by omega)];rfl
set_option maxHeartbeats 800000 in
theorem slicesCompare_any {A B:Option Addr} {n c m c':Nat} {xs ys:List Int} {w:World} (hx:RowOf w IsInt A n c xs) (hy:RowOf w IsInt B m c' ys) :
  Calls Tryz.prog 154 #[.slice A n c,.slice B m c'] w fun e w'=>e=.returned (.int .i64 (lexI xs ys))∧w=w':=by
 have hn:=hx.small
 have hm:=hy.small
 have HL:=Lib.hid (And.intro hx.len hy.len)
 go_enter Tryz.func154,Tryz.ntmps154
 go_wp2
 go_loop [5,6,7,8,11] (fun _ _ _ _ i=>∃ k:Nat,k≤n∧k≤m∧i=.int .i64 k∧Hid (lexI xs ys=lexI (xs.drop k) (ys.drop k))) (fun _ _ _ _ i=>n-(intOf i).toNat)
 case atStart=>exact ⟨0,by omega,by omega,rfl,Lib.hid (by simp)⟩
 case round =>
  obtain ⟨k,hk,hk',rfl,HT⟩:=hrel
  by_cases h1:k<n
  ·obtain ⟨b,o,x,rfl,hx1,hx2⟩:=hx.int_at h1
   have HX:=Lib.hid hx1
   clear hx1
   by_cases h2:k<m
   ·obtain ⟨b',o',y,rfl,hy1,hy2⟩:=hy.int_at h2
    have HY:=Lib.hid hy1
    clear hy1
    have hst:=lexI_step HX.out HY.out
    by_cases h3:cmpI x y=0
    ·rw [if_pos h3] at hst
     have HST:=Lib.hid hst
     have d3:(cmpI x y != 0)=false:=by simp [h3]
     have H3:=Lib.hid h3
     clear h3 hst
     go_wp2_with (go_at_call 153;refine (cmpCompare_any _ _ _).mono ?_;rintro e w' ⟨rfl,rfl⟩)
     go_round
     case rel=>exact ⟨k+1,by omega,by omega,by go_num,Lib.hid (by rw [HT.out,HST.out])⟩
     case measure=>simp [intOf];omega
    ·rw [if_neg h3] at hst
     have HST:=Lib.hid hst
     have d3:(cmpI x y != 0)=true:=by simp [h3]
     clear h3 hst
     go_wp2_with (go_at_call 153;refine (cmpCompare_any _ _ _).mono ?_;rintro e w' ⟨rfl,rfl⟩)
     go_ret
     exact ⟨ret_int (by rw [HT.out,HST.out]),rfl⟩
   ·go_wp2
    go_ret
    obtain ⟨h3,h4⟩:=HL.out
    exact ⟨ret_int (by rw [HT.out,lexI_long (by omega) (by omega)]),rfl⟩
  ·obtain ⟨h3,h4⟩:=HL.out
   have HE:=Lib.hid (lexI_end (xs:=xs) (ys:=ys) (k:=k) (by omega))
   clear h3 h4
   by_cases h2:n<m
   ·go_wp2
    go_ret
    obtain ⟨h3,h4⟩:=HL.out
    exact ⟨ret_int (by rw [HT.out,HE.out,if_pos (by omega)]),rfl⟩
   ·go_wp2
    go_ret
    obtain ⟨h3,h4⟩:=HL.out
    exact ⟨ret_int (by rw [HT.out,HE.out,if_neg (by omega)]),rfl⟩
theorem wordLex_any {A B:Option Addr} {n c m c':Nat} {xs ys:List Int} {w:World} (hx:RowOf w IsInt A n c xs) (hy:RowOf w IsInt B m c' ys) :
  Calls Tryz.prog 143 #[.slice A n c,.slice B m c'] w fun e w'=>e=.returned (.int .i64 (lexI xs ys))∧w=w':=by
 go_enter Tryz.func143,Tryz.ntmps143
 go_wp2_with (go_at_call 154;refine (slicesCompare_any hx hy).mono ?_;rintro e w' ⟨rfl,rfl⟩)
 go_ret
 exact ⟨rfl,rfl⟩
def orI (xs:List Int):Int:=(xs.find? fun a=>a != 0).getD 0
set_option maxHeartbeats 400000 in
theorem cmpOr_any {A:Option Addr} {n c:Nat} {xs:List Int} {w:World} (hx:RowOf w IsInt A n c xs) :
  Calls Tryz.prog 152 #[.slice A n c] w fun e w'=>e=.returned (.int .i64 (orI xs))∧w=w':=by
 have hns:=hx.small
 have HL:=Lib.hid hx.len
 go_enter Tryz.func152,Tryz.ntmps152
 go_wp2
 go_loop [5,8] (fun _ i=>∃ k:Nat,k≤n∧i=.int .i64 k∧Hid (((xs.take k).find? fun a=>a != 0)=none)) (fun _ i=>n-(intOf i).toNat)
 case atStart=>exact ⟨0,by omega,rfl,Lib.hid (by simp)⟩
 case round =>
  obtain ⟨k,hk,rfl,HT⟩:=hrel
  by_cases h1:k<n
  ·obtain ⟨b,o,x,rfl,hx1,hx2⟩:=hx.int_at h1
   have HX:=Lib.hid hx1
   clear hx1
   by_cases h2:x=0
   ·have d2:(x != 0)=false:=by simp [h2]
    have H2:=Lib.hid h2
    clear h2
    go_wp2
    go_round
    case rel=>exact ⟨k+1,by omega,by go_num,Lib.hid (by rw [take_step HX.out,List.find?_append,HT.out,H2.out];rfl)⟩
    case measure=>simp [intOf]<;>omega
   ·have d2:(x != 0)=true:=by simp [h2]
    go_wp2
    go_ret
    refine ⟨ret_int ?_,rfl⟩
    have hsp:=List.take_append_drop (k+1) xs
    unfold orI
    rw [← hsp,List.find?_append,take_step HX.out,List.find?_append,HT.out]
    simp [h2]
  ·go_wp2
   go_ret
   have ht:=HT.out
   rw [List.take_of_length_le (by rw [HL.out];omega)] at ht
   exact ⟨ret_int (by unfold orI;rw [ht];rfl),rfl⟩
theorem orI_cmp (xs ys:List Int):orI [cmpI xs.length ys.length,lexI xs ys]=cmpW xs ys:=by
 unfold orI cmpI cmpW
 by_cases h1:xs.length<ys.length
 ·rw [if_pos (by omega),if_pos h1];rfl
 ·by_cases h2:ys.length<xs.length
  ·rw [if_neg (by omega),if_pos (by omega),if_neg h1,if_pos h2];rfl
  ·rw [if_neg (by omega),if_neg (by omega),if_neg h1,if_neg h2]
   by_cases h3:lexI xs ys=0
   ·simp [h3]
   ·simp [h3]
theorem src_two {w:World} (x y:Value) (t:TypeId):Src (w.alloc (.cells #[x,y] t)) (some ⟨w.heap.size,0,none⟩) 2 [x,y] :=
 ⟨rfl,fun _=>⟨_,_,rfl,fun j u hu=>by
  have:=cell_two_new w x y t j u hu
  rwa [addr_add] at this⟩⟩
theorem ints_row {w:World} (x y:Int) (t:TypeId):RowOf (w.alloc (.cells #[.int .i64 x,.int .i64 y] t)) IsInt (some ⟨w.heap.size,0,none⟩) 2 2 [x,y]:=by
 refine ⟨rfl,Nat.le_refl _,by omega,fun _=>⟨_,_,rfl,fun i z hz=>?_⟩⟩
 obtain ⟨_,hc⟩:=src_two (w:=w) (.int .i64 x) (.int .i64 y) t
 obtain ⟨b,o,e,hcc⟩:=hc (by omega)
 injection e with e
 injection e with e1 e2
 subst e1 e2
 match i,hz with
 | 0,hz =>
  simp at hz
  subst hz
  exact ⟨_,hcc 0 _ rfl,rfl⟩
 | 1,hz =>
  simp at hz
  subst hz
  exact ⟨_,hcc 1 _ rfl,rfl⟩
set_option maxHeartbeats 400000 in
theorem wordCompare_any {A B:Option Addr} {n c m c':Nat} {xs ys:List Int} {w:World} (hx:RowOf w IsInt A n c xs) (hy:RowOf w IsInt B m c' ys) :
  Calls Tryz.prog 130 #[.slice A n c,.slice B m c'] w fun e w'=>e=.returned (.int .i64 (cmpW xs ys))∧w.alloc (.cells #[.int .i64 (cmpI xs.length ys.length),.int .i64 (lexI xs ys)] 3)=w':=by
 have hn:=hx.small
 have hm:=hy.small
 have hc1:=Lib.hid (slicesCompare_any hx hy)
 have HE:=Lib.hid (orI_cmp xs ys)
 have h1:=hx.len
 have h2:=hy.len
 have HO:=Lib.hid (fun t=>cmpOr_any (ints_row (w:=w) (cmpI xs.length ys.length) (lexI xs ys) t))
 rw [h1,h2] at HE HO
 rw [h1,h2]
 clear h1 h2 hx hy
 go_enter Tryz.func130,Tryz.ntmps130
 go_wp2_with (first | (go_at_call 153;refine (cmpCompare_any _ _ _).mono ?_;rintro e w' ⟨rfl,rfl⟩) | (go_at_call 154;refine hc1.out.mono ?_;rintro e w' ⟨rfl,rfl⟩) | (go_at_call 152;refine (HO.out _).mono ?_;rintro e w' ⟨rfl,rfl⟩))
 go_ret
 exact ⟨ret_int HE.out,rfl⟩
end Go.Proofs.YtkeplokjplkcmaaGreat

/-
 DERIVED: THE SHELF's CONTRACTS AT THIS DUMP, IN PLAIN WORDS (tools/lay-plain.mjs out of 'YtkeplokjplkcmaaGreatShelf0.lean', which tools/lay-shelf.mjs wrote): THE SAME DECLARATIONS UNDER THE SAME NAMES: 'import', 'namespace', 'open', 'def', 'theorem' AND NOTHING ELSE: no command of the shelf's: FOR A HAND-IN. Each laying: the table of numbers ('.._ren') and one theorem, a field a fact of the dump's own or the kernel's comparison; each contract: ONE APPLICATION.
-/
namespace Go.Proofs
open Go.Shelf
def Tryz.sortW_ren:Go.Shelf.Ren:=⟨fun | 6=>149 | 15=>159 | 14=>162 | 28=>172 | 29=>173 | 20=>175 | 21=>176 | 22=>177 | 23=>178 | 24=>179 | 25=>180 | 26=>181 | 27=>182 | 46=>188 | 47=>184 | 48=>185 | 49=>189 | 50=>190 | 57=>192 | n=>n,fun | 22=>22 | 24=>60 | 25=>72 | 3=>3 | 39=>191 | 0=>0 | 53=>202 | 55=>204 | 4=>4 | 46=>196 | 45=>195 | 50=>74 | 5=>5 | 9=>9 | 66=>213 | 70=>217 | 76=>221 | 77=>222 | n=>n,fun | n=>n⟩
theorem Tryz.sortW:Go.Proofs.SlLaysF.n6 Tryz.prog Tryz.sortW_ren:={
 mixed:=by kernel_rfl
 f6:=⟨Tryz.f149.name,by decide,Tryz.func149.trans (congrArg some (by kernel_rfl))⟩
 f14:=⟨Tryz.f162.name,by decide,Tryz.func162.trans (congrArg some (by kernel_rfl))⟩
 f15:=Tryz.func159.trans (congrArg some (by kernel_rfl))
 f20:=⟨Tryz.f175.name,by decide,Tryz.func175.trans (congrArg some (by kernel_rfl))⟩
 f21:=⟨Tryz.f176.name,by decide,Tryz.func176.trans (congrArg some (by kernel_rfl))⟩
 f22:=⟨Tryz.f177.name,by decide,Tryz.func177.trans (congrArg some (by kernel_rfl))⟩
 f23:=⟨Tryz.f178.name,by decide,Tryz.func178.trans (congrArg some (by kernel_rfl))⟩
 f24:=⟨Tryz.f179.name,by decide,Tryz.func179.trans (congrArg some (by kernel_rfl))⟩
 f25:=⟨Tryz.f180.name,by decide,Tryz.func180.trans (congrArg some (by kernel_rfl))⟩
 f26:=⟨Tryz.f181.name,by decide,Tryz.func181.trans (congrArg some (by kernel_rfl))⟩
 f27:=⟨Tryz.f182.name,by decide,Tryz.func182.trans (congrArg some (by kernel_rfl))⟩
 f28:=Tryz.func172.trans (congrArg some (by kernel_rfl))
 f29:=Tryz.func173.trans (congrArg some (by kernel_rfl))
 f46:=⟨Tryz.f188.name,by decide,Tryz.func188.trans (congrArg some (by kernel_rfl))⟩
 f47:=Tryz.func184.trans (congrArg some (by kernel_rfl))
 f48:=Tryz.func185.trans (congrArg some (by kernel_rfl))
 f49:=⟨Tryz.f189.name,by decide,Tryz.func189.trans (congrArg some (by kernel_rfl))⟩
 f50:=⟨Tryz.f190.name,by decide,Tryz.func190.trans (congrArg some (by kernel_rfl))⟩
 f57:=⟨Tryz.f192.name,by decide,Tryz.func192.trans (congrArg some (by kernel_rfl))⟩
 t0:=Tryz.underlying0
 a0:=Tryz.isAgg0
 z0:=Tryz.sizeOf0
 v0:=Tryz.zeroValue0
 t3:=Tryz.underlying3
 a3:=Tryz.isAgg3
 z3:=Tryz.sizeOf3
 v3:=Tryz.zeroValue3
 t4:=Tryz.underlying4
 a4:=Tryz.isAgg4
 z4:=Tryz.sizeOf4
 v4:=Tryz.zeroValue4
 t5:=Tryz.underlying5
 a5:=Tryz.isAgg5
 z5:=Tryz.sizeOf5
 v5:=Tryz.zeroValue5
 t9:=Tryz.underlying9
 a9:=Tryz.isAgg9
 z9:=Tryz.sizeOf9
 v9:=Tryz.zeroValue9
 t22:=Tryz.underlying22
 a22:=Tryz.isAgg22
 z22:=Tryz.sizeOf22
 v22:=Tryz.zeroValue22
 a24:=Tryz.isAgg60
 z24:=Tryz.sizeOf60
 t25:=Tryz.underlying72
 a25:=Tryz.isAgg72
 z25:=Tryz.sizeOf72
 v25:=Tryz.zeroValue72
 t39:=Tryz.underlying191
 a39:=Tryz.isAgg191
 z39:=Tryz.sizeOf191
 v39:=Tryz.zeroValue191
 t45:=Tryz.underlying195
 a45:=Tryz.isAgg195
 z45:=Tryz.sizeOf195
 v45:=Tryz.zeroValue195
 t46:=Tryz.underlying196
 a46:=Tryz.isAgg196
 z46:=Tryz.sizeOf196
 v46:=Tryz.zeroValue196
 t50:=Tryz.underlying74
 a50:=Tryz.isAgg74
 z50:=Tryz.sizeOf74
 v50:=Tryz.zeroValue74
 t53:=Tryz.underlying202
 a53:=Tryz.isAgg202
 z53:=Tryz.sizeOf202
 v53:=Tryz.zeroValue202
 t55:=Tryz.underlying204
 a55:=Tryz.isAgg204
 z55:=Tryz.sizeOf204
 v55:=Tryz.zeroValue204
 t66:=Tryz.underlying213
 a66:=Tryz.isAgg213
 z66:=Tryz.sizeOf213
 v66:=Tryz.zeroValue213
 t70:=Tryz.underlying217
 a70:=Tryz.isAgg217
 z70:=Tryz.sizeOf217
 v70:=Tryz.zeroValue217
 t76:=Tryz.underlying221
 a76:=Tryz.isAgg221
 z76:=Tryz.sizeOf221
 v76:=Tryz.zeroValue221
 t77:=Tryz.underlying222
 a77:=Tryz.isAgg222
 z77:=Tryz.sizeOf222
 v77:=Tryz.zeroValue222 }
def Tryz.sortF_ren:Go.Shelf.Ren:=⟨fun | 14=>158 | 20=>164 | 21=>165 | 22=>166 | 23=>167 | 24=>168 | 25=>169 | 26=>170 | 27=>171 | 46=>183 | 47=>184 | 48=>185 | 49=>186 | 50=>187 | 15=>159 | 57=>191 | 28=>172 | 29=>173 | n=>n,fun | 24=>70 | 22=>33 | 3=>3 | 25=>124 | 4=>4 | 0=>0 | 46=>196 | 45=>195 | 50=>74 | 66=>213 | 39=>191 | 55=>204 | 70=>217 | 76=>221 | 77=>222 | 53=>202 | 5=>5 | 9=>9 | n=>n,fun | n=>n⟩
theorem Tryz.sortF:Go.Proofs.SlLaysF0.n14 Tryz.prog Tryz.sortF_ren:={
 mixed:=by kernel_rfl
 f14:=⟨Tryz.f158.name,by decide,Tryz.func158.trans (congrArg some (by kernel_rfl))⟩
 f15:=Tryz.func159.trans (congrArg some (by kernel_rfl))
 f20:=⟨Tryz.f164.name,by decide,Tryz.func164.trans (congrArg some (by kernel_rfl))⟩
 f21:=⟨Tryz.f165.name,by decide,Tryz.func165.trans (congrArg some (by kernel_rfl))⟩
 f22:=⟨Tryz.f166.name,by decide,Tryz.func166.trans (congrArg some (by kernel_rfl))⟩
 f23:=⟨Tryz.f167.name,by decide,Tryz.func167.trans (congrArg some (by kernel_rfl))⟩
 f24:=⟨Tryz.f168.name,by decide,Tryz.func168.trans (congrArg some (by kernel_rfl))⟩
 f25:=⟨Tryz.f169.name,by decide,Tryz.func169.trans (congrArg some (by kernel_rfl))⟩
 f26:=⟨Tryz.f170.name,by decide,Tryz.func170.trans (congrArg some (by kernel_rfl))⟩
 f27:=⟨Tryz.f171.name,by decide,Tryz.func171.trans (congrArg some (by kernel_rfl))⟩
 f28:=Tryz.func172.trans (congrArg some (by kernel_rfl))
 f29:=Tryz.func173.trans (congrArg some (by kernel_rfl))
 f46:=⟨Tryz.f183.name,by decide,Tryz.func183.trans (congrArg some (by kernel_rfl))⟩
 f47:=Tryz.func184.trans (congrArg some (by kernel_rfl))
 f48:=Tryz.func185.trans (congrArg some (by kernel_rfl))
 f49:=⟨Tryz.f186.name,by decide,Tryz.func186.trans (congrArg some (by kernel_rfl))⟩
 f50:=⟨Tryz.f187.name,by decide,Tryz.func187.trans (congrArg some (by kernel_rfl))⟩
 f57:=⟨Tryz.f191.name,by decide,Tryz.func191.trans (congrArg some (by kernel_rfl))⟩
 t0:=Tryz.underlying0
 a0:=Tryz.isAgg0
 z0:=Tryz.sizeOf0
 v0:=Tryz.zeroValue0
 t3:=Tryz.underlying3
 a3:=Tryz.isAgg3
 z3:=Tryz.sizeOf3
 v3:=Tryz.zeroValue3
 t4:=Tryz.underlying4
 a4:=Tryz.isAgg4
 z4:=Tryz.sizeOf4
 v4:=Tryz.zeroValue4
 t5:=Tryz.underlying5
 a5:=Tryz.isAgg5
 z5:=Tryz.sizeOf5
 v5:=Tryz.zeroValue5
 t9:=Tryz.underlying9
 a9:=Tryz.isAgg9
 z9:=Tryz.sizeOf9
 v9:=Tryz.zeroValue9
 t22:=Tryz.underlying33
 a22:=Tryz.isAgg33
 z22:=Tryz.sizeOf33
 v22:=Tryz.zeroValue33
 t25:=Tryz.underlying124
 a25:=Tryz.isAgg124
 z25:=Tryz.sizeOf124
 v25:=Tryz.zeroValue124
 t39:=Tryz.underlying191
 a39:=Tryz.isAgg191
 z39:=Tryz.sizeOf191
 v39:=Tryz.zeroValue191
 t45:=Tryz.underlying195
 a45:=Tryz.isAgg195
 z45:=Tryz.sizeOf195
 v45:=Tryz.zeroValue195
 t46:=Tryz.underlying196
 a46:=Tryz.isAgg196
 z46:=Tryz.sizeOf196
 v46:=Tryz.zeroValue196
 t50:=Tryz.underlying74
 a50:=Tryz.isAgg74
 z50:=Tryz.sizeOf74
 v50:=Tryz.zeroValue74
 t53:=Tryz.underlying202
 a53:=Tryz.isAgg202
 z53:=Tryz.sizeOf202
 v53:=Tryz.zeroValue202
 t55:=Tryz.underlying204
 a55:=Tryz.isAgg204
 z55:=Tryz.sizeOf204
 v55:=Tryz.zeroValue204
 t66:=Tryz.underlying213
 a66:=Tryz.isAgg213
 z66:=Tryz.sizeOf213
 v66:=Tryz.zeroValue213
 t70:=Tryz.underlying217
 a70:=Tryz.isAgg217
 z70:=Tryz.sizeOf217
 v70:=Tryz.zeroValue217
 t76:=Tryz.underlying221
 a76:=Tryz.isAgg221
 z76:=Tryz.sizeOf221
 v76:=Tryz.zeroValue221
 t77:=Tryz.underlying222
 a77:=Tryz.isAgg222
 z77:=Tryz.sizeOf222
 v77:=Tryz.zeroValue222 }
end Go.Proofs

/-
 The sort at this program's types, and the comparisons that it is handed.
-/
namespace Go.Proofs.YtkeplokjplkcmaaGreat.Sym
open Go.RowKit Go.Sort
set_option maxRecDepth 100000
theorem putRow_map {E:Type} [Inhabited E] (enc:E→Value) (w:World) (blk off:Nat) (d:Array E):putRow enc w blk off d=putRow id w blk off (d.map enc):=by
 unfold putRow
 congr 1
 funext c
 unfold putCells
 congr 1
 funext k x
 rw [Array.size_map]
 by_cases h:off≤k∧k<off+d.size
 ·have h1:k-off<d.size:=by omega
  rw [if_pos h,if_pos h,getElem!_pos d _ h1,getElem!_pos (d.map enc) _ (by simpa using h1)]
  simp
 ·rw [if_neg h,if_neg h]
theorem holds_map {E:Type} [Inhabited E] {enc:E→Value} {w:World} {blk off:Nat} {d:Array E} (h:Go.Sort.Holds id w blk off (d.map enc)):Go.Sort.Holds enc w blk off d:=fun j hj=>by
 have:=h j (by simpa using hj)
 rw [getElem!_pos (d.map enc) _ (by simpa using hj)] at this
 rw [getElem!_pos d _ hj]
 simpa using this
def one1 (us:List Value):Value:=us.headD undef
theorem flat_one1 {E:Type} [Inhabited E] {enc:E→List Value} (hk:∀ x,(enc x).length=1) (d:Array E):Go.Sort.flatK enc 1 d=d.map fun x=>one1 (enc x):=by
 rw [flatK_list hk]
 have:(d.toList.map enc).flatten=d.toList.map fun x=>one1 (enc x):=by
  generalize d.toList=l
  induction l with
  | nil=>rfl
  | cons x l ih =>
   rw [List.map_cons,List.flatten_cons,ih,List.map_cons]
   have:=hk x
   match h:enc x,this with
   | [v],_=>rfl
 rw [this]
 apply Array.ext'
 simp
theorem sortC_words:SortC Tryz.prog 149 1 one1:=by
 refine ⟨fun p cap fv w=>AnyF.slices_SortFunc_none { Tryz.sortW with } p cap fv w,?_⟩
 intro E _ enc cf g blk cap d w hk h1 hO eg hcmp hH hblk hsz
 have e1:∀ m (dk:Array E),putRow (fun x=>one1 (enc x)) (Sort.ahead w m) blk 0 dk=putRow id (Sort.ahead w m) blk 0 (Go.Sort.flatK enc 1 dk):=fun m dk=>by rw [flat_one1 hk,putRow_map]
 have hone:OneCell fun x=>one1 (enc x):=fun x=>by
  have h2:=hk x
  have h3:=h1 x
  match h:enc x,h2 with
  | [v],_ =>
   show (one1 (enc x)).oneCell'=true
   rw [h] at h3 ⊢
   exact h3 v (by simp)
 refine (Any.slices_SortFunc Tryz.sortW (fun x=>one1 (enc x)) hone cf hO g #[] blk 0 cap d w eg (fun m os dk hs x y=>?_) (holds_map (by rw [← flat_one1 hk];exact hH)) hblk hsz).mono ?_
 ·have:=hcmp m os dk hs x y
  unfold sortWorld
  rw [e1]
  simpa using this
 ·rintro e w' ⟨he,d',n,os,hp,hs,hw⟩
  exact ⟨he,d',n,os,hp,hs,by rw [hw];unfold sortWorld;rw [e1]⟩
theorem aggF:∀ w,(isAgg (Tryz.sortF_ren.t 24)).run Tryz.prog w=.ok true w:=Tryz.isAgg70
theorem sizF:∀ w,(Go.sizeOf (Tryz.sortF_ren.t 24)).run Tryz.prog w=.ok 2 w:=Tryz.sizeOf70
set_option maxHeartbeats 2000000 in
theorem sortC_traces:SortC Tryz.prog 141 2 (fun us=>.agg us.toArray):=by
 refine ⟨fun p cap fv w=>?_,?_⟩
 ·have hp:=fun lim W=>AnyF.pdqsortCmpFunc_none (P:=Tryz.prog) (ρ:=Tryz.sortF_ren) Tryz.sortF p cap lim fv W
  have hl:∀ W,Calls Tryz.prog 159 #[.int .u64 0] W fun e w'=>e=.returned (.int .i64 (Lib.bitLen 0:Nat))∧w'=W:=fun W=>by
   have h:=Any.bits_Len (SlLaysF0.n15.bits (P:=Tryz.prog) (ρ:=Tryz.sortF_ren) { Tryz.sortF with }) 0 W (by omega) (by omega)
   exact h
  go_enter Tryz.func141,Tryz.ntmps141
  go_wp2_with (first | (go_at_call 159;refine (hl _).mono ?_;rintro e w' ⟨rfl,rfl⟩) | (go_at_call 158;refine (hp _ _).mono ?_;rintro e w' ⟨rfl,rfl⟩))
  go_end0
  exact ⟨rfl,rfl⟩
 ·intro E _ enc cf g blk cap d w hk h1 hO eg hcmp hH hblk hsz
  have hlim:Lib.bitLen d.size<4611686018427387904:=Nat.lt_of_le_of_lt (Lib.bitLen_le d.size 62 (by omega) (by omega)) (by omega)
  have hcmp':CmpLays Tryz.prog g #[] enc 2 cf blk 0 d.size w:=fun m os dk hs x y=>by
   unfold sortWorldK putRowK
   simpa using hcmp m os dk hs x y
  have hp:=AnyQ.pdqsortCmpFunc_all (P:=Tryz.prog) (ρ:=Tryz.sortF_ren) Tryz.sortF 2 aggF sizF enc cf g #[] hO blk 0 cap d w eg hcmp' ⟨hk,h1,hH,hblk⟩ (d.size+1) 0 d.size (Lib.bitLen d.size) d w (by omega) rfl (SWK.start hH) (Nat.zero_le _) (Nat.le_refl _) hsz hlim (Or.inl rfl)
  have hl:Calls Tryz.prog 159 #[.int .u64 (d.size:Int)] w fun e w'=>e=.returned (.int .i64 (Lib.bitLen d.size:Nat))∧w'=w:=by
   have h:=Any.bits_Len (SlLaysF0.n15.bits (P:=Tryz.prog) (ρ:=Tryz.sortF_ren) { Tryz.sortF with }) (d.size:Int) w (by omega) (by omega)
   rwa [Int.toNat_natCast] at h
  have wr:IntKind.u64.wrap (d.size:Int)=d.size:=by simp [IntKind.wrap,IntKind.bits,IntKind.signed];omega
  have hps:=pdq_sorts (ltOf cf) hO d 0 d.size (Lib.bitLen d.size) true true (Nat.zero_le _) (Nat.le_refl _) (Or.inl rfl)
  clear hH hcmp hcmp' hk h1
  go_enter Tryz.func141,Tryz.ntmps141
  go_wp2_with (first | (go_at_call 159;refine hl.mono ?_;rintro e w' ⟨rfl,rfl⟩) | (go_at_call 158;refine hp.mono ?_;rintro e w' ⟨rfl,n,os,rfl⟩))
  go_end0
  exact ⟨rfl,_,n,os,hps.1,hps.2,rfl⟩
theorem cmpG_compare {f:List Int→List Int→Option Int} (hf:∀ x y r,x.length≤17592186044416→f x y=some r→r=cmpW x y):CmpG Tryz.prog 130 (nL cI) f:=by
 intro W S u u' x y r h hu hu'
 obtain ⟨A,n,c,rfl,h1⟩:=rowOf_ints hu
 have:=hf x y r (by rw [h1.len];exact h1.small) h
 subst this
 obtain ⟨B,m,c',rfl,h2⟩:=rowOf_ints hu'
 refine (wordCompare_any h1 h2).mono fun e w' ⟨he,hw⟩=>⟨he,0,#[.cells #[.int .i64 (cmpI x.length y.length),.int .i64 (lexI x y)] 3],?_⟩
 rw [← hw,Sort.alloc_eq_grow]
 rfl
theorem rep_two {w:World} {S:Nat→Prop} {u:Value} {x y:IV} (h:RepI w S u (.agg [x,y])):∃ a b,u=.agg #[a,b]∧RepI w S a x∧RepI w S b y:=by
 generalize hz:IV.agg [x,y]=z at h
 cases h with
 | agg us cs hl h1 hr =>
  injection hz with hz
  subst hz
  match us,hl with
  | [a,b],_=>exact ⟨a,b,rfl,hr 0 a x rfl rfl,hr 1 b y rfl rfl⟩
 | _=>cases hz
set_option maxHeartbeats 400000 in
theorem fits1_any {A A' B B':Option Addr} {n c m c' p q p' q':Nat} {xs ys:List Int} {w:World} (hx:RowOf w IsInt A n c xs) (hy:RowOf w IsInt B m c' ys) :
  Calls Tryz.prog 142 #[.agg #[.slice A n c,.slice A' p q],.agg #[.slice B m c',.slice B' p' q']] w fun e w'=>e=.returned (.int .i64 (lexI xs ys))∧∃ q os,w'=Sort.grow (w.drewN q) os:=by
 have key:∀ o o',∃ q os,(w.alloc o).alloc o'=Sort.grow (w.drewN q) os:=fun o o'=>⟨0,#[o]++#[o'],by
  rw [Sort.alloc_eq_grow,Sort.alloc_eq_grow,Sort.grow_grow]
  rfl⟩
 have hx':∀ o o',RowOf ((w.alloc o).alloc o') IsInt A n c xs:=fun o o'=>(hx.kept (grown_keeps (World.grownBy_alloc w o none))).kept (grown_keeps (World.grownBy_alloc _ o' none))
 have hy':∀ o o',RowOf ((w.alloc o).alloc o') IsInt B m c' ys:=fun o o'=>(hy.kept (grown_keeps (World.grownBy_alloc w o none))).kept (grown_keeps (World.grownBy_alloc _ o' none))
 go_enter Tryz.func142,Tryz.ntmps142
 go_wp2_with (go_at_call 143;refine (wordLex_any (hx' _ _) (hy' _ _)).mono ?_;rintro e w' ⟨rfl,rfl⟩)
 go_ret
 exact ⟨rfl,key _ _⟩
theorem cmpG_fits1 {T:Type} {X:T→IV} {i o:T→List Int} (hX:∀ x,X x=.agg [nL cI (i x),nL cI (o x)]) {f:T→T→Option Int} (hf:∀ x y r,(i x).length≤17592186044416→f x y=some r→r=lexI (i x) (i y)):CmpG Tryz.prog 142 X f:=by
 intro W S u u' x y r h hu hu'
 rw [hX] at hu hu'
 obtain ⟨a,b,rfl,ha,hb⟩:=rep_two hu
 obtain ⟨a',b',rfl,ha',hb'⟩:=rep_two hu'
 obtain ⟨A,n,c,rfl,h1⟩:=rowOf_ints ha
 have:=hf x y r (by rw [h1.len];exact h1.small) h
 subst this
 obtain ⟨B,m,c',rfl,h2⟩:=rowOf_ints ha'
 obtain ⟨_,_,_,rfl,_⟩:=rowOf_ints hb
 obtain ⟨_,_,_,rfl,_⟩:=rowOf_ints hb'
 exact fits1_any h1 h2
theorem rep_of_one {W:World} {S:Nat→Prop} {us:List Value} {x:IV} (hl:us.length=1) (hr:RepIs W S us [x]):RepI W S (one1 us) x:=by
 match us,hl with
 | [u],_=>exact hr.2 0 u x rfl rfl
def CmpE {T:Type} (P:Program) (g:FuncId) (X:T→IV) (f:T→T→Option Int):Prop:=(∀ args w,(callFunc g args).run P w=.ok (.enter g args) w)∧CmpG P g X f
end Go.Proofs.YtkeplokjplkcmaaGreat.Sym

namespace Go.Proofs.YtkeplokjplkcmaaGreat.Sym
open Go.RowKit
set_option maxRecDepth 100000
set_option linter.unusedVariables false
set_option maxHeartbeats 4000000
def libClone {α:Type} (by_:Nat) (l:List α):Option (List α):=chk (capOk l.length by_) (some l)
def lib_Clone_int (l:List Int):Option (List Int):=libClone 8 l
theorem sp_lib_Clone_int (l r:List Int) (h:lib_Clone_int l=some r):Sp Tryz.prog 121 [.im (nL cI l)] (.row 3 1 (List.map cI r)):=by
 obtain ⟨h1,h⟩:=chk_some h
 injection h with h
 subst h
 exact sp_of_clone (by_:=8) (fun args w=>run_enter rfl rfl rfl args w) (by decide) clone_int (fun e he=>by obtain ⟨y,_,rfl⟩:=List.mem_map.1 he;rfl) (by rw [List.length_map];exact h1)
def lib_Clone_words (l:List (List Int)):Option (List (List Int)):=libClone 24 l
theorem sp_lib_Clone_words (l r:List (List Int)) (h:lib_Clone_words l=some r):Sp Tryz.prog 148 [.im (nL (cL cI) l)] (.row 60 1 (List.map (cL cI) r)):=by
 obtain ⟨h1,h⟩:=chk_some h
 injection h with h
 subst h
 exact sp_of_clone (by_:=24) (fun args w=>run_enter rfl rfl rfl args w) (by decide) clone_words (fun e he=>by obtain ⟨y,_,rfl⟩:=List.mem_map.1 he;rfl) (by rw [List.length_map];exact h1)
def lib_SortFunc_words (l:List (List Int)) (f:(List Int)→(List Int)→Option Int):Option (List (List Int)):=libSort l f
theorem sp_lib_SortFunc_words (l:List (List Int)) (f:(List Int)→(List Int)→Option Int) (g:FuncId) (hd:CmpE Tryz.prog g (fun x=>nL cI x) f) (r:List (List Int)) (h:lib_SortFunc_words l f=some r):Sp Tryz.prog 149 [.lent (.row 60 1 (List.map (cL cI) l)),.im (.fn g [])] (.mk true [] [.lent (.row 60 1 (List.map (cL cI) r))]) :=
 sp_of_sort (fun args w=>run_enter rfl rfl rfl args w) sortC_words (by decide) (fun _=>rfl) (fun W S us x hl h1 hr=>rep_of_one hl hr) hd.1 hd.2 h
def lib_Clone_traces (l:List T_api_Trace):Option (List T_api_Trace):=libClone 48 l
theorem sp_lib_Clone_traces (l r:List T_api_Trace) (h:lib_Clone_traces l=some r):Sp Tryz.prog 140 [.im (nL c_api_Trace l)] (.row 70 2 (List.map c_api_Trace r)):=by
 obtain ⟨h1,h⟩:=chk_some h
 injection h with h
 subst h
 exact sp_of_clone (by_:=48) (fun args w=>run_enter rfl rfl rfl args w) (by decide) clone_traces (fun e he=>by obtain ⟨y,_,rfl⟩:=List.mem_map.1 he;rfl) (by rw [List.length_map];exact h1)
def lib_SortFunc_traces (l:List T_api_Trace) (f:T_api_Trace→T_api_Trace→Option Int):Option (List T_api_Trace):=libSort l f
theorem sp_lib_SortFunc_traces (l:List T_api_Trace) (f:T_api_Trace→T_api_Trace→Option Int) (g:FuncId) (hd:CmpE Tryz.prog g (fun x=>.agg (c_api_Trace x)) f) (r:List T_api_Trace) (h:lib_SortFunc_traces l f=some r):Sp Tryz.prog 141 [.lent (.row 70 2 (List.map c_api_Trace l)),.im (.fn g [])] (.mk true [] [.lent (.row 70 2 (List.map c_api_Trace r))]) :=
 sp_of_sort (fun args w=>run_enter rfl rfl rfl args w) sortC_traces (by decide) (fun _=>rfl) (fun W S us x hl h1 hr=>.agg _ _ hr.1 h1 hr.2) hd.1 hd.2 h
end Go.Proofs.YtkeplokjplkcmaaGreat.Sym

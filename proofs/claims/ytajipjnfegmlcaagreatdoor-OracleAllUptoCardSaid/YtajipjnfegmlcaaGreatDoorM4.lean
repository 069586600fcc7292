/-
 Observations that grow: the program's Add is the document's, and keeps valid observations valid. Plain laws.
-/
import Derived.Test.YtajipjnfegmlcaaGreatDoorM3
set_option linter.all false
namespace Go.Proofs.YtajipjnfegmlcaaGreatDoor.Sym
set_option maxRecDepth 100000
theorem scan_idx {α:Type} {p:α→Bool}:∀ (l:List α) (j:Nat),scan (fun i x=>if p x=true then some (↑i:Int) else none) j l=if l.any p=true then some (↑(j+l.findIdx p):Int) else none
 | [],_=>rfl
 | x::l,j=>by
  unfold scan
  by_cases h:p x=true
  ·simp [h,List.findIdx_cons]
  ·have hf:p x=false:=by simpa using h
   rw [if_neg h]
   simp only
   rw [scan_idx l (j+1)]
   simp only [List.any_cons,hf,Bool.false_or,List.findIdx_cons,cond_false]
   split
   ·congr 2
    omega
   ·rfl
theorem find_idx {α:Type} {p:α→Bool}:∀ (l:List α),l.find? p=if l.any p=true then l[l.findIdx p]? else none
 | []=>rfl
 | x::l=>by
  by_cases h:p x=true
  ·simp [h,List.findIdx_cons]
  ·have hf:p x=false:=by simpa using h
   rw [List.find?_cons_of_neg (by simp [hf]),find_idx l]
   simp [hf,List.findIdx_cons]
theorem tindex_eq {l:List T_api_Trace} {f:T_api_Trace→Option Bool} {p:T_api_Trace→Bool} (hl:l.length≤100000000000000) (hf:∀ x∈l,f x=some (p x)) :
  slices_IndexFunc_Sapi_Trace_api_Trace_n1 l f=some (if l.any p=true then (↑(l.findIdx p):Int) else -1):=by
 unfold slices_IndexFunc_Sapi_Trace_api_Trace_n1
 have key:=iter_scan (step:=fun s=>slices_IndexFunc_Sapi_Trace_api_Trace_n1.s2 l f s) (l:=l) (fun i x=>if p x=true then some (↑i:Int) else none) (fun i x hx=>by
  simp only [slices_IndexFunc_Sapi_Trace_api_Trace_n1.s2]
  rw [dec_lt hx,cond_true,idxn_at hx,hf x (List.mem_of_getElem? hx),obind]
  cases p x<;>rfl) (by
  simp only [slices_IndexFunc_Sapi_Trace_api_Trace_n1.s2]
  rw [dec_end]
  rfl) hl
 rw [key,scan_idx,obind]
 by_cases h:l.any p=true
 ·rw [if_pos h,if_pos h,Nat.zero_add]
  rfl
 ·rw [if_neg h,if_neg h]
  rfl
theorem cindex_eq {l:List Int} {f:Int→Option Bool} {p:Int→Bool} (hl:l.length≤100000000000000) (hf:∀ x∈l,f x=some (p x)) :
  slices_ContainsFunc_Sint_int l f=some (l.any p):=by
 unfold slices_ContainsFunc_Sint_int slices_IndexFunc_Sint_int
 have key:=iter_scan (step:=fun s=>slices_IndexFunc_Sint_int.s2 l f s) (l:=l) (fun i x=>if p x=true then some (↑i:Int) else none) (fun i x hx=>by
  simp only [slices_IndexFunc_Sint_int.s2]
  rw [dec_lt hx,cond_true,idxn_at hx,hf x (List.mem_of_getElem? hx),obind]
  cases p x<;>rfl) (by
  simp only [slices_IndexFunc_Sint_int.s2]
  rw [dec_end]
  rfl) hl
 rw [key,scan_idx]
 by_cases h:l.any p=true
 ·rw [if_pos h,h]
  simp
 ·have h':l.any p=false:=by simpa using h
  rw [if_neg h,h']
  rfl
def propI (t:T_api_Trace) (n:Int):Int :=
 if checkI t.In n≠0 then checkI t.In n else if t.Out.length≠t.In.length then 1 else if (t.Out.all fun y=>decide (0≤y∧y≤1048576))=true then 0 else 2
theorem propI_zero {t:T_api_Trace} {n:Int}:propI t n=0↔PropT n t:=by
 unfold propI PropT
 by_cases h1:checkI t.In n=0
 ·rw [if_neg (by simpa using h1)]
  by_cases h2:t.Out.length=t.In.length
  ·rw [if_neg (by simpa using h2)]
   by_cases h3:(t.Out.all fun y=>decide (0≤y∧y≤1048576))=true
   ·rw [if_pos h3]
    exact ⟨fun _=>⟨h1,h2,fun y hy=>of_decide_eq_true (List.all_eq_true.1 h3 y hy)⟩,fun _=>rfl⟩
   ·rw [if_neg h3]
    exact ⟨fun h=>(by cases h),fun h=>absurd (List.all_eq_true.2 fun y hy=>decide_eq_true (h.2.2 y hy)) h3⟩
  ·rw [if_pos h2]
   exact ⟨fun h=>(by cases h),fun h=>absurd h.2.1 h2⟩
 ·rw [if_pos h1]
  exact ⟨fun h=>absurd h h1,fun h=>absurd h.1 h1⟩
theorem R16_Proper_eq (t:T_api_Trace) (n:Int) (h1:SmW t.In) (h2:SmW t.Out):R16_Proper t n=some (propI t n):=by
 unfold R16_Proper propI
 rw [R01_Check_eq _ _ h1,obind]
 by_cases g1:checkI t.In n=0
 ·rw [decide_eq_false (by simpa using g1),cond_false,if_neg (by simpa using g1)]
  by_cases g2:t.Out.length=t.In.length
  ·rw [decide_eq_false (by omega),cond_false,if_neg (by simpa using g2)]
   have key:=iter_scan (step:=fun s=>R16_Proper.s2 t s) (l:=t.Out) (fun _ y=>if decide (0≤y∧y≤1048576)=true then none else some (2:Int)) (fun i y hy=>by
    simp only [R16_Proper.s2]
    rw [dec_lt hy,cond_true,idxn_at hy,idxn_at hy]
    by_cases a1:y<0
    ·rw [decide_eq_true a1,cond_true,obind,cond_true,decide_eq_false (show ¬ (0≤y∧y≤1048576) by omega)];rfl
    ·by_cases a2:1048576<y
     ·rw [decide_eq_false a1,cond_false,decide_eq_true a2,obind,cond_true,decide_eq_false (show ¬ (0≤y∧y≤1048576) by omega)];rfl
     ·rw [decide_eq_false a1,cond_false,decide_eq_false a2,obind,cond_false,decide_eq_true (show (0≤y∧y≤1048576) by omega)];rfl) (by
    simp only [R16_Proper.s2]
    rw [dec_end]
    rfl) (by unfold SmW at h2;omega)
   rw [key,scan_all (p:=fun y=>decide (0≤y∧y≤1048576)),obind]
   by_cases h:(t.Out.all fun y=>decide (0≤y∧y≤1048576))=true
   ·rw [if_pos h,if_pos h]
    rfl
   ·rw [if_neg h,if_neg h]
    rfl
  ·rw [decide_eq_true (by omega),cond_true,if_pos g2]
 ·rw [decide_eq_true g1,cond_true,if_pos g1]
theorem observe_proper_eq (t:T_api_Trace) (n:Int) (h1:SmW t.In) (h2:SmW t.Out):observe_proper t n=some (propI t n):=by
 unfold observe_proper propI
 rw [word_Check_eq _ _ h1,obind]
 by_cases g1:checkI t.In n=0
 ·rw [decide_eq_false (by simpa using g1),cond_false,if_neg (by simpa using g1)]
  by_cases g2:t.Out.length=t.In.length
  ·rw [decide_eq_false (by omega),cond_false,if_neg (by simpa using g2)]
   rw [cindex_eq (p:=fun y=>!decide (0≤y∧y≤1048576)) (by unfold SmW at h2;omega) fun y _=>by
    unfold observe_proper_1
    by_cases a1:y<0
    ·rw [decide_eq_true a1,cond_true,obind,decide_eq_false (show ¬ (0≤y∧y≤1048576) by omega)];rfl
    ·by_cases a2:1048576<y
     ·rw [decide_eq_false a1,cond_false,decide_eq_true a2,obind,decide_eq_false (show ¬ (0≤y∧y≤1048576) by omega)];rfl
     ·rw [decide_eq_false a1,cond_false,decide_eq_false a2,obind,decide_eq_true (show (0≤y∧y≤1048576) by omega)];rfl,obind]
   by_cases h:(t.Out.all fun y=>decide (0≤y∧y≤1048576))=true
   ·have h':(t.Out.any fun y=>!decide (0≤y∧y≤1048576))=false:=by
     rw [List.any_eq_false]
     intro y hy
     have:=List.all_eq_true.1 h y hy
     simp only [this,Bool.not_true]
     exact Bool.false_ne_true
    rw [h',cond_false,if_pos h]
   ·have h':(t.Out.any fun y=>!decide (0≤y∧y≤1048576))=true:=by
     refine Classical.byContradiction fun hn=>h (List.all_eq_true.2 fun y hy=>?_)
     refine Classical.byContradiction fun hm=>hn (List.any_eq_true.2 ⟨y,hy,?_⟩)
     have:decide (0≤y∧y≤1048576)=false:=by simpa only [Bool.not_eq_true] using hm
     rw [this]
     rfl
    rw [h',cond_true,if_neg h]
  ·rw [decide_eq_true (by omega),cond_true,if_pos g2]
 ·rw [decide_eq_true g1,cond_true,if_pos g1]
theorem common_comm:∀ a b:List Int,common a b=common b a
 | [],[]=>rfl
 | [],_::_=>rfl
 | _::_,[]=>rfl
 | x::a,y::b=>by
  unfold common
  by_cases h:x=y
  ·rw [if_pos h,if_pos h.symm,common_comm a b]
  ·rw [if_neg h,if_neg fun e=>h e.symm]
theorem Agree.symm {a b:T_api_Trace} (h:Agree a b):Agree b a:=by
 unfold Agree at h ⊢
 rw [common_comm]
 exact h.symm
theorem R16_Differ_iff (a b:T_api_Trace) {n:Int} (ha:PropT n a) (hb:PropT n b) (h1:SmW a.In):∃ d,R16_Differ a b=some d∧(0≤d↔¬ Agree a b):=by
 have h1':a.In.length≤2000000:=h1
 have hc:=common_le a.In b.In
 have la:=ha.2.1
 have lb:=hb.2.1
 unfold R16_Differ
 rw [R01_Common_eq _ _ h1,obind]
 have key:=iter_post (step:=fun k=>R16_Differ.s2 a b (↑(common a.In b.In):Int) k) (fun k=>k≤common a.In b.In∧a.Out.take k=b.Out.take k) (fun k=>common a.In b.In-k) (fun r=>match r with | .inl ()=>Agree a b | .inr d=>0≤d∧¬ Agree a b) (fun k ⟨g1,g2⟩=>by
  simp only [R16_Differ.s2]
  by_cases g3:k<common a.In b.In
  ·have hx:=get_at (l:=a.Out) (i:=k) (by omega)
   have hy:=get_at (l:=b.Out) (i:=k) (by omega)
   rw [decide_eq_true (by omega),cond_true,idxn_at hx,idxn_at hy]
   by_cases e:a.Out[k]'(by omega)=b.Out[k]'(by omega)
   ·left
    refine ⟨k+1,by rw [decide_eq_false (by simpa using e),cond_false,chk_pos (by unfold inR;omega)],⟨g3,?_⟩,by omega⟩
    rw [take_step hx,take_step hy,g2,e]
   ·right
    refine ⟨.inr (k:Int),by rw [decide_eq_true e,cond_true],by simp,fun hA=>e ?_⟩
    have h3:(a.Out.take (common a.In b.In))[k]?=(b.Out.take (common a.In b.In))[k]?:=by rw [hA]
    rw [List.getElem?_take,List.getElem?_take,if_pos g3,if_pos g3,hx,hy] at h3
    injection h3
  ·right
   have e:k=common a.In b.In:=by omega
   subst e
   exact ⟨.inl (),by rw [decide_eq_false (by omega),cond_false],g2⟩) fuel 0 ⟨Nat.zero_le _,by simp⟩ (by have:=fuel_big;omega)
 obtain ⟨r,e,hq⟩:=key
 rw [e]
 cases r with
 | inl u=>exact ⟨-1,rfl,fun h=>absurd h (by decide),fun h=>absurd hq h⟩
 | inr d=>exact ⟨d,rfl,fun _=>hq.2,fun _=>hq.1⟩
theorem common_eq_iff {x y:List Int} (h:x.length=y.length):common x y=y.length↔x=y:=by
 rw [prefix_iff]
 exact ⟨fun hp=>(hp.eq_of_length h.symm).symm,fun e=>e ▸ List.prefix_refl _⟩
theorem observe_differ_iff (a b:T_api_Trace) {n:Int} (ha:PropT n a) (hb:PropT n b) (h1:SmW a.In):∃ d,observe_differ a b=some d∧(0≤d↔¬ Agree a b):=by
 have h1':a.In.length≤2000000:=h1
 have hc:=common_le a.In b.In
 have la:=ha.2.1
 have lb:=hb.2.1
 unfold observe_differ
 rw [word_Common_eq _ _ h1,obind]
 have hm:min (min (↑(common a.In b.In):Int) (↑(List.length a.Out):Int)) (↑(List.length b.Out):Int)=↑(common a.In b.In):=by omega
 rw [hm,chk_pos (by omega),chk_pos (by omega),Int.toNat_natCast,word_Common_eq _ _ (by unfold SmW;rw [List.length_take];omega),obind]
 have l1:(a.Out.take (common a.In b.In)).length=common a.In b.In:=by rw [List.length_take];omega
 have l2:(b.Out.take (common a.In b.In)).length=common a.In b.In:=by rw [List.length_take];omega
 have hle:=common_le (a.Out.take (common a.In b.In)) (b.Out.take (common a.In b.In))
 have hiff:=common_eq_iff (x:=a.Out.take (common a.In b.In)) (y:=b.Out.take (common a.In b.In)) (by omega)
 by_cases h:common (a.Out.take (common a.In b.In)) (b.Out.take (common a.In b.In))<common a.In b.In
 ·rw [decide_eq_true (by omega),cond_true]
  exact ⟨_,rfl,fun _ hA=>by have:=hiff.2 hA;omega,fun _=>by omega⟩
 ·rw [decide_eq_false (by omega),cond_false]
  exact ⟨-1,rfl,fun h=>absurd h (by decide),fun hA=>absurd (hiff.1 (by omega)) hA⟩
def clashO (l:List T_api_Trace) (t:T_api_Trace):Prop:=∃ u∈l,¬ Agree u t
def insideO (l:List T_api_Trace) (w:List Int):Bool:=l.any fun u=>decide (w <+: u.In)
def insT:List T_api_Trace→T_api_Trace→List T_api_Trace
 | [],t=>[t]
 | x::r,t=>if cmpW t.In x.In=-1 then t::x::r else x::insT r t
def restT (l:List T_api_Trace) (t:T_api_Trace):List T_api_Trace:=l.filter fun u=>!decide (u.In <+: t.In)
def addL (l:List T_api_Trace) (t:T_api_Trace):List T_api_Trace:=if insideO l t.In=true∨t.In=[] then l else insT (restT l t) t
instance (a b:T_api_Trace):Decidable (Agree a b):=by unfold Agree;infer_instance
instance (l:List T_api_Trace) (t:T_api_Trace):Decidable (clashO l t):=by unfold clashO;infer_instance
def addO (o:T_api_Obs) (t:T_api_Trace):T_api_Obs×Int :=
 if propI t o.Inputs≠0 then (o,propI t o.Inputs) else if clashO o.Traces t then (o,13) else if 10000<(addL o.Traces t).length then (o,11) else (⟨o.Inputs,addL o.Traces t⟩,0)
theorem insT_length (l:List T_api_Trace) (t:T_api_Trace):(insT l t).length=l.length+1:=by
 induction l with
 | nil=>rfl
 | cons x r ih =>
  unfold insT
  split
  ·rfl
  ·simp [ih]
theorem restT_length (l:List T_api_Trace) (t:T_api_Trace):(restT l t).length≤l.length:=List.length_filter_le _ _
theorem addL_length (l:List T_api_Trace) (t:T_api_Trace):(addL l t).length≤l.length+1:=by
 unfold addL
 split
 ·omega
 ·rw [insT_length]
  have:=restT_length l t
  omega
theorem mem_insT {l:List T_api_Trace} {t x:T_api_Trace}:x∈insT l t↔x=t∨x∈l:=by
 induction l with
 | nil=>simp [insT]
 | cons y r ih =>
  unfold insT
  split
  ·simp
  ·simp only [List.mem_cons,ih]
   constructor
   ·rintro (h | h | h)
    ·exact .inr (.inl h)
    ·exact .inl h
    ·exact .inr (.inr h)
   ·rintro (h | h | h)
    ·exact .inr (.inl h)
    ·exact .inl h
    ·exact .inr (.inr h)
theorem insT_at:∀ {l:List T_api_Trace} {t:T_api_Trace} {k:Nat},k≤l.length→(∀ j x,j<k→l[j]?=some x→cmpW x.In t.In=-1)→(∀ x,l[k]?=some x→cmpW x.In t.In≠-1)→(∀ x∈l,x.In≠t.In)→insT l t=l.take k++[t]++l.drop k
 | [],t,k,hk,_,_,_=>by
  have:k=0:=by simpa using hk
  subst this
  rfl
 | x::r,t,0,_,_,h2,h3=>by
  have h4:=h2 x rfl
  have h5:=h3 x (by simp)
  have r1:=cmpW_range x.In t.In
  have z1:=cmpW_zero x.In t.In
  have s1:=cmpW_swap x.In t.In
  have h6:¬ cmpW x.In t.In=0:=fun e=>h5 (z1.1 e)
  unfold insT
  rw [if_pos (by omega)]
  rfl
 | x::r,t,k+1,hk,h1,h2,h3=>by
  have h4:=h1 0 x (Nat.succ_pos _) rfl
  have s1:=cmpW_swap x.In t.In
  unfold insT
  rw [if_neg (by omega),insT_at (k:=k) (by simpa using hk) (fun j y hj hy=>h1 (j+1) y (by omega) (by simpa using hy)) (fun y hy=>h2 y (by simpa using hy)) fun y hy=>h3 y (by simp [hy])]
  rfl
theorem insT_pair {S:T_api_Trace→T_api_Trace→Prop} {t:T_api_Trace}:∀ {l:List T_api_Trace},l.Pairwise S→(∀ x∈l,S x t∧S t x)→(insT l t).Pairwise S
 | [],_,_=>by simp [insT]
 | x::r,h,ht=>by
  unfold insT
  have hx:=List.pairwise_cons.1 h
  split
  ·exact List.pairwise_cons.2 ⟨fun y hy=>(ht y hy).2,h⟩
  ·refine List.pairwise_cons.2 ⟨fun y hy=>?_,insT_pair hx.2 fun y hy=>ht y (by simp [hy])⟩
   rcases mem_insT.1 hy with e | e
   ·subst e
    exact (ht x (by simp)).1
   ·exact hx.1 y e
theorem insT_asc {t:T_api_Trace}:∀ {l:List T_api_Trace},l.Pairwise (fun a b=>cmpW a.In b.In=-1)→(∀ x∈l,x.In≠t.In)→(insT l t).Pairwise (fun a b=>cmpW a.In b.In=-1)
 | [],_,_=>by simp [insT]
 | x::r,h,hn=>by
  unfold insT
  have hx:=List.pairwise_cons.1 h
  split
  ·rename_i h1
   refine List.pairwise_cons.2 ⟨fun y hy=>?_,h⟩
   rcases List.mem_cons.1 hy with e | e
   ·rw [e]
    exact h1
   ·exact cmpW_trans _ _ _ h1 (hx.1 y e)
  ·rename_i h1
   refine List.pairwise_cons.2 ⟨fun y hy=>?_,insT_asc hx.2 fun y hy=>hn y (by simp [hy])⟩
   rcases mem_insT.1 hy with e | e
   ·subst e
    have r1:=cmpW_range x.In y.In
    have z1:=cmpW_zero x.In y.In
    have s1:=cmpW_swap x.In y.In
    have h6:¬ cmpW x.In y.In=0:=fun e=>hn x (by simp) (z1.1 e)
    omega
   ·exact hx.1 y e
theorem ObsOk.pw {o:T_api_Obs} (hv:ObsOk o):o.Traces.Pairwise (fun a b=>cmpW a.In b.In=-1)∧o.Traces.Pairwise (fun a b=>¬ a.In <+: b.In∧Agree a b) :=
 ⟨List.pairwise_iff_getElem.2 fun i j hi hj hij=>hv.asc i j _ _ hij (get_at hi) (get_at hj),List.pairwise_iff_getElem.2 fun i j hi hj hij=>hv.apart i j _ _ hij (get_at hi) (get_at hj)⟩
theorem obsOk_of {o:T_api_Obs} (h1:1≤o.Inputs∧o.Inputs≤64) (h2:o.Traces.length≤10000) (h3:∀ t∈o.Traces,PropT o.Inputs t∧t.In≠[]) (h4:o.Traces.Pairwise (fun a b=>cmpW a.In b.In=-1)) (h5:o.Traces.Pairwise (fun a b=>¬ a.In <+: b.In∧Agree a b)):ObsOk o:=by
 refine ⟨h1,h2,h3,fun i j a b hij ha hb=>?_,fun i j a b hij ha hb=>?_⟩
 all_goals
  obtain ⟨hi,rfl⟩:=List.getElem?_eq_some_iff.1 ha
  obtain ⟨hj,rfl⟩:=List.getElem?_eq_some_iff.1 hb
 ·exact List.pairwise_iff_getElem.1 h4 i j hi hj hij
 ·exact List.pairwise_iff_getElem.1 h5 i j hi hj hij
theorem insideO_false {l:List T_api_Trace} {w:List Int} (h:¬ insideO l w=true):∀ u∈l,¬ w <+: u.In:=fun u hu hp=>h (List.any_eq_true.2 ⟨u,hu,decide_eq_true hp⟩)
theorem addO_ok {o:T_api_Obs} {t:T_api_Trace} (hv:ObsOk o):ObsOk (addO o t).1:=by
 unfold addO
 split
 ·exact hv
 rename_i hp
 have hp:PropT o.Inputs t:=propI_zero.1 (by simpa using hp)
 split
 ·exact hv
 rename_i hc
 split
 ·exact hv
 rename_i hn
 have hn:(addL o.Traces t).length≤10000:=by omega
 unfold addL at hn ⊢
 by_cases h:insideO o.Traces t.In=true∨t.In=[]
 ·rw [if_pos h]
  exact hv
 ·rw [if_neg h] at hn ⊢
  have h1:=insideO_false fun e=>h (.inl e)
  have h2:t.In≠[]:=fun e=>h (.inr e)
  have hsub:(restT o.Traces t).Sublist o.Traces:=List.filter_sublist
  have hrest:∀ x∈restT o.Traces t,x∈o.Traces∧¬ x.In <+: t.In:=fun x hx=>by
   have:=List.mem_filter.1 hx
   refine ⟨this.1,fun e=>?_⟩
   rw [decide_eq_true e] at this
   exact Bool.false_ne_true this.2
  have hag:∀ x∈o.Traces,Agree x t:=fun x hx=>Classical.byContradiction fun e=>hc ⟨x,hx,e⟩
  refine obsOk_of hv.inp hn (fun x hx=>?_) (insT_asc (hv.pw.1.sublist hsub) fun x hx e=>(hrest x hx).2 (e ▸ List.prefix_refl _)) (insT_pair (hv.pw.2.sublist hsub) fun x hx=>⟨⟨(hrest x hx).2,hag x (hrest x hx).1⟩,h1 x (hrest x hx).1,(hag x (hrest x hx).1).symm⟩)
  rcases mem_insT.1 hx with e | e
  ·rw [e]
   exact ⟨hp,h2⟩
  ·exact hv.prop x (hrest x e).1
end Go.Proofs.YtajipjnfegmlcaaGreatDoor.Sym

/-
 Observations that grow: what the program's Add and the document's Add come to. Plain laws.
-/
namespace Go.Proofs.YtajipjnfegmlcaaGreatDoor.Sym
set_option maxRecDepth 100000
def SmX (t:T_api_Trace):Prop:=SmW t.In∧SmW t.Out
def SmTr (l:List T_api_Trace):Prop:=l.length≤1200000∧∀ t∈l,SmX t
theorem SmO.tr {o:T_api_Obs} (h:SmO o):SmTr o.Traces:=⟨by have:=h.1;omega,fun t ht=>⟨by have:=(h.2 t ht).1;unfold SmW;omega,(h.2 t ht).2⟩⟩
theorem capT {n:Nat} (h:n≤3000000):capOk n 48:=by unfold capOk;omega
theorem observe_copied_eq {t:T_api_Trace} (h:SmX t):observe_copied t=some t:=by
 unfold observe_copied
 rw [libclone_word h.1,obind,libclone_word h.2,obind]
theorem observe_owned_eq {l:List T_api_Trace} (h:SmTr l):observe_owned l=some l:=by
 have hl:=h.1
 unfold observe_owned
 rw [chk_pos ⟨by decide,by omega,by rw [show ((↑l.length:Int)+1).toNat=l.length+1 by omega];exact capT (by omega)⟩]
 have key:=iter_post (step:=fun (s:List T_api_Trace×Nat)=>observe_owned.s2 l s.1 s.2) (fun s=>s.2≤l.length∧s.1=l.take s.2) (fun s=>l.length-s.2) (fun r=>r=l) (fun ⟨y,i⟩ ⟨g1,g2⟩=>by
  simp only at g1 g2
  subst g2
  simp only [observe_owned.s2]
  by_cases g3:i<l.length
  ·left
   have hx:=get_at g3
   refine ⟨(l.take (i+1),i+1),?_,⟨g3,rfl⟩,by simp only;omega⟩
   rw [dec_lt hx,cond_true,idxn_at hx,observe_copied_eq (h.2 _ (List.getElem_mem _)),obind,chk_pos (capT (by rw [List.length_take];omega)),take_step hx]
  ·right
   have e:i=l.length:=by omega
   subst e
   exact ⟨l,by rw [dec_end,cond_false,List.take_length],rfl⟩) fuel ([],0) ⟨Nat.zero_le _,rfl⟩ (by have:=fuel_big;simp only;omega)
 obtain ⟨r,e,rfl⟩:=key
 rw [e,obind]
theorem tdelete_eq {l:List T_api_Trace} {f:T_api_Trace→Option Bool} {p:T_api_Trace→Bool} (hl:l.length≤100000000) (hf:∀ x∈l,f x=some (p x)) :
  slices_DeleteFunc_Sapi_Trace_api_Trace_n1 l f=some (l.filter fun x=>!p x):=by
 unfold slices_DeleteFunc_Sapi_Trace_api_Trace_n1
 rw [tindex_eq (by omega) hf,obind]
 by_cases h:l.any p=true
 ·rw [if_pos h,decide_eq_false (by omega),cond_false]
  have hi:l.findIdx p<l.length:=List.findIdx_lt_length_of_exists (by simpa using List.any_eq_true.1 h)
  have hx:=get_at hi
  have hpx:p l[l.findIdx p]=true:=List.findIdx_getElem
  have hbefore:∀ (k:Nat),k≤l.findIdx p→(l.take k).filter (fun x=>!p x)=l.take k:=fun k hk=>by
   refine List.filter_eq_self.2 fun x hx=>?_
   obtain ⟨j,hj,rfl⟩:=List.mem_iff_getElem.1 hx
   rw [List.length_take] at hj
   rw [List.getElem_take]
   have:=List.not_of_lt_findIdx (p:=p) (xs:=l) (i:=j) (by omega)
   have h9:p l[j]=false:=by simpa using this
   rw [h9]
   rfl
  rw [chk_pos (by unfold inR;omega)]
  have key:=iter_post (step:=fun (s:List T_api_Trace×Int×Int)=>slices_DeleteFunc_Sapi_Trace_api_Trace_n1.s2 f s.1 s.2.1 s.2.2)
   (fun s=>∃ i j:Nat,s.2.1=(i:Int)∧s.2.2=(j:Int)∧i<j∧j≤l.length∧s.1.length=l.length∧s.1.drop j=l.drop j∧s.1.take i=(l.take j).filter fun x=>!p x) (fun s=>(↑l.length-s.2.2).toNat)
   (fun r=>∃ i:Nat,r.2=(i:Int)∧i≤l.length∧0<l.length∧r.1.length=l.length∧r.1.take i=l.filter fun x=>!p x) (fun ⟨y,si,sj⟩ ⟨i,j,g1,g2,g3,g4,g5,g6,g7⟩=>by
    simp only at g1 g2 g5 g6 g7
    subst g1 g2
    simp only [slices_DeleteFunc_Sapi_Trace_api_Trace_n1.s2]
    by_cases g8:j<l.length
    ·left
     have hz:=get_at g8
     have hy:y[j]?=some l[j]:=by
      have h1:(y.drop j)[0]?=(l.drop j)[0]?:=by rw [g6]
      rw [List.getElem?_drop,List.getElem?_drop,Nat.add_zero,hz] at h1
      exact h1
     rw [decide_eq_true (by omega),cond_true,idx_at rfl hy,hf _ (List.getElem_mem _),obind]
     have hd:∀ u:List T_api_Trace,u.drop j=l.drop j→u.drop (j+1)=l.drop (j+1):=fun u hu=>by
      rw [← List.drop_drop,hu,List.drop_drop]
     cases hp:p l[j] with
     | false =>
      have hyi:=get_at (l:=y) (i:=i) (by omega)
      refine ⟨(y.set i l[j],((i+1:Nat):Int),((j+1:Nat):Int)),?_,⟨i+1,j+1,rfl,rfl,by omega,by omega,by simpa using g5,?_,?_⟩,by simp only;omega⟩
      ·rw [Bool.not_false,cond_true,idx_at rfl hyi,chk_pos (by unfold inR;omega),chk_pos (by unfold inR;omega)]
       simp
      ·rw [List.drop_set_of_lt (by omega)]
       exact hd y g6
      ·rw [take_step hz,List.filter_append,← g7]
       have hset:(y.set i l[j])[i]?=some l[j]:=by rw [List.getElem?_set_self (by omega)]
       rw [take_step hset,List.take_set_of_le (by omega)]
       simp [hp]
     | true =>
      refine ⟨(y,(i:Int),((j+1:Nat):Int)),?_,⟨i,j+1,rfl,rfl,by omega,by omega,g5,hd y g6,?_⟩,by simp only;omega⟩
      ·rw [Bool.not_true,cond_false,chk_pos (by unfold inR;omega)]
       simp
      ·rw [take_step hz,List.filter_append,← g7]
       simp [hp]
    ·right
     have e:j=l.length:=by omega
     subst e
     refine ⟨(y,(i:Int)),by rw [decide_eq_false (by omega),cond_false],i,rfl,by omega,by omega,g5,?_⟩
     rw [g7,List.take_length]) fuel (l,(↑(l.findIdx p):Int),(↑(l.findIdx p):Int)+1) ⟨l.findIdx p,l.findIdx p+1,rfl,by simp,by omega,hi,rfl,rfl,by
    rw [take_step hx,List.filter_append,hbefore _ (Nat.le_refl _)]
    simp [hpx]⟩ (by have:=fuel_big;simp only;omega)
  obtain ⟨⟨y,si⟩,e,i,g1,g2,g3,g4,g5⟩:=key
  simp only at g1 g4 g5
  subst g1
  rw [e,obind]
  simp only [slices_DeleteFunc_Sapi_Trace_api_Trace_n1.k3]
  have hlen:(List.take i y++List.replicate (y.length-i) (⟨[],[]⟩:T_api_Trace)).length=y.length:=by
   rw [List.length_append,List.length_take,List.length_replicate]
   omega
  rw [Int.toNat_natCast,hlen,chk_pos (by omega),chk_pos (by omega),chk_pos (by omega),List.take_append_of_le_length (by rw [List.length_take];omega),List.take_take,Nat.min_self,g5]
 ·have h':l.any p=false:=by simpa using h
  rw [if_neg h,decide_eq_true rfl,cond_true]
  congr 1
  refine (List.filter_eq_self.2 fun x hx=>?_).symm
  have:=List.any_eq_false.1 h' x hx
  simpa using this
theorem tsearch_eq {F:List T_api_Trace} {t:T_api_Trace} (hs:F.Pairwise fun a b=>cmpW a.In b.In=-1) (hl:F.length≤2000000) (hw:∀ x∈F,SmW x.In) :
  ∃ k:Nat,∃ b,slices_BinarySearchFunc_Sapi_Trace_api_Trace_api_Trace F t (fun u0 u1=>observe_order u0 u1)=some ((↑k:Int),b)∧k≤F.length∧(∀ j x,j<k→F[j]?=some x→cmpW x.In t.In=-1)∧∀ x,F[k]?=some x→cmpW x.In t.In≠-1:=by
 have hc:∀ x∈F,observe_order x t=some (cmpW x.In t.In):=fun x hx=>by
  unfold observe_order
  rw [word_Compare_eq _ _ (by have:=hw x hx;unfold SmW at this;omega),obind]
 have hlt:∀ {i j:Nat} {a b:T_api_Trace},i<j→F[i]?=some a→F[j]?=some b→cmpW a.In b.In=-1:=fun {i j a b} hij ha hb=>by
  obtain ⟨hi,rfl⟩:=List.getElem?_eq_some_iff.1 ha
  obtain ⟨hj,rfl⟩:=List.getElem?_eq_some_iff.1 hb
  exact List.pairwise_iff_getElem.1 hs i j hi hj hij
 have key:=iter_post (step:=fun (s:Int×Int)=>slices_BinarySearchFunc_Sapi_Trace_api_Trace_api_Trace.s2 F t (fun u0 u1=>observe_order u0 u1) s.1 s.2)
  (fun s=>∃ i j:Nat,s.1=(i:Int)∧s.2=(j:Int)∧i≤j∧j≤F.length∧(∀ k x,k<i→F[k]?=some x→cmpW x.In t.In=-1)∧∀ k x,j≤k→F[k]?=some x→cmpW x.In t.In≠-1) (fun s=>(s.2-s.1).toNat)
  (fun r=>∃ k:Nat,r=(k:Int)∧k≤F.length∧(∀ j x,j<k→F[j]?=some x→cmpW x.In t.In=-1)∧∀ x,F[k]?=some x→cmpW x.In t.In≠-1) (fun s ⟨i,j,g1,g2,g3,g4,g5,g6⟩=>by
   obtain ⟨si,sj⟩:=s
   simp only at g1 g2
   subst g1 g2
   simp only [slices_BinarySearchFunc_Sapi_Trace_api_Trace_api_Trace.s2]
   by_cases g7:i<j
   ·left
    have hmid:((↑i:Int)+↑j) / 2^1=((i+j) / 2:Nat):=by omega
    have hx:=get_at (l:=F) (i:=(i+j) / 2) (by omega)
    rw [decide_eq_true (by omega),cond_true,chk_pos (by unfold inR;omega),chk_pos (by omega),chk_pos (by omega),chk_pos (by unfold inR;omega),idx_at hmid hx,hc _ (List.getElem_mem _),obind]
    have r:=cmpW_range (F[(i+j) / 2]'(by omega)).In t.In
    by_cases g8:cmpW (F[(i+j) / 2]'(by omega)).In t.In<0
    ·refine ⟨(((i+j) / 2+1:Nat),(j:Int)),?_,⟨(i+j) / 2+1,j,rfl,rfl,by omega,g4,fun k x hk hx2=>?_,g6⟩,by simp only;omega⟩
     ·rw [decide_eq_true g8,cond_true,chk_pos (by unfold inR;omega),hmid]
      simp
     ·rcases Nat.lt_or_ge k ((i+j) / 2) with h | h
      ·exact cmpW_trans _ _ _ (hlt h hx2 hx) (by omega)
      ·have e:k=(i+j) / 2:=by omega
       subst e
       rw [hx] at hx2
       injection hx2 with hx2
       subst hx2
       omega
    ·refine ⟨((i:Int),(((i+j) / 2:Nat):Int)),?_,⟨i,(i+j) / 2,rfl,rfl,by omega,by omega,g5,fun k x hk hx2=>?_⟩,by simp only;omega⟩
     ·rw [decide_eq_false g8,cond_false,hmid]
     ·intro h9
      rcases Nat.lt_or_ge ((i+j) / 2) k with h | h
      ·have:=cmpW_trans _ _ _ (hlt h hx hx2) h9
       omega
      ·have e:k=(i+j) / 2:=by omega
       subst e
       rw [hx] at hx2
       injection hx2 with hx2
       subst hx2
       omega
   ·right
    have e:i=j:=by omega
    subst e
    refine ⟨(i:Int),by rw [decide_eq_false (by omega),cond_false],i,rfl,g4,g5,fun x hx2=>g6 i x (Nat.le_refl _) hx2⟩) fuel (0,(↑(List.length F):Int)) ⟨0,F.length,rfl,rfl,Nat.zero_le _,Nat.le_refl _,fun k x h=>by omega,fun k x h hx2=>by
    have:=(List.getElem?_eq_some_iff.1 hx2).1
    omega⟩ (by have:=fuel_big;simp only;omega)
 obtain ⟨r,e,k,hk,h1,h2,h3⟩:=key
 subst hk
 unfold slices_BinarySearchFunc_Sapi_Trace_api_Trace_api_Trace
 rw [e,obind]
 by_cases h4:k<F.length
 ·have hx:=get_at h4
  rw [decide_eq_true (by omega),cond_true,idx_at rfl hx,show (fun (u0:T_api_Trace) (u1:T_api_Trace)=>observe_order u0 u1) F[k] t=some (cmpW F[k].In t.In) from hc _ (List.getElem_mem _),obind,obind]
  exact ⟨k,_,rfl,h1,h2,h3⟩
 ·rw [decide_eq_false (by omega),cond_false,obind]
  exact ⟨k,_,rfl,h1,h2,h3⟩
theorem observe_add_eq {o:T_api_Obs} {t:T_api_Trace} (ho:SmTr o.Traces) (hv:ObsOk o) (ht:SmX t) (hp:PropT o.Inputs t) :
  observe_add o.Traces t=some (if clashO o.Traces t then ([],13) else if 10000<(addL o.Traces t).length then ([],11) else (addL o.Traces t,0)):=by
 have hl:=ho.1
 unfold observe_add
 have key:=iter_post (step:=fun (s:Bool×Nat)=>observe_add.s2 o.Traces t s.1 s.2) (fun s=>s.2≤o.Traces.length∧(∀ u∈o.Traces.take s.2,Agree u t)∧s.1=insideO (o.Traces.take s.2) t.In) (fun s=>o.Traces.length-s.2)
  (fun r=>match r with | .inl b=>¬ clashO o.Traces t∧b=insideO o.Traces t.In | .inr x=>clashO o.Traces t∧x=([],13)) (fun ⟨b,i⟩ ⟨g1,g2,g3⟩=>by
   simp only at g1 g2 g3
   simp only [observe_add.s2]
   by_cases g4:i<o.Traces.length
   ·have hx:=get_at g4
    have hxm:=List.getElem_mem g4
    obtain ⟨d,hd,hd2⟩:=observe_differ_iff o.Traces[i] t (hv.prop _ hxm).1 hp (ho.2 _ hxm).1
    rw [dec_lt hx,cond_true,idxn_at hx,hd,obind]
    by_cases g5:0≤d
    ·right
     exact ⟨.inr ([],13),by rw [decide_eq_true g5,cond_true],⟨_,hxm,hd2.1 g5⟩,rfl⟩
    ·left
     have hA:Agree o.Traces[i] t:=Classical.byContradiction fun e=>g5 (hd2.2 e)
     have hst:insideO (o.Traces.take (i+1)) t.In=(b||decide (t.In <+: o.Traces[i].In)):=by
      rw [take_step hx,g3]
      unfold insideO
      rw [List.any_append]
      simp
     refine ⟨(insideO (o.Traces.take (i+1)) t.In,i+1),?_,⟨g4,fun u hu=>?_,rfl⟩,by simp only;omega⟩
     ·rw [decide_eq_false g5,cond_false,hst]
      cases b with
      | true=>rfl
      | false =>
       rw [cond_false,word_HasPrefix_eq _ _ (ho.2 _ hxm).1,obind]
       rfl
     ·rw [take_step hx] at hu
      rcases List.mem_append.1 hu with h | h
      ·exact g2 u h
      ·rw [List.mem_singleton.1 h]
       exact hA
   ·right
    have e:i=o.Traces.length:=by omega
    subst e
    rw [List.take_length] at g2 g3
    exact ⟨.inl b,by rw [dec_end,cond_false],fun ⟨u,hu,h⟩=>h (g2 u hu),g3⟩) fuel (false,0) ⟨Nat.zero_le _,fun u hu=>by simp at hu,rfl⟩ (by have:=fuel_big;simp only;omega)
 obtain ⟨r,e,hq⟩:=key
 rw [e,obind]
 cases r with
 | inr x =>
  rw [if_pos hq.1,hq.2]
  rfl
 | inl b =>
  obtain ⟨h1,rfl⟩:=hq
  rw [if_neg h1]
  simp only [Sum.elim_inl]
  have hb:(cond (insideO o.Traces t.In) (some true) (some (decide ((↑(List.length t.In):Int)=0))):Option Bool)=some (decide (insideO o.Traces t.In=true∨t.In=[])):=by
   cases hi:insideO o.Traces t.In with
   | true=>rfl
   | false =>
    rw [cond_false]
    congr 1
    refine decide_eq_decide.2 ⟨fun h=>.inr (List.eq_nil_of_length_eq_zero (by omega)),fun h=>?_⟩
    rcases h with h | h
    ·cases h
    ·rw [h];rfl
  rw [hb,obind]
  by_cases h2:insideO o.Traces t.In=true∨t.In=[]
  ·have ha:addL o.Traces t=o.Traces:=if_pos h2
   have hn:=hv.num
   rw [decide_eq_true h2,cond_true,ha,if_neg (by omega)]
  ·have ha:addL o.Traces t=insT (restT o.Traces t) t:=if_neg h2
   rw [decide_eq_false h2,cond_false,tdelete_eq (p:=fun u=>decide (u.In <+: t.In)) (by omega) fun x hx=>by
    unfold observe_add_1
    rw [word_HasPrefix_eq _ _ ht.1,obind],obind]
   have hrl:=restT_length o.Traces t
   have hn:=hv.num
   have hil:=insT_length (restT o.Traces t) t
   rw [show (o.Traces.filter fun x=>!decide (x.In <+: t.In))=restT o.Traces t from rfl,ha]
   by_cases h3:(restT o.Traces t).length=10000
   ·rw [decide_eq_true (by omega),cond_true,if_pos (by omega)]
   ·rw [decide_eq_false (by omega),cond_false,if_neg (by omega)]
    have hsub:(restT o.Traces t).Sublist o.Traces:=List.filter_sublist
    have hne:∀ x∈restT o.Traces t,x.In≠t.In:=fun x hx e=>by
     have:=(List.mem_filter.1 hx).2
     rw [e,decide_eq_true (List.prefix_refl _)] at this
     exact Bool.false_ne_true this
    obtain ⟨k,b,e,k1,k2,k3⟩:=tsearch_eq (t:=t) (hv.pw.1.sublist hsub) (by omega) fun x hx=>(ho.2 x (hsub.subset hx)).1
    rw [e,obind,observe_copied_eq ht,obind]
    simp only
    unfold lib_Insert_traces
    rw [chk_pos ⟨by omega,by omega,rfl,by omega⟩,obind,Int.toNat_natCast,← insT_at k1 k2 k3 hne]
theorem observe_Add_eq {o:T_api_Obs} {t:T_api_Trace} (ho:SmTr o.Traces) (hv:ObsOk o) (ht:SmX t):observe_Add o t=some (addO o t):=by
 have hl:=ho.1
 unfold observe_Add observe_all addO
 rw [observe_owned_eq ho,obind,show fuel=2+(fuel-2) by unfold fuel;rfl]
 have h1:observe_all.s2 o [t] o.Traces 0=if propI t o.Inputs≠0 then some (.inr (.inr (o,propI t o.Inputs))) else if clashO o.Traces t then some (.inr (.inr (o,13))) else if 10000<(addL o.Traces t).length then some (.inr (.inr (o,11))) else some (.inl (addL o.Traces t,1)):=by
  unfold observe_all.s2
  rw [decide_eq_true (by simp),cond_true,idxn_at (x:=t) rfl,observe_proper_eq _ _ ht.1 ht.2,obind]
  by_cases g1:propI t o.Inputs=0
  ·rw [decide_eq_false (by simpa using g1),cond_false,if_neg (by simpa using g1),observe_add_eq ho hv ht (propI_zero.1 g1),obind]
   split
   ·rfl
   ·split
    ·rfl
    ·rfl
  ·rw [decide_eq_true g1,cond_true,if_pos g1]
 have h2:∀ l,observe_all.s2 o [t] l 1=some (.inr (.inl l)):=fun l=>by
  unfold observe_all.s2
  rw [decide_eq_false (by simp),cond_false]
 rw [Nat.add_comm 2 (fuel-2)]
 unfold iter
 rw [h1]
 by_cases g1:propI t o.Inputs≠0
 ·simp [g1]
 ·simp only [g1,if_false]
  by_cases g2:clashO o.Traces t
  ·simp [g2]
  ·simp only [g2,if_false]
   by_cases g3:10000<(addL o.Traces t).length
   ·simp [g3]
   ·simp only [g3,if_false]
    unfold iter
    rw [h2]
    simp
theorem R16_copied_eq {t:T_api_Trace} (h:SmX t):R16_copied t=some t:=by
 have h1:=h.1
 have h2:=h.2
 unfold SmW at h1 h2
 unfold R16_copied
 rw [R01_Join_eq _ (by simp) (by simp;omega),obind,R01_Join_eq _ (by simp) (by simp;omega),obind]
 simp
def keepT (t x:T_api_Trace):Bool:=decide (¬ x.In <+: t.In∨t.In.length=x.In.length)
def passT (t:T_api_Trace):Bool→List T_api_Trace→List T_api_Trace
 | done,[]=>if done=true then [] else [t]
 | done,x::r=>(if done=false∧cmpW t.In x.In=-1 then [t] else [])++((if keepT t x=true then [x] else [])++passT t (done||decide (cmpW t.In x.In=-1)) r)
theorem passT_true {t:T_api_Trace}:∀ (l:List T_api_Trace),passT t true l=l.filter (keepT t)
 | []=>rfl
 | x::r=>by
  unfold passT
  rw [if_neg (by simp),List.filter_cons,Bool.true_or,passT_true r]
  split<;>rfl
theorem passT_ins {t:T_api_Trace}:∀ (l:List T_api_Trace),(∀ x∈l,x.In≠t.In)→passT t false l=insT (restT l t) t
 | [],_=>rfl
 | x::r,hn=>by
  have hne:=hn x (by simp)
  have hk:keepT t x=!decide (x.In <+: t.In):=by
   unfold keepT
   by_cases h:x.In <+: t.In
   ·rw [decide_eq_true h,Bool.not_true]
    refine decide_eq_false fun e=>?_
    rcases e with e | e
    ·exact e h
    ·exact hne (h.eq_of_length (by omega))
   ·rw [decide_eq_false h,decide_eq_true (.inl h)]
    rfl
  have hrr:∀ l:List T_api_Trace,(∀ x∈l,x.In≠t.In)→l.filter (keepT t)=restT l t:=fun l hl=>by
   unfold restT
   refine List.filter_congr fun y hy=>?_
   unfold keepT
   by_cases h:y.In <+: t.In
   ·rw [decide_eq_true h,Bool.not_true]
    refine decide_eq_false fun e=>?_
    rcases e with e | e
    ·exact e h
    ·exact hl y hy (h.eq_of_length (by omega))
   ·rw [decide_eq_false h,decide_eq_true (.inl h)]
    rfl
  have hr:∀ y∈r,y.In≠t.In:=fun y hy=>hn y (by simp [hy])
  unfold passT restT
  rw [List.filter_cons,hk]
  by_cases h:x.In <+: t.In
  ·have h1:¬ cmpW t.In x.In=-1:=fun e=>by
    have:=h.length_le
    unfold cmpW at e
    split at e
    ·omega
    ·split at e
     ·cases e
     ·have h2:=h.eq_of_length (by omega)
      exact hne h2
   rw [if_neg fun e=>h1 e.2,decide_eq_true h,decide_eq_false h1,Bool.not_true,if_neg Bool.false_ne_true,if_neg Bool.false_ne_true,Bool.or_false]
   exact passT_ins r hr
  ·rw [decide_eq_false h,Bool.not_false,if_pos rfl,if_pos rfl]
   unfold insT
   by_cases h1:cmpW t.In x.In=-1
   ·rw [if_pos ⟨rfl,h1⟩,if_pos h1,decide_eq_true h1,Bool.or_true,passT_true,hrr r hr]
    rfl
   ·rw [if_neg fun e=>h1 e.2,if_neg h1,decide_eq_false h1,Bool.or_false,passT_ins r hr]
    rfl
theorem keep_all {o:T_api_Obs} {t:T_api_Trace} (hv:ObsOk o) (h:insideO o.Traces t.In=true∨t.In=[]):o.Traces.filter (keepT t)=o.Traces:=by
 refine List.filter_eq_self.2 fun x hx=>decide_eq_true ?_
 refine Classical.byContradiction fun hn=>?_
 have h1:x.In <+: t.In:=Classical.byContradiction fun e=>hn (.inl e)
 have h2:¬ t.In.length=x.In.length:=fun e=>hn (.inr e)
 have hl:=h1.length_le
 rcases h with h | h
 ·obtain ⟨u,hu,hp⟩:=List.any_eq_true.1 h
  have hp:t.In <+: u.In:=of_decide_eq_true hp
  have hl2:=hp.length_le
  obtain ⟨i,hi,rfl⟩:=List.mem_iff_getElem.1 hx
  obtain ⟨j,hj,rfl⟩:=List.mem_iff_getElem.1 hu
  rcases Nat.lt_trichotomy i j with e | e | e
  ·exact (hv.apart i j _ _ e (get_at hi) (get_at hj)).1 (h1.trans hp)
  ·subst e
   omega
  ·have:=hv.asc j i _ _ e (get_at hj) (get_at hi)
   unfold cmpW at this
   split at this
   ·omega
   ·split at this
    ·cases this
    ·omega
 ·rw [h] at h2 hl
  simp at h2 hl
  exact h2 (by rw [hl];rfl)
theorem R16_add_eq {o:T_api_Obs} {t:T_api_Trace} (ho:SmTr o.Traces) (hv:ObsOk o) (ht:SmX t):R16_add o t=some ⟨o.Inputs,addL o.Traces t⟩:=by
 have hl:=ho.1
 unfold R16_add
 have key:=iter_post (step:=fun (s:Bool×Nat)=>R16_add.s2 o t s.1 s.2) (fun s=>s.2≤o.Traces.length∧s.1=(decide (t.In=[])||insideO (o.Traces.take s.2) t.In)) (fun s=>o.Traces.length-s.2) (fun r=>r=(decide (t.In=[])||insideO o.Traces t.In)) (fun ⟨b,i⟩ ⟨g1,g2⟩=>by
  simp only at g1 g2
  simp only [R16_add.s2]
  by_cases g4:i<o.Traces.length
  ·left
   have hx:=get_at g4
   have hxm:=List.getElem_mem g4
   have hst:insideO (o.Traces.take (i+1)) t.In=(insideO (o.Traces.take i) t.In||decide (t.In <+: o.Traces[i].In)):=by
    rw [take_step hx]
    unfold insideO
    rw [List.any_append]
    simp
   refine ⟨(decide (t.In=[])||insideO (o.Traces.take (i+1)) t.In,i+1),?_,⟨g4,rfl⟩,by simp only;omega⟩
   rw [dec_lt hx,cond_true,hst,← Bool.or_assoc,← g2]
   cases b with
   | true=>rfl
   | false =>
    rw [cond_false,idxn_at hx,R01_HasPrefix_eq _ _ (ho.2 _ hxm).1,obind]
    rfl
  ·right
   have e:i=o.Traces.length:=by omega
   subst e
   rw [List.take_length] at g2
   exact ⟨b,by rw [dec_end,cond_false],g2⟩) fuel (decide ((↑(List.length t.In):Int)=0),0) ⟨Nat.zero_le _,by
    simp only [List.take_zero,insideO,List.any_nil,Bool.or_false]
    exact decide_eq_decide.2 ⟨fun h=>List.eq_nil_of_length_eq_zero (by omega),fun h=>by rw [h];rfl⟩⟩ (by have:=fuel_big;simp only;omega)
 obtain ⟨d0,e,rfl⟩:=key
 rw [e,obind]
 generalize hd:(decide (t.In=[])||insideO o.Traces t.In)=d0
 have key2:=iter_post (step:=fun (s:List T_api_Trace×Bool×Nat)=>R16_add.s10 o t s.1 s.2.1 s.2.2) (fun s=>s.2.2≤o.Traces.length∧s.1.length≤2*s.2.2∧s.1++passT t s.2.1 (o.Traces.drop s.2.2)=passT t d0 o.Traces) (fun s=>o.Traces.length-s.2.2) (fun r=>r.1.length≤2400000∧r.1++passT t r.2 []=passT t d0 o.Traces) (fun ⟨y,b,i⟩ ⟨g1,g2,g3⟩=>by
  simp only at g1 g2 g3
  simp only [R16_add.s10]
  by_cases g4:i<o.Traces.length
  ·left
   have hx:=get_at g4
   have hxm:=List.getElem_mem g4
   rw [List.drop_eq_getElem_cons g4] at g3
   rw [dec_lt hx,cond_true,idxn_at hx]
   have hkeep:((R01_HasPrefix t.In o.Traces[i].In).bind fun c367=>cond (!c367) (some true) (some (decide ((↑(List.length t.In):Int)=(↑(List.length o.Traces[i].In):Int)))):Option Bool)=some (keepT t o.Traces[i]):=by
    unfold keepT
    rw [R01_HasPrefix_eq _ _ ht.1,obind]
    by_cases h:o.Traces[i].In <+: t.In
    ·rw [decide_eq_true h,Bool.not_true,cond_false]
     congr 1
     exact decide_eq_decide.2 ⟨fun e=>.inr (by omega),fun e=>by rcases e with e | e;exact absurd h e;omega⟩
    ·rw [decide_eq_false h,Bool.not_false,cond_true,decide_eq_true (.inl h)]
   have hk9:∀ (z:List T_api_Trace) (c:Bool),z.length≤2*i+1→R16_add.k9 t i o.Traces[i] z c=some (.inl (z++(if keepT t o.Traces[i]=true then [o.Traces[i]] else []),c,i+1)):=fun z c hz=>by
    unfold R16_add.k9
    rw [hkeep,obind]
    cases keepT t o.Traces[i] with
    | true=>rw [cond_true,R16_copied_eq (ho.2 _ hxm),obind,chk_pos (capT (by omega)),if_pos rfl]
    | false=>rw [cond_false,if_neg Bool.false_ne_true,List.append_nil]
   have hcmp:((cond (!b) ((R01_Compare t.In o.Traces[i].In).bind fun c352=>some (decide (c352<0))) (some false)):Option Bool)=some (decide (b=false∧cmpW t.In o.Traces[i].In=-1)):=by
    cases b with
    | true=>rfl
    | false =>
     have r1:=cmpW_range t.In o.Traces[i].In
     rw [Bool.not_false,cond_true,R01_Compare_eq _ _ ht.1,obind]
     congr 1
     exact decide_eq_decide.2 ⟨fun e=>⟨rfl,by omega⟩,fun e=>by have:=e.2;omega⟩
   rw [hcmp,obind]
   have hps:passT t b (o.Traces[i]::o.Traces.drop (i+1))=(if b=false∧cmpW t.In o.Traces[i].In=-1 then [t] else [])++((if keepT t o.Traces[i]=true then [o.Traces[i]] else [])++passT t (b||decide (cmpW t.In o.Traces[i].In=-1)) (o.Traces.drop (i+1))):=rfl
   rw [hps] at g3
   by_cases hc:b=false∧cmpW t.In o.Traces[i].In=-1
   ·rw [if_pos hc,hc.1,Bool.false_or,decide_eq_true hc.2] at g3
    refine ⟨(y++[t]++(if keepT t o.Traces[i]=true then [o.Traces[i]] else []),true,i+1),?_,⟨g4,?_,?_⟩,by simp only;omega⟩
    ·rw [decide_eq_true hc,cond_true,R16_copied_eq ht,obind,chk_pos (capT (by omega)),obind]
     exact hk9 _ _ (by rw [List.length_append,List.length_singleton];omega)
    ·simp only [List.length_append,List.length_singleton]
     split<;>simp<;>omega
    ·simp only
     rw [← g3]
     simp only [List.append_assoc]
   ·rw [if_neg hc,List.nil_append] at g3
    have hb:(b||decide (cmpW t.In o.Traces[i].In=-1))=b:=by
     cases b with
     | true=>rfl
     | false =>
      rw [Bool.false_or]
      exact decide_eq_false fun e=>hc ⟨rfl,e⟩
    rw [hb] at g3
    refine ⟨(y++(if keepT t o.Traces[i]=true then [o.Traces[i]] else []),b,i+1),?_,⟨g4,?_,?_⟩,by simp only;omega⟩
    ·rw [decide_eq_false hc,cond_false,obind]
     exact hk9 y b (by omega)
    ·simp only [List.length_append]
     split<;>simp<;>omega
    ·simp only
     rw [← g3]
     simp only [List.append_assoc]
  ·right
   have e:i=o.Traces.length:=by omega
   subst e
   rw [List.drop_length] at g3
   exact ⟨(y,b),by rw [dec_end,cond_false],by simp only;omega,g3⟩) fuel ([],d0,0) ⟨Nat.zero_le _,by simp,by simp⟩ (by have:=fuel_big;simp only;omega)
 obtain ⟨⟨y,b⟩,e2,k1,k2⟩:=key2
 simp only at k1 k2
 rw [e2,obind]
 have hfin:passT t d0 o.Traces=addL o.Traces t:=by
  unfold addL
  by_cases h:insideO o.Traces t.In=true∨t.In=[]
  ·have h0:d0=true:=by
    rw [← hd]
    rcases h with h | h
    ·rw [h,Bool.or_true]
    ·rw [decide_eq_true h,Bool.true_or]
   rw [h0,passT_true,if_pos h,keep_all hv h]
  ·have h1:insideO o.Traces t.In=false:=by
    cases hi:insideO o.Traces t.In with
    | true=>exact absurd (.inl hi) h
    | false=>rfl
   have h0:d0=false:=by
    rw [← hd,h1,decide_eq_false fun e=>h (.inr e)]
    rfl
   rw [h0,passT_ins _ fun x hx e=>h (.inl (List.any_eq_true.2 ⟨x,hx,decide_eq_true (e ▸ List.prefix_refl _)⟩)),if_neg h]
 rw [hfin] at k2
 simp only [R16_add.k11]
 cases b with
 | true =>
  rw [Bool.not_true,cond_false,obind,← k2]
  simp [passT]
 | false =>
  rw [Bool.not_false,cond_true,R16_copied_eq ht,obind,chk_pos (capT (by omega)),obind,← k2]
  simp [passT]
theorem R16_Add_eq {o:T_api_Obs} {t:T_api_Trace} (ho:SmTr o.Traces) (hv:ObsOk o) (ht:SmX t):R16_Add o t=some (addO o t):=by
 have hl:=ho.1
 unfold R16_Add addO
 rw [R16_Proper_eq _ _ ht.1 ht.2,obind]
 by_cases g1:propI t o.Inputs=0
 ·rw [decide_eq_false (by simpa using g1),cond_false,if_neg (by simpa using g1)]
  have hp:=propI_zero.1 g1
  have key:=iter_post (step:=fun i=>R16_Add.s2 o t i) (fun i=>i≤o.Traces.length∧∀ u∈o.Traces.take i,Agree u t) (fun i=>o.Traces.length-i) (fun r=>match r with | .inl ()=>¬ clashO o.Traces t | .inr x=>clashO o.Traces t∧x=(o,13)) (fun i ⟨g2,g3⟩=>by
   simp only [R16_Add.s2]
   by_cases g4:i<o.Traces.length
   ·have hx:=get_at g4
    have hxm:=List.getElem_mem g4
    obtain ⟨d,hd,hd2⟩:=R16_Differ_iff o.Traces[i] t (hv.prop _ hxm).1 hp (ho.2 _ hxm).1
    rw [dec_lt hx,cond_true,idxn_at hx,hd,obind]
    by_cases g5:0≤d
    ·exact .inr ⟨.inr (o,13),by rw [decide_eq_true g5,cond_true],⟨_,hxm,hd2.1 g5⟩,rfl⟩
    ·left
     have hA:Agree o.Traces[i] t:=Classical.byContradiction fun e=>g5 (hd2.2 e)
     refine ⟨i+1,by rw [decide_eq_false g5,cond_false],⟨g4,fun u hu=>?_⟩,by omega⟩
     rw [take_step hx] at hu
     rcases List.mem_append.1 hu with h | h
     ·exact g3 u h
     ·rw [List.mem_singleton.1 h]
      exact hA
   ·right
    have e:i=o.Traces.length:=by omega
    subst e
    rw [List.take_length] at g3
    exact ⟨.inl (),by rw [dec_end,cond_false],fun ⟨u,hu,h⟩=>h (g3 u hu)⟩) fuel 0 ⟨Nat.zero_le _,fun u hu=>by simp at hu⟩ (by have:=fuel_big;omega)
  obtain ⟨r,e,hq⟩:=key
  rw [e,obind]
  cases r with
  | inr x =>
   rw [if_pos hq.1,hq.2]
   rfl
  | inl u =>
   rw [if_neg hq]
   simp only [Sum.elim_inl]
   rw [R16_add_eq ho hv ht,obind]
   simp only
   by_cases g2:10000<(addL o.Traces t).length
   ·rw [decide_eq_true (by omega),cond_true,if_pos g2]
   ·rw [decide_eq_false (by omega),cond_false,if_neg g2]
 ·rw [decide_eq_true g1,cond_true,if_pos g1]
theorem R16_Answer_eq' {o:T_api_Obs} {w:List Int} (ho:SmTr o.Traces) (hv:ObsOk o):R16_Answer o w=some (tw (ansO o w)):=by
 refine R16_Answer_eq ⟨by have:=hv.num;omega,fun t ht=>?_⟩ hv
 have hP:=(hv.prop t ht).1
 have h1:=hP.1
 unfold checkI at h1
 have:=(ho.2 t ht).2
 unfold SmW at this
 refine ⟨?_,this⟩
 split at h1
 ·split at h1
  ·cases h1
  ·omega
 ·cases h1
theorem observe_Answer_eq {o:T_api_Obs} {w:List Int} (ho:SmTr o.Traces) (hv:ObsOk o):observe_Answer o w=some (tw (ansO o w)):=by
 have hl:=ho.1
 unfold observe_Answer ansO
 by_cases h0:w=[]
 ·subst h0
  rfl
 ·have hwl:w.length≠0:=fun h=>h0 (List.eq_nil_of_length_eq_zero h)
  rw [if_neg h0,decide_eq_false (by omega),cond_false,tindex_eq (p:=fun u=>decide (w <+: u.In)) (by omega) fun x hx=>by
   unfold observe_Answer_1
   rw [word_HasPrefix_eq _ _ (ho.2 x hx).1,obind],obind,find_idx]
  by_cases h:(o.Traces.any fun u=>decide (w <+: u.In))=true
  ·rw [if_pos h,if_pos h,decide_eq_false (by omega),cond_false]
   have hi:o.Traces.findIdx (fun u=>decide (w <+: u.In))<o.Traces.length:=List.findIdx_lt_length_of_exists (by simpa using List.any_eq_true.1 h)
   have hx:=get_at hi
   have hpx:decide (w <+: (o.Traces[o.Traces.findIdx fun u=>decide (w <+: u.In)]).In)=true:=List.findIdx_getElem (p:=fun (u:T_api_Trace)=>decide (w <+: u.In))
   have hpx:=of_decide_eq_true hpx
   have hm:=List.getElem_mem hi
   have hP:=(hv.prop _ hm).1
   have hS:=ho.2 _ hm
   have hle:=hpx.length_le
   have hlo:=hP.2.1
   have hso:=hS.2
   unfold SmW at hso
   rw [idx_at rfl hx,hx]
   generalize o.Traces[o.Traces.findIdx fun u=>decide (w <+: u.In)]=u at hpx hP hS hle hlo hso
   rw [show min (↑w.length:Int) ↑u.Out.length=↑w.length by omega,chk_pos (by omega),Int.toNat_natCast,libclone_word (by unfold SmW;rw [List.length_take];omega),obind]
   rfl
  ·rw [if_neg h,if_neg h,decide_eq_true (by decide),cond_true]
   rfl
end Go.Proofs.YtajipjnfegmlcaaGreatDoor.Sym

/-
 Rows, missing queries and maximal words: the program's are the document's. Plain laws.
-/
namespace Go.Proofs.YtajipjnfegmlcaaGreatDoor.Sym
set_option maxRecDepth 100000
theorem R02_Maximal_eq {l:List (List Int)} (hl:SmL l):R02_Maximal l=some (maxR l):=by
 have hA:=sortW_asc l
 have hs:=sml_sort hl
 have hs1:(sortW l).length≤2000000:=hs.1
 unfold R02_Maximal maxR
 rw [R02_Sorted_eq hl,obind]
 have inner:∀ (i:Nat) (x:List Int),(sortW l)[i]?=some x→iter (fun (s:Bool×Nat)=>R02_Maximal.s13 (sortW l) i s.1 s.2) fuel (true,i+1)=some (topB (sortW l) x):=by
  intro i x hx
  have hi:=(List.getElem?_eq_some_iff.1 hx).1
  refine iter_eq (fun s=>i+1≤s.2∧s.2≤(sortW l).length∧s.1=tailB x (((sortW l).take s.2).drop (i+1))) (fun s=>(sortW l).length-s.2) (fun s ⟨g1,g2,g3⟩=>?_) ⟨Nat.le_refl _,by simp only;omega,by simp [tailB]⟩ (by have:=fuel_big;simp only;omega)
  obtain ⟨b,k⟩:=s
  simp only at g1 g2 g3
  simp only [R02_Maximal.s13]
  by_cases g4:k<(sortW l).length
  ·left
   have hy:=get_at g4
   have hst:=tailB_step (x:=x) g1 hy
   rw [← g3] at hst
   refine ⟨(tailB x (((sortW l).take (k+1)).drop (i+1)),k+1),?_,⟨by simp only;omega,by simp only;omega,rfl⟩,by simp only;omega⟩
   rw [dec_lt hy,cond_true,hst]
   cases b with
   | false=>rfl
   | true =>
    rw [cond_true,idxn_at hy,idxn_at hx,Bool.true_and]
    by_cases g5:(sortW l)[k].length=x.length
    ·rw [decide_eq_true (by omega),cond_true,decide_eq_true (Or.inl g5)]
    ·rw [decide_eq_false (by omega),cond_false,idxn_at hy,idxn_at hx,R01_HasPrefix_eq _ _ (hs.2 _ (List.getElem_mem _)),obind]
     by_cases g6:x <+: (sortW l)[k]
     ·rw [decide_eq_true g6,decide_eq_false (fun h=>h.elim g5 fun h=>h g6)];rfl
     ·rw [decide_eq_false g6,decide_eq_true (Or.inr g6)];rfl
  ·right
   have e:k=(sortW l).length:=by omega
   subst e
   rw [decide_eq_false (by omega),cond_false,g3,List.take_length,top_eq hA hx]
 have key:=iter_eq (step:=fun (s:List (List Int)×Nat)=>R02_Maximal.s14 (sortW l) s.1 s.2) (r:=(sortW l).filter (topB (sortW l))) (fun s=>s.2≤(sortW l).length∧s.1=((sortW l).take s.2).filter (topB (sortW l))) (fun s=>(sortW l).length-s.2) (fun s ⟨g1,g2⟩=>by
  obtain ⟨y,i⟩:=s
  simp only at g1 g2
  subst g2
  simp only [R02_Maximal.s14]
  by_cases g4:i<(sortW l).length
  ·left
   have hx:=get_at g4
   have hst:=filter_step (p:=topB (sortW l)) hx
   have hfl:=List.length_filter_le (topB (sortW l)) ((sortW l).take i)
   rw [List.length_take] at hfl
   refine ⟨(((sortW l).take (i+1)).filter (topB (sortW l)),i+1),?_,⟨by simp only;omega,rfl⟩,by simp only;omega⟩
   rw [dec_lt hx,cond_true,inner i _ hx,obind,hst]
   cases topB (sortW l) (sortW l)[i] with
   | true =>
    rw [cond_true,idxn_at hx,chk_pos (by unfold capOk;omega)]
    rfl
   | false=>simp
  ·right
   have e:i=(sortW l).length:=by omega
   subst e
   rw [decide_eq_false (by omega),cond_false,List.take_length]) (n:=fuel) (s:=([],0)) ⟨Nat.zero_le _,by simp⟩ (by have:=fuel_big;simp only;omega)
 rw [key,obind]
theorem wordset_Maximal_eq {l:List (List Int)} (hl:SmL l):wordset_Maximal l=some (maxR l):=by
 have hl1:l.length≤2000000:=hl.1
 obtain ⟨L,e1,h1,h2,h3⟩:=ordered_eq lexI_total (f:=fun u0 u1=>word_Lex u0 u1) hl fun a ha b hb=>word_Lex_eq a b (by have:SmW a:=hl.2 a ha;unfold SmW at this;omega)
 have hLs:∀ x∈L,SmW x:=fun x hx=>hl.2 x ((h2 x).1 hx)
 unfold wordset_Maximal
 rw [e1,obind]
 have key:=iter_eq (step:=fun (s:List (List Int)×Nat)=>wordset_Maximal.s2 L s.1 s.2) (r:=keepM L) (fun s=>s.2≤L.length∧s.1.length≤s.2∧keepM L=s.1++keepM (L.drop s.2)) (fun s=>L.length-s.2) (fun s ⟨g1,g2,g3⟩=>by
  obtain ⟨y,i⟩:=s
  simp only at g1 g2 g3
  simp only [wordset_Maximal.s2]
  by_cases g4:i<L.length
  ·left
   have hx:=get_at g4
   rw [dec_lt hx,cond_true,idxn_at hx]
   by_cases g5:i+1=L.length
   ·rw [keepM_end hx g5] at g3
    refine ⟨(y++[L[i]],i+1),?_,⟨by simp only;omega,by simp;omega,by simp only;rw [g3];simp⟩,by simp only;omega⟩
    rw [decide_eq_true (by omega),cond_true,obind,cond_true,chk_pos (by unfold capOk;omega)]
   ·have hy:=get_at (l:=L) (i:=i+1) (by omega)
    rw [keepM_step hx hy] at g3
    rw [decide_eq_false (by omega),cond_false,idxn_at hy,word_HasPrefix_eq _ _ (hLs _ (List.getElem_mem _)),obind,obind]
    by_cases g6:L[i] <+: (L[i+1]'(by omega))
    ·rw [if_pos g6] at g3
     refine ⟨(y,i+1),?_,⟨by simp only;omega,by simp only;omega,g3⟩,by simp only;omega⟩
     rw [decide_eq_true g6]
     rfl
    ·rw [if_neg g6] at g3
     refine ⟨(y++[L[i]],i+1),?_,⟨by simp only;omega,by simp;omega,by simp only;rw [g3];simp⟩,by simp only;omega⟩
     rw [decide_eq_false g6,Bool.not_false,cond_true,chk_pos (by unfold capOk;omega)]
  ·right
   have e:i=L.length:=by omega
   subst e
   rw [List.drop_length] at g3
   rw [decide_eq_false (by omega),cond_false,g3]
   simp [keepM]) (n:=fuel) (s:=([],0)) ⟨Nat.zero_le _,by simp,by simp⟩ (by have:=fuel_big;simp only;omega)
 have hk:=keepM_sub L
 have hkl:SmL (keepM L):=⟨by have:=hk.length_le;omega,fun x hx=>hLs x (hk.mem hx)⟩
 rw [key,obind,wordset_Sorted_eq hkl,obind,sortW_keepM h1 h2]
end Go.Proofs.YtajipjnfegmlcaaGreatDoor.Sym

/-
 Machines: validity and runs. Plain laws.
-/
namespace Go.Proofs.YtajipjnfegmlcaaGreatDoor.Sym
set_option maxRecDepth 100000
structure MacOk (m:T_api_Mealy):Prop where
 i1:1≤m.Inputs
 i2:m.Inputs≤64
 n1:0<m.Next.length
 n2:m.Next.length≤128
 st:0≤m.Start∧m.Start<(↑m.Next.length:Int)
 ol:m.Out.length=m.Next.length
 row:∀ s,s<m.Next.length→∃ x y,m.Next[s]?=some x∧m.Out[s]?=some y∧(↑x.length:Int)=m.Inputs∧(↑y.length:Int)=m.Inputs∧(∀ u∈x,0≤u∧u<(↑m.Next.length:Int))∧∀ v∈y,0≤v∧v≤1048576
def nx (m:T_api_Mealy) (s a:Nat):Nat:=((((m.Next[s]?).getD [])[a]?).getD 0).toNat
def ot (m:T_api_Mealy) (s a:Nat):Int:=(((m.Out[s]?).getD [])[a]?).getD 0
section
variable {m:T_api_Mealy}
theorem MacOk.at (H:MacOk m) {s a:Nat} (hs:s<m.Next.length) (ha:a<m.Inputs.toNat):nx m s a<m.Next.length∧0≤ot m s a∧ot m s a≤1048576∧∃ x y,m.Next[s]?=some x∧m.Out[s]?=some y∧x[a]?=some (↑(nx m s a):Int)∧y[a]?=some (ot m s a):=by
 obtain ⟨x,y,h1,h2,h3,h4,h5,h6⟩:=H.row s hs
 have hx:=get_at (l:=x) (i:=a) (by omega)
 have hy:=get_at (l:=y) (i:=a) (by omega)
 have e1:nx m s a=(x[a]'(by omega)).toNat:=by
  unfold nx
  rw [h1,Option.getD_some,hx,Option.getD_some]
 have e2:ot m s a=y[a]'(by omega):=by
  unfold ot
  rw [h2,Option.getD_some,hy,Option.getD_some]
 have g1:=h5 _ (List.getElem_mem (by omega:a<x.length))
 have g2:=h6 _ (List.getElem_mem (by omega:a<y.length))
 refine ⟨by rw [e1];omega,by rw [e2];exact g2.1,by rw [e2];exact g2.2,x,y,h1,h2,?_,by rw [e2];exact hy⟩
 rw [hx,e1]
 congr 1
 omega
def outs (m:T_api_Mealy):Nat→List Int→List Int
 | _,[]=>[]
 | s,a::w=>ot m s a.toNat::outs m (nx m s a.toNat) w
def WOk (n:Int) (w:List Int):Prop:=∀ a∈w,0≤a∧a<n
theorem WOk.tail {n:Int} {a:Int} {w:List Int} (h:WOk n (a::w)):WOk n w:=fun x hx=>h x (List.mem_cons_of_mem _ hx)
theorem WOk.head {n:Int} {a:Int} {w:List Int} (h:WOk n (a::w)):0≤a∧a<n:=h a (by simp)
theorem WOk.take {n:Int} {w:List Int} (h:WOk n w) (k:Nat):WOk n (w.take k):=fun x hx=>h x (List.mem_of_mem_take hx)
theorem WOk.append {n:Int} {w v:List Int} (h:WOk n w) (g:WOk n v):WOk n (w++v):=fun x hx=>(List.mem_append.1 hx).elim (h x) (g x)
def RowRng (n:Nat) (u v:Int):Prop:=(0≤u∧u<(↑n:Int))∧0≤v∧v≤1048576
theorem R06_row_tot (h1:m.Inputs≤64) {s:Nat} (hs:s<m.Next.length) (ho:m.Out.length=m.Next.length):∃ e,R06_row m (↑s:Int)=some e∧(e=0→∃ x y,m.Next[s]?=some x∧m.Out[s]?=some y∧(↑x.length:Int)=m.Inputs∧(↑y.length:Int)=m.Inputs∧(∀ u∈x,0≤u∧u<(↑m.Next.length:Int))∧∀ v∈y,0≤v∧v≤1048576):=by
 obtain ⟨x,hx⟩:∃ x,m.Next[s]?=some x:=⟨_,get_at hs⟩
 obtain ⟨y,hy⟩:∃ y,m.Out[s]?=some y:=⟨_,get_at (l:=m.Out) (i:=s) (by omega)⟩
 unfold R06_row
 rw [idx_at rfl hx]
 by_cases g1:(↑x.length:Int)=m.Inputs
 ·by_cases g2:(↑y.length:Int)=m.Inputs
  ·rw [decide_eq_false (fun h=>h g1),cond_false,idx_at rfl hy,decide_eq_false (fun h=>h g2),obind,cond_false]
   obtain ⟨r,hr,hq⟩:=iter_post (step:=fun a=>R06_row.s2 m (↑s:Int) a) (fun a=>a≤x.length∧∀ b u v,b<a→x[b]?=some u→y[b]?=some v→RowRng m.Next.length u v) (fun a=>x.length-a) (fun r=>r=.inr 2∨(r=.inl ()∧∀ b u v,b<x.length→x[b]?=some u→y[b]?=some v→RowRng m.Next.length u v)) (fun a ⟨q1,q2⟩=>by
    simp only [R06_row.s2]
    by_cases q3:a<x.length
    ·obtain ⟨u,ha⟩:∃ u,x[a]?=some u:=⟨_,get_at q3⟩
     obtain ⟨v,hb⟩:∃ v,y[a]?=some v:=⟨_,get_at (l:=y) (i:=a) (by omega)⟩
     rw [decide_eq_true (by omega),cond_true,idx_at rfl hx,idxn_at ha]
     by_cases z1:u<0
     ·right
      exact ⟨.inr 2,by rw [decide_eq_true z1];rfl,Or.inl rfl⟩
     rw [decide_eq_false z1,cond_false,idx_at rfl hx,idxn_at ha]
     by_cases z2:(↑m.Next.length:Int)≤u
     ·right
      exact ⟨.inr 2,by rw [decide_eq_true z2];rfl,Or.inl rfl⟩
     rw [decide_eq_false z2,cond_false,idx_at rfl hy,idxn_at hb]
     by_cases z3:v<0
     ·right
      exact ⟨.inr 2,by rw [decide_eq_true z3];rfl,Or.inl rfl⟩
     rw [decide_eq_false z3,cond_false,idx_at rfl hy,idxn_at hb]
     by_cases z4:1048576<v
     ·right
      exact ⟨.inr 2,by rw [decide_eq_true z4];rfl,Or.inl rfl⟩
     left
     refine ⟨a+1,by rw [decide_eq_false z4,obind,cond_false,chk_pos (by unfold inR;omega)],⟨q3,fun b u' v' hb' hu hv=>?_⟩,by omega⟩
     rcases Nat.lt_or_ge b a with h | h
     ·exact q2 b u' v' h hu hv
     ·have e:b=a:=by omega
      subst e
      rw [ha] at hu
      rw [hb] at hv
      injection hu with hu
      injection hv with hv
      subst hu
      subst hv
      exact ⟨⟨by omega,by omega⟩,by omega,by omega⟩
    ·right
     have e:a=x.length:=by omega
     subst e
     exact ⟨.inl (),by rw [decide_eq_false (by omega),cond_false],Or.inr ⟨rfl,q2⟩⟩) fuel 0 ⟨Nat.zero_le _,fun b _ _ h=>absurd h (Nat.not_lt_zero _)⟩ (by have:=fuel_big;omega)
   rw [hr,obind]
   rcases hq with rfl | ⟨rfl,hq⟩
   ·exact ⟨2,rfl,fun h=>by cases h⟩
   ·refine ⟨0,rfl,fun _=>⟨x,y,hx,hy,g1,g2,fun u hu=>?_,fun v hv=>?_⟩⟩
    ·obtain ⟨b,hb,rfl⟩:=List.mem_iff_getElem.1 hu
     exact (hq b _ _ hb (get_at hb) (get_at (l:=y) (by omega))).1
    ·obtain ⟨b,hb,rfl⟩:=List.mem_iff_getElem.1 hv
     exact (hq b _ _ (by omega) (get_at (l:=x) (by omega)) (get_at hb)).2
  ·exact ⟨1,by rw [decide_eq_false (fun h=>h g1),cond_false,idx_at rfl hy,decide_eq_true g2];rfl,fun h=>by cases h⟩
 ·exact ⟨1,by rw [decide_eq_true g1];rfl,fun h=>by cases h⟩
theorem R06_Valid_tot (m:T_api_Mealy):∃ e,R06_Valid m=some e∧(e=0→MacOk m):=by
 unfold R06_Valid
 by_cases c1:m.Inputs<1
 ·exact ⟨2,by rw [decide_eq_true c1];rfl,fun h=>by cases h⟩
 rw [decide_eq_false c1,cond_false]
 by_cases c2:64<m.Inputs
 ·exact ⟨2,by rw [decide_eq_true c2];rfl,fun h=>by cases h⟩
 rw [decide_eq_false c2,obind,cond_false]
 by_cases c3:(↑m.Next.length:Int)=0
 ·exact ⟨19,by rw [decide_eq_true c3];rfl,fun h=>by cases h⟩
 rw [decide_eq_false c3,cond_false]
 by_cases c4:128<(↑m.Next.length:Int)
 ·exact ⟨11,by rw [decide_eq_true c4];rfl,fun h=>by cases h⟩
 rw [decide_eq_false c4,cond_false]
 by_cases c5:m.Start<0
 ·exact ⟨2,by rw [decide_eq_true c5];rfl,fun h=>by cases h⟩
 rw [decide_eq_false c5,cond_false]
 by_cases c6:(↑m.Next.length:Int)≤m.Start
 ·exact ⟨2,by rw [decide_eq_true c6];rfl,fun h=>by cases h⟩
 rw [decide_eq_false c6,obind,cond_false]
 by_cases c7:(↑m.Out.length:Int)=(↑m.Next.length:Int)
 ·rw [decide_eq_false (fun h=>h c7),cond_false]
  have ho:m.Out.length=m.Next.length:=by omega
  obtain ⟨r,hr,hq⟩:=iter_post (step:=fun s=>R06_Valid.s2 m s) (fun a=>a≤m.Next.length∧∀ s,s<a→∃ x y,m.Next[s]?=some x∧m.Out[s]?=some y∧(↑x.length:Int)=m.Inputs∧(↑y.length:Int)=m.Inputs∧(∀ u∈x,0≤u∧u<(↑m.Next.length:Int))∧∀ v∈y,0≤v∧v≤1048576) (fun a=>m.Next.length-a) (fun r=>(∃ e,r=.inr e∧e≠0)∨(r=.inl ()∧∀ s,s<m.Next.length→∃ x y,m.Next[s]?=some x∧m.Out[s]?=some y∧(↑x.length:Int)=m.Inputs∧(↑y.length:Int)=m.Inputs∧(∀ u∈x,0≤u∧u<(↑m.Next.length:Int))∧∀ v∈y,0≤v∧v≤1048576)) (fun a ⟨q1,q2⟩=>by
   simp only [R06_Valid.s2]
   by_cases q3:a<m.Next.length
   ·obtain ⟨e,he,hz⟩:=R06_row_tot (m:=m) (by omega) q3 ho
    rw [decide_eq_true (by omega),cond_true,he,obind]
    by_cases z:e=0
    ·left
     refine ⟨a+1,by rw [decide_eq_false (fun h=>h z),cond_false],⟨q3,fun s hs=>?_⟩,by omega⟩
     rcases Nat.lt_or_ge s a with h | h
     ·exact q2 s h
     ·have e2:s=a:=by omega
      subst e2
      exact hz z
    ·right
     exact ⟨.inr e,by rw [decide_eq_true z,cond_true],Or.inl ⟨e,rfl,z⟩⟩
   ·right
    have e:a=m.Next.length:=by omega
    subst e
    exact ⟨.inl (),by rw [decide_eq_false (by omega),cond_false],Or.inr ⟨rfl,q2⟩⟩) fuel 0 ⟨Nat.zero_le _,fun s h=>absurd h (Nat.not_lt_zero _)⟩ (by have:=fuel_big;omega)
  rw [hr,obind]
  rcases hq with ⟨e,rfl,hz⟩ | ⟨rfl,hq⟩
  ·exact ⟨e,rfl,fun h=>absurd h hz⟩
  ·exact ⟨0,rfl,fun _=>⟨by omega,by omega,by omega,by omega,⟨by omega,by omega⟩,ho,hq⟩⟩
 ·exact ⟨1,by rw [decide_eq_true c7];rfl,fun h=>by cases h⟩
theorem macOk_of (h:R06_Valid m=some 0):MacOk m:=by
 obtain ⟨e,he,hz⟩:=R06_Valid_tot m
 rw [h] at he
 injection he with he
 exact hz he.symm
end
end Go.Proofs.YtajipjnfegmlcaaGreatDoor.Sym

/-
 Devices: what the program's and the document's Query come to. Plain laws.
-/
namespace Go.Proofs.YtajipjnfegmlcaaGreatDoor.Sym
set_option maxRecDepth 100000
theorem mealy_Valid_ok {m:T_api_Mealy} (H:MacOk m):mealy_Valid m=some 0:=by
 have i1:=H.i1
 have i2:=H.i2
 have n1:=H.n1
 have n2:=H.n2
 have st:=H.st
 have ol:=H.ol
 unfold mealy_Valid
 rw [decide_eq_false (by omega),cond_false,decide_eq_false (by omega),obind,cond_false,decide_eq_false (by omega),cond_false,decide_eq_false (by omega),cond_false,decide_eq_false (by omega),cond_false,decide_eq_false (by omega),obind,cond_false,decide_eq_false (by omega),cond_false]
 have inner:∀ s,s<m.Next.length→iter (fun (a:Nat)=>mealy_Valid.s13 m s a) fuel 0=some (.inl ()):=fun s hs =>
  iter_eq (fun a=>a≤m.Inputs.toNat) (fun a=>m.Inputs.toNat-a) (fun a ha=>by
   simp only [mealy_Valid.s13]
   by_cases g:a<m.Inputs.toNat
   ·left
    obtain ⟨h1,h2,h3,x,y,hx,hy,hxa,hya⟩:=H.at hs g
    refine ⟨a+1,?_,g,by omega⟩
    rw [decide_eq_true (by omega),cond_true,idxn_at hx,idxn_at hxa,idxn_at hy,idxn_at hya,decide_eq_false (by omega),cond_false,decide_eq_false (by omega),cond_false,decide_eq_false (by omega),cond_false,decide_eq_false (by omega),obind,cond_false,chk_pos (by unfold inR;omega)]
   ·right
    rw [decide_eq_false (by omega),cond_false]) (Nat.zero_le _) (by have:=fuel_big;omega)
 have outer:iter (fun (s:Nat)=>mealy_Valid.s14 m s) fuel 0=some (.inl ()) :=
  iter_eq (fun s=>s≤m.Next.length) (fun s=>m.Next.length-s) (fun s hs=>by
   simp only [mealy_Valid.s14]
   by_cases g:s<m.Next.length
   ·left
    obtain ⟨x,y,hx,hy,hl1,hl2,_,_⟩:=H.row s g
    refine ⟨s+1,?_,g,by omega⟩
    rw [decide_eq_true (by omega),cond_true,idxn_at hx,decide_eq_false (by omega),cond_false,idxn_at hy,decide_eq_false (by omega),obind,cond_false,inner s g,obind]
    rfl
   ·right
    rw [decide_eq_false (by omega),cond_false]) (Nat.zero_le _) (by have:=fuel_big;omega)
 rw [outer,obind]
 rfl
abbrev costOk (l:T_api_Latency):Prop:=(∀ c∈l.Step,0≤c∧c≤1048576)∧0≤l.Reset∧l.Reset≤1048576
abbrev cntOk (n:Int):Prop:=0≤n∧n≤1125899906842624
abbrev faultOk (f:T_api_Faults):Prop:=(0≤f.Lost∧f.Lost≤10000)∧(0≤f.Wrong∧f.Wrong≤10000)∧(0≤f.Crash∧f.Crash≤10000)∧f.Lost+f.Wrong+f.Crash≤10000
theorem device_outside_eq (n m:Int):device_outside n m=some (decide (n<0∨m<n)):=by
 unfold device_outside
 by_cases h1:n<0<;>by_cases h2:m<n<;>simp [h1,h2]
theorem counted_eq (u:T_device_unit):device_unit_counted u=some (decide (cntOk u.Device.Steps∧cntOk u.Device.Resets∧cntOk u.Device.Time)):=by
 unfold device_unit_counted
 simp only [device_outside_eq,obind]
 by_cases h1:u.Device.Steps<0∨1125899906842624<u.Device.Steps
 ·rw [decide_eq_true h1,decide_eq_false (show ¬ (cntOk u.Device.Steps∧cntOk u.Device.Resets∧cntOk u.Device.Time) by omega)];rfl
 ·rw [decide_eq_false h1]
  by_cases h2:u.Device.Resets<0∨1125899906842624<u.Device.Resets
  ·rw [decide_eq_true h2,decide_eq_false (show ¬ (cntOk u.Device.Steps∧cntOk u.Device.Resets∧cntOk u.Device.Time) by omega)];rfl
  ·rw [decide_eq_false h2]
   by_cases h3:u.Device.Time<0∨1125899906842624<u.Device.Time
   ·rw [decide_eq_true h3,decide_eq_false (show ¬ (cntOk u.Device.Steps∧cntOk u.Device.Resets∧cntOk u.Device.Time) by omega)];rfl
   ·rw [decide_eq_false h3,decide_eq_true (by omega)];rfl
theorem R19_counter_eq (n:Int):R19_counter n=some (decide (cntOk n)):=by
 unfold R19_counter
 by_cases h1:0≤n<;>by_cases h2:n≤1125899906842624<;>simp [h1,h2]
theorem R19_rate_eq (n:Int):R19_rate n=some (decide (0≤n∧n≤10000)):=by
 unfold R19_rate
 by_cases h1:0≤n<;>by_cases h2:n≤10000<;>simp [h1,h2]
theorem R19_costs_eq {l:T_api_Latency} (hl:l.Step.length≤100000000):R19_costs l=some (decide (costOk l)):=by
 unfold R19_costs
 have key:=iter_scan (step:=fun s=>R19_costs.s2 l s) (l:=l.Step) (fun _ y=>if decide (0≤y∧y≤1048576)=true then none else some false) (fun i y hy=>by
  simp only [R19_costs.s2]
  rw [dec_lt hy,cond_true,idxn_at hy,idxn_at hy]
  by_cases a1:y<0
  ·rw [decide_eq_true a1,cond_true,obind,cond_true,decide_eq_false (show ¬ (0≤y∧y≤1048576) by omega)];rfl
  ·by_cases a2:1048576<y
   ·rw [decide_eq_false a1,cond_false,decide_eq_true a2,obind,cond_true,decide_eq_false (show ¬ (0≤y∧y≤1048576) by omega)];rfl
   ·rw [decide_eq_false a1,cond_false,decide_eq_false a2,obind,cond_false,decide_eq_true (show (0≤y∧y≤1048576) by omega)];rfl) (by
  simp only [R19_costs.s2]
  rw [dec_end]
  rfl) (by omega)
 rw [key,scan_all (p:=fun y=>decide (0≤y∧y≤1048576)),obind]
 by_cases h:(l.Step.all fun y=>decide (0≤y∧y≤1048576))=true
 ·rw [if_pos h]
  simp only [Sum.elim_inl]
  have h':∀ c∈l.Step,0≤c∧c≤1048576:=fun c hc=>of_decide_eq_true (List.all_eq_true.1 h c hc)
  by_cases h1:0≤l.Reset<;>by_cases h2:l.Reset≤1048576
  ·rw [decide_eq_true h1,cond_true,decide_eq_true h2,obind,decide_eq_true ⟨h',h1,h2⟩]
  ·rw [decide_eq_true h1,cond_true,decide_eq_false h2,obind,decide_eq_false fun e=>h2 e.2.2]
  ·rw [decide_eq_false h1,cond_false,obind,decide_eq_false fun e=>h1 e.2.1]
  ·rw [decide_eq_false h1,cond_false,obind,decide_eq_false fun e=>h1 e.2.1]
 ·rw [if_neg h]
  simp only [Sum.elim_inr]
  rw [decide_eq_false fun e=>h (List.all_eq_true.2 fun y hy=>decide_eq_true (e.1 y hy))]
theorem device_costs_ok {l:T_api_Latency} (hl:l.Step.length≤100000000) (h:costOk l):device_costs l=some 0:=by
 unfold device_costs device_costs_1
 rw [device_outside_eq,obind,obind,decide_eq_false (by have:=h.2;omega),cond_false,cindex_eq (p:=fun n=>decide (n<0∨1048576<n)) (by omega) fun x _=>by rw [device_outside_eq,obind],obind]
 have:(l.Step.any fun n=>decide (n<0∨1048576<n))=false:=List.any_eq_false.2 fun x hx=>by
  have:=h.1 x hx
  simp only [decide_eq_true_eq]
  omega
 rw [this,obind,cond_false]
structure DevOk (d:T_api_Device):Prop where
 v6:R06_Valid d.M=some 0
 st:0≤d.State∧d.State<(↑d.M.Next.length:Int)
 ll:(↑d.Latency.Step.length:Int)=d.M.Inputs
 lc:costOk d.Latency
 fl:faultOk d.Faults
 c1:cntOk d.Steps
 c2:cntOk d.Resets
 c3:cntOk d.Time
theorem DevOk.mac {d:T_api_Device} (H:DevOk d):MacOk d.M:=macOk_of H.v6
theorem DevOk.lat {d:T_api_Device} (H:DevOk d):d.Latency.Step.length≤64:=by
 have:=H.ll
 have:=H.mac.i2
 omega
theorem R19_Valid_tot (d:T_api_Device) (hl:d.Latency.Step.length≤100000000):∃ e,R19_Valid d=some e∧(e=0→DevOk d):=by
 obtain ⟨e6,h6,h6z⟩:=R06_Valid_tot d.M
 unfold R19_Valid
 rw [h6,obind]
 by_cases g1:e6=0
 ·have g1':=g1
  subst g1
  rw [decide_eq_false (by decide),cond_false]
  by_cases g2:d.State<0
  ·exact ⟨2,by rw [decide_eq_true g2];rfl,fun h=>by cases h⟩
  by_cases g3:(↑d.M.Next.length:Int)≤d.State
  ·exact ⟨2,by rw [decide_eq_false g2,cond_false,decide_eq_true g3];rfl,fun h=>by cases h⟩
  rw [decide_eq_false g2,cond_false,decide_eq_false g3,obind,cond_false]
  unfold R19_Fits
  by_cases g4:(↑d.Latency.Step.length:Int)=d.M.Inputs
  ·rw [decide_eq_false (fun h=>h g4),cond_false,R19_costs_eq hl,obind]
   by_cases g5:costOk d.Latency
   ·rw [decide_eq_true g5,Bool.not_true,cond_false,obind,decide_eq_false (by decide),cond_false]
    simp only [R19_rate_eq,obind]
    by_cases f1:0≤d.Faults.Lost∧d.Faults.Lost≤10000
    ·rw [decide_eq_true f1,Bool.not_true,cond_false]
     by_cases f2:0≤d.Faults.Wrong∧d.Faults.Wrong≤10000
     ·rw [decide_eq_true f2,Bool.not_true,cond_false]
      by_cases f3:0≤d.Faults.Crash∧d.Faults.Crash≤10000
      ·rw [decide_eq_true f3,Bool.not_true,cond_false,chk_pos (by unfold inR;omega),chk_pos (by unfold inR;omega),obind]
       by_cases f4:10000<d.Faults.Lost+d.Faults.Wrong+d.Faults.Crash
       ·exact ⟨2,by rw [decide_eq_true f4];rfl,fun h=>by cases h⟩
       rw [decide_eq_false f4,cond_false]
       simp only [R19_counter_eq,obind]
       by_cases k1:cntOk d.Steps
       ·rw [decide_eq_true k1,Bool.not_true,cond_false]
        by_cases k2:cntOk d.Resets
        ·rw [decide_eq_true k2,Bool.not_true,cond_false]
         by_cases k3:cntOk d.Time
         ·exact ⟨0,by rw [decide_eq_true k3];rfl,fun _=>⟨h6,by omega,g4,g5,⟨f1,f2,f3,by omega⟩,k1,k2,k3⟩⟩
         ·exact ⟨2,by rw [decide_eq_false k3];rfl,fun h=>by cases h⟩
        ·exact ⟨2,by rw [decide_eq_false k2];rfl,fun h=>by cases h⟩
       ·exact ⟨2,by rw [decide_eq_false k1];rfl,fun h=>by cases h⟩
      ·exact ⟨2,by rw [decide_eq_false f3];rfl,fun h=>by cases h⟩
     ·exact ⟨2,by rw [decide_eq_false f2];rfl,fun h=>by cases h⟩
    ·exact ⟨2,by rw [decide_eq_false f1];rfl,fun h=>by cases h⟩
   ·exact ⟨2,by rw [decide_eq_false g5];rfl,fun h=>by cases h⟩
  ·exact ⟨1,by rw [decide_eq_true g4];rfl,fun h=>by cases h⟩
 ·exact ⟨e6,by rw [decide_eq_true g1,cond_true,obind],fun h=>absurd h g1⟩
theorem R19_Valid_ok {d:T_api_Device} (H:DevOk d):R19_Valid d=some 0:=by
 have hl:=H.lat
 have st:=H.st
 obtain ⟨f1,f2,f3,f4⟩:=H.fl
 unfold R19_Valid
 rw [H.v6,obind,decide_eq_false (by decide),cond_false,decide_eq_false (by omega),cond_false,decide_eq_false (by omega),obind,cond_false]
 unfold R19_Fits
 rw [decide_eq_false (fun h=>h H.ll),cond_false,R19_costs_eq (by omega),obind,decide_eq_true H.lc,Bool.not_true,cond_false,obind,decide_eq_false (by decide),cond_false]
 simp only [R19_rate_eq,obind]
 rw [decide_eq_true f1,Bool.not_true,cond_false,decide_eq_true f2,Bool.not_true,cond_false,decide_eq_true f3,Bool.not_true,cond_false,chk_pos (by unfold inR;omega),chk_pos (by unfold inR;omega),obind,decide_eq_false (by omega),cond_false]
 simp only [R19_counter_eq,obind]
 rw [decide_eq_true H.c1,decide_eq_true H.c2,decide_eq_true H.c3]
 rfl
theorem device_Valid_ok {d:T_api_Device} (H:DevOk d):device_Valid d=some 0:=by
 have hl:=H.lat
 have st:=H.st
 obtain ⟨f1,f2,f3,f4⟩:=H.fl
 unfold device_Valid
 rw [mealy_Valid_ok H.mac,obind,decide_eq_false (by decide),cond_false]
 simp only [device_outside_eq,obind]
 rw [decide_eq_false (by omega),cond_false,decide_eq_false (fun h=>h H.ll),cond_false,device_costs_ok (by omega) H.lc,obind,decide_eq_false (by decide),cond_false,decide_eq_false (by omega),cond_false,decide_eq_false (by omega),cond_false,decide_eq_false (by omega),cond_false,chk_pos (by unfold inR;omega),chk_pos (by unfold inR;omega),decide_eq_false (by omega),cond_false,counted_eq,obind]
 simp only
 rw [decide_eq_true ⟨H.c1,H.c2,H.c3⟩]
 rfl
def resetD (d:T_api_Device):T_api_Device×Int :=
 if cntOk (d.Resets+1)∧cntOk (d.Time+d.Latency.Reset) then (⟨d.M,d.M.Start,true,d.Latency,d.Faults,d.Seed,d.Steps,d.Resets+1,d.Time+d.Latency.Reset⟩,0) else (d,11)
def costD (d:T_api_Device) (a:Int):Int:=(d.Latency.Step[a.toNat]?).getD 0
def outD (f:T_api_Faults) (x o:Int):Int:=if x<f.Lost then -1 else if x<f.Lost+f.Wrong then (if o=1048576 then o-1 else o+1) else o
def readyD (f:T_api_Faults) (x:Int) (b:Bool):Bool:=if x<f.Lost+f.Wrong then b else if x<f.Lost+f.Wrong+f.Crash then false else b
def stepD (d:T_api_Device) (a:Int):T_api_Device×Int×Int :=
 if d.Ready=false then (d,0,10) else if cntOk (d.Steps+1)∧cntOk (d.Time+costD d a) then
  (⟨d.M,(↑(nx d.M d.State.toNat a.toNat):Int),readyD d.Faults (↑(drawN d.Seed.toNat).1:Int) d.Ready,d.Latency,d.Faults,(↑(drawN d.Seed.toNat).2:Int),d.Steps+1,d.Resets,d.Time+costD d a⟩,outD d.Faults (↑(drawN d.Seed.toNat).1:Int) (ot d.M d.State.toNat a.toNat),0)
 else (d,0,11)
section
variable {d:T_api_Device}
theorem reset_p (H:DevOk d):device_unit_reset ⟨d⟩=some ((resetD d).2,⟨(resetD d).1⟩):=by
 have c1:=H.c1
 have c2:=H.c2
 have c3:=H.c3
 have lr:=H.lc.2
 unfold device_unit_reset resetD
 rw [chk_pos (by unfold inR;simp only;omega),chk_pos (by unfold inR;simp only;omega),counted_eq,obind]
 simp only
 by_cases h:cntOk (d.Resets+1)∧cntOk (d.Time+d.Latency.Reset)
 ·rw [if_pos h,decide_eq_true ⟨H.c1,h.1,h.2⟩]
  rfl
 ·rw [if_neg h,decide_eq_false fun e=>h e.2]
  rfl
theorem reset_r (H:DevOk d):R19_Reset d=some (resetD d):=by
 have c1:=H.c1
 have c2:=H.c2
 have c3:=H.c3
 have lr:=H.lc.2
 unfold R19_Reset resetD
 rw [R19_Valid_ok H,obind,decide_eq_false (by decide),cond_false,chk_pos (by unfold inR;omega),R19_counter_eq,obind]
 by_cases h1:cntOk (d.Resets+1)
 ·rw [decide_eq_true h1,Bool.not_true,cond_false,chk_pos (by unfold inR;omega),R19_counter_eq,obind,obind]
  by_cases h2:cntOk (d.Time+d.Latency.Reset)
  ·rw [if_pos ⟨h1,h2⟩,decide_eq_true h2,Bool.not_true,cond_false,chk_pos (by unfold inR;omega),chk_pos (by unfold inR;omega)]
  ·rw [if_neg fun e=>h2 e.2,decide_eq_false h2]
   rfl
 ·rw [if_neg fun e=>h1 e.1,decide_eq_false h1]
  rfl
theorem resetD_ok (H:DevOk d):DevOk (resetD d).1:=by
 unfold resetD
 split
 ·rename_i h
  exact ⟨H.v6,H.mac.st,H.ll,H.lc,H.fl,H.c1,h.1,h.2⟩
 ·exact H
theorem seed_nat (h:0≤d.Seed∧d.Seed<18446744073709551616):d.Seed=(↑d.Seed.toNat:Int):=by omega
theorem stepD_ok (H:DevOk d) (hs:0≤d.Seed∧d.Seed<18446744073709551616) {a:Int} (ha:0≤a∧a<d.M.Inputs):DevOk (stepD d a).1∧(0≤(stepD d a).1.Seed∧(stepD d a).1.Seed<18446744073709551616)∧(stepD d a).1.M=d.M∧(-1≤(stepD d a).2.1∧(stepD d a).2.1≤1048576):=by
 have st:=H.st
 obtain ⟨h1,h2,h3,_⟩:=H.mac.at (s:=d.State.toNat) (a:=a.toNat) (by omega) (by omega)
 have hd:=draw_lt d.Seed.toNat
 unfold stepD
 split
 ·exact ⟨H,hs,rfl,by simp,by simp⟩
 split
 ·rename_i h
  refine ⟨⟨H.v6,⟨by simp only;omega,by simp only;omega⟩,H.ll,H.lc,H.fl,h.1,H.c2,h.2⟩,⟨by simp only;omega,by simp only;omega⟩,rfl,?_⟩
  simp only
  unfold outD
  split
  ·decide
  ·split
   ·split<;>omega
   ·omega
 ·exact ⟨H,hs,rfl,by simp,by simp⟩
theorem step_p (H:DevOk d) (hs:0≤d.Seed∧d.Seed<18446744073709551616) {a:Int} (ha:0≤a∧a<d.M.Inputs):device_unit_step ⟨d⟩ a=some ((stepD d a).2.1,(stepD d a).2.2,⟨(stepD d a).1⟩):=by
 have c1:=H.c1
 have c2:=H.c2
 have c3:=H.c3
 have st:=H.st
 have i2:=H.mac.i2
 have ll:=H.ll
 obtain ⟨f1,f2,f3,f4⟩:=H.fl
 obtain ⟨h1,h2,h3,x,y,hx,hy,hxa,hya⟩:=H.mac.at (s:=d.State.toNat) (a:=a.toNat) (by omega) (by omega)
 have hc:d.Latency.Step[a.toNat]?=some (costD d a):=by
  unfold costD
  rw [List.getElem?_eq_getElem (by omega)]
  rfl
 have hcr:=H.lc.1 _ (List.mem_of_getElem? hc)
 have ea:a=(↑a.toNat:Int):=by omega
 have es:d.State=(↑d.State.toNat:Int):=by omega
 have hB:=random_Below_eq d.Seed.toNat
 rw [← seed_nat hs] at hB
 unfold device_unit_step stepD
 simp only
 cases hr:d.Ready with
 | false =>
  rw [if_pos rfl]
  rfl
 | true =>
  rw [if_neg (by decide),Bool.not_true,cond_false,chk_pos (by unfold inR;omega),device_outside_eq,obind,decide_eq_false (by omega),cond_false,chk_pos (by unfold inR;omega),idx_at ea hc,chk_pos (by unfold inR;omega),counted_eq,obind]
  simp only
  by_cases h:cntOk (d.Steps+1)∧cntOk (d.Time+costD d a)
  ·rw [if_pos h,decide_eq_true ⟨h.1,H.c2,h.2⟩,Bool.not_true,cond_false,hB,obind]
   simp only
   rw [decide_eq_false (by decide),cond_false,idx_at es hx,idx_at ea hxa,idx_at es hy,idx_at ea hya]
   unfold outD readyD
   by_cases k1:(↑(drawN d.Seed.toNat).1:Int)<d.Faults.Lost
   ·rw [decide_eq_true k1,cond_true,if_pos k1,if_pos (by omega)]
   ·rw [decide_eq_false k1,cond_false,chk_pos (by unfold inR;omega),if_neg k1]
    by_cases k2:(↑(drawN d.Seed.toNat).1:Int)<d.Faults.Lost+d.Faults.Wrong
    ·rw [decide_eq_true k2,cond_true,obind,if_pos k2,if_pos k2]
     by_cases k3:ot d.M d.State.toNat a.toNat=1048576
     ·rw [decide_eq_true k3,cond_true,if_pos k3,chk_pos (by unfold inR;omega)]
     ·rw [decide_eq_false k3,cond_false,if_neg k3,chk_pos (by unfold inR;omega),cond_true,chk_pos (by unfold inR;omega)]
    ·rw [decide_eq_false k2,cond_false,obind,cond_false,if_neg k2,if_neg k2,chk_pos (by unfold inR;omega),cond_false,chk_pos (by unfold inR;omega),chk_pos (by unfold inR;omega)]
     by_cases k4:(↑(drawN d.Seed.toNat).1:Int)<d.Faults.Lost+d.Faults.Wrong+d.Faults.Crash
     ·rw [decide_eq_true k4,cond_true,if_pos k4]
     ·rw [decide_eq_false k4,cond_false,if_neg k4]
  ·rw [if_neg h,decide_eq_false fun e=>h ⟨e.1,e.2.2⟩]
   rfl
theorem step_r (H:DevOk d) (hs:0≤d.Seed∧d.Seed<18446744073709551616) {a:Int} (ha:0≤a∧a<d.M.Inputs):R19_Step d a=some (stepD d a):=by
 have c1:=H.c1
 have c2:=H.c2
 have c3:=H.c3
 have st:=H.st
 have i2:=H.mac.i2
 have ll:=H.ll
 obtain ⟨f1,f2,f3,f4⟩:=H.fl
 obtain ⟨h1,h2,h3,x,y,hx,hy,hxa,hya⟩:=H.mac.at (s:=d.State.toNat) (a:=a.toNat) (by omega) (by omega)
 have hc:d.Latency.Step[a.toNat]?=some (costD d a):=by
  unfold costD
  rw [List.getElem?_eq_getElem (by omega)]
  rfl
 have hcr:=H.lc.1 _ (List.mem_of_getElem? hc)
 have ea:a=(↑a.toNat:Int):=by omega
 have es:d.State=(↑d.State.toNat:Int):=by omega
 have hR:=R04_Below_eq d.Seed.toNat
 rw [← seed_nat hs] at hR
 unfold R19_Step stepD
 rw [R19_Valid_ok H,obind,decide_eq_false (by decide),cond_false]
 cases hr:d.Ready with
 | false =>
  rw [if_pos rfl]
  rfl
 | true =>
  rw [if_neg (by decide),Bool.not_true,cond_false,decide_eq_false (by omega),cond_false,decide_eq_false (by omega),obind,cond_false,chk_pos (by unfold inR;omega),R19_counter_eq,obind]
  by_cases q1:cntOk (d.Steps+1)
  ·rw [decide_eq_true q1,Bool.not_true,cond_false,idx_at ea hc,chk_pos (by unfold inR;omega),R19_counter_eq,obind,obind]
   by_cases q2:cntOk (d.Time+costD d a)
   ·rw [if_pos ⟨q1,q2⟩,decide_eq_true q2,Bool.not_true,cond_false,idx_at es hy,idx_at ea hya,hR,obind,idx_at es hx,idx_at ea hxa,chk_pos (by unfold inR;omega),idx_at ea hc,chk_pos (by unfold inR;omega)]
    simp only
    unfold outD readyD
    by_cases k1:(↑(drawN d.Seed.toNat).1:Int)<d.Faults.Lost
    ·rw [decide_eq_true k1,cond_true,if_pos k1,if_pos (by omega)]
    ·rw [decide_eq_false k1,cond_false,chk_pos (by unfold inR;omega),if_neg k1]
     by_cases k2:(↑(drawN d.Seed.toNat).1:Int)<d.Faults.Lost+d.Faults.Wrong
     ·rw [decide_eq_true k2,cond_true,obind,if_pos k2,if_pos k2]
      by_cases k3:ot d.M d.State.toNat a.toNat=1048576
      ·rw [decide_eq_true k3,cond_true,if_pos k3,chk_pos (by unfold inR;omega)]
      ·rw [decide_eq_false k3,cond_false,if_neg k3,chk_pos (by unfold inR;omega),cond_true,chk_pos (by unfold inR;omega)]
     ·rw [decide_eq_false k2,cond_false,obind,cond_false,if_neg k2,if_neg k2,chk_pos (by unfold inR;omega),cond_false,chk_pos (by unfold inR;omega),chk_pos (by unfold inR;omega)]
      by_cases k4:(↑(drawN d.Seed.toNat).1:Int)<d.Faults.Lost+d.Faults.Wrong+d.Faults.Crash
      ·rw [decide_eq_true k4,cond_true,if_pos k4]
      ·rw [decide_eq_false k4,cond_false,if_neg k4]
   ·rw [if_neg fun e=>q2 e.2,decide_eq_false q2]
    rfl
  ·rw [if_neg fun e=>q1 e.1,decide_eq_false q1]
   rfl
end
end Go.Proofs.YtajipjnfegmlcaaGreatDoor.Sym

/-
 Devices are asked a word; answers are voted for. Plain laws.
-/
namespace Go.Proofs.YtajipjnfegmlcaaGreatDoor.Sym
set_option maxRecDepth 100000
theorem cap24 {n:Nat} (h:n≤3000000):capOk n 24:=by unfold capOk;omega
theorem device_rows_eq {l:List (List Int)} (h:SmL l):device_rows l=some l:=by
 have hl:=h.1
 unfold device_rows
 rw [chk_pos ⟨by decide,by omega,by rw [Int.toNat_natCast];exact cap24 (by omega)⟩]
 have key:=iter_post (step:=fun (s:List (List Int)×Nat)=>device_rows.s2 l s.1 s.2) (fun s=>s.2≤l.length∧s.1=l.take s.2) (fun s=>l.length-s.2) (fun r=>r=l) (fun ⟨y,i⟩ ⟨g1,g2⟩=>by
  simp only at g1 g2
  subst g2
  simp only [device_rows.s2]
  by_cases g3:i<l.length
  ·left
   have hx:=get_at g3
   refine ⟨(l.take (i+1),i+1),?_,⟨g3,rfl⟩,by simp only;omega⟩
   rw [dec_lt hx,cond_true,idxn_at hx,libclone_word (h.2 _ (List.getElem_mem _)),obind,chk_pos (cap24 (by rw [List.length_take];omega)),take_step hx]
  ·right
   have e:i=l.length:=by omega
   subst e
   exact ⟨l,by rw [dec_end,cond_false,List.take_length],rfl⟩) fuel ([],0) ⟨Nat.zero_le _,rfl⟩ (by have:=fuel_big;simp only;omega)
 obtain ⟨r,e,rfl⟩:=key
 rw [e,obind]
theorem oracle_rows_eq {l:List (List Int)} (h:SmL l):oracle_rows l=some l:=by
 have hl:=h.1
 unfold oracle_rows
 have key:=iter_post (step:=fun (s:List (List Int)×Nat)=>oracle_rows.s2 l s.1 s.2) (fun s=>s.2≤l.length∧s.1=l.take s.2) (fun s=>l.length-s.2) (fun r=>r=l) (fun ⟨y,i⟩ ⟨g1,g2⟩=>by
  simp only at g1 g2
  subst g2
  simp only [oracle_rows.s2]
  by_cases g3:i<l.length
  ·left
   have hx:=get_at g3
   refine ⟨(l.take (i+1),i+1),?_,⟨g3,rfl⟩,by simp only;omega⟩
   rw [dec_lt hx,cond_true,idxn_at hx,libclone_word (h.2 _ (List.getElem_mem _)),obind,chk_pos (cap24 (by rw [List.length_take];omega)),take_step hx]
  ·right
   have e:i=l.length:=by omega
   subst e
   exact ⟨l,by rw [dec_end,cond_false,List.take_length],rfl⟩) fuel ([],0) ⟨Nat.zero_le _,rfl⟩ (by have:=fuel_big;simp only;omega)
 obtain ⟨r,e,rfl⟩:=key
 rw [e,obind]
theorem MacOk.sml {m:T_api_Mealy} (H:MacOk m):SmL m.Next∧SmL m.Out:=by
 have n2:=H.n2
 have ol:=H.ol
 have i2:=H.i2
 refine ⟨⟨by omega,fun x hx=>?_⟩,⟨by omega,fun x hx=>?_⟩⟩
 all_goals
  obtain ⟨s,hs,rfl⟩:=List.mem_iff_getElem.1 hx
  obtain ⟨x,y,h1,h2,h3,h4,_⟩:=H.row s (by omega)
  unfold SmW
 ·rw [get_at hs] at h1
  injection h1 with h1
  rw [h1]
  omega
 ·rw [get_at hs] at h2
  injection h2 with h2
  rw [h2]
  omega
theorem DevOk.sw {d:T_api_Device} (H:DevOk d):SmW d.Latency.Step:=by
 have:=H.lat
 unfold SmW
 omega
theorem device_copied_eq {d:T_api_Device} (H:DevOk d):device_copied d=some d:=by
 unfold device_copied
 rw [device_rows_eq H.mac.sml.1,obind,device_rows_eq H.mac.sml.2,obind,libclone_word H.sw,obind]
theorem oracle_copied_eq {q:T_api_Oracle} (H:DevOk q.Device) (ho:SmTr q.Obs.Traces):oracle_copied q=some q:=by
 have hl:=ho.1
 unfold oracle_copied
 rw [oracle_rows_eq H.mac.sml.1,obind,oracle_rows_eq H.mac.sml.2,obind,libclone_word H.sw,obind]
 have key:=iter_post (step:=fun (s:List T_api_Trace×Nat)=>oracle_copied.s2 q s.1 s.2) (fun s=>s.2≤q.Obs.Traces.length∧s.1=q.Obs.Traces.take s.2) (fun s=>q.Obs.Traces.length-s.2) (fun r=>r=q.Obs.Traces) (fun ⟨y,i⟩ ⟨g1,g2⟩=>by
  simp only at g1 g2
  subst g2
  simp only [oracle_copied.s2]
  by_cases g3:i<q.Obs.Traces.length
  ·left
   have hx:=get_at g3
   have hs:=ho.2 _ (List.getElem_mem g3)
   refine ⟨(q.Obs.Traces.take (i+1),i+1),?_,⟨g3,rfl⟩,by simp only;omega⟩
   rw [dec_lt hx,cond_true,idxn_at hx,libclone_word hs.1,obind,libclone_word hs.2,obind,chk_pos (capT (by rw [List.length_take];omega)),take_step hx]
  ·right
   have e:i=q.Obs.Traces.length:=by omega
   subst e
   exact ⟨q.Obs.Traces,by rw [dec_end,cond_false,List.take_length],rfl⟩) fuel ([],0) ⟨Nat.zero_le _,rfl⟩ (by have:=fuel_big;simp only;omega)
 obtain ⟨r,e,rfl⟩:=key
 rw [e,obind]
def qryD:T_api_Device→List Int→List Int→T_api_Device×List Int×Int
 | d,ys,[]=>(d,ys,0)
 | d,ys,a::w=>if (stepD d a).2.2≠0 then ((stepD d a).1,[],(stepD d a).2.2) else if (stepD d a).2.1<0∨((stepD d a).1.Ready=false∧w≠[]) then ((stepD d a).1,[],14) else qryD (stepD d a).1 (ys++[(stepD d a).2.1]) w
def queryD (d:T_api_Device) (w:List Int):T_api_Device×List Int×Int :=
 if (resetD d).2≠0 then (d,[],(resetD d).2) else qryD (resetD d).1 [] w
abbrev SeedOk (d:T_api_Device):Prop:=0≤d.Seed∧d.Seed<18446744073709551616
theorem qryD_ok:∀ (w ys:List Int) (d:T_api_Device),DevOk d→SeedOk d→WOk d.M.Inputs w→(∀ y∈ys,0≤y∧y≤1048576) →
  DevOk (qryD d ys w).1∧SeedOk (qryD d ys w).1∧(qryD d ys w).1.M=d.M∧((qryD d ys w).2.2=0→(qryD d ys w).2.1.length=ys.length+w.length∧∀ y∈(qryD d ys w).2.1,0≤y∧y≤1048576)∧((qryD d ys w).2.2=0∨(qryD d ys w).2.2=10∨(qryD d ys w).2.2=11∨(qryD d ys w).2.2=14)
 | [],ys,d,H,S,_,hy=>⟨H,S,rfl,fun _=>⟨rfl,hy⟩,.inl rfl⟩
 | a::w,ys,d,H,S,hw,hy=>by
  obtain ⟨h1,h2,h3,h4⟩:=stepD_ok H S hw.head
  unfold qryD
  by_cases g1:(stepD d a).2.2≠0
  ·rw [if_pos g1]
   refine ⟨h1,h2,h3,fun e=>absurd e g1,?_⟩
   simp only
   unfold stepD
   split
   ·exact .inr (.inl rfl)
   ·split
    ·exact .inl rfl
    ·exact .inr (.inr (.inl rfl))
  ·rw [if_neg g1]
   by_cases g2:(stepD d a).2.1<0∨((stepD d a).1.Ready=false∧w≠[])
   ·rw [if_pos g2]
    exact ⟨h1,h2,h3,fun e=>(by cases e),.inr (.inr (.inr rfl))⟩
   ·rw [if_neg g2]
    obtain ⟨k1,k2,k3,k4,k5⟩:=qryD_ok w (ys++[(stepD d a).2.1]) (stepD d a).1 h1 h2 (by rw [h3];exact hw.tail) fun y hy'=>by
     rcases List.mem_append.1 hy' with e | e
     ·exact hy y e
     ·rw [List.mem_singleton.1 e]
      exact ⟨by omega,h4.2⟩
    refine ⟨k1,k2,by rw [k3,h3],fun e=>⟨?_,(k4 e).2⟩,k5⟩
    rw [(k4 e).1,List.length_append,List.length_cons]
    simp
    omega
section
variable {d:T_api_Device} {w ys:List Int}
abbrev tupD (d:T_api_Device) (ys:List Int) (i:Nat):Int×Int×List (List Int)×List (List Int)×Int×Bool×List Int×Int×Int×Int×Int×Int×Int×Int×Int×List Int×Nat :=
 (d.M.Inputs,d.M.Start,d.M.Next,d.M.Out,d.State,d.Ready,d.Latency.Step,d.Latency.Reset,d.Faults.Lost,d.Faults.Wrong,d.Faults.Crash,d.Seed,d.Steps,d.Resets,d.Time,ys,i)
theorem dq_step (H:DevOk d) (S:SeedOk d) {i:Nat} {a:Int} (hx:w[i]?=some a) (ha:0≤a∧a<d.M.Inputs) (hy:ys.length≤100000) :
  device_Query.s2 w d.M.Inputs d.M.Start d.M.Next d.M.Out d.State d.Ready d.Latency.Step d.Latency.Reset d.Faults.Lost d.Faults.Wrong d.Faults.Crash d.Seed d.Steps d.Resets d.Time ys i =
   some (if (stepD d a).2.2≠0 then .inr (.inr ((stepD d a).1,[],(stepD d a).2.2)) else if (stepD d a).2.1<0∨((stepD d a).1.Ready=false∧i+1<w.length) then .inr (.inr ((stepD d a).1,[],14)) else .inl (tupD (stepD d a).1 (ys++[(stepD d a).2.1]) (i+1))):=by
 unfold device_Query.s2
 rw [dec_lt hx,cond_true,idxn_at hx]
 have he:=step_p H S ha
 have hd:(⟨(⟨⟨d.M.Inputs,d.M.Start,d.M.Next,d.M.Out⟩,d.State,d.Ready,⟨d.Latency.Step,d.Latency.Reset⟩,⟨d.Faults.Lost,d.Faults.Wrong,d.Faults.Crash⟩,d.Seed,d.Steps,d.Resets,d.Time⟩:T_api_Device)⟩:T_device_unit)=⟨d⟩:=rfl
 rw [hd,he,obind]
 simp only
 by_cases g1:(stepD d a).2.2≠0
 ·rw [if_pos g1,decide_eq_true g1,cond_true]
 ·rw [if_neg g1,decide_eq_false g1,cond_false]
  have hb:(cond (decide ((stepD d a).2.1<0)) (some true) (cond (!(stepD d a).1.Ready) (some (decide (((↑i:Int)+1)<(↑(List.length w):Int)))) (some false)):Option Bool)=some (decide ((stepD d a).2.1<0∨((stepD d a).1.Ready=false∧i+1<w.length))):=by
   by_cases k1:(stepD d a).2.1<0
   ·rw [decide_eq_true k1,cond_true,decide_eq_true (.inl k1)]
   ·rw [decide_eq_false k1,cond_false]
    cases hr:(stepD d a).1.Ready with
    | true =>
     rw [Bool.not_true,cond_false,decide_eq_false fun e=>?_]
     rcases e with e | e
     ·exact k1 e
     ·cases e.1
    | false =>
     rw [Bool.not_false,cond_true]
     congr 1
     exact decide_eq_decide.2 ⟨fun e=>.inr ⟨rfl,by omega⟩,fun e=>by rcases e with e | e;exact absurd e k1;omega⟩
  rw [hb,obind]
  by_cases g2:(stepD d a).2.1<0∨((stepD d a).1.Ready=false∧i+1<w.length)
  ·rw [if_pos g2,decide_eq_true g2,cond_true]
  ·rw [if_neg g2,decide_eq_false g2,cond_false,chk_pos (by unfold capOk;omega)]
theorem rq_step (H:DevOk d) (S:SeedOk d) {i:Nat} {a:Int} (hx:w[i]?=some a) (ha:0≤a∧a<d.M.Inputs) (hy:ys.length≤100000) :
  R19_Query.s2 w d.M.Inputs d.M.Start d.M.Next d.M.Out d.State d.Ready d.Latency.Step d.Latency.Reset d.Faults.Lost d.Faults.Wrong d.Faults.Crash d.Seed d.Steps d.Resets d.Time ys i =
   some (if (stepD d a).2.2≠0 then .inr (.inr ((stepD d a).1,[],(stepD d a).2.2)) else if (stepD d a).2.1<0∨((stepD d a).1.Ready=false∧i+1<w.length) then .inr (.inr ((stepD d a).1,[],14)) else .inl (tupD (stepD d a).1 (ys++[(stepD d a).2.1]) (i+1))):=by
 unfold R19_Query.s2
 rw [dec_lt hx,cond_true,idxn_at hx]
 have he:=step_r H S ha
 obtain ⟨_,_,_,hr⟩:=stepD_ok H S ha
 have hd:(⟨⟨d.M.Inputs,d.M.Start,d.M.Next,d.M.Out⟩,d.State,d.Ready,⟨d.Latency.Step,d.Latency.Reset⟩,⟨d.Faults.Lost,d.Faults.Wrong,d.Faults.Crash⟩,d.Seed,d.Steps,d.Resets,d.Time⟩:T_api_Device)=d:=rfl
 rw [hd,he,obind]
 by_cases g1:(stepD d a).2.2≠0
 ·rw [if_pos g1,decide_eq_true g1,cond_true]
 ·rw [if_neg g1,decide_eq_false g1,cond_false]
  have hb:(cond (decide ((stepD d a).2.1=-1)) (some true) (cond (!(stepD d a).1.Ready) (some (decide ((↑i:Int)<((↑(List.length w):Int)-1)))) (some false)):Option Bool)=some (decide ((stepD d a).2.1<0∨((stepD d a).1.Ready=false∧i+1<w.length))):=by
   by_cases k1:(stepD d a).2.1<0
   ·rw [decide_eq_true (by omega),cond_true,decide_eq_true (.inl k1)]
   ·rw [decide_eq_false (by omega),cond_false]
    cases hr:(stepD d a).1.Ready with
    | true =>
     rw [Bool.not_true,cond_false,decide_eq_false fun e=>?_]
     rcases e with e | e
     ·exact k1 e
     ·cases e.1
    | false =>
     rw [Bool.not_false,cond_true]
     congr 1
     exact decide_eq_decide.2 ⟨fun e=>.inr ⟨rfl,by omega⟩,fun e=>by rcases e with e | e;exact absurd e k1;omega⟩
  rw [hb,obind]
  by_cases g2:(stepD d a).2.1<0∨((stepD d a).1.Ready=false∧i+1<w.length)
  ·rw [if_pos g2,decide_eq_true g2,cond_true]
  ·rw [if_neg g2,decide_eq_false g2,cond_false,chk_pos (by unfold capOk;omega)]
end
abbrev Tup15:Type:=Int×Int×List (List Int)×List (List Int)×Int×Bool×List Int×Int×Int×Int×Int×Int×Int×Int×Int×List Int
abbrev tup15 (d:T_api_Device) (ys:List Int):Tup15:=(d.M.Inputs,d.M.Start,d.M.Next,d.M.Out,d.State,d.Ready,d.Latency.Step,d.Latency.Reset,d.Faults.Lost,d.Faults.Wrong,d.Faults.Crash,d.Seed,d.Steps,d.Resets,d.Time,ys)
def qryR (r:T_api_Device×List Int×Int):Tup15⊕(T_api_Device×List Int×Int):=if r.2.2=0 then .inl (tup15 r.1 r.2.1) else .inr r
theorem qry_iter {S2:Int×Int×List (List Int)×List (List Int)×Int×Bool×List Int×Int×Int×Int×Int×Int×Int×Int×Int×List Int×Nat→Option ((Int×Int×List (List Int)×List (List Int)×Int×Bool×List Int×Int×Int×Int×Int×Int×Int×Int×Int×List Int×Nat)⊕(Tup15⊕(T_api_Device×List Int×Int)))} {w:List Int}
  (h1:∀ (d:T_api_Device) (ys:List Int) (i:Nat) (a:Int),DevOk d→SeedOk d→w[i]?=some a→0≤a∧a<d.M.Inputs→ys.length≤100000→S2 (tupD d ys i)=some (if (stepD d a).2.2≠0 then .inr (.inr ((stepD d a).1,[],(stepD d a).2.2)) else if (stepD d a).2.1<0∨((stepD d a).1.Ready=false∧i+1<w.length) then .inr (.inr ((stepD d a).1,[],14)) else .inl (tupD (stepD d a).1 (ys++[(stepD d a).2.1]) (i+1))))
  (h2:∀ d ys,S2 (tupD d ys w.length)=some (.inr (.inl (tup15 d ys)))) (hl:w.length≤2000) :
  ∀ (n i:Nat) (d:T_api_Device) (ys:List Int),DevOk d→SeedOk d→WOk d.M.Inputs w→ys.length=i→i≤w.length→w.length-i<n→iter S2 n (tupD d ys i)=some (qryR (qryD d ys (w.drop i)))
 | 0,_,_,_,_,_,_,_,_,h=>absurd h (Nat.not_lt_zero _)
 | n+1,i,d,ys,H,S,hw,hy,hi,hn=>by
  unfold iter
  rcases Nat.lt_or_ge i w.length with h | h
  ·have hx:=get_at h
   have ha:=hw _ (List.getElem_mem h)
   rw [h1 d ys i _ H S hx ha (by omega),List.drop_eq_getElem_cons h]
   obtain ⟨k1,k2,k3,k4⟩:=stepD_ok H S ha
   have hnil:i+1<w.length↔w.drop (i+1)≠[]:=by
    rw [ne_eq,List.drop_eq_nil_iff]
    omega
   unfold qryD
   by_cases g1:(stepD d w[i]).2.2≠0
   ·rw [if_pos g1,if_pos g1]
    unfold qryR
    rw [if_neg g1]
   ·rw [if_neg g1,if_neg g1]
    by_cases g2:(stepD d w[i]).2.1<0∨((stepD d w[i]).1.Ready=false∧i+1<w.length)
    ·rw [if_pos g2,if_pos (by rw [← hnil];exact g2)]
     rfl
    ·rw [if_neg g2,if_neg (by rw [← hnil];exact g2)]
     exact qry_iter h1 h2 hl n (i+1) (stepD d w[i]).1 _ k1 k2 (by rw [k3];exact hw) (by rw [List.length_append,List.length_singleton,hy]) h (by omega)
  ·have e:i=w.length:=by omega
   subst e
   rw [h2,List.drop_length]
   rfl
theorem check_wok {w:List Int} {n:Int} (h:checkI w n=0):WOk n w:=check_mem h
theorem Query_p {d:T_api_Device} {w:List Int} (H:DevOk d) (S:SeedOk d) (hw:checkI w d.M.Inputs=0) (hl:w.length≤1024):device_Query d w=some (queryD d w):=by
 have hsw:SmW w:=by unfold SmW;omega
 have r1:=reset_p H
 have hr:=resetD_ok H
 have hf:=fuel_big
 have hM:(resetD d).1.M=d.M∧SeedOk (resetD d).1:=by
  unfold resetD
  split
  ·exact ⟨rfl,S⟩
  ·exact ⟨rfl,S⟩
 unfold device_Query queryD
 rw [device_Valid_ok H,obind,decide_eq_false (by decide),cond_false,word_Check_eq _ _ hsw,obind,hw,decide_eq_false (by decide),cond_false,device_copied_eq H,obind,r1,obind]
 simp only
 by_cases g:(resetD d).2≠0
 ·rw [if_pos g,decide_eq_true g,cond_true]
 ·rw [if_neg g,decide_eq_false g,cond_false,chk_pos ⟨by decide,by omega,by unfold capOk;omega⟩]
  have key:=qry_iter (w:=w) (S2:=fun s=>device_Query.s2 w s.1 s.2.1 s.2.2.1 s.2.2.2.1 s.2.2.2.2.1 s.2.2.2.2.2.1 s.2.2.2.2.2.2.1 s.2.2.2.2.2.2.2.1 s.2.2.2.2.2.2.2.2.1 s.2.2.2.2.2.2.2.2.2.1 s.2.2.2.2.2.2.2.2.2.2.1 s.2.2.2.2.2.2.2.2.2.2.2.1 s.2.2.2.2.2.2.2.2.2.2.2.2.1 s.2.2.2.2.2.2.2.2.2.2.2.2.2.1 s.2.2.2.2.2.2.2.2.2.2.2.2.2.2.1 s.2.2.2.2.2.2.2.2.2.2.2.2.2.2.2.1 s.2.2.2.2.2.2.2.2.2.2.2.2.2.2.2.2) (fun d ys i a H S hx ha hy=>dq_step H S hx ha hy) (fun d ys=>by
   show device_Query.s2 w _ _ _ _ _ _ _ _ _ _ _ _ _ _ _ _ _=_
   unfold device_Query.s2
   rw [dec_end,cond_false]) (by omega) fuel 0 (resetD d).1 [] hr hM.2 (by rw [hM.1];exact check_wok hw) rfl (Nat.zero_le _) (by omega)
  rw [List.drop_zero] at key
  refine (congrArg (fun z=>Option.bind z _) key).trans ?_
  rw [obind]
  unfold qryR
  by_cases g3:(qryD (resetD d).1 [] w).2.2=0
  ·rw [if_pos g3]
   simp only [Sum.elim_inl,device_Query.k3]
   rw [← g3]
  ·rw [if_neg g3]
   rfl
theorem Query_r {d:T_api_Device} {w:List Int} (H:DevOk d) (S:SeedOk d) (hw:checkI w d.M.Inputs=0) (hl:w.length≤1024):R19_Query d w=some (queryD d w):=by
 have hsw:SmW w:=by unfold SmW;omega
 have r2:=reset_r H
 have hr:=resetD_ok H
 have hf:=fuel_big
 have hM:(resetD d).1.M=d.M∧SeedOk (resetD d).1:=by
  unfold resetD
  split
  ·exact ⟨rfl,S⟩
  ·exact ⟨rfl,S⟩
 unfold R19_Query queryD
 rw [R19_Valid_ok H,obind,decide_eq_false (by decide),cond_false,R01_Check_eq _ _ hsw,obind,hw,decide_eq_false (by decide),cond_false,r2,obind]
 by_cases g:(resetD d).2≠0
 ·have hd:(resetD d).1=d:=by
   unfold resetD at g ⊢
   split at g
   ·exact absurd rfl g
   ·rename_i h
    rw [if_neg h]
  rw [if_pos g,decide_eq_true g,cond_true,hd]
 ·rw [if_neg g,decide_eq_false g,cond_false]
  have key:=qry_iter (w:=w) (S2:=fun s=>R19_Query.s2 w s.1 s.2.1 s.2.2.1 s.2.2.2.1 s.2.2.2.2.1 s.2.2.2.2.2.1 s.2.2.2.2.2.2.1 s.2.2.2.2.2.2.2.1 s.2.2.2.2.2.2.2.2.1 s.2.2.2.2.2.2.2.2.2.1 s.2.2.2.2.2.2.2.2.2.2.1 s.2.2.2.2.2.2.2.2.2.2.2.1 s.2.2.2.2.2.2.2.2.2.2.2.2.1 s.2.2.2.2.2.2.2.2.2.2.2.2.2.1 s.2.2.2.2.2.2.2.2.2.2.2.2.2.2.1 s.2.2.2.2.2.2.2.2.2.2.2.2.2.2.2.1 s.2.2.2.2.2.2.2.2.2.2.2.2.2.2.2.2) (fun d ys i a H S hx ha hy=>rq_step H S hx ha hy) (fun d ys=>by
   show R19_Query.s2 w _ _ _ _ _ _ _ _ _ _ _ _ _ _ _ _ _=_
   unfold R19_Query.s2
   rw [dec_end,cond_false]) (by omega) fuel 0 (resetD d).1 [] hr hM.2 (by rw [hM.1];exact check_wok hw) rfl (Nat.zero_le _) (by omega)
  rw [List.drop_zero] at key
  refine (congrArg (fun z=>Option.bind z _) key).trans ?_
  rw [obind]
  unfold qryR
  by_cases g3:(qryD (resetD d).1 [] w).2.2=0
  ·rw [if_pos g3]
   simp only [Sum.elim_inl,R19_Query.k3]
   rw [← g3]
  ·rw [if_neg g3]
   rfl
theorem queryD_ok {d:T_api_Device} {w:List Int} (H:DevOk d) (S:SeedOk d) (hw:checkI w d.M.Inputs=0) :
  DevOk (queryD d w).1∧SeedOk (queryD d w).1∧(queryD d w).1.M=d.M∧((queryD d w).2.2=0→(queryD d w).2.1.length=w.length∧∀ y∈(queryD d w).2.1,0≤y∧y≤1048576):=by
 have hM:(resetD d).1.M=d.M∧SeedOk (resetD d).1:=by
  unfold resetD
  split
  ·exact ⟨rfl,S⟩
  ·exact ⟨rfl,S⟩
 unfold queryD
 split
 ·rename_i g
  exact ⟨H,S,rfl,fun e=>absurd e g⟩
 ·obtain ⟨k1,k2,k3,k4,_⟩:=qryD_ok w [] (resetD d).1 (resetD_ok H) hM.2 (by rw [hM.1];exact check_wok hw) fun y hy=>by simp at hy
  exact ⟨k1,k2,by rw [k3,hM.1],fun e=>⟨by rw [(k4 e).1];simp,(k4 e).2⟩⟩
def voteF (need:Int):List (List Int)→List (List Int)→Option (List Int)
 | _,[]=>none
 | pre,w::r=>if (↑((pre++[w]).count w):Int)=need then some w else voteF need (pre++[w]) r
abbrev bk (w:List Int):ByteArray:=⟨(keyL w).toArray⟩
theorem bk_inj {a b:List Int} (h:bk a=bk b):a=b:=keyL_inj (by
 injection h with h
 injection h)
def WrdOk (w:List Int):Prop:=w.length≤100000∧∀ x∈w,inR x
theorem nondet_key_eq {w:List Int} (h:WrdOk w):nondet_key w=some (bk w):=by
 have:=h.1
 unfold nondet_key
 rw [chk_pos h.2,chk_pos (by omega)]
theorem vote_iter {l:List (List Int)} {need:Int} (hl:l.length≤100000) (hw:∀ x∈l,WrdOk x) :
  iter (fun (s:List (ByteArray×Int)×Nat)=>nondet_Vote_L.s2 l need s.1 s.2) fuel ([],0)=some (match voteF need [] l with | some w=>.inr (w,0,l) | none=>.inl ()):=by
 have key:∀ (n i:Nat) (m:List (ByteArray×Int)),i≤l.length→(∀ w,(mget (bk w) m).getD 0=(↑((l.take i).count w):Int))→l.length-i<n→iter (fun (s:List (ByteArray×Int)×Nat)=>nondet_Vote_L.s2 l need s.1 s.2) n (m,i)=some (match voteF need (l.take i) (l.drop i) with | some w=>.inr (w,0,l) | none=>.inl ()):=by
  intro n
  induction n with
  | zero=>intro i m _ _ h;omega
  | succ n ih =>
   intro i m hi hm hn
   unfold iter
   simp only [nondet_Vote_L.s2]
   rcases Nat.lt_or_ge i l.length with h | h
   ·have hx:=get_at h
    have hk:=hw _ (List.getElem_mem h)
    have hc:(l.take (i+1)).count l[i]=(l.take i).count l[i]+1:=by
     rw [take_step hx,List.count_append]
     simp
    have hcl:(l.take i).count l[i]≤l.length:=Nat.le_trans List.count_le_length (by rw [List.length_take];omega)
    rw [dec_lt hx,cond_true,idxn_at hx,nondet_key_eq hk,obind,hm,chk_pos (by unfold inR;omega),mget_mset_same ba_beq,Option.getD_some,List.drop_eq_getElem_cons h]
    unfold voteF
    rw [← take_step hx,hc]
    by_cases g:(↑((l.take i).count l[i]):Int)+1=need
    ·rw [decide_eq_true g,cond_true,libclone_word (by have:=hk.1;unfold SmW;omega),obind,if_pos (by omega)]
    ·rw [decide_eq_false g,cond_false,if_neg (by omega)]
     refine ih (i+1) _ h (fun w=>?_) (by omega)
     by_cases e:l[i]=w
     ·rw [← e,mget_mset_same ba_beq,Option.getD_some,hc]
      rfl
     ·rw [mget_mset_ne ba_beq (fun e2=>e (bk_inj e2).symm),hm,take_step hx,List.count_append]
      simp [e]
   ·have e:i=l.length:=by omega
    subst e
    rw [dec_end,cond_false,List.drop_length]
    rfl
 have:=key fuel 0 [] (Nat.zero_le _) (fun w=>by simp [mget]) (by have:=fuel_big;omega)
 rw [List.take_zero,List.drop_zero] at this
 exact this
theorem nondet_Vote_L_eq {l:List (List Int)} {need:Int} (hn:1≤need∧need≤9) (hl:l.length≤100000) (hw:∀ x∈l,WrdOk x) :
  nondet_Vote_L l need=some (match voteF need [] l with | some w=>(w,0,l) | none=>([],13,l)):=by
 unfold nondet_Vote_L
 rw [decide_eq_false (by omega),cond_false,decide_eq_false (by omega),obind,cond_false,vote_iter hl hw,obind]
 cases voteF need [] l<;>rfl
def Few (need:Int) (l:List (List Int)):Prop:=∀ w,(↑(l.count w):Int)<need
theorem voteF_few {need:Int}:∀ (r pre:List (List Int)) (x:List Int),Few need (pre++r)→voteF need pre (r++[x])=if (↑((pre++r++[x]).count x):Int)<need then none else some x
 | [],pre,x,h=>by
  have h1:=h x
  rw [List.append_nil] at h1 ⊢
  have h2:(pre++[x]).count x=pre.count x+1:=by rw [List.count_append];simp
  rw [List.nil_append]
  unfold voteF
  rw [h2]
  by_cases g:(↑(pre.count x+1):Int)<need
  ·rw [if_pos g,if_neg (by omega)]
   rfl
  ·rw [if_neg g,if_pos (by omega)]
 | w::r,pre,x,h=>by
  have h1:=h w
  have h2:(pre++[w]).count w≤(pre++w::r).count w:=by
   rw [List.count_append,List.count_append,List.count_cons]
   simp
  rw [List.cons_append]
  unfold voteF
  rw [if_neg (by omega),voteF_few r (pre++[w]) x (by rw [List.append_assoc];exact h)]
  simp
theorem few_nil {need:Int} (h:1≤need):Few need []:=fun w=>by simp;omega
theorem few_add {need:Int} {l:List (List Int)} {x:List Int} (h:Few need l) (hx:(↑((l++[x]).count x):Int)<need):Few need (l++[x]):=fun w=>by
 by_cases e:x=w
 ·rw [← e]
  exact hx
 ·have:=h w
  rw [List.count_append]
  simp [e]
  exact this
theorem R21_times_eq {l:List (List Int)} {w:List Int} (hl:l.length≤100000) (hw:∀ x∈l,x.length≤100000000):R21_times l w=some (↑(l.count w):Int):=by
 unfold R21_times
 have key:=iter_post (step:=fun (s:Nat×Nat)=>R21_times.s2 l w s.1 s.2) (fun s=>s.2≤l.length∧s.1=(l.take s.2).count w) (fun s=>l.length-s.2) (fun r=>r=l.count w) (fun ⟨y,i⟩ ⟨g1,g2⟩=>by
  simp only at g1 g2
  subst g2
  simp only [R21_times.s2]
  by_cases g3:i<l.length
  ·left
   have hx:=get_at g3
   have hcl:(l.take i).count w≤l.length:=Nat.le_trans List.count_le_length (by rw [List.length_take];omega)
   refine ⟨((l.take (i+1)).count w,i+1),?_,⟨g3,rfl⟩,by simp only;omega⟩
   rw [dec_lt hx,cond_true,idxn_at hx,R06_Ints_eq _ _ (by have:=hw _ (List.getElem_mem g3);omega),obind,take_step hx,List.count_append]
   by_cases e:l[i]=w
   ·rw [decide_eq_true e,cond_true,chk_pos (by unfold inR;omega)]
    simp [e]
   ·rw [decide_eq_false e,cond_false]
    simp [e]
  ·right
   have e:i=l.length:=by omega
   subst e
   exact ⟨_,by rw [dec_end,cond_false],by rw [List.take_length]⟩) fuel (0,0) ⟨Nat.zero_le _,by simp⟩ (by have:=fuel_big;simp only;omega)
 obtain ⟨r,e,rfl⟩:=key
 rw [e,obind]
end Go.Proofs.YtajipjnfegmlcaaGreatDoor.Sym

/-
 Oracles: what the program's and the document's Ask come to. Plain laws.
-/
namespace Go.Proofs.YtajipjnfegmlcaaGreatDoor.Sym
set_option maxRecDepth 100000
structure OrOk (q:T_api_Oracle):Prop where
 dev:DevOk q.Device
 seed:SeedOk q.Device
 obs:ObsOk q.Obs
 tr:SmTr q.Obs.Traces
 inp:q.Obs.Inputs=q.Device.M.Inputs
 v1:1≤q.Votes
 v2:q.Votes≤9
 t1:q.Votes≤q.Tries
 t2:q.Tries≤64
def askL (w:List Int) (votes:Int):Nat→T_api_Device→Int→List (List Int)→T_api_Device×Int×List (List Int)×Option (List Int)
 | 0,d,n,ys=>(d,n,ys,none)
 | k+1,d,n,ys=>if (queryD d w).2.2≠0 then askL w votes k (queryD d w).1 (mdI (n+1)) ys else if (↑((ys++[(queryD d w).2.1]).count (queryD d w).2.1):Int)<votes then askL w votes k (queryD d w).1 (mdI (n+1)) (ys++[(queryD d w).2.1]) else ((queryD d w).1,mdI (n+1),ys++[(queryD d w).2.1],some (queryD d w).2.1)
def askR (q:T_api_Oracle) (w:List Int):T_api_Device×Int×List (List Int)×Option (List Int):=askL w q.Votes q.Tries.toNat q.Device q.Asked []
def askE (q:T_api_Oracle) (w:List Int) (r:T_api_Device×Int×List (List Int)×Option (List Int)):T_api_Oracle×List Int×Int :=
 match r.2.2.2 with
 | none=>(⟨r.1,q.Obs,q.Votes,q.Tries,r.2.1,q.Hits⟩,[],if r.2.2.1=[] then 14 else 13)
 | some out=>if (addO q.Obs ⟨w,out⟩).2≠0 then (⟨r.1,q.Obs,q.Votes,q.Tries,r.2.1,q.Hits⟩,[],(addO q.Obs ⟨w,out⟩).2) else (⟨r.1,(addO q.Obs ⟨w,out⟩).1,q.Votes,q.Tries,r.2.1,q.Hits⟩,out,0)
def askO (q:T_api_Oracle) (w:List Int):T_api_Oracle×List Int×Int :=
 if checkI w q.Device.M.Inputs≠0 then (q,[],checkI w q.Device.M.Inputs) else
  match ansO q.Obs w with
  | some r=>(⟨q.Device,q.Obs,q.Votes,q.Tries,q.Asked,mdI (q.Hits+1)⟩,r,0)
  | none=>askE q w (askR q w)
theorem mdI_small {n:Int} (h:inR n):mdI n=n:=by
 unfold inR at h
 unfold mdI
 rw [IntKind.wrap_i64]
 omega
structure TryOk (q:T_api_Oracle) (w:List Int) (d:T_api_Device) (ys:List (List Int)) (i:Int):Prop where
 dev:DevOk d
 seed:SeedOk d
 mac:d.M=q.Device.M
 i0:0≤i
 i1:i≤q.Tries
 len:(↑ys.length:Int)≤i
 wrd:∀ y∈ys,WrdOk y
 few:Few q.Votes ys
section
variable {q:T_api_Oracle} {w:List Int} {d:T_api_Device} {ys:List (List Int)} {i n:Int}
theorem TryOk.out (Q:OrOk q) (hw:checkI w q.Device.M.Inputs=0) (hl:w.length≤1024) (T:TryOk q w d ys i) (h:(queryD d w).2.2=0):WrdOk (queryD d w).2.1∧(queryD d w).2.1.length=w.length∧∀ y∈(queryD d w).2.1,0≤y∧y≤1048576:=by
 have hM:=T.mac
 obtain ⟨_,_,_,k4⟩:=queryD_ok (w:=w) T.dev T.seed (by rw [hM];exact hw)
 obtain ⟨g1,g2⟩:=k4 h
 exact ⟨⟨by omega,fun x hx=>by have:=g2 x hx;unfold inR;omega⟩,g1,g2⟩
theorem TryOk.next (Q:OrOk q) (hw:checkI w q.Device.M.Inputs=0) (hl:w.length≤1024) (T:TryOk q w d ys i) (hi:i<q.Tries):TryOk q w (queryD d w).1 ys (i+1):=by
 have hM:=T.mac
 have h0:=T.i0
 have h1:=T.len
 obtain ⟨k1,k2,k3,_⟩:=queryD_ok (w:=w) T.dev T.seed (by rw [hM];exact hw)
 exact ⟨k1,k2,by rw [k3,hM],by omega,by omega,by omega,T.wrd,T.few⟩
theorem TryOk.more (Q:OrOk q) (hw:checkI w q.Device.M.Inputs=0) (hl:w.length≤1024) (T:TryOk q w d ys i) (hi:i<q.Tries) (h:(queryD d w).2.2=0) (hc:(↑((ys++[(queryD d w).2.1]).count (queryD d w).2.1):Int)<q.Votes):TryOk q w (queryD d w).1 (ys++[(queryD d w).2.1]) (i+1):=by
 have T2:=T.next Q hw hl hi
 have h1:=T.len
 refine ⟨T2.dev,T2.seed,T2.mac,T2.i0,T2.i1,by rw [List.length_append,List.length_singleton];omega,fun y hy=>?_,few_add T.few hc⟩
 rcases List.mem_append.1 hy with e | e
 ·exact T.wrd y e
 ·rw [List.mem_singleton.1 e]
  exact (T.out Q hw hl h).1
abbrev TA:Type:=Int×Int×List (List Int)×List (List Int)×Int×Bool×List Int×Int×Int×Int×Int×Int×Int×Int×Int×Int×List (List Int)×List Int×Int×Int
abbrev TR:Type:=Int×Int×List (List Int)×List (List Int)×Int×Bool×List Int×Int×Int×Int×Int×Int×Int×Int×Int×Int×List Int×Int
abbrev tupA (d:T_api_Device) (n:Int) (ys:List (List Int)) (ans:List Int) (code i:Int):TA:=(d.M.Inputs,d.M.Start,d.M.Next,d.M.Out,d.State,d.Ready,d.Latency.Step,d.Latency.Reset,d.Faults.Lost,d.Faults.Wrong,d.Faults.Crash,d.Seed,d.Steps,d.Resets,d.Time,n,ys,ans,code,i)
abbrev tupR (d:T_api_Device) (n:Int) (ans:List Int) (code:Int):TR:=(d.M.Inputs,d.M.Start,d.M.Next,d.M.Out,d.State,d.Ready,d.Latency.Step,d.Latency.Reset,d.Faults.Lost,d.Faults.Wrong,d.Faults.Crash,d.Seed,d.Steps,d.Resets,d.Time,n,ans,code)
abbrev TB:Type:=Int×Int×List (List Int)×List (List Int)×Int×Bool×List Int×Int×Int×Int×Int×Int×Int×Int×Int×Int×List (List Int)×Int
abbrev TC:Type:=Int×Int×List (List Int)×List (List Int)×Int×Bool×List Int×Int×Int×Int×Int×Int×Int×Int×Int×Int×List (List Int)
abbrev tupB (d:T_api_Device) (n:Int) (ys:List (List Int)) (i:Int):TB:=(d.M.Inputs,d.M.Start,d.M.Next,d.M.Out,d.State,d.Ready,d.Latency.Step,d.Latency.Reset,d.Faults.Lost,d.Faults.Wrong,d.Faults.Crash,d.Seed,d.Steps,d.Resets,d.Time,n,ys,i)
abbrev tupC (d:T_api_Device) (n:Int) (ys:List (List Int)):TC:=(d.M.Inputs,d.M.Start,d.M.Next,d.M.Out,d.State,d.Ready,d.Latency.Step,d.Latency.Reset,d.Faults.Lost,d.Faults.Wrong,d.Faults.Crash,d.Seed,d.Steps,d.Resets,d.Time,n,ys)
theorem dev_eta (d:T_api_Device):(⟨⟨d.M.Inputs,d.M.Start,d.M.Next,d.M.Out⟩,d.State,d.Ready,⟨d.Latency.Step,d.Latency.Reset⟩,⟨d.Faults.Lost,d.Faults.Wrong,d.Faults.Crash⟩,d.Seed,d.Steps,d.Resets,d.Time⟩:T_api_Device)=d:=rfl
theorem pa_step {code:Int} (Q:OrOk q) (hw:checkI w q.Device.M.Inputs=0) (hl:w.length≤1024) (T:TryOk q w d ys i) :
  oracle_Ask.s10 w q d.M.Inputs d.M.Start d.M.Next d.M.Out d.State d.Ready d.Latency.Step d.Latency.Reset d.Faults.Lost d.Faults.Wrong d.Faults.Crash d.Seed d.Steps d.Resets d.Time n ys [] code i=some (if i<q.Tries then (if (queryD d w).2.2≠0 then .inl (tupA (queryD d w).1 (mdI (n+1)) ys [] code (mdI (i+1))) else if (↑((ys++[(queryD d w).2.1]).count (queryD d w).2.1):Int)<q.Votes then .inl (tupA (queryD d w).1 (mdI (n+1)) (ys++[(queryD d w).2.1]) [] 13 (mdI (i+1))) else .inr (tupR (queryD d w).1 (mdI (n+1)) (queryD d w).2.1 0)) else .inr (tupR d n [] code)):=by
 have t2:=Q.t2
 have h1:=T.len
 unfold oracle_Ask.s10
 by_cases g:i<q.Tries
 ·rw [if_pos g,decide_eq_true g,cond_true,dev_eta,Query_p T.dev T.seed (by rw [T.mac];exact hw) hl,obind]
  by_cases g1:(queryD d w).2.2≠0
  ·rw [if_pos g1,decide_eq_true g1,cond_true,obind]
   rfl
  ·have g1':(queryD d w).2.2=0:=Classical.byContradiction g1
   have ho:=T.out Q hw hl g1'
   rw [if_neg g1,decide_eq_false g1,cond_false,chk_pos (cap24 (by omega)),nondet_Vote_L_eq ⟨Q.v1,Q.v2⟩ (by rw [List.length_append,List.length_singleton];omega) fun y hy=>?_,obind,voteF_few ys [] _ (by rw [List.nil_append];exact T.few),List.nil_append]
   ·by_cases g2:(↑((ys++[(queryD d w).2.1]).count (queryD d w).2.1):Int)<q.Votes
    ·rw [if_pos g2,if_pos g2]
     rfl
    ·rw [if_neg g2,if_neg g2]
     rfl
   ·rcases List.mem_append.1 hy with e | e
    ·exact T.wrd y e
    ·rw [List.mem_singleton.1 e]
     exact ho.1
 ·rw [if_neg g,decide_eq_false g,cond_false]
theorem pa_iter (Q:OrOk q) (hw:checkI w q.Device.M.Inputs=0) (hl:w.length≤1024):∀ (f:Nat) (k:Nat) (d:T_api_Device) (n:Int) (ys:List (List Int)) (i:Int),TryOk q w d ys i→q.Tries-i=(↑k:Int)→k<f →
  iter (fun s=>oracle_Ask.s10 w q s.1 s.2.1 s.2.2.1 s.2.2.2.1 s.2.2.2.2.1 s.2.2.2.2.2.1 s.2.2.2.2.2.2.1 s.2.2.2.2.2.2.2.1 s.2.2.2.2.2.2.2.2.1 s.2.2.2.2.2.2.2.2.2.1 s.2.2.2.2.2.2.2.2.2.2.1 s.2.2.2.2.2.2.2.2.2.2.2.1 s.2.2.2.2.2.2.2.2.2.2.2.2.1 s.2.2.2.2.2.2.2.2.2.2.2.2.2.1 s.2.2.2.2.2.2.2.2.2.2.2.2.2.2.1 s.2.2.2.2.2.2.2.2.2.2.2.2.2.2.2.1 s.2.2.2.2.2.2.2.2.2.2.2.2.2.2.2.2.1 s.2.2.2.2.2.2.2.2.2.2.2.2.2.2.2.2.2.1 s.2.2.2.2.2.2.2.2.2.2.2.2.2.2.2.2.2.2.1 s.2.2.2.2.2.2.2.2.2.2.2.2.2.2.2.2.2.2.2:TA→Option (TA⊕TR)) f (tupA d n ys [] (if ys=[] then 14 else 13) i)=some (tupR (askL w q.Votes k d n ys).1 (askL w q.Votes k d n ys).2.1 ((askL w q.Votes k d n ys).2.2.2.getD []) (match (askL w q.Votes k d n ys).2.2.2 with | some _=>0 | none=>if (askL w q.Votes k d n ys).2.2.1=[] then 14 else 13))
 | 0,_,_,_,_,_,_,_,h=>absurd h (Nat.not_lt_zero _)
 | f+1,0,d,n,ys,i,T,hk,_=>by
  unfold iter askL
  rw [pa_step Q hw hl T,if_neg (by omega)]
  rfl
 | f+1,k+1,d,n,ys,i,T,hk,hf=>by
  have t2:=Q.t2
  have h0:=T.i0
  unfold iter askL
  rw [pa_step Q hw hl T,if_pos (by omega),mdI_small (n:=i+1) (by unfold inR;omega)]
  by_cases g1:(queryD d w).2.2≠0
  ·rw [if_pos g1,if_pos g1]
   exact pa_iter Q hw hl f k _ _ ys (i+1) (T.next Q hw hl (by omega)) (by omega) (by omega)
  ·have g1':(queryD d w).2.2=0:=Classical.byContradiction g1
   rw [if_neg g1,if_neg g1]
   by_cases g2:(↑((ys++[(queryD d w).2.1]).count (queryD d w).2.1):Int)<q.Votes
   ·rw [if_pos g2,if_pos g2]
    have:=pa_iter Q hw hl f k _ (mdI (n+1)) (ys++[(queryD d w).2.1]) (i+1) (T.more Q hw hl (by omega) g1' g2) (by omega) (by omega)
    rw [if_neg (by simp)] at this
    exact this
   ·rw [if_neg g2,if_neg g2]
    rfl
theorem ra_step (Q:OrOk q) (hw:checkI w q.Device.M.Inputs=0) (hl:w.length≤1024) (T:TryOk q w d ys i) :
  R21_Ask.s10 q w d.M.Inputs d.M.Start d.M.Next d.M.Out d.State d.Ready d.Latency.Step d.Latency.Reset d.Faults.Lost d.Faults.Wrong d.Faults.Crash d.Seed d.Steps d.Resets d.Time n ys i=some (if i<q.Tries then (if (queryD d w).2.2≠0 then .inl (tupB (queryD d w).1 (mdI (n+1)) ys (mdI (i+1))) else if (↑((ys++[(queryD d w).2.1]).count (queryD d w).2.1):Int)<q.Votes then .inl (tupB (queryD d w).1 (mdI (n+1)) (ys++[(queryD d w).2.1]) (mdI (i+1))) else .inr (.inr (askE q w ((queryD d w).1,mdI (n+1),ys++[(queryD d w).2.1],some (queryD d w).2.1)))) else .inr (.inl (tupC d n ys))):=by
 have t2:=Q.t2
 have h1:=T.len
 unfold R21_Ask.s10
 by_cases g:i<q.Tries
 ·rw [if_pos g,decide_eq_true g,cond_true,dev_eta,Query_r T.dev T.seed (by rw [T.mac];exact hw) hl,obind]
  by_cases g1:(queryD d w).2.2≠0
  ·rw [if_pos g1,decide_eq_true g1,cond_true,obind]
   rfl
  ·have g1':(queryD d w).2.2=0:=Classical.byContradiction g1
   have ho:=T.out Q hw hl g1'
   rw [if_neg g1,decide_eq_false g1,cond_false,chk_pos (cap24 (by omega)),R21_times_eq (by rw [List.length_append,List.length_singleton];omega) fun y hy=>?_,obind]
   ·by_cases g2:(↑((ys++[(queryD d w).2.1]).count (queryD d w).2.1):Int)<q.Votes
    ·rw [if_pos g2,decide_eq_true g2]
     rfl
    ·rw [if_neg g2,decide_eq_false g2,cond_false,R16_Add_eq Q.tr Q.obs ⟨show SmW w by unfold SmW;omega,show SmW (queryD d w).2.1 by have:=ho.2.1;unfold SmW;omega⟩,obind]
     unfold askE
     simp only
     by_cases g3:(addO q.Obs ⟨w,(queryD d w).2.1⟩).2≠0
     ·rw [if_pos g3,decide_eq_true g3]
      rfl
     ·rw [if_neg g3,decide_eq_false g3]
      rfl
   ·rcases List.mem_append.1 hy with e | e
    ·have:=(T.wrd y e).1
     omega
    ·rw [List.mem_singleton.1 e]
     have:=ho.1.1
     omega
 ·rw [if_neg g,decide_eq_false g,cond_false]
def askF (q:T_api_Oracle) (w:List Int) (r:T_api_Device×Int×List (List Int)×Option (List Int)):TC⊕(T_api_Oracle×List Int×Int) :=
 match r.2.2.2 with
 | none=>.inl (tupC r.1 r.2.1 r.2.2.1)
 | some _=>.inr (askE q w r)
theorem ra_iter (Q:OrOk q) (hw:checkI w q.Device.M.Inputs=0) (hl:w.length≤1024):∀ (f:Nat) (k:Nat) (d:T_api_Device) (n:Int) (ys:List (List Int)) (i:Int),TryOk q w d ys i→q.Tries-i=(↑k:Int)→k<f →
  iter (fun s=>R21_Ask.s10 q w s.1 s.2.1 s.2.2.1 s.2.2.2.1 s.2.2.2.2.1 s.2.2.2.2.2.1 s.2.2.2.2.2.2.1 s.2.2.2.2.2.2.2.1 s.2.2.2.2.2.2.2.2.1 s.2.2.2.2.2.2.2.2.2.1 s.2.2.2.2.2.2.2.2.2.2.1 s.2.2.2.2.2.2.2.2.2.2.2.1 s.2.2.2.2.2.2.2.2.2.2.2.2.1 s.2.2.2.2.2.2.2.2.2.2.2.2.2.1 s.2.2.2.2.2.2.2.2.2.2.2.2.2.2.1 s.2.2.2.2.2.2.2.2.2.2.2.2.2.2.2.1 s.2.2.2.2.2.2.2.2.2.2.2.2.2.2.2.2.1 s.2.2.2.2.2.2.2.2.2.2.2.2.2.2.2.2.2:TB→Option (TB⊕(TC⊕(T_api_Oracle×List Int×Int)))) f (tupB d n ys i)=some (askF q w (askL w q.Votes k d n ys))
 | 0,_,_,_,_,_,_,_,h=>absurd h (Nat.not_lt_zero _)
 | f+1,0,d,n,ys,i,T,hk,_=>by
  unfold iter askL
  rw [ra_step Q hw hl T,if_neg (by omega)]
  rfl
 | f+1,k+1,d,n,ys,i,T,hk,hf=>by
  have t2:=Q.t2
  have h0:=T.i0
  unfold iter askL
  rw [ra_step Q hw hl T,if_pos (by omega),mdI_small (n:=i+1) (by unfold inR;omega)]
  by_cases g1:(queryD d w).2.2≠0
  ·rw [if_pos g1,if_pos g1]
   exact ra_iter Q hw hl f k _ _ ys (i+1) (T.next Q hw hl (by omega)) (by omega) (by omega)
  ·have g1':(queryD d w).2.2=0:=Classical.byContradiction g1
   rw [if_neg g1,if_neg g1]
   by_cases g2:(↑((ys++[(queryD d w).2.1]).count (queryD d w).2.1):Int)<q.Votes
   ·rw [if_pos g2,if_pos g2]
    exact ra_iter Q hw hl f k _ (mdI (n+1)) (ys++[(queryD d w).2.1]) (i+1) (T.more Q hw hl (by omega) g1' g2) (by omega) (by omega)
   ·rw [if_neg g2,if_neg g2]
    rfl
theorem try_first (Q:OrOk q):TryOk q w q.Device [] 0:=⟨Q.dev,Q.seed,rfl,by decide,by have:=Q.v1;have:=Q.t1;omega,by simp,fun y hy=>by simp at hy,few_nil Q.v1⟩
theorem askL_out (Q:OrOk q) (hw:checkI w q.Device.M.Inputs=0) (hl:w.length≤1024):∀ (k:Nat) (d:T_api_Device) (n:Int) (ys:List (List Int)) (i:Int),TryOk q w d ys i→q.Tries-i=(↑k:Int) →
  DevOk (askL w q.Votes k d n ys).1∧SeedOk (askL w q.Votes k d n ys).1∧(askL w q.Votes k d n ys).1.M=q.Device.M∧∀ out,(askL w q.Votes k d n ys).2.2.2=some out→out.length=w.length∧∀ y∈out,0≤y∧y≤1048576
 | 0,d,n,ys,i,T,_=>⟨T.dev,T.seed,T.mac,fun out h=>by cases h⟩
 | k+1,d,n,ys,i,T,hk=>by
  unfold askL
  by_cases g1:(queryD d w).2.2≠0
  ·rw [if_pos g1]
   exact askL_out Q hw hl k _ _ ys (i+1) (T.next Q hw hl (by omega)) (by omega)
  ·have g1':(queryD d w).2.2=0:=Classical.byContradiction g1
   rw [if_neg g1]
   by_cases g2:(↑((ys++[(queryD d w).2.1]).count (queryD d w).2.1):Int)<q.Votes
   ·rw [if_pos g2]
    exact askL_out Q hw hl k _ _ _ (i+1) (T.more Q hw hl (by omega) g1' g2) (by omega)
   ·rw [if_neg g2]
    have T2:=T.next Q hw hl (by omega)
    refine ⟨T2.dev,T2.seed,T2.mac,fun out h=>?_⟩
    have h:some (queryD d w).2.1=some out:=h
    injection h with h
    rw [← h]
    exact (T.out Q hw hl g1').2
theorem Ask_p (Q:OrOk q) (hl:w.length≤100000):oracle_Ask q w=some (askO q w):=by
 have hsw:SmW w:=by unfold SmW;omega
 have hf:=fuel_big
 have t2:=Q.t2
 have hk:q.Tries-0=(↑q.Tries.toNat:Int):=by have:=Q.v1;have:=Q.t1;omega
 unfold oracle_Ask askO
 rw [word_Check_eq _ _ hsw,obind]
 by_cases hw:checkI w q.Device.M.Inputs=0
 ·have hl2:w.length≤1024:=by
   have i1:=Q.dev.mac.i1
   have i2:=Q.dev.mac.i2
   unfold checkI at hw
   rw [if_pos (by omega)] at hw
   split at hw
   ·cases hw
   ·omega
  rw [if_neg (by simpa using hw),hw,decide_eq_false (by decide),cond_false,oracle_copied_eq Q.dev Q.tr,obind,observe_Answer_eq Q.tr Q.obs,obind]
  cases ha:ansO q.Obs w with
  | some r =>
   have hr:SmW r:=by
    unfold ansO at ha
    split at ha
    ·injection ha with ha
     rw [← ha]
     unfold SmW
     simp
    ·cases hf:q.Obs.Traces.find? fun t=>decide (w <+: t.In) with
     | none=>rw [hf] at ha;cases ha
     | some t =>
      rw [hf] at ha
      injection ha with ha
      rw [← ha]
      unfold SmW
      simp only [List.length_take]
      omega
   simp only [cond_true]
   rw [libclone_word hr,obind]
  | none =>
   simp only [cond_false]
   obtain ⟨o1,o2,o3,o4⟩:=askL_out Q hw hl2 q.Tries.toNat q.Device q.Asked [] 0 (try_first Q) hk
   have key:=pa_iter Q hw hl2 fuel q.Tries.toNat q.Device q.Asked [] 0 (try_first Q) hk (by omega)
   rw [if_pos rfl] at key
   refine (congrArg (fun z=>Option.bind z _) key).trans ?_
   rw [obind]
   show _=some (askE q w (askL w q.Votes q.Tries.toNat q.Device q.Asked []))
   unfold askE
   generalize askL w q.Votes q.Tries.toNat q.Device q.Asked []=r at o4
   obtain ⟨d',n',ys',res⟩:=r
   simp only [oracle_Ask.k11] at o4 ⊢
   cases res with
   | none =>
    simp only
    rw [decide_eq_true (by split<;>decide),cond_true]
   | some out =>
    obtain ⟨p1,p2⟩:=o4 out rfl
    have hso:SmW out:=by unfold SmW;omega
    simp only [Option.getD_some]
    rw [decide_eq_false (by decide),cond_false,libclone_word hsw,obind,libclone_word hso,obind,observe_Add_eq Q.tr Q.obs ⟨hsw,hso⟩,obind]
    by_cases g3:(addO q.Obs ⟨w,out⟩).2≠0
    ·rw [if_pos g3,decide_eq_true g3]
     rfl
    ·rw [if_neg g3,decide_eq_false g3]
     rfl
 ·rw [if_pos hw,decide_eq_true hw]
  rfl
theorem Ask_r (Q:OrOk q) (hl:w.length≤100000):R21_Ask q w=some (askO q w):=by
 have hsw:SmW w:=by unfold SmW;omega
 have hf:=fuel_big
 have t2:=Q.t2
 have hk:q.Tries-0=(↑q.Tries.toNat:Int):=by have:=Q.v1;have:=Q.t1;omega
 unfold R21_Ask askO
 rw [R01_Check_eq _ _ hsw,obind]
 by_cases hw:checkI w q.Device.M.Inputs=0
 ·have hl2:w.length≤1024:=by
   have i1:=Q.dev.mac.i1
   have i2:=Q.dev.mac.i2
   unfold checkI at hw
   rw [if_pos (by omega)] at hw
   split at hw
   ·cases hw
   ·omega
  rw [if_neg (by simpa using hw),hw,decide_eq_false (by decide),cond_false,R16_Answer_eq' Q.tr Q.obs,obind]
  cases ha:ansO q.Obs w with
  | some r =>
   have hr:SmW r:=by
    unfold ansO at ha
    split at ha
    ·injection ha with ha
     rw [← ha]
     unfold SmW
     simp
    ·cases hf:q.Obs.Traces.find? fun t=>decide (w <+: t.In) with
     | none=>rw [hf] at ha;cases ha
     | some t =>
      rw [hf] at ha
      injection ha with ha
      rw [← ha]
      unfold SmW
      simp only [List.length_take]
      omega
   rfl
  | none =>
   simp only [cond_false]
   obtain ⟨o1,o2,o3,o4⟩:=askL_out Q hw hl2 q.Tries.toNat q.Device q.Asked [] 0 (try_first Q) hk
   have key:=ra_iter Q hw hl2 fuel q.Tries.toNat q.Device q.Asked [] 0 (try_first Q) hk (by omega)
   refine (congrArg (fun z=>Option.bind z _) key).trans ?_
   rw [obind]
   show _=some (askE q w (askL w q.Votes q.Tries.toNat q.Device q.Asked []))
   unfold askF
   generalize askL w q.Votes q.Tries.toNat q.Device q.Asked []=r
   obtain ⟨d',n',ys',res⟩:=r
   cases res with
   | none =>
    simp only [Sum.elim_inl,R21_Ask.k11,askE]
    cases ys' with
    | nil=>rfl
    | cons y ys' =>
     rw [decide_eq_true (by simp only [List.length_cons];omega)]
     rfl
   | some out=>rfl
 ·rw [if_pos hw,decide_eq_true hw]
  rfl
end
end Go.Proofs.YtajipjnfegmlcaaGreatDoor.Sym

/-
 The examples of the chapter on oracles, reckoned.
-/
namespace Go.Proofs.YtajipjnfegmlcaaGreatDoor.Sym
set_option maxRecDepth 100000
theorem awake21_true:L21_awake=some true:=by decide +kernel
end Go.Proofs.YtajipjnfegmlcaaGreatDoor.Sym

/-
 Oracles: the plain laws of OracleAsks and OracleTries.
-/
namespace Go.Proofs.YtajipjnfegmlcaaGreatDoor.Sym
set_option maxRecDepth 100000
structure SmQ (q:T_api_Oracle):Prop where
 n:q.Device.M.Next.length≤2000000
 s:q.Device.Latency.Step.length≤2000000
 o:SmO q.Obs
 seed:SeedOk q.Device
theorem L16_Great_eq {o:T_api_Obs} (h:o.Traces.length≤2000000):L16_Great o=some (decide (60<o.Traces.length)||!o.Traces.all fun x=>decide (x.In.length≤100∧x.Out.length≤100)):=by
 unfold L16_Great
 by_cases g:60<o.Traces.length
 ·rw [decide_eq_true (by omega),cond_true,decide_eq_true g]
  rfl
 ·rw [decide_eq_false (by omega),cond_false,decide_eq_false g,Bool.false_or]
  have key:=iter_scan (step:=fun s=>L16_Great.s2 o s) (l:=o.Traces) (fun _ x=>if decide (x.In.length≤100∧x.Out.length≤100)=true then none else some true) (fun i x hx=>by
   simp only [L16_Great.s2]
   rw [dec_lt hx,cond_true,idxn_at hx,idxn_at hx]
   by_cases a1:x.In.length≤100
   ·by_cases a2:x.Out.length≤100
    ·rw [decide_eq_false (by omega),cond_false,decide_eq_false (by omega),obind,cond_false,decide_eq_true ⟨a1,a2⟩]
     rfl
    ·rw [decide_eq_false (by omega),cond_false,decide_eq_true (by omega),obind,cond_true,decide_eq_false fun e=>a2 e.2]
     rfl
   ·rw [decide_eq_true (by omega),cond_true,obind,cond_true,decide_eq_false fun e=>a1 e.1]
    rfl) (by
   simp only [L16_Great.s2]
   rw [dec_end]
   rfl) (by omega)
  rw [key,scan_all (p:=fun (x:T_api_Trace)=>decide (x.In.length≤100∧x.Out.length≤100)),obind]
  by_cases h2:(o.Traces.all fun x=>decide (x.In.length≤100∧x.Out.length≤100))=true
  ·rw [if_pos h2,h2]
   rfl
  ·rw [if_neg h2,Bool.not_eq_true _ |>.mp h2]
   rfl
theorem L21_Great_tot {q:T_api_Oracle} (h:SmQ q):∃ b,L21_Great q=some b∧(b=false→q.Obs.Traces.length≤60∧∀ x∈q.Obs.Traces,x.In.length≤100∧x.Out.length≤100):=by
 unfold L21_Great
 by_cases g1:20<(↑q.Device.M.Next.length:Int)
 ·exact ⟨true,by rw [decide_eq_true g1];rfl,fun e=>by cases e⟩
 rw [decide_eq_false g1,cond_false]
 by_cases g2:10<q.Device.M.Inputs
 ·exact ⟨true,by rw [decide_eq_true g2];rfl,fun e=>by cases e⟩
 rw [decide_eq_false g2,cond_false]
 by_cases g3:20<(↑q.Device.Latency.Step.length:Int)
 ·exact ⟨true,by rw [decide_eq_true g3];rfl,fun e=>by cases e⟩
 rw [decide_eq_false g3,cond_false,L16_Great_eq (by have:=h.o.1;omega),obind,obind]
 refine ⟨_,rfl,fun e=>?_⟩
 rw [Bool.or_eq_false_iff] at e
 have e1:=of_decide_eq_false e.1
 refine ⟨by omega,fun x hx=>?_⟩
 have e2:(q.Obs.Traces.all fun x=>decide (x.In.length≤100∧x.Out.length≤100))=true:=by
  have:=e.2
  simpa only [Bool.not_eq_false'] using this
 exact of_decide_eq_true (List.all_eq_true.1 e2 x hx)
theorem R21_Valid_tot {q:T_api_Oracle} (h:SmQ q) (ho:SmO q.Obs):∃ b,R21_Valid q=some b∧(b=true→OrOk q):=by
 obtain ⟨e1,h1,z1⟩:=R19_Valid_tot q.Device (by have:=h.s;omega)
 obtain ⟨e2,h2,z2⟩:=R16_Valid_tot q.Obs ho
 unfold R21_Valid
 rw [h1,obind,h2,obind]
 by_cases g1:e1=0
 ·rw [decide_eq_true g1,cond_true]
  by_cases g2:e2=0
  ·rw [decide_eq_true g2,cond_true]
   by_cases g3:q.Obs.Inputs=q.Device.M.Inputs
   ·rw [decide_eq_true g3,cond_true]
    by_cases g4:1≤q.Votes
    ·rw [decide_eq_true g4,cond_true]
     by_cases g5:q.Votes≤9
     ·rw [decide_eq_true g5,cond_true]
      by_cases g6:q.Votes≤q.Tries
      ·rw [decide_eq_true g6,cond_true,obind]
       exact ⟨_,rfl,fun e=>⟨z1 g1,h.seed,z2 g2,ho.tr,g3,g4,g5,g6,of_decide_eq_true e⟩⟩
      ·exact ⟨false,by rw [decide_eq_false g6];rfl,fun e=>by cases e⟩
     ·exact ⟨false,by rw [decide_eq_false g5];rfl,fun e=>by cases e⟩
    ·exact ⟨false,by rw [decide_eq_false g4];rfl,fun e=>by cases e⟩
   ·exact ⟨false,by rw [decide_eq_false g3];rfl,fun e=>by cases e⟩
  ·exact ⟨false,by rw [decide_eq_false g2];rfl,fun e=>by cases e⟩
 ·exact ⟨false,by rw [decide_eq_false g1];rfl,fun e=>by cases e⟩
theorem R06_SameTraces_self {l:List T_api_Trace} (h:SmTr l):R06_SameTraces l l=some true:=by
 have hl:=h.1
 unfold R06_SameTraces
 have key:=iter_scan (step:=fun s=>R06_SameTraces.s2 l l s) (l:=l) (fun _ _=>(none:Option Bool)) (fun i x hx=>by
  have hs:=h.2 x (List.mem_of_getElem? hx)
  have h1:=hs.1
  have h2:=hs.2
  unfold SmW at h1 h2
  simp only [R06_SameTraces.s2]
  rw [dec_lt hx,cond_true,idxn_at hx,idxn_at hx,R06_Ints_eq _ _ (by omega),obind,decide_eq_true rfl,Bool.not_true,cond_false,idxn_at hx,idxn_at hx,R06_Ints_eq _ _ (by omega),obind,decide_eq_true rfl]
  rfl) (by
  simp only [R06_SameTraces.s2]
  rw [dec_end]
  rfl) (by omega)
 have hn:∀ (m:List T_api_Trace) (j:Nat),scan (fun _ _=>(none:Option Bool)) j m=none:=by
  intro m
  induction m with
  | nil=>intro j;rfl
  | cons x m ih =>
   intro j
   unfold scan
   exact ih _
 rw [key,hn,decide_eq_false (by simp),cond_false]
 rfl
theorem R16_Same_self {o:T_api_Obs} (h:SmTr o.Traces):R16_Same o o=some true:=by
 unfold R16_Same
 rw [decide_eq_true rfl,cond_true,R06_SameTraces_self h]
 rfl
theorem R06_Same_self {m:T_api_Mealy} (H:MacOk m):R06_Same m m=some true:=by
 have h1:=H.sml.1
 have h2:=H.sml.2
 have l1:=h1.1
 have l2:=h2.1
 unfold R06_Same
 rw [R06_Lists_eq _ _ (by omega) fun x hx=>by have:=h1.2 x hx;unfold SmW at this;omega,R06_Lists_eq _ _ (by omega) fun x hx=>by have:=h2.2 x hx;unfold SmW at this;omega]
 simp
theorem R19_Same_self {d:T_api_Device} (H:DevOk d):R19_Same d d=some true:=by
 unfold R19_Same
 rw [R06_Same_self H.mac,obind,R01_Same_eq _ _ H.sw]
 simp
theorem R21_Same_self {q:T_api_Oracle} (H:DevOk q.Device) (h:SmTr q.Obs.Traces):R21_Same q q=some true:=by
 unfold R21_Same
 rw [R19_Same_self H,obind,R16_Same_self h]
 simp
theorem addO_len {o:T_api_Obs} {t:T_api_Trace}:(addO o t).1.Traces.length≤o.Traces.length+1:=by
 unfold addO
 split
 ·simp only;omega
 ·split
  ·simp only;omega
  ·split
   ·simp only;omega
   ·exact addL_length _ _
theorem addO_tr {o:T_api_Obs} {t:T_api_Trace} (h:SmTr o.Traces) (hn:o.Traces.length≤1000000) (ht:SmX t):SmTr (addO o t).1.Traces:=by
 refine ⟨by have:=addO_len (o:=o) (t:=t);omega,?_⟩
 unfold addO
 split
 ·exact h.2
 ·split
  ·exact h.2
  ·split
   ·exact h.2
   ·intro x hx
    have hx:x∈addL o.Traces t:=hx
    unfold addL at hx
    split at hx
    ·exact h.2 x hx
    ·rcases mem_insT.1 hx with e | e
     ·rw [e]
      exact ht
     ·exact h.2 x (List.filter_sublist.subset e)
theorem addO_inp {o:T_api_Obs} {t:T_api_Trace}:(addO o t).1.Inputs=o.Inputs:=by
 unfold addO
 split
 ·rfl
 ·split
  ·rfl
  ·split<;>rfl
section
variable {q:T_api_Oracle} {w:List Int}
theorem askO_ok (Q:OrOk q) (hn:q.Obs.Traces.length≤9000) (hl:w.length≤100000):OrOk (askO q w).1∧(askO q w).1.Obs.Traces.length≤q.Obs.Traces.length+1∧(askO q w).2.1.length≤2000000:=by
 unfold askO
 by_cases hw:checkI w q.Device.M.Inputs=0
 ·rw [if_neg (by simpa using hw)]
  have hl2:w.length≤1024:=by
   have i1:=Q.dev.mac.i1
   have i2:=Q.dev.mac.i2
   unfold checkI at hw
   rw [if_pos (by omega)] at hw
   split at hw
   ·cases hw
   ·omega
  cases ha:ansO q.Obs w with
  | some r =>
   refine ⟨⟨Q.dev,Q.seed,Q.obs,Q.tr,Q.inp,Q.v1,Q.v2,Q.t1,Q.t2⟩,by simp only;omega,?_⟩
   simp only
   unfold ansO at ha
   split at ha
   ·injection ha with ha
    rw [← ha]
    simp
   ·cases hf:q.Obs.Traces.find? fun t=>decide (w <+: t.In) with
    | none=>rw [hf] at ha;cases ha
    | some t =>
     rw [hf] at ha
     injection ha with ha
     rw [← ha]
     simp only [List.length_take]
     omega
  | none =>
   have hk:q.Tries-0=(↑q.Tries.toNat:Int):=by have:=Q.v1;have:=Q.t1;omega
   obtain ⟨o1,o2,o3,o4⟩:=askL_out Q hw hl2 q.Tries.toNat q.Device q.Asked [] 0 (try_first Q) hk
   simp only
   unfold askR askE
   generalize askL w q.Votes q.Tries.toNat q.Device q.Asked []=r at o1 o2 o3 o4
   obtain ⟨d',n',ys',res⟩:=r
   simp only at o1 o2 o3 o4 ⊢
   cases res with
   | none=>exact ⟨⟨o1,o2,Q.obs,Q.tr,by rw [Q.inp];simp only [o3],Q.v1,Q.v2,Q.t1,Q.t2⟩,by simp only;omega,by simp⟩
   | some out =>
    obtain ⟨p1,p2⟩:=o4 out rfl
    simp only
    split
    ·exact ⟨⟨o1,o2,Q.obs,Q.tr,by rw [Q.inp];simp only [o3],Q.v1,Q.v2,Q.t1,Q.t2⟩,by simp only;omega,by simp⟩
    ·refine ⟨⟨o1,o2,addO_ok Q.obs,addO_tr Q.tr (by omega) ⟨show SmW w by unfold SmW;omega,show SmW out by unfold SmW;omega⟩,by simp only [addO_inp,Q.inp,o3],Q.v1,Q.v2,Q.t1,Q.t2⟩,addO_len,by simp only;omega⟩
 ·rw [if_pos hw]
  exact ⟨Q,by simp only;omega,by simp⟩
end
end Go.Proofs.YtajipjnfegmlcaaGreatDoor.Sym

/-
 What the bound of the laws gives: the sizes of oracles and of observations.
-/
namespace Go.Proofs.YtajipjnfegmlcaaGreatDoor.Sym
theorem sum_mem {α:Type} {f:α→Nat}:∀ {l:List α} {x:α},x∈l→f x≤(l.map f).sum
 | y::l,x,h=>by
  rw [List.map_cons,List.sum_cons]
  rcases List.mem_cons.1 h with rfl | h
  ·omega
  ·have:=sum_mem (f:=f) h
   omega
theorem sum_len {α:Type} {f:α→Nat} (hf:∀ x,1≤f x):∀ l:List α,l.length≤(l.map f).sum
 | []=>by simp
 | y::l=>by
  have:=sum_len hf l
  have:=hf y
  rw [List.map_cons,List.sum_cons,List.length_cons]
  omega
theorem sz_word {x:List Int}:x.length+1=szL sz1 x:=by
 unfold szL sz1
 induction x with
 | nil=>rfl
 | cons y l ih=>simp at ih ⊢;omega
theorem trace_pos (t:T_api_Trace):1≤sz_api_Trace t:=by unfold sz_api_Trace;omega
theorem smo_of {o:T_api_Obs} (s:sz_api_Obs o≤1048576):SmO o:=by
 unfold sz_api_Obs at s
 have s1:szL sz_api_Trace o.Traces≤1048576:=by omega
 refine ⟨?_,fun t ht=>?_⟩
 ·have:=sum_len (f:=sz_api_Trace) trace_pos o.Traces
  unfold szL at s1
  omega
 ·have h1:=sum_mem (f:=sz_api_Trace) ht
  have h2:=sz_word (x:=t.In)
  have h3:=sz_word (x:=t.Out)
  have h4:(o.Traces.map sz_api_Trace).sum+1≤1048576:=s1
  have h5:sz_api_Trace t=(szL sz1 t.In+(szL sz1 t.Out+0))+1:=rfl
  omega
theorem len_of {l:List (List Int)} {N:Nat} (h:szL (szL sz1) l≤N):l.length≤N:=by
 have:=sum_len (f:=szL sz1) (fun x=>by rw [← sz_word];omega) l
 unfold szL at this h
 omega
theorem smq_of {q:T_api_Oracle} (k:ok_api_Oracle q) (s:sz_api_Oracle q≤1048576):SmQ q:=by
 unfold sz_api_Oracle at s
 have s1:sz_api_Device q.Device≤1048576:=by omega
 have s2:sz_api_Obs q.Obs≤1048576:=by omega
 have ho:=smo_of s2
 unfold sz_api_Device at s1
 have s3:sz_api_Mealy q.Device.M≤1048576:=by omega
 have s4:sz_api_Latency q.Device.Latency≤1048576:=by omega
 unfold sz_api_Mealy at s3
 unfold sz_api_Latency at s4
 have h1:q.Device.M.Next.length≤1048576:=len_of (by omega)
 have h2:=sz_word (x:=q.Device.Latency.Step)
 exact ⟨by omega,by omega,ho,k.1.2.2.2.2.2.1⟩
end Go.Proofs.YtajipjnfegmlcaaGreatDoor.Sym

/-
 Oracles: the plain law of OracleAll.
-/
namespace Go.Proofs.YtajipjnfegmlcaaGreatDoor.Sym
set_option maxRecDepth 100000
def firstE (n:Int) (ws:List (List Int)):Option Int:=scan (fun _ w=>if checkI w n≠0 then some (checkI w n) else none) 0 ws
theorem firstE_none {n:Int} {ws:List (List Int)} (h:firstE n ws=none):∀ w∈ws,checkI w n=0:=fun w hw=>by
 obtain ⟨i,hi⟩:=List.mem_iff_getElem?.1 hw
 have:=scan_none.1 h i w hi
 split at this
 ·cases this
 ·rename_i g
  exact Classical.byContradiction g
def openL (o:T_api_Obs) (ws:List (List Int)):List (List Int):=ws.filter fun w=>(ansO o w).isNone
def allL:T_api_Oracle→List (List Int)→T_api_Oracle×Int
 | q,[]=>(q,0)
 | q,w::r=>if (askO q w).2.2≠0 then ((askO q w).1,(askO q w).2.2) else allL (askO q w).1 r
def allO (q:T_api_Oracle) (ws:List (List Int)):T_api_Oracle×Int :=
 match firstE q.Device.M.Inputs ws with
 | some e=>(q,e)
 | none=>allL q (maxR (openL q.Obs ws))
theorem tw_snd (x:Option (List Int)):(!(tw x).2)=x.isNone:=by cases x<;>rfl
theorem open_step {o:T_api_Obs} {ws:List (List Int)} {i:Nat} {w:List Int} (h:ws[i]?=some w):openL o (ws.take (i+1))=openL o (ws.take i)++(if (ansO o w).isNone=true then [w] else []):=by
 unfold openL
 rw [take_step h,List.filter_append,List.filter_cons]
 split<;>rfl
section
variable {q:T_api_Oracle} {ws:List (List Int)}
theorem openL_sml {o:T_api_Obs} (hw:SmL ws):SmL (openL o ws):=⟨Nat.le_trans (List.length_filter_le _ _) hw.1,fun x hx=>hw.2 x (List.filter_sublist.subset hx)⟩
theorem batch_Plan_eq {o:T_api_Obs} (ho:SmTr o.Traces) (hv:ObsOk o) (hw:SmL ws) (hc:∀ w∈ws,checkI w o.Inputs=0):batch_Plan o ws=some (maxR (openL o ws),0):=by
 have hl:=hw.1
 unfold batch_Plan
 have key1:=iter_scan (step:=fun s=>batch_Plan.s2 o ws s) (l:=ws) (fun _ _=>(none:Option (List (List Int)×Int))) (fun i x hx=>by
  simp only [batch_Plan.s2]
  have hm:=List.mem_of_getElem? hx
  rw [dec_lt hx,cond_true,idxn_at hx,word_Check_eq _ _ (hw.2 x hm),obind,hc x hm]
  rfl) (by
  simp only [batch_Plan.s2]
  rw [dec_end]
  rfl) (by omega)
 have hn:∀ (m:List (List Int)) (j:Nat),scan (fun _ _=>(none:Option (List (List Int)×Int))) j m=none:=by
  intro m
  induction m with
  | nil=>intro j;rfl
  | cons x m ih=>intro j;unfold scan;exact ih _
 rw [key1,hn,obind]
 simp only [Sum.elim_inl]
 rw [chk_pos ⟨by decide,by omega,by rw [Int.toNat_natCast];exact cap24 (by omega)⟩]
 have key:=iter_post (step:=fun (s:List (List Int)×Nat)=>batch_Plan.s4 o ws s.1 s.2) (fun s=>s.2≤ws.length∧s.1.length≤s.2∧s.1=openL o (ws.take s.2)) (fun s=>ws.length-s.2) (fun r=>r=openL o ws) (fun ⟨y,i⟩ ⟨g1,g2,g3⟩=>by
  simp only at g1 g2 g3
  simp only [batch_Plan.s4]
  by_cases g4:i<ws.length
  ·left
   have hx:=get_at g4
   rw [dec_lt hx,cond_true,idxn_at hx,observe_Answer_eq ho hv,obind,tw_snd]
   have hst:=open_step (o:=o) hx
   rw [← g3] at hst
   cases hi:(ansO o ws[i]).isNone with
   | true =>
    rw [hi,if_pos rfl] at hst
    exact ⟨(y++[ws[i]],i+1),by rw [cond_true,chk_pos (cap24 (by omega))],⟨g4,by simp only [List.length_append,List.length_singleton];omega,hst.symm⟩,by simp only;omega⟩
   | false =>
    rw [hi,if_neg Bool.false_ne_true,List.append_nil] at hst
    exact ⟨(y,i+1),by rw [cond_false],⟨g4,by simp only;omega,hst.symm⟩,by simp only;omega⟩
  ·right
   have e:i=ws.length:=by omega
   subst e
   rw [List.take_length] at g3
   exact ⟨y,by rw [dec_end,cond_false],g3⟩) fuel ([],0) ⟨Nat.zero_le _,Nat.le_refl _,rfl⟩ (by have:=fuel_big;simp only;omega)
 obtain ⟨r,e,rfl⟩:=key
 rw [e,obind,wordset_Maximal_eq (openL_sml hw),obind]
theorem R20_Plan_eq {o:T_api_Obs} (ho:SmTr o.Traces) (hv:ObsOk o) (hw:SmL ws) (hc:∀ w∈ws,checkI w o.Inputs=0):R20_Plan o ws=some (maxR (openL o ws),0):=by
 have hl:=hw.1
 unfold R20_Plan R20_check
 have key1:=iter_scan (step:=fun s=>R20_check.s2 ws o.Inputs s) (l:=ws) (fun _ _=>(none:Option Int)) (fun i x hx=>by
  simp only [R20_check.s2]
  have hm:=List.mem_of_getElem? hx
  rw [dec_lt hx,cond_true,idxn_at hx,R01_Check_eq _ _ (hw.2 x hm),obind,hc x hm]
  rfl) (by
  simp only [R20_check.s2]
  rw [dec_end]
  rfl) (by omega)
 have hn:∀ (m:List (List Int)) (j:Nat),scan (fun _ _=>(none:Option Int)) j m=none:=by
  intro m
  induction m with
  | nil=>intro j;rfl
  | cons x m ih=>intro j;unfold scan;exact ih _
 rw [key1,hn,obind]
 simp only [Sum.elim_inl]
 rw [obind,decide_eq_false (by decide),cond_false]
 have key:=iter_post (step:=fun (s:List (List Int)×Nat)=>R20_Plan.s2 o ws s.1 s.2) (fun s=>s.2≤ws.length∧s.1.length≤s.2∧s.1=openL o (ws.take s.2)) (fun s=>ws.length-s.2) (fun r=>r=openL o ws) (fun ⟨y,i⟩ ⟨g1,g2,g3⟩=>by
  simp only at g1 g2 g3
  simp only [R20_Plan.s2]
  by_cases g4:i<ws.length
  ·left
   have hx:=get_at g4
   rw [dec_lt hx,cond_true,idxn_at hx,R16_Answer_eq' ho hv,obind,tw_snd]
   have hst:=open_step (o:=o) hx
   rw [← g3] at hst
   cases hi:(ansO o ws[i]).isNone with
   | true =>
    rw [hi,if_pos rfl] at hst
    exact ⟨(y++[ws[i]],i+1),by rw [cond_true,idxn_at hx,chk_pos (cap24 (by omega))],⟨g4,by simp only [List.length_append,List.length_singleton];omega,hst.symm⟩,by simp only;omega⟩
   | false =>
    rw [hi,if_neg Bool.false_ne_true,List.append_nil] at hst
    exact ⟨(y,i+1),by rw [cond_false],⟨g4,by simp only;omega,hst.symm⟩,by simp only;omega⟩
  ·right
   have e:i=ws.length:=by omega
   subst e
   rw [List.take_length] at g3
   exact ⟨y,by rw [dec_end,cond_false],g3⟩) fuel ([],0) ⟨Nat.zero_le _,Nat.le_refl _,rfl⟩ (by have:=fuel_big;simp only;omega)
 obtain ⟨r,e,rfl⟩:=key
 rw [e,obind,R02_Maximal_eq (openL_sml hw),obind]
abbrev TQ:Type:=Int×Int×List (List Int)×List (List Int)×Int×Bool×List Int×Int×Int×Int×Int×Int×Int×Int×Int×Int×List T_api_Trace×Int×Int×Int×Int×Nat
abbrev TE:Type:=Int×Int×List (List Int)×List (List Int)×Int×Bool×List Int×Int×Int×Int×Int×Int×Int×Int×Int×Int×List T_api_Trace×Int×Int×Int×Int
abbrev tupQ (q:T_api_Oracle) (i:Nat):TQ:=(q.Device.M.Inputs,q.Device.M.Start,q.Device.M.Next,q.Device.M.Out,q.Device.State,q.Device.Ready,q.Device.Latency.Step,q.Device.Latency.Reset,q.Device.Faults.Lost,q.Device.Faults.Wrong,q.Device.Faults.Crash,q.Device.Seed,q.Device.Steps,q.Device.Resets,q.Device.Time,q.Obs.Inputs,q.Obs.Traces,q.Votes,q.Tries,q.Asked,q.Hits,i)
abbrev tupE (q:T_api_Oracle):TE:=(q.Device.M.Inputs,q.Device.M.Start,q.Device.M.Next,q.Device.M.Out,q.Device.State,q.Device.Ready,q.Device.Latency.Step,q.Device.Latency.Reset,q.Device.Faults.Lost,q.Device.Faults.Wrong,q.Device.Faults.Crash,q.Device.Seed,q.Device.Steps,q.Device.Resets,q.Device.Time,q.Obs.Inputs,q.Obs.Traces,q.Votes,q.Tries,q.Asked,q.Hits)
def allF (r:T_api_Oracle×Int):TE⊕(T_api_Oracle×Int):=if r.2=0 then .inl (tupE r.1) else .inr r
theorem all_iter {S2:TQ→Option (TQ⊕(TE⊕(T_api_Oracle×Int)))} {L:List (List Int)}
  (h1:∀ (q:T_api_Oracle) (i:Nat) (w:List Int),OrOk q→L[i]?=some w→S2 (tupQ q i)=some (if (askO q w).2.2≠0 then .inr (.inr ((askO q w).1,(askO q w).2.2)) else .inl (tupQ (askO q w).1 (i+1))))
  (h2:∀ q,S2 (tupQ q L.length)=some (.inr (.inl (tupE q)))) (hw:∀ w∈L,w.length≤100000) :
  ∀ (n i:Nat) (q:T_api_Oracle),OrOk q→q.Obs.Traces.length+(L.length-i)≤8000→i≤L.length→L.length-i<n →
   iter S2 n (tupQ q i)=some (allF (allL q (L.drop i)))∧OrOk (allL q (L.drop i)).1
 | 0,_,_,_,_,_,h=>absurd h (Nat.not_lt_zero _)
 | n+1,i,q,Q,hs,hi,hn=>by
  unfold iter
  rcases Nat.lt_or_ge i L.length with h | h
  ·have hx:=get_at h
   rw [h1 q i _ Q hx,List.drop_eq_getElem_cons h]
   obtain ⟨k1,k2,_⟩:=askO_ok (w:=L[i]) Q (by omega) (hw _ (List.getElem_mem h))
   unfold allL
   by_cases g:(askO q L[i]).2.2≠0
   ·rw [if_pos g,if_pos g]
    unfold allF
    rw [if_neg g]
    exact ⟨rfl,k1⟩
   ·rw [if_neg g,if_neg g]
    exact all_iter h1 h2 hw n (i+1) _ k1 (by omega) h (by omega)
  ·have e:i=L.length:=by omega
   subst e
   rw [h2,List.drop_length]
   exact ⟨rfl,Q⟩
theorem All_eq (Q:OrOk q) (hl:ws.length≤1000) (hw:∀ w∈ws,w.length≤1000) (ht:q.Obs.Traces.length≤1000):oracle_All q ws=some (allO q ws)∧R21_All q ws=some (allO q ws)∧OrOk (allO q ws).1:=by
 have hsm:SmL ws:=⟨by omega,fun w h=>by have:=hw w h;unfold SmW;omega⟩
 have hf:=fuel_big
 unfold oracle_All R21_All allO
 rw [decide_eq_false (by omega),cond_false,cond_false]
 have key1:=iter_scan (step:=fun s=>oracle_All.s2 q ws s) (l:=ws) (fun _ w=>if checkI w q.Device.M.Inputs≠0 then some (q,checkI w q.Device.M.Inputs) else none) (fun i x hx=>by
  simp only [oracle_All.s2]
  rw [dec_lt hx,cond_true,idxn_at hx,word_Check_eq _ _ (hsm.2 x (List.mem_of_getElem? hx)),obind]
  by_cases g:checkI x q.Device.M.Inputs≠0
  ·rw [if_pos g,decide_eq_true g]
   rfl
  ·rw [if_neg g,decide_eq_false g]
   rfl) (by
  simp only [oracle_All.s2]
  rw [dec_end]
  rfl) (by omega)
 have key2:=iter_scan (step:=fun s=>R21_All.s2 q ws s) (l:=ws) (fun _ w=>if checkI w q.Device.M.Inputs≠0 then some (q,checkI w q.Device.M.Inputs) else none) (fun i x hx=>by
  simp only [R21_All.s2]
  rw [dec_lt hx,cond_true,idxn_at hx,R01_Check_eq _ _ (hsm.2 x (List.mem_of_getElem? hx)),obind]
  by_cases g:checkI x q.Device.M.Inputs≠0
  ·rw [if_pos g,decide_eq_true g]
   rfl
  ·rw [if_neg g,decide_eq_false g]
   rfl) (by
  simp only [R21_All.s2]
  rw [dec_end]
  rfl) (by omega)
 have hsc:∀ (l:List (List Int)) (j:Nat),scan (fun _ w=>if checkI w q.Device.M.Inputs≠0 then some (q,checkI w q.Device.M.Inputs) else none) j l=(scan (fun _ w=>if checkI w q.Device.M.Inputs≠0 then some (checkI w q.Device.M.Inputs) else none) j l).map fun e=>(q,e):=by
  intro l
  induction l with
  | nil=>intro j;rfl
  | cons x l ih =>
   intro j
   unfold scan
   by_cases g:checkI x q.Device.M.Inputs≠0
   ·rw [if_pos g,if_pos g]
    rfl
   ·rw [if_neg g,if_neg g]
    exact ih _
 rw [key1,key2,hsc]
 unfold firstE
 cases hE:scan (fun _ w=>if checkI w q.Device.M.Inputs≠0 then some (checkI w q.Device.M.Inputs) else none) 0 ws with
 | some e=>exact ⟨rfl,rfl,Q⟩
 | none =>
  have hc:∀ w∈ws,checkI w q.Obs.Inputs=0:=fun w hw=>by
   rw [Q.inp]
   exact firstE_none hE w hw
  simp only [Option.map_none,obind,Sum.elim_inl]
  rw [batch_Plan_eq Q.tr Q.obs hsm hc,R20_Plan_eq Q.tr Q.obs hsm hc,obind,obind,decide_eq_false (fun h=>h rfl),cond_false,cond_false]
  have hml:(maxR (openL q.Obs ws)).length≤ws.length:=Nat.le_trans (maxR_length _) (List.length_filter_le _ _)
  have hmw:∀ w∈maxR (openL q.Obs ws),w.length≤100000:=fun w h=>by
   have:=hw w (List.filter_sublist.subset (mem_maxR h))
   omega
  have A:=all_iter (L:=maxR (openL q.Obs ws)) (S2:=fun s=>oracle_All.s4 (maxR (openL q.Obs ws),0) s.1 s.2.1 s.2.2.1 s.2.2.2.1 s.2.2.2.2.1 s.2.2.2.2.2.1 s.2.2.2.2.2.2.1 s.2.2.2.2.2.2.2.1 s.2.2.2.2.2.2.2.2.1 s.2.2.2.2.2.2.2.2.2.1 s.2.2.2.2.2.2.2.2.2.2.1 s.2.2.2.2.2.2.2.2.2.2.2.1 s.2.2.2.2.2.2.2.2.2.2.2.2.1 s.2.2.2.2.2.2.2.2.2.2.2.2.2.1 s.2.2.2.2.2.2.2.2.2.2.2.2.2.2.1 s.2.2.2.2.2.2.2.2.2.2.2.2.2.2.2.1 s.2.2.2.2.2.2.2.2.2.2.2.2.2.2.2.2.1 s.2.2.2.2.2.2.2.2.2.2.2.2.2.2.2.2.2.1 s.2.2.2.2.2.2.2.2.2.2.2.2.2.2.2.2.2.2.1 s.2.2.2.2.2.2.2.2.2.2.2.2.2.2.2.2.2.2.2.1 s.2.2.2.2.2.2.2.2.2.2.2.2.2.2.2.2.2.2.2.2.1 s.2.2.2.2.2.2.2.2.2.2.2.2.2.2.2.2.2.2.2.2.2) (fun q' i w Q' hx=>by
   show oracle_All.s4 (maxR (openL q.Obs ws),0) _ _ _ _ _ _ _ _ _ _ _ _ _ _ _ _ _ _ _ _ _ _=_
   unfold oracle_All.s4
   simp only
   rw [dec_lt hx,cond_true,idxn_at hx]
   have he:(⟨⟨⟨q'.Device.M.Inputs,q'.Device.M.Start,q'.Device.M.Next,q'.Device.M.Out⟩,q'.Device.State,q'.Device.Ready,⟨q'.Device.Latency.Step,q'.Device.Latency.Reset⟩,⟨q'.Device.Faults.Lost,q'.Device.Faults.Wrong,q'.Device.Faults.Crash⟩,q'.Device.Seed,q'.Device.Steps,q'.Device.Resets,q'.Device.Time⟩,⟨q'.Obs.Inputs,q'.Obs.Traces⟩,q'.Votes,q'.Tries,q'.Asked,q'.Hits⟩:T_api_Oracle)=q':=rfl
   rw [he,Ask_p Q' (hmw w (List.mem_of_getElem? hx)),obind]
   by_cases g:(askO q' w).2.2≠0
   ·rw [if_pos g,decide_eq_true g]
    rfl
   ·rw [if_neg g,decide_eq_false g]
    rfl) (fun q'=>by
   show oracle_All.s4 (maxR (openL q.Obs ws),0) _ _ _ _ _ _ _ _ _ _ _ _ _ _ _ _ _ _ _ _ _ _=_
   unfold oracle_All.s4
   simp only
   rw [dec_end,cond_false]) hmw fuel 0 q Q (by omega) (Nat.zero_le _) (by omega)
  have B:=all_iter (L:=maxR (openL q.Obs ws)) (S2:=fun s=>R21_All.s4 (maxR (openL q.Obs ws),0) s.1 s.2.1 s.2.2.1 s.2.2.2.1 s.2.2.2.2.1 s.2.2.2.2.2.1 s.2.2.2.2.2.2.1 s.2.2.2.2.2.2.2.1 s.2.2.2.2.2.2.2.2.1 s.2.2.2.2.2.2.2.2.2.1 s.2.2.2.2.2.2.2.2.2.2.1 s.2.2.2.2.2.2.2.2.2.2.2.1 s.2.2.2.2.2.2.2.2.2.2.2.2.1 s.2.2.2.2.2.2.2.2.2.2.2.2.2.1 s.2.2.2.2.2.2.2.2.2.2.2.2.2.2.1 s.2.2.2.2.2.2.2.2.2.2.2.2.2.2.2.1 s.2.2.2.2.2.2.2.2.2.2.2.2.2.2.2.2.1 s.2.2.2.2.2.2.2.2.2.2.2.2.2.2.2.2.2.1 s.2.2.2.2.2.2.2.2.2.2.2.2.2.2.2.2.2.2.1 s.2.2.2.2.2.2.2.2.2.2.2.2.2.2.2.2.2.2.2.1 s.2.2.2.2.2.2.2.2.2.2.2.2.2.2.2.2.2.2.2.2.1 s.2.2.2.2.2.2.2.2.2.2.2.2.2.2.2.2.2.2.2.2.2) (fun q' i w Q' hx=>by
   show R21_All.s4 (maxR (openL q.Obs ws),0) _ _ _ _ _ _ _ _ _ _ _ _ _ _ _ _ _ _ _ _ _ _=_
   unfold R21_All.s4
   simp only
   rw [dec_lt hx,cond_true,idxn_at hx]
   have he:(⟨⟨⟨q'.Device.M.Inputs,q'.Device.M.Start,q'.Device.M.Next,q'.Device.M.Out⟩,q'.Device.State,q'.Device.Ready,⟨q'.Device.Latency.Step,q'.Device.Latency.Reset⟩,⟨q'.Device.Faults.Lost,q'.Device.Faults.Wrong,q'.Device.Faults.Crash⟩,q'.Device.Seed,q'.Device.Steps,q'.Device.Resets,q'.Device.Time⟩,⟨q'.Obs.Inputs,q'.Obs.Traces⟩,q'.Votes,q'.Tries,q'.Asked,q'.Hits⟩:T_api_Oracle)=q':=rfl
   rw [he,Ask_r Q' (hmw w (List.mem_of_getElem? hx)),obind]
   by_cases g:(askO q' w).2.2≠0
   ·rw [if_pos g,decide_eq_true g]
    rfl
   ·rw [if_neg g,decide_eq_false g]
    rfl) (fun q'=>by
   show R21_All.s4 (maxR (openL q.Obs ws),0) _ _ _ _ _ _ _ _ _ _ _ _ _ _ _ _ _ _ _ _ _ _=_
   unfold R21_All.s4
   simp only
   rw [dec_end,cond_false]) hmw fuel 0 q Q (by omega) (Nat.zero_le _) (by omega)
  rw [List.drop_zero] at A B
  refine ⟨(congrArg (fun z=>Option.bind z _) A.1).trans ?_,(congrArg (fun z=>Option.bind z _) B.1).trans ?_,A.2⟩
  all_goals
   rw [obind]
   unfold allF
   by_cases g:(allL q (maxR (openL q.Obs ws))).2=0
   ·rw [if_pos g]
    simp only [Sum.elim_inl,oracle_All.k5,R21_All.k5]
    rw [← g]
   ·rw [if_neg g]
    rfl
theorem L21_long_tot {l:List (List Int)} (h:l.length≤2000000):∃ b,L21_long l=some b∧(b=false→l.length≤30∧∀ w∈l,w.length≤60):=by
 unfold L21_long
 by_cases g:30<l.length
 ·exact ⟨true,by rw [decide_eq_true (by omega)];rfl,fun e=>by cases e⟩
 rw [decide_eq_false (by omega),cond_false]
 have key:=iter_scan (step:=fun s=>L21_long.s2 l s) (l:=l) (fun _ x=>if decide (x.length≤60)=true then none else some true) (fun i x hx=>by
  simp only [L21_long.s2]
  rw [dec_lt hx,cond_true,idxn_at hx]
  by_cases a1:x.length≤60
  ·rw [decide_eq_false (by omega),cond_false,decide_eq_true a1]
   rfl
  ·rw [decide_eq_true (by omega),cond_true,decide_eq_false a1]
   rfl) (by
  simp only [L21_long.s2]
  rw [dec_end]
  rfl) (by omega)
 rw [key,scan_all (p:=fun (x:List Int)=>decide (x.length≤60)),obind]
 by_cases h2:(l.all fun x=>decide (x.length≤60))=true
 ·rw [if_pos h2]
  exact ⟨false,rfl,fun _=>⟨by omega,fun w hw=>of_decide_eq_true (List.all_eq_true.1 h2 w hw)⟩⟩
 ·rw [if_neg h2]
  exact ⟨true,rfl,fun e=>by cases e⟩
theorem plain_OracleAll (hq:SmQ q) (hl:ws.length≤1048576):L21_OracleAll q ws=some true:=by
 obtain ⟨b,hb,hz⟩:=L21_Great_tot hq
 obtain ⟨c,hc,hcz⟩:=L21_long_tot (l:=ws) (by omega)
 have hA:((L21_awake).bind fun c64=>some c64)=some true:=by rw [awake21_true];rfl
 unfold L21_OracleAll
 rw [hb,obind,hc,hA]
 cases b with
 | true=>rfl
 | false =>
  obtain ⟨h1,_⟩:=hz rfl
  rw [cond_false,obind]
  cases c with
  | true=>rfl
  | false =>
   obtain ⟨h3,h4⟩:=hcz rfl
   obtain ⟨v,hv,hvz⟩:=R21_Valid_tot hq hq.o
   rw [cond_false,hv,obind]
   cases v with
   | false=>rfl
   | true =>
    have Q:=hvz rfl
    obtain ⟨a1,a2,a3⟩:=All_eq (ws:=ws) Q (by omega) (fun w hw=>by have:=h4 w hw;omega) (by omega)
    rw [Bool.not_true,obind,cond_false,a1,obind,a2,obind,R21_Same_self a3.dev a3.tr,obind,cond_true,decide_eq_true rfl]
    rfl
end
end Go.Proofs.YtajipjnfegmlcaaGreatDoor.Sym

/-
 The law of OracleAll, for arguments within the bound.
-/
namespace Go.Proofs.YtajipjnfegmlcaaGreatDoor.Sym
theorem law_L21_OracleAll (x0:T_api_Oracle) (x1:List (List Int)) (k0:ok_api_Oracle x0) (s0:sz_api_Oracle x0≤1048576) (k1:okL (okL inR) x1) (s1:szL (szL sz1) x1≤1048576):L21_OracleAll x0 x1=some true :=
 plain_OracleAll (smq_of k0 s0) (len_of s1)
end Go.Proofs.YtajipjnfegmlcaaGreatDoor.Sym

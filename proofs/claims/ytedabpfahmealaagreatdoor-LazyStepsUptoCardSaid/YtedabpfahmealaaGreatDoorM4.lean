/-
 Observations: what makes them valid, and their answers. Plain laws.
-/
import Derived.Test.YtedabpfahmealaaGreatDoorM3
set_option linter.all false
namespace Go.Proofs.YtedabpfahmealaaGreatDoor.Sym
set_option maxRecDepth 100000
def SmO (o:T_api_Obs):Prop:=o.Traces.length≤1100000∧∀ t∈o.Traces,t.In.length≤1100000∧t.Out.length≤2000000
theorem R01_HasPrefix_eq (w p:List Int) (hw:SmW w):R01_HasPrefix w p=some (decide (p <+: w)):=by
 unfold R01_HasPrefix
 rw [R01_Common_eq w p hw,obind]
 congr 1
 exact decide_eq_decide.2 (by rw [← prefix_iff w p];omega)
theorem word_Common_eq (a b:List Int) (ha:SmW a):word_Common a b=some (common a b:Int):=by
 have ha':a.length≤2000000:=ha
 have hle:=common_le a b
 unfold word_Common
 have key:=iter_post (step:=fun k=>word_Common.s2 a b k) (fun k=>k≤a.length∧k≤b.length∧common a b=common (a.drop k) (b.drop k)+k) (fun k=>a.length-k) (fun r=>Sum.elim (fun (_:Unit)=>some (min (↑(List.length a):Int) (↑(List.length b):Int))) some r=some (common a b:Int)) (fun k ⟨h1,h2,h3⟩=>by
  simp only [word_Common.s2]
  by_cases h4:k<a.length∧k<b.length
  ·have hx:=get_at h4.1
   have hy:=get_at h4.2
   rw [decide_eq_true (show (↑k:Int)<min (↑(List.length a):Int) (↑(List.length b):Int) by omega),cond_true,idxn_at hx,idxn_at hy]
   rw [List.drop_eq_getElem_cons h4.1,List.drop_eq_getElem_cons h4.2] at h3
   by_cases e:a[k]=b[k]
   ·left
    refine ⟨k+1,by simp [e],⟨h4.1,h4.2,?_⟩,by omega⟩
    rw [h3,e]
    simp [common]
    omega
   ·right
    simp only [common,e,if_false,Nat.zero_add] at h3
    exact ⟨.inr (k:Int),by simp [e],by rw [h3];rfl⟩
  ·right
   rw [decide_eq_false (by omega),cond_false]
   refine ⟨.inl (),rfl,?_⟩
   rw [common_end (by omega),Nat.zero_add] at h3
   simp only [Sum.elim_inl]
   congr 1
   omega) fuel 0 ⟨Nat.zero_le _,Nat.zero_le _,by simp⟩ (by have:=fuel_big;omega)
 obtain ⟨r,e,hq⟩:=key
 rw [e]
 exact hq
theorem word_HasPrefix_eq (w p:List Int) (hw:SmW w):word_HasPrefix w p=some (decide (p <+: w)):=by
 unfold word_HasPrefix
 rw [word_Common_eq w p hw,obind]
 congr 1
 exact decide_eq_decide.2 (by rw [← prefix_iff w p];omega)
def PropT (n:Int) (t:T_api_Trace):Prop:=checkI t.In n=0∧t.Out.length=t.In.length∧∀ y∈t.Out,0≤y∧y≤1048576
theorem R16_Proper_tot (t:T_api_Trace) (n:Int) (h1:SmW t.In) (h2:SmW t.Out):∃ e,R16_Proper t n=some e∧(e=0→PropT n t):=by
 unfold R16_Proper
 rw [R01_Check_eq _ _ h1,obind]
 by_cases g1:checkI t.In n=0
 ·rw [decide_eq_false (by simpa using g1),cond_false]
  by_cases g2:t.Out.length=t.In.length
  ·rw [decide_eq_false (by omega),cond_false]
   have key:=iter_scan (step:=fun s=>R16_Proper.s2 t s) (l:=t.Out) (fun _ y=>if decide (0≤y∧y≤1048576)=true then none else some (2:Int)) (fun i y hy=>by
    simp only [R16_Proper.s2]
    rw [dec_lt hy,cond_true,idxn_at hy,idxn_at hy]
    by_cases a1:y<0
    ·rw [decide_eq_true a1,cond_true,obind,cond_true,decide_eq_false (show ¬ (0≤y∧y≤1048576) by omega)];rfl
    ·by_cases a2:1048576<y
     ·rw [decide_eq_false a1,cond_false,decide_eq_true a2,obind,cond_true,decide_eq_false (show ¬ (0≤y∧y≤1048576) by omega)];rfl
     ·rw [decide_eq_false a1,cond_false,decide_eq_false a2,obind,cond_false,decide_eq_true (show (0≤y∧y≤1048576) by omega)];rfl) (by
    simp only [R16_Proper.s2]
    rw [dec_end]
    rfl) (by unfold SmW at h2;omega)
   rw [key,scan_all (p:=fun y=>decide (0≤y∧y≤1048576))]
   by_cases h:(t.Out.all fun y=>decide (0≤y∧y≤1048576))=true
   ·rw [if_pos h]
    exact ⟨0,rfl,fun _=>⟨g1,g2,fun y hy=>of_decide_eq_true (List.all_eq_true.1 h y hy)⟩⟩
   ·rw [if_neg h]
    exact ⟨2,rfl,fun e=>by cases e⟩
  ·rw [decide_eq_true (by omega),cond_true]
   exact ⟨1,rfl,fun e=>by cases e⟩
 ·rw [decide_eq_true g1,cond_true]
  exact ⟨_,rfl,fun e=>absurd e g1⟩
def Agree (a b:T_api_Trace):Prop:=a.Out.take (common a.In b.In)=b.Out.take (common a.In b.In)
theorem R16_Differ_tot (a b:T_api_Trace) {n:Int} (ha:PropT n a) (hb:PropT n b) (h1:SmW a.In):∃ d,R16_Differ a b=some d∧(¬ 0≤d→Agree a b):=by
 have h1':a.In.length≤2000000:=h1
 have hc:=common_le a.In b.In
 have la:=ha.2.1
 have lb:=hb.2.1
 unfold R16_Differ
 rw [R01_Common_eq _ _ h1,obind]
 have key:=iter_post (step:=fun k=>R16_Differ.s2 a b (↑(common a.In b.In):Int) k) (fun k=>k≤common a.In b.In∧a.Out.take k=b.Out.take k) (fun k=>common a.In b.In-k) (fun r=>match r with | .inl ()=>Agree a b | .inr d=>0≤d) (fun k ⟨g1,g2⟩=>by
  simp only [R16_Differ.s2]
  by_cases g3:k<common a.In b.In
  ·have hx:=get_at (l:=a.Out) (i:=k) (by omega)
   have hy:=get_at (l:=b.Out) (i:=k) (by omega)
   rw [decide_eq_true (by omega),cond_true,idxn_at hx,idxn_at hy]
   by_cases e:a.Out[k]'(by omega)=b.Out[k]'(by omega)
   ·left
    refine ⟨k+1,by rw [decide_eq_false (by simpa using e),cond_false,chk_pos (by unfold inR;omega)],⟨g3,?_⟩,by omega⟩
    rw [take_step hx,take_step hy,g2,e]
   ·right
    exact ⟨.inr (k:Int),by rw [decide_eq_true e,cond_true],by simp⟩
  ·right
   have e:k=common a.In b.In:=by omega
   subst e
   exact ⟨.inl (),by rw [decide_eq_false (by omega),cond_false],g2⟩) fuel 0 ⟨Nat.zero_le _,by simp⟩ (by have:=fuel_big;omega)
 obtain ⟨r,e,hq⟩:=key
 rw [e]
 cases r with
 | inl u=>exact ⟨-1,rfl,fun _=>hq⟩
 | inr d=>exact ⟨d,rfl,fun h=>absurd hq h⟩
structure ObsOk (o:T_api_Obs):Prop where
 inp:1≤o.Inputs∧o.Inputs≤64
 num:o.Traces.length≤10000
 prop:∀ t∈o.Traces,PropT o.Inputs t∧t.In≠[]
 asc:∀ (i j:Nat) a b,i<j→o.Traces[i]?=some a→o.Traces[j]?=some b→cmpW a.In b.In=-1
 apart:∀ (i j:Nat) a b,i<j→o.Traces[i]?=some a→o.Traces[j]?=some b→¬ a.In <+: b.In∧Agree a b
theorem R16_apart_tot (o:T_api_Obs) (ho:SmO o) (hp:∀ t∈o.Traces,PropT o.Inputs t):∃ e,R16_apart o=some e∧(e=0→∀ (i j:Nat) a b,i<j→o.Traces[i]?=some a→o.Traces[j]?=some b→¬ a.In <+: b.In∧Agree a b):=by
 obtain ⟨hl,hs⟩:=ho
 unfold R16_apart
 have inner:∀ (i:Nat) (a:T_api_Trace),o.Traces[i]?=some a→∃ p c,iter (fun (s:Bool×Bool×Nat)=>R16_apart.s30 o i s.1 s.2.1 s.2.2) fuel (false,false,i+1)=some (p,c)∧(p=false→c=false→∀ j b,i<j→o.Traces[j]?=some b→¬ a.In <+: b.In∧Agree a b):=by
  intro i a ha
  have hi:=(List.getElem?_eq_some_iff.1 ha).1
  have ham:=List.mem_of_getElem? ha
  have key:=iter_post (step:=fun (s:Bool×Bool×Nat)=>R16_apart.s30 o i s.1 s.2.1 s.2.2) (fun s=>i<s.2.2∧s.2.2≤o.Traces.length∧(s.1=false→s.2.1=false→∀ j b,i<j→j<s.2.2→o.Traces[j]?=some b→¬ a.In <+: b.In∧Agree a b)) (fun s=>o.Traces.length-s.2.2) (fun r=>r.1=false→r.2=false→∀ j b,i<j→o.Traces[j]?=some b→¬ a.In <+: b.In∧Agree a b) (fun s ⟨g1,g2,g3⟩=>by
   obtain ⟨p,c,k⟩:=s
   simp only at g1 g2 g3
   simp only [R16_apart.s30]
   by_cases g4:k<o.Traces.length
   ·left
    have hx:=get_at g4
    have hxm:=List.getElem_mem g4
    have sx:SmW o.Traces[k].In:=by have:=(hs _ hxm).1;unfold SmW;omega
    have sa:SmW a.In:=by have:=(hs _ ham).1;unfold SmW;omega
    obtain ⟨d,hd,hd2⟩:=R16_Differ_tot a o.Traces[k] (hp a ham) (hp _ hxm) sa
    have hc1:(cond p (some true) (idxn o.Traces k fun e743=>idxn o.Traces i fun e744=>(R01_HasPrefix e743.In e744.In).bind fun c745=>some c745):Option Bool)=some (p||decide (a.In <+: o.Traces[k].In)):=by
     cases p with
     | true=>rfl
     | false =>
      rw [cond_false,idxn_at hx,idxn_at ha,R01_HasPrefix_eq _ _ sx,obind]
      rfl
    rw [dec_lt hx,cond_true,hc1,obind]
    cases c with
    | true =>
     refine ⟨(p||decide (a.In <+: o.Traces[k].In),true,k+1),rfl,⟨by simp only;omega,by simp only;omega,fun _ h=>by cases h⟩,by simp only;omega⟩
    | false =>
     rw [cond_false,idxn_at ha,idxn_at hx,hd,obind]
     refine ⟨(p||decide (a.In <+: o.Traces[k].In),decide (0≤d),k+1),rfl,⟨by simp only;omega,by simp only;omega,fun h1 h2 j b hj1 hj2 hb=>?_⟩,by simp only;omega⟩
     simp only [Bool.or_eq_false_iff] at h1
     rcases Nat.lt_or_ge j k with h | h
     ·exact g3 h1.1 rfl j b hj1 h hb
     ·simp only at hj2
      have e:j=k:=by omega
      subst e
      rw [hx] at hb
      injection hb with hb
      subst hb
      exact ⟨of_decide_eq_false h1.2,hd2 (of_decide_eq_false h2)⟩
   ·right
    have e:k=o.Traces.length:=by omega
    refine ⟨(p,c),by rw [decide_eq_false (by omega),cond_false],fun h1 h2 j b hj hb=>g3 h1 h2 j b hj ?_ hb⟩
    have:=(List.getElem?_eq_some_iff.1 hb).1
    omega) fuel (false,false,i+1) ⟨by simp only;omega,by simp only;omega,fun _ _ j b h1 h2=>by simp only at h2;omega⟩ (by have:=fuel_big;simp only;omega)
  obtain ⟨⟨p,c⟩,e,hq⟩:=key
  exact ⟨p,c,e,hq⟩
 have key:=iter_post (step:=fun i=>R16_apart.s32 o i) (fun i=>i≤o.Traces.length∧∀ i' j a b,i'<i→i'<j→o.Traces[i']?=some a→o.Traces[j]?=some b→¬ a.In <+: b.In∧Agree a b) (fun i=>o.Traces.length-i) (fun r=>match r with | .inl ()=>∀ (i j:Nat) a b,i<j→o.Traces[i]?=some a→o.Traces[j]?=some b→¬ a.In <+: b.In∧Agree a b | .inr e=>e≠0) (fun i ⟨g1,g2⟩=>by
  simp only [R16_apart.s32]
  by_cases g3:i<o.Traces.length
  ·have hx:=get_at g3
   obtain ⟨p,c,e,hq⟩:=inner i _ hx
   rw [dec_lt hx,cond_true,e,obind]
   simp only [R16_apart.k31]
   cases p with
   | true=>exact .inr ⟨.inr 7,rfl,(show (7:Int)≠0 by decide)⟩
   | false =>
    cases c with
    | true=>exact .inr ⟨.inr 13,rfl,(show (13:Int)≠0 by decide)⟩
    | false =>
     left
     refine ⟨i+1,rfl,⟨g3,fun i' j a b h1 h2 ha hb=>?_⟩,by omega⟩
     rcases Nat.lt_or_ge i' i with h | h
     ·exact g2 i' j a b h h2 ha hb
     ·have e:i'=i:=by omega
      subst e
      rw [hx] at ha
      injection ha with ha
      subst ha
      exact hq rfl rfl j b h2 hb
  ·right
   refine ⟨.inl (),by rw [decide_eq_false (by omega),cond_false],fun i' j a b h ha hb=>g2 i' j a b ?_ h ha hb⟩
   have:=(List.getElem?_eq_some_iff.1 ha).1
   omega) fuel 0 ⟨Nat.zero_le _,fun i' j a b h=>by omega⟩ (by have:=fuel_big;omega)
 obtain ⟨r,e,hq⟩:=key
 rw [e]
 cases r with
 | inl u=>exact ⟨0,rfl,fun _=>hq⟩
 | inr e'=>exact ⟨e',rfl,fun h=>absurd h hq⟩
theorem R16_Valid_tot (o:T_api_Obs) (ho:SmO o):∃ e,R16_Valid o=some e∧(e=0→ObsOk o):=by
 obtain ⟨hl,hs⟩:=ho
 unfold R16_Valid
 by_cases h1:o.Inputs<1
 ·rw [decide_eq_true h1,cond_true,obind,cond_true]
  exact ⟨2,rfl,fun e=>by cases e⟩
 by_cases h2:64<o.Inputs
 ·rw [decide_eq_false h1,cond_false,decide_eq_true h2,obind,cond_true]
  exact ⟨2,rfl,fun e=>by cases e⟩
 rw [decide_eq_false h1,cond_false,decide_eq_false h2,obind,cond_false]
 by_cases h3:10000<o.Traces.length
 ·rw [decide_eq_true (by omega),cond_true]
  exact ⟨11,rfl,fun e=>by cases e⟩
 rw [decide_eq_false (by omega),cond_false]
 have key:=iter_post (step:=fun i=>R16_Valid.s2 o i) (fun i=>i≤o.Traces.length∧(∀ j t,j<i→o.Traces[j]?=some t→PropT o.Inputs t∧t.In≠[])∧∀ j a b,j+1<i→o.Traces[j]?=some a→o.Traces[j+1]?=some b→cmpW a.In b.In=-1) (fun i=>o.Traces.length-i)
  (fun r=>match r with | .inl ()=>(∀ t∈o.Traces,PropT o.Inputs t∧t.In≠[])∧∀ (j:Nat) a b,o.Traces[j]?=some a→o.Traces[j+1]?=some b→cmpW a.In b.In=-1 | .inr e=>e≠0) (fun i ⟨g1,g2,g3⟩=>by
  simp only [R16_Valid.s2]
  by_cases g4:i<o.Traces.length
  ·have hx:=get_at g4
   have hxm:=List.getElem_mem g4
   have sx:SmW o.Traces[i].In:=by have:=(hs _ hxm).1;unfold SmW;omega
   obtain ⟨e,he,he2⟩:=R16_Proper_tot o.Traces[i] o.Inputs sx (hs _ hxm).2
   rw [dec_lt hx,cond_true,idxn_at hx,R01_Check_eq _ _ sx,obind]
   by_cases g5:checkI o.Traces[i].In o.Inputs=0
   ·rw [decide_eq_false (by simpa using g5),cond_false]
    by_cases g6:o.Traces[i].In.length=0
    ·rw [decide_eq_true (by omega),cond_true]
     exact .inr ⟨.inr 19,rfl,(show (19:Int)≠0 by decide)⟩
    ·rw [decide_eq_false (by omega),cond_false,he,obind]
     by_cases g7:e=0
     ·rw [decide_eq_false (by simpa using g7),cond_false]
      have hP:=he2 g7
      have fin:∀ b:Bool,(b=false→0<i→∀ a,o.Traces[i-1]?=some a→cmpW a.In o.Traces[i].In=-1)→(∃ s',(some b).bind (fun (y160:Bool)=>cond y160 (some (.inr (.inr 10))) (some (.inl (i+1))))=some (.inl s':Nat⊕(Unit⊕Int))∧(s'≤o.Traces.length∧(∀ j t,j<s'→o.Traces[j]?=some t→PropT o.Inputs t∧t.In≠[])∧∀ j a b,j+1<s'→o.Traces[j]?=some a→o.Traces[j+1]?=some b→cmpW a.In b.In=-1)∧o.Traces.length-s'<o.Traces.length-i)∨∃ r,(some b).bind (fun (y160:Bool)=>cond y160 (some (.inr (.inr 10))) (some (.inl (i+1))))=some (.inr r:Nat⊕(Unit⊕Int))∧(match r with | .inl ()=>(∀ t∈o.Traces,PropT o.Inputs t∧t.In≠[])∧∀ (j:Nat) a b,o.Traces[j]?=some a→o.Traces[j+1]?=some b→cmpW a.In b.In=-1 | .inr e=>e≠0):=by
       intro b hb
       cases b with
       | true=>exact .inr ⟨.inr 10,rfl,(show (10:Int)≠0 by decide)⟩
       | false =>
        left
        refine ⟨i+1,rfl,⟨g4,fun j t hj ht=>?_,fun j a b hj ha hb'=>?_⟩,by omega⟩
        ·rcases Nat.lt_or_ge j i with h | h
         ·exact g2 j t h ht
         ·have ej:j=i:=by omega
          subst ej
          rw [hx] at ht
          injection ht with ht
          subst ht
          exact ⟨hP,fun e=>g6 (by rw [e];rfl)⟩
        ·rcases Nat.lt_or_ge (j+1) i with h | h
         ·exact g3 j a b h ha hb'
         ·have ej:j+1=i:=by omega
          subst ej
          rw [hx] at hb'
          injection hb' with hb'
          subst hb'
          exact hb rfl (by omega) a (by simpa using ha)
      by_cases g8:0<i
      ·have hpv:=get_at (l:=o.Traces) (i:=i-1) (by omega)
       have sp:SmW (o.Traces[i-1]'(by omega)).In:=by have:=(hs _ (List.getElem_mem (show i-1<o.Traces.length by omega))).1;unfold SmW;omega
       rw [decide_eq_true (by omega),cond_true,idx_at (i:=i-1) (by omega) hpv,R01_Compare_eq _ _ sp,obind]
       refine fin _ fun hb _ a ha=>?_
       rw [hpv] at ha
       injection ha with ha
       subst ha
       have h5:=of_decide_eq_false hb
       have:=cmpW_range (o.Traces[i-1]'(by omega)).In o.Traces[i].In
       omega
      ·rw [decide_eq_false (by omega),cond_false]
       exact fin false fun _ h=>absurd h g8
     ·rw [decide_eq_true g7,cond_true]
      exact .inr ⟨.inr e,rfl,g7⟩
   ·rw [decide_eq_true g5,cond_true]
    exact .inr ⟨.inr _,rfl,g5⟩
  ·right
   refine ⟨.inl (),by rw [decide_eq_false (by omega),cond_false],fun t ht=>?_,fun j a b ha hb=>g3 j a b ?_ ha hb⟩
   ·obtain ⟨j,hj,rfl⟩:=List.mem_iff_getElem.1 ht
    exact g2 j _ (by omega) (get_at hj)
   ·have:=(List.getElem?_eq_some_iff.1 hb).1
    omega) fuel 0 ⟨Nat.zero_le _,fun j t h=>by omega,fun j a b h=>by omega⟩ (by have:=fuel_big;omega)
 obtain ⟨r,e,hq⟩:=key
 rw [e,obind]
 cases r with
 | inr e'=>exact ⟨e',rfl,fun h=>absurd h hq⟩
 | inl u =>
  obtain ⟨hp,hone⟩:=hq
  obtain ⟨e',he,he2⟩:=R16_apart_tot o ⟨hl,hs⟩ fun t ht=>(hp t ht).1
  simp only [Sum.elim_inl]
  rw [he,obind]
  refine ⟨e',rfl,fun h=>⟨by omega,by omega,hp,?_,he2 h⟩⟩
  have key:∀ (d i:Nat) a b,o.Traces[i]?=some a→o.Traces[i+d+1]?=some b→cmpW a.In b.In=-1:=by
   intro d
   induction d with
   | zero=>exact fun i a b=>hone i a b
   | succ d ih =>
    intro i a b ha hb
    have hj:=(List.getElem?_eq_some_iff.1 hb).1
    have hm:=get_at (l:=o.Traces) (i:=i+d+1) (by omega)
    exact cmpW_trans _ _ _ (ih i a _ ha hm) (hone _ _ _ hm (by rw [show i+d+1+1=i+(d+1)+1 by omega];exact hb))
  intro i j a b hij ha hb
  exact key (j-i-1) i a b ha (by rw [show i+(j-i-1)+1=j by omega];exact hb)
end Go.Proofs.YtedabpfahmealaaGreatDoor.Sym

/-
 Answers and rows: the program's finder answers as the document's observations do. Plain laws.
-/
namespace Go.Proofs.YtedabpfahmealaaGreatDoor.Sym
set_option maxRecDepth 100000
def ansO (o:T_api_Obs) (w:List Int):Option (List Int) :=
 if w=[] then some [] else (o.Traces.find? fun t=>decide (w <+: t.In)).map fun t=>t.Out.take w.length
abbrev tw {α:Type} (x:Option (List α)):List α×Bool:=match x with | some r=>(r,true) | none=>([],false)
theorem smo_in {o:T_api_Obs} (ho:SmO o) {t:T_api_Trace} (h:t∈o.Traces):SmW t.In:=by
 have:=(ho.2 t h).1
 unfold SmW
 omega
theorem pre_len {p w:List Int} (h:p <+: w):p.length≤w.length:=h.length_le
theorem R16_Answer_eq {o:T_api_Obs} {w:List Int} (ho:SmO o) (hv:ObsOk o):R16_Answer o w=some (tw (ansO o w)):=by
 have hl:=ho.1
 unfold R16_Answer ansO
 by_cases h0:w=[]
 ·subst h0
  rfl
 ·rw [if_neg h0,decide_eq_false (by
   intro h
   exact h0 (List.eq_nil_of_length_eq_zero (by omega))),cond_false]
  have key:=iter_scan (step:=fun i=>R16_Answer.s2 o w i) (l:=o.Traces) (fun _ t=>if w <+: t.In then some (t.Out.take w.length,true) else none) (fun i t ht=>by
   have htm:=List.mem_of_getElem? ht
   have hP:=(hv.prop t htm).1
   simp only [R16_Answer.s2]
   rw [dec_lt ht,cond_true,idxn_at ht,R01_HasPrefix_eq _ _ (smo_in ho htm),obind]
   by_cases h:w <+: t.In
   ·have hlen:=pre_len h
    have:=hP.2.1
    have h2:=(ho.2 t htm).1
    rw [decide_eq_true h,cond_true,idxn_at ht,chk_pos (by omega),R01_Join_eq _ (by simp) (by simp;omega),obind,if_pos h]
    simp
   ·rw [decide_eq_false h,cond_false,if_neg h]) (by
   simp only [R16_Answer.s2]
   rw [dec_end]
   rfl) (by omega)
  rw [key,obind]
  have key2:∀ (l:List T_api_Trace) (j:Nat),scan (fun _ t=>if w <+: t.In then some (t.Out.take w.length,true) else none) j l=((l.find? fun t=>decide (w <+: t.In)).map fun t=>t.Out.take w.length).map fun r=>(r,true):=by
   intro l
   induction l with
   | nil=>intro j;rfl
   | cons t l ih =>
    intro j
    unfold scan
    by_cases h:w <+: t.In
    ·rw [if_pos h,List.find?_cons_of_pos (by simpa using h)]
     rfl
    ·rw [if_neg h,List.find?_cons_of_neg (by simpa using h)]
     exact ih _
  rw [key2]
  cases (o.Traces.find? fun t=>decide (w <+: t.In)).map fun t=>t.Out.take w.length<;>rfl
def FindOk (o:T_api_Obs) (F:List T_api_Trace):Prop:=F.Perm o.Traces∧F.Pairwise fun a b=>lexI a.In b.In=-1
theorem in_inj {o:T_api_Obs} (hv:ObsOk o) {a b:T_api_Trace} (ha:a∈o.Traces) (hb:b∈o.Traces) (h:a.In=b.In):a=b:=by
 obtain ⟨i,hi,rfl⟩:=List.mem_iff_getElem.1 ha
 obtain ⟨j,hj,rfl⟩:=List.mem_iff_getElem.1 hb
 rcases Nat.lt_trichotomy i j with hlt | heq | hgt
 ·have:=hv.asc i j _ _ hlt (get_at hi) (get_at hj)
  rw [h,cmpW_refl] at this
  cases this
 ·subst heq;rfl
 ·have:=hv.asc j i _ _ hgt (get_at hj) (get_at hi)
  rw [h,cmpW_refl] at this
  cases this
theorem table_find_eq {o:T_api_Obs} (ho:SmO o) (hv:ObsOk o):∃ F,zq105 o=some F∧FindOk o F:=by
 have hl:=ho.1
 have hf:∀ a∈o.Traces,∀ b∈o.Traces,zq94 a b=some (lexI a.In b.In):=fun a ha b hb=>by
  unfold zq94
  rw [word_Lex_eq _ _ (by have:=smo_in ho ha;unfold SmW at this;omega),obind]
 have htot:totB (fun u0 u1=>zq94 u0 u1) o.Traces=true:=by
  refine List.all_eq_true.2 fun a ha=>List.all_eq_true.2 fun b hb=>?_
  simp only [hf a ha b hb,hf b hb a ha,Bool.and_eq_true]
  refine ⟨⟨⟨?_,?_⟩,?_⟩,List.all_eq_true.2 fun c hc=>?_⟩
  ·rw [beq_iff_eq]
   have:=lexI_zero a.In b.In
   exact decide_eq_decide.2 ⟨fun h=>in_inj hv ha hb (this.1 h),fun h=>this.2 (by rw [h])⟩
  ·rw [beq_iff_eq]
   have:=lexI_swap a.In b.In
   exact decide_eq_decide.2 (by omega)
  ·have:=lexI_range a.In b.In
   exact decide_eq_true (by omega)
  ·rw [hf b hb c hc,hf a ha c hc]
   have r1:=lexI_range a.In b.In
   have r2:=lexI_range b.In c.In
   by_cases h1:lexI a.In b.In<0
   ·by_cases h2:lexI b.In c.In<0
    ·have:=lexI_trans a.In b.In c.In (by omega) (by omega)
     simp [h1,h2,this]
    ·simp [h1,h2]
   ·simp [h1]
 refine ⟨isortF (fun u0 u1=>zq94 u0 u1) o.Traces,?_,isortF_perm _ _,?_⟩
 ·unfold zq105 lib_Clone_traces libClone lib_SortFunc_finder libSort
  rw [chk_pos (by unfold capOk;omega),obind,chk_pos (by omega),htot]
  rfl
 ·have T:=totB_iff htot
  have h:=isortF_sorted T
  have hperm:=isortF_perm (fun u0 u1=>zq94 u0 u1) o.Traces
  have hnd:(isortF (fun u0 u1=>zq94 u0 u1) o.Traces).Nodup:=by
   refine hperm.nodup_iff.2 ?_
   rw [List.Nodup,List.pairwise_iff_getElem]
   intro i j hi hj hij e
   have:=hv.asc i j _ _ hij (get_at hi) (get_at hj)
   rw [e,cmpW_refl] at this
   cases this
  rw [List.pairwise_iff_getElem] at h ⊢
  rw [List.Nodup,List.pairwise_iff_getElem] at hnd
  intro i j hi hj hij
  have h1:=h i j hi hj hij
  have hne:=hnd i j hi hj hij
  have m1:=hperm.mem_iff.1 (List.getElem_mem hi)
  have m2:=hperm.mem_iff.1 (List.getElem_mem hj)
  unfold NGt cfv at h1
  simp only [hf _ m2 _ m1,Option.getD_some] at h1
  have r:=lexI_range (isortF (fun u0 u1=>zq94 u0 u1) o.Traces)[j].In (isortF (fun u0 u1=>zq94 u0 u1) o.Traces)[i].In
  have s:=lexI_swap (isortF (fun u0 u1=>zq94 u0 u1) o.Traces)[j].In (isortF (fun u0 u1=>zq94 u0 u1) o.Traces)[i].In
  have z:=lexI_zero (isortF (fun u0 u1=>zq94 u0 u1) o.Traces)[j].In (isortF (fun u0 u1=>zq94 u0 u1) o.Traces)[i].In
  have hz:¬ lexI (isortF (fun u0 u1=>zq94 u0 u1) o.Traces)[j].In (isortF (fun u0 u1=>zq94 u0 u1) o.Traces)[i].In=0:=fun e=>hne (in_inj hv m1 m2 (z.1 e).symm)
  omega
theorem search_eq {F:List T_api_Trace} {w:List Int} (hs:F.Pairwise fun a b=>lexI a.In b.In=-1) (hl:F.length≤2000000) (hw:∀ t∈F,SmW t.In) :
  ∃ k:Nat,∃ b,zq1 F w (fun u0 u1=>zq37 u0 u1)=some ((↑k:Int),b)∧k≤F.length∧(∀ j t,j<k→F[j]?=some t→lexI t.In w=-1)∧∀ t,F[k]?=some t→lexI t.In w≠-1:=by
 have hc:∀ t∈F,zq37 t w=some (lexI t.In w):=fun t ht=>by
  unfold zq37
  rw [word_Lex_eq _ _ (by have:=hw t ht;unfold SmW at this;omega),obind]
 have hlt:∀ {i j:Nat} {a b:T_api_Trace},i<j→F[i]?=some a→F[j]?=some b→lexI a.In b.In=-1:=fun {i j a b} hij ha hb=>by
  obtain ⟨hi,rfl⟩:=List.getElem?_eq_some_iff.1 ha
  obtain ⟨hj,rfl⟩:=List.getElem?_eq_some_iff.1 hb
  exact List.pairwise_iff_getElem.1 hs i j hi hj hij
 have key:=iter_post (step:=fun (s:Int×Int)=>zq1.s2 F w (fun u0 u1=>zq37 u0 u1) s.1 s.2)
  (fun s=>∃ i j:Nat,s.1=(i:Int)∧s.2=(j:Int)∧i≤j∧j≤F.length∧(∀ k t,k<i→F[k]?=some t→lexI t.In w=-1)∧∀ k t,j≤k→F[k]?=some t→lexI t.In w≠-1) (fun s=>(s.2-s.1).toNat)
  (fun r=>∃ k:Nat,r=(k:Int)∧k≤F.length∧(∀ j t,j<k→F[j]?=some t→lexI t.In w=-1)∧∀ t,F[k]?=some t→lexI t.In w≠-1) (fun s ⟨i,j,g1,g2,g3,g4,g5,g6⟩=>by
   obtain ⟨si,sj⟩:=s
   simp only at g1 g2
   subst g1 g2
   simp only [zq1.s2]
   by_cases g7:i<j
   ·left
    have hmid:((↑i:Int)+↑j) / 2^1=((i+j) / 2:Nat):=by omega
    have hx:=get_at (l:=F) (i:=(i+j) / 2) (by omega)
    rw [decide_eq_true (by omega),cond_true,chk_pos (by unfold inR;omega),chk_pos (by omega),chk_pos (by omega),chk_pos (by unfold inR;omega),idx_at hmid hx,hc _ (List.getElem_mem _),obind]
    have r:=lexI_range (F[(i+j) / 2]'(by omega)).In w
    by_cases g8:lexI (F[(i+j) / 2]'(by omega)).In w<0
    ·refine ⟨(((i+j) / 2+1:Nat),(j:Int)),?_,⟨(i+j) / 2+1,j,rfl,rfl,by omega,g4,fun k t hk ht=>?_,g6⟩,by simp only;omega⟩
     ·rw [decide_eq_true g8,cond_true,chk_pos (by unfold inR;omega),hmid]
      simp
     ·rcases Nat.lt_or_ge k ((i+j) / 2) with h | h
      ·exact lexI_trans _ _ _ (hlt h ht hx) (by omega)
      ·have e:k=(i+j) / 2:=by omega
       subst e
       rw [hx] at ht
       injection ht with ht
       subst ht
       omega
    ·refine ⟨((i:Int),(((i+j) / 2:Nat):Int)),?_,⟨i,(i+j) / 2,rfl,rfl,by omega,by omega,g5,fun k t hk ht=>?_⟩,by simp only;omega⟩
     ·rw [decide_eq_false g8,cond_false,hmid]
     ·intro h9
      rcases Nat.lt_or_ge ((i+j) / 2) k with h | h
      ·have:=lexI_trans _ _ _ (hlt h hx ht) h9
       omega
      ·have e:k=(i+j) / 2:=by omega
       subst e
       rw [hx] at ht
       injection ht with ht
       subst ht
       omega
   ·right
    have e:i=j:=by omega
    subst e
    refine ⟨(i:Int),by rw [decide_eq_false (by omega),cond_false],i,rfl,g4,g5,fun t ht=>g6 i t (Nat.le_refl _) ht⟩) fuel (0,(↑(List.length F):Int)) ⟨0,F.length,rfl,rfl,Nat.zero_le _,Nat.le_refl _,fun k t h=>by omega,fun k t h ht=>by
    have:=(List.getElem?_eq_some_iff.1 ht).1
    omega⟩ (by have:=fuel_big;simp only;omega)
 obtain ⟨r,e,k,hk,h1,h2,h3⟩:=key
 subst hk
 unfold zq1
 rw [e,obind]
 by_cases h4:k<F.length
 ·have hx:=get_at h4
  rw [decide_eq_true (by omega),cond_true,idx_at rfl hx,show (fun (u0:T_api_Trace) (u1:List Int)=>zq37 u0 u1) F[k] w=some (lexI F[k].In w) from hc _ (List.getElem_mem _),obind,obind]
  exact ⟨k,_,rfl,h1,h2,h3⟩
 ·rw [decide_eq_false (by omega),cond_false,obind]
  exact ⟨k,_,rfl,h1,h2,h3⟩
theorem finder_answer_eq {o:T_api_Obs} {F:List T_api_Trace} {w:List Int} (ho:SmO o) (hv:ObsOk o) (hF:FindOk o F):zq41 F w=some (tw (ansO o w)):=by
 obtain ⟨hp,hs⟩:=hF
 have hFl:F.length≤1100000:=by rw [hp.length_eq];exact ho.1
 have hFm:∀ t∈F,t∈o.Traces:=fun t ht=>hp.mem_iff.1 ht
 obtain ⟨k,b,e,h1,h2,h3⟩:=search_eq (w:=w) hs (by omega) fun t ht=>smo_in ho (hFm t ht)
 unfold zq41 ansO
 by_cases h0:w=[]
 ·subst h0
  rfl
 ·have hwl:w.length≠0:=fun h=>h0 (List.eq_nil_of_length_eq_zero h)
  rw [if_neg h0,decide_eq_false (by omega),cond_false,e,obind]
  simp only
  -- whatever trace begins with the word, the first one that is not before it does
  have hfirst:∀ t∈o.Traces,w <+: t.In→∃ u,F[k]?=some u∧w <+: u.In:=fun t ht hpre=>by
   have htF:t∈F:=hp.mem_iff.2 ht
   obtain ⟨j,hj,rfl⟩:=List.mem_iff_getElem.1 htF
   have hge:lexI F[j].In w≠-1:=by
    by_cases hew:w=F[j].In
    ·rw [← hew,lexI_refl];decide
    ·have:=prefix_lex w F[j].In hpre hew
     have:=lexI_swap w F[j].In
     omega
   have hkj:k≤j:=by
    rcases Nat.lt_or_ge j k with h | h
    ·exact absurd (h2 j _ h (get_at hj)) hge
    ·exact h
   have hx:=get_at (l:=F) (i:=k) (by omega)
   refine ⟨_,hx,?_⟩
   have hk1:=h3 _ hx
   rcases Nat.lt_or_ge k j with h | h
   ·have hlt:lexI (F[k]'(by omega)).In F[j].In=-1:=List.pairwise_iff_getElem.1 hs k j (by omega) hj h
    have r:=lexI_range (F[k]'(by omega)).In w
    have s:=lexI_swap (F[k]'(by omega)).In w
    by_cases hz:lexI (F[k]'(by omega)).In w=0
    ·rw [(lexI_zero _ _).1 hz]
     exact List.prefix_refl _
    ·exact lex_between w _ _ (by omega) (Or.inr hlt) hpre
   ·have ej:j=k:=by omega
    subst ej
    exact hpre
  cases hfd:o.Traces.find? fun t=>decide (w <+: t.In) with
  | none =>
   have hno:∀ t∈o.Traces,¬ w <+: t.In:=fun t ht=>by simpa using List.find?_eq_none.1 hfd t ht
   by_cases h4:k=F.length
   ·rw [decide_eq_true (by omega),cond_true,obind,cond_true]
    rfl
   ·have hx:=get_at (l:=F) (i:=k) (by omega)
    have hxm:=hFm _ (List.getElem_mem (show k<F.length by omega))
    rw [decide_eq_false (by omega),cond_false,idx_at rfl hx,word_HasPrefix_eq _ _ (smo_in ho hxm),obind,decide_eq_false (hno _ hxm)]
    rfl
  | some t =>
   have htm:=List.mem_of_find?_eq_some hfd
   have hpre:w <+: t.In:=by simpa using List.find?_some hfd
   obtain ⟨u,hu,hpu⟩:=hfirst t htm hpre
   have hum:=hFm u (List.mem_of_getElem? hu)
   have hku:=(List.getElem?_eq_some_iff.1 hu).1
   have lt:=(hv.prop t htm).1.2.1
   have lu:=(hv.prop u hum).1.2.1
   have p1:=pre_len hpre
   have p2:=pre_len hpu
   -- both answer alike
   have hsame:u.Out.take w.length=t.Out.take w.length:=by
    by_cases hut:u=t
    ·rw [hut]
    ·have hag:∀ a∈o.Traces,∀ b∈o.Traces,a≠b→w <+: a.In→w <+: b.In→a.Out.take w.length=b.Out.take w.length:=by
      intro a ha b hb hab hwa hwb
      have hcm:w.length≤common a.In b.In:=by
       obtain ⟨x,hx⟩:=hwa
       obtain ⟨y,hy⟩:=hwb
       rw [← hx,← hy]
       have:∀ (w x y:List Int),w.length≤common (w++x) (w++y):=by
        intro w
        induction w with
        | nil=>intro x y;exact Nat.zero_le _
        | cons z w ih =>
         intro x y
         have:=ih x y
         simp only [List.cons_append,common,if_true,List.length_cons]
         omega
       exact this w x y
      have hred:∀ (a b:T_api_Trace),Agree a b→w.length≤common a.In b.In→a.Out.take w.length=b.Out.take w.length:=fun a b hA hle=>by
       have h5:=congrArg (List.take w.length) hA
       rw [List.take_take,List.take_take,Nat.min_eq_left hle] at h5
       exact h5
      obtain ⟨i,hi,rfl⟩:=List.mem_iff_getElem.1 ha
      obtain ⟨j,hj,rfl⟩:=List.mem_iff_getElem.1 hb
      rcases Nat.lt_trichotomy i j with hlt | heq | hgt
      ·exact hred _ _ (hv.apart i j _ _ hlt (get_at hi) (get_at hj)).2 hcm
      ·subst heq;rfl
      ·have hcs:w.length≤common o.Traces[j].In o.Traces[i].In:=by
        have:∀ a b:List Int,common a b=common b a:=by
         intro a
         induction a with
         | nil=>intro b;cases b<;>rfl
         | cons x a ih =>
          intro b
          cases b with
          | nil=>rfl
          | cons y b =>
           simp only [common]
           by_cases h:x=y
           ·subst h;simp [ih b]
           ·have h':¬ y=x:=fun e=>h e.symm
            simp [h,h']
        rw [this]
        exact hcm
       exact (hred _ _ (hv.apart j i _ _ hgt (get_at hj) (get_at hi)).2 hcs).symm
     exact hag u hum t htm hut hpu hpre
   have hc:(cond (decide ((↑k:Int)=(↑(List.length F):Int))) (some true) (idx F (↑k:Int) fun e62=>(word_HasPrefix e62.In w).bind fun c63=>cond ((!c63)) (some true) (idx F (↑k:Int) fun e65=>some (decide ((↑(List.length e65.Out):Int)<(↑(List.length w):Int))))):Option Bool)=some false:=by
    rw [decide_eq_false (by omega),cond_false,idx_at rfl hu,word_HasPrefix_eq _ _ (smo_in ho hum),obind,decide_eq_true hpu,Bool.not_true,cond_false,idx_at rfl hu,decide_eq_false (by omega)]
   rw [hc,obind,cond_false,idx_at rfl hu,chk_pos (by omega),hsame]
   rfl
end Go.Proofs.YtedabpfahmealaaGreatDoor.Sym

/-
 Rows, missing queries and maximal words: the program's are the document's. Plain laws.
-/
namespace Go.Proofs.YtedabpfahmealaaGreatDoor.Sym
set_option maxRecDepth 100000
theorem ansO_len {o:T_api_Obs} (hv:ObsOk o) {w r:List Int} (h:ansO o w=some r):r.length=w.length:=by
 unfold ansO at h
 split at h
 ·rename_i h0
  injection h with h
  rw [← h,h0]
 ·obtain ⟨t,ht,rfl⟩:=Option.map_eq_some_iff.1 h
  have hm:=List.mem_of_find?_eq_some ht
  have hp:w <+: t.In:=by simpa using List.find?_some ht
  have:=(hv.prop t hm).1.2.1
  have:=pre_len hp
  rw [List.length_take]
  omega
def rowO (o:T_api_Obs) (w:List Int):List (List Int)→Option (List (List Int))
 | []=>some []
 | e::S=>match ansO o (w++e) with
  | none=>none
  | some r=>(rowO o w S).map fun l=>r.drop w.length::l
theorem rowO_drop {o:T_api_Obs} {w:List Int} {S:List (List Int)} {k:Nat} {e:List Int} (h:S[k]?=some e):rowO o w (S.drop k)=match ansO o (w++e) with | none=>none | some r=>(rowO o w (S.drop (k+1))).map fun l=>r.drop w.length::l:=by
 obtain ⟨hk,rfl⟩:=List.getElem?_eq_some_iff.1 h
 rw [List.drop_eq_getElem_cons hk]
 rfl
theorem finder_row_eq {o:T_api_Obs} {F:List T_api_Trace} {t:T_api_Table} {w:List Int} (ho:SmO o) (hv:ObsOk o) (hF:FindOk o F) (hS:SmL t.Suffixes) (hw:SmW w):zq64 F t w=some (tw (rowO o w t.Suffixes)):=by
 have hS1:t.Suffixes.length≤2000000:=hS.1
 have hw1:w.length≤2000000:=hw
 unfold zq64
 have key:=iter_post (step:=fun (s:List (List Int)×Nat)=>zq64.s2 F t w s.1 s.2) (fun s=>s.2≤t.Suffixes.length∧s.1.length=s.2∧rowO o w t.Suffixes=(rowO o w (t.Suffixes.drop s.2)).map (s.1++·)) (fun s=>t.Suffixes.length-s.2)
  (fun r=>Sum.elim (fun (y84:List (List Int))=>some (y84,true)) some r=some (tw (rowO o w t.Suffixes))) (fun s ⟨g1,g2,g3⟩=>by
   obtain ⟨y,k⟩:=s
   simp only at g1 g2 g3
   simp only [zq64.s2]
   by_cases g4:k<t.Suffixes.length
   ·have hx:=get_at g4
    have hxs:SmW t.Suffixes[k]:=hS.2 _ (List.getElem_mem _)
    have hx1:t.Suffixes[k].length≤2000000:=hxs
    rw [dec_lt hx,cond_true,idxn_at hx,word_Join_eq _ (by simp) (by simp;omega),obind]
    simp only [List.flatten_cons,List.flatten_nil,List.append_nil]
    rw [finder_answer_eq ho hv hF,obind]
    rw [rowO_drop hx] at g3
    cases ha:ansO o (w++t.Suffixes[k]) with
    | none =>
     right
     rw [ha] at g3
     refine ⟨.inr ([],false),rfl,?_⟩
     rw [g3]
     rfl
    | some r =>
     left
     rw [ha] at g3
     have hrl:=ansO_len hv ha
     rw [List.length_append] at hrl
     have hd:SmW (r.drop w.length):=by unfold SmW;rw [List.length_drop];omega
     refine ⟨(y++[r.drop w.length],k+1),?_,⟨g4,by simp [g2],?_⟩,by simp only;omega⟩
     ·simp only [tw,Bool.not_true,cond_false]
      rw [chk_pos (by omega),libclone_word hd,obind,chk_pos (by unfold capOk;omega)]
     ·rw [g3,Option.map_map]
      simp only
      congr 1
      funext l
      simp
   ·right
    have e:k=t.Suffixes.length:=by omega
    subst e
    refine ⟨.inl y,by rw [decide_eq_false (by omega),cond_false],?_⟩
    rw [g3,List.drop_length]
    simp [rowO,tw]) fuel ([],0) ⟨Nat.zero_le _,rfl,by simp⟩ (by have:=fuel_big;simp only;omega)
 obtain ⟨r,e,hq⟩:=key
 rw [chk_pos (by unfold capOk;omega),e]
 exact hq
theorem R23_After_eq {o:T_api_Obs} {w e:List Int} (ho:SmO o) (hv:ObsOk o) (hw:SmW w) (he:SmW e):R23_After o w e=some (match ansO o (w++e) with | none=>([],false) | some r=>(r.drop w.length,true)):=by
 unfold R23_After
 rw [R23_Joined_eq hw he,obind,R16_Answer_eq ho hv,obind]
 cases ha:ansO o (w++e) with
 | none=>rfl
 | some r =>
  have hrl:=ansO_len hv ha
  rw [List.length_append] at hrl
  simp only [tw,Bool.not_true,cond_false]
  rw [chk_pos (by omega)]
theorem R23_row_eq {o:T_api_Obs} {S:List (List Int)} {w:List Int} (ho:SmO o) (hv:ObsOk o) (hS:SmL S) (hw:SmW w):R23_row o S w=some (tw (rowO o w S)):=by
 have hS1:S.length≤2000000:=hS.1
 unfold R23_row
 have key:=iter_post (step:=fun (s:List (List Int)×Nat)=>R23_row.s2 o S w s.1 s.2) (fun s=>s.2≤S.length∧s.1.length=s.2∧rowO o w S=(rowO o w (S.drop s.2)).map (s.1++·)) (fun s=>S.length-s.2)
  (fun r=>Sum.elim (fun (y72:List (List Int))=>some (y72,true)) some r=some (tw (rowO o w S))) (fun s ⟨g1,g2,g3⟩=>by
   obtain ⟨y,k⟩:=s
   simp only at g1 g2 g3
   simp only [R23_row.s2]
   by_cases g4:k<S.length
   ·have hx:=get_at g4
    have hxs:SmW S[k]:=hS.2 _ (List.getElem_mem _)
    rw [dec_lt hx,cond_true,idxn_at hx,R23_After_eq ho hv hw hxs,obind]
    rw [rowO_drop hx] at g3
    cases ha:ansO o (w++S[k]) with
    | none =>
     right
     rw [ha] at g3
     refine ⟨.inr ([],false),rfl,?_⟩
     rw [g3]
     rfl
    | some r =>
     left
     rw [ha] at g3
     refine ⟨(y++[r.drop w.length],k+1),?_,⟨g4,by simp [g2],?_⟩,by simp only;omega⟩
     ·simp only [Bool.not_true,cond_false]
      rw [chk_pos (by unfold capOk;omega)]
     ·rw [g3,Option.map_map]
      simp only
      congr 1
      funext l
      simp
   ·right
    have e:k=S.length:=by omega
    subst e
    refine ⟨.inl y,by rw [decide_eq_false (by omega),cond_false],?_⟩
    rw [g3,List.drop_length]
    simp [rowO,tw]) fuel ([],0) ⟨Nat.zero_le _,rfl,by simp⟩ (by have:=fuel_big;simp only;omega)
 obtain ⟨r,e,hq⟩:=key
 rw [e]
 exact hq
def chkT (t:T_api_Table) (o:T_api_Obs):Int:=if validT t≠0 then validT t else if t.Inputs≠o.Inputs then 15 else 0
theorem table_check_eq {t:T_api_Table} {o:T_api_Obs} (ht:SmT t):zq102 t o=some (chkT t o):=by
 unfold zq102 chkT
 rw [table_Valid_eq t ht,obind]
 by_cases h:validT t=0
 ·rw [decide_eq_false (by simpa using h),cond_false,if_neg (by simpa using h)]
  by_cases h2:t.Inputs=o.Inputs<;>simp [h2]
 ·rw [decide_eq_true h,cond_true,if_pos h]
theorem R23_Check_eq {t:T_api_Table} {o:T_api_Obs} (ht:SmT t):R23_Check t o=some (chkT t o):=by
 unfold R23_Check chkT
 rw [R23_Valid_eq t ht,obind]
 by_cases h:validT t=0
 ·rw [decide_eq_false (by simpa using h),cond_false,if_neg (by simpa using h)]
  by_cases h2:t.Inputs=o.Inputs<;>simp [h2]
 ·rw [decide_eq_true h,cond_true,if_pos h]
theorem sortW_ext {l m:List (List Int)} (h:∀ x,x∈l↔x∈m):sortW l=sortW m:=asc_ext (sortW_asc l) (sortW_asc m) fun x=>by rw [mem_sortW,mem_sortW,h]
theorem maxR_ext {l m:List (List Int)} (h:∀ x,x∈l↔x∈m):maxR l=maxR m:=by unfold maxR;rw [sortW_ext h]
theorem R02_Maximal_eq {l:List (List Int)} (hl:SmL l):R02_Maximal l=some (maxR l):=by
 have hA:=sortW_asc l
 have hs:=sml_sort hl
 have hs1:(sortW l).length≤2000000:=hs.1
 unfold R02_Maximal maxR
 rw [R02_Sorted_eq hl,obind]
 have inner:∀ (i:Nat) (x:List Int),(sortW l)[i]?=some x→iter (fun (s:Bool×Nat)=>R02_Maximal.s13 (sortW l) i s.1 s.2) fuel (true,i+1)=some (topB (sortW l) x):=by
  intro i x hx
  have hi:=(List.getElem?_eq_some_iff.1 hx).1
  refine iter_eq (fun s=>i+1≤s.2∧s.2≤(sortW l).length∧s.1=tailB x (((sortW l).take s.2).drop (i+1))) (fun s=>(sortW l).length-s.2) (fun s ⟨g1,g2,g3⟩=>?_) ⟨Nat.le_refl _,by simp only;omega,by simp [tailB]⟩ (by have:=fuel_big;simp only;omega)
  obtain ⟨b,k⟩:=s
  simp only at g1 g2 g3
  simp only [R02_Maximal.s13]
  by_cases g4:k<(sortW l).length
  ·left
   have hy:=get_at g4
   have hst:=tailB_step (x:=x) g1 hy
   rw [← g3] at hst
   refine ⟨(tailB x (((sortW l).take (k+1)).drop (i+1)),k+1),?_,⟨by simp only;omega,by simp only;omega,rfl⟩,by simp only;omega⟩
   rw [dec_lt hy,cond_true,hst]
   cases b with
   | false=>rfl
   | true =>
    rw [cond_true,idxn_at hy,idxn_at hx,Bool.true_and]
    by_cases g5:(sortW l)[k].length=x.length
    ·rw [decide_eq_true (by omega),cond_true,decide_eq_true (Or.inl g5)]
    ·rw [decide_eq_false (by omega),cond_false,idxn_at hy,idxn_at hx,R01_HasPrefix_eq _ _ (hs.2 _ (List.getElem_mem _)),obind]
     by_cases g6:x <+: (sortW l)[k]
     ·rw [decide_eq_true g6,decide_eq_false (fun h=>h.elim g5 fun h=>h g6)];rfl
     ·rw [decide_eq_false g6,decide_eq_true (Or.inr g6)];rfl
  ·right
   have e:k=(sortW l).length:=by omega
   subst e
   rw [decide_eq_false (by omega),cond_false,g3,List.take_length,top_eq hA hx]
 have key:=iter_eq (step:=fun (s:List (List Int)×Nat)=>R02_Maximal.s14 (sortW l) s.1 s.2) (r:=(sortW l).filter (topB (sortW l))) (fun s=>s.2≤(sortW l).length∧s.1=((sortW l).take s.2).filter (topB (sortW l))) (fun s=>(sortW l).length-s.2) (fun s ⟨g1,g2⟩=>by
  obtain ⟨y,i⟩:=s
  simp only at g1 g2
  subst g2
  simp only [R02_Maximal.s14]
  by_cases g4:i<(sortW l).length
  ·left
   have hx:=get_at g4
   have hst:=filter_step (p:=topB (sortW l)) hx
   have hfl:=List.length_filter_le (topB (sortW l)) ((sortW l).take i)
   rw [List.length_take] at hfl
   refine ⟨(((sortW l).take (i+1)).filter (topB (sortW l)),i+1),?_,⟨by simp only;omega,rfl⟩,by simp only;omega⟩
   rw [dec_lt hx,cond_true,inner i _ hx,obind,hst]
   cases topB (sortW l) (sortW l)[i] with
   | true =>
    rw [cond_true,idxn_at hx,chk_pos (by unfold capOk;omega)]
    rfl
   | false=>simp
  ·right
   have e:i=(sortW l).length:=by omega
   subst e
   rw [decide_eq_false (by omega),cond_false,List.take_length]) (n:=fuel) (s:=([],0)) ⟨Nat.zero_le _,by simp⟩ (by have:=fuel_big;simp only;omega)
 rw [key,obind]
theorem wordset_Maximal_eq {l:List (List Int)} (hl:SmL l):zq73 l=some (maxR l):=by
 have hl1:l.length≤2000000:=hl.1
 obtain ⟨L,e1,h1,h2,h3⟩:=ordered_eq lexI_total (f:=fun u0 u1=>word_Lex u0 u1) hl fun a ha b hb=>word_Lex_eq a b (by have:SmW a:=hl.2 a ha;unfold SmW at this;omega)
 have hLs:∀ x∈L,SmW x:=fun x hx=>hl.2 x ((h2 x).1 hx)
 unfold zq73
 rw [e1,obind]
 have key:=iter_eq (step:=fun (s:List (List Int)×Nat)=>zq73.s2 L s.1 s.2) (r:=keepM L) (fun s=>s.2≤L.length∧s.1.length≤s.2∧keepM L=s.1++keepM (L.drop s.2)) (fun s=>L.length-s.2) (fun s ⟨g1,g2,g3⟩=>by
  obtain ⟨y,i⟩:=s
  simp only at g1 g2 g3
  simp only [zq73.s2]
  by_cases g4:i<L.length
  ·left
   have hx:=get_at g4
   rw [dec_lt hx,cond_true,idxn_at hx]
   by_cases g5:i+1=L.length
   ·rw [keepM_end hx g5] at g3
    refine ⟨(y++[L[i]],i+1),?_,⟨by simp only;omega,by simp;omega,by simp only;rw [g3];simp⟩,by simp only;omega⟩
    rw [decide_eq_true (by omega),cond_true,obind,cond_true,chk_pos (by unfold capOk;omega)]
   ·have hy:=get_at (l:=L) (i:=i+1) (by omega)
    rw [keepM_step hx hy] at g3
    rw [decide_eq_false (by omega),cond_false,idxn_at hy,word_HasPrefix_eq _ _ (hLs _ (List.getElem_mem _)),obind,obind]
    by_cases g6:L[i] <+: (L[i+1]'(by omega))
    ·rw [if_pos g6] at g3
     refine ⟨(y,i+1),?_,⟨by simp only;omega,by simp only;omega,g3⟩,by simp only;omega⟩
     rw [decide_eq_true g6]
     rfl
    ·rw [if_neg g6] at g3
     refine ⟨(y++[L[i]],i+1),?_,⟨by simp only;omega,by simp;omega,by simp only;rw [g3];simp⟩,by simp only;omega⟩
     rw [decide_eq_false g6,Bool.not_false,cond_true,chk_pos (by unfold capOk;omega)]
  ·right
   have e:i=L.length:=by omega
   subst e
   rw [List.drop_length] at g3
   rw [decide_eq_false (by omega),cond_false,g3]
   simp [keepM]) (n:=fuel) (s:=([],0)) ⟨Nat.zero_le _,by simp,by simp⟩ (by have:=fuel_big;simp only;omega)
 have hk:=keepM_sub L
 have hkl:SmL (keepM L):=⟨by have:=hk.length_le;omega,fun x hx=>hLs x (hk.mem hx)⟩
 rw [key,obind,wordset_Sorted_eq hkl,obind,sortW_keepM h1 h2]
end Go.Proofs.YtedabpfahmealaaGreatDoor.Sym

/-
 The missing queries of a table: the program's are the document's. Plain laws, and the law of TableNeeds.
-/
namespace Go.Proofs.YtedabpfahmealaaGreatDoor.Sym
set_option maxRecDepth 100000
def missO (o:T_api_Obs) (w:List Int) (S:List (List Int)):List (List Int):=(S.map fun e=>w++e).filter fun v=>(ansO o v).isNone
theorem missO_step {o:T_api_Obs} {w e:List Int} {S:List (List Int)} {k:Nat} (h:S[k]?=some e):missO o w (S.take (k+1))=missO o w (S.take k)++(if (ansO o (w++e)).isNone=true then [w++e] else []):=by
 unfold missO
 rw [take_step h,List.map_append,List.filter_append]
 simp only [List.map_cons,List.map_nil,List.filter_cons,List.filter_nil]
theorem missO_len (o:T_api_Obs) (w:List Int) (S:List (List Int)):(missO o w S).length≤S.length:=by
 unfold missO
 have:=List.length_filter_le (fun v=>(ansO o v).isNone) (S.map fun e=>w++e)
 rw [List.length_map] at this
 exact this
theorem mem_missO {o:T_api_Obs} {w v:List Int} {S:List (List Int)}:v∈missO o w S↔(∃ e∈S,v=w++e)∧ansO o v=none:=by
 unfold missO
 rw [List.mem_filter,List.mem_map,Option.isNone_iff_eq_none]
 constructor
 ·rintro ⟨⟨e,he,rfl⟩,h⟩;exact ⟨⟨e,he,rfl⟩,h⟩
 ·rintro ⟨⟨e,he,rfl⟩,h⟩;exact ⟨⟨e,he,rfl⟩,h⟩
theorem finder_knows_eq {o:T_api_Obs} {F:List T_api_Trace} {w:List Int} (ho:SmO o) (hv:ObsOk o) (hF:FindOk o F):zq48 F w=some (ansO o w).isSome:=by
 unfold zq48
 rw [finder_answer_eq ho hv hF,obind]
 cases ansO o w<;>rfl
theorem Needed_1_eq {o:T_api_Obs} {F:List T_api_Trace} {t:T_api_Table} {w:List Int} {y:List (List Int)} (ho:SmO o) (hv:ObsOk o) (hF:FindOk o F) (hS:SmL t.Suffixes) (hw:SmW w) (hy:y.length+t.Suffixes.length≤3000000):zq78 w t F y=some (y++missO o w t.Suffixes):=by
 have hS1:t.Suffixes.length≤2000000:=hS.1
 have hw1:w.length≤2000000:=hw
 unfold zq78
 have key:=iter_eq (step:=fun (s:List (List Int)×Nat)=>zq78.s2 w t F s.1 s.2) (r:=y++missO o w t.Suffixes) (fun s=>s.2≤t.Suffixes.length∧s.1=y++missO o w (t.Suffixes.take s.2)) (fun s=>t.Suffixes.length-s.2) (fun s ⟨g1,g2⟩=>by
  obtain ⟨z,k⟩:=s
  simp only at g1 g2
  subst g2
  simp only [zq78.s2]
  by_cases g4:k<t.Suffixes.length
  ·left
   have hx:=get_at g4
   have hx1:t.Suffixes[k].length≤2000000:=hS.2 _ (List.getElem_mem _)
   have hst:=missO_step (o:=o) (w:=w) hx
   have hml:=missO_len o w (t.Suffixes.take k)
   rw [List.length_take] at hml
   refine ⟨(y++missO o w (t.Suffixes.take (k+1)),k+1),?_,⟨by simp only;omega,rfl⟩,by simp only;omega⟩
   rw [dec_lt hx,cond_true,idxn_at hx,word_Join_eq _ (by simp) (by simp;omega),obind,hst]
   simp only [List.flatten_cons,List.flatten_nil,List.append_nil]
   rw [finder_knows_eq ho hv hF,obind]
   cases ha:ansO o (w++t.Suffixes[k]) with
   | none =>
    simp only [Option.isSome_none,Bool.not_false,cond_true,Option.isNone_none,if_true]
    rw [chk_pos (by rw [List.length_append];unfold capOk;omega),List.append_assoc]
   | some r=>simp
  ·right
   have e:k=t.Suffixes.length:=by omega
   subst e
   rw [decide_eq_false (by omega),cond_false,List.take_length]) (n:=fuel) (s:=(y,0)) ⟨Nat.zero_le _,by simp [missO]⟩ (by have:=fuel_big;simp only;omega)
 rw [key,obind]
theorem zq60 {w:List Int} {a:Int} (hw:SmW w):zq76 w a=some (w++[a]):=by
 have hw1:w.length≤2000000:=hw
 unfold zq76
 rw [word_Join_eq _ (by simp) (by simp;omega),obind]
 simp
structure TabOk (t:T_api_Table):Prop where
 sm:SmT t
 n:t.Inputs≤4
 p:t.Prefixes.length≤30
 s:t.Suffixes.length≤12
 pw:∀ x∈t.Prefixes,x.length≤30
 sw:∀ x∈t.Suffixes,x.length≤30
def withX (n:Nat) (p:List Int):List (List Int):=p::(List.range n).map fun (a:Nat)=>p++[(↑a:Int)]
def needL (o:T_api_Obs) (t:T_api_Table) (P:List (List Int)):List (List Int):=P.flatMap fun p=>(withX t.Inputs.toNat p).flatMap fun w=>missO o w t.Suffixes
theorem table_Needed_eq {t:T_api_Table} {o:T_api_Obs} (ht:TabOk t) (ho:SmO o) (hv:ObsOk o):zq95 t o=some (if chkT t o≠0 then ([],chkT t o) else (maxR (needL o t t.Prefixes),0)):=by
 obtain ⟨F,hF1,hF⟩:=table_find_eq ho hv
 have hn:=ht.n
 have hp:=ht.p
 have hs:=ht.s
 have hS:=ht.sm.2.2.1
 unfold zq95
 rw [table_check_eq ht.sm,obind]
 by_cases h:chkT t o=0
 ·rw [decide_eq_false (by simpa using h),cond_false,if_neg (by simpa using h),hF1,obind]
  have inner:∀ (p:List Int) (y:List (List Int)),SmW p→p.length≤1000000→y.length≤10000→iter (fun (s:List (List Int)×Nat)=>zq95.s13 t F p s.1 s.2) fuel (y,0)=some (y++((List.range t.Inputs.toNat).map fun (a:Nat)=>p++[(↑a:Int)]).flatMap fun w=>missO o w t.Suffixes) ∧
    (((List.range t.Inputs.toNat).map fun (a:Nat)=>p++[(↑a:Int)]).flatMap fun w=>missO o w t.Suffixes).length≤48:=by
   intro p y hpw hpl hy
   have hlen:∀ k,k≤t.Inputs.toNat→(((List.range k).map fun (a:Nat)=>p++[(↑a:Int)]).flatMap fun w=>missO o w t.Suffixes).length≤12*k:=by
    intro k
    induction k with
    | zero=>intro _;simp
    | succ k ih =>
     intro hk
     rw [List.range_succ,List.map_append,List.flatMap_append,List.length_append]
     have:=ih (by omega)
     have:=missO_len o (p++[(↑k:Int)]) t.Suffixes
     simp only [List.map_cons,List.map_nil,List.flatMap_cons,List.flatMap_nil,List.append_nil]
     omega
   refine ⟨iter_eq (fun s=>s.2≤t.Inputs.toNat∧s.1=y++((List.range s.2).map fun (a:Nat)=>p++[(↑a:Int)]).flatMap fun w=>missO o w t.Suffixes) (fun s=>t.Inputs.toNat-s.2) (fun s ⟨g1,g2⟩=>?_) ⟨Nat.zero_le _,by simp⟩ (by have:=fuel_big;simp only;omega),by have:=hlen t.Inputs.toNat (Nat.le_refl _);omega⟩
   obtain ⟨z,k⟩:=s
   simp only at g1 g2
   subst g2
   simp only [zq95.s13]
   by_cases g4:k<t.Inputs.toNat
   ·left
    have hl:=hlen k (by omega)
    refine ⟨(y++((List.range (k+1)).map fun (a:Nat)=>p++[(↑a:Int)]).flatMap fun w=>missO o w t.Suffixes,k+1),?_,⟨g4,rfl⟩,by simp only;omega⟩
    rw [decide_eq_true (by omega),cond_true,zq60 hpw,obind,Needed_1_eq ho hv hF hS (by show (p++[(↑k:Int)]).length≤2000000;simp;omega) (by rw [List.length_append];omega),obind,chk_pos (by unfold inR;omega)]
    rw [List.range_succ,List.map_append,List.flatMap_append]
    simp
   ·right
    have e:k=t.Inputs.toNat:=by omega
    subst e
    rw [decide_eq_false (by omega),cond_false]
  have key:=iter_eq (step:=fun (s:List (List Int)×Nat)=>zq95.s14 t F s.1 s.2) (r:=needL o t t.Prefixes) (fun s=>s.2≤t.Prefixes.length∧s.1.length≤60*s.2∧s.1=needL o t (t.Prefixes.take s.2)) (fun s=>t.Prefixes.length-s.2) (fun s ⟨g1,g0,g2⟩=>by
   obtain ⟨z,k⟩:=s
   simp only at g1 g0 g2
   subst g2
   simp only [zq95.s14]
   by_cases g4:k<t.Prefixes.length
   ·left
    have hx:=get_at g4
    have hxm:SmW t.Prefixes[k]:=ht.sm.2.1.2 _ (List.getElem_mem _)
    have hxl:=ht.pw _ (List.getElem_mem g4)
    have hml:=missO_len o t.Prefixes[k] t.Suffixes
    obtain ⟨i1,i2⟩:=inner t.Prefixes[k] (needL o t (t.Prefixes.take k)++missO o t.Prefixes[k] t.Suffixes) hxm (by omega) (by rw [List.length_append];omega)
    have hst:needL o t (t.Prefixes.take (k+1))=needL o t (t.Prefixes.take k)++missO o t.Prefixes[k] t.Suffixes++((List.range t.Inputs.toNat).map fun (a:Nat)=>t.Prefixes[k]++[(↑a:Int)]).flatMap fun w=>missO o w t.Suffixes:=by
     unfold needL withX
     rw [take_step hx,List.flatMap_append]
     simp [List.append_assoc]
    refine ⟨(needL o t (t.Prefixes.take (k+1)),k+1),?_,⟨g4,?_,rfl⟩,by simp only;omega⟩
    ·rw [dec_lt hx,cond_true,idxn_at hx,Needed_1_eq ho hv hF hS hxm (by omega),obind,i1,obind,hst]
    ·simp only
     rw [hst,List.length_append,List.length_append]
     omega
   ·right
    have e:k=t.Prefixes.length:=by omega
    subst e
    rw [decide_eq_false (by omega),cond_false,List.take_length]) (n:=fuel) (s:=([],0)) ⟨Nat.zero_le _,by simp,by simp [needL]⟩ (by have:=fuel_big;simp only;omega)
  have hN:SmL (needL o t t.Prefixes):=by
   refine ⟨?_,fun v hv'=>?_⟩
   ·have hb:∀ P:List (List Int),(needL o t P).length≤60*P.length:=by
     intro P
     induction P with
     | nil=>simp [needL]
     | cons p P ih =>
      unfold needL at ih ⊢
      rw [List.flatMap_cons,List.length_append,List.length_cons]
      have hw:((withX t.Inputs.toNat p).flatMap fun w=>missO o w t.Suffixes).length≤12*(withX t.Inputs.toNat p).length:=by
       generalize withX t.Inputs.toNat p=X
       induction X with
       | nil=>simp
       | cons w X ih2 =>
        have:=missO_len o w t.Suffixes
        rw [List.flatMap_cons,List.length_append,List.length_cons]
        omega
      have hwl:(withX t.Inputs.toNat p).length=t.Inputs.toNat+1:=by simp [withX]
      rw [hwl] at hw
      omega
    have:=hb t.Prefixes
    omega
   ·unfold needL at hv'
    obtain ⟨p,hpm,h2⟩:=List.mem_flatMap.1 hv'
    obtain ⟨w,hw,h3⟩:=List.mem_flatMap.1 h2
    obtain ⟨⟨e,he,rfl⟩,_⟩:=mem_missO.1 h3
    have h4:=ht.pw p hpm
    have h5:=ht.sw e he
    have h6:w.length≤31:=by
     unfold withX at hw
     rcases List.mem_cons.1 hw with rfl | hw
     ·omega
     ·obtain ⟨a,_,rfl⟩:=List.mem_map.1 hw
      simp
      omega
    unfold SmW
    rw [List.length_append]
    omega
  rw [key,obind,wordset_Maximal_eq hN,obind]
 ·rw [decide_eq_true h,cond_true,if_pos h]
def extL (t:T_api_Table):List (List Int):=t.Prefixes.flatMap fun p=>(List.range t.Inputs.toNat).map fun (a:Nat)=>p++[(↑a:Int)]
theorem R23_Extensions_eq {t:T_api_Table} (ht:TabOk t):R23_Extensions t=some (sortW (extL t))∧SmL (extL t):=by
 have hn:=ht.n
 have hp:=ht.p
 have hlen:∀ P:List (List Int),(P.flatMap fun p=>(List.range t.Inputs.toNat).map fun (a:Nat)=>p++[(↑a:Int)]).length≤4*P.length:=by
  intro P
  induction P with
  | nil=>simp
  | cons p P ih =>
   rw [List.flatMap_cons,List.length_append,List.length_cons,List.length_map,List.length_range]
   omega
 have hE:SmL (extL t):=by
  refine ⟨by have:=hlen t.Prefixes;unfold extL;omega,fun v hv=>?_⟩
  obtain ⟨p,hpm,h2⟩:=List.mem_flatMap.1 hv
  obtain ⟨a,_,rfl⟩:=List.mem_map.1 h2
  have:=ht.pw p hpm
  unfold SmW
  simp
  omega
 refine ⟨?_,hE⟩
 unfold R23_Extensions
 have key:=iter_eq (step:=fun (s:List (List Int)×Nat)=>R23_Extensions.s14 t s.1 s.2) (r:=extL t) (fun s=>s.2≤t.Prefixes.length∧s.1=(t.Prefixes.take s.2).flatMap fun p=>(List.range t.Inputs.toNat).map fun (a:Nat)=>p++[(↑a:Int)]) (fun s=>t.Prefixes.length-s.2) (fun s ⟨g1,g2⟩=>by
  obtain ⟨z,k⟩:=s
  simp only at g1 g2
  subst g2
  simp only [R23_Extensions.s14]
  by_cases g4:k<t.Prefixes.length
  ·left
   have hx:=get_at g4
   have hxm:SmW t.Prefixes[k]:=ht.sm.2.1.2 _ (List.getElem_mem _)
   have hl:=hlen (t.Prefixes.take k)
   rw [List.length_take] at hl
   generalize hz:((t.Prefixes.take k).flatMap fun p=>(List.range t.Inputs.toNat).map fun (a:Nat)=>p++[(↑a:Int)])=z at hl
   have inner:=iter_eq (step:=fun (s:List (List Int)×Nat)=>R23_Extensions.s13 t k s.1 s.2) (r:=z++(List.range t.Inputs.toNat).map fun (a:Nat)=>t.Prefixes[k]++[(↑a:Int)]) (fun s=>s.2≤t.Inputs.toNat∧s.1=z++(List.range s.2).map fun (a:Nat)=>t.Prefixes[k]++[(↑a:Int)]) (fun s=>t.Inputs.toNat-s.2) (fun s ⟨q1,q2⟩=>by
    obtain ⟨u,j⟩:=s
    simp only at q1 q2
    subst q2
    simp only [R23_Extensions.s13]
    by_cases q4:j<t.Inputs.toNat
    ·left
     refine ⟨(z++(List.range (j+1)).map fun (a:Nat)=>t.Prefixes[k]++[(↑a:Int)],j+1),?_,⟨q4,rfl⟩,by simp only;omega⟩
     rw [decide_eq_true (by omega),cond_true,idxn_at hx,R23_Joined_eq hxm (by simp [SmW]),obind,chk_pos (by rw [List.length_append,List.length_map,List.length_range];unfold capOk;omega),chk_pos (by unfold inR;omega),List.range_succ,List.map_append]
     simp
    ·right
     have e:j=t.Inputs.toNat:=by omega
     subst e
     rw [decide_eq_false (by omega),cond_false]) (n:=fuel) (s:=(z,0)) ⟨Nat.zero_le _,by simp⟩ (by have:=fuel_big;simp only;omega)
   refine ⟨(z++(List.range t.Inputs.toNat).map fun (a:Nat)=>t.Prefixes[k]++[(↑a:Int)],k+1),?_,⟨g4,?_⟩,by simp only;omega⟩
   ·rw [dec_lt hx,cond_true,inner,obind]
   ·simp only
    rw [take_step hx,List.flatMap_append,hz]
    simp
  ·right
   have e:k=t.Prefixes.length:=by omega
   subst e
   rw [decide_eq_false (by omega),cond_false,List.take_length]
   rfl) (n:=fuel) (s:=([],0)) ⟨Nat.zero_le _,by simp⟩ (by have:=fuel_big;simp only;omega)
 rw [key,obind,R02_Sorted_eq hE,obind]
theorem R23_Needed_eq {t:T_api_Table} {o:T_api_Obs} (ht:TabOk t) (ho:SmO o) (hv:ObsOk o):R23_Needed t o=some (if chkT t o≠0 then ([],chkT t o) else (maxR (needL o t t.Prefixes),0)):=by
 have hn:=ht.n
 have hp:=ht.p
 have hs:=ht.s
 have hS:=ht.sm.2.2.1
 obtain ⟨hE1,hE2⟩:=R23_Extensions_eq ht
 unfold R23_Needed
 rw [R23_Check_eq ht.sm,obind]
 by_cases h:chkT t o=0
 ·rw [decide_eq_false (by simpa using h),cond_false,if_neg (by simpa using h),hE1,obind]
  have hEs:=sml_sort hE2
  have hEl:(sortW (extL t)).length≤120:=by
   have h1:=sortW_length (extL t)
   have:(extL t).length≤4*t.Prefixes.length:=by
    unfold extL
    generalize t.Prefixes=P
    induction P with
    | nil=>simp
    | cons p P ih =>
     rw [List.flatMap_cons,List.length_append,List.length_cons,List.length_map,List.length_range]
     omega
   omega
  rw [R02_Union_eq (by simp) (by rw [two_flat];exact sml_append (by omega) ht.sm.2.1 hEs),two_flat,obind]
  have hWm:∀ x,x∈sortW (t.Prefixes++sortW (extL t))↔∃ p∈t.Prefixes,x∈withX t.Inputs.toNat p:=fun x=>by
   rw [mem_sortW,List.mem_append,mem_sortW]
   unfold extL withX
   constructor
   ·rintro (h | h)
    ·exact ⟨x,h,by simp⟩
    ·obtain ⟨p,hp,h2⟩:=List.mem_flatMap.1 h
     exact ⟨p,hp,List.mem_cons_of_mem _ h2⟩
   ·rintro ⟨p,hp,h⟩
    rcases List.mem_cons.1 h with rfl | h
    ·exact Or.inl hp
    ·exact Or.inr (List.mem_flatMap.2 ⟨p,hp,h⟩)
  have hWl:(sortW (t.Prefixes++sortW (extL t))).length≤150:=by
   have:=sortW_length (t.Prefixes++sortW (extL t))
   rw [List.length_append] at this
   omega
  have hWw:∀ x∈sortW (t.Prefixes++sortW (extL t)),x.length≤31:=fun x hx=>by
   obtain ⟨p,hpm,h2⟩:=(hWm x).1 hx
   have:=ht.pw p hpm
   unfold withX at h2
   rcases List.mem_cons.1 h2 with rfl | h2
   ·omega
   ·obtain ⟨a,_,rfl⟩:=List.mem_map.1 h2
    simp
    omega
  generalize sortW (t.Prefixes++sortW (extL t))=U at hWm hWl hWw
  have hb:∀ k,((U.take k).flatMap fun w=>missO o w t.Suffixes).length≤12*k:=by
   intro k
   induction k with
   | zero=>simp
   | succ k ih =>
    by_cases hk:k<U.length
    ·have hx:=get_at hk
     have:=missO_len o U[k] t.Suffixes
     rw [take_step hx,List.flatMap_append,List.length_append]
     simp only [List.flatMap_cons,List.flatMap_nil,List.append_nil]
     omega
    ·rw [List.take_of_length_le (by omega)]
     rw [List.take_of_length_le (by omega)] at ih
     omega
  have key:=iter_eq (step:=fun (s:List (List Int)×Nat)=>R23_Needed.s14 t o U s.1 s.2) (r:=U.flatMap fun w=>missO o w t.Suffixes) (fun s=>s.2≤U.length∧s.1=(U.take s.2).flatMap fun w=>missO o w t.Suffixes) (fun s=>U.length-s.2) (fun s ⟨g1,g2⟩=>by
   obtain ⟨z,i⟩:=s
   simp only at g1 g2
   subst g2
   simp only [R23_Needed.s14]
   by_cases g4:i<U.length
   ·left
    have hx:=get_at g4
    have hxl:=hWw _ (List.getElem_mem g4)
    have hl:=hb i
    generalize hz:((U.take i).flatMap fun w=>missO o w t.Suffixes)=z at hl
    have inner:=iter_eq (step:=fun (s:List (List Int)×Nat)=>R23_Needed.s13 t o U i s.1 s.2) (r:=z++missO o U[i] t.Suffixes) (fun s=>s.2≤t.Suffixes.length∧s.1=z++missO o U[i] (t.Suffixes.take s.2)) (fun s=>t.Suffixes.length-s.2) (fun s ⟨q1,q2⟩=>by
     obtain ⟨u,k⟩:=s
     simp only at q1 q2
     subst q2
     simp only [R23_Needed.s13]
     by_cases q4:k<t.Suffixes.length
     ·left
      have hy:=get_at q4
      have hys:SmW t.Suffixes[k]:=hS.2 _ (List.getElem_mem _)
      have hst:=missO_step (o:=o) (w:=U[i]) hy
      have hml:=missO_len o U[i] (t.Suffixes.take k)
      rw [List.length_take] at hml
      refine ⟨(z++missO o U[i] (t.Suffixes.take (k+1)),k+1),?_,⟨q4,rfl⟩,by simp only;omega⟩
      rw [dec_lt hy,cond_true,idxn_at hx,idxn_at hy,R23_Joined_eq (by unfold SmW;omega) hys,obind,R16_Answer_eq ho hv,obind,hst]
      cases ha:ansO o (U[i]++t.Suffixes[k]) with
      | none =>
       simp only [tw,Bool.not_false,cond_true,Option.isNone_none,if_true]
       rw [chk_pos (by rw [List.length_append];unfold capOk;omega),List.append_assoc]
      | some r=>simp [tw]
     ·right
      have e:k=t.Suffixes.length:=by omega
      subst e
      rw [decide_eq_false (by omega),cond_false,List.take_length]) (n:=fuel) (s:=(z,0)) ⟨Nat.zero_le _,by simp [missO]⟩ (by have:=fuel_big;simp only;omega)
    refine ⟨(z++missO o U[i] t.Suffixes,i+1),?_,⟨g4,?_⟩,by simp only;omega⟩
    ·rw [dec_lt hx,cond_true,inner,obind]
    ·simp only
     rw [take_step hx,List.flatMap_append,hz]
     simp
   ·right
    have e:i=U.length:=by omega
    subst e
    rw [decide_eq_false (by omega),cond_false,List.take_length]) (n:=fuel) (s:=([],0)) ⟨Nat.zero_le _,by simp⟩ (by have:=fuel_big;simp only;omega)
  have hUl:=hb U.length
  rw [List.take_length] at hUl
  rw [key,obind,R02_Maximal_eq ⟨by omega,fun v hv'=>by
   obtain ⟨w,hw,h3⟩:=List.mem_flatMap.1 hv'
   obtain ⟨⟨e,he,rfl⟩,_⟩:=mem_missO.1 h3
   have h5:=ht.sw e he
   have h6:=hWw w hw
   unfold SmW
   rw [List.length_append]
   omega⟩,obind]
  congr 2
  refine maxR_ext fun v=>?_
  unfold needL
  rw [List.mem_flatMap,List.mem_flatMap]
  constructor
  ·rintro ⟨w,hw,hm⟩
   obtain ⟨p,hp,h2⟩:=(hWm w).1 hw
   exact ⟨p,hp,List.mem_flatMap.2 ⟨w,h2,hm⟩⟩
  ·rintro ⟨p,hp,h2⟩
   obtain ⟨w,hw,hm⟩:=List.mem_flatMap.1 h2
   exact ⟨w,(hWm w).2 ⟨p,hp,hw⟩,hm⟩
 ·rw [decide_eq_true h,cond_true,if_pos h]
theorem R01_SameWords_eq (a b:List (List Int)) (ha:SmL a):R01_SameWords a b=some (decide (a=b)):=by
 have ha1:a.length≤2000000:=ha.1
 unfold R01_SameWords
 by_cases hlen:a.length=b.length
 ·rw [decide_eq_false (by omega),cond_false]
  refine iter_all2 hlen (fun i x y hx hy=>?_) ?_ (by omega)
  ·simp only [R01_SameWords.s2]
   rw [dec_lt hx,cond_true,idxn_at hx,idxn_at hy,R01_Same_eq x y (ha.2 x (List.mem_of_getElem? hx)),obind]
   by_cases h:x=y<;>simp [h]
  ·simp only [R01_SameWords.s2]
   rw [dec_end]
   rfl
 ·rw [decide_eq_true (by omega),cond_true]
  have:a≠b:=fun h=>hlen (by rw [h])
  simp [this]
theorem tabOk_of {t:T_api_Table} {o:T_api_Obs} (ht:SmT t) (h:greatT t o=false):TabOk t∧o.Traces.length≤400∧∀ x∈o.Traces,x.In.length≤90:=by
 unfold greatT at h
 simp only [Bool.or_eq_false_iff,decide_eq_false_iff_not,Bool.not_eq_false'] at h
 obtain ⟨⟨⟨⟨h1,h2,h3⟩,h4,h5⟩,h6⟩,h7⟩:=h
 exact ⟨⟨ht,by omega,by omega,by omega,fun x hx=>of_decide_eq_true (List.all_eq_true.1 h3 x hx),fun x hx=>of_decide_eq_true (List.all_eq_true.1 h5 x hx)⟩,by omega,fun x hx=>of_decide_eq_true (List.all_eq_true.1 h7 x hx)⟩
theorem rowO_sml {o:T_api_Obs} (hv:ObsOk o) {w:List Int}:∀ {S:List (List Int)} {l:List (List Int)},rowO o w S=some l→l.length=S.length∧∀ x∈l,∃ e∈S,x.length=e.length
 | [],l,h=>by
  injection h with h
  subst h
  exact ⟨rfl,fun x hx=>by cases hx⟩
 | e::S,l,h=>by
  unfold rowO at h
  cases ha:ansO o (w++e) with
  | none=>rw [ha] at h;cases h
  | some r =>
   rw [ha] at h
   obtain ⟨l',h1,rfl⟩:=Option.map_eq_some_iff.1 h
   obtain ⟨h2,h3⟩:=rowO_sml hv h1
   have hrl:=ansO_len hv ha
   rw [List.length_append] at hrl
   refine ⟨by simp [h2],fun x hx=>?_⟩
   rcases List.mem_cons.1 hx with rfl | hx
   ·exact ⟨e,by simp,by rw [List.length_drop];omega⟩
   ·obtain ⟨e',he',hl'⟩:=h3 x hx
    exact ⟨e',List.mem_cons_of_mem _ he',hl'⟩
end Go.Proofs.YtedabpfahmealaaGreatDoor.Sym

/-
 The view of a complete table: rows with numbers. Plain laws.
-/
namespace Go.Proofs.YtedabpfahmealaaGreatDoor.Sym
set_option maxRecDepth 100000
section
variable {α:Type} [DecidableEq α]
def pos (r:α):List α→Nat
 | []=>0
 | x::l=>if x=r then 0 else pos r l+1
theorem pos_get {r:α}:∀ {l:List α},r∈l→l[pos r l]?=some r
 | x::l,h=>by
  unfold pos
  by_cases e:x=r
  ·simp [e]
  ·rw [if_neg e]
   rcases List.mem_cons.1 h with h | h
   ·exact absurd h.symm e
   ·simpa using pos_get h
theorem pos_lt {r:α} {l:List α} (h:r∈l):pos r l<l.length:=(List.getElem?_eq_some_iff.1 (pos_get h)).1
theorem pos_append {r:α}:∀ {l m:List α},r∈l→pos r (l++m)=pos r l
 | x::l,m,h=>by
  rw [List.cons_append]
  unfold pos
  by_cases e:x=r
  ·simp [e]
  ·rw [if_neg e,if_neg e]
   rcases List.mem_cons.1 h with h | h
   ·exact absurd h.symm e
   ·rw [pos_append h]
theorem pos_new {r:α}:∀ {l:List α},r∉l→pos r (l++[r])=l.length
 | [],_=>by simp [pos]
 | x::l,h=>by
  rw [List.cons_append]
  unfold pos
  have h1:¬ x=r:=fun e=>h (by simp [e])
  have h2:r∉l:=fun e=>h (by simp [e])
  rw [if_neg h1,pos_new h2]
  rfl
theorem pos_inj {r s:α} {l:List α} (hr:r∈l) (hs:s∈l) (h:pos r l=pos s l):r=s:=by
 have h1:=pos_get hr
 rw [h,pos_get hs] at h1
 injection h1 with h1
 exact h1.symm
def addR (R:List α) (r:α):List α:=if r∈R then R else R++[r]
theorem mem_addR {R:List α} {r x:α}:x∈addR R r↔x∈R∨x=r:=by
 unfold addR
 split
 ·constructor
  ·exact Or.inl
  ·rintro (h | rfl)
   ·exact h
   ·assumption
 ·simp
theorem pos_addR {R:List α} {r x:α} (h:x∈R):pos x (addR R r)=pos x R:=by
 unfold addR
 split
 ·rfl
 ·exact pos_append h
theorem addR_len (R:List α) (r:α):(addR R r).length≤R.length+1:=by
 unfold addR
 split
 ·omega
 ·simp
end
def rkeyL:List (List Int)→List UInt8
 | []=>[]
 | o::r=>keyL o++47::rkeyL r
theorem rkeyL_append (a b:List (List Int)):rkeyL (a++b)=rkeyL a++rkeyL b:=by
 induction a with
 | nil=>rfl
 | cons o a ih=>simp [rkeyL,ih]
theorem keyL_char:∀ (w:List Int),∀ c∈keyL w,c≠47
 | [],c,h=>by cases h
 | a::w,c,h=>by
  simp only [keyL] at h
  rcases List.mem_append.1 h with h | h
  ·intro e
   subst e
   unfold enc36 at h
   split at h
   ·rcases List.mem_cons.1 h with h | h
    ·cases h
    ·have:=digs_char _ _ h
     revert this
     decide
   ·have:=digs_char _ _ h
    revert this
    decide
  ·rcases List.mem_cons.1 h with h | h
   ·subst h;decide
   ·exact keyL_char w c h
theorem rkeyL_inj:∀ {a b:List (List Int)},rkeyL a=rkeyL b→a=b
 | [],[],_=>rfl
 | [],o::b,h=>by
  simp only [rkeyL] at h
  have:=congrArg List.length h
  simp at this
 | o::a,[],h=>by
  simp only [rkeyL] at h
  have:=congrArg List.length h
  simp at this
 | o::a,u::b,h=>by
  simp only [rkeyL] at h
  obtain ⟨h1,h2⟩:=split_at (keyL_char o) (keyL_char u) h
  rw [keyL_inj h1,rkeyL_inj h2]
def rkey (r:List (List Int)):ByteArray:=⟨(rkeyL r).toArray⟩
theorem rkey_inj {a b:List (List Int)} (h:rkey a=rkey b):a=b:=rkeyL_inj (by
 unfold rkey at h
 injection h with h
 injection h)
def RowSm (r:List (List Int)):Prop:=r.length≤100∧∀ x∈r,x.length≤1000∧∀ a∈x,inR a
theorem rkeyL_len {r:List (List Int)} (h:∀ x∈r,x.length≤1000∧∀ a∈x,inR a):(rkeyL r).length≤15001*r.length:=by
 induction r with
 | nil=>simp [rkeyL]
 | cons o r ih =>
  have h1:=h o (by simp)
  have h2:=keyL_len (xs:=o) h1.2
  have h3:=ih fun x hx=>h x (by simp [hx])
  simp only [rkeyL,List.length_append,List.length_cons]
  omega
theorem bytes_append (a b:List UInt8):((⟨a.toArray⟩:ByteArray)++⟨b.toArray⟩)=⟨(a++b).toArray⟩:=by
 apply ByteArray.ext
 simp
theorem bytes_size (a:List UInt8):(⟨a.toArray⟩:ByteArray).size=a.length:=by simp [ByteArray.size]
theorem row_key_eq {r:List (List Int)} (h:RowSm r):iter (fun (s:ByteArray×Nat)=>zq77.s2 r s.1 s.2) fuel ((⟨#[]⟩:ByteArray),0)=some (rkey r):=by
 obtain ⟨hl,hr⟩:=h
 refine iter_eq (fun s=>s.2≤r.length∧s.1=rkey (r.take s.2)) (fun s=>r.length-s.2) (fun s ⟨g1,g2⟩=>?_) ⟨Nat.zero_le _,rfl⟩ (by have:=fuel_big;simp only;omega)
 obtain ⟨z,k⟩:=s
 simp only at g1 g2
 subst g2
 simp only [zq77.s2]
 by_cases g4:k<r.length
 ·left
  have hx:=get_at g4
  have hxr:=hr _ (List.getElem_mem g4)
  have hkl:=keyL_len (xs:=r[k]) hxr.2
  have hrl:=rkeyL_len (r:=r.take k) fun x hx=>hr x (List.mem_of_mem_take hx)
  rw [List.length_take] at hrl
  have e1:((⟨(keyL r[k]).toArray⟩:ByteArray)++⟨#[47]⟩)=⟨(keyL r[k]++[47]).toArray⟩:=bytes_append (keyL r[k]) [47]
  refine ⟨(rkey (r.take (k+1)),k+1),?_,⟨by simp only;omega,rfl⟩,by simp only;omega⟩
  rw [dec_lt hx,cond_true,idxn_at hx,zq93 (by unfold SmW;omega) hxr.2,obind,e1]
  have e2:(⟨#[47]⟩:ByteArray).size=1:=rfl
  rw [chk_pos (by rw [bytes_size,e2];omega),chk_pos (by
   unfold rkey
   rw [bytes_size,bytes_size,List.length_append,List.length_singleton]
   omega)]
  unfold rkey
  rw [bytes_append,take_step hx,rkeyL_append]
  simp [rkeyL]
 ·right
  have e:k=r.length:=by omega
  subst e
  rw [decide_eq_false (by omega),cond_false,List.take_length]
def NumOk (R:List (List (List Int))) (m:List (ByteArray×Int)):Prop:=∀ r,mget (rkey r) m=if r∈R then some (↑(pos r R):Int) else none
theorem view_add_eq {v:T_table_view} {r:List (List Int)} (h:RowSm r) (hn:NumOk v.rows v.number) (hl:v.rows.length≤100000) :
  ∃ m,zq77 v r=some ((↑(pos r (addR v.rows r)):Int),⟨addR v.rows r,v.prefixes,v.next,m⟩)∧NumOk (addR v.rows r) m:=by
 unfold zq77
 rw [row_key_eq h,obind]
 have hr:=hn r
 by_cases hm:r∈v.rows
 ·rw [if_pos hm] at hr
  refine ⟨v.number,?_,?_⟩
  ·rw [hr]
   simp only [Option.isSome_some,Bool.not_true,cond_false,Option.getD_some]
   unfold addR
   rw [if_pos hm]
   rfl
  ·unfold addR
   rw [if_pos hm]
   exact hn
 ·rw [if_neg hm] at hr
  refine ⟨mset (rkey r) (↑v.rows.length:Int) v.number,?_,fun x=>?_⟩
  ·rw [hr]
   simp only [Option.isSome_none,Bool.not_false,cond_true]
   rw [chk_pos (by unfold capOk;omega),obind]
   unfold addR
   rw [if_neg hm,pos_new hm]
   rfl
  ·unfold addR
   rw [if_neg hm]
   by_cases hx:x=r
   ·subst hx
    rw [mget_mset_same ba_beq,if_pos (by simp),pos_new hm]
   ·rw [mget_mset_ne ba_beq (fun e=>hx (rkey_inj e)),hn x]
    by_cases hxm:x∈v.rows
    ·rw [if_pos hxm,if_pos (by simp [hxm]),pos_append hxm]
    ·rw [if_neg hxm,if_neg (by simp [hxm,hx])]
end Go.Proofs.YtedabpfahmealaaGreatDoor.Sym

/-
 The view of a table, whole. Plain laws.
-/
namespace Go.Proofs.YtedabpfahmealaaGreatDoor.Sym
set_option maxRecDepth 100000
def rowsO (o:T_api_Obs) (S:List (List Int)):List (List Int)→Option (List (List (List Int)))
 | []=>some []
 | w::ws=>match rowO o w S with
  | none=>none
  | some r=>(rowsO o S ws).map fun l=>r::l
theorem rowsO_all {o:T_api_Obs} {S:List (List Int)}:∀ {ws:List (List Int)} {rs:List (List (List Int))},rowsO o S ws=some rs→rs.length=ws.length∧∀ (i:Nat) w,ws[i]?=some w→∃ r,rs[i]?=some r∧rowO o w S=some r
 | [],rs,h=>by
  injection h with h
  subst h
  exact ⟨rfl,fun i w hw=>by simp at hw⟩
 | w::ws,rs,h=>by
  unfold rowsO at h
  cases hr:rowO o w S with
  | none=>rw [hr] at h;cases h
  | some r =>
   rw [hr] at h
   obtain ⟨rs',h1,rfl⟩:=Option.map_eq_some_iff.1 h
   obtain ⟨h2,h3⟩:=rowsO_all h1
   refine ⟨by simp [h2],fun i u hu=>?_⟩
   cases i with
   | zero =>
    simp at hu
    subst hu
    exact ⟨r,rfl,hr⟩
   | succ i=>simpa using h3 i u (by simpa using hu)
theorem rowsO_none {o:T_api_Obs} {S:List (List Int)} {ws:List (List Int)} {w:List Int} (hw:w∈ws) (h:rowO o w S=none):rowsO o S ws=none:=by
 cases hr:rowsO o S ws with
 | none=>rfl
 | some rs =>
  obtain ⟨i,hi,rfl⟩:=List.mem_iff_getElem.1 hw
  obtain ⟨r,_,h2⟩:=(rowsO_all hr).2 i _ (get_at hi)
  rw [h] at h2
  cases h2
theorem rowsO_snoc {o:T_api_Obs} {S:List (List Int)} {w:List Int} {r:List (List Int)} (h:rowO o w S=some r):∀ {ws:List (List Int)} {rs:List (List (List Int))},rowsO o S ws=some rs→rowsO o S (ws++[w])=some (rs++[r])
 | [],rs,h1=>by
  injection h1 with h1
  subst h1
  simp [rowsO,h]
 | u::ws,rs,h1=>by
  rw [List.cons_append]
  unfold rowsO at h1 ⊢
  cases hr:rowO o u S with
  | none=>rw [hr] at h1;cases h1
  | some r' =>
   rw [hr] at h1
   obtain ⟨rs',h2,rfl⟩:=Option.map_eq_some_iff.1 h1
   simp only [rowsO_snoc h h2]
   rfl
theorem ansO_rng {o:T_api_Obs} (hv:ObsOk o) {w r:List Int} (h:ansO o w=some r):∀ a∈r,inR a:=by
 unfold ansO at h
 split at h
 ·injection h with h
  subst h
  intro a ha
  cases ha
 ·obtain ⟨t,ht,rfl⟩:=Option.map_eq_some_iff.1 h
  intro a ha
  have hm:=List.mem_of_find?_eq_some ht
  have:=(hv.prop t hm).1.2.2 a (List.mem_of_mem_take ha)
  unfold inR
  omega
theorem rowO_rng {o:T_api_Obs} (hv:ObsOk o) {w:List Int}:∀ {S:List (List Int)} {l:List (List Int)},rowO o w S=some l→∀ x∈l,∀ a∈x,inR a
 | [],l,h=>by
  injection h with h
  subst h
  intro x hx
  cases hx
 | e::S,l,h=>by
  unfold rowO at h
  cases ha:ansO o (w++e) with
  | none=>rw [ha] at h;cases h
  | some r =>
   rw [ha] at h
   obtain ⟨l',h1,rfl⟩:=Option.map_eq_some_iff.1 h
   intro x hx a hax
   rcases List.mem_cons.1 hx with rfl | hx
   ·exact ansO_rng hv ha a (List.mem_of_mem_drop hax)
   ·exact rowO_rng hv h1 x hx a hax
theorem rowO_rsm {o:T_api_Obs} {t:T_api_Table} (hv:ObsOk o) (ht:TabOk t) {w:List Int} {r:List (List Int)} (h:rowO o w t.Suffixes=some r):RowSm r:=by
 obtain ⟨h1,h2⟩:=rowO_sml hv h
 refine ⟨by have:=ht.s;omega,fun x hx=>⟨?_,rowO_rng hv h x hx⟩⟩
 obtain ⟨e,he,hl⟩:=h2 x hx
 have:=ht.sw e he
 omega
abbrev v0:T_table_view:=⟨[],[],[],[]⟩
abbrev Row:Type:=List (List Int)
def addAll (R:List Row) (rs:List Row):List Row:=rs.foldl addR R
theorem addAll_snoc (R:List Row) (rs:List Row) (r:Row):addAll R (rs++[r])=addR (addAll R rs) r:=by simp [addAll]
theorem addAll_append (R:List Row) (a b:List Row):addAll R (a++b)=addAll (addAll R a) b:=by simp [addAll]
theorem mem_addAll {R:List Row} {x:Row}:∀ {rs:List Row},x∈addAll R rs↔x∈R∨x∈rs:=by
 intro rs
 induction rs generalizing R with
 | nil=>simp [addAll]
 | cons r rs ih =>
  show x∈addAll (addR R r) rs↔_
  rw [ih,mem_addR,List.mem_cons]
  constructor
  ·rintro ((h | h) | h)
   ·exact Or.inl h
   ·exact Or.inr (Or.inl h)
   ·exact Or.inr (Or.inr h)
  ·rintro (h | h | h)
   ·exact Or.inl (Or.inl h)
   ·exact Or.inl (Or.inr h)
   ·exact Or.inr h
theorem pos_addAll {R:List Row} {x:Row} (h:x∈R):∀ rs:List Row,pos x (addAll R rs)=pos x R:=by
 intro rs
 induction rs generalizing R with
 | nil=>rfl
 | cons r rs ih =>
  show pos x (addAll (addR R r) rs)=_
  rw [ih (mem_addR.2 (Or.inl h)),pos_addR h]
theorem addAll_len (R:List Row) (rs:List Row):(addAll R rs).length≤R.length+rs.length:=by
 induction rs generalizing R with
 | nil=>simp [addAll]
 | cons r rs ih =>
  have h1:=ih (R:=addR R r)
  have h2:=addR_len R r
  show (addAll (addR R r) rs).length≤_
  rw [List.length_cons]
  omega
def nums (R:List Row) (rs:List Row):List Int:=rs.map fun r=>(↑(pos r R):Int)
theorem nums_add {R:List Row} {rs:List Row} (h:∀ x∈rs,x∈R) (X:List Row):nums (addAll R X) rs=nums R rs:=by
 unfold nums
 refine List.map_congr_left fun x hx=>?_
 rw [pos_addAll (h x hx)]
theorem look_first {o:T_api_Obs} {t:T_api_Table} {F:List T_api_Trace} (ht:TabOk t) (ho:SmO o) (hv:ObsOk o) (hF:FindOk o F) :
  ∃ res,iter (fun (s:List (List (List Int))×List Int×(List (ByteArray×Int))×Nat)=>zq106.s2 t F s.1 s.2.1 s.2.2.1 s.2.2.2) fuel ([],[],([]:List (ByteArray×Int)),0)=some res ∧
   match rowsO o t.Suffixes t.Prefixes with
   | none=>res=.inr (v0,12)
   | some rs=>∃ m,res=.inl (addAll [] rs,nums (addAll [] rs) rs,m)∧NumOk (addAll [] rs) m:=by
 have hp:=ht.p
 have hS:=ht.sm.2.2.1
 refine iter_post (step:=fun (s:List (List (List Int))×List Int×(List (ByteArray×Int))×Nat)=>zq106.s2 t F s.1 s.2.1 s.2.2.1 s.2.2.2)
  (fun s=>s.2.2.2≤t.Prefixes.length∧∃ rs,rowsO o t.Suffixes (t.Prefixes.take s.2.2.2)=some rs∧s.1=addAll [] rs∧s.2.1=nums (addAll [] rs) rs∧NumOk (addAll [] rs) s.2.2.1) (fun s=>t.Prefixes.length-s.2.2.2) _ (fun s ⟨g1,rs,g2,g3,g4,g5⟩=>?_) fuel _ ⟨Nat.zero_le _,[],rfl,rfl,rfl,fun r=>by simp [addAll,mget]⟩ (by have:=fuel_big;simp only;omega)
 obtain ⟨R,N,m,k⟩:=s
 simp only at g1 g2 g3 g4 g5
 subst g3 g4
 have hrl:rs.length=k:=by
  have:=(rowsO_all g2).1
  rw [List.length_take] at this
  omega
 have hRl:=addAll_len [] rs
 simp only [List.length_nil] at hRl
 simp only [zq106.s2]
 by_cases h:k<t.Prefixes.length
 ·have hx:=get_at h
  have hxs:SmW t.Prefixes[k]:=ht.sm.2.1.2 _ (List.getElem_mem _)
  rw [dec_lt hx,cond_true,idxn_at hx,finder_row_eq ho hv hF hS hxs,obind]
  cases hr:rowO o t.Prefixes[k] t.Suffixes with
  | none =>
   right
   refine ⟨.inr (v0,12),rfl,?_⟩
   rw [rowsO_none (List.getElem_mem h) hr]
  | some r =>
   left
   have hsm:=rowO_rsm hv ht hr
   obtain ⟨m',e,hm'⟩:=view_add_eq (v:=⟨addAll [] rs,nums (addAll [] rs) rs,[],m⟩) hsm g5 (by simp only;omega)
   simp only at e hm'
   refine ⟨(addAll [] (rs++[r]),nums (addAll [] (rs++[r])) (rs++[r]),m',k+1),?_,⟨h,rs++[r],?_,rfl,rfl,?_⟩,by simp only;omega⟩
   ·simp only [tw,Bool.not_true,cond_false]
    rw [e,obind,chk_pos (by unfold nums capOk;rw [List.length_map];omega),addAll_snoc]
    have h1:nums (addR (addAll [] rs) r) (rs++[r])=nums (addAll [] rs) rs++[(↑(pos r (addR (addAll [] rs) r)):Int)]:=by
     have h2:=nums_add (R:=addAll [] rs) (rs:=rs) (fun x hx=>mem_addAll.2 (Or.inr hx)) [r]
     have h3:addAll (addAll [] rs) [r]=addR (addAll [] rs) r:=rfl
     rw [h3] at h2
     rw [← h2]
     simp [nums]
    rw [h1]
   ·simp only
    rw [take_step hx]
    exact rowsO_snoc hr g2
   ·simp only
    rw [addAll_snoc]
    exact hm'
 ·right
  have e:k=t.Prefixes.length:=by omega
  subst e
  rw [List.take_length] at g2
  refine ⟨.inl (addAll [] rs,nums (addAll [] rs) rs,m),by rw [decide_eq_false (by omega),cond_false],?_⟩
  rw [g2]
  exact ⟨m,rfl,g5⟩
def exts (n:Nat) (p:List Int):List (List Int):=(List.range n).map fun (a:Nat)=>p++[(↑a:Int)]
theorem look_inner {o:T_api_Obs} {t:T_api_Table} {F:List T_api_Trace} (ht:TabOk t) (ho:SmO o) (hv:ObsOk o) (hF:FindOk o F) (P:List Int) (Q:List (List Int)) {p:List Int} (hp:SmW p) (hp1:p.length≤1000000) {R:List Row} {m:List (ByteArray×Int)} (hm:NumOk R m) (hR:R.length≤10000) :
  ∃ res,iter (fun (s:List (List (List Int))×(List (ByteArray×Int))×List Int×Nat)=>zq106.s20 t F P Q p s.1 s.2.1 s.2.2.1 s.2.2.2) fuel (R,m,[],0)=some res ∧
   match rowsO o t.Suffixes (exts t.Inputs.toNat p) with
   | none=>res=.inr (.inr (.inr (v0,12)))
   | some rs=>∃ m',res=.inl (addAll R rs,m',nums (addAll R rs) rs)∧NumOk (addAll R rs) m':=by
 have hn:=ht.n
 have hS:=ht.sm.2.2.1
 refine iter_post (step:=fun (s:List (List (List Int))×(List (ByteArray×Int))×List Int×Nat)=>zq106.s20 t F P Q p s.1 s.2.1 s.2.2.1 s.2.2.2)
  (fun s=>s.2.2.2≤t.Inputs.toNat∧∃ rs,rowsO o t.Suffixes (exts s.2.2.2 p)=some rs∧s.1=addAll R rs∧s.2.2.1=nums (addAll R rs) rs∧NumOk (addAll R rs) s.2.1) (fun s=>t.Inputs.toNat-s.2.2.2) _ (fun s ⟨g1,rs,g2,g3,g4,g5⟩=>?_) fuel _ ⟨Nat.zero_le _,[],rfl,rfl,rfl,hm⟩ (by have:=fuel_big;simp only;omega)
 obtain ⟨R',m1,N,k⟩:=s
 simp only at g1 g2 g3 g4 g5
 subst g3 g4
 have hrl:rs.length=k:=by
  have:=(rowsO_all g2).1
  unfold exts at this
  simpa using this
 have hRl:=addAll_len R rs
 simp only [zq106.s20]
 by_cases h:k<t.Inputs.toNat
 ·have hxs:SmW (p++[(↑k:Int)]):=by
   show (p++[(↑k:Int)]).length≤2000000
   simp
   omega
  have hst:exts (k+1) p=exts k p++[p++[(↑k:Int)]]:=by simp [exts,List.range_succ]
  rw [decide_eq_true (by omega),cond_true,zq60 hp,obind,finder_row_eq ho hv hF hS hxs,obind]
  cases hr:rowO o (p++[(↑k:Int)]) t.Suffixes with
  | none =>
   right
   refine ⟨.inr (.inr (.inr (v0,12))),rfl,?_⟩
   rw [rowsO_none (ws:=exts t.Inputs.toNat p) (w:=p++[(↑k:Int)]) (List.mem_map.2 ⟨k,List.mem_range.2 h,rfl⟩) hr]
  | some r =>
   left
   have hsm:=rowO_rsm hv ht hr
   obtain ⟨m',e,hm'⟩:=view_add_eq (v:=⟨addAll R rs,P,Q,m1⟩) hsm g5 (by simp only;omega)
   simp only at e hm'
   refine ⟨(addAll R (rs++[r]),m',nums (addAll R (rs++[r])) (rs++[r]),k+1),?_,⟨h,rs++[r],?_,rfl,rfl,?_⟩,by simp only;omega⟩
   ·simp only [tw,Bool.not_true,cond_false]
    rw [e,obind,chk_pos (by unfold nums capOk;rw [List.length_map];omega),chk_pos (by unfold inR;omega),addAll_snoc]
    have h1:nums (addR (addAll R rs) r) (rs++[r])=nums (addAll R rs) rs++[(↑(pos r (addR (addAll R rs) r)):Int)]:=by
     have h2:=nums_add (R:=addAll R rs) (rs:=rs) (fun x hx=>mem_addAll.2 (Or.inr hx)) [r]
     have h3:addAll (addAll R rs) [r]=addR (addAll R rs) r:=rfl
     rw [h3] at h2
     rw [← h2]
     simp [nums]
    rw [h1]
   ·simp only
    rw [hst]
    exact rowsO_snoc hr g2
   ·simp only
    rw [addAll_snoc]
    exact hm'
 ·right
  have e:k=t.Inputs.toNat:=by omega
  subst e
  refine ⟨.inl (addAll R rs,m1,nums (addAll R rs) rs),by rw [decide_eq_false (by omega),cond_false],?_⟩
  rw [g2]
  exact ⟨m1,rfl,g5⟩
def extRows (o:T_api_Obs) (S:List (List Int)) (n:Nat):List (List Int)→Option (List (List Row))
 | []=>some []
 | p::ps=>match rowsO o S (exts n p) with
  | none=>none
  | some rs=>(extRows o S n ps).map fun l=>rs::l
theorem extRows_all {o:T_api_Obs} {S:List (List Int)} {n:Nat}:∀ {ps:List (List Int)} {rss:List (List Row)},extRows o S n ps=some rss→rss.length=ps.length∧∀ (i:Nat) p,ps[i]?=some p→∃ rs,rss[i]?=some rs∧rowsO o S (exts n p)=some rs
 | [],rss,h=>by
  injection h with h
  subst h
  exact ⟨rfl,fun i w hw=>by simp at hw⟩
 | p::ps,rss,h=>by
  unfold extRows at h
  cases hr:rowsO o S (exts n p) with
  | none=>rw [hr] at h;cases h
  | some r =>
   rw [hr] at h
   obtain ⟨rs',h1,rfl⟩:=Option.map_eq_some_iff.1 h
   obtain ⟨h2,h3⟩:=extRows_all h1
   refine ⟨by simp [h2],fun i u hu=>?_⟩
   cases i with
   | zero =>
    simp at hu
    subst hu
    exact ⟨r,rfl,hr⟩
   | succ i=>simpa using h3 i u (by simpa using hu)
theorem extRows_none {o:T_api_Obs} {S:List (List Int)} {n:Nat} {ps:List (List Int)} {p:List Int} (hw:p∈ps) (h:rowsO o S (exts n p)=none):extRows o S n ps=none:=by
 cases hr:extRows o S n ps with
 | none=>rfl
 | some rs =>
  obtain ⟨i,hi,rfl⟩:=List.mem_iff_getElem.1 hw
  obtain ⟨r,_,h2⟩:=(extRows_all hr).2 i _ (get_at hi)
  rw [h] at h2
  cases h2
theorem extRows_snoc {o:T_api_Obs} {S:List (List Int)} {n:Nat} {p:List Int} {r:List Row} (h:rowsO o S (exts n p)=some r):∀ {ps:List (List Int)} {rs:List (List Row)},extRows o S n ps=some rs→extRows o S n (ps++[p])=some (rs++[r])
 | [],rs,h1=>by
  injection h1 with h1
  subst h1
  simp [extRows,h]
 | u::ps,rs,h1=>by
  rw [List.cons_append]
  unfold extRows at h1 ⊢
  cases hr:rowsO o S (exts n u) with
  | none=>rw [hr] at h1;cases h1
  | some r' =>
   rw [hr] at h1
   obtain ⟨rs',h2,rfl⟩:=Option.map_eq_some_iff.1 h1
   simp only [extRows_snoc h h2]
   rfl
theorem look_second {o:T_api_Obs} {t:T_api_Table} {F:List T_api_Trace} (ht:TabOk t) (ho:SmO o) (hv:ObsOk o) (hF:FindOk o F) (P:List Int) {R:List Row} {m:List (ByteArray×Int)} (hm:NumOk R m) (hR:R.length≤1000) :
  ∃ res,iter (fun (s:List (List (List Int))×List (List Int)×(List (ByteArray×Int))×Nat)=>zq106.s22 t F P s.1 s.2.1 s.2.2.1 s.2.2.2) fuel (R,[],m,0)=some res ∧
   match extRows o t.Suffixes t.Inputs.toNat t.Prefixes with
   | none=>res=.inr (v0,12)
   | some rss=>∃ m',res=.inl (addAll R rss.flatten,rss.map (nums (addAll R rss.flatten)),m'):=by
 have hn:=ht.n
 have hp:=ht.p
 refine iter_post (step:=fun (s:List (List (List Int))×List (List Int)×(List (ByteArray×Int))×Nat)=>zq106.s22 t F P s.1 s.2.1 s.2.2.1 s.2.2.2)
  (fun s=>s.2.2.2≤t.Prefixes.length∧∃ rss,extRows o t.Suffixes t.Inputs.toNat (t.Prefixes.take s.2.2.2)=some rss∧rss.flatten.length≤4*s.2.2.2∧s.1=addAll R rss.flatten∧s.2.1=rss.map (nums (addAll R rss.flatten))∧NumOk (addAll R rss.flatten) s.2.2.1) (fun s=>t.Prefixes.length-s.2.2.2) _ (fun s ⟨g1,rss,g2,g6,g3,g4,g5⟩=>?_) fuel _ ⟨Nat.zero_le _,[],rfl,by simp,rfl,rfl,hm⟩ (by have:=fuel_big;simp only;omega)
 obtain ⟨R',N,m1,k⟩:=s
 simp only at g1 g2 g3 g4 g5 g6
 subst g3 g4
 have hrl:rss.length=k:=by
  have:=(extRows_all g2).1
  rw [List.length_take] at this
  omega
 have hRl:=addAll_len R rss.flatten
 simp only [zq106.s22]
 by_cases h:k<t.Prefixes.length
 ·have hx:=get_at h
  have hxs:SmW t.Prefixes[k]:=ht.sm.2.1.2 _ (List.getElem_mem _)
  have hxl:=ht.pw _ (List.getElem_mem h)
  obtain ⟨res,e,hres⟩:=look_inner ht ho hv hF P (rss.map (nums (addAll R rss.flatten))) hxs (by omega) g5 (by omega)
  rw [dec_lt hx,cond_true,idxn_at hx,e,obind]
  cases hr:rowsO o t.Suffixes (exts t.Inputs.toNat t.Prefixes[k]) with
  | none =>
   rw [hr] at hres
   right
   refine ⟨.inr (v0,12),by rw [hres];rfl,?_⟩
   rw [extRows_none (List.getElem_mem h) hr]
  | some rs =>
   rw [hr] at hres
   obtain ⟨m',h1,h2⟩:=hres
   left
   have hsl:rs.length=t.Inputs.toNat:=by
    have:=(rowsO_all hr).1
    unfold exts at this
    simpa using this
   have hfl:(rss++[rs]).flatten=rss.flatten++rs:=by simp
   refine ⟨(addAll R (rss++[rs]).flatten,(rss++[rs]).map (nums (addAll R (rss++[rs]).flatten)),m',k+1),?_,⟨h,rss++[rs],?_,?_,rfl,rfl,?_⟩,by simp only;omega⟩
   ·rw [h1]
    simp only [Sum.elim_inl,zq106.k21]
    rw [chk_pos (by rw [List.length_map];unfold capOk;omega),hfl,addAll_append]
    have h3:rss.map (nums (addAll (addAll R rss.flatten) rs))=rss.map (nums (addAll R rss.flatten)):=by
     refine List.map_congr_left fun x hx=>?_
     exact nums_add (fun y hy=>mem_addAll.2 (Or.inr (List.mem_flatten.2 ⟨x,hx,hy⟩))) rs
    rw [List.map_append,h3]
    rfl
   ·simp only
    rw [take_step hx]
    exact extRows_snoc hr g2
   ·simp only
    rw [hfl,List.length_append]
    omega
   ·simp only
    rw [hfl,addAll_append]
    exact h2
 ·right
  have e:k=t.Prefixes.length:=by omega
  subst e
  rw [List.take_length] at g2
  refine ⟨.inl (addAll R rss.flatten,rss.map (nums (addAll R rss.flatten)),m1),by rw [decide_eq_false (by omega),cond_false],?_⟩
  rw [g2]
  exact ⟨m1,rfl⟩
def LookSpec (t:T_api_Table) (o:T_api_Obs) (v:T_table_view) (e:Int):Prop :=
 (chkT t o≠0∧e=chkT t o) ∨
 (chkT t o=0∧e=12∧(rowsO o t.Suffixes t.Prefixes=none∨extRows o t.Suffixes t.Inputs.toNat t.Prefixes=none)) ∨
 (chkT t o=0∧e=0∧∃ rs rss,rowsO o t.Suffixes t.Prefixes=some rs∧extRows o t.Suffixes t.Inputs.toNat t.Prefixes=some rss ∧
  v.rows=addAll (addAll [] rs) rss.flatten∧v.prefixes=nums v.rows rs∧v.next=rss.map (nums v.rows))
theorem table_look_eq {t:T_api_Table} {o:T_api_Obs} (ht:TabOk t) (ho:SmO o) (hv:ObsOk o):∃ v e,zq106 t o=some (v,e)∧LookSpec t o v e:=by
 obtain ⟨F,hF1,hF⟩:=table_find_eq ho hv
 have hp:=ht.p
 unfold zq106
 rw [table_check_eq ht.sm,obind]
 by_cases h:chkT t o=0
 ·rw [decide_eq_false (by simpa using h),cond_false,hF1,obind]
  obtain ⟨res,e,hres⟩:=look_first ht ho hv hF
  rw [e,obind]
  cases hr:rowsO o t.Suffixes t.Prefixes with
  | none =>
   rw [hr] at hres
   subst hres
   exact ⟨v0,12,rfl,.inr (.inl ⟨h,rfl,.inl hr⟩)⟩
  | some rs =>
   rw [hr] at hres
   obtain ⟨m,h1,h2⟩:=hres
   subst h1
   have hrl:=(rowsO_all hr).1
   have hRl:=addAll_len [] rs
   simp only [List.length_nil] at hRl
   simp only [Sum.elim_inl,zq106.k24]
   obtain ⟨res2,e2,hres2⟩:=look_second ht ho hv hF (nums (addAll [] rs) rs) h2 (by omega)
   rw [e2,obind]
   cases hr2:extRows o t.Suffixes t.Inputs.toNat t.Prefixes with
   | none =>
    rw [hr2] at hres2
    subst hres2
    exact ⟨v0,12,rfl,.inr (.inl ⟨h,rfl,.inr hr2⟩)⟩
   | some rss =>
    rw [hr2] at hres2
    obtain ⟨m',h3⟩:=hres2
    subst h3
    refine ⟨_,0,rfl,.inr (.inr ⟨h,rfl,rs,rss,hr,hr2,rfl,?_,rfl⟩)⟩
    exact (nums_add (fun x hx=>mem_addAll.2 (Or.inr hx)) rss.flatten).symm
 ·rw [decide_eq_true h,cond_true]
  exact ⟨_,_,rfl,.inl ⟨h,rfl⟩⟩
end Go.Proofs.YtedabpfahmealaaGreatDoor.Sym

/-
 Complete tables, and the word that shows that a table is not closed. Plain laws.
-/
namespace Go.Proofs.YtedabpfahmealaaGreatDoor.Sym
set_option maxRecDepth 100000
theorem rowO_some {o:T_api_Obs} {w:List Int}:∀ {S:List (List Int)},(∀ e∈S,ansO o (w++e)≠none)→∃ r,rowO o w S=some r
 | [],_=>⟨[],rfl⟩
 | e::S,h=>by
  obtain ⟨l,hl⟩:=rowO_some (S:=S) fun e he=>h e (List.mem_cons_of_mem _ he)
  unfold rowO
  cases ha:ansO o (w++e) with
  | none=>exact absurd ha (h e (by simp))
  | some r =>
   rw [hl]
   exact ⟨_,rfl⟩
theorem rowO_ans {o:T_api_Obs} {w:List Int}:∀ {S:List (List Int)} {r:Row},rowO o w S=some r→∀ e∈S,ansO o (w++e)≠none
 | [],_,_,e,he=>by cases he
 | u::S,r,h,e,he=>by
  unfold rowO at h
  cases ha:ansO o (w++u) with
  | none=>rw [ha] at h;cases h
  | some x =>
   rw [ha] at h
   obtain ⟨l,h1,_⟩:=Option.map_eq_some_iff.1 h
   rcases List.mem_cons.1 he with rfl | he
   ·rw [ha];simp
   ·exact rowO_ans h1 e he
def AllRows (t:T_api_Table) (o:T_api_Obs):Prop:=∀ p∈t.Prefixes,∀ w∈withX t.Inputs.toNat p,∃ r,rowO o w t.Suffixes=some r
theorem need_nil {t:T_api_Table} {o:T_api_Obs}:needL o t t.Prefixes=[]↔AllRows t o:=by
 constructor
 ·intro h p hp w hw
  refine rowO_some fun e he hn=>?_
  have:w++e∈needL o t t.Prefixes:=List.mem_flatMap.2 ⟨p,hp,List.mem_flatMap.2 ⟨w,hw,mem_missO.2 ⟨⟨e,he,rfl⟩,hn⟩⟩⟩
  rw [h] at this
  cases this
 ·intro h
  refine List.eq_nil_iff_forall_not_mem.2 fun v hv=>?_
  obtain ⟨p,hp,h2⟩:=List.mem_flatMap.1 hv
  obtain ⟨w,hw,h3⟩:=List.mem_flatMap.1 h2
  obtain ⟨⟨e,he,rfl⟩,hn⟩:=mem_missO.1 h3
  obtain ⟨r,hr⟩:=h p hp w hw
  exact rowO_ans hr e he hn
theorem longest_word:∀ {l:List (List Int)},l≠[]→∃ y∈l,∀ z∈l,z.length≤y.length
 | [x],_=>⟨x,by simp,fun z hz=>by rw [List.mem_singleton.1 hz];exact Nat.le_refl _⟩
 | x::u::l,_=>by
  obtain ⟨y,hy,h⟩:=longest_word (l:=u::l) (by simp)
  by_cases h1:y.length≤x.length
  ·refine ⟨x,by simp,fun z hz=>?_⟩
   rcases List.mem_cons.1 hz with rfl | hz
   ·exact Nat.le_refl _
   ·exact Nat.le_trans (h z hz) h1
  ·refine ⟨y,List.mem_cons_of_mem _ hy,fun z hz=>?_⟩
   rcases List.mem_cons.1 hz with rfl | hz
   ·omega
   ·exact h z hz
theorem maxR_nil {l:List (List Int)}:maxR l=[]↔l=[]:=by
 constructor
 ·intro h
  refine Classical.byContradiction fun hne=>?_
  obtain ⟨y,hy,hmax⟩:=longest_word hne
  have:y∈maxR l:=(mem_maxR_iff l y).2 ⟨hy,fun z hz=>by
   by_cases hp:y <+: z
   ·left
    have h1:=hmax z hz
    have h2:=hp.length_le
    exact (hp.eq_of_length (by omega)).symm
   ·exact Or.inr hp⟩
  rw [h] at this
  cases this
 ·rintro rfl
  rfl
def compT (t:T_api_Table) (o:T_api_Obs):Int:=if chkT t o≠0 then chkT t o else if needL o t t.Prefixes=[] then 0 else 12
theorem R23_complete_eq {t:T_api_Table} {o:T_api_Obs} (ht:TabOk t) (ho:SmO o) (hv:ObsOk o):R23_complete t o=some (compT t o):=by
 unfold R23_complete compT
 rw [R23_Needed_eq ht ho hv,obind]
 by_cases h:chkT t o=0
 ·rw [if_neg (by simpa using h),if_neg (by simpa using h)]
  by_cases hn:needL o t t.Prefixes=[]
  ·rw [if_pos hn,hn]
   rfl
  ·rw [if_neg hn]
   have:maxR (needL o t t.Prefixes)≠[]:=fun e=>hn (maxR_nil.1 e)
   have hl:0<(maxR (needL o t t.Prefixes)).length:=List.length_pos_iff.2 this
   rw [decide_eq_false (by simp),cond_false,decide_eq_true (by simp only;omega),cond_true]
 ·rw [if_pos h,if_pos h,decide_eq_true h,cond_true]
structure ViewOk (t:T_api_Table) (o:T_api_Obs) (v:T_table_view):Prop where
 pl:v.prefixes.length=t.Prefixes.length
 nl:v.next.length=t.Prefixes.length
 pre:∀ (i:Nat) p,t.Prefixes[i]?=some p→∃ r,rowO o p t.Suffixes=some r∧r∈v.rows∧v.prefixes[i]?=some (↑(pos r v.rows):Int)
 nxt:∀ (i:Nat) p,t.Prefixes[i]?=some p→∃ l,v.next[i]?=some l∧l.length=t.Inputs.toNat∧∀ a,a<t.Inputs.toNat→∃ r,rowO o (p++[(↑a:Int)]) t.Suffixes=some r∧r∈v.rows∧l[a]?=some (↑(pos r v.rows):Int)
theorem look_view {t:T_api_Table} {o:T_api_Obs} {v:T_table_view} {e:Int} (h:LookSpec t o v e):e=compT t o∧(e=0→ViewOk t o v∧AllRows t o∧chkT t o=0):=by
 unfold compT
 rcases h with ⟨h1,rfl⟩ | ⟨h1,rfl,h2⟩ | ⟨h1,rfl,rs,rss,h2,h3,h4,h5,h6⟩
 ·exact ⟨by rw [if_pos h1],fun h=>absurd h h1⟩
 ·have hn:needL o t t.Prefixes≠[]:=fun hn=>by
   have hA:=need_nil.1 hn
   rcases h2 with h2 | h2
   ·have:∀ (ps:List (List Int)),(∀ p∈ps,∃ r,rowO o p t.Suffixes=some r)→rowsO o t.Suffixes ps≠none:=by
     intro ps
     induction ps with
     | nil=>intro _ h;cases h
     | cons p ps ih =>
      intro hp h
      obtain ⟨r,hr⟩:=hp p (by simp)
      unfold rowsO at h
      rw [hr] at h
      exact ih (fun q hq=>hp q (List.mem_cons_of_mem _ hq)) (by simpa using h)
    exact this _ (fun p hp=>hA p hp p (by simp [withX])) h2
   ·have hone:∀ p∈t.Prefixes,rowsO o t.Suffixes (exts t.Inputs.toNat p)≠none:=fun p hp=>by
     have:∀ (ps:List (List Int)),(∀ p∈ps,∃ r,rowO o p t.Suffixes=some r)→rowsO o t.Suffixes ps≠none:=by
      intro ps
      induction ps with
      | nil=>intro _ h;cases h
      | cons p ps ih =>
       intro hp h
       obtain ⟨r,hr⟩:=hp p (by simp)
       unfold rowsO at h
       rw [hr] at h
       exact ih (fun q hq=>hp q (List.mem_cons_of_mem _ hq)) (by simpa using h)
     exact this _ fun w hw=>hA p hp w (List.mem_cons_of_mem _ hw)
    have:∀ (ps:List (List Int)),(∀ p∈ps,rowsO o t.Suffixes (exts t.Inputs.toNat p)≠none)→extRows o t.Suffixes t.Inputs.toNat ps≠none:=by
     intro ps
     induction ps with
     | nil=>intro _ h;cases h
     | cons p ps ih =>
      intro hp h
      unfold extRows at h
      cases hr:rowsO o t.Suffixes (exts t.Inputs.toNat p) with
      | none=>exact hp p (by simp) hr
      | some r =>
       rw [hr] at h
       exact ih (fun q hq=>hp q (List.mem_cons_of_mem _ hq)) (by simpa using h)
    exact this _ hone h2
  exact ⟨by rw [if_neg (by simpa using h1),if_neg hn],fun h=>by cases h⟩
 ·have hP:=rowsO_all h2
  have hE:=extRows_all h3
  have hmem1:∀ r∈rs,r∈v.rows:=fun r hr=>by rw [h4];exact mem_addAll.2 (Or.inl (mem_addAll.2 (Or.inr hr)))
  have hmem2:∀ l∈rss,∀ r∈l,r∈v.rows:=fun l hl r hr=>by rw [h4];exact mem_addAll.2 (Or.inr (List.mem_flatten.2 ⟨l,hl,hr⟩))
  have hV:ViewOk t o v:=by
   refine ⟨by rw [h5];unfold nums;rw [List.length_map,hP.1],by rw [h6,List.length_map,hE.1],fun i p hp=>?_,fun i p hp=>?_⟩
   ·obtain ⟨r,hr1,hr2⟩:=hP.2 i p hp
    refine ⟨r,hr2,hmem1 r (List.mem_of_getElem? hr1),?_⟩
    rw [h5]
    unfold nums
    rw [List.getElem?_map,hr1]
    rfl
   ·obtain ⟨l,hl1,hl2⟩:=hE.2 i p hp
    have hL:=rowsO_all hl2
    refine ⟨nums v.rows l,by rw [h6,List.getElem?_map,hl1];rfl,by unfold nums;rw [List.length_map,hL.1];simp [exts],fun a ha=>?_⟩
    have hx:(exts t.Inputs.toNat p)[a]?=some (p++[(↑a:Int)]):=by
     unfold exts
     rw [List.getElem?_map,List.getElem?_range ha]
     rfl
    obtain ⟨r,hr1,hr2⟩:=hL.2 a _ hx
    refine ⟨r,hr2,hmem2 l (List.mem_of_getElem? hl1) r (List.mem_of_getElem? hr1),?_⟩
    unfold nums
    rw [List.getElem?_map,hr1]
    rfl
  have hA:AllRows t o:=fun p hp w hw=>by
   obtain ⟨i,hi,rfl⟩:=List.mem_iff_getElem.1 hp
   unfold withX at hw
   rcases List.mem_cons.1 hw with rfl | hw
   ·obtain ⟨r,hr,_⟩:=hV.pre i _ (get_at hi)
    exact ⟨r,hr⟩
   ·obtain ⟨a,ha,rfl⟩:=List.mem_map.1 hw
    obtain ⟨l,_,_,h7⟩:=hV.nxt i _ (get_at hi)
    obtain ⟨r,hr,_⟩:=h7 a (List.mem_range.1 ha)
    exact ⟨r,hr⟩
  exact ⟨by rw [if_neg (by simpa using h1),if_pos (need_nil.2 hA)],fun _=>⟨hV,hA,h1⟩⟩
theorem valid_asc {t:T_api_Table} (h:validT t=0):1≤t.Inputs∧t.Inputs≤64∧Asc t.Prefixes∧Asc t.Suffixes∧(∀ a∈List.range t.Inputs.toNat,[(↑a:Int)]∈t.Suffixes)∧scan (preG t fun w=>decide (w∈t.Prefixes)) 0 t.Prefixes=none∧scan (sufG t) 0 t.Suffixes=none∧t.Prefixes≠[]:=by
 unfold validT at h
 split at h
 ·cases h
 ·rename_i h1
  split at h
  ·cases h
  ·rename_i h2
   split at h
   ·cases h
   ·cases e1:scan (preG t fun w=>decide (w∈t.Prefixes)) 0 t.Prefixes with
    | some e =>
     exfalso
     rw [e1] at h
     simp only at h
     subst h
     have key:∀ (l:List (List Int)) (j:Nat),scan (preG t fun w=>decide (w∈t.Prefixes)) j l≠some 0:=by
      intro l
      induction l with
      | nil=>intro j h;cases h
      | cons x l ih =>
       intro j h
       unfold scan at h
       split at h
       ·rename_i r' h3
        injection h with h
        subst h
        unfold preG at h3
        split at h3
        ·rename_i h4
         injection h3 with h3
         exact h4 h3
        ·split at h3
         ·cases h3
         ·split at h3
          ·cases h3
          ·cases h3
       ·exact ih _ h
     exact key _ _ e1
    | none =>
     rw [e1] at h
     cases e2:scan (sufG t) 0 t.Suffixes with
     | some e =>
      exfalso
      rw [e2] at h
      simp only at h
      subst h
      have key:∀ (l:List (List Int)) (j:Nat),scan (sufG t) j l≠some 0:=by
       intro l
       induction l with
       | nil=>intro j h;cases h
       | cons x l ih =>
        intro j h
        unfold scan at h
        split at h
        ·rename_i r' h3
         injection h with h
         subst h
         unfold sufG at h3
         split at h3
         ·rename_i h4
          injection h3 with h3
          exact h4 h3
         ·split at h3
          ·cases h3
          ·split at h3
           ·cases h3
           ·cases h3
        ·exact ih _ h
      exact key _ _ e2
     | none =>
      rw [e2] at h
      simp only at h
      split at h
      ·rename_i h5
       refine ⟨by omega,by omega,Asc_of_prev fun i w hw=>?_,(sufG_none e2).1,h5,rfl,rfl,fun e=>h2 (by rw [e];rfl)⟩
       have:=scan_none.1 e1 i w hw
       rw [Nat.zero_add] at this
       unfold preG at this
       split at this
       ·cases this
       ·split at this
        ·cases this
        ·rename_i h6
         cases hpv:prevLt t.Prefixes i w with
         | true=>rfl
         | false=>exact absurd (Or.inr hpv) h6
      ·cases h
theorem lex_snoc {a b:Int}:∀ {p q:List Int},p.length=q.length→lexI p q=-1→lexI (p++[a]) (q++[b])=-1
 | [],[],_,h=>by simp [lexI] at h
 | [],_::_,h,_=>by simp at h
 | _::_,[],h,_=>by simp at h
 | x::p,y::q,hl,h=>by
  simp only [lexI,List.cons_append] at h ⊢
  by_cases h1:x<y
  ·rw [if_pos h1]
  ·rw [if_neg h1] at h ⊢
   by_cases h2:y<x
   ·rw [if_pos h2] at h
    cases h
   ·rw [if_neg h2] at h ⊢
    exact lex_snoc (by simpa using hl) h
theorem cmp_snoc {p q:List Int} {a b:Int} (h:cmpW p q=-1):cmpW (p++[a]) (q++[b])=-1:=by
 unfold cmpW at h ⊢
 rw [List.length_append,List.length_append]
 simp only [List.length_singleton]
 by_cases h1:p.length<q.length
 ·rw [if_pos (by omega)]
 ·rw [if_neg h1] at h
  by_cases h2:q.length<p.length
  ·rw [if_pos h2] at h
   cases h
  ·rw [if_neg h2] at h
   rw [if_neg (by omega),if_neg (by omega)]
   exact lex_snoc (by omega) h
theorem cmp_same {p:List Int} {a b:Int} (h:a<b):cmpW (p++[a]) (p++[b])=-1:=by
 unfold cmpW
 rw [List.length_append,List.length_append]
 simp only [List.length_singleton,Nat.lt_irrefl,if_false]
 induction p with
 | nil=>simp [lexI,h]
 | cons x p ih =>
  simp only [List.cons_append,lexI,Int.lt_irrefl,if_false]
  exact ih
theorem extL_asc {t:T_api_Table} (h:Asc t.Prefixes):Asc (extL t):=by
 unfold extL Asc at *
 rw [List.pairwise_flatMap]
 refine ⟨fun p _=>?_,h.imp fun {p q} hpq x hx y hy=>?_⟩
 ·rw [List.pairwise_map]
  exact (List.pairwise_lt_range (n:=t.Inputs.toNat)).imp fun {a b} hab=>cmp_same (by omega)
 ·obtain ⟨a,_,rfl⟩:=List.mem_map.1 hx
  obtain ⟨b,_,rfl⟩:=List.mem_map.1 hy
  exact cmp_snoc hpq
theorem sortW_of_asc {l:List (List Int)} (h:Asc l):sortW l=l:=asc_ext (sortW_asc l) h fun x=>mem_sortW l x
def newRow (t:T_api_Table) (o:T_api_Obs) (w:List Int):Bool:=decide (rowO o w t.Suffixes∉t.Prefixes.map fun p=>rowO o p t.Suffixes)
def unclT (t:T_api_Table) (o:T_api_Obs):List Int×Bool×Int:=if compT t o≠0 then ([],false,compT t o) else match (extL t).find? (newRow t o) with | none=>([],false,0) | some w=>(w,true,0)
theorem contains_eq {l:List Int} {x:Int} (hl:l.length≤2000000):zq22 l x=some (decide (x∈l)):=by
 unfold zq22 zq33
 have key:=iter_post (step:=fun s=>zq33.s2 l x s) (fun k=>k≤l.length∧x∉l.take k) (fun k=>l.length-k) (fun r=>match r with | .inl ()=>x∉l | .inr n=>0≤n∧x∈l) (fun k ⟨g1,g2⟩=>by
  simp only [zq33.s2]
  by_cases g3:k<l.length
  ·have hx:=get_at g3
   rw [dec_lt hx,cond_true,idxn_at hx]
   by_cases e:x=l[k]
   ·right
    exact ⟨.inr (k:Int),by rw [decide_eq_true e,cond_true],by omega,by rw [e];exact List.getElem_mem _⟩
   ·left
    refine ⟨k+1,by rw [decide_eq_false e,cond_false],⟨g3,?_⟩,by omega⟩
    rw [take_step hx]
    exact fun h=>(List.mem_append.1 h).elim g2 fun h=>e (List.mem_singleton.1 h)
  ·right
   rw [List.take_of_length_le (by omega)] at g2
   exact ⟨.inl (),by rw [decide_eq_false (by omega),cond_false],g2⟩) fuel 0 ⟨Nat.zero_le _,by simp⟩ (by have:=fuel_big;omega)
 obtain ⟨r,e,hq⟩:=key
 rw [e,obind]
 cases r with
 | inl u =>
  have hq:x∉l:=hq
  simp only [Sum.elim_inl]
  rw [obind,decide_eq_false hq]
  rfl
 | inr n =>
  have hq:0≤n∧x∈l:=hq
  simp only [Sum.elim_inr]
  rw [obind,decide_eq_true hq.1,decide_eq_true hq.2]
theorem view_has {t:T_api_Table} {o:T_api_Obs} {v:T_table_view} (hV:ViewOk t o v) {r:Row} {w:List Int} (hr:rowO o w t.Suffixes=some r) (hm:r∈v.rows):((↑(pos r v.rows):Int)∈v.prefixes)↔newRow t o w=false:=by
 unfold newRow
 rw [decide_eq_false_iff_not,Classical.not_not,hr,List.mem_map]
 constructor
 ·intro h
  obtain ⟨i,hi,e⟩:=List.mem_iff_getElem.1 h
  have hp:=get_at (l:=t.Prefixes) (i:=i) (by rw [← hV.pl];exact hi)
  obtain ⟨r',h1,h2,h3⟩:=hV.pre i _ hp
  rw [get_at hi,e] at h3
  injection h3 with h3
  have h4:=pos_inj hm h2 (by omega)
  exact ⟨_,List.getElem_mem _,by rw [h1,h4]⟩
 ·rintro ⟨p,hp,h⟩
  obtain ⟨i,hi,rfl⟩:=List.mem_iff_getElem.1 hp
  obtain ⟨r',h1,h2,h3⟩:=hV.pre i _ (get_at hi)
  rw [h1] at h
  injection h with h
  subst h
  exact List.mem_of_getElem? h3
theorem view_unclosed_eq {t:T_api_Table} {o:T_api_Obs} {v:T_table_view} (ht:TabOk t) (hV:ViewOk t o v):∃ i a b,zq44 v=some (i,a,b) ∧
  match (extL t).find? (newRow t o) with
  | none=>b=false
  | some w=>b=true∧∃ (k:Nat) (p:List Int),i=(k:Int)∧t.Prefixes[k]?=some p∧w=p++[a]:=by
 have hn:=ht.n
 have hp:=ht.p
 unfold zq44
 have key:=iter_post (step:=fun s=>zq44.s14 v s) (fun k=>k≤t.Prefixes.length∧((t.Prefixes.take k).flatMap (exts t.Inputs.toNat)).find? (newRow t o)=none) (fun k=>t.Prefixes.length-k)
  (fun r=>match r with | .inl ()=>(extL t).find? (newRow t o)=none | .inr x=>x.2.2=true∧∃ w,(extL t).find? (newRow t o)=some w∧∃ (k:Nat) (p:List Int),x.1=(k:Int)∧t.Prefixes[k]?=some p∧w=p++[x.2.1]) (fun k ⟨g1,g2⟩=>by
   simp only [zq44.s14]
   rw [hV.nl]
   by_cases g3:k<t.Prefixes.length
   ·have hx:=get_at g3
    obtain ⟨l,hl1,hl2,hl3⟩:=hV.nxt k _ hx
    rw [decide_eq_true (by omega),cond_true,idxn_at hl1]
    have hsplit:extL t=(t.Prefixes.take k).flatMap (exts t.Inputs.toNat)++(exts t.Inputs.toNat t.Prefixes[k]++(t.Prefixes.drop (k+1)).flatMap (exts t.Inputs.toNat)):=by
     have h1:t.Prefixes=t.Prefixes.take k++t.Prefixes[k]::t.Prefixes.drop (k+1):=by
      rw [← List.drop_eq_getElem_cons g3,List.take_append_drop]
     have h2:extL t=t.Prefixes.flatMap (exts t.Inputs.toNat):=rfl
     rw [h2]
     conv=>lhs;rw [h1]
     rw [List.flatMap_append,List.flatMap_cons]
    have inner:=iter_post (step:=fun s=>zq44.s13 v k l s) (fun a=>a≤t.Inputs.toNat∧(exts a t.Prefixes[k]).find? (newRow t o)=none) (fun a=>t.Inputs.toNat-a)
     (fun r=>match r with | .inl ()=>(exts t.Inputs.toNat t.Prefixes[k]).find? (newRow t o)=none | .inr x=>∃ a:Nat,x=.inr (.inr ((k:Int),(a:Int),true))∧(exts t.Inputs.toNat t.Prefixes[k]).find? (newRow t o)=some (t.Prefixes[k]++[(↑a:Int)])) (fun a ⟨q1,q2⟩=>by
      simp only [zq44.s13]
      rw [hl2]
      by_cases q3:a<t.Inputs.toNat
      ·obtain ⟨r,hr1,hr2,hr3⟩:=hl3 a q3
       have hst:exts (a+1) t.Prefixes[k]=exts a t.Prefixes[k]++[t.Prefixes[k]++[(↑a:Int)]]:=by simp [exts,List.range_succ]
       have hiff:=view_has hV hr1 hr2
       rw [decide_eq_true (by omega),cond_true,idxn_at hr3,contains_eq (by rw [hV.pl];omega),obind]
       cases hnw:newRow t o (t.Prefixes[k]++[(↑a:Int)]) with
       | true =>
        right
        have hno:¬ (↑(pos r v.rows):Int)∈v.prefixes:=fun h=>by
         have:=hiff.1 h
         rw [hnw] at this
         cases this
        refine ⟨.inr (.inr (.inr ((k:Int),(a:Int),true))),by rw [decide_eq_false hno];rfl,a,rfl,?_⟩
        have hfull:exts t.Inputs.toNat t.Prefixes[k]=exts a t.Prefixes[k]++((t.Prefixes[k]++[(↑a:Int)])::((List.range' (a+1) (t.Inputs.toNat-(a+1))).map fun (b:Nat)=>t.Prefixes[k]++[(↑b:Int)])):=by
         have h1:List.range t.Inputs.toNat=List.range a++a::List.range' (a+1) (t.Inputs.toNat-(a+1)):=by
          rw [List.range_eq_range',List.range_eq_range',← List.range'_succ,show t.Inputs.toNat-(a+1)+1=t.Inputs.toNat-a by omega]
          have:=List.range'_append_1 (s:=0) (m:=a) (n:=t.Inputs.toNat-a)
          rw [Nat.zero_add,show a+(t.Inputs.toNat-a)=t.Inputs.toNat by omega] at this
          exact this.symm
         unfold exts
         rw [h1,List.map_append,List.map_cons]
        rw [hfull,List.find?_append,q2,List.find?_cons_of_pos (by rw [hnw])]
        rfl
       | false =>
        left
        refine ⟨a+1,by rw [decide_eq_true (hiff.2 hnw)];rfl,⟨q3,?_⟩,by omega⟩
        rw [hst,List.find?_append,q2,List.find?_cons_of_neg (by rw [hnw];simp)]
        rfl
      ·right
       have e:a=t.Inputs.toNat:=by omega
       subst e
       exact ⟨.inl (),by rw [decide_eq_false (by omega),cond_false],q2⟩) fuel 0 ⟨Nat.zero_le _,rfl⟩ (by have:=fuel_big;omega)
    obtain ⟨r,e,hq⟩:=inner
    rw [e,obind]
    cases r with
    | inl u =>
     have hq:(exts t.Inputs.toNat t.Prefixes[k]).find? (newRow t o)=none:=hq
     left
     refine ⟨k+1,rfl,⟨g3,?_⟩,by omega⟩
     rw [take_step hx,List.flatMap_append,List.find?_append,g2]
     simp [hq]
    | inr x =>
     right
     obtain ⟨a,rfl,h2⟩:=hq
     refine ⟨.inr ((k:Int),(a:Int),true),rfl,rfl,t.Prefixes[k]++[(↑a:Int)],?_,k,_,rfl,hx,rfl⟩
     rw [hsplit,List.find?_append,g2,List.find?_append,h2]
     rfl
   ·right
    have e:k=t.Prefixes.length:=by omega
    subst e
    rw [List.take_length] at g2
    exact ⟨.inl (),by rw [decide_eq_false (by omega),cond_false],g2⟩) fuel 0 ⟨Nat.zero_le _,rfl⟩ (by have:=fuel_big;omega)
 obtain ⟨r,e,hq⟩:=key
 rw [e,obind]
 cases r with
 | inl u =>
  have hq:(extL t).find? (newRow t o)=none:=hq
  refine ⟨0,0,false,rfl,?_⟩
  rw [hq]
 | inr x =>
  obtain ⟨h1,w,h2,h3⟩:=hq
  obtain ⟨i,a,b⟩:=x
  refine ⟨i,a,b,rfl,?_⟩
  rw [h2]
  exact ⟨h1,h3⟩
theorem table_Unclosed_eq {t:T_api_Table} {o:T_api_Obs} (ht:TabOk t) (ho:SmO o) (hv:ObsOk o):zq79 t o=some (unclT t o):=by
 obtain ⟨v,e,h1,h2⟩:=table_look_eq ht ho hv
 obtain ⟨h3,h4⟩:=look_view h2
 unfold zq79 unclT
 rw [h1,obind]
 simp only
 rw [h3] at h4 ⊢
 by_cases h:compT t o=0
 ·obtain ⟨hV,_,_⟩:=h4 h
  obtain ⟨i,a,b,h5,h6⟩:=view_unclosed_eq ht hV
  rw [decide_eq_false (by simpa using h),cond_false,if_neg (by simpa using h),h5,obind]
  cases hf:(extL t).find? (newRow t o) with
  | none =>
   rw [hf] at h6
   subst h6
   rfl
  | some w =>
   rw [hf] at h6
   obtain ⟨rfl,k,p,rfl,hp,rfl⟩:=h6
   simp only [Bool.not_true,cond_false]
   rw [idx_at rfl hp,zq60 (ht.sm.2.1.2 p (List.mem_of_getElem? hp)),obind]
 ·rw [decide_eq_true h,cond_true,if_pos h]
theorem R23_find_eq {t:T_api_Table} {o:T_api_Obs} {w:List Int} (ht:TabOk t) (ho:SmO o) (hv:ObsOk o) (hA:AllRows t o) {r:Row} (hw:SmW w) (hr:rowO o w t.Suffixes=some r) :
  ∃ n,R23_find t o w=some n∧((n<0↔newRow t o w=true)∧∀ k:Nat,n=(k:Int)→(∃ p,t.Prefixes[k]?=some p∧rowO o p t.Suffixes=some r)∧∀ j p,j<k→t.Prefixes[j]?=some p→rowO o p t.Suffixes≠some r):=by
 have hS:=ht.sm.2.2.1
 have hp:=ht.p
 unfold R23_find
 rw [R23_row_eq ho hv hS hw,obind,hr]
 have key:=iter_post (step:=fun s=>R23_find.s2 t o (tw (some r)) s) (fun k=>k≤t.Prefixes.length∧∀ j p,j<k→t.Prefixes[j]?=some p→rowO o p t.Suffixes≠some r) (fun k=>t.Prefixes.length-k)
  (fun x=>match x with | .inl ()=>∀ p∈t.Prefixes,rowO o p t.Suffixes≠some r | .inr n=>∃ k:Nat,n=(k:Int)∧(∃ p,t.Prefixes[k]?=some p∧rowO o p t.Suffixes=some r)∧∀ j p,j<k→t.Prefixes[j]?=some p→rowO o p t.Suffixes≠some r) (fun k ⟨g1,g2⟩=>by
   simp only [R23_find.s2]
   by_cases g3:k<t.Prefixes.length
   ·have hx:=get_at g3
    have hxm:SmW t.Prefixes[k]:=ht.sm.2.1.2 _ (List.getElem_mem _)
    obtain ⟨q,hq⟩:=hA _ (List.getElem_mem g3) _ (by simp [withX]:t.Prefixes[k]∈withX t.Inputs.toNat t.Prefixes[k])
    have hqs:=rowO_rsm hv ht hq
    rw [dec_lt hx,cond_true,idxn_at hx,R23_row_eq ho hv hS hxm,obind,hq]
    simp only [tw]
    rw [R06_Lists_eq q r (by have:=hqs.1;omega) (fun x hx=>by have:=(hqs.2 x hx).1;omega),obind]
    by_cases e:q=r
    ·right
     subst e
     refine ⟨.inr (k:Int),by rw [decide_eq_true rfl,cond_true],k,rfl,⟨_,hx,hq⟩,g2⟩
    ·left
     refine ⟨k+1,by rw [decide_eq_false e,cond_false],⟨g3,fun j p hj hpj=>?_⟩,by omega⟩
     rcases Nat.lt_or_ge j k with h | h
     ·exact g2 j p h hpj
     ·have ej:j=k:=by omega
      subst ej
      rw [hx] at hpj
      injection hpj with hpj
      subst hpj
      rw [hq]
      simpa using e
   ·right
    refine ⟨.inl (),by rw [decide_eq_false (by omega),cond_false],fun p hpm=>?_⟩
    obtain ⟨j,hj,rfl⟩:=List.mem_iff_getElem.1 hpm
    exact g2 j _ (by omega) (get_at hj)) fuel 0 ⟨Nat.zero_le _,fun j p h=>by omega⟩ (by have:=fuel_big;omega)
 obtain ⟨x,e,hq⟩:=key
 rw [e,obind]
 cases x with
 | inl u =>
  have hq:∀ p∈t.Prefixes,rowO o p t.Suffixes≠some r:=hq
  refine ⟨-1,rfl,⟨fun _=>?_,fun _=>by decide⟩,fun k hk=>by omega⟩
  unfold newRow
  rw [hr]
  exact decide_eq_true fun h=>by
   obtain ⟨p,hp,h2⟩:=List.mem_map.1 h
   exact hq p hp h2
 | inr n =>
  obtain ⟨k,rfl,⟨p,hp1,hp2⟩,h3⟩:=hq
  refine ⟨k,rfl,⟨fun h=>by omega,fun h=>?_⟩,fun k' hk=>?_⟩
  ·unfold newRow at h
   rw [hr] at h
   exact absurd (List.mem_map.2 ⟨p,List.mem_of_getElem? hp1,hp2⟩) (of_decide_eq_true h)
  ·have:k'=k:=by omega
   subst this
   exact ⟨⟨p,hp1,hp2⟩,h3⟩
theorem R23_Unclosed_eq {t:T_api_Table} {o:T_api_Obs} (ht:TabOk t) (ho:SmO o) (hv:ObsOk o):R23_Unclosed t o=some (unclT t o):=by
 unfold R23_Unclosed unclT
 rw [R23_complete_eq ht ho hv,obind]
 by_cases h:compT t o=0
 ·rw [decide_eq_false (by simpa using h),cond_false,if_neg (by simpa using h)]
  have hc:chkT t o=0∧AllRows t o:=by
   unfold compT at h
   split at h
   ·rename_i h1;exact absurd h h1
   ·rename_i h1
    split at h
    ·rename_i h2;exact ⟨by simpa using h1,need_nil.1 h2⟩
    ·cases h
  have hval:validT t=0:=by
   have:=hc.1
   unfold chkT at this
   split at this
   ·rename_i h1;exact absurd this h1
   ·rename_i h1;simpa using h1
  obtain ⟨_,_,hAp,_⟩:=valid_asc hval
  obtain ⟨hE1,hE2⟩:=R23_Extensions_eq ht
  have hE3:(extL t).length≤2000000:=hE2.1
  rw [hE1,obind,sortW_of_asc (extL_asc hAp)]
  have key:=iter_scan (step:=fun s=>R23_Unclosed.s2 t o (extL t) s) (l:=extL t) (fun _ w=>if newRow t o w=true then some (w,true,(0:Int)) else none) (fun i w hw=>by
   have hwm:=List.mem_of_getElem? hw
   obtain ⟨p,hpm,h2⟩:=List.mem_flatMap.1 hwm
   obtain ⟨r,hr⟩:=hc.2 p hpm w (List.mem_cons_of_mem _ h2)
   obtain ⟨n,h3,h4,_⟩:=R23_find_eq ht ho hv hc.2 (hE2.2 w hwm) hr
   simp only [R23_Unclosed.s2]
   rw [dec_lt hw,cond_true,idxn_at hw,h3,obind]
   by_cases hn:n<0
   ·rw [decide_eq_true hn,cond_true,idxn_at hw,if_pos (h4.1 hn)]
   ·rw [decide_eq_false hn,cond_false,if_neg (fun h=>hn (h4.2 h))]) (by
   simp only [R23_Unclosed.s2]
   rw [dec_end]
   rfl) (by omega)
  rw [key,obind]
  have key2:∀ (l:List (List Int)) (j:Nat),scan (fun _ w=>if newRow t o w=true then some (w,true,(0:Int)) else none) j l=(l.find? (newRow t o)).map fun w=>(w,true,(0:Int)):=by
   intro l
   induction l with
   | nil=>intro j;rfl
   | cons w l ih =>
    intro j
    unfold scan
    by_cases h:newRow t o w=true
    ·rw [if_pos h,List.find?_cons_of_pos h]
     rfl
    ·rw [if_neg h,List.find?_cons_of_neg h]
     exact ih _
  rw [key2]
  cases (extL t).find? (newRow t o)<;>rfl
 ·rw [decide_eq_true h,cond_true,if_pos h]
end Go.Proofs.YtedabpfahmealaaGreatDoor.Sym

/-
 The suffix that shows that a table is not consistent, and the law of TableRepairs. Plain laws.
-/
namespace Go.Proofs.YtedabpfahmealaaGreatDoor.Sym
set_option maxRecDepth 100000
section
variable {α R T:Type}
theorem scan_map {g:Nat→α→Option R} {f:R→T}:∀ (l:List α) (j:Nat),scan (fun i x=>(g i x).map f) j l=(scan g j l).map f
 | [],_=>rfl
 | x::l,j=>by
  unfold scan
  cases g j x with
  | some r=>rfl
  | none=>exact scan_map l (j+1)
theorem elim_l {α β γ:Type} {f:α→γ} {g:β→γ} {a:α}:Sum.elim f g (Sum.inl a)=f a:=(Sum.elim_inl f g a).trans (Eq.trans rfl rfl)
theorem iter_scan_at {step:Nat→Option (Nat⊕(Unit⊕R))} {l:List α} (g:Nat→α→Option R) (j:Nat) (hj:j≤l.length) (h1:∀ i x,j≤i→l[i]?=some x→step i=some (match g i x with | some r=>.inr (.inr r) | none=>.inl (i+1))) (h2:step l.length=some (.inr (.inl ()))) (hl:l.length≤100000000000000) :
  iter step fuel j=some (match scan g j (l.drop j) with | some r=>.inr r | none=>.inl ()):=by
 have key:∀ (n i:Nat),j≤i→i≤l.length→l.length-i<n→iter step n i=some (match scan g i (l.drop i) with | some r=>.inr r | none=>.inl ()):=by
  intro n
  induction n with
  | zero=>intro i _ _ h;omega
  | succ n ih =>
   intro i hji hi hn
   rcases Nat.lt_or_ge i l.length with h | h
   ·rw [List.drop_eq_getElem_cons h]
    unfold iter scan
    rw [h1 i _ hji (List.getElem?_eq_getElem h)]
    cases g i l[i] with
    | some r=>rfl
    | none=>exact ih (i+1) (by omega) h (by omega)
   ·have e:i=l.length:=by omega
    subst e
    rw [List.drop_length]
    unfold iter scan
    rw [h2]
 exact key fuel j (Nat.le_refl _) hj (by have:=fuel_big;omega)
end
def rowG (t:T_api_Table) (o:T_api_Obs) (w:List Int):Row:=(rowO o w t.Suffixes).getD []
def dP (a:Nat) (x y:Row):Option (Int×Int×Bool):=scan (fun e u=>if y[e]?=some u then none else some ((↑a:Int),(↑e:Int),true)) 0 x
def pP (t:T_api_Table) (o:T_api_Obs) (p q:List Int):Option (Int×Int×Bool):=scan (fun _ (a:Nat)=>dP a (rowG t o (p++[(↑a:Int)])) (rowG t o (q++[(↑a:Int)]))) 0 (List.range t.Inputs.toNat)
def iP (t:T_api_Table) (o:T_api_Obs):Option (Int×Int×Bool):=scan (fun i p=>scan (fun _ q=>if rowO o p t.Suffixes=rowO o q t.Suffixes then pP t o p q else none) (i+1) (t.Prefixes.drop (i+1))) 0 t.Prefixes
def toW (t:T_api_Table) (x:Int×Int×Bool):List Int:=x.1::(t.Suffixes[x.2.1.toNat]?).getD []
def incT (t:T_api_Table) (o:T_api_Obs):List Int×Bool×Int:=if compT t o≠0 then ([],false,compT t o) else match iP t o with | none=>([],false,0) | some x=>(toW t x,true,0)
theorem zq72 (a b:List Int) (hl:a.length≤100000000000000):zq32 a b=some (decide (a=b)):=by
 unfold zq32
 by_cases hlen:a.length=b.length
 ·rw [decide_eq_false (by omega),cond_false]
  refine iter_all2 hlen (fun i x y hx hy=>?_) ?_ hl
  ·simp only [zq32.s2]
   rw [dec_lt hx,cond_true,idxn_at hx,idxn_at hy]
   by_cases h:x=y<;>simp [h]
  ·simp only [zq32.s2]
   rw [dec_end]
   rfl
 ·rw [decide_eq_true (by omega),cond_true]
  have:a≠b:=fun h=>hlen (by rw [h])
  simp [this]
theorem scan_inv2 {α R:Type} {g:Nat→α→Option R} {Q:R→Prop}:∀ {l:List α} {j:Nat} {r:R},scan g j l=some r→(∀ i x r,l[i]?=some x→g (j+i) x=some r→Q r)→Q r
 | [],_,_,h,_=>by cases h
 | x::l,j,r,h,hQ=>by
  unfold scan at h
  cases e:g j x with
  | some r' =>
   rw [e] at h
   injection h with h
   subst h
   exact hQ 0 x _ rfl (by simpa using e)
  | none =>
   rw [e] at h
   exact scan_inv2 h fun i y r hy hg=>hQ (i+1) y r (by simpa using hy) (by rw [show j+(i+1)=j+1+i by omega];exact hg)
def RowsAlike (x y:Row):Prop:=x.length=y.length∧RowSm x∧RowSm y
theorem dP_prog {a:Nat} {x y:Row} (h:RowsAlike x y):iter (fun s=>zq26.s1019 a x y s) fuel 0=some (match (dP a x y).map fun r=>(.inr (.inr (.inr (.inr (.inr (.inr (.inr r)))))):Nat⊕(Unit⊕(Unit⊕(Nat⊕(Unit⊕(Nat⊕(Unit⊕(Int×Int×Bool)))))))) with | some r=>.inr r | none=>.inl ()):=by
 obtain ⟨h1,h2,h3⟩:=h
 have hx0:=h2.1
 have key:=iter_scan (step:=fun s=>zq26.s1019 a x y s) (l:=x) (fun e u=>(if y[e]?=some u then none else some ((↑a:Int),(↑e:Int),true)).map fun r=>(.inr (.inr (.inr (.inr (.inr (.inr (.inr r)))))):Nat⊕(Unit⊕(Unit⊕(Nat⊕(Unit⊕(Nat⊕(Unit⊕(Int×Int×Bool))))))))) (fun e u hu=>by
  have he:=(List.getElem?_eq_some_iff.1 hu).1
  have hw:=get_at (l:=y) (i:=e) (by omega)
  have hus:=(h2.2 u (List.mem_of_getElem? hu)).1
  simp only [zq26.s1019]
  rw [dec_lt hu,cond_true,idxn_at hu,idxn_at hw,zq72 _ _ (by omega),obind]
  by_cases h4:u=y[e]'(by omega)
  ·rw [decide_eq_true h4,if_pos (by rw [hw,h4])]
   rfl
  ·rw [decide_eq_false h4,if_neg (fun h=>h4 (by rw [hw] at h;injection h with h;exact h.symm))]
   rfl) (by
  simp only [zq26.s1019]
  rw [dec_end]
  rfl) (by omega)
 rw [key,scan_map]
 unfold dP
 cases scan (fun e u=>if y[e]?=some u then none else some ((↑a:Int),(↑e:Int),true)) 0 x<;>rfl
theorem rowG_some {t:T_api_Table} {o:T_api_Obs} {w:List Int} {r:Row} (h:rowO o w t.Suffixes=some r):rowG t o w=r:=by unfold rowG;rw [h];rfl
theorem rows_alike {t:T_api_Table} {o:T_api_Obs} (ht:TabOk t) (hv:ObsOk o) {u w:List Int} {x y:Row} (hx:rowO o u t.Suffixes=some x) (hy:rowO o w t.Suffixes=some y):RowsAlike x y :=
 ⟨by rw [(rowO_sml hv hx).1,(rowO_sml hv hy).1],rowO_rsm hv ht hx,rowO_rsm hv ht hy⟩
theorem pP_prog {t:T_api_Table} {o:T_api_Obs} {v:T_table_view} (ht:TabOk t) (hv:ObsOk o) (hV:ViewOk t o v) {i k:Nat} {p q:List Int} (hp:t.Prefixes[i]?=some p) (hq:t.Prefixes[k]?=some q) {l:List Int} (hl:v.next[i]?=some l) :
  iter (fun s=>zq26.s1020 v i k l s) fuel 0=some (match (pP t o p q).map fun r=>(.inr (.inr (.inr (.inr (.inr r)))):Unit⊕(Nat⊕(Unit⊕(Nat⊕(Unit⊕(Int×Int×Bool)))))) with | some r=>.inr r | none=>.inl ()):=by
 have hn:=ht.n
 obtain ⟨l1,g1,g2,g3⟩:=hV.nxt i p hp
 rw [hl] at g1
 injection g1 with g1
 subst g1
 obtain ⟨l2,f1,f2,f3⟩:=hV.nxt k q hq
 have key:=iter_scan (step:=fun s=>zq26.s1020 v i k l s) (l:=List.range t.Inputs.toNat) (fun _ (a:Nat)=>(dP a (rowG t o (p++[(↑a:Int)])) (rowG t o (q++[(↑a:Int)]))).map fun r=>(.inr (.inr (.inr (.inr (.inr r)))):Unit⊕(Nat⊕(Unit⊕(Nat⊕(Unit⊕(Int×Int×Bool))))))) (fun a a' ha=>by
  have han:a<t.Inputs.toNat:=by
   have:=(List.getElem?_eq_some_iff.1 ha).1
   simpa using this
  rw [List.getElem?_range han] at ha
  injection ha with ha
  subst ha
  obtain ⟨x,x1,x2,x3⟩:=g3 a han
  obtain ⟨y,y1,y2,y3⟩:=f3 a han
  simp only [zq26.s1020]
  rw [g2,decide_eq_true (by omega),cond_true,idxn_at hl,idxn_at x3,idx_at rfl (pos_get x2),idxn_at f1,idxn_at y3,idx_at rfl (pos_get y2),dP_prog (rows_alike ht hv x1 y1),obind,rowG_some x1,rowG_some y1]
  cases dP a x y with
  | some r=>rfl
  | none =>
   show Sum.elim _ _ (Sum.inl ())=_
   rw [elim_l,chk_pos (by unfold inR;omega)]
   rfl) (by
  simp only [zq26.s1020]
  rw [g2,List.length_range,decide_eq_false (by omega)]
  rfl) (by simp;omega)
 rw [key,scan_map]
 unfold pP
 cases scan (fun _ (a:Nat)=>dP a (rowG t o (p++[(↑a:Int)])) (rowG t o (q++[(↑a:Int)]))) 0 (List.range t.Inputs.toNat)<;>rfl
theorem iP_prog {t:T_api_Table} {o:T_api_Obs} {v:T_table_view} (ht:TabOk t) (hv:ObsOk o) (hV:ViewOk t o v):zq26 v=some (match iP t o with | some r=>r | none=>(0,0,false)):=by
 have hpl:=ht.p
 unfold zq26
 have outer:=iter_scan (step:=fun s=>zq26.s1022 v s) (l:=t.Prefixes) (fun i p=>scan (fun _ q=>if rowO o p t.Suffixes=rowO o q t.Suffixes then pP t o p q else none) (i+1) (t.Prefixes.drop (i+1))) (fun i p hp=>by
  have hi:=(List.getElem?_eq_some_iff.1 hp).1
  obtain ⟨r,r1,r2,r3⟩:=hV.pre i p hp
  obtain ⟨l,l1,l2,l3⟩:=hV.nxt i p hp
  have inner:=iter_scan_at (step:=fun s=>zq26.s1021 v i (↑(pos r v.rows):Int) s) (l:=t.Prefixes) (fun _ q=>(if rowO o p t.Suffixes=rowO o q t.Suffixes then pP t o p q else none).map fun r=>(.inr (.inr r):Nat⊕(Unit⊕(Int×Int×Bool)))) (i+1) (by omega) (fun k q _ hq=>by
   have hk:=(List.getElem?_eq_some_iff.1 hq).1
   obtain ⟨s,s1,s2,s3⟩:=hV.pre k q hq
   simp only [zq26.s1021]
   rw [hV.pl,decide_eq_true (by omega),cond_true,idxn_at s3]
   by_cases h:r=s
   ·subst h
    rw [decide_eq_false (by simp),cond_false,idxn_at l1,pP_prog ht hv hV hp hq l1,obind,if_pos (by rw [r1,s1])]
    cases pP t o p q<;>rfl
   ·have h2:¬ (↑(pos s v.rows):Int)=↑(pos r v.rows):=fun e=>h (pos_inj r2 s2 (by omega))
    rw [decide_eq_true h2,cond_true,if_neg (by rw [r1,s1];simpa using h)]
    rfl) (by
   simp only [zq26.s1021]
   rw [hV.pl,decide_eq_false (by omega),cond_false]) (by omega)
  simp only [zq26.s1022]
  rw [hV.pl,decide_eq_true (by omega),cond_true,idxn_at r3,inner,obind,scan_map]
  cases scan (fun _ q=>if rowO o p t.Suffixes=rowO o q t.Suffixes then pP t o p q else none) (i+1) (t.Prefixes.drop (i+1))<;>rfl) (by
  simp only [zq26.s1022]
  rw [hV.pl,decide_eq_false (by omega),cond_false]) (by omega)
 rw [outer,obind]
 unfold iP
 cases scan (fun i p=>scan (fun _ q=>if rowO o p t.Suffixes=rowO o q t.Suffixes then pP t o p q else none) (i+1) (t.Prefixes.drop (i+1))) 0 t.Prefixes<;>rfl
theorem iP_range {t:T_api_Table} {o:T_api_Obs} (hv:ObsOk o) (hA:AllRows t o) {x:Int×Int×Bool} (h:iP t o=some x):x.2.2=true∧∃ a e:Nat,x.1=(a:Int)∧x.2.1=(e:Int)∧a<t.Inputs.toNat∧e<t.Suffixes.length:=by
 refine scan_inv2 (Q:=fun x=>x.2.2=true∧∃ a e:Nat,x.1=(a:Int)∧x.2.1=(e:Int)∧a<t.Inputs.toNat∧e<t.Suffixes.length) h fun i p r hp hr=>?_
 refine scan_inv2 (Q:=fun x=>x.2.2=true∧∃ a e:Nat,x.1=(a:Int)∧x.2.1=(e:Int)∧a<t.Inputs.toNat∧e<t.Suffixes.length) hr fun k q r hq hr=>?_
 split at hr
 ·refine scan_inv2 (Q:=fun x=>x.2.2=true∧∃ a e:Nat,x.1=(a:Int)∧x.2.1=(e:Int)∧a<t.Inputs.toNat∧e<t.Suffixes.length) hr fun a a' r ha hr=>?_
  have han:a<t.Inputs.toNat:=by
   have:=(List.getElem?_eq_some_iff.1 ha).1
   simpa using this
  rw [List.getElem?_range han] at ha
  injection ha with ha
  subst ha
  refine scan_inv2 (Q:=fun x=>x.2.2=true∧∃ a e:Nat,x.1=(a:Int)∧x.2.1=(e:Int)∧a<t.Inputs.toNat∧e<t.Suffixes.length) hr fun e u r hu hr=>?_
  split at hr
  ·cases hr
  ·injection hr with hr
   subst hr
   refine ⟨rfl,a,0+e,rfl,rfl,han,?_⟩
   obtain ⟨z,hz⟩:=hA p (List.mem_of_getElem? hp) (p++[(↑a:Int)]) (List.mem_cons_of_mem _ (List.mem_map.2 ⟨a,List.mem_range.2 han,rfl⟩))
   rw [rowG_some hz] at hu
   have h1:=(List.getElem?_eq_some_iff.1 hu).1
   have h2:=(rowO_sml hv hz).1
   omega
 ·cases hr
theorem zq35 {t:T_api_Table} {o:T_api_Obs} (ht:TabOk t) (ho:SmO o) (hv:ObsOk o):zq51 t o=some (incT t o):=by
 obtain ⟨v,e,h1,h2⟩:=table_look_eq ht ho hv
 obtain ⟨h3,h4⟩:=look_view h2
 unfold zq51 incT
 rw [h1,obind]
 simp only
 rw [h3] at h4 ⊢
 by_cases h:compT t o=0
 ·obtain ⟨hV,hA,_⟩:=h4 h
  rw [decide_eq_false (by simpa using h),cond_false,if_neg (by simpa using h),iP_prog ht hv hV,obind]
  cases hi:iP t o with
  | none=>rfl
  | some x =>
   obtain ⟨hb,a,e,ha,he,_,hes⟩:=iP_range hv hA hi
   obtain ⟨x1,x2,x3⟩:=x
   simp only at hb ha he
   subst hb ha he
   have hx:=get_at hes
   have hxl:=ht.sw _ (List.getElem_mem hes)
   simp only [Bool.not_true,cond_false]
   rw [idx_at rfl hx,word_Join_eq _ (by simp) (by simp;omega),obind]
   unfold toW
   simp [hx]
 ·rw [decide_eq_true h,cond_true,if_pos h]
theorem dP_ref {t:T_api_Table} {a:Nat} {x y:Row} (ht:TabOk t) (h:RowsAlike x y) (hx:x.length=t.Suffixes.length):iter (fun s=>R23_parting.s13 t a (x,true) (y,true) s) fuel 0=some (match (dP a x y).map fun r=>(.inr (.inr (toW t r,true)):Nat⊕(Unit⊕(List Int×Bool))) with | some r=>.inr r | none=>.inl ()):=by
 obtain ⟨h1,h2,h3⟩:=h
 have hx0:=h2.1
 have key:=iter_scan (step:=fun s=>R23_parting.s13 t a (x,true) (y,true) s) (l:=x) (fun e u=>(if y[e]?=some u then none else some ((↑a:Int),(↑e:Int),true)).map fun r=>(.inr (.inr (toW t r,true)):Nat⊕(Unit⊕(List Int×Bool)))) (fun e u hu=>by
  have he:=(List.getElem?_eq_some_iff.1 hu).1
  have hw:=get_at (l:=y) (i:=e) (by omega)
  have hse:=get_at (l:=t.Suffixes) (i:=e) (by omega)
  have hus:=(h2.2 u (List.mem_of_getElem? hu)).1
  simp only [R23_parting.s13]
  rw [dec_lt hu,cond_true,idxn_at hu,idxn_at hw,R06_Ints_eq _ _ (by omega),obind]
  by_cases h4:u=y[e]'(by omega)
  ·rw [decide_eq_true h4,if_pos (by rw [hw,h4])]
   rfl
  ·rw [decide_eq_false h4,if_neg (fun h=>h4 (by rw [hw] at h;injection h with h;exact h.symm))]
   simp only [Bool.not_false,cond_true]
   rw [idxn_at hse,R23_Joined_eq (by simp [SmW]) (ht.sm.2.2.1.2 _ (List.getElem_mem _)),obind]
   simp [toW,hse]) (by
  simp only [R23_parting.s13]
  rw [dec_end]
  rfl) (by omega)
 rw [key,scan_map]
 unfold dP
 cases scan (fun e u=>if y[e]?=some u then none else some ((↑a:Int),(↑e:Int),true)) 0 x<;>rfl
theorem pP_ref {t:T_api_Table} {o:T_api_Obs} (ht:TabOk t) (ho:SmO o) (hv:ObsOk o) (hA:AllRows t o) {p q:List Int} (hp:p∈t.Prefixes) (hq:q∈t.Prefixes):R23_parting t o p q=some (match pP t o p q with | some r=>(toW t r,true) | none=>([],false)):=by
 have hn:=ht.n
 have hS:=ht.sm.2.2.1
 have hpl:=ht.pw p hp
 have hql:=ht.pw q hq
 unfold R23_parting
 have key:=iter_scan (step:=fun s=>R23_parting.s14 t o p q s) (l:=List.range t.Inputs.toNat) (fun _ (a:Nat)=>(dP a (rowG t o (p++[(↑a:Int)])) (rowG t o (q++[(↑a:Int)]))).map fun r=>(toW t r,true)) (fun a a' ha=>by
  have han:a<t.Inputs.toNat:=by
   have:=(List.getElem?_eq_some_iff.1 ha).1
   simpa using this
  rw [List.getElem?_range han] at ha
  injection ha with ha
  subst ha
  obtain ⟨x,hx⟩:=hA p hp (p++[(↑a:Int)]) (List.mem_cons_of_mem _ (List.mem_map.2 ⟨a,List.mem_range.2 han,rfl⟩))
  obtain ⟨y,hy⟩:=hA q hq (q++[(↑a:Int)]) (List.mem_cons_of_mem _ (List.mem_map.2 ⟨a,List.mem_range.2 han,rfl⟩))
  have hpw:SmW (p++[(↑a:Int)]):=by unfold SmW;simp;omega
  have hqw:SmW (q++[(↑a:Int)]):=by unfold SmW;simp;omega
  simp only [R23_parting.s14]
  rw [decide_eq_true (by omega),cond_true,R23_Joined_eq (by unfold SmW;omega) (by simp [SmW]),obind,R23_row_eq ho hv hS hpw,obind,R23_Joined_eq (by unfold SmW;omega) (by simp [SmW]),obind,R23_row_eq ho hv hS hqw,obind,hx,hy,dP_ref ht (rows_alike ht hv hx hy) (rowO_sml hv hx).1,obind,rowG_some hx,rowG_some hy]
  cases dP a x y with
  | some r=>rfl
  | none =>
   show Sum.elim _ _ (Sum.inl ())=_
   rw [elim_l,chk_pos (by unfold inR;omega)]
   rfl) (by
  simp only [R23_parting.s14]
  rw [List.length_range,decide_eq_false (by omega)]
  rfl) (by simp;omega)
 rw [key,obind,scan_map]
 unfold pP
 cases scan (fun _ (a:Nat)=>dP a (rowG t o (p++[(↑a:Int)])) (rowG t o (q++[(↑a:Int)]))) 0 (List.range t.Inputs.toNat)<;>rfl
theorem R23_Inconsistent_eq {t:T_api_Table} {o:T_api_Obs} (ht:TabOk t) (ho:SmO o) (hv:ObsOk o):R23_Inconsistent t o=some (incT t o):=by
 have hpl:=ht.p
 have hS:=ht.sm.2.2.1
 unfold R23_Inconsistent incT
 rw [R23_complete_eq ht ho hv,obind]
 by_cases h:compT t o=0
 ·rw [decide_eq_false (by simpa using h),cond_false,if_neg (by simpa using h)]
  have hA:AllRows t o:=by
   unfold compT at h
   split at h
   ·rename_i h1;exact absurd h h1
   ·split at h
    ·rename_i h2;exact need_nil.1 h2
    ·cases h
  have hrow:∀ p∈t.Prefixes,∃ r,rowO o p t.Suffixes=some r:=fun p hp=>hA p hp p (by simp [withX])
  have outer:=iter_scan (step:=fun s=>R23_Inconsistent.s14 t o s) (l:=t.Prefixes) (fun i p=>(scan (fun _ q=>if rowO o p t.Suffixes=rowO o q t.Suffixes then pP t o p q else none) (i+1) (t.Prefixes.drop (i+1))).map fun r=>(toW t r,true,(0:Int))) (fun i p hp=>by
   have hi:=(List.getElem?_eq_some_iff.1 hp).1
   have hpm:=List.mem_of_getElem? hp
   obtain ⟨r,hr⟩:=hrow p hpm
   have inner:=iter_scan_at (step:=fun s=>R23_Inconsistent.s13 t o i s) (l:=t.Prefixes) (fun _ q=>(if rowO o p t.Suffixes=rowO o q t.Suffixes then pP t o p q else none).map fun r=>(.inr (.inr (toW t r,true,(0:Int))):Nat⊕(Unit⊕(List Int×Bool×Int)))) (i+1) (by omega) (fun k q _ hq=>by
    have hqm:=List.mem_of_getElem? hq
    obtain ⟨s,hs⟩:=hrow q hqm
    have hrs:=rowO_rsm hv ht hr
    simp only [R23_Inconsistent.s13]
    rw [dec_lt hq,cond_true,idxn_at hp,R23_row_eq ho hv hS (ht.sm.2.1.2 p hpm),obind,idxn_at hq,R23_row_eq ho hv hS (ht.sm.2.1.2 q hqm),obind,hr,hs]
    simp only [tw]
    rw [R06_Lists_eq r s (by have:=hrs.1;omega) (fun x hx=>by have:=(hrs.2 x hx).1;omega),obind]
    by_cases h:r=s
    ·subst h
     rw [decide_eq_true rfl,if_pos rfl]
     simp only [Bool.not_true,cond_false]
     rw [idxn_at hp,idxn_at hq,pP_ref ht ho hv hA hpm hqm,obind]
     cases pP t o p q<;>rfl
    ·rw [decide_eq_false h,if_neg (by simpa using h)]
     rfl) (by
    simp only [R23_Inconsistent.s13]
    rw [dec_end]
    rfl) (by omega)
   simp only [R23_Inconsistent.s14]
   rw [dec_lt hp,cond_true,inner,obind,scan_map]
   cases scan (fun _ q=>if rowO o p t.Suffixes=rowO o q t.Suffixes then pP t o p q else none) (i+1) (t.Prefixes.drop (i+1))<;>rfl) (by
   simp only [R23_Inconsistent.s14]
   rw [dec_end]
   rfl) (by omega)
  rw [outer,obind,scan_map]
  unfold iP
  cases scan (fun i p=>scan (fun _ q=>if rowO o p t.Suffixes=rowO o q t.Suffixes then pP t o p q else none) (i+1) (t.Prefixes.drop (i+1))) 0 t.Prefixes<;>rfl
 ·rw [decide_eq_true h,cond_true,if_pos h]
end Go.Proofs.YtedabpfahmealaaGreatDoor.Sym

/-
 Every repair adds one word: plain law of TableProgress.
-/
namespace Go.Proofs.YtedabpfahmealaaGreatDoor.Sym
set_option maxRecDepth 100000
theorem compT_zero {t:T_api_Table} {o:T_api_Obs} (h:compT t o=0):validT t=0∧t.Inputs=o.Inputs∧AllRows t o:=by
 unfold compT at h
 split at h
 ·rename_i h1;exact absurd h h1
 ·rename_i h1
  split at h
  ·rename_i h2
   have h1:chkT t o=0:=by simpa using h1
   unfold chkT at h1
   split at h1
   ·rename_i h3;exact absurd h1 h3
   ·rename_i h3
    split at h1
    ·cases h1
    ·rename_i h4
     exact ⟨by simpa using h3,by simpa using h4,need_nil.1 h2⟩
  ·cases h
theorem prevLt_of_asc {l:List (List Int)} (h:Asc l) {i:Nat} {w:List Int} (hw:l[i]?=some w):prevLt l i w=true:=by
 unfold prevLt
 cases i with
 | zero=>rfl
 | succ i =>
  have hi:=(List.getElem?_eq_some_iff.1 hw).1
  have hp:=get_at (l:=l) (i:=i) (by omega)
  simp only [hp]
  have:=h.get (Nat.lt_succ_self i) hp hw
  exact decide_eq_true (by omega)
theorem validT_zero {t:T_api_Table} (h1:1≤t.Inputs) (h2:t.Inputs≤4) (hp0:t.Prefixes≠[]) (hp:t.Prefixes.length≤31) (hs:t.Suffixes.length≤13) (hA:Asc t.Prefixes) (hB:Asc t.Suffixes)
  (hc:∀ w∈t.Prefixes,checkI w t.Inputs=0∧w.length≤31) (hd:∀ w∈t.Suffixes,checkI w t.Inputs=0∧w.length≠0∧w.length≤31) (he:∀ w∈t.Prefixes,0<w.length→w.take (w.length-1)∈t.Prefixes) (h0:[]∈t.Prefixes)
  (hf:∀ a∈List.range t.Inputs.toNat,[(↑a:Int)]∈t.Suffixes):validT t=0:=by
 unfold validT
 have hpl:0<t.Prefixes.length:=List.length_pos_iff.2 hp0
 have hprod:¬ 160000<(↑t.Prefixes.length:Int)*(t.Inputs+1)*↑t.Suffixes.length:=by
  have a1:(↑t.Prefixes.length:Int)*(t.Inputs+1)≤31*5:=Int.mul_le_mul (by omega) (by omega) (by omega) (by omega)
  have a2:(↑t.Prefixes.length:Int)*(t.Inputs+1)*↑t.Suffixes.length≤31*5*13:=Int.mul_le_mul a1 (by omega) (by omega) (by omega)
  omega
 rw [if_neg (by omega),if_neg (by omega),if_neg (by rintro (h | h | h);omega;omega;exact hprod h)]
 have e1:scan (preG t fun w=>decide (w∈t.Prefixes)) 0 t.Prefixes=none:=scan_none.2 fun i w hw=>by
  have hwm:=List.mem_of_getElem? hw
  rw [Nat.zero_add]
  unfold preG
  rw [if_neg (by simpa using (hc w hwm).1)]
  have hz:¬ ((i=0∧0<w.length)∨prevLt t.Prefixes i w=false):=by
   rintro (⟨rfl,h⟩ | h)
   ·obtain ⟨j,hj,e⟩:=List.mem_iff_getElem.1 h0
    have ej:=get_at hj
    rw [e] at ej
    rcases Nat.eq_zero_or_pos j with rfl | hj0
    ·rw [hw] at ej
     injection ej with ej
     subst ej
     simp at h
    ·have:=hA.get hj0 hw ej
     have:=cmp_len this
     simp at this
     rw [this] at h
     simp at h
   ·rw [prevLt_of_asc hA hw] at h
    cases h
  rw [if_neg hz,if_neg]
  rintro ⟨h,h'⟩
  exact of_decide_eq_false h' (he w hwm h)
 have e2:scan (sufG t) 0 t.Suffixes=none:=scan_none.2 fun i w hw=>by
  have hwm:=List.mem_of_getElem? hw
  rw [Nat.zero_add]
  unfold sufG
  rw [if_neg (by simpa using (hd w hwm).1),if_neg (hd w hwm).2.1,if_neg (by rw [prevLt_of_asc hB hw];simp)]
 rw [e1,e2]
 simp only
 rw [if_pos hf]
 have l1:=(longestL_le t.Prefixes 31).2 fun x hx=>(hc x hx).2
 have l2:=(longestL_le t.Suffixes 31).2 fun x hx=>(hd x hx).2.2
 rw [if_neg (by omega)]
theorem valid_has {t:T_api_Table} (h:validT t=0):(∀ w∈t.Prefixes,checkI w t.Inputs=0)∧(∀ w∈t.Prefixes,0<w.length→w.take (w.length-1)∈t.Prefixes)∧[]∈t.Prefixes∧∀ w∈t.Suffixes,checkI w t.Inputs=0∧w.length≠0:=by
 obtain ⟨_,_,_,_,_,e1,e2,hne⟩:=valid_asc h
 have key:∀ (i:Nat) w,t.Prefixes[i]?=some w→checkI w t.Inputs=0∧¬ (i=0∧0<w.length)∧(0<w.length→w.take (w.length-1)∈t.Prefixes):=fun i w hw=>by
  have:=scan_none.1 e1 i w hw
  rw [Nat.zero_add] at this
  unfold preG at this
  split at this
  ·cases this
  ·rename_i h1
   split at this
   ·cases this
   ·rename_i h2
    split at this
    ·cases this
    ·rename_i h3
     refine ⟨by simpa using h1,fun h4=>h2 (Or.inl h4),fun h4=>?_⟩
     refine Classical.byContradiction fun h5=>h3 ⟨h4,decide_eq_false h5⟩
 refine ⟨fun w hw=>?_,fun w hw=>?_,?_,(sufG_none e2).2⟩
 ·obtain ⟨i,hi,rfl⟩:=List.mem_iff_getElem.1 hw
  exact (key i _ (get_at hi)).1
 ·obtain ⟨i,hi,rfl⟩:=List.mem_iff_getElem.1 hw
  exact (key i _ (get_at hi)).2.2
 ·have hl:0<t.Prefixes.length:=List.length_pos_iff.2 hne
  have:=(key 0 _ (get_at hl)).2.1
  have he:t.Prefixes[0].length=0:=by
   rcases Nat.eq_zero_or_pos t.Prefixes[0].length with h | h
   ·exact h
   ·exact absurd ⟨rfl,h⟩ this
  have:=List.eq_nil_of_length_eq_zero he
  rw [← this]
  exact List.getElem_mem _
theorem pre_closed {t:T_api_Table} (h:validT t=0):∀ (n:Nat) (p:List Int),p∈t.Prefixes→∀ k,p.length-k=n→k≤p.length→p.take k∈t.Prefixes:=by
 obtain ⟨_,hc,_,_⟩:=valid_has h
 intro n
 induction n with
 | zero=>intro p hp k hk hkl;rw [List.take_of_length_le (by omega)];exact hp
 | succ n ih =>
  intro p hp k hk hkl
  have h1:=hc p hp (by omega)
  have h2:=ih _ h1 k (by rw [List.length_take];omega) (by rw [List.length_take];omega)
  rw [List.take_take,Nat.min_eq_left (by omega)] at h2
  exact h2
theorem check_snoc {p:List Int} {n:Int} {a:Nat} (hp:checkI p n=0) (hl:p.length≤100) (ha:(↑a:Int)<n):checkI (p++[(↑a:Int)]) n=0:=by
 have hm:=check_mem hp
 unfold checkI at hp ⊢
 split at hp
 ·rename_i h1
  rw [if_pos h1,if_neg (by simp;omega),if_pos]
  refine List.all_eq_true.2 fun x hx=>decide_eq_true ?_
  rcases List.mem_append.1 hx with hx | hx
  ·exact hm x hx
  ·rw [List.mem_singleton.1 hx];omega
 ·cases hp
theorem check_cons {p:List Int} {n:Int} {a:Nat} (hp:checkI p n=0) (hl:p.length≤100) (ha:(↑a:Int)<n):checkI ((↑a:Int)::p) n=0:=by
 have hm:=check_mem hp
 unfold checkI at hp ⊢
 split at hp
 ·rename_i h1
  rw [if_pos h1,if_neg (by simp;omega),if_pos]
  refine List.all_eq_true.2 fun x hx=>decide_eq_true ?_
  rcases List.mem_cons.1 hx with rfl | hx
  ·omega
  ·exact hm x hx
 ·cases hp
theorem sort_more {l m:List (List Int)} {w:List Int} (h:Asc l) (hw:w∉l) (hm:∀ x,x∈m↔x∈l∨x=w):(sortW m).length=l.length+1∧∀ x,x∈sortW m↔x∈l∨x=w:=by
 have hmem:∀ x,x∈sortW m↔x∈l∨x=w:=fun x=>by rw [mem_sortW,hm]
 have e:sortW m=insW l w:=asc_ext (sortW_asc m) (h.insW w) fun x=>by rw [hmem,mem_insW]
 refine ⟨?_,hmem⟩
 rw [e]
 unfold insW
 rw [if_neg hw]
 have:=placeL_le l w
 simp [List.length_append,List.length_take,List.length_drop]
 omega
theorem uncl_progress {t:T_api_Table} {o:T_api_Obs} {w:List Int} (ht:TabOk t) (hz:compT t o=0) (hf:(extL t).find? (newRow t o)=some w) :
  (prefixT t w).2=0∧w∉t.Prefixes∧w∈(prefixT t w).1.Prefixes∧(prefixT t w).1.Prefixes.length=t.Prefixes.length+1∧(prefixT t w).1.Suffixes.length=t.Suffixes.length:=by
 obtain ⟨hval,_,hA⟩:=compT_zero hz
 obtain ⟨hn1,_,hAp,hAs,hsing,_,_,hne⟩:=valid_asc hval
 obtain ⟨hck,hcl,hnil,hsc⟩:=valid_has hval
 have hnew:newRow t o w=true:=List.find?_some hf
 have hwm:=List.mem_of_find?_eq_some hf
 obtain ⟨p,hp,h2⟩:=List.mem_flatMap.1 hwm
 obtain ⟨a,ha,rfl⟩:=List.mem_map.1 h2
 have ha:=List.mem_range.1 ha
 have hpl:=ht.pw p hp
 have hnot:p++[(↑a:Int)]∉t.Prefixes:=fun hm=>of_decide_eq_true hnew (List.mem_map.2 ⟨_,hm,rfl⟩)
 have hcw:=check_snoc (hck p hp) (by omega) (show (↑a:Int)<t.Inputs by omega)
 have hmm:∀ x,x∈t.Prefixes++sortW (preL [p++[(↑a:Int)]])↔x∈t.Prefixes∨x=p++[(↑a:Int)]:=fun x=>by
  rw [List.mem_append,mem_sortW,preL_one]
  unfold prefixes
  constructor
  ·rintro (h | h)
   ·exact Or.inl h
   ·obtain ⟨k,hk,rfl⟩:=List.mem_map.1 h
    have hk:=List.mem_range.1 hk
    rw [List.length_append,List.length_singleton] at hk
    rcases Nat.lt_or_ge p.length k with h3 | h3
    ·right
     rw [List.take_of_length_le (by rw [List.length_append,List.length_singleton];omega)]
    ·left
     rw [List.take_append_of_le_length h3]
     exact pre_closed hval _ p hp k rfl h3
  ·rintro (h | rfl)
   ·exact Or.inl h
   ·exact Or.inr (List.mem_map.2 ⟨p.length+1,by simp,by rw [List.take_of_length_le (by simp)]⟩)
 obtain ⟨hlen,hmem⟩:=sort_more hAp hnot hmm
 have hsuf:sortW (t.Suffixes++[])=t.Suffixes:=by rw [List.append_nil,sortW_of_asc hAs]
 have hv2:validT ⟨t.Inputs,sortW (t.Prefixes++sortW (preL [p++[(↑a:Int)]])),sortW (t.Suffixes++[])⟩=0:=by
  refine validT_zero hn1 ht.n (fun e=>?_) ?_ ?_ (sortW_asc _) (sortW_asc _) (fun u hu=>?_) (fun u hu=>?_) (fun u hu h0=>?_) ((hmem _).2 (Or.inl hnil)) ?_
  ·have:p++[(↑a:Int)]∈sortW (t.Prefixes++sortW (preL [p++[(↑a:Int)]])):=(hmem _).2 (Or.inr rfl)
   rw [show sortW (t.Prefixes++sortW (preL [p++[(↑a:Int)]]))=[] from e] at this
   cases this
  ·show (sortW (t.Prefixes++sortW (preL [p++[(↑a:Int)]]))).length≤31
   rw [hlen]
   have:=ht.p
   omega
  ·show (sortW (t.Suffixes++[])).length≤13
   rw [hsuf]
   have:=ht.s
   omega
  ·rcases (hmem u).1 hu with h | rfl
   ·exact ⟨hck u h,by have:=ht.pw u h;omega⟩
   ·exact ⟨hcw,by simp;omega⟩
  ·have hu:u∈sortW (t.Suffixes++[]):=hu
   rw [hsuf] at hu
   exact ⟨(hsc u hu).1,(hsc u hu).2,by have:=ht.sw u hu;omega⟩
  ·refine (hmem _).2 (Or.inl ?_)
   rcases (hmem u).1 hu with h | rfl
   ·exact hcl u h h0
   ·rw [List.length_append,List.length_singleton,Nat.add_sub_cancel,List.take_append_of_le_length (Nat.le_refl _),List.take_length]
    exact hp
  ·show ∀ a∈List.range t.Inputs.toNat,[(↑a:Int)]∈sortW (t.Suffixes++[])
   rw [hsuf]
   exact hsing
 have hP:prefixT t (p++[(↑a:Int)])=(⟨t.Inputs,sortW (t.Prefixes++sortW (preL [p++[(↑a:Int)]])),sortW (t.Suffixes++[])⟩,0):=by
  unfold prefixT growT
  rw [if_neg (by simpa using hval),if_neg (by simpa using hcw),if_neg (by simpa using hv2)]
 rw [hP]
 exact ⟨rfl,hnot,(hmem _).2 (Or.inr rfl),hlen,by show (sortW (t.Suffixes++[])).length=_;rw [hsuf]⟩
theorem rowO_get {o:T_api_Obs} {w:List Int}:∀ {S:List (List Int)} {r:Row},rowO o w S=some r→∀ (i:Nat) e,S[i]?=some e→∃ x,ansO o (w++e)=some x∧r[i]?=some (x.drop w.length)
 | [],_,_,i,e,he=>by simp at he
 | u::S,r,h,i,e,he=>by
  unfold rowO at h
  cases ha:ansO o (w++u) with
  | none=>rw [ha] at h;cases h
  | some x =>
   rw [ha] at h
   obtain ⟨l,h1,rfl⟩:=Option.map_eq_some_iff.1 h
   cases i with
   | zero =>
    simp at he
    subst he
    exact ⟨x,ha,rfl⟩
   | succ i =>
    obtain ⟨y,h2,h3⟩:=rowO_get h1 i e (by simpa using he)
    exact ⟨y,h2,by simpa using h3⟩
theorem iP_parts {t:T_api_Table} {o:T_api_Obs} (hA:AllRows t o) {x:Int×Int×Bool} (h:iP t o=some x) :
  ∃ p q,p∈t.Prefixes∧q∈t.Prefixes∧rowO o p t.Suffixes=rowO o q t.Suffixes∧∃ a e:Nat,x=((a:Int),(e:Int),true)∧a<t.Inputs.toNat∧∃ X Y u,rowO o (p++[(↑a:Int)]) t.Suffixes=some X∧rowO o (q++[(↑a:Int)]) t.Suffixes=some Y∧X[e]?=some u∧Y[e]?≠some u:=by
 refine scan_inv2 (Q:=fun x=>∃ p q,p∈t.Prefixes∧q∈t.Prefixes∧rowO o p t.Suffixes=rowO o q t.Suffixes∧∃ a e:Nat,x=((a:Int),(e:Int),true)∧a<t.Inputs.toNat∧∃ X Y u,rowO o (p++[(↑a:Int)]) t.Suffixes=some X∧rowO o (q++[(↑a:Int)]) t.Suffixes=some Y∧X[e]?=some u∧Y[e]?≠some u) h fun i p r hp hr=>?_
 refine scan_inv2 (Q:=fun x=>∃ p q,p∈t.Prefixes∧q∈t.Prefixes∧rowO o p t.Suffixes=rowO o q t.Suffixes∧∃ a e:Nat,x=((a:Int),(e:Int),true)∧a<t.Inputs.toNat∧∃ X Y u,rowO o (p++[(↑a:Int)]) t.Suffixes=some X∧rowO o (q++[(↑a:Int)]) t.Suffixes=some Y∧X[e]?=some u∧Y[e]?≠some u) hr fun k q r hq hr=>?_
 have hpm:=List.mem_of_getElem? hp
 have hqm:q∈t.Prefixes:=List.mem_of_mem_drop (List.mem_of_getElem? hq)
 split at hr
 ·rename_i heq
  refine scan_inv2 (Q:=fun x=>∃ p q,p∈t.Prefixes∧q∈t.Prefixes∧rowO o p t.Suffixes=rowO o q t.Suffixes∧∃ a e:Nat,x=((a:Int),(e:Int),true)∧a<t.Inputs.toNat∧∃ X Y u,rowO o (p++[(↑a:Int)]) t.Suffixes=some X∧rowO o (q++[(↑a:Int)]) t.Suffixes=some Y∧X[e]?=some u∧Y[e]?≠some u) hr fun a a' r ha hr=>?_
  have han:a<t.Inputs.toNat:=by
   have:=(List.getElem?_eq_some_iff.1 ha).1
   simpa using this
  rw [List.getElem?_range han] at ha
  injection ha with ha
  subst ha
  obtain ⟨X,hX⟩:=hA p hpm (p++[(↑a:Int)]) (List.mem_cons_of_mem _ (List.mem_map.2 ⟨a,List.mem_range.2 han,rfl⟩))
  obtain ⟨Y,hY⟩:=hA q hqm (q++[(↑a:Int)]) (List.mem_cons_of_mem _ (List.mem_map.2 ⟨a,List.mem_range.2 han,rfl⟩))
  rw [rowG_some hX,rowG_some hY] at hr
  refine scan_inv2 (Q:=fun x=>∃ p q,p∈t.Prefixes∧q∈t.Prefixes∧rowO o p t.Suffixes=rowO o q t.Suffixes∧∃ a e:Nat,x=((a:Int),(e:Int),true)∧a<t.Inputs.toNat∧∃ X Y u,rowO o (p++[(↑a:Int)]) t.Suffixes=some X∧rowO o (q++[(↑a:Int)]) t.Suffixes=some Y∧X[e]?=some u∧Y[e]?≠some u) hr fun e u r hu hr=>?_
  split at hr
  ·cases hr
  ·rename_i hne
   injection hr with hr
   subst hr
   rw [Nat.zero_add] at hne ⊢
   exact ⟨p,q,hpm,hqm,heq,a,e,rfl,han,X,Y,u,hX,hY,hu,hne⟩
 ·cases hr
theorem inc_progress {t:T_api_Table} {o:T_api_Obs} {x:Int×Int×Bool} (ht:TabOk t) (hv:ObsOk o) (hz:compT t o=0) (hf:iP t o=some x) :
  (suffixT t (toW t x)).2=0∧toW t x∉t.Suffixes∧toW t x∈(suffixT t (toW t x)).1.Suffixes∧(suffixT t (toW t x)).1.Suffixes.length=t.Suffixes.length+1∧(suffixT t (toW t x)).1.Prefixes.length=t.Prefixes.length:=by
 obtain ⟨hval,_,hA⟩:=compT_zero hz
 obtain ⟨hn1,_,hAp,hAs,hsing,_,_,hne⟩:=valid_asc hval
 obtain ⟨hck,hcl,hnil,hsc⟩:=valid_has hval
 obtain ⟨p,q,hp,hq,hpq,a,e,rfl,ha,X,Y,u,hX,hY,hu,hne2⟩:=iP_parts hA hf
 have he:e<t.Suffixes.length:=by
  have h1:=(List.getElem?_eq_some_iff.1 hu).1
  rw [(rowO_sml hv hX).1] at h1
  exact h1
 have hse:=get_at he
 have hW:toW t ((a:Int),(e:Int),true)=(↑a:Int)::t.Suffixes[e]:=by
  unfold toW
  simp [hse]
 rw [hW]
 have hel:=ht.sw _ (List.getElem_mem he)
 have hcw:=check_cons (hsc _ (List.getElem_mem he)).1 (by omega) (show (↑a:Int)<t.Inputs by omega)
 have hnot:(↑a:Int)::t.Suffixes[e]∉t.Suffixes:=fun hm=>by
  obtain ⟨j,hj,ej⟩:=List.mem_iff_getElem.1 hm
  have hsj:=get_at hj
  rw [ej] at hsj
  obtain ⟨r,hr⟩:=hA p hp p (by simp [withX])
  have hr2:rowO o q t.Suffixes=some r:=by rw [← hpq];exact hr
  obtain ⟨z1,h1,h2⟩:=rowO_get hr j _ hsj
  obtain ⟨z2,h3,h4⟩:=rowO_get hr2 j _ hsj
  obtain ⟨y1,k1,k2⟩:=rowO_get hX e _ hse
  obtain ⟨y2,k3,k4⟩:=rowO_get hY e _ hse
  rw [List.append_assoc] at k1 k3
  have e1:p++(↑a:Int)::t.Suffixes[e]=p++([(↑a:Int)]++t.Suffixes[e]):=rfl
  have e2:q++(↑a:Int)::t.Suffixes[e]=q++([(↑a:Int)]++t.Suffixes[e]):=rfl
  rw [e1,k1] at h1
  rw [e2,k3] at h3
  injection h1 with h1
  injection h3 with h3
  subst h1 h3
  rw [h2] at h4
  injection h4 with h4
  have h5:=congrArg (List.drop 1) h4
  rw [List.drop_drop,List.drop_drop] at h5
  rw [hu] at k2
  injection k2 with k2
  apply hne2
  rw [k4,k2]
  congr 1
  rw [List.length_append,List.length_append,List.length_singleton]
  exact h5.symm
 have hmm:∀ x,x∈t.Suffixes++[(↑a:Int)::t.Suffixes[e]]↔x∈t.Suffixes∨x=(↑a:Int)::t.Suffixes[e]:=fun x=>by
  rw [List.mem_append,List.mem_singleton]
 obtain ⟨hlen,hmem⟩:=sort_more hAs hnot hmm
 have hpre:sortW (t.Prefixes++[])=t.Prefixes:=by rw [List.append_nil,sortW_of_asc hAp]
 have hv2:validT ⟨t.Inputs,sortW (t.Prefixes++[]),sortW (t.Suffixes++[(↑a:Int)::t.Suffixes[e]])⟩=0:=by
  refine validT_zero hn1 ht.n ?_ ?_ ?_ (sortW_asc _) (sortW_asc _) (fun u hu=>?_) (fun u hu=>?_) (fun u hu h0=>?_) ?_ (fun b hb=>(hmem _).2 (Or.inl (hsing b hb)))
  ·show sortW (t.Prefixes++[])≠[]
   rw [hpre]
   exact hne
  ·show (sortW (t.Prefixes++[])).length≤31
   rw [hpre]
   have:=ht.p
   omega
  ·show (sortW (t.Suffixes++[(↑a:Int)::t.Suffixes[e]])).length≤13
   rw [hlen]
   have:=ht.s
   omega
  ·have hu:u∈sortW (t.Prefixes++[]):=hu
   rw [hpre] at hu
   exact ⟨hck u hu,by have:=ht.pw u hu;omega⟩
  ·rcases (hmem u).1 hu with h | rfl
   ·exact ⟨(hsc u h).1,(hsc u h).2,by have:=ht.sw u h;omega⟩
   ·exact ⟨hcw,by simp,by simp;omega⟩
  ·have hu:u∈sortW (t.Prefixes++[]):=hu
   show u.take (u.length-1)∈sortW (t.Prefixes++[])
   rw [hpre] at hu ⊢
   exact hcl u hu h0
  ·show []∈sortW (t.Prefixes++[])
   rw [hpre]
   exact hnil
 have hP:suffixT t ((↑a:Int)::t.Suffixes[e])=(⟨t.Inputs,sortW (t.Prefixes++[]),sortW (t.Suffixes++[(↑a:Int)::t.Suffixes[e]])⟩,0):=by
  unfold suffixT growT
  rw [if_neg (by simpa using hval),if_neg (by simp),if_neg (by simpa using hcw),if_neg (by simpa using hv2)]
 rw [hP]
 exact ⟨rfl,hnot,(hmem _).2 (Or.inr rfl),hlen,by show (sortW (t.Prefixes++[])).length=_;rw [hpre]⟩
theorem extL_mem_sm {t:T_api_Table} (ht:TabOk t) {w:List Int} (h:w∈extL t):w.length≤31∧∀ a∈w,inR a:=by
 obtain ⟨p,hp,h2⟩:=List.mem_flatMap.1 h
 obtain ⟨a,ha,rfl⟩:=List.mem_map.1 h2
 have ha:=List.mem_range.1 ha
 have:=ht.pw p hp
 have hn:=ht.n
 refine ⟨by simp;omega,fun b hb=>?_⟩
 rcases List.mem_append.1 hb with hb | hb
 ·exact ht.sm.2.2.2 p hp b hb
 ·rw [List.mem_singleton.1 hb]
  unfold inR
  omega
end Go.Proofs.YtedabpfahmealaaGreatDoor.Sym

/-
 The hypothesis of a table: the program's is the document's. Plain laws.
-/
namespace Go.Proofs.YtedabpfahmealaaGreatDoor.Sym
set_option maxRecDepth 100000
theorem singles_at {l:List (List Int)} {n:Int} (hA:Asc l) (hc:∀ w∈l,checkI w n=0∧w.length≠0) (h:∀ a∈List.range n.toNat,[(↑a:Int)]∈l):∀ a,a<n.toNat→l[a]?=some [(↑a:Int)]:=by
 intro a
 induction a using Nat.strongRecOn with
 | _ a ih =>
  intro ha
  obtain ⟨j,hj,e⟩:=List.mem_iff_getElem.1 (h a (List.mem_range.2 ha))
  have ej:l[j]?=some [(↑a:Int)]:=by rw [get_at hj,e]
  rcases Nat.lt_trichotomy j a with hlt | heq | hgt
  ·have:=ih j hlt (by omega)
   rw [ej] at this
   injection this with this
   injection this with this
   omega
  ·rw [← heq,ej,heq]
  ·have hx:=get_at (l:=l) (i:=a) (by omega)
   have hcmp:=hA.get hgt hx ej
   have hxm:=List.mem_of_getElem? hx
   obtain ⟨b,hb⟩:=one_of (hc _ hxm).2 (cmp_len hcmp)
   rw [hb] at hcmp hx
   have hlt:=cmp_single.1 hcmp
   have hr:=check_mem (hc _ hxm).1 b (by rw [hb];simp)
   have hbb:=ih b.toNat (by omega) (by omega)
   rw [show ((b.toNat:Nat):Int)=b by omega] at hbb
   have:=hA.get (show b.toNat<a by omega) hbb hx
   rw [cmpW_refl] at this
   cases this
def newAt (rs:List Row) (i:Nat):Bool:=match rs[i]? with | some r=>decide (r∉rs.take i) | none=>false
def fstI (rs:List Row) (k:Nat):List Nat:=(List.range k).filter (newAt rs)
theorem fstI_succ (rs:List Row) (k:Nat):fstI rs (k+1)=fstI rs k++if newAt rs k=true then [k] else []:=by
 unfold fstI
 rw [List.range_succ,List.filter_append]
 simp only [List.filter_cons,List.filter_nil]
theorem addAll_fst (rs:List Row):∀ k,k≤rs.length→addAll [] (rs.take k)=(fstI rs k).map fun i=>(rs[i]?).getD []:=by
 intro k
 induction k with
 | zero=>intro _;rfl
 | succ k ih =>
  intro hk
  have hx:=get_at (l:=rs) (i:=k) (by omega)
  rw [take_step hx,addAll_snoc,ih (by omega),fstI_succ,List.map_append]
  have hiff:newAt rs k=true↔rs[k]∉addAll [] (rs.take k):=by
   unfold newAt
   rw [hx]
   simp only
   rw [decide_eq_true_iff,mem_addAll]
   simp
  rw [ih (by omega)] at hiff
  unfold addR
  by_cases h:newAt rs k=true
  ·rw [if_neg (hiff.1 h),if_pos h]
   simp [hx]
  ·rw [if_pos (Classical.byContradiction fun h2=>h (hiff.2 h2)),if_neg h]
   simp
theorem fstI_len (rs:List Row) (k:Nat):(fstI rs k).length≤k:=by
 unfold fstI
 have:=List.length_filter_le (newAt rs) (List.range k)
 rw [List.length_range] at this
 exact this
theorem mem_fstI {rs:List Row} {k i:Nat}:i∈fstI rs k↔i<k∧newAt rs i=true:=by
 unfold fstI
 rw [List.mem_filter,List.mem_range]
def rowsT (t:T_api_Table) (o:T_api_Obs):List Row:=t.Prefixes.map (rowG t o)
def rowsA (t:T_api_Table) (o:T_api_Obs):List Row:=addAll [] (rowsT t o)
def nextT (t:T_api_Table) (o:T_api_Obs) (p:List Int):List Int:=(List.range t.Inputs.toNat).map fun (a:Nat)=>(↑(pos (rowG t o (p++[(↑a:Int)])) (rowsA t o)):Int)
def outT (t:T_api_Table) (o:T_api_Obs) (p:List Int):List Int:=(List.range t.Inputs.toNat).map fun (a:Nat)=>(((rowG t o p)[a]?).getD []).headD 0
def preAt (t:T_api_Table) (i:Nat):List Int:=(t.Prefixes[i]?).getD []
def hypT (t:T_api_Table) (o:T_api_Obs):T_api_Hyp :=
 ⟨⟨t.Inputs,0,(fstI (rowsT t o) t.Prefixes.length).map fun i=>nextT t o (preAt t i),(fstI (rowsT t o) t.Prefixes.length).map fun i=>outT t o (preAt t i)⟩,(fstI (rowsT t o) t.Prefixes.length).map (preAt t)⟩
abbrev h0:T_api_Hyp:=⟨⟨0,0,[],[]⟩,[]⟩
def hypR (t:T_api_Table) (o:T_api_Obs):T_api_Hyp×Int :=
 if compT t o≠0 then (h0,compT t o) else if (extL t).find? (newRow t o)≠none∨iP t o≠none then (h0,10) else (hypT t o,0)
theorem row_out {t:T_api_Table} {o:T_api_Obs} (hv:ObsOk o) {p:List Int} {r:Row} (hr:rowO o p t.Suffixes=some r) {a:Nat} (hs:t.Suffixes[a]?=some [(↑a:Int)]):∃ y z,r[a]?=some [y]∧ansO o (p++[(↑a:Int)])=some z∧z.drop p.length=[y]:=by
 obtain ⟨z,h1,h2⟩:=rowO_get hr a _ hs
 have hl:=ansO_len hv h1
 rw [List.length_append,List.length_singleton] at hl
 have hd:(z.drop p.length).length=1:=by rw [List.length_drop];omega
 match hq:z.drop p.length,hd with
 | [y],_=>exact ⟨y,z,by rw [h2,hq],h1,hq⟩
end Go.Proofs.YtedabpfahmealaaGreatDoor.Sym

/-
 The reference's hypothesis, and the law of TableHypothesis. Plain laws.
-/
namespace Go.Proofs.YtedabpfahmealaaGreatDoor.Sym
set_option maxRecDepth 100000
theorem rowG_eq {t:T_api_Table} {o:T_api_Obs} {p:List Int} (h:∃ r,rowO o p t.Suffixes=some r):rowO o p t.Suffixes=some (rowG t o p):=by
 obtain ⟨r,hr⟩:=h
 rw [hr,rowG_some hr]
end Go.Proofs.YtedabpfahmealaaGreatDoor.Sym

/-
 The prefixes reach their rows: plain law of TableReaches.
-/
namespace Go.Proofs.YtedabpfahmealaaGreatDoor.Sym
set_option maxRecDepth 100000
structure HypOk (t:T_api_Table) (o:T_api_Obs):Prop where
 ht:TabOk t
 ho:SmO o
 hv:ObsOk o
 hz:compT t o=0
 hf:(extL t).find? (newRow t o)=none
 hi:iP t o=none
section
variable {t:T_api_Table} {o:T_api_Obs}
theorem HypOk.all (H:HypOk t o):AllRows t o:=(compT_zero H.hz).2.2
theorem HypOk.row (H:HypOk t o) {p:List Int} (hp:p∈t.Prefixes):rowO o p t.Suffixes=some (rowG t o p):=rowG_eq (H.all p hp p (by simp [withX]))
theorem HypOk.ext (H:HypOk t o) {p:List Int} (hp:p∈t.Prefixes) {a:Nat} (ha:a<t.Inputs.toNat):rowO o (p++[(↑a:Int)]) t.Suffixes=some (rowG t o (p++[(↑a:Int)])) :=
 rowG_eq (H.all p hp _ (List.mem_cons_of_mem _ (List.mem_map.2 ⟨a,List.mem_range.2 ha,rfl⟩)))
theorem HypOk.closed (H:HypOk t o) {p:List Int} (hp:p∈t.Prefixes) {a:Nat} (ha:a<t.Inputs.toNat):rowG t o (p++[(↑a:Int)])∈rowsA t o:=by
 have h1:=List.find?_eq_none.1 H.hf (p++[(↑a:Int)]) (List.mem_flatMap.2 ⟨p,hp,List.mem_map.2 ⟨a,List.mem_range.2 ha,rfl⟩⟩)
 have h2:newRow t o (p++[(↑a:Int)])=false:=by simpa using h1
 unfold newRow at h2
 obtain ⟨q,hq,h3⟩:=List.mem_map.1 (Classical.not_not.1 (of_decide_eq_false h2))
 rw [H.ext hp ha] at h3
 unfold rowsA
 exact mem_addAll.2 (Or.inr (List.mem_map.2 ⟨q,hq,rowG_some h3⟩))
theorem HypOk.mem (H:HypOk t o) {p:List Int} (hp:p∈t.Prefixes):rowG t o p∈rowsA t o:=by
 unfold rowsA
 exact mem_addAll.2 (Or.inr (List.mem_map.2 ⟨p,hp,rfl⟩))
theorem dP_none {a:Nat} {x y:Row} (hl:x.length=y.length) (h:dP a x y=none):x=y:=by
 have h1:=scan_none.1 h
 apply List.ext_getElem?
 intro e
 rcases Nat.lt_or_ge e x.length with he | he
 ·have hx:=get_at he
  have:=h1 e _ hx
  rw [Nat.zero_add] at this
  split at this
  ·rename_i h2
   rw [hx,h2]
  ·cases this
 ·rw [List.getElem?_eq_none he,List.getElem?_eq_none (by omega)]
theorem HypOk.cons (H:HypOk t o) {p q:List Int} (hp:p∈t.Prefixes) (hq:q∈t.Prefixes) (h:rowG t o p=rowG t o q) {a:Nat} (ha:a<t.Inputs.toNat):rowG t o (p++[(↑a:Int)])=rowG t o (q++[(↑a:Int)]):=by
 have key:∀ (i k:Nat) p q,i<k→t.Prefixes[i]?=some p→t.Prefixes[k]?=some q→rowG t o p=rowG t o q→rowG t o (p++[(↑a:Int)])=rowG t o (q++[(↑a:Int)]):=by
  intro i k p q hik hp hq h
  have hpm:=List.mem_of_getElem? hp
  have hqm:=List.mem_of_getElem? hq
  have h1:=scan_none.1 H.hi i p hp
  rw [Nat.zero_add] at h1
  have hq2:(t.Prefixes.drop (i+1))[k-(i+1)]?=some q:=by
   rw [List.getElem?_drop,show i+1+(k-(i+1))=k by omega]
   exact hq
  have h2:=scan_none.1 h1 _ q hq2
  rw [if_pos (by rw [H.row hpm,H.row hqm,h])] at h2
  have h3:=scan_none.1 h2 a a (List.getElem?_range ha)
  refine dP_none ?_ h3
  rw [(rowO_sml H.hv (H.ext hpm ha)).1,(rowO_sml H.hv (H.ext hqm ha)).1]
 obtain ⟨i,hi,rfl⟩:=List.mem_iff_getElem.1 hp
 obtain ⟨k,hk,rfl⟩:=List.mem_iff_getElem.1 hq
 rcases Nat.lt_trichotomy i k with hlt | heq | hgt
 ·exact key i k _ _ hlt (get_at hi) (get_at hk) h
 ·subst heq;rfl
 ·exact (key k i _ _ hgt (get_at hk) (get_at hi) h.symm).symm
def stt (t:T_api_Table) (o:T_api_Obs) (w:List Int):Nat:=pos (rowG t o w) (rowsA t o)
theorem rowsA_map:rowsA t o=(fstI (rowsT t o) t.Prefixes.length).map fun i=>((rowsT t o)[i]?).getD []:=by
 have:=addAll_fst (rowsT t o) t.Prefixes.length (by simp [rowsT])
 rw [List.take_of_length_le (by simp [rowsT])] at this
 exact this
theorem rep_of {r:Row} (h:r∈rowsA t o):∃ i,(fstI (rowsT t o) t.Prefixes.length)[pos r (rowsA t o)]?=some i∧i<t.Prefixes.length∧preAt t i∈t.Prefixes∧rowG t o (preAt t i)=r:=by
 have h1:=pos_get h
 have h2:=@rowsA_map t o
 rw [h2,List.getElem?_map] at h1
 rw [← h2] at h1
 obtain ⟨i,hi,h3⟩:=Option.map_eq_some_iff.1 h1
 have hm:=mem_fstI.1 (List.mem_of_getElem? hi)
 have hp:=get_at hm.1
 have hpa:preAt t i=t.Prefixes[i]:=by unfold preAt;rw [hp];rfl
 refine ⟨i,hi,hm.1,by rw [hpa];exact List.getElem_mem _,?_⟩
 rw [hpa,← h3]
 unfold rowsT
 rw [List.getElem?_map,hp]
 rfl
theorem HypOk.at (H:HypOk t o) {r:Row} (h:r∈rowsA t o):∃ q∈t.Prefixes,rowG t o q=r∧(hypT t o).M.Next[pos r (rowsA t o)]?=some (nextT t o q)∧(hypT t o).M.Out[pos r (rowsA t o)]?=some (outT t o q)∧(hypT t o).Access[pos r (rowsA t o)]?=some q:=by
 obtain ⟨i,hi,_,h2,h3⟩:=rep_of h
 refine ⟨preAt t i,h2,h3,?_,?_,?_⟩
 ·show ((fstI (rowsT t o) t.Prefixes.length).map fun i=>nextT t o (preAt t i))[_]?=_
  rw [List.getElem?_map,hi]
  rfl
 ·show ((fstI (rowsT t o) t.Prefixes.length).map fun i=>outT t o (preAt t i))[_]?=_
  rw [List.getElem?_map,hi]
  rfl
 ·show ((fstI (rowsT t o) t.Prefixes.length).map (preAt t))[_]?=_
  rw [List.getElem?_map,hi]
  rfl
theorem nextT_at {q:List Int} {a:Nat} (ha:a<t.Inputs.toNat):(nextT t o q)[a]?=some (↑(stt t o (q++[(↑a:Int)])):Int):=by
 unfold nextT stt
 rw [List.getElem?_map,List.getElem?_range ha]
 rfl
theorem outT_at {q:List Int} {a:Nat} (ha:a<t.Inputs.toNat):(outT t o q)[a]?=some ((((rowG t o q)[a]?).getD []).headD 0):=by
 unfold outT
 rw [List.getElem?_map,List.getElem?_range ha]
 rfl
theorem HypOk.sym (H:HypOk t o) {p:List Int} (hp:p∈t.Prefixes) {k:Nat} {x:Int} (hx:p[k]?=some x):0≤x∧x<t.Inputs :=
 check_mem ((valid_has (compT_zero H.hz).1).1 p hp) x (List.mem_of_getElem? hx)
theorem HypOk.nil (H:HypOk t o):t.Prefixes[0]?=some []:=by
 obtain ⟨hval,_,_⟩:=compT_zero H.hz
 obtain ⟨_,_,hA,_,_,_,_,hne⟩:=valid_asc hval
 obtain ⟨_,_,h0,_⟩:=valid_has hval
 have hl:0<t.Prefixes.length:=List.length_pos_iff.2 hne
 obtain ⟨j,hj,e⟩:=List.mem_iff_getElem.1 h0
 rcases Nat.eq_zero_or_pos j with rfl | hj0
 ·rw [get_at hj,e]
 ·have:=cmp_len (hA.get hj0 (get_at hl) (get_at hj))
  rw [e] at this
  have h2:=List.eq_nil_of_length_eq_zero (Nat.le_zero.1 this)
  rw [get_at hl,h2]
theorem HypOk.start (H:HypOk t o):stt t o []=0:=by
 have h0:=H.nil
 unfold stt rowsA
 have hp:rowsT t o=rowG t o []::(rowsT t o).drop 1:=by
  unfold rowsT
  cases hP:t.Prefixes with
  | nil=>rw [hP] at h0;cases h0
  | cons p ps =>
   rw [hP] at h0
   injection h0 with h0
   subst h0
   rfl
 rw [hp]
 show pos (rowG t o []) (addAll (addR [] (rowG t o [])) _)=0
 rw [pos_addAll (mem_addR.2 (Or.inr rfl))]
 simp [addR,pos]
theorem HypOk.outs (H:HypOk t o) {p:List Int} (hp:p∈t.Prefixes):∃ ys,R06_Outs (hypT t o).M 0 p=some (ys,(↑(stt t o p):Int)):=by
 have hpw:=H.ht.pw p hp
 have hval:=(compT_zero H.hz).1
 unfold R06_Outs
 have key:=iter_post (step:=fun (s:Int×List Int×Nat)=>R06_Outs.s2 (hypT t o).M p s.1 s.2.1 s.2.2) (fun s=>s.2.2≤p.length∧s.1=(↑(stt t o (p.take s.2.2)):Int)∧s.2.1.length=s.2.2) (fun s=>p.length-s.2.2) (fun r=>r.1=(↑(stt t o p):Int)) (fun s ⟨g1,g2,g3⟩=>by
  obtain ⟨st,y,k⟩:=s
  simp only at g1 g2 g3
  subst g2
  simp only [R06_Outs.s2]
  by_cases g4:k<p.length
  ·left
   have hx:=get_at g4
   obtain ⟨hx0,hx1⟩:=H.sym hp hx
   have hpre:=pre_closed hval _ p hp k rfl (by omega)
   have hpre1:=pre_closed hval _ p hp (k+1) rfl (by omega)
   have hxa:p[k]=((p[k].toNat:Nat):Int):=by omega
   have han:p[k].toNat<t.Inputs.toNat:=by omega
   obtain ⟨q,hq,q1,q2,q3,_⟩:=H.at (H.mem hpre)
   have q2:(hypT t o).M.Next[stt t o (p.take k)]?=some (nextT t o q):=q2
   have q3:(hypT t o).M.Out[stt t o (p.take k)]?=some (outT t o q):=q3
   have hcons:=H.cons hq hpre q1 han
   have hst:stt t o (q++[((p[k].toNat:Nat):Int)])=stt t o (p.take (k+1)):=by
    unfold stt
    rw [hcons,take_step hx,← hxa]
   refine ⟨((↑(stt t o (p.take (k+1))):Int),y++[(((rowG t o q)[p[k].toNat]?).getD []).headD 0],k+1),?_,⟨g4,rfl,by simp [g3]⟩,by simp only;omega⟩
   rw [dec_lt hx,cond_true,idx_at rfl q3,idxn_at hx,idx_at hxa (outT_at han),chk_pos (by unfold capOk;omega),idx_at rfl q2,idxn_at hx,idx_at hxa (nextT_at han),hst]
  ·right
   have e:k=p.length:=by omega
   subst e
   rw [List.take_length]
   exact ⟨_,by rw [decide_eq_false (by omega),cond_false],rfl⟩) fuel ((0:Int),[],0) ⟨Nat.zero_le _,by simp [H.start],rfl⟩ (by have:=fuel_big;simp only;omega)
 obtain ⟨⟨st,ys⟩,e,hq⟩:=key
 rw [e,obind]
 simp only at hq
 subst hq
 exact ⟨ys,rfl⟩
theorem HypOk.num (H:HypOk t o):(rowsA t o).length=(fstI (rowsT t o) t.Prefixes.length).length∧0<(rowsA t o).length∧(rowsA t o).length≤30:=by
 have h1:=@rowsA_map t o
 have h2:=fstI_len (rowsT t o) t.Prefixes.length
 have h3:=H.ht.p
 have h4:(rowsA t o).length=(fstI (rowsT t o) t.Prefixes.length).length:=by rw [h1,List.length_map]
 have h5:rowG t o []∈rowsA t o:=H.mem (List.mem_of_getElem? H.nil)
 have h6:=List.length_pos_of_mem h5
 omega
theorem HypOk.nlen (H:HypOk t o):(hypT t o).M.Next.length=(rowsA t o).length∧(hypT t o).M.Out.length=(rowsA t o).length∧(hypT t o).Access.length=(rowsA t o).length:=by
 have:=H.num.1
 unfold hypT
 simp only [List.length_map]
 omega
theorem HypOk.state (H:HypOk t o) {s:Nat} (hs:s<(rowsA t o).length):∃ q∈t.Prefixes,stt t o q=s∧(hypT t o).M.Next[s]?=some (nextT t o q)∧(hypT t o).M.Out[s]?=some (outT t o q)∧(hypT t o).Access[s]?=some q:=by
 have hm:=List.getElem_mem hs
 have hpos:pos (rowsA t o)[s] (rowsA t o)=s:=by
  -- the rows are all different
  have hnd:∀ (rs R:List Row),R.Nodup→(addAll R rs).Nodup:=by
   intro rs
   induction rs with
   | nil=>intro R h;exact h
   | cons r rs ih =>
    intro R h
    show (addAll (addR R r) rs).Nodup
    refine ih _ ?_
    unfold addR
    split
    ·exact h
    ·rename_i hn
     rw [List.nodup_append]
     exact ⟨h,by simp,fun x hx y hy=>by
      rw [List.mem_singleton.1 hy]
      exact fun e=>hn (e ▸ hx)⟩
  have hN:(rowsA t o).Nodup:=hnd _ _ List.nodup_nil
  have h1:=pos_get hm
  have h2:=pos_lt hm
  have h3:=get_at h2
  rw [h1] at h3
  injection h3 with h3
  rcases Nat.lt_trichotomy (pos (rowsA t o)[s] (rowsA t o)) s with hlt | heq | hgt
  ·exact absurd h3.symm (List.pairwise_iff_getElem.1 hN _ _ h2 hs hlt)
  ·exact heq
  ·exact absurd h3 (List.pairwise_iff_getElem.1 hN _ _ hs h2 hgt)
 obtain ⟨q,hq,q1,q2,q3,q4⟩:=H.at hm
 rw [hpos] at q2 q3 q4
 exact ⟨q,hq,by unfold stt;rw [q1,hpos],q2,q3,q4⟩
theorem HypOk.out_rng (H:HypOk t o) {q:List Int} (hq:q∈t.Prefixes) {a:Nat} (ha:a<t.Inputs.toNat):0≤((((rowG t o q)[a]?).getD []).headD 0)∧((((rowG t o q)[a]?).getD []).headD 0)≤1048576:=by
 obtain ⟨hval,_,_⟩:=compT_zero H.hz
 obtain ⟨_,_,_,hAs,hsing,_⟩:=valid_asc hval
 obtain ⟨_,_,_,hsc⟩:=valid_has hval
 obtain ⟨y,z,y1,y2,y3⟩:=row_out H.hv (H.row hq) (singles_at hAs hsc hsing a ha)
 rw [y1]
 show 0≤y∧y≤1048576
 have hy:y∈z:=List.mem_of_mem_drop (by rw [y3];simp)
 unfold ansO at y2
 split at y2
 ·injection y2 with y2
  subst y2
  cases hy
 ·obtain ⟨tr,htr,rfl⟩:=Option.map_eq_some_iff.1 y2
  exact (H.hv.prop tr (List.mem_of_find?_eq_some htr)).1.2.2 y (List.mem_of_mem_take hy)
theorem HypOk.row_valid (H:HypOk t o) {s:Nat} (hs:s<(rowsA t o).length):R06_row (hypT t o).M (↑s:Int)=some 0:=by
 have hn:=H.ht.n
 have hn1:1≤t.Inputs:=(valid_asc (compT_zero H.hz).1).1
 obtain ⟨q,hq,_,q2,q3,_⟩:=H.state hs
 have hl1:(nextT t o q).length=t.Inputs.toNat:=by simp [nextT]
 have hl2:(outT t o q).length=t.Inputs.toNat:=by simp [outT]
 have hI:(hypT t o).M.Inputs=t.Inputs:=rfl
 have hnum:=H.num
 unfold R06_row
 rw [hI,idx_at rfl q2,decide_eq_false (by omega),cond_false,idx_at rfl q3,decide_eq_false (by omega),obind,cond_false]
 have key:=iter_eq (step:=fun a=>R06_row.s2 (hypT t o).M (↑s:Int) a) (r:=.inl ()) (fun a=>a≤t.Inputs.toNat) (fun a=>t.Inputs.toNat-a) (fun a g1=>by
  simp only [R06_row.s2]
  rw [hI]
  by_cases g2:a<t.Inputs.toNat
  ·left
   have hlt:stt t o (q++[(↑a:Int)])<(rowsA t o).length:=pos_lt (H.closed hq g2)
   obtain ⟨o1,o2⟩:=H.out_rng hq g2
   refine ⟨a+1,?_,by omega,by omega⟩
   rw [decide_eq_true (by omega),cond_true,idx_at rfl q2,idxn_at (nextT_at g2),decide_eq_false (by omega),cond_false,idx_at rfl q2,idxn_at (nextT_at g2),H.nlen.1,decide_eq_false (by omega),cond_false,idx_at rfl q3,idxn_at (outT_at g2),decide_eq_false (by omega),cond_false,idx_at rfl q3,idxn_at (outT_at g2),decide_eq_false (by omega),obind,cond_false,chk_pos (by unfold inR;omega)]
  ·right
   have e:a=t.Inputs.toNat:=by omega
   subst e
   rw [decide_eq_false (by omega),cond_false]) (n:=fuel) (s:=0) (Nat.zero_le _) (by have:=fuel_big;omega)
 rw [key,obind]
 rfl
theorem HypOk.valid6 (H:HypOk t o):R06_Valid (hypT t o).M=some 0:=by
 have hn:=H.ht.n
 have hn1:1≤t.Inputs:=(valid_asc (compT_zero H.hz).1).1
 have hI:(hypT t o).M.Inputs=t.Inputs:=rfl
 have hS:(hypT t o).M.Start=0:=rfl
 obtain ⟨l1,l2,l3⟩:=H.nlen
 obtain ⟨_,n1,n2⟩:=H.num
 unfold R06_Valid
 rw [hI,hS,l1,l2,decide_eq_false (by omega),cond_false,decide_eq_false (by omega),obind,cond_false,decide_eq_false (by omega),cond_false,decide_eq_false (by omega),cond_false,decide_eq_false (by omega),cond_false,decide_eq_false (by omega),obind,cond_false,decide_eq_false (by omega),cond_false]
 have key:=iter_scan (step:=fun s=>R06_Valid.s2 (hypT t o).M s) (l:=(hypT t o).M.Next) (fun _ _=>(none:Option Int)) (fun i x hx=>by
  have hi:=(List.getElem?_eq_some_iff.1 hx).1
  simp only [R06_Valid.s2]
  rw [dec_lt hx,cond_true,H.row_valid (by omega),obind]
  rfl) (by
  simp only [R06_Valid.s2]
  rw [dec_end]
  rfl) (by omega)
 rw [key,obind,scan_none.2 fun i x _=>rfl]
 rfl
end
end Go.Proofs.YtedabpfahmealaaGreatDoor.Sym

/-
 Machines: validity and runs. Plain laws.
-/
namespace Go.Proofs.YtedabpfahmealaaGreatDoor.Sym
set_option maxRecDepth 100000
structure MacOk (m:T_api_Mealy):Prop where
 i1:1≤m.Inputs
 i2:m.Inputs≤64
 n1:0<m.Next.length
 n2:m.Next.length≤128
 st:0≤m.Start∧m.Start<(↑m.Next.length:Int)
 ol:m.Out.length=m.Next.length
 row:∀ s,s<m.Next.length→∃ x y,m.Next[s]?=some x∧m.Out[s]?=some y∧(↑x.length:Int)=m.Inputs∧(↑y.length:Int)=m.Inputs∧(∀ u∈x,0≤u∧u<(↑m.Next.length:Int))∧∀ v∈y,0≤v∧v≤1048576
def nx (m:T_api_Mealy) (s a:Nat):Nat:=((((m.Next[s]?).getD [])[a]?).getD 0).toNat
def ot (m:T_api_Mealy) (s a:Nat):Int:=(((m.Out[s]?).getD [])[a]?).getD 0
section
variable {m:T_api_Mealy}
theorem MacOk.at (H:MacOk m) {s a:Nat} (hs:s<m.Next.length) (ha:a<m.Inputs.toNat):nx m s a<m.Next.length∧0≤ot m s a∧ot m s a≤1048576∧∃ x y,m.Next[s]?=some x∧m.Out[s]?=some y∧x[a]?=some (↑(nx m s a):Int)∧y[a]?=some (ot m s a):=by
 obtain ⟨x,y,h1,h2,h3,h4,h5,h6⟩:=H.row s hs
 have hx:=get_at (l:=x) (i:=a) (by omega)
 have hy:=get_at (l:=y) (i:=a) (by omega)
 have e1:nx m s a=(x[a]'(by omega)).toNat:=by
  unfold nx
  rw [h1,Option.getD_some,hx,Option.getD_some]
 have e2:ot m s a=y[a]'(by omega):=by
  unfold ot
  rw [h2,Option.getD_some,hy,Option.getD_some]
 have g1:=h5 _ (List.getElem_mem (by omega:a<x.length))
 have g2:=h6 _ (List.getElem_mem (by omega:a<y.length))
 refine ⟨by rw [e1];omega,by rw [e2];exact g2.1,by rw [e2];exact g2.2,x,y,h1,h2,?_,by rw [e2];exact hy⟩
 rw [hx,e1]
 congr 1
 omega
def outs (m:T_api_Mealy):Nat→List Int→List Int
 | _,[]=>[]
 | s,a::w=>ot m s a.toNat::outs m (nx m s a.toNat) w
def dest (m:T_api_Mealy):Nat→List Int→Nat
 | s,[]=>s
 | s,a::w=>dest m (nx m s a.toNat) w
def WOk (n:Int) (w:List Int):Prop:=∀ a∈w,0≤a∧a<n
theorem outs_append:∀ (w v:List Int) (s:Nat),outs m s (w++v)=outs m s w++outs m (dest m s w) v
 | [],_,_=>rfl
 | a::w,v,s=>by
  show ot m s a.toNat::outs m (nx m s a.toNat) (w++v)=_
  rw [outs_append w v]
  rfl
theorem dest_append:∀ (w v:List Int) (s:Nat),dest m s (w++v)=dest m (dest m s w) v
 | [],_,_=>rfl
 | _::w,v,_=>dest_append w v _
theorem WOk.tail {n:Int} {a:Int} {w:List Int} (h:WOk n (a::w)):WOk n w:=fun x hx=>h x (List.mem_cons_of_mem _ hx)
theorem WOk.head {n:Int} {a:Int} {w:List Int} (h:WOk n (a::w)):0≤a∧a<n:=h a (by simp)
theorem WOk.take {n:Int} {w:List Int} (h:WOk n w) (k:Nat):WOk n (w.take k):=fun x hx=>h x (List.mem_of_mem_take hx)
theorem WOk.append {n:Int} {w v:List Int} (h:WOk n w) (g:WOk n v):WOk n (w++v):=fun x hx=>(List.mem_append.1 hx).elim (h x) (g x)
theorem MacOk.dest (H:MacOk m):∀ {w:List Int} {s:Nat},WOk m.Inputs w→s<m.Next.length→dest m s w<m.Next.length
 | [],_,_,hs=>hs
 | a::w,s,hw,hs=>by
  have:=hw.head
  exact H.dest (w:=w) hw.tail (H.at hs (a:=a.toNat) (by omega)).1
def RowRng (n:Nat) (u v:Int):Prop:=(0≤u∧u<(↑n:Int))∧0≤v∧v≤1048576
theorem R06_row_tot (h1:m.Inputs≤64) {s:Nat} (hs:s<m.Next.length) (ho:m.Out.length=m.Next.length):∃ e,R06_row m (↑s:Int)=some e∧(e=0→∃ x y,m.Next[s]?=some x∧m.Out[s]?=some y∧(↑x.length:Int)=m.Inputs∧(↑y.length:Int)=m.Inputs∧(∀ u∈x,0≤u∧u<(↑m.Next.length:Int))∧∀ v∈y,0≤v∧v≤1048576):=by
 obtain ⟨x,hx⟩:∃ x,m.Next[s]?=some x:=⟨_,get_at hs⟩
 obtain ⟨y,hy⟩:∃ y,m.Out[s]?=some y:=⟨_,get_at (l:=m.Out) (i:=s) (by omega)⟩
 unfold R06_row
 rw [idx_at rfl hx]
 by_cases g1:(↑x.length:Int)=m.Inputs
 ·by_cases g2:(↑y.length:Int)=m.Inputs
  ·rw [decide_eq_false (fun h=>h g1),cond_false,idx_at rfl hy,decide_eq_false (fun h=>h g2),obind,cond_false]
   obtain ⟨r,hr,hq⟩:=iter_post (step:=fun a=>R06_row.s2 m (↑s:Int) a) (fun a=>a≤x.length∧∀ b u v,b<a→x[b]?=some u→y[b]?=some v→RowRng m.Next.length u v) (fun a=>x.length-a) (fun r=>r=.inr 2∨(r=.inl ()∧∀ b u v,b<x.length→x[b]?=some u→y[b]?=some v→RowRng m.Next.length u v)) (fun a ⟨q1,q2⟩=>by
    simp only [R06_row.s2]
    by_cases q3:a<x.length
    ·obtain ⟨u,ha⟩:∃ u,x[a]?=some u:=⟨_,get_at q3⟩
     obtain ⟨v,hb⟩:∃ v,y[a]?=some v:=⟨_,get_at (l:=y) (i:=a) (by omega)⟩
     rw [decide_eq_true (by omega),cond_true,idx_at rfl hx,idxn_at ha]
     by_cases z1:u<0
     ·right
      exact ⟨.inr 2,by rw [decide_eq_true z1];rfl,Or.inl rfl⟩
     rw [decide_eq_false z1,cond_false,idx_at rfl hx,idxn_at ha]
     by_cases z2:(↑m.Next.length:Int)≤u
     ·right
      exact ⟨.inr 2,by rw [decide_eq_true z2];rfl,Or.inl rfl⟩
     rw [decide_eq_false z2,cond_false,idx_at rfl hy,idxn_at hb]
     by_cases z3:v<0
     ·right
      exact ⟨.inr 2,by rw [decide_eq_true z3];rfl,Or.inl rfl⟩
     rw [decide_eq_false z3,cond_false,idx_at rfl hy,idxn_at hb]
     by_cases z4:1048576<v
     ·right
      exact ⟨.inr 2,by rw [decide_eq_true z4];rfl,Or.inl rfl⟩
     left
     refine ⟨a+1,by rw [decide_eq_false z4,obind,cond_false,chk_pos (by unfold inR;omega)],⟨q3,fun b u' v' hb' hu hv=>?_⟩,by omega⟩
     rcases Nat.lt_or_ge b a with h | h
     ·exact q2 b u' v' h hu hv
     ·have e:b=a:=by omega
      subst e
      rw [ha] at hu
      rw [hb] at hv
      injection hu with hu
      injection hv with hv
      subst hu
      subst hv
      exact ⟨⟨by omega,by omega⟩,by omega,by omega⟩
    ·right
     have e:a=x.length:=by omega
     subst e
     exact ⟨.inl (),by rw [decide_eq_false (by omega),cond_false],Or.inr ⟨rfl,q2⟩⟩) fuel 0 ⟨Nat.zero_le _,fun b _ _ h=>absurd h (Nat.not_lt_zero _)⟩ (by have:=fuel_big;omega)
   rw [hr,obind]
   rcases hq with rfl | ⟨rfl,hq⟩
   ·exact ⟨2,rfl,fun h=>by cases h⟩
   ·refine ⟨0,rfl,fun _=>⟨x,y,hx,hy,g1,g2,fun u hu=>?_,fun v hv=>?_⟩⟩
    ·obtain ⟨b,hb,rfl⟩:=List.mem_iff_getElem.1 hu
     exact (hq b _ _ hb (get_at hb) (get_at (l:=y) (by omega))).1
    ·obtain ⟨b,hb,rfl⟩:=List.mem_iff_getElem.1 hv
     exact (hq b _ _ (by omega) (get_at (l:=x) (by omega)) (get_at hb)).2
  ·exact ⟨1,by rw [decide_eq_false (fun h=>h g1),cond_false,idx_at rfl hy,decide_eq_true g2];rfl,fun h=>by cases h⟩
 ·exact ⟨1,by rw [decide_eq_true g1];rfl,fun h=>by cases h⟩
theorem R06_Valid_tot (m:T_api_Mealy):∃ e,R06_Valid m=some e∧(e=0→MacOk m):=by
 unfold R06_Valid
 by_cases c1:m.Inputs<1
 ·exact ⟨2,by rw [decide_eq_true c1];rfl,fun h=>by cases h⟩
 rw [decide_eq_false c1,cond_false]
 by_cases c2:64<m.Inputs
 ·exact ⟨2,by rw [decide_eq_true c2];rfl,fun h=>by cases h⟩
 rw [decide_eq_false c2,obind,cond_false]
 by_cases c3:(↑m.Next.length:Int)=0
 ·exact ⟨19,by rw [decide_eq_true c3];rfl,fun h=>by cases h⟩
 rw [decide_eq_false c3,cond_false]
 by_cases c4:128<(↑m.Next.length:Int)
 ·exact ⟨11,by rw [decide_eq_true c4];rfl,fun h=>by cases h⟩
 rw [decide_eq_false c4,cond_false]
 by_cases c5:m.Start<0
 ·exact ⟨2,by rw [decide_eq_true c5];rfl,fun h=>by cases h⟩
 rw [decide_eq_false c5,cond_false]
 by_cases c6:(↑m.Next.length:Int)≤m.Start
 ·exact ⟨2,by rw [decide_eq_true c6];rfl,fun h=>by cases h⟩
 rw [decide_eq_false c6,obind,cond_false]
 by_cases c7:(↑m.Out.length:Int)=(↑m.Next.length:Int)
 ·rw [decide_eq_false (fun h=>h c7),cond_false]
  have ho:m.Out.length=m.Next.length:=by omega
  obtain ⟨r,hr,hq⟩:=iter_post (step:=fun s=>R06_Valid.s2 m s) (fun a=>a≤m.Next.length∧∀ s,s<a→∃ x y,m.Next[s]?=some x∧m.Out[s]?=some y∧(↑x.length:Int)=m.Inputs∧(↑y.length:Int)=m.Inputs∧(∀ u∈x,0≤u∧u<(↑m.Next.length:Int))∧∀ v∈y,0≤v∧v≤1048576) (fun a=>m.Next.length-a) (fun r=>(∃ e,r=.inr e∧e≠0)∨(r=.inl ()∧∀ s,s<m.Next.length→∃ x y,m.Next[s]?=some x∧m.Out[s]?=some y∧(↑x.length:Int)=m.Inputs∧(↑y.length:Int)=m.Inputs∧(∀ u∈x,0≤u∧u<(↑m.Next.length:Int))∧∀ v∈y,0≤v∧v≤1048576)) (fun a ⟨q1,q2⟩=>by
   simp only [R06_Valid.s2]
   by_cases q3:a<m.Next.length
   ·obtain ⟨e,he,hz⟩:=R06_row_tot (m:=m) (by omega) q3 ho
    rw [decide_eq_true (by omega),cond_true,he,obind]
    by_cases z:e=0
    ·left
     refine ⟨a+1,by rw [decide_eq_false (fun h=>h z),cond_false],⟨q3,fun s hs=>?_⟩,by omega⟩
     rcases Nat.lt_or_ge s a with h | h
     ·exact q2 s h
     ·have e2:s=a:=by omega
      subst e2
      exact hz z
    ·right
     exact ⟨.inr e,by rw [decide_eq_true z,cond_true],Or.inl ⟨e,rfl,z⟩⟩
   ·right
    have e:a=m.Next.length:=by omega
    subst e
    exact ⟨.inl (),by rw [decide_eq_false (by omega),cond_false],Or.inr ⟨rfl,q2⟩⟩) fuel 0 ⟨Nat.zero_le _,fun s h=>absurd h (Nat.not_lt_zero _)⟩ (by have:=fuel_big;omega)
  rw [hr,obind]
  rcases hq with ⟨e,rfl,hz⟩ | ⟨rfl,hq⟩
  ·exact ⟨e,rfl,fun h=>absurd h hz⟩
  ·exact ⟨0,rfl,fun _=>⟨by omega,by omega,by omega,by omega,⟨by omega,by omega⟩,ho,hq⟩⟩
 ·exact ⟨1,by rw [decide_eq_true c7];rfl,fun h=>by cases h⟩
theorem macOk_of (h:R06_Valid m=some 0):MacOk m:=by
 obtain ⟨e,he,hz⟩:=R06_Valid_tot m
 rw [h] at he
 injection he with he
 exact hz he.symm
end
end Go.Proofs.YtedabpfahmealaaGreatDoor.Sym

/-
 Machines: equivalence of states, and its classes. Plain laws.
-/
namespace Go.Proofs.YtedabpfahmealaaGreatDoor.Sym
set_option maxRecDepth 100000
def E (m:T_api_Mealy):Nat→Nat→Nat→Prop
 | 0,_,_=>True
 | k+1,s,t=>E m k s t∧∀ a,a<m.Inputs.toNat→ot m s a=ot m t a∧E m k (nx m s a) (nx m t a)
section
variable {m:T_api_Mealy}
theorem E_refl:∀ (k s:Nat),E m k s s
 | 0,_=>trivial
 | k+1,s=>⟨E_refl k s,fun _ _=>⟨rfl,E_refl k _⟩⟩
theorem E_symm:∀ {k s t:Nat},E m k s t→E m k t s
 | 0,_,_,_=>trivial
 | _+1,_,_,h=>⟨E_symm h.1,fun a ha=>⟨(h.2 a ha).1.symm,E_symm (h.2 a ha).2⟩⟩
theorem E_trans:∀ {k s t u:Nat},E m k s t→E m k t u→E m k s u
 | 0,_,_,_,_,_=>trivial
 | _+1,_,_,_,h,g=>⟨E_trans h.1 g.1,fun a ha=>⟨(h.2 a ha).1.trans (g.2 a ha).1,E_trans (h.2 a ha).2 (g.2 a ha).2⟩⟩
theorem E_mono {k j s t:Nat} (hk:k≤j) (h:E m j s t):E m k s t:=by
 induction j with
 | zero =>
  have e:k=0:=by omega
  subst e
  exact h
 | succ j ih =>
  rcases Nat.lt_or_ge k (j+1) with h1 | h1
  ·exact ih (by omega) h.1
  ·have e:k=j+1:=by omega
   subst e
   exact h
theorem E_outs:∀ {w:List Int} {s t:Nat},E m w.length s t→WOk m.Inputs w→outs m s w=outs m t w
 | [],_,_,_,_=>rfl
 | a::w,s,t,h,hw=>by
  have ha:=hw.head
  obtain ⟨h1,h2⟩:=h.2 a.toNat (by omega)
  show ot m s a.toNat::outs m _ w=ot m t a.toNat::outs m _ w
  rw [h1,E_outs (w:=w) h2 hw.tail]
structure ClsOk (m:T_api_Mealy) (k:Nat) (c:List Int):Prop where
 len:c.length=m.Next.length
 rng:∀ s,s<m.Next.length→∃ x:Nat,c[s]?=some (↑x:Int)∧x<m.Next.length
 cls:∀ s t,s<m.Next.length→t<m.Next.length→(c[s]?=c[t]?↔E m k s t)
def Alike (m:T_api_Mealy) (c:List Int) (s t a:Nat):Prop:=c[s]?=c[t]?∧∀ b,b<a→ot m s b=ot m t b∧c[nx m s b]?=c[nx m t b]?
theorem alike_iff (H:MacOk m) {k:Nat} {c:List Int} (C:ClsOk m k c) {s t:Nat} (hs:s<m.Next.length) (ht:t<m.Next.length):Alike m c s t m.Inputs.toNat↔E m (k+1) s t:=by
 constructor
 ·rintro ⟨h1,h2⟩
  exact ⟨(C.cls s t hs ht).1 h1,fun a ha=>⟨(h2 a ha).1,(C.cls _ _ (H.at hs ha).1 (H.at ht ha).1).1 (h2 a ha).2⟩⟩
 ·rintro ⟨h1,h2⟩
  exact ⟨(C.cls s t hs ht).2 h1,fun a ha=>⟨(h2 a ha).1,(C.cls _ _ (H.at hs ha).1 (H.at ht ha).1).2 (h2 a ha).2⟩⟩
theorem finer_same (H:MacOk m) {k:Nat} {c:List Int} (C:ClsOk m k c) {s t:Nat} (hs:s<m.Next.length) (ht:t<m.Next.length) {b0:Bool} (hb:b0=true↔c[s]?=c[t]?) :
  ∃ r:Bool,iter (fun (q:Bool×Nat)=>R08_finer.s89 m c s (↑t:Int) q.1 q.2) fuel (b0,0)=some r∧(r=true↔E m (k+1) s t):=by
 have hI:=H.i2
 obtain ⟨r,hr,hq⟩:=iter_post (step:=fun (q:Bool×Nat)=>R08_finer.s89 m c s (↑t:Int) q.1 q.2) (fun q=>q.2≤m.Inputs.toNat∧(q.1=true↔Alike m c s t q.2)) (fun q=>m.Inputs.toNat-q.2) (fun r=>r=true↔Alike m c s t m.Inputs.toNat) (fun q ⟨g1,g2⟩=>by
  obtain ⟨b,a⟩:=q
  simp only at g1 g2
  simp only [R08_finer.s89]
  by_cases g3:a<m.Inputs.toNat
  ·rw [decide_eq_true (by omega),cond_true,obind]
   cases b with
   | false =>
    right
    rw [cond_false]
    exact ⟨false,rfl,⟨fun h=>(by cases h),fun h=>absurd (g2.2 ⟨h.1,fun b hb=>h.2 b (by omega)⟩) (by simp)⟩⟩
   | true =>
    left
    obtain ⟨s1,_,_,x,y,e1,e2,e3,e4⟩:=H.at hs g3
    obtain ⟨t1,_,_,x',y',f1,f2,f3,f4⟩:=H.at ht g3
    obtain ⟨u,u1,u2⟩:=C.rng _ s1
    obtain ⟨v,v1,v2⟩:=C.rng _ t1
    have g2:=g2.1 rfl
    rw [cond_true,idxn_at e2,idxn_at e4,idx_at rfl f2,idxn_at f4]
    by_cases g4:ot m s a=ot m t a
    ·refine ⟨(decide ((↑u:Int)=(↑v:Int)),a+1),?_,⟨g3,?_⟩,by simp only;omega⟩
     ·rw [decide_eq_true g4,cond_true,idxn_at e1,idxn_at e3,idx_at rfl u1,idx_at rfl f1,idxn_at f3,idx_at rfl v1,chk_pos (by unfold inR;omega)]
     ·simp only [decide_eq_true_eq]
      constructor
      ·intro h
       refine ⟨g2.1,fun b hb=>?_⟩
       rcases Nat.lt_or_ge b a with h1 | h1
       ·exact g2.2 b h1
       ·have e:b=a:=by omega
        subst e
        exact ⟨g4,by rw [u1,v1,h]⟩
      ·intro h
       have h1:=(h.2 a (by omega)).2
       rw [u1,v1] at h1
       injection h1
    ·refine ⟨(false,a+1),?_,⟨g3,?_⟩,by simp only;omega⟩
     ·rw [decide_eq_false g4,cond_false,chk_pos (by unfold inR;omega)]
     ·exact ⟨fun h=>(by cases h),fun h=>absurd (h.2 a (by omega)).1 g4⟩
  ·right
   have e:a=m.Inputs.toNat:=by omega
   subst e
   exact ⟨b,by rw [decide_eq_false (by omega),cond_false,obind,cond_false],g2⟩) fuel (b0,0) ⟨Nat.zero_le _,by rw [hb];exact ⟨fun h=>⟨h,fun b hb=>absurd hb (Nat.not_lt_zero _)⟩,fun h=>h.1⟩⟩ (by have:=fuel_big;simp only;omega)
 exact ⟨r,hr,hq.trans (alike_iff H C hs ht)⟩
theorem finer_found (H:MacOk m) {k:Nat} {c:List Int} (C:ClsOk m k c) {s:Nat} (hs:s<m.Next.length) {y:List Int} (hy:y.length=s) :
  ∃ r:Int,iter (fun (q:Int×Int)=>R08_finer.s90 m c y s q.1 q.2) fuel ((-1:Int),(↑s:Int)-1)=some r∧((r=-1∧∀ t,t<s→¬ E m (k+1) s t)∨∃ t,t<s∧E m (k+1) s t∧y[t]?=some r):=by
 have hn:=H.n2
 obtain ⟨r,hr,hq⟩:=iter_post (step:=fun (q:Int×Int)=>R08_finer.s90 m c y s q.1 q.2) (fun q=>-1≤q.2∧q.2<(↑s:Int)∧((q.1=-1∧∀ t:Nat,q.2<(↑t:Int)→t<s→¬ E m (k+1) s t)∨∃ t,t<s∧E m (k+1) s t∧y[t]?=some q.1)) (fun q=>(q.2+1).toNat) (fun r=>(r=-1∧∀ t,t<s→¬ E m (k+1) s t)∨∃ t,t<s∧E m (k+1) s t∧y[t]?=some r) (fun q ⟨g1,g2,g3⟩=>by
  obtain ⟨f,t⟩:=q
  simp only at g1 g2 g3
  simp only [R08_finer.s90]
  by_cases g4:0≤t
  ·left
   obtain ⟨t,rfl⟩:∃ t':Nat,t=(↑t':Int):=⟨t.toNat,by omega⟩
   have hts:t<s:=by omega
   have ht:t<m.Next.length:=by omega
   obtain ⟨u,u1,u2⟩:=C.rng s hs
   obtain ⟨v,v1,v2⟩:=C.rng t ht
   obtain ⟨b,b1,b2⟩:=finer_same H C hs ht (b0:=decide ((↑u:Int)=(↑v:Int))) (by
    rw [u1,v1,decide_eq_true_eq]
    exact ⟨fun h=>by rw [h],fun h=>by injection h⟩)
   have hyt:=get_at (l:=y) (i:=t) (by omega)
   rw [decide_eq_true g4,cond_true,idxn_at u1,idx_at rfl v1,b1,obind]
   cases b with
   | true =>
    refine ⟨(y[t]'(by omega),(↑t:Int)-1),by rw [cond_true,idx_at rfl hyt,chk_pos (by unfold inR;omega)],⟨by simp only;omega,by simp only;omega,Or.inr ⟨t,hts,b2.1 rfl,hyt⟩⟩,by simp only;omega⟩
   | false =>
    refine ⟨(f,(↑t:Int)-1),by rw [cond_false,chk_pos (by unfold inR;omega)],⟨by simp only;omega,by simp only;omega,?_⟩,by simp only;omega⟩
    rcases g3 with ⟨h1,h2⟩ | h
    ·refine Or.inl ⟨h1,fun t' h3 h4=>?_⟩
     simp only at h3
     by_cases e:t'=t
     ·subst e
      exact fun h=>absurd (b2.2 h) (by simp)
     ·exact h2 t' (by omega) h4
    ·exact Or.inr h
  ·right
   have e:t=-1:=by omega
   subst e
   refine ⟨f,by rw [decide_eq_false (by omega),cond_false],?_⟩
   rcases g3 with ⟨h1,h2⟩ | h
   ·exact Or.inl ⟨h1,fun t' h4=>h2 t' (by omega) h4⟩
   ·exact Or.inr h) fuel ((-1:Int),(↑s:Int)-1) ⟨by simp only;omega,by simp only;omega,Or.inl ⟨rfl,fun t h1 h2=>by simp only at h1;omega⟩⟩ (by have:=fuel_big;simp only;omega)
 exact ⟨r,hr,hq⟩
structure FinOk (m:T_api_Mealy) (k:Nat) (y:List Int) (n s:Nat):Prop where
 ls:s≤m.Next.length
 len:y.length=s
 cnt:n≤s
 rng:∀ i,i<s→∃ x:Nat,y[i]?=some (↑x:Int)∧x<n
 cls:∀ i j,i<s→j<s→(y[i]?=y[j]?↔E m k i j)
theorem R08_finer_eq (H:MacOk m) {k:Nat} {c:List Int} (C:ClsOk m k c):∃ c',R08_finer m c=some c'∧ClsOk m (k+1) c':=by
 have hn:=H.n2
 unfold R08_finer
 obtain ⟨r,hr,n,hq⟩:=iter_post (step:=fun (q:List Int×Nat×Nat)=>R08_finer.s92 m c q.1 q.2.1 q.2.2) (fun q=>FinOk m (k+1) q.1 q.2.1 q.2.2) (fun q=>m.Next.length-q.2.2) (fun r=>∃ n,FinOk m (k+1) r n m.Next.length) (fun q Q=>by
  obtain ⟨y,n,s⟩:=q
  simp only at Q
  have hc:=Q.cnt
  have hl:=Q.len
  have hls:=Q.ls
  simp only [R08_finer.s92]
  rw [C.len]
  by_cases g1:s<m.Next.length
  ·left
   obtain ⟨f,f1,f2⟩:=finer_found H C g1 Q.len
   rw [decide_eq_true (by omega),cond_true,f1,obind]
   rcases f2 with ⟨rfl,f2⟩ | ⟨t,ht,hE,f2⟩
   ·-- a class of its own
    rw [decide_eq_true (by omega),cond_true,chk_pos (by unfold inR;omega),obind]
    refine ⟨(y++[(↑n:Int)],n+1,s+1),by simp only [R08_finer.k91];rw [chk_pos (by unfold capOk;omega)],(show FinOk m (k+1) (y++[(↑n:Int)]) (n+1) (s+1) from ⟨g1,by simp [Q.len],by omega,fun i hi=>?_,fun i j hi hj=>?_⟩),by simp only;omega⟩
    ·rcases Nat.lt_or_ge i s with h | h
     ·obtain ⟨x,x1,x2⟩:=Q.rng i h
      exact ⟨x,by rw [List.getElem?_append_left (by omega),x1],by omega⟩
     ·have e:i=y.length:=by omega
      subst e
      exact ⟨n,by simp,by omega⟩
    ·have old:∀ i,i<s→(y++[(↑n:Int)])[i]?=y[i]?:=fun i hi=>List.getElem?_append_left (by omega)
     have new:(y++[(↑n:Int)])[s]?=some (↑n:Int):=by rw [List.getElem?_append_right (by omega),hl,Nat.sub_self];rfl
     have ne:∀ i,i<s→y[i]?≠some (↑n:Int):=fun i hi h=>by
      obtain ⟨x,x1,x2⟩:=Q.rng i hi
      rw [x1] at h
      injection h with h
      omega
     rcases Nat.lt_or_ge i s with h | h<;>rcases Nat.lt_or_ge j s with h' | h'
     ·rw [old i h,old j h']
      exact Q.cls i j h h'
     ·have e:j=s:=by omega
      subst e
      rw [old i h,new]
      exact ⟨fun h2=>absurd h2 (ne i h),fun h2=>absurd (E_symm h2) (f2 i h)⟩
     ·have e:i=s:=by omega
      subst e
      rw [old j h',new]
      exact ⟨fun h2=>absurd h2.symm (ne j h'),fun h2=>absurd h2 (f2 j h')⟩
     ·have e:i=s:=by omega
      have e':j=s:=by omega
      subst e
      subst e'
      exact ⟨fun _=>E_refl _ _,fun _=>rfl⟩
   ·obtain ⟨x,x1,x2⟩:=Q.rng t ht
    rw [f2] at x1
    injection x1 with x1
    subst x1
    rw [decide_eq_false (by omega),cond_false,obind]
    refine ⟨(y++[(↑x:Int)],n,s+1),by simp only [R08_finer.k91];rw [chk_pos (by unfold capOk;omega)],(show FinOk m (k+1) (y++[(↑x:Int)]) n (s+1) from ⟨g1,by simp [Q.len],by omega,fun i hi=>?_,fun i j hi hj=>?_⟩),by simp only;omega⟩
    ·rcases Nat.lt_or_ge i s with h | h
     ·obtain ⟨z,z1,z2⟩:=Q.rng i h
      exact ⟨z,by rw [List.getElem?_append_left (by omega),z1],z2⟩
     ·have e:i=y.length:=by omega
      subst e
      exact ⟨x,by simp,x2⟩
    ·have old:∀ i,i<s→(y++[(↑x:Int)])[i]?=y[i]?:=fun i hi=>List.getElem?_append_left (by omega)
     have new:(y++[(↑x:Int)])[s]?=y[t]?:=by rw [List.getElem?_append_right (by omega),hl,Nat.sub_self,f2];rfl
     rcases Nat.lt_or_ge i s with h | h<;>rcases Nat.lt_or_ge j s with h' | h'
     ·rw [old i h,old j h']
      exact Q.cls i j h h'
     ·have e:j=s:=by omega
      subst e
      rw [old i h,new,Q.cls i t h ht]
      exact ⟨fun h2=>E_trans h2 (E_symm hE),fun h2=>E_trans h2 hE⟩
     ·have e:i=s:=by omega
      subst e
      rw [old j h',new,Q.cls t j ht h']
      exact ⟨fun h2=>E_trans hE h2,fun h2=>E_trans (E_symm hE) h2⟩
     ·have e:i=s:=by omega
      have e':j=s:=by omega
      subst e
      subst e'
      exact ⟨fun _=>E_refl _ _,fun _=>rfl⟩
  ·right
   have e:s=m.Next.length:=by omega
   subst e
   exact ⟨y,by rw [decide_eq_false (by omega),cond_false],n,Q⟩) fuel ([],0,0) ⟨Nat.zero_le _,rfl,Nat.le_refl _,fun i h=>absurd h (Nat.not_lt_zero _),fun i j h=>absurd h (Nat.not_lt_zero _)⟩ (by have:=fuel_big;simp only;omega)
 refine ⟨r,by rw [hr,obind],hq.len,fun s hs=>?_,fun s t hs ht=>hq.cls s t hs ht⟩
 obtain ⟨x,x1,x2⟩:=hq.rng s hs
 have:=hq.cnt
 exact ⟨x,x1,by omega⟩
theorem R08_Partition_eq (hv:R06_Valid m=some 0) (k:Nat):∃ c,R08_Partition m (↑k:Int)=some (c,0)∧ClsOk m (min k m.Next.length) c:=by
 have H:=macOk_of hv
 have hn:=H.n2
 unfold R08_Partition
 rw [hv,obind,decide_eq_false (by simp),cond_false,chk_pos ⟨by omega,by omega,by unfold capOk;omega⟩]
 obtain ⟨r,hr,hq⟩:=iter_post (step:=fun (q:List Int×Nat)=>R08_Partition.s2 m (↑k:Int) q.1 q.2) (fun q=>q.2≤min k m.Next.length∧ClsOk m q.2 q.1) (fun q=>min k m.Next.length-q.2) (fun r=>ClsOk m (min k m.Next.length) r) (fun q ⟨g1,g2⟩=>by
  obtain ⟨y,i⟩:=q
  simp only at g1 g2
  simp only [R08_Partition.s2]
  by_cases g3:i<min k m.Next.length
  ·left
   obtain ⟨c',e1,e2⟩:=R08_finer_eq H g2
   refine ⟨(c',i+1),?_,⟨g3,e2⟩,by simp only;omega⟩
   rw [decide_eq_true (by omega),cond_true,obind,decide_eq_true (by omega),cond_true,e1,obind,chk_pos (by unfold inR;omega)]
  ·right
   have e:i=min k m.Next.length:=by omega
   refine ⟨y,?_,e ▸ g2⟩
   by_cases h:i<k
   ·rw [decide_eq_true (by omega),cond_true,obind,decide_eq_false (by omega),cond_false]
   ·rw [decide_eq_false (by omega),cond_false,obind,cond_false]) fuel ((List.replicate m.Next.length 0),0) ⟨Nat.zero_le _,⟨by simp,fun s hs=>⟨0,by simp [hs],H.n1⟩,fun s t hs ht=>⟨fun _=>trivial,fun _=>by simp [hs,ht]⟩⟩⟩ (by have:=fuel_big;simp only;omega)
 exact ⟨r,by rw [hr,obind],hq⟩
/-! Words of as many symbols as there are states separate all that can be separated. -/
theorem countP_le_eq {α:Type} {p q:α→Bool}:∀ {l:List α},(∀ x∈l,p x=true→q x=true)→l.countP q≤l.countP p→∀ x∈l,q x=true→p x=true
 | [],_,_,x,hx,_=>by cases hx
 | y::l,h,hc,x,hx,hq=>by
  have h1:l.countP p≤l.countP q:=List.countP_mono_left fun x hx=>h x (List.mem_cons_of_mem _ hx)
  rw [List.countP_cons,List.countP_cons] at hc
  have h2:=h y (List.mem_cons_self ..)
  have h3:l.countP q≤l.countP p∧(q y=true→p y=true):=by
   cases e1:q y<;>cases e2:p y<;>simp [e1,e2] at hc h2 ⊢<;>omega
  rcases List.mem_cons.1 hx with rfl | hx
  ·exact h3.2 hq
  ·exact countP_le_eq (fun x hx=>h x (List.mem_cons_of_mem _ hx)) h3.1 x hx hq
def Rep (m:T_api_Mealy) (k s:Nat):Prop:=∀ t,t<s→¬ E m k s t
open Classical in
noncomputable def nreps (m:T_api_Mealy) (k:Nat):Nat:=(List.range m.Next.length).countP fun s=>decide (Rep m k s)
theorem rep_exists (k:Nat):∀ (s:Nat),∃ r,r≤s∧Rep m k r∧E m k s r:=by
 intro s
 induction s using Nat.strongRecOn with
 | ind s ih =>
  by_cases h:Rep m k s
  ·exact ⟨s,Nat.le_refl _,h,E_refl _ _⟩
  ·have ⟨t,h1⟩:=Classical.not_forall.1 h
   obtain ⟨h2,h3⟩:=Classical.not_imp.1 h1
   have h3:=Classical.not_not.1 h3
   obtain ⟨r,r1,r2,r3⟩:=ih t h2
   exact ⟨r,by omega,r2,E_trans h3 r3⟩
def Stab (m:T_api_Mealy) (k:Nat):Prop:=∀ s t,s<m.Next.length→t<m.Next.length→E m k s t→E m (k+1) s t
theorem rep_succ {k s:Nat} (h:Rep m k s):Rep m (k+1) s:=fun t ht hE=>h t ht hE.1
open Classical in
open Classical in
theorem stab_of {k:Nat} (h:nreps m (k+1)≤nreps m k):Stab m k:=by
 intro s t hs ht hE
 unfold nreps at h
 have key:=countP_le_eq (l:=List.range m.Next.length) (fun s _ h=>decide_eq_true (rep_succ (of_decide_eq_true h))) h
 obtain ⟨r,r1,r2,r3⟩:=rep_exists (m:=m) (k+1) s
 obtain ⟨u,u1,u2,u3⟩:=rep_exists (m:=m) (k+1) t
 have r4:Rep m k r:=of_decide_eq_true (key r (List.mem_range.2 (by omega)) (decide_eq_true r2))
 have u4:Rep m k u:=of_decide_eq_true (key u (List.mem_range.2 (by omega)) (decide_eq_true u2))
 have hru:E m k r u:=E_trans (E_symm r3.1) (E_trans hE u3.1)
 have e:r=u:=by
  rcases Nat.lt_trichotomy r u with h1 | h1 | h1
  ·exact absurd (E_symm hru) (u4 r h1)
  ·exact h1
  ·exact absurd hru (r4 u h1)
 subst e
 exact E_trans r3 (E_symm u3)
theorem stab_succ (H:MacOk m) {k:Nat} (h:Stab m k):Stab m (k+1):=fun s t hs ht hE =>
 ⟨hE,fun a ha=>⟨(hE.2 a ha).1,h _ _ (H.at hs ha).1 (H.at ht ha).1 (hE.2 a ha).2⟩⟩
theorem stab_add (H:MacOk m) {k:Nat} (h:Stab m k):∀ j,Stab m (k+j)
 | 0=>h
 | j+1=>stab_succ H (stab_add H h j)
open Classical in
theorem stab_exists (H:MacOk m):∃ k,k<m.Next.length∧Stab m k:=by
 refine Classical.byContradiction fun hno=>?_
 have hall:∀ k,k≤m.Next.length→k+1≤nreps m k:=by
  intro k
  induction k with
  | zero =>
   intro _
   unfold nreps
   have:0<(List.range m.Next.length).countP fun s=>@decide (Rep m 0 s) (Classical.propDecidable _):=List.countP_pos_iff.2 ⟨0,List.mem_range.2 H.n1,decide_eq_true fun t ht=>absurd ht (Nat.not_lt_zero _)⟩
   exact this
  | succ k ih =>
   intro hk
   have h1:=ih (by omega)
   rcases Nat.lt_or_ge (nreps m k) (nreps m (k+1)) with h2 | h2
   ·omega
   ·exact absurd ⟨k,by omega,stab_of h2⟩ hno
 have h1:=hall _ (Nat.le_refl _)
 have h2:nreps m m.Next.length≤(List.range m.Next.length).length:=List.countP_le_length
 rw [List.length_range] at h2
 omega
theorem E_all (H:MacOk m) {s t:Nat} (hs:s<m.Next.length) (ht:t<m.Next.length) (h:E m m.Next.length s t) (j:Nat):E m j s t:=by
 obtain ⟨k,hk,hS⟩:=stab_exists H
 have key:∀ i,E m (k+i) s t:=by
  intro i
  induction i with
  | zero=>exact E_mono (by omega) h
  | succ i ih=>exact stab_add H hS i s t hs ht ih
 exact E_mono (by omega) (key j)
end
end Go.Proofs.YtedabpfahmealaaGreatDoor.Sym

/-
 Machines: the minimal machine, each class by its first state. Plain laws.
-/
namespace Go.Proofs.YtedabpfahmealaaGreatDoor.Sym
set_option maxRecDepth 100000
theorem nodup_le {α:Type} [DecidableEq α]:∀ {l l':List α},l.Nodup→(∀ x∈l,x∈l')→l.length≤l'.length
 | [],_,_,_=>Nat.zero_le _
 | x::l,l',h,hs=>by
  have h1:=List.nodup_cons.1 h
  have hx:=hs x (by simp)
  have ih:=nodup_le (l:=l) (l':=l'.erase x) h1.2 (fun y hy=>(List.mem_erase_of_ne (fun e=>h1.1 (by rw [← e];exact hy))).2 (hs y (List.mem_cons_of_mem _ hy)))
  rw [List.length_erase_of_mem hx] at ih
  have:=List.length_pos_of_mem hx
  simp only [List.length_cons]
  omega
def natI (l:List Nat):List Int:=l.map fun (x:Nat)=>(↑x:Int)
theorem natI_at {l:List Nat} {i u:Nat} (h:l[i]?=some u):(natI l)[i]?=some (↑u:Int):=by
 unfold natI
 rw [List.getElem?_map,h]
 rfl
theorem natI_push (l:List Nat) (t:Nat):natI l++[(↑t:Int)]=natI (l++[t]):=by simp [natI]
theorem natI_len (l:List Nat):(natI l).length=l.length:=by simp [natI]
def Ext (l l':List Nat):Prop:=∀ j u:Nat,l[j]?=some u→l'[j]?=some u
theorem Ext.rfl' {l:List Nat}:Ext l l:=fun _ _ h=>h
theorem Ext.trans {l l' l'':List Nat} (h:Ext l l') (g:Ext l' l''):Ext l l'':=fun j u e=>g j u (h j u e)
theorem Ext.push (l:List Nat) (t:Nat):Ext l (l++[t]):=fun j u h=>by
 have:=(List.getElem?_eq_some_iff.1 h).1
 rw [List.getElem?_append_left this,h]
structure Num (m:T_api_Mealy) (c:List Int) (ord:List Nat) (num:List Int):Prop where
 rng:∀ u∈ord,u<m.Next.length
 start:ord[0]?=some m.Start.toNat
 len:num.length=m.Next.length
 n1:∀ j u x:Nat,ord[j]?=some u→c[u]?=some (↑x:Int)→num[x]?=some (↑j:Int)
 n2:∀ x:Nat,x<m.Next.length→num[x]?=some (-1:Int)∨∃ j u:Nat,num[x]?=some (↑j:Int)∧ord[j]?=some u∧c[u]?=some (↑x:Int)
 reach:∀ j u:Nat,ord[j]?=some u→j=0∨∃ i v a:Nat,i<j∧ord[i]?=some v∧a<m.Inputs.toNat∧u=nx m v a
section
variable {m:T_api_Mealy} {c num:List Int} {ord:List Nat} {k:Nat}
theorem Num.inj (N:Num m c ord num) (C:ClsOk m k c) {i j u v:Nat} (hi:ord[i]?=some u) (hj:ord[j]?=some v) (h:c[u]?=c[v]?):i=j:=by
 obtain ⟨x,x1,_⟩:=C.rng u (N.rng u (List.mem_of_getElem? hi))
 have h1:=N.n1 i u x hi x1
 have h2:=N.n1 j v x hj (by rw [← h,x1])
 rw [h1] at h2
 injection h2 with h2
 omega
theorem Num.nodup (N:Num m c ord num) (C:ClsOk m k c):ord.Nodup:=by
 refine List.pairwise_iff_getElem.2 fun i j hi hj hij h=>?_
 have:=N.inj C (get_at hi) (get_at hj) (by rw [h])
 omega
theorem Num.le (N:Num m c ord num) (C:ClsOk m k c):ord.length≤m.Next.length:=by
 have:=nodup_le (N.nodup C) (l':=List.range m.Next.length) fun x hx=>List.mem_range.2 (N.rng x hx)
 rwa [List.length_range] at this
theorem Num.push (N:Num m c ord num) {i v a t x:Nat} (hi:ord[i]?=some v) (ha:a<m.Inputs.toNat) (ht:t=nx m v a) (htn:t<m.Next.length) (hx:c[t]?=some (↑x:Int)) (hxn:x<m.Next.length) (hn:num[x]?=some (-1:Int)):Num m c (ord++[t]) (num.set x (↑ord.length:Int)) where
 rng:=fun u hu=>by
  rcases List.mem_append.1 hu with h | h
  ·exact N.rng u h
  ·rw [List.mem_singleton.1 h]
   exact htn
 start:=Ext.push ord t 0 _ N.start
 len:=by rw [List.length_set,N.len]
 n1:=fun j u y hj hc=>by
  rcases Nat.lt_or_ge j ord.length with h | h
  ·rw [List.getElem?_append_left h] at hj
   have h1:=N.n1 j u y hj hc
   have hne:x≠y:=fun e=>by
    subst e
    rw [hn] at h1
    injection h1 with h1
    omega
   rw [List.getElem?_set_ne hne]
   exact h1
  ·have h2:=(List.getElem?_eq_some_iff.1 hj).1
   rw [List.length_append,List.length_singleton] at h2
   have e:j=ord.length:=by omega
   subst e
   rw [List.getElem?_append_right (Nat.le_refl _),Nat.sub_self] at hj
   injection hj with hj
   subst hj
   rw [hx] at hc
   injection hc with hc
   have e:x=y:=by omega
   subst e
   rw [List.getElem?_set_self (by rw [N.len];exact hxn)]
 n2:=fun y hy=>by
  by_cases e:x=y
  ·subst e
   exact Or.inr ⟨ord.length,t,by rw [List.getElem?_set_self (by rw [N.len];exact hxn)],by simp,hx⟩
  ·rw [List.getElem?_set_ne e]
   rcases N.n2 y hy with h | ⟨j,u,h1,h2,h3⟩
   ·exact Or.inl h
   ·exact Or.inr ⟨j,u,h1,Ext.push ord t j u h2,h3⟩
 reach:=fun j u hj=>by
  rcases Nat.lt_or_ge j ord.length with h | h
  ·rw [List.getElem?_append_left h] at hj
   rcases N.reach j u hj with h1 | ⟨i',v',a',h1,h2,h3,h4⟩
   ·exact Or.inl h1
   ·exact Or.inr ⟨i',v',a',h1,Ext.push ord t i' v' h2,h3,h4⟩
  ·have h2:=(List.getElem?_eq_some_iff.1 hj).1
   rw [List.length_append,List.length_singleton] at h2
   have e:j=ord.length:=by omega
   subst e
   rw [List.getElem?_append_right (Nat.le_refl _),Nat.sub_self] at hj
   injection hj with hj
   exact Or.inr ⟨i,v,a,(List.getElem?_eq_some_iff.1 hi).1,Ext.push ord t i v hi,ha,by rw [← hj,ht]⟩
structure RowAt (m:T_api_Mealy) (c:List Int) (ord:List Nat) (v:Nat) (row out:List Int) (a:Nat):Prop where
 l1:row.length=a
 l2:out.length=a
 cell:∀ b,b<a→∃ j u:Nat,row[b]?=some (↑j:Int)∧ord[j]?=some u∧c[u]?=c[nx m v b]?∧out[b]?=some (ot m v b)
theorem RowAt.mono {v:Nat} {row out:List Int} {a:Nat} {ord':List Nat} (h:Ext ord ord') (R:RowAt m c ord v row out a):RowAt m c ord' v row out a :=
 ⟨R.l1,R.l2,fun b hb=>by
  obtain ⟨j,u,h1,h2,h3⟩:=R.cell b hb
  exact ⟨j,u,h1,h j u h2,h3⟩⟩
theorem min_number (H:MacOk m) (C:ClsOk m k c) (N:Num m c ord num) {i v a:Nat} (hi:ord[i]?=some v) (ha:a<m.Inputs.toNat) {e:Int} :
  ∃ (ord':List Nat) (num':List Int) (x j u:Nat),(idx (c,e).1 (↑(nx m v a):Int) fun e1474=>idx num e1474 fun e1475=>cond (decide (e1475<0)) (idx (c,e).1 (↑(nx m v a):Int) fun e1477=>idx num e1477 fun e1478=>chk (capOk (List.length (natI ord)+1) 8) (some ((natI ord++[(↑(nx m v a):Int)]),(List.set num e1477.toNat (↑(List.length (natI ord)):Int))))) (some (natI ord,num)):Option (List Int×List Int))=some (natI ord',num')∧Num m c ord' num'∧Ext ord ord'∧c[nx m v a]?=some (↑x:Int)∧num'[x]?=some (↑j:Int)∧ord'[j]?=some u∧c[u]?=some (↑x:Int):=by
 have hn:=H.n2
 have hv:=N.rng v (List.mem_of_getElem? hi)
 have htn:=(H.at hv ha).1
 obtain ⟨x,x1,x2⟩:=C.rng _ htn
 have hle:=N.le C
 rcases N.n2 x x2 with h | ⟨j,u,h1,h2,h3⟩
 ·refine ⟨ord++[nx m v a],num.set x (↑ord.length:Int),x,ord.length,nx m v a,?_,N.push hi ha rfl htn x1 x2 h,Ext.push _ _,x1,by rw [List.getElem?_set_self (by rw [N.len];exact x2)],by simp,x1⟩
  rw [idx_at rfl x1,idx_at rfl h,decide_eq_true (by omega),cond_true,idx_at rfl x1,idx_at rfl h,natI_len,chk_pos (by unfold capOk;omega),natI_push,Int.toNat_natCast]
 ·exact ⟨ord,num,x,j,u,by rw [idx_at rfl x1,idx_at rfl h1,decide_eq_false (by omega),cond_false],N,Ext.rfl',x1,h1,h2,h3⟩
theorem min_row (H:MacOk m) (C:ClsOk m k c) (N:Num m c ord num) {i v:Nat} (hi:ord[i]?=some v) {e:Int} :
  ∃ (ord':List Nat) (num' row out:List Int),iter (fun (s:List Int×List Int×List Int×List Int×Nat)=>R08_Min.s56 m (c,e) i s.1 s.2.1 s.2.2.1 s.2.2.2.1 s.2.2.2.2) fuel (natI ord,num,[],[],0)=some (natI ord',num',row,out)∧Num m c ord' num'∧Ext ord ord'∧RowAt m c ord' v row out m.Inputs.toNat:=by
 have hI:=H.i2
 have hv:=N.rng v (List.mem_of_getElem? hi)
 obtain ⟨r,hr,ord',num',row,out,rfl,h1,h2,h3⟩:=iter_post (step:=fun (s:List Int×List Int×List Int×List Int×Nat)=>R08_Min.s56 m (c,e) i s.1 s.2.1 s.2.2.1 s.2.2.2.1 s.2.2.2.2) (fun s=>∃ ord':List Nat,s.1=natI ord'∧Num m c ord' s.2.1∧Ext ord ord'∧s.2.2.2.2≤m.Inputs.toNat∧RowAt m c ord' v s.2.2.1 s.2.2.2.1 s.2.2.2.2) (fun s=>m.Inputs.toNat-s.2.2.2.2) (fun r=>∃ (ord':List Nat) (num' row out:List Int),r=(natI ord',num',row,out)∧Num m c ord' num'∧Ext ord ord'∧RowAt m c ord' v row out m.Inputs.toNat) (fun s ⟨ord',q1,q2,q3,q4,q5⟩=>by
  obtain ⟨o,num',row,out,a⟩:=s
  simp only at q1 q2 q4 q5
  subst q1
  simp only [R08_Min.s56]
  by_cases g:a<m.Inputs.toNat
  ·left
   have hi':=q3 i v hi
   obtain ⟨_,_,_,x,y,e1,e2,e3,e4⟩:=H.at hv g
   obtain ⟨ord2,num2,z,j,u,f1,f2,f3,f4,f5,f6,f7⟩:=min_number H C q2 hi' g (e:=e)
   have l1:=q5.l1
   have l2:=q5.l2
   refine ⟨(natI ord2,num2,row++[(↑j:Int)],out++[ot m v a],a+1),?_,⟨ord2,rfl,f2,q3.trans f3,g,(show RowAt m c ord2 v (row++[(↑j:Int)]) (out++[ot m v a]) (a+1) from ⟨by simp [l1],by simp [l2],fun b hb=>?_⟩)⟩,by simp only;omega⟩
   ·rw [decide_eq_true (by omega),cond_true,idxn_at (natI_at hi'),idx_at rfl e1,idxn_at e3,f1,obind]
    simp only [R08_Min.k55]
    rw [idx_at rfl f4,idx_at rfl f5,chk_pos (by unfold capOk;omega),idxn_at (natI_at (f3 i v hi')),idx_at rfl e2,idxn_at e4,chk_pos (by unfold capOk;omega),chk_pos (by unfold inR;omega)]
   ·rcases Nat.lt_or_ge b a with h | h
    ·obtain ⟨j',u',c1,c2,c3,c4⟩:=q5.cell b h
     exact ⟨j',u',by rw [List.getElem?_append_left (by omega),c1],f3 _ _ c2,c3,by rw [List.getElem?_append_left (by omega),c4]⟩
    ·have e':b=a:=by omega
     subst e'
     exact ⟨j,u,by rw [List.getElem?_append_right (by omega),l1,Nat.sub_self];rfl,f6,by rw [f7,f4],by rw [List.getElem?_append_right (by omega),l2,Nat.sub_self];rfl⟩
  ·right
   have e':a=m.Inputs.toNat:=by omega
   subst e'
   exact ⟨_,by rw [decide_eq_false (by omega),cond_false],ord',num',row,out,rfl,q2,q3,q5⟩) fuel (natI ord,num,[],[],0) ⟨ord,rfl,N,Ext.rfl',Nat.zero_le _,rfl,rfl,fun b hb=>absurd hb (Nat.not_lt_zero _)⟩ (by have:=fuel_big;simp only;omega)
 exact ⟨ord',num',row,out,hr,h1,h2,h3⟩
structure MinOk (m M:T_api_Mealy) (c:List Int) (ord:List Nat) (num:List Int):Prop where
 cls:ClsOk m m.Next.length c
 num:Num m c ord num
 inp:M.Inputs=m.Inputs
 start:M.Start=0
 l1:M.Next.length=ord.length
 l2:M.Out.length=ord.length
 row:∀ i v:Nat,ord[i]?=some v→∃ row out,M.Next[i]?=some row∧M.Out[i]?=some out∧RowAt m c ord v row out m.Inputs.toNat
theorem R08_Min_eq (hv:R06_Valid m=some 0):∃ M c ord num,R08_Min m=some (M,0)∧MinOk m M c ord num:=by
 have H:=macOk_of hv
 have hn:=H.n2
 have hst:=H.st
 obtain ⟨c,c1,C⟩:=R08_Partition_eq hv m.Next.length
 rw [Nat.min_self] at C
 have hcl:R08_Classes m=some (c,0):=by
  unfold R08_Classes
  rw [c1,obind]
 unfold R08_Min
 rw [hcl,obind,decide_eq_false (by simp),cond_false,chk_pos ⟨by omega,by omega,by unfold capOk;omega⟩]
 obtain ⟨y,hy,y1,y2⟩:=iter_post (step:=fun (s:List Int×Nat)=>R08_Min.s2 s.1 s.2) (fun s=>s.1.length=m.Next.length∧s.2≤m.Next.length∧∀ x,x<s.2→s.1[x]?=some (-1:Int)) (fun s=>m.Next.length-s.2) (fun r=>r.length=m.Next.length∧∀ x,x<m.Next.length→r[x]?=some (-1:Int)) (fun s ⟨g1,g2,g3⟩=>by
  obtain ⟨y,i⟩:=s
  simp only at g1 g2 g3
  simp only [R08_Min.s2]
  by_cases g:i<y.length
  ·left
   have hx:=get_at g
   refine ⟨(y.set i (-1),i+1),by rw [dec_lt hx,cond_true,idxn_at hx],⟨by simp [g1],by simp only;omega,fun x hx'=>?_⟩,by simp only;omega⟩
   simp only
   by_cases e:i=x
   ·subst e
    rw [List.getElem?_set_self g]
   ·rw [List.getElem?_set_ne e]
    exact g3 x (by simp only at hx';omega)
  ·right
   exact ⟨y,by rw [decide_eq_false (by omega),cond_false],g1,fun x hx=>g3 x (by omega)⟩) fuel ((List.replicate m.Next.length 0),0) ⟨by simp,Nat.zero_le _,fun x h=>absurd h (Nat.not_lt_zero _)⟩ (by have:=fuel_big;simp only;omega)
 have hs:m.Start.toNat<m.Next.length:=by omega
 obtain ⟨x0,x1,x2⟩:=C.rng _ hs
 rw [hy,obind,idx_at (i:=m.Start.toNat) (by omega) x1,idx_at rfl (y2 x0 x2)]
 have N0:Num m c [m.Start.toNat] (y.set x0 0):=⟨fun u hu=>by rw [List.mem_singleton.1 hu];exact hs,rfl,by rw [List.length_set,y1],fun j u x hj hc=>by
  have hj0:=(List.getElem?_eq_some_iff.1 hj).1
  rw [List.length_singleton] at hj0
  have e:j=0:=by omega
  subst e
  injection hj with hj
  subst hj
  rw [x1] at hc
  injection hc with hc
  have e:x0=x:=by omega
  subst e
  rw [List.getElem?_set_self (by omega)]
  rfl,fun x hx=>by
  by_cases e:x0=x
  ·subst e
   exact Or.inr ⟨0,_,by rw [List.getElem?_set_self (by omega)];rfl,rfl,x1⟩
  ·rw [List.getElem?_set_ne e]
   exact Or.inl (y2 x hx),fun j u hj=>by
  have hj0:=(List.getElem?_eq_some_iff.1 hj).1
  rw [List.length_singleton] at hj0
  exact Or.inl (by omega)⟩
 obtain ⟨r,hr,ord,num,q1,q2,q3,q4⟩:=iter_post (step:=fun (s:List Int×List Int×List (List Int)×List (List Int)×Nat)=>R08_Min.s58 m (c,0) s.1 s.2.1 s.2.2.1 s.2.2.2.1 s.2.2.2.2) (fun s=>∃ ord:List Nat,s.1=natI ord∧Num m c ord s.2.1∧s.2.2.2.2≤ord.length∧s.2.2.1.length=s.2.2.2.2∧s.2.2.2.1.length=s.2.2.2.2∧∀ i v:Nat,i<s.2.2.2.2→ord[i]?=some v→∃ row out,s.2.2.1[i]?=some row∧s.2.2.2.1[i]?=some out∧RowAt m c ord v row out m.Inputs.toNat) (fun s=>m.Next.length-s.2.2.2.2) (fun r=>∃ (ord:List Nat) (num:List Int),Num m c ord num∧r.1.length=ord.length∧r.2.length=ord.length∧∀ i v:Nat,ord[i]?=some v→∃ row out,r.1[i]?=some row∧r.2[i]?=some out∧RowAt m c ord v row out m.Inputs.toNat) (fun s ⟨ord,g1,g2,g3,g4,g5,g6⟩=>by
  obtain ⟨o,num,next,os,i⟩:=s
  simp only at g1 g2 g3 g4 g5 g6
  subst g1
  have hle:=g2.le C
  simp only [R08_Min.s58]
  by_cases g:i<ord.length
  ·left
   have hi:=get_at g
   obtain ⟨ord',num',row,out,f1,f2,f3,f4⟩:=min_row H C g2 hi (e:=0)
   have hi':=f3 _ _ hi
   have hl':=(List.getElem?_eq_some_iff.1 hi').1
   refine ⟨(natI ord',num',next++[row],os++[out],i+1),?_,⟨ord',rfl,f2,hl',by simp [g4],by simp [g5],fun i' v' hi2 hv2=>?_⟩,by simp only;omega⟩
   ·rw [natI_len,decide_eq_true (by omega),cond_true,f1,obind]
    simp only [R08_Min.k57]
    rw [chk_pos (by unfold capOk;omega),chk_pos (by unfold capOk;omega)]
   ·simp only at hi2 ⊢
    rcases Nat.lt_or_ge i' i with h | h
    ·obtain ⟨w,hw⟩:∃ w,ord[i']?=some w:=⟨_,get_at (l:=ord) (i:=i') (by omega)⟩
     have hw':=f3 _ _ hw
     rw [hv2] at hw'
     injection hw' with hw'
     subst hw'
     obtain ⟨row',out',z1,z2,z3⟩:=g6 i' v' h hw
     exact ⟨row',out',by rw [List.getElem?_append_left (by omega),z1],by rw [List.getElem?_append_left (by omega),z2],z3.mono f3⟩
    ·have e:i'=i:=by omega
     subst e
     rw [hi'] at hv2
     injection hv2 with hv2
     subst hv2
     exact ⟨row,out,by rw [List.getElem?_append_right (by omega),g4,Nat.sub_self];rfl,by rw [List.getElem?_append_right (by omega),g5,Nat.sub_self];rfl,f4⟩
  ·right
   have e:i=ord.length:=by omega
   subst e
   exact ⟨(next,os),by rw [natI_len,decide_eq_false (by omega),cond_false],ord,num,g2,g4,g5,fun i' v' hv'=>g6 i' v' (List.getElem?_eq_some_iff.1 hv').1 hv'⟩) fuel ([m.Start],(y.set x0 0),[],[],0) ⟨[m.Start.toNat],by simp only [natI,List.map_cons,List.map_nil];rw [Int.toNat_of_nonneg hst.1],N0,Nat.zero_le _,rfl,rfl,fun i v h=>absurd h (Nat.not_lt_zero _)⟩ (by have:=fuel_big;simp only;omega)
 refine ⟨⟨m.Inputs,0,r.1,r.2⟩,c,ord,num,?_,C,q1,rfl,rfl,q2,q3,q4⟩
 rw [Int.toNat_natCast,hr,obind]
 rfl
theorem R08_Minimal_eq (hv:R06_Valid m=some 0):∃ M c ord num,R08_Min m=some (M,0)∧MinOk m M c ord num∧R08_Minimal m=some (decide (ord.length=m.Next.length)):=by
 obtain ⟨M,c,ord,num,h1,h2⟩:=R08_Min_eq hv
 refine ⟨M,c,ord,num,h1,h2,?_⟩
 unfold R08_Minimal
 rw [h1,obind,decide_eq_true rfl,cond_true,obind,h2.l1]
 congr 1
 by_cases h:ord.length=m.Next.length
 ·rw [decide_eq_true h,decide_eq_true (by omega)]
 ·rw [decide_eq_false h,decide_eq_false (by omega)]
theorem R08_Minimal_of (hv:R06_Valid m=some 0) (h1:∀ s,s<m.Next.length→∃ w,WOk m.Inputs w∧dest m m.Start.toNat w=s) (h2:∀ s t,s<m.Next.length→t<m.Next.length→E m m.Next.length s t→s=t):R08_Minimal m=some true:=by
 have H:=macOk_of hv
 obtain ⟨M,c,ord,num,_,K,hk⟩:=R08_Minimal_eq hv
 rw [hk,decide_eq_true]
 have hle:=K.num.le K.cls
 have hst:=H.st
 -- every state that is reached has a number
 have key:∀ (w:List Int) (v i:Nat),ord[i]?=some v→WOk m.Inputs w→dest m v w∈ord:=by
  intro w
  induction w with
  | nil=>intro v i hi _;exact List.mem_of_getElem? hi
  | cons a w ih =>
   intro v i hi hw
   have ha:=hw.head
   obtain ⟨row,out,r1,r2,R⟩:=K.row i v hi
   obtain ⟨j,u,j1,j2,j3,j4⟩:=R.cell a.toNat (by omega)
   have hvn:=K.num.rng v (List.mem_of_getElem? hi)
   have hun:=K.num.rng u (List.mem_of_getElem? j2)
   have hnn:=(H.at hvn (a:=a.toNat) (by omega)).1
   have e:u=nx m v a.toNat:=h2 _ _ hun hnn ((K.cls.cls _ _ hun hnn).1 j3)
   subst e
   exact ih _ j j2 hw.tail
 have hall:∀ s∈List.range m.Next.length,s∈ord:=fun s hs=>by
  obtain ⟨w,w1,w2⟩:=h1 s (List.mem_range.1 hs)
  rw [← w2]
  exact key w _ 0 K.num.start w1
 have:=nodup_le (List.nodup_range (n:=m.Next.length)) hall
 rw [List.length_range] at this
 omega
end
end Go.Proofs.YtedabpfahmealaaGreatDoor.Sym

/-
 The hypothesis explains the table and is minimal: plain law of TableExplains.
-/
namespace Go.Proofs.YtedabpfahmealaaGreatDoor.Sym
set_option maxRecDepth 100000
theorem common_pre:∀ {u a b:List Int},u <+: a→u <+: b→u.length≤common a b
 | [],_,_,_,_=>Nat.zero_le _
 | x::u,a,b,⟨v,hv⟩,⟨w,hw⟩=>by
  subst hv
  subst hw
  have:=common_pre (u:=u) (a:=u++v) (b:=u++w) ⟨v,rfl⟩ ⟨w,rfl⟩
  show u.length+1≤common (x::(u++v)) (x::(u++w))
  simp only [common,if_true]
  omega
theorem take_take_le {α:Type} {l:List α} {i j:Nat} (h:i≤j):(l.take j).take i=l.take i:=by
 rw [List.take_take,Nat.min_eq_left h]
theorem agree_all {o:T_api_Obs} (hv:ObsOk o) {a b:T_api_Trace} (ha:a∈o.Traces) (hb:b∈o.Traces):Agree a b∨Agree b a:=by
 obtain ⟨i,hi,rfl⟩:=List.mem_iff_getElem.1 ha
 obtain ⟨j,hj,rfl⟩:=List.mem_iff_getElem.1 hb
 rcases Nat.lt_trichotomy i j with h | h | h
 ·exact Or.inl (hv.apart i j _ _ h (get_at hi) (get_at hj)).2
 ·subst h
  exact Or.inl rfl
 ·exact Or.inr (hv.apart j i _ _ h (get_at hj) (get_at hi)).2
theorem ansO_pre {o:T_api_Obs} (hv:ObsOk o) {u v r:List Int} (h:ansO o (u++v)=some r):ansO o u=some (r.take u.length):=by
 unfold ansO at h ⊢
 by_cases h0:u=[]
 ·subst h0
  simp
 ·rw [if_neg (by simp [h0])] at h
  rw [if_neg h0]
  obtain ⟨a,ha,rfl⟩:=Option.map_eq_some_iff.1 h
  have hma:=List.mem_of_find?_eq_some ha
  have hpa:u++v <+: a.In:=by simpa using List.find?_some ha
  have hua:u <+: a.In:=(List.prefix_append u v).trans hpa
  cases hb:o.Traces.find? fun t=>decide (u <+: t.In) with
  | none =>
   have:=List.find?_eq_none.1 hb a hma
   simp [hua] at this
  | some b =>
   have hmb:=List.mem_of_find?_eq_some hb
   have hub:u <+: b.In:=by simpa using List.find?_some hb
   show some (b.Out.take u.length)=some ((a.Out.take (u++v).length).take u.length)
   rw [take_take_le (by rw [List.length_append];omega)]
   congr 1
   rcases agree_all hv hma hmb with h1 | h1
   ·have h2:=common_pre hua hub
    unfold Agree at h1
    rw [← take_take_le h2,← h1,take_take_le h2]
   ·have h2:=common_pre hub hua
    unfold Agree at h1
    rw [← take_take_le h2,h1,take_take_le h2]
def tailA (o:T_api_Obs) (w e:List Int):List Int:=((ansO o (w++e)).getD []).drop w.length
theorem tailA_nil {o:T_api_Obs} (hv:ObsOk o) (w:List Int):tailA o w []=[]:=by
 unfold tailA
 rw [List.append_nil]
 cases h:ansO o w with
 | none=>simp
 | some r =>
  rw [Option.getD_some,List.drop_eq_nil_of_le (by rw [ansO_len hv h];exact Nat.le_refl _)]
theorem rowO_at {o:T_api_Obs} {w:List Int} {S:List (List Int)} {r:Row} (h:rowO o w S=some r) {i:Nat} {e:List Int} (he:S[i]?=some e):r[i]?=some (tailA o w e):=by
 obtain ⟨x,x1,x2⟩:=rowO_get h i e he
 rw [x2]
 unfold tailA
 rw [x1]
 rfl
theorem tailA_cons {o:T_api_Obs} (hv:ObsOk o) {w e:List Int} {a y:Int} (h:ansO o (w++a::e)≠none) (hy:tailA o w [a]=[y]):tailA o w (a::e)=y::tailA o (w++[a]) e:=by
 cases hr:ansO o (w++a::e) with
 | none=>exact absurd hr h
 | some r =>
  have hl:=ansO_len hv hr
  have h1:w++a::e=(w++[a])++e:=by simp
  have h2:=hr
  rw [h1] at h2
  have h3:=ansO_pre hv h2
  unfold tailA at hy ⊢
  rw [h3] at hy
  rw [hr,h2]
  simp only [Option.getD_some] at hy ⊢
  rw [List.length_append,List.length_singleton] at hy ⊢
  rw [List.length_append,List.length_cons] at hl
  have h4:r.drop w.length=r[w.length]'(by omega)::r.drop (w.length+1):=List.drop_eq_getElem_cons (by omega)
  rw [h4]
  congr 1
  have h5:(List.drop w.length (List.take (w.length+1) r))[0]?=some (r[w.length]'(by omega)):=by
   rw [List.getElem?_drop,List.getElem?_take_of_lt (by omega),get_at (by omega)]
   rfl
  rw [hy] at h5
  injection h5 with h5
  exact h5.symm
theorem ans_split {o:T_api_Obs} (hv:ObsOk o) {w e r:List Int} (hw:ansO o w=some r) (h:ansO o (w++e)≠none):ansO o (w++e)=some (r++tailA o w e):=by
 cases hr:ansO o (w++e) with
 | none=>exact absurd hr h
 | some z =>
  have h1:=ansO_pre hv hr
  rw [hw] at h1
  injection h1 with h1
  unfold tailA
  rw [hr,h1,Option.getD_some,List.take_append_drop]
section
variable {t:T_api_Table} {o:T_api_Obs}
theorem HypOk.mac (H:HypOk t o):MacOk (hypT t o).M:=macOk_of H.valid6
theorem HypOk.sing (H:HypOk t o) {a:Nat} (ha:a<t.Inputs.toNat):t.Suffixes[a]?=some [(↑a:Int)]:=by
 have hval:=(compT_zero H.hz).1
 obtain ⟨_,_,_,hAs,hsing,_⟩:=valid_asc hval
 obtain ⟨_,_,_,hsc⟩:=valid_has hval
 exact singles_at hAs hsc hsing a ha
theorem HypOk.lt (H:HypOk t o) {p:List Int} (hp:p∈t.Prefixes):stt t o p<(hypT t o).M.Next.length:=by
 rw [H.nlen.1]
 exact pos_lt (H.mem hp)
theorem HypOk.nx_ot (H:HypOk t o) {p:List Int} (hp:p∈t.Prefixes) {a:Nat} (ha:a<t.Inputs.toNat):nx (hypT t o).M (stt t o p) a=stt t o (p++[(↑a:Int)])∧tailA o p [(↑a:Int)]=[ot (hypT t o).M (stt t o p) a]:=by
 obtain ⟨q,hq,q1,q2,q3,_⟩:=H.at (H.mem hp)
 have q2:(hypT t o).M.Next[stt t o p]?=some (nextT t o q):=q2
 have q3:(hypT t o).M.Out[stt t o p]?=some (outT t o q):=q3
 constructor
 ·unfold nx
  rw [q2,Option.getD_some,nextT_at ha,Option.getD_some,Int.toNat_natCast]
  unfold stt
  rw [H.cons hq hp q1 ha]
 ·obtain ⟨y,z,y1,y2,y3⟩:=row_out H.hv (H.row hp) (H.sing ha)
  unfold ot
  rw [q3,Option.getD_some,outT_at ha,Option.getD_some,q1,y1]
  unfold tailA
  rw [y2,Option.getD_some,y3]
  rfl
theorem HypOk.rep (H:HypOk t o) {p:List Int} (hp:p∈t.Prefixes) {a:Nat} (ha:a<t.Inputs.toNat):∃ q∈t.Prefixes,rowG t o q=rowG t o (p++[(↑a:Int)])∧stt t o q=stt t o (p++[(↑a:Int)]):=by
 obtain ⟨q,hq,q1,_⟩:=H.at (H.closed hp ha)
 exact ⟨q,hq,q1,by unfold stt;rw [q1]⟩
theorem HypOk.sufs (H:HypOk t o) {e:List Int} (he:e∈t.Suffixes):WOk t.Inputs e:=check_mem ((valid_has (compT_zero H.hz).1).2.2.2 e he).1
theorem same_tail {p q:List Int} {r:Row} (hp:rowO o p t.Suffixes=some r) (hq:rowO o q t.Suffixes=some r) {e:List Int} (he:e∈t.Suffixes):tailA o p e=tailA o q e:=by
 obtain ⟨i,hi,rfl⟩:=List.mem_iff_getElem.1 he
 have h1:=rowO_at hp (get_at hi)
 rw [rowO_at hq (get_at hi)] at h1
 injection h1 with h1
 exact h1.symm
theorem HypOk.along (H:HypOk t o) (hc:∀ e∈t.Suffixes,e.drop 1∈t.Suffixes∨e.drop 1=[]):∀ (e:List Int),e∈t.Suffixes∨e=[]→∀ p∈t.Prefixes,Sym.outs (hypT t o).M (stt t o p) e=tailA o p e
 | [],_,p,_=>(tailA_nil H.hv p).symm
 | a::e,he,p,hp=>by
  have he:=he.resolve_right (by simp)
  have ha:=(H.sufs he).head
  have han:a.toNat<t.Inputs.toNat:=by omega
  have haa:a=((a.toNat:Nat):Int):=by omega
  obtain ⟨n1,n2⟩:=H.nx_ot hp han
  rw [← haa] at n1 n2
  obtain ⟨q,hq,q1,q2⟩:=H.rep hp han
  rw [← haa] at q1 q2
  have hans:=rowO_ans (H.row hp) _ he
  rw [tailA_cons H.hv hans n2]
  show ot (hypT t o).M (stt t o p) a.toNat::Sym.outs (hypT t o).M (nx (hypT t o).M (stt t o p) a.toNat) e=_
  rw [n1,← q2,H.along hc e (hc _ he) q hq]
  congr 1
  rcases hc _ he with h | h
  ·have hx:=H.ext hp han
   rw [← haa] at hx
   exact same_tail (t:=t) (by rw [H.row hq,q1]) hx h
  ·have h:e=[]:=h
   subst h
   rw [tailA_nil H.hv,tailA_nil H.hv]
theorem HypOk.walk (H:HypOk t o):∀ (k:Nat) (p:List Int),p.length=k→p∈t.Prefixes→ansO o p=some (Sym.outs (hypT t o).M 0 p)∧dest (hypT t o).M 0 p=stt t o p:=by
 intro k
 induction k with
 | zero =>
  intro p hl _
  have e:=List.eq_nil_of_length_eq_zero hl
  subst e
  exact ⟨rfl,H.start.symm⟩
 | succ k ih =>
  intro p hl hp
  have hval:=(compT_zero H.hz).1
  have hpre:=pre_closed hval _ p hp k rfl (by omega)
  have hx:=get_at (l:=p) (i:=k) (by omega)
  obtain ⟨x0,x1⟩:=H.sym hp hx
  have hpe:p=p.take k++[p[k]'(by omega)]:=by
   rw [← take_step hx,← hl,List.take_length]
  have han:(p[k]'(by omega)).toNat<t.Inputs.toNat:=by omega
  have haa:(p[k]'(by omega))=(((p[k]'(by omega)).toNat:Nat):Int):=by omega
  obtain ⟨i1,i2⟩:=ih (p.take k) (by rw [List.length_take];omega) hpre
  obtain ⟨n1,n2⟩:=H.nx_ot hpre han
  rw [← haa,← hpe] at n1
  rw [← haa] at n2
  have hmem:=List.mem_of_getElem? (H.sing han)
  rw [← haa] at hmem
  have hs:=ans_split H.hv i1 (rowO_ans (H.row hpre) _ hmem)
  rw [n2,← hpe] at hs
  constructor
  ·rw [hs]
   conv=>rhs;rw [hpe,outs_append,i2]
   rfl
  ·conv=>lhs;rw [hpe,dest_append,i2]
   show nx (hypT t o).M (stt t o (p.take k)) _=_
   rw [n1]
theorem HypOk.word (H:HypOk t o) {w:List Int} (hw:w∈t.Prefixes∨w∈extL t):WOk t.Inputs w∧w.length≤31∧ansO o w=some (Sym.outs (hypT t o).M 0 w)∧∃ q∈t.Prefixes,dest (hypT t o).M 0 w=stt t o q∧∃ r,rowO o w t.Suffixes=some r∧rowO o q t.Suffixes=some r:=by
 rcases hw with hp | hx
 ·obtain ⟨w1,w2⟩:=H.walk _ w rfl hp
  have:=H.ht.pw w hp
  exact ⟨check_mem ((valid_has (compT_zero H.hz).1).1 w hp),by omega,w1,w,hp,w2,_,H.row hp,H.row hp⟩
 ·obtain ⟨p,hp,h2⟩:=List.mem_flatMap.1 hx
  obtain ⟨a,ha,rfl⟩:=List.mem_map.1 h2
  have ha:=List.mem_range.1 ha
  obtain ⟨w1,w2⟩:=H.walk _ p rfl hp
  obtain ⟨n1,n2⟩:=H.nx_ot hp ha
  obtain ⟨q,hq,q1,q2⟩:=H.rep hp ha
  have hl:=H.ht.pw p hp
  have hc:WOk t.Inputs p:=check_mem ((valid_has (compT_zero H.hz).1).1 p hp)
  have hs:=ans_split H.hv w1 (rowO_ans (H.row hp) _ (List.mem_of_getElem? (H.sing ha)))
  refine ⟨hc.append fun x hx=>by rw [List.mem_singleton.1 hx];omega,by rw [List.length_append,List.length_singleton];omega,?_,q,hq,?_,_,H.ext hp ha,by rw [H.row hq,q1]⟩
  ·rw [hs,n2,outs_append,w2]
   rfl
  ·rw [dest_append,w2,q2,← n1]
   rfl
theorem HypOk.cell (H:HypOk t o) (hc:∀ e∈t.Suffixes,e.drop 1∈t.Suffixes∨e.drop 1=[]) {w e:List Int} (hw:w∈t.Prefixes∨w∈extL t) (he:e∈t.Suffixes):ansO o (w++e)=some (Sym.outs (hypT t o).M 0 (w++e)):=by
 obtain ⟨_,_,w1,q,hq,w2,r,r1,r2⟩:=H.word hw
 rw [ans_split H.hv w1 (rowO_ans r1 _ he),outs_append,w2,H.along hc e (Or.inl he) q hq,same_tail (t:=t) r1 r2 he]
theorem HypOk.minimal (H:HypOk t o) (hc:∀ e∈t.Suffixes,e.drop 1∈t.Suffixes∨e.drop 1=[]):R08_Minimal (hypT t o).M=some true:=by
 have hI:(hypT t o).M.Inputs=t.Inputs:=rfl
 refine R08_Minimal_of H.valid6 (fun s hs=>?_) fun s u hs hu hE=>?_
 ·rw [H.nlen.1] at hs
  obtain ⟨q,hq,q1,_⟩:=H.state hs
  exact ⟨q,check_mem ((valid_has (compT_zero H.hz).1).1 q hq),by
   show dest (hypT t o).M 0 q=s
   rw [(H.walk _ q rfl hq).2,q1]⟩
 ·rw [H.nlen.1] at hs hu
  obtain ⟨p,hp,p1,_⟩:=H.state hs
  obtain ⟨q,hq,q1,_⟩:=H.state hu
  subst p1
  subst q1
  have hrow:rowG t o p=rowG t o q:=by
   have l1:=(rowO_sml H.hv (H.row hp)).1
   have l2:=(rowO_sml H.hv (H.row hq)).1
   apply List.ext_getElem?
   intro i
   rcases Nat.lt_or_ge i t.Suffixes.length with hi | hi
   ·have hg:=get_at hi
    have he:=List.getElem_mem hi
    rw [rowO_at (H.row hp) hg,rowO_at (H.row hq) hg,← H.along hc _ (Or.inl he) p hp,← H.along hc _ (Or.inl he) q hq]
    rw [E_outs (E_all H.mac (H.lt hp) (H.lt hq) hE _) (H.sufs he)]
   ·rw [List.getElem?_eq_none (by omega),List.getElem?_eq_none (by omega)]
  unfold stt
  rw [hrow]
end
end Go.Proofs.YtedabpfahmealaaGreatDoor.Sym

/-
 The examples of the chapter on learning with a table, reckoned.
-/
namespace Go.Proofs.YtedabpfahmealaaGreatDoor.Sym
set_option maxRecDepth 100000
end Go.Proofs.YtedabpfahmealaaGreatDoor.Sym

/-
 Learning with a table: steps and refinements are the document's. Plain laws of LstarSteps, LstarRefines and LstarGrows.
-/
namespace Go.Proofs.YtedabpfahmealaaGreatDoor.Sym
set_option maxRecDepth 100000
def stepT (t:T_api_Table) (o:T_api_Obs):T_api_Table×List (List Int)×Bool×Int :=
 if chkT t o≠0 then (t,[],false,chkT t o)
 else if needL o t t.Prefixes≠[] then (t,maxR (needL o t t.Prefixes),false,0)
 else match (extL t).find? (newRow t o) with
  | some w=>((prefixT t w).1,[],false,(prefixT t w).2)
  | none=>match iP t o with
   | some x=>((suffixT t (toW t x)).1,[],false,(suffixT t (toW t x)).2)
   | none=>(t,[],true,0)
section
variable {t:T_api_Table} {o:T_api_Obs}
theorem compT_of (h1:chkT t o=0) (h2:needL o t t.Prefixes=[]):compT t o=0:=by
 unfold compT
 rw [if_neg (by simpa using h1),if_pos h2]
theorem toW_len (ht:TabOk t) (x:Int×Int×Bool):(toW t x).length≤31:=by
 unfold toW
 cases h2:t.Suffixes[x.2.1.toNat]? with
 | none=>simp
 | some e =>
  have:=ht.sw e (List.mem_of_getElem? h2)
  simp
  omega
theorem pos_len {l:List (List Int)} (h:l≠[]):(0:Int)<(↑l.length:Int):=by
 have:=List.length_pos_iff.2 h
 omega
theorem R24_Step_eq (ht:TabOk t) (ho:SmO o) (hv:ObsOk o):R24_Step t o=some (stepT t o):=by
 have hp:=ht.p
 have hs:=ht.s
 unfold R24_Step
 rw [R23_Needed_eq ht ho hv,obind]
 unfold stepT
 by_cases h1:chkT t o=0
 ·rw [if_neg (by simpa using h1),if_neg (by simpa using h1)]
  by_cases h2:needL o t t.Prefixes=[]
  ·rw [if_neg (by simpa using h2),maxR_nil.2 h2]
   have hz:=compT_of h1 h2
   simp only [ne_eq,not_true_eq_false,decide_false,cond_false,List.length_nil,Int.ofNat_zero,Int.natCast_zero,Int.lt_irrefl]
   rw [obind,cond_false,R23_Unclosed_eq ht ho hv]
   unfold unclT
   rw [if_neg (by simpa using hz)]
   cases hf:(extL t).find? (newRow t o) with
   | some w =>
    obtain ⟨w1,w2⟩:=extL_mem_sm ht (List.mem_of_find?_eq_some hf)
    simp only [obind,cond_true]
    rw [R23_Prefix_eq ht.sm (by omega) w2 (by omega)]
    rfl
   | none =>
    simp only [obind,cond_false]
    rw [R23_Inconsistent_eq ht ho hv]
    unfold incT
    rw [if_neg (by simpa using hz)]
    cases hi:iP t o with
    | some x =>
     have:=toW_len ht x
     simp only [obind,cond_true]
     rw [R23_Suffix_eq ht.sm (by omega) (by omega)]
     rfl
    | none=>rfl
  ·rw [if_pos h2,decide_eq_false (by simp),cond_false,decide_eq_true (pos_len fun h=>h2 (maxR_nil.1 h))]
   rfl
 ·rw [if_pos h1,if_pos h1,decide_eq_true h1]
  rfl
structure Kept (t u:T_api_Table):Prop where
 p:∀ x∈t.Prefixes,x∈u.Prefixes
 s:∀ x∈t.Suffixes,x∈u.Suffixes
 i:t.Inputs=u.Inputs
theorem Kept.self:Kept t t:=⟨fun _ h=>h,fun _ h=>h,rfl⟩
theorem growT_kept (p s:List (List Int)):Kept t (growT t p s).1:=by
 unfold growT
 split
 ·exact Kept.self
 ·exact ⟨fun x h=>(mem_sortW _ _).2 (List.mem_append_left _ h),fun x h=>(mem_sortW _ _).2 (List.mem_append_left _ h),rfl⟩
theorem prefixT_kept (w:List Int):Kept t (prefixT t w).1:=by
 unfold prefixT
 split
 ·exact Kept.self
 ·split
  ·exact Kept.self
  ·exact growT_kept _ _
theorem suffixT_kept (w:List Int):Kept t (suffixT t w).1:=by
 unfold suffixT
 split
 ·exact Kept.self
 ·split
  ·exact Kept.self
  ·split
   ·exact Kept.self
   ·exact growT_kept _ _
theorem prefixT_sml (ht:SmT t) (h1:t.Prefixes.length≤1100000) {w:List Int} (hw:w.length≤100000):SmL (prefixT t w).1.Prefixes∧SmL (prefixT t w).1.Suffixes:=by
 have hpl:(sortW (preL [w])).length≤100001:=by
  have:=sortW_length (preL [w])
  rw [preL_one,prefixes_length] at this
  rw [preL_one]
  omega
 unfold prefixT
 split
 ·exact ⟨ht.2.1,ht.2.2.1⟩
 ·split
  ·exact ⟨ht.2.1,ht.2.2.1⟩
  ·exact growT_sml ht (sml_sort (sml_pre hw)) sml_nil (by omega) (by have:=ht.2.2.1.1;simp;omega)
theorem suffixT_sml (ht:SmT t) (h1:t.Suffixes.length≤1100000) {w:List Int} (hw:w.length≤100000):SmL (suffixT t w).1.Prefixes∧SmL (suffixT t w).1.Suffixes:=by
 unfold suffixT
 split
 ·exact ⟨ht.2.1,ht.2.2.1⟩
 ·split
  ·exact ⟨ht.2.1,ht.2.2.1⟩
  ·split
   ·exact ⟨ht.2.1,ht.2.2.1⟩
   ·exact growT_sml ht sml_nil (sml_one hw) (by have:=ht.2.1.1;simp;omega) (by simp;omega)
theorem maxR_need_sml (hT:TabOk t):SmL (maxR (needL o t t.Prefixes)):=by
 refine ⟨?_,fun x hx=>?_⟩
 ·have h4:=maxR_length (needL o t t.Prefixes)
  have hb:∀ P:List (List Int),(needL o t P).length≤60*P.length:=by
   intro P
   induction P with
   | nil=>simp [needL]
   | cons p P ih =>
    unfold needL at ih ⊢
    rw [List.flatMap_cons,List.length_append,List.length_cons]
    have hw:((withX t.Inputs.toNat p).flatMap fun w=>missO o w t.Suffixes).length≤12*(withX t.Inputs.toNat p).length:=by
     generalize withX t.Inputs.toNat p=X
     induction X with
     | nil=>simp
     | cons w X ih2 =>
      have:=missO_len o w t.Suffixes
      have:=hT.s
      rw [List.flatMap_cons,List.length_append,List.length_cons]
      omega
    have hwl:(withX t.Inputs.toNat p).length=t.Inputs.toNat+1:=by simp [withX]
    have:=hT.n
    rw [hwl] at hw
    omega
  have:=hb t.Prefixes
  have:=hT.p
  omega
 ·have hx:=mem_maxR hx
  unfold needL at hx
  obtain ⟨p,hpm,h2⟩:=List.mem_flatMap.1 hx
  obtain ⟨u,hu,h3⟩:=List.mem_flatMap.1 h2
  obtain ⟨⟨e,he,rfl⟩,_⟩:=mem_missO.1 h3
  have h4:=hT.pw p hpm
  have h5:=hT.sw e he
  have h6:u.length≤31:=by
   unfold withX at hu
   rcases List.mem_cons.1 hu with rfl | hu
   ·omega
   ·obtain ⟨a,_,rfl⟩:=List.mem_map.1 hu
    simp
    omega
  unfold SmW
  rw [List.length_append]
  omega
structure StepSm (r:T_api_Table×List (List Int)×Bool×Int):Prop where
 p:SmL r.1.Prefixes
 s:SmL r.1.Suffixes
 w:SmL r.2.1
structure StepOk (t:T_api_Table) (o:T_api_Obs) (r:T_api_Table×List (List Int)×Bool×Int):Prop where
 p:SmL r.1.Prefixes
 s:SmL r.1.Suffixes
 w:SmL r.2.1
 k:Kept t r.1
 n:t.Prefixes.length+t.Suffixes.length≤r.1.Prefixes.length+r.1.Suffixes.length
 d:r.2.2.1=true→r.2.2.2=0∧(hypR t o).2=0
theorem stepT_ok (ht:TabOk t) (hv:ObsOk o):StepOk t o (stepT t o):=by
 have hp:=ht.p
 have hs:=ht.s
 unfold stepT
 split
 ·exact ⟨ht.sm.2.1,ht.sm.2.2.1,sml_nil,Kept.self,Nat.le_refl _,fun h=>by cases h⟩
 ·rename_i h1
  have h1:chkT t o=0:=Classical.not_not.1 h1
  split
  ·exact ⟨ht.sm.2.1,ht.sm.2.2.1,maxR_need_sml ht,Kept.self,Nat.le_refl _,fun h=>by cases h⟩
  ·rename_i h2
   have h2:needL o t t.Prefixes=[]:=Classical.not_not.1 h2
   have hz:=compT_of h1 h2
   cases hf:(extL t).find? (newRow t o) with
   | some w =>
    obtain ⟨w1,w2⟩:=extL_mem_sm ht (List.mem_of_find?_eq_some hf)
    obtain ⟨g1,g2,g3,g4,g5⟩:=uncl_progress ht hz hf
    obtain ⟨s1,s2⟩:=prefixT_sml ht.sm (by omega) (w:=w) (by omega)
    exact ⟨s1,s2,sml_nil,prefixT_kept w,by simp only;omega,fun h=>by cases h⟩
   | none =>
    cases hi:iP t o with
    | some x =>
     have:=toW_len ht x
     obtain ⟨g1,g2,g3,g4,g5⟩:=inc_progress ht hv hz hi
     obtain ⟨s1,s2⟩:=suffixT_sml ht.sm (by omega) (w:=toW t x) (by omega)
     exact ⟨s1,s2,sml_nil,suffixT_kept _,by simp only;omega,fun h=>by cases h⟩
    | none =>
     refine ⟨ht.sm.2.1,ht.sm.2.2.1,sml_nil,Kept.self,Nat.le_refl _,fun _=>⟨rfl,?_⟩⟩
     unfold hypR
     rw [if_neg (by simpa using hz),hf,hi,if_neg (by simp)]
end
end Go.Proofs.YtedabpfahmealaaGreatDoor.Sym

/-
 Lazy learning: states, steps and hypotheses are the document's. Plain laws.
-/
namespace Go.Proofs.YtedabpfahmealaaGreatDoor.Sym
set_option maxRecDepth 100000
theorem cap_small {n:Nat} (h:n≤3000000):capOk n 24:=by unfold capOk;omega
theorem wsearch_eq {l:List (List Int)} {w:List Int} (hs:Asc l) (hl:SmL l):zq6 l w (fun u0 u1=>word_Compare u0 u1)=some ((↑(placeL l w):Int),decide (w∈l)):=by
 have hc:∀ x∈l,word_Compare x w=some (cmpW x w):=fun x hx=>word_Compare_eq _ _ (by have:=hl.2 x hx;unfold SmW at this;omega)
 have hl1:=hl.1
 have key:=iter_post (step:=fun (s:Int×Int)=>zq6.s2 l w (fun u0 u1=>word_Compare u0 u1) s.1 s.2)
  (fun s=>∃ i j:Nat,s.1=(i:Int)∧s.2=(j:Int)∧i≤j∧j≤l.length∧(∀ k t,k<i→l[k]?=some t→cmpW t w=-1)∧∀ k t,j≤k→l[k]?=some t→cmpW t w≠-1) (fun s=>(s.2-s.1).toNat)
  (fun r=>∃ k:Nat,r=(k:Int)∧k≤l.length∧(∀ j t,j<k→l[j]?=some t→cmpW t w=-1)∧∀ t,l[k]?=some t→cmpW t w≠-1) (fun s ⟨i,j,g1,g2,g3,g4,g5,g6⟩=>by
   obtain ⟨si,sj⟩:=s
   simp only at g1 g2
   subst g1 g2
   simp only [zq6.s2]
   by_cases g7:i<j
   ·left
    have hmid:((↑i:Int)+↑j) / 2^1=((i+j) / 2:Nat):=by omega
    have hx:=get_at (l:=l) (i:=(i+j) / 2) (by omega)
    rw [decide_eq_true (by omega),cond_true,chk_pos (by unfold inR;omega),chk_pos (by omega),chk_pos (by omega),chk_pos (by unfold inR;omega),idx_at hmid hx,hc _ (List.getElem_mem _),obind]
    have r:=cmpW_range (l[(i+j) / 2]'(by omega)) w
    by_cases g8:cmpW (l[(i+j) / 2]'(by omega)) w<0
    ·refine ⟨(((i+j) / 2+1:Nat),(j:Int)),?_,⟨(i+j) / 2+1,j,rfl,rfl,by omega,g4,fun k t hk ht=>?_,g6⟩,by simp only;omega⟩
     ·rw [decide_eq_true g8,cond_true,chk_pos (by unfold inR;omega),hmid]
      simp
     ·rcases Nat.lt_or_ge k ((i+j) / 2) with h | h
      ·exact cmpW_trans _ _ _ (hs.get h ht hx) (by omega)
      ·have e:k=(i+j) / 2:=by omega
       subst e
       rw [hx] at ht
       injection ht with ht
       subst ht
       omega
    ·refine ⟨((i:Int),(((i+j) / 2:Nat):Int)),?_,⟨i,(i+j) / 2,rfl,rfl,by omega,by omega,g5,fun k t hk ht=>?_⟩,by simp only;omega⟩
     ·rw [decide_eq_false g8,cond_false,hmid]
     ·intro h9
      rcases Nat.lt_or_ge ((i+j) / 2) k with h | h
      ·have:=cmpW_trans _ _ _ (hs.get h hx ht) h9
       omega
      ·have e:k=(i+j) / 2:=by omega
       subst e
       rw [hx] at ht
       injection ht with ht
       subst ht
       omega
   ·right
    have e:i=j:=by omega
    subst e
    refine ⟨(i:Int),by rw [decide_eq_false (by omega),cond_false],i,rfl,g4,g5,fun t ht=>g6 i t (Nat.le_refl _) ht⟩) fuel (0,(↑(List.length l):Int)) ⟨0,l.length,rfl,rfl,Nat.zero_le _,Nat.le_refl _,fun k t h=>by omega,fun k t h ht=>by
    have:=(List.getElem?_eq_some_iff.1 ht).1
    omega⟩ (by have:=fuel_big;simp only;omega)
 obtain ⟨r,e,k,hk,h1,h2,h3⟩:=key
 subst hk
 have hpl:=placeL_of h1 (fun i x hi hx=>h2 i x hi hx) h3
 have hmem:=hs.mem_place w
 rw [hpl] at hmem ⊢
 unfold zq6
 rw [e,obind]
 by_cases h4:k<l.length
 ·have hx:=get_at h4
  rw [decide_eq_true (by omega),cond_true,idx_at rfl hx,show (fun (u0:List Int) (u1:List Int)=>word_Compare u0 u1) l[k] w=some (cmpW l[k] w) from hc _ (List.getElem_mem _),obind,obind]
  rw [hx] at hmem
  by_cases h5:w∈l
  ·have:=hmem.1 h5
   injection this with this
   rw [decide_eq_true h5,this,decide_eq_true (cmpW_refl w)]
  ·rw [decide_eq_false h5,decide_eq_false fun h6=>h5 (hmem.2 (by rw [(cmpW_zero _ _).1 h6]))]
 ·have h5:¬ w∈l:=fun h=>by
   have:=hmem.1 h
   exact h4 (List.getElem?_eq_some_iff.1 this).1
  rw [decide_eq_false (by omega),cond_false,obind,decide_eq_false h5]
theorem lazy_with_eq {l:List (List Int)} {w:List Int} (hs:Asc l) (hl:SmL l) (hw:SmW w):zq111 l w=some (insW l w):=by
 have hl1:=hl.1
 have hp:=placeL_le l w
 unfold zq111
 rw [wsearch_eq hs hl,obind]
 unfold insW
 by_cases h:w∈l
 ·rw [if_pos h,decide_eq_true h,cond_true]
 ·rw [if_neg h,decide_eq_false h,cond_false,chk_pos (by omega),libclone_word hw,obind]
  simp only [Int.toNat_natCast]
  rw [chk_pos (cap_small (by rw [List.length_take];omega)),chk_pos (by omega),chk_pos (cap_small (by simp only [List.length_append,List.length_take,List.length_drop,List.length_cons,List.length_nil];omega)),List.append_assoc]
  rfl
theorem wordset_Has_eq (l:List (List Int)) (w:List Int) (hl:SmL l):zq100 l w=some (decide (w∈l)):=by
 unfold zq100 zq12 zq16
 have key:=iter_scan (step:=fun s=>zq16.s2 l (fun u0=>zq85 u0 w) s) (l:=l) (fun i x=>if x=w then some (i:Int) else none) (fun i x hx=>by
  simp only [zq16.s2,zq85]
  rw [dec_lt hx,cond_true,idxn_at hx,zq72 _ _ (by have:=hl.2 x (List.mem_of_getElem? hx);unfold SmW at this;omega),obind,obind]
  by_cases h:x=w
  ·rw [decide_eq_true h,cond_true,if_pos h]
  ·rw [decide_eq_false h,cond_false,if_neg h]) (by
  simp only [zq16.s2]
  rw [dec_end]
  rfl) (by have:=hl.1;omega)
 rw [key]
 cases e:scan (fun i x=>if x=w then some (i:Int) else none) 0 l with
 | none =>
  have h3:=scan_none.1 e
  have h:w∉l:=fun hm=>by
   obtain ⟨i,hi⟩:=List.mem_iff_getElem?.1 hm
   have:=h3 i w hi
   simp at this
  rw [decide_eq_false h]
  rfl
 | some r =>
  have h:w∈l∧0≤r:=scan_inv2 (Q:=fun r=>w∈l∧0≤r) e fun i x r hx hr=>by
   split at hr
   ·rename_i he
    injection hr with hr
    subst he
    exact ⟨List.mem_of_getElem? hx,by omega⟩
   ·cases hr
  rw [decide_eq_true h.1]
  simp only [obind,Sum.elim_inr]
  rw [decide_eq_true h.2]
def lazT (l:T_api_Lazy):T_api_Table:=⟨l.Inputs,l.Short,l.Suffixes⟩
def ofT (t:T_api_Table):T_api_Lazy:=⟨t.Inputs,t.Prefixes,t.Suffixes⟩
def sufB (S:List (List Int)):Bool:=S.all fun e=>decide (e.length≤1)||decide (e.drop 1∈S)
def validL (l:T_api_Lazy):Int:=if validT (lazT l)≠0 then validT (lazT l) else if sufB l.Suffixes=true then 0 else 1
def chkL (l:T_api_Lazy) (o:T_api_Obs):Int:=if validL l≠0 then validL l else if l.Inputs≠o.Inputs then 15 else 0
theorem suf_step {S:List (List Int)} {R:Type} {f:Bool} (e:List Int) (k:Bool→Option R):((cond (decide (1<(↑(List.length e):Int))) (chk ((0:Int)≤1∧1≤(↑(List.length e):Int)) ((some (decide (e.drop 1∈S))).bind fun c=>some (!c))) (some false):Option Bool)).bind k=k (!(decide (e.length≤1)||decide (e.drop 1∈S))):=by
 by_cases h:1<e.length
 ·rw [decide_eq_true (by omega),cond_true,chk_pos (by omega),obind,obind,show decide (e.length≤1)=false from decide_eq_false (by omega),Bool.false_or]
 ·rw [show decide (1<(↑(List.length e):Int))=false from decide_eq_false (by omega),cond_false,obind,show decide (e.length≤1)=true from decide_eq_true (by omega)]
  rfl
theorem zq83 {l:T_api_Lazy} (ht:SmT (lazT l)):zq107 l=some (validL l):=by
 have hs:SmL l.Suffixes:=ht.2.2.1
 have hs1:=hs.1
 unfold zq107 zq108 validL
 rw [obind,show (⟨l.Inputs,l.Short,l.Suffixes⟩:T_api_Table)=lazT l from rfl,table_Valid_eq _ ht,obind]
 by_cases h:validT (lazT l)=0
 ·rw [decide_eq_false (by simpa using h),cond_false,if_neg (by simpa using h)]
  have key:=iter_scan (step:=fun s=>zq107.s2 l s) (l:=l.Suffixes) (fun _ e=>if (decide (e.length≤1)||decide (e.drop 1∈l.Suffixes))=true then none else some (1:Int)) (fun i x hx=>by
   simp only [zq107.s2]
   rw [dec_lt hx,cond_true,idxn_at hx,wordset_Has_eq _ _ hs,suf_step (f:=true)]
   cases (decide (x.length≤1)||decide (x.drop 1∈l.Suffixes))<;>rfl) (by
   simp only [zq107.s2]
   rw [dec_end]
   rfl) (by omega)
  rw [key,scan_all (p:=fun (e:List Int)=>decide (e.length≤1)||decide (e.drop 1∈l.Suffixes))]
  unfold sufB
  cases (l.Suffixes.all fun e=>decide (e.length≤1)||decide (e.drop 1∈l.Suffixes))<;>rfl
 ·rw [decide_eq_true h,cond_true,if_pos h]
theorem R28_Valid_eq {l:T_api_Lazy} (ht:SmT (lazT l)):R28_Valid l=some (validL l):=by
 have hs:SmL l.Suffixes:=ht.2.2.1
 have hs1:=hs.1
 unfold R28_Valid R28_Table validL
 rw [obind,show (⟨l.Inputs,l.Short,l.Suffixes⟩:T_api_Table)=lazT l from rfl,R23_Valid_eq _ ht,obind]
 by_cases h:validT (lazT l)=0
 ·rw [decide_eq_false (by simpa using h),cond_false,if_neg (by simpa using h)]
  have key:=iter_scan (step:=fun s=>R28_Valid.s2 l s) (l:=l.Suffixes) (fun _ e=>if (decide (e.length≤1)||decide (e.drop 1∈l.Suffixes))=true then none else some (1:Int)) (fun i x hx=>by
   simp only [R28_Valid.s2]
   rw [dec_lt hx,cond_true,idxn_at hx,R02_Has_eq _ _ hs,suf_step (f:=true)]
   cases (decide (x.length≤1)||decide (x.drop 1∈l.Suffixes))<;>rfl) (by
   simp only [R28_Valid.s2]
   rw [dec_end]
   rfl) (by omega)
  rw [key,scan_all (p:=fun (e:List Int)=>decide (e.length≤1)||decide (e.drop 1∈l.Suffixes))]
  unfold sufB
  cases (l.Suffixes.all fun e=>decide (e.length≤1)||decide (e.drop 1∈l.Suffixes))<;>rfl
 ·rw [decide_eq_true h,cond_true,if_pos h]
theorem lazy_check_eq {l:T_api_Lazy} {o:T_api_Obs} (ht:SmT (lazT l)):zq104 l o=some (chkL l o):=by
 unfold zq104 chkL
 rw [zq83 ht,obind]
 by_cases h:validL l=0
 ·rw [decide_eq_false (by simpa using h),cond_false,if_neg (by simpa using h)]
  by_cases h2:l.Inputs=o.Inputs
  ·rw [decide_eq_false (by simpa using h2),if_neg (by simpa using h2)];rfl
  ·rw [decide_eq_true h2,if_pos h2];rfl
 ·rw [decide_eq_true h,cond_true,if_pos h]
theorem R28_checked_eq {l:T_api_Lazy} {o:T_api_Obs} (ht:SmT (lazT l)):R28_checked l o=some (chkL l o):=by
 unfold R28_checked chkL
 rw [R28_Valid_eq ht,obind]
 by_cases h:validL l=0
 ·rw [decide_eq_false (by simpa using h),cond_false,if_neg (by simpa using h)]
  by_cases h2:l.Inputs=o.Inputs
  ·rw [decide_eq_false (by simpa using h2),if_neg (by simpa using h2)];rfl
  ·rw [decide_eq_true h2,if_pos h2];rfl
 ·rw [decide_eq_true h,cond_true,if_pos h]
theorem lazy_copied_eq {l:List (List Int)} (hl:SmL l):zq103 l=some l:=by
 have hl1:l.length≤2000000:=hl.1
 unfold zq103
 rw [iter_eq (r:=l) (fun s=>s.2≤l.length∧s.1=l.take s.2) (fun s=>l.length-s.2) (fun s ⟨h1,h2⟩=>by
  simp only [zq103.s2]
  by_cases h3:s.2<l.length
  ·left
   have hx:=get_at h3
   refine ⟨(l.take (s.2+1),s.2+1),?_,⟨by omega,rfl⟩,by simp only;omega⟩
   rw [dec_lt hx,cond_true,idxn_at hx,libclone_word (hl.2 _ (List.getElem_mem _))]
   simp only [obind]
   rw [chk_pos (by rw [h2,List.length_take];unfold capOk;omega),take_step hx,h2]
  ·right
   have e:s.2=l.length:=by omega
   rw [decide_eq_false (by omega),cond_false,h2,e,List.take_length]) (s:=([],0)) ⟨Nat.zero_le _,by simp⟩ (by have:=fuel_big;simp only;omega)]
 rfl
theorem lazy_fresh_eq {l:T_api_Lazy} (h1:SmL l.Short) (h2:SmL l.Suffixes):zq109 l=some l:=by
 unfold zq109
 rw [lazy_copied_eq h1,lazy_copied_eq h2]
 rfl
theorem R28_Same_eq (a b:T_api_Lazy) (h1:SmL a.Short) (h2:SmL a.Suffixes):R28_Same a b=some (decide (a=b)):=by
 unfold R28_Same R28_Table
 rw [obind,obind,R23_Same_eq _ _ h1 h2,obind]
 congr 1
 cases a
 cases b
 simp
theorem lazy_New_eq (n:Int):lazy_New n=some (ofT (newT n).1,(newT n).2):=by
 unfold lazy_New
 rw [table_New_eq,obind]
 unfold newT
 split<;>rfl
theorem R28_New_eq (n:Int):R28_New n=some (ofT (newT n).1,(newT n).2):=by
 unfold R28_New
 rw [R23_New_eq]
 rfl
theorem newT_sml (n:Int):SmL (newT n).1.Prefixes∧SmL (newT n).1.Suffixes:=by
 unfold newT
 split
 ·exact ⟨sml_nil,sml_nil⟩
 ·rename_i h
  refine ⟨⟨by simp,fun x hx=>by simp at hx;subst hx;simp [SmW]⟩,by show (singles n.toNat).length≤_;rw [singles_length];omega,fun x hx=>?_⟩
  obtain ⟨a,_,rfl⟩:=List.mem_map.1 hx
  simp [SmW]
theorem uncl_ins {t:T_api_Table} {o:T_api_Obs} {w:List Int} (ht:TabOk t) (hz:compT t o=0) (hf:(extL t).find? (newRow t o)=some w) :
  prefixT t w=(⟨t.Inputs,insW t.Prefixes w,t.Suffixes⟩,0)∧validT ⟨t.Inputs,insW t.Prefixes w,t.Suffixes⟩=0:=by
 obtain ⟨hval,_,hA⟩:=compT_zero hz
 obtain ⟨hn1,_,hAp,hAs,hsing,_,_,hne⟩:=valid_asc hval
 obtain ⟨hck,hcl,hnil,hsc⟩:=valid_has hval
 obtain ⟨g1,g2,_⟩:=uncl_progress ht hz hf
 have hwm:=List.mem_of_find?_eq_some hf
 obtain ⟨p,hp,h2⟩:=List.mem_flatMap.1 hwm
 obtain ⟨a,ha,rfl⟩:=List.mem_map.1 h2
 have ha:=List.mem_range.1 ha
 have hpl:=ht.pw p hp
 have hcw:=check_snoc (hck p hp) (by omega) (show (↑a:Int)<t.Inputs by omega)
 have e1:sortW (t.Prefixes++sortW (preL [p++[(↑a:Int)]]))=insW t.Prefixes (p++[(↑a:Int)]):=asc_ext (sortW_asc _) (hAp.insW _) fun x=>by
  rw [mem_sortW,List.mem_append,mem_sortW,preL_one,mem_insW]
  unfold prefixes
  constructor
  ·rintro (h | h)
   ·exact Or.inl h
   ·obtain ⟨k,hk,rfl⟩:=List.mem_map.1 h
    have hk:=List.mem_range.1 hk
    rw [List.length_append,List.length_singleton] at hk
    rcases Nat.lt_or_ge p.length k with h3 | h3
    ·right
     rw [List.take_of_length_le (by rw [List.length_append,List.length_singleton];omega)]
    ·left
     rw [List.take_append_of_le_length h3]
     exact pre_closed hval _ p hp k rfl h3
  ·rintro (h | rfl)
   ·exact Or.inl h
   ·exact Or.inr (List.mem_map.2 ⟨p.length+1,by simp,by rw [List.take_of_length_le (by simp)]⟩)
 have e2:sortW (t.Suffixes++[])=t.Suffixes:=by rw [List.append_nil,sortW_of_asc hAs]
 have hP:prefixT t (p++[(↑a:Int)])=growT t (sortW (preL [p++[(↑a:Int)]])) []:=by
  unfold prefixT
  rw [if_neg (by simpa using hval),if_neg (by simpa using hcw)]
 rw [hP] at g1 ⊢
 unfold growT at g1 ⊢
 rw [e1,e2] at g1 ⊢
 by_cases h:validT ⟨t.Inputs,insW t.Prefixes (p++[(↑a:Int)]),t.Suffixes⟩=0
 ·rw [if_neg (by simpa using h)]
  exact ⟨rfl,h⟩
 ·rw [if_pos h] at g1
  exact absurd g1 h
theorem inc_ins {t:T_api_Table} {o:T_api_Obs} {x:Int×Int×Bool} (ht:TabOk t) (hv:ObsOk o) (hz:compT t o=0) (hf:iP t o=some x) :
  suffixT t (toW t x)=(⟨t.Inputs,t.Prefixes,insW t.Suffixes (toW t x)⟩,0)∧validT ⟨t.Inputs,t.Prefixes,insW t.Suffixes (toW t x)⟩=0∧(toW t x).drop 1∈t.Suffixes:=by
 obtain ⟨hval,_,hA⟩:=compT_zero hz
 obtain ⟨hn1,_,hAp,hAs,hsing,_,_,hne⟩:=valid_asc hval
 obtain ⟨hck,hcl,hnil,hsc⟩:=valid_has hval
 obtain ⟨g1,g2,_⟩:=inc_progress ht hv hz hf
 obtain ⟨_,a,e,h1,h2,ha,he⟩:=iP_range hv hA hf
 have hse:=get_at he
 have hW:toW t x=(↑a:Int)::t.Suffixes[e]:=by
  unfold toW
  rw [h1,h2]
  simp [hse]
 have hm:=List.getElem_mem he
 have hel:=ht.sw _ hm
 have hcw:=check_cons (hsc _ hm).1 (by omega) (show (↑a:Int)<t.Inputs by omega)
 have e1:sortW (t.Prefixes++[])=t.Prefixes:=by rw [List.append_nil,sortW_of_asc hAp]
 have e2:sortW (t.Suffixes++[toW t x])=insW t.Suffixes (toW t x):=by rw [sortW_snoc,sortW_of_asc hAs]
 have hP:suffixT t (toW t x)=growT t [] [toW t x]:=by
  unfold suffixT
  rw [if_neg (by simpa using hval),if_neg (by rw [hW];simp),if_neg (by rw [hW];simpa using hcw)]
 rw [hP] at g1 ⊢
 unfold growT at g1 ⊢
 rw [e1,e2] at g1 ⊢
 by_cases h:validT ⟨t.Inputs,t.Prefixes,insW t.Suffixes (toW t x)⟩=0
 ·rw [if_neg (by simpa using h)]
  exact ⟨rfl,h,by rw [hW];simpa using hm⟩
 ·rw [if_pos h] at g1
  exact absurd g1 h
theorem sufB_ins {S:List (List Int)} {w:List Int} (h:sufB S=true) (hw:w.drop 1∈S):sufB (insW S w)=true:=by
 unfold sufB at h ⊢
 refine List.all_eq_true.2 fun e he=>?_
 rw [Bool.or_eq_true,decide_eq_true_eq,decide_eq_true_eq]
 rcases (mem_insW S w e).1 he with he | rfl
 ·have:=List.all_eq_true.1 h e he
  rw [Bool.or_eq_true,decide_eq_true_eq,decide_eq_true_eq] at this
  exact this.imp_right fun h=>(mem_insW S w _).2 (Or.inl h)
 ·exact Or.inr ((mem_insW S _ _).2 (Or.inl hw))
def stepL (l:T_api_Lazy) (o:T_api_Obs):T_api_Lazy×List (List Int)×Bool×Int :=
 if chkL l o≠0 then (l,[],false,chkL l o) else (ofT (stepT (lazT l) o).1,(stepT (lazT l) o).2)
section
variable {l:T_api_Lazy} {o:T_api_Obs}
theorem chk_laz (h:chkL l o=0):chkT (lazT l) o=0∧validL l=0∧sufB l.Suffixes=true∧validT (lazT l)=0:=by
 unfold chkL at h
 split at h
 ·rename_i h1;exact absurd h h1
 ·rename_i h1
  have h1:validL l=0:=Classical.not_not.1 h1
  have h2:=h1
  unfold validL at h2
  split at h2
  ·rename_i h3;exact absurd h2 h3
  ·rename_i h3
   have h3:validT (lazT l)=0:=Classical.not_not.1 h3
   split at h2
   ·rename_i h4
    refine ⟨?_,h1,h4,h3⟩
    unfold chkT
    rw [if_neg (by simpa using h3)]
    exact h
   ·cases h2
theorem validL_of {n:Int} {p s:List (List Int)} (h:validT ⟨n,p,s⟩=0) (h2:sufB s=true):validL ⟨n,p,s⟩=0:=by
 unfold validL lazT
 rw [if_neg (by simpa using h),if_pos h2]
theorem R28_Step_eq (ht:TabOk (lazT l)) (ho:SmO o) (hv:ObsOk o):R28_Step l o=some (stepL l o):=by
 unfold R28_Step stepL R28_Table R28_Of
 rw [R28_checked_eq ht.sm,obind]
 by_cases h:chkL l o=0
 ·rw [decide_eq_false (by simpa using h),cond_false,if_neg (by simpa using h),obind,show (⟨l.Inputs,l.Short,l.Suffixes⟩:T_api_Table)=lazT l from rfl,R24_Step_eq ht ho hv]
  rfl
 ·rw [decide_eq_true h,cond_true,if_pos h]
theorem lazy_Step_eq (ht:TabOk (lazT l)) (ho:SmO o) (hv:ObsOk o):zq113 l o=some (stepL l o):=by
 have hp:=ht.p
 have hs:=ht.s
 have hT:(⟨l.Inputs,l.Short,l.Suffixes⟩:T_api_Table)=lazT l:=rfl
 unfold zq113 stepL zq108
 rw [lazy_check_eq ht.sm,obind]
 by_cases h:chkL l o=0
 ·obtain ⟨h1,h3,h4,h5⟩:=chk_laz h
  rw [decide_eq_false (by simpa using h),cond_false,if_neg (by simpa using h),obind,hT,table_Needed_eq ht ho hv,obind,if_neg (by simpa using h1)]
  unfold stepT
  rw [if_neg (by simpa using h1)]
  by_cases h2:needL o (lazT l) (lazT l).Prefixes=[]
  ·rw [if_neg (by simpa using h2),maxR_nil.2 h2]
   have hz:=compT_of h1 h2
   obtain ⟨_,_,hAp,hAs,_⟩:=valid_asc h5
   simp only [ne_eq,not_true_eq_false,decide_false,cond_false,List.length_nil,Int.ofNat_zero,Int.natCast_zero,Int.lt_irrefl]
   rw [obind,cond_false,table_Unclosed_eq ht ho hv]
   unfold unclT
   rw [if_neg (by simpa using hz)]
   cases hf:(extL (lazT l)).find? (newRow (lazT l) o) with
   | some w =>
    obtain ⟨w1,w2⟩:=extL_mem_sm ht (List.mem_of_find?_eq_some hf)
    obtain ⟨u1,u2⟩:=uncl_ins ht hz hf
    have sm1:SmL (insW l.Short w):=sml_ins ⟨by have:l.Short.length≤30:=hp;omega,ht.sm.2.1.2⟩ (by unfold SmW;omega)
    have sm2:SmT (lazT ⟨l.Inputs,insW l.Short w,l.Suffixes⟩):=⟨ht.sm.1,sm1,ht.sm.2.2.1,fun x hx a ha=>by
     rcases (mem_insW _ _ _).1 hx with hx | rfl
     ·exact ht.sm.2.2.2 x hx a ha
     ·exact w2 a ha⟩
    simp only [obind,ne_eq,not_true_eq_false,decide_false,cond_false,cond_true]
    rw [lazy_with_eq (l:=l.Short) hAp ht.sm.2.1 (by unfold SmW;omega),obind]
    simp only [Sum.elim_inl,zq113.k1,obind]
    rw [zq83 sm2,obind,validL_of (n:=l.Inputs) (p:=insW l.Short w) (s:=l.Suffixes) u2 h4]
    simp only [ne_eq,not_true_eq_false,decide_false,cond_false]
    rw [lazy_fresh_eq (l:=⟨l.Inputs,insW l.Short w,l.Suffixes⟩) sm1 ht.sm.2.2.1,obind,u1]
    rfl
   | none =>
    simp only [obind,ne_eq,not_true_eq_false,decide_false,cond_false]
    rw [zq35 ht ho hv]
    unfold incT
    rw [if_neg (by simpa using hz)]
    cases hi:iP (lazT l) o with
    | some x =>
     have hwl:=toW_len ht x
     obtain ⟨u1,u2,u3⟩:=inc_ins ht hv hz hi
     have sm1:SmL (insW l.Suffixes (toW (lazT l) x)):=sml_ins ⟨by have:l.Suffixes.length≤12:=hs;omega,ht.sm.2.2.1.2⟩ (by unfold SmW;omega)
     have sm2:SmT (lazT ⟨l.Inputs,l.Short,insW l.Suffixes (toW (lazT l) x)⟩):=⟨ht.sm.1,ht.sm.2.1,sm1,ht.sm.2.2.2⟩
     simp only [obind,ne_eq,not_true_eq_false,decide_false,cond_false,Bool.not_true]
     rw [lazy_with_eq (l:=l.Suffixes) hAs ht.sm.2.2.1 (by unfold SmW;omega),obind,obind]
     simp only [Sum.elim_inl,zq113.k1,obind]
     rw [zq83 sm2,obind,validL_of (n:=l.Inputs) (p:=l.Short) (s:=insW l.Suffixes (toW (lazT l) x)) u2 (sufB_ins h4 u3)]
     simp only [ne_eq,not_true_eq_false,decide_false,cond_false]
     rw [lazy_fresh_eq (l:=⟨l.Inputs,l.Short,insW l.Suffixes (toW (lazT l) x)⟩) ht.sm.2.1 sm1,obind,u1]
     rfl
    | none=>rfl
  ·rw [if_pos h2,decide_eq_false (by simp),cond_false,decide_eq_true (pos_len fun h=>h2 (maxR_nil.1 h))]
   rfl
 ·rw [decide_eq_true h,cond_true,if_pos h]
theorem stepL_ok (ht:TabOk (lazT l)) (hv:ObsOk o):SmL (stepL l o).1.Short∧SmL (stepL l o).1.Suffixes∧SmL (stepL l o).2.1:=by
 unfold stepL
 split
 ·exact ⟨ht.sm.2.1,ht.sm.2.2.1,sml_nil⟩
 ·have K:=stepT_ok ht hv
  exact ⟨K.p,K.s,K.w⟩
end
theorem L28_great_eq (l:T_api_Lazy) (o:T_api_Obs) (ht:SmT (lazT l)) (ho:SmO o):∃ b,L28_great l o=some b∧(b=false→TabOk (lazT l)∧ObsOk o):=by
 have hl:=ho.1
 obtain ⟨ev,hev,hv⟩:=R16_Valid_tot o ho
 unfold L28_great R28_Table
 rw [obind,show (⟨l.Inputs,l.Short,l.Suffixes⟩:T_api_Table)=lazT l from rfl,L23_Great_eq _ _ ht.2.1.1 ht.2.2.1.1 (by omega),obind]
 cases hg:greatT (lazT l) o with
 | true=>exact ⟨true,rfl,fun h=>by cases h⟩
 | false =>
  rw [cond_false,hev,obind]
  refine ⟨decide (ev≠0),rfl,fun h=>⟨(tabOk_of ht hg).1,hv (Classical.not_not.1 (of_decide_eq_false h))⟩⟩
end Go.Proofs.YtedabpfahmealaaGreatDoor.Sym

/-
 What the bound of the laws gives: the sizes of lazy states, of tables, of observations and of splits.
-/
namespace Go.Proofs.YtedabpfahmealaaGreatDoor.Sym
theorem sum_mem {α:Type} {f:α→Nat}:∀ {l:List α} {x:α},x∈l→f x≤(l.map f).sum
 | y::l,x,h=>by
  rw [List.map_cons,List.sum_cons]
  rcases List.mem_cons.1 h with rfl | h
  ·omega
  ·have:=sum_mem (f:=f) h
   omega
theorem sum_len {α:Type} {f:α→Nat} (hf:∀ x,1≤f x):∀ l:List α,l.length≤(l.map f).sum
 | []=>by simp
 | y::l=>by
  have:=sum_len hf l
  have:=hf y
  rw [List.map_cons,List.sum_cons,List.length_cons]
  omega
theorem sz_word {x:List Int}:x.length+1=szL sz1 x:=by
 unfold szL sz1
 induction x with
 | nil=>rfl
 | cons y l ih=>simp at ih ⊢;omega
theorem sml_of {l:List (List Int)} {N:Nat} (h:szL (szL sz1) l≤N) (hN:N≤2000000):SmL l:=by
 unfold szL at h
 refine ⟨?_,fun x hx=>?_⟩
 ·have:=sum_len (f:=szL sz1) (fun x=>by rw [← sz_word];omega) l
  unfold szL at this
  omega
 ·have:=sum_mem (f:=szL sz1) hx
  rw [← sz_word] at this
  unfold szL at this
  unfold SmW
  omega
theorem trace_pos (t:T_api_Trace):1≤sz_api_Trace t:=by unfold sz_api_Trace;omega
theorem smo_of {o:T_api_Obs} (s:sz_api_Obs o≤1048576):SmO o:=by
 unfold sz_api_Obs at s
 have s1:szL sz_api_Trace o.Traces≤1048576:=by omega
 refine ⟨?_,fun t ht=>?_⟩
 ·have:=sum_len (f:=sz_api_Trace) trace_pos o.Traces
  unfold szL at s1
  omega
 ·have h1:=sum_mem (f:=sz_api_Trace) ht
  have h2:=sz_word (x:=t.In)
  have h3:=sz_word (x:=t.Out)
  have h4:(o.Traces.map sz_api_Trace).sum+1≤1048576:=s1
  have h5:sz_api_Trace t=(szL sz1 t.In+(szL sz1 t.Out+0))+1:=rfl
  omega
theorem lzt_of {t:T_api_Lazy} (k:ok_api_Lazy t) (s:sz_api_Lazy t≤1048576):SmT (lazT t):=by
 unfold sz_api_Lazy at s
 obtain ⟨k1,k2,k3⟩:=k
 have h2:SmL t.Short:=sml_of (N:=1048576) (by omega) (by omega)
 have h3:SmL t.Suffixes:=sml_of (N:=1048576) (by omega) (by omega)
 exact ⟨k1,h2,h3,k2⟩
end Go.Proofs.YtedabpfahmealaaGreatDoor.Sym

/-
 Lazy learning: answers, rows and classes that a refinement reads: plain laws.
-/
namespace Go.Proofs.YtedabpfahmealaaGreatDoor.Sym
set_option maxRecDepth 100000
section
variable {l:T_api_Lazy} {o:T_api_Obs}
end
end Go.Proofs.YtedabpfahmealaaGreatDoor.Sym

/-
 Lazy learning: refinements are the document's. Plain laws.
-/
namespace Go.Proofs.YtedabpfahmealaaGreatDoor.Sym
set_option maxRecDepth 100000
section
variable {l:T_api_Lazy} {o:T_api_Obs}
def RngW (w:List Int):Prop:=∀ a∈w,inR a
structure ChOk (l:T_api_Lazy) (v u r:List Int) (A:List (List Int)):Prop where
 h1:u.length+v.length≤2100
 h2:r.length≤30
 h3:A.length+v.length≤1200
 h4:RngW v∧RngW u∧RngW r
 h5:∀ x∈A,x.length≤2100∧RngW x
theorem RngW.snoc {w:List Int} {a:Int} (h:RngW w) (ha:inR a):RngW (w++[a]):=fun x hx=>by
 rcases List.mem_append.1 hx with hx | hx
 ·exact h x hx
 ·rw [List.mem_singleton.1 hx];exact ha
theorem ChOk.next {a b:Int} {v u r f:List Int} {A:List (List Int)} (H:ChOk l (a::b::v) u r A) (ht:TabOk (lazT l)) (hf:f∈l.Short) (c:Prop) [Decidable c]:ChOk l (b::v) (if c then r++[a] else u++[a]) f (A++[if c then r++[a] else u++[a]]):=by
 obtain ⟨h1,h2,h3,⟨h4,h5,h6⟩,h7⟩:=H
 simp only [List.length_cons] at h1 h3
 have ha:=h4 a (by simp)
 have hl:(if c then r++[a] else u++[a]).length≤31∨(if c then r++[a] else u++[a]).length=u.length+1:=by
  split
  ·left;simp;omega
  ·right;simp
 have hr:RngW (if c then r++[a] else u++[a]):=by
  split
  ·exact h6.snoc ha
  ·exact h5.snoc ha
 refine ⟨by simp only [List.length_cons];omega,ht.pw f hf,by simp only [List.length_append,List.length_cons,List.length_nil];omega,⟨fun x hx=>h4 x (List.mem_cons_of_mem _ hx),hr,ht.sm.2.2.2 f hf⟩,fun x hx=>?_⟩
 rcases List.mem_append.1 hx with hx | hx
 ·exact h7 x hx
 ·rw [List.mem_singleton.1 hx]
  exact ⟨by omega,hr⟩
end
end Go.Proofs.YtedabpfahmealaaGreatDoor.Sym

/-
 The examples of the chapter on lazy learning, reckoned.
-/
namespace Go.Proofs.YtedabpfahmealaaGreatDoor.Sym
set_option maxRecDepth 100000
theorem awake28_true:L28_awake=some true:=by decide +kernel
end Go.Proofs.YtedabpfahmealaaGreatDoor.Sym

/-
 Lazy learning: a refinement, whole; the laws of steps, hypotheses and refinements. Plain laws.
-/
namespace Go.Proofs.YtedabpfahmealaaGreatDoor.Sym
set_option maxRecDepth 100000
section
variable {l:T_api_Lazy} {o:T_api_Obs}
structure RefIn (u v:List Int):Prop where
 h1:u.length≤1025
 h2:v.length≤1024
 h3:RngW u
 h4:RngW v
theorem RefIn.ch {u v f:List Int} (H:RefIn u v) (ht:TabOk (lazT l)) (hf:f∈l.Short):ChOk l v u f [u] :=
 ⟨by have:=H.h1;have:=H.h2;omega,ht.pw f hf,by have:=H.h2;simp;omega,⟨H.h4,H.h3,ht.sm.2.2.2 f hf⟩,fun x hx=>by rw [List.mem_singleton.1 hx];exact ⟨by have:=H.h1;omega,H.h3⟩⟩
end
theorem plain_LazySteps (l:T_api_Lazy) (o:T_api_Obs) (n:Int) (ht:SmT (lazT l)) (ho:SmO o):L28_LazySteps l o n=some true:=by
 obtain ⟨b,hg,hb⟩:=L28_great_eq l o ht ho
 unfold L28_LazySteps
 rw [hg,awake28_true,obind]
 cases b with
 | true=>rfl
 | false =>
  obtain ⟨hT,hv⟩:=hb rfl
  have K:=stepL_ok (l:=l) (o:=o) hT hv
  have N:=newT_sml n
  rw [cond_false,lazy_New_eq,R28_New_eq,lazy_Step_eq hT ho hv,R28_Step_eq hT ho hv,obind,obind,obind,obind,R28_Same_eq _ _ N.1 N.2,R28_Same_eq _ _ K.1 K.2.1,R01_SameWords_eq _ _ K.2.2]
  simp
end Go.Proofs.YtedabpfahmealaaGreatDoor.Sym

/-
 The law of LazySteps, for arguments within the bound.
-/
namespace Go.Proofs.YtedabpfahmealaaGreatDoor.Sym
theorem law_L28_LazySteps (x0:T_api_Lazy) (x1:T_api_Obs) (x2:Int) (k0:ok_api_Lazy x0) (s0:sz_api_Lazy x0≤1048576) (k1:ok_api_Obs x1) (s1:sz_api_Obs x1≤1048576) (k2:inR x2):L28_LazySteps x0 x1 x2=some true :=
 plain_LazySteps x0 x1 x2 (lzt_of k0 s0) (smo_of s1)
end Go.Proofs.YtedabpfahmealaaGreatDoor.Sym

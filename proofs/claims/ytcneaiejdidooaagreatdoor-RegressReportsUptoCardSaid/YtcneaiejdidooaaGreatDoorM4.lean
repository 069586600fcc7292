/-
 Observations: what makes them valid, and their answers. Plain laws.
-/
import Derived.Test.YtcneaiejdidooaaGreatDoorM3
set_option linter.all false
namespace Go.Proofs.YtcneaiejdidooaaGreatDoor.Sym
set_option maxRecDepth 100000
def SmO (o:zam):Prop:=o.Traces.length≤1100000∧∀ t∈o.Traces,t.In.length≤1100000∧t.Out.length≤2000000
theorem zez (w p:List Int) (hw:SmW w):zcw w p=some (decide (p <+: w)):=by
 unfold zcw
 rw [zgi w p hw,obind]
 congr 1
 exact decide_eq_decide.2 (by rw [← zfy w p];omega)
theorem zek (a b:List Int) (ha:SmW a):zb1 a b=some (common a b:Int):=by
 have ha':a.length≤2000000:=ha
 have hle:=zfg a b
 unfold zb1
 have key:=zci (step:=fun k=>zb1.s2 a b k) (fun k=>k≤a.length∧k≤b.length∧common a b=common (a.drop k) (b.drop k)+k) (fun k=>a.length-k) (fun r=>Sum.elim (fun (_:Unit)=>some (min (↑(List.length a):Int) (↑(List.length b):Int))) some r=some (common a b:Int)) (fun k ⟨h1,h2,h3⟩=>by
  simp only [zb1.s2]
  by_cases h4:k<a.length∧k<b.length
  ·have hx:=get_at h4.1
   have hy:=get_at h4.2
   rw [decide_eq_true (show (↑k:Int)<min (↑(List.length a):Int) (↑(List.length b):Int) by omega),cond_true,idxn_at hx,idxn_at hy]
   rw [List.drop_eq_getElem_cons h4.1,List.drop_eq_getElem_cons h4.2] at h3
   by_cases e:a[k]=b[k]
   ·left
    refine ⟨k+1,by simp [e],⟨h4.1,h4.2,?_⟩,by omega⟩
    rw [h3,e]
    simp [common]
    omega
   ·right
    simp only [common,e,if_false,Nat.zero_add] at h3
    exact ⟨.inr (k:Int),by simp [e],by rw [h3];rfl⟩
  ·right
   rw [decide_eq_false (by omega),cond_false]
   refine ⟨.inl (),rfl,?_⟩
   rw [zjk (by omega),Nat.zero_add] at h3
   simp only [Sum.elim_inl]
   congr 1
   omega) fuel 0 ⟨Nat.zero_le _,Nat.zero_le _,by simp⟩ (by have:=fuel_big;omega)
 obtain ⟨r,e,hq⟩:=key
 rw [e]
 exact hq
theorem zdo (w p:List Int) (hw:SmW w):zch w p=some (decide (p <+: w)):=by
 unfold zch
 rw [zek w p hw,obind]
 congr 1
 exact decide_eq_decide.2 (by rw [← zfy w p];omega)
def PropT (n:Int) (t:zaa):Prop:=checkI t.In n=0∧t.Out.length=t.In.length∧∀ y∈t.Out,0≤y∧y≤1048576
theorem zmi (t:zaa) (n:Int) (h1:SmW t.In) (h2:SmW t.Out):∃ e,zct t n=some e∧(e=0→PropT n t):=by
 unfold zct
 rw [zjv _ _ h1,obind]
 by_cases g1:checkI t.In n=0
 ·rw [decide_eq_false (by simpa using g1),cond_false]
  by_cases g2:t.Out.length=t.In.length
  ·rw [decide_eq_false (by omega),cond_false]
   have key:=zcx (step:=fun s=>zct.s2 t s) (l:=t.Out) (fun _ y=>if decide (0≤y∧y≤1048576)=true then none else some (2:Int)) (fun i y hy=>by
    simp only [zct.s2]
    rw [dec_lt hy,cond_true,idxn_at hy,idxn_at hy]
    by_cases a1:y<0
    ·rw [decide_eq_true a1,cond_true,obind,cond_true,decide_eq_false (show ¬ (0≤y∧y≤1048576) by omega)];rfl
    ·by_cases a2:1048576<y
     ·rw [decide_eq_false a1,cond_false,decide_eq_true a2,obind,cond_true,decide_eq_false (show ¬ (0≤y∧y≤1048576) by omega)];rfl
     ·rw [decide_eq_false a1,cond_false,decide_eq_false a2,obind,cond_false,decide_eq_true (show (0≤y∧y≤1048576) by omega)];rfl) (by
    simp only [zct.s2]
    rw [dec_end]
    rfl) (by unfold SmW at h2;omega)
   rw [key,scan_all (p:=fun y=>decide (0≤y∧y≤1048576))]
   by_cases h:(t.Out.all fun y=>decide (0≤y∧y≤1048576))=true
   ·rw [if_pos h]
    exact ⟨0,rfl,fun _=>⟨g1,g2,fun y hy=>of_decide_eq_true (List.all_eq_true.1 h y hy)⟩⟩
   ·rw [if_neg h]
    exact ⟨2,rfl,fun e=>by cases e⟩
  ·rw [decide_eq_true (by omega),cond_true]
   exact ⟨1,rfl,fun e=>by cases e⟩
 ·rw [decide_eq_true g1,cond_true]
  exact ⟨_,rfl,fun e=>absurd e g1⟩
def Agree (a b:zaa):Prop:=a.Out.take (common a.In b.In)=b.Out.take (common a.In b.In)
theorem zmx (a b:zaa) {n:Int} (ha:PropT n a) (hb:PropT n b) (h1:SmW a.In):∃ d,zcv a b=some d∧(¬ 0≤d→Agree a b):=by
 have h1':a.In.length≤2000000:=h1
 have hc:=zfg a.In b.In
 have la:=ha.2.1
 have lb:=hb.2.1
 unfold zcv
 rw [zgi _ _ h1,obind]
 have key:=zci (step:=fun k=>zcv.s2 a b (↑(common a.In b.In):Int) k) (fun k=>k≤common a.In b.In∧a.Out.take k=b.Out.take k) (fun k=>common a.In b.In-k) (fun r=>match r with | .inl ()=>Agree a b | .inr d=>0≤d) (fun k ⟨g1,g2⟩=>by
  simp only [zcv.s2]
  by_cases g3:k<common a.In b.In
  ·have hx:=get_at (l:=a.Out) (i:=k) (by omega)
   have hy:=get_at (l:=b.Out) (i:=k) (by omega)
   rw [decide_eq_true (by omega),cond_true,idxn_at hx,idxn_at hy]
   by_cases e:a.Out[k]'(by omega)=b.Out[k]'(by omega)
   ·left
    refine ⟨k+1,by rw [decide_eq_false (by simpa using e),cond_false,chk_pos (by unfold inR;omega)],⟨g3,?_⟩,by omega⟩
    rw [zb9 hx,zb9 hy,g2,e]
   ·right
    exact ⟨.inr (k:Int),by rw [decide_eq_true e,cond_true],by simp⟩
  ·right
   have e:k=common a.In b.In:=by omega
   subst e
   exact ⟨.inl (),by rw [decide_eq_false (by omega),cond_false],g2⟩) fuel 0 ⟨Nat.zero_le _,by simp⟩ (by have:=fuel_big;omega)
 obtain ⟨r,e,hq⟩:=key
 rw [e]
 cases r with
 | inl u=>exact ⟨-1,rfl,fun _=>hq⟩
 | inr d=>exact ⟨d,rfl,fun h=>absurd hq h⟩
structure ObsOk (o:zam):Prop where
 inp:1≤o.Inputs∧o.Inputs≤64
 num:o.Traces.length≤10000
 prop:∀ t∈o.Traces,PropT o.Inputs t∧t.In≠[]
 asc:∀ (i j:Nat) a b,i<j→o.Traces[i]?=some a→o.Traces[j]?=some b→cmpW a.In b.In=-1
 apart:∀ (i j:Nat) a b,i<j→o.Traces[i]?=some a→o.Traces[j]?=some b→¬ a.In <+: b.In∧Agree a b
theorem R16_apart_tot (o:zam) (ho:SmO o) (hp:∀ t∈o.Traces,PropT o.Inputs t):∃ e,zbn o=some e∧(e=0→∀ (i j:Nat) a b,i<j→o.Traces[i]?=some a→o.Traces[j]?=some b→¬ a.In <+: b.In∧Agree a b):=by
 obtain ⟨hl,hs⟩:=ho
 unfold zbn
 have inner:∀ (i:Nat) (a:zaa),o.Traces[i]?=some a→∃ p c,iter (fun (s:Bool×Bool×Nat)=>zbn.s30 o i s.1 s.2.1 s.2.2) fuel (false,false,i+1)=some (p,c)∧(p=false→c=false→∀ j b,i<j→o.Traces[j]?=some b→¬ a.In <+: b.In∧Agree a b):=by
  intro i a ha
  have hi:=(List.getElem?_eq_some_iff.1 ha).1
  have ham:=List.mem_of_getElem? ha
  have key:=zci (step:=fun (s:Bool×Bool×Nat)=>zbn.s30 o i s.1 s.2.1 s.2.2) (fun s=>i<s.2.2∧s.2.2≤o.Traces.length∧(s.1=false→s.2.1=false→∀ j b,i<j→j<s.2.2→o.Traces[j]?=some b→¬ a.In <+: b.In∧Agree a b)) (fun s=>o.Traces.length-s.2.2) (fun r=>r.1=false→r.2=false→∀ j b,i<j→o.Traces[j]?=some b→¬ a.In <+: b.In∧Agree a b) (fun s ⟨g1,g2,g3⟩=>by
   obtain ⟨p,c,k⟩:=s
   simp only at g1 g2 g3
   simp only [zbn.s30]
   by_cases g4:k<o.Traces.length
   ·left
    have hx:=get_at g4
    have hxm:=List.getElem_mem g4
    have sx:SmW o.Traces[k].In:=by have:=(hs _ hxm).1;unfold SmW;omega
    have sa:SmW a.In:=by have:=(hs _ ham).1;unfold SmW;omega
    obtain ⟨d,hd,hd2⟩:=zmx a o.Traces[k] (hp a ham) (hp _ hxm) sa
    have hc1:(cond p (some true) (idxn o.Traces k fun e743=>idxn o.Traces i fun e744=>(zcw e743.In e744.In).bind fun c745=>some c745):Option Bool)=some (p||decide (a.In <+: o.Traces[k].In)):=by
     cases p with
     | true=>rfl
     | false =>
      rw [cond_false,idxn_at hx,idxn_at ha,zez _ _ sx,obind]
      rfl
    rw [dec_lt hx,cond_true,hc1,obind]
    cases c with
    | true =>
     refine ⟨(p||decide (a.In <+: o.Traces[k].In),true,k+1),rfl,⟨by simp only;omega,by simp only;omega,fun _ h=>by cases h⟩,by simp only;omega⟩
    | false =>
     rw [cond_false,idxn_at ha,idxn_at hx,hd,obind]
     refine ⟨(p||decide (a.In <+: o.Traces[k].In),decide (0≤d),k+1),rfl,⟨by simp only;omega,by simp only;omega,fun h1 h2 j b hj1 hj2 hb=>?_⟩,by simp only;omega⟩
     simp only [Bool.or_eq_false_iff] at h1
     rcases Nat.lt_or_ge j k with h | h
     ·exact g3 h1.1 rfl j b hj1 h hb
     ·simp only at hj2
      have e:j=k:=by omega
      subst e
      rw [hx] at hb
      injection hb with hb
      subst hb
      exact ⟨of_decide_eq_false h1.2,hd2 (of_decide_eq_false h2)⟩
   ·right
    have e:k=o.Traces.length:=by omega
    refine ⟨(p,c),by rw [decide_eq_false (by omega),cond_false],fun h1 h2 j b hj hb=>g3 h1 h2 j b hj ?_ hb⟩
    have:=(List.getElem?_eq_some_iff.1 hb).1
    omega) fuel (false,false,i+1) ⟨by simp only;omega,by simp only;omega,fun _ _ j b h1 h2=>by simp only at h2;omega⟩ (by have:=fuel_big;simp only;omega)
  obtain ⟨⟨p,c⟩,e,hq⟩:=key
  exact ⟨p,c,e,hq⟩
 have key:=zci (step:=fun i=>zbn.s32 o i) (fun i=>i≤o.Traces.length∧∀ i' j a b,i'<i→i'<j→o.Traces[i']?=some a→o.Traces[j]?=some b→¬ a.In <+: b.In∧Agree a b) (fun i=>o.Traces.length-i) (fun r=>match r with | .inl ()=>∀ (i j:Nat) a b,i<j→o.Traces[i]?=some a→o.Traces[j]?=some b→¬ a.In <+: b.In∧Agree a b | .inr e=>e≠0) (fun i ⟨g1,g2⟩=>by
  simp only [zbn.s32]
  by_cases g3:i<o.Traces.length
  ·have hx:=get_at g3
   obtain ⟨p,c,e,hq⟩:=inner i _ hx
   rw [dec_lt hx,cond_true,e,obind]
   simp only [zbn.k31]
   cases p with
   | true=>exact .inr ⟨.inr 7,rfl,(show (7:Int)≠0 by decide)⟩
   | false =>
    cases c with
    | true=>exact .inr ⟨.inr 13,rfl,(show (13:Int)≠0 by decide)⟩
    | false =>
     left
     refine ⟨i+1,rfl,⟨g3,fun i' j a b h1 h2 ha hb=>?_⟩,by omega⟩
     rcases Nat.lt_or_ge i' i with h | h
     ·exact g2 i' j a b h h2 ha hb
     ·have e:i'=i:=by omega
      subst e
      rw [hx] at ha
      injection ha with ha
      subst ha
      exact hq rfl rfl j b h2 hb
  ·right
   refine ⟨.inl (),by rw [decide_eq_false (by omega),cond_false],fun i' j a b h ha hb=>g2 i' j a b ?_ h ha hb⟩
   have:=(List.getElem?_eq_some_iff.1 ha).1
   omega) fuel 0 ⟨Nat.zero_le _,fun i' j a b h=>by omega⟩ (by have:=fuel_big;omega)
 obtain ⟨r,e,hq⟩:=key
 rw [e]
 cases r with
 | inl u=>exact ⟨0,rfl,fun _=>hq⟩
 | inr e'=>exact ⟨e',rfl,fun h=>absurd h hq⟩
theorem R16_Valid_tot (o:zam) (ho:SmO o):∃ e,zdc o=some e∧(e=0→ObsOk o):=by
 obtain ⟨hl,hs⟩:=ho
 unfold zdc
 by_cases h1:o.Inputs<1
 ·rw [decide_eq_true h1,cond_true,obind,cond_true]
  exact ⟨2,rfl,fun e=>by cases e⟩
 by_cases h2:64<o.Inputs
 ·rw [decide_eq_false h1,cond_false,decide_eq_true h2,obind,cond_true]
  exact ⟨2,rfl,fun e=>by cases e⟩
 rw [decide_eq_false h1,cond_false,decide_eq_false h2,obind,cond_false]
 by_cases h3:10000<o.Traces.length
 ·rw [decide_eq_true (by omega),cond_true]
  exact ⟨11,rfl,fun e=>by cases e⟩
 rw [decide_eq_false (by omega),cond_false]
 have key:=zci (step:=fun i=>zdc.s2 o i) (fun i=>i≤o.Traces.length∧(∀ j t,j<i→o.Traces[j]?=some t→PropT o.Inputs t∧t.In≠[])∧∀ j a b,j+1<i→o.Traces[j]?=some a→o.Traces[j+1]?=some b→cmpW a.In b.In=-1) (fun i=>o.Traces.length-i)
  (fun r=>match r with | .inl ()=>(∀ t∈o.Traces,PropT o.Inputs t∧t.In≠[])∧∀ (j:Nat) a b,o.Traces[j]?=some a→o.Traces[j+1]?=some b→cmpW a.In b.In=-1 | .inr e=>e≠0) (fun i ⟨g1,g2,g3⟩=>by
  simp only [zdc.s2]
  by_cases g4:i<o.Traces.length
  ·have hx:=get_at g4
   have hxm:=List.getElem_mem g4
   have sx:SmW o.Traces[i].In:=by have:=(hs _ hxm).1;unfold SmW;omega
   obtain ⟨e,he,he2⟩:=zmi o.Traces[i] o.Inputs sx (hs _ hxm).2
   rw [dec_lt hx,cond_true,idxn_at hx,zjv _ _ sx,obind]
   by_cases g5:checkI o.Traces[i].In o.Inputs=0
   ·rw [decide_eq_false (by simpa using g5),cond_false]
    by_cases g6:o.Traces[i].In.length=0
    ·rw [decide_eq_true (by omega),cond_true]
     exact .inr ⟨.inr 19,rfl,(show (19:Int)≠0 by decide)⟩
    ·rw [decide_eq_false (by omega),cond_false,he,obind]
     by_cases g7:e=0
     ·rw [decide_eq_false (by simpa using g7),cond_false]
      have hP:=he2 g7
      have fin:∀ b:Bool,(b=false→0<i→∀ a,o.Traces[i-1]?=some a→cmpW a.In o.Traces[i].In=-1)→(∃ s',(some b).bind (fun (y160:Bool)=>cond y160 (some (.inr (.inr 10))) (some (.inl (i+1))))=some (.inl s':Nat⊕(Unit⊕Int))∧(s'≤o.Traces.length∧(∀ j t,j<s'→o.Traces[j]?=some t→PropT o.Inputs t∧t.In≠[])∧∀ j a b,j+1<s'→o.Traces[j]?=some a→o.Traces[j+1]?=some b→cmpW a.In b.In=-1)∧o.Traces.length-s'<o.Traces.length-i)∨∃ r,(some b).bind (fun (y160:Bool)=>cond y160 (some (.inr (.inr 10))) (some (.inl (i+1))))=some (.inr r:Nat⊕(Unit⊕Int))∧(match r with | .inl ()=>(∀ t∈o.Traces,PropT o.Inputs t∧t.In≠[])∧∀ (j:Nat) a b,o.Traces[j]?=some a→o.Traces[j+1]?=some b→cmpW a.In b.In=-1 | .inr e=>e≠0):=by
       intro b hb
       cases b with
       | true=>exact .inr ⟨.inr 10,rfl,(show (10:Int)≠0 by decide)⟩
       | false =>
        left
        refine ⟨i+1,rfl,⟨g4,fun j t hj ht=>?_,fun j a b hj ha hb'=>?_⟩,by omega⟩
        ·rcases Nat.lt_or_ge j i with h | h
         ·exact g2 j t h ht
         ·have ej:j=i:=by omega
          subst ej
          rw [hx] at ht
          injection ht with ht
          subst ht
          exact ⟨hP,fun e=>g6 (by rw [e];rfl)⟩
        ·rcases Nat.lt_or_ge (j+1) i with h | h
         ·exact g3 j a b h ha hb'
         ·have ej:j+1=i:=by omega
          subst ej
          rw [hx] at hb'
          injection hb' with hb'
          subst hb'
          exact hb rfl (by omega) a (by simpa using ha)
      by_cases g8:0<i
      ·have hpv:=get_at (l:=o.Traces) (i:=i-1) (by omega)
       have sp:SmW (o.Traces[i-1]'(by omega)).In:=by have:=(hs _ (List.getElem_mem (show i-1<o.Traces.length by omega))).1;unfold SmW;omega
       rw [decide_eq_true (by omega),cond_true,idx_at (i:=i-1) (by omega) hpv,zml _ _ sp,obind]
       refine fin _ fun hb _ a ha=>?_
       rw [hpv] at ha
       injection ha with ha
       subst ha
       have h5:=of_decide_eq_false hb
       have:=zf8 (o.Traces[i-1]'(by omega)).In o.Traces[i].In
       omega
      ·rw [decide_eq_false (by omega),cond_false]
       exact fin false fun _ h=>absurd h g8
     ·rw [decide_eq_true g7,cond_true]
      exact .inr ⟨.inr e,rfl,g7⟩
   ·rw [decide_eq_true g5,cond_true]
    exact .inr ⟨.inr _,rfl,g5⟩
  ·right
   refine ⟨.inl (),by rw [decide_eq_false (by omega),cond_false],fun t ht=>?_,fun j a b ha hb=>g3 j a b ?_ ha hb⟩
   ·obtain ⟨j,hj,rfl⟩:=List.mem_iff_getElem.1 ht
    exact g2 j _ (by omega) (get_at hj)
   ·have:=(List.getElem?_eq_some_iff.1 hb).1
    omega) fuel 0 ⟨Nat.zero_le _,fun j t h=>by omega,fun j a b h=>by omega⟩ (by have:=fuel_big;omega)
 obtain ⟨r,e,hq⟩:=key
 rw [e,obind]
 cases r with
 | inr e'=>exact ⟨e',rfl,fun h=>absurd h hq⟩
 | inl u =>
  obtain ⟨hp,hone⟩:=hq
  obtain ⟨e',he,he2⟩:=R16_apart_tot o ⟨hl,hs⟩ fun t ht=>(hp t ht).1
  simp only [Sum.elim_inl]
  rw [he,obind]
  refine ⟨e',rfl,fun h=>⟨by omega,by omega,hp,?_,he2 h⟩⟩
  have key:∀ (d i:Nat) a b,o.Traces[i]?=some a→o.Traces[i+d+1]?=some b→cmpW a.In b.In=-1:=by
   intro d
   induction d with
   | zero=>exact fun i a b=>hone i a b
   | succ d ih =>
    intro i a b ha hb
    have hj:=(List.getElem?_eq_some_iff.1 hb).1
    have hm:=get_at (l:=o.Traces) (i:=i+d+1) (by omega)
    exact ze6 _ _ _ (ih i a _ ha hm) (hone _ _ _ hm (by rw [show i+d+1+1=i+(d+1)+1 by omega];exact hb))
  intro i j a b hij ha hb
  exact key (j-i-1) i a b ha (by rw [show i+(j-i-1)+1=j by omega];exact hb)
end Go.Proofs.YtcneaiejdidooaaGreatDoor.Sym

/-
 Answers and rows: the program's finder answers as the document's observations do. Plain laws.
-/
namespace Go.Proofs.YtcneaiejdidooaaGreatDoor.Sym
set_option maxRecDepth 100000
def ansO (o:zam) (w:List Int):Option (List Int) :=
 if w=[] then some [] else (o.Traces.find? fun t=>decide (w <+: t.In)).map fun t=>t.Out.take w.length
abbrev tw {α:Type} (x:Option (List α)):List α×Bool:=match x with | some r=>(r,true) | none=>([],false)
theorem pre_len {p w:List Int} (h:p <+: w):p.length≤w.length:=h.length_le
end Go.Proofs.YtcneaiejdidooaaGreatDoor.Sym

/-
 Observations that grow: the program's Add is the document's, and keeps valid observations valid. Plain laws.
-/
namespace Go.Proofs.YtcneaiejdidooaaGreatDoor.Sym
set_option maxRecDepth 100000
theorem scan_idx {α:Type} {p:α→Bool}:∀ (l:List α) (j:Nat),scan (fun i x=>if p x=true then some (↑i:Int) else none) j l=if l.any p=true then some (↑(j+l.findIdx p):Int) else none
 | [],_=>rfl
 | x::l,j=>by
  unfold scan
  by_cases h:p x=true
  ·simp [h,List.findIdx_cons]
  ·have hf:p x=false:=by simpa using h
   rw [if_neg h]
   simp only
   rw [scan_idx l (j+1)]
   simp only [List.any_cons,hf,Bool.false_or,List.findIdx_cons,cond_false]
   split
   ·congr 2
    omega
   ·rfl
theorem find_idx {α:Type} {p:α→Bool}:∀ (l:List α),l.find? p=if l.any p=true then l[l.findIdx p]? else none
 | []=>rfl
 | x::l=>by
  by_cases h:p x=true
  ·simp [h,List.findIdx_cons]
  ·have hf:p x=false:=by simpa using h
   rw [List.find?_cons_of_neg (by simp [hf]),find_idx l]
   simp [hf,List.findIdx_cons]
theorem zld {l:List zaa} {f:zaa→Option Bool} {p:zaa→Bool} (hl:l.length≤100000000000000) (hf:∀ x∈l,f x=some (p x)) :
  zak l f=some (if l.any p=true then (↑(l.findIdx p):Int) else -1):=by
 unfold zak
 have key:=zcx (step:=fun s=>zak.s2 l f s) (l:=l) (fun i x=>if p x=true then some (↑i:Int) else none) (fun i x hx=>by
  simp only [zak.s2]
  rw [dec_lt hx,cond_true,idxn_at hx,hf x (List.mem_of_getElem? hx),obind]
  cases p x<;>rfl) (by
  simp only [zak.s2]
  rw [dec_end]
  rfl) hl
 rw [key,scan_idx,obind]
 by_cases h:l.any p=true
 ·rw [if_pos h,if_pos h,Nat.zero_add]
  rfl
 ·rw [if_neg h,if_neg h]
  rfl
theorem cindex_eq {l:List Int} {f:Int→Option Bool} {p:Int→Bool} (hl:l.length≤100000000000000) (hf:∀ x∈l,f x=some (p x)) :
  zbe l f=some (l.any p):=by
 unfold zbe zat
 have key:=zcx (step:=fun s=>zat.s2 l f s) (l:=l) (fun i x=>if p x=true then some (↑i:Int) else none) (fun i x hx=>by
  simp only [zat.s2]
  rw [dec_lt hx,cond_true,idxn_at hx,hf x (List.mem_of_getElem? hx),obind]
  cases p x<;>rfl) (by
  simp only [zat.s2]
  rw [dec_end]
  rfl) hl
 rw [key,scan_idx]
 by_cases h:l.any p=true
 ·rw [if_pos h,h]
  simp
 ·have h':l.any p=false:=by simpa using h
  rw [if_neg h,h']
  rfl
def propI (t:zaa) (n:Int):Int :=
 if checkI t.In n≠0 then checkI t.In n else if t.Out.length≠t.In.length then 1 else if (t.Out.all fun y=>decide (0≤y∧y≤1048576))=true then 0 else 2
theorem zjb {t:zaa} {n:Int}:propI t n=0↔PropT n t:=by
 unfold propI PropT
 by_cases h1:checkI t.In n=0
 ·rw [if_neg (by simpa using h1)]
  by_cases h2:t.Out.length=t.In.length
  ·rw [if_neg (by simpa using h2)]
   by_cases h3:(t.Out.all fun y=>decide (0≤y∧y≤1048576))=true
   ·rw [if_pos h3]
    exact ⟨fun _=>⟨h1,h2,fun y hy=>of_decide_eq_true (List.all_eq_true.1 h3 y hy)⟩,fun _=>rfl⟩
   ·rw [if_neg h3]
    exact ⟨fun h=>(by cases h),fun h=>absurd (List.all_eq_true.2 fun y hy=>decide_eq_true (h.2.2 y hy)) h3⟩
  ·rw [if_pos h2]
   exact ⟨fun h=>(by cases h),fun h=>absurd h.2.1 h2⟩
 ·rw [if_pos h1]
  exact ⟨fun h=>absurd h h1,fun h=>absurd h.1 h1⟩
theorem zjh (t:zaa) (n:Int) (h1:SmW t.In) (h2:SmW t.Out):zdu t n=some (propI t n):=by
 unfold zdu propI
 rw [zd7 _ _ h1,obind]
 by_cases g1:checkI t.In n=0
 ·rw [decide_eq_false (by simpa using g1),cond_false,if_neg (by simpa using g1)]
  by_cases g2:t.Out.length=t.In.length
  ·rw [decide_eq_false (by omega),cond_false,if_neg (by simpa using g2)]
   rw [cindex_eq (p:=fun y=>!decide (0≤y∧y≤1048576)) (by unfold SmW at h2;omega) fun y _=>by
    unfold zdf
    by_cases a1:y<0
    ·rw [decide_eq_true a1,cond_true,obind,decide_eq_false (show ¬ (0≤y∧y≤1048576) by omega)];rfl
    ·by_cases a2:1048576<y
     ·rw [decide_eq_false a1,cond_false,decide_eq_true a2,obind,decide_eq_false (show ¬ (0≤y∧y≤1048576) by omega)];rfl
     ·rw [decide_eq_false a1,cond_false,decide_eq_false a2,obind,decide_eq_true (show (0≤y∧y≤1048576) by omega)];rfl,obind]
   by_cases h:(t.Out.all fun y=>decide (0≤y∧y≤1048576))=true
   ·have h':(t.Out.any fun y=>!decide (0≤y∧y≤1048576))=false:=by
     rw [List.any_eq_false]
     intro y hy
     have:=List.all_eq_true.1 h y hy
     simp only [this,Bool.not_true]
     exact Bool.false_ne_true
    rw [h',cond_false,if_pos h]
   ·have h':(t.Out.any fun y=>!decide (0≤y∧y≤1048576))=true:=by
     refine Classical.byContradiction fun hn=>h (List.all_eq_true.2 fun y hy=>?_)
     refine Classical.byContradiction fun hm=>hn (List.any_eq_true.2 ⟨y,hy,?_⟩)
     have:decide (0≤y∧y≤1048576)=false:=by simpa only [Bool.not_eq_true] using hm
     rw [this]
     rfl
    rw [h',cond_true,if_neg h]
  ·rw [decide_eq_true (by omega),cond_true,if_pos g2]
 ·rw [decide_eq_true g1,cond_true,if_pos g1]
theorem zmb:∀ a b:List Int,common a b=common b a
 | [],[]=>rfl
 | [],_::_=>rfl
 | _::_,[]=>rfl
 | x::a,y::b=>by
  unfold common
  by_cases h:x=y
  ·rw [if_pos h,if_pos h.symm,zmb a b]
  ·rw [if_neg h,if_neg fun e=>h e.symm]
theorem Agree.symm {a b:zaa} (h:Agree a b):Agree b a:=by
 unfold Agree at h ⊢
 rw [zmb]
 exact h.symm
theorem common_eq_iff {x y:List Int} (h:x.length=y.length):common x y=y.length↔x=y:=by
 rw [zfy]
 exact ⟨fun hp=>(hp.eq_of_length h.symm).symm,fun e=>e ▸ List.prefix_refl _⟩
theorem ziv (a b:zaa) {n:Int} (ha:PropT n a) (hb:PropT n b) (h1:SmW a.In):∃ d,zds a b=some d∧(0≤d↔¬ Agree a b):=by
 have h1':a.In.length≤2000000:=h1
 have hc:=zfg a.In b.In
 have la:=ha.2.1
 have lb:=hb.2.1
 unfold zds
 rw [zek _ _ h1,obind]
 have hm:min (min (↑(common a.In b.In):Int) (↑(List.length a.Out):Int)) (↑(List.length b.Out):Int)=↑(common a.In b.In):=by omega
 rw [hm,chk_pos (by omega),chk_pos (by omega),Int.toNat_natCast,zek _ _ (by unfold SmW;rw [List.length_take];omega),obind]
 have l1:(a.Out.take (common a.In b.In)).length=common a.In b.In:=by rw [List.length_take];omega
 have l2:(b.Out.take (common a.In b.In)).length=common a.In b.In:=by rw [List.length_take];omega
 have hle:=zfg (a.Out.take (common a.In b.In)) (b.Out.take (common a.In b.In))
 have hiff:=common_eq_iff (x:=a.Out.take (common a.In b.In)) (y:=b.Out.take (common a.In b.In)) (by omega)
 by_cases h:common (a.Out.take (common a.In b.In)) (b.Out.take (common a.In b.In))<common a.In b.In
 ·rw [decide_eq_true (by omega),cond_true]
  exact ⟨_,rfl,fun _ hA=>by have:=hiff.2 hA;omega,fun _=>by omega⟩
 ·rw [decide_eq_false (by omega),cond_false]
  exact ⟨-1,rfl,fun h=>absurd h (by decide),fun hA=>absurd (hiff.1 (by omega)) hA⟩
def clashO (l:List zaa) (t:zaa):Prop:=∃ u∈l,¬ Agree u t
def insideO (l:List zaa) (w:List Int):Bool:=l.any fun u=>decide (w <+: u.In)
def insT:List zaa→zaa→List zaa
 | [],t=>[t]
 | x::r,t=>if cmpW t.In x.In=-1 then t::x::r else x::insT r t
def restT (l:List zaa) (t:zaa):List zaa:=l.filter fun u=>!decide (u.In <+: t.In)
def addL (l:List zaa) (t:zaa):List zaa:=if insideO l t.In=true∨t.In=[] then l else insT (restT l t) t
instance (a b:zaa):Decidable (Agree a b):=by unfold Agree;infer_instance
instance (l:List zaa) (t:zaa):Decidable (clashO l t):=by unfold clashO;infer_instance
def addO (o:zam) (t:zaa):zam×Int :=
 if propI t o.Inputs≠0 then (o,propI t o.Inputs) else if clashO o.Traces t then (o,13) else if 10000<(addL o.Traces t).length then (o,11) else (⟨o.Inputs,addL o.Traces t⟩,0)
theorem zkr (l:List zaa) (t:zaa):(insT l t).length=l.length+1:=by
 induction l with
 | nil=>rfl
 | cons x r ih =>
  unfold insT
  split
  ·rfl
  ·simp [ih]
theorem zjy (l:List zaa) (t:zaa):(restT l t).length≤l.length:=List.length_filter_le _ _
theorem addL_length (l:List zaa) (t:zaa):(addL l t).length≤l.length+1:=by
 unfold addL
 split
 ·omega
 ·rw [zkr]
  have:=zjy l t
  omega
theorem mem_insT {l:List zaa} {t x:zaa}:x∈insT l t↔x=t∨x∈l:=by
 induction l with
 | nil=>simp [insT]
 | cons y r ih =>
  unfold insT
  split
  ·simp
  ·simp only [List.mem_cons,ih]
   constructor
   ·rintro (h | h | h)
    ·exact .inr (.inl h)
    ·exact .inl h
    ·exact .inr (.inr h)
   ·rintro (h | h | h)
    ·exact .inr (.inl h)
    ·exact .inl h
    ·exact .inr (.inr h)
theorem insT_at:∀ {l:List zaa} {t:zaa} {k:Nat},k≤l.length→(∀ j x,j<k→l[j]?=some x→cmpW x.In t.In=-1)→(∀ x,l[k]?=some x→cmpW x.In t.In≠-1)→(∀ x∈l,x.In≠t.In)→insT l t=l.take k++[t]++l.drop k
 | [],t,k,hk,_,_,_=>by
  have:k=0:=by simpa using hk
  subst this
  rfl
 | x::r,t,0,_,_,h2,h3=>by
  have h4:=h2 x rfl
  have h5:=h3 x (by simp)
  have r1:=zf8 x.In t.In
  have z1:=zks x.In t.In
  have s1:=ziq x.In t.In
  have h6:¬ cmpW x.In t.In=0:=fun e=>h5 (z1.1 e)
  unfold insT
  rw [if_pos (by omega)]
  rfl
 | x::r,t,k+1,hk,h1,h2,h3=>by
  have h4:=h1 0 x (Nat.succ_pos _) rfl
  have s1:=ziq x.In t.In
  unfold insT
  rw [if_neg (by omega),insT_at (k:=k) (by simpa using hk) (fun j y hj hy=>h1 (j+1) y (by omega) (by simpa using hy)) (fun y hy=>h2 y (by simpa using hy)) fun y hy=>h3 y (by simp [hy])]
  rfl
theorem insT_pair {S:zaa→zaa→Prop} {t:zaa}:∀ {l:List zaa},l.Pairwise S→(∀ x∈l,S x t∧S t x)→(insT l t).Pairwise S
 | [],_,_=>by simp [insT]
 | x::r,h,ht=>by
  unfold insT
  have hx:=List.pairwise_cons.1 h
  split
  ·exact List.pairwise_cons.2 ⟨fun y hy=>(ht y hy).2,h⟩
  ·refine List.pairwise_cons.2 ⟨fun y hy=>?_,insT_pair hx.2 fun y hy=>ht y (by simp [hy])⟩
   rcases mem_insT.1 hy with e | e
   ·subst e
    exact (ht x (by simp)).1
   ·exact hx.1 y e
theorem insT_asc {t:zaa}:∀ {l:List zaa},l.Pairwise (fun a b=>cmpW a.In b.In=-1)→(∀ x∈l,x.In≠t.In)→(insT l t).Pairwise (fun a b=>cmpW a.In b.In=-1)
 | [],_,_=>by simp [insT]
 | x::r,h,hn=>by
  unfold insT
  have hx:=List.pairwise_cons.1 h
  split
  ·rename_i h1
   refine List.pairwise_cons.2 ⟨fun y hy=>?_,h⟩
   rcases List.mem_cons.1 hy with e | e
   ·rw [e]
    exact h1
   ·exact ze6 _ _ _ h1 (hx.1 y e)
  ·rename_i h1
   refine List.pairwise_cons.2 ⟨fun y hy=>?_,insT_asc hx.2 fun y hy=>hn y (by simp [hy])⟩
   rcases mem_insT.1 hy with e | e
   ·subst e
    have r1:=zf8 x.In y.In
    have z1:=zks x.In y.In
    have s1:=ziq x.In y.In
    have h6:¬ cmpW x.In y.In=0:=fun e=>hn x (by simp) (z1.1 e)
    omega
   ·exact hx.1 y e
theorem ObsOk.pw {o:zam} (hv:ObsOk o):o.Traces.Pairwise (fun a b=>cmpW a.In b.In=-1)∧o.Traces.Pairwise (fun a b=>¬ a.In <+: b.In∧Agree a b) :=
 ⟨List.pairwise_iff_getElem.2 fun i j hi hj hij=>hv.asc i j _ _ hij (get_at hi) (get_at hj),List.pairwise_iff_getElem.2 fun i j hi hj hij=>hv.apart i j _ _ hij (get_at hi) (get_at hj)⟩
theorem obsOk_of {o:zam} (h1:1≤o.Inputs∧o.Inputs≤64) (h2:o.Traces.length≤10000) (h3:∀ t∈o.Traces,PropT o.Inputs t∧t.In≠[]) (h4:o.Traces.Pairwise (fun a b=>cmpW a.In b.In=-1)) (h5:o.Traces.Pairwise (fun a b=>¬ a.In <+: b.In∧Agree a b)):ObsOk o:=by
 refine ⟨h1,h2,h3,fun i j a b hij ha hb=>?_,fun i j a b hij ha hb=>?_⟩
 all_goals
  obtain ⟨hi,rfl⟩:=List.getElem?_eq_some_iff.1 ha
  obtain ⟨hj,rfl⟩:=List.getElem?_eq_some_iff.1 hb
 ·exact List.pairwise_iff_getElem.1 h4 i j hi hj hij
 ·exact List.pairwise_iff_getElem.1 h5 i j hi hj hij
theorem insideO_false {l:List zaa} {w:List Int} (h:¬ insideO l w=true):∀ u∈l,¬ w <+: u.In:=fun u hu hp=>h (List.any_eq_true.2 ⟨u,hu,decide_eq_true hp⟩)
theorem addO_ok {o:zam} {t:zaa} (hv:ObsOk o):ObsOk (addO o t).1:=by
 unfold addO
 split
 ·exact hv
 rename_i hp
 have hp:PropT o.Inputs t:=zjb.1 (by simpa using hp)
 split
 ·exact hv
 rename_i hc
 split
 ·exact hv
 rename_i hn
 have hn:(addL o.Traces t).length≤10000:=by omega
 unfold addL at hn ⊢
 by_cases h:insideO o.Traces t.In=true∨t.In=[]
 ·rw [if_pos h]
  exact hv
 ·rw [if_neg h] at hn ⊢
  have h1:=insideO_false fun e=>h (.inl e)
  have h2:t.In≠[]:=fun e=>h (.inr e)
  have hsub:(restT o.Traces t).Sublist o.Traces:=List.filter_sublist
  have hrest:∀ x∈restT o.Traces t,x∈o.Traces∧¬ x.In <+: t.In:=fun x hx=>by
   have:=List.mem_filter.1 hx
   refine ⟨this.1,fun e=>?_⟩
   rw [decide_eq_true e] at this
   exact Bool.false_ne_true this.2
  have hag:∀ x∈o.Traces,Agree x t:=fun x hx=>Classical.byContradiction fun e=>hc ⟨x,hx,e⟩
  refine obsOk_of hv.inp hn (fun x hx=>?_) (insT_asc (hv.pw.1.sublist hsub) fun x hx e=>(hrest x hx).2 (e ▸ List.prefix_refl _)) (insT_pair (hv.pw.2.sublist hsub) fun x hx=>⟨⟨(hrest x hx).2,hag x (hrest x hx).1⟩,h1 x (hrest x hx).1,(hag x (hrest x hx).1).symm⟩)
  rcases mem_insT.1 hx with e | e
  ·rw [e]
   exact ⟨hp,h2⟩
  ·exact hv.prop x (hrest x e).1
end Go.Proofs.YtcneaiejdidooaaGreatDoor.Sym

/-
 Observations that grow: what the program's Add and the document's Add come to. Plain laws.
-/
namespace Go.Proofs.YtcneaiejdidooaaGreatDoor.Sym
set_option maxRecDepth 100000
def SmX (t:zaa):Prop:=SmW t.In∧SmW t.Out
def SmTr (l:List zaa):Prop:=l.length≤1200000∧∀ t∈l,SmX t
theorem SmO.tr {o:zam} (h:SmO o):SmTr o.Traces:=⟨by have:=h.1;omega,fun t ht=>⟨by have:=(h.2 t ht).1;unfold SmW;omega,(h.2 t ht).2⟩⟩
theorem capT {n:Nat} (h:n≤3000000):capOk n 48:=by unfold capOk;omega
theorem zf0 {t:zaa} (h:SmX t):zdh t=some t:=by
 unfold zdh
 rw [zbw h.1,obind,zbw h.2,obind]
theorem zkc {l:List zaa} (h:SmTr l):zbz l=some l:=by
 have hl:=h.1
 unfold zbz
 rw [chk_pos ⟨by decide,by omega,by rw [show ((↑l.length:Int)+1).toNat=l.length+1 by omega];exact capT (by omega)⟩]
 have key:=zci (step:=fun (s:List zaa×Nat)=>zbz.s2 l s.1 s.2) (fun s=>s.2≤l.length∧s.1=l.take s.2) (fun s=>l.length-s.2) (fun r=>r=l) (fun ⟨y,i⟩ ⟨g1,g2⟩=>by
  simp only at g1 g2
  subst g2
  simp only [zbz.s2]
  by_cases g3:i<l.length
  ·left
   have hx:=get_at g3
   refine ⟨(l.take (i+1),i+1),?_,⟨g3,rfl⟩,by simp only;omega⟩
   rw [dec_lt hx,cond_true,idxn_at hx,zf0 (h.2 _ (List.getElem_mem _)),obind,chk_pos (capT (by rw [List.length_take];omega)),zb9 hx]
  ·right
   have e:i=l.length:=by omega
   subst e
   exact ⟨l,by rw [dec_end,cond_false,List.take_length],rfl⟩) fuel ([],0) ⟨Nat.zero_le _,rfl⟩ (by have:=fuel_big;simp only;omega)
 obtain ⟨r,e,rfl⟩:=key
 rw [e,obind]
theorem tdelete_eq {l:List zaa} {f:zaa→Option Bool} {p:zaa→Bool} (hl:l.length≤100000000) (hf:∀ x∈l,f x=some (p x)) :
  zag l f=some (l.filter fun x=>!p x):=by
 unfold zag
 rw [zld (by omega) hf,obind]
 by_cases h:l.any p=true
 ·rw [if_pos h,decide_eq_false (by omega),cond_false]
  have hi:l.findIdx p<l.length:=List.findIdx_lt_length_of_exists (by simpa using List.any_eq_true.1 h)
  have hx:=get_at hi
  have hpx:p l[l.findIdx p]=true:=List.findIdx_getElem
  have hbefore:∀ (k:Nat),k≤l.findIdx p→(l.take k).filter (fun x=>!p x)=l.take k:=fun k hk=>by
   refine List.filter_eq_self.2 fun x hx=>?_
   obtain ⟨j,hj,rfl⟩:=List.mem_iff_getElem.1 hx
   rw [List.length_take] at hj
   rw [List.getElem_take]
   have:=List.not_of_lt_findIdx (p:=p) (xs:=l) (i:=j) (by omega)
   have h9:p l[j]=false:=by simpa using this
   rw [h9]
   rfl
  rw [chk_pos (by unfold inR;omega)]
  have key:=zci (step:=fun (s:List zaa×Int×Int)=>zag.s2 f s.1 s.2.1 s.2.2)
   (fun s=>∃ i j:Nat,s.2.1=(i:Int)∧s.2.2=(j:Int)∧i<j∧j≤l.length∧s.1.length=l.length∧s.1.drop j=l.drop j∧s.1.take i=(l.take j).filter fun x=>!p x) (fun s=>(↑l.length-s.2.2).toNat)
   (fun r=>∃ i:Nat,r.2=(i:Int)∧i≤l.length∧0<l.length∧r.1.length=l.length∧r.1.take i=l.filter fun x=>!p x) (fun ⟨y,si,sj⟩ ⟨i,j,g1,g2,g3,g4,g5,g6,g7⟩=>by
    simp only at g1 g2 g5 g6 g7
    subst g1 g2
    simp only [zag.s2]
    by_cases g8:j<l.length
    ·left
     have hz:=get_at g8
     have hy:y[j]?=some l[j]:=by
      have h1:(y.drop j)[0]?=(l.drop j)[0]?:=by rw [g6]
      rw [List.getElem?_drop,List.getElem?_drop,Nat.add_zero,hz] at h1
      exact h1
     rw [decide_eq_true (by omega),cond_true,idx_at rfl hy,hf _ (List.getElem_mem _),obind]
     have hd:∀ u:List zaa,u.drop j=l.drop j→u.drop (j+1)=l.drop (j+1):=fun u hu=>by
      rw [← List.drop_drop,hu,List.drop_drop]
     cases hp:p l[j] with
     | false =>
      have hyi:=get_at (l:=y) (i:=i) (by omega)
      refine ⟨(y.set i l[j],((i+1:Nat):Int),((j+1:Nat):Int)),?_,⟨i+1,j+1,rfl,rfl,by omega,by omega,by simpa using g5,?_,?_⟩,by simp only;omega⟩
      ·rw [Bool.not_false,cond_true,idx_at rfl hyi,chk_pos (by unfold inR;omega),chk_pos (by unfold inR;omega)]
       simp
      ·rw [List.drop_set_of_lt (by omega)]
       exact hd y g6
      ·rw [zb9 hz,List.filter_append,← g7]
       have hset:(y.set i l[j])[i]?=some l[j]:=by rw [List.getElem?_set_self (by omega)]
       rw [zb9 hset,List.take_set_of_le (by omega)]
       simp [hp]
     | true =>
      refine ⟨(y,(i:Int),((j+1:Nat):Int)),?_,⟨i,j+1,rfl,rfl,by omega,by omega,g5,hd y g6,?_⟩,by simp only;omega⟩
      ·rw [Bool.not_true,cond_false,chk_pos (by unfold inR;omega)]
       simp
      ·rw [zb9 hz,List.filter_append,← g7]
       simp [hp]
    ·right
     have e:j=l.length:=by omega
     subst e
     refine ⟨(y,(i:Int)),by rw [decide_eq_false (by omega),cond_false],i,rfl,by omega,by omega,g5,?_⟩
     rw [g7,List.take_length]) fuel (l,(↑(l.findIdx p):Int),(↑(l.findIdx p):Int)+1) ⟨l.findIdx p,l.findIdx p+1,rfl,by simp,by omega,hi,rfl,rfl,by
    rw [zb9 hx,List.filter_append,hbefore _ (Nat.le_refl _)]
    simp [hpx]⟩ (by have:=fuel_big;simp only;omega)
  obtain ⟨⟨y,si⟩,e,i,g1,g2,g3,g4,g5⟩:=key
  simp only at g1 g4 g5
  subst g1
  rw [e,obind]
  simp only [zag.k3]
  have hlen:(List.take i y++List.replicate (y.length-i) (⟨[],[]⟩:zaa)).length=y.length:=by
   rw [List.length_append,List.length_take,List.length_replicate]
   omega
  rw [Int.toNat_natCast,hlen,chk_pos (by omega),chk_pos (by omega),chk_pos (by omega),List.take_append_of_le_length (by rw [List.length_take];omega),List.take_take,Nat.min_self,g5]
 ·have h':l.any p=false:=by simpa using h
  rw [if_neg h,decide_eq_true rfl,cond_true]
  congr 1
  refine (List.filter_eq_self.2 fun x hx=>?_).symm
  have:=List.any_eq_false.1 h' x hx
  simpa using this
theorem tsearch_eq {F:List zaa} {t:zaa} (hs:F.Pairwise fun a b=>cmpW a.In b.In=-1) (hl:F.length≤2000000) (hw:∀ x∈F,SmW x.In) :
  ∃ k:Nat,∃ b,zah F t (fun u0 u1=>zcp u0 u1)=some ((↑k:Int),b)∧k≤F.length∧(∀ j x,j<k→F[j]?=some x→cmpW x.In t.In=-1)∧∀ x,F[k]?=some x→cmpW x.In t.In≠-1:=by
 have hc:∀ x∈F,zcp x t=some (cmpW x.In t.In):=fun x hx=>by
  unfold zcp
  rw [zhj _ _ (by have:=hw x hx;unfold SmW at this;omega),obind]
 have hlt:∀ {i j:Nat} {a b:zaa},i<j→F[i]?=some a→F[j]?=some b→cmpW a.In b.In=-1:=fun {i j a b} hij ha hb=>by
  obtain ⟨hi,rfl⟩:=List.getElem?_eq_some_iff.1 ha
  obtain ⟨hj,rfl⟩:=List.getElem?_eq_some_iff.1 hb
  exact List.pairwise_iff_getElem.1 hs i j hi hj hij
 have key:=zci (step:=fun (s:Int×Int)=>zah.s2 F t (fun u0 u1=>zcp u0 u1) s.1 s.2)
  (fun s=>∃ i j:Nat,s.1=(i:Int)∧s.2=(j:Int)∧i≤j∧j≤F.length∧(∀ k x,k<i→F[k]?=some x→cmpW x.In t.In=-1)∧∀ k x,j≤k→F[k]?=some x→cmpW x.In t.In≠-1) (fun s=>(s.2-s.1).toNat)
  (fun r=>∃ k:Nat,r=(k:Int)∧k≤F.length∧(∀ j x,j<k→F[j]?=some x→cmpW x.In t.In=-1)∧∀ x,F[k]?=some x→cmpW x.In t.In≠-1) (fun s ⟨i,j,g1,g2,g3,g4,g5,g6⟩=>by
   obtain ⟨si,sj⟩:=s
   simp only at g1 g2
   subst g1 g2
   simp only [zah.s2]
   by_cases g7:i<j
   ·left
    have hmid:((↑i:Int)+↑j) / 2^1=((i+j) / 2:Nat):=by omega
    have hx:=get_at (l:=F) (i:=(i+j) / 2) (by omega)
    rw [decide_eq_true (by omega),cond_true,chk_pos (by unfold inR;omega),chk_pos (by omega),chk_pos (by omega),chk_pos (by unfold inR;omega),idx_at hmid hx,hc _ (List.getElem_mem _),obind]
    have r:=zf8 (F[(i+j) / 2]'(by omega)).In t.In
    by_cases g8:cmpW (F[(i+j) / 2]'(by omega)).In t.In<0
    ·refine ⟨(((i+j) / 2+1:Nat),(j:Int)),?_,⟨(i+j) / 2+1,j,rfl,rfl,by omega,g4,fun k x hk hx2=>?_,g6⟩,by simp only;omega⟩
     ·rw [decide_eq_true g8,cond_true,chk_pos (by unfold inR;omega),hmid]
      simp
     ·rcases Nat.lt_or_ge k ((i+j) / 2) with h | h
      ·exact ze6 _ _ _ (hlt h hx2 hx) (by omega)
      ·have e:k=(i+j) / 2:=by omega
       subst e
       rw [hx] at hx2
       injection hx2 with hx2
       subst hx2
       omega
    ·refine ⟨((i:Int),(((i+j) / 2:Nat):Int)),?_,⟨i,(i+j) / 2,rfl,rfl,by omega,by omega,g5,fun k x hk hx2=>?_⟩,by simp only;omega⟩
     ·rw [decide_eq_false g8,cond_false,hmid]
     ·intro h9
      rcases Nat.lt_or_ge ((i+j) / 2) k with h | h
      ·have:=ze6 _ _ _ (hlt h hx hx2) h9
       omega
      ·have e:k=(i+j) / 2:=by omega
       subst e
       rw [hx] at hx2
       injection hx2 with hx2
       subst hx2
       omega
   ·right
    have e:i=j:=by omega
    subst e
    refine ⟨(i:Int),by rw [decide_eq_false (by omega),cond_false],i,rfl,g4,g5,fun x hx2=>g6 i x (Nat.le_refl _) hx2⟩) fuel (0,(↑(List.length F):Int)) ⟨0,F.length,rfl,rfl,Nat.zero_le _,Nat.le_refl _,fun k x h=>by omega,fun k x h hx2=>by
    have:=(List.getElem?_eq_some_iff.1 hx2).1
    omega⟩ (by have:=fuel_big;simp only;omega)
 obtain ⟨r,e,k,hk,h1,h2,h3⟩:=key
 subst hk
 unfold zah
 rw [e,obind]
 by_cases h4:k<F.length
 ·have hx:=get_at h4
  rw [decide_eq_true (by omega),cond_true,idx_at rfl hx,show (fun (u0:zaa) (u1:zaa)=>zcp u0 u1) F[k] t=some (cmpW F[k].In t.In) from hc _ (List.getElem_mem _),obind,obind]
  exact ⟨k,_,rfl,h1,h2,h3⟩
 ·rw [decide_eq_false (by omega),cond_false,obind]
  exact ⟨k,_,rfl,h1,h2,h3⟩
theorem zmq {o:zam} {t:zaa} (ho:SmTr o.Traces) (hv:ObsOk o) (ht:SmX t) (hp:PropT o.Inputs t) :
  zcn o.Traces t=some (if clashO o.Traces t then ([],13) else if 10000<(addL o.Traces t).length then ([],11) else (addL o.Traces t,0)):=by
 have hl:=ho.1
 unfold zcn
 have key:=zci (step:=fun (s:Bool×Nat)=>zcn.s2 o.Traces t s.1 s.2) (fun s=>s.2≤o.Traces.length∧(∀ u∈o.Traces.take s.2,Agree u t)∧s.1=insideO (o.Traces.take s.2) t.In) (fun s=>o.Traces.length-s.2)
  (fun r=>match r with | .inl b=>¬ clashO o.Traces t∧b=insideO o.Traces t.In | .inr x=>clashO o.Traces t∧x=([],13)) (fun ⟨b,i⟩ ⟨g1,g2,g3⟩=>by
   simp only at g1 g2 g3
   simp only [zcn.s2]
   by_cases g4:i<o.Traces.length
   ·have hx:=get_at g4
    have hxm:=List.getElem_mem g4
    obtain ⟨d,hd,hd2⟩:=ziv o.Traces[i] t (hv.prop _ hxm).1 hp (ho.2 _ hxm).1
    rw [dec_lt hx,cond_true,idxn_at hx,hd,obind]
    by_cases g5:0≤d
    ·right
     exact ⟨.inr ([],13),by rw [decide_eq_true g5,cond_true],⟨_,hxm,hd2.1 g5⟩,rfl⟩
    ·left
     have hA:Agree o.Traces[i] t:=Classical.byContradiction fun e=>g5 (hd2.2 e)
     have hst:insideO (o.Traces.take (i+1)) t.In=(b||decide (t.In <+: o.Traces[i].In)):=by
      rw [zb9 hx,g3]
      unfold insideO
      rw [List.any_append]
      simp
     refine ⟨(insideO (o.Traces.take (i+1)) t.In,i+1),?_,⟨g4,fun u hu=>?_,rfl⟩,by simp only;omega⟩
     ·rw [decide_eq_false g5,cond_false,hst]
      cases b with
      | true=>rfl
      | false =>
       rw [cond_false,zdo _ _ (ho.2 _ hxm).1,obind]
       rfl
     ·rw [zb9 hx] at hu
      rcases List.mem_append.1 hu with h | h
      ·exact g2 u h
      ·rw [List.mem_singleton.1 h]
       exact hA
   ·right
    have e:i=o.Traces.length:=by omega
    subst e
    rw [List.take_length] at g2 g3
    exact ⟨.inl b,by rw [dec_end,cond_false],fun ⟨u,hu,h⟩=>h (g2 u hu),g3⟩) fuel (false,0) ⟨Nat.zero_le _,fun u hu=>by simp at hu,rfl⟩ (by have:=fuel_big;simp only;omega)
 obtain ⟨r,e,hq⟩:=key
 rw [e,obind]
 cases r with
 | inr x =>
  rw [if_pos hq.1,hq.2]
  rfl
 | inl b =>
  obtain ⟨h1,rfl⟩:=hq
  rw [if_neg h1]
  simp only [Sum.elim_inl]
  have hb:(cond (insideO o.Traces t.In) (some true) (some (decide ((↑(List.length t.In):Int)=0))):Option Bool)=some (decide (insideO o.Traces t.In=true∨t.In=[])):=by
   cases hi:insideO o.Traces t.In with
   | true=>rfl
   | false =>
    rw [cond_false]
    congr 1
    refine decide_eq_decide.2 ⟨fun h=>.inr (List.eq_nil_of_length_eq_zero (by omega)),fun h=>?_⟩
    rcases h with h | h
    ·cases h
    ·rw [h];rfl
  rw [hb,obind]
  by_cases h2:insideO o.Traces t.In=true∨t.In=[]
  ·have ha:addL o.Traces t=o.Traces:=if_pos h2
   have hn:=hv.num
   rw [decide_eq_true h2,cond_true,ha,if_neg (by omega)]
  ·have ha:addL o.Traces t=insT (restT o.Traces t) t:=if_neg h2
   rw [decide_eq_false h2,cond_false,tdelete_eq (p:=fun u=>decide (u.In <+: t.In)) (by omega) fun x hx=>by
    unfold zd4
    rw [zdo _ _ ht.1,obind],obind]
   have hrl:=zjy o.Traces t
   have hn:=hv.num
   have hil:=zkr (restT o.Traces t) t
   rw [show (o.Traces.filter fun x=>!decide (x.In <+: t.In))=restT o.Traces t from rfl,ha]
   by_cases h3:(restT o.Traces t).length=10000
   ·rw [decide_eq_true (by omega),cond_true,if_pos (by omega)]
   ·rw [decide_eq_false (by omega),cond_false,if_neg (by omega)]
    have hsub:(restT o.Traces t).Sublist o.Traces:=List.filter_sublist
    have hne:∀ x∈restT o.Traces t,x.In≠t.In:=fun x hx e=>by
     have:=(List.mem_filter.1 hx).2
     rw [e,decide_eq_true (List.prefix_refl _)] at this
     exact Bool.false_ne_true this
    obtain ⟨k,b,e,k1,k2,k3⟩:=tsearch_eq (t:=t) (hv.pw.1.sublist hsub) (by omega) fun x hx=>(ho.2 x (hsub.subset hx)).1
    rw [e,obind,zf0 ht,obind]
    simp only
    unfold zed
    rw [chk_pos ⟨by omega,by omega,rfl,by omega⟩,obind,Int.toNat_natCast,← insT_at k1 k2 k3 hne]
theorem zmd {o:zam} {t:zaa} (ho:SmTr o.Traces) (hv:ObsOk o) (ht:SmX t):ze8 o t=some (addO o t):=by
 have hl:=ho.1
 unfold ze8 zcc addO
 rw [zkc ho,obind,show fuel=2+(fuel-2) by unfold fuel;rfl]
 have h1:zcc.s2 o [t] o.Traces 0=if propI t o.Inputs≠0 then some (.inr (.inr (o,propI t o.Inputs))) else if clashO o.Traces t then some (.inr (.inr (o,13))) else if 10000<(addL o.Traces t).length then some (.inr (.inr (o,11))) else some (.inl (addL o.Traces t,1)):=by
  unfold zcc.s2
  rw [decide_eq_true (by simp),cond_true,idxn_at (x:=t) rfl,zjh _ _ ht.1 ht.2,obind]
  by_cases g1:propI t o.Inputs=0
  ·rw [decide_eq_false (by simpa using g1),cond_false,if_neg (by simpa using g1),zmq ho hv ht (zjb.1 g1),obind]
   split
   ·rfl
   ·split
    ·rfl
    ·rfl
  ·rw [decide_eq_true g1,cond_true,if_pos g1]
 have h2:∀ l,zcc.s2 o [t] l 1=some (.inr (.inl l)):=fun l=>by
  unfold zcc.s2
  rw [decide_eq_false (by simp),cond_false]
 rw [Nat.add_comm 2 (fuel-2)]
 unfold iter
 rw [h1]
 by_cases g1:propI t o.Inputs≠0
 ·simp [g1]
 ·simp only [g1,if_false]
  by_cases g2:clashO o.Traces t
  ·simp [g2]
  ·simp only [g2,if_false]
   by_cases g3:10000<(addL o.Traces t).length
   ·simp [g3]
   ·simp only [g3,if_false]
    unfold iter
    rw [h2]
    simp
theorem zfm {o:zam} {w:List Int} (ho:SmTr o.Traces) (hv:ObsOk o):zdi o w=some (tw (ansO o w)):=by
 have hl:=ho.1
 unfold zdi ansO
 by_cases h0:w=[]
 ·subst h0
  rfl
 ·have hwl:w.length≠0:=fun h=>h0 (List.eq_nil_of_length_eq_zero h)
  rw [if_neg h0,decide_eq_false (by omega),cond_false,zld (p:=fun u=>decide (w <+: u.In)) (by omega) fun x hx=>by
   unfold zdd
   rw [zdo _ _ (ho.2 x hx).1,obind],obind,find_idx]
  by_cases h:(o.Traces.any fun u=>decide (w <+: u.In))=true
  ·rw [if_pos h,if_pos h,decide_eq_false (by omega),cond_false]
   have hi:o.Traces.findIdx (fun u=>decide (w <+: u.In))<o.Traces.length:=List.findIdx_lt_length_of_exists (by simpa using List.any_eq_true.1 h)
   have hx:=get_at hi
   have hpx:decide (w <+: (o.Traces[o.Traces.findIdx fun u=>decide (w <+: u.In)]).In)=true:=List.findIdx_getElem (p:=fun (u:zaa)=>decide (w <+: u.In))
   have hpx:=of_decide_eq_true hpx
   have hm:=List.getElem_mem hi
   have hP:=(hv.prop _ hm).1
   have hS:=ho.2 _ hm
   have hle:=hpx.length_le
   have hlo:=hP.2.1
   have hso:=hS.2
   unfold SmW at hso
   rw [idx_at rfl hx,hx]
   generalize o.Traces[o.Traces.findIdx fun u=>decide (w <+: u.In)]=u at hpx hP hS hle hlo hso
   rw [show min (↑w.length:Int) ↑u.Out.length=↑w.length by omega,chk_pos (by omega),Int.toNat_natCast,zbw (by unfold SmW;rw [List.length_take];omega),obind]
   rfl
  ·rw [if_neg h,if_neg h,decide_eq_true (by decide),cond_true]
   rfl
end Go.Proofs.YtcneaiejdidooaaGreatDoor.Sym

/-
 Rows, missing queries and maximal words: the program's are the document's. Plain laws.
-/
namespace Go.Proofs.YtcneaiejdidooaaGreatDoor.Sym
set_option maxRecDepth 100000
theorem ansO_len {o:zam} (hv:ObsOk o) {w r:List Int} (h:ansO o w=some r):r.length=w.length:=by
 unfold ansO at h
 split at h
 ·rename_i h0
  injection h with h
  rw [← h,h0]
 ·obtain ⟨t,ht,rfl⟩:=Option.map_eq_some_iff.1 h
  have hm:=List.mem_of_find?_eq_some ht
  have hp:w <+: t.In:=by simpa using List.find?_some ht
  have:=(hv.prop t hm).1.2.1
  have:=pre_len hp
  rw [List.length_take]
  omega
end Go.Proofs.YtcneaiejdidooaaGreatDoor.Sym

/-
 Machines: validity and runs. Plain laws.
-/
namespace Go.Proofs.YtcneaiejdidooaaGreatDoor.Sym
set_option maxRecDepth 100000
structure MacOk (m:zab):Prop where
 i1:1≤m.Inputs
 i2:m.Inputs≤64
 n1:0<m.Next.length
 n2:m.Next.length≤128
 st:0≤m.Start∧m.Start<(↑m.Next.length:Int)
 ol:m.Out.length=m.Next.length
 row:∀ s,s<m.Next.length→∃ x y,m.Next[s]?=some x∧m.Out[s]?=some y∧(↑x.length:Int)=m.Inputs∧(↑y.length:Int)=m.Inputs∧(∀ u∈x,0≤u∧u<(↑m.Next.length:Int))∧∀ v∈y,0≤v∧v≤1048576
def nx (m:zab) (s a:Nat):Nat:=((((m.Next[s]?).getD [])[a]?).getD 0).toNat
def ot (m:zab) (s a:Nat):Int:=(((m.Out[s]?).getD [])[a]?).getD 0
section
variable {m:zab}
theorem MacOk.at (H:MacOk m) {s a:Nat} (hs:s<m.Next.length) (ha:a<m.Inputs.toNat):nx m s a<m.Next.length∧0≤ot m s a∧ot m s a≤1048576∧∃ x y,m.Next[s]?=some x∧m.Out[s]?=some y∧x[a]?=some (↑(nx m s a):Int)∧y[a]?=some (ot m s a):=by
 obtain ⟨x,y,h1,h2,h3,h4,h5,h6⟩:=H.row s hs
 have hx:=get_at (l:=x) (i:=a) (by omega)
 have hy:=get_at (l:=y) (i:=a) (by omega)
 have e1:nx m s a=(x[a]'(by omega)).toNat:=by
  unfold nx
  rw [h1,Option.getD_some,hx,Option.getD_some]
 have e2:ot m s a=y[a]'(by omega):=by
  unfold ot
  rw [h2,Option.getD_some,hy,Option.getD_some]
 have g1:=h5 _ (List.getElem_mem (by omega:a<x.length))
 have g2:=h6 _ (List.getElem_mem (by omega:a<y.length))
 refine ⟨by rw [e1];omega,by rw [e2];exact g2.1,by rw [e2];exact g2.2,x,y,h1,h2,?_,by rw [e2];exact hy⟩
 rw [hx,e1]
 congr 1
 omega
def outs (m:zab):Nat→List Int→List Int
 | _,[]=>[]
 | s,a::w=>ot m s a.toNat::outs m (nx m s a.toNat) w
def dest (m:zab):Nat→List Int→Nat
 | s,[]=>s
 | s,a::w=>dest m (nx m s a.toNat) w
def WOk (n:Int) (w:List Int):Prop:=∀ a∈w,0≤a∧a<n
theorem zee:∀ (w v:List Int) (s:Nat),outs m s (w++v)=outs m s w++outs m (dest m s w) v
 | [],_,_=>rfl
 | a::w,v,s=>by
  show ot m s a.toNat::outs m (nx m s a.toNat) (w++v)=_
  rw [zee w v]
  rfl
theorem zgn:∀ (w v:List Int) (s:Nat),dest m s (w++v)=dest m (dest m s w) v
 | [],_,_=>rfl
 | _::w,v,_=>zgn w v _
theorem outs_len:∀ (w:List Int) (s:Nat),(outs m s w).length=w.length
 | [],_=>rfl
 | a::w,s=>by
  show (outs m (nx m s a.toNat) w).length+1=w.length+1
  rw [outs_len w]
theorem WOk.tail {n:Int} {a:Int} {w:List Int} (h:WOk n (a::w)):WOk n w:=fun x hx=>h x (List.mem_cons_of_mem _ hx)
theorem WOk.head {n:Int} {a:Int} {w:List Int} (h:WOk n (a::w)):0≤a∧a<n:=h a (by simp)
theorem WOk.take {n:Int} {w:List Int} (h:WOk n w) (k:Nat):WOk n (w.take k):=fun x hx=>h x (List.mem_of_mem_take hx)
theorem WOk.append {n:Int} {w v:List Int} (h:WOk n w) (g:WOk n v):WOk n (w++v):=fun x hx=>(List.mem_append.1 hx).elim (h x) (g x)
theorem MacOk.dest (H:MacOk m):∀ {w:List Int} {s:Nat},WOk m.Inputs w→s<m.Next.length→dest m s w<m.Next.length
 | [],_,_,hs=>hs
 | a::w,s,hw,hs=>by
  have:=hw.head
  exact H.dest (w:=w) hw.tail (H.at hs (a:=a.toNat) (by omega)).1
def RowRng (n:Nat) (u v:Int):Prop:=(0≤u∧u<(↑n:Int))∧0≤v∧v≤1048576
theorem R06_row_tot (h1:m.Inputs≤64) {s:Nat} (hs:s<m.Next.length) (ho:m.Out.length=m.Next.length):∃ e,R06_row m (↑s:Int)=some e∧(e=0→∃ x y,m.Next[s]?=some x∧m.Out[s]?=some y∧(↑x.length:Int)=m.Inputs∧(↑y.length:Int)=m.Inputs∧(∀ u∈x,0≤u∧u<(↑m.Next.length:Int))∧∀ v∈y,0≤v∧v≤1048576):=by
 obtain ⟨x,hx⟩:∃ x,m.Next[s]?=some x:=⟨_,get_at hs⟩
 obtain ⟨y,hy⟩:∃ y,m.Out[s]?=some y:=⟨_,get_at (l:=m.Out) (i:=s) (by omega)⟩
 unfold R06_row
 rw [idx_at rfl hx]
 by_cases g1:(↑x.length:Int)=m.Inputs
 ·by_cases g2:(↑y.length:Int)=m.Inputs
  ·rw [decide_eq_false (fun h=>h g1),cond_false,idx_at rfl hy,decide_eq_false (fun h=>h g2),obind,cond_false]
   obtain ⟨r,hr,hq⟩:=zci (step:=fun a=>R06_row.s2 m (↑s:Int) a) (fun a=>a≤x.length∧∀ b u v,b<a→x[b]?=some u→y[b]?=some v→RowRng m.Next.length u v) (fun a=>x.length-a) (fun r=>r=.inr 2∨(r=.inl ()∧∀ b u v,b<x.length→x[b]?=some u→y[b]?=some v→RowRng m.Next.length u v)) (fun a ⟨q1,q2⟩=>by
    simp only [R06_row.s2]
    by_cases q3:a<x.length
    ·obtain ⟨u,ha⟩:∃ u,x[a]?=some u:=⟨_,get_at q3⟩
     obtain ⟨v,hb⟩:∃ v,y[a]?=some v:=⟨_,get_at (l:=y) (i:=a) (by omega)⟩
     rw [decide_eq_true (by omega),cond_true,idx_at rfl hx,idxn_at ha]
     by_cases z1:u<0
     ·right
      exact ⟨.inr 2,by rw [decide_eq_true z1];rfl,Or.inl rfl⟩
     rw [decide_eq_false z1,cond_false,idx_at rfl hx,idxn_at ha]
     by_cases z2:(↑m.Next.length:Int)≤u
     ·right
      exact ⟨.inr 2,by rw [decide_eq_true z2];rfl,Or.inl rfl⟩
     rw [decide_eq_false z2,cond_false,idx_at rfl hy,idxn_at hb]
     by_cases z3:v<0
     ·right
      exact ⟨.inr 2,by rw [decide_eq_true z3];rfl,Or.inl rfl⟩
     rw [decide_eq_false z3,cond_false,idx_at rfl hy,idxn_at hb]
     by_cases z4:1048576<v
     ·right
      exact ⟨.inr 2,by rw [decide_eq_true z4];rfl,Or.inl rfl⟩
     left
     refine ⟨a+1,by rw [decide_eq_false z4,obind,cond_false,chk_pos (by unfold inR;omega)],⟨q3,fun b u' v' hb' hu hv=>?_⟩,by omega⟩
     rcases Nat.lt_or_ge b a with h | h
     ·exact q2 b u' v' h hu hv
     ·have e:b=a:=by omega
      subst e
      rw [ha] at hu
      rw [hb] at hv
      injection hu with hu
      injection hv with hv
      subst hu
      subst hv
      exact ⟨⟨by omega,by omega⟩,by omega,by omega⟩
    ·right
     have e:a=x.length:=by omega
     subst e
     exact ⟨.inl (),by rw [decide_eq_false (by omega),cond_false],Or.inr ⟨rfl,q2⟩⟩) fuel 0 ⟨Nat.zero_le _,fun b _ _ h=>absurd h (Nat.not_lt_zero _)⟩ (by have:=fuel_big;omega)
   rw [hr,obind]
   rcases hq with rfl | ⟨rfl,hq⟩
   ·exact ⟨2,rfl,fun h=>by cases h⟩
   ·refine ⟨0,rfl,fun _=>⟨x,y,hx,hy,g1,g2,fun u hu=>?_,fun v hv=>?_⟩⟩
    ·obtain ⟨b,hb,rfl⟩:=List.mem_iff_getElem.1 hu
     exact (hq b _ _ hb (get_at hb) (get_at (l:=y) (by omega))).1
    ·obtain ⟨b,hb,rfl⟩:=List.mem_iff_getElem.1 hv
     exact (hq b _ _ (by omega) (get_at (l:=x) (by omega)) (get_at hb)).2
  ·exact ⟨1,by rw [decide_eq_false (fun h=>h g1),cond_false,idx_at rfl hy,decide_eq_true g2];rfl,fun h=>by cases h⟩
 ·exact ⟨1,by rw [decide_eq_true g1];rfl,fun h=>by cases h⟩
theorem zi3 (m:zab):∃ e,zb8 m=some e∧(e=0→MacOk m):=by
 unfold zb8
 by_cases c1:m.Inputs<1
 ·exact ⟨2,by rw [decide_eq_true c1];rfl,fun h=>by cases h⟩
 rw [decide_eq_false c1,cond_false]
 by_cases c2:64<m.Inputs
 ·exact ⟨2,by rw [decide_eq_true c2];rfl,fun h=>by cases h⟩
 rw [decide_eq_false c2,obind,cond_false]
 by_cases c3:(↑m.Next.length:Int)=0
 ·exact ⟨19,by rw [decide_eq_true c3];rfl,fun h=>by cases h⟩
 rw [decide_eq_false c3,cond_false]
 by_cases c4:128<(↑m.Next.length:Int)
 ·exact ⟨11,by rw [decide_eq_true c4];rfl,fun h=>by cases h⟩
 rw [decide_eq_false c4,cond_false]
 by_cases c5:m.Start<0
 ·exact ⟨2,by rw [decide_eq_true c5];rfl,fun h=>by cases h⟩
 rw [decide_eq_false c5,cond_false]
 by_cases c6:(↑m.Next.length:Int)≤m.Start
 ·exact ⟨2,by rw [decide_eq_true c6];rfl,fun h=>by cases h⟩
 rw [decide_eq_false c6,obind,cond_false]
 by_cases c7:(↑m.Out.length:Int)=(↑m.Next.length:Int)
 ·rw [decide_eq_false (fun h=>h c7),cond_false]
  have ho:m.Out.length=m.Next.length:=by omega
  obtain ⟨r,hr,hq⟩:=zci (step:=fun s=>zb8.s2 m s) (fun a=>a≤m.Next.length∧∀ s,s<a→∃ x y,m.Next[s]?=some x∧m.Out[s]?=some y∧(↑x.length:Int)=m.Inputs∧(↑y.length:Int)=m.Inputs∧(∀ u∈x,0≤u∧u<(↑m.Next.length:Int))∧∀ v∈y,0≤v∧v≤1048576) (fun a=>m.Next.length-a) (fun r=>(∃ e,r=.inr e∧e≠0)∨(r=.inl ()∧∀ s,s<m.Next.length→∃ x y,m.Next[s]?=some x∧m.Out[s]?=some y∧(↑x.length:Int)=m.Inputs∧(↑y.length:Int)=m.Inputs∧(∀ u∈x,0≤u∧u<(↑m.Next.length:Int))∧∀ v∈y,0≤v∧v≤1048576)) (fun a ⟨q1,q2⟩=>by
   simp only [zb8.s2]
   by_cases q3:a<m.Next.length
   ·obtain ⟨e,he,hz⟩:=R06_row_tot (m:=m) (by omega) q3 ho
    rw [decide_eq_true (by omega),cond_true,he,obind]
    by_cases z:e=0
    ·left
     refine ⟨a+1,by rw [decide_eq_false (fun h=>h z),cond_false],⟨q3,fun s hs=>?_⟩,by omega⟩
     rcases Nat.lt_or_ge s a with h | h
     ·exact q2 s h
     ·have e2:s=a:=by omega
      subst e2
      exact hz z
    ·right
     exact ⟨.inr e,by rw [decide_eq_true z,cond_true],Or.inl ⟨e,rfl,z⟩⟩
   ·right
    have e:a=m.Next.length:=by omega
    subst e
    exact ⟨.inl (),by rw [decide_eq_false (by omega),cond_false],Or.inr ⟨rfl,q2⟩⟩) fuel 0 ⟨Nat.zero_le _,fun s h=>absurd h (Nat.not_lt_zero _)⟩ (by have:=fuel_big;omega)
  rw [hr,obind]
  rcases hq with ⟨e,rfl,hz⟩ | ⟨rfl,hq⟩
  ·exact ⟨e,rfl,fun h=>absurd h hz⟩
  ·exact ⟨0,rfl,fun _=>⟨by omega,by omega,by omega,by omega,⟨by omega,by omega⟩,ho,hq⟩⟩
 ·exact ⟨1,by rw [decide_eq_true c7];rfl,fun h=>by cases h⟩
theorem macOk_of (h:zb8 m=some 0):MacOk m:=by
 obtain ⟨e,he,hz⟩:=zi3 m
 rw [h] at he
 injection he with he
 exact hz he.symm
end
end Go.Proofs.YtcneaiejdidooaaGreatDoor.Sym

/-
 Devices: what the program's and the document's Query come to. Plain laws.
-/
namespace Go.Proofs.YtcneaiejdidooaaGreatDoor.Sym
set_option maxRecDepth 100000
theorem zmc {m:zab} (H:MacOk m):zap m=some 0:=by
 have i1:=H.i1
 have i2:=H.i2
 have n1:=H.n1
 have n2:=H.n2
 have st:=H.st
 have ol:=H.ol
 unfold zap
 rw [decide_eq_false (by omega),cond_false,decide_eq_false (by omega),obind,cond_false,decide_eq_false (by omega),cond_false,decide_eq_false (by omega),cond_false,decide_eq_false (by omega),cond_false,decide_eq_false (by omega),obind,cond_false,decide_eq_false (by omega),cond_false]
 have inner:∀ s,s<m.Next.length→iter (fun (a:Nat)=>zap.s13 m s a) fuel 0=some (.inl ()):=fun s hs =>
  iter_eq (fun a=>a≤m.Inputs.toNat) (fun a=>m.Inputs.toNat-a) (fun a ha=>by
   simp only [zap.s13]
   by_cases g:a<m.Inputs.toNat
   ·left
    obtain ⟨h1,h2,h3,x,y,hx,hy,hxa,hya⟩:=H.at hs g
    refine ⟨a+1,?_,g,by omega⟩
    rw [decide_eq_true (by omega),cond_true,idxn_at hx,idxn_at hxa,idxn_at hy,idxn_at hya,decide_eq_false (by omega),cond_false,decide_eq_false (by omega),cond_false,decide_eq_false (by omega),cond_false,decide_eq_false (by omega),obind,cond_false,chk_pos (by unfold inR;omega)]
   ·right
    rw [decide_eq_false (by omega),cond_false]) (Nat.zero_le _) (by have:=fuel_big;omega)
 have outer:iter (fun (s:Nat)=>zap.s14 m s) fuel 0=some (.inl ()) :=
  iter_eq (fun s=>s≤m.Next.length) (fun s=>m.Next.length-s) (fun s hs=>by
   simp only [zap.s14]
   by_cases g:s<m.Next.length
   ·left
    obtain ⟨x,y,hx,hy,hl1,hl2,_,_⟩:=H.row s g
    refine ⟨s+1,?_,g,by omega⟩
    rw [decide_eq_true (by omega),cond_true,idxn_at hx,decide_eq_false (by omega),cond_false,idxn_at hy,decide_eq_false (by omega),obind,cond_false,inner s g,obind]
    rfl
   ·right
    rw [decide_eq_false (by omega),cond_false]) (Nat.zero_le _) (by have:=fuel_big;omega)
 rw [outer,obind]
 rfl
abbrev costOk (l:zav):Prop:=(∀ c∈l.Step,0≤c∧c≤1048576)∧0≤l.Reset∧l.Reset≤1048576
abbrev cntOk (n:Int):Prop:=0≤n∧n≤1125899906842624
abbrev faultOk (f:zbg):Prop:=(0≤f.Lost∧f.Lost≤10000)∧(0≤f.Wrong∧f.Wrong≤10000)∧(0≤f.Crash∧f.Crash≤10000)∧f.Lost+f.Wrong+f.Crash≤10000
theorem zc3 (n m:Int):zbp n m=some (decide (n<0∨m<n)):=by
 unfold zbp
 by_cases h1:n<0<;>by_cases h2:m<n<;>simp [h1,h2]
theorem zi8 (u:zar):zb0 u=some (decide (cntOk u.Device.Steps∧cntOk u.Device.Resets∧cntOk u.Device.Time)):=by
 unfold zb0
 simp only [zc3,obind]
 by_cases h1:u.Device.Steps<0∨1125899906842624<u.Device.Steps
 ·rw [decide_eq_true h1,decide_eq_false (show ¬ (cntOk u.Device.Steps∧cntOk u.Device.Resets∧cntOk u.Device.Time) by omega)];rfl
 ·rw [decide_eq_false h1]
  by_cases h2:u.Device.Resets<0∨1125899906842624<u.Device.Resets
  ·rw [decide_eq_true h2,decide_eq_false (show ¬ (cntOk u.Device.Steps∧cntOk u.Device.Resets∧cntOk u.Device.Time) by omega)];rfl
  ·rw [decide_eq_false h2]
   by_cases h3:u.Device.Time<0∨1125899906842624<u.Device.Time
   ·rw [decide_eq_true h3,decide_eq_false (show ¬ (cntOk u.Device.Steps∧cntOk u.Device.Resets∧cntOk u.Device.Time) by omega)];rfl
   ·rw [decide_eq_false h3,decide_eq_true (by omega)];rfl
theorem zmo (n:Int):zdx n=some (decide (cntOk n)):=by
 unfold zdx
 by_cases h1:0≤n<;>by_cases h2:n≤1125899906842624<;>simp [h1,h2]
theorem R19_rate_eq (n:Int):R19_rate n=some (decide (0≤n∧n≤10000)):=by
 unfold R19_rate
 by_cases h1:0≤n<;>by_cases h2:n≤10000<;>simp [h1,h2]
theorem R19_costs_eq {l:zav} (hl:l.Step.length≤100000000):zc0 l=some (decide (costOk l)):=by
 unfold zc0
 have key:=zcx (step:=fun s=>zc0.s2 l s) (l:=l.Step) (fun _ y=>if decide (0≤y∧y≤1048576)=true then none else some false) (fun i y hy=>by
  simp only [zc0.s2]
  rw [dec_lt hy,cond_true,idxn_at hy,idxn_at hy]
  by_cases a1:y<0
  ·rw [decide_eq_true a1,cond_true,obind,cond_true,decide_eq_false (show ¬ (0≤y∧y≤1048576) by omega)];rfl
  ·by_cases a2:1048576<y
   ·rw [decide_eq_false a1,cond_false,decide_eq_true a2,obind,cond_true,decide_eq_false (show ¬ (0≤y∧y≤1048576) by omega)];rfl
   ·rw [decide_eq_false a1,cond_false,decide_eq_false a2,obind,cond_false,decide_eq_true (show (0≤y∧y≤1048576) by omega)];rfl) (by
  simp only [zc0.s2]
  rw [dec_end]
  rfl) (by omega)
 rw [key,scan_all (p:=fun y=>decide (0≤y∧y≤1048576)),obind]
 by_cases h:(l.Step.all fun y=>decide (0≤y∧y≤1048576))=true
 ·rw [if_pos h]
  simp only [Sum.elim_inl]
  have h':∀ c∈l.Step,0≤c∧c≤1048576:=fun c hc=>of_decide_eq_true (List.all_eq_true.1 h c hc)
  by_cases h1:0≤l.Reset<;>by_cases h2:l.Reset≤1048576
  ·rw [decide_eq_true h1,cond_true,decide_eq_true h2,obind,decide_eq_true ⟨h',h1,h2⟩]
  ·rw [decide_eq_true h1,cond_true,decide_eq_false h2,obind,decide_eq_false fun e=>h2 e.2.2]
  ·rw [decide_eq_false h1,cond_false,obind,decide_eq_false fun e=>h1 e.2.1]
  ·rw [decide_eq_false h1,cond_false,obind,decide_eq_false fun e=>h1 e.2.1]
 ·rw [if_neg h]
  simp only [Sum.elim_inr]
  rw [decide_eq_false fun e=>h (List.all_eq_true.2 fun y hy=>decide_eq_true (e.1 y hy))]
theorem zlg {l:zav} (hl:l.Step.length≤100000000) (h:costOk l):zes l=some 0:=by
 unfold zes zdg
 rw [zc3,obind,obind,decide_eq_false (by have:=h.2;omega),cond_false,cindex_eq (p:=fun n=>decide (n<0∨1048576<n)) (by omega) fun x _=>by rw [zc3,obind],obind]
 have:(l.Step.any fun n=>decide (n<0∨1048576<n))=false:=List.any_eq_false.2 fun x hx=>by
  have:=h.1 x hx
  simp only [decide_eq_true_eq]
  omega
 rw [this,obind,cond_false]
structure DevOk (d:zaf):Prop where
 v6:zb8 d.M=some 0
 st:0≤d.State∧d.State<(↑d.M.Next.length:Int)
 ll:(↑d.Latency.Step.length:Int)=d.M.Inputs
 lc:costOk d.Latency
 fl:faultOk d.Faults
 c1:cntOk d.Steps
 c2:cntOk d.Resets
 c3:cntOk d.Time
theorem DevOk.mac {d:zaf} (H:DevOk d):MacOk d.M:=macOk_of H.v6
theorem DevOk.lat {d:zaf} (H:DevOk d):d.Latency.Step.length≤64:=by
 have:=H.ll
 have:=H.mac.i2
 omega
theorem R19_Valid_tot (d:zaf) (hl:d.Latency.Step.length≤100000000):∃ e,zhg d=some e∧(e=0→DevOk d):=by
 obtain ⟨e6,h6,h6z⟩:=zi3 d.M
 unfold zhg
 rw [h6,obind]
 by_cases g1:e6=0
 ·have g1':=g1
  subst g1
  rw [decide_eq_false (by decide),cond_false]
  by_cases g2:d.State<0
  ·exact ⟨2,by rw [decide_eq_true g2];rfl,fun h=>by cases h⟩
  by_cases g3:(↑d.M.Next.length:Int)≤d.State
  ·exact ⟨2,by rw [decide_eq_false g2,cond_false,decide_eq_true g3];rfl,fun h=>by cases h⟩
  rw [decide_eq_false g2,cond_false,decide_eq_false g3,obind,cond_false]
  unfold R19_Fits
  by_cases g4:(↑d.Latency.Step.length:Int)=d.M.Inputs
  ·rw [decide_eq_false (fun h=>h g4),cond_false,R19_costs_eq hl,obind]
   by_cases g5:costOk d.Latency
   ·rw [decide_eq_true g5,Bool.not_true,cond_false,obind,decide_eq_false (by decide),cond_false]
    simp only [R19_rate_eq,obind]
    by_cases f1:0≤d.Faults.Lost∧d.Faults.Lost≤10000
    ·rw [decide_eq_true f1,Bool.not_true,cond_false]
     by_cases f2:0≤d.Faults.Wrong∧d.Faults.Wrong≤10000
     ·rw [decide_eq_true f2,Bool.not_true,cond_false]
      by_cases f3:0≤d.Faults.Crash∧d.Faults.Crash≤10000
      ·rw [decide_eq_true f3,Bool.not_true,cond_false,chk_pos (by unfold inR;omega),chk_pos (by unfold inR;omega),obind]
       by_cases f4:10000<d.Faults.Lost+d.Faults.Wrong+d.Faults.Crash
       ·exact ⟨2,by rw [decide_eq_true f4];rfl,fun h=>by cases h⟩
       rw [decide_eq_false f4,cond_false]
       simp only [zmo,obind]
       by_cases k1:cntOk d.Steps
       ·rw [decide_eq_true k1,Bool.not_true,cond_false]
        by_cases k2:cntOk d.Resets
        ·rw [decide_eq_true k2,Bool.not_true,cond_false]
         by_cases k3:cntOk d.Time
         ·exact ⟨0,by rw [decide_eq_true k3];rfl,fun _=>⟨h6,by omega,g4,g5,⟨f1,f2,f3,by omega⟩,k1,k2,k3⟩⟩
         ·exact ⟨2,by rw [decide_eq_false k3];rfl,fun h=>by cases h⟩
        ·exact ⟨2,by rw [decide_eq_false k2];rfl,fun h=>by cases h⟩
       ·exact ⟨2,by rw [decide_eq_false k1];rfl,fun h=>by cases h⟩
      ·exact ⟨2,by rw [decide_eq_false f3];rfl,fun h=>by cases h⟩
     ·exact ⟨2,by rw [decide_eq_false f2];rfl,fun h=>by cases h⟩
    ·exact ⟨2,by rw [decide_eq_false f1];rfl,fun h=>by cases h⟩
   ·exact ⟨2,by rw [decide_eq_false g5];rfl,fun h=>by cases h⟩
  ·exact ⟨1,by rw [decide_eq_true g4];rfl,fun h=>by cases h⟩
 ·exact ⟨e6,by rw [decide_eq_true g1,cond_true,obind],fun h=>absurd h g1⟩
theorem zlu {d:zaf} (H:DevOk d):zep d=some 0:=by
 have hl:=H.lat
 have st:=H.st
 obtain ⟨f1,f2,f3,f4⟩:=H.fl
 unfold zep
 rw [zmc H.mac,obind,decide_eq_false (by decide),cond_false]
 simp only [zc3,obind]
 rw [decide_eq_false (by omega),cond_false,decide_eq_false (fun h=>h H.ll),cond_false,zlg (by omega) H.lc,obind,decide_eq_false (by decide),cond_false,decide_eq_false (by omega),cond_false,decide_eq_false (by omega),cond_false,decide_eq_false (by omega),cond_false,chk_pos (by unfold inR;omega),chk_pos (by unfold inR;omega),decide_eq_false (by omega),cond_false,zi8,obind]
 simp only
 rw [decide_eq_true ⟨H.c1,H.c2,H.c3⟩]
 rfl
def resetD (d:zaf):zaf×Int :=
 if cntOk (d.Resets+1)∧cntOk (d.Time+d.Latency.Reset) then (⟨d.M,d.M.Start,true,d.Latency,d.Faults,d.Seed,d.Steps,d.Resets+1,d.Time+d.Latency.Reset⟩,0) else (d,11)
def costD (d:zaf) (a:Int):Int:=(d.Latency.Step[a.toNat]?).getD 0
def outD (f:zbg) (x o:Int):Int:=if x<f.Lost then -1 else if x<f.Lost+f.Wrong then (if o=1048576 then o-1 else o+1) else o
def readyD (f:zbg) (x:Int) (b:Bool):Bool:=if x<f.Lost+f.Wrong then b else if x<f.Lost+f.Wrong+f.Crash then false else b
def stepD (d:zaf) (a:Int):zaf×Int×Int :=
 if d.Ready=false then (d,0,10) else if cntOk (d.Steps+1)∧cntOk (d.Time+costD d a) then
  (⟨d.M,(↑(nx d.M d.State.toNat a.toNat):Int),readyD d.Faults (↑(drawN d.Seed.toNat).1:Int) d.Ready,d.Latency,d.Faults,(↑(drawN d.Seed.toNat).2:Int),d.Steps+1,d.Resets,d.Time+costD d a⟩,outD d.Faults (↑(drawN d.Seed.toNat).1:Int) (ot d.M d.State.toNat a.toNat),0)
 else (d,0,11)
section
variable {d:zaf}
theorem reset_p (H:DevOk d):zc5 ⟨d⟩=some ((resetD d).2,⟨(resetD d).1⟩):=by
 have c1:=H.c1
 have c2:=H.c2
 have c3:=H.c3
 have lr:=H.lc.2
 unfold zc5 resetD
 rw [chk_pos (by unfold inR;simp only;omega),chk_pos (by unfold inR;simp only;omega),zi8,obind]
 simp only
 by_cases h:cntOk (d.Resets+1)∧cntOk (d.Time+d.Latency.Reset)
 ·rw [if_pos h,decide_eq_true ⟨H.c1,h.1,h.2⟩]
  rfl
 ·rw [if_neg h,decide_eq_false fun e=>h e.2]
  rfl
theorem resetD_ok (H:DevOk d):DevOk (resetD d).1:=by
 unfold resetD
 split
 ·rename_i h
  exact ⟨H.v6,H.mac.st,H.ll,H.lc,H.fl,H.c1,h.1,h.2⟩
 ·exact H
theorem seed_nat (h:0≤d.Seed∧d.Seed<18446744073709551616):d.Seed=(↑d.Seed.toNat:Int):=by omega
theorem stepD_ok (H:DevOk d) (hs:0≤d.Seed∧d.Seed<18446744073709551616) {a:Int} (ha:0≤a∧a<d.M.Inputs):DevOk (stepD d a).1∧(0≤(stepD d a).1.Seed∧(stepD d a).1.Seed<18446744073709551616)∧(stepD d a).1.M=d.M∧(-1≤(stepD d a).2.1∧(stepD d a).2.1≤1048576):=by
 have st:=H.st
 obtain ⟨h1,h2,h3,_⟩:=H.mac.at (s:=d.State.toNat) (a:=a.toNat) (by omega) (by omega)
 have hd:=draw_lt d.Seed.toNat
 unfold stepD
 split
 ·exact ⟨H,hs,rfl,by simp,by simp⟩
 split
 ·rename_i h
  refine ⟨⟨H.v6,⟨by simp only;omega,by simp only;omega⟩,H.ll,H.lc,H.fl,h.1,H.c2,h.2⟩,⟨by simp only;omega,by simp only;omega⟩,rfl,?_⟩
  simp only
  unfold outD
  split
  ·decide
  ·split
   ·split<;>omega
   ·omega
 ·exact ⟨H,hs,rfl,by simp,by simp⟩
theorem step_p (H:DevOk d) (hs:0≤d.Seed∧d.Seed<18446744073709551616) {a:Int} (ha:0≤a∧a<d.M.Inputs):zde ⟨d⟩ a=some ((stepD d a).2.1,(stepD d a).2.2,⟨(stepD d a).1⟩):=by
 have c1:=H.c1
 have c2:=H.c2
 have c3:=H.c3
 have st:=H.st
 have i2:=H.mac.i2
 have ll:=H.ll
 obtain ⟨f1,f2,f3,f4⟩:=H.fl
 obtain ⟨h1,h2,h3,x,y,hx,hy,hxa,hya⟩:=H.mac.at (s:=d.State.toNat) (a:=a.toNat) (by omega) (by omega)
 have hc:d.Latency.Step[a.toNat]?=some (costD d a):=by
  unfold costD
  rw [List.getElem?_eq_getElem (by omega)]
  rfl
 have hcr:=H.lc.1 _ (List.mem_of_getElem? hc)
 have ea:a=(↑a.toNat:Int):=by omega
 have es:d.State=(↑d.State.toNat:Int):=by omega
 have hB:=zma d.Seed.toNat
 rw [← seed_nat hs] at hB
 unfold zde stepD
 simp only
 cases hr:d.Ready with
 | false =>
  rw [if_pos rfl]
  rfl
 | true =>
  rw [if_neg (by decide),Bool.not_true,cond_false,chk_pos (by unfold inR;omega),zc3,obind,decide_eq_false (by omega),cond_false,chk_pos (by unfold inR;omega),idx_at ea hc,chk_pos (by unfold inR;omega),zi8,obind]
  simp only
  by_cases h:cntOk (d.Steps+1)∧cntOk (d.Time+costD d a)
  ·rw [if_pos h,decide_eq_true ⟨h.1,H.c2,h.2⟩,Bool.not_true,cond_false,hB,obind]
   simp only
   rw [decide_eq_false (by decide),cond_false,idx_at es hx,idx_at ea hxa,idx_at es hy,idx_at ea hya]
   unfold outD readyD
   by_cases k1:(↑(drawN d.Seed.toNat).1:Int)<d.Faults.Lost
   ·rw [decide_eq_true k1,cond_true,if_pos k1,if_pos (by omega)]
   ·rw [decide_eq_false k1,cond_false,chk_pos (by unfold inR;omega),if_neg k1]
    by_cases k2:(↑(drawN d.Seed.toNat).1:Int)<d.Faults.Lost+d.Faults.Wrong
    ·rw [decide_eq_true k2,cond_true,obind,if_pos k2,if_pos k2]
     by_cases k3:ot d.M d.State.toNat a.toNat=1048576
     ·rw [decide_eq_true k3,cond_true,if_pos k3,chk_pos (by unfold inR;omega)]
     ·rw [decide_eq_false k3,cond_false,if_neg k3,chk_pos (by unfold inR;omega),cond_true,chk_pos (by unfold inR;omega)]
    ·rw [decide_eq_false k2,cond_false,obind,cond_false,if_neg k2,if_neg k2,chk_pos (by unfold inR;omega),cond_false,chk_pos (by unfold inR;omega),chk_pos (by unfold inR;omega)]
     by_cases k4:(↑(drawN d.Seed.toNat).1:Int)<d.Faults.Lost+d.Faults.Wrong+d.Faults.Crash
     ·rw [decide_eq_true k4,cond_true,if_pos k4]
     ·rw [decide_eq_false k4,cond_false,if_neg k4]
  ·rw [if_neg h,decide_eq_false fun e=>h ⟨e.1,e.2.2⟩]
   rfl
end
end Go.Proofs.YtcneaiejdidooaaGreatDoor.Sym

/-
 Devices are asked a word; answers are voted for. Plain laws.
-/
namespace Go.Proofs.YtcneaiejdidooaaGreatDoor.Sym
set_option maxRecDepth 100000
theorem cap24 {n:Nat} (h:n≤3000000):capOk n 24:=by unfold capOk;omega
theorem zhx {l:List (List Int)} (h:SmL l):zcf l=some l:=by
 have hl:=h.1
 unfold zcf
 rw [chk_pos ⟨by decide,by omega,by rw [Int.toNat_natCast];exact cap24 (by omega)⟩]
 have key:=zci (step:=fun (s:List (List Int)×Nat)=>zcf.s2 l s.1 s.2) (fun s=>s.2≤l.length∧s.1=l.take s.2) (fun s=>l.length-s.2) (fun r=>r=l) (fun ⟨y,i⟩ ⟨g1,g2⟩=>by
  simp only at g1 g2
  subst g2
  simp only [zcf.s2]
  by_cases g3:i<l.length
  ·left
   have hx:=get_at g3
   refine ⟨(l.take (i+1),i+1),?_,⟨g3,rfl⟩,by simp only;omega⟩
   rw [dec_lt hx,cond_true,idxn_at hx,zbw (h.2 _ (List.getElem_mem _)),obind,chk_pos (cap24 (by rw [List.length_take];omega)),zb9 hx]
  ·right
   have e:i=l.length:=by omega
   subst e
   exact ⟨l,by rw [dec_end,cond_false,List.take_length],rfl⟩) fuel ([],0) ⟨Nat.zero_le _,rfl⟩ (by have:=fuel_big;simp only;omega)
 obtain ⟨r,e,rfl⟩:=key
 rw [e,obind]
theorem zhy {l:List (List Int)} (h:SmL l):zcd l=some l:=by
 have hl:=h.1
 unfold zcd
 have key:=zci (step:=fun (s:List (List Int)×Nat)=>zcd.s2 l s.1 s.2) (fun s=>s.2≤l.length∧s.1=l.take s.2) (fun s=>l.length-s.2) (fun r=>r=l) (fun ⟨y,i⟩ ⟨g1,g2⟩=>by
  simp only at g1 g2
  subst g2
  simp only [zcd.s2]
  by_cases g3:i<l.length
  ·left
   have hx:=get_at g3
   refine ⟨(l.take (i+1),i+1),?_,⟨g3,rfl⟩,by simp only;omega⟩
   rw [dec_lt hx,cond_true,idxn_at hx,zbw (h.2 _ (List.getElem_mem _)),obind,chk_pos (cap24 (by rw [List.length_take];omega)),zb9 hx]
  ·right
   have e:i=l.length:=by omega
   subst e
   exact ⟨l,by rw [dec_end,cond_false,List.take_length],rfl⟩) fuel ([],0) ⟨Nat.zero_le _,rfl⟩ (by have:=fuel_big;simp only;omega)
 obtain ⟨r,e,rfl⟩:=key
 rw [e,obind]
theorem MacOk.sml {m:zab} (H:MacOk m):SmL m.Next∧SmL m.Out:=by
 have n2:=H.n2
 have ol:=H.ol
 have i2:=H.i2
 refine ⟨⟨by omega,fun x hx=>?_⟩,⟨by omega,fun x hx=>?_⟩⟩
 all_goals
  obtain ⟨s,hs,rfl⟩:=List.mem_iff_getElem.1 hx
  obtain ⟨x,y,h1,h2,h3,h4,_⟩:=H.row s (by omega)
  unfold SmW
 ·rw [get_at hs] at h1
  injection h1 with h1
  rw [h1]
  omega
 ·rw [get_at hs] at h2
  injection h2 with h2
  rw [h2]
  omega
theorem DevOk.sw {d:zaf} (H:DevOk d):SmW d.Latency.Step:=by
 have:=H.lat
 unfold SmW
 omega
theorem zke {d:zaf} (H:DevOk d):zd8 d=some d:=by
 unfold zd8
 rw [zhx H.mac.sml.1,obind,zhx H.mac.sml.2,obind,zbw H.sw,obind]
theorem zkb {q:zae} (H:DevOk q.Device) (ho:SmTr q.Obs.Traces):zbx q=some q:=by
 have hl:=ho.1
 unfold zbx
 rw [zhy H.mac.sml.1,obind,zhy H.mac.sml.2,obind,zbw H.sw,obind]
 have key:=zci (step:=fun (s:List zaa×Nat)=>zbx.s2 q s.1 s.2) (fun s=>s.2≤q.Obs.Traces.length∧s.1=q.Obs.Traces.take s.2) (fun s=>q.Obs.Traces.length-s.2) (fun r=>r=q.Obs.Traces) (fun ⟨y,i⟩ ⟨g1,g2⟩=>by
  simp only at g1 g2
  subst g2
  simp only [zbx.s2]
  by_cases g3:i<q.Obs.Traces.length
  ·left
   have hx:=get_at g3
   have hs:=ho.2 _ (List.getElem_mem g3)
   refine ⟨(q.Obs.Traces.take (i+1),i+1),?_,⟨g3,rfl⟩,by simp only;omega⟩
   rw [dec_lt hx,cond_true,idxn_at hx,zbw hs.1,obind,zbw hs.2,obind,chk_pos (capT (by rw [List.length_take];omega)),zb9 hx]
  ·right
   have e:i=q.Obs.Traces.length:=by omega
   subst e
   exact ⟨q.Obs.Traces,by rw [dec_end,cond_false,List.take_length],rfl⟩) fuel ([],0) ⟨Nat.zero_le _,rfl⟩ (by have:=fuel_big;simp only;omega)
 obtain ⟨r,e,rfl⟩:=key
 rw [e,obind]
def qryD:zaf→List Int→List Int→zaf×List Int×Int
 | d,ys,[]=>(d,ys,0)
 | d,ys,a::w=>if (stepD d a).2.2≠0 then ((stepD d a).1,[],(stepD d a).2.2) else if (stepD d a).2.1<0∨((stepD d a).1.Ready=false∧w≠[]) then ((stepD d a).1,[],14) else qryD (stepD d a).1 (ys++[(stepD d a).2.1]) w
def queryD (d:zaf) (w:List Int):zaf×List Int×Int :=
 if (resetD d).2≠0 then (d,[],(resetD d).2) else qryD (resetD d).1 [] w
abbrev SeedOk (d:zaf):Prop:=0≤d.Seed∧d.Seed<18446744073709551616
theorem qryD_ok:∀ (w ys:List Int) (d:zaf),DevOk d→SeedOk d→WOk d.M.Inputs w→(∀ y∈ys,0≤y∧y≤1048576) →
  DevOk (qryD d ys w).1∧SeedOk (qryD d ys w).1∧(qryD d ys w).1.M=d.M∧((qryD d ys w).2.2=0→(qryD d ys w).2.1.length=ys.length+w.length∧∀ y∈(qryD d ys w).2.1,0≤y∧y≤1048576)∧((qryD d ys w).2.2=0∨(qryD d ys w).2.2=10∨(qryD d ys w).2.2=11∨(qryD d ys w).2.2=14)
 | [],ys,d,H,S,_,hy=>⟨H,S,rfl,fun _=>⟨rfl,hy⟩,.inl rfl⟩
 | a::w,ys,d,H,S,hw,hy=>by
  obtain ⟨h1,h2,h3,h4⟩:=stepD_ok H S hw.head
  unfold qryD
  by_cases g1:(stepD d a).2.2≠0
  ·rw [if_pos g1]
   refine ⟨h1,h2,h3,fun e=>absurd e g1,?_⟩
   simp only
   unfold stepD
   split
   ·exact .inr (.inl rfl)
   ·split
    ·exact .inl rfl
    ·exact .inr (.inr (.inl rfl))
  ·rw [if_neg g1]
   by_cases g2:(stepD d a).2.1<0∨((stepD d a).1.Ready=false∧w≠[])
   ·rw [if_pos g2]
    exact ⟨h1,h2,h3,fun e=>(by cases e),.inr (.inr (.inr rfl))⟩
   ·rw [if_neg g2]
    obtain ⟨k1,k2,k3,k4,k5⟩:=qryD_ok w (ys++[(stepD d a).2.1]) (stepD d a).1 h1 h2 (by rw [h3];exact hw.tail) fun y hy'=>by
     rcases List.mem_append.1 hy' with e | e
     ·exact hy y e
     ·rw [List.mem_singleton.1 e]
      exact ⟨by omega,h4.2⟩
    refine ⟨k1,k2,by rw [k3,h3],fun e=>⟨?_,(k4 e).2⟩,k5⟩
    rw [(k4 e).1,List.length_append,List.length_cons]
    simp
    omega
section
variable {d:zaf} {w ys:List Int}
abbrev tupD (d:zaf) (ys:List Int) (i:Nat):Int×Int×List (List Int)×List (List Int)×Int×Bool×List Int×Int×Int×Int×Int×Int×Int×Int×Int×List Int×Nat :=
 (d.M.Inputs,d.M.Start,d.M.Next,d.M.Out,d.State,d.Ready,d.Latency.Step,d.Latency.Reset,d.Faults.Lost,d.Faults.Wrong,d.Faults.Crash,d.Seed,d.Steps,d.Resets,d.Time,ys,i)
theorem dq_step (H:DevOk d) (S:SeedOk d) {i:Nat} {a:Int} (hx:w[i]?=some a) (ha:0≤a∧a<d.M.Inputs) (hy:ys.length≤100000) :
  zbc.s2 w d.M.Inputs d.M.Start d.M.Next d.M.Out d.State d.Ready d.Latency.Step d.Latency.Reset d.Faults.Lost d.Faults.Wrong d.Faults.Crash d.Seed d.Steps d.Resets d.Time ys i =
   some (if (stepD d a).2.2≠0 then .inr (.inr ((stepD d a).1,[],(stepD d a).2.2)) else if (stepD d a).2.1<0∨((stepD d a).1.Ready=false∧i+1<w.length) then .inr (.inr ((stepD d a).1,[],14)) else .inl (tupD (stepD d a).1 (ys++[(stepD d a).2.1]) (i+1))):=by
 unfold zbc.s2
 rw [dec_lt hx,cond_true,idxn_at hx]
 have he:=step_p H S ha
 have hd:(⟨(⟨⟨d.M.Inputs,d.M.Start,d.M.Next,d.M.Out⟩,d.State,d.Ready,⟨d.Latency.Step,d.Latency.Reset⟩,⟨d.Faults.Lost,d.Faults.Wrong,d.Faults.Crash⟩,d.Seed,d.Steps,d.Resets,d.Time⟩:zaf)⟩:zar)=⟨d⟩:=rfl
 rw [hd,he,obind]
 simp only
 by_cases g1:(stepD d a).2.2≠0
 ·rw [if_pos g1,decide_eq_true g1,cond_true]
 ·rw [if_neg g1,decide_eq_false g1,cond_false]
  have hb:(cond (decide ((stepD d a).2.1<0)) (some true) (cond (!(stepD d a).1.Ready) (some (decide (((↑i:Int)+1)<(↑(List.length w):Int)))) (some false)):Option Bool)=some (decide ((stepD d a).2.1<0∨((stepD d a).1.Ready=false∧i+1<w.length))):=by
   by_cases k1:(stepD d a).2.1<0
   ·rw [decide_eq_true k1,cond_true,decide_eq_true (.inl k1)]
   ·rw [decide_eq_false k1,cond_false]
    cases hr:(stepD d a).1.Ready with
    | true =>
     rw [Bool.not_true,cond_false,decide_eq_false fun e=>?_]
     rcases e with e | e
     ·exact k1 e
     ·cases e.1
    | false =>
     rw [Bool.not_false,cond_true]
     congr 1
     exact decide_eq_decide.2 ⟨fun e=>.inr ⟨rfl,by omega⟩,fun e=>by rcases e with e | e;exact absurd e k1;omega⟩
  rw [hb,obind]
  by_cases g2:(stepD d a).2.1<0∨((stepD d a).1.Ready=false∧i+1<w.length)
  ·rw [if_pos g2,decide_eq_true g2,cond_true]
  ·rw [if_neg g2,decide_eq_false g2,cond_false,chk_pos (by unfold capOk;omega)]
end
abbrev Tup15:Type:=Int×Int×List (List Int)×List (List Int)×Int×Bool×List Int×Int×Int×Int×Int×Int×Int×Int×Int×List Int
abbrev tup15 (d:zaf) (ys:List Int):Tup15:=(d.M.Inputs,d.M.Start,d.M.Next,d.M.Out,d.State,d.Ready,d.Latency.Step,d.Latency.Reset,d.Faults.Lost,d.Faults.Wrong,d.Faults.Crash,d.Seed,d.Steps,d.Resets,d.Time,ys)
def qryR (r:zaf×List Int×Int):Tup15⊕(zaf×List Int×Int):=if r.2.2=0 then .inl (tup15 r.1 r.2.1) else .inr r
theorem qry_iter {S2:Int×Int×List (List Int)×List (List Int)×Int×Bool×List Int×Int×Int×Int×Int×Int×Int×Int×Int×List Int×Nat→Option ((Int×Int×List (List Int)×List (List Int)×Int×Bool×List Int×Int×Int×Int×Int×Int×Int×Int×Int×List Int×Nat)⊕(Tup15⊕(zaf×List Int×Int)))} {w:List Int}
  (h1:∀ (d:zaf) (ys:List Int) (i:Nat) (a:Int),DevOk d→SeedOk d→w[i]?=some a→0≤a∧a<d.M.Inputs→ys.length≤100000→S2 (tupD d ys i)=some (if (stepD d a).2.2≠0 then .inr (.inr ((stepD d a).1,[],(stepD d a).2.2)) else if (stepD d a).2.1<0∨((stepD d a).1.Ready=false∧i+1<w.length) then .inr (.inr ((stepD d a).1,[],14)) else .inl (tupD (stepD d a).1 (ys++[(stepD d a).2.1]) (i+1))))
  (h2:∀ d ys,S2 (tupD d ys w.length)=some (.inr (.inl (tup15 d ys)))) (hl:w.length≤2000) :
  ∀ (n i:Nat) (d:zaf) (ys:List Int),DevOk d→SeedOk d→WOk d.M.Inputs w→ys.length=i→i≤w.length→w.length-i<n→iter S2 n (tupD d ys i)=some (qryR (qryD d ys (w.drop i)))
 | 0,_,_,_,_,_,_,_,_,h=>absurd h (Nat.not_lt_zero _)
 | n+1,i,d,ys,H,S,hw,hy,hi,hn=>by
  unfold iter
  rcases Nat.lt_or_ge i w.length with h | h
  ·have hx:=get_at h
   have ha:=hw _ (List.getElem_mem h)
   rw [h1 d ys i _ H S hx ha (by omega),List.drop_eq_getElem_cons h]
   obtain ⟨k1,k2,k3,k4⟩:=stepD_ok H S ha
   have hnil:i+1<w.length↔w.drop (i+1)≠[]:=by
    rw [ne_eq,List.drop_eq_nil_iff]
    omega
   unfold qryD
   by_cases g1:(stepD d w[i]).2.2≠0
   ·rw [if_pos g1,if_pos g1]
    unfold qryR
    rw [if_neg g1]
   ·rw [if_neg g1,if_neg g1]
    by_cases g2:(stepD d w[i]).2.1<0∨((stepD d w[i]).1.Ready=false∧i+1<w.length)
    ·rw [if_pos g2,if_pos (by rw [← hnil];exact g2)]
     rfl
    ·rw [if_neg g2,if_neg (by rw [← hnil];exact g2)]
     exact qry_iter h1 h2 hl n (i+1) (stepD d w[i]).1 _ k1 k2 (by rw [k3];exact hw) (by rw [List.length_append,List.length_singleton,hy]) h (by omega)
  ·have e:i=w.length:=by omega
   subst e
   rw [h2,List.drop_length]
   rfl
theorem check_wok {w:List Int} {n:Int} (h:checkI w n=0):WOk n w:=check_mem h
theorem Query_p {d:zaf} {w:List Int} (H:DevOk d) (S:SeedOk d) (hw:checkI w d.M.Inputs=0) (hl:w.length≤1024):zbc d w=some (queryD d w):=by
 have hsw:SmW w:=by unfold SmW;omega
 have r1:=reset_p H
 have hr:=resetD_ok H
 have hf:=fuel_big
 have hM:(resetD d).1.M=d.M∧SeedOk (resetD d).1:=by
  unfold resetD
  split
  ·exact ⟨rfl,S⟩
  ·exact ⟨rfl,S⟩
 unfold zbc queryD
 rw [zlu H,obind,decide_eq_false (by decide),cond_false,zd7 _ _ hsw,obind,hw,decide_eq_false (by decide),cond_false,zke H,obind,r1,obind]
 simp only
 by_cases g:(resetD d).2≠0
 ·rw [if_pos g,decide_eq_true g,cond_true]
 ·rw [if_neg g,decide_eq_false g,cond_false,chk_pos ⟨by decide,by omega,by unfold capOk;omega⟩]
  have key:=qry_iter (w:=w) (S2:=fun s=>zbc.s2 w s.1 s.2.1 s.2.2.1 s.2.2.2.1 s.2.2.2.2.1 s.2.2.2.2.2.1 s.2.2.2.2.2.2.1 s.2.2.2.2.2.2.2.1 s.2.2.2.2.2.2.2.2.1 s.2.2.2.2.2.2.2.2.2.1 s.2.2.2.2.2.2.2.2.2.2.1 s.2.2.2.2.2.2.2.2.2.2.2.1 s.2.2.2.2.2.2.2.2.2.2.2.2.1 s.2.2.2.2.2.2.2.2.2.2.2.2.2.1 s.2.2.2.2.2.2.2.2.2.2.2.2.2.2.1 s.2.2.2.2.2.2.2.2.2.2.2.2.2.2.2.1 s.2.2.2.2.2.2.2.2.2.2.2.2.2.2.2.2) (fun d ys i a H S hx ha hy=>dq_step H S hx ha hy) (fun d ys=>by
   show zbc.s2 w _ _ _ _ _ _ _ _ _ _ _ _ _ _ _ _ _=_
   unfold zbc.s2
   rw [dec_end,cond_false]) (by omega) fuel 0 (resetD d).1 [] hr hM.2 (by rw [hM.1];exact check_wok hw) rfl (Nat.zero_le _) (by omega)
  rw [List.drop_zero] at key
  refine (congrArg (fun z=>Option.bind z _) key).trans ?_
  rw [obind]
  unfold qryR
  by_cases g3:(qryD (resetD d).1 [] w).2.2=0
  ·rw [if_pos g3]
   simp only [Sum.elim_inl,zbc.k3]
   rw [← g3]
  ·rw [if_neg g3]
   rfl
theorem queryD_ok {d:zaf} {w:List Int} (H:DevOk d) (S:SeedOk d) (hw:checkI w d.M.Inputs=0) :
  DevOk (queryD d w).1∧SeedOk (queryD d w).1∧(queryD d w).1.M=d.M∧((queryD d w).2.2=0→(queryD d w).2.1.length=w.length∧∀ y∈(queryD d w).2.1,0≤y∧y≤1048576):=by
 have hM:(resetD d).1.M=d.M∧SeedOk (resetD d).1:=by
  unfold resetD
  split
  ·exact ⟨rfl,S⟩
  ·exact ⟨rfl,S⟩
 unfold queryD
 split
 ·rename_i g
  exact ⟨H,S,rfl,fun e=>absurd e g⟩
 ·obtain ⟨k1,k2,k3,k4,_⟩:=qryD_ok w [] (resetD d).1 (resetD_ok H) hM.2 (by rw [hM.1];exact check_wok hw) fun y hy=>by simp at hy
  exact ⟨k1,k2,by rw [k3,hM.1],fun e=>⟨by rw [(k4 e).1];simp,(k4 e).2⟩⟩
def voteF (need:Int):List (List Int)→List (List Int)→Option (List Int)
 | _,[]=>none
 | pre,w::r=>if (↑((pre++[w]).count w):Int)=need then some w else voteF need (pre++[w]) r
abbrev bk (w:List Int):ByteArray:=⟨(keyL w).toArray⟩
theorem bk_inj {a b:List Int} (h:bk a=bk b):a=b:=keyL_inj (by
 injection h with h
 injection h)
def WrdOk (w:List Int):Prop:=w.length≤100000∧∀ x∈w,inR x
theorem nondet_key_eq {w:List Int} (h:WrdOk w):zhp w=some (bk w):=by
 have:=h.1
 unfold zhp
 rw [chk_pos h.2,chk_pos (by omega)]
theorem vote_iter {l:List (List Int)} {need:Int} (hl:l.length≤100000) (hw:∀ x∈l,WrdOk x) :
  iter (fun (s:List (ByteArray×Int)×Nat)=>zbv.s2 l need s.1 s.2) fuel ([],0)=some (match voteF need [] l with | some w=>.inr (w,0,l) | none=>.inl ()):=by
 have key:∀ (n i:Nat) (m:List (ByteArray×Int)),i≤l.length→(∀ w,(mget (bk w) m).getD 0=(↑((l.take i).count w):Int))→l.length-i<n→iter (fun (s:List (ByteArray×Int)×Nat)=>zbv.s2 l need s.1 s.2) n (m,i)=some (match voteF need (l.take i) (l.drop i) with | some w=>.inr (w,0,l) | none=>.inl ()):=by
  intro n
  induction n with
  | zero=>intro i m _ _ h;omega
  | succ n ih =>
   intro i m hi hm hn
   unfold iter
   simp only [zbv.s2]
   rcases Nat.lt_or_ge i l.length with h | h
   ·have hx:=get_at h
    have hk:=hw _ (List.getElem_mem h)
    have hc:(l.take (i+1)).count l[i]=(l.take i).count l[i]+1:=by
     rw [zb9 hx,List.count_append]
     simp
    have hcl:(l.take i).count l[i]≤l.length:=Nat.le_trans List.count_le_length (by rw [List.length_take];omega)
    rw [dec_lt hx,cond_true,idxn_at hx,nondet_key_eq hk,obind,hm,chk_pos (by unfold inR;omega),zft ba_beq,Option.getD_some,List.drop_eq_getElem_cons h]
    unfold voteF
    rw [← zb9 hx,hc]
    by_cases g:(↑((l.take i).count l[i]):Int)+1=need
    ·rw [decide_eq_true g,cond_true,zbw (by have:=hk.1;unfold SmW;omega),obind,if_pos (by omega)]
    ·rw [decide_eq_false g,cond_false,if_neg (by omega)]
     refine ih (i+1) _ h (fun w=>?_) (by omega)
     by_cases e:l[i]=w
     ·rw [← e,zft ba_beq,Option.getD_some,hc]
      rfl
     ·rw [zjz ba_beq (fun e2=>e (bk_inj e2).symm),hm,zb9 hx,List.count_append]
      simp [e]
   ·have e:i=l.length:=by omega
    subst e
    rw [dec_end,cond_false,List.drop_length]
    rfl
 have:=key fuel 0 [] (Nat.zero_le _) (fun w=>by simp [mget]) (by have:=fuel_big;omega)
 rw [List.take_zero,List.drop_zero] at this
 exact this
theorem zj4 {l:List (List Int)} {need:Int} (hn:1≤need∧need≤9) (hl:l.length≤100000) (hw:∀ x∈l,WrdOk x) :
  zbv l need=some (match voteF need [] l with | some w=>(w,0,l) | none=>([],13,l)):=by
 unfold zbv
 rw [decide_eq_false (by omega),cond_false,decide_eq_false (by omega),obind,cond_false,vote_iter hl hw,obind]
 cases voteF need [] l<;>rfl
def Few (need:Int) (l:List (List Int)):Prop:=∀ w,(↑(l.count w):Int)<need
theorem voteF_few {need:Int}:∀ (r pre:List (List Int)) (x:List Int),Few need (pre++r)→voteF need pre (r++[x])=if (↑((pre++r++[x]).count x):Int)<need then none else some x
 | [],pre,x,h=>by
  have h1:=h x
  rw [List.append_nil] at h1 ⊢
  have h2:(pre++[x]).count x=pre.count x+1:=by rw [List.count_append];simp
  rw [List.nil_append]
  unfold voteF
  rw [h2]
  by_cases g:(↑(pre.count x+1):Int)<need
  ·rw [if_pos g,if_neg (by omega)]
   rfl
  ·rw [if_neg g,if_pos (by omega)]
 | w::r,pre,x,h=>by
  have h1:=h w
  have h2:(pre++[w]).count w≤(pre++w::r).count w:=by
   rw [List.count_append,List.count_append,List.count_cons]
   simp
  rw [List.cons_append]
  unfold voteF
  rw [if_neg (by omega),voteF_few r (pre++[w]) x (by rw [List.append_assoc];exact h)]
  simp
theorem few_nil {need:Int} (h:1≤need):Few need []:=fun w=>by simp;omega
theorem few_add {need:Int} {l:List (List Int)} {x:List Int} (h:Few need l) (hx:(↑((l++[x]).count x):Int)<need):Few need (l++[x]):=fun w=>by
 by_cases e:x=w
 ·rw [← e]
  exact hx
 ·have:=h w
  rw [List.count_append]
  simp [e]
  exact this
end Go.Proofs.YtcneaiejdidooaaGreatDoor.Sym

/-
 Oracles: what the program's and the document's Ask come to. Plain laws.
-/
namespace Go.Proofs.YtcneaiejdidooaaGreatDoor.Sym
set_option maxRecDepth 100000
structure OrOk (q:zae):Prop where
 dev:DevOk q.Device
 seed:SeedOk q.Device
 obs:ObsOk q.Obs
 tr:SmTr q.Obs.Traces
 inp:q.Obs.Inputs=q.Device.M.Inputs
 v1:1≤q.Votes
 v2:q.Votes≤9
 t1:q.Votes≤q.Tries
 t2:q.Tries≤64
def askL (w:List Int) (votes:Int):Nat→zaf→Int→List (List Int)→zaf×Int×List (List Int)×Option (List Int)
 | 0,d,n,ys=>(d,n,ys,none)
 | k+1,d,n,ys=>if (queryD d w).2.2≠0 then askL w votes k (queryD d w).1 (mdI (n+1)) ys else if (↑((ys++[(queryD d w).2.1]).count (queryD d w).2.1):Int)<votes then askL w votes k (queryD d w).1 (mdI (n+1)) (ys++[(queryD d w).2.1]) else ((queryD d w).1,mdI (n+1),ys++[(queryD d w).2.1],some (queryD d w).2.1)
def askR (q:zae) (w:List Int):zaf×Int×List (List Int)×Option (List Int):=askL w q.Votes q.Tries.toNat q.Device q.Asked []
def askE (q:zae) (w:List Int) (r:zaf×Int×List (List Int)×Option (List Int)):zae×List Int×Int :=
 match r.2.2.2 with
 | none=>(⟨r.1,q.Obs,q.Votes,q.Tries,r.2.1,q.Hits⟩,[],if r.2.2.1=[] then 14 else 13)
 | some out=>if (addO q.Obs ⟨w,out⟩).2≠0 then (⟨r.1,q.Obs,q.Votes,q.Tries,r.2.1,q.Hits⟩,[],(addO q.Obs ⟨w,out⟩).2) else (⟨r.1,(addO q.Obs ⟨w,out⟩).1,q.Votes,q.Tries,r.2.1,q.Hits⟩,out,0)
def askO (q:zae) (w:List Int):zae×List Int×Int :=
 if checkI w q.Device.M.Inputs≠0 then (q,[],checkI w q.Device.M.Inputs) else
  match ansO q.Obs w with
  | some r=>(⟨q.Device,q.Obs,q.Votes,q.Tries,q.Asked,mdI (q.Hits+1)⟩,r,0)
  | none=>askE q w (askR q w)
theorem mdI_small {n:Int} (h:inR n):mdI n=n:=by
 unfold inR at h
 unfold mdI
 rw [IntKind.wrap_i64]
 omega
structure TryOk (q:zae) (w:List Int) (d:zaf) (ys:List (List Int)) (i:Int):Prop where
 dev:DevOk d
 seed:SeedOk d
 mac:d.M=q.Device.M
 i0:0≤i
 i1:i≤q.Tries
 len:(↑ys.length:Int)≤i
 wrd:∀ y∈ys,WrdOk y
 few:Few q.Votes ys
section
variable {q:zae} {w:List Int} {d:zaf} {ys:List (List Int)} {i n:Int}
theorem TryOk.out (Q:OrOk q) (hw:checkI w q.Device.M.Inputs=0) (hl:w.length≤1024) (T:TryOk q w d ys i) (h:(queryD d w).2.2=0):WrdOk (queryD d w).2.1∧(queryD d w).2.1.length=w.length∧∀ y∈(queryD d w).2.1,0≤y∧y≤1048576:=by
 have hM:=T.mac
 obtain ⟨_,_,_,k4⟩:=queryD_ok (w:=w) T.dev T.seed (by rw [hM];exact hw)
 obtain ⟨g1,g2⟩:=k4 h
 exact ⟨⟨by omega,fun x hx=>by have:=g2 x hx;unfold inR;omega⟩,g1,g2⟩
theorem TryOk.next (Q:OrOk q) (hw:checkI w q.Device.M.Inputs=0) (hl:w.length≤1024) (T:TryOk q w d ys i) (hi:i<q.Tries):TryOk q w (queryD d w).1 ys (i+1):=by
 have hM:=T.mac
 have h0:=T.i0
 have h1:=T.len
 obtain ⟨k1,k2,k3,_⟩:=queryD_ok (w:=w) T.dev T.seed (by rw [hM];exact hw)
 exact ⟨k1,k2,by rw [k3,hM],by omega,by omega,by omega,T.wrd,T.few⟩
theorem TryOk.more (Q:OrOk q) (hw:checkI w q.Device.M.Inputs=0) (hl:w.length≤1024) (T:TryOk q w d ys i) (hi:i<q.Tries) (h:(queryD d w).2.2=0) (hc:(↑((ys++[(queryD d w).2.1]).count (queryD d w).2.1):Int)<q.Votes):TryOk q w (queryD d w).1 (ys++[(queryD d w).2.1]) (i+1):=by
 have T2:=T.next Q hw hl hi
 have h1:=T.len
 refine ⟨T2.dev,T2.seed,T2.mac,T2.i0,T2.i1,by rw [List.length_append,List.length_singleton];omega,fun y hy=>?_,few_add T.few hc⟩
 rcases List.mem_append.1 hy with e | e
 ·exact T.wrd y e
 ·rw [List.mem_singleton.1 e]
  exact (T.out Q hw hl h).1
abbrev TA:Type:=Int×Int×List (List Int)×List (List Int)×Int×Bool×List Int×Int×Int×Int×Int×Int×Int×Int×Int×Int×List (List Int)×List Int×Int×Int
abbrev TR:Type:=Int×Int×List (List Int)×List (List Int)×Int×Bool×List Int×Int×Int×Int×Int×Int×Int×Int×Int×Int×List Int×Int
abbrev tupA (d:zaf) (n:Int) (ys:List (List Int)) (ans:List Int) (code i:Int):TA:=(d.M.Inputs,d.M.Start,d.M.Next,d.M.Out,d.State,d.Ready,d.Latency.Step,d.Latency.Reset,d.Faults.Lost,d.Faults.Wrong,d.Faults.Crash,d.Seed,d.Steps,d.Resets,d.Time,n,ys,ans,code,i)
abbrev tupR (d:zaf) (n:Int) (ans:List Int) (code:Int):TR:=(d.M.Inputs,d.M.Start,d.M.Next,d.M.Out,d.State,d.Ready,d.Latency.Step,d.Latency.Reset,d.Faults.Lost,d.Faults.Wrong,d.Faults.Crash,d.Seed,d.Steps,d.Resets,d.Time,n,ans,code)
theorem dev_eta (d:zaf):(⟨⟨d.M.Inputs,d.M.Start,d.M.Next,d.M.Out⟩,d.State,d.Ready,⟨d.Latency.Step,d.Latency.Reset⟩,⟨d.Faults.Lost,d.Faults.Wrong,d.Faults.Crash⟩,d.Seed,d.Steps,d.Resets,d.Time⟩:zaf)=d:=rfl
theorem pa_step {code:Int} (Q:OrOk q) (hw:checkI w q.Device.M.Inputs=0) (hl:w.length≤1024) (T:TryOk q w d ys i) :
  zbl.s10 w q d.M.Inputs d.M.Start d.M.Next d.M.Out d.State d.Ready d.Latency.Step d.Latency.Reset d.Faults.Lost d.Faults.Wrong d.Faults.Crash d.Seed d.Steps d.Resets d.Time n ys [] code i=some (if i<q.Tries then (if (queryD d w).2.2≠0 then .inl (tupA (queryD d w).1 (mdI (n+1)) ys [] code (mdI (i+1))) else if (↑((ys++[(queryD d w).2.1]).count (queryD d w).2.1):Int)<q.Votes then .inl (tupA (queryD d w).1 (mdI (n+1)) (ys++[(queryD d w).2.1]) [] 13 (mdI (i+1))) else .inr (tupR (queryD d w).1 (mdI (n+1)) (queryD d w).2.1 0)) else .inr (tupR d n [] code)):=by
 have t2:=Q.t2
 have h1:=T.len
 unfold zbl.s10
 by_cases g:i<q.Tries
 ·rw [if_pos g,decide_eq_true g,cond_true,dev_eta,Query_p T.dev T.seed (by rw [T.mac];exact hw) hl,obind]
  by_cases g1:(queryD d w).2.2≠0
  ·rw [if_pos g1,decide_eq_true g1,cond_true,obind]
   rfl
  ·have g1':(queryD d w).2.2=0:=Classical.byContradiction g1
   have ho:=T.out Q hw hl g1'
   rw [if_neg g1,decide_eq_false g1,cond_false,chk_pos (cap24 (by omega)),zj4 ⟨Q.v1,Q.v2⟩ (by rw [List.length_append,List.length_singleton];omega) fun y hy=>?_,obind,voteF_few ys [] _ (by rw [List.nil_append];exact T.few),List.nil_append]
   ·by_cases g2:(↑((ys++[(queryD d w).2.1]).count (queryD d w).2.1):Int)<q.Votes
    ·rw [if_pos g2,if_pos g2]
     rfl
    ·rw [if_neg g2,if_neg g2]
     rfl
   ·rcases List.mem_append.1 hy with e | e
    ·exact T.wrd y e
    ·rw [List.mem_singleton.1 e]
     exact ho.1
 ·rw [if_neg g,decide_eq_false g,cond_false]
theorem pa_iter (Q:OrOk q) (hw:checkI w q.Device.M.Inputs=0) (hl:w.length≤1024):∀ (f:Nat) (k:Nat) (d:zaf) (n:Int) (ys:List (List Int)) (i:Int),TryOk q w d ys i→q.Tries-i=(↑k:Int)→k<f →
  iter (fun s=>zbl.s10 w q s.1 s.2.1 s.2.2.1 s.2.2.2.1 s.2.2.2.2.1 s.2.2.2.2.2.1 s.2.2.2.2.2.2.1 s.2.2.2.2.2.2.2.1 s.2.2.2.2.2.2.2.2.1 s.2.2.2.2.2.2.2.2.2.1 s.2.2.2.2.2.2.2.2.2.2.1 s.2.2.2.2.2.2.2.2.2.2.2.1 s.2.2.2.2.2.2.2.2.2.2.2.2.1 s.2.2.2.2.2.2.2.2.2.2.2.2.2.1 s.2.2.2.2.2.2.2.2.2.2.2.2.2.2.1 s.2.2.2.2.2.2.2.2.2.2.2.2.2.2.2.1 s.2.2.2.2.2.2.2.2.2.2.2.2.2.2.2.2.1 s.2.2.2.2.2.2.2.2.2.2.2.2.2.2.2.2.2.1 s.2.2.2.2.2.2.2.2.2.2.2.2.2.2.2.2.2.2.1 s.2.2.2.2.2.2.2.2.2.2.2.2.2.2.2.2.2.2.2:TA→Option (TA⊕TR)) f (tupA d n ys [] (if ys=[] then 14 else 13) i)=some (tupR (askL w q.Votes k d n ys).1 (askL w q.Votes k d n ys).2.1 ((askL w q.Votes k d n ys).2.2.2.getD []) (match (askL w q.Votes k d n ys).2.2.2 with | some _=>0 | none=>if (askL w q.Votes k d n ys).2.2.1=[] then 14 else 13))
 | 0,_,_,_,_,_,_,_,h=>absurd h (Nat.not_lt_zero _)
 | f+1,0,d,n,ys,i,T,hk,_=>by
  unfold iter askL
  rw [pa_step Q hw hl T,if_neg (by omega)]
  rfl
 | f+1,k+1,d,n,ys,i,T,hk,hf=>by
  have t2:=Q.t2
  have h0:=T.i0
  unfold iter askL
  rw [pa_step Q hw hl T,if_pos (by omega),mdI_small (n:=i+1) (by unfold inR;omega)]
  by_cases g1:(queryD d w).2.2≠0
  ·rw [if_pos g1,if_pos g1]
   exact pa_iter Q hw hl f k _ _ ys (i+1) (T.next Q hw hl (by omega)) (by omega) (by omega)
  ·have g1':(queryD d w).2.2=0:=Classical.byContradiction g1
   rw [if_neg g1,if_neg g1]
   by_cases g2:(↑((ys++[(queryD d w).2.1]).count (queryD d w).2.1):Int)<q.Votes
   ·rw [if_pos g2,if_pos g2]
    have:=pa_iter Q hw hl f k _ (mdI (n+1)) (ys++[(queryD d w).2.1]) (i+1) (T.more Q hw hl (by omega) g1' g2) (by omega) (by omega)
    rw [if_neg (by simp)] at this
    exact this
   ·rw [if_neg g2,if_neg g2]
    rfl
theorem zim (Q:OrOk q):TryOk q w q.Device [] 0:=⟨Q.dev,Q.seed,rfl,by decide,by have:=Q.v1;have:=Q.t1;omega,by simp,fun y hy=>by simp at hy,few_nil Q.v1⟩
theorem askL_out (Q:OrOk q) (hw:checkI w q.Device.M.Inputs=0) (hl:w.length≤1024):∀ (k:Nat) (d:zaf) (n:Int) (ys:List (List Int)) (i:Int),TryOk q w d ys i→q.Tries-i=(↑k:Int) →
  DevOk (askL w q.Votes k d n ys).1∧SeedOk (askL w q.Votes k d n ys).1∧(askL w q.Votes k d n ys).1.M=q.Device.M∧∀ out,(askL w q.Votes k d n ys).2.2.2=some out→out.length=w.length∧∀ y∈out,0≤y∧y≤1048576
 | 0,d,n,ys,i,T,_=>⟨T.dev,T.seed,T.mac,fun out h=>by cases h⟩
 | k+1,d,n,ys,i,T,hk=>by
  unfold askL
  by_cases g1:(queryD d w).2.2≠0
  ·rw [if_pos g1]
   exact askL_out Q hw hl k _ _ ys (i+1) (T.next Q hw hl (by omega)) (by omega)
  ·have g1':(queryD d w).2.2=0:=Classical.byContradiction g1
   rw [if_neg g1]
   by_cases g2:(↑((ys++[(queryD d w).2.1]).count (queryD d w).2.1):Int)<q.Votes
   ·rw [if_pos g2]
    exact askL_out Q hw hl k _ _ _ (i+1) (T.more Q hw hl (by omega) g1' g2) (by omega)
   ·rw [if_neg g2]
    have T2:=T.next Q hw hl (by omega)
    refine ⟨T2.dev,T2.seed,T2.mac,fun out h=>?_⟩
    have h:some (queryD d w).2.1=some out:=h
    injection h with h
    rw [← h]
    exact (T.out Q hw hl g1').2
theorem Ask_p (Q:OrOk q) (hl:w.length≤100000):zbl q w=some (askO q w):=by
 have hsw:SmW w:=by unfold SmW;omega
 have hf:=fuel_big
 have t2:=Q.t2
 have hk:q.Tries-0=(↑q.Tries.toNat:Int):=by have:=Q.v1;have:=Q.t1;omega
 unfold zbl askO
 rw [zd7 _ _ hsw,obind]
 by_cases hw:checkI w q.Device.M.Inputs=0
 ·have hl2:w.length≤1024:=by
   have i1:=Q.dev.mac.i1
   have i2:=Q.dev.mac.i2
   unfold checkI at hw
   rw [if_pos (by omega)] at hw
   split at hw
   ·cases hw
   ·omega
  rw [if_neg (by simpa using hw),hw,decide_eq_false (by decide),cond_false,zkb Q.dev Q.tr,obind,zfm Q.tr Q.obs,obind]
  cases ha:ansO q.Obs w with
  | some r =>
   have hr:SmW r:=by
    unfold ansO at ha
    split at ha
    ·injection ha with ha
     rw [← ha]
     unfold SmW
     simp
    ·cases hf:q.Obs.Traces.find? fun t=>decide (w <+: t.In) with
     | none=>rw [hf] at ha;cases ha
     | some t =>
      rw [hf] at ha
      injection ha with ha
      rw [← ha]
      unfold SmW
      simp only [List.length_take]
      omega
   simp only [cond_true]
   rw [zbw hr,obind]
  | none =>
   simp only [cond_false]
   obtain ⟨o1,o2,o3,o4⟩:=askL_out Q hw hl2 q.Tries.toNat q.Device q.Asked [] 0 (zim Q) hk
   have key:=pa_iter Q hw hl2 fuel q.Tries.toNat q.Device q.Asked [] 0 (zim Q) hk (by omega)
   rw [if_pos rfl] at key
   refine (congrArg (fun z=>Option.bind z _) key).trans ?_
   rw [obind]
   show _=some (askE q w (askL w q.Votes q.Tries.toNat q.Device q.Asked []))
   unfold askE
   generalize askL w q.Votes q.Tries.toNat q.Device q.Asked []=r at o4
   obtain ⟨d',n',ys',res⟩:=r
   simp only [zbl.k11] at o4 ⊢
   cases res with
   | none =>
    simp only
    rw [decide_eq_true (by split<;>decide),cond_true]
   | some out =>
    obtain ⟨p1,p2⟩:=o4 out rfl
    have hso:SmW out:=by unfold SmW;omega
    simp only [Option.getD_some]
    rw [decide_eq_false (by decide),cond_false,zbw hsw,obind,zbw hso,obind,zmd Q.tr Q.obs ⟨hsw,hso⟩,obind]
    by_cases g3:(addO q.Obs ⟨w,out⟩).2≠0
    ·rw [if_pos g3,decide_eq_true g3]
     rfl
    ·rw [if_neg g3,decide_eq_false g3]
     rfl
 ·rw [if_pos hw,decide_eq_true hw]
  rfl
end
end Go.Proofs.YtcneaiejdidooaaGreatDoor.Sym

/-
 The examples of the chapter on oracles, reckoned.
-/
namespace Go.Proofs.YtcneaiejdidooaaGreatDoor.Sym
set_option maxRecDepth 100000
end Go.Proofs.YtcneaiejdidooaaGreatDoor.Sym

/-
 Oracles: the plain laws of OracleAsks and OracleTries.
-/
namespace Go.Proofs.YtcneaiejdidooaaGreatDoor.Sym
set_option maxRecDepth 100000
structure SmQ (q:zae):Prop where
 n:q.Device.M.Next.length≤2000000
 s:q.Device.Latency.Step.length≤2000000
 o:SmO q.Obs
 seed:SeedOk q.Device
theorem L16_Great_eq {o:zam} (h:o.Traces.length≤2000000):zc4 o=some (decide (60<o.Traces.length)||!o.Traces.all fun x=>decide (x.In.length≤100∧x.Out.length≤100)):=by
 unfold zc4
 by_cases g:60<o.Traces.length
 ·rw [decide_eq_true (by omega),cond_true,decide_eq_true g]
  rfl
 ·rw [decide_eq_false (by omega),cond_false,decide_eq_false g,Bool.false_or]
  have key:=zcx (step:=fun s=>zc4.s2 o s) (l:=o.Traces) (fun _ x=>if decide (x.In.length≤100∧x.Out.length≤100)=true then none else some true) (fun i x hx=>by
   simp only [zc4.s2]
   rw [dec_lt hx,cond_true,idxn_at hx,idxn_at hx]
   by_cases a1:x.In.length≤100
   ·by_cases a2:x.Out.length≤100
    ·rw [decide_eq_false (by omega),cond_false,decide_eq_false (by omega),obind,cond_false,decide_eq_true ⟨a1,a2⟩]
     rfl
    ·rw [decide_eq_false (by omega),cond_false,decide_eq_true (by omega),obind,cond_true,decide_eq_false fun e=>a2 e.2]
     rfl
   ·rw [decide_eq_true (by omega),cond_true,obind,cond_true,decide_eq_false fun e=>a1 e.1]
    rfl) (by
   simp only [zc4.s2]
   rw [dec_end]
   rfl) (by omega)
  rw [key,scan_all (p:=fun (x:zaa)=>decide (x.In.length≤100∧x.Out.length≤100)),obind]
  by_cases h2:(o.Traces.all fun x=>decide (x.In.length≤100∧x.Out.length≤100))=true
  ·rw [if_pos h2,h2]
   rfl
  ·rw [if_neg h2,Bool.not_eq_true _ |>.mp h2]
   rfl
theorem L21_Great_tot {q:zae} (h:SmQ q):∃ b,zgx q=some b∧(b=false→q.Obs.Traces.length≤60∧∀ x∈q.Obs.Traces,x.In.length≤100∧x.Out.length≤100):=by
 unfold zgx
 by_cases g1:20<(↑q.Device.M.Next.length:Int)
 ·exact ⟨true,by rw [decide_eq_true g1];rfl,fun e=>by cases e⟩
 rw [decide_eq_false g1,cond_false]
 by_cases g2:10<q.Device.M.Inputs
 ·exact ⟨true,by rw [decide_eq_true g2];rfl,fun e=>by cases e⟩
 rw [decide_eq_false g2,cond_false]
 by_cases g3:20<(↑q.Device.Latency.Step.length:Int)
 ·exact ⟨true,by rw [decide_eq_true g3];rfl,fun e=>by cases e⟩
 rw [decide_eq_false g3,cond_false,L16_Great_eq (by have:=h.o.1;omega),obind,obind]
 refine ⟨_,rfl,fun e=>?_⟩
 rw [Bool.or_eq_false_iff] at e
 have e1:=of_decide_eq_false e.1
 refine ⟨by omega,fun x hx=>?_⟩
 have e2:(q.Obs.Traces.all fun x=>decide (x.In.length≤100∧x.Out.length≤100))=true:=by
  have:=e.2
  simpa only [Bool.not_eq_false'] using this
 exact of_decide_eq_true (List.all_eq_true.1 e2 x hx)
theorem R21_Valid_tot {q:zae} (h:SmQ q) (ho:SmO q.Obs):∃ b,zg7 q=some b∧(b=true→OrOk q):=by
 obtain ⟨e1,h1,z1⟩:=R19_Valid_tot q.Device (by have:=h.s;omega)
 obtain ⟨e2,h2,z2⟩:=R16_Valid_tot q.Obs ho
 unfold zg7
 rw [h1,obind,h2,obind]
 by_cases g1:e1=0
 ·rw [decide_eq_true g1,cond_true]
  by_cases g2:e2=0
  ·rw [decide_eq_true g2,cond_true]
   by_cases g3:q.Obs.Inputs=q.Device.M.Inputs
   ·rw [decide_eq_true g3,cond_true]
    by_cases g4:1≤q.Votes
    ·rw [decide_eq_true g4,cond_true]
     by_cases g5:q.Votes≤9
     ·rw [decide_eq_true g5,cond_true]
      by_cases g6:q.Votes≤q.Tries
      ·rw [decide_eq_true g6,cond_true,obind]
       exact ⟨_,rfl,fun e=>⟨z1 g1,h.seed,z2 g2,ho.tr,g3,g4,g5,g6,of_decide_eq_true e⟩⟩
      ·exact ⟨false,by rw [decide_eq_false g6];rfl,fun e=>by cases e⟩
     ·exact ⟨false,by rw [decide_eq_false g5];rfl,fun e=>by cases e⟩
    ·exact ⟨false,by rw [decide_eq_false g4];rfl,fun e=>by cases e⟩
   ·exact ⟨false,by rw [decide_eq_false g3];rfl,fun e=>by cases e⟩
  ·exact ⟨false,by rw [decide_eq_false g2];rfl,fun e=>by cases e⟩
 ·exact ⟨false,by rw [decide_eq_false g1];rfl,fun e=>by cases e⟩
theorem addO_len {o:zam} {t:zaa}:(addO o t).1.Traces.length≤o.Traces.length+1:=by
 unfold addO
 split
 ·simp only;omega
 ·split
  ·simp only;omega
  ·split
   ·simp only;omega
   ·exact addL_length _ _
theorem addO_tr {o:zam} {t:zaa} (h:SmTr o.Traces) (hn:o.Traces.length≤1000000) (ht:SmX t):SmTr (addO o t).1.Traces:=by
 refine ⟨by have:=addO_len (o:=o) (t:=t);omega,?_⟩
 unfold addO
 split
 ·exact h.2
 ·split
  ·exact h.2
  ·split
   ·exact h.2
   ·intro x hx
    have hx:x∈addL o.Traces t:=hx
    unfold addL at hx
    split at hx
    ·exact h.2 x hx
    ·rcases mem_insT.1 hx with e | e
     ·rw [e]
      exact ht
     ·exact h.2 x (List.filter_sublist.subset e)
theorem addO_inp {o:zam} {t:zaa}:(addO o t).1.Inputs=o.Inputs:=by
 unfold addO
 split
 ·rfl
 ·split
  ·rfl
  ·split<;>rfl
section
variable {q:zae} {w:List Int}
theorem askO_ok (Q:OrOk q) (hn:q.Obs.Traces.length≤900000) (hl:w.length≤100000):OrOk (askO q w).1∧(askO q w).1.Obs.Traces.length≤q.Obs.Traces.length+1∧(askO q w).2.1.length≤2000000:=by
 unfold askO
 by_cases hw:checkI w q.Device.M.Inputs=0
 ·rw [if_neg (by simpa using hw)]
  have hl2:w.length≤1024:=by
   have i1:=Q.dev.mac.i1
   have i2:=Q.dev.mac.i2
   unfold checkI at hw
   rw [if_pos (by omega)] at hw
   split at hw
   ·cases hw
   ·omega
  cases ha:ansO q.Obs w with
  | some r =>
   refine ⟨⟨Q.dev,Q.seed,Q.obs,Q.tr,Q.inp,Q.v1,Q.v2,Q.t1,Q.t2⟩,by simp only;omega,?_⟩
   simp only
   unfold ansO at ha
   split at ha
   ·injection ha with ha
    rw [← ha]
    simp
   ·cases hf:q.Obs.Traces.find? fun t=>decide (w <+: t.In) with
    | none=>rw [hf] at ha;cases ha
    | some t =>
     rw [hf] at ha
     injection ha with ha
     rw [← ha]
     simp only [List.length_take]
     omega
  | none =>
   have hk:q.Tries-0=(↑q.Tries.toNat:Int):=by have:=Q.v1;have:=Q.t1;omega
   obtain ⟨o1,o2,o3,o4⟩:=askL_out Q hw hl2 q.Tries.toNat q.Device q.Asked [] 0 (zim Q) hk
   simp only
   unfold askR askE
   generalize askL w q.Votes q.Tries.toNat q.Device q.Asked []=r at o1 o2 o3 o4
   obtain ⟨d',n',ys',res⟩:=r
   simp only at o1 o2 o3 o4 ⊢
   cases res with
   | none=>exact ⟨⟨o1,o2,Q.obs,Q.tr,by rw [Q.inp];simp only [o3],Q.v1,Q.v2,Q.t1,Q.t2⟩,by simp only;omega,by simp⟩
   | some out =>
    obtain ⟨p1,p2⟩:=o4 out rfl
    simp only
    split
    ·exact ⟨⟨o1,o2,Q.obs,Q.tr,by rw [Q.inp];simp only [o3],Q.v1,Q.v2,Q.t1,Q.t2⟩,by simp only;omega,by simp⟩
    ·refine ⟨⟨o1,o2,addO_ok Q.obs,addO_tr Q.tr (by omega) ⟨show SmW w by unfold SmW;omega,show SmW out by unfold SmW;omega⟩,by simp only [addO_inp,Q.inp,o3],Q.v1,Q.v2,Q.t1,Q.t2⟩,addO_len,by simp only;omega⟩
 ·rw [if_pos hw]
  exact ⟨Q,by simp only;omega,by simp⟩
theorem check_pre {p:List Int} {n:Int} (h:p <+: w) (hw:checkI w n=0) (hn:1≤n∧n≤1024):checkI p n=0:=by
 unfold checkI at hw ⊢
 rw [if_pos hn] at hw ⊢
 have hle:=h.length_le
 split at hw
 ·cases hw
 ·rw [if_neg (by omega)]
  split at hw
  ·rename_i h3
   rw [if_pos (List.all_eq_true.2 fun x hx=>List.all_eq_true.1 h3 x (h.subset hx))]
  ·cases hw
theorem ans_add {o:zam} {t:zaa} (ho:ObsOk o) (h:(addO o t).2=0):ansO (addO o t).1 t.In=some t.Out:=by
 unfold addO at h ⊢
 by_cases g1:propI t o.Inputs≠0
 ·rw [if_pos g1] at h
  exact absurd h g1
 ·rw [if_neg g1] at h ⊢
  have hp:PropT o.Inputs t:=zjb.1 (by simpa using g1)
  by_cases g2:clashO o.Traces t
  ·rw [if_pos g2] at h
   cases h
  ·rw [if_neg g2] at h ⊢
   by_cases g3:10000<(addL o.Traces t).length
   ·rw [if_pos g3] at h
    cases h
   ·rw [if_neg g3]
    unfold ansO
    by_cases g4:t.In=[]
    ·rw [if_pos g4]
     have:=hp.2.1
     rw [g4] at this
     rw [List.eq_nil_of_length_eq_zero this]
    ·rw [if_neg g4]
     have hall:∀ u∈addL o.Traces t,t.In <+: u.In→u.Out.take t.In.length=t.Out:=fun u hu hpre=>by
      have hag:Agree u t:=by
       unfold addL at hu
       split at hu
       ·exact Classical.byContradiction fun e=>g2 ⟨u,hu,e⟩
       ·rcases mem_insT.1 hu with e | e
        ·rw [e]
         unfold Agree
         rfl
        ·exact Classical.byContradiction fun e2=>g2 ⟨u,List.filter_sublist.subset e,e2⟩
      have hc:common u.In t.In=t.In.length:=(zfy u.In t.In).2 hpre
      unfold Agree at hag
      rw [hc] at hag
      rw [hag,List.take_of_length_le (by rw [hp.2.1];exact Nat.le_refl _)]
     have hex:∃ u∈addL o.Traces t,t.In <+: u.In:=by
      unfold addL
      split
      ·rename_i h5
       rcases h5 with h5 | h5
       ·obtain ⟨u,hu,hp⟩:=List.any_eq_true.1 h5
        exact ⟨u,hu,of_decide_eq_true hp⟩
       ·exact absurd h5 g4
      ·exact ⟨t,mem_insT.2 (.inl rfl),List.prefix_refl _⟩
     cases hf:(addL o.Traces t).find? fun u=>decide (t.In <+: u.In) with
     | none =>
      obtain ⟨u,hu,hpre⟩:=hex
      have:=List.find?_eq_none.1 hf u hu
      exact absurd (decide_eq_true hpre) this
     | some u =>
      have hpre:decide (t.In <+: u.In)=true:=List.find?_some (p:=fun (u:zaa)=>decide (t.In <+: u.In)) hf
      exact congrArg some (hall u (List.mem_of_find?_eq_some hf) (of_decide_eq_true hpre))
end
end Go.Proofs.YtcneaiejdidooaaGreatDoor.Sym

/-
 What the bound of the laws gives: the sizes of oracles and of observations.
-/
namespace Go.Proofs.YtcneaiejdidooaaGreatDoor.Sym
theorem sum_mem {α:Type} {f:α→Nat}:∀ {l:List α} {x:α},x∈l→f x≤(l.map f).sum
 | y::l,x,h=>by
  rw [List.map_cons,List.sum_cons]
  rcases List.mem_cons.1 h with rfl | h
  ·omega
  ·have:=sum_mem (f:=f) h
   omega
theorem sum_len {α:Type} {f:α→Nat} (hf:∀ x,1≤f x):∀ l:List α,l.length≤(l.map f).sum
 | []=>by simp
 | y::l=>by
  have:=sum_len hf l
  have:=hf y
  rw [List.map_cons,List.sum_cons,List.length_cons]
  omega
theorem sz_word {x:List Int}:x.length+1=szL sz1 x:=by
 unfold szL sz1
 induction x with
 | nil=>rfl
 | cons y l ih=>simp at ih ⊢;omega
theorem sml_of {l:List (List Int)} {N:Nat} (h:szL (szL sz1) l≤N) (hN:N≤2000000):SmL l:=by
 unfold szL at h
 refine ⟨?_,fun x hx=>?_⟩
 ·have:=sum_len (f:=szL sz1) (fun x=>by rw [← sz_word];omega) l
  unfold szL at this
  omega
 ·have:=sum_mem (f:=szL sz1) hx
  rw [← sz_word] at this
  unfold szL at this
  unfold SmW
  omega
theorem trace_pos (t:zaa):1≤zcs t:=by unfold zcs;omega
theorem smo_of {o:zam} (s:zgc o≤1048576):SmO o:=by
 unfold zgc at s
 have s1:szL zcs o.Traces≤1048576:=by omega
 refine ⟨?_,fun t ht=>?_⟩
 ·have:=sum_len (f:=zcs) trace_pos o.Traces
  unfold szL at s1
  omega
 ·have h1:=sum_mem (f:=zcs) ht
  have h2:=sz_word (x:=t.In)
  have h3:=sz_word (x:=t.Out)
  have h4:(o.Traces.map zcs).sum+1≤1048576:=s1
  have h5:zcs t=(szL sz1 t.In+(szL sz1 t.Out+0))+1:=rfl
  omega
theorem len_of {l:List (List Int)} {N:Nat} (h:szL (szL sz1) l≤N):l.length≤N:=by
 have:=sum_len (f:=szL sz1) (fun x=>by rw [← sz_word];omega) l
 unfold szL at this h
 omega
theorem smq_of {q:zae} (k:zgm q) (s:ze1 q≤1048576):SmQ q:=by
 unfold ze1 at s
 have s1:ze3 q.Device≤1048576:=by omega
 have s2:zgc q.Obs≤1048576:=by omega
 have ho:=smo_of s2
 unfold ze3 at s1
 have s3:zen q.Device.M≤1048576:=by omega
 have s4:zem q.Device.Latency≤1048576:=by omega
 unfold zen at s3
 unfold zem at s4
 have h1:q.Device.M.Next.length≤1048576:=len_of (by omega)
 have h2:=sz_word (x:=q.Device.Latency.Step)
 exact ⟨by omega,by omega,ho,k.1.2.2.2.2.2.1⟩
end Go.Proofs.YtcneaiejdidooaaGreatDoor.Sym

/-
 Oracles: the plain law of OracleAll.
-/
namespace Go.Proofs.YtcneaiejdidooaaGreatDoor.Sym
set_option maxRecDepth 100000
def firstE (n:Int) (ws:List (List Int)):Option Int:=scan (fun _ w=>if checkI w n≠0 then some (checkI w n) else none) 0 ws
theorem zl5 {n:Int} {ws:List (List Int)} (h:firstE n ws=none):∀ w∈ws,checkI w n=0:=fun w hw=>by
 obtain ⟨i,hi⟩:=List.mem_iff_getElem?.1 hw
 have:=ze7.1 h i w hi
 split at this
 ·cases this
 ·rename_i g
  exact Classical.byContradiction g
section
variable {q:zae} {ws:List (List Int)}
end
end Go.Proofs.YtcneaiejdidooaaGreatDoor.Sym

/-
 Validity of machines: the program's and the document's error. Plain laws.
-/
namespace Go.Proofs.YtcneaiejdidooaaGreatDoor.Sym
set_option maxRecDepth 100000
theorem scan_map {α R R':Type} {g:Nat→α→Option R} {f:R→R'}:∀ (l:List α) (j:Nat),scan (fun i x=>(g i x).map f) j l=(scan g j l).map f
 | [],_=>rfl
 | x::l,j=>by
  unfold scan
  cases g j x with
  | some r=>rfl
  | none=>exact scan_map l (j+1)
theorem scan_mem {α R:Type} {g:Nat→α→Option R} {r:R}:∀ {l:List α} {j:Nat},scan g j l=some r→∃ i x,l[i]?=some x∧g (j+i) x=some r
 | [],_,h=>by cases h
 | x::l,j,h=>by
  unfold scan at h
  cases e:g j x with
  | some q =>
   rw [e] at h
   exact ⟨0,x,rfl,by rw [Nat.add_zero,e];exact h⟩
  | none =>
   rw [e] at h
   obtain ⟨i,y,h1,h2⟩:=scan_mem (j:=j+1) h
   exact ⟨i+1,y,by simpa using h1,by rw [show j+(i+1)=j+1+i by omega,h2]⟩
def celE (n:Nat) (u v:Int):Option Int:=if u<0∨(↑n:Int)≤u∨v<0∨1048576<v then some 2 else none
def rowE (m:zab) (s:Nat) (x:List Int):Option Int :=
 if (↑x.length:Int)≠m.Inputs∨(↑((m.Out[s]?).getD []).length:Int)≠m.Inputs then some 1 else scan (fun a u=>celE m.Next.length u ((((m.Out[s]?).getD [])[a]?).getD 0)) 0 x
def validM (m:zab):Int :=
 if m.Inputs<1∨64<m.Inputs then 2 else if m.Next.length=0 then 19 else if 128<m.Next.length then 11 else if m.Start<0∨(↑m.Next.length:Int)≤m.Start then 2 else if m.Out.length≠m.Next.length then 1
 else match scan (rowE m) 0 m.Next with | some e=>e | none=>0
section
variable {m:zab}
theorem rowE_ne {s:Nat} {x:List Int} {e:Int} (h:rowE m s x=some e):e≠0:=by
 unfold rowE at h
 split at h
 ·injection h with h
  omega
 ·obtain ⟨i,u,_,h2⟩:=scan_mem h
  unfold celE at h2
  split at h2
  ·injection h2 with h2
   omega
  ·cases h2
theorem cel_cond {n:Nat} {u v:Int}:(cond (decide (u<0)) (some true) (cond (decide ((↑n:Int)≤u)) (some true) (cond (decide (v<0)) (some true) (some (decide (1048576<v))))):Option Bool)=some (celE n u v).isSome:=by
 unfold celE
 by_cases h1:u<0<;>by_cases h2:(↑n:Int)≤u<;>by_cases h3:v<0<;>by_cases h4:1048576<v<;>simp [h1,h2,h3,h4]
theorem celE_two {n:Nat} {u v:Int}:celE n u v=if (celE n u v).isSome=true then some 2 else none:=by
 unfold celE
 split<;>rfl
theorem row_len {s:Nat} {x y:List Int} (hx:m.Next[s]?=some x) (hy:m.Out[s]?=some y) :
  (idxn m.Next s fun e57=>cond (decide ((↑e57.length:Int)≠m.Inputs)) (some true) (idxn m.Out s fun e59=>some (decide ((↑e59.length:Int)≠m.Inputs))):Option Bool)=some (decide ((↑x.length:Int)≠m.Inputs∨(↑y.length:Int)≠m.Inputs)):=by
 rw [idxn_at hx]
 by_cases h:(↑x.length:Int)=m.Inputs
 ·rw [decide_eq_false (fun k=>k h),cond_false,idxn_at hy]
  simp [h]
 ·rw [decide_eq_true h,cond_true]
  simp [h]
theorem idx_nat {α β:Type} {l:List α} {i:Nat} {k:α→Option β}:idx l (↑i:Int) k=idxn l i k:=by
 cases h:l[i]? with
 | some x=>rw [idx_at rfl h,idxn_at h]
 | none =>
  unfold idx idxn
  rw [h,if_pos (by omega),Int.toNat_natCast,h]
theorem R06_row_eq (hi:m.Inputs≤64) {s:Nat} {x y:List Int} (hx:m.Next[s]?=some x) (hy:m.Out[s]?=some y):R06_row m (↑s:Int)=some (match rowE m s x with | some e=>e | none=>0):=by
 unfold R06_row
 rw [idx_nat]
 simp only [idx_nat]
 rw [row_len hx hy,obind]
 unfold rowE
 rw [hy,Option.getD_some]
 by_cases h:(↑x.length:Int)≠m.Inputs∨(↑y.length:Int)≠m.Inputs
 ·rw [decide_eq_true h,cond_true,if_pos h]
 ·rw [decide_eq_false h,cond_false,if_neg h]
  have h1:(↑x.length:Int)=m.Inputs:=Classical.byContradiction fun q=>h (Or.inl q)
  have h2:(↑y.length:Int)=m.Inputs:=Classical.byContradiction fun q=>h (Or.inr q)
  rw [zcx (l:=x) (fun a u=>celE m.Next.length u ((y[a]?).getD 0)) (fun a u hu=>?_) ?_ (by omega),obind]
  ·cases scan (fun a u=>celE m.Next.length u ((y[a]?).getD 0)) 0 x<;>rfl
  ·simp only [R06_row.s2]
   rw [decide_eq_false (by omega),cond_false]
  ·have ha:=(List.getElem?_eq_some_iff.1 hu).1
   have hv:y[a]?=some y[a]:=get_at (by omega)
   rw [hv,Option.getD_some]
   simp only [R06_row.s2,idx_nat]
   rw [decide_eq_true (by omega),cond_true]
   simp only [idxn_at hx,idxn_at hy,idxn_at hu,idxn_at hv]
   rw [cel_cond,obind]
   cases e:celE m.Next.length u y[a] with
   | none =>
    rw [Option.isSome_none,cond_false,chk_pos (by unfold inR;omega)]
   | some r =>
    have:=celE_two (n:=m.Next.length) (u:=u) (v:=y[a])
    rw [e] at this
    injection this with this
    rw [this,Option.isSome_some,cond_true]
theorem mealy_row_eq (hi:m.Inputs≤64) {s:Nat} {x y:List Int} (hx:m.Next[s]?=some x) (hy:m.Out[s]?=some y):zap.s14 m s=some (match rowE m s x with | some e=>.inr (.inr e) | none=>.inl (s+1)):=by
 have hs:=(List.getElem?_eq_some_iff.1 hx).1
 simp only [zap.s14]
 rw [decide_eq_true (by omega),cond_true,row_len hx hy,obind]
 unfold rowE
 rw [hy,Option.getD_some]
 by_cases h:(↑x.length:Int)≠m.Inputs∨(↑y.length:Int)≠m.Inputs
 ·rw [decide_eq_true h,cond_true,if_pos h]
 ·rw [decide_eq_false h,cond_false,if_neg h]
  have h1:(↑x.length:Int)=m.Inputs:=Classical.byContradiction fun q=>h (Or.inl q)
  have h2:(↑y.length:Int)=m.Inputs:=Classical.byContradiction fun q=>h (Or.inr q)
  rw [zcx (l:=x) (fun a u=>(celE m.Next.length u ((y[a]?).getD 0)).map fun r=>(.inr (.inr r):Nat⊕(Unit⊕Int))) (fun a u hu=>?_) ?_ (by omega),obind,scan_map]
  ·cases scan (fun a u=>celE m.Next.length u ((y[a]?).getD 0)) 0 x<;>rfl
  ·simp only [zap.s13]
   rw [decide_eq_false (by omega),cond_false]
  ·have ha:=(List.getElem?_eq_some_iff.1 hu).1
   have hv:y[a]?=some y[a]:=get_at (by omega)
   rw [hv,Option.getD_some]
   simp only [zap.s13]
   rw [decide_eq_true (by omega),cond_true]
   simp only [idxn_at hx,idxn_at hy,idxn_at hu,idxn_at hv]
   rw [cel_cond,obind]
   cases e:celE m.Next.length u y[a] with
   | none =>
    rw [Option.isSome_none,cond_false,chk_pos (by unfold inR;omega)]
    rfl
   | some r =>
    have:=celE_two (n:=m.Next.length) (u:=u) (v:=y[a])
    rw [e] at this
    injection this with this
    rw [this,Option.isSome_some,cond_true]
    rfl
theorem R06_Valid_eq (m:zab):zb8 m=some (validM m):=by
 unfold zb8 validM
 by_cases c1:m.Inputs<1
 ·rw [decide_eq_true c1,if_pos (Or.inl c1)];rfl
 rw [decide_eq_false c1,cond_false]
 by_cases c2:64<m.Inputs
 ·rw [decide_eq_true c2,if_pos (Or.inr c2)];rfl
 rw [decide_eq_false c2,obind,cond_false,if_neg (by omega)]
 by_cases c3:m.Next.length=0
 ·rw [decide_eq_true (by omega),if_pos c3];rfl
 rw [decide_eq_false (by omega),cond_false,if_neg c3]
 by_cases c4:128<m.Next.length
 ·rw [decide_eq_true (by omega),if_pos c4];rfl
 rw [decide_eq_false (by omega),cond_false,if_neg c4]
 by_cases c5:m.Start<0
 ·rw [decide_eq_true c5,if_pos (Or.inl c5)];rfl
 rw [decide_eq_false c5,cond_false]
 by_cases c6:(↑m.Next.length:Int)≤m.Start
 ·rw [decide_eq_true c6,if_pos (Or.inr c6)];rfl
 rw [decide_eq_false c6,obind,cond_false,if_neg (by omega)]
 by_cases c7:m.Out.length=m.Next.length
 ·rw [decide_eq_false (by omega),cond_false,if_neg (by omega),zcx (l:=m.Next) (rowE m) (fun s x hx=>?_) ?_ (by omega),obind]
  ·cases scan (rowE m) 0 m.Next<;>rfl
  ·simp only [zb8.s2]
   rw [decide_eq_false (by omega),cond_false]
  ·have hs:=(List.getElem?_eq_some_iff.1 hx).1
   simp only [zb8.s2]
   rw [decide_eq_true (by omega),cond_true,R06_row_eq (by omega) hx (get_at (l:=m.Out) (by omega)),obind]
   cases e:rowE m s x with
   | none=>rfl
   | some r=>rw [decide_eq_true (rowE_ne e),cond_true]
 ·rw [decide_eq_true (by omega),if_pos c7];rfl
theorem zhv (m:zab):zap m=some (validM m):=by
 unfold zap validM
 by_cases c1:m.Inputs<1
 ·rw [decide_eq_true c1,if_pos (Or.inl c1)];rfl
 rw [decide_eq_false c1,cond_false]
 by_cases c2:64<m.Inputs
 ·rw [decide_eq_true c2,if_pos (Or.inr c2)];rfl
 rw [decide_eq_false c2,obind,cond_false,if_neg (by omega)]
 by_cases c3:m.Next.length=0
 ·rw [decide_eq_true (by omega),if_pos c3];rfl
 rw [decide_eq_false (by omega),cond_false,if_neg c3]
 by_cases c4:128<m.Next.length
 ·rw [decide_eq_true (by omega),if_pos c4];rfl
 rw [decide_eq_false (by omega),cond_false,if_neg c4]
 by_cases c5:m.Start<0
 ·rw [decide_eq_true c5,if_pos (Or.inl c5)];rfl
 rw [decide_eq_false c5,cond_false]
 by_cases c6:(↑m.Next.length:Int)≤m.Start
 ·rw [decide_eq_true c6,if_pos (Or.inr c6)];rfl
 rw [decide_eq_false c6,obind,cond_false,if_neg (by omega)]
 by_cases c7:m.Out.length=m.Next.length
 ·rw [decide_eq_false (by omega),cond_false,if_neg (by omega),zcx (l:=m.Next) (rowE m) (fun s x hx=>?_) ?_ (by omega),obind]
  ·cases scan (rowE m) 0 m.Next<;>rfl
  ·simp only [zap.s14]
   rw [decide_eq_false (by omega),cond_false]
  ·have hs:=(List.getElem?_eq_some_iff.1 hx).1
   rw [mealy_row_eq (by omega) hx (get_at (l:=m.Out) (by omega))]
   cases rowE m s x<;>rfl
 ·rw [decide_eq_true (by omega),if_pos c7];rfl
theorem valid_ok (h:validM m=0):MacOk m:=macOk_of (by rw [R06_Valid_eq,h])
def fromM (m:zab) (s:Int) (w:List Int):List Int×Int×Int :=
 if validM m≠0 then ([],0,validM m) else if s<0∨(↑m.Next.length:Int)≤s then ([],0,2) else if checkI w m.Inputs≠0 then ([],0,checkI w m.Inputs) else (outs m s.toNat w,(↑(dest m s.toNat w):Int),0)
theorem zdq {w:List Int} {n:Int} (h:checkI w n=0):w.length≤1024:=by
 unfold checkI at h
 split at h
 ·split at h
  ·cases h
  ·omega
 ·cases h
theorem runner_eq (H:MacOk m) {s:Nat} (hs:s<m.Next.length) {w:List Int} (hw:WOk m.Inputs w) (hl:w.length≤100000000):za6 (⟨(⟨m⟩:zb7),(↑s:Int)⟩:zbo) w=some (outs m s w,(⟨(⟨m⟩:zb7),(↑(dest m s w):Int)⟩:zbo)):=by
 unfold za6
 have key:=iter_eq (step:=fun (q:Int×List Int×Nat)=>za6.s2 (⟨(⟨m⟩:zb7),(↑s:Int)⟩:zbo) w q.1 q.2.1 q.2.2) (r:=((↑(dest m s w):Int),outs m s w)) (fun q=>q.2.2≤w.length∧q.1=(↑(dest m s (w.take q.2.2)):Int)∧q.2.1=outs m s (w.take q.2.2)) (fun q=>w.length-q.2.2) (fun q ⟨g1,g2,g3⟩=>by
  obtain ⟨st,y,k⟩:=q
  simp only at g1 g2 g3
  subst g2
  subst g3
  simp only [za6.s2,zdk]
  by_cases g4:k<w.length
  ·left
   have hx:=get_at g4
   obtain ⟨x0,x1⟩:=hw _ (List.getElem_mem g4)
   have ha:w[k].toNat<m.Inputs.toNat:=by omega
   have hd:Sym.dest m s (w.take k)<m.Next.length:=H.dest (hw.take k) hs
   obtain ⟨_,_,_,x,y,e1,e2,e3,e4⟩:=H.at hd ha
   refine ⟨((↑(Sym.dest m s (w.take (k+1))):Int),outs m s (w.take (k+1)),k+1),?_,⟨g4,rfl,rfl⟩,by simp only;omega⟩
   rw [dec_lt hx,cond_true,idxn_at hx,idx_at rfl e1,idx_at (i:=w[k].toNat) (by omega) e3,idx_at rfl e2,idx_at (i:=w[k].toNat) (by omega) e4,obind,chk_pos (by unfold capOk;rw [outs_len,List.length_take];omega),zb9 hx,zgn,zee]
   rfl
  ·right
   have e:k=w.length:=by omega
   subst e
   rw [decide_eq_false (by omega),cond_false,List.take_length]) (n:=fuel) (s:=((↑s:Int),[],0)) ⟨Nat.zero_le _,rfl,rfl⟩ (by have:=fuel_big;simp only;omega)
 rw [key,obind]
 rfl
theorem mealy_From_eq {s:Int} {w:List Int} (hw:SmW w):ze4 m s w=some (fromM m s w):=by
 unfold ze4 zgo fromM
 rw [zhv,obind]
 by_cases c1:validM m=0
 ·rw [decide_eq_false (by omega),cond_false,if_neg (by omega)]
  by_cases c2:s<0
  ·rw [decide_eq_true c2,if_pos (Or.inl c2)];rfl
  rw [decide_eq_false c2,cond_false]
  by_cases c3:(↑m.Next.length:Int)≤s
  ·rw [decide_eq_true c3,if_pos (Or.inr c3)];rfl
  rw [decide_eq_false c3,obind,cond_false,if_neg (by omega),obind,decide_eq_false (by omega),cond_false,zd7 _ _ hw,obind]
  by_cases c4:checkI w m.Inputs=0
  ·have:=zdq c4
   have hO:=runner_eq (valid_ok c1) (s:=s.toNat) (by omega) (w:=w) (check_mem c4) (by omega)
   rw [show (↑s.toNat:Int)=s by omega] at hO
   rw [decide_eq_false (by omega),cond_false,if_neg (by omega),hO,obind]
  ·rw [decide_eq_true c4,cond_true,if_pos c4]
 ·rw [decide_eq_true c1,cond_true,if_pos c1,obind,decide_eq_true c1,cond_true]
end
end Go.Proofs.YtcneaiejdidooaaGreatDoor.Sym

/-
 Lists of words compared, small machines, tails. Plain laws.
-/
namespace Go.Proofs.YtcneaiejdidooaaGreatDoor.Sym
set_option maxRecDepth 100000
section
variable {m:zab} {ids:List (List (List Int))} {w:List Int}
theorem fromM_start (hw:SmW w) (h:validM m=0):fromM m m.Start w=if checkI w m.Inputs≠0 then ([],0,checkI w m.Inputs) else (outs m m.Start.toNat w,(↑(dest m m.Start.toNat w):Int),0):=by
 have H:=valid_ok h
 have:=H.st
 unfold fromM
 rw [if_neg (by omega),if_neg (by omega)]
end
end Go.Proofs.YtcneaiejdidooaaGreatDoor.Sym

/-
 Search in breadth, step by step. Plain laws.
-/
namespace Go.Proofs.YtcneaiejdidooaaGreatDoor.Sym
set_option maxRecDepth 100000
section
variable {A:Type} [DecidableEq A]
def bfsB (e:A→Nat→A) (K:Nat) (s0:A):Nat→List (A×List Int)
 | 0=>[(s0,[])]
 | r+1=>match (bfsB e K s0 r)[r / K]? with
  | none=>bfsB e K s0 r
  | some x=>if e x.1 (r%K)∈(bfsB e K s0 r).map Prod.fst then bfsB e K s0 r else bfsB e K s0 r++[(e x.1 (r%K),x.2++[(↑(r%K):Int)])]
theorem dm_div {K i a:Nat} (h:a<K):(i*K+a) / K=i:=by
 rw [Nat.add_comm,Nat.add_mul_div_right _ _ (by omega),Nat.div_eq_of_lt h,Nat.zero_add]
theorem mem_lt {i n a K:Nat} (hi:i<n) (ha:a<K):i*K+a<n*K:=by
 have:(i+1)*K≤n*K:=Nat.mul_le_mul_right K hi
 rw [Nat.succ_mul] at this
 omega
variable {e:A→Nat→A} {K:Nat} {s0:A}
theorem bfs_pre1 (r:Nat):bfsB e K s0 r <+: bfsB e K s0 (r+1):=by
 rw [bfsB]
 split
 ·exact List.prefix_refl _
 ·split
  ·exact List.prefix_refl _
  ·exact List.prefix_append _ _
theorem bfs_pre {r:Nat}:∀ {r':Nat},r≤r'→bfsB e K s0 r <+: bfsB e K s0 r'
 | 0,h=>by
  have:r=0:=by omega
  subst this
  exact List.prefix_refl _
 | r'+1,h=>by
  rcases Nat.lt_or_ge r (r'+1) with g | g
  ·exact (bfs_pre (r':=r') (by omega)).trans (bfs_pre1 r')
  ·have:r=r'+1:=by omega
   subst this
   exact List.prefix_refl _
theorem pre_get {α:Type} {l l':List α} (h:l <+: l') {i:Nat} {x:α} (hx:l[i]?=some x):l'[i]?=some x:=by
 obtain ⟨t,rfl⟩:=h
 rw [List.getElem?_append_left (List.getElem?_eq_some_iff.1 hx).1,hx]
theorem bfs_pos (r:Nat):(bfsB e K s0 r)[0]?=some (s0,[]):=pre_get (bfs_pre (Nat.zero_le r)) rfl
theorem bfs_nodup:∀ r:Nat,((bfsB e K s0 r).map Prod.fst).Nodup
 | 0=>by simp [bfsB]
 | r+1=>by
  have ih:=bfs_nodup r
  rw [bfsB]
  split
  ·exact ih
  ·split
   ·exact ih
   ·rename_i x _ hn
    rw [List.map_append,List.nodup_append]
    refine ⟨ih,by simp,fun a ha b hb hab=>hn ?_⟩
    have:b=e x.1 (r%K):=by simpa using hb
    rw [← this,← hab]
    exact ha
theorem bfs_from:∀ {r u:Nat} {x:A×List Int},(bfsB e K s0 r)[u]?=some x→u=0∨∃ r' y,r'<r∧r' / K<u∧(bfsB e K s0 r)[r' / K]?=some y∧x=(e y.1 (r'%K),y.2++[(↑(r'%K):Int)])
 | 0,u,x,h=>by
  left
  have:=(List.getElem?_eq_some_iff.1 h).1
  simp [bfsB] at this
  exact this
 | r+1,u,x,h=>by
  have old:(bfsB e K s0 r)[u]?=some x→u=0∨∃ r' y,r'<r+1∧r' / K<u∧(bfsB e K s0 (r+1))[r' / K]?=some y∧x=(e y.1 (r'%K),y.2++[(↑(r'%K):Int)]):=fun h=>by
   rcases bfs_from h with h | ⟨r',y,h1,h2,h3,h4⟩
   ·exact Or.inl h
   ·exact Or.inr ⟨r',y,by omega,h2,pre_get (bfs_pre1 r) h3,h4⟩
  have hh:=h
  rw [bfsB] at h
  split at h
  ·exact old h
  ·rename_i y hy
   split at h
   ·exact old h
   ·rename_i hn
    rcases Nat.lt_or_ge u (bfsB e K s0 r).length with g | g
    ·rw [List.getElem?_append_left g] at h
     exact old h
    ·right
     rw [List.getElem?_append_right g] at h
     have hu:u-(bfsB e K s0 r).length=0:=by
      have:=(List.getElem?_eq_some_iff.1 h).1
      simpa using this
     rw [hu] at h
     have hx:x=(e y.1 (r%K),y.2++[(↑(r%K):Int)]):=by
      simp at h
      exact h.symm
     have hk:=(List.getElem?_eq_some_iff.1 hy).1
     exact ⟨r,y,by omega,by omega,pre_get (bfs_pre1 r) hy,hx⟩
structure BfsEnd (e:A→Nat→A) (K:Nat) (s0:A) (L:List (A×List Int)):Prop where
 eq:L=bfsB e K s0 (L.length*K)
variable {L:List (A×List Int)}
theorem BfsEnd.at (h:BfsEnd e K s0 L) {r:Nat} (hr:r≤L.length*K):bfsB e K s0 r <+: L:=by
 have:=bfs_pre (e:=e) (K:=K) (s0:=s0) hr
 rw [← h.eq] at this
 exact this
theorem BfsEnd.first (h:BfsEnd e K s0 L):L[0]?=some (s0,[]):=by
 rw [h.eq]
 exact bfs_pos _
theorem BfsEnd.nodup (h:BfsEnd e K s0 L):(L.map Prod.fst).Nodup:=by
 rw [h.eq]
 exact bfs_nodup _
theorem BfsEnd.long (h:BfsEnd e K s0 L) {i a:Nat} (hi:i<L.length) (ha:a<K):∃ x,L[i]?=some x∧(bfsB e K s0 (i*K+a))[i]?=some x:=by
 refine ⟨_,List.getElem?_eq_getElem hi,?_⟩
 have hpre:=h.at (r:=i*K+a) (by have:=mem_lt hi ha;omega)
 rcases Nat.lt_or_ge i (bfsB e K s0 (i*K+a)).length with g | g
 ·have:=pre_get hpre (List.getElem?_eq_getElem g)
  rw [List.getElem?_eq_getElem hi] at this
  rw [List.getElem?_eq_getElem g,this]
 ·exfalso
  have stay:∀ d,bfsB e K s0 (i*K+a+d)=bfsB e K s0 (i*K+a):=by
   intro d
   induction d with
   | zero=>rfl
   | succ d ih =>
    show bfsB e K s0 (i*K+a+d+1)=_
    rw [bfsB,ih,List.getElem?_eq_none ?_]
    have h1:(i*K+a) / K≤(i*K+a+d) / K:=Nat.div_le_div_right (by omega)
    rw [dm_div ha] at h1
    omega
  have h2:=stay (L.length*K-(i*K+a))
  rw [show i*K+a+(L.length*K-(i*K+a))=L.length*K by have:=mem_lt hi ha;omega,← h.eq] at h2
  rw [← h2] at g
  omega
theorem BfsEnd.from (h:BfsEnd e K s0 L) (hK:0<K) {u:Nat} {x:A×List Int} (hx:L[u]?=some x):u=0∨∃ i a y,i<u∧a<K∧L[i]?=some y∧x=(e y.1 a,y.2++[(↑a:Int)]):=by
 have hx':=hx
 rw [h.eq] at hx'
 rcases bfs_from hx' with q | ⟨r',z,q1,q2,q3,q4⟩
 ·exact Or.inl q
 ·rw [← h.eq] at q3
  exact Or.inr ⟨r' / K,r'%K,z,q2,Nat.mod_lt _ hK,q3,q4⟩
theorem BfsEnd.uniq {L':List (A×List Int)} (hK:0<K) (h:BfsEnd e K s0 L) (h':BfsEnd e K s0 L'):L=L':=by
 have key:∀ {L L':List (A×List Int)},BfsEnd e K s0 L→BfsEnd e K s0 L'→L.length≤L'.length→L=L':=fun {L L'} h h' hl=>by
  rcases Nat.lt_or_ge L.length L'.length with g | g
  ·exfalso
   have hpre:L <+: L':=by
    have:=h'.at (r:=L.length*K) (Nat.mul_le_mul_right K hl)
    rwa [← h.eq] at this
   obtain ⟨x,_,hx⟩:=h'.long g hK
   rw [Nat.add_zero,← h.eq,List.getElem?_eq_none (Nat.le_refl _)] at hx
   cases hx
  ·have e1:L.length=L'.length:=by omega
   rw [h.eq,h'.eq,e1]
 rcases Nat.le_total L.length L'.length with g | g
 ·exact key h h' g
 ·exact (key h' h g).symm
end
end Go.Proofs.YtcneaiejdidooaaGreatDoor.Sym

/-
 Machines: equivalence of states, and its classes. Plain laws.
-/
namespace Go.Proofs.YtcneaiejdidooaaGreatDoor.Sym
set_option maxRecDepth 100000
def E (m:zab):Nat→Nat→Nat→Prop
 | 0,_,_=>True
 | k+1,s,t=>E m k s t∧∀ a,a<m.Inputs.toNat→ot m s a=ot m t a∧E m k (nx m s a) (nx m t a)
section
variable {m:zab}
structure ClsOk (m:zab) (k:Nat) (c:List Int):Prop where
 len:c.length=m.Next.length
 rng:∀ s,s<m.Next.length→∃ x:Nat,c[s]?=some (↑x:Int)∧x<m.Next.length
 cls:∀ s t,s<m.Next.length→t<m.Next.length→(c[s]?=c[t]?↔E m k s t)
structure FinOk (m:zab) (k:Nat) (y:List Int) (n s:Nat):Prop where
 ls:s≤m.Next.length
 len:y.length=s
 cnt:n≤s
 rng:∀ i,i<s→∃ x:Nat,y[i]?=some (↑x:Int)∧x<n
 cls:∀ i j,i<s→j<s→(y[i]?=y[j]?↔E m k i j)
open Classical in
open Classical in
open Classical in
open Classical in
end
end Go.Proofs.YtcneaiejdidooaaGreatDoor.Sym

/-
 Machines: the minimal machine, each class by its first state. Plain laws.
-/
namespace Go.Proofs.YtcneaiejdidooaaGreatDoor.Sym
set_option maxRecDepth 100000
theorem nodup_le {α:Type} [DecidableEq α]:∀ {l l':List α},l.Nodup→(∀ x∈l,x∈l')→l.length≤l'.length
 | [],_,_,_=>Nat.zero_le _
 | x::l,l',h,hs=>by
  have h1:=List.nodup_cons.1 h
  have hx:=hs x (by simp)
  have ih:=nodup_le (l:=l) (l':=l'.erase x) h1.2 (fun y hy=>(List.mem_erase_of_ne (fun e=>h1.1 (by rw [← e];exact hy))).2 (hs y (List.mem_cons_of_mem _ hy)))
  rw [List.length_erase_of_mem hx] at ih
  have:=List.length_pos_of_mem hx
  simp only [List.length_cons]
  omega
def Ext (l l':List Nat):Prop:=∀ j u:Nat,l[j]?=some u→l'[j]?=some u
theorem Ext.rfl' {l:List Nat}:Ext l l:=fun _ _ h=>h
theorem Ext.trans {l l' l'':List Nat} (h:Ext l l') (g:Ext l' l''):Ext l l'':=fun j u e=>g j u (h j u e)
theorem Ext.push (l:List Nat) (t:Nat):Ext l (l++[t]):=fun j u h=>by
 have:=(List.getElem?_eq_some_iff.1 h).1
 rw [List.getElem?_append_left this,h]
structure Num (m:zab) (c:List Int) (ord:List Nat) (num:List Int):Prop where
 rng:∀ u∈ord,u<m.Next.length
 start:ord[0]?=some m.Start.toNat
 len:num.length=m.Next.length
 n1:∀ j u x:Nat,ord[j]?=some u→c[u]?=some (↑x:Int)→num[x]?=some (↑j:Int)
 n2:∀ x:Nat,x<m.Next.length→num[x]?=some (-1:Int)∨∃ j u:Nat,num[x]?=some (↑j:Int)∧ord[j]?=some u∧c[u]?=some (↑x:Int)
 reach:∀ j u:Nat,ord[j]?=some u→j=0∨∃ i v a:Nat,i<j∧ord[i]?=some v∧a<m.Inputs.toNat∧u=nx m v a
section
variable {m:zab} {c num:List Int} {ord:List Nat} {k:Nat}
theorem Num.inj (N:Num m c ord num) (C:ClsOk m k c) {i j u v:Nat} (hi:ord[i]?=some u) (hj:ord[j]?=some v) (h:c[u]?=c[v]?):i=j:=by
 obtain ⟨x,x1,_⟩:=C.rng u (N.rng u (List.mem_of_getElem? hi))
 have h1:=N.n1 i u x hi x1
 have h2:=N.n1 j v x hj (by rw [← h,x1])
 rw [h1] at h2
 injection h2 with h2
 omega
theorem Num.nodup (N:Num m c ord num) (C:ClsOk m k c):ord.Nodup:=by
 refine List.pairwise_iff_getElem.2 fun i j hi hj hij h=>?_
 have:=N.inj C (get_at hi) (get_at hj) (by rw [h])
 omega
theorem Num.le (N:Num m c ord num) (C:ClsOk m k c):ord.length≤m.Next.length:=by
 have:=nodup_le (N.nodup C) (l':=List.range m.Next.length) fun x hx=>List.mem_range.2 (N.rng x hx)
 rwa [List.length_range] at this
theorem Num.push (N:Num m c ord num) {i v a t x:Nat} (hi:ord[i]?=some v) (ha:a<m.Inputs.toNat) (ht:t=nx m v a) (htn:t<m.Next.length) (hx:c[t]?=some (↑x:Int)) (hxn:x<m.Next.length) (hn:num[x]?=some (-1:Int)):Num m c (ord++[t]) (num.set x (↑ord.length:Int)) where
 rng:=fun u hu=>by
  rcases List.mem_append.1 hu with h | h
  ·exact N.rng u h
  ·rw [List.mem_singleton.1 h]
   exact htn
 start:=Ext.push ord t 0 _ N.start
 len:=by rw [List.length_set,N.len]
 n1:=fun j u y hj hc=>by
  rcases Nat.lt_or_ge j ord.length with h | h
  ·rw [List.getElem?_append_left h] at hj
   have h1:=N.n1 j u y hj hc
   have hne:x≠y:=fun e=>by
    subst e
    rw [hn] at h1
    injection h1 with h1
    omega
   rw [List.getElem?_set_ne hne]
   exact h1
  ·have h2:=(List.getElem?_eq_some_iff.1 hj).1
   rw [List.length_append,List.length_singleton] at h2
   have e:j=ord.length:=by omega
   subst e
   rw [List.getElem?_append_right (Nat.le_refl _),Nat.sub_self] at hj
   injection hj with hj
   subst hj
   rw [hx] at hc
   injection hc with hc
   have e:x=y:=by omega
   subst e
   rw [List.getElem?_set_self (by rw [N.len];exact hxn)]
 n2:=fun y hy=>by
  by_cases e:x=y
  ·subst e
   exact Or.inr ⟨ord.length,t,by rw [List.getElem?_set_self (by rw [N.len];exact hxn)],by simp,hx⟩
  ·rw [List.getElem?_set_ne e]
   rcases N.n2 y hy with h | ⟨j,u,h1,h2,h3⟩
   ·exact Or.inl h
   ·exact Or.inr ⟨j,u,h1,Ext.push ord t j u h2,h3⟩
 reach:=fun j u hj=>by
  rcases Nat.lt_or_ge j ord.length with h | h
  ·rw [List.getElem?_append_left h] at hj
   rcases N.reach j u hj with h1 | ⟨i',v',a',h1,h2,h3,h4⟩
   ·exact Or.inl h1
   ·exact Or.inr ⟨i',v',a',h1,Ext.push ord t i' v' h2,h3,h4⟩
  ·have h2:=(List.getElem?_eq_some_iff.1 hj).1
   rw [List.length_append,List.length_singleton] at h2
   have e:j=ord.length:=by omega
   subst e
   rw [List.getElem?_append_right (Nat.le_refl _),Nat.sub_self] at hj
   injection hj with hj
   exact Or.inr ⟨i,v,a,(List.getElem?_eq_some_iff.1 hi).1,Ext.push ord t i v hi,ha,by rw [← hj,ht]⟩
structure RowAt (m:zab) (c:List Int) (ord:List Nat) (v:Nat) (row out:List Int) (a:Nat):Prop where
 l1:row.length=a
 l2:out.length=a
 cell:∀ b,b<a→∃ j u:Nat,row[b]?=some (↑j:Int)∧ord[j]?=some u∧c[u]?=c[nx m v b]?∧out[b]?=some (ot m v b)
theorem RowAt.mono {v:Nat} {row out:List Int} {a:Nat} {ord':List Nat} (h:Ext ord ord') (R:RowAt m c ord v row out a):RowAt m c ord' v row out a :=
 ⟨R.l1,R.l2,fun b hb=>by
  obtain ⟨j,u,h1,h2,h3⟩:=R.cell b hb
  exact ⟨j,u,h1,h j u h2,h3⟩⟩
structure MinOk (m M:zab) (c:List Int) (ord:List Nat) (num:List Int):Prop where
 cls:ClsOk m m.Next.length c
 num:Num m c ord num
 inp:M.Inputs=m.Inputs
 start:M.Start=0
 l1:M.Next.length=ord.length
 l2:M.Out.length=ord.length
 row:∀ i v:Nat,ord[i]?=some v→∃ row out,M.Next[i]?=some row∧M.Out[i]?=some out∧RowAt m c ord v row out m.Inputs.toNat
end
end Go.Proofs.YtcneaiejdidooaaGreatDoor.Sym

/-
 What a machine reaches: the program's and the document's searches. Plain laws.
-/
namespace Go.Proofs.YtcneaiejdidooaaGreatDoor.Sym
set_option maxRecDepth 100000
section
variable {m:zab}
abbrev MEnd (m:zab) (s0:Nat) (L:List (Nat×List Int)):Prop:=BfsEnd (nx m) m.Inputs.toNat s0 L
structure SeenOk (n:Nat) (y:List Bool) (l:List Nat):Prop where
 len:y.length=n
 at_:∀ t,t<n→y[t]?=some (decide (t∈l))
theorem SeenOk.push {n t:Nat} {y:List Bool} {l:List Nat} (S:SeenOk n y l) (ht:t<n):SeenOk n (y.set t true) (l++[t]):=by
 refine ⟨by simp [S.len],fun u hu=>?_⟩
 by_cases h:t=u
 ·subst h
  rw [List.getElem?_set_self (by rw [S.len];exact ht)]
  simp
 ·rw [List.getElem?_set_ne h,S.at_ u hu]
  congr 1
  apply decide_eq_decide.2
  rw [List.mem_append]
  constructor
  ·exact Or.inl
  ·rintro (q | q)
   ·exact q
   ·exact absurd (by simpa using q:u=t).symm h
end
end Go.Proofs.YtcneaiejdidooaaGreatDoor.Sym

/-
 Access words: the program's and the document's. Plain laws.
-/
namespace Go.Proofs.YtcneaiejdidooaaGreatDoor.Sym
set_option maxRecDepth 100000
section
variable {m:zab}
end
end Go.Proofs.YtcneaiejdidooaaGreatDoor.Sym

/-
 The first word that has different outputs: the program's and the document's. Plain laws.
-/
namespace Go.Proofs.YtcneaiejdidooaaGreatDoor.Sym
set_option maxRecDepth 100000
section
variable {a b:zab}
structure Two (a b:zab):Prop where
 a1:MacOk a
 b1:MacOk b
 inp:a.Inputs=b.Inputs
end
end Go.Proofs.YtcneaiejdidooaaGreatDoor.Sym

/-
 The first word that has different outputs: the loops. Plain laws.
-/
namespace Go.Proofs.YtcneaiejdidooaaGreatDoor.Sym
set_option maxRecDepth 100000
section
variable {a b:zab}
structure SeenG (n k:Nat) (y:List (List Bool)) (l:List (Nat×Nat)):Prop where
 len:y.length=n
 at_:∀ s t,s<n→t<k→∃ row,y[s]?=some row∧row.length=k∧row[t]?=some (decide ((s,t)∈l))
theorem pair_mem {l:List (Nat×Nat)} {p q:Nat×Nat} (h:p≠q):p∈l↔p∈l++[q]:=by
 rw [List.mem_append,List.mem_singleton]
 exact ⟨Or.inl,fun z=>z.elim id fun e=>absurd e h⟩
theorem SeenG.push {n k s t:Nat} {y:List (List Bool)} {l:List (Nat×Nat)} {row:List Bool} (S:SeenG n k y l) (hs:s<n) (ht:t<k) (hr:y[s]?=some row):SeenG n k (y.set s (row.set t true)) (l++[(s,t)]):=by
 refine ⟨by simp [S.len],fun u v hu hv=>?_⟩
 obtain ⟨row',h1,h2,h3⟩:=S.at_ u v hu hv
 by_cases h:s=u
 ·subst h
  rw [hr] at h1
  injection h1 with h1
  subst h1
  refine ⟨row.set t true,by rw [List.getElem?_set_self (by rw [S.len];exact hs)],by simp [h2],?_⟩
  by_cases g:t=v
  ·subst g
   rw [List.getElem?_set_self (by omega)]
   simp
  ·rw [List.getElem?_set_ne g,h3]
   congr 1
   apply decide_eq_decide.2
   exact pair_mem fun e=>g (congrArg Prod.snd e).symm
 ·refine ⟨row',by rw [List.getElem?_set_ne h,h1],h2,?_⟩
  rw [h3]
  congr 1
  apply decide_eq_decide.2
  exact pair_mem fun e=>h (congrArg Prod.fst e).symm
end
end Go.Proofs.YtcneaiejdidooaaGreatDoor.Sym

/-
 The first word that has different outputs: the document's search, and what it says. Plain laws.
-/
namespace Go.Proofs.YtcneaiejdidooaaGreatDoor.Sym
set_option maxRecDepth 100000
section
variable {a b:zab}
end
end Go.Proofs.YtcneaiejdidooaaGreatDoor.Sym

/-
 The minimal machine with its states in the order of their first words is one. Plain laws.
-/
namespace Go.Proofs.YtcneaiejdidooaaGreatDoor.Sym
set_option maxRecDepth 100000
structure Can (M:zab):Prop where
 c4:∀ i a u,i<M.Next.length→a<M.Inputs.toNat→0<u→u≤nx M i a→∃ i' a',a'<M.Inputs.toNat∧i'*M.Inputs.toNat+a'≤i*M.Inputs.toNat+a∧i'<u∧nx M i' a'=u
 c5:∀ u,0<u→u<M.Next.length→∃ i a,i<u∧a<M.Inputs.toNat∧nx M i a=u
def Eqv (a:zab) (s:Nat) (b:zab) (t:Nat):Prop:=∀ w,WOk a.Inputs w→outs a s w=outs b t w
structure MinSem (m M:zab):Prop where
 ok:MacOk M
 inp:M.Inputs=m.Inputs
 start:M.Start=0
 eqv:Eqv M 0 m m.Start.toNat
 min:∀ i j,i<M.Next.length→j<M.Next.length→Eqv M i M j→i=j
 can:Can M
theorem Eqv.step {a b:zab} (hi:a.Inputs=b.Inputs) {s t c:Nat} (h:Eqv a s b t) (hc:c<a.Inputs.toNat):ot a s c=ot b t c∧Eqv a (nx a s c) b (nx b t c):=by
 have key:∀ w,WOk a.Inputs w→ot a s c::outs a (nx a s c) w=ot b t c::outs b (nx b t c) w:=fun w hw=>by
  have:=h ((↑c:Int)::w) (fun x hx=>by
   rcases List.mem_cons.1 hx with rfl | hx
   ·omega
   ·exact hw x hx)
  exact this
 have h0:=key [] (fun x hx=>by cases hx)
 injection h0 with h0 _
 refine ⟨h0,fun w hw=>?_⟩
 have:=key w hw
 injection this with _ this
theorem Eqv.symm {a b:zab} (hi:a.Inputs=b.Inputs) {s t:Nat} (h:Eqv a s b t):Eqv b t a s:=fun w hw=>(h w (by rw [hi];exact hw)).symm
theorem Eqv.trans {a b c:zab} (hi:a.Inputs=b.Inputs) {s t u:Nat} (h:Eqv a s b t) (g:Eqv b t c u):Eqv a s c u:=fun w hw=>(h w hw).trans (g w (by rw [← hi];exact hw))
theorem Eqv.refl (a:zab) (s:Nat):Eqv a s a s:=fun _ _=>rfl
theorem Eqv.dest {a b:zab} (hi:a.Inputs=b.Inputs) {s t:Nat} (h:Eqv a s b t) {w:List Int} (hw:WOk a.Inputs w):Eqv a (dest a s w) b (dest b t w):=fun v hv=>by
 have:=h (w++v) (hw.append hv)
 rw [zee,zee] at this
 exact List.append_inj_right this (by rw [outs_len,outs_len])
section
variable {M M':zab}
end
structure Shape {A:Type} [DecidableEq A] (e:A→Nat→A) (o:A→Nat→Int) (L:List (A×List Int)) (M:zab):Prop where
 len:M.Next.length=L.length
 row:∀ i x a,L[i]?=some x→a<M.Inputs.toNat→∃ y,L[nx M i a]?=some y∧y.1=e x.1 a∧ot M i a=o x.1 a
end Go.Proofs.YtcneaiejdidooaaGreatDoor.Sym

/-
 The machine of what is reached: the program's Trim. Plain laws.
-/
namespace Go.Proofs.YtcneaiejdidooaaGreatDoor.Sym
set_option maxRecDepth 100000
section
variable {m:zab}
structure TrimOk (m t:zab) (L:List (Nat×List Int)):Prop where
 end_:MEnd m m.Start.toNat L
 inp:t.Inputs=m.Inputs
 start:t.Start=0
 ok:MacOk t
 shape:Shape (nx m) (ot m) L t
end
end Go.Proofs.YtcneaiejdidooaaGreatDoor.Sym

/-
 Classes of equivalent states: the program's refinement. Plain laws.
-/
namespace Go.Proofs.YtcneaiejdidooaaGreatDoor.Sym
set_option maxRecDepth 100000
section
variable {κ ν:Type} [BEq κ]
end
section
variable {m:zab} {c:List Int}
def sigV (m:zab) (c:List Int) (s a p:Nat):Int:=if p<a then ot m s p else if 64≤p∧p-64<a then (c[nx m s (p-64)]?).getD 0 else 0
def sigA (m:zab) (c:List Int) (s:Nat):List Int:=(List.range 128).map (sigV m c s m.Inputs.toNat)
def FirstOcc (o:List Int):Prop:=∀ (s x:Nat),o[s]?=some (↑x:Int)→∀ u:Nat,u<x→∃ s',s'<s∧o[s']?=some (↑u:Int)
structure ClsF (m:zab) (k:Nat) (c:List Int):Prop where
 cls:ClsOk m k c
 first:FirstOcc c
structure Giv (m:zab) (c:List Int) (mp:List (List Int×Int)) (o:List Int) (s:Nat):Prop where
 len:o.length=m.Next.length
 keys:∀ p∈mp,p.1.length=128
 le:mp.length≤s
 get:∀ s',s'<s→∃ x:Nat,x<mp.length∧o[s']?=some (↑x:Int)∧mget (sigA m c s') mp=some (↑x:Int)
 org:∀ k v,mget k mp=some v→∃ s',s'<s∧sigA m c s'=k
 inj:∀ s' s'',s'<s→s''<s→o[s']?=o[s'']?→sigA m c s'=sigA m c s''
 first:∀ (s' x:Nat),s'<s→o[s']?=some (↑x:Int)→∀ u:Nat,u<x→∃ s'',s''<s'∧o[s'']?=some (↑u:Int)
 all:∀ u:Nat,u<mp.length→∃ s',s'<s∧o[s']?=some (↑u:Int)
open Classical in
open Classical in
end
end Go.Proofs.YtcneaiejdidooaaGreatDoor.Sym

/-
 The program's minimal machine. Plain laws.
-/
namespace Go.Proofs.YtcneaiejdidooaaGreatDoor.Sym
set_option maxRecDepth 100000
section
variable {m t:zab} {c:List Int}
def IsFirst (c:List Int) (s u:Nat):Prop:=c[s]?=some (↑u:Int)∧∀ s',s'<s→c[s']?≠some (↑u:Int)
structure Quo (t M:zab) (c:List Int):Prop where
 inp:M.Inputs=t.Inputs
 start:M.Start=0
 len:M.Out.length=M.Next.length
 ub:∀ s,s<t.Next.length→∃ x:Nat,c[s]?=some (↑x:Int)∧x<M.Next.length
 row:∀ u,u<M.Next.length→∃ s r o,s<t.Next.length∧IsFirst c s u∧M.Next[u]?=some r∧M.Out[u]?=some o∧r.length=t.Inputs.toNat∧(∀ a,a<t.Inputs.toNat→r[a]?=c[nx t s a]?)∧t.Out[s]?=some o
 le:M.Next.length≤t.Next.length
variable {M:zab}
end
end Go.Proofs.YtcneaiejdidooaaGreatDoor.Sym

/-
 The document's minimal machine, and that it is the program's. Plain laws.
-/
namespace Go.Proofs.YtcneaiejdidooaaGreatDoor.Sym
set_option maxRecDepth 100000
section
variable {m:zab} {c:List Int}
def clN (c:List Int) (s:Nat):Nat:=((c[s]?).getD 0).toNat
open Classical in
theorem clN_at (C:ClsOk m m.Next.length c) {s:Nat} (hs:s<m.Next.length):c[s]?=some (↑(clN c s):Int)∧clN c s<m.Next.length:=by
 obtain ⟨x,x1,x2⟩:=C.rng s hs
 unfold clN
 rw [x1,Option.getD_some,Int.toNat_natCast]
 exact ⟨rfl,x2⟩
structure Nums (m:zab) (c:List Int) (ord:List Nat) (num:List Int) (B:List (Nat×List Int)):Prop where
 ol:ord.length=B.length
 oc:∀ (j u:Nat) (x:Nat×List Int),ord[j]?=some u→B[j]?=some x→u<m.Next.length∧clN c u=x.1
 nl:num.length=m.Next.length
 n1:∀ (j:Nat) (x:Nat×List Int),B[j]?=some x→num[x.1]?=some (↑j:Int)
 n2:∀ x:Nat,x<m.Next.length→x∉B.map Prod.fst→num[x]?=some (-1:Int)
theorem Nums.push {ord:List Nat} {num:List Int} {B:List (Nat×List Int)} {u:Nat} {w:List Int} (N:Nums m c ord num B) (C:ClsOk m m.Next.length c) (hu:u<m.Next.length) (hn:clN c u∉B.map Prod.fst) (hB:(B.map Prod.fst).Nodup):Nums m c (ord++[u]) (num.set (clN c u) (↑B.length:Int)) (B++[(clN c u,w)]):=by
 have hcl:=(clN_at C hu).2
 refine ⟨by simp [N.ol],fun j v x hj hx=>?_,by simp [N.nl],fun j x hx=>?_,fun x hx hm=>?_⟩
 ·rcases Nat.lt_or_ge j B.length with h | h
  ·rw [List.getElem?_append_left (by rw [N.ol];exact h)] at hj
   rw [List.getElem?_append_left h] at hx
   exact N.oc j v x hj hx
  ·have hl:=(List.getElem?_eq_some_iff.1 hx).1
   rw [List.length_append,List.length_singleton] at hl
   have:j=B.length:=by omega
   subst this
   rw [List.getElem?_append_right (by rw [N.ol];exact Nat.le_refl _),N.ol,Nat.sub_self] at hj
   rw [List.getElem?_append_right (Nat.le_refl _),Nat.sub_self] at hx
   injection hj with hj
   injection hx with hx
   subst hj
   subst hx
   exact ⟨hu,rfl⟩
 ·rcases Nat.lt_or_ge j B.length with h | h
  ·rw [List.getElem?_append_left h] at hx
   rw [List.getElem?_set_ne (fun q=>hn (by rw [q];exact List.mem_map.2 ⟨x,List.mem_of_getElem? hx,rfl⟩)),N.n1 j x hx]
  ·have hl:=(List.getElem?_eq_some_iff.1 hx).1
   rw [List.length_append,List.length_singleton] at hl
   have:j=B.length:=by omega
   subst this
   rw [List.getElem?_append_right (Nat.le_refl _),Nat.sub_self] at hx
   injection hx with hx
   subst hx
   rw [List.getElem?_set_self (by rw [N.nl];exact hcl)]
 ·rw [List.map_append,List.mem_append,not_or] at hm
  have h1:clN c u≠x:=fun q=>hm.2 (by simp [q])
  rw [List.getElem?_set_ne h1]
  exact N.n2 x hx hm.1
end
end Go.Proofs.YtcneaiejdidooaaGreatDoor.Sym

/-
 Words that separate states, minimal machines and identifiers: the program's are the document's. Plain laws.
-/
namespace Go.Proofs.YtcneaiejdidooaaGreatDoor.Sym
set_option maxRecDepth 100000
section
variable {m M:zab}
theorem MacOk.two (H:MacOk m):Two m m:=⟨H,H,rfl⟩
open Classical in
structure MinimalP (m:zab):Prop where
 reach:∀ s,s<m.Next.length→∃ w,WOk m.Inputs w∧dest m m.Start.toNat w=s
 apart:∀ i j,i<m.Next.length→j<m.Next.length→Eqv m i m j→i=j
open Classical in
open Classical in
open Classical in
end
end Go.Proofs.YtcneaiejdidooaaGreatDoor.Sym

/-
 The examples of the chapter on harmonized suites, reckoned.
-/
namespace Go.Proofs.YtcneaiejdidooaaGreatDoor.Sym
set_option maxRecDepth 100000
end Go.Proofs.YtcneaiejdidooaaGreatDoor.Sym

/-
 Suites with harmonized identifiers: the program's is the document's. Plain laws.
-/
namespace Go.Proofs.YtcneaiejdidooaaGreatDoor.Sym
set_option maxRecDepth 100000
section
variable {m M:zab} {ids:List (List (List Int))} {front middle:List (List Int)}
structure Parts (M:zab) (front middle:List (List Int)) (ids:List (List (List Int))):Prop where
 ok:validM M=0
 il:ids.length=M.Next.length
 is_:∀ l∈ids,l.length≤200∧∀ x∈l,x.length≤600
 f1:front.length≤200
 f2:∀ u∈front,WOk M.Inputs u∧u.length≤200
 m1:middle.length≤200
 m2:∀ v∈middle,WOk M.Inputs v∧v.length≤200
end
end Go.Proofs.YtcneaiejdidooaaGreatDoor.Sym

/-
 Suites with identifiers are complete: an implementation with few states that passes is equivalent. Plain laws.
-/
namespace Go.Proofs.YtcneaiejdidooaaGreatDoor.Sym
set_option maxRecDepth 100000
section
variable {M I:zab} {sM sI k:Nat} {U:List (List Int)} {T:Nat→List (List Int)}
structure Pass (M I:zab) (sM sI k:Nat) (U:List (List Int)) (T:Nat→List (List Int)):Prop where
 two:Two M I
 hM:sM<M.Next.length
 hI:sI<I.Next.length
 nil:[]∈U
 ok:∀ u∈U,WOk M.Inputs u
 cov:∀ s,s<M.Next.length→∃ u∈U,dest M sM u=s
 tne:∀ s,s<M.Next.length→∃ x,x∈T s
 tok:∀ s,∀ x∈T s,WOk M.Inputs x
 sep:∀ s s',s<M.Next.length→s'<M.Next.length→s≠s'→∃ x,x∈T s∧x∈T s'∧outs M s x≠outs M s' x
 pass:∀ u∈U,∀ v,WOk M.Inputs v→v.length≤k+1→∀ x∈T (dest M sM (u++v)),outs M sM (u++v++x)=outs I sI (u++v++x)
 few:∀ l:List Nat,l.Nodup→(∀ q∈l,∃ w,WOk M.Inputs w∧dest I sI w=q)→l.length≤M.Next.length+k
theorem zm9 {a b:zab} {s t:Nat} {w v:List Int} (h:outs a s (w++v)=outs b t (w++v)):outs a s w=outs b t w∧outs a (dest a s w) v=outs b (dest b t w) v:=by
 rw [zee,zee] at h
 exact List.append_inj h (by rw [outs_len,outs_len])
variable (P:Pass M I sM sI k U T)
include P
theorem Pass.at_ {u v:List Int} (hu:u∈U) (hv:WOk M.Inputs v) (hl:v.length≤k+1):outs M sM (u++v)=outs I sI (u++v)∧∀ x∈T (dest M sM (u++v)),outs M (dest M sM (u++v)) x=outs I (dest I sI (u++v)) x:=by
 have hd:dest M sM (u++v)<M.Next.length:=P.two.a1.dest ((P.ok u hu).append hv) P.hM
 obtain ⟨x,hx⟩:=P.tne _ hd
 exact ⟨(zm9 (P.pass u hu v hv hl x hx)).1,fun x hx=>(zm9 (P.pass u hu v hv hl x hx)).2⟩
theorem Pass.uniq {u v u' v':List Int} (hu:u∈U) (hv:WOk M.Inputs v) (hl:v.length≤k+1) (hu':u'∈U) (hv':WOk M.Inputs v') (hl':v'.length≤k+1) (h:dest I sI (u++v)=dest I sI (u'++v')):dest M sM (u++v)=dest M sM (u'++v'):=Classical.byContradiction fun hne=>by
 obtain ⟨x,x1,x2,x3⟩:=P.sep _ _ (P.two.a1.dest ((P.ok u hu).append hv) P.hM) (P.two.a1.dest ((P.ok u' hu').append hv') P.hM) hne
 have h1:=(P.at_ hu hv hl).2 x x1
 have h2:=(P.at_ hu' hv' hl').2 x x2
 rw [h] at h1
 exact x3 (h1.trans h2.symm)
omit P
def Vj (I:zab) (sI:Nat) (U:List (List Int)) (K:Int) (j q:Nat):Prop:=∃ u∈U,∃ v,WOk K v∧v.length≤j∧q=dest I sI (u++v)
def Closed (I:zab) (sI:Nat) (U:List (List Int)) (K:Int) (j:Nat):Prop:=∀ q,Vj I sI U K j q→∀ a,a<K.toNat→Vj I sI U K j (nx I q a)
theorem dest_snoc {m:zab} {s a:Nat} {w:List Int}:dest m s (w++[(↑a:Int)])=nx m (dest m s w) a:=by
 rw [zgn]
 show nx m _ (Int.toNat ↑a)=_
 rw [Int.toNat_natCast]
theorem wok_snoc {K:Int} {w:List Int} {a:Nat} (h:WOk K w) (ha:a<K.toNat):WOk K (w++[(↑a:Int)]):=h.append fun z hz=>by
 have:z=(↑a:Int):=by simpa using hz
 omega
include P
theorem Pass.grow:∀ j,j≤k+1→Closed I sI U M.Inputs j∨∃ l:List Nat,l.Nodup∧(∀ q∈l,Vj I sI U M.Inputs j q)∧M.Next.length+j≤l.length
 | 0,_=>by
  right
  have hc:∀ s,∃ u,s<M.Next.length→u∈U∧dest M sM u=s:=fun s=>by
   by_cases hs:s<M.Next.length
   ·obtain ⟨u,h1,h2⟩:=P.cov s hs
    exact ⟨u,fun _=>⟨h1,h2⟩⟩
   ·exact ⟨[],fun h=>absurd h hs⟩
  obtain ⟨f,hf⟩:=Classical.axiomOfChoice hc
  have hnil:WOk M.Inputs []:=fun a ha=>(by cases ha)
  refine ⟨(List.range M.Next.length).map fun s=>dest I sI (f s),?_,fun q hq=>?_,by simp⟩
  ·refine List.pairwise_map.2 (List.Pairwise.imp_of_mem (fun {a b} ha hb hne he=>hne ?_) (List.nodup_range (n:=M.Next.length)))
   have h1:=hf a (List.mem_range.1 ha)
   have h2:=hf b (List.mem_range.1 hb)
   have:=P.uniq (v:=[]) (v':=[]) h1.1 hnil (by simp) h2.1 hnil (by simp) (by rw [List.append_nil,List.append_nil];exact he)
   rwa [List.append_nil,List.append_nil,h1.2,h2.2] at this
  ·obtain ⟨s,hs,rfl⟩:=List.mem_map.1 hq
   exact ⟨f s,(hf s (List.mem_range.1 hs)).1,[],hnil,Nat.le_refl _,by rw [List.append_nil]⟩
 | j+1,hj=>by
  by_cases hcl:Closed I sI U M.Inputs j
  ·left
   have hsub:∀ (v:List Int) (u:List Int),u∈U→WOk M.Inputs v→∀ q,Vj I sI U M.Inputs j q→Vj I sI U M.Inputs j (dest I q v):=by
    intro v
    induction v with
    | nil=>intro _ _ _ q hq;exact hq
    | cons z v ih =>
     intro u hu hv q hq
     have hz:=hv.head
     exact ih u hu hv.tail _ (hcl q hq z.toNat (by omega))
   have hall:∀ q,Vj I sI U M.Inputs (j+1) q→Vj I sI U M.Inputs j q:=fun q ⟨u,hu,v,hv,_,he⟩=>by
    rw [he,zgn]
    exact hsub v u hu hv _ ⟨u,hu,[],fun a ha=>(by cases ha),Nat.zero_le _,by rw [List.append_nil]⟩
   have hup:∀ q,Vj I sI U M.Inputs j q→Vj I sI U M.Inputs (j+1) q:=fun q ⟨u,hu,v,hv,hl,he⟩=>⟨u,hu,v,hv,by omega,he⟩
   exact fun q hq a ha=>hup _ (hcl q (hall q hq) a ha)
  ·right
   rcases Pass.grow j (by omega) with h | ⟨l,l1,l2,l3⟩
   ·exact absurd h hcl
   ·obtain ⟨q,hq⟩:=Classical.not_forall.1 hcl
    obtain ⟨hq,hq2⟩:=Classical.not_imp.1 hq
    obtain ⟨a,ha⟩:=Classical.not_forall.1 hq2
    obtain ⟨ha,hn⟩:=Classical.not_imp.1 ha
    refine ⟨nx I q a::l,List.nodup_cons.2 ⟨fun h=>hn (l2 _ h),l1⟩,fun x hx=>?_,by rw [List.length_cons];omega⟩
    rcases List.mem_cons.1 hx with rfl | hx
    ·obtain ⟨u,hu,v,hv,hl,he⟩:=hq
     exact ⟨u,hu,v++[(↑a:Int)],wok_snoc hv ha,by simp;omega,by rw [← List.append_assoc,dest_snoc,← he]⟩
    ·obtain ⟨u,hu,v,hv,hl,he⟩:=l2 x hx
     exact ⟨u,hu,v,hv,by omega,he⟩
end
end Go.Proofs.YtcneaiejdidooaaGreatDoor.Sym

/-
 Passing a suite, and equality of machines: the program's. Plain laws.
-/
namespace Go.Proofs.YtcneaiejdidooaaGreatDoor.Sym
set_option maxRecDepth 100000
section
variable {m b M:zab}
abbrev outS (m:zab) (w:List Int):List Int:=outs m m.Start.toNat w
theorem zjs (hv:validM m=0) {w:List Int} (hw:checkI w m.Inputs=0):zfe m w=some (outS m w,0):=by
 have hl:=zdq hw
 have hst:=(valid_ok hv).st
 unfold zfe
 rw [mealy_From_eq (by unfold SmW;omega),obind,fromM_start (by unfold SmW;omega) hv,if_neg (fun h=>h hw)]
end
end Go.Proofs.YtcneaiejdidooaaGreatDoor.Sym

/-
 Regression runs: what Run computes. Plain laws.
-/
namespace Go.Proofs.YtcneaiejdidooaaGreatDoor.Sym
set_option maxRecDepth 100000
theorem take_tk {α:Type} {l:List α} {i j:Nat} (h:i≤j):(l.take j).take i=l.take i:=by rw [List.take_take,Nat.min_eq_left h]
theorem zkz:∀ {u a b:List Int},u <+: a→u <+: b→u.length≤common a b
 | [],_,_,_,_=>Nat.zero_le _
 | x::u,a,b,⟨v,hv⟩,⟨w,hw⟩=>by
  subst hv
  subst hw
  have:=zkz (u:=u) (a:=u++v) (b:=u++w) ⟨v,rfl⟩ ⟨w,rfl⟩
  show u.length+1≤common (x::(u++v)) (x::(u++w))
  simp only [common,if_true]
  omega
theorem agree_two {o:zam} (hv:ObsOk o) {a b:zaa} (ha:a∈o.Traces) (hb:b∈o.Traces):Agree a b:=by
 obtain ⟨i,hi,rfl⟩:=List.getElem_of_mem ha
 obtain ⟨j,hj,rfl⟩:=List.getElem_of_mem hb
 rcases Nat.lt_trichotomy i j with h | h | h
 ·exact (hv.apart i j _ _ h (get_at hi) (get_at hj)).2
 ·subst h
  unfold Agree
  rfl
 ·exact (hv.apart j i _ _ h (get_at hj) (get_at hi)).2.symm
theorem agree_cut {a b:zaa} {v:List Int} (h:Agree a b) (ha:v <+: a.In) (hb:v <+: b.In):a.Out.take v.length=b.Out.take v.length:=by
 have h2:=zkz ha hb
 unfold Agree at h
 rw [← take_tk h2,h,take_tk h2]
theorem ansO_at {o:zam} (hv:ObsOk o) {u:zaa} {v:List Int} (hu:u∈o.Traces) (hp:v <+: u.In):ansO o v=some (u.Out.take v.length):=by
 unfold ansO
 by_cases h0:v=[]
 ·subst h0
  simp
 ·rw [if_neg h0]
  cases hb:o.Traces.find? fun t=>decide (v <+: t.In) with
  | none =>
   have:=List.find?_eq_none.1 hb u hu
   simp [hp] at this
  | some b =>
   have hub:v <+: b.In:=by simpa using List.find?_some hb
   exact congrArg some (agree_cut (agree_two hv (List.mem_of_find?_eq_some hb) hu) hub hp)
theorem ansO_tr {o:zam} {v r:List Int} (h:ansO o v=some r) (h0:v≠[]):∃ u∈o.Traces,v <+: u.In∧u.Out.take v.length=r:=by
 unfold ansO at h
 rw [if_neg h0] at h
 obtain ⟨a,ha,rfl⟩:=Option.map_eq_some_iff.1 h
 exact ⟨a,List.mem_of_find?_eq_some ha,by simpa using List.find?_some ha,rfl⟩
theorem ansO_cut {o:zam} (hv:ObsOk o) {u w r:List Int} (h:ansO o w=some r) (hp:u <+: w):ansO o u=some (r.take u.length):=by
 by_cases h0:w=[]
 ·subst h0
  have:u=[]:=by simpa using hp
  subst this
  unfold ansO
  simp
 ·obtain ⟨t,h1,h2,rfl⟩:=ansO_tr h h0
  rw [ansO_at hv h1 (hp.trans h2),take_tk hp.length_le]
theorem ans_keep {o:zam} {t:zaa} (hv:ObsOk o) (h:(addO o t).2=0) {v x:List Int} (hx:ansO o v=some x):ansO (addO o t).1 v=some x:=by
 by_cases h0:v=[]
 ·subst h0
  unfold ansO at hx ⊢
  rw [if_pos rfl] at hx ⊢
  exact hx
 obtain ⟨u,h1,h2,rfl⟩:=ansO_tr hx h0
 have hv':ObsOk (addO o t).1:=addO_ok hv
 unfold addO at h hv' ⊢
 by_cases g1:propI t o.Inputs≠0
 ·rw [if_pos g1] at hv' ⊢
  exact hx
 ·rw [if_neg g1] at h hv' ⊢
  by_cases g2:clashO o.Traces t
  ·rw [if_pos g2] at h
   cases h
  ·rw [if_neg g2] at h hv' ⊢
   by_cases g3:10000<(addL o.Traces t).length
   ·rw [if_pos g3] at h
    cases h
   ·rw [if_neg g3] at hv' ⊢
    by_cases g4:insideO o.Traces t.In=true∨t.In=[]
    ·refine ansO_at hv' ?_ h2
     show u∈addL o.Traces t
     unfold addL
     rw [if_pos g4]
     exact h1
    ·by_cases g5:u.In <+: t.In
     ·have hag:Agree u t:=Classical.byContradiction fun e=>g2 ⟨u,h1,e⟩
      rw [ansO_at hv' (u:=t) (by
       show t∈addL o.Traces t
       unfold addL
       rw [if_neg g4]
       exact mem_insT.2 (.inl rfl)) (h2.trans g5),agree_cut hag h2 (h2.trans g5)]
     ·refine ansO_at hv' ?_ h2
      show u∈addL o.Traces t
      unfold addL
      rw [if_neg g4]
      refine mem_insT.2 (.inr (List.mem_filter.2 ⟨h1,?_⟩))
      rw [decide_eq_false g5]
      rfl
section
variable {q:zae} {w:List Int}
theorem askO_check (h:(askO q w).2.2=0):checkI w q.Device.M.Inputs=0:=by
 refine Classical.byContradiction fun e=>?_
 unfold askO at h
 rw [if_pos e] at h
 exact e h
theorem check_1024 (Q:OrOk q) (hw:checkI w q.Device.M.Inputs=0):w.length≤1024:=by
 have i1:=Q.dev.mac.i1
 have i2:=Q.dev.mac.i2
 unfold checkI at hw
 rw [if_pos (by omega)] at hw
 split at hw
 ·cases hw
 ·omega
theorem askO_ans (Q:OrOk q) (h:(askO q w).2.2=0):(askO q w).2.1.length=w.length∧ansO (askO q w).1.Obs w=some (askO q w).2.1∧∀ v x,ansO q.Obs v=some x→ansO (askO q w).1.Obs v=some x:=by
 have hw:=askO_check h
 have hl:=check_1024 Q hw
 unfold askO at h ⊢
 rw [if_neg (by simpa using hw)] at h ⊢
 cases ha:ansO q.Obs w with
 | some r=>exact ⟨ansO_len Q.obs ha,ha,fun _ _ h=>h⟩
 | none =>
  rw [ha] at h
  have hk:q.Tries-0=(↑q.Tries.toNat:Int):=by have:=Q.v1;have:=Q.t1;omega
  obtain ⟨_,_,_,o4⟩:=askL_out Q hw hl q.Tries.toNat q.Device q.Asked [] 0 (zim Q) hk
  simp only at h ⊢
  unfold askR askE at h ⊢
  generalize askL w q.Votes q.Tries.toNat q.Device q.Asked []=r at o4 h ⊢
  obtain ⟨d',n',ys',res⟩:=r
  simp only at o4 h ⊢
  cases res with
  | none =>
   simp only at h
   split at h<;>cases h
  | some out =>
   simp only at h ⊢
   by_cases g:(addO q.Obs ⟨w,out⟩).2≠0
   ·rw [if_pos g] at h
    exact absurd h g
   ·rw [if_neg g]
    have g:(addO q.Obs ⟨w,out⟩).2=0:=by simpa using g
    exact ⟨(o4 out rfl).1,ans_add Q.obs g,fun v x hx=>ans_keep Q.obs g hx⟩
end
def knownR (l:List zaa) (w:List Int):Bool:=l.any fun t=>decide (t.In <+: w)
def noteR (m:zab) (r:zai) (w out:List Int):zai :=
 ⟨r.Run+1,if common (outS m w) out<w.length then r.Changes++[⟨w.take (common (outS m w) out+1),out.take (common (outS m w) out+1)⟩] else r.Changes⟩
def runL (m:zab):zae→zai→List (List Int)→zae×zai×Int
 | q,r,[]=>(q,r,0)
 | q,r,w::ws=>if knownR r.Changes w=true then runL m q r ws else if (askO q w).2.2≠0 then ((askO q w).1,⟨0,[]⟩,(askO q w).2.2) else runL m (askO q w).1 (noteR m r w (askO q w).2.1) ws
def runO (q:zae) (b:za0):zae×zai×Int :=
 if validM b.M≠0 then (q,⟨0,[]⟩,validM b.M) else if 10000<b.Words.length then (q,⟨0,[]⟩,11) else
  match firstE b.M.Inputs b.Words with
  | some e=>(q,⟨0,[]⟩,e)
  | none=>if q.Obs.Inputs≠b.M.Inputs then (q,⟨0,[]⟩,15) else runL b.M q ⟨0,[]⟩ b.Words
def RepOk (r:zai) (n:Nat):Prop:=0≤r.Run∧r.Run≤(↑n:Int)∧r.Changes.length≤n
theorem RepOk.note {m:zab} {r:zai} {n:Nat} {w out:List Int} (h:RepOk r n):RepOk (noteR m r w out) (n+1):=by
 obtain ⟨h1,h2,h3⟩:=h
 unfold noteR
 refine ⟨by simp only;omega,by simp only;omega,?_⟩
 simp only
 split
 ·simp only [List.length_append,List.length_singleton];omega
 ·omega
theorem tcontains_eq {l:List zaa} {f:zaa→Option Bool} {p:zaa→Bool} (hl:l.length≤100000000000000) (hf:∀ x∈l,f x=some (p x)) :
  za3 l f=some (l.any p):=by
 unfold za3
 rw [zld hl hf,obind]
 cases h:l.any p with
 | true=>rw [if_pos rfl,decide_eq_true (by omega)]
 | false=>rw [if_neg Bool.false_ne_true,decide_eq_false (by omega)]
theorem needed_eq {m:zab} {r:zai} {w:List Int} (hl:r.Changes.length≤1000000) (hw:SmW w) :
  zb3 (⟨m,r⟩:zau) w=some (!knownR r.Changes w,(⟨m,r⟩:zau)):=by
 unfold zb3
 rw [tcontains_eq (p:=fun t=>decide (t.In <+: w)) (by simp only;omega) fun x _=>by
  unfold zb5
  rw [zdo _ _ hw,obind],obind]
 rfl
theorem cut_eq {l:List Int} {n:Int} (h1:1≤n) (h2:n≤(↑l.length:Int)) (hl:l.length≤100000):zec l n=some (l.take n.toNat):=by
 unfold zec
 rw [chk_pos ⟨by omega,by omega,by unfold capOk;omega⟩,List.length_replicate,chk_pos ⟨by omega,by omega⟩,List.drop_eq_nil_of_le (by rw [List.length_replicate];omega),List.append_nil]
theorem note_eq {m:zab} {r:zai} {w out:List Int} (hv:validM m=0) (hw:checkI w m.Inputs=0) (ho:out.length=w.length) {n:Nat} (hr:RepOk r n) (hn:n≤100000) :
  zce (⟨m,r⟩:zau) w out=some (0,(⟨m,noteR m r w out⟩:zau)):=by
 obtain ⟨h1,h2,h3⟩:=hr
 have hl:=zdq hw
 have hol:(outS m w).length=w.length:=outs_len _ _
 have hc:=zfg (outS m w) out
 unfold zce
 simp only
 rw [zjs hv hw,obind,decide_eq_false (fun h=>h rfl),cond_false,chk_pos (by unfold inR;omega)]
 simp only
 rw [zek _ _ (by unfold SmW;omega),obind]
 unfold noteR
 by_cases g:common (outS m w) out<w.length
 ·rw [decide_eq_true (by omega),cond_true,chk_pos (by unfold inR;omega),cut_eq (by omega) (by omega) (by omega),obind,chk_pos (by unfold inR;omega),cut_eq (by omega) (by omega) (by omega),obind,chk_pos (by unfold capOk;omega),obind,if_pos g]
  rfl
 ·rw [decide_eq_false (by omega),cond_false,obind,if_neg g]
section
variable {σ ρ:Type} {tup:zae→zai→Nat→σ} {fin:zae→zai→ρ} {m:zab} {L:List (List Int)}
def runF (fin:zae→zai→ρ) (r:zae×zai×Int):ρ⊕(zae×zai×Int):=if r.2.2=0 then .inl (fin r.1 r.2.1) else .inr r
theorem run_iter {S2:σ→Option (σ⊕(ρ⊕(zae×zai×Int)))}
  (h1:∀ (q:zae) (r:zai) (i:Nat) (w:List Int),OrOk q→RepOk r i→L[i]?=some w→S2 (tup q r i)=some (if knownR r.Changes w=true then .inl (tup q r (i+1)) else if (askO q w).2.2≠0 then .inr (.inr ((askO q w).1,⟨0,[]⟩,(askO q w).2.2)) else .inl (tup (askO q w).1 (noteR m r w (askO q w).2.1) (i+1))))
  (h2:∀ q r,S2 (tup q r L.length)=some (.inr (.inl (fin q r)))) (hw:∀ w∈L,w.length≤100000) :
  ∀ (n i:Nat) (q:zae) (r:zai),OrOk q→RepOk r i→q.Obs.Traces.length+(L.length-i)≤900000→i≤L.length→L.length-i<n →
   iter S2 n (tup q r i)=some (runF fin (runL m q r (L.drop i)))∧OrOk (runL m q r (L.drop i)).1
 | 0,_,_,_,_,_,_,_,h=>absurd h (Nat.not_lt_zero _)
 | n+1,i,q,r,Q,R,hs,hi,hn=>by
  unfold iter
  rcases Nat.lt_or_ge i L.length with h | h
  ·have hx:=get_at h
   have R1:RepOk r (i+1):=⟨R.1,by have:=R.2.1;omega,by have:=R.2.2;omega⟩
   rw [h1 q r i _ Q R hx,List.drop_eq_getElem_cons h]
   obtain ⟨k1,k2,_⟩:=askO_ok (w:=L[i]) Q (by omega) (hw _ (List.getElem_mem h))
   unfold runL
   by_cases g0:knownR r.Changes L[i]=true
   ·rw [if_pos g0,if_pos g0]
    exact run_iter h1 h2 hw n (i+1) q r Q R1 (by omega) h (by omega)
   ·rw [if_neg g0,if_neg g0]
    by_cases g:(askO q L[i]).2.2≠0
    ·rw [if_pos g,if_pos g]
     unfold runF
     rw [if_neg g]
     exact ⟨rfl,k1⟩
    ·rw [if_neg g,if_neg g]
     exact run_iter h1 h2 hw n (i+1) _ _ k1 R.note (by omega) h (by omega)
  ·have e:i=L.length:=by omega
   subst e
   rw [h2,List.drop_length]
   exact ⟨rfl,Q⟩
end
abbrev tupG (m:zab) (q:zae) (r:zai) (i:Nat):=(q.Device.M.Inputs,q.Device.M.Start,q.Device.M.Next,q.Device.M.Out,q.Device.State,q.Device.Ready,q.Device.Latency.Step,q.Device.Latency.Reset,q.Device.Faults.Lost,q.Device.Faults.Wrong,q.Device.Faults.Crash,q.Device.Seed,q.Device.Steps,q.Device.Resets,q.Device.Time,q.Obs.Inputs,q.Obs.Traces,q.Votes,q.Tries,q.Asked,q.Hits,m.Inputs,m.Start,m.Next,m.Out,r.Run,r.Changes,i)
abbrev tupH (m:zab) (q:zae) (r:zai):=(q.Device.M.Inputs,q.Device.M.Start,q.Device.M.Next,q.Device.M.Out,q.Device.State,q.Device.Ready,q.Device.Latency.Step,q.Device.Latency.Reset,q.Device.Faults.Lost,q.Device.Faults.Wrong,q.Device.Faults.Crash,q.Device.Seed,q.Device.Steps,q.Device.Resets,q.Device.Time,q.Obs.Inputs,q.Obs.Traces,q.Votes,q.Tries,q.Asked,q.Hits,m.Inputs,m.Start,m.Next,m.Out,r.Run,r.Changes)
theorem or_eta (q':zae):(⟨⟨⟨q'.Device.M.Inputs,q'.Device.M.Start,q'.Device.M.Next,q'.Device.M.Out⟩,q'.Device.State,q'.Device.Ready,⟨q'.Device.Latency.Step,q'.Device.Latency.Reset⟩,⟨q'.Device.Faults.Lost,q'.Device.Faults.Wrong,q'.Device.Faults.Crash⟩,q'.Device.Seed,q'.Device.Steps,q'.Device.Resets,q'.Device.Time⟩,⟨q'.Obs.Inputs,q'.Obs.Traces⟩,q'.Votes,q'.Tries,q'.Asked,q'.Hits⟩:zae)=q':=rfl
theorem zmk {q:zae} {b:za0} (Q:OrOk q) (hl:b.Words.length≤10000→q.Obs.Traces.length+b.Words.length≤900000) (hs:SmL b.Words):zas q b=some (runO q b)∧OrOk (runO q b).1:=by
 have hf:=fuel_big
 have hsl:=hs.1
 unfold zas runO
 rw [zhv,obind]
 by_cases c1:validM b.M=0
 ·rw [decide_eq_false (fun h=>h c1),cond_false,if_neg (fun h=>h c1)]
  by_cases c2:10000<b.Words.length
  ·rw [decide_eq_true (by omega),cond_true,if_pos c2]
   exact ⟨rfl,Q⟩
  rw [decide_eq_false (by omega),cond_false,if_neg c2]
  have hlt:=hl (by omega)
  have key1:=zcx (step:=fun s=>zas.s2 q b s) (l:=b.Words) (fun _ w=>if checkI w b.M.Inputs≠0 then some (q,(⟨0,[]⟩:zai),checkI w b.M.Inputs) else none) (fun i x hx=>by
   simp only [zas.s2]
   rw [dec_lt hx,cond_true,idxn_at hx,zd7 _ _ (hs.2 x (List.mem_of_getElem? hx)),obind]
   by_cases g:checkI x b.M.Inputs≠0
   ·rw [if_pos g,decide_eq_true g]
    rfl
   ·rw [if_neg g,decide_eq_false g]
    rfl) (by
   simp only [zas.s2]
   rw [dec_end]
   rfl) (by omega)
  have hsc:∀ (l:List (List Int)) (j:Nat),scan (fun _ w=>if checkI w b.M.Inputs≠0 then some (q,(⟨0,[]⟩:zai),checkI w b.M.Inputs) else none) j l=(scan (fun _ w=>if checkI w b.M.Inputs≠0 then some (checkI w b.M.Inputs) else none) j l).map fun e=>(q,(⟨0,[]⟩:zai),e):=by
   intro l
   induction l with
   | nil=>intro j;rfl
   | cons x l ih =>
    intro j
    unfold scan
    by_cases g:checkI x b.M.Inputs≠0
    ·rw [if_pos g,if_pos g]
     rfl
    ·rw [if_neg g,if_neg g]
     exact ih _
  rw [key1,hsc]
  unfold firstE
  cases hE:scan (fun _ w=>if checkI w b.M.Inputs≠0 then some (checkI w b.M.Inputs) else none) 0 b.Words with
  | some e=>exact ⟨rfl,Q⟩
  | none =>
   have hc:∀ w∈b.Words,checkI w b.M.Inputs=0:=fun w hw=>zl5 hE w hw
   simp only [Option.map_none,obind,Sum.elim_inl]
   by_cases c3:q.Obs.Inputs=b.M.Inputs
   ·rw [decide_eq_false (fun h=>h c3),cond_false,if_neg (fun h=>h c3)]
    have A:=run_iter (tup:=tupG b.M) (fin:=tupH b.M) (m:=b.M) (L:=b.Words) (S2:=fun s=>zas.s22 b s.1 s.2.1 s.2.2.1 s.2.2.2.1 s.2.2.2.2.1 s.2.2.2.2.2.1 s.2.2.2.2.2.2.1 s.2.2.2.2.2.2.2.1 s.2.2.2.2.2.2.2.2.1 s.2.2.2.2.2.2.2.2.2.1 s.2.2.2.2.2.2.2.2.2.2.1 s.2.2.2.2.2.2.2.2.2.2.2.1 s.2.2.2.2.2.2.2.2.2.2.2.2.1 s.2.2.2.2.2.2.2.2.2.2.2.2.2.1 s.2.2.2.2.2.2.2.2.2.2.2.2.2.2.1 s.2.2.2.2.2.2.2.2.2.2.2.2.2.2.2.1 s.2.2.2.2.2.2.2.2.2.2.2.2.2.2.2.2.1 s.2.2.2.2.2.2.2.2.2.2.2.2.2.2.2.2.2.1 s.2.2.2.2.2.2.2.2.2.2.2.2.2.2.2.2.2.2.1 s.2.2.2.2.2.2.2.2.2.2.2.2.2.2.2.2.2.2.2.1 s.2.2.2.2.2.2.2.2.2.2.2.2.2.2.2.2.2.2.2.2.1 s.2.2.2.2.2.2.2.2.2.2.2.2.2.2.2.2.2.2.2.2.2.1 s.2.2.2.2.2.2.2.2.2.2.2.2.2.2.2.2.2.2.2.2.2.2.1 s.2.2.2.2.2.2.2.2.2.2.2.2.2.2.2.2.2.2.2.2.2.2.2.1 s.2.2.2.2.2.2.2.2.2.2.2.2.2.2.2.2.2.2.2.2.2.2.2.2.1 s.2.2.2.2.2.2.2.2.2.2.2.2.2.2.2.2.2.2.2.2.2.2.2.2.2.1 s.2.2.2.2.2.2.2.2.2.2.2.2.2.2.2.2.2.2.2.2.2.2.2.2.2.2.1 s.2.2.2.2.2.2.2.2.2.2.2.2.2.2.2.2.2.2.2.2.2.2.2.2.2.2.2) (fun q' r i w Q' R hx=>by
     have hm:=List.mem_of_getElem? hx
     have hcw:=hc w hm
     have hwl:=zdq hcw
     have hin:i<b.Words.length:=(List.getElem?_eq_some_iff.1 hx).1
     have r3:=R.2.2
     show zas.s22 b _ _ _ _ _ _ _ _ _ _ _ _ _ _ _ _ _ _ _ _ _ _ _ _ _ _ _ _=_
     unfold zas.s22
     simp only
     rw [or_eta,dec_lt hx,cond_true,idxn_at hx,needed_eq (by simp only;omega) (hs.2 w hm),obind]
     simp only
     by_cases g0:knownR r.Changes w=true
     ·rw [g0,if_pos rfl]
      rfl
     ·rw [if_neg g0,Bool.not_eq_true _ |>.mp g0,Bool.not_false,Bool.not_true,cond_false,Ask_p Q' (by omega),obind]
      by_cases g:(askO q' w).2.2≠0
      ·rw [if_pos g,decide_eq_false g,cond_false,obind]
       simp only
       unfold zas.k20
       rw [decide_eq_true g]
       rfl
      ·have g':(askO q' w).2.2=0:=by simpa using g
       obtain ⟨a1,_,_⟩:=askO_ans Q' g'
       rw [if_neg g,decide_eq_true g',cond_true,note_eq c1 hcw a1 R (by omega),obind,obind]
       rfl) (fun q' r=>by
     show zas.s22 b _ _ _ _ _ _ _ _ _ _ _ _ _ _ _ _ _ _ _ _ _ _ _ _ _ _ _ _=_
     unfold zas.s22
     rw [dec_end,cond_false]) (fun w hw=>by have:=zdq (hc w hw);omega) fuel 0 q ⟨0,[]⟩ Q ⟨by simp,by simp,by simp⟩ (by omega) (Nat.zero_le _) (by omega)
    rw [List.drop_zero] at A
    refine ⟨(congrArg (fun z=>Option.bind z _) A.1).trans ?_,A.2⟩
    rw [obind]
    unfold runF
    generalize runL b.M q ⟨0,[]⟩ b.Words=x
    obtain ⟨x1,x2,x3⟩:=x
    by_cases g:x3=0
    ·rw [if_pos g,g]
     rfl
    ·rw [if_neg g]
     rfl
   ·rw [decide_eq_true c3,cond_true,if_pos c3]
    exact ⟨rfl,Q⟩
 ·rw [decide_eq_true c1,cond_true,if_pos c1]
  exact ⟨rfl,Q⟩
end Go.Proofs.YtcneaiejdidooaaGreatDoor.Sym

/-
 The examples of the chapter on regression runs, reckoned.
-/
namespace Go.Proofs.YtcneaiejdidooaaGreatDoor.Sym
set_option maxRecDepth 100000
theorem awake50_true:zga=some true:=by decide +kernel
end Go.Proofs.YtcneaiejdidooaaGreatDoor.Sym

/-
 Regression runs: the changes of a report. The plain law of RegressReports.
-/
namespace Go.Proofs.YtcneaiejdidooaaGreatDoor.Sym
set_option maxRecDepth 100000
theorem zhl:∀ (a b:List Int),a.take (common a b)=b.take (common a b)
 | [],b=>by simp [common]
 | x::a,[]=>by simp [common]
 | x::a,y::b=>by
  unfold common
  by_cases h:x=y
  ·rw [if_pos h,h,List.take_succ_cons,List.take_succ_cons,zhl a b]
  ·rw [if_neg h]
   rfl
theorem commonR_off {a b:List Int} (ha:common a b<a.length) (hb:common a b<b.length):a[common a b]≠b[common a b]:=fun e=>by
 have h:a.take (common a b+1)=b.take (common a b+1):=by
  rw [List.take_succ,List.take_succ,zhl,get_at ha,get_at hb,e]
 have:=zkz (u:=a.take (common a b+1)) (a:=a) (b:=b) (List.take_prefix _ _) (by rw [h];exact List.take_prefix _ _)
 rw [List.length_take] at this
 omega
theorem znb {m:zab}:∀ (w:List Int) (s k:Nat),outs m s (w.take k)=(outs m s w).take k
 | [],_,_=>by simp [outs]
 | a::w,s,0=>by simp [outs]
 | a::w,s,k+1=>by
  show ot m s a.toNat::outs m (nx m s a.toNat) (w.take k)=(ot m s a.toNat::outs m (nx m s a.toNat) w).take (k+1)
  rw [znb w,List.take_succ_cons]
theorem zkp {m:zab} {w:List Int} {k:Nat}:outS m (w.take k)=(outS m w).take k:=znb w _ k
structure ChgOk (m:zab) (o:zam) (c:zaa):Prop where
 ck:checkI c.In m.Inputs=0
 ne:c.In≠[]
 ans:ansO o c.In=some c.Out
 len:c.Out.length=c.In.length
 same:c.Out.take (c.In.length-1)=(outS m c.In).take (c.In.length-1)
 last:c.Out[c.In.length-1]?≠(outS m c.In)[c.In.length-1]?
structure RepFine (m:zab) (o:zam) (r:zai) (n:Nat):Prop where
 all:∀ c∈r.Changes,ChgOk m o c
 ord:r.Changes.Pairwise fun c d=>¬ c.In <+: d.In
 cnt:(↑r.Changes.length:Int)≤r.Run
 run:r.Run≤(↑n:Int)
theorem RepFine.keep {m:zab} {o o':zam} {r:zai} {n:Nat} (h:RepFine m o r n) (hk:∀ v x,ansO o v=some x→ansO o' v=some x):RepFine m o' r n :=
 ⟨fun c hc=>have H:=h.all c hc;⟨H.ck,H.ne,hk _ _ H.ans,H.len,H.same,H.last⟩,h.ord,h.cnt,h.run⟩
theorem RepFine.note {m:zab} {o:zam} {r:zai} {n:Nat} {w out:List Int} (h:RepFine m o r n) (hm:1≤m.Inputs∧m.Inputs≤1024) (hv:ObsOk o) (hw:checkI w m.Inputs=0) (hn:knownR r.Changes w=false) (ha:ansO o w=some out) (hl:out.length=w.length):RepFine m o (noteR m r w out) (n+1):=by
 have hyl:(outS m w).length=w.length:=outs_len _ _
 unfold noteR
 by_cases g:common (outS m w) out<w.length
 ·rw [if_pos g]
  have hc:=h.cnt
  have hr:=h.run
  have hil:(w.take (common (outS m w) out+1)).length=common (outS m w) out+1:=by rw [List.length_take];omega
  have hpre:w.take (common (outS m w) out+1) <+: w:=List.take_prefix _ _
  refine ⟨fun c hc=>?_,?_,by simp only [List.length_append,List.length_singleton];omega,by simp only;omega⟩
  ·rcases List.mem_append.1 hc with hc | hc
   ·exact h.all c hc
   ·rw [List.mem_singleton] at hc
    subst hc
    refine ⟨check_pre hpre hw hm,fun e=>?_,?_,?_,?_,?_⟩
    ·simp only at e
     rw [e] at hil
     simp at hil
    ·have:=ansO_cut hv ha hpre
     rw [hil] at this
     exact this
    ·simp only
     rw [List.length_take,hil]
     omega
    ·simp only
     rw [hil,Nat.add_sub_cancel,zkp,take_tk (Nat.le_succ _),take_tk (Nat.le_succ _)]
     exact (zhl _ _).symm
    ·simp only
     rw [hil,Nat.add_sub_cancel,zkp,List.getElem?_take,if_pos (Nat.lt_succ_self _),List.getElem?_take,if_pos (Nat.lt_succ_self _),get_at (l:=out) (by omega),get_at (l:=outS m w) (by omega)]
     exact fun e=>commonR_off (by omega) (by omega) (Option.some.inj e).symm
  ·refine List.pairwise_append.2 ⟨h.ord,List.pairwise_singleton _ _,fun c hc d hd=>?_⟩
   rw [List.mem_singleton] at hd
   subst hd
   intro hp
   have:knownR r.Changes w=true:=List.any_eq_true.2 ⟨c,hc,decide_eq_true (hp.trans hpre)⟩
   rw [hn] at this
   cases this
 ·rw [if_neg g]
  have hc:=h.cnt
  have hr:=h.run
  exact ⟨h.all,h.ord,by simp only;omega,by simp only;omega⟩
theorem zlw {m:zab} (hm:1≤m.Inputs∧m.Inputs≤1024):∀ (ws:List (List Int)) (q:zae) (r:zai) (n:Nat),OrOk q→q.Obs.Traces.length+ws.length≤900000→(∀ w∈ws,checkI w m.Inputs=0)→RepFine m q.Obs r n →
  (runL m q r ws).2.2=0→RepFine m (runL m q r ws).1.Obs (runL m q r ws).2.1 (n+ws.length)
 | [],q,r,n,_,_,_,R,_=>R
 | w::ws,q,r,n,Q,hs,hc,R,h0=>by
  have hcw:=hc w (by simp)
  have hwl:=zdq hcw
  simp only [List.length_cons] at hs
  unfold runL at h0 ⊢
  rw [List.length_cons,show n+(ws.length+1)=n+1+ws.length by omega]
  by_cases g0:knownR r.Changes w=true
  ·rw [if_pos g0] at h0 ⊢
   exact zlw hm ws q r (n+1) Q (by omega) (fun v hv=>hc v (by simp [hv])) ⟨R.all,R.ord,R.cnt,by have:=R.run;omega⟩ h0
  ·rw [if_neg g0] at h0 ⊢
   obtain ⟨k1,k2,_⟩:=askO_ok (w:=w) Q (by omega) (by omega)
   by_cases g:(askO q w).2.2≠0
   ·rw [if_pos g] at h0
    exact absurd h0 g
   ·rw [if_neg g] at h0 ⊢
    obtain ⟨a1,a2,a3⟩:=askO_ans Q (by simpa using g)
    exact zlw hm ws _ _ (n+1) k1 (by omega) (fun v hv=>hc v (by simp [hv])) ((R.keep a3).note hm k1.obs hcw (Bool.not_eq_true _ |>.mp g0) a2 a1) h0
theorem RepFine.apart {m:zab} {o:zam} {r:zai} {n:Nat} (h:RepFine m o r n) (hv:ObsOk o) {i k:Nat} {c d:zaa} (hk:k<i) (hc:r.Changes[k]?=some c) (hd:r.Changes[i]?=some d):¬ c.In <+: d.In∧¬ d.In <+: c.In:=by
 have h1:¬ c.In <+: d.In:=by
  obtain ⟨k1,rfl⟩:=List.getElem?_eq_some_iff.1 hc
  obtain ⟨i1,rfl⟩:=List.getElem?_eq_some_iff.1 hd
  exact List.pairwise_iff_getElem.1 h.ord k i k1 i1 hk
 refine ⟨h1,fun hp=>?_⟩
 have C:=h.all c (List.mem_of_getElem? hc)
 have D:=h.all d (List.mem_of_getElem? hd)
 have hle:=hp.length_le
 have hdn:0<d.In.length:=List.length_pos_iff.2 D.ne
 have hlt:d.In.length<c.In.length:=by
  rcases Nat.lt_or_ge d.In.length c.In.length with e | e
  ·exact e
  ·have:d.In=c.In:=hp.eq_of_length (by omega)
   exact absurd (by rw [this];exact List.prefix_refl _) h1
 have e1:=ansO_cut hv C.ans hp
 rw [D.ans] at e1
 have e1:=Option.some.inj e1
 have e2:d.In=c.In.take d.In.length:=(List.prefix_iff_eq_take.1 hp)
 apply D.last
 have e3:c.Out.take d.In.length=(outS m c.In).take d.In.length:=by
  have:=congrArg (List.take d.In.length) C.same
  rwa [take_tk (by omega),take_tk (by omega)] at this
 have e4:outS m d.In=(outS m c.In).take d.In.length:=by
  conv=>lhs;rw [e2]
  exact zkp
 rw [e4,← e3,← e1]
theorem L06_Great_tot (m:zab):∃ b,zhh m=some b:=by
 unfold zhh
 by_cases g1:40<(↑m.Next.length:Int)
 ·exact ⟨true,by rw [decide_eq_true g1];rfl⟩
 rw [decide_eq_false g1,cond_false]
 by_cases g2:40<(↑m.Out.length:Int)
 ·exact ⟨true,by rw [decide_eq_true g2];rfl⟩
 rw [decide_eq_false g2,cond_false,obind]
 exact ⟨_,rfl⟩
theorem L06_Long_tot {l:List (List Int)} (h:l.length≤2000000):∃ b,L06_Long l=some b∧(b=false→l.length≤200):=by
 unfold L06_Long
 by_cases g:200<l.length
 ·exact ⟨true,by rw [decide_eq_true (by omega)];rfl,fun e=>by cases e⟩
 ·rw [decide_eq_false (by omega),cond_false]
  have key:=zcx (step:=fun s=>L06_Long.s2 l s) (l:=l) (fun _ x=>if 200<x.length then some true else none) (fun i x hx=>by
   simp only [L06_Long.s2]
   rw [dec_lt hx,cond_true,idxn_at hx]
   by_cases a1:200<x.length
   ·rw [decide_eq_true (by omega),if_pos a1]
    rfl
   ·rw [decide_eq_false (by omega),if_neg a1]
    rfl) (by
   simp only [L06_Long.s2]
   rw [dec_end]
   rfl) (by omega)
  rw [key]
  cases scan (fun _ x=>if 200<List.length x then some true else none) 0 l with
  | some r=>exact ⟨r,rfl,fun _=>by omega⟩
  | none=>exact ⟨false,rfl,fun _=>by omega⟩
theorem reports_pair {q:zae×zai×Int} {m:zab} {n i:Nat} (F:RepFine m q.1.Obs q.2.1 n) (hv:ObsOk q.1.Obs) (hn:n≤100000) {d:zaa} (hd:q.2.1.Changes[i]?=some d) :
  iter (fun (s:Nat)=>zaq.s13 q i d s) fuel 0=some (.inl ()):=by
 have hi:=(List.getElem?_eq_some_iff.1 hd).1
 have hc:=F.cnt
 have hr:=F.run
 have D:=F.all d (List.mem_of_getElem? hd)
 have hdl:=zdq D.ck
 refine iter_eq (fun s=>s≤i) (fun s=>i-s) (fun s hs=>?_) (Nat.zero_le _) (by have:=fuel_big;omega)
 simp only [zaq.s13]
 by_cases g:s<i
 ·left
  have hx:=get_at (show s<q.2.1.Changes.length by omega)
  obtain ⟨a1,a2⟩:=F.apart hv g hx hd
  have C:=F.all _ (List.mem_of_getElem? hx)
  have hcl:=zdq C.ck
  refine ⟨s+1,?_,by omega,by omega⟩
  rw [decide_eq_true (by omega),cond_true,idxn_at hx,zez _ _ (by unfold SmW;omega),obind,decide_eq_false a1,cond_false,idxn_at hx,zez _ _ (by unfold SmW;omega),obind,decide_eq_false a2,obind,cond_false]
 ·right
  rw [decide_eq_false (by omega),cond_false]
theorem reports_all {q:zae×zai×Int} {b:za0} {n:Nat} (hM:validM b.M=0) (F:RepFine b.M q.1.Obs q.2.1 n) (hv:ObsOk q.1.Obs) (ht:SmTr q.1.Obs.Traces) (hn:n≤100000) :
  iter (fun (s:Nat)=>zaq.s14 b q s) fuel 0=some (.inl ()):=by
 have hc:=F.cnt
 have hr:=F.run
 refine iter_eq (fun s=>s≤q.2.1.Changes.length) (fun s=>q.2.1.Changes.length-s) (fun s hs=>?_) (Nat.zero_le _) (by have:=fuel_big;omega)
 simp only [zaq.s14]
 by_cases g:s<q.2.1.Changes.length
 ·left
  have hx:=get_at g
  refine ⟨s+1,?_,by omega,by omega⟩
  have C:=F.all _ (List.mem_of_getElem? hx)
  have P:=reports_pair F hv hn hx
  generalize q.2.1.Changes[s]=c at hx C P ⊢
  have hcl:=zdq C.ck
  have hol:=C.len
  have hyl:(outS b.M c.In).length=c.In.length:=outs_len _ _
  have h0:0<c.In.length:=List.length_pos_iff.2 C.ne
  have hlast:=C.last
  rw [get_at (l:=c.Out) (by omega),get_at (l:=outS b.M c.In) (by omega)] at hlast
  rw [dec_lt hx,cond_true,idxn_at hx,zfm ht hv,obind,zjs hM C.ck,obind,C.ans]
  simp only
  rw [Bool.not_true,cond_false,decide_eq_false (fun h=>h rfl),cond_false,decide_eq_false (by omega),cond_false,zl1 _ _ (by omega),obind,decide_eq_true rfl,Bool.not_true,cond_false,decide_eq_false (by omega),cond_false,
   chk_pos (by unfold inR;omega),chk_pos ⟨by omega,by omega⟩,chk_pos (by unfold inR;omega),chk_pos ⟨by omega,by omega⟩,show Int.toNat ((↑c.In.length:Int)-1)=c.In.length-1 by omega,C.same,zl1 _ _ (by rw [List.length_take];omega),obind,decide_eq_true rfl,Bool.not_true,cond_false,
   chk_pos (by unfold inR;omega),idx_at (show (↑c.In.length:Int)-1=(↑(c.In.length-1):Int) by omega) (get_at (l:=c.Out) (by omega)),chk_pos (by unfold inR;omega),idx_at (show (↑c.In.length:Int)-1=(↑(c.In.length-1):Int) by omega) (get_at (l:=outS b.M c.In) (by omega)),
   decide_eq_false (fun e=>hlast (congrArg some e)),obind,cond_false,P,obind]
  rfl
 ·right
  rw [decide_eq_false (by omega),cond_false]
theorem runO_ok {q:zae} {b:za0} (h:(runO q b).2.2=0):validM b.M=0∧(∀ w∈b.Words,checkI w b.M.Inputs=0)∧q.Obs.Inputs=b.M.Inputs∧runO q b=runL b.M q ⟨0,[]⟩ b.Words:=by
 unfold runO at h ⊢
 by_cases c1:validM b.M=0
 ·rw [if_neg (fun h=>h c1)] at h ⊢
  by_cases c2:10000<b.Words.length
  ·rw [if_pos c2] at h
   cases h
  ·rw [if_neg c2] at h ⊢
   cases hE:firstE b.M.Inputs b.Words with
   | some e =>
    rw [hE] at h
    simp only at h
    exfalso
    unfold firstE at hE
    obtain ⟨i,x,_,hx⟩:=scan_mem hE
    split at hx
    ·rename_i hne
     exact hne ((Option.some.inj hx).trans h)
    ·cases hx
   | none =>
    rw [hE] at h
    simp only at h ⊢
    by_cases c3:q.Obs.Inputs=b.M.Inputs
    ·rw [if_neg (fun h=>h c3)]
     exact ⟨c1,zl5 hE,c3,rfl⟩
    ·rw [if_pos c3] at h
     cases h
 ·rw [if_pos c1] at h
  exact absurd h c1
theorem runL_err {m:zab}:∀ (ws:List (List Int)) (q:zae) (r:zai),(runL m q r ws).2.2≠0→(runL m q r ws).2.1=⟨0,[]⟩
 | [],_,_,h=>absurd rfl h
 | w::ws,q,r,h=>by
  unfold runL at h ⊢
  split at h
  ·rename_i g
   rw [if_pos g]
   exact runL_err ws _ _ h
  ·rename_i g
   rw [if_neg g]
   split at h
   ·rename_i g2
    rw [if_pos g2]
   ·rename_i g2
    rw [if_neg g2]
    exact runL_err ws _ _ h
theorem runO_err {q:zae} {b:za0} (h:(runO q b).2.2≠0):(runO q b).2.1=⟨0,[]⟩:=by
 unfold runO at h ⊢
 split
 ·rfl
 ·split
  ·rfl
  ·split
   ·rfl
   ·split
    ·rfl
    ·rename_i g1 g2 x g3 g4
     rw [if_neg g1,if_neg g2,g3] at h
     simp only at h
     rw [if_neg g4] at h
     exact runL_err _ _ _ h
theorem zhq {q:zae} {b:za0} (hq:SmQ q) (hs:SmL b.Words):zaq q b=some true:=by
 have hA:=awake50_true
 obtain ⟨b1,e1,z1⟩:=L21_Great_tot hq
 obtain ⟨b2,e2⟩:=L06_Great_tot b.M
 obtain ⟨b3,e3,z3⟩:=L06_Long_tot hs.1
 obtain ⟨b4,e4,z4⟩:=R21_Valid_tot hq hq.o
 unfold zaq
 rw [hA,e1,obind]
 cases b1 with
 | true=>rfl
 | false =>
  rw [cond_false,e2,obind]
  cases b2 with
  | true=>rfl
  | false =>
   rw [cond_false,e3,obind]
   cases b3 with
   | true=>rfl
   | false =>
    rw [cond_false,e4,obind]
    cases b4 with
    | false=>rfl
    | true =>
     have Q:=z4 rfl
     have hl:=z3 rfl
     obtain ⟨h60,_⟩:=z1 rfl
     obtain ⟨r1,r2⟩:=zmk (b:=b) Q (fun _=>by omega) hs
     rw [Bool.not_true,obind,cond_false,r1,obind]
     by_cases g:(runO q b).2.2=0
     ·rw [decide_eq_false (fun h=>h g),cond_false]
      obtain ⟨hM,hc,hi,e⟩:=runO_ok g
      have H:=valid_ok hM
      have hI:=H.i1
      have hI2:=H.i2
      have F:=zlw (m:=b.M) (by omega) b.Words q ⟨0,[]⟩ 0 Q (by omega) hc ⟨fun c hc=>(by cases hc),List.Pairwise.nil,by simp,by simp⟩ (by rw [← e];exact g)
      rw [← e] at F
      rw [reports_all hM F r2.obs r2.tr (by omega),obind]
      have f1:=F.cnt
      have f2:=F.run
      show Option.bind _ _=_
      rw [decide_eq_true f1,cond_true,decide_eq_true (by omega)]
      rfl
     ·rw [decide_eq_true g,cond_true,runO_err g]
      rfl
end Go.Proofs.YtcneaiejdidooaaGreatDoor.Sym

/-
 The law of RegressReports, for arguments within the bound.
-/
namespace Go.Proofs.YtcneaiejdidooaaGreatDoor.Sym
theorem zgt (x0:zae) (x1:za0) (k0:zgm x0) (s0:ze1 x0≤1048576) (_:zg4 x1) (s1:ze9 x1≤1048576):zaq x0 x1=some true :=
 zhq (smq_of k0 s0) (by
  unfold ze9 at s1
  exact sml_of (N:=1048576) (by omega) (by omega))
end Go.Proofs.YtcneaiejdidooaaGreatDoor.Sym

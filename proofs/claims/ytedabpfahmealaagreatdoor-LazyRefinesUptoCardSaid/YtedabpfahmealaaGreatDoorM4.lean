/-
 Answers and rows: the program's finder answers as the document's observations do. Plain laws.
-/
import Derived.Test.YtedabpfahmealaaGreatDoorM3
set_option linter.all false
namespace Go.Proofs.YtedabpfahmealaaGreatDoor.Sym
set_option maxRecDepth 100000
def ansO (o:T_api_Obs) (w:List Int):Option (List Int) :=
 if w=[] then some [] else (o.Traces.find? fun t=>decide (w <+: t.In)).map fun t=>t.Out.take w.length
abbrev tw {α:Type} (x:Option (List α)):List α×Bool:=match x with | some r=>(r,true) | none=>([],false)
theorem smo_in {o:T_api_Obs} (ho:SmO o) {t:T_api_Trace} (h:t∈o.Traces):SmW t.In:=by
 have:=(ho.2 t h).1
 unfold SmW
 omega
theorem pre_len {p w:List Int} (h:p <+: w):p.length≤w.length:=h.length_le
theorem R16_Answer_eq {o:T_api_Obs} {w:List Int} (ho:SmO o) (hv:ObsOk o):R16_Answer o w=some (tw (ansO o w)):=by
 have hl:=ho.1
 unfold R16_Answer ansO
 by_cases h0:w=[]
 ·subst h0
  rfl
 ·rw [if_neg h0,decide_eq_false (by
   intro h
   exact h0 (List.eq_nil_of_length_eq_zero (by omega))),cond_false]
  have key:=iter_scan (step:=fun i=>R16_Answer.s2 o w i) (l:=o.Traces) (fun _ t=>if w <+: t.In then some (t.Out.take w.length,true) else none) (fun i t ht=>by
   have htm:=List.mem_of_getElem? ht
   have hP:=(hv.prop t htm).1
   simp only [R16_Answer.s2]
   rw [dec_lt ht,cond_true,idxn_at ht,R01_HasPrefix_eq _ _ (smo_in ho htm),obind]
   by_cases h:w <+: t.In
   ·have hlen:=pre_len h
    have:=hP.2.1
    have h2:=(ho.2 t htm).1
    rw [decide_eq_true h,cond_true,idxn_at ht,chk_pos (by omega),R01_Join_eq _ (by simp) (by simp;omega),obind,if_pos h]
    simp
   ·rw [decide_eq_false h,cond_false,if_neg h]) (by
   simp only [R16_Answer.s2]
   rw [dec_end]
   rfl) (by omega)
  rw [key,obind]
  have key2:∀ (l:List T_api_Trace) (j:Nat),scan (fun _ t=>if w <+: t.In then some (t.Out.take w.length,true) else none) j l=((l.find? fun t=>decide (w <+: t.In)).map fun t=>t.Out.take w.length).map fun r=>(r,true):=by
   intro l
   induction l with
   | nil=>intro j;rfl
   | cons t l ih =>
    intro j
    unfold scan
    by_cases h:w <+: t.In
    ·rw [if_pos h,List.find?_cons_of_pos (by simpa using h)]
     rfl
    ·rw [if_neg h,List.find?_cons_of_neg (by simpa using h)]
     exact ih _
  rw [key2]
  cases (o.Traces.find? fun t=>decide (w <+: t.In)).map fun t=>t.Out.take w.length<;>rfl
def FindOk (o:T_api_Obs) (F:List T_api_Trace):Prop:=F.Perm o.Traces∧F.Pairwise fun a b=>lexI a.In b.In=-1
theorem in_inj {o:T_api_Obs} (hv:ObsOk o) {a b:T_api_Trace} (ha:a∈o.Traces) (hb:b∈o.Traces) (h:a.In=b.In):a=b:=by
 obtain ⟨i,hi,rfl⟩:=List.mem_iff_getElem.1 ha
 obtain ⟨j,hj,rfl⟩:=List.mem_iff_getElem.1 hb
 rcases Nat.lt_trichotomy i j with hlt | heq | hgt
 ·have:=hv.asc i j _ _ hlt (get_at hi) (get_at hj)
  rw [h,cmpW_refl] at this
  cases this
 ·subst heq;rfl
 ·have:=hv.asc j i _ _ hgt (get_at hj) (get_at hi)
  rw [h,cmpW_refl] at this
  cases this
theorem table_find_eq {o:T_api_Obs} (ho:SmO o) (hv:ObsOk o):∃ F,table_find o=some F∧FindOk o F:=by
 have hl:=ho.1
 have hf:∀ a∈o.Traces,∀ b∈o.Traces,table_find_1 a b=some (lexI a.In b.In):=fun a ha b hb=>by
  unfold table_find_1
  rw [word_Lex_eq _ _ (by have:=smo_in ho ha;unfold SmW at this;omega),obind]
 have htot:totB (fun u0 u1=>table_find_1 u0 u1) o.Traces=true:=by
  refine List.all_eq_true.2 fun a ha=>List.all_eq_true.2 fun b hb=>?_
  simp only [hf a ha b hb,hf b hb a ha,Bool.and_eq_true]
  refine ⟨⟨⟨?_,?_⟩,?_⟩,List.all_eq_true.2 fun c hc=>?_⟩
  ·rw [beq_iff_eq]
   have:=lexI_zero a.In b.In
   exact decide_eq_decide.2 ⟨fun h=>in_inj hv ha hb (this.1 h),fun h=>this.2 (by rw [h])⟩
  ·rw [beq_iff_eq]
   have:=lexI_swap a.In b.In
   exact decide_eq_decide.2 (by omega)
  ·have:=lexI_range a.In b.In
   exact decide_eq_true (by omega)
  ·rw [hf b hb c hc,hf a ha c hc]
   have r1:=lexI_range a.In b.In
   have r2:=lexI_range b.In c.In
   by_cases h1:lexI a.In b.In<0
   ·by_cases h2:lexI b.In c.In<0
    ·have:=lexI_trans a.In b.In c.In (by omega) (by omega)
     simp [h1,h2,this]
    ·simp [h1,h2]
   ·simp [h1]
 refine ⟨isortF (fun u0 u1=>table_find_1 u0 u1) o.Traces,?_,isortF_perm _ _,?_⟩
 ·unfold table_find lib_Clone_traces libClone lib_SortFunc_finder libSort
  rw [chk_pos (by unfold capOk;omega),obind,chk_pos (by omega),htot]
  rfl
 ·have T:=totB_iff htot
  have h:=isortF_sorted T
  have hperm:=isortF_perm (fun u0 u1=>table_find_1 u0 u1) o.Traces
  have hnd:(isortF (fun u0 u1=>table_find_1 u0 u1) o.Traces).Nodup:=by
   refine hperm.nodup_iff.2 ?_
   rw [List.Nodup,List.pairwise_iff_getElem]
   intro i j hi hj hij e
   have:=hv.asc i j _ _ hij (get_at hi) (get_at hj)
   rw [e,cmpW_refl] at this
   cases this
  rw [List.pairwise_iff_getElem] at h ⊢
  rw [List.Nodup,List.pairwise_iff_getElem] at hnd
  intro i j hi hj hij
  have h1:=h i j hi hj hij
  have hne:=hnd i j hi hj hij
  have m1:=hperm.mem_iff.1 (List.getElem_mem hi)
  have m2:=hperm.mem_iff.1 (List.getElem_mem hj)
  unfold NGt cfv at h1
  simp only [hf _ m2 _ m1,Option.getD_some] at h1
  have r:=lexI_range (isortF (fun u0 u1=>table_find_1 u0 u1) o.Traces)[j].In (isortF (fun u0 u1=>table_find_1 u0 u1) o.Traces)[i].In
  have s:=lexI_swap (isortF (fun u0 u1=>table_find_1 u0 u1) o.Traces)[j].In (isortF (fun u0 u1=>table_find_1 u0 u1) o.Traces)[i].In
  have z:=lexI_zero (isortF (fun u0 u1=>table_find_1 u0 u1) o.Traces)[j].In (isortF (fun u0 u1=>table_find_1 u0 u1) o.Traces)[i].In
  have hz:¬ lexI (isortF (fun u0 u1=>table_find_1 u0 u1) o.Traces)[j].In (isortF (fun u0 u1=>table_find_1 u0 u1) o.Traces)[i].In=0:=fun e=>hne (in_inj hv m1 m2 (z.1 e).symm)
  omega
theorem search_eq {F:List T_api_Trace} {w:List Int} (hs:F.Pairwise fun a b=>lexI a.In b.In=-1) (hl:F.length≤2000000) (hw:∀ t∈F,SmW t.In) :
  ∃ k:Nat,∃ b,slices_BinarySearchFunc_table_finder_api_Trace_Sint F w (fun u0 u1=>table_finder_answer_1 u0 u1)=some ((↑k:Int),b)∧k≤F.length∧(∀ j t,j<k→F[j]?=some t→lexI t.In w=-1)∧∀ t,F[k]?=some t→lexI t.In w≠-1:=by
 have hc:∀ t∈F,table_finder_answer_1 t w=some (lexI t.In w):=fun t ht=>by
  unfold table_finder_answer_1
  rw [word_Lex_eq _ _ (by have:=hw t ht;unfold SmW at this;omega),obind]
 have hlt:∀ {i j:Nat} {a b:T_api_Trace},i<j→F[i]?=some a→F[j]?=some b→lexI a.In b.In=-1:=fun {i j a b} hij ha hb=>by
  obtain ⟨hi,rfl⟩:=List.getElem?_eq_some_iff.1 ha
  obtain ⟨hj,rfl⟩:=List.getElem?_eq_some_iff.1 hb
  exact List.pairwise_iff_getElem.1 hs i j hi hj hij
 have key:=iter_post (step:=fun (s:Int×Int)=>slices_BinarySearchFunc_table_finder_api_Trace_Sint.s2 F w (fun u0 u1=>table_finder_answer_1 u0 u1) s.1 s.2)
  (fun s=>∃ i j:Nat,s.1=(i:Int)∧s.2=(j:Int)∧i≤j∧j≤F.length∧(∀ k t,k<i→F[k]?=some t→lexI t.In w=-1)∧∀ k t,j≤k→F[k]?=some t→lexI t.In w≠-1) (fun s=>(s.2-s.1).toNat)
  (fun r=>∃ k:Nat,r=(k:Int)∧k≤F.length∧(∀ j t,j<k→F[j]?=some t→lexI t.In w=-1)∧∀ t,F[k]?=some t→lexI t.In w≠-1) (fun s ⟨i,j,g1,g2,g3,g4,g5,g6⟩=>by
   obtain ⟨si,sj⟩:=s
   simp only at g1 g2
   subst g1 g2
   simp only [slices_BinarySearchFunc_table_finder_api_Trace_Sint.s2]
   by_cases g7:i<j
   ·left
    have hmid:((↑i:Int)+↑j) / 2^1=((i+j) / 2:Nat):=by omega
    have hx:=get_at (l:=F) (i:=(i+j) / 2) (by omega)
    rw [decide_eq_true (by omega),cond_true,chk_pos (by unfold inR;omega),chk_pos (by omega),chk_pos (by omega),chk_pos (by unfold inR;omega),idx_at hmid hx,hc _ (List.getElem_mem _),obind]
    have r:=lexI_range (F[(i+j) / 2]'(by omega)).In w
    by_cases g8:lexI (F[(i+j) / 2]'(by omega)).In w<0
    ·refine ⟨(((i+j) / 2+1:Nat),(j:Int)),?_,⟨(i+j) / 2+1,j,rfl,rfl,by omega,g4,fun k t hk ht=>?_,g6⟩,by simp only;omega⟩
     ·rw [decide_eq_true g8,cond_true,chk_pos (by unfold inR;omega),hmid]
      simp
     ·rcases Nat.lt_or_ge k ((i+j) / 2) with h | h
      ·exact lexI_trans _ _ _ (hlt h ht hx) (by omega)
      ·have e:k=(i+j) / 2:=by omega
       subst e
       rw [hx] at ht
       injection ht with ht
       subst ht
       omega
    ·refine ⟨((i:Int),(((i+j) / 2:Nat):Int)),?_,⟨i,(i+j) / 2,rfl,rfl,by omega,by omega,g5,fun k t hk ht=>?_⟩,by simp only;omega⟩
     ·rw [decide_eq_false g8,cond_false,hmid]
     ·intro h9
      rcases Nat.lt_or_ge ((i+j) / 2) k with h | h
      ·have:=lexI_trans _ _ _ (hlt h hx ht) h9
       omega
      ·have e:k=(i+j) / 2:=by omega
       subst e
       rw [hx] at ht
       injection ht with ht
       subst ht
       omega
   ·right
    have e:i=j:=by omega
    subst e
    refine ⟨(i:Int),by rw [decide_eq_false (by omega),cond_false],i,rfl,g4,g5,fun t ht=>g6 i t (Nat.le_refl _) ht⟩) fuel (0,(↑(List.length F):Int)) ⟨0,F.length,rfl,rfl,Nat.zero_le _,Nat.le_refl _,fun k t h=>by omega,fun k t h ht=>by
    have:=(List.getElem?_eq_some_iff.1 ht).1
    omega⟩ (by have:=fuel_big;simp only;omega)
 obtain ⟨r,e,k,hk,h1,h2,h3⟩:=key
 subst hk
 unfold slices_BinarySearchFunc_table_finder_api_Trace_Sint
 rw [e,obind]
 by_cases h4:k<F.length
 ·have hx:=get_at h4
  rw [decide_eq_true (by omega),cond_true,idx_at rfl hx,show (fun (u0:T_api_Trace) (u1:List Int)=>table_finder_answer_1 u0 u1) F[k] w=some (lexI F[k].In w) from hc _ (List.getElem_mem _),obind,obind]
  exact ⟨k,_,rfl,h1,h2,h3⟩
 ·rw [decide_eq_false (by omega),cond_false,obind]
  exact ⟨k,_,rfl,h1,h2,h3⟩
theorem finder_answer_eq {o:T_api_Obs} {F:List T_api_Trace} {w:List Int} (ho:SmO o) (hv:ObsOk o) (hF:FindOk o F):table_finder_answer F w=some (tw (ansO o w)):=by
 obtain ⟨hp,hs⟩:=hF
 have hFl:F.length≤1100000:=by rw [hp.length_eq];exact ho.1
 have hFm:∀ t∈F,t∈o.Traces:=fun t ht=>hp.mem_iff.1 ht
 obtain ⟨k,b,e,h1,h2,h3⟩:=search_eq (w:=w) hs (by omega) fun t ht=>smo_in ho (hFm t ht)
 unfold table_finder_answer ansO
 by_cases h0:w=[]
 ·subst h0
  rfl
 ·have hwl:w.length≠0:=fun h=>h0 (List.eq_nil_of_length_eq_zero h)
  rw [if_neg h0,decide_eq_false (by omega),cond_false,e,obind]
  simp only
  -- whatever trace begins with the word, the first one that is not before it does
  have hfirst:∀ t∈o.Traces,w <+: t.In→∃ u,F[k]?=some u∧w <+: u.In:=fun t ht hpre=>by
   have htF:t∈F:=hp.mem_iff.2 ht
   obtain ⟨j,hj,rfl⟩:=List.mem_iff_getElem.1 htF
   have hge:lexI F[j].In w≠-1:=by
    by_cases hew:w=F[j].In
    ·rw [← hew,lexI_refl];decide
    ·have:=prefix_lex w F[j].In hpre hew
     have:=lexI_swap w F[j].In
     omega
   have hkj:k≤j:=by
    rcases Nat.lt_or_ge j k with h | h
    ·exact absurd (h2 j _ h (get_at hj)) hge
    ·exact h
   have hx:=get_at (l:=F) (i:=k) (by omega)
   refine ⟨_,hx,?_⟩
   have hk1:=h3 _ hx
   rcases Nat.lt_or_ge k j with h | h
   ·have hlt:lexI (F[k]'(by omega)).In F[j].In=-1:=List.pairwise_iff_getElem.1 hs k j (by omega) hj h
    have r:=lexI_range (F[k]'(by omega)).In w
    have s:=lexI_swap (F[k]'(by omega)).In w
    by_cases hz:lexI (F[k]'(by omega)).In w=0
    ·rw [(lexI_zero _ _).1 hz]
     exact List.prefix_refl _
    ·exact lex_between w _ _ (by omega) (Or.inr hlt) hpre
   ·have ej:j=k:=by omega
    subst ej
    exact hpre
  cases hfd:o.Traces.find? fun t=>decide (w <+: t.In) with
  | none =>
   have hno:∀ t∈o.Traces,¬ w <+: t.In:=fun t ht=>by simpa using List.find?_eq_none.1 hfd t ht
   by_cases h4:k=F.length
   ·rw [decide_eq_true (by omega),cond_true,obind,cond_true]
    rfl
   ·have hx:=get_at (l:=F) (i:=k) (by omega)
    have hxm:=hFm _ (List.getElem_mem (show k<F.length by omega))
    rw [decide_eq_false (by omega),cond_false,idx_at rfl hx,word_HasPrefix_eq _ _ (smo_in ho hxm),obind,decide_eq_false (hno _ hxm)]
    rfl
  | some t =>
   have htm:=List.mem_of_find?_eq_some hfd
   have hpre:w <+: t.In:=by simpa using List.find?_some hfd
   obtain ⟨u,hu,hpu⟩:=hfirst t htm hpre
   have hum:=hFm u (List.mem_of_getElem? hu)
   have hku:=(List.getElem?_eq_some_iff.1 hu).1
   have lt:=(hv.prop t htm).1.2.1
   have lu:=(hv.prop u hum).1.2.1
   have p1:=pre_len hpre
   have p2:=pre_len hpu
   -- both answer alike
   have hsame:u.Out.take w.length=t.Out.take w.length:=by
    by_cases hut:u=t
    ·rw [hut]
    ·have hag:∀ a∈o.Traces,∀ b∈o.Traces,a≠b→w <+: a.In→w <+: b.In→a.Out.take w.length=b.Out.take w.length:=by
      intro a ha b hb hab hwa hwb
      have hcm:w.length≤common a.In b.In:=by
       obtain ⟨x,hx⟩:=hwa
       obtain ⟨y,hy⟩:=hwb
       rw [← hx,← hy]
       have:∀ (w x y:List Int),w.length≤common (w++x) (w++y):=by
        intro w
        induction w with
        | nil=>intro x y;exact Nat.zero_le _
        | cons z w ih =>
         intro x y
         have:=ih x y
         simp only [List.cons_append,common,if_true,List.length_cons]
         omega
       exact this w x y
      have hred:∀ (a b:T_api_Trace),Agree a b→w.length≤common a.In b.In→a.Out.take w.length=b.Out.take w.length:=fun a b hA hle=>by
       have h5:=congrArg (List.take w.length) hA
       rw [List.take_take,List.take_take,Nat.min_eq_left hle] at h5
       exact h5
      obtain ⟨i,hi,rfl⟩:=List.mem_iff_getElem.1 ha
      obtain ⟨j,hj,rfl⟩:=List.mem_iff_getElem.1 hb
      rcases Nat.lt_trichotomy i j with hlt | heq | hgt
      ·exact hred _ _ (hv.apart i j _ _ hlt (get_at hi) (get_at hj)).2 hcm
      ·subst heq;rfl
      ·have hcs:w.length≤common o.Traces[j].In o.Traces[i].In:=by
        have:∀ a b:List Int,common a b=common b a:=by
         intro a
         induction a with
         | nil=>intro b;cases b<;>rfl
         | cons x a ih =>
          intro b
          cases b with
          | nil=>rfl
          | cons y b =>
           simp only [common]
           by_cases h:x=y
           ·subst h;simp [ih b]
           ·have h':¬ y=x:=fun e=>h e.symm
            simp [h,h']
        rw [this]
        exact hcm
       exact (hred _ _ (hv.apart j i _ _ hgt (get_at hj) (get_at hi)).2 hcs).symm
     exact hag u hum t htm hut hpu hpre
   have hc:(cond (decide ((↑k:Int)=(↑(List.length F):Int))) (some true) (idx F (↑k:Int) fun e62=>(word_HasPrefix e62.In w).bind fun c63=>cond ((!c63)) (some true) (idx F (↑k:Int) fun e65=>some (decide ((↑(List.length e65.Out):Int)<(↑(List.length w):Int))))):Option Bool)=some false:=by
    rw [decide_eq_false (by omega),cond_false,idx_at rfl hu,word_HasPrefix_eq _ _ (smo_in ho hum),obind,decide_eq_true hpu,Bool.not_true,cond_false,idx_at rfl hu,decide_eq_false (by omega)]
   rw [hc,obind,cond_false,idx_at rfl hu,chk_pos (by omega),hsame]
   rfl
end Go.Proofs.YtedabpfahmealaaGreatDoor.Sym

/-
 Rows, missing queries and maximal words: the program's are the document's. Plain laws.
-/
namespace Go.Proofs.YtedabpfahmealaaGreatDoor.Sym
set_option maxRecDepth 100000
theorem ansO_len {o:T_api_Obs} (hv:ObsOk o) {w r:List Int} (h:ansO o w=some r):r.length=w.length:=by
 unfold ansO at h
 split at h
 ·rename_i h0
  injection h with h
  rw [← h,h0]
 ·obtain ⟨t,ht,rfl⟩:=Option.map_eq_some_iff.1 h
  have hm:=List.mem_of_find?_eq_some ht
  have hp:w <+: t.In:=by simpa using List.find?_some ht
  have:=(hv.prop t hm).1.2.1
  have:=pre_len hp
  rw [List.length_take]
  omega
def rowO (o:T_api_Obs) (w:List Int):List (List Int)→Option (List (List Int))
 | []=>some []
 | e::S=>match ansO o (w++e) with
  | none=>none
  | some r=>(rowO o w S).map fun l=>r.drop w.length::l
theorem rowO_drop {o:T_api_Obs} {w:List Int} {S:List (List Int)} {k:Nat} {e:List Int} (h:S[k]?=some e):rowO o w (S.drop k)=match ansO o (w++e) with | none=>none | some r=>(rowO o w (S.drop (k+1))).map fun l=>r.drop w.length::l:=by
 obtain ⟨hk,rfl⟩:=List.getElem?_eq_some_iff.1 h
 rw [List.drop_eq_getElem_cons hk]
 rfl
theorem finder_row_eq {o:T_api_Obs} {F:List T_api_Trace} {t:T_api_Table} {w:List Int} (ho:SmO o) (hv:ObsOk o) (hF:FindOk o F) (hS:SmL t.Suffixes) (hw:SmW w):table_finder_row F t w=some (tw (rowO o w t.Suffixes)):=by
 have hS1:t.Suffixes.length≤2000000:=hS.1
 have hw1:w.length≤2000000:=hw
 unfold table_finder_row
 have key:=iter_post (step:=fun (s:List (List Int)×Nat)=>table_finder_row.s2 F t w s.1 s.2) (fun s=>s.2≤t.Suffixes.length∧s.1.length=s.2∧rowO o w t.Suffixes=(rowO o w (t.Suffixes.drop s.2)).map (s.1++·)) (fun s=>t.Suffixes.length-s.2)
  (fun r=>Sum.elim (fun (y84:List (List Int))=>some (y84,true)) some r=some (tw (rowO o w t.Suffixes))) (fun s ⟨g1,g2,g3⟩=>by
   obtain ⟨y,k⟩:=s
   simp only at g1 g2 g3
   simp only [table_finder_row.s2]
   by_cases g4:k<t.Suffixes.length
   ·have hx:=get_at g4
    have hxs:SmW t.Suffixes[k]:=hS.2 _ (List.getElem_mem _)
    have hx1:t.Suffixes[k].length≤2000000:=hxs
    rw [dec_lt hx,cond_true,idxn_at hx,word_Join_eq _ (by simp) (by simp;omega),obind]
    simp only [List.flatten_cons,List.flatten_nil,List.append_nil]
    rw [finder_answer_eq ho hv hF,obind]
    rw [rowO_drop hx] at g3
    cases ha:ansO o (w++t.Suffixes[k]) with
    | none =>
     right
     rw [ha] at g3
     refine ⟨.inr ([],false),rfl,?_⟩
     rw [g3]
     rfl
    | some r =>
     left
     rw [ha] at g3
     have hrl:=ansO_len hv ha
     rw [List.length_append] at hrl
     have hd:SmW (r.drop w.length):=by unfold SmW;rw [List.length_drop];omega
     refine ⟨(y++[r.drop w.length],k+1),?_,⟨g4,by simp [g2],?_⟩,by simp only;omega⟩
     ·simp only [tw,Bool.not_true,cond_false]
      rw [chk_pos (by omega),libclone_word hd,obind,chk_pos (by unfold capOk;omega)]
     ·rw [g3,Option.map_map]
      simp only
      congr 1
      funext l
      simp
   ·right
    have e:k=t.Suffixes.length:=by omega
    subst e
    refine ⟨.inl y,by rw [decide_eq_false (by omega),cond_false],?_⟩
    rw [g3,List.drop_length]
    simp [rowO,tw]) fuel ([],0) ⟨Nat.zero_le _,rfl,by simp⟩ (by have:=fuel_big;simp only;omega)
 obtain ⟨r,e,hq⟩:=key
 rw [chk_pos (by unfold capOk;omega),e]
 exact hq
theorem R23_After_eq {o:T_api_Obs} {w e:List Int} (ho:SmO o) (hv:ObsOk o) (hw:SmW w) (he:SmW e):R23_After o w e=some (match ansO o (w++e) with | none=>([],false) | some r=>(r.drop w.length,true)):=by
 unfold R23_After
 rw [R23_Joined_eq hw he,obind,R16_Answer_eq ho hv,obind]
 cases ha:ansO o (w++e) with
 | none=>rfl
 | some r =>
  have hrl:=ansO_len hv ha
  rw [List.length_append] at hrl
  simp only [tw,Bool.not_true,cond_false]
  rw [chk_pos (by omega)]
theorem R23_row_eq {o:T_api_Obs} {S:List (List Int)} {w:List Int} (ho:SmO o) (hv:ObsOk o) (hS:SmL S) (hw:SmW w):R23_row o S w=some (tw (rowO o w S)):=by
 have hS1:S.length≤2000000:=hS.1
 unfold R23_row
 have key:=iter_post (step:=fun (s:List (List Int)×Nat)=>R23_row.s2 o S w s.1 s.2) (fun s=>s.2≤S.length∧s.1.length=s.2∧rowO o w S=(rowO o w (S.drop s.2)).map (s.1++·)) (fun s=>S.length-s.2)
  (fun r=>Sum.elim (fun (y72:List (List Int))=>some (y72,true)) some r=some (tw (rowO o w S))) (fun s ⟨g1,g2,g3⟩=>by
   obtain ⟨y,k⟩:=s
   simp only at g1 g2 g3
   simp only [R23_row.s2]
   by_cases g4:k<S.length
   ·have hx:=get_at g4
    have hxs:SmW S[k]:=hS.2 _ (List.getElem_mem _)
    rw [dec_lt hx,cond_true,idxn_at hx,R23_After_eq ho hv hw hxs,obind]
    rw [rowO_drop hx] at g3
    cases ha:ansO o (w++S[k]) with
    | none =>
     right
     rw [ha] at g3
     refine ⟨.inr ([],false),rfl,?_⟩
     rw [g3]
     rfl
    | some r =>
     left
     rw [ha] at g3
     refine ⟨(y++[r.drop w.length],k+1),?_,⟨g4,by simp [g2],?_⟩,by simp only;omega⟩
     ·simp only [Bool.not_true,cond_false]
      rw [chk_pos (by unfold capOk;omega)]
     ·rw [g3,Option.map_map]
      simp only
      congr 1
      funext l
      simp
   ·right
    have e:k=S.length:=by omega
    subst e
    refine ⟨.inl y,by rw [decide_eq_false (by omega),cond_false],?_⟩
    rw [g3,List.drop_length]
    simp [rowO,tw]) fuel ([],0) ⟨Nat.zero_le _,rfl,by simp⟩ (by have:=fuel_big;simp only;omega)
 obtain ⟨r,e,hq⟩:=key
 rw [e]
 exact hq
def chkT (t:T_api_Table) (o:T_api_Obs):Int:=if validT t≠0 then validT t else if t.Inputs≠o.Inputs then 15 else 0
theorem table_check_eq {t:T_api_Table} {o:T_api_Obs} (ht:SmT t):table_check t o=some (chkT t o):=by
 unfold table_check chkT
 rw [table_Valid_eq t ht,obind]
 by_cases h:validT t=0
 ·rw [decide_eq_false (by simpa using h),cond_false,if_neg (by simpa using h)]
  by_cases h2:t.Inputs=o.Inputs<;>simp [h2]
 ·rw [decide_eq_true h,cond_true,if_pos h]
theorem R23_Check_eq {t:T_api_Table} {o:T_api_Obs} (ht:SmT t):R23_Check t o=some (chkT t o):=by
 unfold R23_Check chkT
 rw [R23_Valid_eq t ht,obind]
 by_cases h:validT t=0
 ·rw [decide_eq_false (by simpa using h),cond_false,if_neg (by simpa using h)]
  by_cases h2:t.Inputs=o.Inputs<;>simp [h2]
 ·rw [decide_eq_true h,cond_true,if_pos h]
def rowT (t:T_api_Table) (o:T_api_Obs) (w:List Int):List (List Int)×Bool:=if chkT t o≠0 then ([],false) else tw (rowO o w t.Suffixes)
theorem table_Row_eq {t:T_api_Table} {o:T_api_Obs} {w:List Int} (ht:SmT t) (ho:SmO o) (hv:ObsOk o) (hw:SmW w):table_Row t o w=some (rowT t o w):=by
 obtain ⟨F,hF1,hF⟩:=table_find_eq ho hv
 unfold table_Row rowT
 rw [table_check_eq ht,obind]
 by_cases h:chkT t o=0
 ·rw [decide_eq_false (by simpa using h),cond_false,if_neg (by simpa using h),hF1,obind,finder_row_eq ho hv hF ht.2.2.1 hw,obind]
 ·rw [decide_eq_true h,cond_true,if_pos h]
theorem R23_Row_eq {t:T_api_Table} {o:T_api_Obs} {w:List Int} (ht:SmT t) (ho:SmO o) (hv:ObsOk o) (hw:SmW w):R23_Row t o w=some (rowT t o w):=by
 unfold R23_Row rowT
 rw [R23_Check_eq ht,obind]
 by_cases h:chkT t o=0
 ·rw [decide_eq_false (by simpa using h),cond_false,if_neg (by simpa using h),R23_row_eq ho hv ht.2.2.1 hw,obind]
 ·rw [decide_eq_true h,cond_true,if_pos h]
theorem R02_Maximal_eq {l:List (List Int)} (hl:SmL l):R02_Maximal l=some (maxR l):=by
 have hA:=sortW_asc l
 have hs:=sml_sort hl
 have hs1:(sortW l).length≤2000000:=hs.1
 unfold R02_Maximal maxR
 rw [R02_Sorted_eq hl,obind]
 have inner:∀ (i:Nat) (x:List Int),(sortW l)[i]?=some x→iter (fun (s:Bool×Nat)=>R02_Maximal.s13 (sortW l) i s.1 s.2) fuel (true,i+1)=some (topB (sortW l) x):=by
  intro i x hx
  have hi:=(List.getElem?_eq_some_iff.1 hx).1
  refine iter_eq (fun s=>i+1≤s.2∧s.2≤(sortW l).length∧s.1=tailB x (((sortW l).take s.2).drop (i+1))) (fun s=>(sortW l).length-s.2) (fun s ⟨g1,g2,g3⟩=>?_) ⟨Nat.le_refl _,by simp only;omega,by simp [tailB]⟩ (by have:=fuel_big;simp only;omega)
  obtain ⟨b,k⟩:=s
  simp only at g1 g2 g3
  simp only [R02_Maximal.s13]
  by_cases g4:k<(sortW l).length
  ·left
   have hy:=get_at g4
   have hst:=tailB_step (x:=x) g1 hy
   rw [← g3] at hst
   refine ⟨(tailB x (((sortW l).take (k+1)).drop (i+1)),k+1),?_,⟨by simp only;omega,by simp only;omega,rfl⟩,by simp only;omega⟩
   rw [dec_lt hy,cond_true,hst]
   cases b with
   | false=>rfl
   | true =>
    rw [cond_true,idxn_at hy,idxn_at hx,Bool.true_and]
    by_cases g5:(sortW l)[k].length=x.length
    ·rw [decide_eq_true (by omega),cond_true,decide_eq_true (Or.inl g5)]
    ·rw [decide_eq_false (by omega),cond_false,idxn_at hy,idxn_at hx,R01_HasPrefix_eq _ _ (hs.2 _ (List.getElem_mem _)),obind]
     by_cases g6:x <+: (sortW l)[k]
     ·rw [decide_eq_true g6,decide_eq_false (fun h=>h.elim g5 fun h=>h g6)];rfl
     ·rw [decide_eq_false g6,decide_eq_true (Or.inr g6)];rfl
  ·right
   have e:k=(sortW l).length:=by omega
   subst e
   rw [decide_eq_false (by omega),cond_false,g3,List.take_length,top_eq hA hx]
 have key:=iter_eq (step:=fun (s:List (List Int)×Nat)=>R02_Maximal.s14 (sortW l) s.1 s.2) (r:=(sortW l).filter (topB (sortW l))) (fun s=>s.2≤(sortW l).length∧s.1=((sortW l).take s.2).filter (topB (sortW l))) (fun s=>(sortW l).length-s.2) (fun s ⟨g1,g2⟩=>by
  obtain ⟨y,i⟩:=s
  simp only at g1 g2
  subst g2
  simp only [R02_Maximal.s14]
  by_cases g4:i<(sortW l).length
  ·left
   have hx:=get_at g4
   have hst:=filter_step (p:=topB (sortW l)) hx
   have hfl:=List.length_filter_le (topB (sortW l)) ((sortW l).take i)
   rw [List.length_take] at hfl
   refine ⟨(((sortW l).take (i+1)).filter (topB (sortW l)),i+1),?_,⟨by simp only;omega,rfl⟩,by simp only;omega⟩
   rw [dec_lt hx,cond_true,inner i _ hx,obind,hst]
   cases topB (sortW l) (sortW l)[i] with
   | true =>
    rw [cond_true,idxn_at hx,chk_pos (by unfold capOk;omega)]
    rfl
   | false=>simp
  ·right
   have e:i=(sortW l).length:=by omega
   subst e
   rw [decide_eq_false (by omega),cond_false,List.take_length]) (n:=fuel) (s:=([],0)) ⟨Nat.zero_le _,by simp⟩ (by have:=fuel_big;simp only;omega)
 rw [key,obind]
theorem wordset_Maximal_eq {l:List (List Int)} (hl:SmL l):wordset_Maximal l=some (maxR l):=by
 have hl1:l.length≤2000000:=hl.1
 obtain ⟨L,e1,h1,h2,h3⟩:=ordered_eq lexI_total (f:=fun u0 u1=>word_Lex u0 u1) hl fun a ha b hb=>word_Lex_eq a b (by have:SmW a:=hl.2 a ha;unfold SmW at this;omega)
 have hLs:∀ x∈L,SmW x:=fun x hx=>hl.2 x ((h2 x).1 hx)
 unfold wordset_Maximal
 rw [e1,obind]
 have key:=iter_eq (step:=fun (s:List (List Int)×Nat)=>wordset_Maximal.s2 L s.1 s.2) (r:=keepM L) (fun s=>s.2≤L.length∧s.1.length≤s.2∧keepM L=s.1++keepM (L.drop s.2)) (fun s=>L.length-s.2) (fun s ⟨g1,g2,g3⟩=>by
  obtain ⟨y,i⟩:=s
  simp only at g1 g2 g3
  simp only [wordset_Maximal.s2]
  by_cases g4:i<L.length
  ·left
   have hx:=get_at g4
   rw [dec_lt hx,cond_true,idxn_at hx]
   by_cases g5:i+1=L.length
   ·rw [keepM_end hx g5] at g3
    refine ⟨(y++[L[i]],i+1),?_,⟨by simp only;omega,by simp;omega,by simp only;rw [g3];simp⟩,by simp only;omega⟩
    rw [decide_eq_true (by omega),cond_true,obind,cond_true,chk_pos (by unfold capOk;omega)]
   ·have hy:=get_at (l:=L) (i:=i+1) (by omega)
    rw [keepM_step hx hy] at g3
    rw [decide_eq_false (by omega),cond_false,idxn_at hy,word_HasPrefix_eq _ _ (hLs _ (List.getElem_mem _)),obind,obind]
    by_cases g6:L[i] <+: (L[i+1]'(by omega))
    ·rw [if_pos g6] at g3
     refine ⟨(y,i+1),?_,⟨by simp only;omega,by simp only;omega,g3⟩,by simp only;omega⟩
     rw [decide_eq_true g6]
     rfl
    ·rw [if_neg g6] at g3
     refine ⟨(y++[L[i]],i+1),?_,⟨by simp only;omega,by simp;omega,by simp only;rw [g3];simp⟩,by simp only;omega⟩
     rw [decide_eq_false g6,Bool.not_false,cond_true,chk_pos (by unfold capOk;omega)]
  ·right
   have e:i=L.length:=by omega
   subst e
   rw [List.drop_length] at g3
   rw [decide_eq_false (by omega),cond_false,g3]
   simp [keepM]) (n:=fuel) (s:=([],0)) ⟨Nat.zero_le _,by simp,by simp⟩ (by have:=fuel_big;simp only;omega)
 have hk:=keepM_sub L
 have hkl:SmL (keepM L):=⟨by have:=hk.length_le;omega,fun x hx=>hLs x (hk.mem hx)⟩
 rw [key,obind,wordset_Sorted_eq hkl,obind,sortW_keepM h1 h2]
end Go.Proofs.YtedabpfahmealaaGreatDoor.Sym

/-
 The missing queries of a table: the program's are the document's. Plain laws, and the law of TableNeeds.
-/
namespace Go.Proofs.YtedabpfahmealaaGreatDoor.Sym
set_option maxRecDepth 100000
def missO (o:T_api_Obs) (w:List Int) (S:List (List Int)):List (List Int):=(S.map fun e=>w++e).filter fun v=>(ansO o v).isNone
theorem missO_step {o:T_api_Obs} {w e:List Int} {S:List (List Int)} {k:Nat} (h:S[k]?=some e):missO o w (S.take (k+1))=missO o w (S.take k)++(if (ansO o (w++e)).isNone=true then [w++e] else []):=by
 unfold missO
 rw [take_step h,List.map_append,List.filter_append]
 simp only [List.map_cons,List.map_nil,List.filter_cons,List.filter_nil]
theorem missO_len (o:T_api_Obs) (w:List Int) (S:List (List Int)):(missO o w S).length≤S.length:=by
 unfold missO
 have:=List.length_filter_le (fun v=>(ansO o v).isNone) (S.map fun e=>w++e)
 rw [List.length_map] at this
 exact this
theorem mem_missO {o:T_api_Obs} {w v:List Int} {S:List (List Int)}:v∈missO o w S↔(∃ e∈S,v=w++e)∧ansO o v=none:=by
 unfold missO
 rw [List.mem_filter,List.mem_map,Option.isNone_iff_eq_none]
 constructor
 ·rintro ⟨⟨e,he,rfl⟩,h⟩;exact ⟨⟨e,he,rfl⟩,h⟩
 ·rintro ⟨⟨e,he,rfl⟩,h⟩;exact ⟨⟨e,he,rfl⟩,h⟩
structure TabOk (t:T_api_Table):Prop where
 sm:SmT t
 n:t.Inputs≤4
 p:t.Prefixes.length≤30
 s:t.Suffixes.length≤12
 pw:∀ x∈t.Prefixes,x.length≤30
 sw:∀ x∈t.Suffixes,x.length≤30
def withX (n:Nat) (p:List Int):List (List Int):=p::(List.range n).map fun (a:Nat)=>p++[(↑a:Int)]
def needL (o:T_api_Obs) (t:T_api_Table) (P:List (List Int)):List (List Int):=P.flatMap fun p=>(withX t.Inputs.toNat p).flatMap fun w=>missO o w t.Suffixes
def extL (t:T_api_Table):List (List Int):=t.Prefixes.flatMap fun p=>(List.range t.Inputs.toNat).map fun (a:Nat)=>p++[(↑a:Int)]
theorem R01_SameWords_eq (a b:List (List Int)) (ha:SmL a):R01_SameWords a b=some (decide (a=b)):=by
 have ha1:a.length≤2000000:=ha.1
 unfold R01_SameWords
 by_cases hlen:a.length=b.length
 ·rw [decide_eq_false (by omega),cond_false]
  refine iter_all2 hlen (fun i x y hx hy=>?_) ?_ (by omega)
  ·simp only [R01_SameWords.s2]
   rw [dec_lt hx,cond_true,idxn_at hx,idxn_at hy,R01_Same_eq x y (ha.2 x (List.mem_of_getElem? hx)),obind]
   by_cases h:x=y<;>simp [h]
  ·simp only [R01_SameWords.s2]
   rw [dec_end]
   rfl
 ·rw [decide_eq_true (by omega),cond_true]
  have:a≠b:=fun h=>hlen (by rw [h])
  simp [this]
theorem tabOk_of {t:T_api_Table} {o:T_api_Obs} (ht:SmT t) (h:greatT t o=false):TabOk t∧o.Traces.length≤400∧∀ x∈o.Traces,x.In.length≤90:=by
 unfold greatT at h
 simp only [Bool.or_eq_false_iff,decide_eq_false_iff_not,Bool.not_eq_false'] at h
 obtain ⟨⟨⟨⟨h1,h2,h3⟩,h4,h5⟩,h6⟩,h7⟩:=h
 exact ⟨⟨ht,by omega,by omega,by omega,fun x hx=>of_decide_eq_true (List.all_eq_true.1 h3 x hx),fun x hx=>of_decide_eq_true (List.all_eq_true.1 h5 x hx)⟩,by omega,fun x hx=>of_decide_eq_true (List.all_eq_true.1 h7 x hx)⟩
theorem rowO_sml {o:T_api_Obs} (hv:ObsOk o) {w:List Int}:∀ {S:List (List Int)} {l:List (List Int)},rowO o w S=some l→l.length=S.length∧∀ x∈l,∃ e∈S,x.length=e.length
 | [],l,h=>by
  injection h with h
  subst h
  exact ⟨rfl,fun x hx=>by cases hx⟩
 | e::S,l,h=>by
  unfold rowO at h
  cases ha:ansO o (w++e) with
  | none=>rw [ha] at h;cases h
  | some r =>
   rw [ha] at h
   obtain ⟨l',h1,rfl⟩:=Option.map_eq_some_iff.1 h
   obtain ⟨h2,h3⟩:=rowO_sml hv h1
   have hrl:=ansO_len hv ha
   rw [List.length_append] at hrl
   refine ⟨by simp [h2],fun x hx=>?_⟩
   rcases List.mem_cons.1 hx with rfl | hx
   ·exact ⟨e,by simp,by rw [List.length_drop];omega⟩
   ·obtain ⟨e',he',hl'⟩:=h3 x hx
    exact ⟨e',List.mem_cons_of_mem _ he',hl'⟩
theorem rowT_sml {t:T_api_Table} {o:T_api_Obs} (hv:ObsOk o) (ht:SmT t) (w:List Int):SmL (rowT t o w).1:=by
 unfold rowT
 split
 ·exact sml_nil
 ·cases h:rowO o w t.Suffixes with
  | none=>exact sml_nil
  | some l =>
   obtain ⟨h1,h2⟩:=rowO_sml hv h
   refine ⟨by show l.length≤2000000;rw [h1];exact ht.2.2.1.1,fun x hx=>?_⟩
   obtain ⟨e,he,hl⟩:=h2 x hx
   have:SmW e:=ht.2.2.1.2 e he
   unfold SmW at this ⊢
   omega
end Go.Proofs.YtedabpfahmealaaGreatDoor.Sym

/-
 The view of a complete table: rows with numbers. Plain laws.
-/
namespace Go.Proofs.YtedabpfahmealaaGreatDoor.Sym
set_option maxRecDepth 100000
section
variable {α:Type} [DecidableEq α]
def pos (r:α):List α→Nat
 | []=>0
 | x::l=>if x=r then 0 else pos r l+1
theorem pos_get {r:α}:∀ {l:List α},r∈l→l[pos r l]?=some r
 | x::l,h=>by
  unfold pos
  by_cases e:x=r
  ·simp [e]
  ·rw [if_neg e]
   rcases List.mem_cons.1 h with h | h
   ·exact absurd h.symm e
   ·simpa using pos_get h
theorem pos_lt {r:α} {l:List α} (h:r∈l):pos r l<l.length:=(List.getElem?_eq_some_iff.1 (pos_get h)).1
theorem pos_append {r:α}:∀ {l m:List α},r∈l→pos r (l++m)=pos r l
 | x::l,m,h=>by
  rw [List.cons_append]
  unfold pos
  by_cases e:x=r
  ·simp [e]
  ·rw [if_neg e,if_neg e]
   rcases List.mem_cons.1 h with h | h
   ·exact absurd h.symm e
   ·rw [pos_append h]
def addR (R:List α) (r:α):List α:=if r∈R then R else R++[r]
theorem mem_addR {R:List α} {r x:α}:x∈addR R r↔x∈R∨x=r:=by
 unfold addR
 split
 ·constructor
  ·exact Or.inl
  ·rintro (h | rfl)
   ·exact h
   ·assumption
 ·simp
theorem pos_addR {R:List α} {r x:α} (h:x∈R):pos x (addR R r)=pos x R:=by
 unfold addR
 split
 ·rfl
 ·exact pos_append h
end
def RowSm (r:List (List Int)):Prop:=r.length≤100∧∀ x∈r,x.length≤1000∧∀ a∈x,inR a
end Go.Proofs.YtedabpfahmealaaGreatDoor.Sym

/-
 The view of a table, whole. Plain laws.
-/
namespace Go.Proofs.YtedabpfahmealaaGreatDoor.Sym
set_option maxRecDepth 100000
theorem ansO_rng {o:T_api_Obs} (hv:ObsOk o) {w r:List Int} (h:ansO o w=some r):∀ a∈r,inR a:=by
 unfold ansO at h
 split at h
 ·injection h with h
  subst h
  intro a ha
  cases ha
 ·obtain ⟨t,ht,rfl⟩:=Option.map_eq_some_iff.1 h
  intro a ha
  have hm:=List.mem_of_find?_eq_some ht
  have:=(hv.prop t hm).1.2.2 a (List.mem_of_mem_take ha)
  unfold inR
  omega
theorem rowO_rng {o:T_api_Obs} (hv:ObsOk o) {w:List Int}:∀ {S:List (List Int)} {l:List (List Int)},rowO o w S=some l→∀ x∈l,∀ a∈x,inR a
 | [],l,h=>by
  injection h with h
  subst h
  intro x hx
  cases hx
 | e::S,l,h=>by
  unfold rowO at h
  cases ha:ansO o (w++e) with
  | none=>rw [ha] at h;cases h
  | some r =>
   rw [ha] at h
   obtain ⟨l',h1,rfl⟩:=Option.map_eq_some_iff.1 h
   intro x hx a hax
   rcases List.mem_cons.1 hx with rfl | hx
   ·exact ansO_rng hv ha a (List.mem_of_mem_drop hax)
   ·exact rowO_rng hv h1 x hx a hax
theorem rowO_rsm {o:T_api_Obs} {t:T_api_Table} (hv:ObsOk o) (ht:TabOk t) {w:List Int} {r:List (List Int)} (h:rowO o w t.Suffixes=some r):RowSm r:=by
 obtain ⟨h1,h2⟩:=rowO_sml hv h
 refine ⟨by have:=ht.s;omega,fun x hx=>⟨?_,rowO_rng hv h x hx⟩⟩
 obtain ⟨e,he,hl⟩:=h2 x hx
 have:=ht.sw e he
 omega
abbrev v0:T_table_view:=⟨[],[],[],[]⟩
abbrev Row:Type:=List (List Int)
def addAll (R:List Row) (rs:List Row):List Row:=rs.foldl addR R
theorem addAll_snoc (R:List Row) (rs:List Row) (r:Row):addAll R (rs++[r])=addR (addAll R rs) r:=by simp [addAll]
theorem mem_addAll {R:List Row} {x:Row}:∀ {rs:List Row},x∈addAll R rs↔x∈R∨x∈rs:=by
 intro rs
 induction rs generalizing R with
 | nil=>simp [addAll]
 | cons r rs ih =>
  show x∈addAll (addR R r) rs↔_
  rw [ih,mem_addR,List.mem_cons]
  constructor
  ·rintro ((h | h) | h)
   ·exact Or.inl h
   ·exact Or.inr (Or.inl h)
   ·exact Or.inr (Or.inr h)
  ·rintro (h | h | h)
   ·exact Or.inl (Or.inl h)
   ·exact Or.inl (Or.inr h)
   ·exact Or.inr h
theorem pos_addAll {R:List Row} {x:Row} (h:x∈R):∀ rs:List Row,pos x (addAll R rs)=pos x R:=by
 intro rs
 induction rs generalizing R with
 | nil=>rfl
 | cons r rs ih =>
  show pos x (addAll (addR R r) rs)=_
  rw [ih (mem_addR.2 (Or.inl h)),pos_addR h]
end Go.Proofs.YtedabpfahmealaaGreatDoor.Sym

/-
 Complete tables, and the word that shows that a table is not closed. Plain laws.
-/
namespace Go.Proofs.YtedabpfahmealaaGreatDoor.Sym
set_option maxRecDepth 100000
theorem rowO_some {o:T_api_Obs} {w:List Int}:∀ {S:List (List Int)},(∀ e∈S,ansO o (w++e)≠none)→∃ r,rowO o w S=some r
 | [],_=>⟨[],rfl⟩
 | e::S,h=>by
  obtain ⟨l,hl⟩:=rowO_some (S:=S) fun e he=>h e (List.mem_cons_of_mem _ he)
  unfold rowO
  cases ha:ansO o (w++e) with
  | none=>exact absurd ha (h e (by simp))
  | some r =>
   rw [hl]
   exact ⟨_,rfl⟩
theorem rowO_ans {o:T_api_Obs} {w:List Int}:∀ {S:List (List Int)} {r:Row},rowO o w S=some r→∀ e∈S,ansO o (w++e)≠none
 | [],_,_,e,he=>by cases he
 | u::S,r,h,e,he=>by
  unfold rowO at h
  cases ha:ansO o (w++u) with
  | none=>rw [ha] at h;cases h
  | some x =>
   rw [ha] at h
   obtain ⟨l,h1,_⟩:=Option.map_eq_some_iff.1 h
   rcases List.mem_cons.1 he with rfl | he
   ·rw [ha];simp
   ·exact rowO_ans h1 e he
def AllRows (t:T_api_Table) (o:T_api_Obs):Prop:=∀ p∈t.Prefixes,∀ w∈withX t.Inputs.toNat p,∃ r,rowO o w t.Suffixes=some r
theorem need_nil {t:T_api_Table} {o:T_api_Obs}:needL o t t.Prefixes=[]↔AllRows t o:=by
 constructor
 ·intro h p hp w hw
  refine rowO_some fun e he hn=>?_
  have:w++e∈needL o t t.Prefixes:=List.mem_flatMap.2 ⟨p,hp,List.mem_flatMap.2 ⟨w,hw,mem_missO.2 ⟨⟨e,he,rfl⟩,hn⟩⟩⟩
  rw [h] at this
  cases this
 ·intro h
  refine List.eq_nil_iff_forall_not_mem.2 fun v hv=>?_
  obtain ⟨p,hp,h2⟩:=List.mem_flatMap.1 hv
  obtain ⟨w,hw,h3⟩:=List.mem_flatMap.1 h2
  obtain ⟨⟨e,he,rfl⟩,hn⟩:=mem_missO.1 h3
  obtain ⟨r,hr⟩:=h p hp w hw
  exact rowO_ans hr e he hn
theorem longest_word:∀ {l:List (List Int)},l≠[]→∃ y∈l,∀ z∈l,z.length≤y.length
 | [x],_=>⟨x,by simp,fun z hz=>by rw [List.mem_singleton.1 hz];exact Nat.le_refl _⟩
 | x::u::l,_=>by
  obtain ⟨y,hy,h⟩:=longest_word (l:=u::l) (by simp)
  by_cases h1:y.length≤x.length
  ·refine ⟨x,by simp,fun z hz=>?_⟩
   rcases List.mem_cons.1 hz with rfl | hz
   ·exact Nat.le_refl _
   ·exact Nat.le_trans (h z hz) h1
  ·refine ⟨y,List.mem_cons_of_mem _ hy,fun z hz=>?_⟩
   rcases List.mem_cons.1 hz with rfl | hz
   ·omega
   ·exact h z hz
theorem maxR_nil {l:List (List Int)}:maxR l=[]↔l=[]:=by
 constructor
 ·intro h
  refine Classical.byContradiction fun hne=>?_
  obtain ⟨y,hy,hmax⟩:=longest_word hne
  have:y∈maxR l:=(mem_maxR_iff l y).2 ⟨hy,fun z hz=>by
   by_cases hp:y <+: z
   ·left
    have h1:=hmax z hz
    have h2:=hp.length_le
    exact (hp.eq_of_length (by omega)).symm
   ·exact Or.inr hp⟩
  rw [h] at this
  cases this
 ·rintro rfl
  rfl
def compT (t:T_api_Table) (o:T_api_Obs):Int:=if chkT t o≠0 then chkT t o else if needL o t t.Prefixes=[] then 0 else 12
structure ViewOk (t:T_api_Table) (o:T_api_Obs) (v:T_table_view):Prop where
 pl:v.prefixes.length=t.Prefixes.length
 nl:v.next.length=t.Prefixes.length
 pre:∀ (i:Nat) p,t.Prefixes[i]?=some p→∃ r,rowO o p t.Suffixes=some r∧r∈v.rows∧v.prefixes[i]?=some (↑(pos r v.rows):Int)
 nxt:∀ (i:Nat) p,t.Prefixes[i]?=some p→∃ l,v.next[i]?=some l∧l.length=t.Inputs.toNat∧∀ a,a<t.Inputs.toNat→∃ r,rowO o (p++[(↑a:Int)]) t.Suffixes=some r∧r∈v.rows∧l[a]?=some (↑(pos r v.rows):Int)
theorem valid_asc {t:T_api_Table} (h:validT t=0):1≤t.Inputs∧t.Inputs≤64∧Asc t.Prefixes∧Asc t.Suffixes∧(∀ a∈List.range t.Inputs.toNat,[(↑a:Int)]∈t.Suffixes)∧scan (preG t fun w=>decide (w∈t.Prefixes)) 0 t.Prefixes=none∧scan (sufG t) 0 t.Suffixes=none∧t.Prefixes≠[]:=by
 unfold validT at h
 split at h
 ·cases h
 ·rename_i h1
  split at h
  ·cases h
  ·rename_i h2
   split at h
   ·cases h
   ·cases e1:scan (preG t fun w=>decide (w∈t.Prefixes)) 0 t.Prefixes with
    | some e =>
     exfalso
     rw [e1] at h
     simp only at h
     subst h
     have key:∀ (l:List (List Int)) (j:Nat),scan (preG t fun w=>decide (w∈t.Prefixes)) j l≠some 0:=by
      intro l
      induction l with
      | nil=>intro j h;cases h
      | cons x l ih =>
       intro j h
       unfold scan at h
       split at h
       ·rename_i r' h3
        injection h with h
        subst h
        unfold preG at h3
        split at h3
        ·rename_i h4
         injection h3 with h3
         exact h4 h3
        ·split at h3
         ·cases h3
         ·split at h3
          ·cases h3
          ·cases h3
       ·exact ih _ h
     exact key _ _ e1
    | none =>
     rw [e1] at h
     cases e2:scan (sufG t) 0 t.Suffixes with
     | some e =>
      exfalso
      rw [e2] at h
      simp only at h
      subst h
      have key:∀ (l:List (List Int)) (j:Nat),scan (sufG t) j l≠some 0:=by
       intro l
       induction l with
       | nil=>intro j h;cases h
       | cons x l ih =>
        intro j h
        unfold scan at h
        split at h
        ·rename_i r' h3
         injection h with h
         subst h
         unfold sufG at h3
         split at h3
         ·rename_i h4
          injection h3 with h3
          exact h4 h3
         ·split at h3
          ·cases h3
          ·split at h3
           ·cases h3
           ·cases h3
        ·exact ih _ h
      exact key _ _ e2
     | none =>
      rw [e2] at h
      simp only at h
      split at h
      ·rename_i h5
       refine ⟨by omega,by omega,Asc_of_prev fun i w hw=>?_,(sufG_none e2).1,h5,rfl,rfl,fun e=>h2 (by rw [e];rfl)⟩
       have:=scan_none.1 e1 i w hw
       rw [Nat.zero_add] at this
       unfold preG at this
       split at this
       ·cases this
       ·split at this
        ·cases this
        ·rename_i h6
         cases hpv:prevLt t.Prefixes i w with
         | true=>rfl
         | false=>exact absurd (Or.inr hpv) h6
      ·cases h
theorem sortW_of_asc {l:List (List Int)} (h:Asc l):sortW l=l:=asc_ext (sortW_asc l) h fun x=>mem_sortW l x
def newRow (t:T_api_Table) (o:T_api_Obs) (w:List Int):Bool:=decide (rowO o w t.Suffixes∉t.Prefixes.map fun p=>rowO o p t.Suffixes)
end Go.Proofs.YtedabpfahmealaaGreatDoor.Sym

/-
 The suffix that shows that a table is not consistent, and the law of TableRepairs. Plain laws.
-/
namespace Go.Proofs.YtedabpfahmealaaGreatDoor.Sym
set_option maxRecDepth 100000
section
variable {α R T:Type}
end
def rowG (t:T_api_Table) (o:T_api_Obs) (w:List Int):Row:=(rowO o w t.Suffixes).getD []
def dP (a:Nat) (x y:Row):Option (Int×Int×Bool):=scan (fun e u=>if y[e]?=some u then none else some ((↑a:Int),(↑e:Int),true)) 0 x
def pP (t:T_api_Table) (o:T_api_Obs) (p q:List Int):Option (Int×Int×Bool):=scan (fun _ (a:Nat)=>dP a (rowG t o (p++[(↑a:Int)])) (rowG t o (q++[(↑a:Int)]))) 0 (List.range t.Inputs.toNat)
def iP (t:T_api_Table) (o:T_api_Obs):Option (Int×Int×Bool):=scan (fun i p=>scan (fun _ q=>if rowO o p t.Suffixes=rowO o q t.Suffixes then pP t o p q else none) (i+1) (t.Prefixes.drop (i+1))) 0 t.Prefixes
theorem slices_Equal_eq (a b:List Int) (hl:a.length≤100000000000000):slices_Equal_Sint_int a b=some (decide (a=b)):=by
 unfold slices_Equal_Sint_int
 by_cases hlen:a.length=b.length
 ·rw [decide_eq_false (by omega),cond_false]
  refine iter_all2 hlen (fun i x y hx hy=>?_) ?_ hl
  ·simp only [slices_Equal_Sint_int.s2]
   rw [dec_lt hx,cond_true,idxn_at hx,idxn_at hy]
   by_cases h:x=y<;>simp [h]
  ·simp only [slices_Equal_Sint_int.s2]
   rw [dec_end]
   rfl
 ·rw [decide_eq_true (by omega),cond_true]
  have:a≠b:=fun h=>hlen (by rw [h])
  simp [this]
theorem scan_inv2 {α R:Type} {g:Nat→α→Option R} {Q:R→Prop}:∀ {l:List α} {j:Nat} {r:R},scan g j l=some r→(∀ i x r,l[i]?=some x→g (j+i) x=some r→Q r)→Q r
 | [],_,_,h,_=>by cases h
 | x::l,j,r,h,hQ=>by
  unfold scan at h
  cases e:g j x with
  | some r' =>
   rw [e] at h
   injection h with h
   subst h
   exact hQ 0 x _ rfl (by simpa using e)
  | none =>
   rw [e] at h
   exact scan_inv2 h fun i y r hy hg=>hQ (i+1) y r (by simpa using hy) (by rw [show j+(i+1)=j+1+i by omega];exact hg)
theorem rowG_some {t:T_api_Table} {o:T_api_Obs} {w:List Int} {r:Row} (h:rowO o w t.Suffixes=some r):rowG t o w=r:=by unfold rowG;rw [h];rfl
end Go.Proofs.YtedabpfahmealaaGreatDoor.Sym

/-
 Every repair adds one word: plain law of TableProgress.
-/
namespace Go.Proofs.YtedabpfahmealaaGreatDoor.Sym
set_option maxRecDepth 100000
theorem compT_zero {t:T_api_Table} {o:T_api_Obs} (h:compT t o=0):validT t=0∧t.Inputs=o.Inputs∧AllRows t o:=by
 unfold compT at h
 split at h
 ·rename_i h1;exact absurd h h1
 ·rename_i h1
  split at h
  ·rename_i h2
   have h1:chkT t o=0:=by simpa using h1
   unfold chkT at h1
   split at h1
   ·rename_i h3;exact absurd h1 h3
   ·rename_i h3
    split at h1
    ·cases h1
    ·rename_i h4
     exact ⟨by simpa using h3,by simpa using h4,need_nil.1 h2⟩
  ·cases h
theorem valid_has {t:T_api_Table} (h:validT t=0):(∀ w∈t.Prefixes,checkI w t.Inputs=0)∧(∀ w∈t.Prefixes,0<w.length→w.take (w.length-1)∈t.Prefixes)∧[]∈t.Prefixes∧∀ w∈t.Suffixes,checkI w t.Inputs=0∧w.length≠0:=by
 obtain ⟨_,_,_,_,_,e1,e2,hne⟩:=valid_asc h
 have key:∀ (i:Nat) w,t.Prefixes[i]?=some w→checkI w t.Inputs=0∧¬ (i=0∧0<w.length)∧(0<w.length→w.take (w.length-1)∈t.Prefixes):=fun i w hw=>by
  have:=scan_none.1 e1 i w hw
  rw [Nat.zero_add] at this
  unfold preG at this
  split at this
  ·cases this
  ·rename_i h1
   split at this
   ·cases this
   ·rename_i h2
    split at this
    ·cases this
    ·rename_i h3
     refine ⟨by simpa using h1,fun h4=>h2 (Or.inl h4),fun h4=>?_⟩
     refine Classical.byContradiction fun h5=>h3 ⟨h4,decide_eq_false h5⟩
 refine ⟨fun w hw=>?_,fun w hw=>?_,?_,(sufG_none e2).2⟩
 ·obtain ⟨i,hi,rfl⟩:=List.mem_iff_getElem.1 hw
  exact (key i _ (get_at hi)).1
 ·obtain ⟨i,hi,rfl⟩:=List.mem_iff_getElem.1 hw
  exact (key i _ (get_at hi)).2.2
 ·have hl:0<t.Prefixes.length:=List.length_pos_iff.2 hne
  have:=(key 0 _ (get_at hl)).2.1
  have he:t.Prefixes[0].length=0:=by
   rcases Nat.eq_zero_or_pos t.Prefixes[0].length with h | h
   ·exact h
   ·exact absurd ⟨rfl,h⟩ this
  have:=List.eq_nil_of_length_eq_zero he
  rw [← this]
  exact List.getElem_mem _
theorem pre_closed {t:T_api_Table} (h:validT t=0):∀ (n:Nat) (p:List Int),p∈t.Prefixes→∀ k,p.length-k=n→k≤p.length→p.take k∈t.Prefixes:=by
 obtain ⟨_,hc,_,_⟩:=valid_has h
 intro n
 induction n with
 | zero=>intro p hp k hk hkl;rw [List.take_of_length_le (by omega)];exact hp
 | succ n ih =>
  intro p hp k hk hkl
  have h1:=hc p hp (by omega)
  have h2:=ih _ h1 k (by rw [List.length_take];omega) (by rw [List.length_take];omega)
  rw [List.take_take,Nat.min_eq_left (by omega)] at h2
  exact h2
theorem rowO_get {o:T_api_Obs} {w:List Int}:∀ {S:List (List Int)} {r:Row},rowO o w S=some r→∀ (i:Nat) e,S[i]?=some e→∃ x,ansO o (w++e)=some x∧r[i]?=some (x.drop w.length)
 | [],_,_,i,e,he=>by simp at he
 | u::S,r,h,i,e,he=>by
  unfold rowO at h
  cases ha:ansO o (w++u) with
  | none=>rw [ha] at h;cases h
  | some x =>
   rw [ha] at h
   obtain ⟨l,h1,rfl⟩:=Option.map_eq_some_iff.1 h
   cases i with
   | zero =>
    simp at he
    subst he
    exact ⟨x,ha,rfl⟩
   | succ i =>
    obtain ⟨y,h2,h3⟩:=rowO_get h1 i e (by simpa using he)
    exact ⟨y,h2,by simpa using h3⟩
end Go.Proofs.YtedabpfahmealaaGreatDoor.Sym

/-
 The hypothesis of a table: the program's is the document's. Plain laws.
-/
namespace Go.Proofs.YtedabpfahmealaaGreatDoor.Sym
set_option maxRecDepth 100000
theorem singles_at {l:List (List Int)} {n:Int} (hA:Asc l) (hc:∀ w∈l,checkI w n=0∧w.length≠0) (h:∀ a∈List.range n.toNat,[(↑a:Int)]∈l):∀ a,a<n.toNat→l[a]?=some [(↑a:Int)]:=by
 intro a
 induction a using Nat.strongRecOn with
 | _ a ih =>
  intro ha
  obtain ⟨j,hj,e⟩:=List.mem_iff_getElem.1 (h a (List.mem_range.2 ha))
  have ej:l[j]?=some [(↑a:Int)]:=by rw [get_at hj,e]
  rcases Nat.lt_trichotomy j a with hlt | heq | hgt
  ·have:=ih j hlt (by omega)
   rw [ej] at this
   injection this with this
   injection this with this
   omega
  ·rw [← heq,ej,heq]
  ·have hx:=get_at (l:=l) (i:=a) (by omega)
   have hcmp:=hA.get hgt hx ej
   have hxm:=List.mem_of_getElem? hx
   obtain ⟨b,hb⟩:=one_of (hc _ hxm).2 (cmp_len hcmp)
   rw [hb] at hcmp hx
   have hlt:=cmp_single.1 hcmp
   have hr:=check_mem (hc _ hxm).1 b (by rw [hb];simp)
   have hbb:=ih b.toNat (by omega) (by omega)
   rw [show ((b.toNat:Nat):Int)=b by omega] at hbb
   have:=hA.get (show b.toNat<a by omega) hbb hx
   rw [cmpW_refl] at this
   cases this
def newAt (rs:List Row) (i:Nat):Bool:=match rs[i]? with | some r=>decide (r∉rs.take i) | none=>false
def fstI (rs:List Row) (k:Nat):List Nat:=(List.range k).filter (newAt rs)
theorem fstI_succ (rs:List Row) (k:Nat):fstI rs (k+1)=fstI rs k++if newAt rs k=true then [k] else []:=by
 unfold fstI
 rw [List.range_succ,List.filter_append]
 simp only [List.filter_cons,List.filter_nil]
theorem addAll_fst (rs:List Row):∀ k,k≤rs.length→addAll [] (rs.take k)=(fstI rs k).map fun i=>(rs[i]?).getD []:=by
 intro k
 induction k with
 | zero=>intro _;rfl
 | succ k ih =>
  intro hk
  have hx:=get_at (l:=rs) (i:=k) (by omega)
  rw [take_step hx,addAll_snoc,ih (by omega),fstI_succ,List.map_append]
  have hiff:newAt rs k=true↔rs[k]∉addAll [] (rs.take k):=by
   unfold newAt
   rw [hx]
   simp only
   rw [decide_eq_true_iff,mem_addAll]
   simp
  rw [ih (by omega)] at hiff
  unfold addR
  by_cases h:newAt rs k=true
  ·rw [if_neg (hiff.1 h),if_pos h]
   simp [hx]
  ·rw [if_pos (Classical.byContradiction fun h2=>h (hiff.2 h2)),if_neg h]
   simp
theorem fstI_len (rs:List Row) (k:Nat):(fstI rs k).length≤k:=by
 unfold fstI
 have:=List.length_filter_le (newAt rs) (List.range k)
 rw [List.length_range] at this
 exact this
theorem mem_fstI {rs:List Row} {k i:Nat}:i∈fstI rs k↔i<k∧newAt rs i=true:=by
 unfold fstI
 rw [List.mem_filter,List.mem_range]
def rowsT (t:T_api_Table) (o:T_api_Obs):List Row:=t.Prefixes.map (rowG t o)
def rowsA (t:T_api_Table) (o:T_api_Obs):List Row:=addAll [] (rowsT t o)
def nextT (t:T_api_Table) (o:T_api_Obs) (p:List Int):List Int:=(List.range t.Inputs.toNat).map fun (a:Nat)=>(↑(pos (rowG t o (p++[(↑a:Int)])) (rowsA t o)):Int)
def outT (t:T_api_Table) (o:T_api_Obs) (p:List Int):List Int:=(List.range t.Inputs.toNat).map fun (a:Nat)=>(((rowG t o p)[a]?).getD []).headD 0
def preAt (t:T_api_Table) (i:Nat):List Int:=(t.Prefixes[i]?).getD []
def hypT (t:T_api_Table) (o:T_api_Obs):T_api_Hyp :=
 ⟨⟨t.Inputs,0,(fstI (rowsT t o) t.Prefixes.length).map fun i=>nextT t o (preAt t i),(fstI (rowsT t o) t.Prefixes.length).map fun i=>outT t o (preAt t i)⟩,(fstI (rowsT t o) t.Prefixes.length).map (preAt t)⟩
abbrev h0:T_api_Hyp:=⟨⟨0,0,[],[]⟩,[]⟩
def hypR (t:T_api_Table) (o:T_api_Obs):T_api_Hyp×Int :=
 if compT t o≠0 then (h0,compT t o) else if (extL t).find? (newRow t o)≠none∨iP t o≠none then (h0,10) else (hypT t o,0)
theorem row_out {t:T_api_Table} {o:T_api_Obs} (hv:ObsOk o) {p:List Int} {r:Row} (hr:rowO o p t.Suffixes=some r) {a:Nat} (hs:t.Suffixes[a]?=some [(↑a:Int)]):∃ y z,r[a]?=some [y]∧ansO o (p++[(↑a:Int)])=some z∧z.drop p.length=[y]:=by
 obtain ⟨z,h1,h2⟩:=rowO_get hr a _ hs
 have hl:=ansO_len hv h1
 rw [List.length_append,List.length_singleton] at hl
 have hd:(z.drop p.length).length=1:=by rw [List.length_drop];omega
 match hq:z.drop p.length,hd with
 | [y],_=>exact ⟨y,z,by rw [h2,hq],h1,hq⟩
end Go.Proofs.YtedabpfahmealaaGreatDoor.Sym

/-
 The reference's hypothesis, and the law of TableHypothesis. Plain laws.
-/
namespace Go.Proofs.YtedabpfahmealaaGreatDoor.Sym
set_option maxRecDepth 100000
theorem rowG_eq {t:T_api_Table} {o:T_api_Obs} {p:List Int} (h:∃ r,rowO o p t.Suffixes=some r):rowO o p t.Suffixes=some (rowG t o p):=by
 obtain ⟨r,hr⟩:=h
 rw [hr,rowG_some hr]
end Go.Proofs.YtedabpfahmealaaGreatDoor.Sym

/-
 The prefixes reach their rows: plain law of TableReaches.
-/
namespace Go.Proofs.YtedabpfahmealaaGreatDoor.Sym
set_option maxRecDepth 100000
structure HypOk (t:T_api_Table) (o:T_api_Obs):Prop where
 ht:TabOk t
 ho:SmO o
 hv:ObsOk o
 hz:compT t o=0
 hf:(extL t).find? (newRow t o)=none
 hi:iP t o=none
section
variable {t:T_api_Table} {o:T_api_Obs}
theorem HypOk.all (H:HypOk t o):AllRows t o:=(compT_zero H.hz).2.2
theorem HypOk.row (H:HypOk t o) {p:List Int} (hp:p∈t.Prefixes):rowO o p t.Suffixes=some (rowG t o p):=rowG_eq (H.all p hp p (by simp [withX]))
theorem HypOk.ext (H:HypOk t o) {p:List Int} (hp:p∈t.Prefixes) {a:Nat} (ha:a<t.Inputs.toNat):rowO o (p++[(↑a:Int)]) t.Suffixes=some (rowG t o (p++[(↑a:Int)])) :=
 rowG_eq (H.all p hp _ (List.mem_cons_of_mem _ (List.mem_map.2 ⟨a,List.mem_range.2 ha,rfl⟩)))
theorem HypOk.closed (H:HypOk t o) {p:List Int} (hp:p∈t.Prefixes) {a:Nat} (ha:a<t.Inputs.toNat):rowG t o (p++[(↑a:Int)])∈rowsA t o:=by
 have h1:=List.find?_eq_none.1 H.hf (p++[(↑a:Int)]) (List.mem_flatMap.2 ⟨p,hp,List.mem_map.2 ⟨a,List.mem_range.2 ha,rfl⟩⟩)
 have h2:newRow t o (p++[(↑a:Int)])=false:=by simpa using h1
 unfold newRow at h2
 obtain ⟨q,hq,h3⟩:=List.mem_map.1 (Classical.not_not.1 (of_decide_eq_false h2))
 rw [H.ext hp ha] at h3
 unfold rowsA
 exact mem_addAll.2 (Or.inr (List.mem_map.2 ⟨q,hq,rowG_some h3⟩))
theorem HypOk.mem (H:HypOk t o) {p:List Int} (hp:p∈t.Prefixes):rowG t o p∈rowsA t o:=by
 unfold rowsA
 exact mem_addAll.2 (Or.inr (List.mem_map.2 ⟨p,hp,rfl⟩))
theorem dP_none {a:Nat} {x y:Row} (hl:x.length=y.length) (h:dP a x y=none):x=y:=by
 have h1:=scan_none.1 h
 apply List.ext_getElem?
 intro e
 rcases Nat.lt_or_ge e x.length with he | he
 ·have hx:=get_at he
  have:=h1 e _ hx
  rw [Nat.zero_add] at this
  split at this
  ·rename_i h2
   rw [hx,h2]
  ·cases this
 ·rw [List.getElem?_eq_none he,List.getElem?_eq_none (by omega)]
theorem HypOk.cons (H:HypOk t o) {p q:List Int} (hp:p∈t.Prefixes) (hq:q∈t.Prefixes) (h:rowG t o p=rowG t o q) {a:Nat} (ha:a<t.Inputs.toNat):rowG t o (p++[(↑a:Int)])=rowG t o (q++[(↑a:Int)]):=by
 have key:∀ (i k:Nat) p q,i<k→t.Prefixes[i]?=some p→t.Prefixes[k]?=some q→rowG t o p=rowG t o q→rowG t o (p++[(↑a:Int)])=rowG t o (q++[(↑a:Int)]):=by
  intro i k p q hik hp hq h
  have hpm:=List.mem_of_getElem? hp
  have hqm:=List.mem_of_getElem? hq
  have h1:=scan_none.1 H.hi i p hp
  rw [Nat.zero_add] at h1
  have hq2:(t.Prefixes.drop (i+1))[k-(i+1)]?=some q:=by
   rw [List.getElem?_drop,show i+1+(k-(i+1))=k by omega]
   exact hq
  have h2:=scan_none.1 h1 _ q hq2
  rw [if_pos (by rw [H.row hpm,H.row hqm,h])] at h2
  have h3:=scan_none.1 h2 a a (List.getElem?_range ha)
  refine dP_none ?_ h3
  rw [(rowO_sml H.hv (H.ext hpm ha)).1,(rowO_sml H.hv (H.ext hqm ha)).1]
 obtain ⟨i,hi,rfl⟩:=List.mem_iff_getElem.1 hp
 obtain ⟨k,hk,rfl⟩:=List.mem_iff_getElem.1 hq
 rcases Nat.lt_trichotomy i k with hlt | heq | hgt
 ·exact key i k _ _ hlt (get_at hi) (get_at hk) h
 ·subst heq;rfl
 ·exact (key k i _ _ hgt (get_at hk) (get_at hi) h.symm).symm
def stt (t:T_api_Table) (o:T_api_Obs) (w:List Int):Nat:=pos (rowG t o w) (rowsA t o)
theorem rowsA_map:rowsA t o=(fstI (rowsT t o) t.Prefixes.length).map fun i=>((rowsT t o)[i]?).getD []:=by
 have:=addAll_fst (rowsT t o) t.Prefixes.length (by simp [rowsT])
 rw [List.take_of_length_le (by simp [rowsT])] at this
 exact this
theorem rep_of {r:Row} (h:r∈rowsA t o):∃ i,(fstI (rowsT t o) t.Prefixes.length)[pos r (rowsA t o)]?=some i∧i<t.Prefixes.length∧preAt t i∈t.Prefixes∧rowG t o (preAt t i)=r:=by
 have h1:=pos_get h
 have h2:=@rowsA_map t o
 rw [h2,List.getElem?_map] at h1
 rw [← h2] at h1
 obtain ⟨i,hi,h3⟩:=Option.map_eq_some_iff.1 h1
 have hm:=mem_fstI.1 (List.mem_of_getElem? hi)
 have hp:=get_at hm.1
 have hpa:preAt t i=t.Prefixes[i]:=by unfold preAt;rw [hp];rfl
 refine ⟨i,hi,hm.1,by rw [hpa];exact List.getElem_mem _,?_⟩
 rw [hpa,← h3]
 unfold rowsT
 rw [List.getElem?_map,hp]
 rfl
theorem HypOk.at (H:HypOk t o) {r:Row} (h:r∈rowsA t o):∃ q∈t.Prefixes,rowG t o q=r∧(hypT t o).M.Next[pos r (rowsA t o)]?=some (nextT t o q)∧(hypT t o).M.Out[pos r (rowsA t o)]?=some (outT t o q)∧(hypT t o).Access[pos r (rowsA t o)]?=some q:=by
 obtain ⟨i,hi,_,h2,h3⟩:=rep_of h
 refine ⟨preAt t i,h2,h3,?_,?_,?_⟩
 ·show ((fstI (rowsT t o) t.Prefixes.length).map fun i=>nextT t o (preAt t i))[_]?=_
  rw [List.getElem?_map,hi]
  rfl
 ·show ((fstI (rowsT t o) t.Prefixes.length).map fun i=>outT t o (preAt t i))[_]?=_
  rw [List.getElem?_map,hi]
  rfl
 ·show ((fstI (rowsT t o) t.Prefixes.length).map (preAt t))[_]?=_
  rw [List.getElem?_map,hi]
  rfl
theorem nextT_at {q:List Int} {a:Nat} (ha:a<t.Inputs.toNat):(nextT t o q)[a]?=some (↑(stt t o (q++[(↑a:Int)])):Int):=by
 unfold nextT stt
 rw [List.getElem?_map,List.getElem?_range ha]
 rfl
theorem outT_at {q:List Int} {a:Nat} (ha:a<t.Inputs.toNat):(outT t o q)[a]?=some ((((rowG t o q)[a]?).getD []).headD 0):=by
 unfold outT
 rw [List.getElem?_map,List.getElem?_range ha]
 rfl
theorem HypOk.sym (H:HypOk t o) {p:List Int} (hp:p∈t.Prefixes) {k:Nat} {x:Int} (hx:p[k]?=some x):0≤x∧x<t.Inputs :=
 check_mem ((valid_has (compT_zero H.hz).1).1 p hp) x (List.mem_of_getElem? hx)
theorem HypOk.nil (H:HypOk t o):t.Prefixes[0]?=some []:=by
 obtain ⟨hval,_,_⟩:=compT_zero H.hz
 obtain ⟨_,_,hA,_,_,_,_,hne⟩:=valid_asc hval
 obtain ⟨_,_,h0,_⟩:=valid_has hval
 have hl:0<t.Prefixes.length:=List.length_pos_iff.2 hne
 obtain ⟨j,hj,e⟩:=List.mem_iff_getElem.1 h0
 rcases Nat.eq_zero_or_pos j with rfl | hj0
 ·rw [get_at hj,e]
 ·have:=cmp_len (hA.get hj0 (get_at hl) (get_at hj))
  rw [e] at this
  have h2:=List.eq_nil_of_length_eq_zero (Nat.le_zero.1 this)
  rw [get_at hl,h2]
theorem HypOk.start (H:HypOk t o):stt t o []=0:=by
 have h0:=H.nil
 unfold stt rowsA
 have hp:rowsT t o=rowG t o []::(rowsT t o).drop 1:=by
  unfold rowsT
  cases hP:t.Prefixes with
  | nil=>rw [hP] at h0;cases h0
  | cons p ps =>
   rw [hP] at h0
   injection h0 with h0
   subst h0
   rfl
 rw [hp]
 show pos (rowG t o []) (addAll (addR [] (rowG t o [])) _)=0
 rw [pos_addAll (mem_addR.2 (Or.inr rfl))]
 simp [addR,pos]
theorem HypOk.outs (H:HypOk t o) {p:List Int} (hp:p∈t.Prefixes):∃ ys,R06_Outs (hypT t o).M 0 p=some (ys,(↑(stt t o p):Int)):=by
 have hpw:=H.ht.pw p hp
 have hval:=(compT_zero H.hz).1
 unfold R06_Outs
 have key:=iter_post (step:=fun (s:Int×List Int×Nat)=>R06_Outs.s2 (hypT t o).M p s.1 s.2.1 s.2.2) (fun s=>s.2.2≤p.length∧s.1=(↑(stt t o (p.take s.2.2)):Int)∧s.2.1.length=s.2.2) (fun s=>p.length-s.2.2) (fun r=>r.1=(↑(stt t o p):Int)) (fun s ⟨g1,g2,g3⟩=>by
  obtain ⟨st,y,k⟩:=s
  simp only at g1 g2 g3
  subst g2
  simp only [R06_Outs.s2]
  by_cases g4:k<p.length
  ·left
   have hx:=get_at g4
   obtain ⟨hx0,hx1⟩:=H.sym hp hx
   have hpre:=pre_closed hval _ p hp k rfl (by omega)
   have hpre1:=pre_closed hval _ p hp (k+1) rfl (by omega)
   have hxa:p[k]=((p[k].toNat:Nat):Int):=by omega
   have han:p[k].toNat<t.Inputs.toNat:=by omega
   obtain ⟨q,hq,q1,q2,q3,_⟩:=H.at (H.mem hpre)
   have q2:(hypT t o).M.Next[stt t o (p.take k)]?=some (nextT t o q):=q2
   have q3:(hypT t o).M.Out[stt t o (p.take k)]?=some (outT t o q):=q3
   have hcons:=H.cons hq hpre q1 han
   have hst:stt t o (q++[((p[k].toNat:Nat):Int)])=stt t o (p.take (k+1)):=by
    unfold stt
    rw [hcons,take_step hx,← hxa]
   refine ⟨((↑(stt t o (p.take (k+1))):Int),y++[(((rowG t o q)[p[k].toNat]?).getD []).headD 0],k+1),?_,⟨g4,rfl,by simp [g3]⟩,by simp only;omega⟩
   rw [dec_lt hx,cond_true,idx_at rfl q3,idxn_at hx,idx_at hxa (outT_at han),chk_pos (by unfold capOk;omega),idx_at rfl q2,idxn_at hx,idx_at hxa (nextT_at han),hst]
  ·right
   have e:k=p.length:=by omega
   subst e
   rw [List.take_length]
   exact ⟨_,by rw [decide_eq_false (by omega),cond_false],rfl⟩) fuel ((0:Int),[],0) ⟨Nat.zero_le _,by simp [H.start],rfl⟩ (by have:=fuel_big;simp only;omega)
 obtain ⟨⟨st,ys⟩,e,hq⟩:=key
 rw [e,obind]
 simp only at hq
 subst hq
 exact ⟨ys,rfl⟩
theorem HypOk.num (H:HypOk t o):(rowsA t o).length=(fstI (rowsT t o) t.Prefixes.length).length∧0<(rowsA t o).length∧(rowsA t o).length≤30:=by
 have h1:=@rowsA_map t o
 have h2:=fstI_len (rowsT t o) t.Prefixes.length
 have h3:=H.ht.p
 have h4:(rowsA t o).length=(fstI (rowsT t o) t.Prefixes.length).length:=by rw [h1,List.length_map]
 have h5:rowG t o []∈rowsA t o:=H.mem (List.mem_of_getElem? H.nil)
 have h6:=List.length_pos_of_mem h5
 omega
theorem HypOk.nlen (H:HypOk t o):(hypT t o).M.Next.length=(rowsA t o).length∧(hypT t o).M.Out.length=(rowsA t o).length∧(hypT t o).Access.length=(rowsA t o).length:=by
 have:=H.num.1
 unfold hypT
 simp only [List.length_map]
 omega
theorem HypOk.state (H:HypOk t o) {s:Nat} (hs:s<(rowsA t o).length):∃ q∈t.Prefixes,stt t o q=s∧(hypT t o).M.Next[s]?=some (nextT t o q)∧(hypT t o).M.Out[s]?=some (outT t o q)∧(hypT t o).Access[s]?=some q:=by
 have hm:=List.getElem_mem hs
 have hpos:pos (rowsA t o)[s] (rowsA t o)=s:=by
  -- the rows are all different
  have hnd:∀ (rs R:List Row),R.Nodup→(addAll R rs).Nodup:=by
   intro rs
   induction rs with
   | nil=>intro R h;exact h
   | cons r rs ih =>
    intro R h
    show (addAll (addR R r) rs).Nodup
    refine ih _ ?_
    unfold addR
    split
    ·exact h
    ·rename_i hn
     rw [List.nodup_append]
     exact ⟨h,by simp,fun x hx y hy=>by
      rw [List.mem_singleton.1 hy]
      exact fun e=>hn (e ▸ hx)⟩
  have hN:(rowsA t o).Nodup:=hnd _ _ List.nodup_nil
  have h1:=pos_get hm
  have h2:=pos_lt hm
  have h3:=get_at h2
  rw [h1] at h3
  injection h3 with h3
  rcases Nat.lt_trichotomy (pos (rowsA t o)[s] (rowsA t o)) s with hlt | heq | hgt
  ·exact absurd h3.symm (List.pairwise_iff_getElem.1 hN _ _ h2 hs hlt)
  ·exact heq
  ·exact absurd h3 (List.pairwise_iff_getElem.1 hN _ _ hs h2 hgt)
 obtain ⟨q,hq,q1,q2,q3,q4⟩:=H.at hm
 rw [hpos] at q2 q3 q4
 exact ⟨q,hq,by unfold stt;rw [q1,hpos],q2,q3,q4⟩
theorem HypOk.out_rng (H:HypOk t o) {q:List Int} (hq:q∈t.Prefixes) {a:Nat} (ha:a<t.Inputs.toNat):0≤((((rowG t o q)[a]?).getD []).headD 0)∧((((rowG t o q)[a]?).getD []).headD 0)≤1048576:=by
 obtain ⟨hval,_,_⟩:=compT_zero H.hz
 obtain ⟨_,_,_,hAs,hsing,_⟩:=valid_asc hval
 obtain ⟨_,_,_,hsc⟩:=valid_has hval
 obtain ⟨y,z,y1,y2,y3⟩:=row_out H.hv (H.row hq) (singles_at hAs hsc hsing a ha)
 rw [y1]
 show 0≤y∧y≤1048576
 have hy:y∈z:=List.mem_of_mem_drop (by rw [y3];simp)
 unfold ansO at y2
 split at y2
 ·injection y2 with y2
  subst y2
  cases hy
 ·obtain ⟨tr,htr,rfl⟩:=Option.map_eq_some_iff.1 y2
  exact (H.hv.prop tr (List.mem_of_find?_eq_some htr)).1.2.2 y (List.mem_of_mem_take hy)
theorem HypOk.row_valid (H:HypOk t o) {s:Nat} (hs:s<(rowsA t o).length):R06_row (hypT t o).M (↑s:Int)=some 0:=by
 have hn:=H.ht.n
 have hn1:1≤t.Inputs:=(valid_asc (compT_zero H.hz).1).1
 obtain ⟨q,hq,_,q2,q3,_⟩:=H.state hs
 have hl1:(nextT t o q).length=t.Inputs.toNat:=by simp [nextT]
 have hl2:(outT t o q).length=t.Inputs.toNat:=by simp [outT]
 have hI:(hypT t o).M.Inputs=t.Inputs:=rfl
 have hnum:=H.num
 unfold R06_row
 rw [hI,idx_at rfl q2,decide_eq_false (by omega),cond_false,idx_at rfl q3,decide_eq_false (by omega),obind,cond_false]
 have key:=iter_eq (step:=fun a=>R06_row.s2 (hypT t o).M (↑s:Int) a) (r:=.inl ()) (fun a=>a≤t.Inputs.toNat) (fun a=>t.Inputs.toNat-a) (fun a g1=>by
  simp only [R06_row.s2]
  rw [hI]
  by_cases g2:a<t.Inputs.toNat
  ·left
   have hlt:stt t o (q++[(↑a:Int)])<(rowsA t o).length:=pos_lt (H.closed hq g2)
   obtain ⟨o1,o2⟩:=H.out_rng hq g2
   refine ⟨a+1,?_,by omega,by omega⟩
   rw [decide_eq_true (by omega),cond_true,idx_at rfl q2,idxn_at (nextT_at g2),decide_eq_false (by omega),cond_false,idx_at rfl q2,idxn_at (nextT_at g2),H.nlen.1,decide_eq_false (by omega),cond_false,idx_at rfl q3,idxn_at (outT_at g2),decide_eq_false (by omega),cond_false,idx_at rfl q3,idxn_at (outT_at g2),decide_eq_false (by omega),obind,cond_false,chk_pos (by unfold inR;omega)]
  ·right
   have e:a=t.Inputs.toNat:=by omega
   subst e
   rw [decide_eq_false (by omega),cond_false]) (n:=fuel) (s:=0) (Nat.zero_le _) (by have:=fuel_big;omega)
 rw [key,obind]
 rfl
theorem HypOk.valid6 (H:HypOk t o):R06_Valid (hypT t o).M=some 0:=by
 have hn:=H.ht.n
 have hn1:1≤t.Inputs:=(valid_asc (compT_zero H.hz).1).1
 have hI:(hypT t o).M.Inputs=t.Inputs:=rfl
 have hS:(hypT t o).M.Start=0:=rfl
 obtain ⟨l1,l2,l3⟩:=H.nlen
 obtain ⟨_,n1,n2⟩:=H.num
 unfold R06_Valid
 rw [hI,hS,l1,l2,decide_eq_false (by omega),cond_false,decide_eq_false (by omega),obind,cond_false,decide_eq_false (by omega),cond_false,decide_eq_false (by omega),cond_false,decide_eq_false (by omega),cond_false,decide_eq_false (by omega),obind,cond_false,decide_eq_false (by omega),cond_false]
 have key:=iter_scan (step:=fun s=>R06_Valid.s2 (hypT t o).M s) (l:=(hypT t o).M.Next) (fun _ _=>(none:Option Int)) (fun i x hx=>by
  have hi:=(List.getElem?_eq_some_iff.1 hx).1
  simp only [R06_Valid.s2]
  rw [dec_lt hx,cond_true,H.row_valid (by omega),obind]
  rfl) (by
  simp only [R06_Valid.s2]
  rw [dec_end]
  rfl) (by omega)
 rw [key,obind,scan_none.2 fun i x _=>rfl]
 rfl
end
end Go.Proofs.YtedabpfahmealaaGreatDoor.Sym

/-
 Machines: validity and runs. Plain laws.
-/
namespace Go.Proofs.YtedabpfahmealaaGreatDoor.Sym
set_option maxRecDepth 100000
structure MacOk (m:T_api_Mealy):Prop where
 i1:1≤m.Inputs
 i2:m.Inputs≤64
 n1:0<m.Next.length
 n2:m.Next.length≤128
 st:0≤m.Start∧m.Start<(↑m.Next.length:Int)
 ol:m.Out.length=m.Next.length
 row:∀ s,s<m.Next.length→∃ x y,m.Next[s]?=some x∧m.Out[s]?=some y∧(↑x.length:Int)=m.Inputs∧(↑y.length:Int)=m.Inputs∧(∀ u∈x,0≤u∧u<(↑m.Next.length:Int))∧∀ v∈y,0≤v∧v≤1048576
def nx (m:T_api_Mealy) (s a:Nat):Nat:=((((m.Next[s]?).getD [])[a]?).getD 0).toNat
def ot (m:T_api_Mealy) (s a:Nat):Int:=(((m.Out[s]?).getD [])[a]?).getD 0
section
variable {m:T_api_Mealy}
theorem MacOk.at (H:MacOk m) {s a:Nat} (hs:s<m.Next.length) (ha:a<m.Inputs.toNat):nx m s a<m.Next.length∧0≤ot m s a∧ot m s a≤1048576∧∃ x y,m.Next[s]?=some x∧m.Out[s]?=some y∧x[a]?=some (↑(nx m s a):Int)∧y[a]?=some (ot m s a):=by
 obtain ⟨x,y,h1,h2,h3,h4,h5,h6⟩:=H.row s hs
 have hx:=get_at (l:=x) (i:=a) (by omega)
 have hy:=get_at (l:=y) (i:=a) (by omega)
 have e1:nx m s a=(x[a]'(by omega)).toNat:=by
  unfold nx
  rw [h1,Option.getD_some,hx,Option.getD_some]
 have e2:ot m s a=y[a]'(by omega):=by
  unfold ot
  rw [h2,Option.getD_some,hy,Option.getD_some]
 have g1:=h5 _ (List.getElem_mem (by omega:a<x.length))
 have g2:=h6 _ (List.getElem_mem (by omega:a<y.length))
 refine ⟨by rw [e1];omega,by rw [e2];exact g2.1,by rw [e2];exact g2.2,x,y,h1,h2,?_,by rw [e2];exact hy⟩
 rw [hx,e1]
 congr 1
 omega
def outs (m:T_api_Mealy):Nat→List Int→List Int
 | _,[]=>[]
 | s,a::w=>ot m s a.toNat::outs m (nx m s a.toNat) w
def dest (m:T_api_Mealy):Nat→List Int→Nat
 | s,[]=>s
 | s,a::w=>dest m (nx m s a.toNat) w
def WOk (n:Int) (w:List Int):Prop:=∀ a∈w,0≤a∧a<n
theorem outs_append:∀ (w v:List Int) (s:Nat),outs m s (w++v)=outs m s w++outs m (dest m s w) v
 | [],_,_=>rfl
 | a::w,v,s=>by
  show ot m s a.toNat::outs m (nx m s a.toNat) (w++v)=_
  rw [outs_append w v]
  rfl
theorem dest_append:∀ (w v:List Int) (s:Nat),dest m s (w++v)=dest m (dest m s w) v
 | [],_,_=>rfl
 | _::w,v,_=>dest_append w v _
theorem WOk.tail {n:Int} {a:Int} {w:List Int} (h:WOk n (a::w)):WOk n w:=fun x hx=>h x (List.mem_cons_of_mem _ hx)
theorem WOk.head {n:Int} {a:Int} {w:List Int} (h:WOk n (a::w)):0≤a∧a<n:=h a (by simp)
theorem WOk.take {n:Int} {w:List Int} (h:WOk n w) (k:Nat):WOk n (w.take k):=fun x hx=>h x (List.mem_of_mem_take hx)
theorem WOk.append {n:Int} {w v:List Int} (h:WOk n w) (g:WOk n v):WOk n (w++v):=fun x hx=>(List.mem_append.1 hx).elim (h x) (g x)
theorem MacOk.dest (H:MacOk m):∀ {w:List Int} {s:Nat},WOk m.Inputs w→s<m.Next.length→dest m s w<m.Next.length
 | [],_,_,hs=>hs
 | a::w,s,hw,hs=>by
  have:=hw.head
  exact H.dest (w:=w) hw.tail (H.at hs (a:=a.toNat) (by omega)).1
def RowRng (n:Nat) (u v:Int):Prop:=(0≤u∧u<(↑n:Int))∧0≤v∧v≤1048576
theorem R06_row_tot (h1:m.Inputs≤64) {s:Nat} (hs:s<m.Next.length) (ho:m.Out.length=m.Next.length):∃ e,R06_row m (↑s:Int)=some e∧(e=0→∃ x y,m.Next[s]?=some x∧m.Out[s]?=some y∧(↑x.length:Int)=m.Inputs∧(↑y.length:Int)=m.Inputs∧(∀ u∈x,0≤u∧u<(↑m.Next.length:Int))∧∀ v∈y,0≤v∧v≤1048576):=by
 obtain ⟨x,hx⟩:∃ x,m.Next[s]?=some x:=⟨_,get_at hs⟩
 obtain ⟨y,hy⟩:∃ y,m.Out[s]?=some y:=⟨_,get_at (l:=m.Out) (i:=s) (by omega)⟩
 unfold R06_row
 rw [idx_at rfl hx]
 by_cases g1:(↑x.length:Int)=m.Inputs
 ·by_cases g2:(↑y.length:Int)=m.Inputs
  ·rw [decide_eq_false (fun h=>h g1),cond_false,idx_at rfl hy,decide_eq_false (fun h=>h g2),obind,cond_false]
   obtain ⟨r,hr,hq⟩:=iter_post (step:=fun a=>R06_row.s2 m (↑s:Int) a) (fun a=>a≤x.length∧∀ b u v,b<a→x[b]?=some u→y[b]?=some v→RowRng m.Next.length u v) (fun a=>x.length-a) (fun r=>r=.inr 2∨(r=.inl ()∧∀ b u v,b<x.length→x[b]?=some u→y[b]?=some v→RowRng m.Next.length u v)) (fun a ⟨q1,q2⟩=>by
    simp only [R06_row.s2]
    by_cases q3:a<x.length
    ·obtain ⟨u,ha⟩:∃ u,x[a]?=some u:=⟨_,get_at q3⟩
     obtain ⟨v,hb⟩:∃ v,y[a]?=some v:=⟨_,get_at (l:=y) (i:=a) (by omega)⟩
     rw [decide_eq_true (by omega),cond_true,idx_at rfl hx,idxn_at ha]
     by_cases z1:u<0
     ·right
      exact ⟨.inr 2,by rw [decide_eq_true z1];rfl,Or.inl rfl⟩
     rw [decide_eq_false z1,cond_false,idx_at rfl hx,idxn_at ha]
     by_cases z2:(↑m.Next.length:Int)≤u
     ·right
      exact ⟨.inr 2,by rw [decide_eq_true z2];rfl,Or.inl rfl⟩
     rw [decide_eq_false z2,cond_false,idx_at rfl hy,idxn_at hb]
     by_cases z3:v<0
     ·right
      exact ⟨.inr 2,by rw [decide_eq_true z3];rfl,Or.inl rfl⟩
     rw [decide_eq_false z3,cond_false,idx_at rfl hy,idxn_at hb]
     by_cases z4:1048576<v
     ·right
      exact ⟨.inr 2,by rw [decide_eq_true z4];rfl,Or.inl rfl⟩
     left
     refine ⟨a+1,by rw [decide_eq_false z4,obind,cond_false,chk_pos (by unfold inR;omega)],⟨q3,fun b u' v' hb' hu hv=>?_⟩,by omega⟩
     rcases Nat.lt_or_ge b a with h | h
     ·exact q2 b u' v' h hu hv
     ·have e:b=a:=by omega
      subst e
      rw [ha] at hu
      rw [hb] at hv
      injection hu with hu
      injection hv with hv
      subst hu
      subst hv
      exact ⟨⟨by omega,by omega⟩,by omega,by omega⟩
    ·right
     have e:a=x.length:=by omega
     subst e
     exact ⟨.inl (),by rw [decide_eq_false (by omega),cond_false],Or.inr ⟨rfl,q2⟩⟩) fuel 0 ⟨Nat.zero_le _,fun b _ _ h=>absurd h (Nat.not_lt_zero _)⟩ (by have:=fuel_big;omega)
   rw [hr,obind]
   rcases hq with rfl | ⟨rfl,hq⟩
   ·exact ⟨2,rfl,fun h=>by cases h⟩
   ·refine ⟨0,rfl,fun _=>⟨x,y,hx,hy,g1,g2,fun u hu=>?_,fun v hv=>?_⟩⟩
    ·obtain ⟨b,hb,rfl⟩:=List.mem_iff_getElem.1 hu
     exact (hq b _ _ hb (get_at hb) (get_at (l:=y) (by omega))).1
    ·obtain ⟨b,hb,rfl⟩:=List.mem_iff_getElem.1 hv
     exact (hq b _ _ (by omega) (get_at (l:=x) (by omega)) (get_at hb)).2
  ·exact ⟨1,by rw [decide_eq_false (fun h=>h g1),cond_false,idx_at rfl hy,decide_eq_true g2];rfl,fun h=>by cases h⟩
 ·exact ⟨1,by rw [decide_eq_true g1];rfl,fun h=>by cases h⟩
theorem R06_Valid_tot (m:T_api_Mealy):∃ e,R06_Valid m=some e∧(e=0→MacOk m):=by
 unfold R06_Valid
 by_cases c1:m.Inputs<1
 ·exact ⟨2,by rw [decide_eq_true c1];rfl,fun h=>by cases h⟩
 rw [decide_eq_false c1,cond_false]
 by_cases c2:64<m.Inputs
 ·exact ⟨2,by rw [decide_eq_true c2];rfl,fun h=>by cases h⟩
 rw [decide_eq_false c2,obind,cond_false]
 by_cases c3:(↑m.Next.length:Int)=0
 ·exact ⟨19,by rw [decide_eq_true c3];rfl,fun h=>by cases h⟩
 rw [decide_eq_false c3,cond_false]
 by_cases c4:128<(↑m.Next.length:Int)
 ·exact ⟨11,by rw [decide_eq_true c4];rfl,fun h=>by cases h⟩
 rw [decide_eq_false c4,cond_false]
 by_cases c5:m.Start<0
 ·exact ⟨2,by rw [decide_eq_true c5];rfl,fun h=>by cases h⟩
 rw [decide_eq_false c5,cond_false]
 by_cases c6:(↑m.Next.length:Int)≤m.Start
 ·exact ⟨2,by rw [decide_eq_true c6];rfl,fun h=>by cases h⟩
 rw [decide_eq_false c6,obind,cond_false]
 by_cases c7:(↑m.Out.length:Int)=(↑m.Next.length:Int)
 ·rw [decide_eq_false (fun h=>h c7),cond_false]
  have ho:m.Out.length=m.Next.length:=by omega
  obtain ⟨r,hr,hq⟩:=iter_post (step:=fun s=>R06_Valid.s2 m s) (fun a=>a≤m.Next.length∧∀ s,s<a→∃ x y,m.Next[s]?=some x∧m.Out[s]?=some y∧(↑x.length:Int)=m.Inputs∧(↑y.length:Int)=m.Inputs∧(∀ u∈x,0≤u∧u<(↑m.Next.length:Int))∧∀ v∈y,0≤v∧v≤1048576) (fun a=>m.Next.length-a) (fun r=>(∃ e,r=.inr e∧e≠0)∨(r=.inl ()∧∀ s,s<m.Next.length→∃ x y,m.Next[s]?=some x∧m.Out[s]?=some y∧(↑x.length:Int)=m.Inputs∧(↑y.length:Int)=m.Inputs∧(∀ u∈x,0≤u∧u<(↑m.Next.length:Int))∧∀ v∈y,0≤v∧v≤1048576)) (fun a ⟨q1,q2⟩=>by
   simp only [R06_Valid.s2]
   by_cases q3:a<m.Next.length
   ·obtain ⟨e,he,hz⟩:=R06_row_tot (m:=m) (by omega) q3 ho
    rw [decide_eq_true (by omega),cond_true,he,obind]
    by_cases z:e=0
    ·left
     refine ⟨a+1,by rw [decide_eq_false (fun h=>h z),cond_false],⟨q3,fun s hs=>?_⟩,by omega⟩
     rcases Nat.lt_or_ge s a with h | h
     ·exact q2 s h
     ·have e2:s=a:=by omega
      subst e2
      exact hz z
    ·right
     exact ⟨.inr e,by rw [decide_eq_true z,cond_true],Or.inl ⟨e,rfl,z⟩⟩
   ·right
    have e:a=m.Next.length:=by omega
    subst e
    exact ⟨.inl (),by rw [decide_eq_false (by omega),cond_false],Or.inr ⟨rfl,q2⟩⟩) fuel 0 ⟨Nat.zero_le _,fun s h=>absurd h (Nat.not_lt_zero _)⟩ (by have:=fuel_big;omega)
  rw [hr,obind]
  rcases hq with ⟨e,rfl,hz⟩ | ⟨rfl,hq⟩
  ·exact ⟨e,rfl,fun h=>absurd h hz⟩
  ·exact ⟨0,rfl,fun _=>⟨by omega,by omega,by omega,by omega,⟨by omega,by omega⟩,ho,hq⟩⟩
 ·exact ⟨1,by rw [decide_eq_true c7];rfl,fun h=>by cases h⟩
theorem macOk_of (h:R06_Valid m=some 0):MacOk m:=by
 obtain ⟨e,he,hz⟩:=R06_Valid_tot m
 rw [h] at he
 injection he with he
 exact hz he.symm
end
end Go.Proofs.YtedabpfahmealaaGreatDoor.Sym

/-
 Machines: equivalence of states, and its classes. Plain laws.
-/
namespace Go.Proofs.YtedabpfahmealaaGreatDoor.Sym
set_option maxRecDepth 100000
def E (m:T_api_Mealy):Nat→Nat→Nat→Prop
 | 0,_,_=>True
 | k+1,s,t=>E m k s t∧∀ a,a<m.Inputs.toNat→ot m s a=ot m t a∧E m k (nx m s a) (nx m t a)
section
variable {m:T_api_Mealy}
theorem E_refl:∀ (k s:Nat),E m k s s
 | 0,_=>trivial
 | k+1,s=>⟨E_refl k s,fun _ _=>⟨rfl,E_refl k _⟩⟩
theorem E_symm:∀ {k s t:Nat},E m k s t→E m k t s
 | 0,_,_,_=>trivial
 | _+1,_,_,h=>⟨E_symm h.1,fun a ha=>⟨(h.2 a ha).1.symm,E_symm (h.2 a ha).2⟩⟩
theorem E_trans:∀ {k s t u:Nat},E m k s t→E m k t u→E m k s u
 | 0,_,_,_,_,_=>trivial
 | _+1,_,_,_,h,g=>⟨E_trans h.1 g.1,fun a ha=>⟨(h.2 a ha).1.trans (g.2 a ha).1,E_trans (h.2 a ha).2 (g.2 a ha).2⟩⟩
theorem E_mono {k j s t:Nat} (hk:k≤j) (h:E m j s t):E m k s t:=by
 induction j with
 | zero =>
  have e:k=0:=by omega
  subst e
  exact h
 | succ j ih =>
  rcases Nat.lt_or_ge k (j+1) with h1 | h1
  ·exact ih (by omega) h.1
  ·have e:k=j+1:=by omega
   subst e
   exact h
theorem E_outs:∀ {w:List Int} {s t:Nat},E m w.length s t→WOk m.Inputs w→outs m s w=outs m t w
 | [],_,_,_,_=>rfl
 | a::w,s,t,h,hw=>by
  have ha:=hw.head
  obtain ⟨h1,h2⟩:=h.2 a.toNat (by omega)
  show ot m s a.toNat::outs m _ w=ot m t a.toNat::outs m _ w
  rw [h1,E_outs (w:=w) h2 hw.tail]
structure ClsOk (m:T_api_Mealy) (k:Nat) (c:List Int):Prop where
 len:c.length=m.Next.length
 rng:∀ s,s<m.Next.length→∃ x:Nat,c[s]?=some (↑x:Int)∧x<m.Next.length
 cls:∀ s t,s<m.Next.length→t<m.Next.length→(c[s]?=c[t]?↔E m k s t)
def Alike (m:T_api_Mealy) (c:List Int) (s t a:Nat):Prop:=c[s]?=c[t]?∧∀ b,b<a→ot m s b=ot m t b∧c[nx m s b]?=c[nx m t b]?
theorem alike_iff (H:MacOk m) {k:Nat} {c:List Int} (C:ClsOk m k c) {s t:Nat} (hs:s<m.Next.length) (ht:t<m.Next.length):Alike m c s t m.Inputs.toNat↔E m (k+1) s t:=by
 constructor
 ·rintro ⟨h1,h2⟩
  exact ⟨(C.cls s t hs ht).1 h1,fun a ha=>⟨(h2 a ha).1,(C.cls _ _ (H.at hs ha).1 (H.at ht ha).1).1 (h2 a ha).2⟩⟩
 ·rintro ⟨h1,h2⟩
  exact ⟨(C.cls s t hs ht).2 h1,fun a ha=>⟨(h2 a ha).1,(C.cls _ _ (H.at hs ha).1 (H.at ht ha).1).2 (h2 a ha).2⟩⟩
theorem finer_same (H:MacOk m) {k:Nat} {c:List Int} (C:ClsOk m k c) {s t:Nat} (hs:s<m.Next.length) (ht:t<m.Next.length) {b0:Bool} (hb:b0=true↔c[s]?=c[t]?) :
  ∃ r:Bool,iter (fun (q:Bool×Nat)=>R08_finer.s89 m c s (↑t:Int) q.1 q.2) fuel (b0,0)=some r∧(r=true↔E m (k+1) s t):=by
 have hI:=H.i2
 obtain ⟨r,hr,hq⟩:=iter_post (step:=fun (q:Bool×Nat)=>R08_finer.s89 m c s (↑t:Int) q.1 q.2) (fun q=>q.2≤m.Inputs.toNat∧(q.1=true↔Alike m c s t q.2)) (fun q=>m.Inputs.toNat-q.2) (fun r=>r=true↔Alike m c s t m.Inputs.toNat) (fun q ⟨g1,g2⟩=>by
  obtain ⟨b,a⟩:=q
  simp only at g1 g2
  simp only [R08_finer.s89]
  by_cases g3:a<m.Inputs.toNat
  ·rw [decide_eq_true (by omega),cond_true,obind]
   cases b with
   | false =>
    right
    rw [cond_false]
    exact ⟨false,rfl,⟨fun h=>(by cases h),fun h=>absurd (g2.2 ⟨h.1,fun b hb=>h.2 b (by omega)⟩) (by simp)⟩⟩
   | true =>
    left
    obtain ⟨s1,_,_,x,y,e1,e2,e3,e4⟩:=H.at hs g3
    obtain ⟨t1,_,_,x',y',f1,f2,f3,f4⟩:=H.at ht g3
    obtain ⟨u,u1,u2⟩:=C.rng _ s1
    obtain ⟨v,v1,v2⟩:=C.rng _ t1
    have g2:=g2.1 rfl
    rw [cond_true,idxn_at e2,idxn_at e4,idx_at rfl f2,idxn_at f4]
    by_cases g4:ot m s a=ot m t a
    ·refine ⟨(decide ((↑u:Int)=(↑v:Int)),a+1),?_,⟨g3,?_⟩,by simp only;omega⟩
     ·rw [decide_eq_true g4,cond_true,idxn_at e1,idxn_at e3,idx_at rfl u1,idx_at rfl f1,idxn_at f3,idx_at rfl v1,chk_pos (by unfold inR;omega)]
     ·simp only [decide_eq_true_eq]
      constructor
      ·intro h
       refine ⟨g2.1,fun b hb=>?_⟩
       rcases Nat.lt_or_ge b a with h1 | h1
       ·exact g2.2 b h1
       ·have e:b=a:=by omega
        subst e
        exact ⟨g4,by rw [u1,v1,h]⟩
      ·intro h
       have h1:=(h.2 a (by omega)).2
       rw [u1,v1] at h1
       injection h1
    ·refine ⟨(false,a+1),?_,⟨g3,?_⟩,by simp only;omega⟩
     ·rw [decide_eq_false g4,cond_false,chk_pos (by unfold inR;omega)]
     ·exact ⟨fun h=>(by cases h),fun h=>absurd (h.2 a (by omega)).1 g4⟩
  ·right
   have e:a=m.Inputs.toNat:=by omega
   subst e
   exact ⟨b,by rw [decide_eq_false (by omega),cond_false,obind,cond_false],g2⟩) fuel (b0,0) ⟨Nat.zero_le _,by rw [hb];exact ⟨fun h=>⟨h,fun b hb=>absurd hb (Nat.not_lt_zero _)⟩,fun h=>h.1⟩⟩ (by have:=fuel_big;simp only;omega)
 exact ⟨r,hr,hq.trans (alike_iff H C hs ht)⟩
theorem finer_found (H:MacOk m) {k:Nat} {c:List Int} (C:ClsOk m k c) {s:Nat} (hs:s<m.Next.length) {y:List Int} (hy:y.length=s) :
  ∃ r:Int,iter (fun (q:Int×Int)=>R08_finer.s90 m c y s q.1 q.2) fuel ((-1:Int),(↑s:Int)-1)=some r∧((r=-1∧∀ t,t<s→¬ E m (k+1) s t)∨∃ t,t<s∧E m (k+1) s t∧y[t]?=some r):=by
 have hn:=H.n2
 obtain ⟨r,hr,hq⟩:=iter_post (step:=fun (q:Int×Int)=>R08_finer.s90 m c y s q.1 q.2) (fun q=>-1≤q.2∧q.2<(↑s:Int)∧((q.1=-1∧∀ t:Nat,q.2<(↑t:Int)→t<s→¬ E m (k+1) s t)∨∃ t,t<s∧E m (k+1) s t∧y[t]?=some q.1)) (fun q=>(q.2+1).toNat) (fun r=>(r=-1∧∀ t,t<s→¬ E m (k+1) s t)∨∃ t,t<s∧E m (k+1) s t∧y[t]?=some r) (fun q ⟨g1,g2,g3⟩=>by
  obtain ⟨f,t⟩:=q
  simp only at g1 g2 g3
  simp only [R08_finer.s90]
  by_cases g4:0≤t
  ·left
   obtain ⟨t,rfl⟩:∃ t':Nat,t=(↑t':Int):=⟨t.toNat,by omega⟩
   have hts:t<s:=by omega
   have ht:t<m.Next.length:=by omega
   obtain ⟨u,u1,u2⟩:=C.rng s hs
   obtain ⟨v,v1,v2⟩:=C.rng t ht
   obtain ⟨b,b1,b2⟩:=finer_same H C hs ht (b0:=decide ((↑u:Int)=(↑v:Int))) (by
    rw [u1,v1,decide_eq_true_eq]
    exact ⟨fun h=>by rw [h],fun h=>by injection h⟩)
   have hyt:=get_at (l:=y) (i:=t) (by omega)
   rw [decide_eq_true g4,cond_true,idxn_at u1,idx_at rfl v1,b1,obind]
   cases b with
   | true =>
    refine ⟨(y[t]'(by omega),(↑t:Int)-1),by rw [cond_true,idx_at rfl hyt,chk_pos (by unfold inR;omega)],⟨by simp only;omega,by simp only;omega,Or.inr ⟨t,hts,b2.1 rfl,hyt⟩⟩,by simp only;omega⟩
   | false =>
    refine ⟨(f,(↑t:Int)-1),by rw [cond_false,chk_pos (by unfold inR;omega)],⟨by simp only;omega,by simp only;omega,?_⟩,by simp only;omega⟩
    rcases g3 with ⟨h1,h2⟩ | h
    ·refine Or.inl ⟨h1,fun t' h3 h4=>?_⟩
     simp only at h3
     by_cases e:t'=t
     ·subst e
      exact fun h=>absurd (b2.2 h) (by simp)
     ·exact h2 t' (by omega) h4
    ·exact Or.inr h
  ·right
   have e:t=-1:=by omega
   subst e
   refine ⟨f,by rw [decide_eq_false (by omega),cond_false],?_⟩
   rcases g3 with ⟨h1,h2⟩ | h
   ·exact Or.inl ⟨h1,fun t' h4=>h2 t' (by omega) h4⟩
   ·exact Or.inr h) fuel ((-1:Int),(↑s:Int)-1) ⟨by simp only;omega,by simp only;omega,Or.inl ⟨rfl,fun t h1 h2=>by simp only at h1;omega⟩⟩ (by have:=fuel_big;simp only;omega)
 exact ⟨r,hr,hq⟩
structure FinOk (m:T_api_Mealy) (k:Nat) (y:List Int) (n s:Nat):Prop where
 ls:s≤m.Next.length
 len:y.length=s
 cnt:n≤s
 rng:∀ i,i<s→∃ x:Nat,y[i]?=some (↑x:Int)∧x<n
 cls:∀ i j,i<s→j<s→(y[i]?=y[j]?↔E m k i j)
theorem R08_finer_eq (H:MacOk m) {k:Nat} {c:List Int} (C:ClsOk m k c):∃ c',R08_finer m c=some c'∧ClsOk m (k+1) c':=by
 have hn:=H.n2
 unfold R08_finer
 obtain ⟨r,hr,n,hq⟩:=iter_post (step:=fun (q:List Int×Nat×Nat)=>R08_finer.s92 m c q.1 q.2.1 q.2.2) (fun q=>FinOk m (k+1) q.1 q.2.1 q.2.2) (fun q=>m.Next.length-q.2.2) (fun r=>∃ n,FinOk m (k+1) r n m.Next.length) (fun q Q=>by
  obtain ⟨y,n,s⟩:=q
  simp only at Q
  have hc:=Q.cnt
  have hl:=Q.len
  have hls:=Q.ls
  simp only [R08_finer.s92]
  rw [C.len]
  by_cases g1:s<m.Next.length
  ·left
   obtain ⟨f,f1,f2⟩:=finer_found H C g1 Q.len
   rw [decide_eq_true (by omega),cond_true,f1,obind]
   rcases f2 with ⟨rfl,f2⟩ | ⟨t,ht,hE,f2⟩
   ·-- a class of its own
    rw [decide_eq_true (by omega),cond_true,chk_pos (by unfold inR;omega),obind]
    refine ⟨(y++[(↑n:Int)],n+1,s+1),by simp only [R08_finer.k91];rw [chk_pos (by unfold capOk;omega)],(show FinOk m (k+1) (y++[(↑n:Int)]) (n+1) (s+1) from ⟨g1,by simp [Q.len],by omega,fun i hi=>?_,fun i j hi hj=>?_⟩),by simp only;omega⟩
    ·rcases Nat.lt_or_ge i s with h | h
     ·obtain ⟨x,x1,x2⟩:=Q.rng i h
      exact ⟨x,by rw [List.getElem?_append_left (by omega),x1],by omega⟩
     ·have e:i=y.length:=by omega
      subst e
      exact ⟨n,by simp,by omega⟩
    ·have old:∀ i,i<s→(y++[(↑n:Int)])[i]?=y[i]?:=fun i hi=>List.getElem?_append_left (by omega)
     have new:(y++[(↑n:Int)])[s]?=some (↑n:Int):=by rw [List.getElem?_append_right (by omega),hl,Nat.sub_self];rfl
     have ne:∀ i,i<s→y[i]?≠some (↑n:Int):=fun i hi h=>by
      obtain ⟨x,x1,x2⟩:=Q.rng i hi
      rw [x1] at h
      injection h with h
      omega
     rcases Nat.lt_or_ge i s with h | h<;>rcases Nat.lt_or_ge j s with h' | h'
     ·rw [old i h,old j h']
      exact Q.cls i j h h'
     ·have e:j=s:=by omega
      subst e
      rw [old i h,new]
      exact ⟨fun h2=>absurd h2 (ne i h),fun h2=>absurd (E_symm h2) (f2 i h)⟩
     ·have e:i=s:=by omega
      subst e
      rw [old j h',new]
      exact ⟨fun h2=>absurd h2.symm (ne j h'),fun h2=>absurd h2 (f2 j h')⟩
     ·have e:i=s:=by omega
      have e':j=s:=by omega
      subst e
      subst e'
      exact ⟨fun _=>E_refl _ _,fun _=>rfl⟩
   ·obtain ⟨x,x1,x2⟩:=Q.rng t ht
    rw [f2] at x1
    injection x1 with x1
    subst x1
    rw [decide_eq_false (by omega),cond_false,obind]
    refine ⟨(y++[(↑x:Int)],n,s+1),by simp only [R08_finer.k91];rw [chk_pos (by unfold capOk;omega)],(show FinOk m (k+1) (y++[(↑x:Int)]) n (s+1) from ⟨g1,by simp [Q.len],by omega,fun i hi=>?_,fun i j hi hj=>?_⟩),by simp only;omega⟩
    ·rcases Nat.lt_or_ge i s with h | h
     ·obtain ⟨z,z1,z2⟩:=Q.rng i h
      exact ⟨z,by rw [List.getElem?_append_left (by omega),z1],z2⟩
     ·have e:i=y.length:=by omega
      subst e
      exact ⟨x,by simp,x2⟩
    ·have old:∀ i,i<s→(y++[(↑x:Int)])[i]?=y[i]?:=fun i hi=>List.getElem?_append_left (by omega)
     have new:(y++[(↑x:Int)])[s]?=y[t]?:=by rw [List.getElem?_append_right (by omega),hl,Nat.sub_self,f2];rfl
     rcases Nat.lt_or_ge i s with h | h<;>rcases Nat.lt_or_ge j s with h' | h'
     ·rw [old i h,old j h']
      exact Q.cls i j h h'
     ·have e:j=s:=by omega
      subst e
      rw [old i h,new,Q.cls i t h ht]
      exact ⟨fun h2=>E_trans h2 (E_symm hE),fun h2=>E_trans h2 hE⟩
     ·have e:i=s:=by omega
      subst e
      rw [old j h',new,Q.cls t j ht h']
      exact ⟨fun h2=>E_trans hE h2,fun h2=>E_trans (E_symm hE) h2⟩
     ·have e:i=s:=by omega
      have e':j=s:=by omega
      subst e
      subst e'
      exact ⟨fun _=>E_refl _ _,fun _=>rfl⟩
  ·right
   have e:s=m.Next.length:=by omega
   subst e
   exact ⟨y,by rw [decide_eq_false (by omega),cond_false],n,Q⟩) fuel ([],0,0) ⟨Nat.zero_le _,rfl,Nat.le_refl _,fun i h=>absurd h (Nat.not_lt_zero _),fun i j h=>absurd h (Nat.not_lt_zero _)⟩ (by have:=fuel_big;simp only;omega)
 refine ⟨r,by rw [hr,obind],hq.len,fun s hs=>?_,fun s t hs ht=>hq.cls s t hs ht⟩
 obtain ⟨x,x1,x2⟩:=hq.rng s hs
 have:=hq.cnt
 exact ⟨x,x1,by omega⟩
theorem R08_Partition_eq (hv:R06_Valid m=some 0) (k:Nat):∃ c,R08_Partition m (↑k:Int)=some (c,0)∧ClsOk m (min k m.Next.length) c:=by
 have H:=macOk_of hv
 have hn:=H.n2
 unfold R08_Partition
 rw [hv,obind,decide_eq_false (by simp),cond_false,chk_pos ⟨by omega,by omega,by unfold capOk;omega⟩]
 obtain ⟨r,hr,hq⟩:=iter_post (step:=fun (q:List Int×Nat)=>R08_Partition.s2 m (↑k:Int) q.1 q.2) (fun q=>q.2≤min k m.Next.length∧ClsOk m q.2 q.1) (fun q=>min k m.Next.length-q.2) (fun r=>ClsOk m (min k m.Next.length) r) (fun q ⟨g1,g2⟩=>by
  obtain ⟨y,i⟩:=q
  simp only at g1 g2
  simp only [R08_Partition.s2]
  by_cases g3:i<min k m.Next.length
  ·left
   obtain ⟨c',e1,e2⟩:=R08_finer_eq H g2
   refine ⟨(c',i+1),?_,⟨g3,e2⟩,by simp only;omega⟩
   rw [decide_eq_true (by omega),cond_true,obind,decide_eq_true (by omega),cond_true,e1,obind,chk_pos (by unfold inR;omega)]
  ·right
   have e:i=min k m.Next.length:=by omega
   refine ⟨y,?_,e ▸ g2⟩
   by_cases h:i<k
   ·rw [decide_eq_true (by omega),cond_true,obind,decide_eq_false (by omega),cond_false]
   ·rw [decide_eq_false (by omega),cond_false,obind,cond_false]) fuel ((List.replicate m.Next.length 0),0) ⟨Nat.zero_le _,⟨by simp,fun s hs=>⟨0,by simp [hs],H.n1⟩,fun s t hs ht=>⟨fun _=>trivial,fun _=>by simp [hs,ht]⟩⟩⟩ (by have:=fuel_big;simp only;omega)
 exact ⟨r,by rw [hr,obind],hq⟩
/-! Words of as many symbols as there are states separate all that can be separated. -/
theorem countP_le_eq {α:Type} {p q:α→Bool}:∀ {l:List α},(∀ x∈l,p x=true→q x=true)→l.countP q≤l.countP p→∀ x∈l,q x=true→p x=true
 | [],_,_,x,hx,_=>by cases hx
 | y::l,h,hc,x,hx,hq=>by
  have h1:l.countP p≤l.countP q:=List.countP_mono_left fun x hx=>h x (List.mem_cons_of_mem _ hx)
  rw [List.countP_cons,List.countP_cons] at hc
  have h2:=h y (List.mem_cons_self ..)
  have h3:l.countP q≤l.countP p∧(q y=true→p y=true):=by
   cases e1:q y<;>cases e2:p y<;>simp [e1,e2] at hc h2 ⊢<;>omega
  rcases List.mem_cons.1 hx with rfl | hx
  ·exact h3.2 hq
  ·exact countP_le_eq (fun x hx=>h x (List.mem_cons_of_mem _ hx)) h3.1 x hx hq
def Rep (m:T_api_Mealy) (k s:Nat):Prop:=∀ t,t<s→¬ E m k s t
open Classical in
noncomputable def nreps (m:T_api_Mealy) (k:Nat):Nat:=(List.range m.Next.length).countP fun s=>decide (Rep m k s)
theorem rep_exists (k:Nat):∀ (s:Nat),∃ r,r≤s∧Rep m k r∧E m k s r:=by
 intro s
 induction s using Nat.strongRecOn with
 | ind s ih =>
  by_cases h:Rep m k s
  ·exact ⟨s,Nat.le_refl _,h,E_refl _ _⟩
  ·have ⟨t,h1⟩:=Classical.not_forall.1 h
   obtain ⟨h2,h3⟩:=Classical.not_imp.1 h1
   have h3:=Classical.not_not.1 h3
   obtain ⟨r,r1,r2,r3⟩:=ih t h2
   exact ⟨r,by omega,r2,E_trans h3 r3⟩
def Stab (m:T_api_Mealy) (k:Nat):Prop:=∀ s t,s<m.Next.length→t<m.Next.length→E m k s t→E m (k+1) s t
theorem rep_succ {k s:Nat} (h:Rep m k s):Rep m (k+1) s:=fun t ht hE=>h t ht hE.1
open Classical in
open Classical in
theorem stab_of {k:Nat} (h:nreps m (k+1)≤nreps m k):Stab m k:=by
 intro s t hs ht hE
 unfold nreps at h
 have key:=countP_le_eq (l:=List.range m.Next.length) (fun s _ h=>decide_eq_true (rep_succ (of_decide_eq_true h))) h
 obtain ⟨r,r1,r2,r3⟩:=rep_exists (m:=m) (k+1) s
 obtain ⟨u,u1,u2,u3⟩:=rep_exists (m:=m) (k+1) t
 have r4:Rep m k r:=of_decide_eq_true (key r (List.mem_range.2 (by omega)) (decide_eq_true r2))
 have u4:Rep m k u:=of_decide_eq_true (key u (List.mem_range.2 (by omega)) (decide_eq_true u2))
 have hru:E m k r u:=E_trans (E_symm r3.1) (E_trans hE u3.1)
 have e:r=u:=by
  rcases Nat.lt_trichotomy r u with h1 | h1 | h1
  ·exact absurd (E_symm hru) (u4 r h1)
  ·exact h1
  ·exact absurd hru (r4 u h1)
 subst e
 exact E_trans r3 (E_symm u3)
theorem stab_succ (H:MacOk m) {k:Nat} (h:Stab m k):Stab m (k+1):=fun s t hs ht hE =>
 ⟨hE,fun a ha=>⟨(hE.2 a ha).1,h _ _ (H.at hs ha).1 (H.at ht ha).1 (hE.2 a ha).2⟩⟩
theorem stab_add (H:MacOk m) {k:Nat} (h:Stab m k):∀ j,Stab m (k+j)
 | 0=>h
 | j+1=>stab_succ H (stab_add H h j)
open Classical in
theorem stab_exists (H:MacOk m):∃ k,k<m.Next.length∧Stab m k:=by
 refine Classical.byContradiction fun hno=>?_
 have hall:∀ k,k≤m.Next.length→k+1≤nreps m k:=by
  intro k
  induction k with
  | zero =>
   intro _
   unfold nreps
   have:0<(List.range m.Next.length).countP fun s=>@decide (Rep m 0 s) (Classical.propDecidable _):=List.countP_pos_iff.2 ⟨0,List.mem_range.2 H.n1,decide_eq_true fun t ht=>absurd ht (Nat.not_lt_zero _)⟩
   exact this
  | succ k ih =>
   intro hk
   have h1:=ih (by omega)
   rcases Nat.lt_or_ge (nreps m k) (nreps m (k+1)) with h2 | h2
   ·omega
   ·exact absurd ⟨k,by omega,stab_of h2⟩ hno
 have h1:=hall _ (Nat.le_refl _)
 have h2:nreps m m.Next.length≤(List.range m.Next.length).length:=List.countP_le_length
 rw [List.length_range] at h2
 omega
theorem E_all (H:MacOk m) {s t:Nat} (hs:s<m.Next.length) (ht:t<m.Next.length) (h:E m m.Next.length s t) (j:Nat):E m j s t:=by
 obtain ⟨k,hk,hS⟩:=stab_exists H
 have key:∀ i,E m (k+i) s t:=by
  intro i
  induction i with
  | zero=>exact E_mono (by omega) h
  | succ i ih=>exact stab_add H hS i s t hs ht ih
 exact E_mono (by omega) (key j)
end
end Go.Proofs.YtedabpfahmealaaGreatDoor.Sym

/-
 Machines: the minimal machine, each class by its first state. Plain laws.
-/
namespace Go.Proofs.YtedabpfahmealaaGreatDoor.Sym
set_option maxRecDepth 100000
theorem nodup_le {α:Type} [DecidableEq α]:∀ {l l':List α},l.Nodup→(∀ x∈l,x∈l')→l.length≤l'.length
 | [],_,_,_=>Nat.zero_le _
 | x::l,l',h,hs=>by
  have h1:=List.nodup_cons.1 h
  have hx:=hs x (by simp)
  have ih:=nodup_le (l:=l) (l':=l'.erase x) h1.2 (fun y hy=>(List.mem_erase_of_ne (fun e=>h1.1 (by rw [← e];exact hy))).2 (hs y (List.mem_cons_of_mem _ hy)))
  rw [List.length_erase_of_mem hx] at ih
  have:=List.length_pos_of_mem hx
  simp only [List.length_cons]
  omega
def natI (l:List Nat):List Int:=l.map fun (x:Nat)=>(↑x:Int)
theorem natI_at {l:List Nat} {i u:Nat} (h:l[i]?=some u):(natI l)[i]?=some (↑u:Int):=by
 unfold natI
 rw [List.getElem?_map,h]
 rfl
theorem natI_push (l:List Nat) (t:Nat):natI l++[(↑t:Int)]=natI (l++[t]):=by simp [natI]
theorem natI_len (l:List Nat):(natI l).length=l.length:=by simp [natI]
def Ext (l l':List Nat):Prop:=∀ j u:Nat,l[j]?=some u→l'[j]?=some u
theorem Ext.rfl' {l:List Nat}:Ext l l:=fun _ _ h=>h
theorem Ext.trans {l l' l'':List Nat} (h:Ext l l') (g:Ext l' l''):Ext l l'':=fun j u e=>g j u (h j u e)
theorem Ext.push (l:List Nat) (t:Nat):Ext l (l++[t]):=fun j u h=>by
 have:=(List.getElem?_eq_some_iff.1 h).1
 rw [List.getElem?_append_left this,h]
structure Num (m:T_api_Mealy) (c:List Int) (ord:List Nat) (num:List Int):Prop where
 rng:∀ u∈ord,u<m.Next.length
 start:ord[0]?=some m.Start.toNat
 len:num.length=m.Next.length
 n1:∀ j u x:Nat,ord[j]?=some u→c[u]?=some (↑x:Int)→num[x]?=some (↑j:Int)
 n2:∀ x:Nat,x<m.Next.length→num[x]?=some (-1:Int)∨∃ j u:Nat,num[x]?=some (↑j:Int)∧ord[j]?=some u∧c[u]?=some (↑x:Int)
 reach:∀ j u:Nat,ord[j]?=some u→j=0∨∃ i v a:Nat,i<j∧ord[i]?=some v∧a<m.Inputs.toNat∧u=nx m v a
section
variable {m:T_api_Mealy} {c num:List Int} {ord:List Nat} {k:Nat}
theorem Num.inj (N:Num m c ord num) (C:ClsOk m k c) {i j u v:Nat} (hi:ord[i]?=some u) (hj:ord[j]?=some v) (h:c[u]?=c[v]?):i=j:=by
 obtain ⟨x,x1,_⟩:=C.rng u (N.rng u (List.mem_of_getElem? hi))
 have h1:=N.n1 i u x hi x1
 have h2:=N.n1 j v x hj (by rw [← h,x1])
 rw [h1] at h2
 injection h2 with h2
 omega
theorem Num.nodup (N:Num m c ord num) (C:ClsOk m k c):ord.Nodup:=by
 refine List.pairwise_iff_getElem.2 fun i j hi hj hij h=>?_
 have:=N.inj C (get_at hi) (get_at hj) (by rw [h])
 omega
theorem Num.le (N:Num m c ord num) (C:ClsOk m k c):ord.length≤m.Next.length:=by
 have:=nodup_le (N.nodup C) (l':=List.range m.Next.length) fun x hx=>List.mem_range.2 (N.rng x hx)
 rwa [List.length_range] at this
theorem Num.push (N:Num m c ord num) {i v a t x:Nat} (hi:ord[i]?=some v) (ha:a<m.Inputs.toNat) (ht:t=nx m v a) (htn:t<m.Next.length) (hx:c[t]?=some (↑x:Int)) (hxn:x<m.Next.length) (hn:num[x]?=some (-1:Int)):Num m c (ord++[t]) (num.set x (↑ord.length:Int)) where
 rng:=fun u hu=>by
  rcases List.mem_append.1 hu with h | h
  ·exact N.rng u h
  ·rw [List.mem_singleton.1 h]
   exact htn
 start:=Ext.push ord t 0 _ N.start
 len:=by rw [List.length_set,N.len]
 n1:=fun j u y hj hc=>by
  rcases Nat.lt_or_ge j ord.length with h | h
  ·rw [List.getElem?_append_left h] at hj
   have h1:=N.n1 j u y hj hc
   have hne:x≠y:=fun e=>by
    subst e
    rw [hn] at h1
    injection h1 with h1
    omega
   rw [List.getElem?_set_ne hne]
   exact h1
  ·have h2:=(List.getElem?_eq_some_iff.1 hj).1
   rw [List.length_append,List.length_singleton] at h2
   have e:j=ord.length:=by omega
   subst e
   rw [List.getElem?_append_right (Nat.le_refl _),Nat.sub_self] at hj
   injection hj with hj
   subst hj
   rw [hx] at hc
   injection hc with hc
   have e:x=y:=by omega
   subst e
   rw [List.getElem?_set_self (by rw [N.len];exact hxn)]
 n2:=fun y hy=>by
  by_cases e:x=y
  ·subst e
   exact Or.inr ⟨ord.length,t,by rw [List.getElem?_set_self (by rw [N.len];exact hxn)],by simp,hx⟩
  ·rw [List.getElem?_set_ne e]
   rcases N.n2 y hy with h | ⟨j,u,h1,h2,h3⟩
   ·exact Or.inl h
   ·exact Or.inr ⟨j,u,h1,Ext.push ord t j u h2,h3⟩
 reach:=fun j u hj=>by
  rcases Nat.lt_or_ge j ord.length with h | h
  ·rw [List.getElem?_append_left h] at hj
   rcases N.reach j u hj with h1 | ⟨i',v',a',h1,h2,h3,h4⟩
   ·exact Or.inl h1
   ·exact Or.inr ⟨i',v',a',h1,Ext.push ord t i' v' h2,h3,h4⟩
  ·have h2:=(List.getElem?_eq_some_iff.1 hj).1
   rw [List.length_append,List.length_singleton] at h2
   have e:j=ord.length:=by omega
   subst e
   rw [List.getElem?_append_right (Nat.le_refl _),Nat.sub_self] at hj
   injection hj with hj
   exact Or.inr ⟨i,v,a,(List.getElem?_eq_some_iff.1 hi).1,Ext.push ord t i v hi,ha,by rw [← hj,ht]⟩
structure RowAt (m:T_api_Mealy) (c:List Int) (ord:List Nat) (v:Nat) (row out:List Int) (a:Nat):Prop where
 l1:row.length=a
 l2:out.length=a
 cell:∀ b,b<a→∃ j u:Nat,row[b]?=some (↑j:Int)∧ord[j]?=some u∧c[u]?=c[nx m v b]?∧out[b]?=some (ot m v b)
theorem RowAt.mono {v:Nat} {row out:List Int} {a:Nat} {ord':List Nat} (h:Ext ord ord') (R:RowAt m c ord v row out a):RowAt m c ord' v row out a :=
 ⟨R.l1,R.l2,fun b hb=>by
  obtain ⟨j,u,h1,h2,h3⟩:=R.cell b hb
  exact ⟨j,u,h1,h j u h2,h3⟩⟩
theorem min_number (H:MacOk m) (C:ClsOk m k c) (N:Num m c ord num) {i v a:Nat} (hi:ord[i]?=some v) (ha:a<m.Inputs.toNat) {e:Int} :
  ∃ (ord':List Nat) (num':List Int) (x j u:Nat),(idx (c,e).1 (↑(nx m v a):Int) fun e1474=>idx num e1474 fun e1475=>cond (decide (e1475<0)) (idx (c,e).1 (↑(nx m v a):Int) fun e1477=>idx num e1477 fun e1478=>chk (capOk (List.length (natI ord)+1) 8) (some ((natI ord++[(↑(nx m v a):Int)]),(List.set num e1477.toNat (↑(List.length (natI ord)):Int))))) (some (natI ord,num)):Option (List Int×List Int))=some (natI ord',num')∧Num m c ord' num'∧Ext ord ord'∧c[nx m v a]?=some (↑x:Int)∧num'[x]?=some (↑j:Int)∧ord'[j]?=some u∧c[u]?=some (↑x:Int):=by
 have hn:=H.n2
 have hv:=N.rng v (List.mem_of_getElem? hi)
 have htn:=(H.at hv ha).1
 obtain ⟨x,x1,x2⟩:=C.rng _ htn
 have hle:=N.le C
 rcases N.n2 x x2 with h | ⟨j,u,h1,h2,h3⟩
 ·refine ⟨ord++[nx m v a],num.set x (↑ord.length:Int),x,ord.length,nx m v a,?_,N.push hi ha rfl htn x1 x2 h,Ext.push _ _,x1,by rw [List.getElem?_set_self (by rw [N.len];exact x2)],by simp,x1⟩
  rw [idx_at rfl x1,idx_at rfl h,decide_eq_true (by omega),cond_true,idx_at rfl x1,idx_at rfl h,natI_len,chk_pos (by unfold capOk;omega),natI_push,Int.toNat_natCast]
 ·exact ⟨ord,num,x,j,u,by rw [idx_at rfl x1,idx_at rfl h1,decide_eq_false (by omega),cond_false],N,Ext.rfl',x1,h1,h2,h3⟩
theorem min_row (H:MacOk m) (C:ClsOk m k c) (N:Num m c ord num) {i v:Nat} (hi:ord[i]?=some v) {e:Int} :
  ∃ (ord':List Nat) (num' row out:List Int),iter (fun (s:List Int×List Int×List Int×List Int×Nat)=>R08_Min.s56 m (c,e) i s.1 s.2.1 s.2.2.1 s.2.2.2.1 s.2.2.2.2) fuel (natI ord,num,[],[],0)=some (natI ord',num',row,out)∧Num m c ord' num'∧Ext ord ord'∧RowAt m c ord' v row out m.Inputs.toNat:=by
 have hI:=H.i2
 have hv:=N.rng v (List.mem_of_getElem? hi)
 obtain ⟨r,hr,ord',num',row,out,rfl,h1,h2,h3⟩:=iter_post (step:=fun (s:List Int×List Int×List Int×List Int×Nat)=>R08_Min.s56 m (c,e) i s.1 s.2.1 s.2.2.1 s.2.2.2.1 s.2.2.2.2) (fun s=>∃ ord':List Nat,s.1=natI ord'∧Num m c ord' s.2.1∧Ext ord ord'∧s.2.2.2.2≤m.Inputs.toNat∧RowAt m c ord' v s.2.2.1 s.2.2.2.1 s.2.2.2.2) (fun s=>m.Inputs.toNat-s.2.2.2.2) (fun r=>∃ (ord':List Nat) (num' row out:List Int),r=(natI ord',num',row,out)∧Num m c ord' num'∧Ext ord ord'∧RowAt m c ord' v row out m.Inputs.toNat) (fun s ⟨ord',q1,q2,q3,q4,q5⟩=>by
  obtain ⟨o,num',row,out,a⟩:=s
  simp only at q1 q2 q4 q5
  subst q1
  simp only [R08_Min.s56]
  by_cases g:a<m.Inputs.toNat
  ·left
   have hi':=q3 i v hi
   obtain ⟨_,_,_,x,y,e1,e2,e3,e4⟩:=H.at hv g
   obtain ⟨ord2,num2,z,j,u,f1,f2,f3,f4,f5,f6,f7⟩:=min_number H C q2 hi' g (e:=e)
   have l1:=q5.l1
   have l2:=q5.l2
   refine ⟨(natI ord2,num2,row++[(↑j:Int)],out++[ot m v a],a+1),?_,⟨ord2,rfl,f2,q3.trans f3,g,(show RowAt m c ord2 v (row++[(↑j:Int)]) (out++[ot m v a]) (a+1) from ⟨by simp [l1],by simp [l2],fun b hb=>?_⟩)⟩,by simp only;omega⟩
   ·rw [decide_eq_true (by omega),cond_true,idxn_at (natI_at hi'),idx_at rfl e1,idxn_at e3,f1,obind]
    simp only [R08_Min.k55]
    rw [idx_at rfl f4,idx_at rfl f5,chk_pos (by unfold capOk;omega),idxn_at (natI_at (f3 i v hi')),idx_at rfl e2,idxn_at e4,chk_pos (by unfold capOk;omega),chk_pos (by unfold inR;omega)]
   ·rcases Nat.lt_or_ge b a with h | h
    ·obtain ⟨j',u',c1,c2,c3,c4⟩:=q5.cell b h
     exact ⟨j',u',by rw [List.getElem?_append_left (by omega),c1],f3 _ _ c2,c3,by rw [List.getElem?_append_left (by omega),c4]⟩
    ·have e':b=a:=by omega
     subst e'
     exact ⟨j,u,by rw [List.getElem?_append_right (by omega),l1,Nat.sub_self];rfl,f6,by rw [f7,f4],by rw [List.getElem?_append_right (by omega),l2,Nat.sub_self];rfl⟩
  ·right
   have e':a=m.Inputs.toNat:=by omega
   subst e'
   exact ⟨_,by rw [decide_eq_false (by omega),cond_false],ord',num',row,out,rfl,q2,q3,q5⟩) fuel (natI ord,num,[],[],0) ⟨ord,rfl,N,Ext.rfl',Nat.zero_le _,rfl,rfl,fun b hb=>absurd hb (Nat.not_lt_zero _)⟩ (by have:=fuel_big;simp only;omega)
 exact ⟨ord',num',row,out,hr,h1,h2,h3⟩
structure MinOk (m M:T_api_Mealy) (c:List Int) (ord:List Nat) (num:List Int):Prop where
 cls:ClsOk m m.Next.length c
 num:Num m c ord num
 inp:M.Inputs=m.Inputs
 start:M.Start=0
 l1:M.Next.length=ord.length
 l2:M.Out.length=ord.length
 row:∀ i v:Nat,ord[i]?=some v→∃ row out,M.Next[i]?=some row∧M.Out[i]?=some out∧RowAt m c ord v row out m.Inputs.toNat
theorem R08_Min_eq (hv:R06_Valid m=some 0):∃ M c ord num,R08_Min m=some (M,0)∧MinOk m M c ord num:=by
 have H:=macOk_of hv
 have hn:=H.n2
 have hst:=H.st
 obtain ⟨c,c1,C⟩:=R08_Partition_eq hv m.Next.length
 rw [Nat.min_self] at C
 have hcl:R08_Classes m=some (c,0):=by
  unfold R08_Classes
  rw [c1,obind]
 unfold R08_Min
 rw [hcl,obind,decide_eq_false (by simp),cond_false,chk_pos ⟨by omega,by omega,by unfold capOk;omega⟩]
 obtain ⟨y,hy,y1,y2⟩:=iter_post (step:=fun (s:List Int×Nat)=>R08_Min.s2 s.1 s.2) (fun s=>s.1.length=m.Next.length∧s.2≤m.Next.length∧∀ x,x<s.2→s.1[x]?=some (-1:Int)) (fun s=>m.Next.length-s.2) (fun r=>r.length=m.Next.length∧∀ x,x<m.Next.length→r[x]?=some (-1:Int)) (fun s ⟨g1,g2,g3⟩=>by
  obtain ⟨y,i⟩:=s
  simp only at g1 g2 g3
  simp only [R08_Min.s2]
  by_cases g:i<y.length
  ·left
   have hx:=get_at g
   refine ⟨(y.set i (-1),i+1),by rw [dec_lt hx,cond_true,idxn_at hx],⟨by simp [g1],by simp only;omega,fun x hx'=>?_⟩,by simp only;omega⟩
   simp only
   by_cases e:i=x
   ·subst e
    rw [List.getElem?_set_self g]
   ·rw [List.getElem?_set_ne e]
    exact g3 x (by simp only at hx';omega)
  ·right
   exact ⟨y,by rw [decide_eq_false (by omega),cond_false],g1,fun x hx=>g3 x (by omega)⟩) fuel ((List.replicate m.Next.length 0),0) ⟨by simp,Nat.zero_le _,fun x h=>absurd h (Nat.not_lt_zero _)⟩ (by have:=fuel_big;simp only;omega)
 have hs:m.Start.toNat<m.Next.length:=by omega
 obtain ⟨x0,x1,x2⟩:=C.rng _ hs
 rw [hy,obind,idx_at (i:=m.Start.toNat) (by omega) x1,idx_at rfl (y2 x0 x2)]
 have N0:Num m c [m.Start.toNat] (y.set x0 0):=⟨fun u hu=>by rw [List.mem_singleton.1 hu];exact hs,rfl,by rw [List.length_set,y1],fun j u x hj hc=>by
  have hj0:=(List.getElem?_eq_some_iff.1 hj).1
  rw [List.length_singleton] at hj0
  have e:j=0:=by omega
  subst e
  injection hj with hj
  subst hj
  rw [x1] at hc
  injection hc with hc
  have e:x0=x:=by omega
  subst e
  rw [List.getElem?_set_self (by omega)]
  rfl,fun x hx=>by
  by_cases e:x0=x
  ·subst e
   exact Or.inr ⟨0,_,by rw [List.getElem?_set_self (by omega)];rfl,rfl,x1⟩
  ·rw [List.getElem?_set_ne e]
   exact Or.inl (y2 x hx),fun j u hj=>by
  have hj0:=(List.getElem?_eq_some_iff.1 hj).1
  rw [List.length_singleton] at hj0
  exact Or.inl (by omega)⟩
 obtain ⟨r,hr,ord,num,q1,q2,q3,q4⟩:=iter_post (step:=fun (s:List Int×List Int×List (List Int)×List (List Int)×Nat)=>R08_Min.s58 m (c,0) s.1 s.2.1 s.2.2.1 s.2.2.2.1 s.2.2.2.2) (fun s=>∃ ord:List Nat,s.1=natI ord∧Num m c ord s.2.1∧s.2.2.2.2≤ord.length∧s.2.2.1.length=s.2.2.2.2∧s.2.2.2.1.length=s.2.2.2.2∧∀ i v:Nat,i<s.2.2.2.2→ord[i]?=some v→∃ row out,s.2.2.1[i]?=some row∧s.2.2.2.1[i]?=some out∧RowAt m c ord v row out m.Inputs.toNat) (fun s=>m.Next.length-s.2.2.2.2) (fun r=>∃ (ord:List Nat) (num:List Int),Num m c ord num∧r.1.length=ord.length∧r.2.length=ord.length∧∀ i v:Nat,ord[i]?=some v→∃ row out,r.1[i]?=some row∧r.2[i]?=some out∧RowAt m c ord v row out m.Inputs.toNat) (fun s ⟨ord,g1,g2,g3,g4,g5,g6⟩=>by
  obtain ⟨o,num,next,os,i⟩:=s
  simp only at g1 g2 g3 g4 g5 g6
  subst g1
  have hle:=g2.le C
  simp only [R08_Min.s58]
  by_cases g:i<ord.length
  ·left
   have hi:=get_at g
   obtain ⟨ord',num',row,out,f1,f2,f3,f4⟩:=min_row H C g2 hi (e:=0)
   have hi':=f3 _ _ hi
   have hl':=(List.getElem?_eq_some_iff.1 hi').1
   refine ⟨(natI ord',num',next++[row],os++[out],i+1),?_,⟨ord',rfl,f2,hl',by simp [g4],by simp [g5],fun i' v' hi2 hv2=>?_⟩,by simp only;omega⟩
   ·rw [natI_len,decide_eq_true (by omega),cond_true,f1,obind]
    simp only [R08_Min.k57]
    rw [chk_pos (by unfold capOk;omega),chk_pos (by unfold capOk;omega)]
   ·simp only at hi2 ⊢
    rcases Nat.lt_or_ge i' i with h | h
    ·obtain ⟨w,hw⟩:∃ w,ord[i']?=some w:=⟨_,get_at (l:=ord) (i:=i') (by omega)⟩
     have hw':=f3 _ _ hw
     rw [hv2] at hw'
     injection hw' with hw'
     subst hw'
     obtain ⟨row',out',z1,z2,z3⟩:=g6 i' v' h hw
     exact ⟨row',out',by rw [List.getElem?_append_left (by omega),z1],by rw [List.getElem?_append_left (by omega),z2],z3.mono f3⟩
    ·have e:i'=i:=by omega
     subst e
     rw [hi'] at hv2
     injection hv2 with hv2
     subst hv2
     exact ⟨row,out,by rw [List.getElem?_append_right (by omega),g4,Nat.sub_self];rfl,by rw [List.getElem?_append_right (by omega),g5,Nat.sub_self];rfl,f4⟩
  ·right
   have e:i=ord.length:=by omega
   subst e
   exact ⟨(next,os),by rw [natI_len,decide_eq_false (by omega),cond_false],ord,num,g2,g4,g5,fun i' v' hv'=>g6 i' v' (List.getElem?_eq_some_iff.1 hv').1 hv'⟩) fuel ([m.Start],(y.set x0 0),[],[],0) ⟨[m.Start.toNat],by simp only [natI,List.map_cons,List.map_nil];rw [Int.toNat_of_nonneg hst.1],N0,Nat.zero_le _,rfl,rfl,fun i v h=>absurd h (Nat.not_lt_zero _)⟩ (by have:=fuel_big;simp only;omega)
 refine ⟨⟨m.Inputs,0,r.1,r.2⟩,c,ord,num,?_,C,q1,rfl,rfl,q2,q3,q4⟩
 rw [Int.toNat_natCast,hr,obind]
 rfl
theorem R08_Minimal_eq (hv:R06_Valid m=some 0):∃ M c ord num,R08_Min m=some (M,0)∧MinOk m M c ord num∧R08_Minimal m=some (decide (ord.length=m.Next.length)):=by
 obtain ⟨M,c,ord,num,h1,h2⟩:=R08_Min_eq hv
 refine ⟨M,c,ord,num,h1,h2,?_⟩
 unfold R08_Minimal
 rw [h1,obind,decide_eq_true rfl,cond_true,obind,h2.l1]
 congr 1
 by_cases h:ord.length=m.Next.length
 ·rw [decide_eq_true h,decide_eq_true (by omega)]
 ·rw [decide_eq_false h,decide_eq_false (by omega)]
theorem R08_Minimal_of (hv:R06_Valid m=some 0) (h1:∀ s,s<m.Next.length→∃ w,WOk m.Inputs w∧dest m m.Start.toNat w=s) (h2:∀ s t,s<m.Next.length→t<m.Next.length→E m m.Next.length s t→s=t):R08_Minimal m=some true:=by
 have H:=macOk_of hv
 obtain ⟨M,c,ord,num,_,K,hk⟩:=R08_Minimal_eq hv
 rw [hk,decide_eq_true]
 have hle:=K.num.le K.cls
 have hst:=H.st
 -- every state that is reached has a number
 have key:∀ (w:List Int) (v i:Nat),ord[i]?=some v→WOk m.Inputs w→dest m v w∈ord:=by
  intro w
  induction w with
  | nil=>intro v i hi _;exact List.mem_of_getElem? hi
  | cons a w ih =>
   intro v i hi hw
   have ha:=hw.head
   obtain ⟨row,out,r1,r2,R⟩:=K.row i v hi
   obtain ⟨j,u,j1,j2,j3,j4⟩:=R.cell a.toNat (by omega)
   have hvn:=K.num.rng v (List.mem_of_getElem? hi)
   have hun:=K.num.rng u (List.mem_of_getElem? j2)
   have hnn:=(H.at hvn (a:=a.toNat) (by omega)).1
   have e:u=nx m v a.toNat:=h2 _ _ hun hnn ((K.cls.cls _ _ hun hnn).1 j3)
   subst e
   exact ih _ j j2 hw.tail
 have hall:∀ s∈List.range m.Next.length,s∈ord:=fun s hs=>by
  obtain ⟨w,w1,w2⟩:=h1 s (List.mem_range.1 hs)
  rw [← w2]
  exact key w _ 0 K.num.start w1
 have:=nodup_le (List.nodup_range (n:=m.Next.length)) hall
 rw [List.length_range] at this
 omega
end
end Go.Proofs.YtedabpfahmealaaGreatDoor.Sym

/-
 The hypothesis explains the table and is minimal: plain law of TableExplains.
-/
namespace Go.Proofs.YtedabpfahmealaaGreatDoor.Sym
set_option maxRecDepth 100000
theorem common_pre:∀ {u a b:List Int},u <+: a→u <+: b→u.length≤common a b
 | [],_,_,_,_=>Nat.zero_le _
 | x::u,a,b,⟨v,hv⟩,⟨w,hw⟩=>by
  subst hv
  subst hw
  have:=common_pre (u:=u) (a:=u++v) (b:=u++w) ⟨v,rfl⟩ ⟨w,rfl⟩
  show u.length+1≤common (x::(u++v)) (x::(u++w))
  simp only [common,if_true]
  omega
theorem take_take_le {α:Type} {l:List α} {i j:Nat} (h:i≤j):(l.take j).take i=l.take i:=by
 rw [List.take_take,Nat.min_eq_left h]
theorem agree_all {o:T_api_Obs} (hv:ObsOk o) {a b:T_api_Trace} (ha:a∈o.Traces) (hb:b∈o.Traces):Agree a b∨Agree b a:=by
 obtain ⟨i,hi,rfl⟩:=List.mem_iff_getElem.1 ha
 obtain ⟨j,hj,rfl⟩:=List.mem_iff_getElem.1 hb
 rcases Nat.lt_trichotomy i j with h | h | h
 ·exact Or.inl (hv.apart i j _ _ h (get_at hi) (get_at hj)).2
 ·subst h
  exact Or.inl rfl
 ·exact Or.inr (hv.apart j i _ _ h (get_at hj) (get_at hi)).2
theorem ansO_pre {o:T_api_Obs} (hv:ObsOk o) {u v r:List Int} (h:ansO o (u++v)=some r):ansO o u=some (r.take u.length):=by
 unfold ansO at h ⊢
 by_cases h0:u=[]
 ·subst h0
  simp
 ·rw [if_neg (by simp [h0])] at h
  rw [if_neg h0]
  obtain ⟨a,ha,rfl⟩:=Option.map_eq_some_iff.1 h
  have hma:=List.mem_of_find?_eq_some ha
  have hpa:u++v <+: a.In:=by simpa using List.find?_some ha
  have hua:u <+: a.In:=(List.prefix_append u v).trans hpa
  cases hb:o.Traces.find? fun t=>decide (u <+: t.In) with
  | none =>
   have:=List.find?_eq_none.1 hb a hma
   simp [hua] at this
  | some b =>
   have hmb:=List.mem_of_find?_eq_some hb
   have hub:u <+: b.In:=by simpa using List.find?_some hb
   show some (b.Out.take u.length)=some ((a.Out.take (u++v).length).take u.length)
   rw [take_take_le (by rw [List.length_append];omega)]
   congr 1
   rcases agree_all hv hma hmb with h1 | h1
   ·have h2:=common_pre hua hub
    unfold Agree at h1
    rw [← take_take_le h2,← h1,take_take_le h2]
   ·have h2:=common_pre hub hua
    unfold Agree at h1
    rw [← take_take_le h2,h1,take_take_le h2]
def tailA (o:T_api_Obs) (w e:List Int):List Int:=((ansO o (w++e)).getD []).drop w.length
theorem tailA_nil {o:T_api_Obs} (hv:ObsOk o) (w:List Int):tailA o w []=[]:=by
 unfold tailA
 rw [List.append_nil]
 cases h:ansO o w with
 | none=>simp
 | some r =>
  rw [Option.getD_some,List.drop_eq_nil_of_le (by rw [ansO_len hv h];exact Nat.le_refl _)]
theorem rowO_at {o:T_api_Obs} {w:List Int} {S:List (List Int)} {r:Row} (h:rowO o w S=some r) {i:Nat} {e:List Int} (he:S[i]?=some e):r[i]?=some (tailA o w e):=by
 obtain ⟨x,x1,x2⟩:=rowO_get h i e he
 rw [x2]
 unfold tailA
 rw [x1]
 rfl
theorem tailA_cons {o:T_api_Obs} (hv:ObsOk o) {w e:List Int} {a y:Int} (h:ansO o (w++a::e)≠none) (hy:tailA o w [a]=[y]):tailA o w (a::e)=y::tailA o (w++[a]) e:=by
 cases hr:ansO o (w++a::e) with
 | none=>exact absurd hr h
 | some r =>
  have hl:=ansO_len hv hr
  have h1:w++a::e=(w++[a])++e:=by simp
  have h2:=hr
  rw [h1] at h2
  have h3:=ansO_pre hv h2
  unfold tailA at hy ⊢
  rw [h3] at hy
  rw [hr,h2]
  simp only [Option.getD_some] at hy ⊢
  rw [List.length_append,List.length_singleton] at hy ⊢
  rw [List.length_append,List.length_cons] at hl
  have h4:r.drop w.length=r[w.length]'(by omega)::r.drop (w.length+1):=List.drop_eq_getElem_cons (by omega)
  rw [h4]
  congr 1
  have h5:(List.drop w.length (List.take (w.length+1) r))[0]?=some (r[w.length]'(by omega)):=by
   rw [List.getElem?_drop,List.getElem?_take_of_lt (by omega),get_at (by omega)]
   rfl
  rw [hy] at h5
  injection h5 with h5
  exact h5.symm
theorem ans_split {o:T_api_Obs} (hv:ObsOk o) {w e r:List Int} (hw:ansO o w=some r) (h:ansO o (w++e)≠none):ansO o (w++e)=some (r++tailA o w e):=by
 cases hr:ansO o (w++e) with
 | none=>exact absurd hr h
 | some z =>
  have h1:=ansO_pre hv hr
  rw [hw] at h1
  injection h1 with h1
  unfold tailA
  rw [hr,h1,Option.getD_some,List.take_append_drop]
section
variable {t:T_api_Table} {o:T_api_Obs}
theorem HypOk.mac (H:HypOk t o):MacOk (hypT t o).M:=macOk_of H.valid6
theorem HypOk.sing (H:HypOk t o) {a:Nat} (ha:a<t.Inputs.toNat):t.Suffixes[a]?=some [(↑a:Int)]:=by
 have hval:=(compT_zero H.hz).1
 obtain ⟨_,_,_,hAs,hsing,_⟩:=valid_asc hval
 obtain ⟨_,_,_,hsc⟩:=valid_has hval
 exact singles_at hAs hsc hsing a ha
theorem HypOk.lt (H:HypOk t o) {p:List Int} (hp:p∈t.Prefixes):stt t o p<(hypT t o).M.Next.length:=by
 rw [H.nlen.1]
 exact pos_lt (H.mem hp)
theorem HypOk.nx_ot (H:HypOk t o) {p:List Int} (hp:p∈t.Prefixes) {a:Nat} (ha:a<t.Inputs.toNat):nx (hypT t o).M (stt t o p) a=stt t o (p++[(↑a:Int)])∧tailA o p [(↑a:Int)]=[ot (hypT t o).M (stt t o p) a]:=by
 obtain ⟨q,hq,q1,q2,q3,_⟩:=H.at (H.mem hp)
 have q2:(hypT t o).M.Next[stt t o p]?=some (nextT t o q):=q2
 have q3:(hypT t o).M.Out[stt t o p]?=some (outT t o q):=q3
 constructor
 ·unfold nx
  rw [q2,Option.getD_some,nextT_at ha,Option.getD_some,Int.toNat_natCast]
  unfold stt
  rw [H.cons hq hp q1 ha]
 ·obtain ⟨y,z,y1,y2,y3⟩:=row_out H.hv (H.row hp) (H.sing ha)
  unfold ot
  rw [q3,Option.getD_some,outT_at ha,Option.getD_some,q1,y1]
  unfold tailA
  rw [y2,Option.getD_some,y3]
  rfl
theorem HypOk.rep (H:HypOk t o) {p:List Int} (hp:p∈t.Prefixes) {a:Nat} (ha:a<t.Inputs.toNat):∃ q∈t.Prefixes,rowG t o q=rowG t o (p++[(↑a:Int)])∧stt t o q=stt t o (p++[(↑a:Int)]):=by
 obtain ⟨q,hq,q1,_⟩:=H.at (H.closed hp ha)
 exact ⟨q,hq,q1,by unfold stt;rw [q1]⟩
theorem HypOk.sufs (H:HypOk t o) {e:List Int} (he:e∈t.Suffixes):WOk t.Inputs e:=check_mem ((valid_has (compT_zero H.hz).1).2.2.2 e he).1
theorem same_tail {p q:List Int} {r:Row} (hp:rowO o p t.Suffixes=some r) (hq:rowO o q t.Suffixes=some r) {e:List Int} (he:e∈t.Suffixes):tailA o p e=tailA o q e:=by
 obtain ⟨i,hi,rfl⟩:=List.mem_iff_getElem.1 he
 have h1:=rowO_at hp (get_at hi)
 rw [rowO_at hq (get_at hi)] at h1
 injection h1 with h1
 exact h1.symm
theorem HypOk.along (H:HypOk t o) (hc:∀ e∈t.Suffixes,e.drop 1∈t.Suffixes∨e.drop 1=[]):∀ (e:List Int),e∈t.Suffixes∨e=[]→∀ p∈t.Prefixes,Sym.outs (hypT t o).M (stt t o p) e=tailA o p e
 | [],_,p,_=>(tailA_nil H.hv p).symm
 | a::e,he,p,hp=>by
  have he:=he.resolve_right (by simp)
  have ha:=(H.sufs he).head
  have han:a.toNat<t.Inputs.toNat:=by omega
  have haa:a=((a.toNat:Nat):Int):=by omega
  obtain ⟨n1,n2⟩:=H.nx_ot hp han
  rw [← haa] at n1 n2
  obtain ⟨q,hq,q1,q2⟩:=H.rep hp han
  rw [← haa] at q1 q2
  have hans:=rowO_ans (H.row hp) _ he
  rw [tailA_cons H.hv hans n2]
  show ot (hypT t o).M (stt t o p) a.toNat::Sym.outs (hypT t o).M (nx (hypT t o).M (stt t o p) a.toNat) e=_
  rw [n1,← q2,H.along hc e (hc _ he) q hq]
  congr 1
  rcases hc _ he with h | h
  ·have hx:=H.ext hp han
   rw [← haa] at hx
   exact same_tail (t:=t) (by rw [H.row hq,q1]) hx h
  ·have h:e=[]:=h
   subst h
   rw [tailA_nil H.hv,tailA_nil H.hv]
theorem HypOk.walk (H:HypOk t o):∀ (k:Nat) (p:List Int),p.length=k→p∈t.Prefixes→ansO o p=some (Sym.outs (hypT t o).M 0 p)∧dest (hypT t o).M 0 p=stt t o p:=by
 intro k
 induction k with
 | zero =>
  intro p hl _
  have e:=List.eq_nil_of_length_eq_zero hl
  subst e
  exact ⟨rfl,H.start.symm⟩
 | succ k ih =>
  intro p hl hp
  have hval:=(compT_zero H.hz).1
  have hpre:=pre_closed hval _ p hp k rfl (by omega)
  have hx:=get_at (l:=p) (i:=k) (by omega)
  obtain ⟨x0,x1⟩:=H.sym hp hx
  have hpe:p=p.take k++[p[k]'(by omega)]:=by
   rw [← take_step hx,← hl,List.take_length]
  have han:(p[k]'(by omega)).toNat<t.Inputs.toNat:=by omega
  have haa:(p[k]'(by omega))=(((p[k]'(by omega)).toNat:Nat):Int):=by omega
  obtain ⟨i1,i2⟩:=ih (p.take k) (by rw [List.length_take];omega) hpre
  obtain ⟨n1,n2⟩:=H.nx_ot hpre han
  rw [← haa,← hpe] at n1
  rw [← haa] at n2
  have hmem:=List.mem_of_getElem? (H.sing han)
  rw [← haa] at hmem
  have hs:=ans_split H.hv i1 (rowO_ans (H.row hpre) _ hmem)
  rw [n2,← hpe] at hs
  constructor
  ·rw [hs]
   conv=>rhs;rw [hpe,outs_append,i2]
   rfl
  ·conv=>lhs;rw [hpe,dest_append,i2]
   show nx (hypT t o).M (stt t o (p.take k)) _=_
   rw [n1]
theorem HypOk.word (H:HypOk t o) {w:List Int} (hw:w∈t.Prefixes∨w∈extL t):WOk t.Inputs w∧w.length≤31∧ansO o w=some (Sym.outs (hypT t o).M 0 w)∧∃ q∈t.Prefixes,dest (hypT t o).M 0 w=stt t o q∧∃ r,rowO o w t.Suffixes=some r∧rowO o q t.Suffixes=some r:=by
 rcases hw with hp | hx
 ·obtain ⟨w1,w2⟩:=H.walk _ w rfl hp
  have:=H.ht.pw w hp
  exact ⟨check_mem ((valid_has (compT_zero H.hz).1).1 w hp),by omega,w1,w,hp,w2,_,H.row hp,H.row hp⟩
 ·obtain ⟨p,hp,h2⟩:=List.mem_flatMap.1 hx
  obtain ⟨a,ha,rfl⟩:=List.mem_map.1 h2
  have ha:=List.mem_range.1 ha
  obtain ⟨w1,w2⟩:=H.walk _ p rfl hp
  obtain ⟨n1,n2⟩:=H.nx_ot hp ha
  obtain ⟨q,hq,q1,q2⟩:=H.rep hp ha
  have hl:=H.ht.pw p hp
  have hc:WOk t.Inputs p:=check_mem ((valid_has (compT_zero H.hz).1).1 p hp)
  have hs:=ans_split H.hv w1 (rowO_ans (H.row hp) _ (List.mem_of_getElem? (H.sing ha)))
  refine ⟨hc.append fun x hx=>by rw [List.mem_singleton.1 hx];omega,by rw [List.length_append,List.length_singleton];omega,?_,q,hq,?_,_,H.ext hp ha,by rw [H.row hq,q1]⟩
  ·rw [hs,n2,outs_append,w2]
   rfl
  ·rw [dest_append,w2,q2,← n1]
   rfl
theorem HypOk.cell (H:HypOk t o) (hc:∀ e∈t.Suffixes,e.drop 1∈t.Suffixes∨e.drop 1=[]) {w e:List Int} (hw:w∈t.Prefixes∨w∈extL t) (he:e∈t.Suffixes):ansO o (w++e)=some (Sym.outs (hypT t o).M 0 (w++e)):=by
 obtain ⟨_,_,w1,q,hq,w2,r,r1,r2⟩:=H.word hw
 rw [ans_split H.hv w1 (rowO_ans r1 _ he),outs_append,w2,H.along hc e (Or.inl he) q hq,same_tail (t:=t) r1 r2 he]
theorem HypOk.minimal (H:HypOk t o) (hc:∀ e∈t.Suffixes,e.drop 1∈t.Suffixes∨e.drop 1=[]):R08_Minimal (hypT t o).M=some true:=by
 have hI:(hypT t o).M.Inputs=t.Inputs:=rfl
 refine R08_Minimal_of H.valid6 (fun s hs=>?_) fun s u hs hu hE=>?_
 ·rw [H.nlen.1] at hs
  obtain ⟨q,hq,q1,_⟩:=H.state hs
  exact ⟨q,check_mem ((valid_has (compT_zero H.hz).1).1 q hq),by
   show dest (hypT t o).M 0 q=s
   rw [(H.walk _ q rfl hq).2,q1]⟩
 ·rw [H.nlen.1] at hs hu
  obtain ⟨p,hp,p1,_⟩:=H.state hs
  obtain ⟨q,hq,q1,_⟩:=H.state hu
  subst p1
  subst q1
  have hrow:rowG t o p=rowG t o q:=by
   have l1:=(rowO_sml H.hv (H.row hp)).1
   have l2:=(rowO_sml H.hv (H.row hq)).1
   apply List.ext_getElem?
   intro i
   rcases Nat.lt_or_ge i t.Suffixes.length with hi | hi
   ·have hg:=get_at hi
    have he:=List.getElem_mem hi
    rw [rowO_at (H.row hp) hg,rowO_at (H.row hq) hg,← H.along hc _ (Or.inl he) p hp,← H.along hc _ (Or.inl he) q hq]
    rw [E_outs (E_all H.mac (H.lt hp) (H.lt hq) hE _) (H.sufs he)]
   ·rw [List.getElem?_eq_none (by omega),List.getElem?_eq_none (by omega)]
  unfold stt
  rw [hrow]
theorem two_flatW (a b:List Int):[a,b].flatten=a++b:=by simp
end
end Go.Proofs.YtedabpfahmealaaGreatDoor.Sym

/-
 The examples of the chapter on learning with a table, reckoned.
-/
namespace Go.Proofs.YtedabpfahmealaaGreatDoor.Sym
set_option maxRecDepth 100000
end Go.Proofs.YtedabpfahmealaaGreatDoor.Sym

/-
 Learning with a table: steps and refinements are the document's. Plain laws of LstarSteps, LstarRefines and LstarGrows.
-/
namespace Go.Proofs.YtedabpfahmealaaGreatDoor.Sym
set_option maxRecDepth 100000
section
variable {t:T_api_Table} {o:T_api_Obs}
theorem pos_len {l:List (List Int)} (h:l≠[]):(0:Int)<(↑l.length:Int):=by
 have:=List.length_pos_iff.2 h
 omega
structure Kept (t u:T_api_Table):Prop where
 p:∀ x∈t.Prefixes,x∈u.Prefixes
 s:∀ x∈t.Suffixes,x∈u.Suffixes
 i:t.Inputs=u.Inputs
theorem Kept.self:Kept t t:=⟨fun _ h=>h,fun _ h=>h,rfl⟩
structure StepSm (r:T_api_Table×List (List Int)×Bool×Int):Prop where
 p:SmL r.1.Prefixes
 s:SmL r.1.Suffixes
 w:SmL r.2.1
structure StepOk (t:T_api_Table) (o:T_api_Obs) (r:T_api_Table×List (List Int)×Bool×Int):Prop where
 p:SmL r.1.Prefixes
 s:SmL r.1.Suffixes
 w:SmL r.2.1
 k:Kept t r.1
 n:t.Prefixes.length+t.Suffixes.length≤r.1.Prefixes.length+r.1.Suffixes.length
 d:r.2.2.1=true→r.2.2.2=0∧(hypR t o).2=0
end
end Go.Proofs.YtedabpfahmealaaGreatDoor.Sym

/-
 Lazy learning: states, steps and hypotheses are the document's. Plain laws.
-/
namespace Go.Proofs.YtedabpfahmealaaGreatDoor.Sym
set_option maxRecDepth 100000
theorem cap_small {n:Nat} (h:n≤3000000):capOk n 24:=by unfold capOk;omega
theorem wsearch_eq {l:List (List Int)} {w:List Int} (hs:Asc l) (hl:SmL l):slices_BinarySearchFunc_SSint_Sint_Sint l w (fun u0 u1=>word_Compare u0 u1)=some ((↑(placeL l w):Int),decide (w∈l)):=by
 have hc:∀ x∈l,word_Compare x w=some (cmpW x w):=fun x hx=>word_Compare_eq _ _ (by have:=hl.2 x hx;unfold SmW at this;omega)
 have hl1:=hl.1
 have key:=iter_post (step:=fun (s:Int×Int)=>slices_BinarySearchFunc_SSint_Sint_Sint.s2 l w (fun u0 u1=>word_Compare u0 u1) s.1 s.2)
  (fun s=>∃ i j:Nat,s.1=(i:Int)∧s.2=(j:Int)∧i≤j∧j≤l.length∧(∀ k t,k<i→l[k]?=some t→cmpW t w=-1)∧∀ k t,j≤k→l[k]?=some t→cmpW t w≠-1) (fun s=>(s.2-s.1).toNat)
  (fun r=>∃ k:Nat,r=(k:Int)∧k≤l.length∧(∀ j t,j<k→l[j]?=some t→cmpW t w=-1)∧∀ t,l[k]?=some t→cmpW t w≠-1) (fun s ⟨i,j,g1,g2,g3,g4,g5,g6⟩=>by
   obtain ⟨si,sj⟩:=s
   simp only at g1 g2
   subst g1 g2
   simp only [slices_BinarySearchFunc_SSint_Sint_Sint.s2]
   by_cases g7:i<j
   ·left
    have hmid:((↑i:Int)+↑j) / 2^1=((i+j) / 2:Nat):=by omega
    have hx:=get_at (l:=l) (i:=(i+j) / 2) (by omega)
    rw [decide_eq_true (by omega),cond_true,chk_pos (by unfold inR;omega),chk_pos (by omega),chk_pos (by omega),chk_pos (by unfold inR;omega),idx_at hmid hx,hc _ (List.getElem_mem _),obind]
    have r:=cmpW_range (l[(i+j) / 2]'(by omega)) w
    by_cases g8:cmpW (l[(i+j) / 2]'(by omega)) w<0
    ·refine ⟨(((i+j) / 2+1:Nat),(j:Int)),?_,⟨(i+j) / 2+1,j,rfl,rfl,by omega,g4,fun k t hk ht=>?_,g6⟩,by simp only;omega⟩
     ·rw [decide_eq_true g8,cond_true,chk_pos (by unfold inR;omega),hmid]
      simp
     ·rcases Nat.lt_or_ge k ((i+j) / 2) with h | h
      ·exact cmpW_trans _ _ _ (hs.get h ht hx) (by omega)
      ·have e:k=(i+j) / 2:=by omega
       subst e
       rw [hx] at ht
       injection ht with ht
       subst ht
       omega
    ·refine ⟨((i:Int),(((i+j) / 2:Nat):Int)),?_,⟨i,(i+j) / 2,rfl,rfl,by omega,by omega,g5,fun k t hk ht=>?_⟩,by simp only;omega⟩
     ·rw [decide_eq_false g8,cond_false,hmid]
     ·intro h9
      rcases Nat.lt_or_ge ((i+j) / 2) k with h | h
      ·have:=cmpW_trans _ _ _ (hs.get h hx ht) h9
       omega
      ·have e:k=(i+j) / 2:=by omega
       subst e
       rw [hx] at ht
       injection ht with ht
       subst ht
       omega
   ·right
    have e:i=j:=by omega
    subst e
    refine ⟨(i:Int),by rw [decide_eq_false (by omega),cond_false],i,rfl,g4,g5,fun t ht=>g6 i t (Nat.le_refl _) ht⟩) fuel (0,(↑(List.length l):Int)) ⟨0,l.length,rfl,rfl,Nat.zero_le _,Nat.le_refl _,fun k t h=>by omega,fun k t h ht=>by
    have:=(List.getElem?_eq_some_iff.1 ht).1
    omega⟩ (by have:=fuel_big;simp only;omega)
 obtain ⟨r,e,k,hk,h1,h2,h3⟩:=key
 subst hk
 have hpl:=placeL_of h1 (fun i x hi hx=>h2 i x hi hx) h3
 have hmem:=hs.mem_place w
 rw [hpl] at hmem ⊢
 unfold slices_BinarySearchFunc_SSint_Sint_Sint
 rw [e,obind]
 by_cases h4:k<l.length
 ·have hx:=get_at h4
  rw [decide_eq_true (by omega),cond_true,idx_at rfl hx,show (fun (u0:List Int) (u1:List Int)=>word_Compare u0 u1) l[k] w=some (cmpW l[k] w) from hc _ (List.getElem_mem _),obind,obind]
  rw [hx] at hmem
  by_cases h5:w∈l
  ·have:=hmem.1 h5
   injection this with this
   rw [decide_eq_true h5,this,decide_eq_true (cmpW_refl w)]
  ·rw [decide_eq_false h5,decide_eq_false fun h6=>h5 (hmem.2 (by rw [(cmpW_zero _ _).1 h6]))]
 ·have h5:¬ w∈l:=fun h=>by
   have:=hmem.1 h
   exact h4 (List.getElem?_eq_some_iff.1 this).1
  rw [decide_eq_false (by omega),cond_false,obind,decide_eq_false h5]
theorem lazy_with_eq {l:List (List Int)} {w:List Int} (hs:Asc l) (hl:SmL l) (hw:SmW w):lazy_with l w=some (insW l w):=by
 have hl1:=hl.1
 have hp:=placeL_le l w
 unfold lazy_with
 rw [wsearch_eq hs hl,obind]
 unfold insW
 by_cases h:w∈l
 ·rw [if_pos h,decide_eq_true h,cond_true]
 ·rw [if_neg h,decide_eq_false h,cond_false,chk_pos (by omega),libclone_word hw,obind]
  simp only [Int.toNat_natCast]
  rw [chk_pos (cap_small (by rw [List.length_take];omega)),chk_pos (by omega),chk_pos (cap_small (by simp only [List.length_append,List.length_take,List.length_drop,List.length_cons,List.length_nil];omega)),List.append_assoc]
  rfl
theorem wordset_Has_eq (l:List (List Int)) (w:List Int) (hl:SmL l):wordset_Has l w=some (decide (w∈l)):=by
 unfold wordset_Has slices_ContainsFunc_SSint_Sint_n1 slices_IndexFunc_SSint_Sint_n1
 have key:=iter_scan (step:=fun s=>slices_IndexFunc_SSint_Sint_n1.s2 l (fun u0=>wordset_Has_1 u0 w) s) (l:=l) (fun i x=>if x=w then some (i:Int) else none) (fun i x hx=>by
  simp only [slices_IndexFunc_SSint_Sint_n1.s2,wordset_Has_1]
  rw [dec_lt hx,cond_true,idxn_at hx,slices_Equal_eq _ _ (by have:=hl.2 x (List.mem_of_getElem? hx);unfold SmW at this;omega),obind,obind]
  by_cases h:x=w
  ·rw [decide_eq_true h,cond_true,if_pos h]
  ·rw [decide_eq_false h,cond_false,if_neg h]) (by
  simp only [slices_IndexFunc_SSint_Sint_n1.s2]
  rw [dec_end]
  rfl) (by have:=hl.1;omega)
 rw [key]
 cases e:scan (fun i x=>if x=w then some (i:Int) else none) 0 l with
 | none =>
  have h3:=scan_none.1 e
  have h:w∉l:=fun hm=>by
   obtain ⟨i,hi⟩:=List.mem_iff_getElem?.1 hm
   have:=h3 i w hi
   simp at this
  rw [decide_eq_false h]
  rfl
 | some r =>
  have h:w∈l∧0≤r:=scan_inv2 (Q:=fun r=>w∈l∧0≤r) e fun i x r hx hr=>by
   split at hr
   ·rename_i he
    injection hr with hr
    subst he
    exact ⟨List.mem_of_getElem? hx,by omega⟩
   ·cases hr
  rw [decide_eq_true h.1]
  simp only [obind,Sum.elim_inr]
  rw [decide_eq_true h.2]
def lazT (l:T_api_Lazy):T_api_Table:=⟨l.Inputs,l.Short,l.Suffixes⟩
def sufB (S:List (List Int)):Bool:=S.all fun e=>decide (e.length≤1)||decide (e.drop 1∈S)
def validL (l:T_api_Lazy):Int:=if validT (lazT l)≠0 then validT (lazT l) else if sufB l.Suffixes=true then 0 else 1
def chkL (l:T_api_Lazy) (o:T_api_Obs):Int:=if validL l≠0 then validL l else if l.Inputs≠o.Inputs then 15 else 0
theorem suf_step {S:List (List Int)} {R:Type} {f:Bool} (e:List Int) (k:Bool→Option R):((cond (decide (1<(↑(List.length e):Int))) (chk ((0:Int)≤1∧1≤(↑(List.length e):Int)) ((some (decide (e.drop 1∈S))).bind fun c=>some (!c))) (some false):Option Bool)).bind k=k (!(decide (e.length≤1)||decide (e.drop 1∈S))):=by
 by_cases h:1<e.length
 ·rw [decide_eq_true (by omega),cond_true,chk_pos (by omega),obind,obind,show decide (e.length≤1)=false from decide_eq_false (by omega),Bool.false_or]
 ·rw [show decide (1<(↑(List.length e):Int))=false from decide_eq_false (by omega),cond_false,obind,show decide (e.length≤1)=true from decide_eq_true (by omega)]
  rfl
theorem lazy_valid_eq {l:T_api_Lazy} (ht:SmT (lazT l)):lazy_valid l=some (validL l):=by
 have hs:SmL l.Suffixes:=ht.2.2.1
 have hs1:=hs.1
 unfold lazy_valid lazy_cells validL
 rw [obind,show (⟨l.Inputs,l.Short,l.Suffixes⟩:T_api_Table)=lazT l from rfl,table_Valid_eq _ ht,obind]
 by_cases h:validT (lazT l)=0
 ·rw [decide_eq_false (by simpa using h),cond_false,if_neg (by simpa using h)]
  have key:=iter_scan (step:=fun s=>lazy_valid.s2 l s) (l:=l.Suffixes) (fun _ e=>if (decide (e.length≤1)||decide (e.drop 1∈l.Suffixes))=true then none else some (1:Int)) (fun i x hx=>by
   simp only [lazy_valid.s2]
   rw [dec_lt hx,cond_true,idxn_at hx,wordset_Has_eq _ _ hs,suf_step (f:=true)]
   cases (decide (x.length≤1)||decide (x.drop 1∈l.Suffixes))<;>rfl) (by
   simp only [lazy_valid.s2]
   rw [dec_end]
   rfl) (by omega)
  rw [key,scan_all (p:=fun (e:List Int)=>decide (e.length≤1)||decide (e.drop 1∈l.Suffixes))]
  unfold sufB
  cases (l.Suffixes.all fun e=>decide (e.length≤1)||decide (e.drop 1∈l.Suffixes))<;>rfl
 ·rw [decide_eq_true h,cond_true,if_pos h]
theorem R28_Valid_eq {l:T_api_Lazy} (ht:SmT (lazT l)):R28_Valid l=some (validL l):=by
 have hs:SmL l.Suffixes:=ht.2.2.1
 have hs1:=hs.1
 unfold R28_Valid R28_Table validL
 rw [obind,show (⟨l.Inputs,l.Short,l.Suffixes⟩:T_api_Table)=lazT l from rfl,R23_Valid_eq _ ht,obind]
 by_cases h:validT (lazT l)=0
 ·rw [decide_eq_false (by simpa using h),cond_false,if_neg (by simpa using h)]
  have key:=iter_scan (step:=fun s=>R28_Valid.s2 l s) (l:=l.Suffixes) (fun _ e=>if (decide (e.length≤1)||decide (e.drop 1∈l.Suffixes))=true then none else some (1:Int)) (fun i x hx=>by
   simp only [R28_Valid.s2]
   rw [dec_lt hx,cond_true,idxn_at hx,R02_Has_eq _ _ hs,suf_step (f:=true)]
   cases (decide (x.length≤1)||decide (x.drop 1∈l.Suffixes))<;>rfl) (by
   simp only [R28_Valid.s2]
   rw [dec_end]
   rfl) (by omega)
  rw [key,scan_all (p:=fun (e:List Int)=>decide (e.length≤1)||decide (e.drop 1∈l.Suffixes))]
  unfold sufB
  cases (l.Suffixes.all fun e=>decide (e.length≤1)||decide (e.drop 1∈l.Suffixes))<;>rfl
 ·rw [decide_eq_true h,cond_true,if_pos h]
theorem lazy_check_eq {l:T_api_Lazy} {o:T_api_Obs} (ht:SmT (lazT l)):lazy_check l o=some (chkL l o):=by
 unfold lazy_check chkL
 rw [lazy_valid_eq ht,obind]
 by_cases h:validL l=0
 ·rw [decide_eq_false (by simpa using h),cond_false,if_neg (by simpa using h)]
  by_cases h2:l.Inputs=o.Inputs
  ·rw [decide_eq_false (by simpa using h2),if_neg (by simpa using h2)];rfl
  ·rw [decide_eq_true h2,if_pos h2];rfl
 ·rw [decide_eq_true h,cond_true,if_pos h]
theorem R28_checked_eq {l:T_api_Lazy} {o:T_api_Obs} (ht:SmT (lazT l)):R28_checked l o=some (chkL l o):=by
 unfold R28_checked chkL
 rw [R28_Valid_eq ht,obind]
 by_cases h:validL l=0
 ·rw [decide_eq_false (by simpa using h),cond_false,if_neg (by simpa using h)]
  by_cases h2:l.Inputs=o.Inputs
  ·rw [decide_eq_false (by simpa using h2),if_neg (by simpa using h2)];rfl
  ·rw [decide_eq_true h2,if_pos h2];rfl
 ·rw [decide_eq_true h,cond_true,if_pos h]
theorem lazy_copied_eq {l:List (List Int)} (hl:SmL l):lazy_copied l=some l:=by
 have hl1:l.length≤2000000:=hl.1
 unfold lazy_copied
 rw [iter_eq (r:=l) (fun s=>s.2≤l.length∧s.1=l.take s.2) (fun s=>l.length-s.2) (fun s ⟨h1,h2⟩=>by
  simp only [lazy_copied.s2]
  by_cases h3:s.2<l.length
  ·left
   have hx:=get_at h3
   refine ⟨(l.take (s.2+1),s.2+1),?_,⟨by omega,rfl⟩,by simp only;omega⟩
   rw [dec_lt hx,cond_true,idxn_at hx,libclone_word (hl.2 _ (List.getElem_mem _))]
   simp only [obind]
   rw [chk_pos (by rw [h2,List.length_take];unfold capOk;omega),take_step hx,h2]
  ·right
   have e:s.2=l.length:=by omega
   rw [decide_eq_false (by omega),cond_false,h2,e,List.take_length]) (s:=([],0)) ⟨Nat.zero_le _,by simp⟩ (by have:=fuel_big;simp only;omega)]
 rfl
theorem lazy_fresh_eq {l:T_api_Lazy} (h1:SmL l.Short) (h2:SmL l.Suffixes):lazy_fresh l=some l:=by
 unfold lazy_fresh
 rw [lazy_copied_eq h1,lazy_copied_eq h2]
 rfl
theorem R28_Same_eq (a b:T_api_Lazy) (h1:SmL a.Short) (h2:SmL a.Suffixes):R28_Same a b=some (decide (a=b)):=by
 unfold R28_Same R28_Table
 rw [obind,obind,R23_Same_eq _ _ h1 h2,obind]
 congr 1
 cases a
 cases b
 simp
section
variable {l:T_api_Lazy} {o:T_api_Obs}
theorem chk_laz (h:chkL l o=0):chkT (lazT l) o=0∧validL l=0∧sufB l.Suffixes=true∧validT (lazT l)=0:=by
 unfold chkL at h
 split at h
 ·rename_i h1;exact absurd h h1
 ·rename_i h1
  have h1:validL l=0:=Classical.not_not.1 h1
  have h2:=h1
  unfold validL at h2
  split at h2
  ·rename_i h3;exact absurd h2 h3
  ·rename_i h3
   have h3:validT (lazT l)=0:=Classical.not_not.1 h3
   split at h2
   ·rename_i h4
    refine ⟨?_,h1,h4,h3⟩
    unfold chkT
    rw [if_neg (by simpa using h3)]
    exact h
   ·cases h2
end
theorem L28_great_eq (l:T_api_Lazy) (o:T_api_Obs) (ht:SmT (lazT l)) (ho:SmO o):∃ b,L28_great l o=some b∧(b=false→TabOk (lazT l)∧ObsOk o):=by
 have hl:=ho.1
 obtain ⟨ev,hev,hv⟩:=R16_Valid_tot o ho
 unfold L28_great R28_Table
 rw [obind,show (⟨l.Inputs,l.Short,l.Suffixes⟩:T_api_Table)=lazT l from rfl,L23_Great_eq _ _ ht.2.1.1 ht.2.2.1.1 (by omega),obind]
 cases hg:greatT (lazT l) o with
 | true=>exact ⟨true,rfl,fun h=>by cases h⟩
 | false =>
  rw [cond_false,hev,obind]
  refine ⟨decide (ev≠0),rfl,fun h=>⟨(tabOk_of ht hg).1,hv (Classical.not_not.1 (of_decide_eq_false h))⟩⟩
end Go.Proofs.YtedabpfahmealaaGreatDoor.Sym

/-
 What the bound of the laws gives: the sizes of lazy states, of tables, of observations and of splits.
-/
namespace Go.Proofs.YtedabpfahmealaaGreatDoor.Sym
theorem sum_mem {α:Type} {f:α→Nat}:∀ {l:List α} {x:α},x∈l→f x≤(l.map f).sum
 | y::l,x,h=>by
  rw [List.map_cons,List.sum_cons]
  rcases List.mem_cons.1 h with rfl | h
  ·omega
  ·have:=sum_mem (f:=f) h
   omega
theorem sum_len {α:Type} {f:α→Nat} (hf:∀ x,1≤f x):∀ l:List α,l.length≤(l.map f).sum
 | []=>by simp
 | y::l=>by
  have:=sum_len hf l
  have:=hf y
  rw [List.map_cons,List.sum_cons,List.length_cons]
  omega
theorem sz_word {x:List Int}:x.length+1=szL sz1 x:=by
 unfold szL sz1
 induction x with
 | nil=>rfl
 | cons y l ih=>simp at ih ⊢;omega
theorem sml_of {l:List (List Int)} {N:Nat} (h:szL (szL sz1) l≤N) (hN:N≤2000000):SmL l:=by
 unfold szL at h
 refine ⟨?_,fun x hx=>?_⟩
 ·have:=sum_len (f:=szL sz1) (fun x=>by rw [← sz_word];omega) l
  unfold szL at this
  omega
 ·have:=sum_mem (f:=szL sz1) hx
  rw [← sz_word] at this
  unfold szL at this
  unfold SmW
  omega
theorem trace_pos (t:T_api_Trace):1≤sz_api_Trace t:=by unfold sz_api_Trace;omega
theorem smo_of {o:T_api_Obs} (s:sz_api_Obs o≤1048576):SmO o:=by
 unfold sz_api_Obs at s
 have s1:szL sz_api_Trace o.Traces≤1048576:=by omega
 refine ⟨?_,fun t ht=>?_⟩
 ·have:=sum_len (f:=sz_api_Trace) trace_pos o.Traces
  unfold szL at s1
  omega
 ·have h1:=sum_mem (f:=sz_api_Trace) ht
  have h2:=sz_word (x:=t.In)
  have h3:=sz_word (x:=t.Out)
  have h4:(o.Traces.map sz_api_Trace).sum+1≤1048576:=s1
  have h5:sz_api_Trace t=(szL sz1 t.In+(szL sz1 t.Out+0))+1:=rfl
  omega
theorem lzt_of {t:T_api_Lazy} (k:ok_api_Lazy t) (s:sz_api_Lazy t≤1048576):SmT (lazT t):=by
 unfold sz_api_Lazy at s
 obtain ⟨k1,k2,k3⟩:=k
 have h2:SmL t.Short:=sml_of (N:=1048576) (by omega) (by omega)
 have h3:SmL t.Suffixes:=sml_of (N:=1048576) (by omega) (by omega)
 exact ⟨k1,h2,h3,k2⟩
theorem spl_of {x:T_api_Split} (s:sz_api_Split x≤1048576):SmW x.Prefix∧SmW x.Suffix:=by
 unfold sz_api_Split at s
 have h1:=sz_word (x:=x.Prefix)
 have h2:=sz_word (x:=x.Suffix)
 unfold SmW
 omega
end Go.Proofs.YtedabpfahmealaaGreatDoor.Sym

/-
 Lazy learning: answers, rows and classes that a refinement reads: plain laws.
-/
namespace Go.Proofs.YtedabpfahmealaaGreatDoor.Sym
set_option maxRecDepth 100000
theorem scan_find {α:Type} {p:α→Bool}:∀ (L:List α) (j:Nat),(scan (fun i x=>if p x=true then some (↑i:Int) else none) j L=none∧L.find? p=none)∨∃ i f,scan (fun i x=>if p x=true then some (↑i:Int) else none) j L=some (↑(j+i):Int)∧L[i]?=some f∧L.find? p=some f∧p f=true
 | [],_=>.inl ⟨rfl,rfl⟩
 | x::L,j=>by
  unfold scan
  cases h:p x with
  | true=>exact .inr ⟨0,x,by simp,rfl,by simp [h],h⟩
  | false =>
   rw [List.find?_cons_of_neg (by simp [h])]
   simp only [Bool.false_eq_true,if_false]
   rcases scan_find L (j+1) with ⟨h1,h2⟩ | ⟨i,f,h1,h2,h3,h4⟩
   ·exact .inl ⟨h1,h2⟩
   ·exact .inr ⟨i+1,f,by rw [h1];congr 2;omega,h2,h3,h4⟩
theorem observe_Answer_eq {o:T_api_Obs} {w:List Int} (ho:SmO o) (hv:ObsOk o):observe_Answer o w=some (tw (ansO o w)):=by
 have hl:=ho.1
 unfold observe_Answer ansO
 by_cases h0:w=[]
 ·subst h0
  rfl
 ·rw [if_neg h0,decide_eq_false (by
   intro h
   exact h0 (List.eq_nil_of_length_eq_zero (by omega))),cond_false]
  unfold slices_IndexFunc_Sapi_Trace_api_Trace_n1
  have key:=iter_scan (step:=fun s=>slices_IndexFunc_Sapi_Trace_api_Trace_n1.s2 o.Traces (fun u0=>observe_Answer_1 u0 w) s) (l:=o.Traces) (fun i t=>if (fun t:T_api_Trace=>decide (w <+: t.In)) t=true then some (↑i:Int) else none) (fun i t ht=>by
   have htm:=List.mem_of_getElem? ht
   simp only [slices_IndexFunc_Sapi_Trace_api_Trace_n1.s2,observe_Answer_1]
   rw [dec_lt ht,cond_true,idxn_at ht,word_HasPrefix_eq _ _ (smo_in ho htm),obind,obind]
   by_cases h:w <+: t.In<;>simp [h]) (by
   simp only [slices_IndexFunc_Sapi_Trace_api_Trace_n1.s2]
   rw [dec_end]
   rfl) (by omega)
  rw [key]
  rcases scan_find (p:=fun t:T_api_Trace=>decide (w <+: t.In)) o.Traces 0 with ⟨h1,h2⟩ | ⟨i,t,h1,h2,h3,h4⟩
  ·rw [h1,h2]
   simp only [obind,Sum.elim_inl]
   rfl
  ·rw [h1,h3]
   have htm:=List.mem_of_getElem? h2
   have hP:=(hv.prop t htm).1
   have hlen:=pre_len (of_decide_eq_true h4)
   have hol:=hP.2.1
   have h5:=(ho.2 t htm).1
   have hmin:min (↑(List.length w):Int) (↑(List.length t.Out):Int)=(↑w.length:Int):=by omega
   simp only [obind,Sum.elim_inr,Nat.zero_add,Option.map_some]
   rw [decide_eq_false (by omega),cond_false,idx_at rfl h2,hmin,chk_pos (by omega),Int.toNat_natCast,libclone_word (by unfold SmW;rw [List.length_take];omega),obind]
theorem ans_nil_tail {o:T_api_Obs} {w e:List Int} (h:ansO o (w++e)=none):tailA o w e=[]:=by unfold tailA;rw [h];exact List.drop_nil
theorem ans_tail {o:T_api_Obs} {w e r:List Int} (h:ansO o (w++e)=some r):tailA o w e=r.drop w.length:=by unfold tailA;rw [h];rfl
def longB (w:List Int) (S:List (List Int)):Bool:=S.any fun e=>decide (1024<(w++e).length)
def missB (o:T_api_Obs) (w:List Int) (S:List (List Int)):List (List Int):=((S.filter fun e=>!decide (1024<(w++e).length)).map fun e=>w++e).filter fun v=>(ansO o v).isNone
theorem missB_len (o:T_api_Obs) (w:List Int) (S:List (List Int)):(missB o w S).length≤S.length:=by
 unfold missB
 refine Nat.le_trans (List.length_filter_le _ _) ?_
 rw [List.length_map]
 exact List.length_filter_le _ _
theorem missB_short {o:T_api_Obs} {w:List Int} {S:List (List Int)} (h:longB w S=false):missB o w S=missO o w S:=by
 unfold missB missO
 have:(S.filter fun e=>!decide (1024<(w++e).length))=S:=List.filter_eq_self.2 fun e he=>by
  have:=List.any_eq_false.1 h e he
  simpa using this
 rw [this]
theorem missB_mem {o:T_api_Obs} {w:List Int} {S:List (List Int)} {v:List Int} (h:v∈missB o w S):v.length≤1024:=by
 unfold missB at h
 obtain ⟨e,he,rfl⟩:=List.mem_map.1 (List.mem_filter.1 h).1
 have:=(List.mem_filter.1 he).2
 simp only [Bool.not_eq_true',decide_eq_false_iff_not] at this
 omega
section
variable {l:T_api_Lazy} {o:T_api_Obs}
def outR (o:T_api_Obs) (w v:List Int) (M:List (List Int)) (b:Bool):List Int×List (List Int)×Bool :=
 if 1024<(w++v).length then ([],M,true) else if (ansO o (w++v)).isNone=true then ([],M++[w++v],b) else (tailA o w v,M,b)
theorem reader_outs_eq (ho:SmO o) (hv:ObsOk o) {w v:List Int} {M:List (List Int)} {b:Bool} (hw:SmW w) (hvl:SmW v) (hM:M.length≤100000) :
  lazy_reader_outs ⟨l,o,M,b⟩ w v=some ((outR o w v M b).1,⟨l,o,(outR o w v M b).2.1,(outR o w v M b).2.2⟩):=by
 have hw1:w.length≤2000000:=hw
 have hv1:v.length≤2000000:=hvl
 unfold lazy_reader_outs outR
 rw [word_Join_eq _ (by simp) (by simp;omega),obind,two_flatW]
 by_cases h:1024<(w++v).length
 ·rw [if_pos h,decide_eq_true (by omega),cond_true]
 ·rw [if_neg h,decide_eq_false (by omega),cond_false,observe_Answer_eq ho hv,obind]
  cases ha:ansO o (w++v) with
  | none =>
   simp only [tw,Bool.not_false,cond_true,Option.isNone_none,if_true]
   rw [chk_pos (cap_small (by omega))]
  | some r =>
   have hrl:=ansO_len hv ha
   rw [List.length_append] at hrl
   simp only [tw,Bool.not_true,cond_false,Option.isNone_some,Bool.false_eq_true,if_false]
   rw [chk_pos (by omega),ans_tail ha]
theorem outR_spec (w v:List Int) (M:List (List Int)) (b:Bool):(outR o w v M b).2.1=M++missB o w [v]∧(outR o w v M b).2.2=(b||longB w [v])∧(longB w [v]=false→missO o w [v]=[]→(outR o w v M b).1=tailA o w v):=by
 unfold outR
 by_cases h:1024<(w++v).length
 ·rw [if_pos h]
  refine ⟨?_,?_,fun hf=>?_⟩
  ·have:missB o w [v]=[]:=by
    unfold missB
    rw [List.filter_cons_of_neg (by simpa using h)]
    rfl
   rw [this,List.append_nil]
  ·have:longB w [v]=true:=by unfold longB;simpa using h
   rw [this,Bool.or_true]
  ·unfold longB at hf
   simp at hf h
   omega
 ·have hl:longB w [v]=false:=by unfold longB;simp at h ⊢;omega
  rw [if_neg h,missB_short hl,hl,Bool.or_false]
  unfold missO
  cases ha:ansO o (w++v) with
  | none=>simp [ha]
  | some r=>simp [ha]
theorem longB_step {w e:List Int} {S:List (List Int)} {k:Nat} (h:S[k]?=some e):longB w (S.take (k+1))=(longB w (S.take k)||longB w [e]):=by
 unfold longB
 rw [take_step h,List.any_append]
theorem missB_step {w e:List Int} {S:List (List Int)} {k:Nat} (h:S[k]?=some e):missB o w (S.take (k+1))=missB o w (S.take k)++missB o w [e]:=by
 unfold missB
 rw [take_step h,List.filter_append,List.map_append,List.filter_append]
theorem reader_row_eq (ho:SmO o) (hv:ObsOk o) (ht:TabOk (lazT l)) {w:List Int} {M:List (List Int)} {b:Bool} (hw:SmW w) (hM:M.length≤90000) :
  ∃ rows,lazy_reader_row ⟨l,o,M,b⟩ w=some (rows,⟨l,o,M++missB o w l.Suffixes,b||longB w l.Suffixes⟩)∧(longB w l.Suffixes=false→missO o w l.Suffixes=[]→rowO o w l.Suffixes=some rows):=by
 have hs:l.Suffixes.length≤12:=ht.s
 have hS:SmL l.Suffixes:=ht.sm.2.2.1
 have key:=iter_post (step:=fun (s:Int×List T_api_Trace×List (List Int)×Bool×List (List Int)×Nat)=>lazy_reader_row.s2 ⟨l,o,M,b⟩ w s.1 s.2.1 s.2.2.1 s.2.2.2.1 s.2.2.2.2.1 s.2.2.2.2.2)
  (fun s=>∃ k:Nat,s.2.2.2.2.2=k∧k≤l.Suffixes.length∧s.1=o.Inputs∧s.2.1=o.Traces∧s.2.2.1=M++missB o w (l.Suffixes.take k)∧s.2.2.2.1=(b||longB w (l.Suffixes.take k))∧s.2.2.2.2.1.length=k ∧
   (longB w l.Suffixes=false→missO o w l.Suffixes=[]→s.2.2.2.2.1=(l.Suffixes.take k).map fun e=>tailA o w e)) (fun s=>l.Suffixes.length-s.2.2.2.2.2)
  (fun r=>∃ rows,r=(o.Inputs,o.Traces,M++missB o w l.Suffixes,(b||longB w l.Suffixes),rows)∧(longB w l.Suffixes=false→missO o w l.Suffixes=[]→rows=l.Suffixes.map fun e=>tailA o w e)) (fun s ⟨k,g1,g2,g3,g4,g5,g6,g7,g8⟩=>by
   obtain ⟨s1,s2,s3,s4,s5,s6⟩:=s
   simp only at g1 g3 g4 g5 g6 g7 g8
   subst g1 g3 g4 g5 g6
   simp only [lazy_reader_row.s2]
   by_cases g9:s6<l.Suffixes.length
   ·left
    have hx:=get_at g9
    have hxs:SmW l.Suffixes[s6]:=hS.2 _ (List.getElem_mem _)
    have hml:=missB_len o w (l.Suffixes.take s6)
    rw [List.length_take] at hml
    obtain ⟨q1,q2,q3⟩:=outR_spec (o:=o) w l.Suffixes[s6] (M++missB o w (l.Suffixes.take s6)) (b||longB w (l.Suffixes.take s6))
    refine ⟨(o.Inputs,o.Traces,M++missB o w (l.Suffixes.take (s6+1)),(b||longB w (l.Suffixes.take (s6+1))),s5++[(outR o w l.Suffixes[s6] (M++missB o w (l.Suffixes.take s6)) (b||longB w (l.Suffixes.take s6))).1],s6+1),?_,⟨s6+1,rfl,g9,rfl,rfl,rfl,rfl,by simp [g7],fun z1 z2=>?_⟩,by simp only;omega⟩
    ·rw [dec_lt hx,cond_true,idxn_at hx]
     have:=reader_outs_eq (l:=l) ho hv hw hxs (M:=M++missB o w (l.Suffixes.take s6)) (b:=b||longB w (l.Suffixes.take s6)) (by rw [List.length_append];omega)
     rw [show (⟨o.Inputs,o.Traces⟩:T_api_Obs)=o from rfl,this,obind,chk_pos (cap_small (by omega)),q1,q2,missB_step hx,longB_step hx,List.append_assoc,Bool.or_assoc]
    ·simp only
     rw [take_step hx,List.map_append,← g8 z1 z2]
     have hm:=List.getElem_mem g9
     rw [q3 (by
      have:=List.any_eq_false.1 z1 _ hm
      unfold longB
      simpa using this) (by
      have hsub:∀ v,v∈missO o w [l.Suffixes[s6]]→v∈missO o w l.Suffixes:=fun v hv=>by
       obtain ⟨⟨e,he,h1⟩,h2⟩:=mem_missO.1 hv
       exact mem_missO.2 ⟨⟨e,by rw [List.mem_singleton.1 he];exact hm,h1⟩,h2⟩
      rw [z2] at hsub
      exact List.eq_nil_iff_forall_not_mem.2 fun v hv=>by cases hsub v hv)]
     rfl
   ·right
    have e:s6=l.Suffixes.length:=by omega
    subst e
    rw [decide_eq_false (by omega),cond_false]
    refine ⟨_,rfl,s5,by rw [List.take_length],fun z1 z2=>by rw [g8 z1 z2,List.take_length]⟩) fuel (o.Inputs,o.Traces,M,b,[],0) ⟨0,rfl,Nat.zero_le _,rfl,rfl,by simp [missB],by simp [longB],rfl,fun _ _=>rfl⟩ (by have:=fuel_big;simp only;omega)
 obtain ⟨r,e,rows,rfl,h2⟩:=key
 refine ⟨rows,?_,fun z1 z2=>?_⟩
 ·unfold lazy_reader_row
  rw [e,obind]
  rfl
 ·rw [h2 z1 z2]
  have hex:∀ e∈l.Suffixes,ansO o (w++e)≠none:=fun e he h=>by
   have:w++e∈missO o w l.Suffixes:=mem_missO.2 ⟨⟨e,he,rfl⟩,h⟩
   rw [z2] at this
   cases this
  obtain ⟨R,hR⟩:=rowO_some hex
  rw [hR]
  congr 1
  apply List.ext_getElem?
  intro i
  rw [List.getElem?_map]
  cases hi:l.Suffixes[i]? with
  | none =>
   rw [Option.map_none,List.getElem?_eq_none]
   rw [(rowO_sml hv hR).1]
   exact List.getElem?_eq_none_iff.1 hi
  | some e'=>rw [Option.map_some,rowO_at hR hi]
theorem reader_lacks_eq (M:List (List Int)) (b:Bool):lazy_reader_lacks ⟨l,o,M,b⟩=some (b||decide (M≠[]),⟨l,o,M,b⟩):=by
 unfold lazy_reader_lacks
 cases b with
 | true=>rfl
 | false =>
  cases M with
  | nil=>rfl
  | cons x M =>
   simp only [cond_false]
   rw [decide_eq_true (pos_len (by simp)),obind]
   rfl
theorem lazy_same_eq (a b:List (List Int)) (ha:SmL a):lazy_same a b=some (decide (a=b)):=by
 have h1:=ha.1
 unfold lazy_same slices_EqualFunc_SSint_SSint_Sint_Sint
 by_cases hlen:a.length=b.length
 ·rw [show decide ((↑(List.length a):Int)≠(↑(List.length b):Int))=false by simp [hlen],cond_false]
  have key:=iter_all2 (a:=a) (b:=b) (step:=fun s=>slices_EqualFunc_SSint_SSint_Sint_Sint.s2 a b (fun u0 u1=>lazy_same_1 u0 u1) s) hlen (fun i x y hx hy=>by
   simp only [slices_EqualFunc_SSint_SSint_Sint_Sint.s2,lazy_same_1]
   rw [dec_lt hx,cond_true,idxn_at hx,idxn_at hy,slices_Equal_eq x y (by have:=ha.2 x (List.mem_of_getElem? hx);unfold SmW at this;omega)]
   by_cases h:x=y<;>simp [h]) (by
   simp only [slices_EqualFunc_SSint_SSint_Sint_Sint.s2]
   rw [dec_end]
   rfl) (by omega)
  rw [key,obind]
 ·rw [show decide ((↑(List.length a):Int)≠(↑(List.length b):Int))=true by simp;omega,cond_true,obind]
  have:a≠b:=fun h=>hlen (by rw [h])
  simp [this]
def clsW (l:T_api_Lazy) (o:T_api_Obs) (R:Row):Option (List Int):=l.Short.find? fun s=>decide (rowO o s l.Suffixes=some R)
theorem reader_first_eq (ho:SmO o) (hv:ObsOk o) (ht:TabOk (lazT l)) (hc:chkL l o=0) {R:Row} (hR:SmL R) {M:List (List Int)} {b:Bool} :
  lazy_reader_first ⟨l,o,M,b⟩ R=some ((clsW l o R).getD [],(clsW l o R).isSome,⟨l,o,M,b⟩):=by
 have hp:l.Short.length≤30:=ht.p
 obtain ⟨h1,_,_,_⟩:=chk_laz hc
 unfold lazy_reader_first
 have key:=iter_scan (step:=fun s=>lazy_reader_first.s2 ⟨l,o,M,b⟩ R s) (l:=l.Short) (fun _ s=>if rowO o s l.Suffixes=some R then some (s,true,(⟨l,o,M,b⟩:T_lazy_reader)) else none) (fun i s hs=>by
  have hsm:=List.mem_of_getElem? hs
  have hsl:=ht.pw s hsm
  simp only [lazy_reader_first.s2,lazy_cells]
  rw [dec_lt hs,cond_true,idxn_at hs,obind,show (⟨l.Inputs,l.Short,l.Suffixes⟩:T_api_Table)=lazT l from rfl,table_Row_eq ht.sm ho hv (by unfold SmW;omega),obind]
  unfold rowT
  rw [if_neg (by simpa using h1),show (lazT l).Suffixes=l.Suffixes from rfl]
  cases hr:rowO o s l.Suffixes with
  | none=>simp
  | some Q =>
   have hQ:SmL Q:=by
    have:=rowT_sml hv ht.sm s
    unfold rowT at this
    rw [if_neg (by simpa using h1),show (lazT l).Suffixes=l.Suffixes from rfl,hr] at this
    exact this
   simp only [tw,cond_true]
   rw [lazy_same_eq _ _ hQ,obind,obind]
   by_cases h:Q=R
   ·rw [decide_eq_true h,cond_true,if_pos (by rw [h])]
   ·rw [decide_eq_false h,cond_false,if_neg (by simpa using h)]) (by
  simp only [lazy_reader_first.s2]
  rw [dec_end]
  rfl) (by omega)
 rw [key]
 have key2:∀ (L:List (List Int)) (j:Nat),scan (fun _ s=>if rowO o s l.Suffixes=some R then some (s,true,(⟨l,o,M,b⟩:T_lazy_reader)) else none) j L=(L.find? fun s=>decide (rowO o s l.Suffixes=some R)).map fun s=>(s,true,⟨l,o,M,b⟩):=by
  intro L
  induction L with
  | nil=>intro j;rfl
  | cons s L ih =>
   intro j
   unfold scan
   by_cases h:rowO o s l.Suffixes=some R
   ·rw [if_pos h,List.find?_cons_of_pos (by simpa using h)]
    rfl
   ·rw [if_neg h,List.find?_cons_of_neg (by simpa using h)]
    exact ih _
 rw [key2]
 unfold clsW
 cases l.Short.find? fun s=>decide (rowO o s l.Suffixes=some R)<;>rfl
theorem R28_class_eq (ho:SmO o) (hv:ObsOk o) (ht:TabOk (lazT l)) (hc:chkL l o=0) {w:List Int} (hw:SmW w) {R:Row} (hR:rowO o w l.Suffixes=some R) :
  (R28_class l o w=some (-1)∧clsW l o R=none)∨∃ (i:Nat) (f:List Int),R28_class l o w=some (↑i:Int)∧l.Short[i]?=some f∧clsW l o R=some f∧rowO o f l.Suffixes=some R:=by
 have hp:l.Short.length≤30:=ht.p
 obtain ⟨h1,_,_,_⟩:=chk_laz hc
 have hT:(⟨l.Inputs,l.Short,l.Suffixes⟩:T_api_Table)=lazT l:=rfl
 have hrow:∀ s,SmW s→R23_Row (lazT l) o s=some (tw (rowO o s l.Suffixes)):=fun s hs=>by
  rw [R23_Row_eq ht.sm ho hv hs]
  unfold rowT
  rw [if_neg (by simpa using h1)]
  rfl
 unfold R28_class R28_Table
 rw [obind,hT,hrow w hw,hR,obind]
 obtain ⟨p,hpd⟩:∃ p:List Int→Bool,p=fun s=>decide (rowO o s l.Suffixes=some R):=⟨_,rfl⟩
 have key:=iter_scan (step:=fun s=>R28_class.s2 l o (tw (some R)) s) (l:=l.Short) (fun i s=>if p s=true then some (↑i:Int) else none) (fun i s hs=>by
  have hsm:=List.mem_of_getElem? hs
  have hsl:=ht.pw s hsm
  simp only [R28_class.s2,R28_Table]
  rw [dec_lt hs,cond_true,obind,idxn_at hs,hT,hrow s (by unfold SmW;omega),obind]
  by_cases hq:rowO o s l.Suffixes=some R
  ·rw [if_pos (by rw [hpd];simpa using hq),hq]
   simp only [tw,cond_true]
   have hQ:SmL R:=by
    have:=rowT_sml hv ht.sm s
    unfold rowT at this
    rw [if_neg (by simpa using h1),show (lazT l).Suffixes=l.Suffixes from rfl,hq] at this
    exact this
   have hQ1:=hQ.1
   rw [R06_Lists_eq _ _ (by omega) (fun x hx=>by have:=hQ.2 x hx;unfold SmW at this;omega),obind,obind]
   simp
  rw [if_neg (by rw [hpd];simpa using hq)]
  cases hr:rowO o s l.Suffixes with
  | none=>simp
  | some Q =>
   have hQ:SmL Q:=by
    have:=rowT_sml hv ht.sm s
    unfold rowT at this
    rw [if_neg (by simpa using h1),show (lazT l).Suffixes=l.Suffixes from rfl,hr] at this
    exact this
   have hQ1:=hQ.1
   simp only [tw,cond_true]
   rw [R06_Lists_eq _ _ (by omega) (fun x hx=>by have:=hQ.2 x hx;unfold SmW at this;omega),obind,obind]
   rw [decide_eq_false (fun h=>hq (by rw [hr,h])),cond_false]) (by
  simp only [R28_class.s2]
  rw [dec_end]
  rfl) (by omega)
 rw [key]
 unfold clsW
 rw [← hpd]
 rcases scan_find (p:=p) l.Short 0 with ⟨q1,q2⟩ | ⟨i,f,q1,q2,q3,q4⟩
 ·left
  rw [q1]
  exact ⟨rfl,q2⟩
 ·right
  rw [q1]
  exact ⟨i,f,by simp,q2,q3,by rw [hpd] at q4;exact of_decide_eq_true q4⟩
theorem R28_differ_eq (ho:SmO o) (hv:ObsOk o) {u r v:List Int} (hu:SmW u) (hr:SmW r) (hvl:SmW v) (hul:u.length+v.length≤2000000):R28_differ o u r v=some (!decide (tailA o u v=tailA o r v)):=by
 have after:∀ w,SmW w→∃ x,R23_After o w v=some x∧x.1=tailA o w v:=fun w hw=>by
  rw [R23_After_eq ho hv hw hvl]
  cases ha:ansO o (w++v) with
  | none=>exact ⟨_,rfl,(ans_nil_tail ha).symm⟩
  | some q=>exact ⟨_,rfl,(ans_tail ha).symm⟩
 obtain ⟨x,hx,hx1⟩:=after u hu
 obtain ⟨y,hy,hy1⟩:=after r hr
 unfold R28_differ
 rw [hx,hy,obind,obind,R06_Ints_eq _ _ (by
  rw [hx1]
  cases ha:ansO o (u++v) with
  | none=>rw [ans_nil_tail ha];simp
  | some q =>
   have:=ansO_len hv ha
   rw [ans_tail ha,List.length_drop,this,List.length_append]
   omega),obind,hx1,hy1]
def anyL (ws S:List (List Int)):Bool:=ws.any fun w=>longB w S
def missR (o:T_api_Obs) (ws S:List (List Int)):List (List Int)×Int:=if anyL ws S=true then ([],3) else (maxR (ws.flatMap fun w=>missO o w S),0)
theorem R28_missing_eq (ho:SmO o) (hv:ObsOk o) {ws S:List (List Int)} (hws:SmL ws) (h1:ws.length≤100) (h2:S.length≤100) (hS:SmL S):R28_missing o ws S=some (missR o ws S):=by
 have inner:∀ (i:Nat) (w:List Int) (M:List (List Int)),ws[i]?=some w→M.length≤100000→iter (fun (s:List (List Int)×Nat)=>R28_missing.s13 o ws S i s.1 s.2) fuel (M,0)=some (if longB w S=true then .inr (.inr (.inr ([],3))) else .inl (M++missO o w S)):=fun i w M hi hM=>by
  have hwm:=hws.2 w (List.mem_of_getElem? hi)
  have hw1:w.length≤2000000:=hwm
  have key:=iter_post (step:=fun (s:List (List Int)×Nat)=>R28_missing.s13 o ws S i s.1 s.2) (fun s=>s.2≤S.length∧s.1=M++missO o w (S.take s.2)∧longB w (S.take s.2)=false) (fun s=>S.length-s.2)
   (fun r=>r=if longB w S=true then .inr (.inr (.inr ([],3))) else .inl (M++missO o w S)) (fun s ⟨g1,g2,g3⟩=>by
    obtain ⟨y,k⟩:=s
    simp only at g1 g2 g3
    subst g2
    simp only [R28_missing.s13]
    by_cases g4:k<S.length
    ·have hx:=get_at g4
     have hxs:S[k].length≤2000000:=hS.2 _ (List.getElem_mem _)
     have hml:=missO_len o w (S.take k)
     rw [List.length_take] at hml
     rw [dec_lt hx,cond_true,idxn_at hi,idxn_at hx,R01_Join_eq _ (by simp) (by simp;omega),obind,two_flatW]
     by_cases h:1024<(w++S[k]).length
     ·right
      refine ⟨_,by rw [decide_eq_true (by omega),cond_true],?_⟩
      have hL:longB w S=true:=List.any_eq_true.2 ⟨_,List.getElem_mem g4,by simpa using h⟩
      rw [if_pos hL]
     ·left
      rw [decide_eq_false (by omega),cond_false,R16_Answer_eq ho hv,obind]
      refine ⟨(M++missO o w (S.take (k+1)),k+1),?_,⟨g4,rfl,?_⟩,by simp only;omega⟩
      ·rw [missO_step hx]
       cases ha:ansO o (w++S[k]) with
       | none =>
        simp only [tw,Bool.not_false,cond_true,Option.isNone_none,if_true]
        rw [chk_pos (cap_small (by rw [List.length_append];omega)),List.append_assoc]
       | some r=>simp [tw]
      ·rw [longB_step hx,g3,Bool.false_or]
       unfold longB
       simpa using h
    ·right
     have e:k=S.length:=by omega
     subst e
     rw [List.take_length] at g3 ⊢
     refine ⟨_,by rw [decide_eq_false (by omega),cond_false],?_⟩
     rw [g3]
     rfl) fuel (M,0) ⟨Nat.zero_le _,by simp [missO],by simp [longB]⟩ (by have:=fuel_big;simp only;omega)
  obtain ⟨r,e,rfl⟩:=key
  exact e
 have missL:∀ W:List (List Int),(W.flatMap fun w=>missO o w S).length≤100*W.length:=fun W=>by
  induction W with
  | nil=>simp
  | cons w W ih =>
   have:=missO_len o w S
   rw [List.flatMap_cons,List.length_append,List.length_cons]
   omega
 have key:=iter_post (step:=fun (s:List (List Int)×Nat)=>R28_missing.s14 o ws S s.1 s.2) (fun s=>s.2≤ws.length∧s.1=(ws.take s.2).flatMap (fun w=>missO o w S)∧anyL (ws.take s.2) S=false) (fun s=>ws.length-s.2)
  (fun r=>r=if anyL ws S=true then .inr ([],3) else .inl (ws.flatMap fun w=>missO o w S)) (fun s ⟨g1,g2,g3⟩=>by
   obtain ⟨y,k⟩:=s
   simp only at g1 g2 g3
   subst g2
   simp only [R28_missing.s14]
   by_cases g4:k<ws.length
   ·have hx:=get_at g4
    have hml:=missL (ws.take k)
    rw [List.length_take] at hml
    rw [dec_lt hx,cond_true,inner k _ _ hx (by omega),obind]
    cases h:longB ws[k] S with
    | true =>
     right
     refine ⟨_,rfl,?_⟩
     have hL:anyL ws S=true:=List.any_eq_true.2 ⟨_,List.getElem_mem g4,h⟩
     rw [if_pos hL]
    | false =>
     left
     refine ⟨((ws.take (k+1)).flatMap (fun w=>missO o w S),k+1),?_,⟨g4,rfl,?_⟩,by simp only;omega⟩
     ·simp only [Bool.false_eq_true,if_false,Sum.elim_inl]
      rw [take_step hx,List.flatMap_append]
      simp
     ·unfold anyL at g3 ⊢
      rw [take_step hx,List.any_append,g3]
      simp [h]
   ·right
    have e:k=ws.length:=by omega
    subst e
    rw [List.take_length] at g3 ⊢
    refine ⟨_,by rw [decide_eq_false (by omega),cond_false],?_⟩
    rw [g3]
    rfl) fuel ([],0) ⟨Nat.zero_le _,by simp,by simp [anyL]⟩ (by have:=fuel_big;simp only;omega)
 obtain ⟨r,e,rfl⟩:=key
 unfold R28_missing missR
 rw [e,obind]
 cases hany:anyL ws S with
 | true=>rfl
 | false =>
  simp only [Bool.false_eq_true,if_false,Sum.elim_inl]
  have hsm:SmL (ws.flatMap fun w=>missO o w S):=by
   refine ⟨by have:=missL ws;omega,fun x hx=>?_⟩
   obtain ⟨w,hw,hx⟩:=List.mem_flatMap.1 hx
   have hf:longB w S=false:=by
    cases hb:longB w S with
    | false=>rfl
    | true=>rw [show anyL ws S=true from List.any_eq_true.2 ⟨w,hw,hb⟩] at hany;cases hany
   rw [← missB_short hf] at hx
   have:=missB_mem hx
   unfold SmW
   omega
  rw [R02_Maximal_eq hsm,obind]
end
end Go.Proofs.YtedabpfahmealaaGreatDoor.Sym

/-
 Lazy learning: refinements are the document's. Plain laws.
-/
namespace Go.Proofs.YtedabpfahmealaaGreatDoor.Sym
set_option maxRecDepth 100000
def stuckB (x:List (List Int)×Int):Bool:=decide (x.2≠0)||decide (x.1≠[])
theorem stuck_step {R:Type} (x:List (List Int)×Int) (k:Bool→Option R):((cond (decide (x.2≠0)) (some true) (some (decide (0<(↑(List.length x.1):Int)))):Option Bool)).bind k=k (stuckB x):=by
 unfold stuckB
 cases decide (x.2≠0) with
 | true=>rfl
 | false =>
  rw [cond_false,obind,Bool.false_or]
  congr 1
  cases x.1<;>simp
section
variable {l:T_api_Lazy} {o:T_api_Obs}
theorem nstuck {ws S:List (List Int)} (h:stuckB (missR o ws S)=false):∀ w∈ws,longB w S=false∧missO o w S=[]:=by
 unfold stuckB missR at h
 cases ha:anyL ws S with
 | true=>rw [ha] at h;simp at h
 | false =>
  rw [ha] at h
  simp only [Bool.false_eq_true,if_false,ne_eq,not_true_eq_false,decide_false,Bool.false_or,decide_eq_false_iff_not,Classical.not_not] at h
  have h:=maxR_nil.1 h
  intro w hw
  refine ⟨?_,?_⟩
  ·cases hb:longB w S with
   | false=>rfl
   | true=>rw [show anyL ws S=true from List.any_eq_true.2 ⟨w,hw,hb⟩] at ha;cases ha
  ·refine List.eq_nil_iff_forall_not_mem.2 fun v hv=>?_
   have:v∈ws.flatMap fun w=>missO o w S:=List.mem_flatMap.2 ⟨w,hw,hv⟩
   rw [h] at this
   cases this
theorem miss_row {w:List Int} {S:List (List Int)} (h:missO o w S=[]):∃ R,rowO o w S=some R :=
 rowO_some fun e he h2=>by
  have:w++e∈missO o w S:=mem_missO.2 ⟨⟨e,he,rfl⟩,h2⟩
  rw [h] at this
  cases this
def ProgOk (res:List (List Int)×List (List Int)×Int) (added:List (List Int)) (err:Int) (M:List (List Int)) (b:Bool):Prop :=
 (b=true∧res.2=([],3))∨(b=false∧err≠0∧res.2=([],err))∨(b=false∧err=0∧M≠[]∧SmL M∧res.2=(maxR M,0))∨(b=false∧err=0∧M=[]∧res=(added,[],0))
theorem miss_prog {ws S:List (List Int)} (h1:ws.length≤100) (h2:S.length≤100) (added:List (List Int)) :
  stuckB (missR o ws S)=(anyL ws S||decide (ws.flatMap (fun w=>missB o w S)≠[]))∧(stuckB (missR o ws S)=true→ProgOk ([],missR o ws S) added 0 (ws.flatMap fun w=>missB o w S) (anyL ws S)):=by
 have missL:∀ W:List (List Int),(W.flatMap fun w=>missB o w S).length≤100*W.length:=fun W=>by
  induction W with
  | nil=>simp
  | cons w W ih =>
   have:=missB_len o w S
   rw [List.flatMap_cons,List.length_append,List.length_cons]
   omega
 unfold stuckB missR ProgOk
 cases ha:anyL ws S with
 | true=>exact ⟨by simp,fun _=>.inl ⟨rfl,rfl⟩⟩
 | false =>
  have he:(ws.flatMap fun w=>missO o w S)=ws.flatMap fun w=>missB o w S:=by
   rw [List.flatMap_def,List.flatMap_def]
   congr 1
   refine List.map_congr_left fun w hw=>(missB_short ?_).symm
   cases hb:longB w S with
   | false=>rfl
   | true=>rw [show anyL ws S=true from List.any_eq_true.2 ⟨w,hw,hb⟩] at ha;cases ha
  simp only [Bool.false_eq_true,if_false,ne_eq,not_true_eq_false,decide_false,Bool.false_or]
  rw [he]
  refine ⟨?_,fun h=>?_⟩
  ·by_cases hm:(ws.flatMap fun w=>missB o w S)=[]
   ·rw [hm]
    rfl
   ·have hne:maxR (ws.flatMap fun w=>missB o w S)≠[]:=fun h=>hm (maxR_nil.1 h)
    simp only [hm,hne,not_false_eq_true,decide_true]
  ·have h:=of_decide_eq_true h
   refine .inr (.inr (.inl ⟨trivial,trivial,fun h3=>h (by rw [h3];rfl),⟨by have:=missL ws;omega,fun x hx=>?_⟩,rfl⟩))
   obtain ⟨w,hw,hx⟩:=List.mem_flatMap.1 hx
   have:=missB_mem hx
   unfold SmW
   omega
def chainP (l:T_api_Lazy) (o:T_api_Obs):List Int→List Int→List Int→List (List Int)→List (List Int)×List (List Int)×Int
 | a::b::v,u,r,A =>
  if stuckB (missR o [u++[a],r++[a]] l.Suffixes)=true then ([],missR o [u++[a],r++[a]] l.Suffixes)
  else if rowO o (u++[a]) l.Suffixes≠rowO o (r++[a]) l.Suffixes then (A,[],0)
  else match clsW l o ((rowO o (u++[a]) l.Suffixes).getD []) with
   | none=>([],[],10)
   | some f=>if stuckB (missR o [u++[a],f] [b::v])=true then ([],missR o [u++[a],f] [b::v])
    else chainP l o (b::v) (if tailA o (u++[a]) (b::v)=tailA o f (b::v) then r++[a] else u++[a]) f (A++[if tailA o (u++[a]) (b::v)=tailA o f (b::v) then r++[a] else u++[a]])
 | _,_,_,A=>(A,[],0)
theorem chainP_two {a b:Int} {v u r:List Int} {A:List (List Int)}:chainP l o (a::b::v) u r A =
  if stuckB (missR o [u++[a],r++[a]] l.Suffixes)=true then ([],missR o [u++[a],r++[a]] l.Suffixes)
  else if rowO o (u++[a]) l.Suffixes≠rowO o (r++[a]) l.Suffixes then (A,[],0)
  else match clsW l o ((rowO o (u++[a]) l.Suffixes).getD []) with
   | none=>([],[],10)
   | some f=>if stuckB (missR o [u++[a],f] [b::v])=true then ([],missR o [u++[a],f] [b::v])
    else chainP l o (b::v) (if tailA o (u++[a]) (b::v)=tailA o f (b::v) then r++[a] else u++[a]) f (A++[if tailA o (u++[a]) (b::v)=tailA o f (b::v) then r++[a] else u++[a]]):=rfl
def RngW (w:List Int):Prop:=∀ a∈w,inR a
structure ChOk (l:T_api_Lazy) (v u r:List Int) (A:List (List Int)):Prop where
 h1:u.length+v.length≤2100
 h2:r.length≤30
 h3:A.length+v.length≤1200
 h4:RngW v∧RngW u∧RngW r
 h5:∀ x∈A,x.length≤2100∧RngW x
theorem RngW.snoc {w:List Int} {a:Int} (h:RngW w) (ha:inR a):RngW (w++[a]):=fun x hx=>by
 rcases List.mem_append.1 hx with hx | hx
 ·exact h x hx
 ·rw [List.mem_singleton.1 hx];exact ha
theorem clsW_mem {R:Row} {f:List Int} (h:clsW l o R=some f):f∈l.Short:=List.mem_of_find?_eq_some h
theorem ChOk.next {a b:Int} {v u r f:List Int} {A:List (List Int)} (H:ChOk l (a::b::v) u r A) (ht:TabOk (lazT l)) (hf:f∈l.Short) (c:Prop) [Decidable c]:ChOk l (b::v) (if c then r++[a] else u++[a]) f (A++[if c then r++[a] else u++[a]]):=by
 obtain ⟨h1,h2,h3,⟨h4,h5,h6⟩,h7⟩:=H
 simp only [List.length_cons] at h1 h3
 have ha:=h4 a (by simp)
 have hl:(if c then r++[a] else u++[a]).length≤31∨(if c then r++[a] else u++[a]).length=u.length+1:=by
  split
  ·left;simp;omega
  ·right;simp
 have hr:RngW (if c then r++[a] else u++[a]):=by
  split
  ·exact h6.snoc ha
  ·exact h5.snoc ha
 refine ⟨by simp only [List.length_cons];omega,ht.pw f hf,by simp only [List.length_append,List.length_cons,List.length_nil];omega,⟨fun x hx=>h4 x (List.mem_cons_of_mem _ hx),hr,ht.sm.2.2.2 f hf⟩,fun x hx=>?_⟩
 rcases List.mem_append.1 hx with hx | hx
 ·exact h7 x hx
 ·rw [List.mem_singleton.1 hx]
  exact ⟨by omega,hr⟩
theorem sml_two {a b:List Int} (ha:SmW a) (hb:SmW b):SmL [a,b]:=⟨by simp,fun x hx=>by
 rcases List.mem_cons.1 hx with rfl | hx
 ·exact ha
 ·rw [List.mem_singleton.1 hx];exact hb⟩
theorem row_sml (hv:ObsOk o) (ht:TabOk (lazT l)) {w:List Int} {R:Row} (h:rowO o w l.Suffixes=some R):SmL R:=by
 have h1:=rowO_rsm hv ht h
 exact ⟨by have:=h1.1;omega,fun x hx=>by have:=(h1.2 x hx).1;unfold SmW;omega⟩
theorem R28_chain_eq (ho:SmO o) (hv:ObsOk o) (ht:TabOk (lazT l)) (hc:chkL l o=0) {v u r:List Int} {A:List (List Int)} (H:ChOk l v u r A) (hA:A=[u]):R28_chain l o u r v=some (chainP l o v u r A):=by
 have hs:l.Suffixes.length≤12:=ht.s
 have hS:SmL l.Suffixes:=ht.sm.2.2.1
 have hT:(⟨l.Inputs,l.Short,l.Suffixes⟩:T_api_Table)=lazT l:=rfl
 obtain ⟨hck,_⟩:=chk_laz hc
 have hrow:∀ s,SmW s→R23_Row (lazT l) o s=some (tw (rowO o s l.Suffixes)):=fun s hs=>by
  rw [R23_Row_eq ht.sm ho hv hs]
  unfold rowT
  rw [if_neg (by simpa using hck)]
  rfl
 generalize hres:chainP l o v u r A=res
 have key:=iter_post (step:=fun (s:List Int×List Int×List Int×List (List Int))=>R28_chain.s2 l o s.1 s.2.1 s.2.2.1 s.2.2.2) (fun s=>ChOk l s.2.2.1 s.1 s.2.1 s.2.2.2∧chainP l o s.2.2.1 s.1 s.2.1 s.2.2.2=res) (fun s=>s.2.2.1.length)
  (fun q=>Sum.elim (fun y=>(y,[],0)) id q=res) (fun s ⟨H,hres⟩=>by
   obtain ⟨u,r,v,A⟩:=s
   simp only at H hres
   have h1:=H.h1
   have h2:=H.h2
   simp only [R28_chain.s2]
   match v,H,hres with
   | [],_,hres=>exact .inr ⟨_,rfl,hres⟩
   | [_],_,hres=>exact .inr ⟨_,rfl,hres⟩
   | a::b::v,H,hres =>
    have h1:=H.h1
    have h3:=H.h3
    simp only [List.length_cons] at h1 h3
    have hub:SmW (u++[a]):=by unfold SmW;simp;omega
    have hrb:SmW (r++[a]):=by unfold SmW;simp;omega
    have hv':SmW (b::v):=by unfold SmW;simp;omega
    rw [decide_eq_true (by simp only [List.length_cons];omega),cond_true,chk_pos (by simp only [List.length_cons];omega),show List.take 1 (a::b::v)=[a] from rfl,show List.drop 1 (a::b::v)=b::v from rfl]
    rw [R01_Join_eq _ (by simp) (by simp;omega),obind,chk_pos (by simp only [List.length_cons];omega),R01_Join_eq _ (by simp) (by simp;omega),obind,two_flatW,two_flatW]
    rw [R28_missing_eq ho hv (sml_two hub hrb) (by simp) (by omega) hS,obind,stuck_step]
    rw [chainP_two] at hres
    cases hst:stuckB (missR o [u++[a],r++[a]] l.Suffixes) with
    | true =>
     right
     rw [hst,if_pos rfl] at hres
     exact ⟨_,rfl,hres⟩
    | false =>
     rw [hst,if_neg (by simp)] at hres
     obtain ⟨_,m1⟩:=nstuck hst (u++[a]) (by simp)
     obtain ⟨_,m2⟩:=nstuck hst (r++[a]) (by simp)
     obtain ⟨R1,hR1⟩:=miss_row m1
     obtain ⟨R2,hR2⟩:=miss_row m2
     have hsm1:=row_sml hv ht hR1
     simp only [cond_false,R28_Table,obind,hT]
     rw [hrow _ hub,hrow _ hrb,hR1,hR2,obind,obind]
     simp only [tw]
     rw [R06_Lists_eq R1 R2 (by have:=hsm1.1;omega) (fun x hx=>by have:=hsm1.2 x hx;unfold SmW at this;omega),obind]
     rw [hR1,hR2] at hres
     by_cases hR:R1=R2
     ·subst hR
      rw [decide_eq_true rfl]
      rw [if_neg (by simp)] at hres
      simp only [Option.getD_some] at hres
      rw [Bool.not_true,cond_false]
      rcases R28_class_eq ho hv ht hc hub hR1 with ⟨q1,q2⟩ | ⟨i,f,q1,q2,q3,q4⟩
      ·right
       rw [q1,obind]
       rw [q2] at hres
       exact ⟨_,rfl,hres⟩
      ·have hf:=clsW_mem q3
       have hfl:f.length≤30:=ht.pw f hf
       have hfs:SmW f:=by unfold SmW;omega
       rw [q1,obind,decide_eq_false (by omega),cond_false,chk_pos (by simp only [List.length_cons];omega),idx_at rfl q2]
       rw [R28_missing_eq ho hv (sml_two hub hfs) (by simp) (by simp) (⟨by simp,fun x hx=>by rw [List.mem_singleton.1 hx];exact hv'⟩),obind,stuck_step]
       rw [q3] at hres
       simp only at hres
       cases hst2:stuckB (missR o [u++[a],f] [b::v]) with
       | true =>
        right
        rw [hst2,if_pos rfl] at hres
        exact ⟨_,rfl,hres⟩
       | false =>
        left
        rw [hst2,if_neg (by simp)] at hres
        refine ⟨((if tailA o (u++[a]) (b::v)=tailA o f (b::v) then r++[a] else u++[a]),f,b::v,A++[if tailA o (u++[a]) (b::v)=tailA o f (b::v) then r++[a] else u++[a]]),?_,⟨H.next ht hf _,hres⟩,by simp⟩
        rw [cond_false,idx_at rfl q2,R28_differ_eq ho hv hub hfs hv' (by simp;omega),obind]
        by_cases ht2:tailA o (u++[a]) (b::v)=tailA o f (b::v)
        ·rw [decide_eq_true ht2,Bool.not_true,cond_false,obind,idx_at rfl q2,chk_pos (cap_small (by omega)),if_pos ht2]
        ·rw [decide_eq_false ht2,Bool.not_false,cond_true,obind,idx_at rfl q2,chk_pos (cap_small (by omega)),if_neg ht2]
     ·right
      rw [decide_eq_false hR]
      rw [if_pos (by simpa using hR)] at hres
      exact ⟨_,rfl,hres⟩) fuel (u,r,v,[u]) ⟨hA ▸ H,hA ▸ hres⟩ (by have:=fuel_big;have:=H.h3;simp only;omega)
 obtain ⟨q,e,hq⟩:=key
 unfold R28_chain
 rw [e,obind]
 cases q with
 | inl y=>simp only [Sum.elim_inl] at hq ⊢;rw [hq]
 | inr y=>simp only [Sum.elim_inr,id] at hq ⊢;rw [hq]
def refR (l:T_api_Lazy) (o:T_api_Obs) (u v:List Int):List (List Int)×List (List Int)×Int :=
 if stuckB (missR o [u] l.Suffixes)=true then ([],missR o [u] l.Suffixes)
 else match clsW l o ((rowO o u l.Suffixes).getD []) with
  | none=>([],[],10)
  | some f=>if stuckB (missR o [u,f] [v])=true then ([],missR o [u,f] [v])
   else if tailA o u v=tailA o f v then ([],[],15)
   else chainP l o v u f [u]
theorem laz_eta:(⟨l.Inputs,l.Short,l.Suffixes⟩:T_api_Lazy)=l:=rfl
theorem obs_eta:(⟨o.Inputs,o.Traces⟩:T_api_Obs)=o:=rfl
theorem flat2 (a b:List Int) (S:List (List Int)):([a,b].flatMap fun w=>missB o w S)=missB o a S++missB o b S:=by simp
theorem any2 (a b:List Int) (S:List (List Int)):anyL [a,b] S=(longB a S||longB b S):=by simp [anyL]
theorem flat1 (a:List Int) (S:List (List Int)):([a].flatMap fun w=>missB o w S)=missB o a S:=by simp
theorem any1 (a:List Int) (S:List (List Int)):anyL [a] S=longB a S:=by simp [anyL]
theorem tailA_len (hv:ObsOk o) (w e:List Int):(tailA o w e).length≤e.length:=by
 cases ha:ansO o (w++e) with
 | none=>rw [ans_nil_tail ha];simp
 | some q =>
  have:=ansO_len hv ha
  rw [ans_tail ha,List.length_drop,this,List.length_append]
  omega
theorem lacks_free {w:List (List Int)} {S:List (List Int)} (h:stuckB (missR o w S)=false) (h1:w.length≤100) (h2:S.length≤100):anyL w S=false∧(w.flatMap fun w=>missB o w S)=[]:=by
 have:=(miss_prog (o:=o) h1 h2 []).1
 rw [h] at this
 have:=this.symm
 rw [Bool.or_eq_false_iff] at this
 exact ⟨this.1,Classical.not_not.1 (of_decide_eq_false this.2)⟩
theorem reader_chain_eq (ho:SmO o) (hv:ObsOk o) (ht:TabOk (lazT l)) (hc:chkL l o=0) {v u r:List Int} {A:List (List Int)} (H:ChOk l v u r A) (hA:A=[u]) :
  ∃ added err M b,(iter (fun (s:Int×List (List Int)×List (List Int)×Int×List T_api_Trace×List (List Int)×Bool×List Int×List Int×List Int×List (List Int))=>lazy_reader_refine.s2 s.1 s.2.1 s.2.2.1 s.2.2.2.1 s.2.2.2.2.1 s.2.2.2.2.2.1 s.2.2.2.2.2.2.1 s.2.2.2.2.2.2.2.1 s.2.2.2.2.2.2.2.2.1 s.2.2.2.2.2.2.2.2.2.1 s.2.2.2.2.2.2.2.2.2.2) fuel (l.Inputs,l.Short,l.Suffixes,o.Inputs,o.Traces,[],false,u,v,r,[u])).bind
   (Sum.elim (fun (s:Int×List (List Int)×List (List Int)×Int×List T_api_Trace×List (List Int)×Bool×List (List Int))=>lazy_reader_refine.k3 s.1 s.2.1 s.2.2.1 s.2.2.2.1 s.2.2.2.2.1 s.2.2.2.2.2.1 s.2.2.2.2.2.2.1 s.2.2.2.2.2.2.2) some)=some (added,err,⟨l,o,M,b⟩)∧ProgOk (chainP l o v u r A) added err M b:=by
 have hs:l.Suffixes.length≤12:=ht.s
 have hS:SmL l.Suffixes:=ht.sm.2.2.1
 generalize hres:chainP l o v u r A=res
 have key:=iter_post (step:=fun (s:Int×List (List Int)×List (List Int)×Int×List T_api_Trace×List (List Int)×Bool×List Int×List Int×List Int×List (List Int))=>lazy_reader_refine.s2 s.1 s.2.1 s.2.2.1 s.2.2.2.1 s.2.2.2.2.1 s.2.2.2.2.2.1 s.2.2.2.2.2.2.1 s.2.2.2.2.2.2.2.1 s.2.2.2.2.2.2.2.2.1 s.2.2.2.2.2.2.2.2.2.1 s.2.2.2.2.2.2.2.2.2.2)
  (fun s=>∃ u v r A,s=(l.Inputs,l.Short,l.Suffixes,o.Inputs,o.Traces,[],false,u,v,r,A)∧ChOk l v u r A∧chainP l o v u r A=res) (fun s=>s.2.2.2.2.2.2.2.2.1.length)
  (fun q=>∃ added err M b,ProgOk res added err M b∧((q=.inl (l.Inputs,l.Short,l.Suffixes,o.Inputs,o.Traces,M,b,added)∧err=0)∨q=.inr (added,err,⟨l,o,M,b⟩))) (fun s ⟨u,v,r,A,hs0,H,hres⟩=>by
   subst hs0
   have h1:=H.h1
   have h2:=H.h2
   simp only [lazy_reader_refine.s2]
   have fin:v.length≤1→(cond (decide (1<(↑(List.length v):Int))))=fun (_:Option ((Int×List (List Int)×List (List Int)×Int×List T_api_Trace×List (List Int)×Bool×List Int×List Int×List Int×List (List Int))⊕((Int×List (List Int)×List (List Int)×Int×List T_api_Trace×List (List Int)×Bool×List (List Int))⊕(List (List Int)×Int×T_lazy_reader)))) x=>x:=fun h=>by
    funext x y
    rw [decide_eq_false (by omega)]
    rfl
   match v,H,hres,fin with
   | [],_,hres,_=>exact .inr ⟨_,rfl,A,0,[],false,.inr (.inr (.inr ⟨rfl,rfl,rfl,hres.symm⟩)),.inl ⟨rfl,rfl⟩⟩
   | [_],_,hres,_=>exact .inr ⟨_,rfl,A,0,[],false,.inr (.inr (.inr ⟨rfl,rfl,rfl,hres.symm⟩)),.inl ⟨rfl,rfl⟩⟩
   | a::b::v,H,hres,_ =>
    have h1:=H.h1
    have h3:=H.h3
    simp only [List.length_cons] at h1 h3
    have hub:SmW (u++[a]):=by unfold SmW;simp;omega
    have hrb:SmW (r++[a]):=by unfold SmW;simp;omega
    have hv':SmW (b::v):=by unfold SmW;simp;omega
    rw [decide_eq_true (by simp only [List.length_cons];omega),cond_true,chk_pos (by simp only [List.length_cons];omega),show List.take 1 (a::b::v)=[a] from rfl,show List.drop 1 (a::b::v)=b::v from rfl]
    rw [word_Join_eq _ (by simp) (by simp;omega),obind,chk_pos (by simp only [List.length_cons];omega),word_Join_eq _ (by simp) (by simp;omega),obind,two_flatW,two_flatW,chk_pos (by simp only [List.length_cons];omega)]
    have hml:=missB_len o (u++[a]) l.Suffixes
    obtain ⟨R1,e1,f1⟩:=reader_row_eq (l:=l) (M:=[]) (b:=false) ho hv ht hub (by simp)
    obtain ⟨R2,e2,f2⟩:=reader_row_eq (l:=l) (M:=[]++missB o (u++[a]) l.Suffixes) (b:=false||longB (u++[a]) l.Suffixes) ho hv ht hrb (by simp;omega)
    simp only [laz_eta,obs_eta]
    rw [e1,obind]
    simp only [laz_eta,obs_eta]
    rw [e2,obind]
    simp only [laz_eta,obs_eta]
    rw [reader_lacks_eq,obind]
    simp only [List.nil_append,Bool.false_or]
    obtain ⟨p1,p2⟩:=miss_prog (o:=o) (ws:=[u++[a],r++[a]]) (S:=l.Suffixes) (by simp) (by omega) []
    rw [flat2,any2] at p1 p2
    rw [← p1]
    rw [chainP_two] at hres
    cases hst:stuckB (missR o [u++[a],r++[a]] l.Suffixes) with
    | true =>
     right
     rw [hst,if_pos rfl] at hres
     exact ⟨_,rfl,[],0,_,_,hres ▸ p2 hst,.inr rfl⟩
    | false =>
     rw [hst,if_neg (by simp)] at hres
     obtain ⟨z1,z2⟩:=lacks_free hst (by simp) (by omega)
     rw [any2] at z1
     rw [flat2] at z2
     rw [z1,z2]
     obtain ⟨l1,m1⟩:=nstuck hst (u++[a]) (by simp)
     obtain ⟨l2,m2⟩:=nstuck hst (r++[a]) (by simp)
     have hR1:=f1 l1 m1
     have hR2:=f2 l2 m2
     have hsm1:=row_sml hv ht hR1
     simp only [cond_false]
     rw [lazy_same_eq _ _ hsm1,obind]
     rw [hR1,hR2] at hres
     by_cases hR:R1=R2
     ·subst hR
      rw [decide_eq_true rfl]
      rw [if_neg (by simp)] at hres
      simp only [Option.getD_some] at hres
      rw [Bool.not_true,cond_false]
      rw [reader_first_eq ho hv ht hc hsm1,obind]
      cases hcl:clsW l o R1 with
      | none =>
       right
       rw [hcl] at hres
       exact ⟨_,rfl,[],10,[],false,.inr (.inl ⟨rfl,by decide,hres ▸ rfl⟩),.inr rfl⟩
      | some f =>
       have hf:=clsW_mem hcl
       have hfl:f.length≤30:=ht.pw f hf
       have hfs:SmW f:=by unfold SmW;omega
       rw [hcl] at hres
       simp only [Option.isSome_some,Bool.not_true,cond_false,Option.getD_some] at hres ⊢
       obtain ⟨s1,s2,s3⟩:=outR_spec (o:=o) (u++[a]) (b::v) [] false
       have hml2:=missB_len o (u++[a]) [b::v]
       simp only [List.length_singleton] at hml2
       obtain ⟨t1,t2,t3⟩:=outR_spec (o:=o) f (b::v) ([]++missB o (u++[a]) [b::v]) (false||longB (u++[a]) [b::v])
       rw [reader_outs_eq ho hv hub hv' (by simp),obind]
       simp only [s1,s2]
       rw [reader_outs_eq ho hv hfs hv' (by simp;omega),obind]
       simp only [t1,t2]
       rw [reader_lacks_eq,obind]
       simp only [List.nil_append,Bool.false_or]
       obtain ⟨p1,p2⟩:=miss_prog (o:=o) (ws:=[u++[a],f]) (S:=[b::v]) (by simp) (by simp) []
       rw [flat2,any2] at p1 p2
       rw [← p1]
       cases hst2:stuckB (missR o [u++[a],f] [b::v]) with
       | true =>
        right
        rw [hst2,if_pos rfl] at hres
        exact ⟨_,rfl,[],0,_,_,hres ▸ p2 hst2,.inr rfl⟩
       | false =>
        left
        rw [hst2,if_neg (by simp)] at hres
        obtain ⟨z1,z2⟩:=lacks_free hst2 (by simp) (by simp)
        rw [any2] at z1
        rw [flat2] at z2
        obtain ⟨l3,m3⟩:=nstuck hst2 (u++[a]) (by simp)
        obtain ⟨l4,m4⟩:=nstuck hst2 f (by simp)
        simp only [List.nil_append,Bool.false_or] at t3
        refine ⟨_,?_,⟨_,_,_,_,rfl,H.next ht hf _,hres⟩,by simp⟩
        have hta:=tailA_len hv (u++[a]) (b::v)
        simp only [List.length_cons] at hta
        rw [cond_false,s3 l3 m3,t3 l4 m4,slices_Equal_eq _ _ (by omega),obind,z1,z2]
        by_cases ht2:tailA o (u++[a]) (b::v)=tailA o f (b::v)
        ·rw [decide_eq_true ht2,Bool.not_true,cond_false,obind,chk_pos (cap_small (by omega)),if_pos ht2]
        ·rw [decide_eq_false ht2,Bool.not_false,cond_true,obind,chk_pos (cap_small (by omega)),if_neg ht2]
     ·right
      rw [decide_eq_false hR]
      rw [if_pos (by simpa using hR)] at hres
      exact ⟨_,rfl,A,0,[],false,.inr (.inr (.inr ⟨rfl,rfl,rfl,hres.symm⟩)),.inr rfl⟩) fuel (l.Inputs,l.Short,l.Suffixes,o.Inputs,o.Traces,[],false,u,v,r,[u]) ⟨u,v,r,[u],rfl,hA ▸ H,hA ▸ hres⟩ (by have:=fuel_big;have:=H.h3;simp only;omega)
 obtain ⟨q,e,added,err,M,b,hp,hq⟩:=key
 refine ⟨added,err,M,b,?_,hp⟩
 rw [e,obind]
 rcases hq with ⟨rfl,rfl⟩ | rfl
 ·rfl
 ·rfl
end
end Go.Proofs.YtedabpfahmealaaGreatDoor.Sym

/-
 The examples of the chapter on lazy learning, reckoned.
-/
namespace Go.Proofs.YtedabpfahmealaaGreatDoor.Sym
set_option maxRecDepth 100000
theorem awake28_true:L28_awake=some true:=by decide +kernel
end Go.Proofs.YtedabpfahmealaaGreatDoor.Sym

/-
 Lazy learning: a refinement, whole; the laws of steps, hypotheses and refinements. Plain laws.
-/
namespace Go.Proofs.YtedabpfahmealaaGreatDoor.Sym
set_option maxRecDepth 100000
section
variable {l:T_api_Lazy} {o:T_api_Obs}
theorem chain_added (ht:TabOk (lazT l)):∀ (v u r:List Int) (A:List (List Int)),ChOk l v u r A→(chainP l o v u r A).1.length≤1200∧∀ x∈(chainP l o v u r A).1,x.length≤2100∧RngW x
 | [],u,r,A,H=>⟨by have:=H.h3;exact Nat.le_trans (Nat.le_add_right _ _) this,H.h5⟩
 | [_],u,r,A,H=>⟨by have:=H.h3;exact Nat.le_trans (Nat.le_add_right _ _) this,H.h5⟩
 | a::b::v,u,r,A,H=>by
  have h0:∀ x:List (List Int)×Int,(([]:List (List Int)),x).1.length≤1200∧∀ y∈(([]:List (List Int)),x).1,y.length≤2100∧RngW y:=fun x=>⟨by simp,fun y hy=>by cases hy⟩
  rw [chainP_two]
  split
  ·exact h0 _
  ·split
   ·exact ⟨by have:=H.h3;exact Nat.le_trans (Nat.le_add_right _ _) this,H.h5⟩
   ·cases hcl:clsW l o ((rowO o (u++[a]) l.Suffixes).getD []) with
    | none=>exact h0 _
    | some f =>
     simp only
     split
     ·exact h0 _
     ·exact chain_added ht (b::v) _ _ _ (H.next ht (clsW_mem hcl) _)
theorem missR_sml {ws S:List (List Int)} (h1:ws.length≤100) (h2:S.length≤100):SmL (missR o ws S).1:=by
 have missL:∀ W:List (List Int),(W.flatMap fun w=>missO o w S).length≤100*W.length:=fun W=>by
  induction W with
  | nil=>simp
  | cons w W ih =>
   have:=missO_len o w S
   rw [List.flatMap_cons,List.length_append,List.length_cons]
   omega
 unfold missR
 cases ha:anyL ws S with
 | true=>exact sml_nil
 | false =>
  rw [if_neg (by simp)]
  refine ⟨by have:=maxR_length (ws.flatMap fun w=>missO o w S);have:=missL ws;simp only;omega,fun x hx=>?_⟩
  obtain ⟨w,hw,hx⟩:=List.mem_flatMap.1 (mem_maxR hx)
  have hf:longB w S=false:=by
   cases hb:longB w S with
   | false=>rfl
   | true=>rw [show anyL ws S=true from List.any_eq_true.2 ⟨w,hw,hb⟩] at ha;cases ha
  rw [← missB_short hf] at hx
  have:=missB_mem hx
  unfold SmW
  omega
theorem chain_ask (ht:TabOk (lazT l)):∀ (v u r:List Int) (A:List (List Int)),SmL (chainP l o v u r A).2.1
 | [],_,_,_=>sml_nil
 | [_],_,_,_=>sml_nil
 | a::b::v,u,r,A=>by
  have hs:l.Suffixes.length≤12:=ht.s
  rw [chainP_two]
  split
  ·exact missR_sml (by simp) (by omega)
  ·split
   ·exact sml_nil
   ·cases hcl:clsW l o ((rowO o (u++[a]) l.Suffixes).getD []) with
    | none=>exact sml_nil
    | some f =>
     simp only
     split
     ·exact missR_sml (by simp) (by simp)
     ·exact chain_ask ht (b::v) _ _ _
theorem refR_ask (ht:TabOk (lazT l)) (u v:List Int):SmL (refR l o u v).2.1:=by
 have hs:l.Suffixes.length≤12:=ht.s
 unfold refR
 split
 ·exact missR_sml (by simp) (by omega)
 ·cases hcl:clsW l o ((rowO o u l.Suffixes).getD []) with
  | none=>exact sml_nil
  | some f =>
   simp only
   split
   ·exact missR_sml (by simp) (by simp)
   ·split
    ·exact sml_nil
    ·exact chain_ask ht _ _ _ _
structure RefIn (u v:List Int):Prop where
 h1:u.length≤1025
 h2:v.length≤1024
 h3:RngW u
 h4:RngW v
theorem RefIn.ch {u v f:List Int} (H:RefIn u v) (ht:TabOk (lazT l)) (hf:f∈l.Short):ChOk l v u f [u] :=
 ⟨by have:=H.h1;have:=H.h2;omega,ht.pw f hf,by have:=H.h2;simp;omega,⟨H.h4,H.h3,ht.sm.2.2.2 f hf⟩,fun x hx=>by rw [List.mem_singleton.1 hx];exact ⟨by have:=H.h1;omega,H.h3⟩⟩
theorem refR_added (ht:TabOk (lazT l)) {u v:List Int} (H:RefIn u v):(refR l o u v).1.length≤1200∧∀ x∈(refR l o u v).1,x.length≤2100∧RngW x:=by
 have h0:∀ x:List (List Int)×Int,(([]:List (List Int)),x).1.length≤1200∧∀ y∈(([]:List (List Int)),x).1,y.length≤2100∧RngW y:=fun x=>⟨by simp,fun y hy=>by cases hy⟩
 unfold refR
 split
 ·exact h0 _
 ·cases hcl:clsW l o ((rowO o u l.Suffixes).getD []) with
  | none=>exact h0 _
  | some f =>
   simp only
   split
   ·exact h0 _
   ·split
    ·exact h0 _
    ·exact chain_added ht _ _ _ _ (H.ch ht (clsW_mem hcl))
theorem reader_refine_eq (ho:SmO o) (hv:ObsOk o) (ht:TabOk (lazT l)) (hc:chkL l o=0) {u v:List Int} (H:RefIn u v) :
  ∃ added err M b,lazy_reader_refine ⟨l,o,[],false⟩ u v=some (added,err,⟨l,o,M,b⟩)∧ProgOk (refR l o u v) added err M b:=by
 have hs:l.Suffixes.length≤12:=ht.s
 have h1:=H.h1
 have h2:=H.h2
 have hu:SmW u:=by unfold SmW;omega
 have hv':SmW v:=by unfold SmW;omega
 obtain ⟨R1,e1,f1⟩:=reader_row_eq (l:=l) (M:=[]) (b:=false) ho hv ht hu (by simp)
 unfold lazy_reader_refine refR
 rw [e1,obind]
 simp only [laz_eta,obs_eta]
 rw [reader_lacks_eq,obind]
 simp only [List.nil_append,Bool.false_or]
 obtain ⟨p1,p2⟩:=miss_prog (o:=o) (ws:=[u]) (S:=l.Suffixes) (by simp) (by omega) []
 rw [flat1,any1] at p1 p2
 rw [← p1]
 cases hst:stuckB (missR o [u] l.Suffixes) with
 | true=>exact ⟨[],0,_,_,rfl,by rw [if_pos rfl];exact p2 hst⟩
 | false =>
  rw [if_neg (by simp)]
  obtain ⟨z1,z2⟩:=lacks_free hst (by simp) (by omega)
  rw [any1] at z1
  rw [flat1] at z2
  rw [z1,z2]
  obtain ⟨l1,m1⟩:=nstuck hst u (by simp)
  have hR1:=f1 l1 m1
  have hsm1:=row_sml hv ht hR1
  simp only [cond_false]
  rw [reader_first_eq ho hv ht hc hsm1,obind,hR1,Option.getD_some]
  cases hcl:clsW l o R1 with
  | none=>exact ⟨[],10,[],false,rfl,.inr (.inl ⟨rfl,by decide,rfl⟩)⟩
  | some f =>
   have hf:=clsW_mem hcl
   have hfl:f.length≤30:=ht.pw f hf
   have hfs:SmW f:=by unfold SmW;omega
   simp only [Option.isSome_some,Bool.not_true,cond_false,Option.getD_some]
   obtain ⟨s1,s2,s3⟩:=outR_spec (o:=o) u v [] false
   have hml2:=missB_len o u [v]
   simp only [List.length_singleton] at hml2
   obtain ⟨t1,t2,t3⟩:=outR_spec (o:=o) f v ([]++missB o u [v]) (false||longB u [v])
   rw [reader_outs_eq ho hv hu hv' (by simp),obind]
   simp only [s1,s2]
   rw [reader_outs_eq ho hv hfs hv' (by simp;omega),obind]
   simp only [t1,t2]
   rw [reader_lacks_eq,obind]
   simp only [List.nil_append,Bool.false_or]
   obtain ⟨p1,p2⟩:=miss_prog (o:=o) (ws:=[u,f]) (S:=[v]) (by simp) (by simp) []
   rw [flat2,any2] at p1 p2
   rw [← p1]
   cases hst2:stuckB (missR o [u,f] [v]) with
   | true=>exact ⟨[],0,_,_,rfl,by rw [if_pos rfl];exact p2 hst2⟩
   | false =>
    rw [if_neg (by simp)]
    obtain ⟨z1,z2⟩:=lacks_free hst2 (by simp) (by simp)
    rw [any2] at z1
    rw [flat2] at z2
    obtain ⟨l3,m3⟩:=nstuck hst2 u (by simp)
    obtain ⟨l4,m4⟩:=nstuck hst2 f (by simp)
    simp only [List.nil_append,Bool.false_or] at t3
    have hta:=tailA_len hv u v
    rw [cond_false,s3 l3 m3,t3 l4 m4,slices_Equal_eq _ _ (by omega),obind,z1,z2]
    by_cases ht2:tailA o u v=tailA o f v
    ·rw [decide_eq_true ht2,cond_true,if_pos ht2]
     exact ⟨[],15,[],false,rfl,.inr (.inl ⟨rfl,by decide,rfl⟩)⟩
    ·rw [decide_eq_false ht2,cond_false,if_neg ht2]
     exact reader_chain_eq ho hv ht hc (H.ch ht hf) rfl
def properS (s:T_api_Split) (n:Int):Int:=if checkI s.Prefix n≠0 then checkI s.Prefix n else if s.Symbol<0∨n≤s.Symbol then 2 else if s.Suffix=[] then 19 else checkI s.Suffix n
theorem check_len {w:List Int} {n:Int} (h:checkI w n=0):w.length≤1024:=by
 unfold checkI at h
 split at h
 ·split at h
  ·cases h
  ·omega
 ·cases h
theorem or_step {R:Type} (a b:Prop) [Decidable a] [Decidable b] (k:Bool→Option R):((cond (decide a) (some true) (some (decide b)):Option Bool)).bind k=k (decide (a∨b)):=by
 by_cases h:a
 ·rw [decide_eq_true h,decide_eq_true (Or.inl h)];rfl
 ·rw [decide_eq_false h,cond_false,obind]
  congr 1
  simp [h]
theorem R27_Proper_eq {s:T_api_Split} {n:Int} (h1:SmW s.Prefix) (h2:SmW s.Suffix):R27_Proper s n=some (properS s n):=by
 unfold R27_Proper properS
 rw [R01_Check_eq _ _ h1,obind]
 by_cases c1:checkI s.Prefix n=0
 ·rw [decide_eq_false (by simpa using c1),cond_false,if_neg (by simpa using c1),or_step]
  by_cases c2:s.Symbol<0∨n≤s.Symbol
  ·rw [decide_eq_true c2,cond_true,if_pos c2]
  ·rw [decide_eq_false c2,cond_false,if_neg c2]
   by_cases c3:s.Suffix=[]
   ·rw [if_pos c3,c3]
    rfl
   ·rw [if_neg c3,decide_eq_false (fun h=>c3 (List.eq_nil_of_length_eq_zero (by omega))),cond_false,R01_Check_eq _ _ h2,obind]
 ·rw [decide_eq_true c1,cond_true,if_pos c1]
theorem proper_in {s:T_api_Split} {n:Int} (h:properS s n=0) (hn:n≤1024):RefIn (s.Prefix++[s.Symbol]) s.Suffix∧checkI s.Prefix n=0∧checkI s.Suffix n=0∧0≤s.Symbol∧s.Symbol<n∧s.Suffix≠[]:=by
 unfold properS at h
 split at h
 ·rename_i c;exact absurd h c
 ·rename_i c1
  have c1:checkI s.Prefix n=0:=Classical.not_not.1 c1
  split at h
  ·cases h
  ·rename_i c2
   split at h
   ·cases h
   ·rename_i c3
    have r1:RngW s.Prefix:=fun a ha=>by have:=check_mem c1 a ha;unfold inR;omega
    have r2:RngW s.Suffix:=fun a ha=>by have:=check_mem h a ha;unfold inR;omega
    have l1:=check_len c1
    have l2:=check_len h
    exact ⟨⟨by simp;omega,l2,r1.snoc (by unfold inR;omega),r2⟩,c1,h,by omega,by omega,c3⟩
def grownL (l:T_api_Lazy) (A:List (List Int)):T_api_Lazy:=⟨l.Inputs,sortW (l.Short++A),l.Suffixes⟩
def refineL (l:T_api_Lazy) (o:T_api_Obs) (s:T_api_Split):T_api_Lazy×List (List Int)×Int :=
 if chkL l o≠0 then (l,[],chkL l o) else if properS s l.Inputs≠0 then (l,[],properS s l.Inputs)
 else if stuckB (refR l o (s.Prefix++[s.Symbol]) s.Suffix).2=true then (l,(refR l o (s.Prefix++[s.Symbol]) s.Suffix).2)
 else if validL (grownL l (refR l o (s.Prefix++[s.Symbol]) s.Suffix).1)≠0 then (l,[],validL (grownL l (refR l o (s.Prefix++[s.Symbol]) s.Suffix).1))
 else (grownL l (refR l o (s.Prefix++[s.Symbol]) s.Suffix).1,[],0)
theorem grownL_sm (ht:TabOk (lazT l)) {A:List (List Int)} (h1:A.length≤1200) (h2:∀ x∈A,x.length≤2100∧RngW x):SmT (lazT (grownL l A)):=by
 have hp:l.Short.length≤30:=ht.p
 refine ⟨ht.sm.1,sml_sort (sml_append (by omega) ht.sm.2.1 ⟨by omega,fun x hx=>by have:=(h2 x hx).1;unfold SmW;omega⟩),ht.sm.2.2.1,fun x hx a ha=>?_⟩
 rcases List.mem_append.1 ((mem_sortW _ _).1 hx) with hx | hx
 ·exact ht.sm.2.2.2 x hx a ha
 ·exact (h2 x hx).2 a ha
theorem R28_Refine_eq (ho:SmO o) (hv:ObsOk o) (ht:TabOk (lazT l)) {s:T_api_Split} (h1:SmW s.Prefix) (h2:SmW s.Suffix):R28_Refine l o s=some (refineL l o s):=by
 have hs:l.Suffixes.length≤12:=ht.s
 have hS:SmL l.Suffixes:=ht.sm.2.2.1
 have hn:l.Inputs≤4:=ht.n
 have hp:l.Short.length≤30:=ht.p
 unfold R28_Refine refineL
 rw [R28_checked_eq ht.sm,obind]
 by_cases hc:chkL l o=0
 ·obtain ⟨_,_,_,hval⟩:=chk_laz hc
  obtain ⟨_,_,hAp,hAs,_⟩:=valid_asc hval
  rw [decide_eq_false (by simpa using hc),cond_false,if_neg (by simpa using hc),R27_Proper_eq h1 h2,obind]
  by_cases hpr:properS s l.Inputs=0
  ·rw [decide_eq_false (by simpa using hpr),cond_false,if_neg (by simpa using hpr)]
   obtain ⟨H,_⟩:=proper_in hpr (by omega)
   have hl1:=H.h1
   have hl2:=H.h2
   rw [R01_Join_eq _ (by simp) (by unfold SmW at h1;simp;omega),obind,two_flatW]
   generalize hu:s.Prefix++[s.Symbol]=u at H hl1 ⊢
   have hus:SmW u:=by unfold SmW;omega
   have hA:=refR_added (o:=o) ht H
   rw [R28_missing_eq ho hv (ws:=[u]) ⟨by simp,fun x hx=>by rw [List.mem_singleton.1 hx];exact hus⟩ (by simp) (by omega) hS,obind,stuck_step]
   generalize hres:refR l o u s.Suffix=res at hA ⊢
   unfold refR at hres
   cases hst:stuckB (missR o [u] l.Suffixes) with
   | true =>
    rw [hst,if_pos rfl] at hres
    rw [cond_true,← hres,if_pos hst]
   | false =>
    rw [hst,if_neg (by simp)] at hres
    obtain ⟨_,m1⟩:=nstuck hst u (by simp)
    obtain ⟨R1,hR1⟩:=miss_row m1
    rw [hR1,Option.getD_some] at hres
    rw [cond_false]
    rcases R28_class_eq ho hv ht hc hus hR1 with ⟨q1,q2⟩ | ⟨i,f,q1,q2,q3,q4⟩
    ·rw [q2] at hres
     rw [q1,obind,← hres]
     rfl
    ·have hf:=clsW_mem q3
     have hfl:f.length≤30:=ht.pw f hf
     have hfs:SmW f:=by unfold SmW;omega
     rw [q3] at hres
     simp only at hres
     rw [q1,obind,decide_eq_false (by omega),cond_false,idx_at rfl q2,R28_missing_eq ho hv (sml_two hus hfs) (by simp) (by simp) (⟨by simp,fun x hx=>by rw [List.mem_singleton.1 hx];exact h2⟩),obind,stuck_step]
     cases hst2:stuckB (missR o [u,f] [s.Suffix]) with
     | true =>
      rw [hst2,if_pos rfl] at hres
      rw [cond_true,← hres,if_pos hst2]
     | false =>
      rw [hst2,if_neg (by simp)] at hres
      rw [cond_false,idx_at rfl q2,R28_differ_eq ho hv hus hfs h2 (by omega),obind]
      by_cases ht2:tailA o u s.Suffix=tailA o f s.Suffix
      ·rw [if_pos ht2] at hres
       rw [decide_eq_true ht2,Bool.not_true,Bool.not_false,cond_true,← hres]
       rfl
      ·rw [if_neg ht2] at hres
       rw [decide_eq_false ht2,Bool.not_false,Bool.not_true,cond_false,idx_at rfl q2,R28_chain_eq ho hv ht hc (H.ch ht hf) rfl,hres,obind,stuck_step]
       cases hst3:stuckB res.2 with
       | true=>rw [cond_true,if_pos rfl]
       | false =>
        have hsm:=grownL_sm ht hA.1 hA.2
        rw [cond_false,if_neg (by simp)]
        have hW:R23_With ⟨l.Inputs,l.Short,l.Suffixes⟩ res.1 []=some ⟨l.Inputs,sortW (l.Short++res.1),l.Suffixes⟩:=by
         have h:=R23_With_eq (t:=lazT l) (p:=res.1) (s:=[]) ht.sm.2.1 hS ⟨by omega,fun x hx=>by have:=(hA.2 x hx).1;unfold SmW;omega⟩ sml_nil (by have:(lazT l).Prefixes.length≤30:=hp;omega) (by have:(lazT l).Suffixes.length≤12:=hs;simp;omega)
         rw [show (⟨l.Inputs,l.Short,l.Suffixes⟩:T_api_Table)=lazT l from rfl,h]
         show some (⟨l.Inputs,sortW (l.Short++res.1),sortW (l.Suffixes++[])⟩:T_api_Table)=_
         rw [List.append_nil,sortW_of_asc (l:=l.Suffixes) hAs]
        unfold R28_Table R28_Of
        rw [obind,hW,obind,obind]
        simp only
        rw [show (⟨l.Inputs,sortW (l.Short++res.1),l.Suffixes⟩:T_api_Lazy)=grownL l res.1 from rfl,R28_Valid_eq hsm,obind]
        by_cases c5:validL (grownL l res.1)=0
        ·rw [decide_eq_false (by simpa using c5),cond_false,if_neg (by simpa using c5)]
        ·rw [decide_eq_true c5,cond_true,if_pos c5]
  ·rw [decide_eq_true hpr,cond_true,if_pos hpr]
 ·rw [decide_eq_true hc,cond_true,if_pos hc]
theorem with_all (ht:TabOk (lazT l)) (hAp:Asc l.Short) {A:List (List Int)} (h1:A.length≤1200) (h2:∀ x∈A,x.length≤2100∧RngW x) (c:List (List Int)×Int×T_lazy_reader) (hcA:c.1=A) :
  iter (fun (s:List (List Int)×Nat)=>lazy_Refine.s2 c s.1 s.2) fuel (l.Short,0)=some (sortW (l.Short++A)):=by
 have hp:l.Short.length≤30:=ht.p
 have hmem:∀ i x,x∈(A.take i).foldl insW l.Short→x∈l.Short∨x∈A:=fun i x hx=>((foldl_insW (A.take i) l.Short hAp).2.1 x).1 hx |>.imp_right List.mem_of_mem_take
 refine iter_eq (fun s=>s.2≤A.length∧s.1=(A.take s.2).foldl insW l.Short) (fun s=>A.length-s.2) (fun s ⟨g1,g2⟩=>?_) ⟨Nat.zero_le _,rfl⟩ (by have:=fuel_big;simp only;omega)
 obtain ⟨y,i⟩:=s
 simp only at g1 g2
 subst g2
 obtain ⟨q1,q2,q3⟩:=foldl_insW (A.take i) l.Short hAp
 simp only [lazy_Refine.s2]
 rw [hcA]
 by_cases g3:i<A.length
 ·left
  have hx:=get_at g3
  have hlx:=h2 _ (List.getElem_mem g3)
  refine ⟨((A.take (i+1)).foldl insW l.Short,i+1),?_,⟨g3,rfl⟩,by simp only;omega⟩
  rw [dec_lt hx,cond_true,idxn_at hx,lazy_with_eq q1 ⟨by rw [List.length_take] at q3;omega,fun x hx=>?_⟩ (by unfold SmW;omega),obind,take_step hx,List.foldl_append]
  ·rfl
  ·rcases hmem i x hx with h | h
   ·exact ht.sm.2.1.2 x h
   ·have:=(h2 x h).1
    unfold SmW
    omega
 ·right
  have e:i=A.length:=by omega
  subst e
  rw [decide_eq_false (by omega),cond_false,List.take_length,sortW_append,sortW_of_asc hAp]
theorem lazy_Refine_eq (ho:SmO o) (hv:ObsOk o) (ht:TabOk (lazT l)) {s:T_api_Split} (h1:SmW s.Prefix) (h2:SmW s.Suffix):lazy_Refine l o s=some (refineL l o s):=by
 have hS:SmL l.Suffixes:=ht.sm.2.2.1
 have hn:l.Inputs≤4:=ht.n
 unfold lazy_Refine refineL
 rw [lazy_check_eq ht.sm,obind]
 by_cases hc:chkL l o=0
 ·obtain ⟨_,_,_,hval⟩:=chk_laz hc
  obtain ⟨_,_,hAp,hAs,_⟩:=valid_asc hval
  rw [decide_eq_false (by simpa using hc),cond_false,if_neg (by simpa using hc),word_Check_eq _ _ h1,obind]
  by_cases hpr:properS s l.Inputs=0
  ·rw [if_neg (by simpa using hpr)]
   obtain ⟨H,c1,c2,c3,c4,c5⟩:=proper_in hpr (by omega)
   rw [decide_eq_false (by simpa using c1),cond_false,or_step,decide_eq_false (by omega),cond_false,decide_eq_false (fun h=>c5 (List.eq_nil_of_length_eq_zero (by omega))),cond_false,word_Check_eq _ _ h2,obind,decide_eq_false (by simpa using c2),cond_false]
   rw [word_Join_eq _ (by simp) (by unfold SmW at h1;simp;omega),obind,two_flatW]
   obtain ⟨added,err,M,b,e,P⟩:=reader_refine_eq ho hv ht hc H
   have hA:=refR_added (o:=o) ht H
   rw [e,obind]
   generalize refR l o (s.Prefix++[s.Symbol]) s.Suffix=res at P hA ⊢
   rcases P with ⟨rfl,p⟩ | ⟨rfl,p1,p2⟩ | ⟨rfl,rfl,p1,p2,p3⟩ | ⟨rfl,rfl,rfl,rfl⟩
   ·simp only [cond_true]
    rw [p]
    rfl
   ·simp only [cond_false]
    rw [decide_eq_true p1,cond_true,p2]
    unfold stuckB
    rw [decide_eq_true p1]
    rfl
   ·simp only [cond_false,ne_eq,not_true_eq_false,decide_false]
    rw [decide_eq_true (pos_len p1),cond_true,wordset_Maximal_eq p2,obind,p3]
    have hne:maxR M≠[]:=fun h=>p1 (maxR_nil.1 h)
    rw [if_pos (by unfold stuckB;simp [hne])]
   ·have hsm:=grownL_sm ht hA.1 hA.2
    simp only [cond_false,ne_eq,not_true_eq_false,decide_false,List.length_nil,Int.natCast_zero,Int.ofNat_zero,Int.lt_irrefl]
    rw [with_all ht hAp hA.1 hA.2 _ rfl,obind,show (⟨l.Inputs,sortW (l.Short++added),l.Suffixes⟩:T_api_Lazy)=grownL l added from rfl,lazy_valid_eq hsm,obind]
    have hst:stuckB (([]:List (List Int)),(0:Int))=false:=rfl
    rw [hst,if_neg (by simp)]
    by_cases c5:validL (grownL l added)=0
    ·rw [decide_eq_false (by simpa using c5),cond_false,if_neg (by simpa using c5),lazy_fresh_eq hsm.2.1 hS,obind]
    ·rw [decide_eq_true c5,cond_true,if_pos c5]
  ·rw [if_pos hpr]
   unfold properS at hpr ⊢
   by_cases c1:checkI s.Prefix l.Inputs=0
   ·rw [if_neg (by simpa using c1)] at hpr ⊢
    rw [decide_eq_false (by simpa using c1),cond_false,or_step]
    by_cases c2:s.Symbol<0∨l.Inputs≤s.Symbol
    ·rw [if_pos c2,decide_eq_true c2]
     rfl
    ·rw [if_neg c2] at hpr ⊢
     rw [decide_eq_false c2,cond_false]
     by_cases c3:s.Suffix=[]
     ·rw [if_pos c3,c3]
      rfl
     ·rw [if_neg c3] at hpr ⊢
      rw [decide_eq_false (fun h=>c3 (List.eq_nil_of_length_eq_zero (by omega))),cond_false,word_Check_eq _ _ h2,obind,decide_eq_true hpr,cond_true]
   ·rw [if_pos c1,decide_eq_true c1,cond_true]
 ·rw [decide_eq_true hc,cond_true,if_pos hc]
theorem refineL_ok (ht:TabOk (lazT l)) {s:T_api_Split}:SmL (refineL l o s).1.Short∧SmL (refineL l o s).1.Suffixes∧SmL (refineL l o s).2.1:=by
 have h0:∀ x:Int,SmL (l,([]:List (List Int)),x).1.Short∧SmL (l,([]:List (List Int)),x).1.Suffixes∧SmL (l,([]:List (List Int)),x).2.1:=fun x=>⟨ht.sm.2.1,ht.sm.2.2.1,sml_nil⟩
 have hn:l.Inputs≤4:=ht.n
 unfold refineL
 split
 ·exact h0 _
 ·split
  ·exact h0 _
  ·rename_i hpr
   obtain ⟨H,_⟩:=proper_in (Classical.not_not.1 hpr) (by omega)
   have hA:=refR_added (o:=o) ht H
   split
   ·exact ⟨ht.sm.2.1,ht.sm.2.2.1,refR_ask ht _ _⟩
   ·split
    ·exact h0 _
    ·have:=grownL_sm ht hA.1 hA.2
     exact ⟨this.2.1,this.2.2.1,sml_nil⟩
end
theorem plain_LazyRefines (l:T_api_Lazy) (o:T_api_Obs) (s:T_api_Split) (ht:SmT (lazT l)) (ho:SmO o) (h1:SmW s.Prefix) (h2:SmW s.Suffix):L28_LazyRefines l o s=some true:=by
 obtain ⟨b,hg,hb⟩:=L28_great_eq l o ht ho
 unfold L28_LazyRefines
 rw [hg,awake28_true,obind]
 cases b with
 | true=>rfl
 | false =>
  obtain ⟨hT,hv⟩:=hb rfl
  obtain ⟨k1,k2,k3⟩:=refineL_ok (o:=o) hT (s:=s)
  rw [cond_false,or_step]
  cases decide (1100<(↑(List.length s.Prefix):Int)∨1100<(↑(List.length s.Suffix):Int)) with
  | true=>rfl
  | false =>
   rw [cond_false,lazy_Refine_eq ho hv hT h1 h2,R28_Refine_eq ho hv hT h1 h2,obind,obind,R28_Same_eq _ _ k1 k2,R01_SameWords_eq _ _ k3]
   simp
end Go.Proofs.YtedabpfahmealaaGreatDoor.Sym

/-
 The law of LazyRefines, for arguments within the bound.
-/
namespace Go.Proofs.YtedabpfahmealaaGreatDoor.Sym
theorem law_L28_LazyRefines (x0:T_api_Lazy) (x1:T_api_Obs) (x2:T_api_Split) (k0:ok_api_Lazy x0) (s0:sz_api_Lazy x0≤1048576) (k1:ok_api_Obs x1) (s1:sz_api_Obs x1≤1048576) (k2:ok_api_Split x2) (s2:sz_api_Split x2≤1048576):L28_LazyRefines x0 x1 x2=some true :=
 plain_LazyRefines x0 x1 x2 (lzt_of k0 s0) (smo_of s1) (spl_of s2).1 (spl_of s2).2
end Go.Proofs.YtedabpfahmealaaGreatDoor.Sym

/-
 Votes: what nondet.Vote and Distinct answer.
-/
import Derived.Test.YtmcfpohmiabmpaaGreatDoorM3
import Derived.Maps.RangeRun
import Derived.StillTailTactics
set_option linter.all false
namespace Go.Proofs.YtmcfpohmiabmpaaGreatDoor.Sym
set_option maxRecDepth 100000
theorem Great_r (l:List (List Int)):∃ b,R02_Great l 40 40=some b∧(b=false→l.length≤40∧∀ x∈l,x.length≤40):=by
 unfold R02_Great
 have key:=iter_post (step:=fun s=>R02_Great.s2 l 40 40 s) (fun k=>k≤l.length∧k≤41∧∀ x∈l.take k,x.length≤40) (fun k=>42-k)
  (fun r=>match r with | .inl ()=>l.length≤40→∀ x∈l,x.length≤40 | .inr b=>b=true) (fun k ⟨g1,g2,g3⟩=>by
   simp only [R02_Great.s2]
   by_cases h:k<l.length
   ·have hx:=get_at h
    rw [dec_lt hx,cond_true,obind]
    by_cases h2:k≤40
    ·rw [decide_eq_true (by omega:(↑k:Int)≤40),cond_true,idxn_at hx]
     by_cases h3:40<l[k].length
     ·right
      exact ⟨.inr true,by rw [decide_eq_true (by omega),cond_true],rfl⟩
     ·left
      refine ⟨k+1,by rw [decide_eq_false (by omega),cond_false,chk_pos (by unfold inR;omega)],⟨h,by omega,fun x hx'=>?_⟩,by omega⟩
      rw [take_step hx] at hx'
      rcases List.mem_append.1 hx' with hx' | hx'
      ·exact g3 x hx'
      ·rw [List.mem_singleton.1 hx'];omega
    ·right
     exact ⟨.inl (),by rw [decide_eq_false (by omega:¬ (↑k:Int)≤40),cond_false],fun h4=>by omega⟩
   ·right
    have e:k=l.length:=by omega
    subst e
    refine ⟨.inl (),by rw [dec_end,cond_false,obind,cond_false],fun _ x hx=>g3 x (by rw [List.take_length];exact hx)⟩) fuel 0 ⟨Nat.zero_le _,by omega,by simp⟩
 obtain ⟨r,e,hq⟩:=key (by have:=fuel_big;omega)
 rw [e,obind]
 cases r with
 | inl u =>
  have hq:l.length≤40→∀ x∈l,x.length≤40:=hq
  refine ⟨_,rfl,fun hb=>?_⟩
  have:=of_decide_eq_false hb
  exact ⟨by omega,hq (by omega)⟩
 | inr b =>
  have hq:b=true:=hq
  exact ⟨_,rfl,fun hb=>by rw [hq] at hb;cases hb⟩
theorem vote_iter' {l:List (List Int)} {need:Int} (hl:l.length≤100000) (hw:∀ x∈l,WrdOk x) :
  iter (fun (s:List (ByteArray×Int)×Nat)=>nondet_Vote.s2 l need s.1 s.2) fuel ([],0)=some (match voteF need [] l with | some w=>.inr (w,0) | none=>.inl ()):=by
 have key:∀ (n i:Nat) (m:List (ByteArray×Int)),i≤l.length→(∀ w,(mget (bk w) m).getD 0=(↑((l.take i).count w):Int))→l.length-i<n→iter (fun (s:List (ByteArray×Int)×Nat)=>nondet_Vote.s2 l need s.1 s.2) n (m,i)=some (match voteF need (l.take i) (l.drop i) with | some w=>.inr (w,0) | none=>.inl ()):=by
  intro n
  induction n with
  | zero=>intro i m _ _ h;omega
  | succ n ih =>
   intro i m hi hm hn
   unfold iter
   simp only [nondet_Vote.s2]
   rcases Nat.lt_or_ge i l.length with h | h
   ·have hx:=get_at h
    have hk:=hw _ (List.getElem_mem h)
    have hc:(l.take (i+1)).count l[i]=(l.take i).count l[i]+1:=by
     rw [take_step hx,List.count_append]
     simp
    have hcl:(l.take i).count l[i]≤l.length:=Nat.le_trans List.count_le_length (by rw [List.length_take];omega)
    rw [dec_lt hx,cond_true,idxn_at hx,nondet_key_eq hk,obind,hm,chk_pos (by unfold inR;omega),mget_mset_same ba_beq,Option.getD_some,List.drop_eq_getElem_cons h]
    unfold voteF
    rw [← take_step hx,hc]
    by_cases g:(↑((l.take i).count l[i]):Int)+1=need
    ·rw [decide_eq_true g,cond_true,libclone_word (by have:=hk.1;unfold SmW;omega),obind,if_pos (by omega)]
    ·rw [decide_eq_false g,cond_false,if_neg (by omega)]
     refine ih (i+1) _ h (fun w=>?_) (by omega)
     by_cases e:l[i]=w
     ·rw [← e,mget_mset_same ba_beq,Option.getD_some,hc]
      rfl
     ·rw [mget_mset_ne ba_beq (fun e2=>e (bk_inj e2).symm),hm,take_step hx,List.count_append]
      simp [e]
   ·have e:i=l.length:=by omega
    subst e
    rw [dec_end,cond_false,List.drop_length]
    rfl
 have:=key fuel 0 [] (Nat.zero_le _) (fun w=>by simp [mget]) (by have:=fuel_big;omega)
 rw [List.take_zero,List.drop_zero] at this
 exact this
def voteR (l:List (List Int)) (need:Int):List Int×Int:=if need<1∨9<need then ([],2) else match voteF need [] l with | some w=>(w,0) | none=>([],13)
theorem nondet_Vote_eq {l:List (List Int)} {need:Int} (hl:l.length≤100000) (hw:∀ x∈l,WrdOk x):nondet_Vote l need=some (voteR l need):=by
 unfold nondet_Vote voteR
 by_cases h1:need<1
 ·rw [decide_eq_true h1,cond_true,obind,cond_true,if_pos (.inl h1)]
 ·rw [decide_eq_false h1,cond_false,obind]
  by_cases h2:9<need
  ·rw [decide_eq_true h2,cond_true,if_pos (.inr h2)]
  ·rw [decide_eq_false h2,cond_false,if_neg (by omega),vote_iter' hl hw,obind]
   cases voteF need [] l<;>rfl
def cntsW (l:List (List Int)):List Int:=(sortW l).map fun w=>(↑(l.count w):Int)
theorem mdel_keys {κ ν:Type} [BEq κ] (k:κ):∀ m:List (κ×ν),(mdel k m).map (·.1)=(m.map (·.1)).eraseP (k==·)
 | []=>rfl
 | p::m=>by
  unfold mdel
  rw [List.map_cons,List.eraseP_cons]
  cases h:k==p.1 with
  | true=>rfl
  | false =>
   simp only [List.map_cons,mdel_keys k m]
   rfl
theorem mget_mdel_ne {ν:Type} {k k':ByteArray} (h:k'≠k):∀ m:List (ByteArray×ν),mget k' (mdel k m)=mget k' m
 | []=>rfl
 | p::m=>by
  unfold mdel
  cases e:k==p.1 with
  | true =>
   simp only
   have e1:k=p.1:=(ba_beq _ _).1 e
   have e2:(k'==p.1)=false:=by
    cases e3:k'==p.1 with
    | false=>rfl
    | true=>exact absurd (((ba_beq _ _).1 e3).trans e1.symm) h
   show _=(match k'==p.1 with | true=>some p.2 | false=>mget k' m)
   rw [e2]
  | false =>
   show (match k'==p.1 with | true=>some p.2 | false=>mget k' (mdel k m))=(match k'==p.1 with | true=>some p.2 | false=>mget k' m)
   rw [mget_mdel_ne h m]
theorem mget_none {ν:Type} {k:ByteArray}:∀ {m:List (ByteArray×ν)},k∉m.map (·.1)→mget k m=none
 | [],_=>rfl
 | p::m,h=>by
  simp only [List.map_cons,List.mem_cons,not_or] at h
  have e2:(k==p.1)=false:=by
   cases e3:k==p.1 with
   | false=>rfl
   | true=>exact absurd ((ba_beq _ _).1 e3) h.1
  show (match k==p.1 with | true=>some p.2 | false=>mget k m)=none
  rw [e2]
  exact mget_none h.2
theorem mget_mdel_same {ν:Type} {k:ByteArray}:∀ {m:List (ByteArray×ν)},(m.map (·.1)).Nodup→mget k (mdel k m)=none
 | [],_=>rfl
 | p::m,h=>by
  rw [List.map_cons,List.nodup_cons] at h
  unfold mdel
  cases e:k==p.1 with
  | true =>
   simp only
   exact mget_none (by rw [(ba_beq _ _).1 e];exact h.1)
  | false =>
   show (match k==p.1 with | true=>some p.2 | false=>mget k (mdel k m))=none
   rw [e]
   exact mget_mdel_same h.2
theorem mset_nodup {ν:Type} {k:ByteArray} {v:ν}:∀ {m:List (ByteArray×ν)},(m.map (·.1)).Nodup→((mset k v m).map (·.1)).Nodup∧∀ x,x∈(mset k v m).map (·.1)→x=k∨x∈m.map (·.1)
 | [],_=>⟨by simp [mset],fun x hx=>by simpa [mset] using hx⟩
 | p::m,h=>by
  rw [List.map_cons,List.nodup_cons] at h
  obtain ⟨h1,h2⟩:=mset_nodup (k:=k) (v:=v) h.2
  unfold mset
  cases e:k==p.1 with
  | true =>
   have e1:k=p.1:=(ba_beq _ _).1 e
   simp only [List.map_cons]
   exact ⟨List.nodup_cons.2 ⟨by rw [e1];exact h.1,h.2⟩,fun x hx=>by rw [← e1];exact .inr (by simpa using hx)⟩
  | false =>
   have e1:p.1≠k:=fun e1=>by rw [e1,(ba_beq k k).2 rfl] at e;cases e
   simp only [List.map_cons]
   refine ⟨List.nodup_cons.2 ⟨fun hm=>?_,h1⟩,fun x hx=>?_⟩
   ·rcases h2 _ hm with h3 | h3
    ·exact e1 h3
    ·exact h.1 h3
   ·rcases List.mem_cons.1 hx with rfl | hx
    ·exact .inr List.mem_cons_self
    ·rcases h2 x hx with h3 | h3
     ·exact .inl h3
     ·exact .inr (List.mem_cons_of_mem _ h3)
theorem mdel_nodup {ν:Type} {k:ByteArray} {m:List (ByteArray×ν)} (h:(m.map (·.1)).Nodup):((mdel k m).map (·.1)).Nodup:=by
 rw [mdel_keys]
 exact h.sublist List.eraseP_sublist
theorem nondet_Distinct_eq {l:List (List Int)} (hl:l.length≤100000) (hw:∀ x∈l,WrdOk x):nondet_Distinct l=some (sortW l,cntsW l):=by
 have hsm:SmL l:=⟨by omega,fun x hx=>by have:=(hw x hx).1;unfold SmW;omega⟩
 unfold nondet_Distinct
 have key1:=iter_post (step:=fun (s:List (ByteArray×Int)×Nat)=>nondet_Distinct.s2 l s.1 s.2) (fun s=>s.2≤l.length∧(s.1.map (·.1)).Nodup∧∀ w,mget (bk w) s.1=if w∈l.take s.2 then some (↑((l.take s.2).count w):Int) else none) (fun s=>l.length-s.2)
  (fun m=>(m.map (·.1)).Nodup∧∀ w,mget (bk w) m=if w∈l then some (↑(l.count w):Int) else none) (fun ⟨m,i⟩ ⟨g1,g2,g3⟩=>by
   simp only at g1 g2 g3
   simp only [nondet_Distinct.s2]
   by_cases h:i<l.length
   ·left
    have hx:=get_at h
    have hk:=hw _ (List.getElem_mem h)
    have hg:(mget (bk l[i]) m).getD 0=(↑((l.take i).count l[i]):Int):=by
     rw [g3]
     by_cases e:l[i]∈l.take i
     ·rw [if_pos e];rfl
     ·rw [if_neg e,List.count_eq_zero_of_not_mem e];rfl
    have hcl:(l.take i).count l[i]≤l.length:=Nat.le_trans List.count_le_length (by rw [List.length_take];omega)
    refine ⟨(mset (bk l[i]) ((mget (bk l[i]) m).getD 0+1) m,i+1),?_,⟨h,(mset_nodup g2).1,fun w=>?_⟩,by simp only;omega⟩
    ·rw [dec_lt hx,cond_true,idxn_at hx,nondet_key_eq hk,obind,chk_pos (by rw [hg];unfold inR;omega)]
    ·simp only
     rw [take_step hx,hg]
     by_cases e:l[i]=w
     ·rw [← e,mget_mset_same ba_beq,if_pos (List.mem_append_right _ (List.mem_singleton.2 rfl)),List.count_append]
      simp
     ·rw [mget_mset_ne ba_beq (fun e2=>e (bk_inj e2).symm),g3,List.count_append]
      have e4:w≠l[i]:=fun e5=>e e5.symm
      by_cases e3:w∈l.take i
      ·rw [if_pos e3,if_pos (List.mem_append_left _ e3)]
       simp [e]
      ·rw [if_neg e3,if_neg (fun h5=>(List.mem_append.1 h5).elim e3 fun h6=>e4 (List.mem_singleton.1 h6))]
   ·right
    have e:i=l.length:=by omega
    subst e
    rw [List.take_length] at g3
    exact ⟨m,by rw [dec_end,cond_false],g2,g3⟩) fuel ([],0) ⟨Nat.zero_le _,by simp,fun w=>by simp [mget]⟩ (by have:=fuel_big;simp only;omega)
 obtain ⟨m,e1,hm1,hm2⟩:=key1
 rw [e1,obind,libclone_words hsm.1,obind]
 obtain ⟨S,e2,hp,hs⟩:=libSort_eq cmpW_total (f:=fun u0 u1=>word_Compare u0 u1) (l:=l) (by omega) (fun a ha b _=>word_Compare_eq a b (by have:=(hw a ha).1;omega))
 unfold lib_SortFunc_words
 rw [e2,obind]
 have hlen:=hp.length_eq
 have key2:=iter_post (step:=fun (s:List (ByteArray×Int)×List (List Int)×List Int×Nat)=>nondet_Distinct.s4 S s.1 s.2.1 s.2.2.1 s.2.2.2)
  (fun s=>s.2.2.2≤S.length∧(s.1.map (·.1)).Nodup∧(∀ w,mget (bk w) s.1=if w∈l∧w∉S.take s.2.2.2 then some (↑(l.count w):Int) else none)∧Asc s.2.1∧(∀ x,x∈s.2.1↔x∈S.take s.2.2.2)∧s.2.2.1=s.2.1.map (fun w=>(↑(l.count w):Int))∧s.2.1.length≤s.2.2.2)
  (fun s=>S.length-s.2.2.2) (fun r=>r=(sortW l,cntsW l)) (fun ⟨m,out,cs,i⟩ ⟨g1,g2,g3,g4,g5,g6,g7⟩=>by
   simp only at g1 g2 g3 g4 g5 g6 g7
   simp only [nondet_Distinct.s4]
   by_cases h:i<S.length
   ·left
    have hx:=get_at h
    have hxl:S[i]∈l:=hp.mem_iff.1 (List.getElem_mem h)
    have hk:=hw _ hxl
    rw [dec_lt hx,cond_true,idxn_at hx,nondet_key_eq hk,obind]
    by_cases e:S[i]∈S.take i
    ·refine ⟨(m,out,cs,i+1),?_,⟨h,g2,fun w=>?_,g4,fun x=>?_,g6,by simp only;omega⟩,by simp only;omega⟩
     ·rw [g3,if_neg (fun h2=>h2.2 e)]
      rfl
     ·simp only
      rw [g3,take_step hx]
      have:w∈S.take i++[S[i]]↔w∈S.take i:=by
       rw [List.mem_append,List.mem_singleton]
       exact ⟨fun h2=>h2.elim id fun h3=>by rw [h3];exact e,.inl⟩
      simp only [this]
     ·simp only
      rw [g5,take_step hx,List.mem_append,List.mem_singleton]
      exact ⟨.inl,fun h2=>h2.elim id fun h3=>by rw [h3];exact e⟩
    ·have hg:mget (bk S[i]) m=some (↑(l.count S[i]):Int):=by rw [g3,if_pos ⟨hxl,e⟩]
     refine ⟨(mdel (bk S[i]) m,out++[S[i]],cs++[(↑(l.count S[i]):Int)],i+1),?_,⟨h,mdel_nodup g2,fun w=>?_,?_,fun x=>?_,?_,?_⟩,by simp only;omega⟩
     ·rw [hg]
      show (cond true _ _)=_
      rw [cond_true,libclone_word (hsm.2 _ hxl),obind,chk_pos (by unfold capOk;omega),chk_pos (by rw [g6,List.length_map];unfold capOk;omega)]
      rfl
     ·simp only
      rw [take_step hx]
      by_cases e3:w=S[i]
      ·rw [e3,mget_mdel_same g2,if_neg (fun h2=>h2.2 (List.mem_append_right _ (List.mem_singleton.2 rfl)))]
      ·rw [mget_mdel_ne (fun e4=>e3 (bk_inj e4)),g3]
       have:w∈S.take i++[S[i]]↔w∈S.take i:=⟨fun h5=>(List.mem_append.1 h5).elim id fun h6=>absurd (List.mem_singleton.1 h6) e3,List.mem_append_left _⟩
       simp only [this]
     ·show Asc (out++[S[i]])
      unfold Asc
      rw [List.pairwise_append]
      refine ⟨g4,by simp,fun a ha b hb=>?_⟩
      rw [List.mem_singleton.1 hb]
      have ha:=(g5 a).1 ha
      obtain ⟨j,hj⟩:=List.getElem?_of_mem ha
      have hji:j<i:=by have:=(List.getElem?_eq_some_iff.1 hj).1;simp at this;omega
      have hja:S[j]?=some a:=by rw [List.getElem?_take] at hj;rw [if_pos hji] at hj;exact hj
      have hjl:j<S.length:=by omega
      have hja':S[j]=a:=by rw [List.getElem?_eq_getElem hjl] at hja;exact Option.some.inj hja
      have h3:=(List.pairwise_iff_getElem.1 hs) j i hjl h hji
      rw [hja'] at h3
      have hne:a≠S[i]:=fun e5=>e (by rw [← e5];exact ha)
      rcases cmpW_range a S[i] with h4 | h4 | h4
      ·exact h4
      ·exact absurd ((cmpW_zero _ _).1 h4) hne
      ·have:=cmpW_swap a S[i]
       omega
     ·simp only
      rw [List.mem_append,g5,take_step hx,List.mem_append]
     ·simp only
      rw [g6,List.map_append]
      rfl
     ·simp only [List.length_append,List.length_cons,List.length_nil]
      omega
   ·right
    have e:i=S.length:=by omega
    subst e
    rw [List.take_length] at g5
    have ho:out=sortW l:=asc_ext g4 (sortW_asc l) fun x=>by rw [g5,hp.mem_iff,mem_sortW]
    exact ⟨_,by rw [dec_end,cond_false],by rw [g6,ho];rfl⟩) fuel (m,[],[],0) ⟨Nat.zero_le _,hm1,fun w=>by rw [hm2];simp,List.Pairwise.nil,fun x=>by simp,rfl,Nat.le_refl _⟩ (by have:=fuel_big;simp only;omega)
 obtain ⟨r,e3,rfl⟩:=key2
 rw [e3,obind]
 rfl
end Go.Proofs.YtmcfpohmiabmpaaGreatDoor.Sym

/-
 The majority: the law without the reference.
-/
namespace Go.Proofs.YtmcfpohmiabmpaaGreatDoor.Sym
set_option maxRecDepth 100000
theorem voteF_app {need:Int} {v:List Int} {r2:List (List Int)}:∀ {r1 pre:List (List Int)},voteF need pre r1=some v→voteF need pre (r1++r2)=some v
 | [],_,h=>by cases h
 | w::r1,pre,h=>by
  rw [List.cons_append]
  unfold voteF at h ⊢
  split
  ·rename_i g
   rw [if_pos g] at h
   exact h
  ·rename_i g
   rw [if_neg g] at h
   exact voteF_app h
theorem voteF_none {need:Int}:∀ {r pre:List (List Int)},voteF need pre r=none→Few need pre→Few need (pre++r)
 | [],pre,_,hf=>by rw [List.append_nil];exact hf
 | w::r,pre,h,hf=>by
  unfold voteF at h
  split at h
  ·cases h
  ·rename_i g
   have h1:=hf w
   have h2:(pre++[w]).count w=pre.count w+1:=by rw [List.count_append];simp
   have:=voteF_none h (few_add hf (by omega))
   rw [List.append_assoc] at this
   exact this
theorem voteF_some {need:Int} {v:List Int}:∀ {r pre:List (List Int)},voteF need pre r=some v→v∈r∧need≤(↑((pre++r).count v):Int)
 | [],_,h=>by cases h
 | w::r,pre,h=>by
  unfold voteF at h
  split at h
  ·rename_i g
   obtain rfl:=Option.some.inj h
   refine ⟨List.mem_cons_self,?_⟩
   have:(pre++[w]).count w≤(pre++w::r).count w:=by
    rw [List.count_append,List.count_append,List.count_cons]
    simp
   omega
  ·obtain ⟨h1,h2⟩:=voteF_some h
   rw [List.append_assoc] at h2
   exact ⟨List.mem_cons_of_mem _ h1,h2⟩
theorem sum_one {x:List Int}:∀ {D:List (List Int)},D.Nodup→x∈D→(D.map fun w=>if x=w then (1:Int) else 0).sum=1
 | [],_,h=>by cases h
 | y::D,hn,h=>by
  obtain ⟨h1,h2⟩:=List.nodup_cons.1 hn
  rw [List.map_cons,List.sum_cons]
  have zero:∀ {D:List (List Int)},x∉D→(D.map fun w=>if x=w then (1:Int) else 0).sum=0:=by
   intro D
   induction D with
   | nil=>intro _;rfl
   | cons z D ih =>
    intro hz
    simp only [List.mem_cons,not_or] at hz
    rw [List.map_cons,List.sum_cons,if_neg hz.1,ih hz.2]
    rfl
  by_cases e:x=y
  ·subst e
   rw [if_pos rfl,zero h1]
   rfl
  ·rw [if_neg e,sum_one h2 ((List.mem_cons.1 h).resolve_left e)]
   rfl
theorem sum_add {f g:List Int→Int}:∀ (D:List (List Int)),(D.map fun w=>f w+g w).sum=(D.map f).sum+(D.map g).sum
 | []=>rfl
 | y::D=>by
  simp only [List.map_cons,List.sum_cons,sum_add D]
  omega
theorem sum_counts {D:List (List Int)} (hn:D.Nodup):∀ (l:List (List Int)),(∀ x∈l,x∈D)→(D.map fun w=>(↑(l.count w):Int)).sum=↑l.length
 | [],_=>by
  have:∀ D:List (List Int),(D.map fun w=>(↑(([]:List (List Int)).count w):Int)).sum=0:=fun D=>by
   induction D with
   | nil=>rfl
   | cons y D ih=>rw [List.map_cons,List.sum_cons,ih];rfl
  exact this D
 | x::l,h=>by
  have h1:(fun w=>(↑((x::l).count w):Int))=fun w=>(↑(l.count w):Int)+(if x=w then (1:Int) else 0):=by
   funext w
   rw [List.count_cons]
   by_cases e:x=w
   ·simp [e]
   ·simp [e]
  rw [h1,sum_add,sum_counts hn l fun y hy=>h y (List.mem_cons_of_mem _ hy),sum_one hn (h x List.mem_cons_self)]
  simp
theorem asc_nodup' {l:List (List Int)} (h:Asc l):l.Nodup:=h.imp fun {a b} h e=>by
 rw [(cmpW_zero a b).2 e] at h
 cases h
theorem Major_loop {l:List (List Int)} {w:List Int} {e:Int} (hl:l.length≤40) (hw:∀ x∈l,x.length≤40) :
  ∃ most:Int,iter (fun (s:Int×Int×Int×Nat)=>L18_NondetMajority.s2 (w,e) (sortW l,cntsW l) s.1 s.2.1 s.2.2.1 s.2.2.2) fuel (0,0,0,0)=some (.inl ((↑l.length:Int),most,if w∈l then (↑(l.count w):Int) else 0))∧∀ c:Int,0<c→(∀ x∈l,(↑(l.count x):Int)<c)→most<c:=by
 have hsl:=sortW_length l
 have hcl:∀ x,l.count x≤40:=fun x=>Nat.le_trans List.count_le_length hl
 have key:=iter_post (step:=fun (s:Int×Int×Int×Nat)=>L18_NondetMajority.s2 (w,e) (sortW l,cntsW l) s.1 s.2.1 s.2.2.1 s.2.2.2)
  (fun s=>s.2.2.2≤(sortW l).length∧s.1=((cntsW l).take s.2.2.2).sum∧(0≤s.1∧s.1≤40*(↑s.2.2.2:Int))∧(∀ c:Int,0<c→(∀ x∈l,(↑(l.count x):Int)<c)→s.2.1<c)∧s.2.2.1=if w∈(sortW l).take s.2.2.2 then (↑(l.count w):Int) else 0)
  (fun s=>(sortW l).length-s.2.2.2) (fun r=>∃ most:Int,r=.inl ((↑l.length:Int),most,if w∈l then (↑(l.count w):Int) else 0)∧∀ c:Int,0<c→(∀ x∈l,(↑(l.count x):Int)<c)→most<c) (fun ⟨sum,most,his,i⟩ ⟨g1,g2,g3,g4,g5⟩=>by
   simp only at g1 g2 g3 g4 g5
   simp only [L18_NondetMajority.s2]
   by_cases h:i<(sortW l).length
   ·left
    have hx:=get_at h
    have hxl:(sortW l)[i]∈l:=(mem_sortW l _).1 (List.getElem_mem h)
    have hc:(cntsW l)[i]?=some (↑(l.count (sortW l)[i]):Int):=by unfold cntsW;rw [List.getElem?_map,hx];rfl
    have hpos:0<l.count (sortW l)[i]:=List.count_pos_iff.2 hxl
    have hc40:=hcl (sortW l)[i]
    refine ⟨(sum+↑(l.count (sortW l)[i]),max most ↑(l.count (sortW l)[i]),if (sortW l)[i]=w then (↑(l.count (sortW l)[i]):Int) else his,i+1),?_,⟨h,?_,⟨by simp only;omega,by simp only;omega⟩,fun c h0 h1=>?_,?_⟩,by simp only;omega⟩
    ·rw [dec_lt hx,cond_true,idxn_at hc,chk_pos (by unfold inR;omega),idxn_at hc,idxn_at hx,R01_Same_eq _ _ (by have:=hw _ hxl;unfold SmW;omega),obind]
     have hsel:(cond (decide ((sortW l)[i]=w)) (idxn (cntsW l) i fun e287=>some e287) (some his):Option Int)=some (if (sortW l)[i]=w then (↑(l.count (sortW l)[i]):Int) else his):=by
      by_cases e1:(sortW l)[i]=w
      ·rw [decide_eq_true e1,cond_true,idxn_at hc,if_pos e1]
      ·rw [decide_eq_false e1,cond_false,if_neg e1]
     rw [hsel,obind,idxn_at hc,decide_eq_false (by omega),cond_false]
     by_cases h0:0<i
     ·obtain ⟨j,rfl⟩:∃ j,i=j+1:=⟨i-1,by omega⟩
      have hj:j<(sortW l).length:=by omega
      have hj2:=get_at hj
      have hasc:=(List.pairwise_iff_getElem.1 (sortW_asc l)) j (j+1) hj h (by omega)
      rw [decide_eq_true (by omega),cond_true,idx_at (i:=j) (by omega) hj2,idxn_at hx,R01_Compare_eq _ _ (by have:=hw _ ((mem_sortW l _).1 (List.getElem_mem hj));unfold SmW;omega),obind,hasc,decide_eq_false (by omega),obind,cond_false]
     ·rw [decide_eq_false (by omega),cond_false,obind,cond_false]
    ·simp only
     rw [take_step hc,List.sum_append,g2]
     simp
    ·simp only
     have:=g4 c h0 h1
     have:=h1 _ hxl
     omega
    ·simp only
     rw [take_step hx]
     by_cases e1:(sortW l)[i]=w
     ·rw [if_pos e1,if_pos (List.mem_append_right _ (List.mem_singleton.2 e1.symm)),e1]
     ·rw [if_neg e1,g5]
      have:w∈(sortW l).take i++[(sortW l)[i]]↔w∈(sortW l).take i:=⟨fun h5=>(List.mem_append.1 h5).elim id fun h6=>absurd (List.mem_singleton.1 h6).symm e1,List.mem_append_left _⟩
      simp only [this]
   ·right
    have e1:i=(sortW l).length:=by omega
    subst e1
    have hs:((cntsW l).take (sortW l).length).sum=↑l.length:=by
     rw [List.take_of_length_le (by unfold cntsW;simp)]
     exact sum_counts (asc_nodup' (sortW_asc l)) l fun x hx=>(mem_sortW l x).2 hx
    rw [List.take_length] at g5
    refine ⟨.inl (sum,most,his),by rw [dec_end,cond_false],most,?_,g4⟩
    rw [g2,hs,g5]
    simp only [mem_sortW]) fuel (0,0,0,0) ⟨Nat.zero_le _,by simp,by simp,fun c h0 _=>h0,by simp⟩ (by have:=fuel_big;simp only;omega)
 obtain ⟨r,e1,most,rfl,hm⟩:=key
 exact ⟨most,e1,hm⟩
theorem plain_Majority {l:List (List Int)} {need:Int} (hin:∀ x∈l,∀ a∈x,inR a) (hn:0≤need∧need≤255):L18_NondetMajority l need=some true:=by
 unfold L18_NondetMajority
 obtain ⟨b,e,hb⟩:=Great_r l
 rw [e,obind]
 cases b with
 | true=>rw [cond_true,awake18_true];rfl
 | false =>
  obtain ⟨h1,h2⟩:=hb rfl
  have hw:∀ x∈l,WrdOk x:=fun x hx=>⟨by have:=h2 x hx;omega,hin x hx⟩
  have hl:l.length≤100000:=by omega
  rw [cond_false,chk_pos (by unfold inR;omega),chk_pos ⟨by unfold inR;omega,by omega,by omega⟩,chk_pos (by unfold inR;omega)]
  generalize hk:1+need%9=k
  have hk1:1≤k∧k≤9:=by omega
  rw [nondet_Vote_eq hl hw,obind,nondet_Distinct_eq hl hw,obind,decide_eq_false (by simp only [cntsW,List.length_map];omega),cond_false]
  obtain ⟨most,e1,hm⟩:=Major_loop (w:=(voteR l k).1) (e:=(voteR l k).2) h1 h2
  rw [show voteR l k=((voteR l k).1,(voteR l k).2) from rfl,e1,obind]
  simp only [Sum.elim_inl,L18_NondetMajority.k5]
  rw [hk,decide_eq_false (by omega),cond_false]
  unfold voteR
  rw [if_neg (by omega)]
  cases hv:voteF k [] l with
  | none =>
   have hf:=voteF_none hv (few_nil hk1.1)
   rw [List.nil_append] at hf
   simp only
   rw [decide_eq_true (by decide),cond_true,decide_eq_true trivial,cond_true,decide_eq_true (by simp),cond_true,decide_eq_true (hm k (by omega) fun x _=>hf x),cond_true,awake18_true]
   rfl
  | some w =>
   obtain ⟨hwl,hcw⟩:=voteF_some hv
   rw [List.nil_append] at hcw
   simp only
   rw [decide_eq_false (by decide),cond_false,if_pos hwl,decide_eq_false (by omega),cond_false]
   have key:=iter_post (step:=fun s=>L18_NondetMajority.s4 l need (w,0) s) (fun i=>i≤l.length∧∀ j<i,voteF k [] (l.take j)=none) (fun i=>l.length+1-i) (fun r=>r=.inr true) (fun i ⟨g1,g2⟩=>by
    simp only [L18_NondetMajority.s4]
    rw [decide_eq_true (by omega),cond_true,chk_pos (by omega),hk,nondet_Vote_eq (by rw [List.length_take];omega) (fun x hx=>hw x (List.mem_of_mem_take hx)),obind]
    unfold voteR
    rw [if_neg (by omega)]
    cases hq:voteF k [] (l.take i) with
    | none =>
     left
     have hlt:i<l.length:=by
      rcases Nat.lt_or_ge i l.length with h | h
      ·exact h
      ·rw [List.take_of_length_le h,hv] at hq
       cases hq
     refine ⟨i+1,by simp only;rw [decide_eq_false (by decide),cond_false],⟨hlt,fun j hj=>?_⟩,by omega⟩
     rcases Nat.lt_or_ge j i with h | h
     ·exact g2 j h
     ·rw [show j=i by omega];exact hq
    | some v =>
     right
     have hvw:v=w:=by
      have:=voteF_app (r2:=l.drop i) hq
      rw [List.take_append_drop,hv] at this
      exact (Option.some.inj this).symm
     have hsw:SmW w:=by have:=h2 w hwl;unfold SmW;omega
     refine ⟨.inr true,?_,rfl⟩
     simp only
     rw [hvw,decide_eq_true trivial,cond_true,R01_Same_eq _ _ hsw,obind,decide_eq_true rfl,cond_true,awake18_true]
     rfl) fuel 0 ⟨Nat.zero_le _,fun j hj=>by omega⟩ (by have:=fuel_big;omega)
   obtain ⟨r,e2,rfl⟩:=key
   rw [e2,obind]
   rfl
end Go.Proofs.YtmcfpohmiabmpaaGreatDoor.Sym

/-
 The law of NondetMajority, for arguments within the bound.
-/
namespace Go.Proofs.YtmcfpohmiabmpaaGreatDoor.Sym
theorem law_L18_NondetMajority (x0:List (List Int)) (x1:Int) (k0:okL (okL inR) x0) (_:szL (szL sz1) x0≤1048576) (k1:okY x1):L18_NondetMajority x0 x1=some true :=
 plain_Majority (fun x hx a ha=>k0 x hx a ha) ⟨k1.1,k1.2⟩
end Go.Proofs.YtmcfpohmiabmpaaGreatDoor.Sym

/-
 The plain reading: structs behind pointers; a map that one goes through; parts of the code that are shown by hand.
-/
namespace Go.Proofs.YtmcfpohmiabmpaaGreatDoor.Sym
open Go.RowKit
open Go.ChangeMaps (setBlock)
abbrev Ge:=Nat×List IV×List (List IV)
theorem fpv_bag {v:Value} (h:blkOf v=none) (l:List Ge) (rows:List Value):fpv v ((l.map fun g=>pv g.1)++rows)=l.map (·.1)++rows.filterMap blkOf:=by
 have h1:∀ l:List Ge,(l.map fun g=>pv g.1).filterMap blkOf=l.map (·.1):=fun l=>by
  induction l with
  | nil=>rfl
  | cons g l ih=>rw [List.map_cons,List.filterMap_cons,ih];rfl
 unfold fpv
 rw [List.filterMap_cons,h]
 simp only
 rw [List.filterMap_append,h1]
theorem perm_bag (A B C D:List Nat) (x:Nat) (Y:List Nat):((A++x::B)++(C++(Y++D))).Perm (x::(Y++((A++B)++(C++D)))):=by
 refine (List.perm_middle.append_right _).trans (.cons x ?_)
 exact ((List.perm_append_comm_assoc C Y D).append_left (A++B)).trans (List.perm_append_comm_assoc (A++B) Y (C++D))
theorem bag_perm {v:Value} (h:blkOf v=none) (l1 l2:List Ge) (g:Ge) (r1 r2:List Value) (row:Value) :
  (fpv v (((l1++g::l2).map fun g=>pv g.1)++(r1++row::r2))).Perm (g.1::((blkOf row).toList++fpv v (((l1++l2).map fun g=>pv g.1)++(r1++r2)))):=by
 rw [fpv_bag h,fpv_bag h]
 have h2:(row::r2).filterMap blkOf=(blkOf row).toList++r2.filterMap blkOf:=by
  rw [List.filterMap_cons]
  cases blkOf row<;>rfl
 simp only [List.map_append,List.map_cons,List.filterMap_append,h2]
 exact perm_bag _ _ _ _ _ _
def takeB (σ:St) (o p q:Nat) (t e:TypeId) (k n:Nat) (l:List Ge) (g:Ge):List (Loc×Ct) :=
 (.ign o,.n (σ.ig o+1))::(.knd o,.kd (.bag t e k l (some g.1)))::(.cel o 0,.av (.own p (σ.gn p+1) 0))::(.gen p,.n (σ.gn p+1))::(.knd p,.kd (.box t (n+1)))::(.gen q,.n (σ.gn q+1))::(.knd q,.kd (.row e k g.2.2)) ::
  celWr p 0 (g.2.1.map AV.im++[.osl q (σ.gn q+1)])
theorem takeB_eqs (σ:St) {o p q:Nat} (hop:o≠p) (hoq:o≠q) (hpq:p≠q) (t e:TypeId) (k n:Nat) (l:List Ge) (g:Ge) :
  (∀ x,(app σ (takeB σ o p q t e k n l g)).kd x=if x=q then .row e k g.2.2 else if x=p then .box t (n+1) else if x=o then .bag t e k l (some g.1) else σ.kd x) ∧
  (∀ x,(app σ (takeB σ o p q t e k n l g)).gn x=if x=q then σ.gn q+1 else if x=p then σ.gn p+1 else σ.gn x) ∧
  (∀ x,(app σ (takeB σ o p q t e k n l g)).ig x=if x=o then σ.ig o+1 else σ.ig x) ∧
  (∀ x,(app σ (takeB σ o p q t e k n l g)).av x=σ.av x) ∧
  (∀ x i,(app σ (takeB σ o p q t e k n l g)).ce x i=if x=p∧0≤i∧i<0+(g.2.1.map AV.im++[AV.osl q (σ.gn q+1)]).length then (g.2.1.map AV.im++[AV.osl q (σ.gn q+1)]).getD (i-0) (.im .any) else if x=o∧i=0 then .own p (σ.gn p+1) 0 else σ.ce x i):=by
 unfold takeB
 simp only [app_cons]
 refine ⟨fun x=>?_,fun x=>?_,fun x=>?_,fun x=>?_,fun x i=>?_⟩
 ·rw [celWr_kd];simp only [kd_knd,kd_gen,kd_cel,kd_ign]
 ·rw [celWr_gn];simp only [gn_knd,gn_gen,gn_cel,gn_ign]
 ·rw [celWr_ig];simp only [ig_knd,ig_gen,ig_cel,ig_ign]
 ·rw [celWr_av];simp only [av_knd,av_gen,av_cel,av_ign]
 ·rw [celWr_ce];simp only [ce_knd,ce_gen,ce_cel,ce_ign]
theorem split_rows {l1 l2:List Ge} {g:Ge} {rows:List Value} (h:rows.length=(l1++g::l2).length):∃ r1 row r2,rows=r1++row::r2∧r1.length=l1.length:=by
 have hlt:l1.length<rows.length:=by rw [h];simp
 exact ⟨rows.take l1.length,rows[l1.length],rows.drop (l1.length+1),by rw [List.getElem_cons_drop hlt,List.take_append_drop],by simp;omega⟩
theorem ents_out {w:World} {S:Nat→Prop} {t e:TypeId} {k:Nat} {l1 l2:List Ge} {g:Ge} {r1 r2:List Value} {row:Value} (hr:r1.length=l1.length)
  (h:∀ (i:Nat) g' row',(l1++g::l2)[i]?=some g'→(r1++row::r2)[i]?=some row'→EntOk w S t e k g' row') :
  EntOk w S t e k g row∧∀ (i:Nat) g' row',(l1++l2)[i]?=some g'→(r1++r2)[i]?=some row'→EntOk w S t e k g' row':=by
 refine ⟨h l1.length g row (by simp) (by rw [← hr];simp),fun i g' row' h1 h2=>?_⟩
 by_cases hi:i<l1.length
 ·rw [List.getElem?_append_left hi] at h1
  rw [List.getElem?_append_left (by omega)] at h2
  exact h i g' row' (by rw [List.getElem?_append_left hi];exact h1) (by rw [List.getElem?_append_left (by omega)];exact h2)
 ·rw [List.getElem?_append_right (by omega)] at h1 h2
  refine h (i+1) g' row' ?_ ?_
  ·rw [List.getElem?_append_right (by omega),show i+1-l1.length=(i-l1.length)+1 by omega,List.getElem?_cons_succ];exact h1
  ·rw [List.getElem?_append_right (by omega),show i+1-r1.length=(i-r1.length)+1 by omega,List.getElem?_cons_succ];exact h2
theorem ents_in {w:World} {S:Nat→Prop} {t e:TypeId} {k:Nat} {l1 l2:List Ge} {g:Ge} {r1 r2:List Value} {row:Value} (hr:r1.length=l1.length) (hg:EntOk w S t e k g row)
  (h:∀ (i:Nat) g' row',(l1++l2)[i]?=some g'→(r1++r2)[i]?=some row'→EntOk w S t e k g' row') :
  ∀ (i:Nat) g' row',(l1++g::l2)[i]?=some g'→(r1++row::r2)[i]?=some row'→EntOk w S t e k g' row':=fun i g' row' h1 h2=>by
 by_cases hi:i<l1.length
 ·rw [List.getElem?_append_left hi] at h1
  rw [List.getElem?_append_left (by omega)] at h2
  exact h i g' row' (by rw [List.getElem?_append_left hi];exact h1) (by rw [List.getElem?_append_left (by omega)];exact h2)
 ·rw [List.getElem?_append_right (by omega)] at h1 h2
  cases hj:i-l1.length with
  | zero =>
   rw [hj] at h1
   rw [show i-r1.length=0 by omega] at h2
   simp only [List.getElem?_cons_zero,Option.some.injEq] at h1 h2
   rw [← h1,← h2]
   exact hg
  | succ j =>
   rw [hj,List.getElem?_cons_succ] at h1
   rw [show i-r1.length=j+1 by omega,List.getElem?_cons_succ] at h2
   refine h (i-1) g' row' ?_ ?_
   ·rw [List.getElem?_append_right (by omega),show i-1-l1.length=j by omega];exact h1
   ·rw [List.getElem?_append_right (by omega),show i-1-r1.length=j by omega];exact h2
theorem Ent.take {σ:St} {o p q n k:Nat} {t e:TypeId} {l1 l2:List Ge} {g:Ge} (hk:σ.kd o=.bag t e k (l1++g::l2) none) (hp:σ.kd p=.dead) (hq:σ.kd q=.dead) (hpq:p≠q) (hn:g.2.1.length=n):Ent σ (app σ (takeB σ o p q t e k n (l1++l2) g)):=by
 rintro B a w ⟨ρ,hs⟩
 have hop:o≠p:=fun e=>by rw [e,hp] at hk;cases hk
 have hoq:o≠q:=fun e=>by rw [e,hq] at hk;cases hk
 obtain ⟨ekd,egn,eig,eav,ece⟩:=takeB_eqs σ hop hoq hpq t e k n (l1++l2) g
 generalize hσ':app σ (takeB σ o p q t e k n (l1++l2) g)=σ' at ekd egn eig eav ece
 have ho:=hs.obs o
 rw [hk] at ho
 obtain ⟨⟨h0,h1,rows,h2,h3,h4⟩,_⟩:=ho
 obtain ⟨r1,row,r2,rfl,hr⟩:=split_rows h2
 obtain ⟨⟨us,e2,e3,e4,e5,e6⟩,h4'⟩:=ents_out hr h4
 have hperm:=bag_perm h0 l1 l2 g r1 r2 row
 rw [h3] at h1
 have hnd:=hperm.nodup_iff.1 h1
 have howo:∀ b,Owns σ ρ o b↔b∈fpv (ρ o) (((l1++g::l2).map fun g=>pv g.1)++(r1++row::r2)):=fun b=>by unfold Owns;rw [hk,h3];rfl
 obtain ⟨hnd1,hnd2⟩:=List.nodup_cons.1 hnd
 have hnd3:=List.nodup_append.1 hnd2
 let ρ':Ly:=⟨fun x=>if x=q then row else if x=p then pv g.1 else ρ x,fun x=>if x=o then ((l1++l2).map fun g=>pv g.1)++(r1++r2) else ρ.inn x,fun x=>if x=o then ρ.ig o+1 else ρ.ig x⟩
 have fo:∀ b,Owns σ' ρ' o b↔b∈fpv (ρ o) (((l1++l2).map fun g=>pv g.1)++(r1++r2)):=fun b=>by
  unfold Owns
  rw [ekd,if_neg hoq,if_neg hop,if_pos rfl]
  simp only [ρ',if_neg hoq,if_neg hop,if_pos]
  exact Iff.rfl
 have fp:∀ b,Owns σ' ρ' p b↔b=g.1:=fun b=>by
  unfold Owns
  rw [ekd,if_neg hpq,if_pos rfl]
  simp only [ρ',if_neg hpq,if_pos]
  simp [fpk,blkOf]
 have fq:∀ b,Owns σ' ρ' q b↔b∈(blkOf row).toList:=fun b=>by
  unfold Owns
  rw [ekd,if_pos rfl]
  simp only [ρ',if_pos]
  exact Iff.rfl
 have old:∀ b,(b=g.1∨b∈(blkOf row).toList∨b∈fpv (ρ o) (((l1++l2).map fun g=>pv g.1)++(r1++r2)))→Owns σ ρ o b:=fun b hb=>by
  rw [howo]
  refine hperm.mem_iff.2 ?_
  rcases hb with rfl | hb | hb
  ·exact List.mem_cons_self
  ·exact List.mem_cons_of_mem _ (List.mem_append_left _ hb)
  ·exact List.mem_cons_of_mem _ (List.mem_append_right _ hb)
 refine ⟨ρ',(hs.step (σ':=σ') (ρ':=ρ') (w':=w) (fun x=>x=o∨x=p∨x=q) eav (fun x hx=>?_) (fun x hx=>?_) (fun x=>?_) (Belo.refl _ _ _) (fun x b hx hb=>.inr ⟨o,.inl rfl,?_⟩) (fun x y b hx hy hbx hby=>?_) fun hI hA x hx=>?_).1⟩
 ·have n1:x≠o:=fun e=>hx (.inl e)
  have n2:x≠p:=fun e=>hx (.inr (.inl e))
  have n3:x≠q:=fun e=>hx (.inr (.inr e))
  refine ⟨by rw [ekd,if_neg n3,if_neg n2,if_neg n1],by rw [egn,if_neg n3,if_neg n2],fun i=>by rw [ece,if_neg (fun e=>n2 e.1),if_neg (fun e=>n1 e.1)],by simp only [ρ',if_neg n3,if_neg n2],by simp only [ρ',if_neg n1],by simp only [ρ',if_neg n1]⟩
 ·rcases hx with rfl | rfl | rfl
  ·refine ⟨⟨by rw [egn,if_neg hoq,if_neg hop];exact Nat.le_refl _,fun _=>by simp only [ρ',if_neg hoq,if_neg hop]⟩,by simp only [ρ',if_pos];omega,fun e=>?_⟩
   simp only [ρ',if_pos] at e
   omega
  ·refine ⟨⟨by rw [egn,if_neg hpq,if_pos rfl];omega,fun e=>by rw [egn,if_neg hpq,if_pos rfl] at e;omega⟩,by simp only [ρ',if_neg (Ne.symm hop)];exact Nat.le_refl _,fun _=>by simp only [ρ',if_neg (Ne.symm hop)]⟩
  ·refine ⟨⟨by rw [egn,if_pos rfl];omega,fun e=>by rw [egn,if_pos rfl] at e;omega⟩,by simp only [ρ',if_neg (Ne.symm hoq)];exact Nat.le_refl _,fun _=>by simp only [ρ',if_neg (Ne.symm hoq)]⟩
 ·rw [eig]
  simp only [ρ']
  by_cases e:x=o
  ·rw [if_pos e,if_pos e,hs.igs]
  ·rw [if_neg e,if_neg e,hs.igs]
 ·rcases hx with rfl | rfl | rfl
  ·exact old b (.inr (.inr ((fo b).1 hb)))
  ·exact old b (.inl ((fp b).1 hb))
  ·exact old b (.inr (.inl ((fq b).1 hb)))
 ·have key1:∀ b,b=g.1→b∈(blkOf row).toList→False:=fun b e hb=>hnd1 (by rw [← e];exact List.mem_append_left _ hb)
  have key2:∀ b,b=g.1→b∈fpv (ρ o) (((l1++l2).map fun g=>pv g.1)++(r1++r2))→False:=fun b e hb=>hnd1 (by rw [← e];exact List.mem_append_right _ hb)
  have key3:∀ b,b∈(blkOf row).toList→b∈fpv (ρ o) (((l1++l2).map fun g=>pv g.1)++(r1++r2))→False:=fun b h1 h2=>hnd3.2.2 b h1 b h2 rfl
  rcases hx with rfl | rfl | rfl
  ·rcases hy with rfl | rfl | rfl
   ·rfl
   ·exact (key2 b ((fp b).1 hby) ((fo b).1 hbx)).elim
   ·exact (key3 b ((fq b).1 hby) ((fo b).1 hbx)).elim
  ·rcases hy with rfl | rfl | rfl
   ·exact (key2 b ((fp b).1 hbx) ((fo b).1 hby)).elim
   ·rfl
   ·exact (key1 b ((fp b).1 hbx) ((fq b).1 hby)).elim
  ·rcases hy with rfl | rfl | rfl
   ·exact (key3 b ((fq b).1 hbx) ((fo b).1 hby)).elim
   ·exact (key1 b ((fp b).1 hby) ((fq b).1 hbx)).elim
   ·rfl
 ·rcases hx with rfl | rfl | rfl
  ·rw [ekd,if_neg hoq,if_neg hop,if_pos rfl]
   show BagOk w _ (ρ' x) (ρ'.inn x) t e k (l1++l2)∧∀ p',some g.1=some p'→_
   simp only [ρ',if_neg hoq,if_neg hop,if_pos]
   refine ⟨⟨h0,hnd3.2.1,r1++r2,?_,rfl,fun i g' row' hg' hr'=>(h4' i g' row' hg' hr').mono (fun _ _=>rfl) hI⟩,fun p' e=>?_⟩
   ·simp only [List.length_append,List.length_cons] at h2 ⊢
    omega
   ·injection e with e
    subst e
    rw [ece,if_neg (fun e=>hop e.1),if_pos ⟨rfl,rfl⟩]
    refine .own _ _ _ _ rfl (Nat.le_of_eq ?_) fun _=>⟨g.1,?_,rfl⟩
    ·rw [egn,if_neg hpq,if_pos rfl]
    ·simp only [if_neg hpq,if_pos]
  ·rw [ekd,if_neg hpq,if_pos rfl]
   refine ⟨g.1,us++[row],by simp only [ρ',if_neg hpq,if_pos],e2,by simp [e3,hn],fun u hu=>?_,fun i u hu=>?_⟩
   ·rcases List.mem_append.1 hu with hu | hu
    ·exact e4 u hu
    ·rw [List.mem_singleton.1 hu]
     exact HoldOk.one (inn:=[]) (k:=.row e k g.2.2) e6
   ·have hi:i<(us++[row]).length:=(List.getElem?_eq_some_iff.1 hu).1
    have hl:(us++[row]).length=(g.2.1.map AV.im++[AV.osl q (σ.gn q+1)]).length:=by simp [e3]
    rw [ece,if_pos ⟨rfl,Nat.zero_le _,by omega⟩,Nat.sub_zero]
    by_cases hiu:i<us.length
    ·rw [List.getElem?_append_left hiu] at hu
     have hg1:g.2.1[i]?=some (g.2.1[i]'(by omega)):=List.getElem?_eq_getElem (by omega)
     have:(g.2.1.map AV.im++[AV.osl q (σ.gn q+1)]).getD i (.im .any)=.im (g.2.1[i]'(by omega)):=by
      rw [List.getD_eq_getElem?_getD,List.getElem?_append_left (by simp;omega),List.getElem?_map,hg1]
      rfl
     rw [this]
     exact .im _ _ (hI _ _ (e5 i u _ hu hg1))
    ·have hie:i=us.length:=by simp at hi;omega
     subst hie
     rw [List.getElem?_append_right (Nat.le_refl _),Nat.sub_self] at hu
     simp only [List.getElem?_cons_zero,Option.some.injEq] at hu
     subst hu
     have:(g.2.1.map AV.im++[AV.osl q (σ.gn q+1)]).getD us.length (.im .any)=.osl q (σ.gn q+1):=by
      rw [List.getD_eq_getElem?_getD,List.getElem?_append_right (by simp [e3])]
      simp [e3]
     rw [this]
     refine .osl _ _ _ (HoldOk.one (inn:=[]) (k:=.row e k g.2.2) e6) (Nat.le_of_eq ?_) fun _=>?_
     ·rw [egn,if_pos rfl]
     ·simp only [ρ',if_pos]
  ·rw [ekd,if_pos rfl]
   show RowOk w _ (ρ' x) e k g.2.2
   simp only [ρ',if_pos]
   exact e6.mono (fun _ _=>rfl) hI
theorem Ent.own1 {σ:St} {o p g s t e k v:Nat} {l:List Ge} (hk:σ.kd o=.bag t e k l (some v)) (hc:σ.ce o 0=.own p g 0) (hv:σ.av s=.im (.val (pv v))):Ent σ (upd σ (.tmp s) (.av (.own p g 0))):=by
 rintro B a w ⟨ρ,hs⟩
 have ho:=hs.obs o
 rw [hk] at ho
 have h2:=ho.2 v rfl
 rw [hc] at h2
 have h1:=hs.tms s
 rw [hv] at h1
 refine ⟨ρ,hs.say s ?_⟩
 have h1:=h1.im_inv
 generalize a.tmps.getD s undef=u at h1 ⊢
 cases h1 with
 | val _=>exact h2
def putB (σ:St) (o p q:Nat) (t e:TypeId) (k:Nat) (l:List Ge):List (Loc×Ct) :=
 [(.ign o,.n (σ.ig o+1)),(.knd o,.kd (.bag t e k l none)),(.knd p,.kd .dead),(.knd q,.kd .dead)]
theorem Ent.giveB {σ:St} {o p q gp gq n k v:Nat} {t e:TypeId} {l1 l2:List Ge} {xs:List IV} {es:List (List IV)} (hk:σ.kd o=.bag t e k (l1++l2) (some v)) (hc:σ.ce o 0=.own p gp 0) (hgp:σ.gn p=gp) (hp:σ.kd p=.box t (n+1)) (hn:xs.length=n)
  (hx:∀ (i:Nat) x,xs[i]?=some x→σ.ce p i=.im x) (hq1:σ.ce p n=.osl q gq) (hgq:σ.gn q=gq) (hq:σ.kd q=.row e k es):Ent σ (app σ (putB σ o p q t e k (l1++(v,xs,es)::l2))):=by
 rintro B a w ⟨ρ,hs⟩
 have hop:o≠p:=fun e=>by rw [e,hp] at hk;cases hk
 have hoq:o≠q:=fun e=>by rw [e,hq] at hk;cases hk
 have hpq:p≠q:=fun e=>by rw [e,hq] at hp;cases hp
 have ho:=hs.obs o
 rw [hk] at ho
 obtain ⟨⟨h0,h1,rows,h2,h3,h4⟩,h5⟩:=ho
 have h5:=h5 v rfl
 rw [hc] at h5
 have hrp:ρ p=pv v:=by
  cases h5 with
  | own _ _ _ _ _ _ hh =>
   obtain ⟨b,h6,h7⟩:=hh hgp
   rw [h6,← h7]
 have hbx:=hs.obs p
 rw [hp] at hbx
 obtain ⟨b,us0,b1,b2,b3,b4,b5⟩:=hbx
 rw [hrp] at b1
 simp only [Value.pointer.injEq,Option.some.injEq,Addr.mk.injEq,and_true] at b1
 subst b1
 obtain ⟨us,u,rfl⟩:∃ us u,us0=us++[u]:=⟨us0.dropLast,us0.getLast (by intro e;rw [e] at b3;simp at b3),(List.dropLast_concat_getLast _).symm⟩
 have hul:us.length=n:=by simpa using b3
 have hu:u=ρ q:=by
  have h6:=b5 n u (by rw [← hul];simp)
  rw [hq1] at h6
  cases h6 with
  | osl _ _ _ _ _ hh=>exact hh hgq
 subst hu
 have hrow:=hs.obs q
 rw [hq] at hrow
 obtain ⟨r1,r2,hr0,hr⟩:∃ r1 r2,rows=r1++r2∧r1.length=l1.length:=⟨rows.take l1.length,rows.drop l1.length,(List.take_append_drop _ _).symm,by simp at h2;simp;omega⟩
 subst hr0
 have hg:EntOk w (Imm B σ ρ w) t e k (v,xs,es) (ρ q):=⟨us,b2,by rw [hul,hn],fun u hu=>b4 u (List.mem_append_left _ hu),fun i u x hu hx'=>by
  have h6:=b5 i u (by rw [List.getElem?_append_left (List.getElem?_eq_some_iff.1 hu).1];exact hu)
  rw [hx i x hx'] at h6
  exact h6.im_inv,hrow⟩
 have hperm:=bag_perm h0 l1 l2 (v,xs,es) r1 r2 (ρ q)
 have fo:∀ b,Owns σ ρ o b↔b∈fpv (ρ o) (((l1++l2).map fun g=>pv g.1)++(r1++r2)):=fun b=>by unfold Owns;rw [hk,h3];rfl
 have fp:∀ b,Owns σ ρ p b↔b=v:=fun b=>by unfold Owns;rw [hp,hrp];simp [fpk,blkOf]
 have fq:∀ b,Owns σ ρ q b↔b∈(blkOf (ρ q)).toList:=fun b=>by unfold Owns;rw [hq];exact Iff.rfl
 let σ':=app σ (putB σ o p q t e k (l1++(v,xs,es)::l2))
 let ρ':Ly:=⟨ρ,fun x=>if x=o then ((l1++(v,xs,es)::l2).map fun g=>pv g.1)++(r1++ρ q::r2) else ρ.inn x,fun x=>if x=o then ρ.ig o+1 else ρ.ig x⟩
 have ekd:∀ x,σ'.kd x=if x=q then .dead else if x=p then .dead else if x=o then .bag t e k (l1++(v,xs,es)::l2) none else σ.kd x:=fun x=>by
  simp only [σ',putB,app_cons,app_nil,kd_knd,kd_ign]
 have egn:∀ x,σ'.gn x=σ.gn x:=fun x=>by simp only [σ',putB,app_cons,app_nil,gn_knd,gn_ign]
 have eig:∀ x,σ'.ig x=if x=o then σ.ig o+1 else σ.ig x:=fun x=>by simp only [σ',putB,app_cons,app_nil,ig_knd,ig_ign]
 have eav:∀ x,σ'.av x=σ.av x:=fun x=>by simp only [σ',putB,app_cons,app_nil,av_knd,av_ign]
 have ece:∀ x i,σ'.ce x i=σ.ce x i:=fun x i=>by simp only [σ',putB,app_cons,app_nil,ce_knd,ce_ign]
 have hnew:∀ b,Owns σ' ρ' o b→b=v∨b∈(blkOf (ρ q)).toList∨b∈fpv (ρ o) (((l1++l2).map fun g=>pv g.1)++(r1++r2)):=fun b hb=>by
  unfold Owns at hb
  rw [ekd,if_neg hoq,if_neg hop,if_pos rfl] at hb
  simp only [ρ',if_pos] at hb
  have hb:=hperm.mem_iff.1 hb
  rcases List.mem_cons.1 hb with hb | hb
  ·exact .inl hb
  ·exact .inr (List.mem_append.1 hb)
 have hdead:∀ x b,x=p∨x=q→¬ Owns σ' ρ' x b:=fun x b hx ho=>by
  refine ho.lv ?_
  rw [ekd]
  rcases hx with rfl | rfl
  ·rw [if_neg hpq,if_pos rfl]
  ·rw [if_pos rfl]
 refine ⟨ρ',(hs.step (σ':=σ') (ρ':=ρ') (w':=w) (fun x=>x=o∨x=p∨x=q) eav (fun x hx=>?_) (fun x hx=>?_) (fun x=>?_) (Belo.refl _ _ _) (fun x b hx hb=>.inr ?_) (fun x y b hx hy hbx hby=>?_) fun hI hA x hx=>?_).1⟩
 ·have n1:x≠o:=fun e=>hx (.inl e)
  have n2:x≠p:=fun e=>hx (.inr (.inl e))
  have n3:x≠q:=fun e=>hx (.inr (.inr e))
  exact ⟨by rw [ekd,if_neg n3,if_neg n2,if_neg n1],egn x,fun i=>ece x i,rfl,by simp only [ρ',if_neg n1],by simp only [ρ',if_neg n1]⟩
 ·refine ⟨⟨by rw [egn];exact Nat.le_refl _,fun _=>rfl⟩,?_⟩
  by_cases e:x=o
  ·subst e
   refine ⟨by simp only [ρ',if_pos];omega,fun e=>?_⟩
   simp only [ρ',if_pos] at e
   omega
  ·exact ⟨by simp only [ρ',if_neg e];exact Nat.le_refl _,fun _=>by simp only [ρ',if_neg e]⟩
 ·rw [eig]
  simp only [ρ']
  by_cases e:x=o
  ·rw [if_pos e,if_pos e,hs.igs]
  ·rw [if_neg e,if_neg e,hs.igs]
 ·by_cases hxo:x=o
  ·subst hxo
   rcases hnew b hb with h6 | h6 | h6
   ·exact ⟨p,.inr (.inl rfl),(fp b).2 h6⟩
   ·exact ⟨q,.inr (.inr rfl),(fq b).2 h6⟩
   ·exact ⟨x,.inl rfl,(fo b).2 h6⟩
  ·exact (hdead x b (hx.resolve_left hxo) hb).elim
 ·by_cases hxo:x=o
  ·by_cases hyo:y=o
   ·rw [hxo,hyo]
   ·exact (hdead y b (hy.resolve_left hyo) hby).elim
  ·exact (hdead x b (hx.resolve_left hxo) hbx).elim
 ·by_cases hxo:x=o
  ·subst hxo
   rw [ekd,if_neg hoq,if_neg hop,if_pos rfl]
   show BagOk w _ (ρ' x) (ρ'.inn x) t e k (l1++(v,xs,es)::l2)∧∀ p',none=some p'→_
   simp only [ρ',if_pos]
   refine ⟨⟨h0,hperm.nodup_iff.2 ?_,r1++ρ q::r2,?_,rfl,ents_in hr (hg.mono (fun _ _=>rfl) hI) fun i g' row' hg' hr'=>(h4 i g' row' hg' hr').mono (fun _ _=>rfl) hI⟩,fun p' e=>by cases e⟩
   ·refine List.nodup_cons.2 ⟨fun hm=>?_,List.nodup_append.2 ⟨by cases blkOf (ρ q)<;>simp,by rw [← h3];exact h1,fun b hb c hc e=>?_⟩⟩
    ·rcases List.mem_append.1 hm with hm | hm
     ·exact hpq (hs.dis p q v ((fp v).2 rfl) ((fq v).2 hm))
     ·exact hop (hs.dis p x v ((fp v).2 rfl) ((fo v).2 hm)).symm
    ·subst e
     exact hoq (hs.dis q x b ((fq b).2 hb) ((fo b).2 hc)).symm
   ·simp only [List.length_append,List.length_cons] at h2 ⊢
    omega
  ·have:σ'.kd x=.dead:=by
    rw [ekd]
    rcases hx.resolve_left hxo with rfl | rfl
    ·rw [if_neg hpq,if_pos rfl]
    ·rw [if_pos rfl]
   rw [this]
   trivial
theorem Sat.join {B:Base} {σ:St} {a:Act} {w:World} {o p g s k m:Nat} {t t' e:TypeId} {l:List Ge} (h:Sat B σ a w) (hk:σ.kd o=.bag t e k l none) (hv:σ.av s=.own p g 0) (hg:σ.gn p=g) (hp:σ.kd p=.box t' m) :
  ∃ v:Nat,Sat B (app σ [(.knd o,.kd (.bag t e k l (some v))),(.cel o 0,.av (.own p g 0)),(.tmp s,.av (.im (.val (pv v))))]) a w:=by
 obtain ⟨ρ,hs⟩:=h
 have h1:=hs.tms s
 rw [hv] at h1
 obtain ⟨v,hval,hrp⟩:∃ v,a.tmps.getD s undef=pv v∧ρ p=pv v:=by
  generalize a.tmps.getD s undef=u at h1
  cases h1 with
  | own _ _ _ _ _ _ hh =>
   obtain ⟨b,h2,h3⟩:=hh hg
   exact ⟨b,h3,h2⟩
 have ho:=hs.obs o
 rw [hk] at ho
 have hop:o≠p:=fun e=>by rw [e,hp] at hk;cases hk
 let σ1:=app σ [(.knd o,.kd (.bag t e k l (some v))),(.cel o 0,.av (.own p g 0))]
 have ekd:∀ x,σ1.kd x=if x=o then .bag t e k l (some v) else σ.kd x:=fun x=>by simp only [σ1,app_cons,app_nil,kd_knd,kd_cel]
 have egn:∀ x,σ1.gn x=σ.gn x:=fun x=>by simp only [σ1,app_cons,app_nil,gn_knd,gn_cel]
 have eig:∀ x,σ1.ig x=σ.ig x:=fun x=>by simp only [σ1,app_cons,app_nil,ig_knd,ig_cel]
 have eav:∀ x,σ1.av x=σ.av x:=fun x=>by simp only [σ1,app_cons,app_nil,av_knd,av_cel]
 have ece:∀ x i,σ1.ce x i=if x=o∧i=0 then .own p g 0 else σ.ce x i:=fun x i=>by simp only [σ1,app_cons,app_nil,ce_knd,ce_cel]
 have how:∀ x b,Owns σ1 ρ x b→Owns σ ρ x b:=fun x b hb=>by
  unfold Owns at hb ⊢
  rw [ekd] at hb
  by_cases e:x=o
  ·subst e
   rw [if_pos rfl] at hb
   rw [hk]
   exact hb
  ·rw [if_neg e] at hb
   exact hb
 have h5:=(hs.step (σ':=σ1) (ρ':=ρ) (w':=w) (fun x=>x=o) eav (fun x hx=>⟨by rw [ekd,if_neg hx],egn x,fun i=>by rw [ece,if_neg (fun e=>hx e.1)],rfl,rfl,rfl⟩)
  (fun x _=>⟨⟨by rw [egn];exact Nat.le_refl _,fun _=>rfl⟩,Nat.le_refl _,fun _=>rfl⟩) (fun x=>by rw [eig];exact hs.igs x) (Belo.refl _ _ _) (fun x b hx hb=>.inr ⟨x,hx,how x b hb⟩) (fun x y b hx hy _ _=>hx.trans hy.symm) fun hI hA x hx=>by
   subst hx
   rw [ekd,if_pos rfl]
   refine ⟨BagOk.mono ho.1 (fun _ _=>rfl) hI,fun p' e=>?_⟩
   injection e with e
   subst e
   rw [ece,if_pos ⟨rfl,rfl⟩]
   exact .own _ _ _ _ rfl (by rw [egn,hg];exact Nat.le_refl _) fun _=>⟨v,hrp,rfl⟩).1
 refine ⟨v,ρ,?_⟩
 have h6:=h5.say s (v:=.im (.val (pv v))) (by rw [hval];exact .im _ _ (.val _))
 exact h6
end Go.Proofs.YtmcfpohmiabmpaaGreatDoor.Sym

/-
 The plain reading: a range over a map, in whatever order; code of which some regions are shown by hand.
-/
namespace Go.Proofs.YtmcfpohmiabmpaaGreatDoor.Sym
open Go.RowKit Go.ChangeMaps
def refG (g:Ge):IV:=.ref (g.2.1++[.sl g.2.2])
def hOp (P:Program) (o:Oper) (K:St→Prop) (σ:St):Prop :=
 match o.op,o.dst with
 | .range t x,some d=>∃ (m g ob k:Nat) (t' e:TypeId) (l:List Ge) (lm:List (Value×Value)),(mapTy P t).isSome∧evA σ x=.osl m g∧σ.gn m=g∧σ.kd m=.map lm∧σ.kd ob=.bag t' e k l none∧lm.map (·.2)=l.map (fun g=>pv g.1) ∧
   K (app σ [(.knd ob,.kd .dead),(.ign m,.n (σ.ig m+1)),(.knd m,.kd (.mapI (l.map refG) none)),(.tmp d,.av (.sub m (σ.ig m+1) 0))])
 | .next x false,some d=>∃ (m g:Nat) (left:List IV) (c:Option IV),evA σ x=.sub m g 0∧σ.ig m=g∧σ.kd m=.mapI left c ∧
   (left=[]→K (app σ [(.tmp d,.av (.tup [vB false]))]))∧∀ (i:Nat) y,left[i]?=some y→K (app σ [(.knd m,.kd (.mapI (left.eraseIdx i) (some y))),(.tmp d,.av (.tup [vB true,.im .any,.im .any]))])
 | .entry x,some d=>∃ (m g:Nat) (left:List IV) (y:IV),evA σ x=.sub m g 0∧σ.ig m=g∧σ.kd m=.mapI left (some y)∧K (app σ [(.tmp d,.av (.tup [.im .any,.im y]))])
 | _,_=>False
theorem exists_rd {A C:Type} {N:Type} [DecidableEq N] (f:A→N) (d:C):∀ (la:List A) (bs:List C),(la.map f).Nodup→la.length=bs.length→∃ rd:A→C,la.map rd=bs
 | [],[],_,_=>⟨fun _=>d,rfl⟩
 | a::la,b::bs,h,hl=>by
  rw [List.map_cons,List.nodup_cons] at h
  obtain ⟨rd,hr⟩:=exists_rd f d la bs h.2 (by simpa using hl)
  refine ⟨fun x=>if f x=f a then b else rd x,?_⟩
  rw [List.map_cons,if_pos rfl,← hr]
  congr 1
  refine List.map_congr_left fun x hx=>?_
  rw [if_neg fun e=>h.1 (by rw [← e];exact List.mem_map.2 ⟨x,hx,rfl⟩)]
 | [],_::_,_,hl=>by simp at hl
 | _::_,[],_,hl=>by simp at hl
theorem map_erase {A C:Type} (f:A→C):∀ (l:List A) (i:Nat),(l.map f).eraseIdx i=(l.eraseIdx i).map f
 | [],i=>rfl
 | x::l,0=>rfl
 | x::l,i+1=>by rw [List.map_cons,List.eraseIdx_cons_succ,List.eraseIdx_cons_succ,map_erase f l i];rfl
theorem filter_erase {A:Type} {f:A→Nat}:∀ {l:List A} {i:Nat} {e:A},(l.map f).Nodup→l[i]?=some e→l.filter (fun x=>!(f x==f e))=l.eraseIdx i
 | [],i,e,_,h=>by simp at h
 | x::l,0,e,hn,h=>by
  rw [List.map_cons,List.nodup_cons] at hn
  simp only [List.getElem?_cons_zero,Option.some.injEq] at h
  subst h
  rw [List.filter_cons,if_neg (by simp),List.eraseIdx_cons_zero]
  refine List.filter_eq_self.2 fun y hy=>?_
  simp only [Bool.not_eq_true',beq_eq_false_iff_ne]
  exact fun e=>hn.1 (by rw [← e];exact List.mem_map.2 ⟨y,hy,rfl⟩)
 | x::l,i+1,e,hn,h=>by
  rw [List.map_cons,List.nodup_cons] at hn
  rw [List.getElem?_cons_succ] at h
  have hne:f x≠f e:=fun h1=>hn.1 (by rw [h1];exact List.mem_map.2 ⟨e,List.mem_of_getElem? h,rfl⟩)
  rw [List.filter_cons,if_pos (by simp [hne]),List.eraseIdx_cons_succ,filter_erase hn.2 h]
section
variable {P:Program} {B:Base} {σ:St} {a:Act} {w:World}
theorem SatR.put1 {ρ:Ly} (h:SatR B σ a w ρ) {o:Oper} {d:Tmp} (hdst:o.dst=some d) (hd:dstOk B.n o=true) {u:Value} {v:AV} (hv:RepA w (Imm B σ ρ w) ρ σ.gn u v):SatR B (upd σ (.tmp d) (.av v)) (a.put o.dst u) w ρ:=by
 rw [hdst]
 exact h.put (d:=some d) (fun t e=>by injection e with e;subst e;exact dst_some hd hdst) hv
theorem sub_inv {ρ:Ly} (hs:SatR B σ a w ρ) {x:Operand} {m g:Nat} {u:Value} (hx:evA σ x=.sub m g 0) (hg:σ.ig m=g) (hi:ρ.inn m=[u]):a.eval x=u:=by
 have h1:=evA_ok hs x
 rw [hx] at h1
 generalize a.eval x=v at h1
 cases h1 with
 | sub _ _ _ _ _ _ hh =>
  have:=hh ((hs.igs m).trans hg)
  rw [hi] at this
  simpa using this.symm
theorem hOp_ok {o:Oper} {K:St→Prop} (h:hOp P o K σ) (hd:dstOk B.n o=true) (hs:Sat B σ a w) {K':Act→World→Prop} {Q:Exit→Act→World→Prop} (hK:∀ σ' a' w',K σ'→Sat B σ' a' w'→K' a' w'):o.wp P a w K' Q:=by
 obtain ⟨ρ,hs⟩:=hs
 unfold hOp at h
 split at h
 ·rename_i t x d hop hdst
  obtain ⟨m,g,ob,k,t',e,l,lm,hmt,hx,hg,hkm,hkb,hll,h⟩:=h
  obtain ⟨⟨kt,et⟩,hmt⟩:=Option.isSome_iff_exists.1 hmt
  have hund:=mapTy_spec hmt
  have hom:=hs.obs m
  rw [hkm] at hom
  obtain ⟨b,clock,es,e1,e2,e3,est⟩:=hom
  have hob:=hs.obs ob
  rw [hkb] at hob
  obtain ⟨⟨b0,b1,rows,b2,b3,b4⟩,_⟩:=hob
  have hxv:a.eval x=.map (some b):=by
   have h1:=evA_ok hs x
   rw [hx] at h1
   generalize a.eval x=v at h1
   cases h1 with
   | osl _ _ _ _ _ hh=>rw [hh hg,e1]
  obtain ⟨rd,hrd⟩:=exists_rd (fun x:MapEntry=>x.born) IV.any es.toList (l.map refG) est.2 (by
   have:=congrArg List.length hll
   rw [← e3] at this
   simpa using this)
  have hne:m≠ob:=fun e=>by rw [e,hkb] at hkm;cases hkm
  have hobl:∀ c,Owns σ ρ ob c→Imm B (app σ (fwr [(ob,0)])) ρ w c:=fun c hc=>kill_blk hs (b:=ob) hc (by simp)
  have hI1:=(hs.kills [(ob,0)]).2
  have hs1:=(hs.kills [(ob,0)]).1
  have hrefs:∀ (i:Nat) g,l[i]?=some g→RepI w (Imm B (app σ (fwr [(ob,0)])) ρ w) (pv g.1) (refG g):=fun i g hgi=>by
   have hlt:i<rows.length:=by rw [b2];exact (List.getElem?_eq_some_iff.1 hgi).1
   have hri:rows[i]?=some rows[i]:=List.getElem?_eq_getElem hlt
   obtain ⟨us,c2,c3,c4,c5,c6⟩:=b4 i g _ hgi hri
   have hin:∀ c,c∈fpv (ρ ob) (ρ.inn ob)→Owns σ ρ ob c:=fun c hc=>by unfold Owns;rw [hkb];exact hc
   have hb1:Imm B (app σ (fwr [(ob,0)])) ρ w g.1:=hobl _ (hin _ (List.mem_filterMap.2 ⟨pv g.1,List.mem_cons_of_mem _ (by rw [b3];exact List.mem_append_left _ (List.mem_map.2 ⟨g,List.mem_of_getElem? hgi,rfl⟩)),rfl⟩))
   refine .ref g.1 0 (us++[rows[i]]) _ hb1 (by simp [c3]) (fun u hu=>?_) (fun j u hu=>?_) fun j u y hu hy=>?_
   ·rcases List.mem_append.1 hu with hu | hu
    ·exact c4 u hu
    ·rw [List.mem_singleton.1 hu]
     exact HoldOk.one (inn:=[]) (k:=.row e k g.2.2) c6
   ·unfold World.cell?
    rw [c2]
    simpa using hu
   ·by_cases hj:j<us.length
    ·rw [List.getElem?_append_left hj] at hu
     rw [List.getElem?_append_left (by omega)] at hy
     exact hI1 _ _ (c5 j u y hu hy)
    ·have hjl:=(List.getElem?_eq_some_iff.1 hu).1
     simp at hjl
     have hje:j=us.length:=by omega
     subst hje
     rw [List.getElem?_append_right (Nat.le_refl _),Nat.sub_self] at hu
     rw [List.getElem?_append_right (by omega),c3,Nat.sub_self] at hy
     simp only [List.getElem?_cons_zero,Option.some.injEq] at hu hy
     subst hu hy
     exact RowOk.repI c6 (fun c hc=>⟨hobl _ (hin _ (List.mem_filterMap.2 ⟨rows[i],List.mem_cons_of_mem _ (by rw [b3];exact List.mem_append_right _ (List.mem_of_getElem? hri)),hc⟩)),rfl⟩) hI1
  have run:(execOp a.eval o).run P w=.ok (.value (.pointer (some ⟨w.heap.size,0,none⟩))) (w.alloc (.mapIter (some b) clock #[] clock)):=by
   simp only [execOp,hop,hxv,Sem.run_bind,run_range_map w t kt et b es clock hund e2,Result.andThen_ok,Sem.run_pure]
  unfold Oper.wp
  rw [run,Oper.upon_value]
  have hbl:b<w.heap.size:=(Array.getElem?_eq_some_iff.1 e2).1
  let w':=w.alloc (.mapIter (some b) clock #[] clock)
  let σ1:=app σ (fwr [(ob,0)])
  let σ2:=app σ1 [(.ign m,.n (σ.ig m+1)),(.knd m,.kd (.mapI (l.map refG) none))]
  let ρ2:Ly:=⟨ρ,fun x=>if x=m then [.pointer (some ⟨w.heap.size,0,none⟩)] else ρ.inn x,fun x=>if x=m then ρ.ig m+1 else ρ.ig x⟩
  have ekd:∀ x,σ2.kd x=if x=m then .mapI (l.map refG) none else σ1.kd x:=fun x=>by simp only [σ2,app_cons,app_nil,kd_knd,kd_ign]
  have eig:∀ x,σ2.ig x=if x=m then σ.ig m+1 else σ1.ig x:=fun x=>by simp only [σ2,app_cons,app_nil,ig_knd,ig_ign]
  have hk1:σ1.kd m=.map lm:=by
   show (app σ (fwr [(ob,0)])).kd m=_
   rw [fwr_kd,if_neg (by simpa using hne)]
   exact hkm
  have hg1:∀ x,σ1.ig x=σ.ig x:=fun x=>by show (app σ (fwr [(ob,0)])).ig x=_;rw [fwr_ig]
  have how1:∀ c,Owns σ1 ρ m c↔c=b:=fun c=>by unfold Owns;rw [hk1,e1];simp [fpk,blkOf]
  have how2:∀ c,Owns σ2 ρ2 m c→c=b∨c=w.heap.size:=fun c hc=>by
   unfold Owns at hc
   rw [ekd,if_pos rfl] at hc
   simp only [ρ2,if_pos] at hc
   simpa [fpk,fpv,e1,blkOf] using hc
  have hst:=(hs1.step (σ':=σ2) (ρ':=ρ2) (w':=w') (fun x=>x=m) (fun t=>by simp only [σ2,app_cons,app_nil,av_knd,av_ign];rfl)
   (fun x hx=>⟨by rw [ekd,if_neg hx],by simp only [σ2,app_cons,app_nil,gn_knd,gn_ign];rfl,fun i=>by simp only [σ2,app_cons,app_nil,ce_knd,ce_ign];rfl,rfl,by simp only [ρ2,if_neg hx],by simp only [ρ2,if_neg hx]⟩)
   (fun x hx=>by
    subst hx
    refine ⟨⟨by simp only [σ2,app_cons,app_nil,gn_knd,gn_ign];exact Nat.le_refl _,fun _=>rfl⟩,by simp only [ρ2,if_pos];omega,fun e=>?_⟩
    simp only [ρ2,if_pos] at e
    omega)
   (fun x=>by
    rw [eig]
    simp only [ρ2]
    by_cases e:x=m
    ·rw [if_pos e,if_pos e,hs.igs]
    ·rw [if_neg e,if_neg e,hs1.igs])
   (.of ((Below.refl _ _).alloc (Nat.le_refl _) _)) (fun x c hx hc=>by
    subst hx
    rcases how2 c hc with e | e
    ·exact .inr ⟨x,rfl,(how1 c).2 e⟩
    ·exact .inl (by omega)) (fun x y c hx hy _ _=>hx.trans hy.symm) fun hI hA x hx=>by
   subst hx
   rw [ekd,if_pos rfl]
   refine ⟨b,w.heap.size,clock,clock,clock,es,#[],rd,e1,by simp only [ρ2,if_pos],by omega,?_,heap_alloc_new w _,est.1,Nat.le_refl _,Nat.le_refl _,est.2,fun y hy=>?_,?_,fun y e=>by cases e⟩
   ·rw [← e2]
    exact heap_alloc_old _ _ hbl
   ·obtain ⟨i,hi⟩:=List.getElem?_of_mem hy
    have h1:lm[i]?=some (y.key,y.val):=by rw [← e3,List.getElem?_map,hi];rfl
    have h2:(l.map fun g=>pv g.1)[i]?=some y.val:=by rw [← hll,List.getElem?_map,h1];rfl
    have h3:(l.map refG)[i]?=some (rd y):=by rw [← hrd,List.getElem?_map,hi];rfl
    rw [List.getElem?_map] at h2 h3
    cases hgi:l[i]? with
    | none=>rw [hgi] at h2;cases h2
    | some g' =>
     rw [hgi] at h2 h3
     simp only [Option.map_some,Option.some.injEq] at h2 h3
     rw [← h2,← h3]
     exact hI _ _ (hrefs i g' hgi)
   ·rw [← hrd]
    congr 1
    exact (List.filter_eq_self.2 fun y _=>by simp).symm).1
  refine hK _ _ _ h ⟨ρ2,?_⟩
  have hput:=hst.put1 (o:=o) (d:=d) hdst hd (u:=.pointer (some ⟨w.heap.size,0,none⟩)) (v:=.sub m (σ.ig m+1) 0) (.sub _ _ _ _ rfl (by simp only [ρ2,if_pos,hs.igs];exact Nat.le_refl _) fun _=>by simp [ρ2])
  exact hput
 ·rename_i x d hop hdst
  obtain ⟨m,g,left,c,hx,hg,hkm,hk0,hk1⟩:=h
  have hom:=hs.obs m
  rw [hkm] at hom
  obtain ⟨b,r,clock,since,c0,es,seen,rd,e1,e2,e3,e4,e5,e6,e7,e8,e9,e10,e11,e12⟩:=hom
  have hxv:=sub_inv hs hx hg e2
  unfold Oper.wp
  rcases run_next_at (P:=P) w o.type r b since c0 seen es clock e5 e4 e6 e7 with ⟨h0,hrun⟩ | ⟨e,he,w1,hal,hrun⟩
  ·have run:(execOp a.eval o).run P w=.ok (.value (.tuple #[.bool false])) w:=by
    simp only [execOp,hop,hxv,Sem.run_bind,hrun,Result.andThen_ok,Sem.run_pure]
   rw [run,Oper.upon_value]
   have hl:left=[]:=by
    rw [e11,List.map_eq_nil_iff]
    apply List.eq_nil_of_length_eq_zero
    rw [← h0]
    unfold leftOf
    rw [← Array.length_toList,Array.toList_filter]
   refine hK _ _ _ (hk0 hl) ⟨ρ,hs.put1 hdst hd (v:=.tup [vB false]) (.tup [.bool false] _ rfl fun j u y hu hy=>?_)⟩
   match j with
   | 0=>simp at hu hy;rw [← hu,← hy];exact vB_rep _
   | j+1=>simp at hu
  ·obtain ⟨hem,hes⟩:=mem_left he
   have run:(execOp a.eval o).run P w=.ok (.value (.tuple #[.bool true,e.key,e.val])) (setBlock w1 r (.mapIter (some b) since (seen.push e.born) clock)):=by
    simp only [execOp,hop,hxv,Sem.run_bind,hrun,Result.andThen_ok,Sem.run_pure]
   rw [run,Oper.upon_value]
   have hr1:w1.heap[r]?=some (.mapIter (some b) since seen c0):=by rcases hal with rfl | rfl<;>exact e5
   have hw1:w1.heap=w.heap:=by rcases hal with rfl | rfl<;>rfl
   obtain ⟨i,hi⟩:=List.getElem?_of_mem (show e∈es.toList.filter (fun x=>!seen.contains x.born) from List.mem_filter.2 ⟨hem,by rw [hes];rfl⟩)
   have hly:left[i]?=some (rd e):=by rw [e11,List.getElem?_map,hi];rfl
   have hler:left.eraseIdx i=(es.toList.filter fun x=>!(seen.push e.born).contains x.born).map rd:=by
    rw [e11,map_erase,← filter_erase (f:=fun x:MapEntry=>x.born) (((List.filter_sublist).map _).nodup e9) hi,List.filter_filter]
    congr 1
    refine List.filter_congr fun x _=>?_
    rw [contains_push]
    cases seen.contains x.born<;>cases (x.born==e.born)<;>rfl
   let w2:=setBlock w1 r (.mapIter (some b) since (seen.push e.born) clock)
   have hset0:=MapKept.heap_set (o':=.mapIter (some b) since (seen.push e.born) clock) hr1
   have hset:∀ j,j≠r→w2.heap[j]?=w.heap[j]?:=fun j hj=>by rw [← hw1];exact hset0.2 j hj
   let σ2:=app σ [(.knd m,.kd (.mapI (left.eraseIdx i) (some (rd e))))]
   have ekd:∀ x,σ2.kd x=if x=m then .mapI (left.eraseIdx i) (some (rd e)) else σ.kd x:=fun x=>by simp only [σ2,app_cons,app_nil,kd_knd]
   have how:∀ x c,Owns σ2 ρ x c→Owns σ ρ x c:=fun x c hc=>by
    unfold Owns at hc ⊢
    rw [ekd] at hc
    by_cases ex:x=m
    ·subst ex
     rw [if_pos rfl] at hc
     rw [hkm]
     exact hc
    ·rw [if_neg ex] at hc
     exact hc
   have hrm:Owns σ ρ m r:=by
    unfold Owns
    rw [hkm]
    show r∈fpv (ρ m) (ρ.inn m)
    rw [e1,e2]
    simp [fpv,blkOf]
   have hst:=(hs.step (σ':=σ2) (ρ':=ρ) (w':=w2) (fun x=>x=m) (fun t=>by simp only [σ2,app_cons,app_nil,av_knd])
    (fun x hx=>⟨by rw [ekd,if_neg hx],by simp only [σ2,app_cons,app_nil,gn_knd],fun i=>by simp only [σ2,app_cons,app_nil,ce_knd],rfl,rfl,rfl⟩)
    (fun x _=>⟨⟨by simp only [σ2,app_cons,app_nil,gn_knd];exact Nat.le_refl _,fun _=>rfl⟩,Nat.le_refl _,fun _=>rfl⟩) (fun x=>by simp only [σ2,app_cons,app_nil,ig_knd];exact hs.igs x)
    ⟨by rcases hal with rfl | rfl<;>rfl,by rcases hal with rfl | rfl<;>rfl,by rcases hal with rfl | rfl<;>rfl,by rcases hal with rfl | rfl<;>simp [w2,setBlock],fun j _ hj=>hset j fun ej=>hj ⟨m,rfl,by rw [ej];exact hrm⟩⟩
    (fun x c hx hc=>.inr ⟨x,hx,how x c hc⟩) (fun x y c hx hy _ _=>hx.trans hy.symm) fun hI hA x hx=>by
    subst hx
    rw [ekd,if_pos rfl]
    exact ⟨b,r,clock,since,clock,es,seen.push e.born,rd,e1,e2,e3,(hset b (Ne.symm e3)).trans e4,hset0.1,e6,e8,e8,e9,fun y hy=>hI _ _ (e10 y hy),hler,fun y ey=>by
     injection ey with ey
     exact ⟨rfl,seen,e,rfl,hem,ey⟩⟩).1
   refine hK _ _ _ (hk1 i _ hly) ⟨ρ,?_⟩
   exact hst.put1 hdst hd (v:=.tup [vB true,.im .any,.im .any]) (.tup [.bool true,e.key,e.val] _ rfl fun j u y hu hy=>by
    match j with
    | 0=>simp at hu hy;rw [← hu,← hy];exact vB_rep _
    | 1=>simp at hu hy;rw [← hy];exact .im _ _ (.any _)
    | 2=>simp at hu hy;rw [← hy];exact .im _ _ (.any _)
    | j+3=>simp at hu)
 ·rename_i x d hop hdst
  obtain ⟨m,g,left,y,hx,hg,hkm,h⟩:=h
  have hom:=hs.obs m
  rw [hkm] at hom
  obtain ⟨b,r,clock,since,c0,es,seen,rd,e1,e2,e3,e4,e5,e6,e7,e8,e9,e10,e11,e12⟩:=hom
  obtain ⟨ec,s0,e,es0,eem,erd⟩:=e12 y rfl
  have hxv:=sub_inv hs hx hg e2
  rw [ec,es0] at e5
  have run:(execOp a.eval o).run P w=.ok (.value (.tuple #[e.key,e.val])) w:=by
   simp only [execOp,hop,hxv,Sem.run_bind,run_entry_at (P:=P) w r b since s0 es clock e e5 e4 eem e9,Result.andThen_ok,Sem.run_pure]
  unfold Oper.wp
  rw [run,Oper.upon_value]
  refine hK _ _ _ h ⟨ρ,hs.put1 hdst hd (v:=.tup [.im .any,.im y]) (.tup [e.key,e.val] _ rfl fun j u z hu hz=>?_)⟩
  match j with
  | 0=>simp at hu hz;rw [← hz];exact .im _ _ (.any _)
  | 1=>simp at hu hz;rw [← hu,← hz,← erd];exact .im _ _ (e10 e eem)
  | j+2=>simp at hu
 ·exact h.elim
def hOps (P:Program) (C:FuncId→List Arg→Rs→Prop) (n:Nat) (own:List Nat) (ops:List Oper) (sp:Nat):Nat→List Oper→St→(St→Prop)→Prop
 | _,[],σ,K=>K σ
 | i,o::l,σ,K=>match Nat.beq i sp with
  | true=>Chk (o.guard.isNone&&dstOk n o) (hOp P o (fun σ'=>hOps P C n own ops sp (i+1) l σ' K) σ)
  | false=>aGuard P C n own ops o σ fun fx=>frcF fx σ fun _ σ'=>hOps P C n own ops sp (i+1) l σ' K
end
section
variable {P:Program} {B:Base} {ops:Array Oper}
theorem hOps_ok {C:FuncId→List Arg→Rs→Prop} (hC:∀ g xs r,C g xs r→SpX P g xs r) {own:List Nat} {sp:Nat} {K:St→Prop} {Q:Exit→Act→World→Prop} (hQ:∀ σ' a' w',K σ'→Sat B σ' a' w'→Q .normal a' w'):∀ (l:List Oper) (i:Nat) (σ:St),(∀ j,l[j]?=ops[i+j]?) →
  hOps P C B.n own ops.toList sp i l σ K→∀ {a:Act} {w:World},Sat B σ a w→wpOps P ops Q (List.range' i l.length) a w
 | [],i,σ,_,h,a,w,hs=>hQ σ a w h hs
 | o::l,i,σ,hl,h,a,w,hs=>by
  have ho:ops[i]?=some o:=by simpa using (hl 0).symm
  have hl':∀ j,l[j]?=ops[i+1+j]?:=fun j=>by have:=hl (j+1);rw [List.getElem?_cons_succ] at this;rw [this];congr 1;omega
  rw [List.length_cons,List.range'_succ,wpOps_cons]
  unfold hOps at h
  split at h
  ·obtain ⟨hc,h⟩:=h.ok
   rw [Bool.and_eq_true] at hc
   refine wanted_wp ho ?_
   rw [if_pos (by unfold Region.wanted;rw [Option.isNone_iff_eq_none.1 hc.1])]
   exact hOp_ok h hc.2 hs fun σ' a' w' hk hs'=>hOps_ok hC hQ l (i+1) σ' hl' hk hs'
  ·obtain ⟨fx,h2,he⟩:=aGuard_ok (B:=B) hC h
   rw [frcF_eq] at h2
   exact wanted_wp ho (he σ (fun _ _=>rfl) a w hs _ Q fun a' w' hs'=>hOps_ok hC hQ l (i+1) _ hl' h2 hs')
def EntX (σ:St) (S:St→Prop):Prop:=∀ B a w,Sat B σ a w→∃ σ1,S σ1∧Sat B σ1 a w
inductive Rh (P:Program) (n:Nat) (own:List Nat):Code→(Exit→St→Prop)→St→Prop
 | ops (id:Nat) (os:Array Oper) (sp:Nat) (K:Exit→St→Prop) (σ:St) (h:hOps P (SpX P) n own os.toList sp 0 os.toList σ (K .normal)):Rh P n own (.region id os false) K σ
 | pre (id:Nat) (os:Array Oper) (draw:Bool) (K:Exit→St→Prop) (σ:St) (S:St→Prop) (hx:EntX σ S) (h:∀ σ1,S σ1→aOps P (SpX P) n own os.toList os.toList [] σ1 fun fs σ'=>Chk (!draw||drawOk os.toList fs) (K .normal σ')):Rh P n own (.region id os draw) K σ
theorem Rh_ok (hm:P.follows .mixedOrders=true) {own:List Nat} {c:Code} {K:Exit→St→Prop} {σ:St} (h:Rh P B.n own c K σ) {a:Act} {w:World} (hs:Sat B σ a w) {Q:Exit→Act→World→Prop} (hQ:∀ e σ' a' w',K e σ'→Sat B σ' a' w'→Q e a' w'):c.wp P Q a w:=by
 cases h with
 | ops id os sp _ _ h =>
  refine wp_region ?_
  have:=hOps_ok (B:=B) (ops:=os) (C:=SpX P) (fun _ _ _ h=>h) (hQ .normal) os.toList 0 σ (fun j=>by simp) h hs
  rw [← List.range_eq_range'] at this
  simpa using this
 | pre id os draw _ _ S hx h =>
  obtain ⟨σ1,h1,hs1⟩:=hx B a w hs
  exact aRegion_ok hm (C:=SpX P) (fun _ _ _ h=>h) (h σ1 h1) hs1 hQ
def aCodeH (P:Program) (C:FuncId→List Arg→Rs→Prop) (n:Nat) (own:List Nat) (hs:List Nat):Code→(Exit→St→Prop)→St→Prop
 | .skip,K,σ=>K .normal σ
 | .region id ops draw,K,σ=>match memB id hs with
  | true=>Rh P n own (.region id ops draw) K σ
  | false=>aOps P C n own ops.toList ops.toList [] σ fun fs σ'=>Chk (!draw||drawOk ops.toList fs) (K .normal σ')
 | .seq a b,K,σ=>match one a with
  | true=>aCodeH P C n own hs a (fun e σ'=>match e with | .normal=>aCodeH P C n own hs b K σ' | e=>K e σ') σ
  | false=>Cut (fun J=>aCodeH P C n own hs a (fun e σ'=>match e with | .normal=>J σ' | e=>K e σ') σ) fun σ'=>aCodeH P C n own hs b K σ'
 | .cond c a b,K,σ=>match asBool (evA σ c) with
  | some t=>Both t (aCodeH P C n own hs a K σ) (aCodeH P C n own hs b K σ)
  | none=>False
 | .block id body,K,σ=>match oneB id body with
  | true=>aCodeH P C n own hs body (fun e σ'=>match e with | .exit j=>if j=id then K .normal σ' else K (.exit j) σ' | e=>K e σ') σ
  | false=>Cut (fun J=>aCodeH P C n own hs body (fun e σ'=>match e with | .normal=>J σ' | .exit j=>if j=id then J σ' else K (.exit j) σ' | e=>K e σ') σ) fun σ'=>K .normal σ'
 | .loop body,K,σ=>Loops (fun K' σ'=>aCodeH P C n own hs body K' σ') K σ
 | .exit id,K,σ=>K (.exit id) σ
 | .ret,K,σ=>K .ret σ
 | _,_,_=>False
theorem aCodeH_ok (hm:P.follows .mixedOrders=true) {own hs:List Nat}:∀ (c:Code) (K:Exit→St→Prop) (σ:St),aCodeH P (SpX P) B.n own hs c K σ→∀ a w,Sat B σ a w→∀ Q:Exit→Act→World→Prop,
  (∀ e σ' a' w',K e σ'→Sat B σ' a' w'→Q e a' w')→c.wp P Q a w
 | .skip,K,σ,h,a,w,hs,Q,hQ=>wp_skip (hQ .normal σ a w h hs)
 | .region id ops draw,K,σ,h,a,w,hs,Q,hQ=>by
  simp only [aCodeH] at h
  split at h
  ·exact Rh_ok hm h hs hQ
  ·exact aRegion_ok hm (C:=SpX P) (fun _ _ _ h=>h) (id:=id) h hs hQ
 | .seq x y,K,σ,h,a,w,hs,Q,hQ=>by
  simp only [aCodeH] at h
  split at h
  case h_2 =>
   obtain ⟨Post,h1,h2⟩:=h.out
   refine wp_seq (aCodeH_ok hm x _ σ h1 a w hs _ fun e σ' a' w' hk hs'=>?_)
   cases e with
   | normal =>
    obtain ⟨σ1,he,hp⟩:=hk
    obtain ⟨φ,hφ,h3⟩:=h2 σ1 hp
    have hb2:=he B a' w' hs'
    exact aCodeH_ok hm y K σ1 (h3 (hφ B a' w' hb2)) a' w' hb2 Q hQ
   | exit id=>exact hQ _ σ' a' w' hk hs'
   | goto l=>exact hQ _ σ' a' w' hk hs'
   | ret=>exact hQ _ σ' a' w' hk hs'
   | panic ch=>exact hQ _ σ' a' w' hk hs'
   | outgrown=>exact hQ _ σ' a' w' hk hs'
  refine wp_seq (aCodeH_ok hm x _ σ h a w hs _ fun e σ' a' w' hk hs'=>?_)
  cases e with
  | normal=>exact aCodeH_ok hm y K σ' hk a' w' hs' Q hQ
  | exit id=>exact hQ _ σ' a' w' hk hs'
  | goto l=>exact hQ _ σ' a' w' hk hs'
  | ret=>exact hQ _ σ' a' w' hk hs'
  | panic ch=>exact hQ _ σ' a' w' hk hs'
  | outgrown=>exact hQ _ σ' a' w' hk hs'
 | .cond c x y,K,σ,h,a,w,hs,Q,hQ=>by
  simp only [aCodeH] at h
  split at h
  ·rename_i t ht
   obtain ⟨h1,h2⟩:=h.out
   have hc:a.eval c=.bool t:=by
    obtain ⟨ρ,hs⟩:=hs
    exact asBool_inv ht (evA_ok hs c)
   cases ht':t with
   | true=>exact wp_cond_true (hc.trans (by rw [ht'])) (aCodeH_ok hm x K σ (h1 ht') a w hs Q hQ)
   | false=>exact wp_cond_false (hc.trans (by rw [ht'])) (aCodeH_ok hm y K σ (h2 ht') a w hs Q hQ)
  ·exact h.elim
 | .block id body,K,σ,h,a,w,hs,Q,hQ=>by
  simp only [aCodeH] at h
  split at h
  case h_2 =>
   obtain ⟨Post,h1,h2⟩:=h.out
   have fin:∀ σ' a' w',(∃ σ1,Ent σ' σ1∧Post σ1)→Sat B σ' a' w'→Q .normal a' w':=fun σ' a' w' ⟨σ1,he,hp⟩ hs'=>by
    obtain ⟨φ,hφ,h3⟩:=h2 σ1 hp
    have hb2:=he B a' w' hs'
    exact hQ _ σ1 a' w' (h3 (hφ B a' w' hb2)) hb2
   refine wp_block (aCodeH_ok hm body _ σ h1 a w hs _ fun e σ' a' w' hk hs'=>?_)
   cases e with
   | exit j =>
    simp only at hk
    show (if j=id then Q .normal a' w' else Q (.exit j) a' w')
    by_cases e:j=id
    ·rw [if_pos e] at hk ⊢;exact fin σ' a' w' hk hs'
    ·rw [if_neg e] at hk ⊢;exact hQ _ σ' a' w' hk hs'
   | normal=>exact fin σ' a' w' hk hs'
   | goto l=>exact hQ _ σ' a' w' hk hs'
   | ret=>exact hQ _ σ' a' w' hk hs'
   | panic ch=>exact hQ _ σ' a' w' hk hs'
   | outgrown=>exact hQ _ σ' a' w' hk hs'
  refine wp_block (aCodeH_ok hm body _ σ h a w hs _ fun e σ' a' w' hk hs'=>?_)
  cases e with
  | exit j =>
   simp only at hk
   show (if j=id then Q .normal a' w' else Q (.exit j) a' w')
   by_cases e:j=id
   ·rw [if_pos e] at hk ⊢;exact hQ _ σ' a' w' hk hs'
   ·rw [if_neg e] at hk ⊢;exact hQ _ σ' a' w' hk hs'
  | normal=>exact hQ _ σ' a' w' hk hs'
  | goto l=>exact hQ _ σ' a' w' hk hs'
  | ret=>exact hQ _ σ' a' w' hk hs'
  | panic ch=>exact hQ _ σ' a' w' hk hs'
  | outgrown=>exact hQ _ σ' a' w' hk hs'
 | .loop body,K,σ,h,a,w,hs,Q,hQ=>loop_ok (B:=B) h (fun K' σ h a w hs Q hQ=>aCodeH_ok hm body K' σ h a w hs Q hQ) hs hQ
 | .exit id,K,σ,h,a,w,hs,Q,hQ=>wp_exit (hQ _ σ a w h hs)
 | .ret,K,σ,h,a,w,hs,Q,hQ=>wp_ret (hQ _ σ a w h hs)
 | .scope _,_,_,h,_,_,_,_,_=>h.elim
 | .label _,_,_,h,_,_,_,_,_=>h.elim
 | .rangeFunc _ _ _ _,_,_,h,_,_,_,_,_=>h.elim
 | .goto _,_,_,h,_,_,_,_,_=>h.elim
 | .refuse _,_,_,h,_,_,_,_,_=>h.elim
theorem sp_ofH {f:FuncId} {fn:Func} {c:Code} {xs:List Arg} {r:Rs} (hm:P.follows .mixedOrders=true) (own hs:List Nat) (hf:P.funcs[f]?=some fn) (hname:(fn.name=="runtime.NumGoroutine")=false) (hb:fn.body=some c)
  (hn:xs.length≤fn.ntmps) (hok:entOk xs=true) (h:OkAs xs→frcW (entW xs) 0 sig0 fun _ σ=>aCodeH P (SpX P) fn.ntmps own hs c (retK P fn.results.toList xs r) σ):Sp P f xs r:=by
 refine ⟨fun args w=>run_enter hf hname hb args w,fun w S vs F hS hrep hnd hF=>?_⟩
 have h:=h (oks_of hrep)
 rw [frcW_eq] at h
 have hlen:=hrep.len
 refine calls_of_wp hf hb (aCodeH_ok (B:=⟨w,S,fn.ntmps,fun b=>b∈F,fun _=>False,lentL xs vs,[]⟩) hm c _ _ h _ _ (st0_sat w S hrep hnd hF hS fn.ntmps (by rw [hlen];exact hn) hok) _ fun e σ' a' w' hk hs'=>?_)
 have fin:RetOk P fn.results.toList xs σ' r→a'.defers=[]∧∃ v,(results fn a'.tmps).run P w'=.ok v w'∧∃ (v':Value) (F':List Nat),Ending.returned v=.returned v'∧Belo (fun b=>b∈F) w.heap.size w w' ∧
   ResOk w' (fun b=>(S b∨w.heap.size≤b∨b∈F)∧b<w'.heap.size∧b∉F') v' (bxVs vs xs) r F'∧F'.Nodup∧∀ b∈F',(w.heap.size≤b∨b∈F)∧b<w'.heap.size:=fun hk=>by
  obtain ⟨v,F',hv,hres,h1,h2⟩:=results_ok (vs0:=vs) hk hs' hlen fun j v hv=>hv
  obtain ⟨ρ,hs'⟩:=hs'
  exact ⟨hs'.dfr,v,hv,v,F',rfl,hs'.bel,hres,h1,h2⟩
 cases e with
 | ret=>exact fin hk
 | normal=>exact fin hk
 | exit id=>exact hk.elim
 | goto l=>exact hk.elim
 | panic ch=>exact hk.elim
 | outgrown=>exact hk.elim
end
def JoinX {A:Type} (st:A→St) (φ:A→Prop) (σ:St):Prop:=∃ σ1,Ent σ σ1∧∃ x,φ x∧σ1=st x
theorem JoinX.mk {A:Type} {st:A→St} {φ:A→Prop} {σ:St} (x:A) (h:φ x) (e:Ent σ (st x)):JoinX st φ σ:=⟨st x,e,x,h,rfl⟩
attribute [irreducible] JoinX
theorem Cut.mkX {A:Type} (st:A→St) (φ:A→Prop) {body:(St→Prop)→Prop} {rest:St→Prop} (h:body (JoinX st φ)) (k:∀ x,φ x→rest (st x)):Cut body rest:=by
 unfold Cut
 unfold JoinX at h
 exact ⟨fun σ=>∃ x,φ x∧σ=st x,h,fun σ ⟨x,h1,h2⟩=>⟨True,Holds.true_ _,fun _=>by rw [h2];exact k x h1⟩⟩
def NxtX {A:Type} (st:A→St) (φ:A→Prop) (μ:A→Nat) (n:Nat) (σ:St):Prop:=∃ m',m'<n∧∃ x,μ x=m'∧φ x∧Ent σ (st x)
theorem NxtX.mk {A:Type} {st:A→St} {φ:A→Prop} {μ:A→Nat} {n:Nat} {σ:St} (x:A) (hm:μ x<n) (h:φ x) (e:Ent σ (st x)):NxtX st φ μ n σ:=⟨_,hm,x,rfl,h,e⟩
theorem Loops.mkX {A:Type} (st:A→St) (φ:A→Prop) (μ:A→Nat) {body:(Exit→St→Prop)→St→Prop} {K:Exit→St→Prop} {σ:St} (x0:A) (h0:φ x0) (e0:Ent σ (st x0))
  (hb:∀ x,φ x→body (fun e σ'=>match e with | .normal=>NxtX st φ μ (μ x) σ' | e=>K e σ') (st x)):Loops body K σ:=by
 unfold Loops
 refine ⟨fun m σ=>∃ x,μ x=m∧φ x∧Ent σ (st x),μ x0,⟨x0,rfl,h0,e0⟩,?_⟩
 rintro m σ ⟨x,rfl,hx,he⟩
 exact ⟨st x,True,he,Holds.true_ _,fun _=>hb x hx⟩
attribute [irreducible] NxtX
end Go.Proofs.YtmcfpohmiabmpaaGreatDoor.Sym

/-
 Groups of traces in a map: what a look shows.
-/
namespace Go.Proofs.YtmcfpohmiabmpaaGreatDoor.Sym
set_option maxRecDepth 100000
theorem keyC_char:∀ (w:List Int),∀ c∈keyL w,c≠47
 | [],c,h=>by cases h
 | a::w,c,h=>by
  simp only [keyL] at h
  rcases List.mem_append.1 h with h | h
  ·intro e
   subst e
   unfold enc36 at h
   split at h
   ·rcases List.mem_cons.1 h with h | h
    ·cases h
    ·have:=digs_char _ _ h
     revert this
     decide
   ·have:=digs_char _ _ h
    revert this
    decide
  ·rcases List.mem_cons.1 h with h | h
   ·subst h;decide
   ·exact keyC_char w c h
theorem cut_at:∀ {a b c d:List UInt8},(∀ x∈a,x≠47)→(∀ x∈c,x≠47)→a++47::b=c++47::d→a=c∧b=d
 | [],b,[],d,_,_,h=>by simpa using h
 | [],b,y::c,d,_,h2,h=>by
  simp only [List.nil_append,List.cons_append,List.cons.injEq] at h
  exact absurd h.1.symm (h2 y (by simp))
 | x::a,b,[],d,h1,_,h=>by
  simp only [List.nil_append,List.cons_append,List.cons.injEq] at h
  exact absurd h.1 (h1 x (by simp))
 | x::a,b,y::c,d,h1,h2,h=>by
  simp only [List.cons_append,List.cons.injEq] at h
  obtain ⟨e1,e2⟩:=cut_at (fun z hz=>h1 z (List.mem_cons_of_mem _ hz)) (fun z hz=>h2 z (List.mem_cons_of_mem _ hz)) h.2
  exact ⟨by rw [h.1,e1],e2⟩
def kq (w b:List Int):ByteArray:=(⟨(keyL w).toArray⟩++⟨#[47]⟩:ByteArray)++⟨(keyL b).toArray⟩
theorem kq_eq (w b:List Int):kq w b=⟨(keyL w++47::keyL b).toArray⟩:=by
 unfold kq
 apply ByteArray.ext
 apply Array.ext'
 simp
theorem kq_inj {w b w' b':List Int} (h:kq w b=kq w' b'):w=w'∧b=b':=by
 rw [kq_eq,kq_eq] at h
 have h:=congrArg (fun x:ByteArray=>x.data.toList) h
 simp only at h
 obtain ⟨h1,h2⟩:=cut_at (keyC_char w) (keyC_char w') h
 exact ⟨keyL_inj h1,keyL_inj h2⟩
theorem ba_beq' (a b:ByteArray):(a==b)=decide (a=b):=by
 by_cases h:a=b
 ·rw [decide_eq_true h,h,ba_rfl]
 ·rw [decide_eq_false h]
  cases e:a==b with
  | false=>rfl
  | true=>exact absurd (ba_eq e) h
theorem kq_beq {w b w' b':List Int}:(kq w b==kq w' b')=decide (w'=w∧b'=b):=by
 rw [ba_beq']
 exact decide_eq_decide.2 ⟨fun e=>⟨(kq_inj e).1.symm,(kq_inj e).2.symm⟩,fun e=>by rw [e.1,e.2]⟩
abbrev Xg:Type:=Grp×Nat
def mpX (X:List Xg):List (ByteArray×Nat):=X.map fun x=>(kq x.1.1 x.1.2.1,x.2)
def gE (g:Grp) (p:Nat):Ge:=(p,[nL cI g.1,nL cI g.2.1],g.2.2.map cI)
def bgX (X:List Xg):List Ge:=X.map fun x=>gE x.1 x.2
theorem bgX_mid (X1 X2:List Xg) (x:Xg):bgX (X1++x::X2)=bgX X1++gE x.1 x.2::bgX X2:=by
 unfold bgX
 rw [List.map_append,List.map_cons]
theorem mpX_mid (X1 X2:List Xg) (g g':Grp) (p:Nat) (h1:g'.1=g.1) (h2:g'.2.1=g.2.1):mpX (X1++(g,p)::X2)=mpX (X1++(g',p)::X2):=by
 unfold mpX
 simp only [List.map_append,List.map_cons,h1,h2]
theorem mpX_snoc (X:List Xg) (g:Grp) (p:Nat):mpX X++[(kq g.1 g.2.1,p)]=mpX (X++[(g,p)]):=by unfold mpX;rw [List.map_append];rfl
theorem mpX_ptr (X:List Xg):(mapV wS pv (mpX X)).map (·.2)=(bgX X).map fun g=>pv g.1:=by
 unfold mapV mpX bgX gE
 simp only [List.map_map]
 rfl
theorem grps_look (w b:List Int):∀ X:List Xg,(mget (kq w b) (mpX X)=none∧(∀ p:Nat,mset (kq w b) p (mpX X)=mpX X++[(kq w b,p)])∧∀ y,grpAdd (X.map (·.1)) w b y=X.map (·.1)++[(w,b,[y])]) ∨
  ∃ X1 g p X2,X=X1++(g,p)::X2∧g.1=w∧g.2.1=b∧mget (kq w b) (mpX X)=some p∧∀ y,grpAdd (X.map (·.1)) w b y=(X1++((w,b,leastI g.2.2 y),p)::X2).map (·.1)
 | []=>.inl ⟨rfl,fun _=>rfl,fun _=>rfl⟩
 | (g,p)::X=>by
  by_cases h:g.1=w∧g.2.1=b
  ·refine .inr ⟨[],g,p,X,rfl,h.1,h.2,?_,fun y=>?_⟩
   ·show (match kq w b==kq g.1 g.2.1 with | true=>some p | false=>mget (kq w b) (mpX X))=some p
    rw [kq_beq,decide_eq_true h]
   ·show (if g.1=w∧g.2.1=b then (g.1,g.2.1,leastI g.2.2 y)::X.map (·.1) else g::grpAdd (X.map (·.1)) w b y)=_
    rw [if_pos h,h.1,h.2]
    rfl
  ·have hk:(kq w b==kq g.1 g.2.1)=false:=by rw [kq_beq,decide_eq_false h]
   have e1:mget (kq w b) (mpX ((g,p)::X))=mget (kq w b) (mpX X):=by
    show (match kq w b==kq g.1 g.2.1 with | true=>some p | false=>mget (kq w b) (mpX X))=_
    rw [hk]
   have e2:∀ y,grpAdd (((g,p)::X).map (·.1)) w b y=g::grpAdd (X.map (·.1)) w b y:=fun y=>by
    show (if g.1=w∧g.2.1=b then (g.1,g.2.1,leastI g.2.2 y)::X.map (·.1) else g::grpAdd (X.map (·.1)) w b y)=_
    rw [if_neg h]
   rcases grps_look w b X with ⟨h1,h2,h3⟩ | ⟨X1,g',p',X2,h1,h2,h3,h4,h5⟩
   ·refine .inl ⟨e1.trans h1,fun q=>?_,fun y=>by rw [e2,h3];rfl⟩
    show (match kq w b==kq g.1 g.2.1 with | true=>(kq w b,q)::mpX X | false=>(kq g.1 g.2.1,p)::mset (kq w b) q (mpX X))=_
    rw [hk,h2]
    rfl
   ·exact .inr ⟨(g,p)::X1,g',p',X2,by rw [h1];rfl,h2,h3,e1.trans h4,fun y=>by rw [e2,h5];rfl⟩
def LOk (l:List Int):Prop:=l.length≤2∧l.Pairwise (·<·)
def XOk (X:List Xg):Prop:=∀ x∈X,LOk x.1.2.2
theorem XOk.mid {X1 X2:List Xg} {x:Xg} (h:XOk (X1++x::X2)) {x':Xg} (hx:LOk x'.1.2.2):XOk (X1++x'::X2):=fun y hy=>by
 rcases List.mem_append.1 hy with hy | hy
 ·exact h y (List.mem_append_left _ hy)
 ·rcases List.mem_cons.1 hy with rfl | hy
  ·exact hx
  ·exact h y (List.mem_append_right _ (List.mem_cons_of_mem _ hy))
theorem grpA_succ (l:List Grp) (t:T_api_Trace) (n:Nat):grpA l t (n+1)=grpAdd (grpA l t n) (t.In.take (n+1)) (t.Out.take n) ((t.Out[n]?).getD 0):=by
 unfold grpA
 rw [List.range_succ,List.foldl_append]
 rfl
theorem grps_succ (l:List T_api_Trace) (i:Nat) (t:T_api_Trace) (h:l[i]?=some t):grpsN (l.take (i+1))=grpT (grpsN (l.take i)) t:=by
 unfold grpsN
 rw [List.take_add_one,h,List.foldl_append]
 rfl
theorem insI_mem (x:Int):∀ (l:List Int) (y:Int),y∈insI x l↔y=x∨y∈l
 | [],y=>by simp [insI]
 | a::l,y=>by
  unfold insI
  split
  ·simp
  ·simp only [List.mem_cons,insI_mem x l y]
   constructor
   ·rintro (h | h | h)
    ·exact .inr (.inl h)
    ·exact .inl h
    ·exact .inr (.inr h)
   ·rintro (h | h | h)
    ·exact .inr (.inl h)
    ·exact .inl h
    ·exact .inr (.inr h)
theorem insI_sorted {x:Int}:∀ {l:List Int},l.Pairwise (·<·)→x∉l→(insI x l).Pairwise (·<·)
 | [],_,_=>by simp [insI]
 | a::l,h,hx=>by
  obtain ⟨h1,h2⟩:=List.pairwise_cons.1 h
  simp only [List.mem_cons,not_or] at hx
  unfold insI
  split
  ·rename_i hlt
   refine List.pairwise_cons.2 ⟨fun y hy=>?_,h⟩
   rcases List.mem_cons.1 hy with rfl | hy
   ·exact hlt
   ·have:=h1 y hy;omega
  ·rename_i hlt
   refine List.pairwise_cons.2 ⟨fun y hy=>?_,insI_sorted h2 hx.2⟩
   rcases (insI_mem x l y).1 hy with rfl | hy
   ·have:=hx.1;omega
   ·exact h1 y hy
theorem leastI_ok {l:List Int} (h:LOk l) (x:Int):LOk (leastI l x):=by
 unfold leastI
 split
 ·exact h
 ·rename_i hx
  exact ⟨by simp;omega,(insI_sorted h.2 hx).sublist (List.take_sublist _ _)⟩
theorem totB_perm {α:Type} [DecidableEq α] {f:α→α→Option Int} {l l':List α} (h:l.Perm l'):totB f l=totB f l':=by
 unfold totB
 simp only [h.all_eq]
theorem libSort_perm {α:Type} [DecidableEq α] {f:α→α→Option Int} {l l':List α} (h:l.Perm l'):libSort l f=libSort l' f:=by
 unfold libSort
 rw [h.length_eq,totB_perm h]
 cases ht:totB f l' with
 | false=>rfl
 | true =>
  have T':=totB_iff ht
  have T:=totB_iff ((totB_perm h).trans ht)
  rw [sorted_uniq (T.sub fun x hx=>(isortF_perm f l).mem_iff.1 hx) ((isortF_perm f l).trans (h.trans (isortF_perm f l').symm)) (isortF_sorted T) (isortF_sorted T')]
theorem erase_perm {α:Type}:∀ {l:List α} {k:Nat} {x:α},l[k]?=some x→l.Perm (x::l.eraseIdx k)
 | [],k,x,h=>by simp at h
 | y::l,0,x,h=>by
  simp only [List.getElem?_cons_zero,Option.some.injEq] at h
  subst h
  exact .refl _
 | y::l,k+1,x,h=>by
  rw [List.getElem?_cons_succ] at h
  rw [List.eraseIdx_cons_succ]
  exact ((erase_perm h).cons y).trans (.swap x y _)
theorem grpAdd_len (w b:List Int) (x:Int):∀ l:List Grp,(grpAdd l w b x).length≤l.length+1
 | []=>by simp [grpAdd]
 | g::l=>by
  unfold grpAdd
  split
  ·simp
  ·simp only [List.length_cons]
   have:=grpAdd_len w b x l
   omega
theorem grpA_len (l:List Grp) (t:T_api_Trace) (n:Nat):(grpA l t n).length≤l.length+n:=by
 induction n with
 | zero=>exact Nat.le_refl _
 | succ n ih =>
  rw [grpA_succ]
  have:=grpAdd_len (t.In.take (n+1)) (t.Out.take n) ((t.Out[n]?).getD 0) (grpA l t n)
  omega
theorem grps_len:∀ (ts:List T_api_Trace) (l:List Grp),(∀ t∈ts,t.In.length≤1000)→(ts.foldl grpT l).length≤l.length+1000*ts.length
 | [],l,_=>by simp
 | t::ts,l,h=>by
  rw [List.foldl_cons]
  have h1:=grps_len ts (grpT l t) fun x hx=>h x (List.mem_cons_of_mem _ hx)
  have h2:=grpA_len l t (min t.In.length t.Out.length)
  have h3:=h t List.mem_cons_self
  have h4:(grpT l t).length≤l.length+min t.In.length t.Out.length:=h2
  simp only [List.length_cons]
  omega
end Go.Proofs.YtmcfpohmiabmpaaGreatDoor.Sym

/-
 The sort at pointers to groups, and the comparison that it is handed.
-/
namespace Go.Proofs.YtmcfpohmiabmpaaGreatDoor.Sym
open Go.RowKit Go.Sort
set_option maxRecDepth 100000
theorem sortC_groups:SortC Tryz.prog 41 1 one1:=by
 refine ⟨fun p cap fv w=>AnyF.slices_SortFunc_none { Tryz.sortG with } p cap fv w,?_⟩
 intro E _ enc cf g blk cap d w hk h1 hO eg hcmp hH hblk hsz
 have e1:∀ m (dk:Array E),putRow (fun x=>one1 (enc x)) (Sort.ahead w m) blk 0 dk=putRow id (Sort.ahead w m) blk 0 (Go.Sort.flatK enc 1 dk):=fun m dk=>by rw [flat_one1 hk,putRow_map]
 have hone:OneCell fun x=>one1 (enc x):=fun x=>by
  have h2:=hk x
  have h3:=h1 x
  match h:enc x,h2 with
  | [v],_ =>
   show (one1 (enc x)).oneCell'=true
   rw [h] at h3 ⊢
   exact h3 v (by simp)
 refine (Any.slices_SortFunc Tryz.sortG (fun x=>one1 (enc x)) hone cf hO g #[] blk 0 cap d w eg (fun m os dk hs x y=>?_) (holds_map (by rw [← flat_one1 hk];exact hH)) hblk hsz).mono ?_
 ·have:=hcmp m os dk hs x y
  unfold sortWorld
  rw [e1]
  simpa using this
 ·rintro e w' ⟨he,d',n,os,hp,hs,hw⟩
  exact ⟨he,d',n,os,hp,hs,by rw [hw];unfold sortWorld;rw [e1]⟩
theorem rep_ref3 {w:World} {S:Nat→Prop} {u:Value} {x y z:IV} (h:RepI w S u (.ref [x,y,z])):∃ (b o:Nat) (p q r:Value),u=.pointer (some ⟨b,o,none⟩)∧w.cell? ⟨b,o,none⟩=some p∧w.cell? ⟨b,o+1,none⟩=some q∧RepI w S p x∧RepI w S q y:=by
 generalize hz:IV.ref [x,y,z]=v at h
 cases h with
 | ref b o us cs hS hl h1 hu hr =>
  injection hz with hz
  subst hz
  match us,hl with
  | [p,q,r],_=>exact ⟨b,o,p,q,r,rfl,hu 0 p rfl,hu 1 q rfl,hr 0 p x rfl rfl,hr 1 q y rfl rfl⟩
 | _=>cases hz
set_option maxHeartbeats 1000000 in
theorem cmp1_any {A A' B B':Option Addr} {n c m c' p q p' q' b o b' o':Nat} {xs ys xs' ys':List Int} {w:World} (hx:RowOf w IsInt A n c xs) (hy:RowOf w IsInt B m c' ys) (hx':RowOf w IsInt A' p q xs') (hy':RowOf w IsInt B' p' q' ys')
  (h1:w.cell? ⟨b,o,none⟩=some (.slice A n c)) (h2:w.cell? ⟨b',o',none⟩=some (.slice B m c')) (h3:w.cell? ⟨b,o+1,none⟩=some (.slice A' p q)) (h4:w.cell? ⟨b',o'+1,none⟩=some (.slice B' p' q')) {r:Int} (hr:(cmpW xs ys≠0∧r=cmpW xs ys)∨(cmpW xs ys=0∧r=lexI xs' ys')) :
  Calls Tryz.prog 42 #[.pointer (some ⟨b,o,none⟩),.pointer (some ⟨b',o',none⟩)] w fun e w'=>e=.returned (.int .i64 r)∧∃ q os,w'=Sort.grow (w.drewN q) os:=by
 have k1:Keeps w w.drew:=fun _ _ h=>h
 rcases hr with ⟨h0,rfl⟩ | ⟨h0,rfl⟩
 ·have d3:(cmpW xs ys != 0)=true:=by simp [h0]
  clear h0
  go_enter Tryz.func42,Tryz.ntmps42
  go_wp2
  go_still_tail 8,(by kernel_rfl)
  change wpList _ _ _ _ _ w.drew
  go_wp2_with (go_at_call 36;refine (wordCompare_any (hx.kept k1) (hy.kept k1)).mono ?_;rintro e w' ⟨rfl,rfl⟩)
  go_ret
  exact ⟨rfl,1,_,Sort.alloc_eq_grow (w.drewN 1) (.cells #[.int .i64 (cmpI xs.length ys.length),.int .i64 (lexI xs ys)] 3)⟩
 ·have d3:(cmpW xs ys != 0)=false:=by simp [h0]
  clear h0
  have kx:∀ o'',Keeps w ((w.alloc o'').drew).drew:=fun o''=>(grown_keeps (World.grownBy_alloc w o'' none)).trans fun _ _ h=>h
  have g3:∀ o'',((w.alloc o'').drew).cell? ⟨b,o+1,none⟩=some (.slice A' p q):=fun o''=>kx o'' _ _ h3
  have g4:∀ o'',((w.alloc o'').drew).cell? ⟨b',o'+1,none⟩=some (.slice B' p' q'):=fun o''=>kx o'' _ _ h4
  go_enter Tryz.func42,Tryz.ntmps42
  go_wp2
  go_still_tail 8,(by kernel_rfl)
  change wpList _ _ _ _ _ w.drew
  go_wp2_with (go_at_call 36;refine (wordCompare_any (hx.kept k1) (hy.kept k1)).mono ?_;rintro e w' ⟨rfl,rfl⟩)
  generalize hW:((w.alloc _).drew)=W
  have g3':=g3 (.cells #[.int .i64 (cmpI xs.length ys.length),.int .i64 (lexI xs ys)] 3)
  have g4':=g4 (.cells #[.int .i64 (cmpI xs.length ys.length),.int .i64 (lexI xs ys)] 3)
  have kx':=kx (.cells #[.int .i64 (cmpI xs.length ys.length),.int .i64 (lexI xs ys)] 3)
  rw [hW] at g3' g4' kx'
  go_still_tail 8,(by kernel_rfl)
  change wpList _ _ _ _ _ W.drew
  go_wp2_with (go_at_call 43;refine (wordLex_any (hx'.kept kx') (hy'.kept kx')).mono ?_;rintro e w' ⟨rfl,rfl⟩)
  go_ret
  exact ⟨rfl,2,_,by rw [← hW];exact Sort.alloc_eq_grow (w.drewN 2) (.cells #[.int .i64 (cmpI xs.length ys.length),.int .i64 (lexI xs ys)] 3)⟩
theorem cmpG_groups {f:Grp→Grp→Option Int} (hf:∀ g h r,f g h=some r→g.1.length≤17592186044416→g.2.1.length≤17592186044416→(cmpW g.1 h.1≠0∧r=cmpW g.1 h.1)∨(cmpW g.1 h.1=0∧r=lexI g.2.1 h.2.1)):CmpG Tryz.prog 42 vG f:=by
 intro W S u u' x y r h hu hu'
 have hr:=hf x y r h
 obtain ⟨b,o,p,q,s,rfl,a1,a2,a3,a4⟩:=rep_ref3 hu
 obtain ⟨b',o',p',q',s',rfl,b1,b2,b3,b4⟩:=rep_ref3 hu'
 obtain ⟨A,n,c,rfl,h1⟩:=rowOf_ints a3
 obtain ⟨A',n',c',rfl,h2⟩:=rowOf_ints a4
 obtain ⟨D,m,d,rfl,h3⟩:=rowOf_ints b3
 obtain ⟨D',m',d',rfl,h4⟩:=rowOf_ints b4
 exact cmp1_any h1 h3 h2 h4 a1 b1 a2 b2 (hr (by rw [h1.len];exact h1.small) (by rw [h2.len];exact h2.small))
theorem sp_bitsLen (n:Nat) (h:n<2^62):Sp Tryz.prog 62 [.im (.val (.int .u64 n))] (.im (nI (Lib.bitLen n:Nat))):=by
 refine ⟨fun args w=>run_enter rfl rfl rfl args w,fun w S vs F hS hv hn hF=>?_⟩
 match vs,hv with
 | [v],⟨F1,F2,⟨h3,e1⟩,h4,e2⟩ =>
  have h4:F2=[]:=h4
  subst e1 h4 e2
  have hv:v=.int .u64 n:=by
   generalize hz:IV.val (.int .u64 n)=z at h3
   cases h3 with
   | val _=>injection hz with hz;exact hz.symm
   | _=>cases hz
  subst hv
  have hb:=Any.bits_Len (SlLaysF0.n15.bits (P:=Tryz.prog) (ρ:=Tryz.sortW_ren) { Tryz.sortW with }) (n:Int) w (by omega) (by omega)
  refine Calls.mono hb ?_
  rintro e w' ⟨rfl,rfl⟩
  exact ⟨_,[],rfl,.refl _ _ _,⟨[_],[],[],rfl,⟨[],[],⟨.val _,rfl⟩,rfl,rfl⟩,rfl,rfl⟩,List.nodup_nil,fun b hb=>by simp at hb⟩
end Go.Proofs.YtmcfpohmiabmpaaGreatDoor.Sym

/-
 The comparisons of words, and what the groups of traces want.
-/
namespace Go.Proofs.YtmcfpohmiabmpaaGreatDoor.Sym
end Go.Proofs.YtmcfpohmiabmpaaGreatDoor.Sym

/-
  The contracts of the functions, read from the code by a program (ext.py): each function has its plain twin as its contract.
-/
namespace Go.Proofs.YtmcfpohmiabmpaaGreatDoor.Sym
open Go.RowKit
set_option maxRecDepth 100000
set_option linter.unusedVariables false
set_option maxHeartbeats 4000000
theorem eI {σ:St} {src:List (Nat×Option Nat)} {γ:Nat→Nat} {t:Nat} {y b:IV} (h1:σ.av t=.im y) (h2:AV.im y=.im b):∃ x,σ.av t=x∧SubR σ src γ x (.im b):=⟨.im y,h1,.im (Sub.rfl' h2)⟩
theorem odt {p:Prop} [Decidable p] (h:decide p=true):p:=of_decide_eq_true h
theorem odf {p:Prop} [Decidable p] (h:decide p=false):¬ p:=of_decide_eq_false h
theorem ctd {α:Type} {p:Prop} [Decidable p] {x y z:α} (hb:decide p=true) (h:cond (decide p) x y=z):x=z∧p:=⟨cond_t hb h,odt hb⟩
theorem cfd {α:Type} {p:Prop} [Decidable p] {x y z:α} (hb:decide p=false) (h:cond (decide p) x y=z):y=z∧¬ p:=⟨cond_f hb h,odf hb⟩
theorem hT {σ:St}:Holds σ True:=Holds.true_ _
abbrev lZ {α:Type} (l:List α):Prop:=List.length l≤17592186044416
theorem eA {σ:St} {avs:List (Nat×AV)} {kds:List (Nat×Kd)} {cels:List (Nat×Nat×AV)} (src:List (Nat×Option Nat)) (hn:ndB (srcs src) []=true:=by exact rfl) (ha:SubL σ src (gnM kds) avs:=by repeat' (first | exact trivial | refine ⟨eI rfl rfl,?_⟩ | refine ⟨⟨.own _ _ _,rfl,.own rfl rfl rfl⟩,?_⟩ | refine ⟨⟨.osl _ _,rfl,.osl rfl rfl rfl⟩,?_⟩ | refine ⟨⟨.im (.val (.slice none 0 0)),rfl,.made rfl rfl⟩,?_⟩)) (hk:KdL σ src kds:=by repeat' (first | exact trivial | refine ⟨.inl ⟨_,rfl,rfl,trivial⟩,?_⟩ | refine ⟨.inl ⟨_,rfl,rfl,⟨rfl,rfl⟩⟩,?_⟩ | refine ⟨.inr ⟨rfl,rfl,.inl ⟨_,_,rfl,by decide⟩⟩,?_⟩)) (hc:CeL σ src (gnM kds) cels:=by repeat' (first | exact trivial | refine ⟨⟨_,.im _,rfl,rfl,.im (Sub.rfl' rfl)⟩,?_⟩ | refine ⟨⟨_,.own _ _ _,rfl,rfl,.own rfl rfl rfl⟩,?_⟩ | refine ⟨⟨_,.osl _ _,rfl,rfl,.osl rfl rfl rfl⟩,?_⟩)):Ent σ (mkSt avs kds cels):=Ent.mk src hn ha hk hc
theorem sp_R02_Great (l_:List (List Int)) (words_:Int) (symbols_:Int) (r:Bool) (h:Ok (nL (cL cI) l_)→Ok (nI words_)→Ok (nI symbols_)→R02_Great l_ words_ symbols_=some r):Sp Tryz.prog 9 [.im (nL (cL cI) l_),.im (nI words_),.im (nI symbols_)] (.im (nB r)):=by
 refine sp_of rfl [] rfl rfl rfl (Nat.le_of_ble_eq_true rfl) rfl fun hk=>?_
 replace h:=h hk.1 hk.2.1 hk.2.2.1
 have z1:lZ l_:=ok_len hk.1
 unfold R02_Great at h
 conv=>whnf
 obtain ⟨oc,hc,hk51⟩:=bind_some h
 clear h
 have h:=hc
 clear hc
 refine Cut.mkS oc (Y:=Unit) (fun (_:Unit)=>mkSt [(0,.im (nL (cL cI) l_)),(1,.im (nI words_))] [] []) (fun (_:Unit)=>lZ l_∧True) (by rintro ⟨⟩;exact ((Holds.avl 0 rfl).and (hT))) ?_ ?_
 conv=>whnf
 refine Loops.iter (fun (s:Nat)=>R02_Great.s2 l_ words_ symbols_ s) (fun i93=>mkSt [(0,.im (nL (cL cI) l_)),(1,.im (nI words_)),(2,.im (nI symbols_)),(7,.im (nI (↑i93:Int)))] [] []) (fun i93=>lZ l_∧True) h (eA []) (by rintro i93;exact ((Holds.avl 0 rfl).and (hT))) ?_
 clear h
 rintro k i93 o hp h ho104
 replace h:R02_Great.s2 l_ words_ symbols_ i93=some o:=h
 unfold R02_Great.s2 at h
 obtain ⟨z115,_⟩:=hp
 conv=>whnf
 obtain ⟨y108,hc,hk106⟩:=bind_some h
 clear h
 have h:=hc
 clear hc
 refine Cut.mk (mkSt [(0,.im (nL (cL cI) l_)),(1,.im (nI words_)),(2,.im (nI symbols_)),(7,.im (nI (↑i93:Int))),(16,.im (nB y108))] [] []) (lZ l_∧True) ((Holds.avl 0 rfl).and (hT)) ?_ (fun hp=>?_)
 conv=>whnf
 refine Nf.mk (List.length l_) len_map ?_
 conv=>whnf
 refine Both.mk ?_ ?_<;>intro b109
 replace b109:=beq_tt b109
 obtain ⟨h,b109d⟩:=ctd b109 h
 conv=>whnf
 iterate 2 (refine Both.yes (tt_beq b109) ?_;(conv=>whnf))
 refine Both.yes b109 ?_
 conv=>whnf
 cases h
 exact Join.mk (eA [])
 replace b109:=beq_tf b109
 obtain ⟨h,b109d⟩:=cfd b109 h
 conv=>whnf
 iterate 2 (refine Both.no (ft_beq b109) ?_;(conv=>whnf))
 refine Both.no b109 ?_
 conv=>whnf
 cases h
 exact Join.mk (eA [])
 replace h:=hk106
 obtain ⟨z110,_⟩:=hp
 conv=>whnf
 refine Both.mk ?_ ?_<;>intro b111
 replace h:=cond_t b111 h
 conv=>whnf
 obtain ⟨e112,he112,h⟩:=idxn_some h
 refine ⟨_,⟨(by omega),map_at he112,rfl⟩,?_⟩
 conv=>whnf
 refine Nf.mk (List.length e112) len_map ?_
 conv=>whnf
 refine Both.mk ?_ ?_<;>intro b113
 obtain ⟨h,b113d⟩:=ctd b113 h
 conv=>whnf
 cases h
 have ho104:_=_:=ho104
 cases ho104
 replace h:some _=some _:=hk51
 cases h
 conv=>whnf
 exact ⟨rfl,rfl⟩
 obtain ⟨h,b113d⟩:=cfd b113 h
 conv=>whnf
 obtain ⟨c114,h⟩:=chk_some h
 refine Arith.mk c114 ?_
 conv=>whnf
 cases h
 exact Nxt.mk _ ho104 (eA [])
 replace h:=cond_f b111 h
 conv=>whnf
 cases h
 have ho104:_=_:=ho104
 cases ho104
 exact JoinS.mk' _ rfl (eA [])
 rintro ⟨⟩ rfl hp
 replace h:=sum_inl hk51
 obtain ⟨z116,_⟩:=hp
 conv=>whnf
 refine Nf.mk (List.length l_) len_map ?_
 conv=>whnf
 cases h
 conv=>whnf
 exact ⟨rfl,rfl⟩
theorem sp_nondet_Vote (l_:List (List Int)) (need_:Int) (r:List Int×Int) (h:Ok (nL (cL cI) l_)→Ok (nI need_)→nondet_Vote l_ need_=some r):Sp Tryz.prog 11 [.im (nL (cL cI) l_),.im (nI need_)] (.tup [nL cI r.1,nI r.2]):=by
 refine sp_of rfl [] rfl rfl rfl (Nat.le_of_ble_eq_true rfl) rfl fun hk=>?_
 replace h:=h hk.1 hk.2.1
 have z1:lZ l_:=ok_len hk.1
 unfold nondet_Vote at h
 conv=>whnf
 obtain ⟨y54,hc,hk52⟩:=bind_some h
 clear h
 have h:=hc
 clear hc
 refine Cut.mk (mkSt [(0,.im (nL (cL cI) l_)),(1,.im (nI need_)),(15,.im (nB y54))] [] []) (lZ l_∧True) ((Holds.avl 0 rfl).and (hT)) ?_ (fun hp=>?_)
 conv=>whnf
 refine Both.mk ?_ ?_<;>intro b55
 replace b55:=beq_ff b55
 obtain ⟨h,b55d⟩:=cfd b55 h
 conv=>whnf
 refine Both.yes (ff_beq b55) ?_
 conv=>whnf
 refine Both.no b55 ?_
 conv=>whnf
 cases h
 exact Join.mk (eA [])
 replace b55:=beq_ft b55
 obtain ⟨h,b55d⟩:=ctd b55 h
 conv=>whnf
 refine Both.no (tf_beq b55) ?_
 conv=>whnf
 refine Both.yes b55 ?_
 conv=>whnf
 cases h
 exact Join.mk (eA [])
 replace h:=hk52
 obtain ⟨z56,_⟩:=hp
 conv=>whnf
 refine Both.mk ?_ ?_<;>intro b57
 replace h:=cond_t b57 h
 conv=>whnf
 cases h
 conv=>whnf
 exact ⟨rfl,rfl⟩
 replace h:=cond_f b57 h
 conv=>whnf
 refine Nf.mk (List.length l_) len_map ?_
 conv=>whnf
 obtain ⟨oc,hc,hk58⟩:=bind_some h
 clear h
 have h:=hc
 clear hc
 refine Cut.mkS oc (Y:=Unit) (fun (_:Unit)=>mkSt [] [] []) (fun (_:Unit)=>True) (by rintro ⟨⟩;exact (hT)) ?_ ?_
 conv=>whnf
 refine Loops.iter (fun (s:(List (ByteArray×Int))×Nat)=>nondet_Vote.s2 l_ need_ s.1 s.2) (fun (y87,y88)=>mkSt [(1,.im (nI need_)),(6,.osl 64 1),(17,.im (nL (cL cI) l_)),(18,.im (nI (↑(List.length l_):Int))),(19,.im (nI (↑y88:Int)))] [(64,.map (mapV wS wI y87))] []) (fun (y87,y88)=>lZ l_∧True) h (eA [(64,some 16)]) (by rintro ⟨y87,y88⟩;exact ((Holds.avl 17 rfl).and (hT))) ?_
 clear h
 rintro k ⟨y87,y88⟩ o hp h ho95
 replace h:nondet_Vote.s2 l_ need_ y87 y88=some o:=h
 unfold nondet_Vote.s2 at h
 obtain ⟨z102,_⟩:=hp
 conv=>whnf
 refine Both.mk ?_ ?_<;>intro b96
 obtain ⟨h,b96d⟩:=ctd b96 h
 conv=>whnf
 obtain ⟨e97,he97,h⟩:=idxn_some h
 refine ⟨_,⟨(by omega),map_at he97,rfl⟩,?_⟩
 conv=>whnf
 obtain ⟨c98,hc98,h⟩:=bind_some h
 refine ⟨_,(sp_nondet_key e97 c98 (hc98)),?_⟩
 conv=>whnf
 refine Side.mk rfl ?_
 conv=>whnf
 refine ⟨_,find_str _ wI _,?_⟩
 conv=>whnf
 refine Nf.mk (wI ((mget c98 y87).getD 0)) (getD_map rfl _) ?_
 conv=>whnf
 obtain ⟨c99,h⟩:=chk_some h
 refine Arith.mk c99 ?_
 conv=>whnf
 refine Side.mk rfl ?_
 conv=>whnf
 refine ⟨_,set_str _ (((mget c98 y87).getD 0)+1) wI _,?_⟩
 conv=>whnf
 refine Side.mk rfl ?_
 conv=>whnf
 refine ⟨_,find_str _ wI _,?_⟩
 conv=>whnf
 refine Nf.mk (wI ((mget c98 (mset c98 (((mget c98 y87).getD 0)+1) y87)).getD 0)) (getD_map rfl _) ?_
 conv=>whnf
 refine Both.mk ?_ ?_<;>intro b100
 obtain ⟨h,b100d⟩:=ctd b100 h
 conv=>whnf
 obtain ⟨c101,hc101,h⟩:=bind_some h
 refine ⟨_,(sp_lib_Clone_int e97 c101 (hc101)).im,?_⟩
 conv=>whnf
 cases h
 have ho95:_=_:=ho95
 cases ho95
 replace h:some _=some _:=hk58
 cases h
 conv=>whnf
 exact ⟨rfl,rfl⟩
 obtain ⟨h,b100d⟩:=cfd b100 h
 conv=>whnf
 refine Arith.mk (by show inR _;unfold inR;omega) ?_
 conv=>whnf
 cases h
 exact Nxt.mk _ ho95 (eA [(64,some 64)])
 obtain ⟨h,b96d⟩:=cfd b96 h
 conv=>whnf
 cases h
 have ho95:_=_:=ho95
 cases ho95
 exact JoinS.mk' _ rfl (eA [])
 rintro ⟨⟩ rfl hp
 replace h:=sum_inl hk58
 conv=>whnf
 cases h
 conv=>whnf
 exact ⟨rfl,rfl⟩
theorem sp_R01_Common (a_:List Int) (b_:List Int) (r:Int) (h:Ok (nL cI a_)→Ok (nL cI b_)→R01_Common a_ b_=some r):Sp Tryz.prog 38 [.im (nL cI a_),.im (nL cI b_)] (.im (nI r)):=by
 refine sp_of rfl [] rfl rfl rfl (Nat.le_of_ble_eq_true rfl) rfl fun hk=>?_
 replace h:=h hk.1 hk.2.1
 have z1:lZ a_:=ok_len hk.1
 have z2:lZ b_:=ok_len hk.2.1
 unfold R01_Common at h
 conv=>whnf
 obtain ⟨i100,hc,hk51⟩:=bind_some h
 clear h
 have h:=hc
 clear hc
 refine Cut.mk (mkSt [(5,.im (nI (↑i100:Int)))] [] []) (True) (hT) ?_ (fun hp=>?_)
 conv=>whnf
 refine Loops.iter (fun (s:Nat)=>R01_Common.s2 a_ b_ s) (fun i115=>mkSt [(0,.im (nL cI a_)),(1,.im (nL cI b_)),(5,.im (nI (↑i115:Int)))] [] []) (fun i115=>lZ a_∧lZ b_∧True) h (eA []) (by rintro i115;exact ((Holds.avl 0 rfl).and ((Holds.avl 1 rfl).and (hT)))) ?_
 clear h
 rintro k i115 o hp h ho131
 replace h:R01_Common.s2 a_ b_ i115=some o:=h
 unfold R01_Common.s2 at h
 obtain ⟨z147,z148,_⟩:=hp
 conv=>whnf
 obtain ⟨y138,hc,hk133⟩:=bind_some h
 clear h
 have h:=hc
 clear hc
 refine Cut.mk (mkSt [(0,.im (nL cI a_)),(1,.im (nL cI b_)),(5,.im (nI (↑i115:Int))),(26,.im (nB y138))] [] []) (lZ a_∧lZ b_∧True) ((Holds.avl 0 rfl).and ((Holds.avl 1 rfl).and (hT))) ?_ (fun hp=>?_)
 conv=>whnf
 refine Nf.mk (List.length a_) len_map ?_
 conv=>whnf
 refine Both.mk ?_ ?_<;>intro b139
 replace b139:=beq_tt b139
 obtain ⟨h,b139d⟩:=ctd b139 h
 conv=>whnf
 iterate 2 (refine Both.yes (tt_beq b139) ?_;(conv=>whnf))
 refine Nf.mk (List.length b_) len_map ?_
 conv=>whnf
 refine Both.yes (tt_beq b139) ?_
 conv=>whnf
 refine Both.yes b139 ?_
 conv=>whnf
 refine Both.mk ?_ ?_<;>intro b140
 replace b140:=beq_tt b140
 obtain ⟨h,b140d⟩:=ctd b140 h
 conv=>whnf
 iterate 2 (refine Both.yes (tt_beq b140) ?_;(conv=>whnf))
 obtain ⟨e141,he141,h⟩:=idxn_some h
 refine ⟨_,⟨(by omega),map_at he141,rfl⟩,?_⟩
 conv=>whnf
 iterate 4 (refine Both.yes (tt_beq b140) ?_;(conv=>whnf))
 obtain ⟨e142,he142,h⟩:=idxn_some h
 refine ⟨_,⟨(by omega),map_at he142,rfl⟩,?_⟩
 conv=>whnf
 iterate 2 (refine Both.yes (tt_beq b140) ?_;(conv=>whnf))
 refine Both.yes b140 ?_
 conv=>whnf
 cases h
 exact Join.mk (eA [])
 replace b140:=beq_tf b140
 obtain ⟨h,b140d⟩:=cfd b140 h
 conv=>whnf
 iterate 8 (refine Both.no (ft_beq b140) ?_;(conv=>whnf))
 refine Both.no b140 ?_
 conv=>whnf
 cases h
 exact Join.mk (eA [])
 replace b139:=beq_tf b139
 obtain ⟨h,b139d⟩:=cfd b139 h
 conv=>whnf
 iterate 3 (refine Both.no (ft_beq b139) ?_;(conv=>whnf))
 refine Both.no b139 ?_
 conv=>whnf
 iterate 10 (refine Both.no rfl ?_;(conv=>whnf))
 cases h
 exact Join.mk (eA [])
 replace h:=hk133
 obtain ⟨z143,z144,_⟩:=hp
 conv=>whnf
 refine Both.mk ?_ ?_<;>intro b145
 replace h:=cond_t b145 h
 conv=>whnf
 obtain ⟨c146,h⟩:=chk_some h
 refine Arith.mk c146 ?_
 conv=>whnf
 cases h
 exact Nxt.mk _ ho131 (eA [])
 replace h:=cond_f b145 h
 conv=>whnf
 cases h
 have ho131:_=_:=ho131
 cases ho131
 exact Join.mk (eA [])
 replace h:=hk51
 conv=>whnf
 cases h
 conv=>whnf
 exact ⟨rfl,rfl⟩
theorem sp_R01_Same (a_:List Int) (b_:List Int) (r:Bool) (h:Ok (nL cI a_)→Ok (nL cI b_)→R01_Same a_ b_=some r):Sp Tryz.prog 15 [.im (nL cI a_),.im (nL cI b_)] (.im (nB r)):=by
 refine sp_of rfl [] rfl rfl rfl (Nat.le_of_ble_eq_true rfl) rfl fun hk=>?_
 replace h:=h hk.1 hk.2.1
 have z1:lZ a_:=ok_len hk.1
 have z2:lZ b_:=ok_len hk.2.1
 unfold R01_Same at h
 conv=>whnf
 obtain ⟨y55,hc,hk52⟩:=bind_some h
 clear h
 have h:=hc
 clear hc
 refine Cut.mk (mkSt [(4,.im (nB y55))] [] []) (True) (hT) ?_ (fun hp=>?_)
 conv=>whnf
 refine Nf.mk (List.length a_) len_map ?_
 conv=>whnf
 refine Nf.mk (List.length b_) len_map ?_
 conv=>whnf
 refine Both.mk ?_ ?_<;>intro b56
 replace b56:=beq_tt b56
 obtain ⟨h,b56d⟩:=ctd b56 h
 conv=>whnf
 iterate 2 (refine Both.yes (tt_beq b56) ?_;(conv=>whnf))
 obtain ⟨c57,hc57,h⟩:=bind_some h
 refine ⟨_,(sp_R01_Common a_ b_ c57 (fun _ _=>hc57)),?_⟩
 conv=>whnf
 iterate 2 (refine Both.yes (tt_beq b56) ?_;(conv=>whnf))
 refine Nf.mk (List.length a_) len_map ?_
 conv=>whnf
 refine Both.yes (tt_beq b56) ?_
 conv=>whnf
 refine Both.yes b56 ?_
 conv=>whnf
 cases h
 exact Join.mk (eA [])
 replace b56:=beq_tf b56
 obtain ⟨h,b56d⟩:=cfd b56 h
 conv=>whnf
 iterate 5 (refine Both.no (ft_beq b56) ?_;(conv=>whnf))
 refine Both.no b56 ?_
 conv=>whnf
 cases h
 exact Join.mk (eA [])
 replace h:=hk52
 conv=>whnf
 cases h
 conv=>whnf
 exact ⟨rfl,rfl⟩
theorem sp_cmp_isNaN_int (x_:Int) (r:Bool) (h:Ok (nI x_)→cmp_isNaN_int x_=some r):Sp Tryz.prog 92 [.im (nI x_)] (.im (nB r)):=by
 refine sp_of rfl [] rfl rfl rfl (Nat.le_of_ble_eq_true rfl) rfl fun hk=>?_
 replace h:=h hk.1
 unfold cmp_isNaN_int at h
 conv=>whnf
 cases h
 conv=>whnf
 exact ⟨rfl,rfl⟩
theorem sp_cmp_Compare_int (x_:Int) (y_:Int) (r:Int) (h:Ok (nI x_)→Ok (nI y_)→cmp_Compare_int x_ y_=some r):Sp Tryz.prog 64 [.im (nI x_),.im (nI y_)] (.im (nI r)):=by
 refine sp_of rfl [] rfl rfl rfl (Nat.le_of_ble_eq_true rfl) rfl fun hk=>?_
 replace h:=h hk.1 hk.2.1
 unfold cmp_Compare_int at h
 conv=>whnf
 obtain ⟨c51,hc51,h⟩:=bind_some h
 refine ⟨_,(sp_cmp_isNaN_int x_ c51 (fun _=>hc51)),?_⟩
 conv=>whnf
 obtain ⟨c52,hc52,h⟩:=bind_some h
 refine ⟨_,(sp_cmp_isNaN_int y_ c52 (fun _=>hc52)),?_⟩
 conv=>whnf
 refine Both.mk ?_ ?_<;>intro b53
 replace h:=cond_t b53 h
 conv=>whnf
 refine Both.mk ?_ ?_<;>intro b54
 replace h:=cond_t b54 h
 conv=>whnf
 cases h
 conv=>whnf
 exact ⟨rfl,rfl⟩
 replace h:=cond_f b54 h
 conv=>whnf
 cases h
 conv=>whnf
 exact ⟨rfl,rfl⟩
 replace h:=cond_f b53 h
 conv=>whnf
 refine Both.mk ?_ ?_<;>intro b55
 replace h:=cond_t b55 h
 conv=>whnf
 cases h
 conv=>whnf
 exact ⟨rfl,rfl⟩
 replace h:=cond_f b55 h
 conv=>whnf
 refine Both.mk ?_ ?_<;>intro b56
 obtain ⟨h,b56d⟩:=ctd b56 h
 conv=>whnf
 cases h
 conv=>whnf
 exact ⟨rfl,rfl⟩
 obtain ⟨h,b56d⟩:=cfd b56 h
 conv=>whnf
 refine Both.mk ?_ ?_<;>intro b57
 obtain ⟨h,b57d⟩:=ctd b57 h
 conv=>whnf
 cases h
 conv=>whnf
 exact ⟨rfl,rfl⟩
 obtain ⟨h,b57d⟩:=cfd b57 h
 conv=>whnf
 cases h
 conv=>whnf
 exact ⟨rfl,rfl⟩
theorem sp_slices_Compare_Sint_int (s1_:List Int) (s2_:List Int) (r:Int) (h:Ok (nL cI s1_)→Ok (nL cI s2_)→slices_Compare_Sint_int s1_ s2_=some r):Sp Tryz.prog 65 [.im (nL cI s1_),.im (nL cI s2_)] (.im (nI r)):=by
 refine sp_of rfl [] rfl rfl rfl (Nat.le_of_ble_eq_true rfl) rfl fun hk=>?_
 replace h:=h hk.1 hk.2.1
 have z1:lZ s1_:=ok_len hk.1
 have z2:lZ s2_:=ok_len hk.2.1
 unfold slices_Compare_Sint_int at h
 conv=>whnf
 refine Nf.mk (List.length s1_) len_map ?_
 conv=>whnf
 obtain ⟨oc,hc,hk51⟩:=bind_some h
 clear h
 have h:=hc
 clear hc
 refine Cut.mkS oc (Y:=Unit) (fun (_:Unit)=>mkSt [(0,.im (nL cI s1_)),(1,.im (nL cI s2_))] [] []) (fun (_:Unit)=>lZ s1_∧lZ s2_∧True) (by rintro ⟨⟩;exact ((Holds.avl 0 rfl).and ((Holds.avl 1 rfl).and (hT)))) ?_ ?_
 conv=>whnf
 refine Loops.iter (fun (s:Nat)=>slices_Compare_Sint_int.s2 s1_ s2_ s) (fun y80=>mkSt [(0,.im (nL cI s1_)),(1,.im (nL cI s2_)),(9,.im (nL cI s1_)),(10,.im (nI (↑(List.length s1_):Int))),(11,.im (nI (↑y80:Int)))] [] []) (fun y80=>lZ s1_∧lZ s2_∧True) h (eA []) (by rintro y80;exact ((Holds.avl 0 rfl).and ((Holds.avl 1 rfl).and (hT)))) ?_
 clear h
 rintro k y80 o hp h ho87
 replace h:slices_Compare_Sint_int.s2 s1_ s2_ y80=some o:=h
 unfold slices_Compare_Sint_int.s2 at h
 obtain ⟨z94,z95,_⟩:=hp
 conv=>whnf
 refine Both.mk ?_ ?_<;>intro b88
 obtain ⟨h,b88d⟩:=ctd b88 h
 conv=>whnf
 obtain ⟨e89,he89,h⟩:=idxn_some h
 refine ⟨_,⟨(by omega),map_at he89,rfl⟩,?_⟩
 conv=>whnf
 refine Nf.mk (List.length s2_) len_map ?_
 conv=>whnf
 refine Both.mk ?_ ?_<;>intro b90
 obtain ⟨h,b90d⟩:=ctd b90 h
 conv=>whnf
 cases h
 have ho87:_=_:=ho87
 cases ho87
 replace h:some _=some _:=hk51
 cases h
 conv=>whnf
 exact ⟨rfl,rfl⟩
 obtain ⟨h,b90d⟩:=cfd b90 h
 conv=>whnf
 obtain ⟨e91,he91,h⟩:=idxn_some h
 refine ⟨_,⟨(by omega),map_at he91,rfl⟩,?_⟩
 conv=>whnf
 obtain ⟨c92,hc92,h⟩:=bind_some h
 refine ⟨_,(sp_cmp_Compare_int e89 e91 c92 (fun _ _=>hc92)),?_⟩
 conv=>whnf
 refine Both.mk ?_ ?_<;>intro b93
 obtain ⟨h,b93d⟩:=ctd b93 h
 conv=>whnf
 cases h
 have ho87:_=_:=ho87
 cases ho87
 replace h:some _=some _:=hk51
 cases h
 conv=>whnf
 exact ⟨rfl,rfl⟩
 obtain ⟨h,b93d⟩:=cfd b93 h
 conv=>whnf
 refine Arith.mk (by show inR _;unfold inR;omega) ?_
 conv=>whnf
 cases h
 exact Nxt.mk _ ho87 (eA [])
 obtain ⟨h,b88d⟩:=cfd b88 h
 conv=>whnf
 cases h
 have ho87:_=_:=ho87
 cases ho87
 exact JoinS.mk' _ rfl (eA [])
 rintro ⟨⟩ rfl hp
 replace h:=sum_inl hk51
 obtain ⟨z96,z97,_⟩:=hp
 conv=>whnf
 refine Nf.mk (List.length s1_) len_map ?_
 conv=>whnf
 refine Nf.mk (List.length s2_) len_map ?_
 conv=>whnf
 refine Both.mk ?_ ?_<;>intro b98
 obtain ⟨h,b98d⟩:=ctd b98 h
 conv=>whnf
 cases h
 conv=>whnf
 exact ⟨rfl,rfl⟩
 obtain ⟨h,b98d⟩:=cfd b98 h
 conv=>whnf
 cases h
 conv=>whnf
 exact ⟨rfl,rfl⟩
theorem sp_cmp_Or_int (vals_:List Int) (r:Int) (h:Ok (nL cI vals_)→cmp_Or_int vals_=some r):Sp Tryz.prog 63 [.im (nL cI vals_)] (.im (nI r)):=by
 refine sp_of rfl [] rfl rfl rfl (Nat.le_of_ble_eq_true rfl) rfl fun hk=>?_
 replace h:=h hk.1
 have z1:lZ vals_:=ok_len hk.1
 unfold cmp_Or_int at h
 conv=>whnf
 refine Nf.mk (List.length vals_) len_map ?_
 conv=>whnf
 obtain ⟨oc,hc,hk51⟩:=bind_some h
 clear h
 have h:=hc
 clear hc
 refine Cut.mkS oc (Y:=Unit) (fun (_:Unit)=>mkSt [(3,.im (nI 0))] [] []) (fun (_:Unit)=>True) (by rintro ⟨⟩;exact (hT)) ?_ ?_
 conv=>whnf
 refine Loops.iter (fun (s:Nat)=>cmp_Or_int.s2 vals_ s) (fun y67=>mkSt [(3,.im (nI 0)),(6,.im (nL cI vals_)),(7,.im (nI (↑(List.length vals_):Int))),(8,.im (nI (↑y67:Int)))] [] []) (fun y67=>lZ vals_∧True) h (eA []) (by rintro y67;exact ((Holds.avl 6 rfl).and (hT))) ?_
 clear h
 rintro k y67 o hp h ho71
 replace h:cmp_Or_int.s2 vals_ y67=some o:=h
 unfold cmp_Or_int.s2 at h
 obtain ⟨z75,_⟩:=hp
 conv=>whnf
 refine Both.mk ?_ ?_<;>intro b72
 obtain ⟨h,b72d⟩:=ctd b72 h
 conv=>whnf
 obtain ⟨e73,he73,h⟩:=idxn_some h
 refine ⟨_,⟨(by omega),map_at he73,rfl⟩,?_⟩
 conv=>whnf
 refine Both.mk ?_ ?_<;>intro b74
 obtain ⟨h,b74d⟩:=ctd b74 h
 conv=>whnf
 cases h
 have ho71:_=_:=ho71
 cases ho71
 replace h:some _=some _:=hk51
 cases h
 conv=>whnf
 exact ⟨rfl,rfl⟩
 obtain ⟨h,b74d⟩:=cfd b74 h
 conv=>whnf
 refine Arith.mk (by show inR _;unfold inR;omega) ?_
 conv=>whnf
 cases h
 exact Nxt.mk _ ho71 (eA [])
 obtain ⟨h,b72d⟩:=cfd b72 h
 conv=>whnf
 cases h
 have ho71:_=_:=ho71
 cases ho71
 exact JoinS.mk' _ rfl (eA [])
 rintro ⟨⟩ rfl hp
 replace h:=sum_inl hk51
 conv=>whnf
 cases h
 conv=>whnf
 exact ⟨rfl,rfl⟩
theorem sp_word_Compare (a_:List Int) (b_:List Int) (r:Int) (h:Ok (nL cI a_)→Ok (nL cI b_)→word_Compare a_ b_=some r):Sp Tryz.prog 36 [.im (nL cI a_),.im (nL cI b_)] (.im (nI r)):=by
 refine sp_of rfl [] rfl rfl rfl (Nat.le_of_ble_eq_true rfl) rfl fun hk=>?_
 replace h:=h hk.1 hk.2.1
 have z1:lZ a_:=ok_len hk.1
 have z2:lZ b_:=ok_len hk.2.1
 unfold word_Compare at h
 conv=>whnf
 refine Nf.mk (List.length a_) len_map ?_
 conv=>whnf
 refine Nf.mk (List.length b_) len_map ?_
 conv=>whnf
 obtain ⟨c51,hc51,h⟩:=bind_some h
 refine ⟨_,(sp_cmp_Compare_int (↑(List.length a_):Int) (↑(List.length b_):Int) c51 (fun _ _=>hc51)),?_⟩
 conv=>whnf
 obtain ⟨c52,hc52,h⟩:=bind_some h
 refine ⟨_,(sp_slices_Compare_Sint_int a_ b_ c52 (fun _ _=>hc52)),?_⟩
 conv=>whnf
 obtain ⟨c53,hc53,h⟩:=bind_some h
 refine ⟨_,(sp_cmp_Or_int [c51,c52] c53 (fun _=>hc53)),?_⟩
 conv=>whnf
 cases h
 conv=>whnf
 exact ⟨rfl,rfl⟩
theorem sp_nondet_Distinct (l_:List (List Int)) (r:List (List Int)×List Int) (h:Ok (nL (cL cI) l_)→nondet_Distinct l_=some r):Sp Tryz.prog 13 [.im (nL (cL cI) l_)] (.tup [nL (cL cI) r.1,nL cI r.2]):=by
 refine sp_of rfl [31000,2031000] rfl rfl rfl (Nat.le_of_ble_eq_true rfl) rfl fun hk=>?_
 replace h:=h hk.1
 have z1:lZ l_:=ok_len hk.1
 unfold nondet_Distinct at h
 conv=>whnf
 refine Nf.mk (List.length l_) len_map ?_
 conv=>whnf
 obtain ⟨y68,hc,hk51⟩:=bind_some h
 clear h
 have h:=hc
 clear hc
 refine Cut.mk (mkSt [(0,.im (nL (cL cI) l_)),(4,.osl 64 1)] [(64,.map (mapV wS wI y68))] []) (lZ l_∧True) ((Holds.avl 0 rfl).and (hT)) ?_ (fun hp=>?_)
 conv=>whnf
 refine Loops.iter (fun (s:(List (ByteArray×Int))×Nat)=>nondet_Distinct.s2 l_ s.1 s.2) (fun (y73,y74)=>mkSt [(0,.im (nL (cL cI) l_)),(4,.osl 64 1),(15,.im (nL (cL cI) l_)),(16,.im (nI (↑(List.length l_):Int))),(17,.im (nI (↑y74:Int)))] [(64,.map (mapV wS wI y73))] []) (fun (y73,y74)=>lZ l_∧True) h (eA [(64,some 14)]) (by rintro ⟨y73,y74⟩;exact ((Holds.avl 0 rfl).and (hT))) ?_
 clear h
 rintro k ⟨y73,y74⟩ o hp h ho79
 replace h:nondet_Distinct.s2 l_ y73 y74=some o:=h
 unfold nondet_Distinct.s2 at h
 obtain ⟨z84,_⟩:=hp
 conv=>whnf
 refine Both.mk ?_ ?_<;>intro b80
 obtain ⟨h,b80d⟩:=ctd b80 h
 conv=>whnf
 obtain ⟨e81,he81,h⟩:=idxn_some h
 refine ⟨_,⟨(by omega),map_at he81,rfl⟩,?_⟩
 conv=>whnf
 obtain ⟨c82,hc82,h⟩:=bind_some h
 refine ⟨_,(sp_nondet_key e81 c82 (hc82)),?_⟩
 conv=>whnf
 refine Side.mk rfl ?_
 conv=>whnf
 refine ⟨_,find_str _ wI _,?_⟩
 conv=>whnf
 refine Nf.mk (wI ((mget c82 y73).getD 0)) (getD_map rfl _) ?_
 conv=>whnf
 obtain ⟨c83,h⟩:=chk_some h
 refine Arith.mk c83 ?_
 conv=>whnf
 refine Side.mk rfl ?_
 conv=>whnf
 refine ⟨_,set_str _ (((mget c82 y73).getD 0)+1) wI _,?_⟩
 conv=>whnf
 refine Arith.mk (by show inR _;unfold inR;omega) ?_
 conv=>whnf
 cases h
 exact Nxt.mk _ ho79 (eA [(64,some 64)])
 obtain ⟨h,b80d⟩:=cfd b80 h
 conv=>whnf
 cases h
 have ho79:_=_:=ho79
 cases ho79
 exact Join.mk (eA [(64,some 64)])
 replace h:=hk51
 obtain ⟨z85,_⟩:=hp
 conv=>whnf
 obtain ⟨c86,hc86,h⟩:=bind_some h
 refine ⟨_,(sp_lib_Clone_words l_ c86 (hc86)),?_⟩
 conv=>whnf
 refine Side.mk ⟨rfl,trivial⟩ ?_
 conv=>whnf
 obtain ⟨c87,hc87,h⟩:=bind_some h
 refine ⟨_,(sp_lib_SortFunc_words c86 (fun u0 u1=>word_Compare u0 u1) 36 cmpE_word_Compare c87 (hc87)),?_⟩
 conv=>whnf
 refine Side.mk rfl ?_
 conv=>whnf
 refine Nf.mk (List.length c87) len_map ?_
 conv=>whnf
 obtain ⟨⟨y119,y120⟩,hc,hk88⟩:=bind_some h
 clear h
 have h:=hc
 clear hc
 refine Cut.mk (mkSt [(8,.osl 64 1),(9,.osl 65 1)] [(64,.row 25 1 (List.map (cL cI) y119)),(65,.row 3 1 (List.map cI y120))] []) (lZ y119∧lZ y120∧True) ((Holds.kdl 64 rfl).and ((Holds.kdl 65 rfl).and (hT))) ?_ (fun hp=>?_)
 conv=>whnf
 refine Loops.iter (fun (s:(List (ByteArray×Int))×List (List Int)×List Int×Nat)=>nondet_Distinct.s4 c87 s.1 s.2.1 s.2.2.1 s.2.2.2) (fun (y127,y128,y129,y130)=>mkSt [(4,.osl 64 1),(8,.osl 65 1),(9,.osl 66 1),(31,.osl 67 1),(32,.im (nI (↑(List.length c87):Int))),(33,.im (nI (↑y130:Int)))] [(64,.map (mapV wS wI y127)),(65,.row 25 1 (List.map (cL cI) y128)),(66,.row 3 1 (List.map cI y129)),(67,.row 25 1 (List.map (cL cI) c87))] []) (fun (y127,y128,y129,y130)=>lZ y128∧lZ y129∧lZ c87∧True) h (eA [(64,some 64),(65,none),(66,none),(67,some 28)]) (by rintro ⟨y127,y128,y129,y130⟩;exact ((Holds.kdl 65 rfl).and ((Holds.kdl 66 rfl).and ((Holds.kdl 67 rfl).and (hT))))) ?_
 clear h
 rintro k ⟨y127,y128,y129,y130⟩ o hp h ho139
 replace h:nondet_Distinct.s4 c87 y127 y128 y129 y130=some o:=h
 unfold nondet_Distinct.s4 at h
 obtain ⟨z148,z149,z150,_⟩:=hp
 conv=>whnf
 refine Both.mk ?_ ?_<;>intro b140
 obtain ⟨h,b140d⟩:=ctd b140 h
 conv=>whnf
 obtain ⟨e141,he141,h⟩:=idxn_some h
 refine Side.mk ⟨(by omega),rfl,map_lt he141⟩ ?_
 conv=>whnf
 refine ⟨_,_,⟨rfl,map_at he141,rfl,rfl⟩,?_⟩
 conv=>whnf
 obtain ⟨c142,hc142,h⟩:=bind_some h
 refine ⟨_,(sp_nondet_key e141 c142 (hc142)),?_⟩
 conv=>whnf
 refine Side.mk rfl ?_
 conv=>whnf
 refine ⟨_,find_str _ wI _,?_⟩
 conv=>whnf
 refine Nf.mk (wI ((mget c142 y127).getD 0)) (getD_map rfl _) ?_
 conv=>whnf
 refine Nf.mk (mget c142 y127).isSome (isSome_map _) ?_
 conv=>whnf
 refine Both.mk ?_ ?_<;>intro b143
 replace h:=cond_t b143 h
 conv=>whnf
 obtain ⟨c144,hc144,h⟩:=bind_some h
 refine ⟨_,(sp_lib_Clone_int e141 c144 (hc144)).im,?_⟩
 conv=>whnf
 obtain ⟨c145,h⟩:=chk_some h
 refine Side.mk ⟨rfl,map_len (l:=[c144]) (c:=cL cI) fun _=>rfl,show capOk _ 24 by simpa only [List.length_map,List.length_cons,List.length_nil,Nat.zero_add] using c145⟩ ?_
 conv=>whnf
 refine Nf.mk (List.map (cL cI) (y128++[c144])) (app_map (l:=y128) (m:=[c144]) (c:=cL cI)) ?_
 conv=>whnf
 obtain ⟨c146,h⟩:=chk_some h
 refine Side.mk ⟨rfl,map_len (l:=[((mget c142 y127).getD 0)]) (c:=cI) fun _=>rfl,show capOk _ 8 by simpa only [List.length_map,List.length_cons,List.length_nil,Nat.zero_add] using c146⟩ ?_
 conv=>whnf
 refine Nf.mk (List.map cI (y129++[((mget c142 y127).getD 0)])) (app_map (l:=y129) (m:=[((mget c142 y127).getD 0)]) (c:=cI)) ?_
 conv=>whnf
 obtain ⟨c147,hc147,h⟩:=bind_some h
 refine ⟨_,(sp_nondet_key e141 c147 (hc147)),?_⟩
 conv=>whnf
 refine Side.mk rfl ?_
 conv=>whnf
 refine ⟨_,del_str _ wI _,?_⟩
 conv=>whnf
 refine Arith.mk (by show inR _;unfold inR;omega) ?_
 conv=>whnf
 cases h
 exact Nxt.mk _ ho139 (eA [(64,some 64),(65,some 65),(66,some 66),(67,some 67)])
 replace h:=cond_f b143 h
 conv=>whnf
 refine Arith.mk (by show inR _;unfold inR;omega) ?_
 conv=>whnf
 cases h
 exact Nxt.mk _ ho139 (eA [(64,some 64),(65,some 65),(66,some 66),(67,some 67)])
 obtain ⟨h,b140d⟩:=cfd b140 h
 conv=>whnf
 cases h
 have ho139:_=_:=ho139
 cases ho139
 exact Join.mk (eA [(64,some 65),(65,some 66)])
 replace h:nondet_Distinct.k5 y119 y120=some _:=hk88
 unfold nondet_Distinct.k5 at h
 obtain ⟨z151,z152,_⟩:=hp
 conv=>whnf
 cases h
 conv=>whnf
 exact Side.mk ⟨rfl,rfl,trivial⟩ ⟨rfl,rfl⟩
theorem sp_R01_Lex (a_:List Int) (b_:List Int) (r:Int) (h:Ok (nL cI a_)→Ok (nL cI b_)→R01_Lex a_ b_=some r):Sp Tryz.prog 54 [.im (nL cI a_),.im (nL cI b_)] (.im (nI r)):=by
 refine sp_of rfl [] rfl rfl rfl (Nat.le_of_ble_eq_true rfl) rfl fun hk=>?_
 replace h:=h hk.1 hk.2.1
 have z1:lZ a_:=ok_len hk.1
 have z2:lZ b_:=ok_len hk.2.1
 unfold R01_Lex at h
 conv=>whnf
 obtain ⟨c51,hc51,h⟩:=bind_some h
 refine ⟨_,(sp_R01_Common a_ b_ c51 (fun _ _=>hc51)),?_⟩
 conv=>whnf
 obtain ⟨y55,hc,hk53⟩:=bind_some h
 clear h
 have h:=hc
 clear hc
 refine Cut.mk (mkSt [(0,.im (nL cI a_)),(1,.im (nL cI b_)),(5,.im (nI c51)),(9,.im (nB y55))] [] []) (lZ a_∧lZ b_∧True) ((Holds.avl 0 rfl).and ((Holds.avl 1 rfl).and (hT))) ?_ (fun hp=>?_)
 conv=>whnf
 refine Nf.mk (List.length a_) len_map ?_
 conv=>whnf
 refine Both.mk ?_ ?_<;>intro b56
 replace b56:=beq_tt b56
 obtain ⟨h,b56d⟩:=ctd b56 h
 conv=>whnf
 iterate 2 (refine Both.yes (tt_beq b56) ?_;(conv=>whnf))
 refine Nf.mk (List.length b_) len_map ?_
 conv=>whnf
 refine Both.yes (tt_beq b56) ?_
 conv=>whnf
 refine Both.yes b56 ?_
 conv=>whnf
 cases h
 exact Join.mk (eA [])
 replace b56:=beq_tf b56
 obtain ⟨h,b56d⟩:=cfd b56 h
 conv=>whnf
 iterate 3 (refine Both.no (ft_beq b56) ?_;(conv=>whnf))
 refine Both.no b56 ?_
 conv=>whnf
 cases h
 exact Join.mk (eA [])
 replace h:=hk53
 obtain ⟨z57,z58,_⟩:=hp
 conv=>whnf
 refine Both.mk ?_ ?_<;>intro b59
 replace h:=cond_t b59 h
 conv=>whnf
 cases h
 conv=>whnf
 exact ⟨rfl,rfl⟩
 replace h:=cond_f b59 h
 conv=>whnf
 obtain ⟨y66,hc,hk61⟩:=bind_some h
 clear h
 have h:=hc
 clear hc
 refine Cut.mk (mkSt [(20,.im (nB y66))] [] []) (True) (hT) ?_ (fun hp=>?_)
 conv=>whnf
 refine Nf.mk (List.length a_) len_map ?_
 conv=>whnf
 refine Both.mk ?_ ?_<;>intro b67
 obtain ⟨h,b67d⟩:=ctd b67 h
 conv=>whnf
 cases h
 exact Join.mk (eA [])
 obtain ⟨h,b67d⟩:=cfd b67 h
 conv=>whnf
 refine Nf.mk (List.length b_) len_map ?_
 conv=>whnf
 refine Both.mk ?_ ?_<;>intro b68
 replace b68:=beq_tt b68
 obtain ⟨h,b68d⟩:=ctd b68 h
 conv=>whnf
 iterate 2 (refine Both.yes (tt_beq b68) ?_;(conv=>whnf))
 obtain ⟨e69,he69z,he69,h⟩:=idx_some h
 refine ⟨_,⟨he69z,map_at he69,rfl⟩,?_⟩
 conv=>whnf
 iterate 4 (refine Both.yes (tt_beq b68) ?_;(conv=>whnf))
 obtain ⟨e70,he70z,he70,h⟩:=idx_some h
 refine ⟨_,⟨he70z,map_at he70,rfl⟩,?_⟩
 conv=>whnf
 iterate 2 (refine Both.yes (tt_beq b68) ?_;(conv=>whnf))
 refine Both.yes b68 ?_
 conv=>whnf
 cases h
 exact Join.mk (eA [])
 replace b68:=beq_tf b68
 obtain ⟨h,b68d⟩:=cfd b68 h
 conv=>whnf
 iterate 8 (refine Both.no (ft_beq b68) ?_;(conv=>whnf))
 refine Both.no b68 ?_
 conv=>whnf
 cases h
 exact Join.mk (eA [])
 replace h:=hk61
 conv=>whnf
 refine Both.mk ?_ ?_<;>intro b71
 replace h:=cond_t b71 h
 conv=>whnf
 cases h
 conv=>whnf
 exact ⟨rfl,rfl⟩
 replace h:=cond_f b71 h
 conv=>whnf
 cases h
 conv=>whnf
 exact ⟨rfl,rfl⟩
theorem sp_R01_Compare (a_:List Int) (b_:List Int) (r:Int) (h:Ok (nL cI a_)→Ok (nL cI b_)→R01_Compare a_ b_=some r):Sp Tryz.prog 24 [.im (nL cI a_),.im (nL cI b_)] (.im (nI r)):=by
 refine sp_of rfl [] rfl rfl rfl (Nat.le_of_ble_eq_true rfl) rfl fun hk=>?_
 replace h:=h hk.1 hk.2.1
 have z1:lZ a_:=ok_len hk.1
 have z2:lZ b_:=ok_len hk.2.1
 unfold R01_Compare at h
 conv=>whnf
 refine Nf.mk (List.length a_) len_map ?_
 conv=>whnf
 refine Nf.mk (List.length b_) len_map ?_
 conv=>whnf
 refine Both.mk ?_ ?_<;>intro b51
 obtain ⟨h,b51d⟩:=ctd b51 h
 conv=>whnf
 cases h
 conv=>whnf
 exact ⟨rfl,rfl⟩
 obtain ⟨h,b51d⟩:=cfd b51 h
 conv=>whnf
 refine Nf.mk (List.length a_) len_map ?_
 conv=>whnf
 refine Nf.mk (List.length b_) len_map ?_
 conv=>whnf
 refine Both.mk ?_ ?_<;>intro b52
 obtain ⟨h,b52d⟩:=ctd b52 h
 conv=>whnf
 cases h
 conv=>whnf
 exact ⟨rfl,rfl⟩
 obtain ⟨h,b52d⟩:=cfd b52 h
 conv=>whnf
 obtain ⟨c53,hc53,h⟩:=bind_some h
 refine ⟨_,(sp_R01_Lex a_ b_ c53 (fun _ _=>hc53)),?_⟩
 conv=>whnf
 cases h
 conv=>whnf
 exact ⟨rfl,rfl⟩
theorem sp_R01_SameWords (a_:List (List Int)) (b_:List (List Int)) (r:Bool) (h:Ok (nL (cL cI) a_)→Ok (nL (cL cI) b_)→R01_SameWords a_ b_=some r):Sp Tryz.prog 16 [.im (nL (cL cI) a_),.im (nL (cL cI) b_)] (.im (nB r)):=by
 refine sp_of rfl [] rfl rfl rfl (Nat.le_of_ble_eq_true rfl) rfl fun hk=>?_
 replace h:=h hk.1 hk.2.1
 have z1:lZ a_:=ok_len hk.1
 have z2:lZ b_:=ok_len hk.2.1
 unfold R01_SameWords at h
 conv=>whnf
 refine Nf.mk (List.length a_) len_map ?_
 conv=>whnf
 refine Nf.mk (List.length b_) len_map ?_
 conv=>whnf
 refine Both.mk ?_ ?_<;>intro b51
 obtain ⟨h,b51d⟩:=ctd b51 h
 conv=>whnf
 cases h
 conv=>whnf
 exact ⟨rfl,rfl⟩
 obtain ⟨h,b51d⟩:=cfd b51 h
 conv=>whnf
 obtain ⟨oc,hc,hk52⟩:=bind_some h
 clear h
 have h:=hc
 clear hc
 refine Cut.mkS oc (Y:=Unit) (fun (_:Unit)=>mkSt [] [] []) (fun (_:Unit)=>True) (by rintro ⟨⟩;exact (hT)) ?_ ?_
 conv=>whnf
 refine Loops.iter (fun (s:Nat)=>R01_SameWords.s2 a_ b_ s) (fun i77=>mkSt [(0,.im (nL (cL cI) a_)),(1,.im (nL (cL cI) b_)),(5,.im (nI (↑i77:Int)))] [] []) (fun i77=>lZ a_∧lZ b_∧True) h (eA []) (by rintro i77;exact ((Holds.avl 0 rfl).and ((Holds.avl 1 rfl).and (hT)))) ?_
 clear h
 rintro k i77 o hp h ho83
 replace h:R01_SameWords.s2 a_ b_ i77=some o:=h
 unfold R01_SameWords.s2 at h
 obtain ⟨z89,z90,_⟩:=hp
 conv=>whnf
 refine Nf.mk (List.length a_) len_map ?_
 conv=>whnf
 refine Both.mk ?_ ?_<;>intro b84
 obtain ⟨h,b84d⟩:=ctd b84 h
 conv=>whnf
 obtain ⟨e85,he85,h⟩:=idxn_some h
 refine ⟨_,⟨(by omega),map_at he85,rfl⟩,?_⟩
 conv=>whnf
 obtain ⟨e86,he86,h⟩:=idxn_some h
 refine ⟨_,⟨(by omega),map_at he86,rfl⟩,?_⟩
 conv=>whnf
 obtain ⟨c87,hc87,h⟩:=bind_some h
 refine ⟨_,(sp_R01_Same e85 e86 c87 (fun _ _=>hc87)),?_⟩
 conv=>whnf
 refine Both.mk ?_ ?_<;>intro b88
 replace h:=cond_t b88 h
 conv=>whnf
 cases h
 have ho83:_=_:=ho83
 cases ho83
 replace h:some _=some _:=hk52
 cases h
 conv=>whnf
 exact ⟨rfl,rfl⟩
 replace h:=cond_f b88 h
 conv=>whnf
 refine Arith.mk (by show inR _;unfold inR;omega) ?_
 conv=>whnf
 cases h
 exact Nxt.mk _ ho83 (eA [])
 obtain ⟨h,b84d⟩:=cfd b84 h
 conv=>whnf
 cases h
 have ho83:_=_:=ho83
 cases ho83
 exact JoinS.mk' _ rfl (eA [])
 rintro ⟨⟩ rfl hp
 replace h:=sum_inl hk52
 conv=>whnf
 cases h
 conv=>whnf
 exact ⟨rfl,rfl⟩
theorem sp_slices_Index_Sint_int (s_:List Int) (v_:Int) (r:Int) (h:Ok (nL cI s_)→Ok (nI v_)→slices_Index_Sint_int s_ v_=some r):Sp Tryz.prog 67 [.im (nL cI s_),.im (nI v_)] (.im (nI r)):=by
 refine sp_of rfl [] rfl rfl rfl (Nat.le_of_ble_eq_true rfl) rfl fun hk=>?_
 replace h:=h hk.1 hk.2.1
 have z1:lZ s_:=ok_len hk.1
 unfold slices_Index_Sint_int at h
 conv=>whnf
 refine Nf.mk (List.length s_) len_map ?_
 conv=>whnf
 obtain ⟨oc,hc,hk51⟩:=bind_some h
 clear h
 have h:=hc
 clear hc
 refine Cut.mkS oc (Y:=Unit) (fun (_:Unit)=>mkSt [] [] []) (fun (_:Unit)=>True) (by rintro ⟨⟩;exact (hT)) ?_ ?_
 conv=>whnf
 refine Loops.iter (fun (s:Nat)=>slices_Index_Sint_int.s2 s_ v_ s) (fun y67=>mkSt [(0,.im (nL cI s_)),(1,.im (nI v_)),(7,.im (nI (↑(List.length s_):Int))),(8,.im (nI (↑y67:Int)))] [] []) (fun y67=>lZ s_∧True) h (eA []) (by rintro y67;exact ((Holds.avl 0 rfl).and (hT))) ?_
 clear h
 rintro k y67 o hp h ho71
 replace h:slices_Index_Sint_int.s2 s_ v_ y67=some o:=h
 unfold slices_Index_Sint_int.s2 at h
 obtain ⟨z75,_⟩:=hp
 conv=>whnf
 refine Both.mk ?_ ?_<;>intro b72
 obtain ⟨h,b72d⟩:=ctd b72 h
 conv=>whnf
 obtain ⟨e73,he73,h⟩:=idxn_some h
 refine ⟨_,⟨(by omega),map_at he73,rfl⟩,?_⟩
 conv=>whnf
 refine Both.mk ?_ ?_<;>intro b74
 obtain ⟨h,b74d⟩:=ctd b74 h
 conv=>whnf
 cases h
 have ho71:_=_:=ho71
 cases ho71
 replace h:some _=some _:=hk51
 cases h
 conv=>whnf
 exact ⟨rfl,rfl⟩
 obtain ⟨h,b74d⟩:=cfd b74 h
 conv=>whnf
 refine Arith.mk (by show inR _;unfold inR;omega) ?_
 conv=>whnf
 cases h
 exact Nxt.mk _ ho71 (eA [])
 obtain ⟨h,b72d⟩:=cfd b72 h
 conv=>whnf
 cases h
 have ho71:_=_:=ho71
 cases ho71
 exact JoinS.mk' _ rfl (eA [])
 rintro ⟨⟩ rfl hp
 replace h:=sum_inl hk51
 conv=>whnf
 cases h
 conv=>whnf
 exact ⟨rfl,rfl⟩
theorem sp_slices_Contains_Sint_int (s_:List Int) (v_:Int) (r:Bool) (h:Ok (nL cI s_)→Ok (nI v_)→slices_Contains_Sint_int s_ v_=some r):Sp Tryz.prog 39 [.im (nL cI s_),.im (nI v_)] (.im (nB r)):=by
 refine sp_of rfl [] rfl rfl rfl (Nat.le_of_ble_eq_true rfl) rfl fun hk=>?_
 replace h:=h hk.1 hk.2.1
 have z1:lZ s_:=ok_len hk.1
 unfold slices_Contains_Sint_int at h
 conv=>whnf
 obtain ⟨c51,hc51,h⟩:=bind_some h
 refine ⟨_,(sp_slices_Index_Sint_int s_ v_ c51 (fun _ _=>hc51)),?_⟩
 conv=>whnf
 cases h
 conv=>whnf
 exact ⟨rfl,rfl⟩
theorem sp_cmp_Less_int (x_:Int) (y_:Int) (r:Bool) (h:Ok (nI x_)→Ok (nI y_)→cmp_Less_int x_ y_=some r):Sp Tryz.prog 100 [.im (nI x_),.im (nI y_)] (.im (nB r)):=by
 refine sp_of rfl [] rfl rfl rfl (Nat.le_of_ble_eq_true rfl) rfl fun hk=>?_
 replace h:=h hk.1 hk.2.1
 unfold cmp_Less_int at h
 conv=>whnf
 obtain ⟨y57,hc,hk52⟩:=bind_some h
 clear h
 have h:=hc
 clear hc
 refine Cut.mk (mkSt [(4,.im (nB y57))] [] []) (True) (hT) ?_ (fun hp=>?_)
 conv=>whnf
 obtain ⟨c58,hc58,h⟩:=bind_some h
 refine ⟨_,(sp_cmp_isNaN_int x_ c58 (fun _=>hc58)),?_⟩
 conv=>whnf
 refine Both.mk ?_ ?_<;>intro b59
 replace b59:=beq_tt b59
 replace h:=cond_t b59 h
 conv=>whnf
 refine Both.yes (tt_beq b59) ?_
 conv=>whnf
 obtain ⟨c60,hc60,h⟩:=bind_some h
 refine ⟨_,(sp_cmp_isNaN_int y_ c60 (fun _=>hc60)),?_⟩
 conv=>whnf
 refine Both.yes (tt_beq b59) ?_
 conv=>whnf
 refine Both.yes b59 ?_
 conv=>whnf
 refine Both.mk ?_ ?_<;>intro b61
 replace b61:=beq_ff b61
 replace h:=cond_f b61 h
 conv=>whnf
 iterate 2 (refine Both.yes (ff_beq b61) ?_;(conv=>whnf))
 refine Both.no b61 ?_
 conv=>whnf
 cases h
 exact Join.mk (eA [])
 replace b61:=beq_ft b61
 replace h:=cond_t b61 h
 conv=>whnf
 iterate 2 (refine Both.no (tf_beq b61) ?_;(conv=>whnf))
 refine Both.yes b61 ?_
 conv=>whnf
 cases h
 exact Join.mk (eA [])
 replace b59:=beq_tf b59
 replace h:=cond_f b59 h
 conv=>whnf
 iterate 2 (refine Both.no (ft_beq b59) ?_;(conv=>whnf))
 refine Both.no b59 ?_
 conv=>whnf
 iterate 3 (refine Both.yes rfl ?_;(conv=>whnf))
 refine Both.no rfl ?_
 conv=>whnf
 cases h
 exact Join.mk (eA [])
 replace h:=hk52
 conv=>whnf
 cases h
 conv=>whnf
 exact ⟨rfl,rfl⟩
theorem sp_slices_insertionSortOrdered_int (data_:List Int) (a_:Int) (b_:Int) (r:List Int) (h:OkL (List.map cI data_)→Ok (nI a_)→Ok (nI b_)→slices_insertionSortOrdered_int data_ a_ b_=some r):Sp Tryz.prog 94 [.lent (.row 3 1 (List.map cI data_)),.im (nI a_),.im (nI b_)] (.mk true [] [.lent (.row 3 1 (List.map cI r))]):=by
 refine sp_of rfl [] rfl rfl rfl (Nat.le_of_ble_eq_true rfl) rfl fun hk=>?_
 replace h:=h hk.1 hk.2.1 hk.2.2.1
 have z1:lZ data_:=okl_len hk.1
 unfold slices_insertionSortOrdered_int at h
 conv=>whnf
 obtain ⟨c51,h⟩:=chk_some h
 refine Arith.mk c51 ?_
 conv=>whnf
 obtain ⟨y492,hc,hk52⟩:=bind_some h
 clear h
 have h:=hc
 clear hc
 refine Cut.mk (mkSt [(0,.osl 0 0)] [(0,.row 3 1 (List.map cI y492))] []) (lZ y492∧True) ((Holds.kdl 0 rfl).and (hT)) ?_ (fun hp=>?_)
 conv=>whnf
 refine Loops.iter (fun (s:List Int×Int)=>slices_insertionSortOrdered_int.s14 a_ b_ s.1 s.2) (fun (y638,i639)=>mkSt [(0,.osl 0 0),(1,.im (nI a_)),(2,.im (nI b_)),(6,.im (nI i639))] [(0,.row 3 1 (List.map cI y638))] []) (fun (y638,i639)=>lZ y638∧True) h (eA [(0,some 0)]) (by rintro ⟨y638,i639⟩;exact ((Holds.kdl 0 rfl).and (hT))) ?_
 clear h
 rintro k ⟨y638,i639⟩ o hp h ho785
 replace h:slices_insertionSortOrdered_int.s14 a_ b_ y638 i639=some o:=h
 unfold slices_insertionSortOrdered_int.s14 at h
 obtain ⟨z931,_⟩:=hp
 conv=>whnf
 refine Both.mk ?_ ?_<;>intro b786
 obtain ⟨h,b786d⟩:=ctd b786 h
 conv=>whnf
 obtain ⟨y858,hc,hk787⟩:=bind_some h
 clear h
 have h:=hc
 clear hc
 refine Cut.mk (mkSt [(0,.osl 0 0),(1,.im (nI a_)),(2,.im (nI b_)),(6,.im (nI i639))] [(0,.row 3 1 (List.map cI y858))] []) (lZ y858∧True) ((Holds.kdl 0 rfl).and (hT)) ?_ (fun hp=>?_)
 conv=>whnf
 refine Loops.iter (fun (s:List Int×Int)=>slices_insertionSortOrdered_int.s13 a_ s.1 s.2) (fun (y881,j882)=>mkSt [(0,.osl 0 0),(1,.im (nI a_)),(2,.im (nI b_)),(6,.im (nI i639)),(7,.im (nI j882))] [(0,.row 3 1 (List.map cI y881))] []) (fun (y881,j882)=>lZ y881∧True) h (eA [(0,some 0)]) (by rintro ⟨y881,j882⟩;exact ((Holds.kdl 0 rfl).and (hT))) ?_
 clear h
 rintro k ⟨y881,j882⟩ o hp h ho905
 replace h:slices_insertionSortOrdered_int.s13 a_ y881 j882=some o:=h
 unfold slices_insertionSortOrdered_int.s13 at h
 obtain ⟨z928,_⟩:=hp
 conv=>whnf
 obtain ⟨y913,hc,hk907⟩:=bind_some h
 clear h
 have h:=hc
 clear hc
 refine Cut.mk (mkSt [(0,.osl 0 0),(1,.im (nI a_)),(2,.im (nI b_)),(6,.im (nI i639)),(7,.im (nI j882)),(30,.im (nB y913))] [(0,.row 3 1 (List.map cI y881))] []) (lZ y881∧True) ((Holds.kdl 0 rfl).and (hT)) ?_ (fun hp=>?_)
 conv=>whnf
 refine Both.mk ?_ ?_<;>intro b914
 replace b914:=beq_tt b914
 obtain ⟨h,b914d⟩:=ctd b914 h
 conv=>whnf
 iterate 2 (refine Both.yes (tt_beq b914) ?_;(conv=>whnf))
 obtain ⟨e915,he915z,he915,h⟩:=idx_some h
 refine Side.mk ⟨he915z,rfl,map_lt he915⟩ ?_
 conv=>whnf
 refine Both.yes (tt_beq b914) ?_
 conv=>whnf
 refine ⟨_,_,⟨rfl,map_at he915,rfl,rfl⟩,?_⟩
 conv=>whnf
 iterate 3 (refine Both.yes (tt_beq b914) ?_;(conv=>whnf))
 obtain ⟨c916,h⟩:=chk_some h
 refine Arith.mk c916 ?_
 conv=>whnf
 refine Both.yes (tt_beq b914) ?_
 conv=>whnf
 obtain ⟨e917,he917z,he917,h⟩:=idx_some h
 refine Side.mk ⟨he917z,rfl,map_lt he917⟩ ?_
 conv=>whnf
 refine Both.yes (tt_beq b914) ?_
 conv=>whnf
 refine ⟨_,_,⟨rfl,map_at he917,rfl,rfl⟩,?_⟩
 conv=>whnf
 refine Both.yes (tt_beq b914) ?_
 conv=>whnf
 obtain ⟨c918,hc918,h⟩:=bind_some h
 refine ⟨_,(sp_cmp_Less_int e915 e917 c918 (fun _ _=>hc918)),?_⟩
 conv=>whnf
 refine Both.yes b914 ?_
 conv=>whnf
 cases h
 exact Join.mk (eA [(0,some 0)])
 replace b914:=beq_tf b914
 obtain ⟨h,b914d⟩:=cfd b914 h
 conv=>whnf
 iterate 9 (refine Both.no (ft_beq b914) ?_;(conv=>whnf))
 refine Both.no b914 ?_
 conv=>whnf
 cases h
 exact Join.mk (eA [(0,some 0)])
 replace h:=hk907
 obtain ⟨z919,_⟩:=hp
 conv=>whnf
 refine Both.mk ?_ ?_<;>intro b920
 replace h:=cond_t b920 h
 conv=>whnf
 obtain ⟨c921,h⟩:=chk_some h
 refine Arith.mk c921 ?_
 conv=>whnf
 obtain ⟨c922,h⟩:=chk_some h
 refine Arith.mk c922 ?_
 conv=>whnf
 obtain ⟨e923,he923z,he923,h⟩:=idx_some h
 refine Side.mk ⟨he923z,rfl,map_lt he923⟩ ?_
 conv=>whnf
 refine ⟨_,_,⟨rfl,map_at he923,rfl,rfl⟩,?_⟩
 conv=>whnf
 obtain ⟨e924,he924z,he924,h⟩:=idx_some h
 refine Side.mk ⟨he924z,rfl,map_lt he924⟩ ?_
 conv=>whnf
 refine ⟨_,_,⟨rfl,map_at he924,rfl,rfl⟩,?_⟩
 conv=>whnf
 obtain ⟨e925,he925z,he925,h⟩:=idx_some h
 refine Side.mk ⟨he925z,rfl,map_lt he925⟩ ?_
 conv=>whnf
 refine Side.mk ⟨rfl,trivial⟩ ?_
 conv=>whnf
 refine ⟨_,map_at he925,?_⟩
 conv=>whnf
 refine Nf.mk (List.map cI (List.set y881 j882.toNat e923)) (set_map rfl) ?_
 conv=>whnf
 obtain ⟨e926,he926z,he926,h⟩:=idx_some h
 refine Side.mk ⟨he926z,rfl,map_lt he926⟩ ?_
 conv=>whnf
 refine Side.mk ⟨rfl,trivial⟩ ?_
 conv=>whnf
 refine ⟨_,map_at he926,?_⟩
 conv=>whnf
 refine Nf.mk (List.map cI (List.set (List.set y881 j882.toNat e923) ((j882-1).toNat) e924)) (set_map rfl) ?_
 conv=>whnf
 obtain ⟨c927,h⟩:=chk_some h
 refine Arith.mk c927 ?_
 conv=>whnf
 cases h
 exact Nxt.mk _ ho905 (eA [(0,some 0)])
 replace h:=cond_f b920 h
 conv=>whnf
 cases h
 have ho905:_=_:=ho905
 cases ho905
 exact Join.mk (eA [(0,some 0)])
 replace h:=hk787
 obtain ⟨z929,_⟩:=hp
 conv=>whnf
 obtain ⟨c930,h⟩:=chk_some h
 refine Arith.mk c930 ?_
 conv=>whnf
 cases h
 exact Nxt.mk _ ho785 (eA [(0,some 0)])
 obtain ⟨h,b786d⟩:=cfd b786 h
 conv=>whnf
 cases h
 have ho785:_=_:=ho785
 cases ho785
 exact Join.mk (eA [(0,some 0)])
 replace h:=hk52
 obtain ⟨z932,_⟩:=hp
 conv=>whnf
 cases h
 conv=>whnf
 exact Side.mk ⟨rfl,trivial⟩ ⟨rfl,rfl⟩
theorem sp_slices_Equal_Sint_int (s1_:List Int) (s2_:List Int) (r:Bool) (h:Ok (nL cI s1_)→Ok (nL cI s2_)→slices_Equal_Sint_int s1_ s2_=some r):Sp Tryz.prog 46 [.im (nL cI s1_),.im (nL cI s2_)] (.im (nB r)):=by
 refine sp_of rfl [] rfl rfl rfl (Nat.le_of_ble_eq_true rfl) rfl fun hk=>?_
 replace h:=h hk.1 hk.2.1
 have z1:lZ s1_:=ok_len hk.1
 have z2:lZ s2_:=ok_len hk.2.1
 unfold slices_Equal_Sint_int at h
 conv=>whnf
 refine Nf.mk (List.length s1_) len_map ?_
 conv=>whnf
 refine Nf.mk (List.length s2_) len_map ?_
 conv=>whnf
 refine Both.mk ?_ ?_<;>intro b51
 obtain ⟨h,b51d⟩:=ctd b51 h
 conv=>whnf
 cases h
 conv=>whnf
 exact ⟨rfl,rfl⟩
 obtain ⟨h,b51d⟩:=cfd b51 h
 conv=>whnf
 refine Nf.mk (List.length s1_) len_map ?_
 conv=>whnf
 obtain ⟨oc,hc,hk52⟩:=bind_some h
 clear h
 have h:=hc
 clear hc
 refine Cut.mkS oc (Y:=Unit) (fun (_:Unit)=>mkSt [] [] []) (fun (_:Unit)=>True) (by rintro ⟨⟩;exact (hT)) ?_ ?_
 conv=>whnf
 refine Loops.iter (fun (s:Nat)=>slices_Equal_Sint_int.s2 s1_ s2_ s) (fun y73=>mkSt [(0,.im (nL cI s1_)),(1,.im (nL cI s2_)),(12,.im (nI (↑(List.length s1_):Int))),(13,.im (nI (↑y73:Int)))] [] []) (fun y73=>lZ s1_∧lZ s2_∧True) h (eA []) (by rintro y73;exact ((Holds.avl 0 rfl).and ((Holds.avl 1 rfl).and (hT)))) ?_
 clear h
 rintro k y73 o hp h ho78
 replace h:slices_Equal_Sint_int.s2 s1_ s2_ y73=some o:=h
 unfold slices_Equal_Sint_int.s2 at h
 obtain ⟨z83,z84,_⟩:=hp
 conv=>whnf
 refine Both.mk ?_ ?_<;>intro b79
 obtain ⟨h,b79d⟩:=ctd b79 h
 conv=>whnf
 obtain ⟨e80,he80,h⟩:=idxn_some h
 refine ⟨_,⟨(by omega),map_at he80,rfl⟩,?_⟩
 conv=>whnf
 obtain ⟨e81,he81,h⟩:=idxn_some h
 refine ⟨_,⟨(by omega),map_at he81,rfl⟩,?_⟩
 conv=>whnf
 refine Both.mk ?_ ?_<;>intro b82
 obtain ⟨h,b82d⟩:=ctd b82 h
 conv=>whnf
 cases h
 have ho78:_=_:=ho78
 cases ho78
 replace h:some _=some _:=hk52
 cases h
 conv=>whnf
 exact ⟨rfl,rfl⟩
 obtain ⟨h,b82d⟩:=cfd b82 h
 conv=>whnf
 refine Arith.mk (by show inR _;unfold inR;omega) ?_
 conv=>whnf
 cases h
 exact Nxt.mk _ ho78 (eA [])
 obtain ⟨h,b79d⟩:=cfd b79 h
 conv=>whnf
 cases h
 have ho78:_=_:=ho78
 cases ho78
 exact JoinS.mk' _ rfl (eA [])
 rintro ⟨⟩ rfl hp
 replace h:=sum_inl hk52
 conv=>whnf
 cases h
 conv=>whnf
 exact ⟨rfl,rfl⟩
theorem sp_slices_CompactFunc_S_nondet_group_nondet_group (s_:List Grp) (eq_:Grp→Grp→Option Bool) (f1_:FuncId) (hf1:∀ x0 x1 r,eq_ x0 x1=some r→Sp Tryz.prog f1_ [.im (vG x0),.im (vG x1)] (.im (nB r))) (r:List Grp) (h:OkL (List.map cG s_)→Ok (.fn f1_ [])→slices_CompactFunc_S_nondet_group_nondet_group s_ eq_=some r):Sp Tryz.prog 44 [.row 69 1 (List.map cG s_),.im (.fn f1_ [])] (.row 69 1 (List.map cG r)):=by
 refine sp_of rfl [] rfl rfl rfl (Nat.le_of_ble_eq_true rfl) rfl fun hk=>?_
 replace h:=h hk.1 hk.2.1
 have z1:lZ s_:=okl_len hk.1
 unfold slices_CompactFunc_S_nondet_group_nondet_group at h
 conv=>whnf
 refine Side.mk rfl ?_
 conv=>whnf
 refine Nf.mk (List.length s_) len_map ?_
 conv=>whnf
 refine Both.mk ?_ ?_<;>intro b51
 obtain ⟨h,b51d⟩:=ctd b51 h
 conv=>whnf
 cases h
 conv=>whnf
 exact Side.mk ⟨rfl,trivial⟩ ⟨rfl,rfl⟩
 obtain ⟨h,b51d⟩:=cfd b51 h
 conv=>whnf
 obtain ⟨oc,hc,hk52⟩:=bind_some h
 clear h
 have h:=hc
 clear hc
 refine Cut.mkS oc (Y:=Unit) (fun (_:Unit)=>mkSt [(0,.osl 66 1)] [(66,.row 69 1 (List.map cG s_))] []) (fun (_:Unit)=>lZ s_∧True) (by rintro ⟨⟩;exact ((Holds.kdl 66 rfl).and (hT))) ?_ ?_
 conv=>whnf
 refine Loops.iter (fun (s:Nat)=>slices_CompactFunc_S_nondet_group_nondet_group.s20 s_ eq_ s) (fun k356=>mkSt [(0,.osl 66 1),(1,.im (.fn f1_ [])),(5,.im (nI (↑k356:Int)))] [(66,.row 69 1 (List.map cG s_))] []) (fun k356=>lZ s_∧True) h (eA [(66,some 0)]) (by rintro k356;exact ((Holds.kdl 66 rfl).and (hT))) ?_
 clear h
 rintro k k356 o hp h ho432
 replace h:slices_CompactFunc_S_nondet_group_nondet_group.s20 s_ eq_ k356=some o:=h
 unfold slices_CompactFunc_S_nondet_group_nondet_group.s20 at h
 obtain ⟨z508,_⟩:=hp
 conv=>whnf
 refine Side.mk rfl ?_
 conv=>whnf
 refine Nf.mk (List.length s_) len_map ?_
 conv=>whnf
 refine Both.mk ?_ ?_<;>intro b433
 obtain ⟨h,b433d⟩:=ctd b433 h
 conv=>whnf
 obtain ⟨e434,he434,h⟩:=idxn_some h
 refine Side.mk ⟨(by omega),rfl,map_lt he434⟩ ?_
 conv=>whnf
 refine ⟨_,_,⟨rfl,map_at he434,rfl,rfl⟩,?_⟩
 conv=>whnf
 refine Arith.mk (by show inR _;unfold inR;omega) ?_
 conv=>whnf
 obtain ⟨e435,he435z,he435,h⟩:=idx_some h
 refine Side.mk ⟨he435z,rfl,map_lt he435⟩ ?_
 conv=>whnf
 refine ⟨_,_,⟨rfl,map_at he435,rfl,rfl⟩,?_⟩
 conv=>whnf
 obtain ⟨c436,hc436,h⟩:=bind_some h
 refine ⟨_,hf1 e434 e435 c436 hc436,?_⟩
 conv=>whnf
 refine Both.mk ?_ ?_<;>intro b437
 replace h:=cond_t b437 h
 conv=>whnf
 obtain ⟨c438,h⟩:=chk_some h
 refine Side.mk ⟨rfl,c438.1,by have hh_:=c438;simp only [List.length_map];omega,by have hh_:=c438;simp only [List.length_map];omega⟩ ?_
 conv=>whnf
 obtain ⟨⟨y471,k472⟩,hc,hk439⟩:=bind_some h
 clear h
 have h:=hc
 clear hc
 refine Cut.mk (mkSt [(0,.osl 66 1),(5,.im (nI (↑k472:Int)))] [(66,.row 69 1 (List.map cG y471))] []) (lZ y471∧True) ((Holds.kdl 66 rfl).and (hT)) ?_ (fun hp=>?_)
 conv=>whnf
 refine Loops.iter (fun (s:List Grp×Nat×Nat)=>slices_CompactFunc_S_nondet_group_nondet_group.s18 eq_ k356 s.1 s.2.1 s.2.2) (fun (y481,k482,y483)=>mkSt [(0,.osl 66 1),(1,.im (.fn f1_ [])),(5,.im (nI (↑k482:Int))),(6,.osv 66 1 k356 1),(7,.im (nI (↑y483:Int)))] [(66,.row 69 1 (List.map cG y481))] []) (fun (y481,k482,y483)=>lZ y481∧True) h (Ent.mk [(66,some 66)] rfl ⟨⟨.osl 66 _,rfl,.osl rfl rfl rfl⟩,eI rfl rfl,eI rfl rfl,⟨.osv 66 _ _ _,rfl,.osv rfl rfl rfl⟩,eI rfl rfl,trivial⟩ ⟨.inl ⟨66,rfl,rfl,trivial⟩,trivial⟩ trivial) (by rintro ⟨y481,k482,y483⟩;exact ((Holds.kdl 66 rfl).and (hT))) ?_
 clear h
 rintro k ⟨y481,k482,y483⟩ o hp h ho493
 replace h:slices_CompactFunc_S_nondet_group_nondet_group.s18 eq_ k356 y481 k482 y483=some o:=h
 unfold slices_CompactFunc_S_nondet_group_nondet_group.s18 at h
 obtain ⟨z503,_⟩:=hp
 conv=>whnf
 refine Side.mk rfl ?_
 conv=>whnf
 refine Nf.mk (List.length y481-k356) len_own ?_
 conv=>whnf
 refine Both.mk ?_ ?_<;>intro b494
 obtain ⟨h,b494d⟩:=ctd b494 h
 conv=>whnf
 obtain ⟨e495,he495,h⟩:=idxn_some h
 refine Side.mk ⟨(by omega),rfl,map_lt he495⟩ ?_
 conv=>whnf
 refine Nf.mk (k356+y483) rfl ?_
 conv=>whnf
 refine ⟨_,_,⟨rfl,map_at he495,rfl,rfl⟩,?_⟩
 conv=>whnf
 refine Arith.mk (by show inR _;unfold inR;omega) ?_
 conv=>whnf
 obtain ⟨c497,h⟩:=chk_some h
 obtain ⟨e496,he496,h⟩:=idxn_some h
 refine Side.mk ⟨c497,rfl,map_lt he496⟩ ?_
 conv=>whnf
 refine Nf.mk (k356+(Int.toNat ((↑y483:Int)-1))) rfl ?_
 conv=>whnf
 refine ⟨_,_,⟨rfl,map_at he496,rfl,rfl⟩,?_⟩
 conv=>whnf
 obtain ⟨c498,hc498,h⟩:=bind_some h
 refine ⟨_,hf1 e495 e496 c498 hc498,?_⟩
 conv=>whnf
 refine Both.mk ?_ ?_<;>intro b499
 replace h:=cond_t b499 h
 conv=>whnf
 obtain ⟨e500,he500,h⟩:=idxn_some h
 refine Side.mk ⟨(by omega),rfl,map_lt he500⟩ ?_
 conv=>whnf
 refine Nf.mk (k356+y483) rfl ?_
 conv=>whnf
 refine ⟨_,_,⟨rfl,map_at he500,rfl,rfl⟩,?_⟩
 conv=>whnf
 obtain ⟨e501,he501,h⟩:=idxn_some h
 refine Side.mk ⟨(by omega),rfl,map_lt he501⟩ ?_
 conv=>whnf
 refine Side.mk ⟨rfl,trivial⟩ ?_
 conv=>whnf
 refine ⟨_,map_at he501,?_⟩
 conv=>whnf
 refine Nf.mk (List.map cG (List.set y481 k482 e500)) (set_map rfl) ?_
 conv=>whnf
 obtain ⟨c502,h⟩:=chk_some h
 refine Arith.mk c502 ?_
 conv=>whnf
 refine Arith.mk (by show inR _;unfold inR;omega) ?_
 conv=>whnf
 cases h
 exact Nxt.mk _ ho493 (Ent.mk [(66,some 66)] rfl ⟨⟨.osl 66 _,rfl,.osl rfl rfl rfl⟩,eI rfl rfl,eI rfl rfl,⟨.osv 66 _ _ _,rfl,.osv rfl rfl rfl⟩,eI rfl rfl,trivial⟩ ⟨.inl ⟨66,rfl,rfl,trivial⟩,trivial⟩ trivial)
 replace h:=cond_f b499 h
 conv=>whnf
 refine Arith.mk (by show inR _;unfold inR;omega) ?_
 conv=>whnf
 cases h
 exact Nxt.mk _ ho493 (Ent.mk [(66,some 66)] rfl ⟨⟨.osl 66 _,rfl,.osl rfl rfl rfl⟩,eI rfl rfl,eI rfl rfl,⟨.osv 66 _ _ _,rfl,.osv rfl rfl rfl⟩,eI rfl rfl,trivial⟩ ⟨.inl ⟨66,rfl,rfl,trivial⟩,trivial⟩ trivial)
 obtain ⟨h,b494d⟩:=cfd b494 h
 conv=>whnf
 cases h
 have ho493:_=_:=ho493
 cases ho493
 exact Join.mk (eA [(66,some 66)])
 replace h:slices_CompactFunc_S_nondet_group_nondet_group.k19 y471 k472=some _:=hk439
 unfold slices_CompactFunc_S_nondet_group_nondet_group.k19 at h
 obtain ⟨z504,_⟩:=hp
 conv=>whnf
 obtain ⟨c505,h⟩:=chk_some h
 refine Side.mk ⟨rfl,c505.1,by have hh_:=c505;simp only [List.length_map];omega,by have hh_:=c505;simp only [List.length_map];omega⟩ ?_
 conv=>whnf
 obtain ⟨c506,h⟩:=chk_some h
 refine Side.mk ⟨rfl,by have hh_:=c506;simp only [List.length_map];omega⟩ ?_
 conv=>whnf
 refine Nf.mk (List.take k472 (List.map cG y471)++List.replicate ((List.map cG y471).length-k472) [.val (.pointer none)]) rfl ?_
 conv=>whnf
 obtain ⟨c507,h⟩:=chk_some h
 refine Side.mk ⟨rfl,c507.1,by have hh_:=c507;simp only [List.length_map,List.length_append,List.length_take,List.length_replicate] at hh_ ⊢;omega,by have hh_:=c507;simp only [List.length_map,List.length_append,List.length_take,List.length_replicate] at hh_ ⊢;omega⟩ ?_
 conv=>whnf
 refine Nf.mk (List.map cG (List.take k472 (List.take k472 y471++List.replicate (List.length y471-k472) (([],[],[]):Grp)))) (cut_clr (by have hh_:=c506;omega)) ?_
 conv=>whnf
 cases h
 have ho432:_=_:=ho432
 cases ho432
 replace h:some _=some _:=hk52
 cases h
 conv=>whnf
 exact Side.mk ⟨rfl,trivial⟩ ⟨rfl,rfl⟩
 replace h:=cond_f b437 h
 conv=>whnf
 refine Arith.mk (by show inR _;unfold inR;omega) ?_
 conv=>whnf
 cases h
 exact Nxt.mk _ ho432 (eA [(66,some 66)])
 obtain ⟨h,b433d⟩:=cfd b433 h
 conv=>whnf
 cases h
 have ho432:_=_:=ho432
 cases ho432
 exact JoinS.mk' _ rfl (eA [(66,some 66)])
 rintro ⟨⟩ rfl hp
 replace h:=sum_inl hk52
 obtain ⟨z509,_⟩:=hp
 conv=>whnf
 cases h
 conv=>whnf
 exact Side.mk ⟨rfl,trivial⟩ ⟨rfl,rfl⟩
theorem pl_lib_SortFunc_groups (l:List Grp) (f:Grp→Grp→Option Int) (g:FuncId) (hd:CmpE Tryz.prog g vG f) (r:List Grp) (h:lib_SortFunc_groups l f=some r):Sp Tryz.prog 41 [.lent (.row 69 1 (List.map cG l)),.im (.fn g [])] (.mk true [] [.lent (.row 69 1 (List.map cG r))]) :=
  sp_of_sort (fun args w=>run_enter rfl rfl rfl args w) sortC_groups (by decide) (fun _=>rfl) (fun W S us x hl h1 hr=>rep_of_one hl hr) hd.1 hd.2 h
theorem cmpE_nondet_cmp:CmpE Tryz.prog 42 vG (fun u0 u1=>nondet_cmp u0 u1) :=
  ⟨fun args w=>run_enter rfl rfl rfl args w,cmpG_groups fun x y r h=>by
    unfold nondet_cmp at h
    intro h1 h2
    rw [word_Compare_eq _ _ (by omega),Option.bind_some] at h
    by_cases h0:cmpW x.1 y.1=0
    · rw [decide_eq_false (by simpa using h0),cond_false,word_Lex_eq _ _ (by omega)] at h
      exact .inr ⟨h0,(Option.some.inj h).symm⟩
    · rw [decide_eq_true h0,cond_true] at h
      exact .inl ⟨h0,(Option.some.inj h).symm⟩⟩
theorem pl_nondet_eq (g g':Grp) (r:Bool) (h:nondet_eq g g'=some r):Sp Tryz.prog 45 [.im (vG g),.im (vG g')] (.im (nB r)):=by
  refine sp_of rfl [] rfl rfl rfl (Nat.le_of_ble_eq_true rfl) rfl fun hk=>?_
  conv=>whnf
  refine ⟨_,sp_slices_Equal_Sint_int g.1 g'.1 r (fun _ _=>h),?_⟩
  conv=>whnf
  exact ⟨rfl,rfl⟩
theorem pl_pdq (l:List Int) (lim:Int) (r:List Int) (hl:l.length≤12) (h:slices_insertionSortOrdered_int l 0 l.length=some r):Sp Tryz.prog 68 [.lent (.row 3 1 (List.map cI l)),.im (nI 0),.im (nI l.length),.im (nI lim)] (.mk true [] [.lent (.row 3 1 (List.map cI r))]):=by
  refine sp_of rfl [28000,2028000] rfl rfl rfl (Nat.le_of_ble_eq_true rfl) rfl fun hk=>?_
  conv=>whnf
  refine Loops.mkX (A:=Unit) (fun _=>mkSt [(0,.osl 0 0),(1,.im (nI 0)),(2,.im (nI l.length))] [(0,.row 3 1 (List.map cI l))] []) (fun _=>True) (fun _=>0) () trivial (Ent.mk [(0,some 0)] rfl ⟨⟨.osl 0 _,rfl,.osl rfl rfl rfl⟩,⟨.im _,rfl,.im (Sub.rfl' rfl)⟩,⟨.im _,rfl,.im (Sub.rfl' rfl)⟩,trivial⟩ ⟨.inl ⟨0,rfl,rfl,⟨rfl,rfl⟩⟩,trivial⟩ trivial) fun _ _=>?_
  conv=>whnf
  refine Cut.mkX (A:=Empty) (fun e=>e.elim) (fun _=>True) ?_ (fun e=>e.elim)
  conv=>whnf
  refine Arith.mk (by show inR _;unfold inR;omega) ?_
  conv=>whnf
  refine Both.yes (decide_eq_true (by omega)) ?_
  conv=>whnf
  refine Side.mk ⟨rfl,trivial⟩ ?_
  conv=>whnf
  refine ⟨_,sp_slices_insertionSortOrdered_int l 0 l.length r (fun _ _ _=>h),?_⟩
  conv=>whnf
  exact Side.mk ⟨rfl,trivial⟩ ⟨rfl,rfl⟩
theorem pl_lib_Sort_int (l r:List Int) (h:lib_Sort_int l=some r):Sp Tryz.prog 40 [.lent (.row 3 1 (List.map cI l))] (.mk true [] [.lent (.row 3 1 (List.map cI r))]):=by
  obtain ⟨hl,h⟩:=chk_some h
  refine sp_of rfl [11000,2011000] rfl rfl rfl (Nat.le_of_ble_eq_true rfl) rfl fun hk=>?_
  conv=>whnf
  refine Side.mk rfl ?_
  conv=>whnf
  refine Nf.mk (List.length l) len_map ?_
  conv=>whnf
  refine Side.mk (by show (0:Int)≤l.length∧(l.length:Int)≤18446744073709551615;omega) ?_
  conv=>whnf
  refine ⟨_,sp_bitsLen l.length (by omega),?_⟩
  conv=>whnf
  refine Side.mk ⟨rfl,trivial⟩ ?_
  conv=>whnf
  refine ⟨_,pl_pdq l (Lib.bitLen l.length:Nat) r hl h,?_⟩
  conv=>whnf
  exact Side.mk ⟨rfl,trivial⟩ ⟨rfl,rfl⟩
theorem containsC {l:List Int} {x:Int} (hl:l.length≤2000000):slices_Contains_Sint_int l x=some (decide (x∈l)):=by
  unfold slices_Contains_Sint_int slices_Index_Sint_int
  have key:=iter_post (step:=fun s=>slices_Index_Sint_int.s2 l x s) (fun k=>k≤l.length∧x∉l.take k) (fun k=>l.length-k) (fun r=>match r with | .inl ()=>x∉l | .inr n=>0≤n∧x∈l) (fun k ⟨g1,g2⟩=>by
    simp only [slices_Index_Sint_int.s2]
    by_cases g3:k<l.length
    · have hx:=List.getElem?_eq_getElem g3
      rw [dec_lt hx,cond_true,idxn_at hx]
      by_cases e:x=l[k]
      · right
        exact ⟨.inr (k:Int),by rw [decide_eq_true e,cond_true],by omega,by rw [e];exact List.getElem_mem _⟩
      · left
        refine ⟨k+1,by rw [decide_eq_false e,cond_false],⟨g3,?_⟩,by omega⟩
        rw [List.take_add_one,hx]
        exact fun h=>(List.mem_append.1 h).elim g2 fun h=>e (List.mem_singleton.1 h)
    · right
      rw [List.take_of_length_le (by omega)] at g2
      exact ⟨.inl (),by rw [decide_eq_false (by omega),cond_false],g2⟩) fuel 0 ⟨Nat.zero_le _,by simp⟩ (by have:=fuel_big;omega)
  obtain ⟨r,e,hq⟩:=key
  rw [e,obind]
  cases r with
  | inl u =>
    have hq:x∉l:=hq
    simp only [Sum.elim_inl]
    rw [obind,decide_eq_false hq]
    rfl
  | inr n =>
    have hq:0≤n∧x∈l:=hq
    simp only [Sum.elim_inr]
    rw [obind,decide_eq_true hq.1,decide_eq_true hq.2]
theorem cmp_Less_int_eq (a b:Int):cmp_Less_int a b=some (decide (a<b)):=by
  unfold cmp_Less_int cmp_isNaN_int
  simp
theorem sortC3 {l:List Int} {y:Int} (h:LOk l) (hy:y∉l):lib_Sort_int (l++[y])=some (insI y l):=by
  obtain ⟨n,hn⟩:∃ n,fuel=n+5:=⟨fuel-5,by unfold fuel;omega⟩
  unfold lib_Sort_int slices_insertionSortOrdered_int
  rw [hn]
  match l,h,hy with
  | [],_,_=>simp [iter,slices_insertionSortOrdered_int.s14,chk,insI,inR]
  | [a],_,hy =>
    simp only [List.mem_singleton] at hy
    by_cases h1:y<a
    · simp [iter,slices_insertionSortOrdered_int.s14,slices_insertionSortOrdered_int.s13,hn,chk,idx,insI,inR,cmp_Less_int_eq,h1]
    · simp [iter,slices_insertionSortOrdered_int.s14,slices_insertionSortOrdered_int.s13,hn,chk,idx,insI,inR,cmp_Less_int_eq,h1]
  | [a,b],h,hy =>
    have hab:a<b:=by have:=h.2;simp at this;exact this
    simp only [List.mem_cons,List.not_mem_nil,or_false,not_or] at hy
    have hba:¬ b<a:=by omega
    by_cases h1:y<a
    · have h2:y<b:=by omega
      simp [iter,slices_insertionSortOrdered_int.s14,slices_insertionSortOrdered_int.s13,hn,chk,idx,insI,inR,cmp_Less_int_eq,h1,h2,hba]
    · by_cases h2:y<b
      · simp [iter,slices_insertionSortOrdered_int.s14,slices_insertionSortOrdered_int.s13,hn,chk,idx,insI,inR,cmp_Less_int_eq,h1,h2,hba]
      · simp [iter,slices_insertionSortOrdered_int.s14,slices_insertionSortOrdered_int.s13,hn,chk,idx,insI,inR,cmp_Less_int_eq,h1,h2,hba]
abbrev TG:Nat:=71
abbrev TT:Nat:=55
def stO (l:List T_api_Trace) (x:List Xg×Nat):St:=mkSt [(3,.osl 66 1),(16,.im (nL c_api_Trace l)),(17,.im (nI (↑(List.length l):Int))),(18,.im (nI (↑x.2:Int)))] [(66,.map (mapV wS pv (mpX x.1))),(67,.bag TG 3 1 (bgX x.1) none)] []
def stP (X:List Xg):St:=mkSt [(3,.osl 66 1)] [(66,.map (mapV wS pv (mpX X))),(67,.bag TG 3 1 (bgX X) none)] []
def stI (l:List T_api_Trace) (t:T_api_Trace) (i:Nat) (x:List Xg×Nat):St:=mkSt [(3,.osl 66 1),(5,.own 68 1 0),(16,.im (nL c_api_Trace l)),(17,.im (nI (↑(List.length l):Int))),(18,.im (nI (↑i:Int))),(28,.im (nI (min (↑(List.length t.In):Int) (↑(List.length t.Out):Int)))),(29,.im (nI (↑x.2:Int)))]
  [(66,.map (mapV wS pv (mpX x.1))),(67,.bag TG 3 1 (bgX x.1) none),(68,.box TT 2)] [(68,0,.im (nL cI t.In)),(68,1,.im (nL cI t.Out))]
def stJ (l:List T_api_Trace) (i:Nat) (X:List Xg):St:=mkSt [(3,.osl 66 1),(16,.im (nL c_api_Trace l)),(17,.im (nI (↑(List.length l):Int))),(18,.im (nI (↑i:Int)))] [(66,.map (mapV wS pv (mpX X))),(67,.bag TG 3 1 (bgX X) none)] []
def stK (l:List T_api_Trace) (t:T_api_Trace) (i j:Nat) (w b ls:List Int) (X:List Xg) (l0:List Ge) (p:Nat):St:=mkSt [(3,.osl 66 1),(5,.own 68 1 0),(6,.im (nI (↑j:Int))),(8,.own 69 1 0),(16,.im (nL c_api_Trace l)),(17,.im (nI (↑(List.length l):Int))),(18,.im (nI (↑i:Int))),(28,.im (nI (min (↑(List.length t.In):Int) (↑(List.length t.Out):Int)))),(29,.im (nI (↑j:Int)))]
  [(66,.map (mapV wS pv (mpX X))),(67,.bag TG 3 1 l0 (some p)),(68,.box TT 2),(69,.box TG 3),(70,.row 3 1 (List.map cI ls))] [(67,0,.own 69 1 0),(68,0,.im (nL cI t.In)),(68,1,.im (nL cI t.Out)),(69,0,.im (nL cI w)),(69,1,.im (nL cI b)),(69,2,.osl 70 1)]
theorem bag_eq {t e:TypeId} {k:Nat} {l l':List Ge} {h:Option Nat} (e1:l=l'):Kd.bag t e k l h=Kd.bag t e k l' h:=by rw [e1]
theorem map_eq {m m':List (ByteArray×Nat)} (e1:m=m'):Kd.map (mapV wS pv m)=Kd.map (mapV wS pv m'):=by rw [e1]
def stN (l:List T_api_Trace) (t:T_api_Trace) (i j:Nat) (X:List Xg) (l0:List Ge) (p:Nat):St:=mkSt [(3,.osl 66 1),(5,.own 68 1 0),(6,.im (nI (↑j:Int))),(8,.im (.val (pv p))),(16,.im (nL c_api_Trace l)),(17,.im (nI (↑(List.length l):Int))),(18,.im (nI (↑i:Int))),(28,.im (nI (min (↑(List.length t.In):Int) (↑(List.length t.Out):Int)))),(29,.im (nI (↑j:Int)))]
  [(66,.map (mapV wS pv (mpX X))),(67,.bag TG 3 1 l0 none),(68,.box TT 2)] [(68,0,.im (nL cI t.In)),(68,1,.im (nL cI t.Out))]
def stW (l:List T_api_Trace) (t:T_api_Trace) (i j:Nat) (w b:List Int) (X:List Xg):St:=mkSt [(3,.osl 66 1),(5,.own 68 1 0),(6,.im (nI (↑j:Int))),(7,.im (nS (kq w b))),(8,.own 69 1 0),(16,.im (nL c_api_Trace l)),(17,.im (nI (↑(List.length l):Int))),(18,.im (nI (↑i:Int))),(28,.im (nI (min (↑(List.length t.In):Int) (↑(List.length t.Out):Int)))),(29,.im (nI (↑j:Int)))]
  [(66,.map (mapV wS pv (mpX X))),(67,.bag TG 3 1 (bgX X) none),(68,.box TT 2),(69,.box TG 3)] [(68,0,.im (nL cI t.In)),(68,1,.im (nL cI t.Out)),(69,0,.im (nL cI w)),(69,1,.im (nL cI b)),(69,2,.im (.val (.slice none 0 0)))]
def stE (l:List T_api_Trace) (t:T_api_Trace) (i j:Nat) (w b ls:List Int) (X:List Xg) (l0:List Ge) (p:Nat):St:=mkSt [(3,.osl 66 1),(5,.own 68 1 0),(16,.im (nL c_api_Trace l)),(17,.im (nI (↑(List.length l):Int))),(18,.im (nI (↑i:Int))),(28,.im (nI (min (↑(List.length t.In):Int) (↑(List.length t.Out):Int)))),(29,.im (nI (↑j:Int)))]
  [(66,.map (mapV wS pv (mpX X))),(67,.bag TG 3 1 l0 (some p)),(68,.box TT 2),(69,.box TG 3),(70,.row 3 1 (List.map cI ls))] [(67,0,.own 69 1 0),(68,0,.im (nL cI t.In)),(68,1,.im (nL cI t.Out)),(69,0,.im (nL cI w)),(69,1,.im (nL cI b)),(69,2,.osl 70 1)]
theorem ent_back (l:List T_api_Trace) (t:T_api_Trace) (i j:Nat) (w b ls ls':List Int) (X1 X2:List Xg) (p:Nat):Ent (stE l t i j w b ls' (X1++((w,b,ls),p)::X2) (bgX X1++bgX X2) p) (stI l t i (X1++((w,b,ls'),p)::X2,j)):=by
  refine Ent.trans (Ent.giveB (o:=67) (p:=69) (q:=70) (n:=2) (v:=p) (l1:=bgX X1) (l2:=bgX X2) (xs:=[nL cI w,nL cI b]) (es:=List.map cI ls') rfl rfl rfl rfl rfl (fun k x hx=>?_) rfl rfl rfl) ?_
  · match k,hx with
    | 0,hx=>simp only [List.getElem?_cons_zero,Option.some.injEq] at hx;rw [← hx];rfl
    | 1,hx=>simp only [List.getElem?_cons_succ,List.getElem?_cons_zero,Option.some.injEq] at hx;rw [← hx];rfl
    | k+2,hx=>simp at hx
  · exact Ent.mk [(66,some 66),(67,some 67),(68,some 68)] rfl ⟨⟨.osl 66 _,rfl,.osl rfl rfl rfl⟩,⟨.own 68 _ 0,rfl,.own rfl rfl rfl⟩,⟨.im _,rfl,.im (Sub.rfl' rfl)⟩,⟨.im _,rfl,.im (Sub.rfl' rfl)⟩,⟨.im _,rfl,.im (Sub.rfl' rfl)⟩,⟨.im _,rfl,.im (Sub.rfl' rfl)⟩,⟨.im _,rfl,.im (Sub.rfl' rfl)⟩,trivial⟩ ⟨.inl ⟨66,rfl,map_eq (mpX_mid X1 X2 (w,b,ls) (w,b,ls') p rfl rfl),trivial⟩,.inl ⟨67,rfl,bag_eq (bgX_mid X1 X2 ((w,b,ls'),p)).symm,trivial⟩,.inl ⟨68,rfl,rfl,trivial⟩,trivial⟩ ⟨⟨68,.im _,rfl,rfl,.im (Sub.rfl' rfl)⟩,⟨68,.im _,rfl,rfl,.im (Sub.rfl' rfl)⟩,trivial⟩
theorem bgX_ref (X:List Xg):(bgX X).map refG=(X.map (·.1)).map vG:=by unfold bgX;rw [List.map_map,List.map_map];rfl
theorem go_eq {l l':List IV} {c:Option IV} (h:l=l'):Kd.mapI l c=Kd.mapI l' c:=by rw [h]
theorem take_min (l:List Int):List.take 2 l=List.take (Int.toNat (min 2 (↑(List.length l):Int))) l:=by
  rcases Nat.lt_or_ge l.length 2 with h | h
  · rw [List.take_of_length_le (by omega),List.take_of_length_le (by omega)]
  · rw [show Int.toNat (min 2 (↑(List.length l):Int))=2 by omega]
theorem nkey_eq {w:List Int} (h:w.length≤1000) (h2:∀ a∈w,inR a):nondet_key w=some ⟨(keyL w).toArray⟩∧(⟨(keyL w).toArray⟩:ByteArray).size≤15000:=by
  refine ⟨?_,?_⟩
  · unfold nondet_key
    rw [chk_pos h2,chk_pos (by omega)]
  · have:=keyL_len (xs:=w) (fun a ha=>h2 a ha)
    show (keyL w).toArray.size≤15000
    rw [List.size_toArray]
    omega
theorem sp_nondet_Clashes (l:List T_api_Trace) (r:List T_api_Clash) (h:nondet_Clashes l=some r):Sp Tryz.prog 19 [.im (nL c_api_Trace l)] (.row 58 3 (List.map c_api_Clash r)):=by
  obtain ⟨⟨hl,hb⟩,h⟩:=chk_some h
  refine sp_ofH rfl [128000,130000,2128000,94000,500073,2094000] [12,20,21,22] rfl rfl rfl (Nat.le_of_ble_eq_true rfl) rfl fun hk=>?_
  have z1:List.length l≤17592186044416:=by omega
  conv=>whnf
  refine Nf.mk (List.length l) len_map ?_
  conv=>whnf
  refine Cut.mkX stP (fun X=>XOk X∧X.map (·.1)=grpsN l) ?_ fun X hX=>?_
  · conv=>whnf
    refine Loops.mkX (stO l) (fun x=>x.2≤l.length∧XOk x.1∧x.1.map (·.1)=grpsN (l.take x.2)) (fun x=>l.length-x.2) ([],0) ⟨Nat.zero_le _,fun x hx=>by simp at hx,rfl⟩ (Ent.mk [(66,some 15),(67,none)] rfl ⟨⟨.osl 15 _,rfl,.osl rfl rfl rfl⟩,⟨.im _,rfl,.im (Sub.rfl' rfl)⟩,⟨.im _,rfl,.im (Sub.rfl' rfl)⟩,⟨.im _,rfl,.im (Sub.rfl' rfl)⟩,trivial⟩ ⟨.inl ⟨15,rfl,rfl,trivial⟩,.inr ⟨rfl,rfl,.inr (.inr ⟨_,_,_,rfl⟩)⟩,trivial⟩ trivial) ?_
    rintro ⟨X,i⟩ ⟨hi,hX,hG⟩
    dsimp only at hi hX hG
    conv=>whnf
    refine Both.mk (fun b1=>?_) (fun b1=>?_)
    · have hlt:i<l.length:=by have:=of_decide_eq_true b1;omega
      obtain ⟨t,ht⟩:∃ t,l[i]?=some t:=⟨_,List.getElem?_eq_getElem hlt⟩
      have htl:=hb t (List.mem_of_getElem? ht)
      conv=>whnf
      refine ⟨_,⟨(by omega),map_at ht,rfl⟩,?_⟩
      conv=>whnf
      refine Side.mk rfl ?_
      conv=>whnf
      refine Side.mk rfl ?_
      conv=>whnf
      refine Side.mk rfl ?_
      conv=>whnf
      refine Nf.mk (List.length t.In) len_map ?_
      conv=>whnf
      refine Side.mk rfl ?_
      conv=>whnf
      refine Side.mk rfl ?_
      conv=>whnf
      refine Nf.mk (List.length t.Out) len_map ?_
      conv=>whnf
      refine Cut.mkX (stJ l i) (fun X=>XOk X∧X.map (·.1)=grpsN (l.take (i+1))) ?_ fun X hX'=>?_
      · conv=>whnf
        refine Loops.mkX (stI l t i) (fun x=>x.2≤min t.In.length t.Out.length∧XOk x.1∧x.1.map (·.1)=grpA (grpsN (l.take i)) t x.2) (fun x=>min t.In.length t.Out.length-x.2) (X,0) ⟨Nat.zero_le _,hX,hG⟩ (Ent.mk [(66,some 66),(67,some 67),(68,some 5)] rfl ⟨⟨.osl 66 _,rfl,.osl rfl rfl rfl⟩,⟨.own 5 _ 0,rfl,.own rfl rfl rfl⟩,⟨.im _,rfl,.im (Sub.rfl' rfl)⟩,⟨.im _,rfl,.im (Sub.rfl' rfl)⟩,⟨.im _,rfl,.im (Sub.rfl' rfl)⟩,⟨.im _,rfl,.im (Sub.rfl' rfl)⟩,⟨.im _,rfl,.im (Sub.rfl' rfl)⟩,trivial⟩ ⟨.inl ⟨66,rfl,rfl,trivial⟩,.inl ⟨67,rfl,rfl,trivial⟩,.inl ⟨5,rfl,rfl,trivial⟩,trivial⟩ ⟨⟨5,.im _,rfl,rfl,.im (Sub.rfl' rfl)⟩,⟨5,.im _,rfl,rfl,.im (Sub.rfl' rfl)⟩,trivial⟩) ?_
        rintro ⟨X',j⟩ ⟨hj,hX',hG'⟩
        dsimp only at hj hX' hG'
        conv=>whnf
        refine Both.mk (fun b2=>?_) (fun b2=>?_)
        · have hjlt:j<min t.In.length t.Out.length:=by have:=of_decide_eq_true b2;omega
          have e1:Int.toNat ((↑j:Int)+1)=j+1:=by omega
          have e2:Int.toNat (↑j:Int)=j:=by omega
          obtain ⟨k1,s1⟩:=nkey_eq (w:=t.In.take (j+1)) (by simp;omega) fun a ha=>htl.2.2.1 a (List.mem_of_mem_take ha)
          obtain ⟨k2,s2⟩:=nkey_eq (w:=t.Out.take j) (by simp;omega) fun a ha=>htl.2.2.2 a (List.mem_of_mem_take ha)
          conv=>whnf
          refine Side.mk rfl ?_
          conv=>whnf
          refine Side.mk rfl ?_
          conv=>whnf
          refine Arith.mk (by show inR _;unfold inR;omega) ?_
          conv=>whnf
          refine Side.mk (show (0:Int)≤(0:Int)∧(0:Int)≤((↑j:Int)+1)∧((↑j:Int)+1)≤(↑(List.length (List.map cI t.In)):Int)∧(∀ e∈List.map cI t.In,List.length e=1) from ⟨by omega,by omega,by simp only [List.length_map];omega,map_len fun _=>rfl⟩) ?_
          conv=>whnf
          refine Nf.mk (List.map cI (List.take (j+1) t.In)) (by rw [← e1];exact take_map) ?_
          conv=>whnf
          refine ⟨_,sp_nondet_key _ _ k1,?_⟩
          conv=>whnf
          refine Side.mk (by show (⟨(keyL (t.In.take (j+1))).toArray⟩:ByteArray).size+1≤9223372036854775807;omega) ?_
          conv=>whnf
          refine Side.mk rfl ?_
          conv=>whnf
          refine Side.mk rfl ?_
          conv=>whnf
          refine Side.mk (show (0:Int)≤(0:Int)∧(0:Int)≤(↑j:Int)∧(↑j:Int)≤(↑(List.length (List.map cI t.Out)):Int)∧(∀ e∈List.map cI t.Out,List.length e=1) from ⟨by omega,by omega,by simp only [List.length_map];omega,map_len fun _=>rfl⟩) ?_
          conv=>whnf
          refine Nf.mk (List.map cI (List.take j t.Out)) (by rw [show List.take j t.Out=List.take (Int.toNat (↑j:Int)) t.Out by rw [e2]];exact take_map) ?_
          conv=>whnf
          refine ⟨_,sp_nondet_key _ _ k2,?_⟩
          conv=>whnf
          refine Side.mk (by rw [ByteArray.size_append];show (⟨(keyL (t.In.take (j+1))).toArray⟩:ByteArray).size+1+(⟨(keyL (t.Out.take j)).toArray⟩:ByteArray).size≤9223372036854775807;omega) ?_
          conv=>whnf
          refine Side.mk rfl ?_
          conv=>whnf
          obtain ⟨v,hv⟩:∃ v,(Option.map pv (mget (kq (t.In.take (j+1)) (t.Out.take j)) (mpX X'))).getD (.pointer none)=v:=⟨_,rfl⟩
          refine ⟨_,find_str (kq (t.In.take (j+1)) (t.Out.take j)) pv (mpX X'),?_⟩
          conv=>whnf
          refine Nf.mk v hv.symm ?_
          conv=>whnf
          obtain ⟨y,hy⟩:∃ y,t.Out[j]?=some y:=⟨_,List.getElem?_eq_getElem (by omega)⟩
          have hstep:grpA (grpsN (l.take i)) t (j+1)=grpAdd (X'.map (·.1)) (t.In.take (j+1)) (t.Out.take j) y:=by rw [grpA_succ,hG',hy];rfl
          generalize hw:t.In.take (j+1)=w at *
          generalize hb':t.Out.take j=bb at *
          refine Cut.mkX (fun x:List Xg×List Xg×List Int×Nat=>stK l t i j w bb x.2.2.1 (x.1++((w,bb,x.2.2.1),x.2.2.2)::x.2.1) (bgX x.1++bgX x.2.1) x.2.2.2) (fun x=>LOk x.2.2.1∧XOk (x.1++((w,bb,x.2.2.1),x.2.2.2)::x.2.1)∧∀ y,grpAdd (X'.map (·.1)) w bb y=(x.1++((w,bb,leastI x.2.2.1 y),x.2.2.2)::x.2.1).map (·.1)) ?_ ?_
          · rcases grps_look w bb X' with ⟨g1,g2,g3⟩ | ⟨X1,g,p,X2,g1,g2,g3,g4,g5⟩
            · rw [g1] at hv
              subst hv
              conv=>whnf
              refine Both.yes rfl ?_
              conv=>whnf
              refine Side.mk rfl ?_
              conv=>whnf
              refine Side.mk rfl ?_
              conv=>whnf
              refine Arith.mk (by show inR _;unfold inR;omega) ?_
              conv=>whnf
              refine Side.mk (show (0:Int)≤(0:Int)∧(0:Int)≤((↑j:Int)+1)∧((↑j:Int)+1)≤(↑(List.length (List.map cI t.In)):Int)∧(∀ e∈List.map cI t.In,List.length e=1) from ⟨by omega,by omega,by simp only [List.length_map];omega,map_len fun _=>rfl⟩) ?_
              conv=>whnf
              refine Nf.mk (List.map cI w) (by rw [← hw,← e1];exact take_map) ?_
              conv=>whnf
              refine Side.mk rfl ?_
              conv=>whnf
              refine Side.mk rfl ?_
              conv=>whnf
              refine Side.mk (show (0:Int)≤(0:Int)∧(0:Int)≤(↑j:Int)∧(↑j:Int)≤(↑(List.length (List.map cI t.Out)):Int)∧(∀ e∈List.map cI t.Out,List.length e=1) from ⟨by omega,by omega,by simp only [List.length_map];omega,map_len fun _=>rfl⟩) ?_
              conv=>whnf
              refine Nf.mk (List.map cI bb) (by rw [← hb',show List.take j t.Out=List.take (Int.toNat (↑j:Int)) t.Out by rw [e2]];exact take_map) ?_
              conv=>whnf
              refine Rh.pre _ _ _ _ _ (fun σ1=>∃ v:Nat,σ1=app (stW l t i j w bb X') [(.knd 67,.kd (.bag TG 3 1 (bgX X') (some v))),(.cel 67 0,.av (.own 69 1 0)),(.tmp 8,.av (.im (.val (pv v))))]) (fun B a w0 hs=>?_) ?_
              · have hs1:Sat B (stW l t i j w bb X') a w0:=by
                  refine (show Ent _ (stW l t i j w bb X') from ?_) B a w0 hs
                  exact Ent.mk [(66,some 66),(67,some 67),(68,some 68),(69,some 60)] rfl ⟨⟨.osl 66 _,rfl,.osl rfl rfl rfl⟩,⟨.own 68 _ 0,rfl,.own rfl rfl rfl⟩,⟨.im _,rfl,.im (Sub.rfl' rfl)⟩,⟨.im _,rfl,.im (Sub.rfl' rfl)⟩,⟨.own 60 _ 0,rfl,.own rfl rfl rfl⟩,⟨.im _,rfl,.im (Sub.rfl' rfl)⟩,⟨.im _,rfl,.im (Sub.rfl' rfl)⟩,⟨.im _,rfl,.im (Sub.rfl' rfl)⟩,⟨.im _,rfl,.im (Sub.rfl' rfl)⟩,⟨.im _,rfl,.im (Sub.rfl' rfl)⟩,trivial⟩ ⟨.inl ⟨66,rfl,rfl,trivial⟩,.inl ⟨67,rfl,rfl,trivial⟩,.inl ⟨68,rfl,rfl,trivial⟩,.inl ⟨60,rfl,rfl,trivial⟩,trivial⟩ ⟨⟨68,.im _,rfl,rfl,.im (Sub.rfl' rfl)⟩,⟨68,.im _,rfl,rfl,.im (Sub.rfl' rfl)⟩,⟨60,.im _,rfl,rfl,.im (Sub.rfl' rfl)⟩,⟨60,.im _,rfl,rfl,.im (Sub.rfl' rfl)⟩,⟨60,.im _,rfl,rfl,.im (Sub.rfl' rfl)⟩,trivial⟩
                obtain ⟨v,hv⟩:=Sat.join (o:=67) (p:=69) (s:=8) hs1 rfl rfl rfl rfl
                exact ⟨_,⟨v,rfl⟩,hv⟩
              · rintro _ ⟨v,rfl⟩
                conv=>whnf
                refine Side.mk rfl ?_
                conv=>whnf
                refine ⟨_,set_str (kq w bb) v pv (mpX X'),?_⟩
                conv=>whnf
                refine JoinX.mk (X',[],[],v) ⟨⟨Nat.zero_le _,List.Pairwise.nil⟩,fun x hx=>?_,fun y=>by rw [g3,List.map_append];rfl⟩ ?_
                · rcases List.mem_append.1 hx with hx | hx
                  · exact hX' x hx
                  · rw [List.mem_singleton.1 hx]
                    exact ⟨Nat.zero_le _,List.Pairwise.nil⟩
                · refine Ent.trans (Ent.own1 (o:=67) (s:=8) rfl rfl rfl) ?_
                  refine Ent.mk [(66,some 66),(67,some 67),(68,some 68),(69,some 69),(70,none)] rfl ⟨⟨.osl 66 _,rfl,.osl rfl rfl rfl⟩,⟨.own 68 _ 0,rfl,.own rfl rfl rfl⟩,⟨.im _,rfl,.im (Sub.rfl' rfl)⟩,⟨.own 69 _ 0,rfl,.own rfl rfl rfl⟩,⟨.im _,rfl,.im (Sub.rfl' rfl)⟩,⟨.im _,rfl,.im (Sub.rfl' rfl)⟩,⟨.im _,rfl,.im (Sub.rfl' rfl)⟩,⟨.im _,rfl,.im (Sub.rfl' rfl)⟩,⟨.im _,rfl,.im (Sub.rfl' rfl)⟩,trivial⟩ ⟨.inl ⟨66,rfl,map_eq ((g2 v).trans (mpX_snoc X' (w,bb,[]) v)),trivial⟩,.inl ⟨67,rfl,bag_eq (List.append_nil _).symm,trivial⟩,.inl ⟨68,rfl,rfl,trivial⟩,.inl ⟨69,rfl,rfl,trivial⟩,.inr ⟨rfl,rfl,.inl ⟨_,_,rfl,by decide⟩⟩,trivial⟩ ⟨⟨67,.own 69 _ 0,rfl,rfl,.own rfl rfl rfl⟩,⟨68,.im _,rfl,rfl,.im (Sub.rfl' rfl)⟩,⟨68,.im _,rfl,rfl,.im (Sub.rfl' rfl)⟩,⟨69,.im _,rfl,rfl,.im (Sub.rfl' rfl)⟩,⟨69,.im _,rfl,rfl,.im (Sub.rfl' rfl)⟩,⟨69,.im (.val (.slice none 0 0)),rfl,rfl,.made rfl rfl⟩,trivial⟩
            · rw [g4] at hv
              subst hv
              conv=>whnf
              refine Both.no rfl ?_
              conv=>whnf
              obtain ⟨gw,gb,gl⟩:=g
              dsimp only at g2 g3 g5
              subst g2 g3
              subst g1
              refine JoinX.mk (X1,X2,gl,p) ⟨hX' _ (List.mem_append_right _ List.mem_cons_self),hX',g5⟩ ?_
              refine Ent.trans (σ':=stN l t i j (X1++((gw,gb,gl),p)::X2) (bgX X1++gE (gw,gb,gl) p::bgX X2) p) (Ent.mk [(66,some 66),(67,some 67),(68,some 68)] rfl ⟨⟨.osl 66 _,rfl,.osl rfl rfl rfl⟩,⟨.own 68 _ 0,rfl,.own rfl rfl rfl⟩,⟨.im _,rfl,.im (Sub.rfl' rfl)⟩,⟨.im _,rfl,.im (Sub.rfl' rfl)⟩,⟨.im _,rfl,.im (Sub.rfl' rfl)⟩,⟨.im _,rfl,.im (Sub.rfl' rfl)⟩,⟨.im _,rfl,.im (Sub.rfl' rfl)⟩,⟨.im _,rfl,.im (Sub.rfl' rfl)⟩,⟨.im _,rfl,.im (Sub.rfl' rfl)⟩,trivial⟩ ⟨.inl ⟨66,rfl,rfl,trivial⟩,.inl ⟨67,rfl,bag_eq (bgX_mid X1 X2 ((gw,gb,gl),p)),trivial⟩,.inl ⟨68,rfl,rfl,trivial⟩,trivial⟩ ⟨⟨68,.im _,rfl,rfl,.im (Sub.rfl' rfl)⟩,⟨68,.im _,rfl,rfl,.im (Sub.rfl' rfl)⟩,trivial⟩) ?_
              refine Ent.trans (Ent.take (o:=67) (p:=69) (q:=70) (n:=2) (g:=gE (gw,gb,gl) p) rfl rfl rfl (by decide) rfl) ?_
              refine Ent.trans (Ent.own1 (o:=67) (s:=8) rfl rfl rfl) ?_
              refine Ent.mk [(66,some 66),(67,some 67),(68,some 68),(69,some 69),(70,some 70)] rfl ⟨⟨.osl 66 _,rfl,.osl rfl rfl rfl⟩,⟨.own 68 _ 0,rfl,.own rfl rfl rfl⟩,⟨.im _,rfl,.im (Sub.rfl' rfl)⟩,⟨.own 69 _ 0,rfl,.own rfl rfl rfl⟩,⟨.im _,rfl,.im (Sub.rfl' rfl)⟩,⟨.im _,rfl,.im (Sub.rfl' rfl)⟩,⟨.im _,rfl,.im (Sub.rfl' rfl)⟩,⟨.im _,rfl,.im (Sub.rfl' rfl)⟩,⟨.im _,rfl,.im (Sub.rfl' rfl)⟩,trivial⟩ ⟨.inl ⟨66,rfl,rfl,trivial⟩,.inl ⟨67,rfl,rfl,trivial⟩,.inl ⟨68,rfl,rfl,trivial⟩,.inl ⟨69,rfl,rfl,trivial⟩,.inl ⟨70,rfl,rfl,trivial⟩,trivial⟩ ⟨⟨67,.own 69 _ 0,rfl,rfl,.own rfl rfl rfl⟩,⟨68,.im _,rfl,rfl,.im (Sub.rfl' rfl)⟩,⟨68,.im _,rfl,rfl,.im (Sub.rfl' rfl)⟩,⟨69,.im _,rfl,rfl,.im (Sub.rfl' rfl)⟩,⟨69,.im _,rfl,rfl,.im (Sub.rfl' rfl)⟩,⟨69,.osl 70 _,rfl,rfl,.osl rfl rfl rfl⟩,trivial⟩
          · rintro ⟨X1,X2,ls,p⟩ ⟨hls,hXk,hadd⟩
            dsimp only at hls hXk hadd ⊢
            conv=>whnf
            refine Side.mk rfl ?_
            conv=>whnf
            refine Side.mk rfl ?_
            conv=>whnf
            refine Side.mk rfl ?_
            conv=>whnf
            refine Side.mk rfl ?_
            conv=>whnf
            refine Side.mk rfl ?_
            conv=>whnf
            refine ⟨_,⟨(by omega),map_at hy,rfl⟩,?_⟩
            conv=>whnf
            refine Side.mk ⟨rfl,trivial⟩ ?_
            conv=>whnf
            refine ⟨_,sp_slices_Contains_Sint_int ls y (decide (y∈ls)) (fun _ _=>containsC (by have:=hls.1;omega)),?_⟩
            conv=>whnf
            refine Side.mk flat_one ?_
            conv=>whnf
            refine Both.mk (fun b53=>?_) (fun b53=>?_)
            · have hny:y∉ls:=fun hm=>by rw [decide_eq_true hm] at b53;cases b53
              conv=>whnf
              refine Side.mk rfl ?_
              conv=>whnf
              refine Side.mk rfl ?_
              conv=>whnf
              refine Side.mk rfl ?_
              conv=>whnf
              refine Side.mk rfl ?_
              conv=>whnf
              refine Side.mk rfl ?_
              conv=>whnf
              refine ⟨_,⟨(by omega),map_at hy,rfl⟩,?_⟩
              conv=>whnf
              refine Side.mk ⟨rfl,map_len (l:=[y]) (c:=cI) fun _=>rfl,show capOk _ 8 by simp only [List.length_map,List.length_cons,List.length_nil,Nat.zero_add];unfold capOk;have:=hls.1;omega⟩ ?_
              conv=>whnf
              refine Nf.mk (List.map cI (ls++[y])) (app_map (l:=ls) (m:=[y]) (c:=cI)) ?_
              conv=>whnf
              refine Side.mk rfl ?_
              conv=>whnf
              refine Side.mk rfl ?_
              conv=>whnf
              refine Side.mk rfl ?_
              conv=>whnf
              refine Side.mk rfl ?_
              conv=>whnf
              refine Side.mk rfl ?_
              conv=>whnf
              refine Side.mk rfl ?_
              conv=>whnf
              refine Side.mk ⟨rfl,trivial⟩ ?_
              conv=>whnf
              refine ⟨_,(pl_lib_Sort_int (ls++[y]) (insI y ls) (sortC3 hls hny)),?_⟩
              conv=>whnf
              refine Side.mk rfl ?_
              conv=>whnf
              refine Side.mk rfl ?_
              conv=>whnf
              refine Side.mk rfl ?_
              conv=>whnf
              refine Side.mk rfl ?_
              conv=>whnf
              refine Side.mk rfl ?_
              conv=>whnf
              refine Side.mk rfl ?_
              conv=>whnf
              refine Side.mk rfl ?_
              conv=>whnf
              refine Nf.mk (List.length (insI y ls)) len_map ?_
              conv=>whnf
              have hil:0<(insI y ls).length:=by cases hq:insI y ls with | nil=>exact absurd ((insI_mem y ls y).2 (.inl rfl)) (by rw [hq];simp) | cons _ _=>simp
              refine Side.mk ⟨rfl,(by omega),by simp only [List.length_map];omega,by simp only [List.length_map];omega⟩ ?_
              conv=>whnf
              refine Nf.mk (List.map cI (leastI ls y)) (by rw [leastI,if_neg hny,show List.take 2 (insI y ls)=List.take (Int.toNat (min 2 (↑(List.length (insI y ls)):Int))) (insI y ls) by rw [← take_min]];exact cut_own) ?_
              conv=>whnf
              refine Side.mk rfl ?_
              conv=>whnf
              refine Side.mk rfl ?_
              conv=>whnf
              refine Side.mk rfl ?_
              conv=>whnf
              refine Arith.mk (by show inR _;unfold inR;omega) ?_
              conv=>whnf
              refine NxtX.mk (X1++((w,bb,leastI ls y),p)::X2,j+1) (by show min t.In.length t.Out.length-(j+1)<min t.In.length t.Out.length-j;omega) ⟨hjlt,hXk.mid (leastI_ok hls y),by rw [hstep,hadd]⟩ ?_
              exact Ent.trans (σ':=stE l t i (j+1) w bb (leastI ls y) (X1++((w,bb,ls),p)::X2) (bgX X1++bgX X2) p) (Ent.mk [(66,some 66),(67,some 67),(68,some 68),(69,some 69),(70,some 70)] rfl ⟨⟨.osl 66 _,rfl,.osl rfl rfl rfl⟩,⟨.own 68 _ 0,rfl,.own rfl rfl rfl⟩,⟨.im _,rfl,.im (Sub.rfl' rfl)⟩,⟨.im _,rfl,.im (Sub.rfl' rfl)⟩,⟨.im _,rfl,.im (Sub.rfl' rfl)⟩,⟨.im _,rfl,.im (Sub.rfl' rfl)⟩,⟨.im _,rfl,.im (Sub.rfl' rfl)⟩,trivial⟩ ⟨.inl ⟨66,rfl,rfl,trivial⟩,.inl ⟨67,rfl,rfl,trivial⟩,.inl ⟨68,rfl,rfl,trivial⟩,.inl ⟨69,rfl,rfl,trivial⟩,.inl ⟨70,rfl,rfl,trivial⟩,trivial⟩ ⟨⟨67,.own 69 _ 0,rfl,rfl,.own rfl rfl rfl⟩,⟨68,.im _,rfl,rfl,.im (Sub.rfl' rfl)⟩,⟨68,.im _,rfl,rfl,.im (Sub.rfl' rfl)⟩,⟨69,.im _,rfl,rfl,.im (Sub.rfl' rfl)⟩,⟨69,.im _,rfl,rfl,.im (Sub.rfl' rfl)⟩,⟨69,.osl 70 _,rfl,rfl,.osl rfl rfl rfl⟩,trivial⟩) (ent_back l t i (j+1) w bb ls (leastI ls y) X1 X2 p)
            · have hny:y∈ls:=by
                by_cases hm:y∈ls
                · exact hm
                · rw [decide_eq_false hm] at b53;cases b53
              have hle:leastI ls y=ls:=by rw [leastI,if_pos hny]
              conv=>whnf
              refine Arith.mk (by show inR _;unfold inR;omega) ?_
              conv=>whnf
              refine NxtX.mk (X1++((w,bb,ls),p)::X2,j+1) (by show min t.In.length t.Out.length-(j+1)<min t.In.length t.Out.length-j;omega) ⟨hjlt,hXk,by rw [hstep,hadd,hle]⟩ ?_
              exact Ent.trans (σ':=stE l t i (j+1) w bb (ls) (X1++((w,bb,ls),p)::X2) (bgX X1++bgX X2) p) (Ent.mk [(66,some 66),(67,some 67),(68,some 68),(69,some 69),(70,some 70)] rfl ⟨⟨.osl 66 _,rfl,.osl rfl rfl rfl⟩,⟨.own 68 _ 0,rfl,.own rfl rfl rfl⟩,⟨.im _,rfl,.im (Sub.rfl' rfl)⟩,⟨.im _,rfl,.im (Sub.rfl' rfl)⟩,⟨.im _,rfl,.im (Sub.rfl' rfl)⟩,⟨.im _,rfl,.im (Sub.rfl' rfl)⟩,⟨.im _,rfl,.im (Sub.rfl' rfl)⟩,trivial⟩ ⟨.inl ⟨66,rfl,rfl,trivial⟩,.inl ⟨67,rfl,rfl,trivial⟩,.inl ⟨68,rfl,rfl,trivial⟩,.inl ⟨69,rfl,rfl,trivial⟩,.inl ⟨70,rfl,rfl,trivial⟩,trivial⟩ ⟨⟨67,.own 69 _ 0,rfl,rfl,.own rfl rfl rfl⟩,⟨68,.im _,rfl,rfl,.im (Sub.rfl' rfl)⟩,⟨68,.im _,rfl,rfl,.im (Sub.rfl' rfl)⟩,⟨69,.im _,rfl,rfl,.im (Sub.rfl' rfl)⟩,⟨69,.im _,rfl,rfl,.im (Sub.rfl' rfl)⟩,⟨69,.osl 70 _,rfl,rfl,.osl rfl rfl rfl⟩,trivial⟩) (ent_back l t i (j+1) w bb ls (ls) X1 X2 p)
        · have hje:j=min t.In.length t.Out.length:=by have:=of_decide_eq_false b2;omega
          subst hje
          conv=>whnf
          refine JoinX.mk X' ⟨hX',hG'.trans (grps_succ l i t ht).symm⟩ ?_
          exact Ent.mk [(66,some 66),(67,some 67)] rfl ⟨⟨.osl 66 _,rfl,.osl rfl rfl rfl⟩,⟨.im _,rfl,.im (Sub.rfl' rfl)⟩,⟨.im _,rfl,.im (Sub.rfl' rfl)⟩,⟨.im _,rfl,.im (Sub.rfl' rfl)⟩,trivial⟩ ⟨.inl ⟨66,rfl,rfl,trivial⟩,.inl ⟨67,rfl,rfl,trivial⟩,trivial⟩ trivial
      · conv=>whnf
        refine Arith.mk (by show inR _;unfold inR;omega) ?_
        conv=>whnf
        refine NxtX.mk (X,i+1) (by show l.length-(i+1)<l.length-i;omega) ⟨hlt,hX'.1,hX'.2⟩ ?_
        exact Ent.mk [(66,some 66),(67,some 67)] rfl ⟨⟨.osl 66 _,rfl,.osl rfl rfl rfl⟩,⟨.im _,rfl,.im (Sub.rfl' rfl)⟩,⟨.im _,rfl,.im (Sub.rfl' rfl)⟩,⟨.im _,rfl,.im (Sub.rfl' rfl)⟩,trivial⟩ ⟨.inl ⟨66,rfl,rfl,trivial⟩,.inl ⟨67,rfl,rfl,trivial⟩,trivial⟩ trivial
    · have hie:i=l.length:=by have:=of_decide_eq_false b1;omega
      subst hie
      conv=>whnf
      refine JoinX.mk X ⟨hX,by rw [hG,List.take_length]⟩ ?_
      exact Ent.mk [(66,some 66),(67,some 67)] rfl ⟨⟨.osl 66 _,rfl,.osl rfl rfl rfl⟩,trivial⟩ ⟨.inl ⟨66,rfl,rfl,trivial⟩,.inl ⟨67,rfl,rfl,trivial⟩,trivial⟩ trivial
  · conv=>whnf
    refine Rh.ops _ _ 1 _ _ ?_
    conv=>whnf
    refine ⟨66,1,67,1,TG,3,bgX X,mapV wS pv (mpX X),rfl,rfl,rfl,rfl,rfl,mpX_ptr X,?_⟩
    conv=>whnf
    have hgl:(grpsN l).length≤1000000:=by
      have:=grps_len l [] fun t ht=>(hb t ht).1
      simp only [List.length_nil] at this
      unfold grpsN
      omega
    refine Cut.mkX (fun F:List Grp=>mkSt [(9,.osl 70 1)] [(70,.row 69 1 (List.map cG F))] []) (fun F=>F.Perm ((grpsN l).filter fun g=>decide (g.2.2.length=2))) ?_ fun F hF=>?_
    · conv=>whnf
      refine Loops.mkX (fun x:List Grp×List Grp×Option IV=>mkSt [(9,.osl 70 1),(111,.sub 66 0 0)] [(66,.mapI (List.map vG x.2.1) x.2.2),(70,.row 69 1 (List.map cG x.1))] []) (fun x=>(x.1++x.2.1.filter fun g=>decide (g.2.2.length=2)).Perm ((grpsN l).filter fun g=>decide (g.2.2.length=2))) (fun x=>x.2.1.length) ([],X.map (·.1),none) (by rw [hX.2];exact .refl _) (Ent.mk [(66,some 66),(70,none)] rfl ⟨⟨.im (.val (.slice none 0 0)),rfl,.made rfl rfl⟩,⟨.sub 66 _ 0,rfl,.sub rfl rfl⟩,trivial⟩ ⟨.inl ⟨66,rfl,(by rw [← bgX_ref];rfl),trivial⟩,.inr ⟨rfl,rfl,.inl ⟨_,_,rfl,by decide⟩⟩,trivial⟩ trivial) ?_
      rintro ⟨F,left,c⟩ hF
      dsimp only at hF ⊢
      conv=>whnf
      refine Rh.ops _ _ 0 _ _ ?_
      conv=>whnf
      refine ⟨66,0,List.map vG left,c,rfl,rfl,rfl,fun hl0=>?_,fun k y hy=>?_⟩
      · conv=>whnf
        refine Both.no rfl ?_
        conv=>whnf
        rw [List.map_eq_nil_iff] at hl0
        subst hl0
        refine JoinX.mk F (by simpa using hF) ?_
        exact Ent.mk [(70,some 70)] rfl ⟨⟨.osl 70 _,rfl,.osl rfl rfl rfl⟩,trivial⟩ ⟨.inl ⟨70,rfl,rfl,trivial⟩,trivial⟩ trivial
      · obtain ⟨g,hg,rfl⟩:∃ g,left[k]?=some g∧vG g=y:=by
          rw [List.getElem?_map] at hy
          cases hq:left[k]? with
          | none=>rw [hq] at hy;cases hy
          | some g=>rw [hq] at hy;exact ⟨g,rfl,Option.some.inj hy⟩
        have hpe:=erase_perm hg
        have hlk:k<left.length:=(List.getElem?_eq_some_iff.1 hg).1
        have hml:(left.eraseIdx k).length<left.length:=by rw [List.length_eraseIdx,if_pos hlk];omega
        conv=>whnf
        refine Both.yes rfl ?_
        conv=>whnf
        refine Rh.ops _ _ 0 _ _ ?_
        conv=>whnf
        refine ⟨66,0,_,vG g,rfl,rfl,rfl,?_⟩
        conv=>whnf
        refine Nf.mk (List.length g.2.2) len_map ?_
        conv=>whnf
        refine Both.mk (fun b3=>?_) (fun b3=>?_)
        · have hq:decide (g.2.2.length=2)=true:=by have:=of_decide_eq_true b3;exact decide_eq_true (by omega)
          have hF':(F++[g]++(left.eraseIdx k).filter fun g=>decide (g.2.2.length=2)).Perm ((grpsN l).filter fun g=>decide (g.2.2.length=2)):=by
            refine List.Perm.trans ?_ hF
            rw [List.append_assoc]
            refine List.Perm.append_left F ?_
            refine List.Perm.trans ?_ (hpe.filter _).symm
            rw [List.filter_cons,if_pos hq]
            exact .refl _
          have hcap:F.length+1≤1000000:=by
            have h1:=hF'.length_eq
            have h2:=List.length_filter_le (fun g:Grp=>decide (g.2.2.length=2)) (grpsN l)
            simp only [List.length_append,List.length_cons,List.length_nil] at h1
            omega
          conv=>whnf
          refine Side.mk ⟨rfl,map_len (l:=[g]) (c:=cG) fun _=>rfl,show capOk _ 8 by simp only [List.length_map,List.length_cons,List.length_nil,Nat.zero_add];unfold capOk;omega⟩ ?_
          conv=>whnf
          refine Nf.mk (List.map cG (F++[g])) (app_map (l:=F) (m:=[g]) (c:=cG)) ?_
          conv=>whnf
          refine NxtX.mk (F++[g],left.eraseIdx k,some (vG g)) hml hF' ?_
          exact Ent.mk [(66,some 66),(70,some 70)] rfl ⟨⟨.osl 70 _,rfl,.osl rfl rfl rfl⟩,⟨.sub 66 _ 0,rfl,.sub rfl rfl⟩,trivial⟩ ⟨.inl ⟨66,rfl,go_eq (map_erase vG left k),trivial⟩,.inl ⟨70,rfl,rfl,trivial⟩,trivial⟩ trivial
        · have hq:decide (g.2.2.length=2)=false:=by have:=of_decide_eq_false b3;exact decide_eq_false (by omega)
          conv=>whnf
          refine NxtX.mk (F,left.eraseIdx k,some (vG g)) hml (List.Perm.trans (List.Perm.append_left F ?_) hF) ?_
          · refine List.Perm.trans ?_ (hpe.filter _).symm
            rw [List.filter_cons,if_neg (by rw [hq];decide)]
          · exact Ent.mk [(66,some 66),(70,some 70)] rfl ⟨⟨.osl 70 _,rfl,.osl rfl rfl rfl⟩,⟨.sub 66 _ 0,rfl,.sub rfl rfl⟩,trivial⟩ ⟨.inl ⟨66,rfl,go_eq (map_erase vG left k),trivial⟩,.inl ⟨70,rfl,rfl,trivial⟩,trivial⟩ trivial
    · replace h:nondet_rest F=some r:=by
        rw [← h]
        unfold nondet_rest lib_SortFunc_groups
        rw [libSort_perm hF]
      unfold nondet_rest at h
      conv=>whnf
      refine Side.mk ⟨rfl,trivial⟩ ?_
      conv=>whnf
      obtain ⟨c51,hc51,h⟩:=bind_some h
      refine ⟨_,(pl_lib_SortFunc_groups F (fun u0 u1=>nondet_cmp u0 u1) 42 cmpE_nondet_cmp c51 (hc51)),?_⟩
      conv=>whnf
      refine Side.mk ⟨rfl,trivial⟩ ?_
      conv=>whnf
      obtain ⟨c52,hc52,h⟩:=bind_some h
      refine ⟨_,(sp_slices_CompactFunc_S_nondet_group_nondet_group c51 (fun u0 u1=>nondet_eq u0 u1) 45 (fun u0 u1 r h=>(pl_nondet_eq u0 u1 r h)) c52 (fun _ _=>hc52)),?_⟩
      conv=>whnf
      refine Side.mk rfl ?_
      conv=>whnf
      refine Nf.mk (List.length c52) len_map ?_
      conv=>whnf
      obtain ⟨y76,hc,hk53⟩:=bind_some h
      clear h
      have h:=hc
      clear hc
      refine Cut.mk (mkSt [(12,.osl 159 1)] [(159,.row 58 3 (List.map c_api_Clash y76))] []) (List.length y76≤17592186044416∧True) ((Holds.kdl 159 rfl).and (Holds.true_ _)) ?_ (fun hp=>?_)
      · conv=>whnf
        refine Loops.iter (fun (s:List T_api_Clash×Nat)=>nondet_rest.s2 c52 s.1 s.2) (fun (y82,y83)=>mkSt [(12,.osl 159 1),(130,.osl 160 1),(131,.im (nI (↑(List.length c52):Int))),(132,.im (nI (↑y83:Int)))] [(159,.row 58 3 (List.map c_api_Clash y82)),(160,.row 69 1 (List.map cG c52))] []) (fun (y82,y83)=>List.length y82≤17592186044416∧List.length c52≤17592186044416∧True) h (Ent.mk [(159,none),(160,some 129)] rfl ⟨⟨.im (.val (.slice none 0 0)),rfl,.made rfl rfl⟩,⟨.osl 129 _,rfl,.osl rfl rfl rfl⟩,⟨.im _,rfl,.im (Sub.rfl' rfl)⟩,⟨.im _,rfl,.im (Sub.rfl' rfl)⟩,trivial⟩ ⟨.inr ⟨rfl,rfl,.inl ⟨_,_,rfl,by decide⟩⟩,.inl ⟨129,rfl,rfl,trivial⟩,trivial⟩ trivial) (by rintro ⟨y82,y83⟩;exact ((Holds.kdl 159 rfl).and ((Holds.kdl 160 rfl).and (Holds.true_ _)))) ?_
        clear h
        rintro k ⟨y82,y83⟩ o hp h ho90
        replace h:nondet_rest.s2 c52 y82 y83=some o:=h
        unfold nondet_rest.s2 at h
        obtain ⟨z97,z98,_⟩:=hp
        conv=>whnf
        refine Both.mk (fun b91=>?_) (fun b91=>?_)
        · replace h:=cond_t b91 h
          have b91d:=of_decide_eq_true b91
          conv=>whnf
          obtain ⟨e92,he92,h⟩:=idxn_some h
          refine Side.mk ⟨(by omega),rfl,map_lt he92⟩ ?_
          conv=>whnf
          refine ⟨_,_,⟨rfl,map_at he92,rfl,rfl⟩,?_⟩
          conv=>whnf
          obtain ⟨c93,hc93,h⟩:=bind_some h
          refine ⟨_,(sp_lib_Clone_int e92.1 c93 (hc93)).im,?_⟩
          conv=>whnf
          obtain ⟨e94,he94,h⟩:=idxn_some h
          refine ⟨_,⟨(by omega),map_at he94,rfl⟩,?_⟩
          conv=>whnf
          obtain ⟨e95,he95,h⟩:=idxn_some h
          refine ⟨_,⟨(by omega),map_at he95,rfl⟩,?_⟩
          conv=>whnf
          obtain ⟨c96,h⟩:=chk_some h
          refine Side.mk ⟨rfl,map_len (l:=[(⟨c93,e94,e95⟩:T_api_Clash)]) (c:=c_api_Clash) fun _=>rfl,show capOk _ 40 by simpa only [List.length_map,List.length_cons,List.length_nil,Nat.zero_add] using c96⟩ ?_
          conv=>whnf
          refine Nf.mk (List.map c_api_Clash (y82++[(⟨c93,e94,e95⟩:T_api_Clash)])) (app_map (l:=y82) (m:=[(⟨c93,e94,e95⟩:T_api_Clash)]) (c:=c_api_Clash)) ?_
          conv=>whnf
          refine Arith.mk (by show inR _;unfold inR;omega) ?_
          conv=>whnf
          obtain rfl:=Option.some.inj h
          exact Nxt.mk _ ho90 (Ent.mk [(159,some 159),(160,some 160)] rfl ⟨⟨.osl 159 _,rfl,.osl rfl rfl rfl⟩,⟨.osl 160 _,rfl,.osl rfl rfl rfl⟩,⟨.im _,rfl,.im (Sub.rfl' rfl)⟩,⟨.im _,rfl,.im (Sub.rfl' rfl)⟩,trivial⟩ ⟨.inl ⟨159,rfl,rfl,trivial⟩,.inl ⟨160,rfl,rfl,trivial⟩,trivial⟩ trivial)
        · replace h:=cond_f b91 h
          have b91d:=of_decide_eq_false b91
          conv=>whnf
          obtain rfl:=Option.some.inj h
          have ho90:_=_:=ho90
          cases ho90
          exact Join.mk (Ent.mk [(159,some 159)] rfl ⟨⟨.osl 159 _,rfl,.osl rfl rfl rfl⟩,trivial⟩ ⟨.inl ⟨159,rfl,rfl,trivial⟩,trivial⟩ trivial)
      · replace h:=hk53
        obtain ⟨z99,_⟩:=hp
        conv=>whnf
        obtain rfl:=Option.some.inj h
        conv=>whnf
        exact Side.mk ⟨rfl,trivial⟩ ⟨rfl,rfl⟩
theorem sp_observe_New (inputs_:Int) (r:T_api_Obs×Int) (h:Ok (nI inputs_)→observe_New inputs_=some r):Sp Tryz.prog 25 [.im (nI inputs_)] (.tup [.agg (c_api_Obs r.1),nI r.2]):=by
 refine sp_of rfl [] rfl rfl rfl (Nat.le_of_ble_eq_true rfl) rfl fun hk=>?_
 replace h:=h hk.1
 unfold observe_New at h
 conv=>whnf
 obtain ⟨y54,hc,hk52⟩:=bind_some h
 clear h
 have h:=hc
 clear hc
 refine Cut.mk (mkSt [(0,.im (nI inputs_)),(2,.own 64 1 0),(9,.im (nB y54))] [(64,.box 42 2)] [(64,0,.im (nI 0)),(64,1,.im (.val (.slice none 0 0)))]) (True) (hT) ?_ (fun hp=>?_)
 conv=>whnf
 refine Both.mk ?_ ?_<;>intro b55
 replace b55:=beq_ff b55
 obtain ⟨h,b55d⟩:=cfd b55 h
 conv=>whnf
 refine Both.yes (ff_beq b55) ?_
 conv=>whnf
 refine Both.no b55 ?_
 conv=>whnf
 cases h
 exact Join.mk (eA [(64,some 2)])
 replace b55:=beq_ft b55
 obtain ⟨h,b55d⟩:=ctd b55 h
 conv=>whnf
 refine Both.no (tf_beq b55) ?_
 conv=>whnf
 refine Both.yes b55 ?_
 conv=>whnf
 cases h
 exact Join.mk (eA [(64,some 2)])
 replace h:=hk52
 conv=>whnf
 refine Both.mk ?_ ?_<;>intro b56
 replace h:=cond_t b56 h
 conv=>whnf
 refine Side.mk rfl ?_
 conv=>whnf
 cases h
 conv=>whnf
 refine Side.mk ⟨rfl,trivial⟩ ?_
 conv=>whnf
 exact ⟨rfl,rfl⟩
 replace h:=cond_f b56 h
 conv=>whnf
 refine Side.mk rfl ?_
 conv=>whnf
 cases h
 conv=>whnf
 refine Side.mk ⟨rfl,trivial⟩ ?_
 conv=>whnf
 exact ⟨rfl,rfl⟩
theorem sp_slices_IndexFunc_Sint_int (s_:List Int) (f_:Int→Option Bool) (f1_:FuncId) (hf1:∀ x0 r,f_ x0=some r→Sp Tryz.prog f1_ [.im (nI x0)] (.im (nB r))) (r:Int) (h:Ok (nL cI s_)→Ok (.fn f1_ [])→slices_IndexFunc_Sint_int s_ f_=some r):Sp Tryz.prog 113 [.im (nL cI s_),.im (.fn f1_ [])] (.im (nI r)):=by
 refine sp_of rfl [] rfl rfl rfl (Nat.le_of_ble_eq_true rfl) rfl fun hk=>?_
 replace h:=h hk.1 hk.2.1
 have z1:lZ s_:=ok_len hk.1
 unfold slices_IndexFunc_Sint_int at h
 conv=>whnf
 refine Nf.mk (List.length s_) len_map ?_
 conv=>whnf
 obtain ⟨oc,hc,hk51⟩:=bind_some h
 clear h
 have h:=hc
 clear hc
 refine Cut.mkS oc (Y:=Unit) (fun (_:Unit)=>mkSt [] [] []) (fun (_:Unit)=>True) (by rintro ⟨⟩;exact (hT)) ?_ ?_
 conv=>whnf
 refine Loops.iter (fun (s:Nat)=>slices_IndexFunc_Sint_int.s2 s_ f_ s) (fun y71=>mkSt [(0,.im (nL cI s_)),(1,.im (.fn f1_ [])),(7,.im (nI (↑(List.length s_):Int))),(8,.im (nI (↑y71:Int)))] [] []) (fun y71=>lZ s_∧True) h (eA []) (by rintro y71;exact ((Holds.avl 0 rfl).and (hT))) ?_
 clear h
 rintro k y71 o hp h ho76
 replace h:slices_IndexFunc_Sint_int.s2 s_ f_ y71=some o:=h
 unfold slices_IndexFunc_Sint_int.s2 at h
 obtain ⟨z81,_⟩:=hp
 conv=>whnf
 refine Both.mk ?_ ?_<;>intro b77
 obtain ⟨h,b77d⟩:=ctd b77 h
 conv=>whnf
 obtain ⟨e78,he78,h⟩:=idxn_some h
 refine ⟨_,⟨(by omega),map_at he78,rfl⟩,?_⟩
 conv=>whnf
 obtain ⟨c79,hc79,h⟩:=bind_some h
 refine ⟨_,hf1 e78 c79 hc79,?_⟩
 conv=>whnf
 refine Both.mk ?_ ?_<;>intro b80
 replace h:=cond_t b80 h
 conv=>whnf
 cases h
 have ho76:_=_:=ho76
 cases ho76
 replace h:some _=some _:=hk51
 cases h
 conv=>whnf
 exact ⟨rfl,rfl⟩
 replace h:=cond_f b80 h
 conv=>whnf
 refine Arith.mk (by show inR _;unfold inR;omega) ?_
 conv=>whnf
 cases h
 exact Nxt.mk _ ho76 (eA [])
 obtain ⟨h,b77d⟩:=cfd b77 h
 conv=>whnf
 cases h
 have ho76:_=_:=ho76
 cases ho76
 exact JoinS.mk' _ rfl (eA [])
 rintro ⟨⟩ rfl hp
 replace h:=sum_inl hk51
 conv=>whnf
 cases h
 conv=>whnf
 exact ⟨rfl,rfl⟩
theorem sp_slices_ContainsFunc_Sint_int (s_:List Int) (f_:Int→Option Bool) (f1_:FuncId) (hf1:∀ x0 r,f_ x0=some r→Sp Tryz.prog f1_ [.im (nI x0)] (.im (nB r))) (r:Bool) (h:Ok (nL cI s_)→Ok (.fn f1_ [])→slices_ContainsFunc_Sint_int s_ f_=some r):Sp Tryz.prog 72 [.im (nL cI s_),.im (.fn f1_ [])] (.im (nB r)):=by
 refine sp_of rfl [] rfl rfl rfl (Nat.le_of_ble_eq_true rfl) rfl fun hk=>?_
 replace h:=h hk.1 hk.2.1
 have z1:lZ s_:=ok_len hk.1
 unfold slices_ContainsFunc_Sint_int at h
 conv=>whnf
 obtain ⟨c51,hc51,h⟩:=bind_some h
 refine ⟨_,(sp_slices_IndexFunc_Sint_int s_ f_ f1_ hf1 c51 (fun _ _=>hc51)),?_⟩
 conv=>whnf
 cases h
 conv=>whnf
 exact ⟨rfl,rfl⟩
theorem sp_word_permitted (inputs_:Int) (r:Bool) (h:Ok (nI inputs_)→word_permitted inputs_=some r):Sp Tryz.prog 111 [.im (nI inputs_)] (.im (nB r)):=by
 refine sp_of rfl [] rfl rfl rfl (Nat.le_of_ble_eq_true rfl) rfl fun hk=>?_
 replace h:=h hk.1
 unfold word_permitted at h
 conv=>whnf
 obtain ⟨y54,hc,hk52⟩:=bind_some h
 clear h
 have h:=hc
 clear hc
 refine Cut.mk (mkSt [(2,.im (nB y54))] [] []) (True) (hT) ?_ (fun hp=>?_)
 conv=>whnf
 refine Both.mk ?_ ?_<;>intro b55
 replace b55:=beq_tt b55
 obtain ⟨h,b55d⟩:=ctd b55 h
 conv=>whnf
 refine Both.yes (tt_beq b55) ?_
 conv=>whnf
 refine Both.yes b55 ?_
 conv=>whnf
 cases h
 exact Join.mk (eA [])
 replace b55:=beq_tf b55
 obtain ⟨h,b55d⟩:=cfd b55 h
 conv=>whnf
 refine Both.no (ft_beq b55) ?_
 conv=>whnf
 refine Both.no b55 ?_
 conv=>whnf
 cases h
 exact Join.mk (eA [])
 replace h:=hk52
 conv=>whnf
 cases h
 conv=>whnf
 exact ⟨rfl,rfl⟩
theorem sp_word_Check_1 (a_:Int) (p1_:Int) (r:Bool) (h:Ok (nI a_)→Ok (.ref (cI p1_))→word_Check_1 a_ p1_=some r):Sp Tryz.prog 112 [.im (nI a_),.im (.ref (cI p1_))] (.im (nB r)):=by
 refine sp_of rfl [] rfl rfl rfl (Nat.le_of_ble_eq_true rfl) rfl fun hk=>?_
 replace h:=h hk.1 hk.2.1
 unfold word_Check_1 at h
 conv=>whnf
 obtain ⟨y54,hc,hk52⟩:=bind_some h
 clear h
 have h:=hc
 clear hc
 refine Cut.mk (mkSt [(3,.im (nB y54))] [] []) (True) (hT) ?_ (fun hp=>?_)
 conv=>whnf
 refine Both.mk ?_ ?_<;>intro b55
 replace b55:=beq_ff b55
 obtain ⟨h,b55d⟩:=cfd b55 h
 conv=>whnf
 iterate 2 (refine Both.yes (ff_beq b55) ?_;(conv=>whnf))
 refine Both.no b55 ?_
 conv=>whnf
 cases h
 exact Join.mk (eA [])
 replace b55:=beq_ft b55
 obtain ⟨h,b55d⟩:=ctd b55 h
 conv=>whnf
 iterate 2 (refine Both.no (tf_beq b55) ?_;(conv=>whnf))
 refine Both.yes b55 ?_
 conv=>whnf
 cases h
 exact Join.mk (eA [])
 replace h:=hk52
 conv=>whnf
 cases h
 conv=>whnf
 exact ⟨rfl,rfl⟩
theorem sp_slices_IndexFunc_Sint_int_n1 (s_:List Int) (f_:Int→Option Bool) (f1_:FuncId) (k1_0:IV) (hk1_0:nz k1_0=k1_0) (hf1:∀ x0 r,f_ x0=some r→Sp Tryz.prog f1_ [.im (nI x0),.im k1_0] (.im (nB r))) (r:Int) (h:Ok (nL cI s_)→Ok (.fn f1_ [k1_0])→slices_IndexFunc_Sint_int_n1 s_ f_=some r):Sp Tryz.prog 113 [.im (nL cI s_),.im (.fn f1_ [k1_0])] (.im (nI r)):=by
 refine sp_of rfl [] rfl rfl rfl (Nat.le_of_ble_eq_true rfl) rfl fun hk=>?_
 replace h:=h hk.1 hk.2.1
 have z1:lZ s_:=ok_len hk.1
 unfold slices_IndexFunc_Sint_int_n1 at h
 conv=>whnf
 refine Nf.mk (List.length s_) len_map ?_
 conv=>whnf
 obtain ⟨oc,hc,hk51⟩:=bind_some h
 clear h
 have h:=hc
 clear hc
 refine Cut.mkS oc (Y:=Unit) (fun (_:Unit)=>mkSt [] [] []) (fun (_:Unit)=>True) (by rintro ⟨⟩;exact (hT)) ?_ ?_
 conv=>whnf
 refine Loops.iter (fun (s:Nat)=>slices_IndexFunc_Sint_int_n1.s2 s_ f_ s) (fun y71=>mkSt [(0,.im (nL cI s_)),(1,.im (.fn f1_ [k1_0])),(7,.im (nI (↑(List.length s_):Int))),(8,.im (nI (↑y71:Int)))] [] []) (fun y71=>lZ s_∧True) h (eA []) (by rintro y71;exact ((Holds.avl 0 rfl).and (hT))) ?_
 clear h
 rintro k y71 o hp h ho76
 replace h:slices_IndexFunc_Sint_int_n1.s2 s_ f_ y71=some o:=h
 unfold slices_IndexFunc_Sint_int_n1.s2 at h
 obtain ⟨z81,_⟩:=hp
 conv=>whnf
 refine Both.mk ?_ ?_<;>intro b77
 obtain ⟨h,b77d⟩:=ctd b77 h
 conv=>whnf
 obtain ⟨e78,he78,h⟩:=idxn_some h
 refine ⟨_,⟨(by omega),map_at he78,rfl⟩,?_⟩
 conv=>whnf
 obtain ⟨c79,hc79,h⟩:=bind_some h
 refine ⟨_,Sp.args (hf1 e78 c79 hc79) (by rw [hk1_0];try rfl),?_⟩
 conv=>whnf
 refine Both.mk ?_ ?_<;>intro b80
 replace h:=cond_t b80 h
 conv=>whnf
 cases h
 have ho76:_=_:=ho76
 cases ho76
 replace h:some _=some _:=hk51
 cases h
 conv=>whnf
 exact ⟨rfl,rfl⟩
 replace h:=cond_f b80 h
 conv=>whnf
 refine Arith.mk (by show inR _;unfold inR;omega) ?_
 conv=>whnf
 cases h
 exact Nxt.mk _ ho76 (eA [])
 obtain ⟨h,b77d⟩:=cfd b77 h
 conv=>whnf
 cases h
 have ho76:_=_:=ho76
 cases ho76
 exact JoinS.mk' _ rfl (eA [])
 rintro ⟨⟩ rfl hp
 replace h:=sum_inl hk51
 conv=>whnf
 cases h
 conv=>whnf
 exact ⟨rfl,rfl⟩
theorem sp_slices_ContainsFunc_Sint_int_n1 (s_:List Int) (f_:Int→Option Bool) (f1_:FuncId) (k1_0:IV) (hk1_0:nz k1_0=k1_0) (hf1:∀ x0 r,f_ x0=some r→Sp Tryz.prog f1_ [.im (nI x0),.im k1_0] (.im (nB r))) (r:Bool) (h:Ok (nL cI s_)→Ok (.fn f1_ [k1_0])→slices_ContainsFunc_Sint_int_n1 s_ f_=some r):Sp Tryz.prog 72 [.im (nL cI s_),.im (.fn f1_ [k1_0])] (.im (nB r)):=by
 refine sp_of rfl [] rfl rfl rfl (Nat.le_of_ble_eq_true rfl) rfl fun hk=>?_
 replace h:=h hk.1 hk.2.1
 have z1:lZ s_:=ok_len hk.1
 unfold slices_ContainsFunc_Sint_int_n1 at h
 conv=>whnf
 obtain ⟨c51,hc51,h⟩:=bind_some h
 refine ⟨_,(sp_slices_IndexFunc_Sint_int_n1 s_ f_ f1_ k1_0 hk1_0 hf1 c51 (fun _ _=>hc51)),?_⟩
 conv=>whnf
 cases h
 conv=>whnf
 exact ⟨rfl,rfl⟩
theorem sp_word_Check (w_:List Int) (inputs_:Int) (r:Int) (h:Ok (nL cI w_)→Ok (nI inputs_)→word_Check w_ inputs_=some r):Sp Tryz.prog 71 [.im (nL cI w_),.im (nI inputs_)] (.im (nI r)):=by
 refine sp_of rfl [700003] rfl rfl rfl (Nat.le_of_ble_eq_true rfl) rfl fun hk=>?_
 replace h:=h hk.1 hk.2.1
 have z1:lZ w_:=ok_len hk.1
 unfold word_Check at h
 conv=>whnf
 obtain ⟨c51,hc51,h⟩:=bind_some h
 refine ⟨_,(sp_word_permitted inputs_ c51 (fun _=>hc51)),?_⟩
 conv=>whnf
 refine Both.mk ?_ ?_<;>intro b52
 replace h:=cond_t b52 h
 conv=>whnf
 cases h
 conv=>whnf
 exact ⟨rfl,rfl⟩
 replace h:=cond_f b52 h
 conv=>whnf
 refine Nf.mk (List.length w_) len_map ?_
 conv=>whnf
 refine Both.mk ?_ ?_<;>intro b53
 obtain ⟨h,b53d⟩:=ctd b53 h
 conv=>whnf
 cases h
 conv=>whnf
 exact ⟨rfl,rfl⟩
 obtain ⟨h,b53d⟩:=cfd b53 h
 conv=>whnf
 obtain ⟨c54,hc54,h⟩:=bind_some h
 refine ⟨_,(sp_slices_ContainsFunc_Sint_int_n1 w_ (fun u0=>word_Check_1 u0 inputs_) 112 (.ref (cI inputs_)) rfl (fun u0 r h=>(sp_word_Check_1 u0 inputs_ r (fun _ _=>h))) c54 (fun _ _=>hc54)),?_⟩
 conv=>whnf
 refine Both.mk ?_ ?_<;>intro b55
 replace h:=cond_t b55 h
 conv=>whnf
 cases h
 conv=>whnf
 exact ⟨rfl,rfl⟩
 replace h:=cond_f b55 h
 conv=>whnf
 cases h
 conv=>whnf
 exact ⟨rfl,rfl⟩
theorem sp_nondet_proper_1 (o_:Int) (r:Bool) (h:Ok (nI o_)→nondet_proper_1 o_=some r):Sp Tryz.prog 73 [.im (nI o_)] (.im (nB r)):=by
 refine sp_of rfl [] rfl rfl rfl (Nat.le_of_ble_eq_true rfl) rfl fun hk=>?_
 replace h:=h hk.1
 unfold nondet_proper_1 at h
 conv=>whnf
 obtain ⟨y54,hc,hk52⟩:=bind_some h
 clear h
 have h:=hc
 clear hc
 refine Cut.mk (mkSt [(2,.im (nB y54))] [] []) (True) (hT) ?_ (fun hp=>?_)
 conv=>whnf
 refine Both.mk ?_ ?_<;>intro b55
 replace b55:=beq_ff b55
 obtain ⟨h,b55d⟩:=cfd b55 h
 conv=>whnf
 refine Both.yes (ff_beq b55) ?_
 conv=>whnf
 refine Both.no b55 ?_
 conv=>whnf
 cases h
 exact Join.mk (eA [])
 replace b55:=beq_ft b55
 obtain ⟨h,b55d⟩:=ctd b55 h
 conv=>whnf
 refine Both.no (tf_beq b55) ?_
 conv=>whnf
 refine Both.yes b55 ?_
 conv=>whnf
 cases h
 exact Join.mk (eA [])
 replace h:=hk52
 conv=>whnf
 cases h
 conv=>whnf
 exact ⟨rfl,rfl⟩
theorem sp_nondet_proper (t_:T_api_Trace) (inputs_:Int) (r:Int) (h:Ok (.agg (c_api_Trace t_))→Ok (nI inputs_)→nondet_proper t_ inputs_=some r):Sp Tryz.prog 49 [.im (.agg (c_api_Trace t_)),.im (nI inputs_)] (.im (nI r)):=by
 refine sp_of rfl [700002] rfl rfl rfl (Nat.le_of_ble_eq_true rfl) rfl fun hk=>?_
 replace h:=h hk.1 hk.2.1
 have z1:lZ t_.In:=ok_len (Ok.agg_at hk.1 0 rfl)
 have z2:lZ t_.Out:=ok_len (Ok.agg_at hk.1 1 rfl)
 unfold nondet_proper at h
 conv=>whnf
 obtain ⟨c51,hc51,h⟩:=bind_some h
 refine ⟨_,(sp_word_Check t_.In inputs_ c51 (fun _ _=>hc51)),?_⟩
 conv=>whnf
 refine Both.mk ?_ ?_<;>intro b52
 obtain ⟨h,b52d⟩:=ctd b52 h
 conv=>whnf
 cases h
 conv=>whnf
 exact ⟨rfl,rfl⟩
 obtain ⟨h,b52d⟩:=cfd b52 h
 conv=>whnf
 refine Nf.mk (List.length t_.Out) len_map ?_
 conv=>whnf
 refine Nf.mk (List.length t_.In) len_map ?_
 conv=>whnf
 refine Both.mk ?_ ?_<;>intro b53
 obtain ⟨h,b53d⟩:=ctd b53 h
 conv=>whnf
 cases h
 conv=>whnf
 exact ⟨rfl,rfl⟩
 obtain ⟨h,b53d⟩:=cfd b53 h
 conv=>whnf
 obtain ⟨c54,hc54,h⟩:=bind_some h
 refine ⟨_,(sp_slices_ContainsFunc_Sint_int t_.Out (fun u0=>nondet_proper_1 u0) 73 (fun u0 r h=>(sp_nondet_proper_1 u0 r (fun _=>h))) c54 (fun _ _=>hc54)),?_⟩
 conv=>whnf
 refine Both.mk ?_ ?_<;>intro b55
 replace h:=cond_t b55 h
 conv=>whnf
 cases h
 conv=>whnf
 exact ⟨rfl,rfl⟩
 replace h:=cond_f b55 h
 conv=>whnf
 cases h
 conv=>whnf
 exact ⟨rfl,rfl⟩
theorem sp_observe_copied (t_:T_api_Trace) (r:T_api_Trace) (h:Ok (.agg (c_api_Trace t_))→observe_copied t_=some r):Sp Tryz.prog 116 [.im (.agg (c_api_Trace t_))] (.im (.agg (c_api_Trace r))):=by
 refine sp_of rfl [700001] rfl rfl rfl (Nat.le_of_ble_eq_true rfl) rfl fun hk=>?_
 replace h:=h hk.1
 have z1:lZ t_.In:=ok_len (Ok.agg_at hk.1 0 rfl)
 have z2:lZ t_.Out:=ok_len (Ok.agg_at hk.1 1 rfl)
 unfold observe_copied at h
 conv=>whnf
 obtain ⟨c51,hc51,h⟩:=bind_some h
 refine ⟨_,(sp_lib_Clone_int t_.In c51 (hc51)).im,?_⟩
 conv=>whnf
 obtain ⟨c52,hc52,h⟩:=bind_some h
 refine ⟨_,(sp_lib_Clone_int t_.Out c52 (hc52)).im,?_⟩
 conv=>whnf
 refine Side.mk rfl ?_
 conv=>whnf
 cases h
 conv=>whnf
 refine Side.mk ⟨rfl,trivial⟩ ?_
 conv=>whnf
 exact ⟨rfl,rfl⟩
theorem sp_observe_owned (l_:List T_api_Trace) (r:List T_api_Trace) (h:Ok (nL c_api_Trace l_)→observe_owned l_=some r):Sp Tryz.prog 77 [.im (nL c_api_Trace l_)] (.row 55 2 (List.map c_api_Trace r)):=by
 refine sp_of rfl [] rfl rfl rfl (Nat.le_of_ble_eq_true rfl) rfl fun hk=>?_
 replace h:=h hk.1
 have z1:lZ l_:=ok_len hk.1
 unfold observe_owned at h
 conv=>whnf
 refine Nf.mk (List.length l_) len_map ?_
 conv=>whnf
 refine Arith.mk (by show inR _;unfold inR;omega) ?_
 conv=>whnf
 obtain ⟨c51,h⟩:=chk_some h
 refine Side.mk c51 ?_
 conv=>whnf
 refine Nf.mk (List.map c_api_Trace []) rfl ?_
 conv=>whnf
 refine Nf.mk (List.length l_) len_map ?_
 conv=>whnf
 obtain ⟨y70,hc,hk52⟩:=bind_some h
 clear h
 have h:=hc
 clear hc
 refine Cut.mk (mkSt [(3,.osl 64 1)] [(64,.row 55 2 (List.map c_api_Trace y70))] []) (lZ y70∧True) ((Holds.kdl 64 rfl).and (hT)) ?_ (fun hp=>?_)
 conv=>whnf
 refine Loops.iter (fun (s:List T_api_Trace×Nat)=>observe_owned.s2 l_ s.1 s.2) (fun (y75,y76)=>mkSt [(3,.osl 64 1),(10,.im (nL c_api_Trace l_)),(11,.im (nI (↑(List.length l_):Int))),(12,.im (nI (↑y76:Int)))] [(64,.row 55 2 (List.map c_api_Trace y75))] []) (fun (y75,y76)=>lZ l_∧lZ y75∧True) h (eA [(64,some 9)]) (by rintro ⟨y75,y76⟩;exact ((Holds.avl 10 rfl).and ((Holds.kdl 64 rfl).and (hT)))) ?_
 clear h
 rintro k ⟨y75,y76⟩ o hp h ho81
 replace h:observe_owned.s2 l_ y75 y76=some o:=h
 unfold observe_owned.s2 at h
 obtain ⟨z86,z87,_⟩:=hp
 conv=>whnf
 refine Both.mk ?_ ?_<;>intro b82
 obtain ⟨h,b82d⟩:=ctd b82 h
 conv=>whnf
 obtain ⟨e83,he83,h⟩:=idxn_some h
 refine ⟨_,⟨(by omega),map_at he83,rfl⟩,?_⟩
 conv=>whnf
 refine Side.mk rfl ?_
 conv=>whnf
 refine Side.mk rfl ?_
 conv=>whnf
 obtain ⟨c84,hc84,h⟩:=bind_some h
 refine ⟨_,(sp_observe_copied e83 c84 (fun _=>hc84)),?_⟩
 conv=>whnf
 obtain ⟨c85,h⟩:=chk_some h
 refine Side.mk ⟨rfl,map_len (l:=[c84]) (c:=c_api_Trace) fun _=>rfl,show capOk _ 48 by simpa only [List.length_map,List.length_cons,List.length_nil,Nat.zero_add] using c85⟩ ?_
 conv=>whnf
 refine Nf.mk (List.map c_api_Trace (y75++[c84])) (app_map (l:=y75) (m:=[c84]) (c:=c_api_Trace)) ?_
 conv=>whnf
 refine Arith.mk (by show inR _;unfold inR;omega) ?_
 conv=>whnf
 cases h
 exact Nxt.mk _ ho81 (eA [(64,some 64)])
 obtain ⟨h,b82d⟩:=cfd b82 h
 conv=>whnf
 cases h
 have ho81:_=_:=ho81
 cases ho81
 exact Join.mk (eA [(64,some 64)])
 replace h:=hk52
 obtain ⟨z88,_⟩:=hp
 conv=>whnf
 cases h
 conv=>whnf
 exact Side.mk ⟨rfl,trivial⟩ ⟨rfl,rfl⟩
theorem sp_word_Common (a_:List Int) (b_:List Int) (r:Int) (h:Ok (nL cI a_)→Ok (nL cI b_)→word_Common a_ b_=some r):Sp Tryz.prog 80 [.im (nL cI a_),.im (nL cI b_)] (.im (nI r)):=by
 refine sp_of rfl [] rfl rfl rfl (Nat.le_of_ble_eq_true rfl) rfl fun hk=>?_
 replace h:=h hk.1 hk.2.1
 have z1:lZ a_:=ok_len hk.1
 have z2:lZ b_:=ok_len hk.2.1
 unfold word_Common at h
 conv=>whnf
 refine Nf.mk (List.length a_) len_map ?_
 conv=>whnf
 refine Nf.mk (List.length b_) len_map ?_
 conv=>whnf
 obtain ⟨oc,hc,hk51⟩:=bind_some h
 clear h
 have h:=hc
 clear hc
 refine Cut.mkS oc (Y:=Unit) (fun (_:Unit)=>mkSt [(0,.im (nL cI a_)),(1,.im (nL cI b_))] [] []) (fun (_:Unit)=>lZ a_∧lZ b_∧True) (by rintro ⟨⟩;exact ((Holds.avl 0 rfl).and ((Holds.avl 1 rfl).and (hT)))) ?_ ?_
 conv=>whnf
 refine Loops.iter (fun (s:Nat)=>word_Common.s2 a_ b_ s) (fun y72=>mkSt [(0,.im (nL cI a_)),(1,.im (nL cI b_)),(10,.im (nI (min (↑(List.length a_):Int) (↑(List.length b_):Int)))),(11,.im (nI (↑y72:Int)))] [] []) (fun y72=>lZ a_∧lZ b_∧True) h (eA []) (by rintro y72;exact ((Holds.avl 0 rfl).and ((Holds.avl 1 rfl).and (hT)))) ?_
 clear h
 rintro k y72 o hp h ho77
 replace h:word_Common.s2 a_ b_ y72=some o:=h
 unfold word_Common.s2 at h
 obtain ⟨z82,z83,_⟩:=hp
 conv=>whnf
 refine Both.mk ?_ ?_<;>intro b78
 obtain ⟨h,b78d⟩:=ctd b78 h
 conv=>whnf
 obtain ⟨e79,he79,h⟩:=idxn_some h
 refine ⟨_,⟨(by omega),map_at he79,rfl⟩,?_⟩
 conv=>whnf
 obtain ⟨e80,he80,h⟩:=idxn_some h
 refine ⟨_,⟨(by omega),map_at he80,rfl⟩,?_⟩
 conv=>whnf
 refine Both.mk ?_ ?_<;>intro b81
 obtain ⟨h,b81d⟩:=ctd b81 h
 conv=>whnf
 cases h
 have ho77:_=_:=ho77
 cases ho77
 replace h:some _=some _:=hk51
 cases h
 conv=>whnf
 exact ⟨rfl,rfl⟩
 obtain ⟨h,b81d⟩:=cfd b81 h
 conv=>whnf
 refine Arith.mk (by show inR _;unfold inR;omega) ?_
 conv=>whnf
 cases h
 exact Nxt.mk _ ho77 (eA [])
 obtain ⟨h,b78d⟩:=cfd b78 h
 conv=>whnf
 cases h
 have ho77:_=_:=ho77
 cases ho77
 exact JoinS.mk' _ rfl (eA [])
 rintro ⟨⟩ rfl hp
 replace h:=sum_inl hk51
 obtain ⟨z84,z85,_⟩:=hp
 conv=>whnf
 refine Nf.mk (List.length a_) len_map ?_
 conv=>whnf
 refine Nf.mk (List.length b_) len_map ?_
 conv=>whnf
 cases h
 conv=>whnf
 exact ⟨rfl,rfl⟩
theorem sp_word_HasPrefix (w_:List Int) (p_:List Int) (r:Bool) (h:Ok (nL cI w_)→Ok (nL cI p_)→word_HasPrefix w_ p_=some r):Sp Tryz.prog 59 [.im (nL cI w_),.im (nL cI p_)] (.im (nB r)):=by
 refine sp_of rfl [] rfl rfl rfl (Nat.le_of_ble_eq_true rfl) rfl fun hk=>?_
 replace h:=h hk.1 hk.2.1
 have z1:lZ w_:=ok_len hk.1
 have z2:lZ p_:=ok_len hk.2.1
 unfold word_HasPrefix at h
 conv=>whnf
 obtain ⟨c51,hc51,h⟩:=bind_some h
 refine ⟨_,(sp_word_Common w_ p_ c51 (fun _ _=>hc51)),?_⟩
 conv=>whnf
 refine Nf.mk (List.length p_) len_map ?_
 conv=>whnf
 cases h
 conv=>whnf
 exact ⟨rfl,rfl⟩
theorem sp_slices_BinarySearchFunc_Sapi_Trace_api_Trace_api_Trace (x_:List T_api_Trace) (target_:T_api_Trace) (cmp_:T_api_Trace→T_api_Trace→Option Int) (f2_:FuncId) (hf2:∀ x0 x1 r,cmp_ x0 x1=some r→Sp Tryz.prog f2_ [.im (.agg (c_api_Trace x0)),.im (.agg (c_api_Trace x1))] (.im (nI r))) (r:Int×Bool) (h:Ok (nL c_api_Trace x_)→Ok (.agg (c_api_Trace target_))→Ok (.fn f2_ [])→slices_BinarySearchFunc_Sapi_Trace_api_Trace_api_Trace x_ target_ cmp_=some r):Sp Tryz.prog 121 [.im (nL c_api_Trace x_),.im (.agg (c_api_Trace target_)),.im (.fn f2_ [])] (.tup [nI r.1,nB r.2]):=by
 refine sp_of rfl [700004] rfl rfl rfl (Nat.le_of_ble_eq_true rfl) rfl fun hk=>?_
 replace h:=h hk.1 hk.2.1 hk.2.2.1
 have z1:lZ x_:=ok_len hk.1
 have z2:lZ target_.In:=ok_len (Ok.agg_at hk.2.1 0 rfl)
 have z3:lZ target_.Out:=ok_len (Ok.agg_at hk.2.1 1 rfl)
 unfold slices_BinarySearchFunc_Sapi_Trace_api_Trace_api_Trace at h
 conv=>whnf
 refine Nf.mk (List.length x_) len_map ?_
 conv=>whnf
 obtain ⟨i81,hc,hk51⟩:=bind_some h
 clear h
 have h:=hc
 clear hc
 refine Cut.mk (mkSt [(0,.im (nL c_api_Trace x_)),(2,.im (.fn f2_ [])),(4,.im (.ref (c_api_Trace target_))),(8,.im (nI (↑(List.length x_):Int))),(9,.im (nI i81))] [] []) (lZ x_∧True) ((Holds.avl 0 rfl).and (hT)) ?_ (fun hp=>?_)
 conv=>whnf
 refine Loops.iter (fun (s:Int×Int)=>slices_BinarySearchFunc_Sapi_Trace_api_Trace_api_Trace.s2 x_ target_ cmp_ s.1 s.2) (fun (i89,j90)=>mkSt [(0,.im (nL c_api_Trace x_)),(2,.im (.fn f2_ [])),(4,.im (.ref (c_api_Trace target_))),(8,.im (nI (↑(List.length x_):Int))),(9,.im (nI i89)),(10,.im (nI j90))] [] []) (fun (i89,j90)=>lZ x_∧True) h (eA []) (by rintro ⟨i89,j90⟩;exact ((Holds.avl 0 rfl).and (hT))) ?_
 clear h
 rintro k ⟨i89,j90⟩ o hp h ho100
 replace h:slices_BinarySearchFunc_Sapi_Trace_api_Trace_api_Trace.s2 x_ target_ cmp_ i89 j90=some o:=h
 unfold slices_BinarySearchFunc_Sapi_Trace_api_Trace_api_Trace.s2 at h
 obtain ⟨z110,_⟩:=hp
 conv=>whnf
 refine Both.mk ?_ ?_<;>intro b101
 obtain ⟨h,b101d⟩:=ctd b101 h
 conv=>whnf
 obtain ⟨c102,h⟩:=chk_some h
 refine Arith.mk c102 ?_
 conv=>whnf
 obtain ⟨c103,h⟩:=chk_some h
 refine Side.mk c103 ?_
 conv=>whnf
 obtain ⟨c104,h⟩:=chk_some h
 refine Side.mk ⟨⟨by show (0:Int)≤(i89+j90) / 2^1;omega,by show (i89+j90) / 2^1≤(18446744073709551615:Int);omega⟩,c104.1,by decide,by decide⟩ ?_
 conv=>whnf
 obtain ⟨c105,h⟩:=chk_some h
 refine Side.mk c105 ?_
 conv=>whnf
 obtain ⟨e106,he106z,he106,h⟩:=idx_some h
 refine ⟨_,⟨he106z,map_at he106,rfl⟩,?_⟩
 conv=>whnf
 obtain ⟨c107,hc107,h⟩:=bind_some h
 refine ⟨_,hf2 e106 target_ c107 hc107,?_⟩
 conv=>whnf
 refine Both.mk ?_ ?_<;>intro b108
 obtain ⟨h,b108d⟩:=ctd b108 h
 conv=>whnf
 obtain ⟨c109,h⟩:=chk_some h
 refine Arith.mk c109 ?_
 conv=>whnf
 cases h
 exact Nxt.mk _ ho100 (eA [])
 obtain ⟨h,b108d⟩:=cfd b108 h
 conv=>whnf
 cases h
 exact Nxt.mk _ ho100 (eA [])
 obtain ⟨h,b101d⟩:=cfd b101 h
 conv=>whnf
 cases h
 have ho100:_=_:=ho100
 cases ho100
 exact Join.mk (eA [])
 replace h:=hk51
 obtain ⟨z111,_⟩:=hp
 conv=>whnf
 obtain ⟨y117,hc,hk113⟩:=bind_some h
 clear h
 have h:=hc
 clear hc
 refine Cut.mk (mkSt [(6,.im (nI i81)),(7,.im (nB y117))] [] []) (True) (hT) ?_ (fun hp=>?_)
 conv=>whnf
 refine Both.mk ?_ ?_<;>intro b118
 replace b118:=beq_tt b118
 obtain ⟨h,b118d⟩:=ctd b118 h
 conv=>whnf
 iterate 3 (refine Both.yes (tt_beq b118) ?_;(conv=>whnf))
 obtain ⟨e119,he119z,he119,h⟩:=idx_some h
 refine ⟨_,⟨he119z,map_at he119,rfl⟩,?_⟩
 conv=>whnf
 iterate 3 (refine Both.yes (tt_beq b118) ?_;(conv=>whnf))
 obtain ⟨c120,hc120,h⟩:=bind_some h
 refine ⟨_,hf2 e119 target_ c120 hc120,?_⟩
 conv=>whnf
 refine Both.yes (tt_beq b118) ?_
 conv=>whnf
 refine Both.yes b118 ?_
 conv=>whnf
 cases h
 exact Join.mk (eA [])
 replace b118:=beq_tf b118
 obtain ⟨h,b118d⟩:=cfd b118 h
 conv=>whnf
 iterate 7 (refine Both.no (ft_beq b118) ?_;(conv=>whnf))
 refine Both.no b118 ?_
 conv=>whnf
 cases h
 exact Join.mk (eA [])
 replace h:=hk113
 conv=>whnf
 cases h
 conv=>whnf
 exact ⟨rfl,rfl⟩
theorem sp_observe_differ (a_:T_api_Trace) (b_:T_api_Trace) (r:Int) (h:Ok (.agg (c_api_Trace a_))→Ok (.agg (c_api_Trace b_))→observe_differ a_ b_=some r):Sp Tryz.prog 118 [.im (.agg (c_api_Trace a_)),.im (.agg (c_api_Trace b_))] (.im (nI r)):=by
 refine sp_of rfl [700002,700003] rfl rfl rfl (Nat.le_of_ble_eq_true rfl) rfl fun hk=>?_
 replace h:=h hk.1 hk.2.1
 have z1:lZ a_.In:=ok_len (Ok.agg_at hk.1 0 rfl)
 have z2:lZ a_.Out:=ok_len (Ok.agg_at hk.1 1 rfl)
 have z3:lZ b_.In:=ok_len (Ok.agg_at hk.2.1 0 rfl)
 have z4:lZ b_.Out:=ok_len (Ok.agg_at hk.2.1 1 rfl)
 unfold observe_differ at h
 conv=>whnf
 obtain ⟨c51,hc51,h⟩:=bind_some h
 refine ⟨_,(sp_word_Common a_.In b_.In c51 (fun _ _=>hc51)),?_⟩
 conv=>whnf
 refine Nf.mk (List.length a_.Out) len_map ?_
 conv=>whnf
 refine Nf.mk (List.length b_.Out) len_map ?_
 conv=>whnf
 obtain ⟨c52,h⟩:=chk_some h
 refine Side.mk (show (0:Int)≤(0:Int)∧(0:Int)≤(min (min c51 (↑(List.length a_.Out):Int)) (↑(List.length b_.Out):Int))∧(min (min c51 (↑(List.length a_.Out):Int)) (↑(List.length b_.Out):Int))≤(↑(List.length (List.map cI a_.Out)):Int)∧(∀ e∈List.map cI a_.Out,List.length e=1) from ⟨by omega,by first | omega | (simp only [List.length_map];omega),by first | omega | (simp only [List.length_map];omega),map_len fun _=>rfl⟩) ?_
 conv=>whnf
 refine Nf.mk (List.map cI (List.take (Int.toNat (min (min c51 (↑(List.length a_.Out):Int)) (↑(List.length b_.Out):Int))) a_.Out)) take_map ?_
 conv=>whnf
 obtain ⟨c53,h⟩:=chk_some h
 refine Side.mk (show (0:Int)≤(0:Int)∧(0:Int)≤(min (min c51 (↑(List.length a_.Out):Int)) (↑(List.length b_.Out):Int))∧(min (min c51 (↑(List.length a_.Out):Int)) (↑(List.length b_.Out):Int))≤(↑(List.length (List.map cI b_.Out)):Int)∧(∀ e∈List.map cI b_.Out,List.length e=1) from ⟨by omega,by first | omega | (simp only [List.length_map];omega),by first | omega | (simp only [List.length_map];omega),map_len fun _=>rfl⟩) ?_
 conv=>whnf
 refine Nf.mk (List.map cI (List.take (Int.toNat (min (min c51 (↑(List.length a_.Out):Int)) (↑(List.length b_.Out):Int))) b_.Out)) take_map ?_
 conv=>whnf
 obtain ⟨c54,hc54,h⟩:=bind_some h
 refine ⟨_,(sp_word_Common (List.take (Int.toNat (min (min c51 (↑(List.length a_.Out):Int)) (↑(List.length b_.Out):Int))) a_.Out) (List.take (Int.toNat (min (min c51 (↑(List.length a_.Out):Int)) (↑(List.length b_.Out):Int))) b_.Out) c54 (fun _ _=>hc54)),?_⟩
 conv=>whnf
 refine Both.mk ?_ ?_<;>intro b55
 obtain ⟨h,b55d⟩:=ctd b55 h
 conv=>whnf
 cases h
 conv=>whnf
 exact ⟨rfl,rfl⟩
 obtain ⟨h,b55d⟩:=cfd b55 h
 conv=>whnf
 cases h
 conv=>whnf
 exact ⟨rfl,rfl⟩
theorem sp_observe_add_1 (u_:T_api_Trace) (p1_:T_api_Trace) (r:Bool) (h:Ok (.agg (c_api_Trace u_))→Ok (.ref (c_api_Trace p1_))→observe_add_1 u_ p1_=some r):Sp Tryz.prog 120 [.im (.agg (c_api_Trace u_)),.im (.ref (c_api_Trace p1_))] (.im (nB r)):=by
 refine sp_of rfl [700002] rfl rfl rfl (Nat.le_of_ble_eq_true rfl) rfl fun hk=>?_
 replace h:=h hk.1 hk.2.1
 have z1:lZ u_.In:=ok_len (Ok.agg_at hk.1 0 rfl)
 have z2:lZ u_.Out:=ok_len (Ok.agg_at hk.1 1 rfl)
 have z3:lZ p1_.In:=ok_len (Ok.ref_at hk.2.1 0 rfl)
 have z4:lZ p1_.Out:=ok_len (Ok.ref_at hk.2.1 1 rfl)
 unfold observe_add_1 at h
 conv=>whnf
 obtain ⟨c51,hc51,h⟩:=bind_some h
 refine ⟨_,(sp_word_HasPrefix p1_.In u_.In c51 (fun _ _=>hc51)),?_⟩
 conv=>whnf
 cases h
 conv=>whnf
 exact ⟨rfl,rfl⟩
theorem sp_slices_IndexFunc_Sapi_Trace_api_Trace_n1 (s_:List T_api_Trace) (f_:T_api_Trace→Option Bool) (f1_:FuncId) (k1_0:IV) (hk1_0:nz k1_0=k1_0) (hf1:∀ x0 r,f_ x0=some r→Sp Tryz.prog f1_ [.im (.agg (c_api_Trace x0)),.im k1_0] (.im (nB r))) (r:Int) (h:Ok (nL c_api_Trace s_)→Ok (.fn f1_ [k1_0])→slices_IndexFunc_Sapi_Trace_api_Trace_n1 s_ f_=some r):Sp Tryz.prog 57 [.im (nL c_api_Trace s_),.im (.fn f1_ [k1_0])] (.im (nI r)):=by
 refine sp_of rfl [] rfl rfl rfl (Nat.le_of_ble_eq_true rfl) rfl fun hk=>?_
 replace h:=h hk.1 hk.2.1
 have z1:lZ s_:=ok_len hk.1
 unfold slices_IndexFunc_Sapi_Trace_api_Trace_n1 at h
 conv=>whnf
 refine Nf.mk (List.length s_) len_map ?_
 conv=>whnf
 obtain ⟨oc,hc,hk51⟩:=bind_some h
 clear h
 have h:=hc
 clear hc
 refine Cut.mkS oc (Y:=Unit) (fun (_:Unit)=>mkSt [] [] []) (fun (_:Unit)=>True) (by rintro ⟨⟩;exact (hT)) ?_ ?_
 conv=>whnf
 refine Loops.iter (fun (s:Nat)=>slices_IndexFunc_Sapi_Trace_api_Trace_n1.s2 s_ f_ s) (fun y71=>mkSt [(0,.im (nL c_api_Trace s_)),(1,.im (.fn f1_ [k1_0])),(7,.im (nI (↑(List.length s_):Int))),(8,.im (nI (↑y71:Int)))] [] []) (fun y71=>lZ s_∧True) h (eA []) (by rintro y71;exact ((Holds.avl 0 rfl).and (hT))) ?_
 clear h
 rintro k y71 o hp h ho76
 replace h:slices_IndexFunc_Sapi_Trace_api_Trace_n1.s2 s_ f_ y71=some o:=h
 unfold slices_IndexFunc_Sapi_Trace_api_Trace_n1.s2 at h
 obtain ⟨z81,_⟩:=hp
 conv=>whnf
 refine Both.mk ?_ ?_<;>intro b77
 obtain ⟨h,b77d⟩:=ctd b77 h
 conv=>whnf
 obtain ⟨e78,he78,h⟩:=idxn_some h
 refine ⟨_,⟨(by omega),map_at he78,rfl⟩,?_⟩
 conv=>whnf
 obtain ⟨c79,hc79,h⟩:=bind_some h
 refine ⟨_,Sp.args (hf1 e78 c79 hc79) (by rw [hk1_0];try rfl),?_⟩
 conv=>whnf
 refine Both.mk ?_ ?_<;>intro b80
 replace h:=cond_t b80 h
 conv=>whnf
 cases h
 have ho76:_=_:=ho76
 cases ho76
 replace h:some _=some _:=hk51
 cases h
 conv=>whnf
 exact ⟨rfl,rfl⟩
 replace h:=cond_f b80 h
 conv=>whnf
 refine Arith.mk (by show inR _;unfold inR;omega) ?_
 conv=>whnf
 cases h
 exact Nxt.mk _ ho76 (eA [])
 obtain ⟨h,b77d⟩:=cfd b77 h
 conv=>whnf
 cases h
 have ho76:_=_:=ho76
 cases ho76
 exact JoinS.mk' _ rfl (eA [])
 rintro ⟨⟩ rfl hp
 replace h:=sum_inl hk51
 conv=>whnf
 cases h
 conv=>whnf
 exact ⟨rfl,rfl⟩
theorem sp_slices_DeleteFunc_Sapi_Trace_api_Trace_n1 (s_:List T_api_Trace) (del_:T_api_Trace→Option Bool) (f1_:FuncId) (k1_0:IV) (hk1_0:nz k1_0=k1_0) (hf1:∀ x0 r,del_ x0=some r→Sp Tryz.prog f1_ [.im (.agg (c_api_Trace x0)),.im k1_0] (.im (nB r))) (r:List T_api_Trace) (h:OkL (List.map c_api_Trace s_)→Ok (.fn f1_ [k1_0])→slices_DeleteFunc_Sapi_Trace_api_Trace_n1 s_ del_=some r):Sp Tryz.prog 119 [.row 55 2 (List.map c_api_Trace s_),.im (.fn f1_ [k1_0])] (.row 55 2 (List.map c_api_Trace r)):=by
 refine sp_of rfl [500010] rfl rfl rfl (Nat.le_of_ble_eq_true rfl) rfl fun hk=>?_
 replace h:=h hk.1 hk.2.1
 have z1:lZ s_:=okl_len hk.1
 unfold slices_DeleteFunc_Sapi_Trace_api_Trace_n1 at h
 conv=>whnf
 refine Side.mk ⟨rfl,trivial⟩ ?_
 conv=>whnf
 obtain ⟨c51,hc51,h⟩:=bind_some h
 refine ⟨_,(sp_slices_IndexFunc_Sapi_Trace_api_Trace_n1 s_ del_ f1_ k1_0 hk1_0 hf1 c51 (fun _ _=>hc51)),?_⟩
 conv=>whnf
 refine Side.mk flat_one ?_
 conv=>whnf
 refine Both.mk ?_ ?_<;>intro b52
 obtain ⟨h,b52d⟩:=ctd b52 h
 conv=>whnf
 cases h
 conv=>whnf
 exact Side.mk ⟨rfl,trivial⟩ ⟨rfl,rfl⟩
 obtain ⟨h,b52d⟩:=cfd b52 h
 conv=>whnf
 obtain ⟨c53,h⟩:=chk_some h
 refine Arith.mk c53 ?_
 conv=>whnf
 obtain ⟨⟨y84,i85⟩,hc,hk54⟩:=bind_some h
 clear h
 have h:=hc
 clear hc
 refine Cut.mk (mkSt [(0,.osl 64 1),(5,.im (nI i85))] [(64,.row 55 2 (List.map c_api_Trace y84))] []) (lZ y84∧True) ((Holds.kdl 64 rfl).and (hT)) ?_ (fun hp=>?_)
 conv=>whnf
 refine Loops.iter (fun (s:List T_api_Trace×Int×Int)=>slices_DeleteFunc_Sapi_Trace_api_Trace_n1.s2 del_ s.1 s.2.1 s.2.2) (fun (y94,i95,j96)=>mkSt [(0,.osl 64 1),(1,.im (.fn f1_ [k1_0])),(5,.im (nI i95)),(6,.im (nI j96))] [(64,.row 55 2 (List.map c_api_Trace y94))] []) (fun (y94,i95,j96)=>lZ y94∧True) h (eA [(64,some 0)]) (by rintro ⟨y94,i95,j96⟩;exact ((Holds.kdl 64 rfl).and (hT))) ?_
 clear h
 rintro k ⟨y94,i95,j96⟩ o hp h ho105
 replace h:slices_DeleteFunc_Sapi_Trace_api_Trace_n1.s2 del_ y94 i95 j96=some o:=h
 unfold slices_DeleteFunc_Sapi_Trace_api_Trace_n1.s2 at h
 obtain ⟨z114,_⟩:=hp
 conv=>whnf
 refine Side.mk rfl ?_
 conv=>whnf
 refine Nf.mk (List.length y94) len_map ?_
 conv=>whnf
 refine Both.mk ?_ ?_<;>intro b106
 obtain ⟨h,b106d⟩:=ctd b106 h
 conv=>whnf
 obtain ⟨e107,he107z,he107,h⟩:=idx_some h
 refine Side.mk ⟨he107z,rfl,map_lt he107⟩ ?_
 conv=>whnf
 refine ⟨_,⟨rfl,map_at he107,of_decide_eq_true rfl,rfl⟩,?_⟩
 conv=>whnf
 refine Side.mk rfl ?_
 conv=>whnf
 refine Side.mk rfl ?_
 conv=>whnf
 obtain ⟨c108,hc108,h⟩:=bind_some h
 refine ⟨_,Sp.args (hf1 e107 c108 hc108) (by rw [hk1_0];try rfl),?_⟩
 conv=>whnf
 refine Both.mk ?_ ?_<;>intro b109
 replace h:=cond_t b109 h
 conv=>whnf
 refine Side.mk rfl ?_
 conv=>whnf
 obtain ⟨e110,he110z,he110,h⟩:=idx_some h
 refine Side.mk ⟨he110z,rfl,map_lt he110⟩ ?_
 conv=>whnf
 refine Side.mk ⟨rfl,trivial⟩ ?_
 conv=>whnf
 refine ⟨_,map_at he110,?_⟩
 conv=>whnf
 refine Nf.mk (List.map c_api_Trace (List.set y94 i95.toNat e107)) (set_map rfl) ?_
 conv=>whnf
 obtain ⟨c111,h⟩:=chk_some h
 refine Arith.mk c111 ?_
 conv=>whnf
 obtain ⟨c112,h⟩:=chk_some h
 refine Arith.mk c112 ?_
 conv=>whnf
 cases h
 exact Nxt.mk _ ho105 (eA [(64,some 64)])
 replace h:=cond_f b109 h
 conv=>whnf
 obtain ⟨c113,h⟩:=chk_some h
 refine Arith.mk c113 ?_
 conv=>whnf
 cases h
 exact Nxt.mk _ ho105 (eA [(64,some 64)])
 obtain ⟨h,b106d⟩:=cfd b106 h
 conv=>whnf
 cases h
 have ho105:_=_:=ho105
 cases ho105
 exact Join.mk (eA [(64,some 64)])
 replace h:slices_DeleteFunc_Sapi_Trace_api_Trace_n1.k3 y84 i85=some _:=hk54
 unfold slices_DeleteFunc_Sapi_Trace_api_Trace_n1.k3 at h
 obtain ⟨z115,_⟩:=hp
 conv=>whnf
 obtain ⟨c116,h⟩:=chk_some h
 refine Side.mk ⟨rfl,c116.1,by have hh_:=c116;simp only [List.length_map];omega,by have hh_:=c116;simp only [List.length_map];omega⟩ ?_
 conv=>whnf
 obtain ⟨c117,h⟩:=chk_some h
 refine Side.mk ⟨rfl,by have hh_:=c117;simp only [List.length_map];omega⟩ ?_
 conv=>whnf
 refine Nf.mk (List.map c_api_Trace (List.take (Int.toNat i85) y84++List.replicate (List.length y84-(Int.toNat i85)) (⟨[],[]⟩:T_api_Trace))) (clr_map (z:=(⟨[],[]⟩:T_api_Trace)) rfl) ?_
 conv=>whnf
 obtain ⟨c118,h⟩:=chk_some h
 refine Side.mk ⟨rfl,c118.1,by have hh_:=c118;simp only [List.length_map];omega,by have hh_:=c118;simp only [List.length_map];omega⟩ ?_
 conv=>whnf
 refine Nf.mk (List.map c_api_Trace (List.take (Int.toNat i85) (List.take (Int.toNat i85) y84++List.replicate (List.length y84-(Int.toNat i85)) (⟨[],[]⟩:T_api_Trace)))) cut_own ?_
 conv=>whnf
 cases h
 conv=>whnf
 exact Side.mk ⟨rfl,trivial⟩ ⟨rfl,rfl⟩
theorem sp_observe_order (a_:T_api_Trace) (b_:T_api_Trace) (r:Int) (h:Ok (.agg (c_api_Trace a_))→Ok (.agg (c_api_Trace b_))→observe_order a_ b_=some r):Sp Tryz.prog 122 [.im (.agg (c_api_Trace a_)),.im (.agg (c_api_Trace b_))] (.im (nI r)):=by
 refine sp_of rfl [700002,700003] rfl rfl rfl (Nat.le_of_ble_eq_true rfl) rfl fun hk=>?_
 replace h:=h hk.1 hk.2.1
 have z1:lZ a_.In:=ok_len (Ok.agg_at hk.1 0 rfl)
 have z2:lZ a_.Out:=ok_len (Ok.agg_at hk.1 1 rfl)
 have z3:lZ b_.In:=ok_len (Ok.agg_at hk.2.1 0 rfl)
 have z4:lZ b_.Out:=ok_len (Ok.agg_at hk.2.1 1 rfl)
 unfold observe_order at h
 conv=>whnf
 obtain ⟨c51,hc51,h⟩:=bind_some h
 refine ⟨_,(sp_word_Compare a_.In b_.In c51 (fun _ _=>hc51)),?_⟩
 conv=>whnf
 cases h
 conv=>whnf
 exact ⟨rfl,rfl⟩
theorem sp_observe_add (l_:List T_api_Trace) (t_:T_api_Trace) (r:List T_api_Trace×Int) (h:OkL (List.map c_api_Trace l_)→Ok (.agg (c_api_Trace t_))→observe_add l_ t_=some r):Sp Tryz.prog 79 [.row 55 2 (List.map c_api_Trace l_),.im (.agg (c_api_Trace t_))] (.mk true [.ow (.row 55 2 (List.map c_api_Trace r.1)),.im (nI r.2)] []):=by
 refine sp_of rfl [54,41000,56000,56002,500047,700003] rfl rfl rfl (Nat.le_of_ble_eq_true rfl) rfl fun hk=>?_
 replace h:=h hk.1 hk.2.1
 have z1:lZ l_:=okl_len hk.1
 have z2:lZ t_.In:=ok_len (Ok.agg_at hk.2.1 0 rfl)
 have z3:lZ t_.Out:=ok_len (Ok.agg_at hk.2.1 1 rfl)
 unfold observe_add at h
 conv=>whnf
 refine Side.mk rfl ?_
 conv=>whnf
 refine Nf.mk (List.length l_) len_map ?_
 conv=>whnf
 obtain ⟨oc,hc,hk51⟩:=bind_some h
 clear h
 have h:=hc
 clear hc
 refine Cut.mkS oc (Y:=Bool) (fun inside73=>mkSt [(0,.osl 64 1),(3,.im (.ref (c_api_Trace t_))),(6,.im (nB inside73))] [(64,.row 55 2 (List.map c_api_Trace l_))] []) (fun inside73=>lZ l_∧True) (by rintro inside73;exact ((Holds.kdl 64 rfl).and (hT))) ?_ ?_
 conv=>whnf
 refine Loops.iter (fun (s:Bool×Nat)=>observe_add.s2 l_ t_ s.1 s.2) (fun (inside79,y80)=>mkSt [(0,.osl 64 1),(3,.im (.ref (c_api_Trace t_))),(6,.im (nB inside79)),(11,.osl 64 1),(12,.im (nI (↑(List.length l_):Int))),(13,.im (nI (↑y80:Int)))] [(64,.row 55 2 (List.map c_api_Trace l_))] []) (fun (inside79,y80)=>lZ l_∧True) h (eA [(64,some 0)]) (by rintro ⟨inside79,y80⟩;exact ((Holds.kdl 64 rfl).and (hT))) ?_
 clear h
 rintro k ⟨inside79,y80⟩ o hp h ho87
 replace h:observe_add.s2 l_ t_ inside79 y80=some o:=h
 unfold observe_add.s2 at h
 obtain ⟨z94,_⟩:=hp
 conv=>whnf
 refine Both.mk ?_ ?_<;>intro b88
 obtain ⟨h,b88d⟩:=ctd b88 h
 conv=>whnf
 obtain ⟨e89,he89,h⟩:=idxn_some h
 refine Side.mk ⟨(by omega),rfl,map_lt he89⟩ ?_
 conv=>whnf
 refine ⟨_,⟨rfl,map_at he89,of_decide_eq_true rfl,rfl⟩,?_⟩
 conv=>whnf
 refine Side.mk rfl ?_
 conv=>whnf
 refine Side.mk rfl ?_
 conv=>whnf
 obtain ⟨c90,hc90,h⟩:=bind_some h
 refine ⟨_,(sp_observe_differ e89 t_ c90 (fun _ _=>hc90)),?_⟩
 conv=>whnf
 refine Both.mk ?_ ?_<;>intro b91
 obtain ⟨h,b91d⟩:=ctd b91 h
 conv=>whnf
 cases h
 have ho87:_=_:=ho87
 cases ho87
 replace h:some _=some _:=hk51
 cases h
 conv=>whnf
 exact ⟨rfl,rfl⟩
 obtain ⟨h,b91d⟩:=cfd b91 h
 conv=>whnf
 refine Both.mk ?_ ?_<;>intro b92
 replace b92:=beq_ff b92
 replace h:=cond_f b92 h
 conv=>whnf
 refine Side.mk rfl ?_
 conv=>whnf
 refine Both.yes (ff_beq b92) ?_
 conv=>whnf
 refine Side.mk rfl ?_
 conv=>whnf
 iterate 3 (refine Both.yes (ff_beq b92) ?_;(conv=>whnf))
 obtain ⟨c93,hc93,h⟩:=bind_some h
 refine ⟨_,(sp_word_HasPrefix e89.In t_.In c93 (fun _ _=>hc93)),?_⟩
 conv=>whnf
 refine Both.no b92 ?_
 conv=>whnf
 refine Arith.mk (by show inR _;unfold inR;omega) ?_
 conv=>whnf
 cases h
 exact Nxt.mk _ ho87 (eA [(64,some 64)])
 replace b92:=beq_ft b92
 replace h:=cond_t b92 h
 conv=>whnf
 iterate 4 (refine Both.no (tf_beq b92) ?_;(conv=>whnf))
 refine Both.yes b92 ?_
 conv=>whnf
 refine Arith.mk (by show inR _;unfold inR;omega) ?_
 conv=>whnf
 cases h
 exact Nxt.mk _ ho87 (eA [(64,some 64)])
 obtain ⟨h,b88d⟩:=cfd b88 h
 conv=>whnf
 cases h
 have ho87:_=_:=ho87
 cases ho87
 exact JoinS.mk' _ rfl (eA [(64,some 64)])
 rintro inside73 rfl hp
 replace h:=sum_inl hk51
 obtain ⟨z95,_⟩:=hp
 conv=>whnf
 obtain ⟨y99,hc,hk97⟩:=bind_some h
 clear h
 have h:=hc
 clear hc
 refine Cut.mk (mkSt [(0,.osl 64 1),(3,.im (.ref (c_api_Trace t_))),(36,.im (nB y99))] [(64,.row 55 2 (List.map c_api_Trace l_))] []) (lZ l_∧True) ((Holds.kdl 64 rfl).and (hT)) ?_ (fun hp=>?_)
 conv=>whnf
 refine Both.mk ?_ ?_<;>intro b100
 replace b100:=beq_ff b100
 replace h:=cond_f b100 h
 conv=>whnf
 iterate 2 (refine Both.yes (ff_beq b100) ?_;(conv=>whnf))
 refine Nf.mk (List.length t_.In) len_map ?_
 conv=>whnf
 refine Both.yes (ff_beq b100) ?_
 conv=>whnf
 refine Both.no b100 ?_
 conv=>whnf
 cases h
 exact Join.mk (eA [(64,some 64)])
 replace b100:=beq_ft b100
 replace h:=cond_t b100 h
 conv=>whnf
 iterate 3 (refine Both.no (tf_beq b100) ?_;(conv=>whnf))
 refine Both.yes b100 ?_
 conv=>whnf
 cases h
 exact Join.mk (eA [(64,some 64)])
 replace h:=hk97
 obtain ⟨z101,_⟩:=hp
 conv=>whnf
 refine Both.mk ?_ ?_<;>intro b102
 replace h:=cond_t b102 h
 conv=>whnf
 cases h
 conv=>whnf
 exact Side.mk ⟨rfl,trivial⟩ ⟨rfl,rfl⟩
 replace h:=cond_f b102 h
 conv=>whnf
 refine Side.mk ⟨rfl,trivial⟩ ?_
 conv=>whnf
 obtain ⟨c103,hc103,h⟩:=bind_some h
 refine ⟨_,(sp_slices_DeleteFunc_Sapi_Trace_api_Trace_n1 l_ (fun u0=>observe_add_1 u0 t_) 120 (.ref (c_api_Trace t_)) rfl (fun u0 r h=>(sp_observe_add_1 u0 t_ r (fun _ _=>h))) c103 (fun _ _=>hc103)),?_⟩
 conv=>whnf
 refine Side.mk rfl ?_
 conv=>whnf
 refine Nf.mk (List.length c103) len_map ?_
 conv=>whnf
 refine Both.mk ?_ ?_<;>intro b104
 obtain ⟨h,b104d⟩:=ctd b104 h
 conv=>whnf
 cases h
 conv=>whnf
 exact ⟨rfl,rfl⟩
 obtain ⟨h,b104d⟩:=cfd b104 h
 conv=>whnf
 refine Side.mk ⟨rfl,trivial⟩ ?_
 conv=>whnf
 obtain ⟨c105,hc105,h⟩:=bind_some h
 refine ⟨_,(sp_slices_BinarySearchFunc_Sapi_Trace_api_Trace_api_Trace c103 t_ (fun u0 u1=>observe_order u0 u1) 122 (fun u0 u1 r h=>(sp_observe_order u0 u1 r (fun _ _=>h))) c105 (fun _ _ _=>hc105)),?_⟩
 conv=>whnf
 refine Side.mk (by simp [flatRs,flatOc]) ?_
 conv=>whnf
 obtain ⟨c106,hc106,h⟩:=bind_some h
 refine ⟨_,(sp_observe_copied t_ c106 (fun _=>hc106)),?_⟩
 conv=>whnf
 refine Side.mk ⟨rfl,rfl,trivial⟩ ?_
 conv=>whnf
 obtain ⟨c107,hc107,h⟩:=bind_some h
 refine ⟨_,(sp_lib_Insert_traces c103 c105.1 [c106] c107 (hc107)),?_⟩
 conv=>whnf
 cases h
 conv=>whnf
 exact Side.mk ⟨rfl,trivial⟩ ⟨rfl,rfl⟩
theorem sp_observe_proper_1 (o_:Int) (r:Bool) (h:Ok (nI o_)→observe_proper_1 o_=some r):Sp Tryz.prog 117 [.im (nI o_)] (.im (nB r)):=by
 refine sp_of rfl [] rfl rfl rfl (Nat.le_of_ble_eq_true rfl) rfl fun hk=>?_
 replace h:=h hk.1
 unfold observe_proper_1 at h
 conv=>whnf
 obtain ⟨y54,hc,hk52⟩:=bind_some h
 clear h
 have h:=hc
 clear hc
 refine Cut.mk (mkSt [(2,.im (nB y54))] [] []) (True) (hT) ?_ (fun hp=>?_)
 conv=>whnf
 refine Both.mk ?_ ?_<;>intro b55
 replace b55:=beq_ff b55
 obtain ⟨h,b55d⟩:=cfd b55 h
 conv=>whnf
 refine Both.yes (ff_beq b55) ?_
 conv=>whnf
 refine Both.no b55 ?_
 conv=>whnf
 cases h
 exact Join.mk (eA [])
 replace b55:=beq_ft b55
 obtain ⟨h,b55d⟩:=ctd b55 h
 conv=>whnf
 refine Both.no (tf_beq b55) ?_
 conv=>whnf
 refine Both.yes b55 ?_
 conv=>whnf
 cases h
 exact Join.mk (eA [])
 replace h:=hk52
 conv=>whnf
 cases h
 conv=>whnf
 exact ⟨rfl,rfl⟩
theorem sp_observe_proper (t_:T_api_Trace) (inputs_:Int) (r:Int) (h:Ok (.agg (c_api_Trace t_))→Ok (nI inputs_)→observe_proper t_ inputs_=some r):Sp Tryz.prog 78 [.im (.agg (c_api_Trace t_)),.im (nI inputs_)] (.im (nI r)):=by
 refine sp_of rfl [700002] rfl rfl rfl (Nat.le_of_ble_eq_true rfl) rfl fun hk=>?_
 replace h:=h hk.1 hk.2.1
 have z1:lZ t_.In:=ok_len (Ok.agg_at hk.1 0 rfl)
 have z2:lZ t_.Out:=ok_len (Ok.agg_at hk.1 1 rfl)
 unfold observe_proper at h
 conv=>whnf
 obtain ⟨c51,hc51,h⟩:=bind_some h
 refine ⟨_,(sp_word_Check t_.In inputs_ c51 (fun _ _=>hc51)),?_⟩
 conv=>whnf
 refine Both.mk ?_ ?_<;>intro b52
 obtain ⟨h,b52d⟩:=ctd b52 h
 conv=>whnf
 cases h
 conv=>whnf
 exact ⟨rfl,rfl⟩
 obtain ⟨h,b52d⟩:=cfd b52 h
 conv=>whnf
 refine Nf.mk (List.length t_.Out) len_map ?_
 conv=>whnf
 refine Nf.mk (List.length t_.In) len_map ?_
 conv=>whnf
 refine Both.mk ?_ ?_<;>intro b53
 obtain ⟨h,b53d⟩:=ctd b53 h
 conv=>whnf
 cases h
 conv=>whnf
 exact ⟨rfl,rfl⟩
 obtain ⟨h,b53d⟩:=cfd b53 h
 conv=>whnf
 obtain ⟨c54,hc54,h⟩:=bind_some h
 refine ⟨_,(sp_slices_ContainsFunc_Sint_int t_.Out (fun u0=>observe_proper_1 u0) 117 (fun u0 r h=>(sp_observe_proper_1 u0 r (fun _=>h))) c54 (fun _ _=>hc54)),?_⟩
 conv=>whnf
 refine Both.mk ?_ ?_<;>intro b55
 replace h:=cond_t b55 h
 conv=>whnf
 cases h
 conv=>whnf
 exact ⟨rfl,rfl⟩
 replace h:=cond_f b55 h
 conv=>whnf
 cases h
 conv=>whnf
 exact ⟨rfl,rfl⟩
theorem sp_observe_all (o_:T_api_Obs) (l_:List T_api_Trace) (r:T_api_Obs×Int) (h:Ok (.agg (c_api_Obs o_))→Ok (nL c_api_Trace l_)→observe_all o_ l_=some r):Sp Tryz.prog 56 [.im (.agg (c_api_Obs o_)),.im (nL c_api_Trace l_)] (.tup [.agg (c_api_Obs r.1),nI r.2]):=by
 refine sp_of rfl [33000,700002] rfl rfl rfl (Nat.le_of_ble_eq_true rfl) rfl fun hk=>?_
 replace h:=h hk.1 hk.2.1
 have z1:lZ o_.Traces:=ok_len (Ok.agg_at hk.1 1 rfl)
 have z2:lZ l_:=ok_len hk.2.1
 unfold observe_all at h
 conv=>whnf
 obtain ⟨c51,hc51,h⟩:=bind_some h
 refine ⟨_,(sp_observe_owned o_.Traces c51 (fun _=>hc51)),?_⟩
 conv=>whnf
 refine Nf.mk (List.length l_) len_map ?_
 conv=>whnf
 obtain ⟨oc,hc,hk52⟩:=bind_some h
 clear h
 have h:=hc
 clear hc
 refine Cut.mkS oc (Y:=List T_api_Trace) (fun y76=>mkSt [(2,.im (.ref (c_api_Obs o_))),(4,.own 64 1 0),(6,.osl 65 1)] [(64,.box 42 2),(65,.row 55 2 (List.map c_api_Trace y76))] [(64,0,.im (nI 0)),(64,1,.im (.val (.slice none 0 0)))]) (fun y76=>lZ y76∧True) (by rintro y76;exact ((Holds.kdl 65 rfl).and (hT))) ?_ ?_
 conv=>whnf
 refine Loops.iter (fun (s:List T_api_Trace×Nat)=>observe_all.s2 o_ l_ s.1 s.2) (fun (y83,y84)=>mkSt [(2,.im (.ref (c_api_Obs o_))),(4,.own 64 1 0),(6,.osl 65 1),(15,.im (nL c_api_Trace l_)),(16,.im (nI (↑(List.length l_):Int))),(17,.im (nI (↑y84:Int)))] [(64,.box 42 2),(65,.row 55 2 (List.map c_api_Trace y83))] [(64,0,.im (nI 0)),(64,1,.im (.val (.slice none 0 0)))]) (fun (y83,y84)=>lZ l_∧lZ y83∧True) h (eA [(64,some 4),(65,some 14)]) (by rintro ⟨y83,y84⟩;exact ((Holds.avl 15 rfl).and ((Holds.kdl 65 rfl).and (hT)))) ?_
 clear h
 rintro k ⟨y83,y84⟩ o hp h ho91
 replace h:observe_all.s2 o_ l_ y83 y84=some o:=h
 unfold observe_all.s2 at h
 obtain ⟨z98,z99,_⟩:=hp
 conv=>whnf
 refine Both.mk ?_ ?_<;>intro b92
 obtain ⟨h,b92d⟩:=ctd b92 h
 conv=>whnf
 obtain ⟨e93,he93,h⟩:=idxn_some h
 refine ⟨_,⟨(by omega),map_at he93,rfl⟩,?_⟩
 conv=>whnf
 refine Side.mk rfl ?_
 conv=>whnf
 refine Side.mk rfl ?_
 conv=>whnf
 obtain ⟨c94,hc94,h⟩:=bind_some h
 refine ⟨_,(sp_observe_proper e93 o_.Inputs c94 (fun _ _=>hc94)),?_⟩
 conv=>whnf
 refine Both.mk ?_ ?_<;>intro b95
 obtain ⟨h,b95d⟩:=ctd b95 h
 conv=>whnf
 refine Side.mk rfl ?_
 conv=>whnf
 cases h
 have ho91:_=_:=ho91
 cases ho91
 replace h:some _=some _:=hk52
 cases h
 conv=>whnf
 refine Side.mk ⟨rfl,trivial⟩ ?_
 conv=>whnf
 exact ⟨rfl,rfl⟩
 obtain ⟨h,b95d⟩:=cfd b95 h
 conv=>whnf
 refine Side.mk rfl ?_
 conv=>whnf
 refine Side.mk ⟨rfl,trivial⟩ ?_
 conv=>whnf
 obtain ⟨c96,hc96,h⟩:=bind_some h
 refine ⟨_,(sp_observe_add y83 e93 c96 (fun _ _=>hc96)),?_⟩
 conv=>whnf
 refine Both.mk ?_ ?_<;>intro b97
 obtain ⟨h,b97d⟩:=ctd b97 h
 conv=>whnf
 refine Side.mk rfl ?_
 conv=>whnf
 cases h
 have ho91:_=_:=ho91
 cases ho91
 replace h:some _=some _:=hk52
 cases h
 conv=>whnf
 refine Side.mk ⟨rfl,trivial⟩ ?_
 conv=>whnf
 exact ⟨rfl,rfl⟩
 obtain ⟨h,b97d⟩:=cfd b97 h
 conv=>whnf
 refine Arith.mk (by show inR _;unfold inR;omega) ?_
 conv=>whnf
 cases h
 exact Nxt.mk _ ho91 (eA [(64,some 64),(65,some 3228)])
 obtain ⟨h,b92d⟩:=cfd b92 h
 conv=>whnf
 cases h
 have ho91:_=_:=ho91
 cases ho91
 exact JoinS.mk' _ rfl (eA [(64,some 64),(65,some 65)])
 rintro y76 rfl hp
 replace h:=sum_inl hk52
 obtain ⟨z100,_⟩:=hp
 conv=>whnf
 refine Side.mk rfl ?_
 conv=>whnf
 cases h
 conv=>whnf
 refine Side.mk ⟨rfl,trivial⟩ ?_
 conv=>whnf
 exact Side.mk ⟨rfl,trivial⟩ ⟨rfl,rfl⟩
theorem sp_observe_Add (o_:T_api_Obs) (t_:T_api_Trace) (r:T_api_Obs×Int) (h:Ok (.agg (c_api_Obs o_))→Ok (.agg (c_api_Trace t_))→observe_Add o_ t_=some r):Sp Tryz.prog 27 [.im (.agg (c_api_Obs o_)),.im (.agg (c_api_Trace t_))] (.tup [.agg (c_api_Obs r.1),nI r.2]):=by
 refine sp_of rfl [700002,700003] rfl rfl rfl (Nat.le_of_ble_eq_true rfl) rfl fun hk=>?_
 replace h:=h hk.1 hk.2.1
 have z1:lZ o_.Traces:=ok_len (Ok.agg_at hk.1 1 rfl)
 have z2:lZ t_.In:=ok_len (Ok.agg_at hk.2.1 0 rfl)
 have z3:lZ t_.Out:=ok_len (Ok.agg_at hk.2.1 1 rfl)
 unfold observe_Add at h
 conv=>whnf
 obtain ⟨c51,hc51,h⟩:=bind_some h
 refine ⟨_,(sp_observe_all o_ [t_] c51 (fun _ _=>hc51)),?_⟩
 conv=>whnf
 refine Side.mk rfl ?_
 conv=>whnf
 cases h
 conv=>whnf
 refine Side.mk ⟨rfl,trivial⟩ ?_
 conv=>whnf
 exact ⟨rfl,rfl⟩
theorem sp_nondet_Settle (l_:List T_api_Trace) (inputs_:Int) (r:T_api_Obs×List T_api_Clash×Int) (h:Ok (nL c_api_Trace l_)→Ok (nI inputs_)→nondet_Settle l_ inputs_=some r):Sp Tryz.prog 21 [.im (nL c_api_Trace l_),.im (nI inputs_)] (.tup [.agg (c_api_Obs r.1),nL c_api_Clash r.2.1,nI r.2.2]):=by
 refine sp_of rfl [] rfl rfl rfl (Nat.le_of_ble_eq_true rfl) rfl fun hk=>?_
 replace h:=h hk.1 hk.2.1
 have z1:lZ l_:=ok_len hk.1
 unfold nondet_Settle at h
 conv=>whnf
 obtain ⟨c51,hc51,h⟩:=bind_some h
 refine ⟨_,(sp_observe_New inputs_ c51 (fun _=>hc51)),?_⟩
 conv=>whnf
 refine Side.mk rfl ?_
 conv=>whnf
 refine Both.mk ?_ ?_<;>intro b52
 obtain ⟨h,b52d⟩:=ctd b52 h
 conv=>whnf
 refine Side.mk rfl ?_
 conv=>whnf
 cases h
 conv=>whnf
 refine Side.mk ⟨rfl,trivial⟩ ?_
 conv=>whnf
 exact ⟨rfl,rfl⟩
 obtain ⟨h,b52d⟩:=cfd b52 h
 conv=>whnf
 refine Nf.mk (List.length l_) len_map ?_
 conv=>whnf
 obtain ⟨oc,hc,hk53⟩:=bind_some h
 clear h
 have h:=hc
 clear hc
 refine Cut.mkS oc (Y:=Unit) (fun (_:Unit)=>mkSt [(0,.im (nL c_api_Trace l_)),(4,.own 104 1 0),(7,.own 105 1 0)] [(104,.box 42 2),(105,.box 42 2)] [(104,0,.im (nI 0)),(104,1,.im (.val (.slice none 0 0))),(105,0,.im (nI c51.1.Inputs)),(105,1,.im (nL c_api_Trace c51.1.Traces))]) (fun (_:Unit)=>lZ l_∧lZ c51.1.Traces∧True) (by rintro ⟨⟩;exact ((Holds.avl 0 rfl).and ((Holds.cel 105 1 rfl (by decide) rfl).and (hT)))) ?_ ?_
 conv=>whnf
 refine Loops.iter (fun (s:Nat)=>nondet_Settle.s2 l_ inputs_ s) (fun y74=>mkSt [(0,.im (nL c_api_Trace l_)),(1,.im (nI inputs_)),(4,.own 104 1 0),(7,.own 105 1 0),(30,.im (nL c_api_Trace l_)),(31,.im (nI (↑(List.length l_):Int))),(32,.im (nI (↑y74:Int)))] [(104,.box 42 2),(105,.box 42 2)] [(104,0,.im (nI 0)),(104,1,.im (.val (.slice none 0 0))),(105,0,.im (nI c51.1.Inputs)),(105,1,.im (nL c_api_Trace c51.1.Traces))]) (fun y74=>lZ l_∧lZ c51.1.Traces∧True) h (eA [(104,some 4),(105,some 7)]) (by rintro y74;exact ((Holds.avl 0 rfl).and ((Holds.cel 105 1 rfl (by decide) rfl).and (hT)))) ?_
 clear h
 rintro k y74 o hp h ho79
 replace h:nondet_Settle.s2 l_ inputs_ y74=some o:=h
 unfold nondet_Settle.s2 at h
 obtain ⟨z84,z85,_⟩:=hp
 conv=>whnf
 refine Both.mk ?_ ?_<;>intro b80
 obtain ⟨h,b80d⟩:=ctd b80 h
 conv=>whnf
 obtain ⟨e81,he81,h⟩:=idxn_some h
 refine ⟨_,⟨(by omega),map_at he81,rfl⟩,?_⟩
 conv=>whnf
 refine Side.mk rfl ?_
 conv=>whnf
 refine Side.mk rfl ?_
 conv=>whnf
 obtain ⟨c82,hc82,h⟩:=bind_some h
 refine ⟨_,(sp_nondet_proper e81 inputs_ c82 (fun _ _=>hc82)),?_⟩
 conv=>whnf
 refine Both.mk ?_ ?_<;>intro b83
 obtain ⟨h,b83d⟩:=ctd b83 h
 conv=>whnf
 refine Side.mk rfl ?_
 conv=>whnf
 cases h
 have ho79:_=_:=ho79
 cases ho79
 replace h:some _=some _:=hk53
 cases h
 conv=>whnf
 refine Side.mk ⟨rfl,trivial⟩ ?_
 conv=>whnf
 exact ⟨rfl,rfl⟩
 obtain ⟨h,b83d⟩:=cfd b83 h
 conv=>whnf
 refine Arith.mk (by show inR _;unfold inR;omega) ?_
 conv=>whnf
 cases h
 exact Nxt.mk _ ho79 (eA [(104,some 104),(105,some 105)])
 obtain ⟨h,b80d⟩:=cfd b80 h
 conv=>whnf
 cases h
 have ho79:_=_:=ho79
 cases ho79
 exact JoinS.mk' _ rfl (eA [(104,some 104),(105,some 105)])
 rintro ⟨⟩ rfl hp
 replace h:=sum_inl hk53
 obtain ⟨z86,z87,_⟩:=hp
 conv=>whnf
 obtain ⟨c88,hc88,h⟩:=bind_some h
 refine ⟨_,(sp_nondet_Clashes l_ c88 (hc88)).im,?_⟩
 conv=>whnf
 refine Nf.mk (List.length c88) len_map ?_
 conv=>whnf
 obtain ⟨y105,hc,hk89⟩:=bind_some h
 clear h
 have h:=hc
 clear hc
 refine Cut.mk (mkSt [(0,.im (nL c_api_Trace l_)),(4,.own 104 1 0),(7,.own 105 1 0),(12,.im (nL c_api_Clash c88)),(13,.osl 106 1)] [(104,.box 42 2),(105,.box 42 2),(106,.map (mapV wS wB y105))] [(104,0,.im (nI 0)),(104,1,.im (.val (.slice none 0 0))),(105,0,.im (nI c51.1.Inputs)),(105,1,.im (nL c_api_Trace c51.1.Traces))]) (lZ l_∧lZ c88∧lZ c51.1.Traces∧True) ((Holds.avl 0 rfl).and ((Holds.avl 12 rfl).and ((Holds.cel 105 1 rfl (by decide) rfl).and (hT)))) ?_ (fun hp=>?_)
 conv=>whnf
 refine Loops.iter (fun (s:(List (ByteArray×Bool))×Nat)=>nondet_Settle.s4 c88 s.1 s.2) (fun (y109,y110)=>mkSt [(0,.im (nL c_api_Trace l_)),(4,.own 104 1 0),(7,.own 105 1 0),(12,.im (nL c_api_Clash c88)),(13,.osl 106 1),(47,.im (nL c_api_Clash c88)),(48,.im (nI (↑(List.length c88):Int))),(49,.im (nI (↑y110:Int)))] [(104,.box 42 2),(105,.box 42 2),(106,.map (mapV wS wB y109))] [(104,0,.im (nI 0)),(104,1,.im (.val (.slice none 0 0))),(105,0,.im (nI c51.1.Inputs)),(105,1,.im (nL c_api_Trace c51.1.Traces))]) (fun (y109,y110)=>lZ l_∧lZ c88∧lZ c51.1.Traces∧True) h (eA [(104,some 104),(105,some 105),(106,some 46)]) (by rintro ⟨y109,y110⟩;exact ((Holds.avl 0 rfl).and ((Holds.avl 12 rfl).and ((Holds.cel 105 1 rfl (by decide) rfl).and (hT))))) ?_
 clear h
 rintro k ⟨y109,y110⟩ o hp h ho114
 replace h:nondet_Settle.s4 c88 y109 y110=some o:=h
 unfold nondet_Settle.s4 at h
 obtain ⟨z118,z119,z120,_⟩:=hp
 conv=>whnf
 refine Both.mk ?_ ?_<;>intro b115
 obtain ⟨h,b115d⟩:=ctd b115 h
 conv=>whnf
 obtain ⟨e116,he116,h⟩:=idxn_some h
 refine ⟨_,⟨(by omega),map_at he116,rfl⟩,?_⟩
 conv=>whnf
 refine Side.mk rfl ?_
 conv=>whnf
 refine Side.mk rfl ?_
 conv=>whnf
 refine Side.mk rfl ?_
 conv=>whnf
 obtain ⟨c117,hc117,h⟩:=bind_some h
 refine ⟨_,(sp_nondet_key e116.Word c117 (hc117)),?_⟩
 conv=>whnf
 refine Side.mk rfl ?_
 conv=>whnf
 refine ⟨_,set_str _ true wB _,?_⟩
 conv=>whnf
 refine Arith.mk (by show inR _;unfold inR;omega) ?_
 conv=>whnf
 cases h
 exact Nxt.mk _ ho114 (eA [(104,some 104),(105,some 105),(106,some 106)])
 obtain ⟨h,b115d⟩:=cfd b115 h
 conv=>whnf
 cases h
 have ho114:_=_:=ho114
 cases ho114
 exact Join.mk (eA [(104,some 104),(105,some 105),(106,some 106)])
 replace h:=hk89
 obtain ⟨z121,z122,z123,_⟩:=hp
 conv=>whnf
 refine Nf.mk (List.length l_) len_map ?_
 conv=>whnf
 obtain ⟨oc,hc,hk124⟩:=bind_some h
 clear h
 have h:=hc
 clear hc
 refine Cut.mkS oc (Y:=Int×List T_api_Trace) (fun (y495,y496)=>mkSt [(4,.own 104 1 0),(7,.own 105 1 0),(12,.im (nL c_api_Clash c88))] [(104,.box 42 2),(105,.box 42 2)] [(104,0,.im (nI 0)),(104,1,.im (.val (.slice none 0 0))),(105,0,.im (nI y495)),(105,1,.im (nL c_api_Trace y496))]) (fun (y495,y496)=>lZ c88∧lZ y496∧True) (by rintro ⟨y495,y496⟩;exact ((Holds.avl 12 rfl).and ((Holds.cel 105 1 rfl (by decide) rfl).and (hT)))) ?_ ?_
 conv=>whnf
 refine Loops.iter (fun (s:Int×List T_api_Trace×Nat)=>nondet_Settle.s18 l_ y105 s.1 s.2.1 s.2.2) (fun (y618,y619,y620)=>mkSt [(4,.own 104 1 0),(7,.own 105 1 0),(12,.im (nL c_api_Clash c88)),(13,.osl 106 1),(58,.im (nL c_api_Trace l_)),(59,.im (nI (↑(List.length l_):Int))),(60,.im (nI (↑y620:Int)))] [(104,.box 42 2),(105,.box 42 2),(106,.map (mapV wS wB y105))] [(104,0,.im (nI 0)),(104,1,.im (.val (.slice none 0 0))),(105,0,.im (nI y618)),(105,1,.im (nL c_api_Trace y619))]) (fun (y618,y619,y620)=>lZ c88∧lZ l_∧lZ y619∧True) h (eA [(104,some 104),(105,some 105),(106,some 106)]) (by rintro ⟨y618,y619,y620⟩;exact ((Holds.avl 12 rfl).and ((Holds.avl 58 rfl).and ((Holds.cel 105 1 rfl (by decide) rfl).and (hT))))) ?_
 clear h
 rintro k ⟨y618,y619,y620⟩ o hp h ho742
 replace h:nondet_Settle.s18 l_ y105 y618 y619 y620=some o:=h
 unfold nondet_Settle.s18 at h
 obtain ⟨z864,z865,z866,_⟩:=hp
 conv=>whnf
 refine Both.mk ?_ ?_<;>intro b743
 obtain ⟨h,b743d⟩:=ctd b743 h
 conv=>whnf
 obtain ⟨e744,he744,h⟩:=idxn_some h
 refine ⟨_,⟨(by omega),map_at he744,rfl⟩,?_⟩
 conv=>whnf
 refine Side.mk rfl ?_
 conv=>whnf
 obtain ⟨n800,hc,hk745⟩:=bind_some h
 clear h
 have h:=hc
 clear hc
 refine Cut.mk (mkSt [(4,.own 104 1 0),(7,.own 105 1 0),(12,.im (nL c_api_Clash c88)),(13,.osl 106 1),(17,.own 107 1 0),(18,.im (nI (↑n800:Int))),(58,.im (nL c_api_Trace l_)),(59,.im (nI (↑(List.length l_):Int))),(60,.im (nI (↑y620:Int)))] [(104,.box 42 2),(105,.box 42 2),(106,.map (mapV wS wB y105)),(107,.box 55 2)] [(104,0,.im (nI 0)),(104,1,.im (.val (.slice none 0 0))),(105,0,.im (nI y618)),(105,1,.im (nL c_api_Trace y619)),(107,0,.im (nL cI e744.In)),(107,1,.im (nL cI e744.Out))]) (lZ c88∧lZ l_∧lZ y619∧lZ e744.In∧lZ e744.Out∧True) ((Holds.avl 12 rfl).and ((Holds.avl 58 rfl).and ((Holds.cel 105 1 rfl (by decide) rfl).and ((Holds.cel 107 0 rfl (by decide) rfl).and ((Holds.cel 107 1 rfl (by decide) rfl).and (hT)))))) ?_ (fun hp=>?_)
 conv=>whnf
 refine Loops.iter (fun (s:Nat)=>nondet_Settle.s17 y105 e744 s) (fun n816=>mkSt [(4,.own 104 1 0),(7,.own 105 1 0),(12,.im (nL c_api_Clash c88)),(13,.osl 106 1),(17,.own 107 1 0),(18,.im (nI (↑n816:Int))),(58,.im (nL c_api_Trace l_)),(59,.im (nI (↑(List.length l_):Int))),(60,.im (nI (↑y620:Int)))] [(104,.box 42 2),(105,.box 42 2),(106,.map (mapV wS wB y105)),(107,.box 55 2)] [(104,0,.im (nI 0)),(104,1,.im (.val (.slice none 0 0))),(105,0,.im (nI y618)),(105,1,.im (nL c_api_Trace y619)),(107,0,.im (nL cI e744.In)),(107,1,.im (nL cI e744.Out))]) (fun n816=>lZ c88∧lZ l_∧lZ y619∧lZ e744.In∧lZ e744.Out∧True) h (eA [(104,some 104),(105,some 105),(106,some 106),(107,some 17)]) (by rintro n816;exact ((Holds.avl 12 rfl).and ((Holds.avl 58 rfl).and ((Holds.cel 105 1 rfl (by decide) rfl).and ((Holds.cel 107 0 rfl (by decide) rfl).and ((Holds.cel 107 1 rfl (by decide) rfl).and (hT))))))) ?_
 clear h
 rintro k n816 o hp h ho833
 replace h:nondet_Settle.s17 y105 e744 n816=some o:=h
 unfold nondet_Settle.s17 at h
 obtain ⟨z850,z851,z852,z853,z854,_⟩:=hp
 conv=>whnf
 obtain ⟨y839,hc,hk835⟩:=bind_some h
 clear h
 have h:=hc
 clear hc
 refine Cut.mk (mkSt [(4,.own 104 1 0),(7,.own 105 1 0),(12,.im (nL c_api_Clash c88)),(13,.osl 106 1),(17,.own 107 1 0),(18,.im (nI (↑n816:Int))),(58,.im (nL c_api_Trace l_)),(59,.im (nI (↑(List.length l_):Int))),(60,.im (nI (↑y620:Int))),(79,.im (nB y839))] [(104,.box 42 2),(105,.box 42 2),(106,.map (mapV wS wB y105)),(107,.box 55 2)] [(104,0,.im (nI 0)),(104,1,.im (.val (.slice none 0 0))),(105,0,.im (nI y618)),(105,1,.im (nL c_api_Trace y619)),(107,0,.im (nL cI e744.In)),(107,1,.im (nL cI e744.Out))]) (lZ c88∧lZ l_∧lZ y619∧lZ e744.In∧lZ e744.Out∧True) ((Holds.avl 12 rfl).and ((Holds.avl 58 rfl).and ((Holds.cel 105 1 rfl (by decide) rfl).and ((Holds.cel 107 0 rfl (by decide) rfl).and ((Holds.cel 107 1 rfl (by decide) rfl).and (hT)))))) ?_ (fun hp=>?_)
 conv=>whnf
 refine Side.mk rfl ?_
 conv=>whnf
 refine Side.mk rfl ?_
 conv=>whnf
 refine Nf.mk (List.length e744.In) len_map ?_
 conv=>whnf
 refine Both.mk ?_ ?_<;>intro b840
 replace b840:=beq_tt b840
 obtain ⟨h,b840d⟩:=ctd b840 h
 conv=>whnf
 refine Both.yes (tt_beq b840) ?_
 conv=>whnf
 refine Side.mk rfl ?_
 conv=>whnf
 refine Both.yes (tt_beq b840) ?_
 conv=>whnf
 refine Side.mk rfl ?_
 conv=>whnf
 iterate 2 (refine Both.yes (tt_beq b840) ?_;(conv=>whnf))
 refine Arith.mk (by show inR _;unfold inR;omega) ?_
 conv=>whnf
 refine Both.yes (tt_beq b840) ?_
 conv=>whnf
 obtain ⟨c841,h⟩:=chk_some h
 refine Side.mk (show (0:Int)≤(0:Int)∧(0:Int)≤((↑n816:Int)+1)∧((↑n816:Int)+1)≤(↑(List.length (List.map cI e744.In)):Int)∧(∀ e∈List.map cI e744.In,List.length e=1) from ⟨by omega,by first | omega | (simp only [List.length_map];omega),by first | omega | (simp only [List.length_map];omega),map_len fun _=>rfl⟩) ?_
 conv=>whnf
 refine Nf.mk (List.map cI (List.take (n816+1) e744.In)) take_map ?_
 conv=>whnf
 refine Both.yes (tt_beq b840) ?_
 conv=>whnf
 obtain ⟨c842,hc842,h⟩:=bind_some h
 refine ⟨_,(sp_nondet_key (List.take (n816+1) e744.In) c842 (hc842)),?_⟩
 conv=>whnf
 refine Both.yes (tt_beq b840) ?_
 conv=>whnf
 refine Side.mk rfl ?_
 conv=>whnf
 refine ⟨_,find_str _ wB _,?_⟩
 conv=>whnf
 refine Nf.mk (wB ((mget c842 y105).getD false)) (getD_map rfl _) ?_
 conv=>whnf
 refine Both.yes (tt_beq b840) ?_
 conv=>whnf
 refine Both.yes b840 ?_
 conv=>whnf
 cases h
 exact Join.mk (eA [(104,some 104),(105,some 105),(106,some 106),(107,some 107)])
 replace b840:=beq_tf b840
 obtain ⟨h,b840d⟩:=cfd b840 h
 conv=>whnf
 iterate 8 (refine Both.no (ft_beq b840) ?_;(conv=>whnf))
 refine Both.no b840 ?_
 conv=>whnf
 cases h
 exact Join.mk (eA [(104,some 104),(105,some 105),(106,some 106),(107,some 107)])
 replace h:=hk835
 obtain ⟨z843,z844,z845,z846,z847,_⟩:=hp
 conv=>whnf
 refine Both.mk ?_ ?_<;>intro b848
 replace h:=cond_t b848 h
 conv=>whnf
 obtain ⟨c849,h⟩:=chk_some h
 refine Arith.mk c849 ?_
 conv=>whnf
 cases h
 exact Nxt.mk _ ho833 (eA [(104,some 104),(105,some 105),(106,some 106),(107,some 107)])
 replace h:=cond_f b848 h
 conv=>whnf
 cases h
 have ho833:_=_:=ho833
 cases ho833
 exact Join.mk (eA [(104,some 104),(105,some 105),(106,some 106),(107,some 107)])
 replace h:=hk745
 obtain ⟨z855,z856,z857,z858,z859,_⟩:=hp
 conv=>whnf
 refine Side.mk rfl ?_
 conv=>whnf
 refine Side.mk rfl ?_
 conv=>whnf
 refine Side.mk rfl ?_
 conv=>whnf
 obtain ⟨c860,h⟩:=chk_some h
 refine Side.mk (show (0:Int)≤(0:Int)∧(0:Int)≤(↑n800:Int)∧(↑n800:Int)≤(↑(List.length (List.map cI e744.In)):Int)∧(∀ e∈List.map cI e744.In,List.length e=1) from ⟨by omega,by first | omega | (simp only [List.length_map];omega),by first | omega | (simp only [List.length_map];omega),map_len fun _=>rfl⟩) ?_
 conv=>whnf
 refine Nf.mk (List.map cI (List.take n800 e744.In)) take_map ?_
 conv=>whnf
 refine Side.mk rfl ?_
 conv=>whnf
 refine Side.mk rfl ?_
 conv=>whnf
 obtain ⟨c861,h⟩:=chk_some h
 refine Side.mk (show (0:Int)≤(0:Int)∧(0:Int)≤(↑n800:Int)∧(↑n800:Int)≤(↑(List.length (List.map cI e744.Out)):Int)∧(∀ e∈List.map cI e744.Out,List.length e=1) from ⟨by omega,by first | omega | (simp only [List.length_map];omega),by first | omega | (simp only [List.length_map];omega),map_len fun _=>rfl⟩) ?_
 conv=>whnf
 refine Nf.mk (List.map cI (List.take n800 e744.Out)) take_map ?_
 conv=>whnf
 obtain ⟨c862,hc862,h⟩:=bind_some h
 refine ⟨_,(sp_observe_Add (⟨y618,y619⟩:T_api_Obs) (⟨(List.take n800 e744.In),(List.take n800 e744.Out)⟩:T_api_Trace) c862 (fun _ _=>hc862)),?_⟩
 conv=>whnf
 refine Side.mk rfl ?_
 conv=>whnf
 refine Both.mk ?_ ?_<;>intro b863
 obtain ⟨h,b863d⟩:=ctd b863 h
 conv=>whnf
 refine Side.mk rfl ?_
 conv=>whnf
 cases h
 have ho742:_=_:=ho742
 cases ho742
 replace h:some _=some _:=hk124
 cases h
 conv=>whnf
 refine Side.mk ⟨rfl,trivial⟩ ?_
 conv=>whnf
 exact ⟨rfl,rfl⟩
 obtain ⟨h,b863d⟩:=cfd b863 h
 conv=>whnf
 refine Side.mk rfl ?_
 conv=>whnf
 refine Side.mk rfl ?_
 conv=>whnf
 refine Arith.mk (by show inR _;unfold inR;omega) ?_
 conv=>whnf
 cases h
 exact Nxt.mk _ ho742 (eA [(104,some 104),(105,some 105),(106,some 106)])
 obtain ⟨h,b743d⟩:=cfd b743 h
 conv=>whnf
 cases h
 have ho742:_=_:=ho742
 cases ho742
 exact JoinS.mk' _ rfl (eA [(104,some 104),(105,some 105)])
 rintro ⟨y495,y496⟩ rfl hp
 have hx_:=sum_inl hk124
 replace h:nondet_Settle.k19 c88 y495 y496=some _:=hx_
 clear hx_
 unfold nondet_Settle.k19 at h
 obtain ⟨z867,z868,_⟩:=hp
 conv=>whnf
 refine Side.mk rfl ?_
 conv=>whnf
 refine Side.mk rfl ?_
 conv=>whnf
 cases h
 conv=>whnf
 refine Side.mk ⟨rfl,trivial⟩ ?_
 conv=>whnf
 exact ⟨rfl,rfl⟩
theorem sp_R18_Same (a_:List T_api_Clash) (b_:List T_api_Clash) (r:Bool) (h:Ok (nL c_api_Clash a_)→Ok (nL c_api_Clash b_)→R18_Same a_ b_=some r):Sp Tryz.prog 18 [.im (nL c_api_Clash a_),.im (nL c_api_Clash b_)] (.im (nB r)):=by
 refine sp_of rfl [] rfl rfl rfl (Nat.le_of_ble_eq_true rfl) rfl fun hk=>?_
 replace h:=h hk.1 hk.2.1
 have z1:lZ a_:=ok_len hk.1
 have z2:lZ b_:=ok_len hk.2.1
 unfold R18_Same at h
 conv=>whnf
 refine Nf.mk (List.length a_) len_map ?_
 conv=>whnf
 refine Nf.mk (List.length b_) len_map ?_
 conv=>whnf
 refine Both.mk ?_ ?_<;>intro b51
 obtain ⟨h,b51d⟩:=ctd b51 h
 conv=>whnf
 cases h
 conv=>whnf
 exact ⟨rfl,rfl⟩
 obtain ⟨h,b51d⟩:=cfd b51 h
 conv=>whnf
 obtain ⟨oc,hc,hk52⟩:=bind_some h
 clear h
 have h:=hc
 clear hc
 refine Cut.mkS oc (Y:=Unit) (fun (_:Unit)=>mkSt [] [] []) (fun (_:Unit)=>True) (by rintro ⟨⟩;exact (hT)) ?_ ?_
 conv=>whnf
 refine Loops.iter (fun (s:Nat)=>R18_Same.s2 a_ b_ s) (fun i157=>mkSt [(0,.im (nL c_api_Clash a_)),(1,.im (nL c_api_Clash b_)),(5,.im (nI (↑i157:Int)))] [] []) (fun i157=>lZ a_∧lZ b_∧True) h (eA []) (by rintro i157;exact ((Holds.avl 0 rfl).and ((Holds.avl 1 rfl).and (hT)))) ?_
 clear h
 rintro k i157 o hp h ho183
 replace h:R18_Same.s2 a_ b_ i157=some o:=h
 unfold R18_Same.s2 at h
 obtain ⟨z209,z210,_⟩:=hp
 conv=>whnf
 refine Nf.mk (List.length a_) len_map ?_
 conv=>whnf
 refine Both.mk ?_ ?_<;>intro b184
 obtain ⟨h,b184d⟩:=ctd b184 h
 conv=>whnf
 obtain ⟨y196,hc,hk186⟩:=bind_some h
 clear h
 have h:=hc
 clear hc
 refine Cut.mk (mkSt [(0,.im (nL c_api_Clash a_)),(1,.im (nL c_api_Clash b_)),(5,.im (nI (↑i157:Int))),(54,.im (nB y196))] [] []) (lZ a_∧lZ b_∧True) ((Holds.avl 0 rfl).and ((Holds.avl 1 rfl).and (hT))) ?_ (fun hp=>?_)
 conv=>whnf
 obtain ⟨e197,he197,h⟩:=idxn_some h
 refine ⟨_,⟨(by omega),map_at he197,rfl⟩,?_⟩
 conv=>whnf
 obtain ⟨e198,he198,h⟩:=idxn_some h
 refine ⟨_,⟨(by omega),map_at he198,rfl⟩,?_⟩
 conv=>whnf
 obtain ⟨c199,hc199,h⟩:=bind_some h
 refine ⟨_,(sp_R01_Same e197.Word e198.Word c199 (fun _ _=>hc199)),?_⟩
 conv=>whnf
 refine Both.mk ?_ ?_<;>intro b200
 replace b200:=beq_ff b200
 replace h:=cond_f b200 h
 conv=>whnf
 iterate 2 (refine Both.yes (ff_beq b200) ?_;(conv=>whnf))
 obtain ⟨e201,he201,h⟩:=idxn_some h
 refine ⟨_,⟨(by omega),map_at he201,rfl⟩,?_⟩
 conv=>whnf
 iterate 5 (refine Both.yes (ff_beq b200) ?_;(conv=>whnf))
 obtain ⟨e202,he202,h⟩:=idxn_some h
 refine ⟨_,⟨(by omega),map_at he202,rfl⟩,?_⟩
 conv=>whnf
 iterate 3 (refine Both.yes (ff_beq b200) ?_;(conv=>whnf))
 refine Both.no b200 ?_
 conv=>whnf
 refine Both.mk ?_ ?_<;>intro b203
 replace b203:=beq_ff b203
 obtain ⟨h,b203d⟩:=cfd b203 h
 conv=>whnf
 iterate 2 (refine Both.yes (ff_beq b203) ?_;(conv=>whnf))
 obtain ⟨e204,he204,h⟩:=idxn_some h
 refine ⟨_,⟨(by omega),map_at he204,rfl⟩,?_⟩
 conv=>whnf
 iterate 5 (refine Both.yes (ff_beq b203) ?_;(conv=>whnf))
 obtain ⟨e205,he205,h⟩:=idxn_some h
 refine ⟨_,⟨(by omega),map_at he205,rfl⟩,?_⟩
 conv=>whnf
 iterate 3 (refine Both.yes (ff_beq b203) ?_;(conv=>whnf))
 refine Both.no b203 ?_
 conv=>whnf
 cases h
 exact Join.mk (eA [])
 replace b203:=beq_ft b203
 obtain ⟨h,b203d⟩:=ctd b203 h
 conv=>whnf
 iterate 10 (refine Both.no (tf_beq b203) ?_;(conv=>whnf))
 refine Both.yes b203 ?_
 conv=>whnf
 cases h
 exact Join.mk (eA [])
 replace b200:=beq_ft b200
 replace h:=cond_t b200 h
 conv=>whnf
 iterate 10 (refine Both.no (tf_beq b200) ?_;(conv=>whnf))
 refine Both.yes b200 ?_
 conv=>whnf
 iterate 11 (refine Both.no rfl ?_;(conv=>whnf))
 refine Both.yes rfl ?_
 conv=>whnf
 cases h
 exact Join.mk (eA [])
 replace h:=hk186
 obtain ⟨z206,z207,_⟩:=hp
 conv=>whnf
 refine Both.mk ?_ ?_<;>intro b208
 replace h:=cond_t b208 h
 conv=>whnf
 cases h
 have ho183:_=_:=ho183
 cases ho183
 replace h:some _=some _:=hk52
 cases h
 conv=>whnf
 exact ⟨rfl,rfl⟩
 replace h:=cond_f b208 h
 conv=>whnf
 refine Arith.mk (by show inR _;unfold inR;omega) ?_
 conv=>whnf
 cases h
 exact Nxt.mk _ ho183 (eA [])
 obtain ⟨h,b184d⟩:=cfd b184 h
 conv=>whnf
 cases h
 have ho183:_=_:=ho183
 cases ho183
 exact JoinS.mk' _ rfl (eA [])
 rintro ⟨⟩ rfl hp
 replace h:=sum_inl hk52
 conv=>whnf
 cases h
 conv=>whnf
 exact ⟨rfl,rfl⟩
theorem sp_R06_Ints (a_:List Int) (b_:List Int) (r:Bool) (h:Ok (nL cI a_)→Ok (nL cI b_)→R06_Ints a_ b_=some r):Sp Tryz.prog 75 [.im (nL cI a_),.im (nL cI b_)] (.im (nB r)):=by
 refine sp_of rfl [] rfl rfl rfl (Nat.le_of_ble_eq_true rfl) rfl fun hk=>?_
 replace h:=h hk.1 hk.2.1
 have z1:lZ a_:=ok_len hk.1
 have z2:lZ b_:=ok_len hk.2.1
 unfold R06_Ints at h
 conv=>whnf
 refine Nf.mk (List.length a_) len_map ?_
 conv=>whnf
 refine Nf.mk (List.length b_) len_map ?_
 conv=>whnf
 refine Both.mk ?_ ?_<;>intro b51
 obtain ⟨h,b51d⟩:=ctd b51 h
 conv=>whnf
 cases h
 conv=>whnf
 exact ⟨rfl,rfl⟩
 obtain ⟨h,b51d⟩:=cfd b51 h
 conv=>whnf
 obtain ⟨oc,hc,hk52⟩:=bind_some h
 clear h
 have h:=hc
 clear hc
 refine Cut.mkS oc (Y:=Unit) (fun (_:Unit)=>mkSt [] [] []) (fun (_:Unit)=>True) (by rintro ⟨⟩;exact (hT)) ?_ ?_
 conv=>whnf
 refine Loops.iter (fun (s:Nat)=>R06_Ints.s2 a_ b_ s) (fun i73=>mkSt [(0,.im (nL cI a_)),(1,.im (nL cI b_)),(5,.im (nI (↑i73:Int)))] [] []) (fun i73=>lZ a_∧lZ b_∧True) h (eA []) (by rintro i73;exact ((Holds.avl 0 rfl).and ((Holds.avl 1 rfl).and (hT)))) ?_
 clear h
 rintro k i73 o hp h ho78
 replace h:R06_Ints.s2 a_ b_ i73=some o:=h
 unfold R06_Ints.s2 at h
 obtain ⟨z83,z84,_⟩:=hp
 conv=>whnf
 refine Nf.mk (List.length a_) len_map ?_
 conv=>whnf
 refine Both.mk ?_ ?_<;>intro b79
 obtain ⟨h,b79d⟩:=ctd b79 h
 conv=>whnf
 obtain ⟨e80,he80,h⟩:=idxn_some h
 refine ⟨_,⟨(by omega),map_at he80,rfl⟩,?_⟩
 conv=>whnf
 obtain ⟨e81,he81,h⟩:=idxn_some h
 refine ⟨_,⟨(by omega),map_at he81,rfl⟩,?_⟩
 conv=>whnf
 refine Both.mk ?_ ?_<;>intro b82
 obtain ⟨h,b82d⟩:=ctd b82 h
 conv=>whnf
 cases h
 have ho78:_=_:=ho78
 cases ho78
 replace h:some _=some _:=hk52
 cases h
 conv=>whnf
 exact ⟨rfl,rfl⟩
 obtain ⟨h,b82d⟩:=cfd b82 h
 conv=>whnf
 refine Arith.mk (by show inR _;unfold inR;omega) ?_
 conv=>whnf
 cases h
 exact Nxt.mk _ ho78 (eA [])
 obtain ⟨h,b79d⟩:=cfd b79 h
 conv=>whnf
 cases h
 have ho78:_=_:=ho78
 cases ho78
 exact JoinS.mk' _ rfl (eA [])
 rintro ⟨⟩ rfl hp
 replace h:=sum_inl hk52
 conv=>whnf
 cases h
 conv=>whnf
 exact ⟨rfl,rfl⟩
theorem sp_R06_SameTraces (a_:List T_api_Trace) (b_:List T_api_Trace) (r:Bool) (h:Ok (nL c_api_Trace a_)→Ok (nL c_api_Trace b_)→R06_SameTraces a_ b_=some r):Sp Tryz.prog 53 [.im (nL c_api_Trace a_),.im (nL c_api_Trace b_)] (.im (nB r)):=by
 refine sp_of rfl [] rfl rfl rfl (Nat.le_of_ble_eq_true rfl) rfl fun hk=>?_
 replace h:=h hk.1 hk.2.1
 have z1:lZ a_:=ok_len hk.1
 have z2:lZ b_:=ok_len hk.2.1
 unfold R06_SameTraces at h
 conv=>whnf
 refine Nf.mk (List.length a_) len_map ?_
 conv=>whnf
 refine Nf.mk (List.length b_) len_map ?_
 conv=>whnf
 refine Both.mk ?_ ?_<;>intro b51
 obtain ⟨h,b51d⟩:=ctd b51 h
 conv=>whnf
 cases h
 conv=>whnf
 exact ⟨rfl,rfl⟩
 obtain ⟨h,b51d⟩:=cfd b51 h
 conv=>whnf
 obtain ⟨oc,hc,hk52⟩:=bind_some h
 clear h
 have h:=hc
 clear hc
 refine Cut.mkS oc (Y:=Unit) (fun (_:Unit)=>mkSt [] [] []) (fun (_:Unit)=>True) (by rintro ⟨⟩;exact (hT)) ?_ ?_
 conv=>whnf
 refine Loops.iter (fun (s:Nat)=>R06_SameTraces.s2 a_ b_ s) (fun i141=>mkSt [(0,.im (nL c_api_Trace a_)),(1,.im (nL c_api_Trace b_)),(5,.im (nI (↑i141:Int)))] [] []) (fun i141=>lZ a_∧lZ b_∧True) h (eA []) (by rintro i141;exact ((Holds.avl 0 rfl).and ((Holds.avl 1 rfl).and (hT)))) ?_
 clear h
 rintro k i141 o hp h ho163
 replace h:R06_SameTraces.s2 a_ b_ i141=some o:=h
 unfold R06_SameTraces.s2 at h
 obtain ⟨z185,z186,_⟩:=hp
 conv=>whnf
 refine Nf.mk (List.length a_) len_map ?_
 conv=>whnf
 refine Both.mk ?_ ?_<;>intro b164
 obtain ⟨h,b164d⟩:=ctd b164 h
 conv=>whnf
 obtain ⟨y174,hc,hk166⟩:=bind_some h
 clear h
 have h:=hc
 clear hc
 refine Cut.mk (mkSt [(0,.im (nL c_api_Trace a_)),(1,.im (nL c_api_Trace b_)),(5,.im (nI (↑i141:Int))),(42,.im (nB y174))] [] []) (lZ a_∧lZ b_∧True) ((Holds.avl 0 rfl).and ((Holds.avl 1 rfl).and (hT))) ?_ (fun hp=>?_)
 conv=>whnf
 obtain ⟨e175,he175,h⟩:=idxn_some h
 refine ⟨_,⟨(by omega),map_at he175,rfl⟩,?_⟩
 conv=>whnf
 obtain ⟨e176,he176,h⟩:=idxn_some h
 refine ⟨_,⟨(by omega),map_at he176,rfl⟩,?_⟩
 conv=>whnf
 obtain ⟨c177,hc177,h⟩:=bind_some h
 refine ⟨_,(sp_R06_Ints e175.In e176.In c177 (fun _ _=>hc177)),?_⟩
 conv=>whnf
 refine Both.mk ?_ ?_<;>intro b178
 replace b178:=beq_ff b178
 replace h:=cond_f b178 h
 conv=>whnf
 iterate 2 (refine Both.yes (ff_beq b178) ?_;(conv=>whnf))
 obtain ⟨e179,he179,h⟩:=idxn_some h
 refine ⟨_,⟨(by omega),map_at he179,rfl⟩,?_⟩
 conv=>whnf
 iterate 5 (refine Both.yes (ff_beq b178) ?_;(conv=>whnf))
 obtain ⟨e180,he180,h⟩:=idxn_some h
 refine ⟨_,⟨(by omega),map_at he180,rfl⟩,?_⟩
 conv=>whnf
 iterate 3 (refine Both.yes (ff_beq b178) ?_;(conv=>whnf))
 obtain ⟨c181,hc181,h⟩:=bind_some h
 refine ⟨_,(sp_R06_Ints e179.Out e180.Out c181 (fun _ _=>hc181)),?_⟩
 conv=>whnf
 refine Both.yes (ff_beq b178) ?_
 conv=>whnf
 refine Both.no b178 ?_
 conv=>whnf
 cases h
 exact Join.mk (eA [])
 replace b178:=beq_ft b178
 replace h:=cond_t b178 h
 conv=>whnf
 iterate 11 (refine Both.no (tf_beq b178) ?_;(conv=>whnf))
 refine Both.yes b178 ?_
 conv=>whnf
 cases h
 exact Join.mk (eA [])
 replace h:=hk166
 obtain ⟨z182,z183,_⟩:=hp
 conv=>whnf
 refine Both.mk ?_ ?_<;>intro b184
 replace h:=cond_t b184 h
 conv=>whnf
 cases h
 have ho163:_=_:=ho163
 cases ho163
 replace h:some _=some _:=hk52
 cases h
 conv=>whnf
 exact ⟨rfl,rfl⟩
 replace h:=cond_f b184 h
 conv=>whnf
 refine Arith.mk (by show inR _;unfold inR;omega) ?_
 conv=>whnf
 cases h
 exact Nxt.mk _ ho163 (eA [])
 obtain ⟨h,b164d⟩:=cfd b164 h
 conv=>whnf
 cases h
 have ho163:_=_:=ho163
 cases ho163
 exact JoinS.mk' _ rfl (eA [])
 rintro ⟨⟩ rfl hp
 replace h:=sum_inl hk52
 conv=>whnf
 cases h
 conv=>whnf
 exact ⟨rfl,rfl⟩
theorem sp_R16_Same (a_:T_api_Obs) (b_:T_api_Obs) (r:Bool) (h:Ok (.agg (c_api_Obs a_))→Ok (.agg (c_api_Obs b_))→R16_Same a_ b_=some r):Sp Tryz.prog 23 [.im (.agg (c_api_Obs a_)),.im (.agg (c_api_Obs b_))] (.im (nB r)):=by
 refine sp_of rfl [700002,700003] rfl rfl rfl (Nat.le_of_ble_eq_true rfl) rfl fun hk=>?_
 replace h:=h hk.1 hk.2.1
 have z1:lZ a_.Traces:=ok_len (Ok.agg_at hk.1 1 rfl)
 have z2:lZ b_.Traces:=ok_len (Ok.agg_at hk.2.1 1 rfl)
 unfold R16_Same at h
 conv=>whnf
 obtain ⟨y55,hc,hk52⟩:=bind_some h
 clear h
 have h:=hc
 clear hc
 refine Cut.mk (mkSt [(4,.im (nB y55))] [] []) (True) (hT) ?_ (fun hp=>?_)
 conv=>whnf
 refine Both.mk ?_ ?_<;>intro b56
 replace b56:=beq_tt b56
 obtain ⟨h,b56d⟩:=ctd b56 h
 conv=>whnf
 iterate 4 (refine Both.yes (tt_beq b56) ?_;(conv=>whnf))
 obtain ⟨c57,hc57,h⟩:=bind_some h
 refine ⟨_,(sp_R06_SameTraces a_.Traces b_.Traces c57 (fun _ _=>hc57)),?_⟩
 conv=>whnf
 refine Both.yes b56 ?_
 conv=>whnf
 cases h
 exact Join.mk (eA [])
 replace b56:=beq_tf b56
 obtain ⟨h,b56d⟩:=cfd b56 h
 conv=>whnf
 iterate 4 (refine Both.no (ft_beq b56) ?_;(conv=>whnf))
 refine Both.no b56 ?_
 conv=>whnf
 cases h
 exact Join.mk (eA [])
 replace h:=hk52
 conv=>whnf
 cases h
 conv=>whnf
 exact ⟨rfl,rfl⟩
theorem sp_L18_awake (r:Bool) (h:L18_awake=some r):Sp Tryz.prog 10 [] (.im (nB r)):=by
 refine sp_of rfl [] rfl rfl rfl (Nat.le_of_ble_eq_true rfl) rfl fun hk=>?_
 unfold L18_awake at h
 conv=>whnf
 obtain ⟨c51,hc51,h⟩:=bind_some h
 refine ⟨_,(sp_nondet_Vote [[1,2],[1,0],[1,2],[1,0]] 2 c51 (fun _ _=>hc51)),?_⟩
 conv=>whnf
 obtain ⟨c52,hc52,h⟩:=bind_some h
 refine ⟨_,(sp_nondet_Vote [[1,2],[1,0],[1,2],[1,0]] 3 c52 (fun _ _=>hc52)),?_⟩
 conv=>whnf
 obtain ⟨c53,hc53,h⟩:=bind_some h
 refine ⟨_,(sp_nondet_Vote [[1,2],[1,0],[1,2],[1,0]] 10 c53 (fun _ _=>hc53)),?_⟩
 conv=>whnf
 obtain ⟨c54,hc54,h⟩:=bind_some h
 refine ⟨_,(sp_nondet_Distinct [[1,2],[1,0],[1,2],[1,0]] c54 (fun _=>hc54)),?_⟩
 conv=>whnf
 obtain ⟨c55,hc55,h⟩:=bind_some h
 refine ⟨_,(sp_nondet_Settle [(⟨[0,1],[1,2]⟩:T_api_Trace),(⟨[0,1,1],[1,0,0]⟩:T_api_Trace),(⟨[0],[1]⟩:T_api_Trace)] 2 c55 (fun _ _=>hc55)),?_⟩
 conv=>whnf
 refine Side.mk rfl ?_
 conv=>whnf
 obtain ⟨y75,hc,hk57⟩:=bind_some h
 clear h
 have h:=hc
 clear hc
 refine Cut.mk (mkSt [(0,.im (nB y75))] [] []) (True) (hT) ?_ (fun hp=>?_)
 conv=>whnf
 obtain ⟨c76,hc76,h⟩:=bind_some h
 refine ⟨_,(sp_R01_Same c51.1 [1,2] c76 (fun _ _=>hc76)),?_⟩
 conv=>whnf
 refine Both.mk ?_ ?_<;>intro b77
 replace b77:=beq_tt b77
 replace h:=cond_t b77 h
 conv=>whnf
 refine Both.yes (tt_beq b77) ?_
 conv=>whnf
 refine Both.yes b77 ?_
 conv=>whnf
 refine Both.mk ?_ ?_<;>intro b78
 replace b78:=beq_tt b78
 obtain ⟨h,b78d⟩:=ctd b78 h
 conv=>whnf
 refine Both.yes (tt_beq b78) ?_
 conv=>whnf
 refine Both.yes b78 ?_
 conv=>whnf
 refine Both.mk ?_ ?_<;>intro b79
 replace b79:=beq_tt b79
 obtain ⟨h,b79d⟩:=ctd b79 h
 conv=>whnf
 refine Both.yes (tt_beq b79) ?_
 conv=>whnf
 refine Both.yes b79 ?_
 conv=>whnf
 refine Both.mk ?_ ?_<;>intro b80
 replace b80:=beq_tt b80
 obtain ⟨h,b80d⟩:=ctd b80 h
 conv=>whnf
 iterate 4 (refine Both.yes (tt_beq b80) ?_;(conv=>whnf))
 obtain ⟨c81,hc81,h⟩:=bind_some h
 refine ⟨_,(sp_R01_SameWords c54.1 [[1,0],[1,2]] c81 (fun _ _=>hc81)),?_⟩
 conv=>whnf
 refine Both.yes b80 ?_
 conv=>whnf
 refine Both.mk ?_ ?_<;>intro b82
 replace b82:=beq_tt b82
 replace h:=cond_t b82 h
 conv=>whnf
 iterate 2 (refine Both.yes (tt_beq b82) ?_;(conv=>whnf))
 obtain ⟨c83,hc83,h⟩:=bind_some h
 refine ⟨_,(sp_R01_Same c54.2 [2,2] c83 (fun _ _=>hc83)),?_⟩
 conv=>whnf
 refine Both.yes b82 ?_
 conv=>whnf
 refine Both.mk ?_ ?_<;>intro b84
 replace b84:=beq_tt b84
 replace h:=cond_t b84 h
 conv=>whnf
 refine Both.yes (tt_beq b84) ?_
 conv=>whnf
 obtain ⟨c85,hc85,h⟩:=bind_some h
 refine ⟨_,(sp_nondet_Clashes [(⟨[0,1],[1,2]⟩:T_api_Trace),(⟨[0,1,1],[1,0,0]⟩:T_api_Trace),(⟨[0],[1]⟩:T_api_Trace)] c85 (hc85)).im,?_⟩
 conv=>whnf
 iterate 2 (refine Both.yes (tt_beq b84) ?_;(conv=>whnf))
 obtain ⟨c86,hc86,h⟩:=bind_some h
 refine ⟨_,(sp_R18_Same c85 [(⟨[0,1],0,2⟩:T_api_Clash)] c86 (fun _ _=>hc86)),?_⟩
 conv=>whnf
 refine Both.yes b84 ?_
 conv=>whnf
 refine Both.mk ?_ ?_<;>intro b87
 replace b87:=beq_tt b87
 replace h:=cond_t b87 h
 conv=>whnf
 iterate 2 (refine Both.yes (tt_beq b87) ?_;(conv=>whnf))
 obtain ⟨c88,hc88,h⟩:=bind_some h
 refine ⟨_,(sp_R18_Same c55.2.1 [(⟨[0,1],0,2⟩:T_api_Clash)] c88 (fun _ _=>hc88)),?_⟩
 conv=>whnf
 refine Both.yes b87 ?_
 conv=>whnf
 refine Both.mk ?_ ?_<;>intro b89
 replace b89:=beq_tt b89
 replace h:=cond_t b89 h
 conv=>whnf
 refine Side.mk rfl ?_
 conv=>whnf
 iterate 2 (refine Both.yes (tt_beq b89) ?_;(conv=>whnf))
 obtain ⟨c90,h⟩:=chk_some h
 refine Side.mk (show (0:Int)≤2∧2≤(↑(List.length (List.map c_api_Trace [(⟨[0,1],[1,2]⟩:T_api_Trace),(⟨[0,1,1],[1,0,0]⟩:T_api_Trace),(⟨[0],[1]⟩:T_api_Trace)])):Int)∧(↑(List.length (List.map c_api_Trace [(⟨[0,1],[1,2]⟩:T_api_Trace),(⟨[0,1,1],[1,0,0]⟩:T_api_Trace),(⟨[0],[1]⟩:T_api_Trace)])):Int)≤(↑(List.length (List.map c_api_Trace [(⟨[0,1],[1,2]⟩:T_api_Trace),(⟨[0,1,1],[1,0,0]⟩:T_api_Trace),(⟨[0],[1]⟩:T_api_Trace)])):Int)∧(∀ e∈List.map c_api_Trace [(⟨[0,1],[1,2]⟩:T_api_Trace),(⟨[0,1,1],[1,0,0]⟩:T_api_Trace),(⟨[0],[1]⟩:T_api_Trace)],List.length e=2) from ⟨by omega,by first | omega | (simp only [List.length_map];omega),by first | omega | (simp only [List.length_map];omega),map_len fun _=>rfl⟩) ?_
 conv=>whnf
 refine Nf.mk (List.map c_api_Trace (List.drop 2 [(⟨[0,1],[1,2]⟩:T_api_Trace),(⟨[0,1,1],[1,0,0]⟩:T_api_Trace),(⟨[0],[1]⟩:T_api_Trace)])) drop_map ?_
 conv=>whnf
 iterate 2 (refine Both.yes (tt_beq b89) ?_;(conv=>whnf))
 obtain ⟨c91,hc91,h⟩:=bind_some h
 refine ⟨_,(sp_R16_Same c55.1 (⟨2,(List.drop 2 [(⟨[0,1],[1,2]⟩:T_api_Trace),(⟨[0,1,1],[1,0,0]⟩:T_api_Trace),(⟨[0],[1]⟩:T_api_Trace)])⟩:T_api_Obs) c91 (fun _ _=>hc91)),?_⟩
 conv=>whnf
 refine Both.yes b89 ?_
 conv=>whnf
 refine Both.mk ?_ ?_<;>intro b92
 replace b92:=beq_tt b92
 replace h:=cond_t b92 h
 conv=>whnf
 refine Both.yes (tt_beq b92) ?_
 conv=>whnf
 refine Both.yes b92 ?_
 conv=>whnf
 cases h
 exact Join.mk (eA [])
 replace b92:=beq_tf b92
 replace h:=cond_f b92 h
 conv=>whnf
 refine Both.no (ft_beq b92) ?_
 conv=>whnf
 refine Both.no b92 ?_
 conv=>whnf
 cases h
 exact Join.mk (eA [])
 replace b89:=beq_tf b89
 replace h:=cond_f b89 h
 conv=>whnf
 iterate 4 (refine Both.no (ft_beq b89) ?_;(conv=>whnf))
 refine Both.no b89 ?_
 conv=>whnf
 iterate 3 (refine Both.no rfl ?_;(conv=>whnf))
 cases h
 exact Join.mk (eA [])
 replace b87:=beq_tf b87
 replace h:=cond_f b87 h
 conv=>whnf
 iterate 2 (refine Both.no (ft_beq b87) ?_;(conv=>whnf))
 refine Both.no b87 ?_
 conv=>whnf
 iterate 9 (refine Both.no rfl ?_;(conv=>whnf))
 cases h
 exact Join.mk (eA [])
 replace b84:=beq_tf b84
 replace h:=cond_f b84 h
 conv=>whnf
 iterate 3 (refine Both.no (ft_beq b84) ?_;(conv=>whnf))
 refine Both.no b84 ?_
 conv=>whnf
 iterate 13 (refine Both.no rfl ?_;(conv=>whnf))
 cases h
 exact Join.mk (eA [])
 replace b82:=beq_tf b82
 replace h:=cond_f b82 h
 conv=>whnf
 iterate 2 (refine Both.no (ft_beq b82) ?_;(conv=>whnf))
 refine Both.no b82 ?_
 conv=>whnf
 iterate 18 (refine Both.no rfl ?_;(conv=>whnf))
 cases h
 exact Join.mk (eA [])
 replace b80:=beq_tf b80
 obtain ⟨h,b80d⟩:=cfd b80 h
 conv=>whnf
 iterate 4 (refine Both.no (ft_beq b80) ?_;(conv=>whnf))
 refine Both.no b80 ?_
 conv=>whnf
 iterate 22 (refine Both.no rfl ?_;(conv=>whnf))
 cases h
 exact Join.mk (eA [])
 replace b79:=beq_tf b79
 obtain ⟨h,b79d⟩:=cfd b79 h
 conv=>whnf
 refine Both.no (ft_beq b79) ?_
 conv=>whnf
 refine Both.no b79 ?_
 conv=>whnf
 iterate 28 (refine Both.no rfl ?_;(conv=>whnf))
 cases h
 exact Join.mk (eA [])
 replace b78:=beq_tf b78
 obtain ⟨h,b78d⟩:=cfd b78 h
 conv=>whnf
 refine Both.no (ft_beq b78) ?_
 conv=>whnf
 refine Both.no b78 ?_
 conv=>whnf
 iterate 31 (refine Both.no rfl ?_;(conv=>whnf))
 cases h
 exact Join.mk (eA [])
 replace b77:=beq_tf b77
 replace h:=cond_f b77 h
 conv=>whnf
 refine Both.no (ft_beq b77) ?_
 conv=>whnf
 refine Both.no b77 ?_
 conv=>whnf
 iterate 34 (refine Both.no rfl ?_;(conv=>whnf))
 cases h
 exact Join.mk (eA [])
 replace h:=hk57
 conv=>whnf
 cases h
 conv=>whnf
 exact ⟨rfl,rfl⟩
end Go.Proofs.YtmcfpohmiabmpaaGreatDoor.Sym

/-
  The contracts of the functions, read from the code by a program (ext.py): each function has its plain twin as its contract.
-/
namespace Go.Proofs.YtmcfpohmiabmpaaGreatDoor.Sym
open Go.RowKit
set_option maxRecDepth 100000
set_option linter.unusedVariables false
set_option maxHeartbeats 4000000
theorem sp_L18_NondetMajority (l_:List (List Int)) (need_:Int) (r:Bool) (h:Ok (nL (cL cI) l_)→Ok (nY need_)→L18_NondetMajority l_ need_=some r):Sp Tryz.prog 6 [.im (nL (cL cI) l_),.im (nY need_)] (.im (nB r)):=by
 refine sp_of rfl [] rfl rfl rfl (Nat.le_of_ble_eq_true rfl) rfl fun hk=>?_
 replace h:=h hk.1 hk.2.1
 have z1:lZ l_:=ok_len hk.1
 unfold L18_NondetMajority at h
 conv=>whnf
 obtain ⟨c51,hc51,h⟩:=bind_some h
 refine ⟨_,(sp_R02_Great l_ 40 40 c51 (fun _ _ _=>hc51)),?_⟩
 conv=>whnf
 refine Both.mk ?_ ?_<;>intro b52
 replace h:=cond_t b52 h
 conv=>whnf
 obtain ⟨c53,hc53,h⟩:=bind_some h
 refine ⟨_,(sp_L18_awake  c53 (hc53)),?_⟩
 conv=>whnf
 cases h
 conv=>whnf
 exact ⟨rfl,rfl⟩
 replace h:=cond_f b52 h
 conv=>whnf
 obtain ⟨c54,h⟩:=chk_some h
 refine Side.mk c54 ?_
 conv=>whnf
 obtain ⟨c55,h⟩:=chk_some h
 refine Side.mk c55 ?_
 conv=>whnf
 obtain ⟨c56,h⟩:=chk_some h
 refine Arith.mk c56 ?_
 conv=>whnf
 obtain ⟨c57,hc57,h⟩:=bind_some h
 refine ⟨_,(sp_nondet_Vote l_ (1+(need_%9)) c57 (fun _ _=>hc57)),?_⟩
 conv=>whnf
 obtain ⟨c58,hc58,h⟩:=bind_some h
 refine ⟨_,(sp_nondet_Distinct l_ c58 (fun _=>hc58)),?_⟩
 conv=>whnf
 refine Nf.mk (List.length c58.1) len_map ?_
 conv=>whnf
 refine Nf.mk (List.length c58.2) len_map ?_
 conv=>whnf
 refine Both.mk ?_ ?_<;>intro b59
 obtain ⟨h,b59d⟩:=ctd b59 h
 conv=>whnf
 cases h
 conv=>whnf
 exact ⟨rfl,rfl⟩
 obtain ⟨h,b59d⟩:=cfd b59 h
 conv=>whnf
 obtain ⟨oc,hc,hk60⟩:=bind_some h
 clear h
 have h:=hc
 clear hc
 refine Cut.mkS oc (Y:=Int×Int×Int) (fun (sum187,most188,his189)=>mkSt [(0,.im (nL (cL cI) l_)),(5,.im (nI (1+(need_%9)))),(6,.im (nL cI c57.1)),(7,.im (nI c57.2)),(10,.im (nI sum187)),(11,.im (nI most188)),(12,.im (nI his189))] [] []) (fun (sum187,most188,his189)=>lZ l_∧lZ c57.1∧True) (by rintro ⟨sum187,most188,his189⟩;exact ((Holds.avl 0 rfl).and ((Holds.avl 6 rfl).and (hT)))) ?_ ?_
 conv=>whnf
 refine Loops.iter (fun (s:Int×Int×Int×Nat)=>L18_NondetMajority.s2 c57 c58 s.1 s.2.1 s.2.2.1 s.2.2.2) (fun (sum229,most230,his231,i232)=>mkSt [(0,.im (nL (cL cI) l_)),(5,.im (nI (1+(need_%9)))),(6,.im (nL cI c57.1)),(7,.im (nI c57.2)),(8,.im (nL (cL cI) c58.1)),(9,.im (nL cI c58.2)),(10,.im (nI sum229)),(11,.im (nI most230)),(12,.im (nI his231)),(13,.im (nI (↑i232:Int)))] [] []) (fun (sum229,most230,his231,i232)=>lZ l_∧lZ c57.1∧lZ c58.1∧lZ c58.2∧True) h (eA []) (by rintro ⟨sum229,most230,his231,i232⟩;exact ((Holds.avl 0 rfl).and ((Holds.avl 6 rfl).and ((Holds.avl 8 rfl).and ((Holds.avl 9 rfl).and (hT)))))) ?_
 clear h
 rintro k ⟨sum229,most230,his231,i232⟩ o hp h ho272
 replace h:L18_NondetMajority.s2 c57 c58 sum229 most230 his231 i232=some o:=h
 unfold L18_NondetMajority.s2 at h
 obtain ⟨z312,z313,z314,z315,_⟩:=hp
 conv=>whnf
 refine Nf.mk (List.length c58.1) len_map ?_
 conv=>whnf
 refine Both.mk ?_ ?_<;>intro b273
 obtain ⟨h,b273d⟩:=ctd b273 h
 conv=>whnf
 obtain ⟨e274,he274,h⟩:=idxn_some h
 refine ⟨_,⟨(by omega),map_at he274,rfl⟩,?_⟩
 conv=>whnf
 obtain ⟨c275,h⟩:=chk_some h
 refine Arith.mk c275 ?_
 conv=>whnf
 obtain ⟨e276,he276,h⟩:=idxn_some h
 refine ⟨_,⟨(by omega),map_at he276,rfl⟩,?_⟩
 conv=>whnf
 obtain ⟨his283,hc,hk278⟩:=bind_some h
 clear h
 have h:=hc
 clear hc
 refine Cut.mk (mkSt [(0,.im (nL (cL cI) l_)),(5,.im (nI (1+(need_%9)))),(6,.im (nL cI c57.1)),(7,.im (nI c57.2)),(8,.im (nL (cL cI) c58.1)),(9,.im (nL cI c58.2)),(10,.im (nI (sum229+e274))),(11,.im (nI (max most230 e276))),(12,.im (nI his283)),(13,.im (nI (↑i232:Int)))] [] []) (lZ l_∧lZ c57.1∧lZ c58.1∧lZ c58.2∧True) ((Holds.avl 0 rfl).and ((Holds.avl 6 rfl).and ((Holds.avl 8 rfl).and ((Holds.avl 9 rfl).and (hT))))) ?_ (fun hp=>?_)
 conv=>whnf
 obtain ⟨e284,he284,h⟩:=idxn_some h
 refine ⟨_,⟨(by omega),map_at he284,rfl⟩,?_⟩
 conv=>whnf
 obtain ⟨c285,hc285,h⟩:=bind_some h
 refine ⟨_,(sp_R01_Same e284 c57.1 c285 (fun _ _=>hc285)),?_⟩
 conv=>whnf
 refine Both.mk ?_ ?_<;>intro b286
 replace h:=cond_t b286 h
 conv=>whnf
 obtain ⟨e287,he287,h⟩:=idxn_some h
 refine ⟨_,⟨(by omega),map_at he287,rfl⟩,?_⟩
 conv=>whnf
 cases h
 exact Join.mk (eA [])
 replace h:=cond_f b286 h
 conv=>whnf
 cases h
 exact Join.mk (eA [])
 replace h:=hk278
 obtain ⟨z288,z289,z290,z291,_⟩:=hp
 conv=>whnf
 obtain ⟨y300,hc,hk293⟩:=bind_some h
 clear h
 have h:=hc
 clear hc
 refine Cut.mk (mkSt [(0,.im (nL (cL cI) l_)),(5,.im (nI (1+(need_%9)))),(6,.im (nL cI c57.1)),(7,.im (nI c57.2)),(8,.im (nL (cL cI) c58.1)),(9,.im (nL cI c58.2)),(10,.im (nI (sum229+e274))),(11,.im (nI (max most230 e276))),(12,.im (nI his283)),(13,.im (nI (↑i232:Int))),(89,.im (nB y300))] [] []) (lZ l_∧lZ c57.1∧lZ c58.1∧lZ c58.2∧True) ((Holds.avl 0 rfl).and ((Holds.avl 6 rfl).and ((Holds.avl 8 rfl).and ((Holds.avl 9 rfl).and (hT))))) ?_ (fun hp=>?_)
 conv=>whnf
 obtain ⟨e301,he301,h⟩:=idxn_some h
 refine ⟨_,⟨(by omega),map_at he301,rfl⟩,?_⟩
 conv=>whnf
 refine Both.mk ?_ ?_<;>intro b302
 replace b302:=beq_ff b302
 obtain ⟨h,b302d⟩:=cfd b302 h
 conv=>whnf
 iterate 2 (refine Both.yes (ff_beq b302) ?_;(conv=>whnf))
 refine Both.mk ?_ ?_<;>intro b303
 replace b303:=beq_tt b303
 obtain ⟨h,b303d⟩:=ctd b303 h
 conv=>whnf
 iterate 2 (refine Both.yes (tt_beq b303) ?_;(conv=>whnf))
 refine Arith.mk (by show inR _;unfold inR;omega) ?_
 conv=>whnf
 refine Both.yes (tt_beq b303) ?_
 conv=>whnf
 obtain ⟨e304,he304z,he304,h⟩:=idx_some h
 refine ⟨_,⟨he304z,map_at he304,rfl⟩,?_⟩
 conv=>whnf
 iterate 4 (refine Both.yes (tt_beq b303) ?_;(conv=>whnf))
 obtain ⟨e305,he305,h⟩:=idxn_some h
 refine ⟨_,⟨(by omega),map_at he305,rfl⟩,?_⟩
 conv=>whnf
 iterate 2 (refine Both.yes (tt_beq b303) ?_;(conv=>whnf))
 obtain ⟨c306,hc306,h⟩:=bind_some h
 refine ⟨_,(sp_R01_Compare e304 e305 c306 (fun _ _=>hc306)),?_⟩
 conv=>whnf
 refine Both.yes (tt_beq b303) ?_
 conv=>whnf
 refine Both.yes (ff_beq b302) ?_
 conv=>whnf
 refine Both.yes b303 ?_
 conv=>whnf
 refine Both.no b302 ?_
 conv=>whnf
 cases h
 exact Join.mk (eA [])
 replace b303:=beq_tf b303
 obtain ⟨h,b303d⟩:=cfd b303 h
 conv=>whnf
 iterate 10 (refine Both.no (ft_beq b303) ?_;(conv=>whnf))
 refine Both.yes (ff_beq b302) ?_
 conv=>whnf
 refine Both.no b303 ?_
 conv=>whnf
 refine Both.no b302 ?_
 conv=>whnf
 cases h
 exact Join.mk (eA [])
 replace b302:=beq_ft b302
 obtain ⟨h,b302d⟩:=ctd b302 h
 conv=>whnf
 iterate 3 (refine Both.no (tf_beq b302) ?_;(conv=>whnf))
 refine Both.yes b302 ?_
 conv=>whnf
 cases h
 exact Join.mk (eA [])
 replace h:=hk293
 obtain ⟨z307,z308,z309,z310,_⟩:=hp
 conv=>whnf
 refine Both.mk ?_ ?_<;>intro b311
 replace h:=cond_t b311 h
 conv=>whnf
 cases h
 have ho272:_=_:=ho272
 cases ho272
 replace h:some _=some _:=hk60
 cases h
 conv=>whnf
 exact ⟨rfl,rfl⟩
 replace h:=cond_f b311 h
 conv=>whnf
 refine Arith.mk (by show inR _;unfold inR;omega) ?_
 conv=>whnf
 cases h
 exact Nxt.mk _ ho272 (eA [])
 obtain ⟨h,b273d⟩:=cfd b273 h
 conv=>whnf
 cases h
 have ho272:_=_:=ho272
 cases ho272
 exact JoinS.mk' _ rfl (eA [])
 rintro ⟨sum187,most188,his189⟩ rfl hp
 have hx_:=sum_inl hk60
 replace h:L18_NondetMajority.k5 l_ need_ c57 sum187 most188 his189=some _:=hx_
 clear hx_
 unfold L18_NondetMajority.k5 at h
 obtain ⟨z316,z317,_⟩:=hp
 conv=>whnf
 refine Nf.mk (List.length l_) len_map ?_
 conv=>whnf
 refine Both.mk ?_ ?_<;>intro b318
 obtain ⟨h,b318d⟩:=ctd b318 h
 conv=>whnf
 cases h
 conv=>whnf
 exact ⟨rfl,rfl⟩
 obtain ⟨h,b318d⟩:=cfd b318 h
 conv=>whnf
 refine Both.mk ?_ ?_<;>intro b319
 obtain ⟨h,b319d⟩:=ctd b319 h
 conv=>whnf
 obtain ⟨y326,hc,hk321⟩:=bind_some h
 clear h
 have h:=hc
 clear hc
 refine Cut.mk (mkSt [(4,.im (nB y326))] [] []) (True) (hT) ?_ (fun hp=>?_)
 conv=>whnf
 refine Both.mk ?_ ?_<;>intro b327
 replace b327:=beq_tt b327
 obtain ⟨h,b327d⟩:=ctd b327 h
 conv=>whnf
 refine Both.yes (tt_beq b327) ?_
 conv=>whnf
 refine Nf.mk (List.length c57.1) len_map ?_
 conv=>whnf
 refine Both.yes (tt_beq b327) ?_
 conv=>whnf
 refine Both.yes b327 ?_
 conv=>whnf
 refine Both.mk ?_ ?_<;>intro b328
 replace b328:=beq_tt b328
 obtain ⟨h,b328d⟩:=ctd b328 h
 conv=>whnf
 iterate 2 (refine Both.yes (tt_beq b328) ?_;(conv=>whnf))
 refine Both.yes b328 ?_
 conv=>whnf
 refine Both.mk ?_ ?_<;>intro b329
 replace b329:=beq_tt b329
 obtain ⟨h,b329d⟩:=ctd b329 h
 conv=>whnf
 obtain ⟨c330,hc330,h⟩:=bind_some h
 refine ⟨_,(sp_L18_awake  c330 (hc330)),?_⟩
 conv=>whnf
 refine Both.yes b329 ?_
 conv=>whnf
 cases h
 exact Join.mk (eA [])
 replace b329:=beq_tf b329
 obtain ⟨h,b329d⟩:=cfd b329 h
 conv=>whnf
 refine Both.no b329 ?_
 conv=>whnf
 cases h
 exact Join.mk (eA [])
 replace b328:=beq_tf b328
 obtain ⟨h,b328d⟩:=cfd b328 h
 conv=>whnf
 iterate 2 (refine Both.no (ft_beq b328) ?_;(conv=>whnf))
 refine Both.no b328 ?_
 conv=>whnf
 iterate 2 (refine Both.no rfl ?_;(conv=>whnf))
 cases h
 exact Join.mk (eA [])
 replace b327:=beq_tf b327
 obtain ⟨h,b327d⟩:=cfd b327 h
 conv=>whnf
 iterate 2 (refine Both.no (ft_beq b327) ?_;(conv=>whnf))
 refine Both.no b327 ?_
 conv=>whnf
 iterate 6 (refine Both.no rfl ?_;(conv=>whnf))
 cases h
 exact Join.mk (eA [])
 replace h:=hk321
 conv=>whnf
 cases h
 conv=>whnf
 exact ⟨rfl,rfl⟩
 obtain ⟨h,b319d⟩:=cfd b319 h
 conv=>whnf
 refine Both.mk ?_ ?_<;>intro b331
 obtain ⟨h,b331d⟩:=ctd b331 h
 conv=>whnf
 cases h
 conv=>whnf
 exact ⟨rfl,rfl⟩
 obtain ⟨h,b331d⟩:=cfd b331 h
 conv=>whnf
 obtain ⟨oc,hc,hk332⟩:=bind_some h
 clear h
 have h:=hc
 clear hc
 refine Cut.mkS oc (Y:=Unit) (fun (_:Unit)=>mkSt [] [] []) (fun (_:Unit)=>True) (by rintro ⟨⟩;exact (hT)) ?_ ?_
 conv=>whnf
 refine Loops.iter (fun (s:Nat)=>L18_NondetMajority.s4 l_ need_ c57 s) (fun i389=>mkSt [(0,.im (nL (cL cI) l_)),(5,.im (nI (1+(need_%9)))),(6,.im (nL cI c57.1)),(14,.im (nI (↑i389:Int)))] [] []) (fun i389=>lZ l_∧lZ c57.1∧True) h (eA []) (by rintro i389;exact ((Holds.avl 0 rfl).and ((Holds.avl 6 rfl).and (hT)))) ?_
 clear h
 rintro k i389 o hp h ho403
 replace h:L18_NondetMajority.s4 l_ need_ c57 i389=some o:=h
 unfold L18_NondetMajority.s4 at h
 obtain ⟨z417,z418,_⟩:=hp
 conv=>whnf
 refine Nf.mk (List.length l_) len_map ?_
 conv=>whnf
 refine Both.mk ?_ ?_<;>intro b404
 obtain ⟨h,b404d⟩:=ctd b404 h
 conv=>whnf
 obtain ⟨c405,h⟩:=chk_some h
 refine Side.mk (show (0:Int)≤(0:Int)∧(0:Int)≤(↑i389:Int)∧(↑i389:Int)≤(↑(List.length (List.map (cL cI) l_)):Int)∧(∀ e∈List.map (cL cI) l_,List.length e=1) from ⟨by omega,by first | omega | (simp only [List.length_map];omega),by first | omega | (simp only [List.length_map];omega),map_len fun _=>rfl⟩) ?_
 conv=>whnf
 refine Nf.mk (List.map (cL cI) (List.take i389 l_)) take_map ?_
 conv=>whnf
 obtain ⟨c406,hc406,h⟩:=bind_some h
 refine ⟨_,(sp_nondet_Vote (List.take i389 l_) (1+(need_%9)) c406 (fun _ _=>hc406)),?_⟩
 conv=>whnf
 refine Both.mk ?_ ?_<;>intro b407
 obtain ⟨h,b407d⟩:=ctd b407 h
 conv=>whnf
 obtain ⟨y413,hc,hk409⟩:=bind_some h
 clear h
 have h:=hc
 clear hc
 refine Cut.mk (mkSt [(4,.im (nB y413))] [] []) (True) (hT) ?_ (fun hp=>?_)
 conv=>whnf
 obtain ⟨c414,hc414,h⟩:=bind_some h
 refine ⟨_,(sp_R01_Same c406.1 c57.1 c414 (fun _ _=>hc414)),?_⟩
 conv=>whnf
 refine Both.mk ?_ ?_<;>intro b415
 replace b415:=beq_tt b415
 replace h:=cond_t b415 h
 conv=>whnf
 obtain ⟨c416,hc416,h⟩:=bind_some h
 refine ⟨_,(sp_L18_awake  c416 (hc416)),?_⟩
 conv=>whnf
 refine Both.yes b415 ?_
 conv=>whnf
 cases h
 exact Join.mk (eA [])
 replace b415:=beq_tf b415
 replace h:=cond_f b415 h
 conv=>whnf
 refine Both.no b415 ?_
 conv=>whnf
 cases h
 exact Join.mk (eA [])
 replace h:=hk409
 conv=>whnf
 cases h
 have ho403:_=_:=ho403
 cases ho403
 replace h:some _=some _:=hk332
 cases h
 conv=>whnf
 exact ⟨rfl,rfl⟩
 obtain ⟨h,b407d⟩:=cfd b407 h
 conv=>whnf
 refine Arith.mk (by show inR _;unfold inR;omega) ?_
 conv=>whnf
 cases h
 exact Nxt.mk _ ho403 (eA [])
 obtain ⟨h,b404d⟩:=cfd b404 h
 conv=>whnf
 cases h
 have ho403:_=_:=ho403
 cases ho403
 exact JoinS.mk' _ rfl (eA [])
 rintro ⟨⟩ rfl hp
 replace h:=sum_inl hk332
 conv=>whnf
 cases h
 conv=>whnf
 exact ⟨rfl,rfl⟩
end Go.Proofs.YtmcfpohmiabmpaaGreatDoor.Sym

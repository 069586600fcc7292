/-
 Devices are asked a word; answers are voted for. Plain laws.
-/
import Derived.Test.YtajipjnfegmlcaaGreatDoorM3
set_option linter.all false
namespace Go.Proofs.YtajipjnfegmlcaaGreatDoor.Sym
set_option maxRecDepth 100000
theorem cap24 {n:Nat} (h:n≤3000000):capOk n 24:=by unfold capOk;omega
theorem device_rows_eq {l:List (List Int)} (h:SmL l):device_rows l=some l:=by
 have hl:=h.1
 unfold device_rows
 rw [chk_pos ⟨by decide,by omega,by rw [Int.toNat_natCast];exact cap24 (by omega)⟩]
 have key:=iter_post (step:=fun (s:List (List Int)×Nat)=>device_rows.s2 l s.1 s.2) (fun s=>s.2≤l.length∧s.1=l.take s.2) (fun s=>l.length-s.2) (fun r=>r=l) (fun ⟨y,i⟩ ⟨g1,g2⟩=>by
  simp only at g1 g2
  subst g2
  simp only [device_rows.s2]
  by_cases g3:i<l.length
  ·left
   have hx:=get_at g3
   refine ⟨(l.take (i+1),i+1),?_,⟨g3,rfl⟩,by simp only;omega⟩
   rw [dec_lt hx,cond_true,idxn_at hx,libclone_word (h.2 _ (List.getElem_mem _)),obind,chk_pos (cap24 (by rw [List.length_take];omega)),take_step hx]
  ·right
   have e:i=l.length:=by omega
   subst e
   exact ⟨l,by rw [dec_end,cond_false,List.take_length],rfl⟩) fuel ([],0) ⟨Nat.zero_le _,rfl⟩ (by have:=fuel_big;simp only;omega)
 obtain ⟨r,e,rfl⟩:=key
 rw [e,obind]
theorem oracle_rows_eq {l:List (List Int)} (h:SmL l):oracle_rows l=some l:=by
 have hl:=h.1
 unfold oracle_rows
 have key:=iter_post (step:=fun (s:List (List Int)×Nat)=>oracle_rows.s2 l s.1 s.2) (fun s=>s.2≤l.length∧s.1=l.take s.2) (fun s=>l.length-s.2) (fun r=>r=l) (fun ⟨y,i⟩ ⟨g1,g2⟩=>by
  simp only at g1 g2
  subst g2
  simp only [oracle_rows.s2]
  by_cases g3:i<l.length
  ·left
   have hx:=get_at g3
   refine ⟨(l.take (i+1),i+1),?_,⟨g3,rfl⟩,by simp only;omega⟩
   rw [dec_lt hx,cond_true,idxn_at hx,libclone_word (h.2 _ (List.getElem_mem _)),obind,chk_pos (cap24 (by rw [List.length_take];omega)),take_step hx]
  ·right
   have e:i=l.length:=by omega
   subst e
   exact ⟨l,by rw [dec_end,cond_false,List.take_length],rfl⟩) fuel ([],0) ⟨Nat.zero_le _,rfl⟩ (by have:=fuel_big;simp only;omega)
 obtain ⟨r,e,rfl⟩:=key
 rw [e,obind]
theorem MacOk.sml {m:T_api_Mealy} (H:MacOk m):SmL m.Next∧SmL m.Out:=by
 have n2:=H.n2
 have ol:=H.ol
 have i2:=H.i2
 refine ⟨⟨by omega,fun x hx=>?_⟩,⟨by omega,fun x hx=>?_⟩⟩
 all_goals
  obtain ⟨s,hs,rfl⟩:=List.mem_iff_getElem.1 hx
  obtain ⟨x,y,h1,h2,h3,h4,_⟩:=H.row s (by omega)
  unfold SmW
 ·rw [get_at hs] at h1
  injection h1 with h1
  rw [h1]
  omega
 ·rw [get_at hs] at h2
  injection h2 with h2
  rw [h2]
  omega
theorem DevOk.sw {d:T_api_Device} (H:DevOk d):SmW d.Latency.Step:=by
 have:=H.lat
 unfold SmW
 omega
theorem device_copied_eq {d:T_api_Device} (H:DevOk d):device_copied d=some d:=by
 unfold device_copied
 rw [device_rows_eq H.mac.sml.1,obind,device_rows_eq H.mac.sml.2,obind,libclone_word H.sw,obind]
theorem oracle_copied_eq {q:T_api_Oracle} (H:DevOk q.Device) (ho:SmTr q.Obs.Traces):oracle_copied q=some q:=by
 have hl:=ho.1
 unfold oracle_copied
 rw [oracle_rows_eq H.mac.sml.1,obind,oracle_rows_eq H.mac.sml.2,obind,libclone_word H.sw,obind]
 have key:=iter_post (step:=fun (s:List T_api_Trace×Nat)=>oracle_copied.s2 q s.1 s.2) (fun s=>s.2≤q.Obs.Traces.length∧s.1=q.Obs.Traces.take s.2) (fun s=>q.Obs.Traces.length-s.2) (fun r=>r=q.Obs.Traces) (fun ⟨y,i⟩ ⟨g1,g2⟩=>by
  simp only at g1 g2
  subst g2
  simp only [oracle_copied.s2]
  by_cases g3:i<q.Obs.Traces.length
  ·left
   have hx:=get_at g3
   have hs:=ho.2 _ (List.getElem_mem g3)
   refine ⟨(q.Obs.Traces.take (i+1),i+1),?_,⟨g3,rfl⟩,by simp only;omega⟩
   rw [dec_lt hx,cond_true,idxn_at hx,libclone_word hs.1,obind,libclone_word hs.2,obind,chk_pos (capT (by rw [List.length_take];omega)),take_step hx]
  ·right
   have e:i=q.Obs.Traces.length:=by omega
   subst e
   exact ⟨q.Obs.Traces,by rw [dec_end,cond_false,List.take_length],rfl⟩) fuel ([],0) ⟨Nat.zero_le _,rfl⟩ (by have:=fuel_big;simp only;omega)
 obtain ⟨r,e,rfl⟩:=key
 rw [e,obind]
def qryD:T_api_Device→List Int→List Int→T_api_Device×List Int×Int
 | d,ys,[]=>(d,ys,0)
 | d,ys,a::w=>if (stepD d a).2.2≠0 then ((stepD d a).1,[],(stepD d a).2.2) else if (stepD d a).2.1<0∨((stepD d a).1.Ready=false∧w≠[]) then ((stepD d a).1,[],14) else qryD (stepD d a).1 (ys++[(stepD d a).2.1]) w
def queryD (d:T_api_Device) (w:List Int):T_api_Device×List Int×Int :=
 if (resetD d).2≠0 then (d,[],(resetD d).2) else qryD (resetD d).1 [] w
abbrev SeedOk (d:T_api_Device):Prop:=0≤d.Seed∧d.Seed<18446744073709551616
theorem qryD_ok:∀ (w ys:List Int) (d:T_api_Device),DevOk d→SeedOk d→WOk d.M.Inputs w→(∀ y∈ys,0≤y∧y≤1048576) →
  DevOk (qryD d ys w).1∧SeedOk (qryD d ys w).1∧(qryD d ys w).1.M=d.M∧((qryD d ys w).2.2=0→(qryD d ys w).2.1.length=ys.length+w.length∧∀ y∈(qryD d ys w).2.1,0≤y∧y≤1048576)∧((qryD d ys w).2.2=0∨(qryD d ys w).2.2=10∨(qryD d ys w).2.2=11∨(qryD d ys w).2.2=14)
 | [],ys,d,H,S,_,hy=>⟨H,S,rfl,fun _=>⟨rfl,hy⟩,.inl rfl⟩
 | a::w,ys,d,H,S,hw,hy=>by
  obtain ⟨h1,h2,h3,h4⟩:=stepD_ok H S hw.head
  unfold qryD
  by_cases g1:(stepD d a).2.2≠0
  ·rw [if_pos g1]
   refine ⟨h1,h2,h3,fun e=>absurd e g1,?_⟩
   simp only
   unfold stepD
   split
   ·exact .inr (.inl rfl)
   ·split
    ·exact .inl rfl
    ·exact .inr (.inr (.inl rfl))
  ·rw [if_neg g1]
   by_cases g2:(stepD d a).2.1<0∨((stepD d a).1.Ready=false∧w≠[])
   ·rw [if_pos g2]
    exact ⟨h1,h2,h3,fun e=>(by cases e),.inr (.inr (.inr rfl))⟩
   ·rw [if_neg g2]
    obtain ⟨k1,k2,k3,k4,k5⟩:=qryD_ok w (ys++[(stepD d a).2.1]) (stepD d a).1 h1 h2 (by rw [h3];exact hw.tail) fun y hy'=>by
     rcases List.mem_append.1 hy' with e | e
     ·exact hy y e
     ·rw [List.mem_singleton.1 e]
      exact ⟨by omega,h4.2⟩
    refine ⟨k1,k2,by rw [k3,h3],fun e=>⟨?_,(k4 e).2⟩,k5⟩
    rw [(k4 e).1,List.length_append,List.length_cons]
    simp
    omega
section
variable {d:T_api_Device} {w ys:List Int}
abbrev tupD (d:T_api_Device) (ys:List Int) (i:Nat):Int×Int×List (List Int)×List (List Int)×Int×Bool×List Int×Int×Int×Int×Int×Int×Int×Int×Int×List Int×Nat :=
 (d.M.Inputs,d.M.Start,d.M.Next,d.M.Out,d.State,d.Ready,d.Latency.Step,d.Latency.Reset,d.Faults.Lost,d.Faults.Wrong,d.Faults.Crash,d.Seed,d.Steps,d.Resets,d.Time,ys,i)
theorem dq_step (H:DevOk d) (S:SeedOk d) {i:Nat} {a:Int} (hx:w[i]?=some a) (ha:0≤a∧a<d.M.Inputs) (hy:ys.length≤100000) :
  device_Query.s2 w d.M.Inputs d.M.Start d.M.Next d.M.Out d.State d.Ready d.Latency.Step d.Latency.Reset d.Faults.Lost d.Faults.Wrong d.Faults.Crash d.Seed d.Steps d.Resets d.Time ys i =
   some (if (stepD d a).2.2≠0 then .inr (.inr ((stepD d a).1,[],(stepD d a).2.2)) else if (stepD d a).2.1<0∨((stepD d a).1.Ready=false∧i+1<w.length) then .inr (.inr ((stepD d a).1,[],14)) else .inl (tupD (stepD d a).1 (ys++[(stepD d a).2.1]) (i+1))):=by
 unfold device_Query.s2
 rw [dec_lt hx,cond_true,idxn_at hx]
 have he:=step_p H S ha
 have hd:(⟨(⟨⟨d.M.Inputs,d.M.Start,d.M.Next,d.M.Out⟩,d.State,d.Ready,⟨d.Latency.Step,d.Latency.Reset⟩,⟨d.Faults.Lost,d.Faults.Wrong,d.Faults.Crash⟩,d.Seed,d.Steps,d.Resets,d.Time⟩:T_api_Device)⟩:T_device_unit)=⟨d⟩:=rfl
 rw [hd,he,obind]
 simp only
 by_cases g1:(stepD d a).2.2≠0
 ·rw [if_pos g1,decide_eq_true g1,cond_true]
 ·rw [if_neg g1,decide_eq_false g1,cond_false]
  have hb:(cond (decide ((stepD d a).2.1<0)) (some true) (cond (!(stepD d a).1.Ready) (some (decide (((↑i:Int)+1)<(↑(List.length w):Int)))) (some false)):Option Bool)=some (decide ((stepD d a).2.1<0∨((stepD d a).1.Ready=false∧i+1<w.length))):=by
   by_cases k1:(stepD d a).2.1<0
   ·rw [decide_eq_true k1,cond_true,decide_eq_true (.inl k1)]
   ·rw [decide_eq_false k1,cond_false]
    cases hr:(stepD d a).1.Ready with
    | true =>
     rw [Bool.not_true,cond_false,decide_eq_false fun e=>?_]
     rcases e with e | e
     ·exact k1 e
     ·cases e.1
    | false =>
     rw [Bool.not_false,cond_true]
     congr 1
     exact decide_eq_decide.2 ⟨fun e=>.inr ⟨rfl,by omega⟩,fun e=>by rcases e with e | e;exact absurd e k1;omega⟩
  rw [hb,obind]
  by_cases g2:(stepD d a).2.1<0∨((stepD d a).1.Ready=false∧i+1<w.length)
  ·rw [if_pos g2,decide_eq_true g2,cond_true]
  ·rw [if_neg g2,decide_eq_false g2,cond_false,chk_pos (by unfold capOk;omega)]
theorem rq_step (H:DevOk d) (S:SeedOk d) {i:Nat} {a:Int} (hx:w[i]?=some a) (ha:0≤a∧a<d.M.Inputs) (hy:ys.length≤100000) :
  R19_Query.s2 w d.M.Inputs d.M.Start d.M.Next d.M.Out d.State d.Ready d.Latency.Step d.Latency.Reset d.Faults.Lost d.Faults.Wrong d.Faults.Crash d.Seed d.Steps d.Resets d.Time ys i =
   some (if (stepD d a).2.2≠0 then .inr (.inr ((stepD d a).1,[],(stepD d a).2.2)) else if (stepD d a).2.1<0∨((stepD d a).1.Ready=false∧i+1<w.length) then .inr (.inr ((stepD d a).1,[],14)) else .inl (tupD (stepD d a).1 (ys++[(stepD d a).2.1]) (i+1))):=by
 unfold R19_Query.s2
 rw [dec_lt hx,cond_true,idxn_at hx]
 have he:=step_r H S ha
 obtain ⟨_,_,_,hr⟩:=stepD_ok H S ha
 have hd:(⟨⟨d.M.Inputs,d.M.Start,d.M.Next,d.M.Out⟩,d.State,d.Ready,⟨d.Latency.Step,d.Latency.Reset⟩,⟨d.Faults.Lost,d.Faults.Wrong,d.Faults.Crash⟩,d.Seed,d.Steps,d.Resets,d.Time⟩:T_api_Device)=d:=rfl
 rw [hd,he,obind]
 by_cases g1:(stepD d a).2.2≠0
 ·rw [if_pos g1,decide_eq_true g1,cond_true]
 ·rw [if_neg g1,decide_eq_false g1,cond_false]
  have hb:(cond (decide ((stepD d a).2.1=-1)) (some true) (cond (!(stepD d a).1.Ready) (some (decide ((↑i:Int)<((↑(List.length w):Int)-1)))) (some false)):Option Bool)=some (decide ((stepD d a).2.1<0∨((stepD d a).1.Ready=false∧i+1<w.length))):=by
   by_cases k1:(stepD d a).2.1<0
   ·rw [decide_eq_true (by omega),cond_true,decide_eq_true (.inl k1)]
   ·rw [decide_eq_false (by omega),cond_false]
    cases hr:(stepD d a).1.Ready with
    | true =>
     rw [Bool.not_true,cond_false,decide_eq_false fun e=>?_]
     rcases e with e | e
     ·exact k1 e
     ·cases e.1
    | false =>
     rw [Bool.not_false,cond_true]
     congr 1
     exact decide_eq_decide.2 ⟨fun e=>.inr ⟨rfl,by omega⟩,fun e=>by rcases e with e | e;exact absurd e k1;omega⟩
  rw [hb,obind]
  by_cases g2:(stepD d a).2.1<0∨((stepD d a).1.Ready=false∧i+1<w.length)
  ·rw [if_pos g2,decide_eq_true g2,cond_true]
  ·rw [if_neg g2,decide_eq_false g2,cond_false,chk_pos (by unfold capOk;omega)]
end
abbrev Tup15:Type:=Int×Int×List (List Int)×List (List Int)×Int×Bool×List Int×Int×Int×Int×Int×Int×Int×Int×Int×List Int
abbrev tup15 (d:T_api_Device) (ys:List Int):Tup15:=(d.M.Inputs,d.M.Start,d.M.Next,d.M.Out,d.State,d.Ready,d.Latency.Step,d.Latency.Reset,d.Faults.Lost,d.Faults.Wrong,d.Faults.Crash,d.Seed,d.Steps,d.Resets,d.Time,ys)
def qryR (r:T_api_Device×List Int×Int):Tup15⊕(T_api_Device×List Int×Int):=if r.2.2=0 then .inl (tup15 r.1 r.2.1) else .inr r
theorem qry_iter {S2:Int×Int×List (List Int)×List (List Int)×Int×Bool×List Int×Int×Int×Int×Int×Int×Int×Int×Int×List Int×Nat→Option ((Int×Int×List (List Int)×List (List Int)×Int×Bool×List Int×Int×Int×Int×Int×Int×Int×Int×Int×List Int×Nat)⊕(Tup15⊕(T_api_Device×List Int×Int)))} {w:List Int}
  (h1:∀ (d:T_api_Device) (ys:List Int) (i:Nat) (a:Int),DevOk d→SeedOk d→w[i]?=some a→0≤a∧a<d.M.Inputs→ys.length≤100000→S2 (tupD d ys i)=some (if (stepD d a).2.2≠0 then .inr (.inr ((stepD d a).1,[],(stepD d a).2.2)) else if (stepD d a).2.1<0∨((stepD d a).1.Ready=false∧i+1<w.length) then .inr (.inr ((stepD d a).1,[],14)) else .inl (tupD (stepD d a).1 (ys++[(stepD d a).2.1]) (i+1))))
  (h2:∀ d ys,S2 (tupD d ys w.length)=some (.inr (.inl (tup15 d ys)))) (hl:w.length≤2000) :
  ∀ (n i:Nat) (d:T_api_Device) (ys:List Int),DevOk d→SeedOk d→WOk d.M.Inputs w→ys.length=i→i≤w.length→w.length-i<n→iter S2 n (tupD d ys i)=some (qryR (qryD d ys (w.drop i)))
 | 0,_,_,_,_,_,_,_,_,h=>absurd h (Nat.not_lt_zero _)
 | n+1,i,d,ys,H,S,hw,hy,hi,hn=>by
  unfold iter
  rcases Nat.lt_or_ge i w.length with h | h
  ·have hx:=get_at h
   have ha:=hw _ (List.getElem_mem h)
   rw [h1 d ys i _ H S hx ha (by omega),List.drop_eq_getElem_cons h]
   obtain ⟨k1,k2,k3,k4⟩:=stepD_ok H S ha
   have hnil:i+1<w.length↔w.drop (i+1)≠[]:=by
    rw [ne_eq,List.drop_eq_nil_iff]
    omega
   unfold qryD
   by_cases g1:(stepD d w[i]).2.2≠0
   ·rw [if_pos g1,if_pos g1]
    unfold qryR
    rw [if_neg g1]
   ·rw [if_neg g1,if_neg g1]
    by_cases g2:(stepD d w[i]).2.1<0∨((stepD d w[i]).1.Ready=false∧i+1<w.length)
    ·rw [if_pos g2,if_pos (by rw [← hnil];exact g2)]
     rfl
    ·rw [if_neg g2,if_neg (by rw [← hnil];exact g2)]
     exact qry_iter h1 h2 hl n (i+1) (stepD d w[i]).1 _ k1 k2 (by rw [k3];exact hw) (by rw [List.length_append,List.length_singleton,hy]) h (by omega)
  ·have e:i=w.length:=by omega
   subst e
   rw [h2,List.drop_length]
   rfl
theorem check_wok {w:List Int} {n:Int} (h:checkI w n=0):WOk n w:=check_mem h
theorem Query_p {d:T_api_Device} {w:List Int} (H:DevOk d) (S:SeedOk d) (hw:checkI w d.M.Inputs=0) (hl:w.length≤1024):device_Query d w=some (queryD d w):=by
 have hsw:SmW w:=by unfold SmW;omega
 have r1:=reset_p H
 have hr:=resetD_ok H
 have hf:=fuel_big
 have hM:(resetD d).1.M=d.M∧SeedOk (resetD d).1:=by
  unfold resetD
  split
  ·exact ⟨rfl,S⟩
  ·exact ⟨rfl,S⟩
 unfold device_Query queryD
 rw [device_Valid_ok H,obind,decide_eq_false (by decide),cond_false,word_Check_eq _ _ hsw,obind,hw,decide_eq_false (by decide),cond_false,device_copied_eq H,obind,r1,obind]
 simp only
 by_cases g:(resetD d).2≠0
 ·rw [if_pos g,decide_eq_true g,cond_true]
 ·rw [if_neg g,decide_eq_false g,cond_false,chk_pos ⟨by decide,by omega,by unfold capOk;omega⟩]
  have key:=qry_iter (w:=w) (S2:=fun s=>device_Query.s2 w s.1 s.2.1 s.2.2.1 s.2.2.2.1 s.2.2.2.2.1 s.2.2.2.2.2.1 s.2.2.2.2.2.2.1 s.2.2.2.2.2.2.2.1 s.2.2.2.2.2.2.2.2.1 s.2.2.2.2.2.2.2.2.2.1 s.2.2.2.2.2.2.2.2.2.2.1 s.2.2.2.2.2.2.2.2.2.2.2.1 s.2.2.2.2.2.2.2.2.2.2.2.2.1 s.2.2.2.2.2.2.2.2.2.2.2.2.2.1 s.2.2.2.2.2.2.2.2.2.2.2.2.2.2.1 s.2.2.2.2.2.2.2.2.2.2.2.2.2.2.2.1 s.2.2.2.2.2.2.2.2.2.2.2.2.2.2.2.2) (fun d ys i a H S hx ha hy=>dq_step H S hx ha hy) (fun d ys=>by
   show device_Query.s2 w _ _ _ _ _ _ _ _ _ _ _ _ _ _ _ _ _=_
   unfold device_Query.s2
   rw [dec_end,cond_false]) (by omega) fuel 0 (resetD d).1 [] hr hM.2 (by rw [hM.1];exact check_wok hw) rfl (Nat.zero_le _) (by omega)
  rw [List.drop_zero] at key
  refine (congrArg (fun z=>Option.bind z _) key).trans ?_
  rw [obind]
  unfold qryR
  by_cases g3:(qryD (resetD d).1 [] w).2.2=0
  ·rw [if_pos g3]
   simp only [Sum.elim_inl,device_Query.k3]
   rw [← g3]
  ·rw [if_neg g3]
   rfl
theorem Query_r {d:T_api_Device} {w:List Int} (H:DevOk d) (S:SeedOk d) (hw:checkI w d.M.Inputs=0) (hl:w.length≤1024):R19_Query d w=some (queryD d w):=by
 have hsw:SmW w:=by unfold SmW;omega
 have r2:=reset_r H
 have hr:=resetD_ok H
 have hf:=fuel_big
 have hM:(resetD d).1.M=d.M∧SeedOk (resetD d).1:=by
  unfold resetD
  split
  ·exact ⟨rfl,S⟩
  ·exact ⟨rfl,S⟩
 unfold R19_Query queryD
 rw [R19_Valid_ok H,obind,decide_eq_false (by decide),cond_false,R01_Check_eq _ _ hsw,obind,hw,decide_eq_false (by decide),cond_false,r2,obind]
 by_cases g:(resetD d).2≠0
 ·have hd:(resetD d).1=d:=by
   unfold resetD at g ⊢
   split at g
   ·exact absurd rfl g
   ·rename_i h
    rw [if_neg h]
  rw [if_pos g,decide_eq_true g,cond_true,hd]
 ·rw [if_neg g,decide_eq_false g,cond_false]
  have key:=qry_iter (w:=w) (S2:=fun s=>R19_Query.s2 w s.1 s.2.1 s.2.2.1 s.2.2.2.1 s.2.2.2.2.1 s.2.2.2.2.2.1 s.2.2.2.2.2.2.1 s.2.2.2.2.2.2.2.1 s.2.2.2.2.2.2.2.2.1 s.2.2.2.2.2.2.2.2.2.1 s.2.2.2.2.2.2.2.2.2.2.1 s.2.2.2.2.2.2.2.2.2.2.2.1 s.2.2.2.2.2.2.2.2.2.2.2.2.1 s.2.2.2.2.2.2.2.2.2.2.2.2.2.1 s.2.2.2.2.2.2.2.2.2.2.2.2.2.2.1 s.2.2.2.2.2.2.2.2.2.2.2.2.2.2.2.1 s.2.2.2.2.2.2.2.2.2.2.2.2.2.2.2.2) (fun d ys i a H S hx ha hy=>rq_step H S hx ha hy) (fun d ys=>by
   show R19_Query.s2 w _ _ _ _ _ _ _ _ _ _ _ _ _ _ _ _ _=_
   unfold R19_Query.s2
   rw [dec_end,cond_false]) (by omega) fuel 0 (resetD d).1 [] hr hM.2 (by rw [hM.1];exact check_wok hw) rfl (Nat.zero_le _) (by omega)
  rw [List.drop_zero] at key
  refine (congrArg (fun z=>Option.bind z _) key).trans ?_
  rw [obind]
  unfold qryR
  by_cases g3:(qryD (resetD d).1 [] w).2.2=0
  ·rw [if_pos g3]
   simp only [Sum.elim_inl,R19_Query.k3]
   rw [← g3]
  ·rw [if_neg g3]
   rfl
theorem queryD_ok {d:T_api_Device} {w:List Int} (H:DevOk d) (S:SeedOk d) (hw:checkI w d.M.Inputs=0) :
  DevOk (queryD d w).1∧SeedOk (queryD d w).1∧(queryD d w).1.M=d.M∧((queryD d w).2.2=0→(queryD d w).2.1.length=w.length∧∀ y∈(queryD d w).2.1,0≤y∧y≤1048576):=by
 have hM:(resetD d).1.M=d.M∧SeedOk (resetD d).1:=by
  unfold resetD
  split
  ·exact ⟨rfl,S⟩
  ·exact ⟨rfl,S⟩
 unfold queryD
 split
 ·rename_i g
  exact ⟨H,S,rfl,fun e=>absurd e g⟩
 ·obtain ⟨k1,k2,k3,k4,_⟩:=qryD_ok w [] (resetD d).1 (resetD_ok H) hM.2 (by rw [hM.1];exact check_wok hw) fun y hy=>by simp at hy
  exact ⟨k1,k2,by rw [k3,hM.1],fun e=>⟨by rw [(k4 e).1];simp,(k4 e).2⟩⟩
def voteF (need:Int):List (List Int)→List (List Int)→Option (List Int)
 | _,[]=>none
 | pre,w::r=>if (↑((pre++[w]).count w):Int)=need then some w else voteF need (pre++[w]) r
abbrev bk (w:List Int):ByteArray:=⟨(keyL w).toArray⟩
theorem bk_inj {a b:List Int} (h:bk a=bk b):a=b:=keyL_inj (by
 injection h with h
 injection h)
def WrdOk (w:List Int):Prop:=w.length≤100000∧∀ x∈w,inR x
theorem nondet_key_eq {w:List Int} (h:WrdOk w):nondet_key w=some (bk w):=by
 have:=h.1
 unfold nondet_key
 rw [chk_pos h.2,chk_pos (by omega)]
theorem vote_iter {l:List (List Int)} {need:Int} (hl:l.length≤100000) (hw:∀ x∈l,WrdOk x) :
  iter (fun (s:List (ByteArray×Int)×Nat)=>nondet_Vote_L.s2 l need s.1 s.2) fuel ([],0)=some (match voteF need [] l with | some w=>.inr (w,0,l) | none=>.inl ()):=by
 have key:∀ (n i:Nat) (m:List (ByteArray×Int)),i≤l.length→(∀ w,(mget (bk w) m).getD 0=(↑((l.take i).count w):Int))→l.length-i<n→iter (fun (s:List (ByteArray×Int)×Nat)=>nondet_Vote_L.s2 l need s.1 s.2) n (m,i)=some (match voteF need (l.take i) (l.drop i) with | some w=>.inr (w,0,l) | none=>.inl ()):=by
  intro n
  induction n with
  | zero=>intro i m _ _ h;omega
  | succ n ih =>
   intro i m hi hm hn
   unfold iter
   simp only [nondet_Vote_L.s2]
   rcases Nat.lt_or_ge i l.length with h | h
   ·have hx:=get_at h
    have hk:=hw _ (List.getElem_mem h)
    have hc:(l.take (i+1)).count l[i]=(l.take i).count l[i]+1:=by
     rw [take_step hx,List.count_append]
     simp
    have hcl:(l.take i).count l[i]≤l.length:=Nat.le_trans List.count_le_length (by rw [List.length_take];omega)
    rw [dec_lt hx,cond_true,idxn_at hx,nondet_key_eq hk,obind,hm,chk_pos (by unfold inR;omega),mget_mset_same ba_beq,Option.getD_some,List.drop_eq_getElem_cons h]
    unfold voteF
    rw [← take_step hx,hc]
    by_cases g:(↑((l.take i).count l[i]):Int)+1=need
    ·rw [decide_eq_true g,cond_true,libclone_word (by have:=hk.1;unfold SmW;omega),obind,if_pos (by omega)]
    ·rw [decide_eq_false g,cond_false,if_neg (by omega)]
     refine ih (i+1) _ h (fun w=>?_) (by omega)
     by_cases e:l[i]=w
     ·rw [← e,mget_mset_same ba_beq,Option.getD_some,hc]
      rfl
     ·rw [mget_mset_ne ba_beq (fun e2=>e (bk_inj e2).symm),hm,take_step hx,List.count_append]
      simp [e]
   ·have e:i=l.length:=by omega
    subst e
    rw [dec_end,cond_false,List.drop_length]
    rfl
 have:=key fuel 0 [] (Nat.zero_le _) (fun w=>by simp [mget]) (by have:=fuel_big;omega)
 rw [List.take_zero,List.drop_zero] at this
 exact this
theorem nondet_Vote_L_eq {l:List (List Int)} {need:Int} (hn:1≤need∧need≤9) (hl:l.length≤100000) (hw:∀ x∈l,WrdOk x) :
  nondet_Vote_L l need=some (match voteF need [] l with | some w=>(w,0,l) | none=>([],13,l)):=by
 unfold nondet_Vote_L
 rw [decide_eq_false (by omega),cond_false,decide_eq_false (by omega),obind,cond_false,vote_iter hl hw,obind]
 cases voteF need [] l<;>rfl
def Few (need:Int) (l:List (List Int)):Prop:=∀ w,(↑(l.count w):Int)<need
theorem voteF_few {need:Int}:∀ (r pre:List (List Int)) (x:List Int),Few need (pre++r)→voteF need pre (r++[x])=if (↑((pre++r++[x]).count x):Int)<need then none else some x
 | [],pre,x,h=>by
  have h1:=h x
  rw [List.append_nil] at h1 ⊢
  have h2:(pre++[x]).count x=pre.count x+1:=by rw [List.count_append];simp
  rw [List.nil_append]
  unfold voteF
  rw [h2]
  by_cases g:(↑(pre.count x+1):Int)<need
  ·rw [if_pos g,if_neg (by omega)]
   rfl
  ·rw [if_neg g,if_pos (by omega)]
 | w::r,pre,x,h=>by
  have h1:=h w
  have h2:(pre++[w]).count w≤(pre++w::r).count w:=by
   rw [List.count_append,List.count_append,List.count_cons]
   simp
  rw [List.cons_append]
  unfold voteF
  rw [if_neg (by omega),voteF_few r (pre++[w]) x (by rw [List.append_assoc];exact h)]
  simp
theorem few_nil {need:Int} (h:1≤need):Few need []:=fun w=>by simp;omega
theorem few_add {need:Int} {l:List (List Int)} {x:List Int} (h:Few need l) (hx:(↑((l++[x]).count x):Int)<need):Few need (l++[x]):=fun w=>by
 by_cases e:x=w
 ·rw [← e]
  exact hx
 ·have:=h w
  rw [List.count_append]
  simp [e]
  exact this
theorem R21_times_eq {l:List (List Int)} {w:List Int} (hl:l.length≤100000) (hw:∀ x∈l,x.length≤100000000):R21_times l w=some (↑(l.count w):Int):=by
 unfold R21_times
 have key:=iter_post (step:=fun (s:Nat×Nat)=>R21_times.s2 l w s.1 s.2) (fun s=>s.2≤l.length∧s.1=(l.take s.2).count w) (fun s=>l.length-s.2) (fun r=>r=l.count w) (fun ⟨y,i⟩ ⟨g1,g2⟩=>by
  simp only at g1 g2
  subst g2
  simp only [R21_times.s2]
  by_cases g3:i<l.length
  ·left
   have hx:=get_at g3
   have hcl:(l.take i).count w≤l.length:=Nat.le_trans List.count_le_length (by rw [List.length_take];omega)
   refine ⟨((l.take (i+1)).count w,i+1),?_,⟨g3,rfl⟩,by simp only;omega⟩
   rw [dec_lt hx,cond_true,idxn_at hx,R06_Ints_eq _ _ (by have:=hw _ (List.getElem_mem g3);omega),obind,take_step hx,List.count_append]
   by_cases e:l[i]=w
   ·rw [decide_eq_true e,cond_true,chk_pos (by unfold inR;omega)]
    simp [e]
   ·rw [decide_eq_false e,cond_false]
    simp [e]
  ·right
   have e:i=l.length:=by omega
   subst e
   exact ⟨_,by rw [dec_end,cond_false],by rw [List.take_length]⟩) fuel (0,0) ⟨Nat.zero_le _,by simp⟩ (by have:=fuel_big;simp only;omega)
 obtain ⟨r,e,rfl⟩:=key
 rw [e,obind]
end Go.Proofs.YtajipjnfegmlcaaGreatDoor.Sym

/-
 Oracles: what the program's and the document's Ask come to. Plain laws.
-/
namespace Go.Proofs.YtajipjnfegmlcaaGreatDoor.Sym
set_option maxRecDepth 100000
structure OrOk (q:T_api_Oracle):Prop where
 dev:DevOk q.Device
 seed:SeedOk q.Device
 obs:ObsOk q.Obs
 tr:SmTr q.Obs.Traces
 inp:q.Obs.Inputs=q.Device.M.Inputs
 v1:1≤q.Votes
 v2:q.Votes≤9
 t1:q.Votes≤q.Tries
 t2:q.Tries≤64
def askL (w:List Int) (votes:Int):Nat→T_api_Device→Int→List (List Int)→T_api_Device×Int×List (List Int)×Option (List Int)
 | 0,d,n,ys=>(d,n,ys,none)
 | k+1,d,n,ys=>if (queryD d w).2.2≠0 then askL w votes k (queryD d w).1 (mdI (n+1)) ys else if (↑((ys++[(queryD d w).2.1]).count (queryD d w).2.1):Int)<votes then askL w votes k (queryD d w).1 (mdI (n+1)) (ys++[(queryD d w).2.1]) else ((queryD d w).1,mdI (n+1),ys++[(queryD d w).2.1],some (queryD d w).2.1)
def askR (q:T_api_Oracle) (w:List Int):T_api_Device×Int×List (List Int)×Option (List Int):=askL w q.Votes q.Tries.toNat q.Device q.Asked []
def askE (q:T_api_Oracle) (w:List Int) (r:T_api_Device×Int×List (List Int)×Option (List Int)):T_api_Oracle×List Int×Int :=
 match r.2.2.2 with
 | none=>(⟨r.1,q.Obs,q.Votes,q.Tries,r.2.1,q.Hits⟩,[],if r.2.2.1=[] then 14 else 13)
 | some out=>if (addO q.Obs ⟨w,out⟩).2≠0 then (⟨r.1,q.Obs,q.Votes,q.Tries,r.2.1,q.Hits⟩,[],(addO q.Obs ⟨w,out⟩).2) else (⟨r.1,(addO q.Obs ⟨w,out⟩).1,q.Votes,q.Tries,r.2.1,q.Hits⟩,out,0)
def askO (q:T_api_Oracle) (w:List Int):T_api_Oracle×List Int×Int :=
 if checkI w q.Device.M.Inputs≠0 then (q,[],checkI w q.Device.M.Inputs) else
  match ansO q.Obs w with
  | some r=>(⟨q.Device,q.Obs,q.Votes,q.Tries,q.Asked,mdI (q.Hits+1)⟩,r,0)
  | none=>askE q w (askR q w)
theorem mdI_small {n:Int} (h:inR n):mdI n=n:=by
 unfold inR at h
 unfold mdI
 rw [IntKind.wrap_i64]
 omega
structure TryOk (q:T_api_Oracle) (w:List Int) (d:T_api_Device) (ys:List (List Int)) (i:Int):Prop where
 dev:DevOk d
 seed:SeedOk d
 mac:d.M=q.Device.M
 i0:0≤i
 i1:i≤q.Tries
 len:(↑ys.length:Int)≤i
 wrd:∀ y∈ys,WrdOk y
 few:Few q.Votes ys
section
variable {q:T_api_Oracle} {w:List Int} {d:T_api_Device} {ys:List (List Int)} {i n:Int}
theorem TryOk.out (Q:OrOk q) (hw:checkI w q.Device.M.Inputs=0) (hl:w.length≤1024) (T:TryOk q w d ys i) (h:(queryD d w).2.2=0):WrdOk (queryD d w).2.1∧(queryD d w).2.1.length=w.length∧∀ y∈(queryD d w).2.1,0≤y∧y≤1048576:=by
 have hM:=T.mac
 obtain ⟨_,_,_,k4⟩:=queryD_ok (w:=w) T.dev T.seed (by rw [hM];exact hw)
 obtain ⟨g1,g2⟩:=k4 h
 exact ⟨⟨by omega,fun x hx=>by have:=g2 x hx;unfold inR;omega⟩,g1,g2⟩
theorem TryOk.next (Q:OrOk q) (hw:checkI w q.Device.M.Inputs=0) (hl:w.length≤1024) (T:TryOk q w d ys i) (hi:i<q.Tries):TryOk q w (queryD d w).1 ys (i+1):=by
 have hM:=T.mac
 have h0:=T.i0
 have h1:=T.len
 obtain ⟨k1,k2,k3,_⟩:=queryD_ok (w:=w) T.dev T.seed (by rw [hM];exact hw)
 exact ⟨k1,k2,by rw [k3,hM],by omega,by omega,by omega,T.wrd,T.few⟩
theorem TryOk.more (Q:OrOk q) (hw:checkI w q.Device.M.Inputs=0) (hl:w.length≤1024) (T:TryOk q w d ys i) (hi:i<q.Tries) (h:(queryD d w).2.2=0) (hc:(↑((ys++[(queryD d w).2.1]).count (queryD d w).2.1):Int)<q.Votes):TryOk q w (queryD d w).1 (ys++[(queryD d w).2.1]) (i+1):=by
 have T2:=T.next Q hw hl hi
 have h1:=T.len
 refine ⟨T2.dev,T2.seed,T2.mac,T2.i0,T2.i1,by rw [List.length_append,List.length_singleton];omega,fun y hy=>?_,few_add T.few hc⟩
 rcases List.mem_append.1 hy with e | e
 ·exact T.wrd y e
 ·rw [List.mem_singleton.1 e]
  exact (T.out Q hw hl h).1
abbrev TA:Type:=Int×Int×List (List Int)×List (List Int)×Int×Bool×List Int×Int×Int×Int×Int×Int×Int×Int×Int×Int×List (List Int)×List Int×Int×Int
abbrev TR:Type:=Int×Int×List (List Int)×List (List Int)×Int×Bool×List Int×Int×Int×Int×Int×Int×Int×Int×Int×Int×List Int×Int
abbrev tupA (d:T_api_Device) (n:Int) (ys:List (List Int)) (ans:List Int) (code i:Int):TA:=(d.M.Inputs,d.M.Start,d.M.Next,d.M.Out,d.State,d.Ready,d.Latency.Step,d.Latency.Reset,d.Faults.Lost,d.Faults.Wrong,d.Faults.Crash,d.Seed,d.Steps,d.Resets,d.Time,n,ys,ans,code,i)
abbrev tupR (d:T_api_Device) (n:Int) (ans:List Int) (code:Int):TR:=(d.M.Inputs,d.M.Start,d.M.Next,d.M.Out,d.State,d.Ready,d.Latency.Step,d.Latency.Reset,d.Faults.Lost,d.Faults.Wrong,d.Faults.Crash,d.Seed,d.Steps,d.Resets,d.Time,n,ans,code)
abbrev TB:Type:=Int×Int×List (List Int)×List (List Int)×Int×Bool×List Int×Int×Int×Int×Int×Int×Int×Int×Int×Int×List (List Int)×Int
abbrev TC:Type:=Int×Int×List (List Int)×List (List Int)×Int×Bool×List Int×Int×Int×Int×Int×Int×Int×Int×Int×Int×List (List Int)
abbrev tupB (d:T_api_Device) (n:Int) (ys:List (List Int)) (i:Int):TB:=(d.M.Inputs,d.M.Start,d.M.Next,d.M.Out,d.State,d.Ready,d.Latency.Step,d.Latency.Reset,d.Faults.Lost,d.Faults.Wrong,d.Faults.Crash,d.Seed,d.Steps,d.Resets,d.Time,n,ys,i)
abbrev tupC (d:T_api_Device) (n:Int) (ys:List (List Int)):TC:=(d.M.Inputs,d.M.Start,d.M.Next,d.M.Out,d.State,d.Ready,d.Latency.Step,d.Latency.Reset,d.Faults.Lost,d.Faults.Wrong,d.Faults.Crash,d.Seed,d.Steps,d.Resets,d.Time,n,ys)
theorem dev_eta (d:T_api_Device):(⟨⟨d.M.Inputs,d.M.Start,d.M.Next,d.M.Out⟩,d.State,d.Ready,⟨d.Latency.Step,d.Latency.Reset⟩,⟨d.Faults.Lost,d.Faults.Wrong,d.Faults.Crash⟩,d.Seed,d.Steps,d.Resets,d.Time⟩:T_api_Device)=d:=rfl
theorem pa_step {code:Int} (Q:OrOk q) (hw:checkI w q.Device.M.Inputs=0) (hl:w.length≤1024) (T:TryOk q w d ys i) :
  oracle_Ask.s10 w q d.M.Inputs d.M.Start d.M.Next d.M.Out d.State d.Ready d.Latency.Step d.Latency.Reset d.Faults.Lost d.Faults.Wrong d.Faults.Crash d.Seed d.Steps d.Resets d.Time n ys [] code i=some (if i<q.Tries then (if (queryD d w).2.2≠0 then .inl (tupA (queryD d w).1 (mdI (n+1)) ys [] code (mdI (i+1))) else if (↑((ys++[(queryD d w).2.1]).count (queryD d w).2.1):Int)<q.Votes then .inl (tupA (queryD d w).1 (mdI (n+1)) (ys++[(queryD d w).2.1]) [] 13 (mdI (i+1))) else .inr (tupR (queryD d w).1 (mdI (n+1)) (queryD d w).2.1 0)) else .inr (tupR d n [] code)):=by
 have t2:=Q.t2
 have h1:=T.len
 unfold oracle_Ask.s10
 by_cases g:i<q.Tries
 ·rw [if_pos g,decide_eq_true g,cond_true,dev_eta,Query_p T.dev T.seed (by rw [T.mac];exact hw) hl,obind]
  by_cases g1:(queryD d w).2.2≠0
  ·rw [if_pos g1,decide_eq_true g1,cond_true,obind]
   rfl
  ·have g1':(queryD d w).2.2=0:=Classical.byContradiction g1
   have ho:=T.out Q hw hl g1'
   rw [if_neg g1,decide_eq_false g1,cond_false,chk_pos (cap24 (by omega)),nondet_Vote_L_eq ⟨Q.v1,Q.v2⟩ (by rw [List.length_append,List.length_singleton];omega) fun y hy=>?_,obind,voteF_few ys [] _ (by rw [List.nil_append];exact T.few),List.nil_append]
   ·by_cases g2:(↑((ys++[(queryD d w).2.1]).count (queryD d w).2.1):Int)<q.Votes
    ·rw [if_pos g2,if_pos g2]
     rfl
    ·rw [if_neg g2,if_neg g2]
     rfl
   ·rcases List.mem_append.1 hy with e | e
    ·exact T.wrd y e
    ·rw [List.mem_singleton.1 e]
     exact ho.1
 ·rw [if_neg g,decide_eq_false g,cond_false]
theorem pa_iter (Q:OrOk q) (hw:checkI w q.Device.M.Inputs=0) (hl:w.length≤1024):∀ (f:Nat) (k:Nat) (d:T_api_Device) (n:Int) (ys:List (List Int)) (i:Int),TryOk q w d ys i→q.Tries-i=(↑k:Int)→k<f →
  iter (fun s=>oracle_Ask.s10 w q s.1 s.2.1 s.2.2.1 s.2.2.2.1 s.2.2.2.2.1 s.2.2.2.2.2.1 s.2.2.2.2.2.2.1 s.2.2.2.2.2.2.2.1 s.2.2.2.2.2.2.2.2.1 s.2.2.2.2.2.2.2.2.2.1 s.2.2.2.2.2.2.2.2.2.2.1 s.2.2.2.2.2.2.2.2.2.2.2.1 s.2.2.2.2.2.2.2.2.2.2.2.2.1 s.2.2.2.2.2.2.2.2.2.2.2.2.2.1 s.2.2.2.2.2.2.2.2.2.2.2.2.2.2.1 s.2.2.2.2.2.2.2.2.2.2.2.2.2.2.2.1 s.2.2.2.2.2.2.2.2.2.2.2.2.2.2.2.2.1 s.2.2.2.2.2.2.2.2.2.2.2.2.2.2.2.2.2.1 s.2.2.2.2.2.2.2.2.2.2.2.2.2.2.2.2.2.2.1 s.2.2.2.2.2.2.2.2.2.2.2.2.2.2.2.2.2.2.2:TA→Option (TA⊕TR)) f (tupA d n ys [] (if ys=[] then 14 else 13) i)=some (tupR (askL w q.Votes k d n ys).1 (askL w q.Votes k d n ys).2.1 ((askL w q.Votes k d n ys).2.2.2.getD []) (match (askL w q.Votes k d n ys).2.2.2 with | some _=>0 | none=>if (askL w q.Votes k d n ys).2.2.1=[] then 14 else 13))
 | 0,_,_,_,_,_,_,_,h=>absurd h (Nat.not_lt_zero _)
 | f+1,0,d,n,ys,i,T,hk,_=>by
  unfold iter askL
  rw [pa_step Q hw hl T,if_neg (by omega)]
  rfl
 | f+1,k+1,d,n,ys,i,T,hk,hf=>by
  have t2:=Q.t2
  have h0:=T.i0
  unfold iter askL
  rw [pa_step Q hw hl T,if_pos (by omega),mdI_small (n:=i+1) (by unfold inR;omega)]
  by_cases g1:(queryD d w).2.2≠0
  ·rw [if_pos g1,if_pos g1]
   exact pa_iter Q hw hl f k _ _ ys (i+1) (T.next Q hw hl (by omega)) (by omega) (by omega)
  ·have g1':(queryD d w).2.2=0:=Classical.byContradiction g1
   rw [if_neg g1,if_neg g1]
   by_cases g2:(↑((ys++[(queryD d w).2.1]).count (queryD d w).2.1):Int)<q.Votes
   ·rw [if_pos g2,if_pos g2]
    have:=pa_iter Q hw hl f k _ (mdI (n+1)) (ys++[(queryD d w).2.1]) (i+1) (T.more Q hw hl (by omega) g1' g2) (by omega) (by omega)
    rw [if_neg (by simp)] at this
    exact this
   ·rw [if_neg g2,if_neg g2]
    rfl
theorem ra_step (Q:OrOk q) (hw:checkI w q.Device.M.Inputs=0) (hl:w.length≤1024) (T:TryOk q w d ys i) :
  R21_Ask.s10 q w d.M.Inputs d.M.Start d.M.Next d.M.Out d.State d.Ready d.Latency.Step d.Latency.Reset d.Faults.Lost d.Faults.Wrong d.Faults.Crash d.Seed d.Steps d.Resets d.Time n ys i=some (if i<q.Tries then (if (queryD d w).2.2≠0 then .inl (tupB (queryD d w).1 (mdI (n+1)) ys (mdI (i+1))) else if (↑((ys++[(queryD d w).2.1]).count (queryD d w).2.1):Int)<q.Votes then .inl (tupB (queryD d w).1 (mdI (n+1)) (ys++[(queryD d w).2.1]) (mdI (i+1))) else .inr (.inr (askE q w ((queryD d w).1,mdI (n+1),ys++[(queryD d w).2.1],some (queryD d w).2.1)))) else .inr (.inl (tupC d n ys))):=by
 have t2:=Q.t2
 have h1:=T.len
 unfold R21_Ask.s10
 by_cases g:i<q.Tries
 ·rw [if_pos g,decide_eq_true g,cond_true,dev_eta,Query_r T.dev T.seed (by rw [T.mac];exact hw) hl,obind]
  by_cases g1:(queryD d w).2.2≠0
  ·rw [if_pos g1,decide_eq_true g1,cond_true,obind]
   rfl
  ·have g1':(queryD d w).2.2=0:=Classical.byContradiction g1
   have ho:=T.out Q hw hl g1'
   rw [if_neg g1,decide_eq_false g1,cond_false,chk_pos (cap24 (by omega)),R21_times_eq (by rw [List.length_append,List.length_singleton];omega) fun y hy=>?_,obind]
   ·by_cases g2:(↑((ys++[(queryD d w).2.1]).count (queryD d w).2.1):Int)<q.Votes
    ·rw [if_pos g2,decide_eq_true g2]
     rfl
    ·rw [if_neg g2,decide_eq_false g2,cond_false,R16_Add_eq Q.tr Q.obs ⟨show SmW w by unfold SmW;omega,show SmW (queryD d w).2.1 by have:=ho.2.1;unfold SmW;omega⟩,obind]
     unfold askE
     simp only
     by_cases g3:(addO q.Obs ⟨w,(queryD d w).2.1⟩).2≠0
     ·rw [if_pos g3,decide_eq_true g3]
      rfl
     ·rw [if_neg g3,decide_eq_false g3]
      rfl
   ·rcases List.mem_append.1 hy with e | e
    ·have:=(T.wrd y e).1
     omega
    ·rw [List.mem_singleton.1 e]
     have:=ho.1.1
     omega
 ·rw [if_neg g,decide_eq_false g,cond_false]
def askF (q:T_api_Oracle) (w:List Int) (r:T_api_Device×Int×List (List Int)×Option (List Int)):TC⊕(T_api_Oracle×List Int×Int) :=
 match r.2.2.2 with
 | none=>.inl (tupC r.1 r.2.1 r.2.2.1)
 | some _=>.inr (askE q w r)
theorem ra_iter (Q:OrOk q) (hw:checkI w q.Device.M.Inputs=0) (hl:w.length≤1024):∀ (f:Nat) (k:Nat) (d:T_api_Device) (n:Int) (ys:List (List Int)) (i:Int),TryOk q w d ys i→q.Tries-i=(↑k:Int)→k<f →
  iter (fun s=>R21_Ask.s10 q w s.1 s.2.1 s.2.2.1 s.2.2.2.1 s.2.2.2.2.1 s.2.2.2.2.2.1 s.2.2.2.2.2.2.1 s.2.2.2.2.2.2.2.1 s.2.2.2.2.2.2.2.2.1 s.2.2.2.2.2.2.2.2.2.1 s.2.2.2.2.2.2.2.2.2.2.1 s.2.2.2.2.2.2.2.2.2.2.2.1 s.2.2.2.2.2.2.2.2.2.2.2.2.1 s.2.2.2.2.2.2.2.2.2.2.2.2.2.1 s.2.2.2.2.2.2.2.2.2.2.2.2.2.2.1 s.2.2.2.2.2.2.2.2.2.2.2.2.2.2.2.1 s.2.2.2.2.2.2.2.2.2.2.2.2.2.2.2.2.1 s.2.2.2.2.2.2.2.2.2.2.2.2.2.2.2.2.2:TB→Option (TB⊕(TC⊕(T_api_Oracle×List Int×Int)))) f (tupB d n ys i)=some (askF q w (askL w q.Votes k d n ys))
 | 0,_,_,_,_,_,_,_,h=>absurd h (Nat.not_lt_zero _)
 | f+1,0,d,n,ys,i,T,hk,_=>by
  unfold iter askL
  rw [ra_step Q hw hl T,if_neg (by omega)]
  rfl
 | f+1,k+1,d,n,ys,i,T,hk,hf=>by
  have t2:=Q.t2
  have h0:=T.i0
  unfold iter askL
  rw [ra_step Q hw hl T,if_pos (by omega),mdI_small (n:=i+1) (by unfold inR;omega)]
  by_cases g1:(queryD d w).2.2≠0
  ·rw [if_pos g1,if_pos g1]
   exact ra_iter Q hw hl f k _ _ ys (i+1) (T.next Q hw hl (by omega)) (by omega) (by omega)
  ·have g1':(queryD d w).2.2=0:=Classical.byContradiction g1
   rw [if_neg g1,if_neg g1]
   by_cases g2:(↑((ys++[(queryD d w).2.1]).count (queryD d w).2.1):Int)<q.Votes
   ·rw [if_pos g2,if_pos g2]
    exact ra_iter Q hw hl f k _ (mdI (n+1)) (ys++[(queryD d w).2.1]) (i+1) (T.more Q hw hl (by omega) g1' g2) (by omega) (by omega)
   ·rw [if_neg g2,if_neg g2]
    rfl
theorem try_first (Q:OrOk q):TryOk q w q.Device [] 0:=⟨Q.dev,Q.seed,rfl,by decide,by have:=Q.v1;have:=Q.t1;omega,by simp,fun y hy=>by simp at hy,few_nil Q.v1⟩
theorem askL_out (Q:OrOk q) (hw:checkI w q.Device.M.Inputs=0) (hl:w.length≤1024):∀ (k:Nat) (d:T_api_Device) (n:Int) (ys:List (List Int)) (i:Int),TryOk q w d ys i→q.Tries-i=(↑k:Int) →
  DevOk (askL w q.Votes k d n ys).1∧SeedOk (askL w q.Votes k d n ys).1∧(askL w q.Votes k d n ys).1.M=q.Device.M∧∀ out,(askL w q.Votes k d n ys).2.2.2=some out→out.length=w.length∧∀ y∈out,0≤y∧y≤1048576
 | 0,d,n,ys,i,T,_=>⟨T.dev,T.seed,T.mac,fun out h=>by cases h⟩
 | k+1,d,n,ys,i,T,hk=>by
  unfold askL
  by_cases g1:(queryD d w).2.2≠0
  ·rw [if_pos g1]
   exact askL_out Q hw hl k _ _ ys (i+1) (T.next Q hw hl (by omega)) (by omega)
  ·have g1':(queryD d w).2.2=0:=Classical.byContradiction g1
   rw [if_neg g1]
   by_cases g2:(↑((ys++[(queryD d w).2.1]).count (queryD d w).2.1):Int)<q.Votes
   ·rw [if_pos g2]
    exact askL_out Q hw hl k _ _ _ (i+1) (T.more Q hw hl (by omega) g1' g2) (by omega)
   ·rw [if_neg g2]
    have T2:=T.next Q hw hl (by omega)
    refine ⟨T2.dev,T2.seed,T2.mac,fun out h=>?_⟩
    have h:some (queryD d w).2.1=some out:=h
    injection h with h
    rw [← h]
    exact (T.out Q hw hl g1').2
theorem Ask_p (Q:OrOk q) (hl:w.length≤100000):oracle_Ask q w=some (askO q w):=by
 have hsw:SmW w:=by unfold SmW;omega
 have hf:=fuel_big
 have t2:=Q.t2
 have hk:q.Tries-0=(↑q.Tries.toNat:Int):=by have:=Q.v1;have:=Q.t1;omega
 unfold oracle_Ask askO
 rw [word_Check_eq _ _ hsw,obind]
 by_cases hw:checkI w q.Device.M.Inputs=0
 ·have hl2:w.length≤1024:=by
   have i1:=Q.dev.mac.i1
   have i2:=Q.dev.mac.i2
   unfold checkI at hw
   rw [if_pos (by omega)] at hw
   split at hw
   ·cases hw
   ·omega
  rw [if_neg (by simpa using hw),hw,decide_eq_false (by decide),cond_false,oracle_copied_eq Q.dev Q.tr,obind,observe_Answer_eq Q.tr Q.obs,obind]
  cases ha:ansO q.Obs w with
  | some r =>
   have hr:SmW r:=by
    unfold ansO at ha
    split at ha
    ·injection ha with ha
     rw [← ha]
     unfold SmW
     simp
    ·cases hf:q.Obs.Traces.find? fun t=>decide (w <+: t.In) with
     | none=>rw [hf] at ha;cases ha
     | some t =>
      rw [hf] at ha
      injection ha with ha
      rw [← ha]
      unfold SmW
      simp only [List.length_take]
      omega
   simp only [cond_true]
   rw [libclone_word hr,obind]
  | none =>
   simp only [cond_false]
   obtain ⟨o1,o2,o3,o4⟩:=askL_out Q hw hl2 q.Tries.toNat q.Device q.Asked [] 0 (try_first Q) hk
   have key:=pa_iter Q hw hl2 fuel q.Tries.toNat q.Device q.Asked [] 0 (try_first Q) hk (by omega)
   rw [if_pos rfl] at key
   refine (congrArg (fun z=>Option.bind z _) key).trans ?_
   rw [obind]
   show _=some (askE q w (askL w q.Votes q.Tries.toNat q.Device q.Asked []))
   unfold askE
   generalize askL w q.Votes q.Tries.toNat q.Device q.Asked []=r at o4
   obtain ⟨d',n',ys',res⟩:=r
   simp only [oracle_Ask.k11] at o4 ⊢
   cases res with
   | none =>
    simp only
    rw [decide_eq_true (by split<;>decide),cond_true]
   | some out =>
    obtain ⟨p1,p2⟩:=o4 out rfl
    have hso:SmW out:=by unfold SmW;omega
    simp only [Option.getD_some]
    rw [decide_eq_false (by decide),cond_false,libclone_word hsw,obind,libclone_word hso,obind,observe_Add_eq Q.tr Q.obs ⟨hsw,hso⟩,obind]
    by_cases g3:(addO q.Obs ⟨w,out⟩).2≠0
    ·rw [if_pos g3,decide_eq_true g3]
     rfl
    ·rw [if_neg g3,decide_eq_false g3]
     rfl
 ·rw [if_pos hw,decide_eq_true hw]
  rfl
theorem Ask_r (Q:OrOk q) (hl:w.length≤100000):R21_Ask q w=some (askO q w):=by
 have hsw:SmW w:=by unfold SmW;omega
 have hf:=fuel_big
 have t2:=Q.t2
 have hk:q.Tries-0=(↑q.Tries.toNat:Int):=by have:=Q.v1;have:=Q.t1;omega
 unfold R21_Ask askO
 rw [R01_Check_eq _ _ hsw,obind]
 by_cases hw:checkI w q.Device.M.Inputs=0
 ·have hl2:w.length≤1024:=by
   have i1:=Q.dev.mac.i1
   have i2:=Q.dev.mac.i2
   unfold checkI at hw
   rw [if_pos (by omega)] at hw
   split at hw
   ·cases hw
   ·omega
  rw [if_neg (by simpa using hw),hw,decide_eq_false (by decide),cond_false,R16_Answer_eq' Q.tr Q.obs,obind]
  cases ha:ansO q.Obs w with
  | some r =>
   have hr:SmW r:=by
    unfold ansO at ha
    split at ha
    ·injection ha with ha
     rw [← ha]
     unfold SmW
     simp
    ·cases hf:q.Obs.Traces.find? fun t=>decide (w <+: t.In) with
     | none=>rw [hf] at ha;cases ha
     | some t =>
      rw [hf] at ha
      injection ha with ha
      rw [← ha]
      unfold SmW
      simp only [List.length_take]
      omega
   rfl
  | none =>
   simp only [cond_false]
   obtain ⟨o1,o2,o3,o4⟩:=askL_out Q hw hl2 q.Tries.toNat q.Device q.Asked [] 0 (try_first Q) hk
   have key:=ra_iter Q hw hl2 fuel q.Tries.toNat q.Device q.Asked [] 0 (try_first Q) hk (by omega)
   refine (congrArg (fun z=>Option.bind z _) key).trans ?_
   rw [obind]
   show _=some (askE q w (askL w q.Votes q.Tries.toNat q.Device q.Asked []))
   unfold askF
   generalize askL w q.Votes q.Tries.toNat q.Device q.Asked []=r
   obtain ⟨d',n',ys',res⟩:=r
   cases res with
   | none =>
    simp only [Sum.elim_inl,R21_Ask.k11,askE]
    cases ys' with
    | nil=>rfl
    | cons y ys' =>
     rw [decide_eq_true (by simp only [List.length_cons];omega)]
     rfl
   | some out=>rfl
 ·rw [if_pos hw,decide_eq_true hw]
  rfl
end
end Go.Proofs.YtajipjnfegmlcaaGreatDoor.Sym

/-
 The examples of the chapter on oracles, reckoned.
-/
namespace Go.Proofs.YtajipjnfegmlcaaGreatDoor.Sym
set_option maxRecDepth 100000
theorem awake21_true:L21_awake=some true:=by decide +kernel
end Go.Proofs.YtajipjnfegmlcaaGreatDoor.Sym

/-
 Oracles: the plain laws of OracleAsks and OracleTries.
-/
namespace Go.Proofs.YtajipjnfegmlcaaGreatDoor.Sym
set_option maxRecDepth 100000
structure SmQ (q:T_api_Oracle):Prop where
 n:q.Device.M.Next.length≤2000000
 s:q.Device.Latency.Step.length≤2000000
 o:SmO q.Obs
 seed:SeedOk q.Device
theorem L16_Great_eq {o:T_api_Obs} (h:o.Traces.length≤2000000):L16_Great o=some (decide (60<o.Traces.length)||!o.Traces.all fun x=>decide (x.In.length≤100∧x.Out.length≤100)):=by
 unfold L16_Great
 by_cases g:60<o.Traces.length
 ·rw [decide_eq_true (by omega),cond_true,decide_eq_true g]
  rfl
 ·rw [decide_eq_false (by omega),cond_false,decide_eq_false g,Bool.false_or]
  have key:=iter_scan (step:=fun s=>L16_Great.s2 o s) (l:=o.Traces) (fun _ x=>if decide (x.In.length≤100∧x.Out.length≤100)=true then none else some true) (fun i x hx=>by
   simp only [L16_Great.s2]
   rw [dec_lt hx,cond_true,idxn_at hx,idxn_at hx]
   by_cases a1:x.In.length≤100
   ·by_cases a2:x.Out.length≤100
    ·rw [decide_eq_false (by omega),cond_false,decide_eq_false (by omega),obind,cond_false,decide_eq_true ⟨a1,a2⟩]
     rfl
    ·rw [decide_eq_false (by omega),cond_false,decide_eq_true (by omega),obind,cond_true,decide_eq_false fun e=>a2 e.2]
     rfl
   ·rw [decide_eq_true (by omega),cond_true,obind,cond_true,decide_eq_false fun e=>a1 e.1]
    rfl) (by
   simp only [L16_Great.s2]
   rw [dec_end]
   rfl) (by omega)
  rw [key,scan_all (p:=fun (x:T_api_Trace)=>decide (x.In.length≤100∧x.Out.length≤100)),obind]
  by_cases h2:(o.Traces.all fun x=>decide (x.In.length≤100∧x.Out.length≤100))=true
  ·rw [if_pos h2,h2]
   rfl
  ·rw [if_neg h2,Bool.not_eq_true _ |>.mp h2]
   rfl
theorem L21_Great_tot {q:T_api_Oracle} (h:SmQ q):∃ b,L21_Great q=some b∧(b=false→q.Obs.Traces.length≤60∧∀ x∈q.Obs.Traces,x.In.length≤100∧x.Out.length≤100):=by
 unfold L21_Great
 by_cases g1:20<(↑q.Device.M.Next.length:Int)
 ·exact ⟨true,by rw [decide_eq_true g1];rfl,fun e=>by cases e⟩
 rw [decide_eq_false g1,cond_false]
 by_cases g2:10<q.Device.M.Inputs
 ·exact ⟨true,by rw [decide_eq_true g2];rfl,fun e=>by cases e⟩
 rw [decide_eq_false g2,cond_false]
 by_cases g3:20<(↑q.Device.Latency.Step.length:Int)
 ·exact ⟨true,by rw [decide_eq_true g3];rfl,fun e=>by cases e⟩
 rw [decide_eq_false g3,cond_false,L16_Great_eq (by have:=h.o.1;omega),obind,obind]
 refine ⟨_,rfl,fun e=>?_⟩
 rw [Bool.or_eq_false_iff] at e
 have e1:=of_decide_eq_false e.1
 refine ⟨by omega,fun x hx=>?_⟩
 have e2:(q.Obs.Traces.all fun x=>decide (x.In.length≤100∧x.Out.length≤100))=true:=by
  have:=e.2
  simpa only [Bool.not_eq_false'] using this
 exact of_decide_eq_true (List.all_eq_true.1 e2 x hx)
theorem R21_Valid_tot {q:T_api_Oracle} (h:SmQ q) (ho:SmO q.Obs):∃ b,R21_Valid q=some b∧(b=true→OrOk q):=by
 obtain ⟨e1,h1,z1⟩:=R19_Valid_tot q.Device (by have:=h.s;omega)
 obtain ⟨e2,h2,z2⟩:=R16_Valid_tot q.Obs ho
 unfold R21_Valid
 rw [h1,obind,h2,obind]
 by_cases g1:e1=0
 ·rw [decide_eq_true g1,cond_true]
  by_cases g2:e2=0
  ·rw [decide_eq_true g2,cond_true]
   by_cases g3:q.Obs.Inputs=q.Device.M.Inputs
   ·rw [decide_eq_true g3,cond_true]
    by_cases g4:1≤q.Votes
    ·rw [decide_eq_true g4,cond_true]
     by_cases g5:q.Votes≤9
     ·rw [decide_eq_true g5,cond_true]
      by_cases g6:q.Votes≤q.Tries
      ·rw [decide_eq_true g6,cond_true,obind]
       exact ⟨_,rfl,fun e=>⟨z1 g1,h.seed,z2 g2,ho.tr,g3,g4,g5,g6,of_decide_eq_true e⟩⟩
      ·exact ⟨false,by rw [decide_eq_false g6];rfl,fun e=>by cases e⟩
     ·exact ⟨false,by rw [decide_eq_false g5];rfl,fun e=>by cases e⟩
    ·exact ⟨false,by rw [decide_eq_false g4];rfl,fun e=>by cases e⟩
   ·exact ⟨false,by rw [decide_eq_false g3];rfl,fun e=>by cases e⟩
  ·exact ⟨false,by rw [decide_eq_false g2];rfl,fun e=>by cases e⟩
 ·exact ⟨false,by rw [decide_eq_false g1];rfl,fun e=>by cases e⟩
theorem R06_SameTraces_self {l:List T_api_Trace} (h:SmTr l):R06_SameTraces l l=some true:=by
 have hl:=h.1
 unfold R06_SameTraces
 have key:=iter_scan (step:=fun s=>R06_SameTraces.s2 l l s) (l:=l) (fun _ _=>(none:Option Bool)) (fun i x hx=>by
  have hs:=h.2 x (List.mem_of_getElem? hx)
  have h1:=hs.1
  have h2:=hs.2
  unfold SmW at h1 h2
  simp only [R06_SameTraces.s2]
  rw [dec_lt hx,cond_true,idxn_at hx,idxn_at hx,R06_Ints_eq _ _ (by omega),obind,decide_eq_true rfl,Bool.not_true,cond_false,idxn_at hx,idxn_at hx,R06_Ints_eq _ _ (by omega),obind,decide_eq_true rfl]
  rfl) (by
  simp only [R06_SameTraces.s2]
  rw [dec_end]
  rfl) (by omega)
 have hn:∀ (m:List T_api_Trace) (j:Nat),scan (fun _ _=>(none:Option Bool)) j m=none:=by
  intro m
  induction m with
  | nil=>intro j;rfl
  | cons x m ih =>
   intro j
   unfold scan
   exact ih _
 rw [key,hn,decide_eq_false (by simp),cond_false]
 rfl
theorem R16_Same_self {o:T_api_Obs} (h:SmTr o.Traces):R16_Same o o=some true:=by
 unfold R16_Same
 rw [decide_eq_true rfl,cond_true,R06_SameTraces_self h]
 rfl
theorem R06_Same_self {m:T_api_Mealy} (H:MacOk m):R06_Same m m=some true:=by
 have h1:=H.sml.1
 have h2:=H.sml.2
 have l1:=h1.1
 have l2:=h2.1
 unfold R06_Same
 rw [R06_Lists_eq _ _ (by omega) fun x hx=>by have:=h1.2 x hx;unfold SmW at this;omega,R06_Lists_eq _ _ (by omega) fun x hx=>by have:=h2.2 x hx;unfold SmW at this;omega]
 simp
theorem R19_Same_self {d:T_api_Device} (H:DevOk d):R19_Same d d=some true:=by
 unfold R19_Same
 rw [R06_Same_self H.mac,obind,R01_Same_eq _ _ H.sw]
 simp
theorem R21_Same_self {q:T_api_Oracle} (H:DevOk q.Device) (h:SmTr q.Obs.Traces):R21_Same q q=some true:=by
 unfold R21_Same
 rw [R19_Same_self H,obind,R16_Same_self h]
 simp
theorem addO_len {o:T_api_Obs} {t:T_api_Trace}:(addO o t).1.Traces.length≤o.Traces.length+1:=by
 unfold addO
 split
 ·simp only;omega
 ·split
  ·simp only;omega
  ·split
   ·simp only;omega
   ·exact addL_length _ _
theorem addO_tr {o:T_api_Obs} {t:T_api_Trace} (h:SmTr o.Traces) (hn:o.Traces.length≤1000000) (ht:SmX t):SmTr (addO o t).1.Traces:=by
 refine ⟨by have:=addO_len (o:=o) (t:=t);omega,?_⟩
 unfold addO
 split
 ·exact h.2
 ·split
  ·exact h.2
  ·split
   ·exact h.2
   ·intro x hx
    have hx:x∈addL o.Traces t:=hx
    unfold addL at hx
    split at hx
    ·exact h.2 x hx
    ·rcases mem_insT.1 hx with e | e
     ·rw [e]
      exact ht
     ·exact h.2 x (List.filter_sublist.subset e)
theorem addO_inp {o:T_api_Obs} {t:T_api_Trace}:(addO o t).1.Inputs=o.Inputs:=by
 unfold addO
 split
 ·rfl
 ·split
  ·rfl
  ·split<;>rfl
section
variable {q:T_api_Oracle} {w:List Int}
theorem askO_ok (Q:OrOk q) (hn:q.Obs.Traces.length≤9000) (hl:w.length≤100000):OrOk (askO q w).1∧(askO q w).1.Obs.Traces.length≤q.Obs.Traces.length+1∧(askO q w).2.1.length≤2000000:=by
 unfold askO
 by_cases hw:checkI w q.Device.M.Inputs=0
 ·rw [if_neg (by simpa using hw)]
  have hl2:w.length≤1024:=by
   have i1:=Q.dev.mac.i1
   have i2:=Q.dev.mac.i2
   unfold checkI at hw
   rw [if_pos (by omega)] at hw
   split at hw
   ·cases hw
   ·omega
  cases ha:ansO q.Obs w with
  | some r =>
   refine ⟨⟨Q.dev,Q.seed,Q.obs,Q.tr,Q.inp,Q.v1,Q.v2,Q.t1,Q.t2⟩,by simp only;omega,?_⟩
   simp only
   unfold ansO at ha
   split at ha
   ·injection ha with ha
    rw [← ha]
    simp
   ·cases hf:q.Obs.Traces.find? fun t=>decide (w <+: t.In) with
    | none=>rw [hf] at ha;cases ha
    | some t =>
     rw [hf] at ha
     injection ha with ha
     rw [← ha]
     simp only [List.length_take]
     omega
  | none =>
   have hk:q.Tries-0=(↑q.Tries.toNat:Int):=by have:=Q.v1;have:=Q.t1;omega
   obtain ⟨o1,o2,o3,o4⟩:=askL_out Q hw hl2 q.Tries.toNat q.Device q.Asked [] 0 (try_first Q) hk
   simp only
   unfold askR askE
   generalize askL w q.Votes q.Tries.toNat q.Device q.Asked []=r at o1 o2 o3 o4
   obtain ⟨d',n',ys',res⟩:=r
   simp only at o1 o2 o3 o4 ⊢
   cases res with
   | none=>exact ⟨⟨o1,o2,Q.obs,Q.tr,by rw [Q.inp];simp only [o3],Q.v1,Q.v2,Q.t1,Q.t2⟩,by simp only;omega,by simp⟩
   | some out =>
    obtain ⟨p1,p2⟩:=o4 out rfl
    simp only
    split
    ·exact ⟨⟨o1,o2,Q.obs,Q.tr,by rw [Q.inp];simp only [o3],Q.v1,Q.v2,Q.t1,Q.t2⟩,by simp only;omega,by simp⟩
    ·refine ⟨⟨o1,o2,addO_ok Q.obs,addO_tr Q.tr (by omega) ⟨show SmW w by unfold SmW;omega,show SmW out by unfold SmW;omega⟩,by simp only [addO_inp,Q.inp,o3],Q.v1,Q.v2,Q.t1,Q.t2⟩,addO_len,by simp only;omega⟩
 ·rw [if_pos hw]
  exact ⟨Q,by simp only;omega,by simp⟩
theorem plain_OracleAsks (hq:SmQ q) (hl:w.length≤1048576):L21_OracleAsks q w=some true:=by
 obtain ⟨b,hb,hz⟩:=L21_Great_tot hq
 have hA:((L21_awake).bind fun c64=>some c64)=some true:=by rw [awake21_true];rfl
 unfold L21_OracleAsks
 rw [hb,obind,hA]
 cases b with
 | true=>rfl
 | false =>
  obtain ⟨h1,h2⟩:=hz rfl
  rw [cond_false]
  by_cases g:60<(↑w.length:Int)
  ·rw [decide_eq_true g]
   rfl
  ·obtain ⟨v,hv,hvz⟩:=R21_Valid_tot hq hq.o
   rw [decide_eq_false g,cond_false,hv,obind]
   cases v with
   | false=>rfl
   | true =>
    have Q:=hvz rfl
    have a1:=Ask_p (w:=w) Q (by omega)
    have a2:=Ask_r (w:=w) Q (by omega)
    obtain ⟨k1,k2,k3⟩:=askO_ok (w:=w) Q (by omega) (by omega)
    rw [Bool.not_true,obind,cond_false,a1,obind,a2,obind,R21_Same_self k1.dev k1.tr,obind,cond_true,R06_Ints_eq _ _ (by omega),obind,decide_eq_true rfl,cond_true,decide_eq_true rfl]
    rfl
end
end Go.Proofs.YtajipjnfegmlcaaGreatDoor.Sym

/-
 What the bound of the laws gives: the sizes of oracles and of observations.
-/
namespace Go.Proofs.YtajipjnfegmlcaaGreatDoor.Sym
theorem sum_mem {α:Type} {f:α→Nat}:∀ {l:List α} {x:α},x∈l→f x≤(l.map f).sum
 | y::l,x,h=>by
  rw [List.map_cons,List.sum_cons]
  rcases List.mem_cons.1 h with rfl | h
  ·omega
  ·have:=sum_mem (f:=f) h
   omega
theorem sum_len {α:Type} {f:α→Nat} (hf:∀ x,1≤f x):∀ l:List α,l.length≤(l.map f).sum
 | []=>by simp
 | y::l=>by
  have:=sum_len hf l
  have:=hf y
  rw [List.map_cons,List.sum_cons,List.length_cons]
  omega
theorem sz_word {x:List Int}:x.length+1=szL sz1 x:=by
 unfold szL sz1
 induction x with
 | nil=>rfl
 | cons y l ih=>simp at ih ⊢;omega
theorem trace_pos (t:T_api_Trace):1≤sz_api_Trace t:=by unfold sz_api_Trace;omega
theorem smo_of {o:T_api_Obs} (s:sz_api_Obs o≤1048576):SmO o:=by
 unfold sz_api_Obs at s
 have s1:szL sz_api_Trace o.Traces≤1048576:=by omega
 refine ⟨?_,fun t ht=>?_⟩
 ·have:=sum_len (f:=sz_api_Trace) trace_pos o.Traces
  unfold szL at s1
  omega
 ·have h1:=sum_mem (f:=sz_api_Trace) ht
  have h2:=sz_word (x:=t.In)
  have h3:=sz_word (x:=t.Out)
  have h4:(o.Traces.map sz_api_Trace).sum+1≤1048576:=s1
  have h5:sz_api_Trace t=(szL sz1 t.In+(szL sz1 t.Out+0))+1:=rfl
  omega
theorem len_of {l:List (List Int)} {N:Nat} (h:szL (szL sz1) l≤N):l.length≤N:=by
 have:=sum_len (f:=szL sz1) (fun x=>by rw [← sz_word];omega) l
 unfold szL at this h
 omega
theorem smq_of {q:T_api_Oracle} (k:ok_api_Oracle q) (s:sz_api_Oracle q≤1048576):SmQ q:=by
 unfold sz_api_Oracle at s
 have s1:sz_api_Device q.Device≤1048576:=by omega
 have s2:sz_api_Obs q.Obs≤1048576:=by omega
 have ho:=smo_of s2
 unfold sz_api_Device at s1
 have s3:sz_api_Mealy q.Device.M≤1048576:=by omega
 have s4:sz_api_Latency q.Device.Latency≤1048576:=by omega
 unfold sz_api_Mealy at s3
 unfold sz_api_Latency at s4
 have h1:q.Device.M.Next.length≤1048576:=len_of (by omega)
 have h2:=sz_word (x:=q.Device.Latency.Step)
 exact ⟨by omega,by omega,ho,k.1.2.2.2.2.2.1⟩
end Go.Proofs.YtajipjnfegmlcaaGreatDoor.Sym

/-
 The law of OracleAsks, for arguments within the bound.
-/
namespace Go.Proofs.YtajipjnfegmlcaaGreatDoor.Sym
theorem law_L21_OracleAsks (x0:T_api_Oracle) (x1:List Int) (k0:ok_api_Oracle x0) (s0:sz_api_Oracle x0≤1048576) (k1:okL inR x1) (s1:szL sz1 x1≤1048576):L21_OracleAsks x0 x1=some true :=
 plain_OracleAsks (smq_of k0 s0) (by have:=sz_word (x:=x1);omega)
end Go.Proofs.YtajipjnfegmlcaaGreatDoor.Sym

/-
  The contracts of the functions, read from the code by a program (ext.py): each function has its plain twin as its contract.
-/
namespace Go.Proofs.YtajipjnfegmlcaaGreatDoor.Sym
open Go.RowKit
set_option maxRecDepth 100000
set_option linter.unusedVariables false
set_option maxHeartbeats 4000000
theorem eI {σ:St} {src:List (Nat×Option Nat)} {γ:Nat→Nat} {t:Nat} {y b:IV} (h1:σ.av t=.im y) (h2:AV.im y=.im b):∃ x,σ.av t=x∧SubR σ src γ x (.im b):=⟨.im y,h1,.im (Sub.rfl' h2)⟩
theorem odt {p:Prop} [Decidable p] (h:decide p=true):p:=of_decide_eq_true h
theorem odf {p:Prop} [Decidable p] (h:decide p=false):¬ p:=of_decide_eq_false h
theorem ctd {α:Type} {p:Prop} [Decidable p] {x y z:α} (hb:decide p=true) (h:cond (decide p) x y=z):x=z∧p:=⟨cond_t hb h,odt hb⟩
theorem cfd {α:Type} {p:Prop} [Decidable p] {x y z:α} (hb:decide p=false) (h:cond (decide p) x y=z):y=z∧¬ p:=⟨cond_f hb h,odf hb⟩
theorem hT {σ:St}:Holds σ True:=Holds.true_ _
abbrev lZ {α:Type} (l:List α):Prop:=List.length l≤17592186044416
theorem eA {σ:St} {avs:List (Nat×AV)} {kds:List (Nat×Kd)} {cels:List (Nat×Nat×AV)} (src:List (Nat×Option Nat)) (hn:ndB (srcs src) []=true:=by exact rfl) (ha:SubL σ src (gnM kds) avs:=by repeat' (first | exact trivial | refine ⟨eI rfl rfl,?_⟩ | refine ⟨⟨.own _ _ _,rfl,.own rfl rfl rfl⟩,?_⟩ | refine ⟨⟨.osl _ _,rfl,.osl rfl rfl rfl⟩,?_⟩ | refine ⟨⟨.im (.val (.slice none 0 0)),rfl,.made rfl rfl⟩,?_⟩)) (hk:KdL σ src kds:=by repeat' (first | exact trivial | refine ⟨.inl ⟨_,rfl,rfl,trivial⟩,?_⟩ | refine ⟨.inl ⟨_,rfl,rfl,⟨rfl,rfl⟩⟩,?_⟩ | refine ⟨.inr ⟨rfl,rfl,.inl ⟨_,_,rfl,by decide⟩⟩,?_⟩)) (hc:CeL σ src (gnM kds) cels:=by repeat' (first | exact trivial | refine ⟨⟨_,.im _,rfl,rfl,.im (Sub.rfl' rfl)⟩,?_⟩ | refine ⟨⟨_,.own _ _ _,rfl,rfl,.own rfl rfl rfl⟩,?_⟩ | refine ⟨⟨_,.osl _ _,rfl,rfl,.osl rfl rfl rfl⟩,?_⟩)):Ent σ (mkSt avs kds cels):=Ent.mk src hn ha hk hc
theorem sp_slices_IndexFunc_Sint_int (s_:List Int) (f_:Int→Option Bool) (f1_:FuncId) (hf1:∀ x0 r,f_ x0=some r→Sp Tryz.prog f1_ [.im (nI x0)] (.im (nB r))) (r:Int) (h:Ok (nL cI s_)→Ok (.fn f1_ [])→slices_IndexFunc_Sint_int s_ f_=some r):Sp Tryz.prog 78 [.im (nL cI s_),.im (.fn f1_ [])] (.im (nI r)):=by
 refine sp_of rfl [] rfl rfl rfl (Nat.le_of_ble_eq_true rfl) rfl fun hk=>?_
 replace h:=h hk.1 hk.2.1
 have z1:lZ s_:=ok_len hk.1
 unfold slices_IndexFunc_Sint_int at h
 conv=>whnf
 refine Nf.mk (List.length s_) len_map ?_
 conv=>whnf
 obtain ⟨oc,hc,hk51⟩:=bind_some h
 clear h
 have h:=hc
 clear hc
 refine Cut.mkS oc (Y:=Unit) (fun (_:Unit)=>mkSt [] [] []) (fun (_:Unit)=>True) (by rintro ⟨⟩;exact (hT)) ?_ ?_
 conv=>whnf
 refine Loops.iter (fun (s:Nat)=>slices_IndexFunc_Sint_int.s2 s_ f_ s) (fun y71=>mkSt [(0,.im (nL cI s_)),(1,.im (.fn f1_ [])),(7,.im (nI (↑(List.length s_):Int))),(8,.im (nI (↑y71:Int)))] [] []) (fun y71=>lZ s_∧True) h (eA []) (by rintro y71;exact ((Holds.avl 0 rfl).and (hT))) ?_
 clear h
 rintro k y71 o hp h ho76
 replace h:slices_IndexFunc_Sint_int.s2 s_ f_ y71=some o:=h
 unfold slices_IndexFunc_Sint_int.s2 at h
 obtain ⟨z81,_⟩:=hp
 conv=>whnf
 refine Both.mk ?_ ?_<;>intro b77
 obtain ⟨h,b77d⟩:=ctd b77 h
 conv=>whnf
 obtain ⟨e78,he78,h⟩:=idxn_some h
 refine ⟨_,⟨(by omega),map_at he78,rfl⟩,?_⟩
 conv=>whnf
 obtain ⟨c79,hc79,h⟩:=bind_some h
 refine ⟨_,hf1 e78 c79 hc79,?_⟩
 conv=>whnf
 refine Both.mk ?_ ?_<;>intro b80
 replace h:=cond_t b80 h
 conv=>whnf
 cases h
 have ho76:_=_:=ho76
 cases ho76
 replace h:some _=some _:=hk51
 cases h
 conv=>whnf
 exact ⟨rfl,rfl⟩
 replace h:=cond_f b80 h
 conv=>whnf
 refine Arith.mk (by show inR _;unfold inR;omega) ?_
 conv=>whnf
 cases h
 exact Nxt.mk _ ho76 (eA [])
 obtain ⟨h,b77d⟩:=cfd b77 h
 conv=>whnf
 cases h
 have ho76:_=_:=ho76
 cases ho76
 exact JoinS.mk' _ rfl (eA [])
 rintro ⟨⟩ rfl hp
 replace h:=sum_inl hk51
 conv=>whnf
 cases h
 conv=>whnf
 exact ⟨rfl,rfl⟩
theorem sp_slices_ContainsFunc_Sint_int (s_:List Int) (f_:Int→Option Bool) (f1_:FuncId) (hf1:∀ x0 r,f_ x0=some r→Sp Tryz.prog f1_ [.im (nI x0)] (.im (nB r))) (r:Bool) (h:Ok (nL cI s_)→Ok (.fn f1_ [])→slices_ContainsFunc_Sint_int s_ f_=some r):Sp Tryz.prog 47 [.im (nL cI s_),.im (.fn f1_ [])] (.im (nB r)):=by
 refine sp_of rfl [] rfl rfl rfl (Nat.le_of_ble_eq_true rfl) rfl fun hk=>?_
 replace h:=h hk.1 hk.2.1
 have z1:lZ s_:=ok_len hk.1
 unfold slices_ContainsFunc_Sint_int at h
 conv=>whnf
 obtain ⟨c51,hc51,h⟩:=bind_some h
 refine ⟨_,(sp_slices_IndexFunc_Sint_int s_ f_ f1_ hf1 c51 (fun _ _=>hc51)),?_⟩
 conv=>whnf
 cases h
 conv=>whnf
 exact ⟨rfl,rfl⟩
theorem sp_word_permitted (inputs_:Int) (r:Bool) (h:Ok (nI inputs_)→word_permitted inputs_=some r):Sp Tryz.prog 46 [.im (nI inputs_)] (.im (nB r)):=by
 refine sp_of rfl [] rfl rfl rfl (Nat.le_of_ble_eq_true rfl) rfl fun hk=>?_
 replace h:=h hk.1
 unfold word_permitted at h
 conv=>whnf
 obtain ⟨y54,hc,hk52⟩:=bind_some h
 clear h
 have h:=hc
 clear hc
 refine Cut.mk (mkSt [(2,.im (nB y54))] [] []) (True) (hT) ?_ (fun hp=>?_)
 conv=>whnf
 refine Both.mk ?_ ?_<;>intro b55
 replace b55:=beq_tt b55
 obtain ⟨h,b55d⟩:=ctd b55 h
 conv=>whnf
 refine Both.yes (tt_beq b55) ?_
 conv=>whnf
 refine Both.yes b55 ?_
 conv=>whnf
 cases h
 exact Join.mk (eA [])
 replace b55:=beq_tf b55
 obtain ⟨h,b55d⟩:=cfd b55 h
 conv=>whnf
 refine Both.no (ft_beq b55) ?_
 conv=>whnf
 refine Both.no b55 ?_
 conv=>whnf
 cases h
 exact Join.mk (eA [])
 replace h:=hk52
 conv=>whnf
 cases h
 conv=>whnf
 exact ⟨rfl,rfl⟩
theorem sp_word_Check_1 (a_:Int) (p1_:Int) (r:Bool) (h:Ok (nI a_)→Ok (.ref (cI p1_))→word_Check_1 a_ p1_=some r):Sp Tryz.prog 48 [.im (nI a_),.im (.ref (cI p1_))] (.im (nB r)):=by
 refine sp_of rfl [] rfl rfl rfl (Nat.le_of_ble_eq_true rfl) rfl fun hk=>?_
 replace h:=h hk.1 hk.2.1
 unfold word_Check_1 at h
 conv=>whnf
 obtain ⟨y54,hc,hk52⟩:=bind_some h
 clear h
 have h:=hc
 clear hc
 refine Cut.mk (mkSt [(3,.im (nB y54))] [] []) (True) (hT) ?_ (fun hp=>?_)
 conv=>whnf
 refine Both.mk ?_ ?_<;>intro b55
 replace b55:=beq_ff b55
 obtain ⟨h,b55d⟩:=cfd b55 h
 conv=>whnf
 iterate 2 (refine Both.yes (ff_beq b55) ?_;(conv=>whnf))
 refine Both.no b55 ?_
 conv=>whnf
 cases h
 exact Join.mk (eA [])
 replace b55:=beq_ft b55
 obtain ⟨h,b55d⟩:=ctd b55 h
 conv=>whnf
 iterate 2 (refine Both.no (tf_beq b55) ?_;(conv=>whnf))
 refine Both.yes b55 ?_
 conv=>whnf
 cases h
 exact Join.mk (eA [])
 replace h:=hk52
 conv=>whnf
 cases h
 conv=>whnf
 exact ⟨rfl,rfl⟩
theorem sp_slices_IndexFunc_Sint_int_n1 (s_:List Int) (f_:Int→Option Bool) (f1_:FuncId) (k1_0:IV) (hk1_0:nz k1_0=k1_0) (hf1:∀ x0 r,f_ x0=some r→Sp Tryz.prog f1_ [.im (nI x0),.im k1_0] (.im (nB r))) (r:Int) (h:Ok (nL cI s_)→Ok (.fn f1_ [k1_0])→slices_IndexFunc_Sint_int_n1 s_ f_=some r):Sp Tryz.prog 78 [.im (nL cI s_),.im (.fn f1_ [k1_0])] (.im (nI r)):=by
 refine sp_of rfl [] rfl rfl rfl (Nat.le_of_ble_eq_true rfl) rfl fun hk=>?_
 replace h:=h hk.1 hk.2.1
 have z1:lZ s_:=ok_len hk.1
 unfold slices_IndexFunc_Sint_int_n1 at h
 conv=>whnf
 refine Nf.mk (List.length s_) len_map ?_
 conv=>whnf
 obtain ⟨oc,hc,hk51⟩:=bind_some h
 clear h
 have h:=hc
 clear hc
 refine Cut.mkS oc (Y:=Unit) (fun (_:Unit)=>mkSt [] [] []) (fun (_:Unit)=>True) (by rintro ⟨⟩;exact (hT)) ?_ ?_
 conv=>whnf
 refine Loops.iter (fun (s:Nat)=>slices_IndexFunc_Sint_int_n1.s2 s_ f_ s) (fun y71=>mkSt [(0,.im (nL cI s_)),(1,.im (.fn f1_ [k1_0])),(7,.im (nI (↑(List.length s_):Int))),(8,.im (nI (↑y71:Int)))] [] []) (fun y71=>lZ s_∧True) h (eA []) (by rintro y71;exact ((Holds.avl 0 rfl).and (hT))) ?_
 clear h
 rintro k y71 o hp h ho76
 replace h:slices_IndexFunc_Sint_int_n1.s2 s_ f_ y71=some o:=h
 unfold slices_IndexFunc_Sint_int_n1.s2 at h
 obtain ⟨z81,_⟩:=hp
 conv=>whnf
 refine Both.mk ?_ ?_<;>intro b77
 obtain ⟨h,b77d⟩:=ctd b77 h
 conv=>whnf
 obtain ⟨e78,he78,h⟩:=idxn_some h
 refine ⟨_,⟨(by omega),map_at he78,rfl⟩,?_⟩
 conv=>whnf
 obtain ⟨c79,hc79,h⟩:=bind_some h
 refine ⟨_,Sp.args (hf1 e78 c79 hc79) (by rw [hk1_0];try rfl),?_⟩
 conv=>whnf
 refine Both.mk ?_ ?_<;>intro b80
 replace h:=cond_t b80 h
 conv=>whnf
 cases h
 have ho76:_=_:=ho76
 cases ho76
 replace h:some _=some _:=hk51
 cases h
 conv=>whnf
 exact ⟨rfl,rfl⟩
 replace h:=cond_f b80 h
 conv=>whnf
 refine Arith.mk (by show inR _;unfold inR;omega) ?_
 conv=>whnf
 cases h
 exact Nxt.mk _ ho76 (eA [])
 obtain ⟨h,b77d⟩:=cfd b77 h
 conv=>whnf
 cases h
 have ho76:_=_:=ho76
 cases ho76
 exact JoinS.mk' _ rfl (eA [])
 rintro ⟨⟩ rfl hp
 replace h:=sum_inl hk51
 conv=>whnf
 cases h
 conv=>whnf
 exact ⟨rfl,rfl⟩
theorem sp_slices_ContainsFunc_Sint_int_n1 (s_:List Int) (f_:Int→Option Bool) (f1_:FuncId) (k1_0:IV) (hk1_0:nz k1_0=k1_0) (hf1:∀ x0 r,f_ x0=some r→Sp Tryz.prog f1_ [.im (nI x0),.im k1_0] (.im (nB r))) (r:Bool) (h:Ok (nL cI s_)→Ok (.fn f1_ [k1_0])→slices_ContainsFunc_Sint_int_n1 s_ f_=some r):Sp Tryz.prog 47 [.im (nL cI s_),.im (.fn f1_ [k1_0])] (.im (nB r)):=by
 refine sp_of rfl [] rfl rfl rfl (Nat.le_of_ble_eq_true rfl) rfl fun hk=>?_
 replace h:=h hk.1 hk.2.1
 have z1:lZ s_:=ok_len hk.1
 unfold slices_ContainsFunc_Sint_int_n1 at h
 conv=>whnf
 obtain ⟨c51,hc51,h⟩:=bind_some h
 refine ⟨_,(sp_slices_IndexFunc_Sint_int_n1 s_ f_ f1_ k1_0 hk1_0 hf1 c51 (fun _ _=>hc51)),?_⟩
 conv=>whnf
 cases h
 conv=>whnf
 exact ⟨rfl,rfl⟩
theorem sp_word_Check (w_:List Int) (inputs_:Int) (r:Int) (h:Ok (nL cI w_)→Ok (nI inputs_)→word_Check w_ inputs_=some r):Sp Tryz.prog 20 [.im (nL cI w_),.im (nI inputs_)] (.im (nI r)):=by
 refine sp_of rfl [700003] rfl rfl rfl (Nat.le_of_ble_eq_true rfl) rfl fun hk=>?_
 replace h:=h hk.1 hk.2.1
 have z1:lZ w_:=ok_len hk.1
 unfold word_Check at h
 conv=>whnf
 obtain ⟨c51,hc51,h⟩:=bind_some h
 refine ⟨_,(sp_word_permitted inputs_ c51 (fun _=>hc51)),?_⟩
 conv=>whnf
 refine Both.mk ?_ ?_<;>intro b52
 replace h:=cond_t b52 h
 conv=>whnf
 cases h
 conv=>whnf
 exact ⟨rfl,rfl⟩
 replace h:=cond_f b52 h
 conv=>whnf
 refine Nf.mk (List.length w_) len_map ?_
 conv=>whnf
 refine Both.mk ?_ ?_<;>intro b53
 obtain ⟨h,b53d⟩:=ctd b53 h
 conv=>whnf
 cases h
 conv=>whnf
 exact ⟨rfl,rfl⟩
 obtain ⟨h,b53d⟩:=cfd b53 h
 conv=>whnf
 obtain ⟨c54,hc54,h⟩:=bind_some h
 refine ⟨_,(sp_slices_ContainsFunc_Sint_int_n1 w_ (fun u0=>word_Check_1 u0 inputs_) 48 (.ref (cI inputs_)) rfl (fun u0 r h=>(sp_word_Check_1 u0 inputs_ r (fun _ _=>h))) c54 (fun _ _=>hc54)),?_⟩
 conv=>whnf
 refine Both.mk ?_ ?_<;>intro b55
 replace h:=cond_t b55 h
 conv=>whnf
 cases h
 conv=>whnf
 exact ⟨rfl,rfl⟩
 replace h:=cond_f b55 h
 conv=>whnf
 cases h
 conv=>whnf
 exact ⟨rfl,rfl⟩
theorem sp_word_Common (a_:List Int) (b_:List Int) (r:Int) (h:Ok (nL cI a_)→Ok (nL cI b_)→word_Common a_ b_=some r):Sp Tryz.prog 79 [.im (nL cI a_),.im (nL cI b_)] (.im (nI r)):=by
 refine sp_of rfl [] rfl rfl rfl (Nat.le_of_ble_eq_true rfl) rfl fun hk=>?_
 replace h:=h hk.1 hk.2.1
 have z1:lZ a_:=ok_len hk.1
 have z2:lZ b_:=ok_len hk.2.1
 unfold word_Common at h
 conv=>whnf
 refine Nf.mk (List.length a_) len_map ?_
 conv=>whnf
 refine Nf.mk (List.length b_) len_map ?_
 conv=>whnf
 obtain ⟨oc,hc,hk51⟩:=bind_some h
 clear h
 have h:=hc
 clear hc
 refine Cut.mkS oc (Y:=Unit) (fun (_:Unit)=>mkSt [(0,.im (nL cI a_)),(1,.im (nL cI b_))] [] []) (fun (_:Unit)=>lZ a_∧lZ b_∧True) (by rintro ⟨⟩;exact ((Holds.avl 0 rfl).and ((Holds.avl 1 rfl).and (hT)))) ?_ ?_
 conv=>whnf
 refine Loops.iter (fun (s:Nat)=>word_Common.s2 a_ b_ s) (fun y72=>mkSt [(0,.im (nL cI a_)),(1,.im (nL cI b_)),(10,.im (nI (min (↑(List.length a_):Int) (↑(List.length b_):Int)))),(11,.im (nI (↑y72:Int)))] [] []) (fun y72=>lZ a_∧lZ b_∧True) h (eA []) (by rintro y72;exact ((Holds.avl 0 rfl).and ((Holds.avl 1 rfl).and (hT)))) ?_
 clear h
 rintro k y72 o hp h ho77
 replace h:word_Common.s2 a_ b_ y72=some o:=h
 unfold word_Common.s2 at h
 obtain ⟨z82,z83,_⟩:=hp
 conv=>whnf
 refine Both.mk ?_ ?_<;>intro b78
 obtain ⟨h,b78d⟩:=ctd b78 h
 conv=>whnf
 obtain ⟨e79,he79,h⟩:=idxn_some h
 refine ⟨_,⟨(by omega),map_at he79,rfl⟩,?_⟩
 conv=>whnf
 obtain ⟨e80,he80,h⟩:=idxn_some h
 refine ⟨_,⟨(by omega),map_at he80,rfl⟩,?_⟩
 conv=>whnf
 refine Both.mk ?_ ?_<;>intro b81
 obtain ⟨h,b81d⟩:=ctd b81 h
 conv=>whnf
 cases h
 have ho77:_=_:=ho77
 cases ho77
 replace h:some _=some _:=hk51
 cases h
 conv=>whnf
 exact ⟨rfl,rfl⟩
 obtain ⟨h,b81d⟩:=cfd b81 h
 conv=>whnf
 refine Arith.mk (by show inR _;unfold inR;omega) ?_
 conv=>whnf
 cases h
 exact Nxt.mk _ ho77 (eA [])
 obtain ⟨h,b78d⟩:=cfd b78 h
 conv=>whnf
 cases h
 have ho77:_=_:=ho77
 cases ho77
 exact JoinS.mk' _ rfl (eA [])
 rintro ⟨⟩ rfl hp
 replace h:=sum_inl hk51
 obtain ⟨z84,z85,_⟩:=hp
 conv=>whnf
 refine Nf.mk (List.length a_) len_map ?_
 conv=>whnf
 refine Nf.mk (List.length b_) len_map ?_
 conv=>whnf
 cases h
 conv=>whnf
 exact ⟨rfl,rfl⟩
theorem sp_word_HasPrefix (w_:List Int) (p_:List Int) (r:Bool) (h:Ok (nL cI w_)→Ok (nL cI p_)→word_HasPrefix w_ p_=some r):Sp Tryz.prog 52 [.im (nL cI w_),.im (nL cI p_)] (.im (nB r)):=by
 refine sp_of rfl [] rfl rfl rfl (Nat.le_of_ble_eq_true rfl) rfl fun hk=>?_
 replace h:=h hk.1 hk.2.1
 have z1:lZ w_:=ok_len hk.1
 have z2:lZ p_:=ok_len hk.2.1
 unfold word_HasPrefix at h
 conv=>whnf
 obtain ⟨c51,hc51,h⟩:=bind_some h
 refine ⟨_,(sp_word_Common w_ p_ c51 (fun _ _=>hc51)),?_⟩
 conv=>whnf
 refine Nf.mk (List.length p_) len_map ?_
 conv=>whnf
 cases h
 conv=>whnf
 exact ⟨rfl,rfl⟩
theorem sp_observe_Answer_1 (t_:T_api_Trace) (p1_:List Int) (r:Bool) (h:Ok (.agg (c_api_Trace t_))→Ok (.ref (cL cI p1_))→observe_Answer_1 t_ p1_=some r):Sp Tryz.prog 51 [.im (.agg (c_api_Trace t_)),.im (.ref (cL cI p1_))] (.im (nB r)):=by
 refine sp_of rfl [700002] rfl rfl rfl (Nat.le_of_ble_eq_true rfl) rfl fun hk=>?_
 replace h:=h hk.1 hk.2.1
 have z1:lZ t_.In:=ok_len (Ok.agg_at hk.1 0 rfl)
 have z2:lZ t_.Out:=ok_len (Ok.agg_at hk.1 1 rfl)
 have z3:lZ p1_:=ok_len (Ok.ref_at hk.2.1 0 rfl)
 unfold observe_Answer_1 at h
 conv=>whnf
 obtain ⟨c51,hc51,h⟩:=bind_some h
 refine ⟨_,(sp_word_HasPrefix t_.In p1_ c51 (fun _ _=>hc51)),?_⟩
 conv=>whnf
 cases h
 conv=>whnf
 exact ⟨rfl,rfl⟩
theorem sp_slices_IndexFunc_Sapi_Trace_api_Trace_n1 (s_:List T_api_Trace) (f_:T_api_Trace→Option Bool) (f1_:FuncId) (k1_0:IV) (hk1_0:nz k1_0=k1_0) (hf1:∀ x0 r,f_ x0=some r→Sp Tryz.prog f1_ [.im (.agg (c_api_Trace x0)),.im k1_0] (.im (nB r))) (r:Int) (h:Ok (nL c_api_Trace s_)→Ok (.fn f1_ [k1_0])→slices_IndexFunc_Sapi_Trace_api_Trace_n1 s_ f_=some r):Sp Tryz.prog 50 [.im (nL c_api_Trace s_),.im (.fn f1_ [k1_0])] (.im (nI r)):=by
 refine sp_of rfl [] rfl rfl rfl (Nat.le_of_ble_eq_true rfl) rfl fun hk=>?_
 replace h:=h hk.1 hk.2.1
 have z1:lZ s_:=ok_len hk.1
 unfold slices_IndexFunc_Sapi_Trace_api_Trace_n1 at h
 conv=>whnf
 refine Nf.mk (List.length s_) len_map ?_
 conv=>whnf
 obtain ⟨oc,hc,hk51⟩:=bind_some h
 clear h
 have h:=hc
 clear hc
 refine Cut.mkS oc (Y:=Unit) (fun (_:Unit)=>mkSt [] [] []) (fun (_:Unit)=>True) (by rintro ⟨⟩;exact (hT)) ?_ ?_
 conv=>whnf
 refine Loops.iter (fun (s:Nat)=>slices_IndexFunc_Sapi_Trace_api_Trace_n1.s2 s_ f_ s) (fun y71=>mkSt [(0,.im (nL c_api_Trace s_)),(1,.im (.fn f1_ [k1_0])),(7,.im (nI (↑(List.length s_):Int))),(8,.im (nI (↑y71:Int)))] [] []) (fun y71=>lZ s_∧True) h (eA []) (by rintro y71;exact ((Holds.avl 0 rfl).and (hT))) ?_
 clear h
 rintro k y71 o hp h ho76
 replace h:slices_IndexFunc_Sapi_Trace_api_Trace_n1.s2 s_ f_ y71=some o:=h
 unfold slices_IndexFunc_Sapi_Trace_api_Trace_n1.s2 at h
 obtain ⟨z81,_⟩:=hp
 conv=>whnf
 refine Both.mk ?_ ?_<;>intro b77
 obtain ⟨h,b77d⟩:=ctd b77 h
 conv=>whnf
 obtain ⟨e78,he78,h⟩:=idxn_some h
 refine ⟨_,⟨(by omega),map_at he78,rfl⟩,?_⟩
 conv=>whnf
 obtain ⟨c79,hc79,h⟩:=bind_some h
 refine ⟨_,Sp.args (hf1 e78 c79 hc79) (by rw [hk1_0];try rfl),?_⟩
 conv=>whnf
 refine Both.mk ?_ ?_<;>intro b80
 replace h:=cond_t b80 h
 conv=>whnf
 cases h
 have ho76:_=_:=ho76
 cases ho76
 replace h:some _=some _:=hk51
 cases h
 conv=>whnf
 exact ⟨rfl,rfl⟩
 replace h:=cond_f b80 h
 conv=>whnf
 refine Arith.mk (by show inR _;unfold inR;omega) ?_
 conv=>whnf
 cases h
 exact Nxt.mk _ ho76 (eA [])
 obtain ⟨h,b77d⟩:=cfd b77 h
 conv=>whnf
 cases h
 have ho76:_=_:=ho76
 cases ho76
 exact JoinS.mk' _ rfl (eA [])
 rintro ⟨⟩ rfl hp
 replace h:=sum_inl hk51
 conv=>whnf
 cases h
 conv=>whnf
 exact ⟨rfl,rfl⟩
theorem sp_observe_Answer (o_:T_api_Obs) (w_:List Int) (r:List Int×Bool) (h:Ok (.agg (c_api_Obs o_))→Ok (nL cI w_)→observe_Answer o_ w_=some r):Sp Tryz.prog 22 [.im (.agg (c_api_Obs o_)),.im (nL cI w_)] (.tup [nL cI r.1,nB r.2]):=by
 refine sp_of rfl [700002,700003] rfl rfl rfl (Nat.le_of_ble_eq_true rfl) rfl fun hk=>?_
 replace h:=h hk.1 hk.2.1
 have z1:lZ o_.Traces:=ok_len (Ok.agg_at hk.1 1 rfl)
 have z2:lZ w_:=ok_len hk.2.1
 unfold observe_Answer at h
 conv=>whnf
 refine Nf.mk (List.length w_) len_map ?_
 conv=>whnf
 refine Both.mk ?_ ?_<;>intro b51
 obtain ⟨h,b51d⟩:=ctd b51 h
 conv=>whnf
 cases h
 conv=>whnf
 exact ⟨rfl,rfl⟩
 obtain ⟨h,b51d⟩:=cfd b51 h
 conv=>whnf
 obtain ⟨c52,hc52,h⟩:=bind_some h
 refine ⟨_,(sp_slices_IndexFunc_Sapi_Trace_api_Trace_n1 o_.Traces (fun u0=>observe_Answer_1 u0 w_) 51 (.ref (cL cI w_)) rfl (fun u0 r h=>(sp_observe_Answer_1 u0 w_ r (fun _ _=>h))) c52 (fun _ _=>hc52)),?_⟩
 conv=>whnf
 refine Both.mk ?_ ?_<;>intro b53
 obtain ⟨h,b53d⟩:=ctd b53 h
 conv=>whnf
 cases h
 conv=>whnf
 exact ⟨rfl,rfl⟩
 obtain ⟨h,b53d⟩:=cfd b53 h
 conv=>whnf
 obtain ⟨e54,he54z,he54,h⟩:=idx_some h
 refine ⟨_,⟨he54z,map_at he54,rfl⟩,?_⟩
 conv=>whnf
 refine Nf.mk (List.length w_) len_map ?_
 conv=>whnf
 refine Nf.mk (List.length e54.Out) len_map ?_
 conv=>whnf
 obtain ⟨c55,h⟩:=chk_some h
 refine Side.mk (show (0:Int)≤(0:Int)∧(0:Int)≤(min (↑(List.length w_):Int) (↑(List.length e54.Out):Int))∧(min (↑(List.length w_):Int) (↑(List.length e54.Out):Int))≤(↑(List.length (List.map cI e54.Out)):Int)∧(∀ e∈List.map cI e54.Out,List.length e=1) from ⟨by omega,by first | omega | (simp only [List.length_map];omega),by first | omega | (simp only [List.length_map];omega),map_len fun _=>rfl⟩) ?_
 conv=>whnf
 refine Nf.mk (List.map cI (List.take (Int.toNat (min (↑(List.length w_):Int) (↑(List.length e54.Out):Int))) e54.Out)) take_map ?_
 conv=>whnf
 obtain ⟨c56,hc56,h⟩:=bind_some h
 refine ⟨_,(sp_lib_Clone_int (List.take (Int.toNat (min (↑(List.length w_):Int) (↑(List.length e54.Out):Int))) e54.Out) c56 (hc56)).im,?_⟩
 conv=>whnf
 cases h
 conv=>whnf
 exact ⟨rfl,rfl⟩
theorem sp_mealy_Valid (m_:T_api_Mealy) (r:Int) (h:Ok (.agg (c_api_Mealy m_))→mealy_Valid m_=some r):Sp Tryz.prog 74 [.im (.agg (c_api_Mealy m_))] (.im (nI r)):=by
 refine sp_of rfl [700001] rfl rfl rfl (Nat.le_of_ble_eq_true rfl) rfl fun hk=>?_
 replace h:=h hk.1
 have z1:lZ m_.Next:=ok_len (Ok.agg_at hk.1 2 rfl)
 have z2:lZ m_.Out:=ok_len (Ok.agg_at hk.1 3 rfl)
 unfold mealy_Valid at h
 conv=>whnf
 refine Nf.mk (List.length m_.Next) len_map ?_
 conv=>whnf
 obtain ⟨y54,hc,hk52⟩:=bind_some h
 clear h
 have h:=hc
 clear hc
 refine Cut.mk (mkSt [(1,.im (.ref (c_api_Mealy m_))),(3,.im (nI (↑(List.length m_.Next):Int))),(11,.im (nB y54))] [] []) (True) (hT) ?_ (fun hp=>?_)
 conv=>whnf
 refine Both.mk ?_ ?_<;>intro b55
 replace b55:=beq_ff b55
 obtain ⟨h,b55d⟩:=cfd b55 h
 conv=>whnf
 iterate 2 (refine Both.yes (ff_beq b55) ?_;(conv=>whnf))
 refine Both.no b55 ?_
 conv=>whnf
 cases h
 exact Join.mk (eA [])
 replace b55:=beq_ft b55
 obtain ⟨h,b55d⟩:=ctd b55 h
 conv=>whnf
 iterate 2 (refine Both.no (tf_beq b55) ?_;(conv=>whnf))
 refine Both.yes b55 ?_
 conv=>whnf
 cases h
 exact Join.mk (eA [])
 replace h:=hk52
 conv=>whnf
 refine Both.mk ?_ ?_<;>intro b56
 replace h:=cond_t b56 h
 conv=>whnf
 cases h
 conv=>whnf
 exact ⟨rfl,rfl⟩
 replace h:=cond_f b56 h
 conv=>whnf
 refine Both.mk ?_ ?_<;>intro b57
 obtain ⟨h,b57d⟩:=ctd b57 h
 conv=>whnf
 cases h
 conv=>whnf
 exact ⟨rfl,rfl⟩
 obtain ⟨h,b57d⟩:=cfd b57 h
 conv=>whnf
 refine Both.mk ?_ ?_<;>intro b58
 obtain ⟨h,b58d⟩:=ctd b58 h
 conv=>whnf
 cases h
 conv=>whnf
 exact ⟨rfl,rfl⟩
 obtain ⟨h,b58d⟩:=cfd b58 h
 conv=>whnf
 obtain ⟨y62,hc,hk60⟩:=bind_some h
 clear h
 have h:=hc
 clear hc
 refine Cut.mk (mkSt [(1,.im (.ref (c_api_Mealy m_))),(3,.im (nI (↑(List.length m_.Next):Int))),(26,.im (nB y62))] [] []) (True) (hT) ?_ (fun hp=>?_)
 conv=>whnf
 refine Both.mk ?_ ?_<;>intro b63
 replace b63:=beq_ff b63
 obtain ⟨h,b63d⟩:=cfd b63 h
 conv=>whnf
 iterate 3 (refine Both.yes (ff_beq b63) ?_;(conv=>whnf))
 refine Both.no b63 ?_
 conv=>whnf
 cases h
 exact Join.mk (eA [])
 replace b63:=beq_ft b63
 obtain ⟨h,b63d⟩:=ctd b63 h
 conv=>whnf
 iterate 3 (refine Both.no (tf_beq b63) ?_;(conv=>whnf))
 refine Both.yes b63 ?_
 conv=>whnf
 cases h
 exact Join.mk (eA [])
 replace h:=hk60
 conv=>whnf
 refine Both.mk ?_ ?_<;>intro b64
 replace h:=cond_t b64 h
 conv=>whnf
 cases h
 conv=>whnf
 exact ⟨rfl,rfl⟩
 replace h:=cond_f b64 h
 conv=>whnf
 refine Nf.mk (List.length m_.Out) len_map ?_
 conv=>whnf
 refine Both.mk ?_ ?_<;>intro b65
 obtain ⟨h,b65d⟩:=ctd b65 h
 conv=>whnf
 cases h
 conv=>whnf
 exact ⟨rfl,rfl⟩
 obtain ⟨h,b65d⟩:=cfd b65 h
 conv=>whnf
 obtain ⟨oc,hc,hk66⟩:=bind_some h
 clear h
 have h:=hc
 clear hc
 refine Cut.mkS oc (Y:=Unit) (fun (_:Unit)=>mkSt [] [] []) (fun (_:Unit)=>True) (by rintro ⟨⟩;exact (hT)) ?_ ?_
 conv=>whnf
 refine Loops.iter (fun (s:Nat)=>mealy_Valid.s14 m_ s) (fun y509=>mkSt [(1,.im (.ref (c_api_Mealy m_))),(3,.im (nI (↑(List.length m_.Next):Int))),(42,.im (nI (↑(List.length m_.Next):Int))),(43,.im (nI (↑y509:Int)))] [] []) (fun y509=>True) h (eA []) (by rintro y509;exact (hT)) ?_
 clear h
 rintro k y509 o hp h ho620
 replace h:mealy_Valid.s14 m_ y509=some o:=h
 unfold mealy_Valid.s14 at h
 conv=>whnf
 refine Both.mk ?_ ?_<;>intro b621
 obtain ⟨h,b621d⟩:=ctd b621 h
 conv=>whnf
 obtain ⟨y627,hc,hk623⟩:=bind_some h
 clear h
 have h:=hc
 clear hc
 refine Cut.mk (mkSt [(1,.im (.ref (c_api_Mealy m_))),(3,.im (nI (↑(List.length m_.Next):Int))),(4,.im (nI (↑y509:Int))),(42,.im (nI (↑(List.length m_.Next):Int))),(43,.im (nI (↑y509:Int))),(65,.im (nB y627))] [] []) (True) (hT) ?_ (fun hp=>?_)
 conv=>whnf
 obtain ⟨e628,he628,h⟩:=idxn_some h
 refine ⟨_,⟨(by omega),map_at he628,rfl⟩,?_⟩
 conv=>whnf
 refine Nf.mk (List.length e628) len_map ?_
 conv=>whnf
 refine Both.mk ?_ ?_<;>intro b629
 replace b629:=beq_ff b629
 obtain ⟨h,b629d⟩:=cfd b629 h
 conv=>whnf
 iterate 3 (refine Both.yes (ff_beq b629) ?_;(conv=>whnf))
 obtain ⟨e630,he630,h⟩:=idxn_some h
 refine ⟨_,⟨(by omega),map_at he630,rfl⟩,?_⟩
 conv=>whnf
 iterate 2 (refine Both.yes (ff_beq b629) ?_;(conv=>whnf))
 refine Nf.mk (List.length e630) len_map ?_
 conv=>whnf
 iterate 3 (refine Both.yes (ff_beq b629) ?_;(conv=>whnf))
 refine Both.no b629 ?_
 conv=>whnf
 cases h
 exact Join.mk (eA [])
 replace b629:=beq_ft b629
 obtain ⟨h,b629d⟩:=ctd b629 h
 conv=>whnf
 iterate 8 (refine Both.no (tf_beq b629) ?_;(conv=>whnf))
 refine Both.yes b629 ?_
 conv=>whnf
 cases h
 exact Join.mk (eA [])
 replace h:=hk623
 conv=>whnf
 refine Both.mk ?_ ?_<;>intro b631
 replace h:=cond_t b631 h
 conv=>whnf
 cases h
 have ho620:_=_:=ho620
 cases ho620
 replace h:some _=some _:=hk66
 cases h
 conv=>whnf
 exact ⟨rfl,rfl⟩
 replace h:=cond_f b631 h
 conv=>whnf
 obtain ⟨oc,hc,hk632⟩:=bind_some h
 clear h
 have h:=hc
 clear hc
 refine Cut.mkS oc (Y:=Unit) (fun (_:Unit)=>mkSt [(1,.im (.ref (c_api_Mealy m_))),(3,.im (nI (↑(List.length m_.Next):Int))),(42,.im (nI (↑(List.length m_.Next):Int))),(43,.im (nI (↑y509:Int)))] [] []) (fun (_:Unit)=>True) (by rintro ⟨⟩;exact (hT)) ?_ ?_
 conv=>whnf
 refine Loops.iter (fun (s:Nat)=>mealy_Valid.s13 m_ y509 s) (fun y697=>mkSt [(1,.im (.ref (c_api_Mealy m_))),(3,.im (nI (↑(List.length m_.Next):Int))),(4,.im (nI (↑y509:Int))),(42,.im (nI (↑(List.length m_.Next):Int))),(43,.im (nI (↑y509:Int))),(67,.im (nI m_.Inputs)),(68,.im (nI (↑y697:Int)))] [] []) (fun y697=>True) h (eA []) (by rintro y697;exact (hT)) ?_
 clear h
 rintro k y697 o hp h ho714
 replace h:mealy_Valid.s13 m_ y509 y697=some o:=h
 unfold mealy_Valid.s13 at h
 conv=>whnf
 refine Both.mk ?_ ?_<;>intro b715
 obtain ⟨h,b715d⟩:=ctd b715 h
 conv=>whnf
 obtain ⟨e716,he716,h⟩:=idxn_some h
 refine ⟨_,⟨(by omega),map_at he716,rfl⟩,?_⟩
 conv=>whnf
 obtain ⟨e717,he717,h⟩:=idxn_some h
 refine ⟨_,⟨(by omega),map_at he717,rfl⟩,?_⟩
 conv=>whnf
 obtain ⟨e718,he718,h⟩:=idxn_some h
 refine ⟨_,⟨(by omega),map_at he718,rfl⟩,?_⟩
 conv=>whnf
 obtain ⟨e719,he719,h⟩:=idxn_some h
 refine ⟨_,⟨(by omega),map_at he719,rfl⟩,?_⟩
 conv=>whnf
 obtain ⟨y725,hc,hk721⟩:=bind_some h
 clear h
 have h:=hc
 clear hc
 refine Cut.mk (mkSt [(1,.im (.ref (c_api_Mealy m_))),(3,.im (nI (↑(List.length m_.Next):Int))),(4,.im (nI (↑y509:Int))),(42,.im (nI (↑(List.length m_.Next):Int))),(43,.im (nI (↑y509:Int))),(67,.im (nI m_.Inputs)),(68,.im (nI (↑y697:Int))),(101,.im (nB y725))] [] []) (True) (hT) ?_ (fun hp=>?_)
 conv=>whnf
 refine Both.mk ?_ ?_<;>intro b726
 replace b726:=beq_ff b726
 obtain ⟨h,b726d⟩:=cfd b726 h
 conv=>whnf
 iterate 2 (refine Both.yes (ff_beq b726) ?_;(conv=>whnf))
 refine Both.no b726 ?_
 conv=>whnf
 refine Both.mk ?_ ?_<;>intro b727
 replace b727:=beq_ff b727
 obtain ⟨h,b727d⟩:=cfd b727 h
 conv=>whnf
 refine Both.yes (ff_beq b727) ?_
 conv=>whnf
 refine Both.no b727 ?_
 conv=>whnf
 refine Both.mk ?_ ?_<;>intro b728
 replace b728:=beq_ff b728
 obtain ⟨h,b728d⟩:=cfd b728 h
 conv=>whnf
 refine Both.yes (ff_beq b728) ?_
 conv=>whnf
 refine Both.no b728 ?_
 conv=>whnf
 cases h
 exact Join.mk (eA [])
 replace b728:=beq_ft b728
 obtain ⟨h,b728d⟩:=ctd b728 h
 conv=>whnf
 refine Both.no (tf_beq b728) ?_
 conv=>whnf
 refine Both.yes b728 ?_
 conv=>whnf
 cases h
 exact Join.mk (eA [])
 replace b727:=beq_ft b727
 obtain ⟨h,b727d⟩:=ctd b727 h
 conv=>whnf
 refine Both.no (tf_beq b727) ?_
 conv=>whnf
 refine Both.yes b727 ?_
 conv=>whnf
 iterate 2 (refine Both.no rfl ?_;(conv=>whnf))
 refine Both.yes rfl ?_
 conv=>whnf
 cases h
 exact Join.mk (eA [])
 replace b726:=beq_ft b726
 obtain ⟨h,b726d⟩:=ctd b726 h
 conv=>whnf
 iterate 2 (refine Both.no (tf_beq b726) ?_;(conv=>whnf))
 refine Both.yes b726 ?_
 conv=>whnf
 iterate 2 (refine Both.no rfl ?_;(conv=>whnf))
 refine Both.yes rfl ?_
 conv=>whnf
 iterate 2 (refine Both.no rfl ?_;(conv=>whnf))
 refine Both.yes rfl ?_
 conv=>whnf
 cases h
 exact Join.mk (eA [])
 replace h:=hk721
 conv=>whnf
 refine Both.mk ?_ ?_<;>intro b729
 replace h:=cond_t b729 h
 conv=>whnf
 cases h
 have ho714:_=_:=ho714
 cases ho714
 replace h:some _=some _:=hk632
 cases h
 have ho620:_=_:=ho620
 cases ho620
 replace h:some _=some _:=hk66
 cases h
 conv=>whnf
 exact ⟨rfl,rfl⟩
 replace h:=cond_f b729 h
 conv=>whnf
 obtain ⟨c730,h⟩:=chk_some h
 refine Arith.mk c730 ?_
 conv=>whnf
 cases h
 exact Nxt.mk _ ho714 (eA [])
 obtain ⟨h,b715d⟩:=cfd b715 h
 conv=>whnf
 cases h
 have ho714:_=_:=ho714
 cases ho714
 exact JoinS.mk' _ rfl (eA [])
 rintro ⟨⟩ rfl hp
 replace h:=sum_inl hk632
 conv=>whnf
 refine Arith.mk (by show inR _;unfold inR;omega) ?_
 conv=>whnf
 cases h
 exact Nxt.mk _ ho620 (eA [])
 obtain ⟨h,b621d⟩:=cfd b621 h
 conv=>whnf
 cases h
 have ho620:_=_:=ho620
 cases ho620
 exact JoinS.mk' _ rfl (eA [])
 rintro ⟨⟩ rfl hp
 replace h:=sum_inl hk66
 conv=>whnf
 cases h
 conv=>whnf
 exact ⟨rfl,rfl⟩
theorem sp_device_outside (n_:Int) (most_:Int) (r:Bool) (h:Ok (nI n_)→Ok (nI most_)→device_outside n_ most_=some r):Sp Tryz.prog 75 [.im (nI n_),.im (nI most_)] (.im (nB r)):=by
 refine sp_of rfl [] rfl rfl rfl (Nat.le_of_ble_eq_true rfl) rfl fun hk=>?_
 replace h:=h hk.1 hk.2.1
 unfold device_outside at h
 conv=>whnf
 obtain ⟨y54,hc,hk52⟩:=bind_some h
 clear h
 have h:=hc
 clear hc
 refine Cut.mk (mkSt [(4,.im (nB y54))] [] []) (True) (hT) ?_ (fun hp=>?_)
 conv=>whnf
 refine Both.mk ?_ ?_<;>intro b55
 replace b55:=beq_ff b55
 obtain ⟨h,b55d⟩:=cfd b55 h
 conv=>whnf
 iterate 2 (refine Both.yes (ff_beq b55) ?_;(conv=>whnf))
 refine Both.no b55 ?_
 conv=>whnf
 cases h
 exact Join.mk (eA [])
 replace b55:=beq_ft b55
 obtain ⟨h,b55d⟩:=ctd b55 h
 conv=>whnf
 iterate 2 (refine Both.no (tf_beq b55) ?_;(conv=>whnf))
 refine Both.yes b55 ?_
 conv=>whnf
 cases h
 exact Join.mk (eA [])
 replace h:=hk52
 conv=>whnf
 cases h
 conv=>whnf
 exact ⟨rfl,rfl⟩
theorem sp_device_costs_1 (n_:Int) (r:Bool) (h:Ok (nI n_)→device_costs_1 n_=some r):Sp Tryz.prog 94 [.im (nI n_)] (.im (nB r)):=by
 refine sp_of rfl [] rfl rfl rfl (Nat.le_of_ble_eq_true rfl) rfl fun hk=>?_
 replace h:=h hk.1
 unfold device_costs_1 at h
 conv=>whnf
 obtain ⟨c51,hc51,h⟩:=bind_some h
 refine ⟨_,(sp_device_outside n_ 1048576 c51 (fun _ _=>hc51)),?_⟩
 conv=>whnf
 cases h
 conv=>whnf
 exact ⟨rfl,rfl⟩
theorem sp_device_costs (l_:T_api_Latency) (r:Int) (h:Ok (.agg (c_api_Latency l_))→device_costs l_=some r):Sp Tryz.prog 76 [.im (.agg (c_api_Latency l_))] (.im (nI r)):=by
 refine sp_of rfl [700001] rfl rfl rfl (Nat.le_of_ble_eq_true rfl) rfl fun hk=>?_
 replace h:=h hk.1
 have z1:lZ l_.Step:=ok_len (Ok.agg_at hk.1 0 rfl)
 unfold device_costs at h
 conv=>whnf
 obtain ⟨y56,hc,hk52⟩:=bind_some h
 clear h
 have h:=hc
 clear hc
 refine Cut.mk (mkSt [(13,.im (nB y56))] [] []) (True) (hT) ?_ (fun hp=>?_)
 conv=>whnf
 obtain ⟨c57,hc57,h⟩:=bind_some h
 refine ⟨_,(sp_device_costs_1 l_.Reset c57 (fun _=>hc57)),?_⟩
 conv=>whnf
 refine Both.mk ?_ ?_<;>intro b58
 replace b58:=beq_ff b58
 replace h:=cond_f b58 h
 conv=>whnf
 iterate 3 (refine Both.yes (ff_beq b58) ?_;(conv=>whnf))
 obtain ⟨c59,hc59,h⟩:=bind_some h
 refine ⟨_,(sp_slices_ContainsFunc_Sint_int l_.Step (fun u0=>device_costs_1 u0) 94 (fun u0 r h=>(sp_device_costs_1 u0 r (fun _=>h))) c59 (fun _ _=>hc59)),?_⟩
 conv=>whnf
 refine Both.no b58 ?_
 conv=>whnf
 cases h
 exact Join.mk (eA [])
 replace b58:=beq_ft b58
 replace h:=cond_t b58 h
 conv=>whnf
 iterate 3 (refine Both.no (tf_beq b58) ?_;(conv=>whnf))
 refine Both.yes b58 ?_
 conv=>whnf
 cases h
 exact Join.mk (eA [])
 replace h:=hk52
 conv=>whnf
 refine Both.mk ?_ ?_<;>intro b60
 replace h:=cond_t b60 h
 conv=>whnf
 cases h
 conv=>whnf
 exact ⟨rfl,rfl⟩
 replace h:=cond_f b60 h
 conv=>whnf
 cases h
 conv=>whnf
 exact ⟨rfl,rfl⟩
theorem sp_device_unit_counted (u_:T_device_unit) (r:Bool) (h:Ok (.agg (c_device_unit u_))→device_unit_counted u_=some r):Sp Tryz.prog 77 [.im (.agg (c_device_unit u_))] (.im (nB r)):=by
 refine sp_of rfl [700001] rfl rfl rfl (Nat.le_of_ble_eq_true rfl) rfl fun hk=>?_
 replace h:=h hk.1
 have z1:lZ u_.Device.M.Next:=ok_len (Ok.agg_at hk.1 2 rfl)
 have z2:lZ u_.Device.M.Out:=ok_len (Ok.agg_at hk.1 3 rfl)
 have z3:lZ u_.Device.Latency.Step:=ok_len (Ok.agg_at hk.1 6 rfl)
 unfold device_unit_counted at h
 conv=>whnf
 obtain ⟨y58,hc,hk52⟩:=bind_some h
 clear h
 have h:=hc
 clear hc
 refine Cut.mk (mkSt [(2,.im (nB y58))] [] []) (True) (hT) ?_ (fun hp=>?_)
 conv=>whnf
 obtain ⟨c59,hc59,h⟩:=bind_some h
 refine ⟨_,(sp_device_outside u_.Device.Steps 1125899906842624 c59 (fun _ _=>hc59)),?_⟩
 conv=>whnf
 refine Both.mk ?_ ?_<;>intro b60
 replace b60:=beq_tt b60
 replace h:=cond_t b60 h
 conv=>whnf
 iterate 3 (refine Both.yes (tt_beq b60) ?_;(conv=>whnf))
 obtain ⟨c61,hc61,h⟩:=bind_some h
 refine ⟨_,(sp_device_outside u_.Device.Resets 1125899906842624 c61 (fun _ _=>hc61)),?_⟩
 conv=>whnf
 refine Both.yes (tt_beq b60) ?_
 conv=>whnf
 refine Both.yes b60 ?_
 conv=>whnf
 refine Both.mk ?_ ?_<;>intro b62
 replace b62:=beq_tt b62
 replace h:=cond_t b62 h
 conv=>whnf
 iterate 3 (refine Both.yes (tt_beq b62) ?_;(conv=>whnf))
 obtain ⟨c63,hc63,h⟩:=bind_some h
 refine ⟨_,(sp_device_outside u_.Device.Time 1125899906842624 c63 (fun _ _=>hc63)),?_⟩
 conv=>whnf
 refine Both.yes (tt_beq b62) ?_
 conv=>whnf
 refine Both.yes b62 ?_
 conv=>whnf
 cases h
 exact Join.mk (eA [])
 replace b62:=beq_tf b62
 replace h:=cond_f b62 h
 conv=>whnf
 iterate 4 (refine Both.no (ft_beq b62) ?_;(conv=>whnf))
 refine Both.no b62 ?_
 conv=>whnf
 cases h
 exact Join.mk (eA [])
 replace b60:=beq_tf b60
 replace h:=cond_f b60 h
 conv=>whnf
 iterate 4 (refine Both.no (ft_beq b60) ?_;(conv=>whnf))
 refine Both.no b60 ?_
 conv=>whnf
 iterate 6 (refine Both.no rfl ?_;(conv=>whnf))
 cases h
 exact Join.mk (eA [])
 replace h:=hk52
 conv=>whnf
 cases h
 conv=>whnf
 exact ⟨rfl,rfl⟩
theorem sp_device_Valid (d_:T_api_Device) (r:Int) (h:Ok (.agg (c_api_Device d_))→device_Valid d_=some r):Sp Tryz.prog 44 [.im (.agg (c_api_Device d_))] (.im (nI r)):=by
 refine sp_of rfl [700001] rfl rfl rfl (Nat.le_of_ble_eq_true rfl) rfl fun hk=>?_
 replace h:=h hk.1
 have z1:lZ d_.M.Next:=ok_len (Ok.agg_at hk.1 2 rfl)
 have z2:lZ d_.M.Out:=ok_len (Ok.agg_at hk.1 3 rfl)
 have z3:lZ d_.Latency.Step:=ok_len (Ok.agg_at hk.1 6 rfl)
 unfold device_Valid at h
 conv=>whnf
 obtain ⟨c51,hc51,h⟩:=bind_some h
 refine ⟨_,(sp_mealy_Valid d_.M c51 (fun _=>hc51)),?_⟩
 conv=>whnf
 refine Both.mk ?_ ?_<;>intro b52
 obtain ⟨h,b52d⟩:=ctd b52 h
 conv=>whnf
 cases h
 conv=>whnf
 exact ⟨rfl,rfl⟩
 obtain ⟨h,b52d⟩:=cfd b52 h
 conv=>whnf
 refine Nf.mk (List.length d_.M.Next) len_map ?_
 conv=>whnf
 refine Arith.mk (by show inR _;unfold inR;omega) ?_
 conv=>whnf
 obtain ⟨c53,hc53,h⟩:=bind_some h
 refine ⟨_,(sp_device_outside d_.State ((↑(List.length d_.M.Next):Int)-1) c53 (fun _ _=>hc53)),?_⟩
 conv=>whnf
 refine Both.mk ?_ ?_<;>intro b54
 replace h:=cond_t b54 h
 conv=>whnf
 cases h
 conv=>whnf
 exact ⟨rfl,rfl⟩
 replace h:=cond_f b54 h
 conv=>whnf
 refine Nf.mk (List.length d_.Latency.Step) len_map ?_
 conv=>whnf
 refine Both.mk ?_ ?_<;>intro b55
 obtain ⟨h,b55d⟩:=ctd b55 h
 conv=>whnf
 cases h
 conv=>whnf
 exact ⟨rfl,rfl⟩
 obtain ⟨h,b55d⟩:=cfd b55 h
 conv=>whnf
 obtain ⟨c56,hc56,h⟩:=bind_some h
 refine ⟨_,(sp_device_costs d_.Latency c56 (fun _=>hc56)),?_⟩
 conv=>whnf
 refine Both.mk ?_ ?_<;>intro b57
 obtain ⟨h,b57d⟩:=ctd b57 h
 conv=>whnf
 cases h
 conv=>whnf
 exact ⟨rfl,rfl⟩
 obtain ⟨h,b57d⟩:=cfd b57 h
 conv=>whnf
 refine Side.mk rfl ?_
 conv=>whnf
 obtain ⟨y70,hc,hk59⟩:=bind_some h
 clear h
 have h:=hc
 clear hc
 refine Cut.mk (mkSt [(65,.im (nB y70))] [] []) (True) (hT) ?_ (fun hp=>?_)
 conv=>whnf
 refine Side.mk rfl ?_
 conv=>whnf
 refine Side.mk rfl ?_
 conv=>whnf
 obtain ⟨c71,hc71,h⟩:=bind_some h
 refine ⟨_,(sp_device_outside d_.Faults.Lost 10000 c71 (fun _ _=>hc71)),?_⟩
 conv=>whnf
 refine Both.mk ?_ ?_<;>intro b72
 replace b72:=beq_ff b72
 replace h:=cond_f b72 h
 conv=>whnf
 refine Side.mk rfl ?_
 conv=>whnf
 refine Both.yes (ff_beq b72) ?_
 conv=>whnf
 refine Side.mk rfl ?_
 conv=>whnf
 refine Both.yes (ff_beq b72) ?_
 conv=>whnf
 obtain ⟨c73,hc73,h⟩:=bind_some h
 refine ⟨_,(sp_device_outside d_.Faults.Wrong 10000 c73 (fun _ _=>hc73)),?_⟩
 conv=>whnf
 refine Both.no b72 ?_
 conv=>whnf
 refine Both.mk ?_ ?_<;>intro b74
 replace b74:=beq_ff b74
 replace h:=cond_f b74 h
 conv=>whnf
 refine Side.mk rfl ?_
 conv=>whnf
 refine Both.yes (ff_beq b74) ?_
 conv=>whnf
 refine Side.mk rfl ?_
 conv=>whnf
 refine Both.yes (ff_beq b74) ?_
 conv=>whnf
 obtain ⟨c75,hc75,h⟩:=bind_some h
 refine ⟨_,(sp_device_outside d_.Faults.Crash 10000 c75 (fun _ _=>hc75)),?_⟩
 conv=>whnf
 refine Both.no b74 ?_
 conv=>whnf
 refine Both.mk ?_ ?_<;>intro b76
 replace b76:=beq_ff b76
 replace h:=cond_f b76 h
 conv=>whnf
 refine Side.mk rfl ?_
 conv=>whnf
 refine Both.yes (ff_beq b76) ?_
 conv=>whnf
 refine Side.mk rfl ?_
 conv=>whnf
 refine Both.yes (ff_beq b76) ?_
 conv=>whnf
 refine Side.mk rfl ?_
 conv=>whnf
 refine Both.yes (ff_beq b76) ?_
 conv=>whnf
 refine Side.mk rfl ?_
 conv=>whnf
 refine Both.yes (ff_beq b76) ?_
 conv=>whnf
 obtain ⟨c77,h⟩:=chk_some h
 refine Arith.mk c77 ?_
 conv=>whnf
 refine Both.yes (ff_beq b76) ?_
 conv=>whnf
 refine Side.mk rfl ?_
 conv=>whnf
 refine Both.yes (ff_beq b76) ?_
 conv=>whnf
 refine Side.mk rfl ?_
 conv=>whnf
 refine Both.yes (ff_beq b76) ?_
 conv=>whnf
 obtain ⟨c78,h⟩:=chk_some h
 refine Arith.mk c78 ?_
 conv=>whnf
 refine Both.yes (ff_beq b76) ?_
 conv=>whnf
 refine Both.no b76 ?_
 conv=>whnf
 refine Both.mk ?_ ?_<;>intro b79
 replace b79:=beq_ff b79
 obtain ⟨h,b79d⟩:=cfd b79 h
 conv=>whnf
 iterate 2 (refine Both.yes (ff_beq b79) ?_;(conv=>whnf))
 obtain ⟨c80,hc80,h⟩:=bind_some h
 refine ⟨_,(sp_device_unit_counted (⟨d_⟩:T_device_unit) c80 (fun _=>hc80)),?_⟩
 conv=>whnf
 refine Both.yes (ff_beq b79) ?_
 conv=>whnf
 refine Both.no b79 ?_
 conv=>whnf
 cases h
 exact Join.mk (eA [])
 replace b79:=beq_ft b79
 obtain ⟨h,b79d⟩:=ctd b79 h
 conv=>whnf
 iterate 3 (refine Both.no (tf_beq b79) ?_;(conv=>whnf))
 refine Both.yes b79 ?_
 conv=>whnf
 cases h
 exact Join.mk (eA [])
 replace b76:=beq_ft b76
 replace h:=cond_t b76 h
 conv=>whnf
 iterate 8 (refine Both.no (tf_beq b76) ?_;(conv=>whnf))
 refine Both.yes b76 ?_
 conv=>whnf
 iterate 4 (refine Both.no rfl ?_;(conv=>whnf))
 refine Both.yes rfl ?_
 conv=>whnf
 cases h
 exact Join.mk (eA [])
 replace b74:=beq_ft b74
 replace h:=cond_t b74 h
 conv=>whnf
 iterate 2 (refine Both.no (tf_beq b74) ?_;(conv=>whnf))
 refine Both.yes b74 ?_
 conv=>whnf
 iterate 9 (refine Both.no rfl ?_;(conv=>whnf))
 refine Both.yes rfl ?_
 conv=>whnf
 iterate 4 (refine Both.no rfl ?_;(conv=>whnf))
 refine Both.yes rfl ?_
 conv=>whnf
 cases h
 exact Join.mk (eA [])
 replace b72:=beq_ft b72
 replace h:=cond_t b72 h
 conv=>whnf
 iterate 2 (refine Both.no (tf_beq b72) ?_;(conv=>whnf))
 refine Both.yes b72 ?_
 conv=>whnf
 iterate 3 (refine Both.no rfl ?_;(conv=>whnf))
 refine Both.yes rfl ?_
 conv=>whnf
 iterate 9 (refine Both.no rfl ?_;(conv=>whnf))
 refine Both.yes rfl ?_
 conv=>whnf
 iterate 4 (refine Both.no rfl ?_;(conv=>whnf))
 refine Both.yes rfl ?_
 conv=>whnf
 cases h
 exact Join.mk (eA [])
 replace h:=hk59
 conv=>whnf
 refine Both.mk ?_ ?_<;>intro b81
 replace h:=cond_t b81 h
 conv=>whnf
 cases h
 conv=>whnf
 exact ⟨rfl,rfl⟩
 replace h:=cond_f b81 h
 conv=>whnf
 cases h
 conv=>whnf
 exact ⟨rfl,rfl⟩
theorem sp_device_rows (l_:List (List Int)) (r:List (List Int)) (h:Ok (nL (cL cI) l_)→device_rows l_=some r):Sp Tryz.prog 80 [.im (nL (cL cI) l_)] (.row 25 1 (List.map (cL cI) r)):=by
 refine sp_of rfl [] rfl rfl rfl (Nat.le_of_ble_eq_true rfl) rfl fun hk=>?_
 replace h:=h hk.1
 have z1:lZ l_:=ok_len hk.1
 unfold device_rows at h
 conv=>whnf
 refine Nf.mk (List.length l_) len_map ?_
 conv=>whnf
 obtain ⟨c51,h⟩:=chk_some h
 refine Side.mk c51 ?_
 conv=>whnf
 refine Nf.mk (List.map (cL cI) []) rfl ?_
 conv=>whnf
 refine Nf.mk (List.length l_) len_map ?_
 conv=>whnf
 obtain ⟨y70,hc,hk52⟩:=bind_some h
 clear h
 have h:=hc
 clear hc
 refine Cut.mk (mkSt [(3,.osl 64 1)] [(64,.row 25 1 (List.map (cL cI) y70))] []) (lZ y70∧True) ((Holds.kdl 64 rfl).and (hT)) ?_ (fun hp=>?_)
 conv=>whnf
 refine Loops.iter (fun (s:List (List Int)×Nat)=>device_rows.s2 l_ s.1 s.2) (fun (y75,y76)=>mkSt [(3,.osl 64 1),(9,.im (nL (cL cI) l_)),(10,.im (nI (↑(List.length l_):Int))),(11,.im (nI (↑y76:Int)))] [(64,.row 25 1 (List.map (cL cI) y75))] []) (fun (y75,y76)=>lZ l_∧lZ y75∧True) h (eA [(64,some 8)]) (by rintro ⟨y75,y76⟩;exact ((Holds.avl 9 rfl).and ((Holds.kdl 64 rfl).and (hT)))) ?_
 clear h
 rintro k ⟨y75,y76⟩ o hp h ho81
 replace h:device_rows.s2 l_ y75 y76=some o:=h
 unfold device_rows.s2 at h
 obtain ⟨z86,z87,_⟩:=hp
 conv=>whnf
 refine Both.mk ?_ ?_<;>intro b82
 obtain ⟨h,b82d⟩:=ctd b82 h
 conv=>whnf
 obtain ⟨e83,he83,h⟩:=idxn_some h
 refine ⟨_,⟨(by omega),map_at he83,rfl⟩,?_⟩
 conv=>whnf
 obtain ⟨c84,hc84,h⟩:=bind_some h
 refine ⟨_,(sp_lib_Clone_int e83 c84 (hc84)).im,?_⟩
 conv=>whnf
 obtain ⟨c85,h⟩:=chk_some h
 refine Side.mk ⟨rfl,map_len (l:=[c84]) (c:=cL cI) fun _=>rfl,show capOk _ 24 by simpa only [List.length_map,List.length_cons,List.length_nil,Nat.zero_add] using c85⟩ ?_
 conv=>whnf
 refine Nf.mk (List.map (cL cI) (y75++[c84])) (app_map (l:=y75) (m:=[c84]) (c:=cL cI)) ?_
 conv=>whnf
 refine Arith.mk (by show inR _;unfold inR;omega) ?_
 conv=>whnf
 cases h
 exact Nxt.mk _ ho81 (eA [(64,some 64)])
 obtain ⟨h,b82d⟩:=cfd b82 h
 conv=>whnf
 cases h
 have ho81:_=_:=ho81
 cases ho81
 exact Join.mk (eA [(64,some 64)])
 replace h:=hk52
 obtain ⟨z88,_⟩:=hp
 conv=>whnf
 cases h
 conv=>whnf
 exact Side.mk ⟨rfl,trivial⟩ ⟨rfl,rfl⟩
theorem sp_device_copied (d_:T_api_Device) (r:T_api_Device) (h:Ok (.agg (c_api_Device d_))→device_copied d_=some r):Sp Tryz.prog 53 [.im (.agg (c_api_Device d_))] (.im (.agg (c_api_Device r))):=by
 refine sp_of rfl [] rfl rfl rfl (Nat.le_of_ble_eq_true rfl) rfl fun hk=>?_
 replace h:=h hk.1
 have z1:lZ d_.M.Next:=ok_len (Ok.agg_at hk.1 2 rfl)
 have z2:lZ d_.M.Out:=ok_len (Ok.agg_at hk.1 3 rfl)
 have z3:lZ d_.Latency.Step:=ok_len (Ok.agg_at hk.1 6 rfl)
 unfold device_copied at h
 conv=>whnf
 refine Side.mk rfl ?_
 conv=>whnf
 refine Side.mk rfl ?_
 conv=>whnf
 refine Side.mk rfl ?_
 conv=>whnf
 obtain ⟨c51,hc51,h⟩:=bind_some h
 refine ⟨_,(sp_device_rows d_.M.Next c51 (fun _=>hc51)).im,?_⟩
 conv=>whnf
 refine Side.mk rfl ?_
 conv=>whnf
 refine Side.mk rfl ?_
 conv=>whnf
 refine Side.mk rfl ?_
 conv=>whnf
 obtain ⟨c52,hc52,h⟩:=bind_some h
 refine ⟨_,(sp_device_rows d_.M.Out c52 (fun _=>hc52)).im,?_⟩
 conv=>whnf
 refine Side.mk rfl ?_
 conv=>whnf
 refine Side.mk rfl ?_
 conv=>whnf
 refine Side.mk rfl ?_
 conv=>whnf
 refine Side.mk rfl ?_
 conv=>whnf
 refine Side.mk rfl ?_
 conv=>whnf
 refine Side.mk rfl ?_
 conv=>whnf
 refine Side.mk rfl ?_
 conv=>whnf
 refine Side.mk rfl ?_
 conv=>whnf
 refine Side.mk rfl ?_
 conv=>whnf
 obtain ⟨c53,hc53,h⟩:=bind_some h
 refine ⟨_,(sp_lib_Clone_int d_.Latency.Step c53 (hc53)).im,?_⟩
 conv=>whnf
 refine Side.mk rfl ?_
 conv=>whnf
 refine Side.mk rfl ?_
 conv=>whnf
 refine Side.mk rfl ?_
 conv=>whnf
 refine Side.mk rfl ?_
 conv=>whnf
 refine Side.mk rfl ?_
 conv=>whnf
 cases h
 conv=>whnf
 refine Side.mk ⟨rfl,trivial⟩ ?_
 conv=>whnf
 exact ⟨rfl,rfl⟩
theorem sp_device_unit_reset (u_:T_device_unit) (r:Int×T_device_unit) (h:OkOcs [.im (nI u_.Device.M.Inputs),.im (nI u_.Device.M.Start),.im (nL (cL cI) u_.Device.M.Next),.im (nL (cL cI) u_.Device.M.Out),.im (nI u_.Device.State),.im (nB u_.Device.Ready),.im (nL cI u_.Device.Latency.Step),.im (nI u_.Device.Latency.Reset),.im (nI u_.Device.Faults.Lost),.im (nI u_.Device.Faults.Wrong),.im (nI u_.Device.Faults.Crash),.im (nU u_.Device.Seed),.im (nI u_.Device.Steps),.im (nI u_.Device.Resets),.im (nI u_.Device.Time)]→device_unit_reset u_=some r):Sp Tryz.prog 54 [.box 101 [.im (nI u_.Device.M.Inputs),.im (nI u_.Device.M.Start),.im (nL (cL cI) u_.Device.M.Next),.im (nL (cL cI) u_.Device.M.Out),.im (nI u_.Device.State),.im (nB u_.Device.Ready),.im (nL cI u_.Device.Latency.Step),.im (nI u_.Device.Latency.Reset),.im (nI u_.Device.Faults.Lost),.im (nI u_.Device.Faults.Wrong),.im (nI u_.Device.Faults.Crash),.im (nU u_.Device.Seed),.im (nI u_.Device.Steps),.im (nI u_.Device.Resets),.im (nI u_.Device.Time)]] (.mk false [.im (nI r.1)] [.box 101 [.im (nI r.2.Device.M.Inputs),.im (nI r.2.Device.M.Start),.im (nL (cL cI) r.2.Device.M.Next),.im (nL (cL cI) r.2.Device.M.Out),.im (nI r.2.Device.State),.im (nB r.2.Device.Ready),.im (nL cI r.2.Device.Latency.Step),.im (nI r.2.Device.Latency.Reset),.im (nI r.2.Device.Faults.Lost),.im (nI r.2.Device.Faults.Wrong),.im (nI r.2.Device.Faults.Crash),.im (nU r.2.Device.Seed),.im (nI r.2.Device.Steps),.im (nI r.2.Device.Resets),.im (nI r.2.Device.Time)]]):=by
 refine sp_of rfl [] rfl rfl rfl (Nat.le_of_ble_eq_true rfl) rfl fun hk=>?_
 replace h:=h hk.1
 have z1:lZ u_.Device.M.Next:=ok_len hk.1.2.2.1
 have z2:lZ u_.Device.M.Out:=ok_len hk.1.2.2.2.1
 have z3:lZ u_.Device.Latency.Step:=ok_len hk.1.2.2.2.2.2.2.1
 unfold device_unit_reset at h
 conv=>whnf
 refine Side.mk rfl ?_
 conv=>whnf
 refine Side.mk rfl ?_
 conv=>whnf
 refine Side.mk rfl ?_
 conv=>whnf
 refine Side.mk rfl ?_
 conv=>whnf
 refine Side.mk rfl ?_
 conv=>whnf
 refine Side.mk rfl ?_
 conv=>whnf
 refine Side.mk rfl ?_
 conv=>whnf
 refine Side.mk rfl ?_
 conv=>whnf
 refine Side.mk rfl ?_
 conv=>whnf
 refine Side.mk rfl ?_
 conv=>whnf
 refine Side.mk rfl ?_
 conv=>whnf
 refine Side.mk rfl ?_
 conv=>whnf
 refine Side.mk rfl ?_
 conv=>whnf
 refine Side.mk rfl ?_
 conv=>whnf
 refine Side.mk rfl ?_
 conv=>whnf
 refine Side.mk rfl ?_
 conv=>whnf
 refine Side.mk rfl ?_
 conv=>whnf
 obtain ⟨c51,h⟩:=chk_some h
 refine Arith.mk c51 ?_
 conv=>whnf
 refine Side.mk rfl ?_
 conv=>whnf
 refine Side.mk rfl ?_
 conv=>whnf
 refine Side.mk rfl ?_
 conv=>whnf
 refine Side.mk rfl ?_
 conv=>whnf
 refine Side.mk rfl ?_
 conv=>whnf
 refine Side.mk rfl ?_
 conv=>whnf
 refine Side.mk rfl ?_
 conv=>whnf
 refine Side.mk rfl ?_
 conv=>whnf
 refine Side.mk rfl ?_
 conv=>whnf
 refine Side.mk rfl ?_
 conv=>whnf
 refine Side.mk rfl ?_
 conv=>whnf
 obtain ⟨c52,h⟩:=chk_some h
 refine Arith.mk c52 ?_
 conv=>whnf
 refine Side.mk rfl ?_
 conv=>whnf
 refine Side.mk rfl ?_
 conv=>whnf
 refine Side.mk rfl ?_
 conv=>whnf
 refine Side.mk rfl ?_
 conv=>whnf
 obtain ⟨c53,hc53,h⟩:=bind_some h
 refine ⟨_,(sp_device_unit_counted (⟨(⟨u_.Device.M,u_.Device.M.Start,true,u_.Device.Latency,u_.Device.Faults,u_.Device.Seed,u_.Device.Steps,(u_.Device.Resets+1),(u_.Device.Time+u_.Device.Latency.Reset)⟩:T_api_Device)⟩:T_device_unit) c53 (fun _=>hc53)),?_⟩
 conv=>whnf
 refine Both.mk ?_ ?_<;>intro b54
 replace h:=cond_t b54 h
 conv=>whnf
 cases h
 conv=>whnf
 exact Side.mk ⟨rfl,trivial⟩ ⟨rfl,rfl⟩
 replace h:=cond_f b54 h
 conv=>whnf
 refine Side.mk rfl ?_
 conv=>whnf
 refine Side.mk rfl ?_
 conv=>whnf
 refine Side.mk rfl ?_
 conv=>whnf
 cases h
 conv=>whnf
 exact Side.mk ⟨rfl,trivial⟩ ⟨rfl,rfl⟩
theorem sp_random_Next (state_:Int) (r:Int×Int) (h:Ok (nU state_)→random_Next state_=some r):Sp Tryz.prog 113 [.im (nU state_)] (.tup [nU r.1,nU r.2]):=by
 refine sp_of rfl [] rfl rfl rfl (Nat.le_of_ble_eq_true rfl) rfl fun hk=>?_
 replace h:=h hk.1
 unfold random_Next at h
 conv=>whnf
 refine Arith.wr _ (mdU_eq _) ?_
 conv=>whnf
 obtain ⟨c51,h⟩:=chk_some h
 refine Side.mk ⟨⟨by show (0:Int)≤(mdU (state_+11400714819323198485)) / 2^30;omega,by show (mdU (state_+11400714819323198485)) / 2^30≤(18446744073709551615:Int);omega⟩,c51.1,by decide,by decide⟩ ?_
 conv=>whnf
 refine Arith.wr _ (mdU_eq _) ?_
 conv=>whnf
 obtain ⟨c52,h⟩:=chk_some h
 refine Side.mk ⟨⟨by show (0:Int)≤(mdU ((xorK .u64 (mdU (state_+11400714819323198485)) ((mdU (state_+11400714819323198485)) / 2^30))*13787848793156543929)) / 2^27;omega,by show (mdU ((xorK .u64 (mdU (state_+11400714819323198485)) ((mdU (state_+11400714819323198485)) / 2^30))*13787848793156543929)) / 2^27≤(18446744073709551615:Int);omega⟩,c52.1,by decide,by decide⟩ ?_
 conv=>whnf
 refine Arith.wr _ (mdU_eq _) ?_
 conv=>whnf
 obtain ⟨c53,h⟩:=chk_some h
 refine Side.mk ⟨⟨by show (0:Int)≤(mdU ((xorK .u64 (mdU ((xorK .u64 (mdU (state_+11400714819323198485)) ((mdU (state_+11400714819323198485)) / 2^30))*13787848793156543929)) ((mdU ((xorK .u64 (mdU (state_+11400714819323198485)) ((mdU (state_+11400714819323198485)) / 2^30))*13787848793156543929)) / 2^27))*10723151780598845931)) / 2^31;omega,by show (mdU ((xorK .u64 (mdU ((xorK .u64 (mdU (state_+11400714819323198485)) ((mdU (state_+11400714819323198485)) / 2^30))*13787848793156543929)) ((mdU ((xorK .u64 (mdU (state_+11400714819323198485)) ((mdU (state_+11400714819323198485)) / 2^30))*13787848793156543929)) / 2^27))*10723151780598845931)) / 2^31≤(18446744073709551615:Int);omega⟩,c53.1,by decide,by decide⟩ ?_
 conv=>whnf
 cases h
 conv=>whnf
 exact ⟨rfl,rfl⟩
theorem sp_random_below (state_:Int) (n_:Int) (r:Int×Int) (h:Ok (nU state_)→Ok (nI n_)→random_below state_ n_=some r):Sp Tryz.prog 95 [.im (nU state_),.im (nI n_)] (.tup [nI r.1,nU r.2]):=by
 refine sp_of rfl [] rfl rfl rfl (Nat.le_of_ble_eq_true rfl) rfl fun hk=>?_
 replace h:=h hk.1 hk.2.1
 unfold random_below at h
 conv=>whnf
 obtain ⟨c51,h⟩:=chk_some h
 refine Side.mk c51 ?_
 conv=>whnf
 refine Arith.wr _ (mdU_eq _) ?_
 conv=>whnf
 obtain ⟨c52,h⟩:=chk_some h
 refine Side.mk c52 ?_
 conv=>whnf
 refine Loops.iter (fun (s:Int)=>random_below.s1 n_ s) (fun state62=>mkSt [(0,.im (nU state62)),(6,.im (nU n_)),(7,.im (nU ((mdU (0-n_))%n_)))] [] []) (fun state62=>True) h (eA []) (by rintro state62;exact (hT)) ?_
 clear h
 rintro k state62 o hp h ho72
 replace h:random_below.s1 n_ state62=some o:=h
 unfold random_below.s1 at h
 conv=>whnf
 obtain ⟨c73,hc73,h⟩:=bind_some h
 refine ⟨_,(sp_random_Next state62 c73 (fun _=>hc73)),?_⟩
 conv=>whnf
 obtain ⟨y77,hc,hk75⟩:=bind_some h
 clear h
 have h:=hc
 clear hc
 refine Cut.mk (mkSt [(0,.im (nU c73.2)),(6,.im (nU n_)),(7,.im (nU ((mdU (0-n_))%n_))),(8,.im (nU c73.1)),(29,.im (nB y77))] [] []) (True) (hT) ?_ (fun hp=>?_)
 conv=>whnf
 refine Both.mk ?_ ?_<;>intro b78
 replace b78:=beq_ff b78
 obtain ⟨h,b78d⟩:=cfd b78 h
 conv=>whnf
 iterate 2 (refine Both.yes (ff_beq b78) ?_;(conv=>whnf))
 refine Arith.wr _ (mdU_eq _) ?_
 conv=>whnf
 refine Both.yes (ff_beq b78) ?_
 conv=>whnf
 refine Both.no b78 ?_
 conv=>whnf
 cases h
 exact Join.mk (eA [])
 replace b78:=beq_ft b78
 obtain ⟨h,b78d⟩:=ctd b78 h
 conv=>whnf
 iterate 3 (refine Both.no (tf_beq b78) ?_;(conv=>whnf))
 refine Both.yes b78 ?_
 conv=>whnf
 cases h
 exact Join.mk (eA [])
 replace h:=hk75
 conv=>whnf
 refine Both.mk ?_ ?_<;>intro b79
 replace h:=cond_t b79 h
 conv=>whnf
 obtain ⟨c80,h⟩:=chk_some h
 refine Side.mk c80 ?_
 conv=>whnf
 obtain ⟨c81,h⟩:=chk_some h
 refine Side.mk c81 ?_
 conv=>whnf
 cases h
 have ho72:_=_:=ho72
 cases ho72
 conv=>whnf
 exact ⟨rfl,rfl⟩
 replace h:=cond_f b79 h
 conv=>whnf
 cases h
 exact Nxt.mk _ ho72 (eA [])
theorem sp_random_Below (state_:Int) (n_:Int) (r:Int×Int×Int) (h:Ok (nU state_)→Ok (nI n_)→random_Below state_ n_=some r):Sp Tryz.prog 81 [.im (nU state_),.im (nI n_)] (.tup [nI r.1,nU r.2.1,nI r.2.2]):=by
 refine sp_of rfl [] rfl rfl rfl (Nat.le_of_ble_eq_true rfl) rfl fun hk=>?_
 replace h:=h hk.1 hk.2.1
 unfold random_Below at h
 conv=>whnf
 obtain ⟨y54,hc,hk52⟩:=bind_some h
 clear h
 have h:=hc
 clear hc
 refine Cut.mk (mkSt [(0,.im (nU state_)),(1,.im (nI n_)),(14,.im (nB y54))] [] []) (True) (hT) ?_ (fun hp=>?_)
 conv=>whnf
 refine Both.mk ?_ ?_<;>intro b55
 replace b55:=beq_ff b55
 obtain ⟨h,b55d⟩:=cfd b55 h
 conv=>whnf
 refine Both.yes (ff_beq b55) ?_
 conv=>whnf
 refine Both.no b55 ?_
 conv=>whnf
 cases h
 exact Join.mk (eA [])
 replace b55:=beq_ft b55
 obtain ⟨h,b55d⟩:=ctd b55 h
 conv=>whnf
 refine Both.no (tf_beq b55) ?_
 conv=>whnf
 refine Both.yes b55 ?_
 conv=>whnf
 cases h
 exact Join.mk (eA [])
 replace h:=hk52
 conv=>whnf
 refine Both.mk ?_ ?_<;>intro b56
 replace h:=cond_t b56 h
 conv=>whnf
 cases h
 conv=>whnf
 exact ⟨rfl,rfl⟩
 replace h:=cond_f b56 h
 conv=>whnf
 obtain ⟨c57,hc57,h⟩:=bind_some h
 refine ⟨_,(sp_random_below state_ n_ c57 (fun _ _=>hc57)),?_⟩
 conv=>whnf
 cases h
 conv=>whnf
 exact ⟨rfl,rfl⟩
theorem sp_device_unit_step (u_:T_device_unit) (a_:Int) (r:Int×Int×T_device_unit) (h:OkOcs [.im (nI u_.Device.M.Inputs),.im (nI u_.Device.M.Start),.im (nL (cL cI) u_.Device.M.Next),.im (nL (cL cI) u_.Device.M.Out),.im (nI u_.Device.State),.im (nB u_.Device.Ready),.im (nL cI u_.Device.Latency.Step),.im (nI u_.Device.Latency.Reset),.im (nI u_.Device.Faults.Lost),.im (nI u_.Device.Faults.Wrong),.im (nI u_.Device.Faults.Crash),.im (nU u_.Device.Seed),.im (nI u_.Device.Steps),.im (nI u_.Device.Resets),.im (nI u_.Device.Time)]→Ok (nI a_)→device_unit_step u_ a_=some r):Sp Tryz.prog 55 [.box 101 [.im (nI u_.Device.M.Inputs),.im (nI u_.Device.M.Start),.im (nL (cL cI) u_.Device.M.Next),.im (nL (cL cI) u_.Device.M.Out),.im (nI u_.Device.State),.im (nB u_.Device.Ready),.im (nL cI u_.Device.Latency.Step),.im (nI u_.Device.Latency.Reset),.im (nI u_.Device.Faults.Lost),.im (nI u_.Device.Faults.Wrong),.im (nI u_.Device.Faults.Crash),.im (nU u_.Device.Seed),.im (nI u_.Device.Steps),.im (nI u_.Device.Resets),.im (nI u_.Device.Time)],.im (nI a_)] (.mk true [.im (nI r.1),.im (nI r.2.1)] [.box 101 [.im (nI r.2.2.Device.M.Inputs),.im (nI r.2.2.Device.M.Start),.im (nL (cL cI) r.2.2.Device.M.Next),.im (nL (cL cI) r.2.2.Device.M.Out),.im (nI r.2.2.Device.State),.im (nB r.2.2.Device.Ready),.im (nL cI r.2.2.Device.Latency.Step),.im (nI r.2.2.Device.Latency.Reset),.im (nI r.2.2.Device.Faults.Lost),.im (nI r.2.2.Device.Faults.Wrong),.im (nI r.2.2.Device.Faults.Crash),.im (nU r.2.2.Device.Seed),.im (nI r.2.2.Device.Steps),.im (nI r.2.2.Device.Resets),.im (nI r.2.2.Device.Time)]]):=by
 refine sp_of rfl [] rfl rfl rfl (Nat.le_of_ble_eq_true rfl) rfl fun hk=>?_
 replace h:=h hk.1 hk.2.1
 have z1:lZ u_.Device.M.Next:=ok_len hk.1.2.2.1
 have z2:lZ u_.Device.M.Out:=ok_len hk.1.2.2.2.1
 have z3:lZ u_.Device.Latency.Step:=ok_len hk.1.2.2.2.2.2.2.1
 unfold device_unit_step at h
 conv=>whnf
 refine Side.mk rfl ?_
 conv=>whnf
 refine Side.mk rfl ?_
 conv=>whnf
 refine Side.mk rfl ?_
 conv=>whnf
 refine Side.mk rfl ?_
 conv=>whnf
 refine Both.mk ?_ ?_<;>intro b51
 replace h:=cond_t b51 h
 conv=>whnf
 cases h
 conv=>whnf
 exact Side.mk ⟨rfl,trivial⟩ ⟨rfl,rfl⟩
 replace h:=cond_f b51 h
 conv=>whnf
 refine Side.mk rfl ?_
 conv=>whnf
 refine Side.mk rfl ?_
 conv=>whnf
 refine Side.mk rfl ?_
 conv=>whnf
 refine Side.mk rfl ?_
 conv=>whnf
 refine Side.mk rfl ?_
 conv=>whnf
 obtain ⟨c52,h⟩:=chk_some h
 refine Arith.mk c52 ?_
 conv=>whnf
 obtain ⟨c53,hc53,h⟩:=bind_some h
 refine ⟨_,(sp_device_outside a_ (u_.Device.M.Inputs-1) c53 (fun _ _=>hc53)),?_⟩
 conv=>whnf
 refine Both.mk ?_ ?_<;>intro b54
 replace h:=cond_t b54 h
 conv=>whnf
 cases h
 conv=>whnf
 exact Side.mk ⟨rfl,trivial⟩ ⟨rfl,rfl⟩
 replace h:=cond_f b54 h
 conv=>whnf
 refine Side.mk rfl ?_
 conv=>whnf
 refine Side.mk rfl ?_
 conv=>whnf
 refine Side.mk rfl ?_
 conv=>whnf
 refine Side.mk rfl ?_
 conv=>whnf
 refine Side.mk rfl ?_
 conv=>whnf
 refine Side.mk rfl ?_
 conv=>whnf
 obtain ⟨c55,h⟩:=chk_some h
 refine Arith.mk c55 ?_
 conv=>whnf
 refine Side.mk rfl ?_
 conv=>whnf
 refine Side.mk rfl ?_
 conv=>whnf
 refine Side.mk rfl ?_
 conv=>whnf
 refine Side.mk rfl ?_
 conv=>whnf
 refine Side.mk rfl ?_
 conv=>whnf
 refine Side.mk rfl ?_
 conv=>whnf
 refine Side.mk rfl ?_
 conv=>whnf
 refine Side.mk rfl ?_
 conv=>whnf
 refine Side.mk rfl ?_
 conv=>whnf
 refine Side.mk rfl ?_
 conv=>whnf
 refine Side.mk rfl ?_
 conv=>whnf
 obtain ⟨e56,he56z,he56,h⟩:=idx_some h
 refine ⟨_,⟨he56z,map_at he56,rfl⟩,?_⟩
 conv=>whnf
 obtain ⟨c57,h⟩:=chk_some h
 refine Arith.mk c57 ?_
 conv=>whnf
 refine Side.mk rfl ?_
 conv=>whnf
 refine Side.mk rfl ?_
 conv=>whnf
 refine Side.mk rfl ?_
 conv=>whnf
 refine Side.mk rfl ?_
 conv=>whnf
 obtain ⟨c58,hc58,h⟩:=bind_some h
 refine ⟨_,(sp_device_unit_counted (⟨(⟨u_.Device.M,u_.Device.State,u_.Device.Ready,u_.Device.Latency,u_.Device.Faults,u_.Device.Seed,(u_.Device.Steps+1),u_.Device.Resets,(u_.Device.Time+e56)⟩:T_api_Device)⟩:T_device_unit) c58 (fun _=>hc58)),?_⟩
 conv=>whnf
 refine Both.mk ?_ ?_<;>intro b59
 replace h:=cond_t b59 h
 conv=>whnf
 cases h
 conv=>whnf
 exact Side.mk ⟨rfl,trivial⟩ ⟨rfl,rfl⟩
 replace h:=cond_f b59 h
 conv=>whnf
 refine Side.mk rfl ?_
 conv=>whnf
 refine Side.mk rfl ?_
 conv=>whnf
 refine Side.mk rfl ?_
 conv=>whnf
 refine Side.mk rfl ?_
 conv=>whnf
 obtain ⟨c60,hc60,h⟩:=bind_some h
 refine ⟨_,(sp_random_Below u_.Device.Seed 10000 c60 (fun _ _=>hc60)),?_⟩
 conv=>whnf
 refine Both.mk ?_ ?_<;>intro b61
 obtain ⟨h,b61d⟩:=ctd b61 h
 conv=>whnf
 cases h
 conv=>whnf
 exact Side.mk ⟨rfl,trivial⟩ ⟨rfl,rfl⟩
 obtain ⟨h,b61d⟩:=cfd b61 h
 conv=>whnf
 refine Side.mk rfl ?_
 conv=>whnf
 refine Side.mk rfl ?_
 conv=>whnf
 refine Side.mk rfl ?_
 conv=>whnf
 refine Side.mk rfl ?_
 conv=>whnf
 refine Side.mk rfl ?_
 conv=>whnf
 refine Side.mk rfl ?_
 conv=>whnf
 refine Side.mk rfl ?_
 conv=>whnf
 refine Side.mk rfl ?_
 conv=>whnf
 refine Side.mk rfl ?_
 conv=>whnf
 refine Side.mk rfl ?_
 conv=>whnf
 refine Side.mk rfl ?_
 conv=>whnf
 refine Side.mk rfl ?_
 conv=>whnf
 obtain ⟨e62,he62z,he62,h⟩:=idx_some h
 refine ⟨_,⟨he62z,map_at he62,rfl⟩,?_⟩
 conv=>whnf
 obtain ⟨e63,he63z,he63,h⟩:=idx_some h
 refine ⟨_,⟨he63z,map_at he63,rfl⟩,?_⟩
 conv=>whnf
 refine Side.mk rfl ?_
 conv=>whnf
 refine Side.mk rfl ?_
 conv=>whnf
 refine Side.mk rfl ?_
 conv=>whnf
 refine Side.mk rfl ?_
 conv=>whnf
 refine Side.mk rfl ?_
 conv=>whnf
 refine Side.mk rfl ?_
 conv=>whnf
 refine Side.mk rfl ?_
 conv=>whnf
 refine Side.mk rfl ?_
 conv=>whnf
 refine Side.mk rfl ?_
 conv=>whnf
 refine Side.mk rfl ?_
 conv=>whnf
 refine Side.mk rfl ?_
 conv=>whnf
 refine Side.mk rfl ?_
 conv=>whnf
 obtain ⟨e64,he64z,he64,h⟩:=idx_some h
 refine ⟨_,⟨he64z,map_at he64,rfl⟩,?_⟩
 conv=>whnf
 obtain ⟨e65,he65z,he65,h⟩:=idx_some h
 refine ⟨_,⟨he65z,map_at he65,rfl⟩,?_⟩
 conv=>whnf
 refine Side.mk rfl ?_
 conv=>whnf
 refine Side.mk rfl ?_
 conv=>whnf
 refine Side.mk rfl ?_
 conv=>whnf
 refine Side.mk rfl ?_
 conv=>whnf
 refine Side.mk rfl ?_
 conv=>whnf
 refine Side.mk rfl ?_
 conv=>whnf
 refine Side.mk rfl ?_
 conv=>whnf
 refine Both.mk ?_ ?_<;>intro b66
 obtain ⟨h,b66d⟩:=ctd b66 h
 conv=>whnf
 refine Side.mk rfl ?_
 conv=>whnf
 refine Side.mk rfl ?_
 conv=>whnf
 refine Side.mk rfl ?_
 conv=>whnf
 cases h
 conv=>whnf
 exact Side.mk ⟨rfl,trivial⟩ ⟨rfl,rfl⟩
 obtain ⟨h,b66d⟩:=cfd b66 h
 conv=>whnf
 obtain ⟨y71,hc,hk68⟩:=bind_some h
 clear h
 have h:=hc
 clear hc
 refine Cut.mk (mkSt [(0,.own 0 0 0),(6,.own 156 1 0),(7,.im (nI c60.1)),(10,.im (nI e65)),(11,.own 157 1 0),(114,.im (nB y71))] [(0,.box 101 15),(156,.box 101 15),(157,.box 29 3)] [(0,0,.im (nI u_.Device.M.Inputs)),(0,1,.im (nI u_.Device.M.Start)),(0,2,.im (nL (cL cI) u_.Device.M.Next)),(0,3,.im (nL (cL cI) u_.Device.M.Out)),(0,4,.im (nI u_.Device.State)),(0,5,.im (nB u_.Device.Ready)),(0,6,.im (nL cI u_.Device.Latency.Step)),(0,7,.im (nI u_.Device.Latency.Reset)),(0,8,.im (nI u_.Device.Faults.Lost)),(0,9,.im (nI u_.Device.Faults.Wrong)),(0,10,.im (nI u_.Device.Faults.Crash)),(0,11,.im (nU u_.Device.Seed)),(0,12,.im (nI u_.Device.Steps)),(0,13,.im (nI u_.Device.Resets)),(0,14,.im (nI u_.Device.Time)),(156,0,.im (nI u_.Device.M.Inputs)),(156,1,.im (nI u_.Device.M.Start)),(156,2,.im (nL (cL cI) u_.Device.M.Next)),(156,3,.im (nL (cL cI) u_.Device.M.Out)),(156,4,.im (nI e63)),(156,5,.im (nB u_.Device.Ready)),(156,6,.im (nL cI u_.Device.Latency.Step)),(156,7,.im (nI u_.Device.Latency.Reset)),(156,8,.im (nI u_.Device.Faults.Lost)),(156,9,.im (nI u_.Device.Faults.Wrong)),(156,10,.im (nI u_.Device.Faults.Crash)),(156,11,.im (nU c60.2.1)),(156,12,.im (nI (u_.Device.Steps+1))),(156,13,.im (nI u_.Device.Resets)),(156,14,.im (nI (u_.Device.Time+e56))),(157,0,.im (nI u_.Device.Faults.Lost)),(157,1,.im (nI u_.Device.Faults.Wrong)),(157,2,.im (nI u_.Device.Faults.Crash))]) (lZ u_.Device.M.Next∧lZ u_.Device.M.Out∧lZ u_.Device.Latency.Step∧True) ((Holds.cel 0 2 rfl (by decide) rfl).and ((Holds.cel 0 3 rfl (by decide) rfl).and ((Holds.cel 0 6 rfl (by decide) rfl).and (hT)))) ?_ (fun hp=>?_)
 conv=>whnf
 refine Side.mk rfl ?_
 conv=>whnf
 refine Side.mk rfl ?_
 conv=>whnf
 refine Side.mk rfl ?_
 conv=>whnf
 refine Side.mk rfl ?_
 conv=>whnf
 obtain ⟨c72,h⟩:=chk_some h
 refine Arith.mk c72 ?_
 conv=>whnf
 refine Both.mk ?_ ?_<;>intro b73
 replace b73:=beq_tt b73
 obtain ⟨h,b73d⟩:=ctd b73 h
 conv=>whnf
 refine Both.yes (tt_beq b73) ?_
 conv=>whnf
 refine Both.yes b73 ?_
 conv=>whnf
 cases h
 exact Join.mk (eA [(0,some 0),(156,some 6),(157,some 11)])
 replace b73:=beq_tf b73
 obtain ⟨h,b73d⟩:=cfd b73 h
 conv=>whnf
 refine Both.no (ft_beq b73) ?_
 conv=>whnf
 refine Both.no b73 ?_
 conv=>whnf
 cases h
 exact Join.mk (eA [(0,some 0),(156,some 6),(157,some 11)])
 replace h:=hk68
 obtain ⟨z74,z75,z76,_⟩:=hp
 conv=>whnf
 refine Both.mk ?_ ?_<;>intro b77
 replace h:=cond_t b77 h
 conv=>whnf
 obtain ⟨c78,h⟩:=chk_some h
 refine Arith.mk c78 ?_
 conv=>whnf
 refine Side.mk rfl ?_
 conv=>whnf
 refine Side.mk rfl ?_
 conv=>whnf
 refine Side.mk rfl ?_
 conv=>whnf
 cases h
 conv=>whnf
 exact Side.mk ⟨rfl,trivial⟩ ⟨rfl,rfl⟩
 replace h:=cond_f b77 h
 conv=>whnf
 refine Side.mk rfl ?_
 conv=>whnf
 refine Side.mk rfl ?_
 conv=>whnf
 refine Side.mk rfl ?_
 conv=>whnf
 refine Side.mk rfl ?_
 conv=>whnf
 obtain ⟨c79,h⟩:=chk_some h
 refine Arith.mk c79 ?_
 conv=>whnf
 refine Both.mk ?_ ?_<;>intro b80
 obtain ⟨h,b80d⟩:=ctd b80 h
 conv=>whnf
 obtain ⟨c81,h⟩:=chk_some h
 refine Arith.mk c81 ?_
 conv=>whnf
 refine Side.mk rfl ?_
 conv=>whnf
 refine Side.mk rfl ?_
 conv=>whnf
 refine Side.mk rfl ?_
 conv=>whnf
 cases h
 conv=>whnf
 exact Side.mk ⟨rfl,trivial⟩ ⟨rfl,rfl⟩
 obtain ⟨h,b80d⟩:=cfd b80 h
 conv=>whnf
 refine Side.mk rfl ?_
 conv=>whnf
 refine Side.mk rfl ?_
 conv=>whnf
 refine Side.mk rfl ?_
 conv=>whnf
 refine Side.mk rfl ?_
 conv=>whnf
 obtain ⟨c82,h⟩:=chk_some h
 refine Arith.mk c82 ?_
 conv=>whnf
 refine Side.mk rfl ?_
 conv=>whnf
 refine Side.mk rfl ?_
 conv=>whnf
 obtain ⟨c83,h⟩:=chk_some h
 refine Arith.mk c83 ?_
 conv=>whnf
 refine Both.mk ?_ ?_<;>intro b84
 obtain ⟨h,b84d⟩:=ctd b84 h
 conv=>whnf
 refine Side.mk rfl ?_
 conv=>whnf
 refine Side.mk rfl ?_
 conv=>whnf
 refine Side.mk rfl ?_
 conv=>whnf
 refine Side.mk rfl ?_
 conv=>whnf
 refine Side.mk rfl ?_
 conv=>whnf
 refine Side.mk rfl ?_
 conv=>whnf
 cases h
 conv=>whnf
 exact Side.mk ⟨rfl,trivial⟩ ⟨rfl,rfl⟩
 obtain ⟨h,b84d⟩:=cfd b84 h
 conv=>whnf
 refine Side.mk rfl ?_
 conv=>whnf
 refine Side.mk rfl ?_
 conv=>whnf
 refine Side.mk rfl ?_
 conv=>whnf
 cases h
 conv=>whnf
 exact Side.mk ⟨rfl,trivial⟩ ⟨rfl,rfl⟩
theorem sp_device_Query (d_:T_api_Device) (w_:List Int) (r:T_api_Device×List Int×Int) (h:Ok (.agg (c_api_Device d_))→Ok (nL cI w_)→device_Query d_ w_=some r):Sp Tryz.prog 24 [.im (.agg (c_api_Device d_)),.im (nL cI w_)] (.tup [.agg (c_api_Device r.1),nL cI r.2.1,nI r.2.2]):=by
 refine sp_of rfl [37000,55000,700002] rfl rfl rfl (Nat.le_of_ble_eq_true rfl) rfl fun hk=>?_
 replace h:=h hk.1 hk.2.1
 have z1:lZ d_.M.Next:=ok_len (Ok.agg_at hk.1 2 rfl)
 have z2:lZ d_.M.Out:=ok_len (Ok.agg_at hk.1 3 rfl)
 have z3:lZ d_.Latency.Step:=ok_len (Ok.agg_at hk.1 6 rfl)
 have z4:lZ w_:=ok_len hk.2.1
 unfold device_Query at h
 conv=>whnf
 obtain ⟨c51,hc51,h⟩:=bind_some h
 refine ⟨_,(sp_device_Valid d_ c51 (fun _=>hc51)),?_⟩
 conv=>whnf
 refine Both.mk ?_ ?_<;>intro b52
 obtain ⟨h,b52d⟩:=ctd b52 h
 conv=>whnf
 refine Side.mk rfl ?_
 conv=>whnf
 cases h
 conv=>whnf
 refine Side.mk ⟨rfl,trivial⟩ ?_
 conv=>whnf
 exact ⟨rfl,rfl⟩
 obtain ⟨h,b52d⟩:=cfd b52 h
 conv=>whnf
 obtain ⟨c53,hc53,h⟩:=bind_some h
 refine ⟨_,(sp_word_Check w_ d_.M.Inputs c53 (fun _ _=>hc53)),?_⟩
 conv=>whnf
 refine Both.mk ?_ ?_<;>intro b54
 obtain ⟨h,b54d⟩:=ctd b54 h
 conv=>whnf
 refine Side.mk rfl ?_
 conv=>whnf
 cases h
 conv=>whnf
 refine Side.mk ⟨rfl,trivial⟩ ?_
 conv=>whnf
 exact ⟨rfl,rfl⟩
 obtain ⟨h,b54d⟩:=cfd b54 h
 conv=>whnf
 obtain ⟨c55,hc55,h⟩:=bind_some h
 refine ⟨_,(sp_device_copied d_ c55 (fun _=>hc55)),?_⟩
 conv=>whnf
 refine Side.mk ⟨rfl,trivial⟩ ?_
 conv=>whnf
 obtain ⟨c56,hc56,h⟩:=bind_some h
 refine ⟨_,(sp_device_unit_reset (⟨c55⟩:T_device_unit) c56 (fun _=>hc56)),?_⟩
 conv=>whnf
 refine Both.mk ?_ ?_<;>intro b57
 obtain ⟨h,b57d⟩:=ctd b57 h
 conv=>whnf
 refine Side.mk rfl ?_
 conv=>whnf
 cases h
 conv=>whnf
 refine Side.mk ⟨rfl,trivial⟩ ?_
 conv=>whnf
 exact ⟨rfl,rfl⟩
 obtain ⟨h,b57d⟩:=cfd b57 h
 conv=>whnf
 refine Nf.mk (List.length w_) len_map ?_
 conv=>whnf
 obtain ⟨c58,h⟩:=chk_some h
 refine Side.mk c58 ?_
 conv=>whnf
 refine Nf.mk (List.map cI []) rfl ?_
 conv=>whnf
 refine Nf.mk (List.length w_) len_map ?_
 conv=>whnf
 obtain ⟨oc,hc,hk59⟩:=bind_some h
 clear h
 have h:=hc
 clear hc
 refine Cut.mkS oc (Y:=Int×Int×List (List Int)×List (List Int)×Int×Bool×List Int×Int×Int×Int×Int×Int×Int×Int×Int×List Int) (fun (y137,y138,y139,y140,y141,y142,y143,y144,y145,y146,y147,y148,y149,y150,y151,y152)=>mkSt [(4,.own 95 1 0),(9,.own 96 1 0),(11,.osl 97 1)] [(95,.box 32 15),(96,.box 101 15),(97,.row 3 1 (List.map cI y152))] [(95,0,.im (nI 0)),(95,1,.im (nI 0)),(95,2,.im (.val (.slice none 0 0))),(95,3,.im (.val (.slice none 0 0))),(95,4,.im (nI 0)),(95,5,.im (nB false)),(95,6,.im (.val (.slice none 0 0))),(95,7,.im (nI 0)),(95,8,.im (nI 0)),(95,9,.im (nI 0)),(95,10,.im (nI 0)),(95,11,.im (nU 0)),(95,12,.im (nI 0)),(95,13,.im (nI 0)),(95,14,.im (nI 0)),(96,0,.im (nI y137)),(96,1,.im (nI y138)),(96,2,.im (nL (cL cI) y139)),(96,3,.im (nL (cL cI) y140)),(96,4,.im (nI y141)),(96,5,.im (nB y142)),(96,6,.im (nL cI y143)),(96,7,.im (nI y144)),(96,8,.im (nI y145)),(96,9,.im (nI y146)),(96,10,.im (nI y147)),(96,11,.im (nU y148)),(96,12,.im (nI y149)),(96,13,.im (nI y150)),(96,14,.im (nI y151))]) (fun (y137,y138,y139,y140,y141,y142,y143,y144,y145,y146,y147,y148,y149,y150,y151,y152)=>lZ y139∧lZ y140∧lZ y143∧lZ y152∧True) (by rintro ⟨y137,y138,y139,y140,y141,y142,y143,y144,y145,y146,y147,y148,y149,y150,y151,y152⟩;exact ((Holds.cel 96 2 rfl (by decide) rfl).and ((Holds.cel 96 3 rfl (by decide) rfl).and ((Holds.cel 96 6 rfl (by decide) rfl).and ((Holds.kdl 97 rfl).and (hT)))))) ?_ ?_
 conv=>whnf
 refine Loops.iter (fun (s:Int×Int×List (List Int)×List (List Int)×Int×Bool×List Int×Int×Int×Int×Int×Int×Int×Int×Int×List Int×Nat)=>device_Query.s2 w_ s.1 s.2.1 s.2.2.1 s.2.2.2.1 s.2.2.2.2.1 s.2.2.2.2.2.1 s.2.2.2.2.2.2.1 s.2.2.2.2.2.2.2.1 s.2.2.2.2.2.2.2.2.1 s.2.2.2.2.2.2.2.2.2.1 s.2.2.2.2.2.2.2.2.2.2.1 s.2.2.2.2.2.2.2.2.2.2.2.1 s.2.2.2.2.2.2.2.2.2.2.2.2.1 s.2.2.2.2.2.2.2.2.2.2.2.2.2.1 s.2.2.2.2.2.2.2.2.2.2.2.2.2.2.1 s.2.2.2.2.2.2.2.2.2.2.2.2.2.2.2.1 s.2.2.2.2.2.2.2.2.2.2.2.2.2.2.2.2) (fun (y171,y172,y173,y174,y175,y176,y177,y178,y179,y180,y181,y182,y183,y184,y185,y186,y187)=>mkSt [(1,.im (nL cI w_)),(4,.own 95 1 0),(9,.own 96 1 0),(11,.osl 97 1),(44,.im (nL cI w_)),(45,.im (nI (↑(List.length w_):Int))),(46,.im (nI (↑y187:Int)))] [(95,.box 32 15),(96,.box 101 15),(97,.row 3 1 (List.map cI y186))] [(95,0,.im (nI 0)),(95,1,.im (nI 0)),(95,2,.im (.val (.slice none 0 0))),(95,3,.im (.val (.slice none 0 0))),(95,4,.im (nI 0)),(95,5,.im (nB false)),(95,6,.im (.val (.slice none 0 0))),(95,7,.im (nI 0)),(95,8,.im (nI 0)),(95,9,.im (nI 0)),(95,10,.im (nI 0)),(95,11,.im (nU 0)),(95,12,.im (nI 0)),(95,13,.im (nI 0)),(95,14,.im (nI 0)),(96,0,.im (nI y171)),(96,1,.im (nI y172)),(96,2,.im (nL (cL cI) y173)),(96,3,.im (nL (cL cI) y174)),(96,4,.im (nI y175)),(96,5,.im (nB y176)),(96,6,.im (nL cI y177)),(96,7,.im (nI y178)),(96,8,.im (nI y179)),(96,9,.im (nI y180)),(96,10,.im (nI y181)),(96,11,.im (nU y182)),(96,12,.im (nI y183)),(96,13,.im (nI y184)),(96,14,.im (nI y185))]) (fun (y171,y172,y173,y174,y175,y176,y177,y178,y179,y180,y181,y182,y183,y184,y185,y186,y187)=>lZ w_∧lZ y173∧lZ y174∧lZ y177∧lZ y186∧True) h (eA [(95,some 4),(96,some 34),(97,some 43)]) (by rintro ⟨y171,y172,y173,y174,y175,y176,y177,y178,y179,y180,y181,y182,y183,y184,y185,y186,y187⟩;exact ((Holds.avl 1 rfl).and ((Holds.cel 96 2 rfl (by decide) rfl).and ((Holds.cel 96 3 rfl (by decide) rfl).and ((Holds.cel 96 6 rfl (by decide) rfl).and ((Holds.kdl 97 rfl).and (hT))))))) ?_
 clear h
 rintro k ⟨y171,y172,y173,y174,y175,y176,y177,y178,y179,y180,y181,y182,y183,y184,y185,y186,y187⟩ o hp h ho206
 replace h:device_Query.s2 w_ y171 y172 y173 y174 y175 y176 y177 y178 y179 y180 y181 y182 y183 y184 y185 y186 y187=some o:=h
 unfold device_Query.s2 at h
 obtain ⟨z225,z226,z227,z228,z229,_⟩:=hp
 conv=>whnf
 refine Both.mk ?_ ?_<;>intro b207
 obtain ⟨h,b207d⟩:=ctd b207 h
 conv=>whnf
 obtain ⟨e208,he208,h⟩:=idxn_some h
 refine ⟨_,⟨(by omega),map_at he208,rfl⟩,?_⟩
 conv=>whnf
 refine Side.mk ⟨rfl,trivial⟩ ?_
 conv=>whnf
 obtain ⟨c209,hc209,h⟩:=bind_some h
 refine ⟨_,(sp_device_unit_step (⟨(⟨(⟨y171,y172,y173,y174⟩:T_api_Mealy),y175,y176,(⟨y177,y178⟩:T_api_Latency),(⟨y179,y180,y181⟩:T_api_Faults),y182,y183,y184,y185⟩:T_api_Device)⟩:T_device_unit) e208 c209 (fun _ _=>hc209)),?_⟩
 conv=>whnf
 refine Both.mk ?_ ?_<;>intro b210
 obtain ⟨h,b210d⟩:=ctd b210 h
 conv=>whnf
 refine Side.mk rfl ?_
 conv=>whnf
 refine Side.mk rfl ?_
 conv=>whnf
 refine Side.mk rfl ?_
 conv=>whnf
 refine Side.mk rfl ?_
 conv=>whnf
 cases h
 have ho206:_=_:=ho206
 cases ho206
 replace h:some _=some _:=hk59
 cases h
 conv=>whnf
 refine Side.mk ⟨rfl,trivial⟩ ?_
 conv=>whnf
 exact ⟨rfl,rfl⟩
 obtain ⟨h,b210d⟩:=cfd b210 h
 conv=>whnf
 obtain ⟨y215,hc,hk212⟩:=bind_some h
 clear h
 have h:=hc
 clear hc
 refine Cut.mk (mkSt [(1,.im (nL cI w_)),(4,.own 95 1 0),(9,.own 96 1 0),(11,.osl 97 1),(14,.im (nI c209.1)),(44,.im (nL cI w_)),(45,.im (nI (↑(List.length w_):Int))),(46,.im (nI (↑y187:Int))),(80,.im (nB y215))] [(95,.box 32 15),(96,.box 101 15),(97,.row 3 1 (List.map cI y186))] [(95,0,.im (nI 0)),(95,1,.im (nI 0)),(95,2,.im (.val (.slice none 0 0))),(95,3,.im (.val (.slice none 0 0))),(95,4,.im (nI 0)),(95,5,.im (nB false)),(95,6,.im (.val (.slice none 0 0))),(95,7,.im (nI 0)),(95,8,.im (nI 0)),(95,9,.im (nI 0)),(95,10,.im (nI 0)),(95,11,.im (nU 0)),(95,12,.im (nI 0)),(95,13,.im (nI 0)),(95,14,.im (nI 0)),(96,0,.im (nI c209.2.2.Device.M.Inputs)),(96,1,.im (nI c209.2.2.Device.M.Start)),(96,2,.im (nL (cL cI) c209.2.2.Device.M.Next)),(96,3,.im (nL (cL cI) c209.2.2.Device.M.Out)),(96,4,.im (nI c209.2.2.Device.State)),(96,5,.im (nB c209.2.2.Device.Ready)),(96,6,.im (nL cI c209.2.2.Device.Latency.Step)),(96,7,.im (nI c209.2.2.Device.Latency.Reset)),(96,8,.im (nI c209.2.2.Device.Faults.Lost)),(96,9,.im (nI c209.2.2.Device.Faults.Wrong)),(96,10,.im (nI c209.2.2.Device.Faults.Crash)),(96,11,.im (nU c209.2.2.Device.Seed)),(96,12,.im (nI c209.2.2.Device.Steps)),(96,13,.im (nI c209.2.2.Device.Resets)),(96,14,.im (nI c209.2.2.Device.Time))]) (lZ w_∧lZ c209.2.2.Device.M.Next∧lZ c209.2.2.Device.M.Out∧lZ c209.2.2.Device.Latency.Step∧lZ y186∧True) ((Holds.avl 1 rfl).and ((Holds.cel 96 2 rfl (by decide) rfl).and ((Holds.cel 96 3 rfl (by decide) rfl).and ((Holds.cel 96 6 rfl (by decide) rfl).and ((Holds.kdl 97 rfl).and (hT)))))) ?_ (fun hp=>?_)
 conv=>whnf
 refine Both.mk ?_ ?_<;>intro b216
 replace b216:=beq_ff b216
 obtain ⟨h,b216d⟩:=cfd b216 h
 conv=>whnf
 refine Both.yes (ff_beq b216) ?_
 conv=>whnf
 refine Side.mk rfl ?_
 conv=>whnf
 refine Both.yes (ff_beq b216) ?_
 conv=>whnf
 refine Side.mk rfl ?_
 conv=>whnf
 refine Both.yes (ff_beq b216) ?_
 conv=>whnf
 refine Side.mk rfl ?_
 conv=>whnf
 refine Both.yes (ff_beq b216) ?_
 conv=>whnf
 refine Side.mk rfl ?_
 conv=>whnf
 iterate 2 (refine Both.yes (ff_beq b216) ?_;(conv=>whnf))
 refine Both.mk ?_ ?_<;>intro b217
 replace b217:=beq_tt b217
 replace h:=cond_t b217 h
 conv=>whnf
 refine Both.yes (tt_beq b217) ?_
 conv=>whnf
 refine Arith.mk (by show inR _;unfold inR;omega) ?_
 conv=>whnf
 iterate 2 (refine Both.yes (tt_beq b217) ?_;(conv=>whnf))
 refine Nf.mk (List.length w_) len_map ?_
 conv=>whnf
 refine Both.yes (tt_beq b217) ?_
 conv=>whnf
 refine Both.yes (ff_beq b216) ?_
 conv=>whnf
 refine Both.yes b217 ?_
 conv=>whnf
 refine Both.no b216 ?_
 conv=>whnf
 cases h
 exact Join.mk (eA [(95,some 95),(96,some 96),(97,some 97)])
 replace b217:=beq_tf b217
 replace h:=cond_f b217 h
 conv=>whnf
 iterate 4 (refine Both.no (ft_beq b217) ?_;(conv=>whnf))
 refine Both.yes (ff_beq b216) ?_
 conv=>whnf
 refine Both.no b217 ?_
 conv=>whnf
 refine Both.no b216 ?_
 conv=>whnf
 cases h
 exact Join.mk (eA [(95,some 95),(96,some 96),(97,some 97)])
 replace b216:=beq_ft b216
 obtain ⟨h,b216d⟩:=ctd b216 h
 conv=>whnf
 iterate 7 (refine Both.no (tf_beq b216) ?_;(conv=>whnf))
 refine Both.yes b216 ?_
 conv=>whnf
 cases h
 exact Join.mk (eA [(95,some 95),(96,some 96),(97,some 97)])
 replace h:=hk212
 obtain ⟨z218,z219,z220,z221,z222,_⟩:=hp
 conv=>whnf
 refine Both.mk ?_ ?_<;>intro b223
 replace h:=cond_t b223 h
 conv=>whnf
 refine Side.mk rfl ?_
 conv=>whnf
 refine Side.mk rfl ?_
 conv=>whnf
 refine Side.mk rfl ?_
 conv=>whnf
 refine Side.mk rfl ?_
 conv=>whnf
 cases h
 have ho206:_=_:=ho206
 cases ho206
 replace h:some _=some _:=hk59
 cases h
 conv=>whnf
 refine Side.mk ⟨rfl,trivial⟩ ?_
 conv=>whnf
 exact ⟨rfl,rfl⟩
 replace h:=cond_f b223 h
 conv=>whnf
 obtain ⟨c224,h⟩:=chk_some h
 refine Side.mk ⟨rfl,map_len (l:=[c209.1]) (c:=cI) fun _=>rfl,show capOk _ 8 by simpa only [List.length_map,List.length_cons,List.length_nil,Nat.zero_add] using c224⟩ ?_
 conv=>whnf
 refine Nf.mk (List.map cI (y186++[c209.1])) (app_map (l:=y186) (m:=[c209.1]) (c:=cI)) ?_
 conv=>whnf
 refine Arith.mk (by show inR _;unfold inR;omega) ?_
 conv=>whnf
 cases h
 exact Nxt.mk _ ho206 (eA [(95,some 95),(96,some 96),(97,some 97)])
 obtain ⟨h,b207d⟩:=cfd b207 h
 conv=>whnf
 cases h
 have ho206:_=_:=ho206
 cases ho206
 exact JoinS.mk' _ rfl (eA [(95,some 95),(96,some 96),(97,some 97)])
 rintro ⟨y137,y138,y139,y140,y141,y142,y143,y144,y145,y146,y147,y148,y149,y150,y151,y152⟩ rfl hp
 have hx_:=sum_inl hk59
 replace h:device_Query.k3 y137 y138 y139 y140 y141 y142 y143 y144 y145 y146 y147 y148 y149 y150 y151 y152=some _:=hx_
 clear hx_
 unfold device_Query.k3 at h
 obtain ⟨z230,z231,z232,z233,_⟩:=hp
 conv=>whnf
 refine Side.mk rfl ?_
 conv=>whnf
 refine Side.mk rfl ?_
 conv=>whnf
 refine Side.mk rfl ?_
 conv=>whnf
 refine Side.mk rfl ?_
 conv=>whnf
 cases h
 conv=>whnf
 refine Side.mk ⟨rfl,trivial⟩ ?_
 conv=>whnf
 exact Side.mk ⟨rfl,trivial⟩ ⟨rfl,rfl⟩
theorem sp_oracle_rows (l_:List (List Int)) (r:List (List Int)) (h:Ok (nL (cL cI) l_)→oracle_rows l_=some r):Sp Tryz.prog 49 [.im (nL (cL cI) l_)] (.row 25 1 (List.map (cL cI) r)):=by
 refine sp_of rfl [] rfl rfl rfl (Nat.le_of_ble_eq_true rfl) rfl fun hk=>?_
 replace h:=h hk.1
 have z1:lZ l_:=ok_len hk.1
 unfold oracle_rows at h
 conv=>whnf
 refine Nf.mk (List.length l_) len_map ?_
 conv=>whnf
 obtain ⟨y68,hc,hk51⟩:=bind_some h
 clear h
 have h:=hc
 clear hc
 refine Cut.mk (mkSt [(3,.osl 64 1)] [(64,.row 25 1 (List.map (cL cI) y68))] []) (lZ y68∧True) ((Holds.kdl 64 rfl).and (hT)) ?_ (fun hp=>?_)
 conv=>whnf
 refine Loops.iter (fun (s:List (List Int)×Nat)=>oracle_rows.s2 l_ s.1 s.2) (fun (y72,y73)=>mkSt [(3,.osl 64 1),(6,.im (nL (cL cI) l_)),(7,.im (nI (↑(List.length l_):Int))),(8,.im (nI (↑y73:Int)))] [(64,.row 25 1 (List.map (cL cI) y72))] []) (fun (y72,y73)=>lZ l_∧lZ y72∧True) h (eA [(64,none)]) (by rintro ⟨y72,y73⟩;exact ((Holds.avl 6 rfl).and ((Holds.kdl 64 rfl).and (hT)))) ?_
 clear h
 rintro k ⟨y72,y73⟩ o hp h ho78
 replace h:oracle_rows.s2 l_ y72 y73=some o:=h
 unfold oracle_rows.s2 at h
 obtain ⟨z83,z84,_⟩:=hp
 conv=>whnf
 refine Both.mk ?_ ?_<;>intro b79
 obtain ⟨h,b79d⟩:=ctd b79 h
 conv=>whnf
 obtain ⟨e80,he80,h⟩:=idxn_some h
 refine ⟨_,⟨(by omega),map_at he80,rfl⟩,?_⟩
 conv=>whnf
 obtain ⟨c81,hc81,h⟩:=bind_some h
 refine ⟨_,(sp_lib_Clone_int e80 c81 (hc81)).im,?_⟩
 conv=>whnf
 obtain ⟨c82,h⟩:=chk_some h
 refine Side.mk ⟨rfl,map_len (l:=[c81]) (c:=cL cI) fun _=>rfl,show capOk _ 24 by simpa only [List.length_map,List.length_cons,List.length_nil,Nat.zero_add] using c82⟩ ?_
 conv=>whnf
 refine Nf.mk (List.map (cL cI) (y72++[c81])) (app_map (l:=y72) (m:=[c81]) (c:=cL cI)) ?_
 conv=>whnf
 refine Arith.mk (by show inR _;unfold inR;omega) ?_
 conv=>whnf
 cases h
 exact Nxt.mk _ ho78 (eA [(64,some 64)])
 obtain ⟨h,b79d⟩:=cfd b79 h
 conv=>whnf
 cases h
 have ho78:_=_:=ho78
 cases ho78
 exact Join.mk (eA [(64,some 64)])
 replace h:=hk51
 obtain ⟨z85,_⟩:=hp
 conv=>whnf
 cases h
 conv=>whnf
 exact Side.mk ⟨rfl,trivial⟩ ⟨rfl,rfl⟩
theorem sp_oracle_copied (q_:T_api_Oracle) (r:T_api_Oracle) (h:Ok (.agg (c_api_Oracle q_))→oracle_copied q_=some r):Sp Tryz.prog 21 [.im (.agg (c_api_Oracle q_))] (.im (.agg (c_api_Oracle r))):=by
 refine sp_of rfl [] rfl rfl rfl (Nat.le_of_ble_eq_true rfl) rfl fun hk=>?_
 replace h:=h hk.1
 have z1:lZ q_.Device.M.Next:=ok_len (Ok.agg_at hk.1 2 rfl)
 have z2:lZ q_.Device.M.Out:=ok_len (Ok.agg_at hk.1 3 rfl)
 have z3:lZ q_.Device.Latency.Step:=ok_len (Ok.agg_at hk.1 6 rfl)
 have z4:lZ q_.Obs.Traces:=ok_len (Ok.agg_at hk.1 16 rfl)
 unfold oracle_copied at h
 conv=>whnf
 refine Side.mk rfl ?_
 conv=>whnf
 refine Side.mk rfl ?_
 conv=>whnf
 refine Side.mk rfl ?_
 conv=>whnf
 refine Side.mk rfl ?_
 conv=>whnf
 refine Side.mk rfl ?_
 conv=>whnf
 obtain ⟨c51,hc51,h⟩:=bind_some h
 refine ⟨_,(sp_oracle_rows q_.Device.M.Next c51 (fun _=>hc51)).im,?_⟩
 conv=>whnf
 refine Side.mk rfl ?_
 conv=>whnf
 refine Side.mk rfl ?_
 conv=>whnf
 refine Side.mk rfl ?_
 conv=>whnf
 obtain ⟨c52,hc52,h⟩:=bind_some h
 refine ⟨_,(sp_oracle_rows q_.Device.M.Out c52 (fun _=>hc52)).im,?_⟩
 conv=>whnf
 refine Side.mk rfl ?_
 conv=>whnf
 refine Side.mk rfl ?_
 conv=>whnf
 refine Side.mk rfl ?_
 conv=>whnf
 refine Side.mk rfl ?_
 conv=>whnf
 refine Side.mk rfl ?_
 conv=>whnf
 refine Side.mk rfl ?_
 conv=>whnf
 refine Side.mk rfl ?_
 conv=>whnf
 refine Side.mk rfl ?_
 conv=>whnf
 refine Side.mk rfl ?_
 conv=>whnf
 refine Side.mk rfl ?_
 conv=>whnf
 obtain ⟨c53,hc53,h⟩:=bind_some h
 refine ⟨_,(sp_lib_Clone_int q_.Device.Latency.Step c53 (hc53)).im,?_⟩
 conv=>whnf
 refine Side.mk rfl ?_
 conv=>whnf
 refine Side.mk rfl ?_
 conv=>whnf
 refine Side.mk rfl ?_
 conv=>whnf
 refine Side.mk rfl ?_
 conv=>whnf
 refine Side.mk rfl ?_
 conv=>whnf
 refine Side.mk rfl ?_
 conv=>whnf
 refine Side.mk rfl ?_
 conv=>whnf
 refine Nf.mk (List.length q_.Obs.Traces) len_map ?_
 conv=>whnf
 obtain ⟨y77,hc,hk54⟩:=bind_some h
 clear h
 have h:=hc
 clear hc
 refine Cut.mk (mkSt [(1,.own 64 1 0),(2,.own 65 1 0),(4,.osl 66 1)] [(64,.box 37 21),(65,.box 37 21),(66,.row 72 2 (List.map c_api_Trace y77))] [(64,0,.im (nI q_.Device.M.Inputs)),(64,1,.im (nI q_.Device.M.Start)),(64,2,.im (nL (cL cI) c51)),(64,3,.im (nL (cL cI) c52)),(64,4,.im (nI q_.Device.State)),(64,5,.im (nB q_.Device.Ready)),(64,6,.im (nL cI c53)),(64,7,.im (nI q_.Device.Latency.Reset)),(64,8,.im (nI q_.Device.Faults.Lost)),(64,9,.im (nI q_.Device.Faults.Wrong)),(64,10,.im (nI q_.Device.Faults.Crash)),(64,11,.im (nU q_.Device.Seed)),(64,12,.im (nI q_.Device.Steps)),(64,13,.im (nI q_.Device.Resets)),(64,14,.im (nI q_.Device.Time)),(64,15,.im (nI q_.Obs.Inputs)),(64,16,.im (nL c_api_Trace q_.Obs.Traces)),(64,17,.im (nI q_.Votes)),(64,18,.im (nI q_.Tries)),(64,19,.im (nI q_.Asked)),(64,20,.im (nI q_.Hits)),(65,0,.im (nI 0)),(65,1,.im (nI 0)),(65,2,.im (.val (.slice none 0 0))),(65,3,.im (.val (.slice none 0 0))),(65,4,.im (nI 0)),(65,5,.im (nB false)),(65,6,.im (.val (.slice none 0 0))),(65,7,.im (nI 0)),(65,8,.im (nI 0)),(65,9,.im (nI 0)),(65,10,.im (nI 0)),(65,11,.im (nU 0)),(65,12,.im (nI 0)),(65,13,.im (nI 0)),(65,14,.im (nI 0)),(65,15,.im (nI 0)),(65,16,.im (.val (.slice none 0 0))),(65,17,.im (nI 0)),(65,18,.im (nI 0)),(65,19,.im (nI 0)),(65,20,.im (nI 0))]) (lZ c51∧lZ c52∧lZ c53∧lZ q_.Obs.Traces∧lZ y77∧True) ((Holds.cel 64 2 rfl (by decide) rfl).and ((Holds.cel 64 3 rfl (by decide) rfl).and ((Holds.cel 64 6 rfl (by decide) rfl).and ((Holds.cel 64 16 rfl (by decide) rfl).and ((Holds.kdl 66 rfl).and (hT)))))) ?_ (fun hp=>?_)
 conv=>whnf
 refine Loops.iter (fun (s:List T_api_Trace×Nat)=>oracle_copied.s2 q_ s.1 s.2) (fun (y82,y83)=>mkSt [(1,.own 64 1 0),(2,.own 65 1 0),(4,.osl 66 1),(35,.im (nL c_api_Trace q_.Obs.Traces)),(36,.im (nI (↑(List.length q_.Obs.Traces):Int))),(37,.im (nI (↑y83:Int)))] [(64,.box 37 21),(65,.box 37 21),(66,.row 72 2 (List.map c_api_Trace y82))] [(64,0,.im (nI q_.Device.M.Inputs)),(64,1,.im (nI q_.Device.M.Start)),(64,2,.im (nL (cL cI) c51)),(64,3,.im (nL (cL cI) c52)),(64,4,.im (nI q_.Device.State)),(64,5,.im (nB q_.Device.Ready)),(64,6,.im (nL cI c53)),(64,7,.im (nI q_.Device.Latency.Reset)),(64,8,.im (nI q_.Device.Faults.Lost)),(64,9,.im (nI q_.Device.Faults.Wrong)),(64,10,.im (nI q_.Device.Faults.Crash)),(64,11,.im (nU q_.Device.Seed)),(64,12,.im (nI q_.Device.Steps)),(64,13,.im (nI q_.Device.Resets)),(64,14,.im (nI q_.Device.Time)),(64,15,.im (nI q_.Obs.Inputs)),(64,16,.im (nL c_api_Trace q_.Obs.Traces)),(64,17,.im (nI q_.Votes)),(64,18,.im (nI q_.Tries)),(64,19,.im (nI q_.Asked)),(64,20,.im (nI q_.Hits)),(65,0,.im (nI 0)),(65,1,.im (nI 0)),(65,2,.im (.val (.slice none 0 0))),(65,3,.im (.val (.slice none 0 0))),(65,4,.im (nI 0)),(65,5,.im (nB false)),(65,6,.im (.val (.slice none 0 0))),(65,7,.im (nI 0)),(65,8,.im (nI 0)),(65,9,.im (nI 0)),(65,10,.im (nI 0)),(65,11,.im (nU 0)),(65,12,.im (nI 0)),(65,13,.im (nI 0)),(65,14,.im (nI 0)),(65,15,.im (nI 0)),(65,16,.im (.val (.slice none 0 0))),(65,17,.im (nI 0)),(65,18,.im (nI 0)),(65,19,.im (nI 0)),(65,20,.im (nI 0))]) (fun (y82,y83)=>lZ q_.Obs.Traces∧lZ c51∧lZ c52∧lZ c53∧lZ y82∧True) h (eA [(64,some 1),(65,some 2),(66,none)]) (by rintro ⟨y82,y83⟩;exact ((Holds.avl 35 rfl).and ((Holds.cel 64 2 rfl (by decide) rfl).and ((Holds.cel 64 3 rfl (by decide) rfl).and ((Holds.cel 64 6 rfl (by decide) rfl).and ((Holds.kdl 66 rfl).and (hT))))))) ?_
 clear h
 rintro k ⟨y82,y83⟩ o hp h ho89
 replace h:oracle_copied.s2 q_ y82 y83=some o:=h
 unfold oracle_copied.s2 at h
 obtain ⟨z95,z96,z97,z98,z99,_⟩:=hp
 conv=>whnf
 refine Both.mk ?_ ?_<;>intro b90
 obtain ⟨h,b90d⟩:=ctd b90 h
 conv=>whnf
 obtain ⟨e91,he91,h⟩:=idxn_some h
 refine ⟨_,⟨(by omega),map_at he91,rfl⟩,?_⟩
 conv=>whnf
 refine Side.mk rfl ?_
 conv=>whnf
 refine Side.mk rfl ?_
 conv=>whnf
 refine Side.mk rfl ?_
 conv=>whnf
 obtain ⟨c92,hc92,h⟩:=bind_some h
 refine ⟨_,(sp_lib_Clone_int e91.In c92 (hc92)).im,?_⟩
 conv=>whnf
 refine Side.mk rfl ?_
 conv=>whnf
 refine Side.mk rfl ?_
 conv=>whnf
 obtain ⟨c93,hc93,h⟩:=bind_some h
 refine ⟨_,(sp_lib_Clone_int e91.Out c93 (hc93)).im,?_⟩
 conv=>whnf
 obtain ⟨c94,h⟩:=chk_some h
 refine Side.mk ⟨rfl,map_len (l:=[(⟨c92,c93⟩:T_api_Trace)]) (c:=c_api_Trace) fun _=>rfl,show capOk _ 48 by simpa only [List.length_map,List.length_cons,List.length_nil,Nat.zero_add] using c94⟩ ?_
 conv=>whnf
 refine Nf.mk (List.map c_api_Trace (y82++[(⟨c92,c93⟩:T_api_Trace)])) (app_map (l:=y82) (m:=[(⟨c92,c93⟩:T_api_Trace)]) (c:=c_api_Trace)) ?_
 conv=>whnf
 refine Arith.mk (by show inR _;unfold inR;omega) ?_
 conv=>whnf
 cases h
 exact Nxt.mk _ ho89 (eA [(64,some 64),(65,some 65),(66,some 66)])
 obtain ⟨h,b90d⟩:=cfd b90 h
 conv=>whnf
 cases h
 have ho89:_=_:=ho89
 cases ho89
 exact Join.mk (eA [(64,some 64),(65,some 65),(66,some 66)])
 replace h:=hk54
 obtain ⟨z100,z101,z102,z103,z104,_⟩:=hp
 conv=>whnf
 refine Side.mk rfl ?_
 conv=>whnf
 refine Side.mk rfl ?_
 conv=>whnf
 refine Side.mk rfl ?_
 conv=>whnf
 refine Side.mk rfl ?_
 conv=>whnf
 refine Side.mk rfl ?_
 conv=>whnf
 cases h
 conv=>whnf
 refine Side.mk ⟨rfl,trivial⟩ ?_
 conv=>whnf
 exact Side.mk ⟨rfl,trivial⟩ ⟨rfl,rfl⟩
theorem sp_observe_copied (t_:T_api_Trace) (r:T_api_Trace) (h:Ok (.agg (c_api_Trace t_))→observe_copied t_=some r):Sp Tryz.prog 97 [.im (.agg (c_api_Trace t_))] (.im (.agg (c_api_Trace r))):=by
 refine sp_of rfl [700001] rfl rfl rfl (Nat.le_of_ble_eq_true rfl) rfl fun hk=>?_
 replace h:=h hk.1
 have z1:lZ t_.In:=ok_len (Ok.agg_at hk.1 0 rfl)
 have z2:lZ t_.Out:=ok_len (Ok.agg_at hk.1 1 rfl)
 unfold observe_copied at h
 conv=>whnf
 obtain ⟨c51,hc51,h⟩:=bind_some h
 refine ⟨_,(sp_lib_Clone_int t_.In c51 (hc51)).im,?_⟩
 conv=>whnf
 obtain ⟨c52,hc52,h⟩:=bind_some h
 refine ⟨_,(sp_lib_Clone_int t_.Out c52 (hc52)).im,?_⟩
 conv=>whnf
 refine Side.mk rfl ?_
 conv=>whnf
 cases h
 conv=>whnf
 refine Side.mk ⟨rfl,trivial⟩ ?_
 conv=>whnf
 exact ⟨rfl,rfl⟩
theorem sp_observe_owned (l_:List T_api_Trace) (r:List T_api_Trace) (h:Ok (nL c_api_Trace l_)→observe_owned l_=some r):Sp Tryz.prog 83 [.im (nL c_api_Trace l_)] (.row 72 2 (List.map c_api_Trace r)):=by
 refine sp_of rfl [] rfl rfl rfl (Nat.le_of_ble_eq_true rfl) rfl fun hk=>?_
 replace h:=h hk.1
 have z1:lZ l_:=ok_len hk.1
 unfold observe_owned at h
 conv=>whnf
 refine Nf.mk (List.length l_) len_map ?_
 conv=>whnf
 refine Arith.mk (by show inR _;unfold inR;omega) ?_
 conv=>whnf
 obtain ⟨c51,h⟩:=chk_some h
 refine Side.mk c51 ?_
 conv=>whnf
 refine Nf.mk (List.map c_api_Trace []) rfl ?_
 conv=>whnf
 refine Nf.mk (List.length l_) len_map ?_
 conv=>whnf
 obtain ⟨y70,hc,hk52⟩:=bind_some h
 clear h
 have h:=hc
 clear hc
 refine Cut.mk (mkSt [(3,.osl 64 1)] [(64,.row 72 2 (List.map c_api_Trace y70))] []) (lZ y70∧True) ((Holds.kdl 64 rfl).and (hT)) ?_ (fun hp=>?_)
 conv=>whnf
 refine Loops.iter (fun (s:List T_api_Trace×Nat)=>observe_owned.s2 l_ s.1 s.2) (fun (y75,y76)=>mkSt [(3,.osl 64 1),(10,.im (nL c_api_Trace l_)),(11,.im (nI (↑(List.length l_):Int))),(12,.im (nI (↑y76:Int)))] [(64,.row 72 2 (List.map c_api_Trace y75))] []) (fun (y75,y76)=>lZ l_∧lZ y75∧True) h (eA [(64,some 9)]) (by rintro ⟨y75,y76⟩;exact ((Holds.avl 10 rfl).and ((Holds.kdl 64 rfl).and (hT)))) ?_
 clear h
 rintro k ⟨y75,y76⟩ o hp h ho81
 replace h:observe_owned.s2 l_ y75 y76=some o:=h
 unfold observe_owned.s2 at h
 obtain ⟨z86,z87,_⟩:=hp
 conv=>whnf
 refine Both.mk ?_ ?_<;>intro b82
 obtain ⟨h,b82d⟩:=ctd b82 h
 conv=>whnf
 obtain ⟨e83,he83,h⟩:=idxn_some h
 refine ⟨_,⟨(by omega),map_at he83,rfl⟩,?_⟩
 conv=>whnf
 refine Side.mk rfl ?_
 conv=>whnf
 refine Side.mk rfl ?_
 conv=>whnf
 obtain ⟨c84,hc84,h⟩:=bind_some h
 refine ⟨_,(sp_observe_copied e83 c84 (fun _=>hc84)),?_⟩
 conv=>whnf
 obtain ⟨c85,h⟩:=chk_some h
 refine Side.mk ⟨rfl,map_len (l:=[c84]) (c:=c_api_Trace) fun _=>rfl,show capOk _ 48 by simpa only [List.length_map,List.length_cons,List.length_nil,Nat.zero_add] using c85⟩ ?_
 conv=>whnf
 refine Nf.mk (List.map c_api_Trace (y75++[c84])) (app_map (l:=y75) (m:=[c84]) (c:=c_api_Trace)) ?_
 conv=>whnf
 refine Arith.mk (by show inR _;unfold inR;omega) ?_
 conv=>whnf
 cases h
 exact Nxt.mk _ ho81 (eA [(64,some 64)])
 obtain ⟨h,b82d⟩:=cfd b82 h
 conv=>whnf
 cases h
 have ho81:_=_:=ho81
 cases ho81
 exact Join.mk (eA [(64,some 64)])
 replace h:=hk52
 obtain ⟨z88,_⟩:=hp
 conv=>whnf
 cases h
 conv=>whnf
 exact Side.mk ⟨rfl,trivial⟩ ⟨rfl,rfl⟩
theorem sp_slices_BinarySearchFunc_Sapi_Trace_api_Trace_api_Trace (x_:List T_api_Trace) (target_:T_api_Trace) (cmp_:T_api_Trace→T_api_Trace→Option Int) (f2_:FuncId) (hf2:∀ x0 x1 r,cmp_ x0 x1=some r→Sp Tryz.prog f2_ [.im (.agg (c_api_Trace x0)),.im (.agg (c_api_Trace x1))] (.im (nI r))) (r:Int×Bool) (h:Ok (nL c_api_Trace x_)→Ok (.agg (c_api_Trace target_))→Ok (.fn f2_ [])→slices_BinarySearchFunc_Sapi_Trace_api_Trace_api_Trace x_ target_ cmp_=some r):Sp Tryz.prog 102 [.im (nL c_api_Trace x_),.im (.agg (c_api_Trace target_)),.im (.fn f2_ [])] (.tup [nI r.1,nB r.2]):=by
 refine sp_of rfl [700004] rfl rfl rfl (Nat.le_of_ble_eq_true rfl) rfl fun hk=>?_
 replace h:=h hk.1 hk.2.1 hk.2.2.1
 have z1:lZ x_:=ok_len hk.1
 have z2:lZ target_.In:=ok_len (Ok.agg_at hk.2.1 0 rfl)
 have z3:lZ target_.Out:=ok_len (Ok.agg_at hk.2.1 1 rfl)
 unfold slices_BinarySearchFunc_Sapi_Trace_api_Trace_api_Trace at h
 conv=>whnf
 refine Nf.mk (List.length x_) len_map ?_
 conv=>whnf
 obtain ⟨i81,hc,hk51⟩:=bind_some h
 clear h
 have h:=hc
 clear hc
 refine Cut.mk (mkSt [(0,.im (nL c_api_Trace x_)),(2,.im (.fn f2_ [])),(4,.im (.ref (c_api_Trace target_))),(8,.im (nI (↑(List.length x_):Int))),(9,.im (nI i81))] [] []) (lZ x_∧True) ((Holds.avl 0 rfl).and (hT)) ?_ (fun hp=>?_)
 conv=>whnf
 refine Loops.iter (fun (s:Int×Int)=>slices_BinarySearchFunc_Sapi_Trace_api_Trace_api_Trace.s2 x_ target_ cmp_ s.1 s.2) (fun (i89,j90)=>mkSt [(0,.im (nL c_api_Trace x_)),(2,.im (.fn f2_ [])),(4,.im (.ref (c_api_Trace target_))),(8,.im (nI (↑(List.length x_):Int))),(9,.im (nI i89)),(10,.im (nI j90))] [] []) (fun (i89,j90)=>lZ x_∧True) h (eA []) (by rintro ⟨i89,j90⟩;exact ((Holds.avl 0 rfl).and (hT))) ?_
 clear h
 rintro k ⟨i89,j90⟩ o hp h ho100
 replace h:slices_BinarySearchFunc_Sapi_Trace_api_Trace_api_Trace.s2 x_ target_ cmp_ i89 j90=some o:=h
 unfold slices_BinarySearchFunc_Sapi_Trace_api_Trace_api_Trace.s2 at h
 obtain ⟨z110,_⟩:=hp
 conv=>whnf
 refine Both.mk ?_ ?_<;>intro b101
 obtain ⟨h,b101d⟩:=ctd b101 h
 conv=>whnf
 obtain ⟨c102,h⟩:=chk_some h
 refine Arith.mk c102 ?_
 conv=>whnf
 obtain ⟨c103,h⟩:=chk_some h
 refine Side.mk c103 ?_
 conv=>whnf
 obtain ⟨c104,h⟩:=chk_some h
 refine Side.mk ⟨⟨by show (0:Int)≤(i89+j90) / 2^1;omega,by show (i89+j90) / 2^1≤(18446744073709551615:Int);omega⟩,c104.1,by decide,by decide⟩ ?_
 conv=>whnf
 obtain ⟨c105,h⟩:=chk_some h
 refine Side.mk c105 ?_
 conv=>whnf
 obtain ⟨e106,he106z,he106,h⟩:=idx_some h
 refine ⟨_,⟨he106z,map_at he106,rfl⟩,?_⟩
 conv=>whnf
 obtain ⟨c107,hc107,h⟩:=bind_some h
 refine ⟨_,hf2 e106 target_ c107 hc107,?_⟩
 conv=>whnf
 refine Both.mk ?_ ?_<;>intro b108
 obtain ⟨h,b108d⟩:=ctd b108 h
 conv=>whnf
 obtain ⟨c109,h⟩:=chk_some h
 refine Arith.mk c109 ?_
 conv=>whnf
 cases h
 exact Nxt.mk _ ho100 (eA [])
 obtain ⟨h,b108d⟩:=cfd b108 h
 conv=>whnf
 cases h
 exact Nxt.mk _ ho100 (eA [])
 obtain ⟨h,b101d⟩:=cfd b101 h
 conv=>whnf
 cases h
 have ho100:_=_:=ho100
 cases ho100
 exact Join.mk (eA [])
 replace h:=hk51
 obtain ⟨z111,_⟩:=hp
 conv=>whnf
 obtain ⟨y117,hc,hk113⟩:=bind_some h
 clear h
 have h:=hc
 clear hc
 refine Cut.mk (mkSt [(6,.im (nI i81)),(7,.im (nB y117))] [] []) (True) (hT) ?_ (fun hp=>?_)
 conv=>whnf
 refine Both.mk ?_ ?_<;>intro b118
 replace b118:=beq_tt b118
 obtain ⟨h,b118d⟩:=ctd b118 h
 conv=>whnf
 iterate 3 (refine Both.yes (tt_beq b118) ?_;(conv=>whnf))
 obtain ⟨e119,he119z,he119,h⟩:=idx_some h
 refine ⟨_,⟨he119z,map_at he119,rfl⟩,?_⟩
 conv=>whnf
 iterate 3 (refine Both.yes (tt_beq b118) ?_;(conv=>whnf))
 obtain ⟨c120,hc120,h⟩:=bind_some h
 refine ⟨_,hf2 e119 target_ c120 hc120,?_⟩
 conv=>whnf
 refine Both.yes (tt_beq b118) ?_
 conv=>whnf
 refine Both.yes b118 ?_
 conv=>whnf
 cases h
 exact Join.mk (eA [])
 replace b118:=beq_tf b118
 obtain ⟨h,b118d⟩:=cfd b118 h
 conv=>whnf
 iterate 7 (refine Both.no (ft_beq b118) ?_;(conv=>whnf))
 refine Both.no b118 ?_
 conv=>whnf
 cases h
 exact Join.mk (eA [])
 replace h:=hk113
 conv=>whnf
 cases h
 conv=>whnf
 exact ⟨rfl,rfl⟩
theorem sp_observe_differ (a_:T_api_Trace) (b_:T_api_Trace) (r:Int) (h:Ok (.agg (c_api_Trace a_))→Ok (.agg (c_api_Trace b_))→observe_differ a_ b_=some r):Sp Tryz.prog 99 [.im (.agg (c_api_Trace a_)),.im (.agg (c_api_Trace b_))] (.im (nI r)):=by
 refine sp_of rfl [700002,700003] rfl rfl rfl (Nat.le_of_ble_eq_true rfl) rfl fun hk=>?_
 replace h:=h hk.1 hk.2.1
 have z1:lZ a_.In:=ok_len (Ok.agg_at hk.1 0 rfl)
 have z2:lZ a_.Out:=ok_len (Ok.agg_at hk.1 1 rfl)
 have z3:lZ b_.In:=ok_len (Ok.agg_at hk.2.1 0 rfl)
 have z4:lZ b_.Out:=ok_len (Ok.agg_at hk.2.1 1 rfl)
 unfold observe_differ at h
 conv=>whnf
 obtain ⟨c51,hc51,h⟩:=bind_some h
 refine ⟨_,(sp_word_Common a_.In b_.In c51 (fun _ _=>hc51)),?_⟩
 conv=>whnf
 refine Nf.mk (List.length a_.Out) len_map ?_
 conv=>whnf
 refine Nf.mk (List.length b_.Out) len_map ?_
 conv=>whnf
 obtain ⟨c52,h⟩:=chk_some h
 refine Side.mk (show (0:Int)≤(0:Int)∧(0:Int)≤(min (min c51 (↑(List.length a_.Out):Int)) (↑(List.length b_.Out):Int))∧(min (min c51 (↑(List.length a_.Out):Int)) (↑(List.length b_.Out):Int))≤(↑(List.length (List.map cI a_.Out)):Int)∧(∀ e∈List.map cI a_.Out,List.length e=1) from ⟨by omega,by first | omega | (simp only [List.length_map];omega),by first | omega | (simp only [List.length_map];omega),map_len fun _=>rfl⟩) ?_
 conv=>whnf
 refine Nf.mk (List.map cI (List.take (Int.toNat (min (min c51 (↑(List.length a_.Out):Int)) (↑(List.length b_.Out):Int))) a_.Out)) take_map ?_
 conv=>whnf
 obtain ⟨c53,h⟩:=chk_some h
 refine Side.mk (show (0:Int)≤(0:Int)∧(0:Int)≤(min (min c51 (↑(List.length a_.Out):Int)) (↑(List.length b_.Out):Int))∧(min (min c51 (↑(List.length a_.Out):Int)) (↑(List.length b_.Out):Int))≤(↑(List.length (List.map cI b_.Out)):Int)∧(∀ e∈List.map cI b_.Out,List.length e=1) from ⟨by omega,by first | omega | (simp only [List.length_map];omega),by first | omega | (simp only [List.length_map];omega),map_len fun _=>rfl⟩) ?_
 conv=>whnf
 refine Nf.mk (List.map cI (List.take (Int.toNat (min (min c51 (↑(List.length a_.Out):Int)) (↑(List.length b_.Out):Int))) b_.Out)) take_map ?_
 conv=>whnf
 obtain ⟨c54,hc54,h⟩:=bind_some h
 refine ⟨_,(sp_word_Common (List.take (Int.toNat (min (min c51 (↑(List.length a_.Out):Int)) (↑(List.length b_.Out):Int))) a_.Out) (List.take (Int.toNat (min (min c51 (↑(List.length a_.Out):Int)) (↑(List.length b_.Out):Int))) b_.Out) c54 (fun _ _=>hc54)),?_⟩
 conv=>whnf
 refine Both.mk ?_ ?_<;>intro b55
 obtain ⟨h,b55d⟩:=ctd b55 h
 conv=>whnf
 cases h
 conv=>whnf
 exact ⟨rfl,rfl⟩
 obtain ⟨h,b55d⟩:=cfd b55 h
 conv=>whnf
 cases h
 conv=>whnf
 exact ⟨rfl,rfl⟩
theorem sp_observe_add_1 (u_:T_api_Trace) (p1_:T_api_Trace) (r:Bool) (h:Ok (.agg (c_api_Trace u_))→Ok (.ref (c_api_Trace p1_))→observe_add_1 u_ p1_=some r):Sp Tryz.prog 101 [.im (.agg (c_api_Trace u_)),.im (.ref (c_api_Trace p1_))] (.im (nB r)):=by
 refine sp_of rfl [700002] rfl rfl rfl (Nat.le_of_ble_eq_true rfl) rfl fun hk=>?_
 replace h:=h hk.1 hk.2.1
 have z1:lZ u_.In:=ok_len (Ok.agg_at hk.1 0 rfl)
 have z2:lZ u_.Out:=ok_len (Ok.agg_at hk.1 1 rfl)
 have z3:lZ p1_.In:=ok_len (Ok.ref_at hk.2.1 0 rfl)
 have z4:lZ p1_.Out:=ok_len (Ok.ref_at hk.2.1 1 rfl)
 unfold observe_add_1 at h
 conv=>whnf
 obtain ⟨c51,hc51,h⟩:=bind_some h
 refine ⟨_,(sp_word_HasPrefix p1_.In u_.In c51 (fun _ _=>hc51)),?_⟩
 conv=>whnf
 cases h
 conv=>whnf
 exact ⟨rfl,rfl⟩
theorem sp_slices_DeleteFunc_Sapi_Trace_api_Trace_n1 (s_:List T_api_Trace) (del_:T_api_Trace→Option Bool) (f1_:FuncId) (k1_0:IV) (hk1_0:nz k1_0=k1_0) (hf1:∀ x0 r,del_ x0=some r→Sp Tryz.prog f1_ [.im (.agg (c_api_Trace x0)),.im k1_0] (.im (nB r))) (r:List T_api_Trace) (h:OkL (List.map c_api_Trace s_)→Ok (.fn f1_ [k1_0])→slices_DeleteFunc_Sapi_Trace_api_Trace_n1 s_ del_=some r):Sp Tryz.prog 100 [.row 72 2 (List.map c_api_Trace s_),.im (.fn f1_ [k1_0])] (.row 72 2 (List.map c_api_Trace r)):=by
 refine sp_of rfl [500010] rfl rfl rfl (Nat.le_of_ble_eq_true rfl) rfl fun hk=>?_
 replace h:=h hk.1 hk.2.1
 have z1:lZ s_:=okl_len hk.1
 unfold slices_DeleteFunc_Sapi_Trace_api_Trace_n1 at h
 conv=>whnf
 refine Side.mk ⟨rfl,trivial⟩ ?_
 conv=>whnf
 obtain ⟨c51,hc51,h⟩:=bind_some h
 refine ⟨_,(sp_slices_IndexFunc_Sapi_Trace_api_Trace_n1 s_ del_ f1_ k1_0 hk1_0 hf1 c51 (fun _ _=>hc51)),?_⟩
 conv=>whnf
 refine Side.mk flat_one ?_
 conv=>whnf
 refine Both.mk ?_ ?_<;>intro b52
 obtain ⟨h,b52d⟩:=ctd b52 h
 conv=>whnf
 cases h
 conv=>whnf
 exact Side.mk ⟨rfl,trivial⟩ ⟨rfl,rfl⟩
 obtain ⟨h,b52d⟩:=cfd b52 h
 conv=>whnf
 obtain ⟨c53,h⟩:=chk_some h
 refine Arith.mk c53 ?_
 conv=>whnf
 obtain ⟨⟨y84,i85⟩,hc,hk54⟩:=bind_some h
 clear h
 have h:=hc
 clear hc
 refine Cut.mk (mkSt [(0,.osl 64 1),(5,.im (nI i85))] [(64,.row 72 2 (List.map c_api_Trace y84))] []) (lZ y84∧True) ((Holds.kdl 64 rfl).and (hT)) ?_ (fun hp=>?_)
 conv=>whnf
 refine Loops.iter (fun (s:List T_api_Trace×Int×Int)=>slices_DeleteFunc_Sapi_Trace_api_Trace_n1.s2 del_ s.1 s.2.1 s.2.2) (fun (y94,i95,j96)=>mkSt [(0,.osl 64 1),(1,.im (.fn f1_ [k1_0])),(5,.im (nI i95)),(6,.im (nI j96))] [(64,.row 72 2 (List.map c_api_Trace y94))] []) (fun (y94,i95,j96)=>lZ y94∧True) h (eA [(64,some 0)]) (by rintro ⟨y94,i95,j96⟩;exact ((Holds.kdl 64 rfl).and (hT))) ?_
 clear h
 rintro k ⟨y94,i95,j96⟩ o hp h ho105
 replace h:slices_DeleteFunc_Sapi_Trace_api_Trace_n1.s2 del_ y94 i95 j96=some o:=h
 unfold slices_DeleteFunc_Sapi_Trace_api_Trace_n1.s2 at h
 obtain ⟨z114,_⟩:=hp
 conv=>whnf
 refine Side.mk rfl ?_
 conv=>whnf
 refine Nf.mk (List.length y94) len_map ?_
 conv=>whnf
 refine Both.mk ?_ ?_<;>intro b106
 obtain ⟨h,b106d⟩:=ctd b106 h
 conv=>whnf
 obtain ⟨e107,he107z,he107,h⟩:=idx_some h
 refine Side.mk ⟨he107z,rfl,map_lt he107⟩ ?_
 conv=>whnf
 refine ⟨_,⟨rfl,map_at he107,of_decide_eq_true rfl,rfl⟩,?_⟩
 conv=>whnf
 refine Side.mk rfl ?_
 conv=>whnf
 refine Side.mk rfl ?_
 conv=>whnf
 obtain ⟨c108,hc108,h⟩:=bind_some h
 refine ⟨_,Sp.args (hf1 e107 c108 hc108) (by rw [hk1_0];try rfl),?_⟩
 conv=>whnf
 refine Both.mk ?_ ?_<;>intro b109
 replace h:=cond_t b109 h
 conv=>whnf
 refine Side.mk rfl ?_
 conv=>whnf
 obtain ⟨e110,he110z,he110,h⟩:=idx_some h
 refine Side.mk ⟨he110z,rfl,map_lt he110⟩ ?_
 conv=>whnf
 refine Side.mk ⟨rfl,trivial⟩ ?_
 conv=>whnf
 refine ⟨_,map_at he110,?_⟩
 conv=>whnf
 refine Nf.mk (List.map c_api_Trace (List.set y94 i95.toNat e107)) (set_map rfl) ?_
 conv=>whnf
 obtain ⟨c111,h⟩:=chk_some h
 refine Arith.mk c111 ?_
 conv=>whnf
 obtain ⟨c112,h⟩:=chk_some h
 refine Arith.mk c112 ?_
 conv=>whnf
 cases h
 exact Nxt.mk _ ho105 (eA [(64,some 64)])
 replace h:=cond_f b109 h
 conv=>whnf
 obtain ⟨c113,h⟩:=chk_some h
 refine Arith.mk c113 ?_
 conv=>whnf
 cases h
 exact Nxt.mk _ ho105 (eA [(64,some 64)])
 obtain ⟨h,b106d⟩:=cfd b106 h
 conv=>whnf
 cases h
 have ho105:_=_:=ho105
 cases ho105
 exact Join.mk (eA [(64,some 64)])
 replace h:slices_DeleteFunc_Sapi_Trace_api_Trace_n1.k3 y84 i85=some _:=hk54
 unfold slices_DeleteFunc_Sapi_Trace_api_Trace_n1.k3 at h
 obtain ⟨z115,_⟩:=hp
 conv=>whnf
 obtain ⟨c116,h⟩:=chk_some h
 refine Side.mk ⟨rfl,c116.1,by have hh_:=c116;simp only [List.length_map];omega,by have hh_:=c116;simp only [List.length_map];omega⟩ ?_
 conv=>whnf
 obtain ⟨c117,h⟩:=chk_some h
 refine Side.mk ⟨rfl,by have hh_:=c117;simp only [List.length_map];omega⟩ ?_
 conv=>whnf
 refine Nf.mk (List.map c_api_Trace (List.take (Int.toNat i85) y84++List.replicate (List.length y84-(Int.toNat i85)) (⟨[],[]⟩:T_api_Trace))) (clr_map (z:=(⟨[],[]⟩:T_api_Trace)) rfl) ?_
 conv=>whnf
 obtain ⟨c118,h⟩:=chk_some h
 refine Side.mk ⟨rfl,c118.1,by have hh_:=c118;simp only [List.length_map];omega,by have hh_:=c118;simp only [List.length_map];omega⟩ ?_
 conv=>whnf
 refine Nf.mk (List.map c_api_Trace (List.take (Int.toNat i85) (List.take (Int.toNat i85) y84++List.replicate (List.length y84-(Int.toNat i85)) (⟨[],[]⟩:T_api_Trace)))) cut_own ?_
 conv=>whnf
 cases h
 conv=>whnf
 exact Side.mk ⟨rfl,trivial⟩ ⟨rfl,rfl⟩
theorem sp_cmp_isNaN_int (x_:Int) (r:Bool) (h:Ok (nI x_)→cmp_isNaN_int x_=some r):Sp Tryz.prog 138 [.im (nI x_)] (.im (nB r)):=by
 refine sp_of rfl [] rfl rfl rfl (Nat.le_of_ble_eq_true rfl) rfl fun hk=>?_
 replace h:=h hk.1
 unfold cmp_isNaN_int at h
 conv=>whnf
 cases h
 conv=>whnf
 exact ⟨rfl,rfl⟩
theorem sp_cmp_Compare_int (x_:Int) (y_:Int) (r:Int) (h:Ok (nI x_)→Ok (nI y_)→cmp_Compare_int x_ y_=some r):Sp Tryz.prog 120 [.im (nI x_),.im (nI y_)] (.im (nI r)):=by
 refine sp_of rfl [] rfl rfl rfl (Nat.le_of_ble_eq_true rfl) rfl fun hk=>?_
 replace h:=h hk.1 hk.2.1
 unfold cmp_Compare_int at h
 conv=>whnf
 obtain ⟨c51,hc51,h⟩:=bind_some h
 refine ⟨_,(sp_cmp_isNaN_int x_ c51 (fun _=>hc51)),?_⟩
 conv=>whnf
 obtain ⟨c52,hc52,h⟩:=bind_some h
 refine ⟨_,(sp_cmp_isNaN_int y_ c52 (fun _=>hc52)),?_⟩
 conv=>whnf
 refine Both.mk ?_ ?_<;>intro b53
 replace h:=cond_t b53 h
 conv=>whnf
 refine Both.mk ?_ ?_<;>intro b54
 replace h:=cond_t b54 h
 conv=>whnf
 cases h
 conv=>whnf
 exact ⟨rfl,rfl⟩
 replace h:=cond_f b54 h
 conv=>whnf
 cases h
 conv=>whnf
 exact ⟨rfl,rfl⟩
 replace h:=cond_f b53 h
 conv=>whnf
 refine Both.mk ?_ ?_<;>intro b55
 replace h:=cond_t b55 h
 conv=>whnf
 cases h
 conv=>whnf
 exact ⟨rfl,rfl⟩
 replace h:=cond_f b55 h
 conv=>whnf
 refine Both.mk ?_ ?_<;>intro b56
 obtain ⟨h,b56d⟩:=ctd b56 h
 conv=>whnf
 cases h
 conv=>whnf
 exact ⟨rfl,rfl⟩
 obtain ⟨h,b56d⟩:=cfd b56 h
 conv=>whnf
 refine Both.mk ?_ ?_<;>intro b57
 obtain ⟨h,b57d⟩:=ctd b57 h
 conv=>whnf
 cases h
 conv=>whnf
 exact ⟨rfl,rfl⟩
 obtain ⟨h,b57d⟩:=cfd b57 h
 conv=>whnf
 cases h
 conv=>whnf
 exact ⟨rfl,rfl⟩
theorem sp_slices_Compare_Sint_int (s1_:List Int) (s2_:List Int) (r:Int) (h:Ok (nL cI s1_)→Ok (nL cI s2_)→slices_Compare_Sint_int s1_ s2_=some r):Sp Tryz.prog 110 [.im (nL cI s1_),.im (nL cI s2_)] (.im (nI r)):=by
 refine sp_of rfl [] rfl rfl rfl (Nat.le_of_ble_eq_true rfl) rfl fun hk=>?_
 replace h:=h hk.1 hk.2.1
 have z1:lZ s1_:=ok_len hk.1
 have z2:lZ s2_:=ok_len hk.2.1
 unfold slices_Compare_Sint_int at h
 conv=>whnf
 refine Nf.mk (List.length s1_) len_map ?_
 conv=>whnf
 obtain ⟨oc,hc,hk51⟩:=bind_some h
 clear h
 have h:=hc
 clear hc
 refine Cut.mkS oc (Y:=Unit) (fun (_:Unit)=>mkSt [(0,.im (nL cI s1_)),(1,.im (nL cI s2_))] [] []) (fun (_:Unit)=>lZ s1_∧lZ s2_∧True) (by rintro ⟨⟩;exact ((Holds.avl 0 rfl).and ((Holds.avl 1 rfl).and (hT)))) ?_ ?_
 conv=>whnf
 refine Loops.iter (fun (s:Nat)=>slices_Compare_Sint_int.s2 s1_ s2_ s) (fun y80=>mkSt [(0,.im (nL cI s1_)),(1,.im (nL cI s2_)),(9,.im (nL cI s1_)),(10,.im (nI (↑(List.length s1_):Int))),(11,.im (nI (↑y80:Int)))] [] []) (fun y80=>lZ s1_∧lZ s2_∧True) h (eA []) (by rintro y80;exact ((Holds.avl 0 rfl).and ((Holds.avl 1 rfl).and (hT)))) ?_
 clear h
 rintro k y80 o hp h ho87
 replace h:slices_Compare_Sint_int.s2 s1_ s2_ y80=some o:=h
 unfold slices_Compare_Sint_int.s2 at h
 obtain ⟨z94,z95,_⟩:=hp
 conv=>whnf
 refine Both.mk ?_ ?_<;>intro b88
 obtain ⟨h,b88d⟩:=ctd b88 h
 conv=>whnf
 obtain ⟨e89,he89,h⟩:=idxn_some h
 refine ⟨_,⟨(by omega),map_at he89,rfl⟩,?_⟩
 conv=>whnf
 refine Nf.mk (List.length s2_) len_map ?_
 conv=>whnf
 refine Both.mk ?_ ?_<;>intro b90
 obtain ⟨h,b90d⟩:=ctd b90 h
 conv=>whnf
 cases h
 have ho87:_=_:=ho87
 cases ho87
 replace h:some _=some _:=hk51
 cases h
 conv=>whnf
 exact ⟨rfl,rfl⟩
 obtain ⟨h,b90d⟩:=cfd b90 h
 conv=>whnf
 obtain ⟨e91,he91,h⟩:=idxn_some h
 refine ⟨_,⟨(by omega),map_at he91,rfl⟩,?_⟩
 conv=>whnf
 obtain ⟨c92,hc92,h⟩:=bind_some h
 refine ⟨_,(sp_cmp_Compare_int e89 e91 c92 (fun _ _=>hc92)),?_⟩
 conv=>whnf
 refine Both.mk ?_ ?_<;>intro b93
 obtain ⟨h,b93d⟩:=ctd b93 h
 conv=>whnf
 cases h
 have ho87:_=_:=ho87
 cases ho87
 replace h:some _=some _:=hk51
 cases h
 conv=>whnf
 exact ⟨rfl,rfl⟩
 obtain ⟨h,b93d⟩:=cfd b93 h
 conv=>whnf
 refine Arith.mk (by show inR _;unfold inR;omega) ?_
 conv=>whnf
 cases h
 exact Nxt.mk _ ho87 (eA [])
 obtain ⟨h,b88d⟩:=cfd b88 h
 conv=>whnf
 cases h
 have ho87:_=_:=ho87
 cases ho87
 exact JoinS.mk' _ rfl (eA [])
 rintro ⟨⟩ rfl hp
 replace h:=sum_inl hk51
 obtain ⟨z96,z97,_⟩:=hp
 conv=>whnf
 refine Nf.mk (List.length s1_) len_map ?_
 conv=>whnf
 refine Nf.mk (List.length s2_) len_map ?_
 conv=>whnf
 refine Both.mk ?_ ?_<;>intro b98
 obtain ⟨h,b98d⟩:=ctd b98 h
 conv=>whnf
 cases h
 conv=>whnf
 exact ⟨rfl,rfl⟩
 obtain ⟨h,b98d⟩:=cfd b98 h
 conv=>whnf
 cases h
 conv=>whnf
 exact ⟨rfl,rfl⟩
theorem sp_cmp_Or_int (vals_:List Int) (r:Int) (h:Ok (nL cI vals_)→cmp_Or_int vals_=some r):Sp Tryz.prog 121 [.im (nL cI vals_)] (.im (nI r)):=by
 refine sp_of rfl [] rfl rfl rfl (Nat.le_of_ble_eq_true rfl) rfl fun hk=>?_
 replace h:=h hk.1
 have z1:lZ vals_:=ok_len hk.1
 unfold cmp_Or_int at h
 conv=>whnf
 refine Nf.mk (List.length vals_) len_map ?_
 conv=>whnf
 obtain ⟨oc,hc,hk51⟩:=bind_some h
 clear h
 have h:=hc
 clear hc
 refine Cut.mkS oc (Y:=Unit) (fun (_:Unit)=>mkSt [(3,.im (nI 0))] [] []) (fun (_:Unit)=>True) (by rintro ⟨⟩;exact (hT)) ?_ ?_
 conv=>whnf
 refine Loops.iter (fun (s:Nat)=>cmp_Or_int.s2 vals_ s) (fun y67=>mkSt [(3,.im (nI 0)),(6,.im (nL cI vals_)),(7,.im (nI (↑(List.length vals_):Int))),(8,.im (nI (↑y67:Int)))] [] []) (fun y67=>lZ vals_∧True) h (eA []) (by rintro y67;exact ((Holds.avl 6 rfl).and (hT))) ?_
 clear h
 rintro k y67 o hp h ho71
 replace h:cmp_Or_int.s2 vals_ y67=some o:=h
 unfold cmp_Or_int.s2 at h
 obtain ⟨z75,_⟩:=hp
 conv=>whnf
 refine Both.mk ?_ ?_<;>intro b72
 obtain ⟨h,b72d⟩:=ctd b72 h
 conv=>whnf
 obtain ⟨e73,he73,h⟩:=idxn_some h
 refine ⟨_,⟨(by omega),map_at he73,rfl⟩,?_⟩
 conv=>whnf
 refine Both.mk ?_ ?_<;>intro b74
 obtain ⟨h,b74d⟩:=ctd b74 h
 conv=>whnf
 cases h
 have ho71:_=_:=ho71
 cases ho71
 replace h:some _=some _:=hk51
 cases h
 conv=>whnf
 exact ⟨rfl,rfl⟩
 obtain ⟨h,b74d⟩:=cfd b74 h
 conv=>whnf
 refine Arith.mk (by show inR _;unfold inR;omega) ?_
 conv=>whnf
 cases h
 exact Nxt.mk _ ho71 (eA [])
 obtain ⟨h,b72d⟩:=cfd b72 h
 conv=>whnf
 cases h
 have ho71:_=_:=ho71
 cases ho71
 exact JoinS.mk' _ rfl (eA [])
 rintro ⟨⟩ rfl hp
 replace h:=sum_inl hk51
 conv=>whnf
 cases h
 conv=>whnf
 exact ⟨rfl,rfl⟩
theorem sp_word_Compare (a_:List Int) (b_:List Int) (r:Int) (h:Ok (nL cI a_)→Ok (nL cI b_)→word_Compare a_ b_=some r):Sp Tryz.prog 111 [.im (nL cI a_),.im (nL cI b_)] (.im (nI r)):=by
 refine sp_of rfl [] rfl rfl rfl (Nat.le_of_ble_eq_true rfl) rfl fun hk=>?_
 replace h:=h hk.1 hk.2.1
 have z1:lZ a_:=ok_len hk.1
 have z2:lZ b_:=ok_len hk.2.1
 unfold word_Compare at h
 conv=>whnf
 refine Nf.mk (List.length a_) len_map ?_
 conv=>whnf
 refine Nf.mk (List.length b_) len_map ?_
 conv=>whnf
 obtain ⟨c51,hc51,h⟩:=bind_some h
 refine ⟨_,(sp_cmp_Compare_int (↑(List.length a_):Int) (↑(List.length b_):Int) c51 (fun _ _=>hc51)),?_⟩
 conv=>whnf
 obtain ⟨c52,hc52,h⟩:=bind_some h
 refine ⟨_,(sp_slices_Compare_Sint_int a_ b_ c52 (fun _ _=>hc52)),?_⟩
 conv=>whnf
 obtain ⟨c53,hc53,h⟩:=bind_some h
 refine ⟨_,(sp_cmp_Or_int [c51,c52] c53 (fun _=>hc53)),?_⟩
 conv=>whnf
 cases h
 conv=>whnf
 exact ⟨rfl,rfl⟩
theorem sp_observe_order (a_:T_api_Trace) (b_:T_api_Trace) (r:Int) (h:Ok (.agg (c_api_Trace a_))→Ok (.agg (c_api_Trace b_))→observe_order a_ b_=some r):Sp Tryz.prog 103 [.im (.agg (c_api_Trace a_)),.im (.agg (c_api_Trace b_))] (.im (nI r)):=by
 refine sp_of rfl [700002,700003] rfl rfl rfl (Nat.le_of_ble_eq_true rfl) rfl fun hk=>?_
 replace h:=h hk.1 hk.2.1
 have z1:lZ a_.In:=ok_len (Ok.agg_at hk.1 0 rfl)
 have z2:lZ a_.Out:=ok_len (Ok.agg_at hk.1 1 rfl)
 have z3:lZ b_.In:=ok_len (Ok.agg_at hk.2.1 0 rfl)
 have z4:lZ b_.Out:=ok_len (Ok.agg_at hk.2.1 1 rfl)
 unfold observe_order at h
 conv=>whnf
 obtain ⟨c51,hc51,h⟩:=bind_some h
 refine ⟨_,(sp_word_Compare a_.In b_.In c51 (fun _ _=>hc51)),?_⟩
 conv=>whnf
 cases h
 conv=>whnf
 exact ⟨rfl,rfl⟩
theorem sp_observe_add (l_:List T_api_Trace) (t_:T_api_Trace) (r:List T_api_Trace×Int) (h:OkL (List.map c_api_Trace l_)→Ok (.agg (c_api_Trace t_))→observe_add l_ t_=some r):Sp Tryz.prog 85 [.row 72 2 (List.map c_api_Trace l_),.im (.agg (c_api_Trace t_))] (.mk true [.ow (.row 72 2 (List.map c_api_Trace r.1)),.im (nI r.2)] []):=by
 refine sp_of rfl [54,41000,56000,56002,500047,700003] rfl rfl rfl (Nat.le_of_ble_eq_true rfl) rfl fun hk=>?_
 replace h:=h hk.1 hk.2.1
 have z1:lZ l_:=okl_len hk.1
 have z2:lZ t_.In:=ok_len (Ok.agg_at hk.2.1 0 rfl)
 have z3:lZ t_.Out:=ok_len (Ok.agg_at hk.2.1 1 rfl)
 unfold observe_add at h
 conv=>whnf
 refine Side.mk rfl ?_
 conv=>whnf
 refine Nf.mk (List.length l_) len_map ?_
 conv=>whnf
 obtain ⟨oc,hc,hk51⟩:=bind_some h
 clear h
 have h:=hc
 clear hc
 refine Cut.mkS oc (Y:=Bool) (fun inside73=>mkSt [(0,.osl 64 1),(3,.im (.ref (c_api_Trace t_))),(6,.im (nB inside73))] [(64,.row 72 2 (List.map c_api_Trace l_))] []) (fun inside73=>lZ l_∧True) (by rintro inside73;exact ((Holds.kdl 64 rfl).and (hT))) ?_ ?_
 conv=>whnf
 refine Loops.iter (fun (s:Bool×Nat)=>observe_add.s2 l_ t_ s.1 s.2) (fun (inside79,y80)=>mkSt [(0,.osl 64 1),(3,.im (.ref (c_api_Trace t_))),(6,.im (nB inside79)),(11,.osl 64 1),(12,.im (nI (↑(List.length l_):Int))),(13,.im (nI (↑y80:Int)))] [(64,.row 72 2 (List.map c_api_Trace l_))] []) (fun (inside79,y80)=>lZ l_∧True) h (eA [(64,some 0)]) (by rintro ⟨inside79,y80⟩;exact ((Holds.kdl 64 rfl).and (hT))) ?_
 clear h
 rintro k ⟨inside79,y80⟩ o hp h ho87
 replace h:observe_add.s2 l_ t_ inside79 y80=some o:=h
 unfold observe_add.s2 at h
 obtain ⟨z94,_⟩:=hp
 conv=>whnf
 refine Both.mk ?_ ?_<;>intro b88
 obtain ⟨h,b88d⟩:=ctd b88 h
 conv=>whnf
 obtain ⟨e89,he89,h⟩:=idxn_some h
 refine Side.mk ⟨(by omega),rfl,map_lt he89⟩ ?_
 conv=>whnf
 refine ⟨_,⟨rfl,map_at he89,of_decide_eq_true rfl,rfl⟩,?_⟩
 conv=>whnf
 refine Side.mk rfl ?_
 conv=>whnf
 refine Side.mk rfl ?_
 conv=>whnf
 obtain ⟨c90,hc90,h⟩:=bind_some h
 refine ⟨_,(sp_observe_differ e89 t_ c90 (fun _ _=>hc90)),?_⟩
 conv=>whnf
 refine Both.mk ?_ ?_<;>intro b91
 obtain ⟨h,b91d⟩:=ctd b91 h
 conv=>whnf
 cases h
 have ho87:_=_:=ho87
 cases ho87
 replace h:some _=some _:=hk51
 cases h
 conv=>whnf
 exact ⟨rfl,rfl⟩
 obtain ⟨h,b91d⟩:=cfd b91 h
 conv=>whnf
 refine Both.mk ?_ ?_<;>intro b92
 replace b92:=beq_ff b92
 replace h:=cond_f b92 h
 conv=>whnf
 refine Side.mk rfl ?_
 conv=>whnf
 refine Both.yes (ff_beq b92) ?_
 conv=>whnf
 refine Side.mk rfl ?_
 conv=>whnf
 iterate 3 (refine Both.yes (ff_beq b92) ?_;(conv=>whnf))
 obtain ⟨c93,hc93,h⟩:=bind_some h
 refine ⟨_,(sp_word_HasPrefix e89.In t_.In c93 (fun _ _=>hc93)),?_⟩
 conv=>whnf
 refine Both.no b92 ?_
 conv=>whnf
 refine Arith.mk (by show inR _;unfold inR;omega) ?_
 conv=>whnf
 cases h
 exact Nxt.mk _ ho87 (eA [(64,some 64)])
 replace b92:=beq_ft b92
 replace h:=cond_t b92 h
 conv=>whnf
 iterate 4 (refine Both.no (tf_beq b92) ?_;(conv=>whnf))
 refine Both.yes b92 ?_
 conv=>whnf
 refine Arith.mk (by show inR _;unfold inR;omega) ?_
 conv=>whnf
 cases h
 exact Nxt.mk _ ho87 (eA [(64,some 64)])
 obtain ⟨h,b88d⟩:=cfd b88 h
 conv=>whnf
 cases h
 have ho87:_=_:=ho87
 cases ho87
 exact JoinS.mk' _ rfl (eA [(64,some 64)])
 rintro inside73 rfl hp
 replace h:=sum_inl hk51
 obtain ⟨z95,_⟩:=hp
 conv=>whnf
 obtain ⟨y99,hc,hk97⟩:=bind_some h
 clear h
 have h:=hc
 clear hc
 refine Cut.mk (mkSt [(0,.osl 64 1),(3,.im (.ref (c_api_Trace t_))),(36,.im (nB y99))] [(64,.row 72 2 (List.map c_api_Trace l_))] []) (lZ l_∧True) ((Holds.kdl 64 rfl).and (hT)) ?_ (fun hp=>?_)
 conv=>whnf
 refine Both.mk ?_ ?_<;>intro b100
 replace b100:=beq_ff b100
 replace h:=cond_f b100 h
 conv=>whnf
 iterate 2 (refine Both.yes (ff_beq b100) ?_;(conv=>whnf))
 refine Nf.mk (List.length t_.In) len_map ?_
 conv=>whnf
 refine Both.yes (ff_beq b100) ?_
 conv=>whnf
 refine Both.no b100 ?_
 conv=>whnf
 cases h
 exact Join.mk (eA [(64,some 64)])
 replace b100:=beq_ft b100
 replace h:=cond_t b100 h
 conv=>whnf
 iterate 3 (refine Both.no (tf_beq b100) ?_;(conv=>whnf))
 refine Both.yes b100 ?_
 conv=>whnf
 cases h
 exact Join.mk (eA [(64,some 64)])
 replace h:=hk97
 obtain ⟨z101,_⟩:=hp
 conv=>whnf
 refine Both.mk ?_ ?_<;>intro b102
 replace h:=cond_t b102 h
 conv=>whnf
 cases h
 conv=>whnf
 exact Side.mk ⟨rfl,trivial⟩ ⟨rfl,rfl⟩
 replace h:=cond_f b102 h
 conv=>whnf
 refine Side.mk ⟨rfl,trivial⟩ ?_
 conv=>whnf
 obtain ⟨c103,hc103,h⟩:=bind_some h
 refine ⟨_,(sp_slices_DeleteFunc_Sapi_Trace_api_Trace_n1 l_ (fun u0=>observe_add_1 u0 t_) 101 (.ref (c_api_Trace t_)) rfl (fun u0 r h=>(sp_observe_add_1 u0 t_ r (fun _ _=>h))) c103 (fun _ _=>hc103)),?_⟩
 conv=>whnf
 refine Side.mk rfl ?_
 conv=>whnf
 refine Nf.mk (List.length c103) len_map ?_
 conv=>whnf
 refine Both.mk ?_ ?_<;>intro b104
 obtain ⟨h,b104d⟩:=ctd b104 h
 conv=>whnf
 cases h
 conv=>whnf
 exact ⟨rfl,rfl⟩
 obtain ⟨h,b104d⟩:=cfd b104 h
 conv=>whnf
 refine Side.mk ⟨rfl,trivial⟩ ?_
 conv=>whnf
 obtain ⟨c105,hc105,h⟩:=bind_some h
 refine ⟨_,(sp_slices_BinarySearchFunc_Sapi_Trace_api_Trace_api_Trace c103 t_ (fun u0 u1=>observe_order u0 u1) 103 (fun u0 u1 r h=>(sp_observe_order u0 u1 r (fun _ _=>h))) c105 (fun _ _ _=>hc105)),?_⟩
 conv=>whnf
 refine Side.mk (by simp [flatRs,flatOc]) ?_
 conv=>whnf
 obtain ⟨c106,hc106,h⟩:=bind_some h
 refine ⟨_,(sp_observe_copied t_ c106 (fun _=>hc106)),?_⟩
 conv=>whnf
 refine Side.mk ⟨rfl,rfl,trivial⟩ ?_
 conv=>whnf
 obtain ⟨c107,hc107,h⟩:=bind_some h
 refine ⟨_,(sp_lib_Insert_traces c103 c105.1 [c106] c107 (hc107)),?_⟩
 conv=>whnf
 cases h
 conv=>whnf
 exact Side.mk ⟨rfl,trivial⟩ ⟨rfl,rfl⟩
theorem sp_observe_proper_1 (o_:Int) (r:Bool) (h:Ok (nI o_)→observe_proper_1 o_=some r):Sp Tryz.prog 98 [.im (nI o_)] (.im (nB r)):=by
 refine sp_of rfl [] rfl rfl rfl (Nat.le_of_ble_eq_true rfl) rfl fun hk=>?_
 replace h:=h hk.1
 unfold observe_proper_1 at h
 conv=>whnf
 obtain ⟨y54,hc,hk52⟩:=bind_some h
 clear h
 have h:=hc
 clear hc
 refine Cut.mk (mkSt [(2,.im (nB y54))] [] []) (True) (hT) ?_ (fun hp=>?_)
 conv=>whnf
 refine Both.mk ?_ ?_<;>intro b55
 replace b55:=beq_ff b55
 obtain ⟨h,b55d⟩:=cfd b55 h
 conv=>whnf
 refine Both.yes (ff_beq b55) ?_
 conv=>whnf
 refine Both.no b55 ?_
 conv=>whnf
 cases h
 exact Join.mk (eA [])
 replace b55:=beq_ft b55
 obtain ⟨h,b55d⟩:=ctd b55 h
 conv=>whnf
 refine Both.no (tf_beq b55) ?_
 conv=>whnf
 refine Both.yes b55 ?_
 conv=>whnf
 cases h
 exact Join.mk (eA [])
 replace h:=hk52
 conv=>whnf
 cases h
 conv=>whnf
 exact ⟨rfl,rfl⟩
theorem sp_observe_proper (t_:T_api_Trace) (inputs_:Int) (r:Int) (h:Ok (.agg (c_api_Trace t_))→Ok (nI inputs_)→observe_proper t_ inputs_=some r):Sp Tryz.prog 84 [.im (.agg (c_api_Trace t_)),.im (nI inputs_)] (.im (nI r)):=by
 refine sp_of rfl [700002] rfl rfl rfl (Nat.le_of_ble_eq_true rfl) rfl fun hk=>?_
 replace h:=h hk.1 hk.2.1
 have z1:lZ t_.In:=ok_len (Ok.agg_at hk.1 0 rfl)
 have z2:lZ t_.Out:=ok_len (Ok.agg_at hk.1 1 rfl)
 unfold observe_proper at h
 conv=>whnf
 obtain ⟨c51,hc51,h⟩:=bind_some h
 refine ⟨_,(sp_word_Check t_.In inputs_ c51 (fun _ _=>hc51)),?_⟩
 conv=>whnf
 refine Both.mk ?_ ?_<;>intro b52
 obtain ⟨h,b52d⟩:=ctd b52 h
 conv=>whnf
 cases h
 conv=>whnf
 exact ⟨rfl,rfl⟩
 obtain ⟨h,b52d⟩:=cfd b52 h
 conv=>whnf
 refine Nf.mk (List.length t_.Out) len_map ?_
 conv=>whnf
 refine Nf.mk (List.length t_.In) len_map ?_
 conv=>whnf
 refine Both.mk ?_ ?_<;>intro b53
 obtain ⟨h,b53d⟩:=ctd b53 h
 conv=>whnf
 cases h
 conv=>whnf
 exact ⟨rfl,rfl⟩
 obtain ⟨h,b53d⟩:=cfd b53 h
 conv=>whnf
 obtain ⟨c54,hc54,h⟩:=bind_some h
 refine ⟨_,(sp_slices_ContainsFunc_Sint_int t_.Out (fun u0=>observe_proper_1 u0) 98 (fun u0 r h=>(sp_observe_proper_1 u0 r (fun _=>h))) c54 (fun _ _=>hc54)),?_⟩
 conv=>whnf
 refine Both.mk ?_ ?_<;>intro b55
 replace h:=cond_t b55 h
 conv=>whnf
 cases h
 conv=>whnf
 exact ⟨rfl,rfl⟩
 replace h:=cond_f b55 h
 conv=>whnf
 cases h
 conv=>whnf
 exact ⟨rfl,rfl⟩
theorem sp_observe_all (o_:T_api_Obs) (l_:List T_api_Trace) (r:T_api_Obs×Int) (h:Ok (.agg (c_api_Obs o_))→Ok (nL c_api_Trace l_)→observe_all o_ l_=some r):Sp Tryz.prog 57 [.im (.agg (c_api_Obs o_)),.im (nL c_api_Trace l_)] (.tup [.agg (c_api_Obs r.1),nI r.2]):=by
 refine sp_of rfl [33000,700002] rfl rfl rfl (Nat.le_of_ble_eq_true rfl) rfl fun hk=>?_
 replace h:=h hk.1 hk.2.1
 have z1:lZ o_.Traces:=ok_len (Ok.agg_at hk.1 1 rfl)
 have z2:lZ l_:=ok_len hk.2.1
 unfold observe_all at h
 conv=>whnf
 obtain ⟨c51,hc51,h⟩:=bind_some h
 refine ⟨_,(sp_observe_owned o_.Traces c51 (fun _=>hc51)),?_⟩
 conv=>whnf
 refine Nf.mk (List.length l_) len_map ?_
 conv=>whnf
 obtain ⟨oc,hc,hk52⟩:=bind_some h
 clear h
 have h:=hc
 clear hc
 refine Cut.mkS oc (Y:=List T_api_Trace) (fun y76=>mkSt [(2,.im (.ref (c_api_Obs o_))),(4,.own 64 1 0),(6,.osl 65 1)] [(64,.box 35 2),(65,.row 72 2 (List.map c_api_Trace y76))] [(64,0,.im (nI 0)),(64,1,.im (.val (.slice none 0 0)))]) (fun y76=>lZ y76∧True) (by rintro y76;exact ((Holds.kdl 65 rfl).and (hT))) ?_ ?_
 conv=>whnf
 refine Loops.iter (fun (s:List T_api_Trace×Nat)=>observe_all.s2 o_ l_ s.1 s.2) (fun (y83,y84)=>mkSt [(2,.im (.ref (c_api_Obs o_))),(4,.own 64 1 0),(6,.osl 65 1),(15,.im (nL c_api_Trace l_)),(16,.im (nI (↑(List.length l_):Int))),(17,.im (nI (↑y84:Int)))] [(64,.box 35 2),(65,.row 72 2 (List.map c_api_Trace y83))] [(64,0,.im (nI 0)),(64,1,.im (.val (.slice none 0 0)))]) (fun (y83,y84)=>lZ l_∧lZ y83∧True) h (eA [(64,some 4),(65,some 14)]) (by rintro ⟨y83,y84⟩;exact ((Holds.avl 15 rfl).and ((Holds.kdl 65 rfl).and (hT)))) ?_
 clear h
 rintro k ⟨y83,y84⟩ o hp h ho91
 replace h:observe_all.s2 o_ l_ y83 y84=some o:=h
 unfold observe_all.s2 at h
 obtain ⟨z98,z99,_⟩:=hp
 conv=>whnf
 refine Both.mk ?_ ?_<;>intro b92
 obtain ⟨h,b92d⟩:=ctd b92 h
 conv=>whnf
 obtain ⟨e93,he93,h⟩:=idxn_some h
 refine ⟨_,⟨(by omega),map_at he93,rfl⟩,?_⟩
 conv=>whnf
 refine Side.mk rfl ?_
 conv=>whnf
 refine Side.mk rfl ?_
 conv=>whnf
 obtain ⟨c94,hc94,h⟩:=bind_some h
 refine ⟨_,(sp_observe_proper e93 o_.Inputs c94 (fun _ _=>hc94)),?_⟩
 conv=>whnf
 refine Both.mk ?_ ?_<;>intro b95
 obtain ⟨h,b95d⟩:=ctd b95 h
 conv=>whnf
 refine Side.mk rfl ?_
 conv=>whnf
 cases h
 have ho91:_=_:=ho91
 cases ho91
 replace h:some _=some _:=hk52
 cases h
 conv=>whnf
 refine Side.mk ⟨rfl,trivial⟩ ?_
 conv=>whnf
 exact ⟨rfl,rfl⟩
 obtain ⟨h,b95d⟩:=cfd b95 h
 conv=>whnf
 refine Side.mk rfl ?_
 conv=>whnf
 refine Side.mk ⟨rfl,trivial⟩ ?_
 conv=>whnf
 obtain ⟨c96,hc96,h⟩:=bind_some h
 refine ⟨_,(sp_observe_add y83 e93 c96 (fun _ _=>hc96)),?_⟩
 conv=>whnf
 refine Both.mk ?_ ?_<;>intro b97
 obtain ⟨h,b97d⟩:=ctd b97 h
 conv=>whnf
 refine Side.mk rfl ?_
 conv=>whnf
 cases h
 have ho91:_=_:=ho91
 cases ho91
 replace h:some _=some _:=hk52
 cases h
 conv=>whnf
 refine Side.mk ⟨rfl,trivial⟩ ?_
 conv=>whnf
 exact ⟨rfl,rfl⟩
 obtain ⟨h,b97d⟩:=cfd b97 h
 conv=>whnf
 refine Arith.mk (by show inR _;unfold inR;omega) ?_
 conv=>whnf
 cases h
 exact Nxt.mk _ ho91 (eA [(64,some 64),(65,some 3228)])
 obtain ⟨h,b92d⟩:=cfd b92 h
 conv=>whnf
 cases h
 have ho91:_=_:=ho91
 cases ho91
 exact JoinS.mk' _ rfl (eA [(64,some 64),(65,some 65)])
 rintro y76 rfl hp
 replace h:=sum_inl hk52
 obtain ⟨z100,_⟩:=hp
 conv=>whnf
 refine Side.mk rfl ?_
 conv=>whnf
 cases h
 conv=>whnf
 refine Side.mk ⟨rfl,trivial⟩ ?_
 conv=>whnf
 exact Side.mk ⟨rfl,trivial⟩ ⟨rfl,rfl⟩
theorem sp_observe_Add (o_:T_api_Obs) (t_:T_api_Trace) (r:T_api_Obs×Int) (h:Ok (.agg (c_api_Obs o_))→Ok (.agg (c_api_Trace t_))→observe_Add o_ t_=some r):Sp Tryz.prog 26 [.im (.agg (c_api_Obs o_)),.im (.agg (c_api_Trace t_))] (.tup [.agg (c_api_Obs r.1),nI r.2]):=by
 refine sp_of rfl [700002,700003] rfl rfl rfl (Nat.le_of_ble_eq_true rfl) rfl fun hk=>?_
 replace h:=h hk.1 hk.2.1
 have z1:lZ o_.Traces:=ok_len (Ok.agg_at hk.1 1 rfl)
 have z2:lZ t_.In:=ok_len (Ok.agg_at hk.2.1 0 rfl)
 have z3:lZ t_.Out:=ok_len (Ok.agg_at hk.2.1 1 rfl)
 unfold observe_Add at h
 conv=>whnf
 obtain ⟨c51,hc51,h⟩:=bind_some h
 refine ⟨_,(sp_observe_all o_ [t_] c51 (fun _ _=>hc51)),?_⟩
 conv=>whnf
 refine Side.mk rfl ?_
 conv=>whnf
 cases h
 conv=>whnf
 refine Side.mk ⟨rfl,trivial⟩ ?_
 conv=>whnf
 exact ⟨rfl,rfl⟩
theorem sp_nondet_Vote_L (l_:List (List Int)) (need_:Int) (r:List Int×Int×List (List Int)) (h:OkL (List.map (cL cI) l_)→Ok (nI need_)→nondet_Vote_L l_ need_=some r):Sp Tryz.prog 25 [.lent (.row 25 1 (List.map (cL cI) l_)),.im (nI need_)] (.mk true [.im (nL cI r.1),.im (nI r.2.1)] [.lent (.row 25 1 (List.map (cL cI) r.2.2))]):=by
 refine sp_of rfl [] rfl rfl rfl (Nat.le_of_ble_eq_true rfl) rfl fun hk=>?_
 replace h:=h hk.1 hk.2.1
 have z1:lZ l_:=okl_len hk.1
 unfold nondet_Vote_L at h
 conv=>whnf
 obtain ⟨y54,hc,hk52⟩:=bind_some h
 clear h
 have h:=hc
 clear hc
 refine Cut.mk (mkSt [(0,.osl 0 0),(1,.im (nI need_)),(15,.im (nB y54))] [(0,.row 25 1 (List.map (cL cI) l_))] []) (lZ l_∧True) ((Holds.kdl 0 rfl).and (hT)) ?_ (fun hp=>?_)
 conv=>whnf
 refine Both.mk ?_ ?_<;>intro b55
 replace b55:=beq_ff b55
 obtain ⟨h,b55d⟩:=cfd b55 h
 conv=>whnf
 refine Both.yes (ff_beq b55) ?_
 conv=>whnf
 refine Both.no b55 ?_
 conv=>whnf
 cases h
 exact Join.mk (eA [(0,some 0)])
 replace b55:=beq_ft b55
 obtain ⟨h,b55d⟩:=ctd b55 h
 conv=>whnf
 refine Both.no (tf_beq b55) ?_
 conv=>whnf
 refine Both.yes b55 ?_
 conv=>whnf
 cases h
 exact Join.mk (eA [(0,some 0)])
 replace h:=hk52
 obtain ⟨z56,_⟩:=hp
 conv=>whnf
 refine Both.mk ?_ ?_<;>intro b57
 replace h:=cond_t b57 h
 conv=>whnf
 cases h
 conv=>whnf
 exact Side.mk ⟨rfl,trivial⟩ ⟨rfl,rfl⟩
 replace h:=cond_f b57 h
 conv=>whnf
 refine Side.mk rfl ?_
 conv=>whnf
 refine Nf.mk (List.length l_) len_map ?_
 conv=>whnf
 obtain ⟨oc,hc,hk58⟩:=bind_some h
 clear h
 have h:=hc
 clear hc
 refine Cut.mkS oc (Y:=Unit) (fun (_:Unit)=>mkSt [(0,.osl 0 0)] [(0,.row 25 1 (List.map (cL cI) l_))] []) (fun (_:Unit)=>lZ l_∧True) (by rintro ⟨⟩;exact ((Holds.kdl 0 rfl).and (hT))) ?_ ?_
 conv=>whnf
 refine Loops.iter (fun (s:(List (ByteArray×Int))×Nat)=>nondet_Vote_L.s2 l_ need_ s.1 s.2) (fun (y87,y88)=>mkSt [(0,.osl 0 0),(1,.im (nI need_)),(6,.osl 65 1),(17,.osl 0 0),(18,.im (nI (↑(List.length l_):Int))),(19,.im (nI (↑y88:Int)))] [(0,.row 25 1 (List.map (cL cI) l_)),(65,.map (mapV wS wI y87))] []) (fun (y87,y88)=>lZ l_∧True) h (eA [(0,some 0),(65,some 16)]) (by rintro ⟨y87,y88⟩;exact ((Holds.kdl 0 rfl).and (hT))) ?_
 clear h
 rintro k ⟨y87,y88⟩ o hp h ho95
 replace h:nondet_Vote_L.s2 l_ need_ y87 y88=some o:=h
 unfold nondet_Vote_L.s2 at h
 obtain ⟨z102,_⟩:=hp
 conv=>whnf
 refine Both.mk ?_ ?_<;>intro b96
 obtain ⟨h,b96d⟩:=ctd b96 h
 conv=>whnf
 obtain ⟨e97,he97,h⟩:=idxn_some h
 refine Side.mk ⟨(by omega),rfl,map_lt he97⟩ ?_
 conv=>whnf
 refine ⟨_,_,⟨rfl,map_at he97,rfl,rfl⟩,?_⟩
 conv=>whnf
 obtain ⟨c98,hc98,h⟩:=bind_some h
 refine ⟨_,(sp_nondet_key e97 c98 (hc98)),?_⟩
 conv=>whnf
 refine Side.mk rfl ?_
 conv=>whnf
 refine ⟨_,find_str _ wI _,?_⟩
 conv=>whnf
 refine Nf.mk (wI ((mget c98 y87).getD 0)) (getD_map rfl _) ?_
 conv=>whnf
 obtain ⟨c99,h⟩:=chk_some h
 refine Arith.mk c99 ?_
 conv=>whnf
 refine Side.mk rfl ?_
 conv=>whnf
 refine ⟨_,set_str _ (((mget c98 y87).getD 0)+1) wI _,?_⟩
 conv=>whnf
 refine Side.mk rfl ?_
 conv=>whnf
 refine ⟨_,find_str _ wI _,?_⟩
 conv=>whnf
 refine Nf.mk (wI ((mget c98 (mset c98 (((mget c98 y87).getD 0)+1) y87)).getD 0)) (getD_map rfl _) ?_
 conv=>whnf
 refine Both.mk ?_ ?_<;>intro b100
 obtain ⟨h,b100d⟩:=ctd b100 h
 conv=>whnf
 obtain ⟨c101,hc101,h⟩:=bind_some h
 refine ⟨_,(sp_lib_Clone_int e97 c101 (hc101)).im,?_⟩
 conv=>whnf
 cases h
 have ho95:_=_:=ho95
 cases ho95
 replace h:some _=some _:=hk58
 cases h
 conv=>whnf
 exact Side.mk ⟨rfl,trivial⟩ ⟨rfl,rfl⟩
 obtain ⟨h,b100d⟩:=cfd b100 h
 conv=>whnf
 refine Arith.mk (by show inR _;unfold inR;omega) ?_
 conv=>whnf
 cases h
 exact Nxt.mk _ ho95 (eA [(0,some 0),(65,some 65)])
 obtain ⟨h,b96d⟩:=cfd b96 h
 conv=>whnf
 cases h
 have ho95:_=_:=ho95
 cases ho95
 exact JoinS.mk' _ rfl (eA [(0,some 0)])
 rintro ⟨⟩ rfl hp
 replace h:=sum_inl hk58
 obtain ⟨z103,_⟩:=hp
 conv=>whnf
 cases h
 conv=>whnf
 exact Side.mk ⟨rfl,trivial⟩ ⟨rfl,rfl⟩
theorem sp_oracle_Ask (q_:T_api_Oracle) (w_:List Int) (r:T_api_Oracle×List Int×Int) (h:Ok (.agg (c_api_Oracle q_))→Ok (nL cI w_)→oracle_Ask q_ w_=some r):Sp Tryz.prog 8 [.im (.agg (c_api_Oracle q_)),.im (nL cI w_)] (.tup [.agg (c_api_Oracle r.1),nL cI r.2.1,nI r.2.2]):=by
 refine sp_of rfl [74000,2074000] rfl rfl rfl (Nat.le_of_ble_eq_true rfl) rfl fun hk=>?_
 replace h:=h hk.1 hk.2.1
 have z1:lZ q_.Device.M.Next:=ok_len (Ok.agg_at hk.1 2 rfl)
 have z2:lZ q_.Device.M.Out:=ok_len (Ok.agg_at hk.1 3 rfl)
 have z3:lZ q_.Device.Latency.Step:=ok_len (Ok.agg_at hk.1 6 rfl)
 have z4:lZ q_.Obs.Traces:=ok_len (Ok.agg_at hk.1 16 rfl)
 have z5:lZ w_:=ok_len hk.2.1
 unfold oracle_Ask at h
 conv=>whnf
 refine Side.mk rfl ?_
 conv=>whnf
 refine Side.mk rfl ?_
 conv=>whnf
 refine Side.mk rfl ?_
 conv=>whnf
 refine Side.mk rfl ?_
 conv=>whnf
 obtain ⟨c51,hc51,h⟩:=bind_some h
 refine ⟨_,(sp_word_Check w_ q_.Device.M.Inputs c51 (fun _ _=>hc51)),?_⟩
 conv=>whnf
 refine Both.mk ?_ ?_<;>intro b52
 obtain ⟨h,b52d⟩:=ctd b52 h
 conv=>whnf
 refine Side.mk rfl ?_
 conv=>whnf
 refine Side.mk rfl ?_
 conv=>whnf
 cases h
 conv=>whnf
 refine Side.mk ⟨rfl,trivial⟩ ?_
 conv=>whnf
 exact ⟨rfl,rfl⟩
 obtain ⟨h,b52d⟩:=cfd b52 h
 conv=>whnf
 refine Side.mk rfl ?_
 conv=>whnf
 obtain ⟨c53,hc53,h⟩:=bind_some h
 refine ⟨_,(sp_oracle_copied q_ c53 (fun _=>hc53)),?_⟩
 conv=>whnf
 refine Side.mk rfl ?_
 conv=>whnf
 refine Side.mk rfl ?_
 conv=>whnf
 refine Side.mk rfl ?_
 conv=>whnf
 obtain ⟨c54,hc54,h⟩:=bind_some h
 refine ⟨_,(sp_observe_Answer c53.Obs w_ c54 (fun _ _=>hc54)),?_⟩
 conv=>whnf
 refine Both.mk ?_ ?_<;>intro b55
 replace h:=cond_t b55 h
 conv=>whnf
 refine Side.mk rfl ?_
 conv=>whnf
 refine Side.mk rfl ?_
 conv=>whnf
 refine Arith.wr _ (mdI_eq _) ?_
 conv=>whnf
 refine Side.mk rfl ?_
 conv=>whnf
 refine Side.mk rfl ?_
 conv=>whnf
 refine Side.mk rfl ?_
 conv=>whnf
 obtain ⟨c56,hc56,h⟩:=bind_some h
 refine ⟨_,(sp_lib_Clone_int c54.1 c56 (hc56)).im,?_⟩
 conv=>whnf
 refine Side.mk rfl ?_
 conv=>whnf
 cases h
 conv=>whnf
 refine Side.mk ⟨rfl,trivial⟩ ?_
 conv=>whnf
 exact ⟨rfl,rfl⟩
 replace h:=cond_f b55 h
 conv=>whnf
 refine Side.mk rfl ?_
 conv=>whnf
 refine Side.mk rfl ?_
 conv=>whnf
 obtain ⟨⟨y252,y253,y254,y255,y256,y257,y258,y259,y260,y261,y262,y263,y264,y265,y266,y267,answer268,code269⟩,hc,hk57⟩:=bind_some h
 clear h
 have h:=hc
 clear hc
 refine Cut.mk (mkSt [(1,.im (nL cI w_)),(2,.own 103 1 0),(4,.own 104 1 0),(11,.im (nL cI answer268)),(12,.im (nI code269))] [(103,.box 37 21),(104,.box 37 21)] [(103,0,.im (nI y252)),(103,1,.im (nI y253)),(103,2,.im (nL (cL cI) y254)),(103,3,.im (nL (cL cI) y255)),(103,4,.im (nI y256)),(103,5,.im (nB y257)),(103,6,.im (nL cI y258)),(103,7,.im (nI y259)),(103,8,.im (nI y260)),(103,9,.im (nI y261)),(103,10,.im (nI y262)),(103,11,.im (nU y263)),(103,12,.im (nI y264)),(103,13,.im (nI y265)),(103,14,.im (nI y266)),(103,15,.im (nI c53.Obs.Inputs)),(103,16,.im (nL c_api_Trace c53.Obs.Traces)),(103,17,.im (nI c53.Votes)),(103,18,.im (nI c53.Tries)),(103,19,.im (nI y267)),(103,20,.im (nI c53.Hits)),(104,0,.im (nI 0)),(104,1,.im (nI 0)),(104,2,.im (.val (.slice none 0 0))),(104,3,.im (.val (.slice none 0 0))),(104,4,.im (nI 0)),(104,5,.im (nB false)),(104,6,.im (.val (.slice none 0 0))),(104,7,.im (nI 0)),(104,8,.im (nI 0)),(104,9,.im (nI 0)),(104,10,.im (nI 0)),(104,11,.im (nU 0)),(104,12,.im (nI 0)),(104,13,.im (nI 0)),(104,14,.im (nI 0)),(104,15,.im (nI 0)),(104,16,.im (.val (.slice none 0 0))),(104,17,.im (nI 0)),(104,18,.im (nI 0)),(104,19,.im (nI 0)),(104,20,.im (nI 0))]) (lZ w_∧lZ answer268∧lZ y254∧lZ y255∧lZ y258∧lZ c53.Obs.Traces∧True) ((Holds.avl 1 rfl).and ((Holds.avl 11 rfl).and ((Holds.cel 103 2 rfl (by decide) rfl).and ((Holds.cel 103 3 rfl (by decide) rfl).and ((Holds.cel 103 6 rfl (by decide) rfl).and ((Holds.cel 103 16 rfl (by decide) rfl).and (hT))))))) ?_ (fun hp=>?_)
 conv=>whnf
 refine Loops.iter (fun (s:Int×Int×List (List Int)×List (List Int)×Int×Bool×List Int×Int×Int×Int×Int×Int×Int×Int×Int×Int×List (List Int)×List Int×Int×Int)=>oracle_Ask.s10 w_ c53 s.1 s.2.1 s.2.2.1 s.2.2.2.1 s.2.2.2.2.1 s.2.2.2.2.2.1 s.2.2.2.2.2.2.1 s.2.2.2.2.2.2.2.1 s.2.2.2.2.2.2.2.2.1 s.2.2.2.2.2.2.2.2.2.1 s.2.2.2.2.2.2.2.2.2.2.1 s.2.2.2.2.2.2.2.2.2.2.2.1 s.2.2.2.2.2.2.2.2.2.2.2.2.1 s.2.2.2.2.2.2.2.2.2.2.2.2.2.1 s.2.2.2.2.2.2.2.2.2.2.2.2.2.2.1 s.2.2.2.2.2.2.2.2.2.2.2.2.2.2.2.1 s.2.2.2.2.2.2.2.2.2.2.2.2.2.2.2.2.1 s.2.2.2.2.2.2.2.2.2.2.2.2.2.2.2.2.2.1 s.2.2.2.2.2.2.2.2.2.2.2.2.2.2.2.2.2.2.1 s.2.2.2.2.2.2.2.2.2.2.2.2.2.2.2.2.2.2.2) (fun (y362,y363,y364,y365,y366,y367,y368,y369,y370,y371,y372,y373,y374,y375,y376,y377,y378,answer379,code380,y381)=>mkSt [(1,.im (nL cI w_)),(2,.own 103 1 0),(4,.own 104 1 0),(10,.osl 105 1),(11,.im (nL cI answer379)),(12,.im (nI code380)),(46,.im (nI c53.Tries)),(47,.im (nI y381))] [(103,.box 37 21),(104,.box 37 21),(105,.row 25 1 (List.map (cL cI) y378))] [(103,0,.im (nI y362)),(103,1,.im (nI y363)),(103,2,.im (nL (cL cI) y364)),(103,3,.im (nL (cL cI) y365)),(103,4,.im (nI y366)),(103,5,.im (nB y367)),(103,6,.im (nL cI y368)),(103,7,.im (nI y369)),(103,8,.im (nI y370)),(103,9,.im (nI y371)),(103,10,.im (nI y372)),(103,11,.im (nU y373)),(103,12,.im (nI y374)),(103,13,.im (nI y375)),(103,14,.im (nI y376)),(103,15,.im (nI c53.Obs.Inputs)),(103,16,.im (nL c_api_Trace c53.Obs.Traces)),(103,17,.im (nI c53.Votes)),(103,18,.im (nI c53.Tries)),(103,19,.im (nI y377)),(103,20,.im (nI c53.Hits)),(104,0,.im (nI 0)),(104,1,.im (nI 0)),(104,2,.im (.val (.slice none 0 0))),(104,3,.im (.val (.slice none 0 0))),(104,4,.im (nI 0)),(104,5,.im (nB false)),(104,6,.im (.val (.slice none 0 0))),(104,7,.im (nI 0)),(104,8,.im (nI 0)),(104,9,.im (nI 0)),(104,10,.im (nI 0)),(104,11,.im (nU 0)),(104,12,.im (nI 0)),(104,13,.im (nI 0)),(104,14,.im (nI 0)),(104,15,.im (nI 0)),(104,16,.im (.val (.slice none 0 0))),(104,17,.im (nI 0)),(104,18,.im (nI 0)),(104,19,.im (nI 0)),(104,20,.im (nI 0))]) (fun (y362,y363,y364,y365,y366,y367,y368,y369,y370,y371,y372,y373,y374,y375,y376,y377,y378,answer379,code380,y381)=>lZ w_∧lZ answer379∧lZ y364∧lZ y365∧lZ y368∧lZ c53.Obs.Traces∧lZ y378∧True) h (Ent.mk [(103,some 2),(104,some 4),(105,none)] rfl ⟨eI rfl rfl,⟨.own 2 _ 0,rfl,.own rfl rfl rfl⟩,⟨.own 4 _ 0,rfl,.own rfl rfl rfl⟩,⟨.im (.val (.slice none 0 0)),rfl,.made rfl rfl⟩,⟨.im (.val (.slice none 0 0)),rfl,.im (Sub.nz' rfl)⟩,eI rfl rfl,eI rfl rfl,eI rfl rfl,trivial⟩ ⟨.inl ⟨2,rfl,rfl,trivial⟩,.inl ⟨4,rfl,rfl,trivial⟩,.inr ⟨rfl,rfl,.inl ⟨_,_,rfl,by decide⟩⟩,trivial⟩ ⟨⟨2,.im _,rfl,rfl,.im (Sub.rfl' rfl)⟩,⟨2,.im _,rfl,rfl,.im (Sub.rfl' rfl)⟩,⟨2,.im _,rfl,rfl,.im (Sub.rfl' rfl)⟩,⟨2,.im _,rfl,rfl,.im (Sub.rfl' rfl)⟩,⟨2,.im _,rfl,rfl,.im (Sub.rfl' rfl)⟩,⟨2,.im _,rfl,rfl,.im (Sub.rfl' rfl)⟩,⟨2,.im _,rfl,rfl,.im (Sub.rfl' rfl)⟩,⟨2,.im _,rfl,rfl,.im (Sub.rfl' rfl)⟩,⟨2,.im _,rfl,rfl,.im (Sub.rfl' rfl)⟩,⟨2,.im _,rfl,rfl,.im (Sub.rfl' rfl)⟩,⟨2,.im _,rfl,rfl,.im (Sub.rfl' rfl)⟩,⟨2,.im _,rfl,rfl,.im (Sub.rfl' rfl)⟩,⟨2,.im _,rfl,rfl,.im (Sub.rfl' rfl)⟩,⟨2,.im _,rfl,rfl,.im (Sub.rfl' rfl)⟩,⟨2,.im _,rfl,rfl,.im (Sub.rfl' rfl)⟩,⟨2,.im _,rfl,rfl,.im (Sub.rfl' rfl)⟩,⟨2,.im _,rfl,rfl,.im (Sub.rfl' rfl)⟩,⟨2,.im _,rfl,rfl,.im (Sub.rfl' rfl)⟩,⟨2,.im _,rfl,rfl,.im (Sub.rfl' rfl)⟩,⟨2,.im _,rfl,rfl,.im (Sub.rfl' rfl)⟩,⟨2,.im _,rfl,rfl,.im (Sub.rfl' rfl)⟩,⟨4,.im _,rfl,rfl,.im (Sub.rfl' rfl)⟩,⟨4,.im _,rfl,rfl,.im (Sub.rfl' rfl)⟩,⟨4,.im (.val (.slice none 0 0)),rfl,rfl,.im (Sub.rfl' rfl)⟩,⟨4,.im (.val (.slice none 0 0)),rfl,rfl,.im (Sub.rfl' rfl)⟩,⟨4,.im _,rfl,rfl,.im (Sub.rfl' rfl)⟩,⟨4,.im _,rfl,rfl,.im (Sub.rfl' rfl)⟩,⟨4,.im (.val (.slice none 0 0)),rfl,rfl,.im (Sub.rfl' rfl)⟩,⟨4,.im _,rfl,rfl,.im (Sub.rfl' rfl)⟩,⟨4,.im _,rfl,rfl,.im (Sub.rfl' rfl)⟩,⟨4,.im _,rfl,rfl,.im (Sub.rfl' rfl)⟩,⟨4,.im _,rfl,rfl,.im (Sub.rfl' rfl)⟩,⟨4,.im _,rfl,rfl,.im (Sub.rfl' rfl)⟩,⟨4,.im _,rfl,rfl,.im (Sub.rfl' rfl)⟩,⟨4,.im _,rfl,rfl,.im (Sub.rfl' rfl)⟩,⟨4,.im _,rfl,rfl,.im (Sub.rfl' rfl)⟩,⟨4,.im _,rfl,rfl,.im (Sub.rfl' rfl)⟩,⟨4,.im (.val (.slice none 0 0)),rfl,rfl,.im (Sub.rfl' rfl)⟩,⟨4,.im _,rfl,rfl,.im (Sub.rfl' rfl)⟩,⟨4,.im _,rfl,rfl,.im (Sub.rfl' rfl)⟩,⟨4,.im _,rfl,rfl,.im (Sub.rfl' rfl)⟩,⟨4,.im _,rfl,rfl,.im (Sub.rfl' rfl)⟩,trivial⟩) (by rintro ⟨y362,y363,y364,y365,y366,y367,y368,y369,y370,y371,y372,y373,y374,y375,y376,y377,y378,answer379,code380,y381⟩;exact ((Holds.avl 1 rfl).and ((Holds.avl 11 rfl).and ((Holds.cel 103 2 rfl (by decide) rfl).and ((Holds.cel 103 3 rfl (by decide) rfl).and ((Holds.cel 103 6 rfl (by decide) rfl).and ((Holds.cel 103 16 rfl (by decide) rfl).and ((Holds.kdl 105 rfl).and (hT))))))))) ?_
 clear h
 rintro k ⟨y362,y363,y364,y365,y366,y367,y368,y369,y370,y371,y372,y373,y374,y375,y376,y377,y378,answer379,code380,y381⟩ o hp h ho419
 replace h:oracle_Ask.s10 w_ c53 y362 y363 y364 y365 y366 y367 y368 y369 y370 y371 y372 y373 y374 y375 y376 y377 y378 answer379 code380 y381=some o:=h
 unfold oracle_Ask.s10 at h
 obtain ⟨z457,z458,z459,z460,z461,z462,z463,_⟩:=hp
 conv=>whnf
 refine Both.mk ?_ ?_<;>intro b420
 obtain ⟨h,b420d⟩:=ctd b420 h
 conv=>whnf
 obtain ⟨oc,hc,hk421⟩:=bind_some h
 clear h
 have h:=hc
 clear hc
 refine Cut.mkS oc (Y:=Int×Int×List (List Int)×List (List Int)×Int×Bool×List Int×Int×Int×Int×Int×Int×Int×Int×Int×List (List Int)×List Int×Int) (fun (y427,y428,y429,y430,y431,y432,y433,y434,y435,y436,y437,y438,y439,y440,y441,y442,answer443,code444)=>mkSt [(1,.im (nL cI w_)),(2,.own 103 1 0),(4,.own 104 1 0),(10,.osl 105 1),(11,.im (nL cI answer443)),(12,.im (nI code444)),(46,.im (nI c53.Tries)),(47,.im (nI y381))] [(103,.box 37 21),(104,.box 37 21),(105,.row 25 1 (List.map (cL cI) y442))] [(103,0,.im (nI y427)),(103,1,.im (nI y428)),(103,2,.im (nL (cL cI) y429)),(103,3,.im (nL (cL cI) y430)),(103,4,.im (nI y431)),(103,5,.im (nB y432)),(103,6,.im (nL cI y433)),(103,7,.im (nI y434)),(103,8,.im (nI y435)),(103,9,.im (nI y436)),(103,10,.im (nI y437)),(103,11,.im (nU y438)),(103,12,.im (nI y439)),(103,13,.im (nI y440)),(103,14,.im (nI y441)),(103,15,.im (nI c53.Obs.Inputs)),(103,16,.im (nL c_api_Trace c53.Obs.Traces)),(103,17,.im (nI c53.Votes)),(103,18,.im (nI c53.Tries)),(103,19,.im (nI (mdI (y377+1)))),(103,20,.im (nI c53.Hits)),(104,0,.im (nI 0)),(104,1,.im (nI 0)),(104,2,.im (.val (.slice none 0 0))),(104,3,.im (.val (.slice none 0 0))),(104,4,.im (nI 0)),(104,5,.im (nB false)),(104,6,.im (.val (.slice none 0 0))),(104,7,.im (nI 0)),(104,8,.im (nI 0)),(104,9,.im (nI 0)),(104,10,.im (nI 0)),(104,11,.im (nU 0)),(104,12,.im (nI 0)),(104,13,.im (nI 0)),(104,14,.im (nI 0)),(104,15,.im (nI 0)),(104,16,.im (.val (.slice none 0 0))),(104,17,.im (nI 0)),(104,18,.im (nI 0)),(104,19,.im (nI 0)),(104,20,.im (nI 0))]) (fun (y427,y428,y429,y430,y431,y432,y433,y434,y435,y436,y437,y438,y439,y440,y441,y442,answer443,code444)=>lZ w_∧lZ answer443∧lZ y429∧lZ y430∧lZ y433∧lZ c53.Obs.Traces∧lZ y442∧True) (by rintro ⟨y427,y428,y429,y430,y431,y432,y433,y434,y435,y436,y437,y438,y439,y440,y441,y442,answer443,code444⟩;exact ((Holds.avl 1 rfl).and ((Holds.avl 11 rfl).and ((Holds.cel 103 2 rfl (by decide) rfl).and ((Holds.cel 103 3 rfl (by decide) rfl).and ((Holds.cel 103 6 rfl (by decide) rfl).and ((Holds.cel 103 16 rfl (by decide) rfl).and ((Holds.kdl 105 rfl).and (hT))))))))) ?_ ?_
 conv=>whnf
 refine Side.mk rfl ?_
 conv=>whnf
 refine Side.mk rfl ?_
 conv=>whnf
 obtain ⟨c445,hc445,h⟩:=bind_some h
 refine ⟨_,(sp_device_Query (⟨(⟨y362,y363,y364,y365⟩:T_api_Mealy),y366,y367,(⟨y368,y369⟩:T_api_Latency),(⟨y370,y371,y372⟩:T_api_Faults),y373,y374,y375,y376⟩:T_api_Device) w_ c445 (fun _ _=>hc445)),?_⟩
 conv=>whnf
 refine Side.mk rfl ?_
 conv=>whnf
 refine Side.mk rfl ?_
 conv=>whnf
 refine Side.mk rfl ?_
 conv=>whnf
 refine Side.mk rfl ?_
 conv=>whnf
 refine Side.mk rfl ?_
 conv=>whnf
 refine Side.mk rfl ?_
 conv=>whnf
 refine Arith.wr _ (mdI_eq _) ?_
 conv=>whnf
 refine Side.mk rfl ?_
 conv=>whnf
 refine Side.mk rfl ?_
 conv=>whnf
 refine Both.mk ?_ ?_<;>intro b446
 obtain ⟨h,b446d⟩:=ctd b446 h
 conv=>whnf
 cases h
 exact JoinS.mk' _ rfl (eA [(103,some 103),(104,some 104),(105,some 105)])
 obtain ⟨h,b446d⟩:=cfd b446 h
 conv=>whnf
 obtain ⟨c447,h⟩:=chk_some h
 refine Side.mk ⟨rfl,map_len (l:=[c445.2.1]) (c:=cL cI) fun _=>rfl,show capOk _ 24 by simpa only [List.length_map,List.length_cons,List.length_nil,Nat.zero_add] using c447⟩ ?_
 conv=>whnf
 refine Nf.mk (List.map (cL cI) (y378++[c445.2.1])) (app_map (l:=y378) (m:=[c445.2.1]) (c:=cL cI)) ?_
 conv=>whnf
 refine Side.mk rfl ?_
 conv=>whnf
 refine Side.mk rfl ?_
 conv=>whnf
 refine Side.mk ⟨rfl,trivial⟩ ?_
 conv=>whnf
 obtain ⟨c448,hc448,h⟩:=bind_some h
 refine ⟨_,(sp_nondet_Vote_L (y378++[c445.2.1]) c53.Votes c448 (fun _ _=>hc448)),?_⟩
 conv=>whnf
 refine Both.mk ?_ ?_<;>intro b449
 obtain ⟨h,b449d⟩:=ctd b449 h
 conv=>whnf
 cases h
 replace h:some _=some _:=hk421
 cases h
 have ho419:_=_:=ho419
 cases ho419
 exact Join.mk (eA [(103,some 103),(104,some 104)])
 obtain ⟨h,b449d⟩:=cfd b449 h
 conv=>whnf
 cases h
 exact JoinS.mk' _ rfl (eA [(103,some 103),(104,some 104),(105,some 105)])
 rintro ⟨y427,y428,y429,y430,y431,y432,y433,y434,y435,y436,y437,y438,y439,y440,y441,y442,answer443,code444⟩ rfl hp
 have hx_:=sum_inl hk421
 replace h:oracle_Ask.k9 y377 y381 y427 y428 y429 y430 y431 y432 y433 y434 y435 y436 y437 y438 y439 y440 y441 y442 answer443 code444=some _:=hx_
 clear hx_
 unfold oracle_Ask.k9 at h
 obtain ⟨z450,z451,z452,z453,z454,z455,z456,_⟩:=hp
 conv=>whnf
 refine Arith.wr _ (mdI_eq _) ?_
 conv=>whnf
 cases h
 exact Nxt.mk _ ho419 (eA [(103,some 103),(104,some 104),(105,some 105)])
 obtain ⟨h,b420d⟩:=cfd b420 h
 conv=>whnf
 cases h
 have ho419:_=_:=ho419
 cases ho419
 exact Join.mk (eA [(103,some 103),(104,some 104)])
 replace h:oracle_Ask.k11 w_ c53 y252 y253 y254 y255 y256 y257 y258 y259 y260 y261 y262 y263 y264 y265 y266 y267 answer268 code269=some _:=hk57
 unfold oracle_Ask.k11 at h
 obtain ⟨z464,z465,z466,z467,z468,z469,_⟩:=hp
 conv=>whnf
 refine Both.mk ?_ ?_<;>intro b470
 obtain ⟨h,b470d⟩:=ctd b470 h
 conv=>whnf
 refine Side.mk rfl ?_
 conv=>whnf
 refine Side.mk rfl ?_
 conv=>whnf
 cases h
 conv=>whnf
 refine Side.mk ⟨rfl,trivial⟩ ?_
 conv=>whnf
 exact ⟨rfl,rfl⟩
 obtain ⟨h,b470d⟩:=cfd b470 h
 conv=>whnf
 refine Side.mk rfl ?_
 conv=>whnf
 refine Side.mk rfl ?_
 conv=>whnf
 obtain ⟨c471,hc471,h⟩:=bind_some h
 refine ⟨_,(sp_lib_Clone_int w_ c471 (hc471)).im,?_⟩
 conv=>whnf
 obtain ⟨c472,hc472,h⟩:=bind_some h
 refine ⟨_,(sp_lib_Clone_int answer268 c472 (hc472)).im,?_⟩
 conv=>whnf
 obtain ⟨c473,hc473,h⟩:=bind_some h
 refine ⟨_,(sp_observe_Add c53.Obs (⟨c471,c472⟩:T_api_Trace) c473 (fun _ _=>hc473)),?_⟩
 conv=>whnf
 refine Side.mk rfl ?_
 conv=>whnf
 refine Both.mk ?_ ?_<;>intro b474
 obtain ⟨h,b474d⟩:=ctd b474 h
 conv=>whnf
 refine Side.mk rfl ?_
 conv=>whnf
 refine Side.mk rfl ?_
 conv=>whnf
 cases h
 conv=>whnf
 refine Side.mk ⟨rfl,trivial⟩ ?_
 conv=>whnf
 exact ⟨rfl,rfl⟩
 obtain ⟨h,b474d⟩:=cfd b474 h
 conv=>whnf
 refine Side.mk rfl ?_
 conv=>whnf
 refine Side.mk rfl ?_
 conv=>whnf
 refine Side.mk rfl ?_
 conv=>whnf
 refine Side.mk rfl ?_
 conv=>whnf
 obtain ⟨c475,hc475,h⟩:=bind_some h
 refine ⟨_,(sp_lib_Clone_int answer268 c475 (hc475)).im,?_⟩
 conv=>whnf
 refine Side.mk rfl ?_
 conv=>whnf
 cases h
 conv=>whnf
 refine Side.mk ⟨rfl,trivial⟩ ?_
 conv=>whnf
 exact ⟨rfl,rfl⟩
theorem sp_R01_Size (inputs_:Int) (r:Bool) (h:Ok (nI inputs_)→R01_Size inputs_=some r):Sp Tryz.prog 58 [.im (nI inputs_)] (.im (nB r)):=by
 refine sp_of rfl [] rfl rfl rfl (Nat.le_of_ble_eq_true rfl) rfl fun hk=>?_
 replace h:=h hk.1
 unfold R01_Size at h
 conv=>whnf
 obtain ⟨y54,hc,hk52⟩:=bind_some h
 clear h
 have h:=hc
 clear hc
 refine Cut.mk (mkSt [(2,.im (nB y54))] [] []) (True) (hT) ?_ (fun hp=>?_)
 conv=>whnf
 refine Both.mk ?_ ?_<;>intro b55
 replace b55:=beq_tt b55
 obtain ⟨h,b55d⟩:=ctd b55 h
 conv=>whnf
 refine Both.yes (tt_beq b55) ?_
 conv=>whnf
 refine Both.yes b55 ?_
 conv=>whnf
 cases h
 exact Join.mk (eA [])
 replace b55:=beq_tf b55
 obtain ⟨h,b55d⟩:=cfd b55 h
 conv=>whnf
 refine Both.no (ft_beq b55) ?_
 conv=>whnf
 refine Both.no b55 ?_
 conv=>whnf
 cases h
 exact Join.mk (eA [])
 replace h:=hk52
 conv=>whnf
 cases h
 conv=>whnf
 exact ⟨rfl,rfl⟩
theorem sp_R01_Check (w_:List Int) (inputs_:Int) (r:Int) (h:Ok (nL cI w_)→Ok (nI inputs_)→R01_Check w_ inputs_=some r):Sp Tryz.prog 27 [.im (nL cI w_),.im (nI inputs_)] (.im (nI r)):=by
 refine sp_of rfl [] rfl rfl rfl (Nat.le_of_ble_eq_true rfl) rfl fun hk=>?_
 replace h:=h hk.1 hk.2.1
 have z1:lZ w_:=ok_len hk.1
 unfold R01_Check at h
 conv=>whnf
 obtain ⟨c51,hc51,h⟩:=bind_some h
 refine ⟨_,(sp_R01_Size inputs_ c51 (fun _=>hc51)),?_⟩
 conv=>whnf
 refine Both.mk ?_ ?_<;>intro b52
 replace h:=cond_t b52 h
 conv=>whnf
 cases h
 conv=>whnf
 exact ⟨rfl,rfl⟩
 replace h:=cond_f b52 h
 conv=>whnf
 refine Nf.mk (List.length w_) len_map ?_
 conv=>whnf
 refine Both.mk ?_ ?_<;>intro b53
 obtain ⟨h,b53d⟩:=ctd b53 h
 conv=>whnf
 cases h
 conv=>whnf
 exact ⟨rfl,rfl⟩
 obtain ⟨h,b53d⟩:=cfd b53 h
 conv=>whnf
 obtain ⟨oc,hc,hk54⟩:=bind_some h
 clear h
 have h:=hc
 clear hc
 refine Cut.mkS oc (Y:=Unit) (fun (_:Unit)=>mkSt [] [] []) (fun (_:Unit)=>True) (by rintro ⟨⟩;exact (hT)) ?_ ?_
 conv=>whnf
 refine Loops.iter (fun (s:Nat)=>R01_Check.s2 w_ inputs_ s) (fun i106=>mkSt [(0,.im (nL cI w_)),(1,.im (nI inputs_)),(5,.im (nI (↑i106:Int)))] [] []) (fun i106=>lZ w_∧True) h (eA []) (by rintro i106;exact ((Holds.avl 0 rfl).and (hT))) ?_
 clear h
 rintro k i106 o hp h ho119
 replace h:R01_Check.s2 w_ inputs_ i106=some o:=h
 unfold R01_Check.s2 at h
 obtain ⟨z132,_⟩:=hp
 conv=>whnf
 refine Nf.mk (List.length w_) len_map ?_
 conv=>whnf
 refine Both.mk ?_ ?_<;>intro b120
 obtain ⟨h,b120d⟩:=ctd b120 h
 conv=>whnf
 obtain ⟨y126,hc,hk122⟩:=bind_some h
 clear h
 have h:=hc
 clear hc
 refine Cut.mk (mkSt [(0,.im (nL cI w_)),(1,.im (nI inputs_)),(5,.im (nI (↑i106:Int))),(30,.im (nB y126))] [] []) (lZ w_∧True) ((Holds.avl 0 rfl).and (hT)) ?_ (fun hp=>?_)
 conv=>whnf
 obtain ⟨e127,he127,h⟩:=idxn_some h
 refine ⟨_,⟨(by omega),map_at he127,rfl⟩,?_⟩
 conv=>whnf
 refine Both.mk ?_ ?_<;>intro b128
 replace b128:=beq_ff b128
 obtain ⟨h,b128d⟩:=cfd b128 h
 conv=>whnf
 iterate 2 (refine Both.yes (ff_beq b128) ?_;(conv=>whnf))
 obtain ⟨e129,he129,h⟩:=idxn_some h
 refine ⟨_,⟨(by omega),map_at he129,rfl⟩,?_⟩
 conv=>whnf
 iterate 3 (refine Both.yes (ff_beq b128) ?_;(conv=>whnf))
 refine Both.no b128 ?_
 conv=>whnf
 cases h
 exact Join.mk (eA [])
 replace b128:=beq_ft b128
 obtain ⟨h,b128d⟩:=ctd b128 h
 conv=>whnf
 iterate 5 (refine Both.no (tf_beq b128) ?_;(conv=>whnf))
 refine Both.yes b128 ?_
 conv=>whnf
 cases h
 exact Join.mk (eA [])
 replace h:=hk122
 obtain ⟨z130,_⟩:=hp
 conv=>whnf
 refine Both.mk ?_ ?_<;>intro b131
 replace h:=cond_t b131 h
 conv=>whnf
 cases h
 have ho119:_=_:=ho119
 cases ho119
 replace h:some _=some _:=hk54
 cases h
 conv=>whnf
 exact ⟨rfl,rfl⟩
 replace h:=cond_f b131 h
 conv=>whnf
 refine Arith.mk (by show inR _;unfold inR;omega) ?_
 conv=>whnf
 cases h
 exact Nxt.mk _ ho119 (eA [])
 obtain ⟨h,b120d⟩:=cfd b120 h
 conv=>whnf
 cases h
 have ho119:_=_:=ho119
 cases ho119
 exact JoinS.mk' _ rfl (eA [])
 rintro ⟨⟩ rfl hp
 replace h:=sum_inl hk54
 conv=>whnf
 cases h
 conv=>whnf
 exact ⟨rfl,rfl⟩
theorem sp_R01_Common (a_:List Int) (b_:List Int) (r:Int) (h:Ok (nL cI a_)→Ok (nL cI b_)→R01_Common a_ b_=some r):Sp Tryz.prog 86 [.im (nL cI a_),.im (nL cI b_)] (.im (nI r)):=by
 refine sp_of rfl [] rfl rfl rfl (Nat.le_of_ble_eq_true rfl) rfl fun hk=>?_
 replace h:=h hk.1 hk.2.1
 have z1:lZ a_:=ok_len hk.1
 have z2:lZ b_:=ok_len hk.2.1
 unfold R01_Common at h
 conv=>whnf
 obtain ⟨i100,hc,hk51⟩:=bind_some h
 clear h
 have h:=hc
 clear hc
 refine Cut.mk (mkSt [(5,.im (nI (↑i100:Int)))] [] []) (True) (hT) ?_ (fun hp=>?_)
 conv=>whnf
 refine Loops.iter (fun (s:Nat)=>R01_Common.s2 a_ b_ s) (fun i115=>mkSt [(0,.im (nL cI a_)),(1,.im (nL cI b_)),(5,.im (nI (↑i115:Int)))] [] []) (fun i115=>lZ a_∧lZ b_∧True) h (eA []) (by rintro i115;exact ((Holds.avl 0 rfl).and ((Holds.avl 1 rfl).and (hT)))) ?_
 clear h
 rintro k i115 o hp h ho131
 replace h:R01_Common.s2 a_ b_ i115=some o:=h
 unfold R01_Common.s2 at h
 obtain ⟨z147,z148,_⟩:=hp
 conv=>whnf
 obtain ⟨y138,hc,hk133⟩:=bind_some h
 clear h
 have h:=hc
 clear hc
 refine Cut.mk (mkSt [(0,.im (nL cI a_)),(1,.im (nL cI b_)),(5,.im (nI (↑i115:Int))),(26,.im (nB y138))] [] []) (lZ a_∧lZ b_∧True) ((Holds.avl 0 rfl).and ((Holds.avl 1 rfl).and (hT))) ?_ (fun hp=>?_)
 conv=>whnf
 refine Nf.mk (List.length a_) len_map ?_
 conv=>whnf
 refine Both.mk ?_ ?_<;>intro b139
 replace b139:=beq_tt b139
 obtain ⟨h,b139d⟩:=ctd b139 h
 conv=>whnf
 iterate 2 (refine Both.yes (tt_beq b139) ?_;(conv=>whnf))
 refine Nf.mk (List.length b_) len_map ?_
 conv=>whnf
 refine Both.yes (tt_beq b139) ?_
 conv=>whnf
 refine Both.yes b139 ?_
 conv=>whnf
 refine Both.mk ?_ ?_<;>intro b140
 replace b140:=beq_tt b140
 obtain ⟨h,b140d⟩:=ctd b140 h
 conv=>whnf
 iterate 2 (refine Both.yes (tt_beq b140) ?_;(conv=>whnf))
 obtain ⟨e141,he141,h⟩:=idxn_some h
 refine ⟨_,⟨(by omega),map_at he141,rfl⟩,?_⟩
 conv=>whnf
 iterate 4 (refine Both.yes (tt_beq b140) ?_;(conv=>whnf))
 obtain ⟨e142,he142,h⟩:=idxn_some h
 refine ⟨_,⟨(by omega),map_at he142,rfl⟩,?_⟩
 conv=>whnf
 iterate 2 (refine Both.yes (tt_beq b140) ?_;(conv=>whnf))
 refine Both.yes b140 ?_
 conv=>whnf
 cases h
 exact Join.mk (eA [])
 replace b140:=beq_tf b140
 obtain ⟨h,b140d⟩:=cfd b140 h
 conv=>whnf
 iterate 8 (refine Both.no (ft_beq b140) ?_;(conv=>whnf))
 refine Both.no b140 ?_
 conv=>whnf
 cases h
 exact Join.mk (eA [])
 replace b139:=beq_tf b139
 obtain ⟨h,b139d⟩:=cfd b139 h
 conv=>whnf
 iterate 3 (refine Both.no (ft_beq b139) ?_;(conv=>whnf))
 refine Both.no b139 ?_
 conv=>whnf
 iterate 10 (refine Both.no rfl ?_;(conv=>whnf))
 cases h
 exact Join.mk (eA [])
 replace h:=hk133
 obtain ⟨z143,z144,_⟩:=hp
 conv=>whnf
 refine Both.mk ?_ ?_<;>intro b145
 replace h:=cond_t b145 h
 conv=>whnf
 obtain ⟨c146,h⟩:=chk_some h
 refine Arith.mk c146 ?_
 conv=>whnf
 cases h
 exact Nxt.mk _ ho131 (eA [])
 replace h:=cond_f b145 h
 conv=>whnf
 cases h
 have ho131:_=_:=ho131
 cases ho131
 exact Join.mk (eA [])
 replace h:=hk51
 conv=>whnf
 cases h
 conv=>whnf
 exact ⟨rfl,rfl⟩
theorem sp_R01_HasPrefix (w_:List Int) (p_:List Int) (r:Bool) (h:Ok (nL cI w_)→Ok (nL cI p_)→R01_HasPrefix w_ p_=some r):Sp Tryz.prog 59 [.im (nL cI w_),.im (nL cI p_)] (.im (nB r)):=by
 refine sp_of rfl [] rfl rfl rfl (Nat.le_of_ble_eq_true rfl) rfl fun hk=>?_
 replace h:=h hk.1 hk.2.1
 have z1:lZ w_:=ok_len hk.1
 have z2:lZ p_:=ok_len hk.2.1
 unfold R01_HasPrefix at h
 conv=>whnf
 obtain ⟨c51,hc51,h⟩:=bind_some h
 refine ⟨_,(sp_R01_Common w_ p_ c51 (fun _ _=>hc51)),?_⟩
 conv=>whnf
 refine Nf.mk (List.length p_) len_map ?_
 conv=>whnf
 cases h
 conv=>whnf
 exact ⟨rfl,rfl⟩
theorem sp_R01_Join (parts_:List (List Int)) (r:List Int) (h:Ok (nL (cL cI) parts_)→R01_Join parts_=some r):Sp Tryz.prog 60 [.im (nL (cL cI) parts_)] (.row 3 1 (List.map cI r)):=by
 refine sp_of rfl [] rfl rfl rfl (Nat.le_of_ble_eq_true rfl) rfl fun hk=>?_
 replace h:=h hk.1
 have z1:lZ parts_:=ok_len hk.1
 unfold R01_Join at h
 conv=>whnf
 obtain ⟨y66,hc,hk51⟩:=bind_some h
 clear h
 have h:=hc
 clear hc
 refine Cut.mk (mkSt [(3,.osl 64 1)] [(64,.row 3 1 (List.map cI y66))] []) (lZ y66∧True) ((Holds.kdl 64 rfl).and (hT)) ?_ (fun hp=>?_)
 conv=>whnf
 refine Loops.iter (fun (s:List Int×Nat)=>R01_Join.s2 parts_ s.1 s.2) (fun (y70,i71)=>mkSt [(0,.im (nL (cL cI) parts_)),(3,.osl 64 1),(4,.im (nI (↑i71:Int)))] [(64,.row 3 1 (List.map cI y70))] []) (fun (y70,i71)=>lZ parts_∧lZ y70∧True) h (eA [(64,none)]) (by rintro ⟨y70,i71⟩;exact ((Holds.avl 0 rfl).and ((Holds.kdl 64 rfl).and (hT)))) ?_
 clear h
 rintro k ⟨y70,i71⟩ o hp h ho75
 replace h:R01_Join.s2 parts_ y70 i71=some o:=h
 unfold R01_Join.s2 at h
 obtain ⟨z79,z80,_⟩:=hp
 conv=>whnf
 refine Nf.mk (List.length parts_) len_map ?_
 conv=>whnf
 refine Both.mk ?_ ?_<;>intro b76
 obtain ⟨h,b76d⟩:=ctd b76 h
 conv=>whnf
 obtain ⟨e77,he77,h⟩:=idxn_some h
 refine ⟨_,⟨(by omega),map_at he77,rfl⟩,?_⟩
 conv=>whnf
 obtain ⟨c78,h⟩:=chk_some h
 refine Side.mk ⟨rfl,map_len (l:=e77) (c:=cI) fun _=>rfl,show capOk _ 8 by simpa only [List.length_map,List.length_cons,List.length_nil,Nat.zero_add] using c78⟩ ?_
 conv=>whnf
 refine Nf.mk (List.map cI (y70++e77)) (app_map (l:=y70) (m:=e77) (c:=cI)) ?_
 conv=>whnf
 refine Arith.mk (by show inR _;unfold inR;omega) ?_
 conv=>whnf
 cases h
 exact Nxt.mk _ ho75 (eA [(64,some 64)])
 obtain ⟨h,b76d⟩:=cfd b76 h
 conv=>whnf
 cases h
 have ho75:_=_:=ho75
 cases ho75
 exact Join.mk (eA [(64,some 64)])
 replace h:=hk51
 obtain ⟨z81,_⟩:=hp
 conv=>whnf
 cases h
 conv=>whnf
 exact Side.mk ⟨rfl,trivial⟩ ⟨rfl,rfl⟩
theorem sp_R16_Answer (o_:T_api_Obs) (w_:List Int) (r:List Int×Bool) (h:Ok (.agg (c_api_Obs o_))→Ok (nL cI w_)→R16_Answer o_ w_=some r):Sp Tryz.prog 28 [.im (.agg (c_api_Obs o_)),.im (nL cI w_)] (.tup [nL cI r.1,nB r.2]):=by
 refine sp_of rfl [700002] rfl rfl rfl (Nat.le_of_ble_eq_true rfl) rfl fun hk=>?_
 replace h:=h hk.1 hk.2.1
 have z1:lZ o_.Traces:=ok_len (Ok.agg_at hk.1 1 rfl)
 have z2:lZ w_:=ok_len hk.2.1
 unfold R16_Answer at h
 conv=>whnf
 refine Nf.mk (List.length w_) len_map ?_
 conv=>whnf
 refine Both.mk ?_ ?_<;>intro b51
 obtain ⟨h,b51d⟩:=ctd b51 h
 conv=>whnf
 cases h
 conv=>whnf
 exact ⟨rfl,rfl⟩
 obtain ⟨h,b51d⟩:=cfd b51 h
 conv=>whnf
 obtain ⟨oc,hc,hk52⟩:=bind_some h
 clear h
 have h:=hc
 clear hc
 refine Cut.mkS oc (Y:=Unit) (fun (_:Unit)=>mkSt [] [] []) (fun (_:Unit)=>True) (by rintro ⟨⟩;exact (hT)) ?_ ?_
 conv=>whnf
 refine Loops.iter (fun (s:Nat)=>R16_Answer.s2 o_ w_ s) (fun i84=>mkSt [(1,.im (nL cI w_)),(2,.im (.ref (c_api_Obs o_))),(6,.im (nI (↑i84:Int)))] [] []) (fun i84=>lZ w_∧True) h (eA []) (by rintro i84;exact ((Holds.avl 1 rfl).and (hT))) ?_
 clear h
 rintro k i84 o hp h ho92
 replace h:R16_Answer.s2 o_ w_ i84=some o:=h
 unfold R16_Answer.s2 at h
 obtain ⟨z100,_⟩:=hp
 conv=>whnf
 refine Nf.mk (List.length o_.Traces) len_map ?_
 conv=>whnf
 refine Both.mk ?_ ?_<;>intro b93
 obtain ⟨h,b93d⟩:=ctd b93 h
 conv=>whnf
 obtain ⟨e94,he94,h⟩:=idxn_some h
 refine ⟨_,⟨(by omega),map_at he94,rfl⟩,?_⟩
 conv=>whnf
 obtain ⟨c95,hc95,h⟩:=bind_some h
 refine ⟨_,(sp_R01_HasPrefix e94.In w_ c95 (fun _ _=>hc95)),?_⟩
 conv=>whnf
 refine Both.mk ?_ ?_<;>intro b96
 replace h:=cond_t b96 h
 conv=>whnf
 obtain ⟨e97,he97,h⟩:=idxn_some h
 refine ⟨_,⟨(by omega),map_at he97,rfl⟩,?_⟩
 conv=>whnf
 refine Nf.mk (List.length w_) len_map ?_
 conv=>whnf
 obtain ⟨c98,h⟩:=chk_some h
 refine Side.mk (show (0:Int)≤(0:Int)∧(0:Int)≤(↑(List.length w_):Int)∧(↑(List.length w_):Int)≤(↑(List.length (List.map cI e97.Out)):Int)∧(∀ e∈List.map cI e97.Out,List.length e=1) from ⟨by omega,by first | omega | (simp only [List.length_map];omega),by first | omega | (simp only [List.length_map];omega),map_len fun _=>rfl⟩) ?_
 conv=>whnf
 refine Nf.mk (List.map cI (List.take (List.length w_) e97.Out)) take_map ?_
 conv=>whnf
 obtain ⟨c99,hc99,h⟩:=bind_some h
 refine ⟨_,(sp_R01_Join [(List.take (List.length w_) e97.Out)] c99 (fun _=>hc99)).im,?_⟩
 conv=>whnf
 cases h
 have ho92:_=_:=ho92
 cases ho92
 replace h:some _=some _:=hk52
 cases h
 conv=>whnf
 exact ⟨rfl,rfl⟩
 replace h:=cond_f b96 h
 conv=>whnf
 refine Arith.mk (by show inR _;unfold inR;omega) ?_
 conv=>whnf
 cases h
 exact Nxt.mk _ ho92 (eA [])
 obtain ⟨h,b93d⟩:=cfd b93 h
 conv=>whnf
 cases h
 have ho92:_=_:=ho92
 cases ho92
 exact JoinS.mk' _ rfl (eA [])
 rintro ⟨⟩ rfl hp
 replace h:=sum_inl hk52
 conv=>whnf
 cases h
 conv=>whnf
 exact ⟨rfl,rfl⟩
end Go.Proofs.YtajipjnfegmlcaaGreatDoor.Sym

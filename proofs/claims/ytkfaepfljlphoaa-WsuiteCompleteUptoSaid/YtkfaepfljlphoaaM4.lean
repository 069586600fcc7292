/-
 Machines: equivalence of states, and its classes. Plain laws.
-/
import Derived.Test.YtkfaepfljlphoaaM3
set_option linter.all false
namespace Go.Proofs.Ytkfaepfljlphoaa.Sym
set_option maxRecDepth 100000
def E (m:T_api_Mealy):Nat→Nat→Nat→Prop
 | 0,_,_=>True
 | k+1,s,t=>E m k s t∧∀ a,a<m.Inputs.toNat→ot m s a=ot m t a∧E m k (nx m s a) (nx m t a)
section
variable {m:T_api_Mealy}
theorem E_refl:∀ (k s:Nat),E m k s s
 | 0,_=>trivial
 | k+1,s=>⟨E_refl k s,fun _ _=>⟨rfl,E_refl k _⟩⟩
theorem E_symm:∀ {k s t:Nat},E m k s t→E m k t s
 | 0,_,_,_=>trivial
 | _+1,_,_,h=>⟨E_symm h.1,fun a ha=>⟨(h.2 a ha).1.symm,E_symm (h.2 a ha).2⟩⟩
theorem E_trans:∀ {k s t u:Nat},E m k s t→E m k t u→E m k s u
 | 0,_,_,_,_,_=>trivial
 | _+1,_,_,_,h,g=>⟨E_trans h.1 g.1,fun a ha=>⟨(h.2 a ha).1.trans (g.2 a ha).1,E_trans (h.2 a ha).2 (g.2 a ha).2⟩⟩
theorem E_mono {k j s t:Nat} (hk:k≤j) (h:E m j s t):E m k s t:=by
 induction j with
 | zero =>
  have e:k=0:=by omega
  subst e
  exact h
 | succ j ih =>
  rcases Nat.lt_or_ge k (j+1) with h1 | h1
  ·exact ih (by omega) h.1
  ·have e:k=j+1:=by omega
   subst e
   exact h
theorem E_of_outs:∀ {k s t:Nat},(∀ w,w.length≤k→WOk m.Inputs w→outs m s w=outs m t w)→E m k s t
 | 0,_,_,_=>trivial
 | k+1,s,t,h=>⟨E_of_outs fun w hl hw=>h w (by omega) hw,fun a ha=>by
  have hx:∀ w,w.length≤k→WOk m.Inputs w→ot m s a=ot m t a∧outs m (nx m s a) w=outs m (nx m t a) w:=fun w hl hw=>by
   have h1:=h ((↑a:Int)::w) (by simp;omega) (fun x hx=>by
    rcases List.mem_cons.1 hx with rfl | hx
    ·exact ⟨by omega,by omega⟩
    ·exact hw x hx)
   have h2:ot m s a::outs m (nx m s a) w=ot m t a::outs m (nx m t a) w:=h1
   injection h2 with h3 h4
   exact ⟨h3,h4⟩
  exact ⟨(hx [] (Nat.zero_le _) (fun x hx=>by cases hx)).1,E_of_outs fun w hl hw=>(hx w hl hw).2⟩⟩
structure ClsOk (m:T_api_Mealy) (k:Nat) (c:List Int):Prop where
 len:c.length=m.Next.length
 rng:∀ s,s<m.Next.length→∃ x:Nat,c[s]?=some (↑x:Int)∧x<m.Next.length
 cls:∀ s t,s<m.Next.length→t<m.Next.length→(c[s]?=c[t]?↔E m k s t)
structure FinOk (m:T_api_Mealy) (k:Nat) (y:List Int) (n s:Nat):Prop where
 ls:s≤m.Next.length
 len:y.length=s
 cnt:n≤s
 rng:∀ i,i<s→∃ x:Nat,y[i]?=some (↑x:Int)∧x<n
 cls:∀ i j,i<s→j<s→(y[i]?=y[j]?↔E m k i j)
/-! Words of as many symbols as there are states separate all that can be separated. -/
theorem countP_le_eq {α:Type} {p q:α→Bool}:∀ {l:List α},(∀ x∈l,p x=true→q x=true)→l.countP q≤l.countP p→∀ x∈l,q x=true→p x=true
 | [],_,_,x,hx,_=>by cases hx
 | y::l,h,hc,x,hx,hq=>by
  have h1:l.countP p≤l.countP q:=List.countP_mono_left fun x hx=>h x (List.mem_cons_of_mem _ hx)
  rw [List.countP_cons,List.countP_cons] at hc
  have h2:=h y (List.mem_cons_self ..)
  have h3:l.countP q≤l.countP p∧(q y=true→p y=true):=by
   cases e1:q y<;>cases e2:p y<;>simp [e1,e2] at hc h2 ⊢<;>omega
  rcases List.mem_cons.1 hx with rfl | hx
  ·exact h3.2 hq
  ·exact countP_le_eq (fun x hx=>h x (List.mem_cons_of_mem _ hx)) h3.1 x hx hq
def Rep (m:T_api_Mealy) (k s:Nat):Prop:=∀ t,t<s→¬ E m k s t
open Classical in
noncomputable def nreps (m:T_api_Mealy) (k:Nat):Nat:=(List.range m.Next.length).countP fun s=>decide (Rep m k s)
theorem rep_exists (k:Nat):∀ (s:Nat),∃ r,r≤s∧Rep m k r∧E m k s r:=by
 intro s
 induction s using Nat.strongRecOn with
 | ind s ih =>
  by_cases h:Rep m k s
  ·exact ⟨s,Nat.le_refl _,h,E_refl _ _⟩
  ·have ⟨t,h1⟩:=Classical.not_forall.1 h
   obtain ⟨h2,h3⟩:=Classical.not_imp.1 h1
   have h3:=Classical.not_not.1 h3
   obtain ⟨r,r1,r2,r3⟩:=ih t h2
   exact ⟨r,by omega,r2,E_trans h3 r3⟩
def Stab (m:T_api_Mealy) (k:Nat):Prop:=∀ s t,s<m.Next.length→t<m.Next.length→E m k s t→E m (k+1) s t
theorem rep_succ {k s:Nat} (h:Rep m k s):Rep m (k+1) s:=fun t ht hE=>h t ht hE.1
open Classical in
open Classical in
theorem stab_of {k:Nat} (h:nreps m (k+1)≤nreps m k):Stab m k:=by
 intro s t hs ht hE
 unfold nreps at h
 have key:=countP_le_eq (l:=List.range m.Next.length) (fun s _ h=>decide_eq_true (rep_succ (of_decide_eq_true h))) h
 obtain ⟨r,r1,r2,r3⟩:=rep_exists (m:=m) (k+1) s
 obtain ⟨u,u1,u2,u3⟩:=rep_exists (m:=m) (k+1) t
 have r4:Rep m k r:=of_decide_eq_true (key r (List.mem_range.2 (by omega)) (decide_eq_true r2))
 have u4:Rep m k u:=of_decide_eq_true (key u (List.mem_range.2 (by omega)) (decide_eq_true u2))
 have hru:E m k r u:=E_trans (E_symm r3.1) (E_trans hE u3.1)
 have e:r=u:=by
  rcases Nat.lt_trichotomy r u with h1 | h1 | h1
  ·exact absurd (E_symm hru) (u4 r h1)
  ·exact h1
  ·exact absurd hru (r4 u h1)
 subst e
 exact E_trans r3 (E_symm u3)
theorem stab_succ (H:MacOk m) {k:Nat} (h:Stab m k):Stab m (k+1):=fun s t hs ht hE =>
 ⟨hE,fun a ha=>⟨(hE.2 a ha).1,h _ _ (H.at hs ha).1 (H.at ht ha).1 (hE.2 a ha).2⟩⟩
theorem stab_add (H:MacOk m) {k:Nat} (h:Stab m k):∀ j,Stab m (k+j)
 | 0=>h
 | j+1=>stab_succ H (stab_add H h j)
open Classical in
theorem stab_exists (H:MacOk m):∃ k,k<m.Next.length∧Stab m k:=by
 refine Classical.byContradiction fun hno=>?_
 have hall:∀ k,k≤m.Next.length→k+1≤nreps m k:=by
  intro k
  induction k with
  | zero =>
   intro _
   unfold nreps
   have:0<(List.range m.Next.length).countP fun s=>@decide (Rep m 0 s) (Classical.propDecidable _):=List.countP_pos_iff.2 ⟨0,List.mem_range.2 H.n1,decide_eq_true fun t ht=>absurd ht (Nat.not_lt_zero _)⟩
   exact this
  | succ k ih =>
   intro hk
   have h1:=ih (by omega)
   rcases Nat.lt_or_ge (nreps m k) (nreps m (k+1)) with h2 | h2
   ·omega
   ·exact absurd ⟨k,by omega,stab_of h2⟩ hno
 have h1:=hall _ (Nat.le_refl _)
 have h2:nreps m m.Next.length≤(List.range m.Next.length).length:=List.countP_le_length
 rw [List.length_range] at h2
 omega
theorem E_all (H:MacOk m) {s t:Nat} (hs:s<m.Next.length) (ht:t<m.Next.length) (h:E m m.Next.length s t) (j:Nat):E m j s t:=by
 obtain ⟨k,hk,hS⟩:=stab_exists H
 have key:∀ i,E m (k+i) s t:=by
  intro i
  induction i with
  | zero=>exact E_mono (by omega) h
  | succ i ih=>exact stab_add H hS i s t hs ht ih
 exact E_mono (by omega) (key j)
end
end Go.Proofs.Ytkfaepfljlphoaa.Sym

/-
 Machines: the minimal machine, each class by its first state. Plain laws.
-/
namespace Go.Proofs.Ytkfaepfljlphoaa.Sym
set_option maxRecDepth 100000
theorem nodup_le {α:Type} [DecidableEq α]:∀ {l l':List α},l.Nodup→(∀ x∈l,x∈l')→l.length≤l'.length
 | [],_,_,_=>Nat.zero_le _
 | x::l,l',h,hs=>by
  have h1:=List.nodup_cons.1 h
  have hx:=hs x (by simp)
  have ih:=nodup_le (l:=l) (l':=l'.erase x) h1.2 (fun y hy=>(List.mem_erase_of_ne (fun e=>h1.1 (by rw [← e];exact hy))).2 (hs y (List.mem_cons_of_mem _ hy)))
  rw [List.length_erase_of_mem hx] at ih
  have:=List.length_pos_of_mem hx
  simp only [List.length_cons]
  omega
def natI (l:List Nat):List Int:=l.map fun (x:Nat)=>(↑x:Int)
theorem natI_at {l:List Nat} {i u:Nat} (h:l[i]?=some u):(natI l)[i]?=some (↑u:Int):=by
 unfold natI
 rw [List.getElem?_map,h]
 rfl
theorem natI_push (l:List Nat) (t:Nat):natI l++[(↑t:Int)]=natI (l++[t]):=by simp [natI]
theorem natI_len (l:List Nat):(natI l).length=l.length:=by simp [natI]
def Ext (l l':List Nat):Prop:=∀ j u:Nat,l[j]?=some u→l'[j]?=some u
theorem Ext.rfl' {l:List Nat}:Ext l l:=fun _ _ h=>h
theorem Ext.trans {l l' l'':List Nat} (h:Ext l l') (g:Ext l' l''):Ext l l'':=fun j u e=>g j u (h j u e)
theorem Ext.push (l:List Nat) (t:Nat):Ext l (l++[t]):=fun j u h=>by
 have:=(List.getElem?_eq_some_iff.1 h).1
 rw [List.getElem?_append_left this,h]
structure Num (m:T_api_Mealy) (c:List Int) (ord:List Nat) (num:List Int):Prop where
 rng:∀ u∈ord,u<m.Next.length
 start:ord[0]?=some m.Start.toNat
 len:num.length=m.Next.length
 n1:∀ j u x:Nat,ord[j]?=some u→c[u]?=some (↑x:Int)→num[x]?=some (↑j:Int)
 n2:∀ x:Nat,x<m.Next.length→num[x]?=some (-1:Int)∨∃ j u:Nat,num[x]?=some (↑j:Int)∧ord[j]?=some u∧c[u]?=some (↑x:Int)
 reach:∀ j u:Nat,ord[j]?=some u→j=0∨∃ i v a:Nat,i<j∧ord[i]?=some v∧a<m.Inputs.toNat∧u=nx m v a
section
variable {m:T_api_Mealy} {c num:List Int} {ord:List Nat} {k:Nat}
theorem Num.inj (N:Num m c ord num) (C:ClsOk m k c) {i j u v:Nat} (hi:ord[i]?=some u) (hj:ord[j]?=some v) (h:c[u]?=c[v]?):i=j:=by
 obtain ⟨x,x1,_⟩:=C.rng u (N.rng u (List.mem_of_getElem? hi))
 have h1:=N.n1 i u x hi x1
 have h2:=N.n1 j v x hj (by rw [← h,x1])
 rw [h1] at h2
 injection h2 with h2
 omega
theorem Num.nodup (N:Num m c ord num) (C:ClsOk m k c):ord.Nodup:=by
 refine List.pairwise_iff_getElem.2 fun i j hi hj hij h=>?_
 have:=N.inj C (get_at hi) (get_at hj) (by rw [h])
 omega
theorem Num.le (N:Num m c ord num) (C:ClsOk m k c):ord.length≤m.Next.length:=by
 have:=nodup_le (N.nodup C) (l':=List.range m.Next.length) fun x hx=>List.mem_range.2 (N.rng x hx)
 rwa [List.length_range] at this
theorem Num.push (N:Num m c ord num) {i v a t x:Nat} (hi:ord[i]?=some v) (ha:a<m.Inputs.toNat) (ht:t=nx m v a) (htn:t<m.Next.length) (hx:c[t]?=some (↑x:Int)) (hxn:x<m.Next.length) (hn:num[x]?=some (-1:Int)):Num m c (ord++[t]) (num.set x (↑ord.length:Int)) where
 rng:=fun u hu=>by
  rcases List.mem_append.1 hu with h | h
  ·exact N.rng u h
  ·rw [List.mem_singleton.1 h]
   exact htn
 start:=Ext.push ord t 0 _ N.start
 len:=by rw [List.length_set,N.len]
 n1:=fun j u y hj hc=>by
  rcases Nat.lt_or_ge j ord.length with h | h
  ·rw [List.getElem?_append_left h] at hj
   have h1:=N.n1 j u y hj hc
   have hne:x≠y:=fun e=>by
    subst e
    rw [hn] at h1
    injection h1 with h1
    omega
   rw [List.getElem?_set_ne hne]
   exact h1
  ·have h2:=(List.getElem?_eq_some_iff.1 hj).1
   rw [List.length_append,List.length_singleton] at h2
   have e:j=ord.length:=by omega
   subst e
   rw [List.getElem?_append_right (Nat.le_refl _),Nat.sub_self] at hj
   injection hj with hj
   subst hj
   rw [hx] at hc
   injection hc with hc
   have e:x=y:=by omega
   subst e
   rw [List.getElem?_set_self (by rw [N.len];exact hxn)]
 n2:=fun y hy=>by
  by_cases e:x=y
  ·subst e
   exact Or.inr ⟨ord.length,t,by rw [List.getElem?_set_self (by rw [N.len];exact hxn)],by simp,hx⟩
  ·rw [List.getElem?_set_ne e]
   rcases N.n2 y hy with h | ⟨j,u,h1,h2,h3⟩
   ·exact Or.inl h
   ·exact Or.inr ⟨j,u,h1,Ext.push ord t j u h2,h3⟩
 reach:=fun j u hj=>by
  rcases Nat.lt_or_ge j ord.length with h | h
  ·rw [List.getElem?_append_left h] at hj
   rcases N.reach j u hj with h1 | ⟨i',v',a',h1,h2,h3,h4⟩
   ·exact Or.inl h1
   ·exact Or.inr ⟨i',v',a',h1,Ext.push ord t i' v' h2,h3,h4⟩
  ·have h2:=(List.getElem?_eq_some_iff.1 hj).1
   rw [List.length_append,List.length_singleton] at h2
   have e:j=ord.length:=by omega
   subst e
   rw [List.getElem?_append_right (Nat.le_refl _),Nat.sub_self] at hj
   injection hj with hj
   exact Or.inr ⟨i,v,a,(List.getElem?_eq_some_iff.1 hi).1,Ext.push ord t i v hi,ha,by rw [← hj,ht]⟩
structure RowAt (m:T_api_Mealy) (c:List Int) (ord:List Nat) (v:Nat) (row out:List Int) (a:Nat):Prop where
 l1:row.length=a
 l2:out.length=a
 cell:∀ b,b<a→∃ j u:Nat,row[b]?=some (↑j:Int)∧ord[j]?=some u∧c[u]?=c[nx m v b]?∧out[b]?=some (ot m v b)
theorem RowAt.mono {v:Nat} {row out:List Int} {a:Nat} {ord':List Nat} (h:Ext ord ord') (R:RowAt m c ord v row out a):RowAt m c ord' v row out a :=
 ⟨R.l1,R.l2,fun b hb=>by
  obtain ⟨j,u,h1,h2,h3⟩:=R.cell b hb
  exact ⟨j,u,h1,h j u h2,h3⟩⟩
structure MinOk (m M:T_api_Mealy) (c:List Int) (ord:List Nat) (num:List Int):Prop where
 cls:ClsOk m m.Next.length c
 num:Num m c ord num
 inp:M.Inputs=m.Inputs
 start:M.Start=0
 l1:M.Next.length=ord.length
 l2:M.Out.length=ord.length
 row:∀ i v:Nat,ord[i]?=some v→∃ row out,M.Next[i]?=some row∧M.Out[i]?=some out∧RowAt m c ord v row out m.Inputs.toNat
end
end Go.Proofs.Ytkfaepfljlphoaa.Sym

/-
 What a machine reaches: the program's and the document's searches. Plain laws.
-/
namespace Go.Proofs.Ytkfaepfljlphoaa.Sym
set_option maxRecDepth 100000
section
variable {m:T_api_Mealy}
def mB (m:T_api_Mealy) (s0 r:Nat):List (Nat×List Int):=bfsB (nx m) m.Inputs.toNat s0 r
abbrev MEnd (m:T_api_Mealy) (s0:Nat) (L:List (Nat×List Int)):Prop:=BfsEnd (nx m) m.Inputs.toNat s0 L
theorem mB_rng (H:MacOk m) {s0:Nat} (hs:s0<m.Next.length):∀ (r:Nat),∀ x∈mB m s0 r,x.1<m.Next.length∧x.2.length≤r∧dest m s0 x.2=x.1∧WOk m.Inputs x.2
 | 0,x,hx=>by
  have:x=(s0,[]):=by simpa [mB,bfsB] using hx
  subst this
  exact ⟨hs,Nat.le_refl _,rfl,fun a ha=>by cases ha⟩
 | r+1,x,hx=>by
  have ih:=mB_rng H hs r
  have old:x∈mB m s0 r→x.1<m.Next.length∧x.2.length≤r+1∧dest m s0 x.2=x.1∧WOk m.Inputs x.2:=fun h=>by
   have:=ih x h
   exact ⟨this.1,by omega,this.2.2⟩
  unfold mB at hx
  rw [bfsB] at hx
  split at hx
  ·exact old hx
  ·rename_i y hy
   split at hx
   ·exact old hx
   ·rcases List.mem_append.1 hx with h | h
    ·exact old h
    ·have hK:0<m.Inputs.toNat:=by have:=H.i1;omega
     have hy':=ih y (List.mem_of_getElem? hy)
     have ha:=Nat.mod_lt r hK
     have hxe:x=(nx m y.1 (r%m.Inputs.toNat),y.2++[(↑(r%m.Inputs.toNat):Int)]):=by simpa using h
     subst hxe
     refine ⟨(H.at hy'.1 ha).1,by simp;omega,?_,?_⟩
     ·simp only
      rw [dest_append,hy'.2.2.1]
      show nx m y.1 (Int.toNat _)=_
      rw [Int.toNat_natCast]
     ·refine WOk.append hy'.2.2.2 fun a ha'=>?_
      have:a=(↑(r%m.Inputs.toNat):Int):=by simpa using ha'
      subst this
      omega
theorem mB_len (H:MacOk m) {s0:Nat} (hs:s0<m.Next.length) (r:Nat):(mB m s0 r).length≤m.Next.length:=by
 have:=nodup_le (bfs_nodup (e:=nx m) (K:=m.Inputs.toNat) (s0:=s0) r) (l':=List.range m.Next.length) fun x hx=>by
  obtain ⟨y,hy,rfl⟩:=List.mem_map.1 hx
  exact List.mem_range.2 (mB_rng H hs r y hy).1
 rwa [List.length_map,List.length_range] at this
theorem mB_step {s0 i a:Nat} {x:Nat×List Int} (ha:a<m.Inputs.toNat) (hx:(mB m s0 (i*m.Inputs.toNat+a))[i]?=some x) :
  mB m s0 (i*m.Inputs.toNat+(a+1))=if nx m x.1 a∈(mB m s0 (i*m.Inputs.toNat+a)).map Prod.fst then mB m s0 (i*m.Inputs.toNat+a) else mB m s0 (i*m.Inputs.toNat+a)++[(nx m x.1 a,x.2++[(↑a:Int)])]:=bfs_step ha hx
theorem mB_next {s0 i:Nat}:mB m s0 (i*m.Inputs.toNat+m.Inputs.toNat)=mB m s0 ((i+1)*m.Inputs.toNat):=by rw [Nat.succ_mul]
theorem mB_get {s0 i r:Nat} {x:Nat×List Int} (hx:(mB m s0 (i*m.Inputs.toNat))[i]?=some x) (hr:i*m.Inputs.toNat≤r):(mB m s0 r)[i]?=some x:=pre_get (bfs_pre hr) hx
structure SeenOk (n:Nat) (y:List Bool) (l:List Nat):Prop where
 len:y.length=n
 at_:∀ t,t<n→y[t]?=some (decide (t∈l))
theorem SeenOk.push {n t:Nat} {y:List Bool} {l:List Nat} (S:SeenOk n y l) (ht:t<n):SeenOk n (y.set t true) (l++[t]):=by
 refine ⟨by simp [S.len],fun u hu=>?_⟩
 by_cases h:t=u
 ·subst h
  rw [List.getElem?_set_self (by rw [S.len];exact ht)]
  simp
 ·rw [List.getElem?_set_ne h,S.at_ u hu]
  congr 1
  apply decide_eq_decide.2
  rw [List.mem_append]
  constructor
  ·exact Or.inl
  ·rintro (q | q)
   ·exact q
   ·exact absurd (by simpa using q:u=t).symm h
theorem seen_nil (n:Nat):SeenOk n (List.replicate n false) []:=⟨by simp,fun t ht=>by simp [ht]⟩
theorem mealy_Reach_eq (hv:validM m=0):∃ L,MEnd m m.Start.toNat L∧mealy_Reach m=some (natI (L.map Prod.fst)):=by
 have H:=valid_ok hv
 have hst:=H.st
 have hn:=H.n2
 have hs:m.Start.toNat<m.Next.length:=by omega
 have inner:∀ (i:Nat) (x:Nat×List Int) (row:List Int) (y:List Bool),(mB m m.Start.toNat (i*m.Inputs.toNat))[i]?=some x→m.Next[x.1]?=some row→SeenOk m.Next.length y ((mB m m.Start.toNat (i*m.Inputs.toNat)).map Prod.fst) →
   ∃ y',iter (fun (s:List Bool×List Int×Nat)=>mealy_Reach.s18 row s.1 s.2.1 s.2.2) fuel (y,natI ((mB m m.Start.toNat (i*m.Inputs.toNat)).map Prod.fst),0)=some (y',natI ((mB m m.Start.toNat ((i+1)*m.Inputs.toNat)).map Prod.fst))∧SeenOk m.Next.length y' ((mB m m.Start.toNat ((i+1)*m.Inputs.toNat)).map Prod.fst):=by
  intro i x row y hx hrow S
  have hxs:=(mB_rng H hs _ x (List.mem_of_getElem? hx)).1
  have hrl:row.length=m.Inputs.toNat:=by
   obtain ⟨x',y',h1,_,h3,_⟩:=H.row x.1 hxs
   rw [hrow] at h1
   injection h1 with h1
   subst h1
   omega
  obtain ⟨r,hr,y',rfl,hq⟩:=iter_post (step:=fun (s:List Bool×List Int×Nat)=>mealy_Reach.s18 row s.1 s.2.1 s.2.2) (fun s=>s.2.2≤m.Inputs.toNat∧s.2.1=natI ((mB m m.Start.toNat (i*m.Inputs.toNat+s.2.2)).map Prod.fst)∧SeenOk m.Next.length s.1 ((mB m m.Start.toNat (i*m.Inputs.toNat+s.2.2)).map Prod.fst)) (fun s=>m.Inputs.toNat-s.2.2) (fun r=>∃ y',r=(y',natI ((mB m m.Start.toNat ((i+1)*m.Inputs.toNat)).map Prod.fst))∧SeenOk m.Next.length y' ((mB m m.Start.toNat ((i+1)*m.Inputs.toNat)).map Prod.fst)) (fun s ⟨q1,q2,q3⟩=>by
   obtain ⟨y,l,a⟩:=s
   simp only at q1 q2 q3
   subst q2
   simp only [mealy_Reach.s18]
   by_cases g:a<m.Inputs.toNat
   ·left
    have hxa:=mB_get hx (r:=i*m.Inputs.toNat+a) (by omega)
    obtain ⟨h1,_,_,x',y',h2,_,h4,_⟩:=H.at hxs g
    rw [hrow] at h2
    injection h2 with h2
    subst h2
    have hlen:=mB_len H hs (i*m.Inputs.toNat+a)
    have hstep:=mB_step g hxa
    rw [decide_eq_true (by omega),cond_true,idxn_at h4,idx_at rfl (q3.at_ _ h1)]
    by_cases hm:nx m x.1 a∈(mB m m.Start.toNat (i*m.Inputs.toNat+a)).map Prod.fst
    ·rw [if_pos hm] at hstep
     refine ⟨(y,natI ((mB m m.Start.toNat (i*m.Inputs.toNat+a)).map Prod.fst),a+1),by rw [decide_eq_true hm];rfl,⟨g,by simp only;rw [hstep],by simp only;rw [hstep];exact q3⟩,by simp only;omega⟩
    ·rw [if_neg hm] at hstep
     refine ⟨(y.set (nx m x.1 a) true,natI ((mB m m.Start.toNat (i*m.Inputs.toNat+a)).map Prod.fst++[nx m x.1 a]),a+1),?_,⟨g,by simp only;rw [hstep,List.map_append];rfl,by simp only;rw [hstep,List.map_append];exact q3.push h1⟩,by simp only;omega⟩
     rw [decide_eq_false hm,Bool.not_false,cond_true,idx_at rfl (q3.at_ _ h1),chk_pos (by unfold capOk;rw [natI_len,List.length_map];omega),natI_push,Int.toNat_natCast]
   ·right
    have e':a=m.Inputs.toNat:=by omega
    subst e'
    rw [mB_next] at q3 ⊢
    exact ⟨_,by rw [decide_eq_false (by omega),cond_false],_,rfl,q3⟩) fuel (y,natI ((mB m m.Start.toNat (i*m.Inputs.toNat)).map Prod.fst),0) ⟨Nat.zero_le _,rfl,S⟩ (by have:=fuel_big;have:=H.i2;simp only;omega)
  exact ⟨y',hr,hq⟩
 unfold mealy_Reach
 rw [mealy_Valid_eq,obind,hv,decide_eq_false (by decide),cond_false,chk_pos ⟨by omega,by omega,by unfold capOk;omega⟩,idx_at (i:=m.Start.toNat) (x:=false) (by omega) (by rw [List.getElem?_replicate,if_pos hs])]
 obtain ⟨r,hr,L,hL,rfl⟩:=iter_post (step:=fun (s:List Bool×List Int×Nat)=>mealy_Reach.s20 m s.1 s.2.1 s.2.2) (fun s=>s.2.2≤(mB m m.Start.toNat (s.2.2*m.Inputs.toNat)).length∧s.2.1=natI ((mB m m.Start.toNat (s.2.2*m.Inputs.toNat)).map Prod.fst)∧SeenOk m.Next.length s.1 ((mB m m.Start.toNat (s.2.2*m.Inputs.toNat)).map Prod.fst)) (fun s=>m.Next.length+1-s.2.2) (fun r=>∃ L,MEnd m m.Start.toNat L∧r=natI (L.map Prod.fst)) (fun s ⟨q1,q2,q3⟩=>by
  obtain ⟨y,l,i⟩:=s
  simp only at q1 q2 q3
  subst q2
  simp only [mealy_Reach.s20]
  have hlen:=mB_len H hs (i*m.Inputs.toNat)
  by_cases g:i<(mB m m.Start.toNat (i*m.Inputs.toNat)).length
  ·left
   have hx:=get_at g
   generalize (mB m m.Start.toNat (i*m.Inputs.toNat))[i]=x at hx
   have hxs:=(mB_rng H hs _ x (List.mem_of_getElem? hx)).1
   have hrow:=get_at hxs
   obtain ⟨y',h1,h2⟩:=inner i x _ y hx hrow q3
   have hmono:=(bfs_pre (e:=nx m) (K:=m.Inputs.toNat) (s0:=m.Start.toNat) (show i*m.Inputs.toNat≤(i+1)*m.Inputs.toNat by rw [Nat.succ_mul];omega)).length_le
   refine ⟨(y',natI ((mB m m.Start.toNat ((i+1)*m.Inputs.toNat)).map Prod.fst),i+1),?_,⟨by simp only;unfold mB at g ⊢;omega,rfl,h2⟩,by simp only;omega⟩
   rw [decide_eq_true (by rw [natI_len,List.length_map];omega),cond_true,idxn_at (natI_at (i:=i) (u:=x.1) (by rw [List.getElem?_map,hx];rfl)),idx_at rfl hrow,h1,obind]
   rfl
  ·right
   refine ⟨_,by rw [decide_eq_false (by rw [natI_len,List.length_map];omega),cond_false],mB m m.Start.toNat (i*m.Inputs.toNat),⟨?_⟩,rfl⟩
   rw [show (mB m m.Start.toNat (i*m.Inputs.toNat)).length=i by omega]
   rfl) fuel ((List.replicate m.Next.length false).set m.Start.toNat true,[m.Start],0) ⟨Nat.zero_le _,by simp only;rw [Nat.zero_mul];simp [mB,bfsB,natI];omega,by
    simp only
    rw [Nat.zero_mul]
    exact (seen_nil m.Next.length).push hs⟩ (by have:=fuel_big;simp only;omega)
 exact ⟨L,hL,by rw [hr,obind]⟩
end
end Go.Proofs.Ytkfaepfljlphoaa.Sym

/-
 Access words: the program's and the document's. Plain laws.
-/
namespace Go.Proofs.Ytkfaepfljlphoaa.Sym
set_option maxRecDepth 100000
section
variable {m:T_api_Mealy}
def placeC (x:Nat×List Int):T_cover_place:=⟨(↑x.1:Int),x.2⟩
theorem placeC_at {l:List (Nat×List Int)} {i:Nat} {x:Nat×List Int} (h:l[i]?=some x):(l.map placeC)[i]?=some (placeC x):=by rw [List.getElem?_map,h];rfl
theorem cover_places_eq (H:MacOk m) {s0:Nat} (hs:s0<m.Next.length):∃ L,MEnd m s0 L∧cover_places m (↑s0:Int)=some (L.map placeC):=by
 have hn:=H.n2
 have hI:=H.i2
 have inner:∀ (i:Nat) (x:Nat×List Int) (row:List Int) (y:List Bool),i≤m.Next.length→(mB m s0 (i*m.Inputs.toNat))[i]?=some x→m.Next[x.1]?=some row→SeenOk m.Next.length y ((mB m s0 (i*m.Inputs.toNat)).map Prod.fst) →
   ∃ y',iter (fun (s:List Bool×List T_cover_place×Nat)=>cover_places.s18 i row s.1 s.2.1 s.2.2) fuel (y,(mB m s0 (i*m.Inputs.toNat)).map placeC,0)=some (y',(mB m s0 ((i+1)*m.Inputs.toNat)).map placeC)∧SeenOk m.Next.length y' ((mB m s0 ((i+1)*m.Inputs.toNat)).map Prod.fst):=by
  intro i x row y hin hx hrow S
  have hxs:=(mB_rng H hs _ x (List.mem_of_getElem? hx)).1
  have hxl:=(mB_rng H hs _ x (List.mem_of_getElem? hx)).2.1
  have hiK:i*m.Inputs.toNat≤128*64:=Nat.mul_le_mul (by omega) (by omega)
  have hrl:row.length=m.Inputs.toNat:=by
   obtain ⟨x',y',h1,_,h3,_⟩:=H.row x.1 hxs
   rw [hrow] at h1
   injection h1 with h1
   subst h1
   omega
  obtain ⟨r,hr,y',rfl,hq⟩:=iter_post (step:=fun (s:List Bool×List T_cover_place×Nat)=>cover_places.s18 i row s.1 s.2.1 s.2.2) (fun s=>s.2.2≤m.Inputs.toNat∧s.2.1=(mB m s0 (i*m.Inputs.toNat+s.2.2)).map placeC∧SeenOk m.Next.length s.1 ((mB m s0 (i*m.Inputs.toNat+s.2.2)).map Prod.fst)) (fun s=>m.Inputs.toNat-s.2.2) (fun r=>∃ y',r=(y',(mB m s0 ((i+1)*m.Inputs.toNat)).map placeC)∧SeenOk m.Next.length y' ((mB m s0 ((i+1)*m.Inputs.toNat)).map Prod.fst)) (fun s ⟨q1,q2,q3⟩=>by
   obtain ⟨y,l,a⟩:=s
   simp only at q1 q2 q3
   subst q2
   simp only [cover_places.s18]
   by_cases g:a<m.Inputs.toNat
   ·left
    have hxa:=mB_get hx (r:=i*m.Inputs.toNat+a) (by omega)
    obtain ⟨h1,_,_,x',y',h2,_,h4,_⟩:=H.at hxs g
    rw [hrow] at h2
    injection h2 with h2
    subst h2
    have hlen:=mB_len H hs (i*m.Inputs.toNat+a)
    have hstep:=mB_step g hxa
    rw [decide_eq_true (by omega),cond_true,idxn_at h4,idx_at rfl (q3.at_ _ h1)]
    by_cases hm:nx m x.1 a∈(mB m s0 (i*m.Inputs.toNat+a)).map Prod.fst
    ·rw [if_pos hm] at hstep
     refine ⟨(y,(mB m s0 (i*m.Inputs.toNat+a)).map placeC,a+1),by rw [decide_eq_true hm];rfl,⟨g,by simp only;rw [hstep],by simp only;rw [hstep];exact q3⟩,by simp only;omega⟩
    ·rw [if_neg hm] at hstep
     refine ⟨(y.set (nx m x.1 a) true,(mB m s0 (i*m.Inputs.toNat+a)).map placeC++[placeC (nx m x.1 a,x.2++[(↑a:Int)])],a+1),?_,⟨g,by simp only;rw [hstep,List.map_append];rfl,by simp only;rw [hstep,List.map_append];exact q3.push h1⟩,by simp only;omega⟩
     rw [decide_eq_false hm,Bool.not_false,cond_true,idx_at rfl (q3.at_ _ h1),idxn_at (placeC_at hxa)]
     show (word_Join [x.2,[(↑a:Int)]]).bind _=_
     rw [word_Join_eq _ (by simp) (by simp;omega),obind,chk_pos (by unfold capOk;rw [List.length_map];omega),Int.toNat_natCast]
     simp [placeC]
   ·right
    have e':a=m.Inputs.toNat:=by omega
    subst e'
    rw [mB_next] at q3 ⊢
    exact ⟨_,by rw [decide_eq_false (by omega),cond_false],_,rfl,q3⟩) fuel (y,(mB m s0 (i*m.Inputs.toNat)).map placeC,0) ⟨Nat.zero_le _,rfl,S⟩ (by have:=fuel_big;have:=H.i2;simp only;omega)
  exact ⟨y',hr,hq⟩
 unfold cover_places
 rw [chk_pos ⟨by omega,by omega,by unfold capOk;omega⟩,idx_at (i:=s0) (x:=false) rfl (by rw [List.getElem?_replicate,if_pos hs])]
 obtain ⟨r,hr,L,hL,rfl⟩:=iter_post (step:=fun (s:List Bool×List T_cover_place×Nat)=>cover_places.s20 m s.1 s.2.1 s.2.2) (fun s=>s.2.2≤(mB m s0 (s.2.2*m.Inputs.toNat)).length∧s.2.1=(mB m s0 (s.2.2*m.Inputs.toNat)).map placeC∧SeenOk m.Next.length s.1 ((mB m s0 (s.2.2*m.Inputs.toNat)).map Prod.fst)) (fun s=>m.Next.length+1-s.2.2) (fun r=>∃ L,MEnd m s0 L∧r=L.map placeC) (fun s ⟨q1,q2,q3⟩=>by
  obtain ⟨y,l,i⟩:=s
  simp only at q1 q2 q3
  subst q2
  simp only [cover_places.s20]
  have hlen:=mB_len H hs (i*m.Inputs.toNat)
  by_cases g:i<(mB m s0 (i*m.Inputs.toNat)).length
  ·left
   have hx:=get_at g
   generalize (mB m s0 (i*m.Inputs.toNat))[i]=x at hx
   have hxs:=(mB_rng H hs _ x (List.mem_of_getElem? hx)).1
   have hrow:=get_at hxs
   obtain ⟨y',h1,h2⟩:=inner i x _ y (by omega) hx hrow q3
   have hmono:=(bfs_pre (e:=nx m) (K:=m.Inputs.toNat) (s0:=s0) (show i*m.Inputs.toNat≤(i+1)*m.Inputs.toNat by rw [Nat.succ_mul];omega)).length_le
   refine ⟨(y',(mB m s0 ((i+1)*m.Inputs.toNat)).map placeC,i+1),?_,⟨by simp only;unfold mB at g ⊢;omega,rfl,h2⟩,by simp only;omega⟩
   rw [decide_eq_true (by rw [List.length_map];omega),cond_true,idxn_at (placeC_at hx),idx_at (n:=(placeC x).state) (i:=x.1) rfl hrow,h1,obind]
   rfl
  ·right
   refine ⟨_,by rw [decide_eq_false (by rw [List.length_map];omega),cond_false],mB m s0 (i*m.Inputs.toNat),⟨?_⟩,rfl⟩
   rw [show (mB m s0 (i*m.Inputs.toNat)).length=i by omega]
   rfl) fuel ((List.replicate m.Next.length false).set s0 true,[(⟨(↑s0:Int),[]⟩:T_cover_place)],0) ⟨Nat.zero_le _,by simp only;rw [Nat.zero_mul];simp [mB,bfsB,placeC],by
    simp only
    rw [Nat.zero_mul]
    exact (seen_nil m.Next.length).push hs⟩ (by have:=fuel_big;simp only;omega)
 exact ⟨L,hL,by rw [Int.toNat_natCast,hr,obind]⟩
theorem cover_Access_eq (hv:validM m=0):∃ L,MEnd m m.Start.toNat L∧cover_Access m=some (natI (L.map Prod.fst),L.map Prod.snd,0):=by
 have H:=valid_ok hv
 have hst:=H.st
 obtain ⟨L,hL,he⟩:=cover_places_eq H (s0:=m.Start.toNat) (by omega)
 rw [show (↑m.Start.toNat:Int)=m.Start by omega] at he
 have hlen:L.length≤m.Next.length:=by
  rw [hL.eq]
  exact mB_len H (by omega) _
 have hn:=H.n2
 refine ⟨L,hL,?_⟩
 unfold cover_Access
 rw [mealy_Valid_eq,obind,hv,decide_eq_false (by decide),cond_false,he,obind]
 have key:=iter_eq (step:=fun (s:List Int×List (List Int)×Nat)=>cover_Access.s2 (L.map placeC) s.1 s.2.1 s.2.2) (r:=(natI (L.map Prod.fst),L.map Prod.snd)) (fun s=>s.2.2≤L.length∧s.1=natI ((L.take s.2.2).map Prod.fst)∧s.2.1=(L.take s.2.2).map Prod.snd) (fun s=>L.length-s.2.2) (fun s ⟨q1,q2,q3⟩=>by
  obtain ⟨a,b,i⟩:=s
  simp only at q1 q2 q3
  subst q2
  subst q3
  simp only [cover_Access.s2]
  by_cases g:i<L.length
  ·left
   have hx:=get_at g
   refine ⟨(natI ((L.take (i+1)).map Prod.fst),(L.take (i+1)).map Prod.snd,i+1),?_,⟨g,rfl,rfl⟩,by simp only;omega⟩
   rw [decide_eq_true (by rw [List.length_map];omega),cond_true,idxn_at (placeC_at hx),chk_pos (by unfold capOk;rw [natI_len,List.length_map,List.length_take];omega),chk_pos (by unfold capOk;rw [List.length_map,List.length_take];omega),take_step hx,List.map_append,List.map_append]
   simp [natI,placeC]
  ·right
   have:i=L.length:=by omega
   subst this
   rw [decide_eq_false (by rw [List.length_map];omega),cond_false,List.take_length]) (n:=fuel) (s:=([],[],0)) ⟨Nat.zero_le _,rfl,rfl⟩ (by have:=fuel_big;simp only;omega)
 rw [key,obind]
 rfl
end
end Go.Proofs.Ytkfaepfljlphoaa.Sym

/-
 The first word that has different outputs: the program's and the document's. Plain laws.
-/
namespace Go.Proofs.Ytkfaepfljlphoaa.Sym
set_option maxRecDepth 100000
theorem bfs_stay {A:Type} [DecidableEq A] {e:A→Nat→A} {K:Nat} {s0:A} {L:List (A×List Int)} (h:BfsEnd e K s0 L) (hK:0<K):∀ d,bfsB e K s0 (L.length*K+d)=L
 | 0=>h.eq.symm
 | d+1=>by
  have ih:=bfs_stay h hK d
  show bfsB e K s0 (L.length*K+d+1)=L
  rw [bfsB,ih,List.getElem?_eq_none ?_]
  have h1:(L.length*K) / K≤(L.length*K+d) / K:=Nat.div_le_div_right (by omega)
  rw [Nat.mul_div_cancel _ hK] at h1
  exact h1
section
variable {a b:T_api_Mealy}
def pE (a b:T_api_Mealy) (p:Nat×Nat) (x:Nat):Nat×Nat:=(nx a p.1 x,nx b p.2 x)
def pB (a b:T_api_Mealy) (p0:Nat×Nat) (r:Nat):List ((Nat×Nat)×List Int):=bfsB (pE a b) a.Inputs.toNat p0 r
abbrev PEnd (a b:T_api_Mealy) (p0:Nat×Nat) (L:List ((Nat×Nat)×List Int)):Prop:=BfsEnd (pE a b) a.Inputs.toNat p0 L
def difB (a b:T_api_Mealy) (p0:Nat×Nat) (r:Nat):Bool:=match (pB a b p0 r)[r / a.Inputs.toNat]? with
 | some x=>decide (ot a x.1.1 (r%a.Inputs.toNat)≠ot b x.1.2 (r%a.Inputs.toNat))
 | none=>false
theorem difB_at {p0:Nat×Nat} {i c:Nat} {x:(Nat×Nat)×List Int} (hc:c<a.Inputs.toNat) (hx:(pB a b p0 (i*a.Inputs.toNat+c))[i]?=some x):difB a b p0 (i*a.Inputs.toNat+c)=decide (ot a x.1.1 c≠ot b x.1.2 c):=by
 unfold difB
 rw [dm_div hc,hx,dm_mod hc]
structure Two (a b:T_api_Mealy):Prop where
 a1:MacOk a
 b1:MacOk b
 inp:a.Inputs=b.Inputs
theorem pB_rng (T:Two a b) {p0:Nat×Nat} (h1:p0.1<a.Next.length) (h2:p0.2<b.Next.length):∀ (r:Nat),∀ x∈pB a b p0 r,x.1.1<a.Next.length∧x.1.2<b.Next.length∧x.2.length≤r∧dest a p0.1 x.2=x.1.1∧dest b p0.2 x.2=x.1.2∧WOk a.Inputs x.2
 | 0,x,hx=>by
  have:x=(p0,[]):=by simpa [pB,bfsB] using hx
  subst this
  exact ⟨h1,h2,Nat.le_refl _,rfl,rfl,fun a ha=>by cases ha⟩
 | r+1,x,hx=>by
  have ih:=pB_rng T h1 h2 r
  have old:x∈pB a b p0 r→x.1.1<a.Next.length∧x.1.2<b.Next.length∧x.2.length≤r+1∧dest a p0.1 x.2=x.1.1∧dest b p0.2 x.2=x.1.2∧WOk a.Inputs x.2:=fun h=>by
   have:=ih x h
   exact ⟨this.1,this.2.1,by omega,this.2.2.2⟩
  unfold pB at hx
  rw [bfsB] at hx
  split at hx
  ·exact old hx
  ·rename_i y hy
   split at hx
   ·exact old hx
   ·rcases List.mem_append.1 hx with h | h
    ·exact old h
    ·have hK:0<a.Inputs.toNat:=by have:=T.a1.i1;omega
     have hy':=ih y (List.mem_of_getElem? hy)
     have ha:=Nat.mod_lt r hK
     have hxe:x=(pE a b y.1 (r%a.Inputs.toNat),y.2++[(↑(r%a.Inputs.toNat):Int)]):=by simpa using h
     subst hxe
     refine ⟨(T.a1.at hy'.1 ha).1,(T.b1.at hy'.2.1 (by rw [← T.inp];exact ha)).1,by simp;omega,?_,?_,?_⟩
     ·simp only
      rw [dest_append,hy'.2.2.2.1]
      show nx a y.1.1 (Int.toNat _)=_
      rw [Int.toNat_natCast]
      rfl
     ·simp only
      rw [dest_append,hy'.2.2.2.2.1]
      show nx b y.1.2 (Int.toNat _)=_
      rw [Int.toNat_natCast]
      rfl
     ·refine WOk.append hy'.2.2.2.2.2 fun z ha'=>?_
      have:z=(↑(r%a.Inputs.toNat):Int):=by simpa using ha'
      subst this
      omega
theorem pB_len (T:Two a b) {p0:Nat×Nat} (h1:p0.1<a.Next.length) (h2:p0.2<b.Next.length) (r:Nat):(pB a b p0 r).length≤a.Next.length*b.Next.length:=by
 have hn:=bfs_nodup (e:=pE a b) (K:=a.Inputs.toNat) (s0:=p0) r
 have:=nodup_le (l:=(((pB a b p0 r).map Prod.fst).map fun p=>p.1*b.Next.length+p.2)) (l':=List.range (a.Next.length*b.Next.length)) ?_ fun x hx=>?_
 ·rwa [List.length_map,List.length_map,List.length_range] at this
 ·refine List.Pairwise.map _ (R:=fun p q=>p∈(pB a b p0 r).map Prod.fst∧q∈(pB a b p0 r).map Prod.fst∧p≠q) (fun p q ⟨hp,hq,hne⟩ he=>?_) (List.Pairwise.imp_of_mem (fun {p q} hp hq hne=>⟨hp,hq,hne⟩) hn)
  obtain ⟨x,hx,rfl⟩:=List.mem_map.1 hp
  obtain ⟨y,hy,rfl⟩:=List.mem_map.1 hq
  have hx2:=(pB_rng T h1 h2 r x hx).2.1
  have hy2:=(pB_rng T h1 h2 r y hy).2.1
  have he:x.1.1*b.Next.length+x.1.2=y.1.1*b.Next.length+y.1.2:=he
  have e1:=dm_div (i:=x.1.1) hx2
  have e2:=dm_div (i:=y.1.1) hy2
  have e3:=dm_mod (i:=x.1.1) hx2
  have e4:=dm_mod (i:=y.1.1) hy2
  rw [he] at e1 e3
  exact hne (Prod.ext (by rw [← e1,e2]) (by rw [← e3,e4]))
 ·obtain ⟨p,hp,rfl⟩:=List.mem_map.1 hx
  obtain ⟨y,hy,rfl⟩:=List.mem_map.1 hp
  exact List.mem_range.2 (mem_lt (pB_rng T h1 h2 r y hy).1 (pB_rng T h1 h2 r y hy).2.1)
theorem pB_step {p0:Nat×Nat} {i c:Nat} {x:(Nat×Nat)×List Int} (hc:c<a.Inputs.toNat) (hx:(pB a b p0 (i*a.Inputs.toNat+c))[i]?=some x) :
  pB a b p0 (i*a.Inputs.toNat+(c+1))=if pE a b x.1 c∈(pB a b p0 (i*a.Inputs.toNat+c)).map Prod.fst then pB a b p0 (i*a.Inputs.toNat+c) else pB a b p0 (i*a.Inputs.toNat+c)++[(pE a b x.1 c,x.2++[(↑c:Int)])]:=by
 have h:=bfs_step (e:=pE a b) (s0:=p0) hc hx
 by_cases g:pE a b x.1 c∈(pB a b p0 (i*a.Inputs.toNat+c)).map Prod.fst
 ·rw [if_pos g]
  exact h.trans (if_pos g)
 ·rw [if_neg g]
  exact h.trans (if_neg g)
theorem pB_next {p0:Nat×Nat} {i:Nat}:pB a b p0 (i*a.Inputs.toNat+a.Inputs.toNat)=pB a b p0 ((i+1)*a.Inputs.toNat):=by rw [Nat.succ_mul]
theorem pB_get {p0:Nat×Nat} {i r:Nat} {x:(Nat×Nat)×List Int} (hx:(pB a b p0 (i*a.Inputs.toNat))[i]?=some x) (hr:i*a.Inputs.toNat≤r):(pB a b p0 r)[i]?=some x:=pre_get (bfs_pre hr) hx
def Fst (a b:T_api_Mealy) (p0:Nat×Nat) (res:List Int×Bool):Prop :=
 (∃ i c x,c<a.Inputs.toNat∧(pB a b p0 (i*a.Inputs.toNat+c))[i]?=some x∧ot a x.1.1 c≠ot b x.1.2 c∧(∀ r,r<i*a.Inputs.toNat+c→difB a b p0 r=false)∧res=(x.2++[(↑c:Int)],true)) ∨
 (∃ L,PEnd a b p0 L∧(∀ r,r<L.length*a.Inputs.toNat→difB a b p0 r=false)∧res=([],false))
theorem fst_uniq (hK:0<a.Inputs.toNat) {p0:Nat×Nat} {u v:List Int×Bool} (hu:Fst a b p0 u) (hv:Fst a b p0 v):u=v:=by
 have cross:∀ {u v:List Int×Bool},(∃ i c x,c<a.Inputs.toNat∧(pB a b p0 (i*a.Inputs.toNat+c))[i]?=some x∧ot a x.1.1 c≠ot b x.1.2 c∧(∀ r,r<i*a.Inputs.toNat+c→difB a b p0 r=false)∧u=(x.2++[(↑c:Int)],true))→(∃ L,PEnd a b p0 L∧(∀ r,r<L.length*a.Inputs.toNat→difB a b p0 r=false)∧v=([],false))→False:=by
  rintro u v ⟨i,c,x,h1,h2,h3,h4,_⟩ ⟨L,h6,h7,_⟩
  rcases Nat.lt_or_ge (i*a.Inputs.toNat+c) (L.length*a.Inputs.toNat) with g | g
  ·have:=h7 _ g
   rw [difB_at h1 h2,decide_eq_true h3] at this
   cases this
  ·have hs:=bfs_stay h6 hK (i*a.Inputs.toNat+c-L.length*a.Inputs.toNat)
   rw [show L.length*a.Inputs.toNat+(i*a.Inputs.toNat+c-L.length*a.Inputs.toNat)=i*a.Inputs.toNat+c by omega] at hs
   have h2':(bfsB (pE a b) a.Inputs.toNat p0 (i*a.Inputs.toNat+c))[i]?=some x:=h2
   rw [hs] at h2'
   have hi:=(List.getElem?_eq_some_iff.1 h2').1
   have:=mem_lt hi h1
   omega
 rcases hu with hu | hu<;>rcases hv with hv | hv
 ·obtain ⟨i,c,x,h1,h2,h3,h4,rfl⟩:=hu
  obtain ⟨i',c',x',g1,g2,g3,g4,rfl⟩:=hv
  have hr:i*a.Inputs.toNat+c=i'*a.Inputs.toNat+c':=by
   rcases Nat.lt_trichotomy (i*a.Inputs.toNat+c) (i'*a.Inputs.toNat+c') with q | q | q
   ·have:=g4 _ q
    rw [difB_at h1 h2,decide_eq_true h3] at this
    cases this
   ·exact q
   ·have:=h4 _ q
    rw [difB_at g1 g2,decide_eq_true g3] at this
    cases this
  have e1:i=i':=by rw [← dm_div (i:=i) h1,hr,dm_div g1]
  subst e1
  have e2:c=c':=by omega
  subst e2
  rw [h2] at g2
  injection g2 with g2
  rw [g2]
 ·exact (cross hu hv).elim
 ·exact (cross hv hu).elim
 ·obtain ⟨_,_,_,rfl⟩:=hu
  obtain ⟨_,_,_,rfl⟩:=hv
  rfl
end
end Go.Proofs.Ytkfaepfljlphoaa.Sym

/-
 The first word that has different outputs: the loops. Plain laws.
-/
namespace Go.Proofs.Ytkfaepfljlphoaa.Sym
set_option maxRecDepth 100000
section
variable {a b:T_api_Mealy}
def plC (x:(Nat×Nat)×List Int):T_equiv_place:=⟨⟨(↑x.1.1:Int),(↑x.1.2:Int)⟩,x.2⟩
theorem map_get {α β:Type} {f:α→β} {l:List α} {i:Nat} {x:α} (h:l[i]?=some x):(l.map f)[i]?=some (f x):=by rw [List.getElem?_map,h];rfl
structure SeenG (n k:Nat) (y:List (List Bool)) (l:List (Nat×Nat)):Prop where
 len:y.length=n
 at_:∀ s t,s<n→t<k→∃ row,y[s]?=some row∧row.length=k∧row[t]?=some (decide ((s,t)∈l))
theorem pair_mem {l:List (Nat×Nat)} {p q:Nat×Nat} (h:p≠q):p∈l↔p∈l++[q]:=by
 rw [List.mem_append,List.mem_singleton]
 exact ⟨Or.inl,fun z=>z.elim id fun e=>absurd e h⟩
theorem SeenG.push {n k s t:Nat} {y:List (List Bool)} {l:List (Nat×Nat)} {row:List Bool} (S:SeenG n k y l) (hs:s<n) (ht:t<k) (hr:y[s]?=some row):SeenG n k (y.set s (row.set t true)) (l++[(s,t)]):=by
 refine ⟨by simp [S.len],fun u v hu hv=>?_⟩
 obtain ⟨row',h1,h2,h3⟩:=S.at_ u v hu hv
 by_cases h:s=u
 ·subst h
  rw [hr] at h1
  injection h1 with h1
  subst h1
  refine ⟨row.set t true,by rw [List.getElem?_set_self (by rw [S.len];exact hs)],by simp [h2],?_⟩
  by_cases g:t=v
  ·subst g
   rw [List.getElem?_set_self (by omega)]
   simp
  ·rw [List.getElem?_set_ne g,h3]
   congr 1
   apply decide_eq_decide.2
   exact pair_mem fun e=>g (congrArg Prod.snd e).symm
 ·refine ⟨row',by rw [List.getElem?_set_ne h,h1],h2,?_⟩
  rw [h3]
  congr 1
  apply decide_eq_decide.2
  exact pair_mem fun e=>h (congrArg Prod.fst e).symm
theorem seenG_nil (n k:Nat):SeenG n k (List.replicate n (List.replicate k false)) []:=⟨by simp,fun s t hs ht=>⟨List.replicate k false,by simp [hs],by simp,by simp [ht]⟩⟩
theorem big_sum {i c n k K:Nat} (hi:i≤n*k) (hn:n≤128) (hk:k≤128) (hK:K≤64) (hc:c≤64):i*K+c≤1048640:=by
 have h1:n*k≤128*128:=Nat.mul_le_mul hn hk
 have h2:i*K≤(128*128)*64:=Nat.mul_le_mul (by omega) hK
 omega
theorem search_row (T:Two a b) {p0:Nat×Nat} (h1:p0.1<a.Next.length) (h2:p0.2<b.Next.length) {i:Nat} {x:(Nat×Nat)×List Int} {y:List (List Bool)} (hi:i≤a.Next.length*b.Next.length)
  (hx:(pB a b p0 (i*a.Inputs.toNat))[i]?=some x) (S:SeenG a.Next.length b.Next.length y ((pB a b p0 (i*a.Inputs.toNat)).map Prod.fst)) (hd:∀ r,r<i*a.Inputs.toNat→difB a b p0 r=false) :
  ∃ r,iter (fun (s:List (List Bool)×List T_equiv_place×Nat)=>equiv_search.s20 a b i (plC x) s.1 s.2.1 s.2.2) fuel (y,(pB a b p0 (i*a.Inputs.toNat)).map plC,0)=some r ∧
   ((∃ y',r=.inl (y',(pB a b p0 ((i+1)*a.Inputs.toNat)).map plC)∧SeenG a.Next.length b.Next.length y' ((pB a b p0 ((i+1)*a.Inputs.toNat)).map Prod.fst)∧∀ r,r<(i+1)*a.Inputs.toNat→difB a b p0 r=false) ∨
   (∃ res,r=.inr (.inr (.inr res))∧Fst a b p0 res)):=by
 have han:=T.a1.n2
 have hbn:=T.b1.n2
 have hI:=T.a1.i2
 have hxr:=pB_rng T h1 h2 _ x (List.mem_of_getElem? hx)
 obtain ⟨r,hr,hq⟩:=iter_post (step:=fun (s:List (List Bool)×List T_equiv_place×Nat)=>equiv_search.s20 a b i (plC x) s.1 s.2.1 s.2.2) (fun s=>s.2.2≤a.Inputs.toNat∧s.2.1=(pB a b p0 (i*a.Inputs.toNat+s.2.2)).map plC∧SeenG a.Next.length b.Next.length s.1 ((pB a b p0 (i*a.Inputs.toNat+s.2.2)).map Prod.fst)∧∀ r,r<i*a.Inputs.toNat+s.2.2→difB a b p0 r=false) (fun s=>a.Inputs.toNat-s.2.2) (fun r=>(∃ y',r=.inl (y',(pB a b p0 ((i+1)*a.Inputs.toNat)).map plC)∧SeenG a.Next.length b.Next.length y' ((pB a b p0 ((i+1)*a.Inputs.toNat)).map Prod.fst)∧∀ r,r<(i+1)*a.Inputs.toNat→difB a b p0 r=false)∨(∃ res,r=.inr (.inr (.inr res))∧Fst a b p0 res)) (fun s ⟨q1,q2,q3,q4⟩=>by
  obtain ⟨y,l,c⟩:=s
  simp only at q1 q2 q3 q4
  subst q2
  simp only [equiv_search.s20]
  by_cases g:c<a.Inputs.toNat
  ·have hxc:=pB_get hx (r:=i*a.Inputs.toNat+c) (by omega)
   obtain ⟨g1,_,_,ra,oa,e1,e2,e3,e4⟩:=T.a1.at hxr.1 g
   obtain ⟨f1,_,_,rb,ob,d1,d2,d3,d4⟩:=T.b1.at hxr.2.1 (a:=c) (by rw [← T.inp];exact g)
   have hbig:=big_sum (c:=c) hi han hbn (K:=a.Inputs.toNat) (by omega) (by omega)
   have hlen:=pB_len T h1 h2 (i*a.Inputs.toNat+c)
   have hnn:a.Next.length*b.Next.length≤128*128:=Nat.mul_le_mul han hbn
   rw [decide_eq_true (by omega),cond_true,idx_at (n:=(plC x).at_.s) (i:=x.1.1) rfl e2,idxn_at e4,idx_at (n:=(plC x).at_.t) (i:=x.1.2) rfl d2,idxn_at d4]
   by_cases hne:ot a x.1.1 c≠ot b x.1.2 c
   ·right
    rw [decide_eq_true hne,cond_true,idxn_at (map_get hxc)]
    show ∃ r,((word_Join [x.2,[(↑c:Int)]]).bind _:Option _)=_∧_
    rw [word_Join_eq _ (by simp) (by simp;omega),obind]
    refine ⟨_,rfl,Or.inr ⟨_,rfl,Or.inl ⟨i,c,x,g,hxc,hne,q4,?_⟩⟩⟩
    simp
   ·left
    have heq:ot a x.1.1 c=ot b x.1.2 c:=Classical.byContradiction hne
    have hd':∀ r,r<i*a.Inputs.toNat+(c+1)→difB a b p0 r=false:=fun r hr=>by
     rcases Nat.lt_or_ge r (i*a.Inputs.toNat+c) with q | q
     ·exact q4 r q
     ·have:r=i*a.Inputs.toNat+c:=by omega
      rw [this,difB_at g hxc,decide_eq_false hne]
    have hstep:=pB_step g hxc
    obtain ⟨row,r1,r2,r3⟩:=q3.at_ _ _ g1 f1
    have hxm:x.1∈(pB a b p0 (i*a.Inputs.toNat+c)).map Prod.fst:=List.mem_map.2 ⟨x,List.mem_of_getElem? hxc,rfl⟩
    have htest:((cond (!(decide ((↑(nx a x.1.1 c):Int)=(plC x).at_.s)&&(decide ((↑(nx b x.1.2 c):Int)=(plC x).at_.t)&&true))) (idx y (↑(nx a x.1.1 c):Int) fun e1288=>idx e1288 (↑(nx b x.1.2 c):Int) fun e1289=>some (!e1289)) (some false):Option Bool))=some (!decide (pE a b x.1 c∈(pB a b p0 (i*a.Inputs.toNat+c)).map Prod.fst)):=by
     by_cases z:pE a b x.1 c=x.1
     ·have z1:nx a x.1.1 c=x.1.1:=congrArg Prod.fst z
      have z2:nx b x.1.2 c=x.1.2:=congrArg Prod.snd z
      rw [decide_eq_true (show (↑(nx a x.1.1 c):Int)=(plC x).at_.s by rw [z1];rfl),decide_eq_true (show (↑(nx b x.1.2 c):Int)=(plC x).at_.t by rw [z2];rfl),z,decide_eq_true hxm]
      rfl
     ·have:(!(decide ((↑(nx a x.1.1 c):Int)=(plC x).at_.s)&&(decide ((↑(nx b x.1.2 c):Int)=(plC x).at_.t)&&true)))=true:=by
       by_cases z1:nx a x.1.1 c=x.1.1
       ·have z2:nx b x.1.2 c≠x.1.2:=fun q=>z (Prod.ext z1 q)
        rw [decide_eq_false (show ¬ (↑(nx b x.1.2 c):Int)=(plC x).at_.t from fun q=>z2 (Int.ofNat_inj.1 q))]
        simp
       ·rw [decide_eq_false (show ¬ (↑(nx a x.1.1 c):Int)=(plC x).at_.s from fun q=>z1 (Int.ofNat_inj.1 q))]
        rfl
      rw [this,cond_true,idx_at rfl r1,idx_at rfl r3]
      rfl
    rw [decide_eq_false hne,cond_false,idx_at (n:=(plC x).at_.s) (i:=x.1.1) rfl e1,idxn_at e3,idx_at (n:=(plC x).at_.t) (i:=x.1.2) rfl d1,idxn_at d3,htest,obind]
    by_cases hm:pE a b x.1 c∈(pB a b p0 (i*a.Inputs.toNat+c)).map Prod.fst
    ·rw [if_pos hm] at hstep
     refine ⟨(y,(pB a b p0 (i*a.Inputs.toNat+c)).map plC,c+1),by rw [decide_eq_true hm,Bool.not_true,cond_false,chk_pos (by unfold inR;omega)],⟨g,by simp only;rw [hstep],by simp only;rw [hstep];exact q3,hd'⟩,by simp only;omega⟩
    ·rw [if_neg hm] at hstep
     refine ⟨(y.set (nx a x.1.1 c) (row.set (nx b x.1.2 c) true),(pB a b p0 (i*a.Inputs.toNat+c)).map plC++[plC (pE a b x.1 c,x.2++[(↑c:Int)])],c+1),?_,⟨g,by simp only;rw [hstep,List.map_append];rfl,by simp only;rw [hstep,List.map_append];exact q3.push g1 f1 r1,hd'⟩,by simp only;omega⟩
     rw [decide_eq_false hm,Bool.not_false,cond_true,idx_at rfl r1,idx_at rfl r3,idxn_at (map_get hxc)]
     show (word_Join [x.2,[(↑c:Int)]]).bind _=_
     rw [word_Join_eq _ (by simp) (by simp;omega),obind,chk_pos (by unfold capOk;rw [List.length_map];omega),chk_pos (by unfold inR;omega),Int.toNat_natCast,Int.toNat_natCast]
     simp [plC,pE]
  ·right
   have e':c=a.Inputs.toNat:=by omega
   subst e'
   rw [pB_next] at q3 ⊢
   exact ⟨_,by rw [decide_eq_false (by omega),cond_false],Or.inl ⟨_,rfl,q3,by rw [Nat.succ_mul];exact q4⟩⟩) fuel (y,(pB a b p0 (i*a.Inputs.toNat)).map plC,0) ⟨Nat.zero_le _,rfl,S,hd⟩ (by have:=fuel_big;simp only;omega)
 exact ⟨r,hr,hq⟩
theorem equiv_search_eq (T:Two a b) {p0:Nat×Nat} (h1:p0.1<a.Next.length) (h2:p0.2<b.Next.length):∃ res,equiv_search a b (⟨(↑p0.1:Int),(↑p0.2:Int)⟩:T_equiv_pair)=some res∧Fst a b p0 res:=by
 have han:=T.a1.n2
 have hbn:=T.b1.n2
 have hI:=T.a1.i2
 have hnn:a.Next.length*b.Next.length≤128*128:=Nat.mul_le_mul han hbn
 unfold equiv_search
 have grid:=iter_eq (step:=fun (s:List (List Bool)×Nat)=>equiv_search.s2 a b s.1 s.2) (r:=List.replicate a.Next.length (List.replicate b.Next.length false)) (fun s=>s.2≤a.Next.length∧s.1=List.replicate s.2 (List.replicate b.Next.length false)++List.replicate (a.Next.length-s.2) []) (fun s=>a.Next.length-s.2) (fun s ⟨q1,q2⟩=>by
  obtain ⟨y,k⟩:=s
  simp only at q1 q2
  subst q2
  simp only [equiv_search.s2]
  by_cases g:k<a.Next.length
  ·left
   refine ⟨(List.replicate (k+1) (List.replicate b.Next.length false)++List.replicate (a.Next.length-(k+1)) [],k+1),?_,⟨g,rfl⟩,by simp only;omega⟩
   have hk:(List.replicate k (List.replicate b.Next.length false)++List.replicate (a.Next.length-k) [])[k]?=some []:=by
    rw [List.getElem?_append_right (by simp),List.length_replicate,Nat.sub_self,List.getElem?_replicate,if_pos (by omega)]
   rw [List.length_replicate,decide_eq_true (by omega),cond_true,chk_pos ⟨by omega,by omega,by unfold capOk;omega⟩,idxn_at hk,chk_pos (by unfold inR;omega)]
   congr 4
   rw [List.set_append_right _ _ (by simp),List.length_replicate,Nat.sub_self,show a.Next.length-k=(a.Next.length-(k+1))+1 by omega,List.replicate_succ,List.set_cons_zero,List.replicate_succ' (n:=k)]
   simp
  ·right
   have:k=a.Next.length:=by omega
   subst this
   rw [List.length_replicate,decide_eq_false (by omega),cond_false]
   simp) (n:=fuel) (s:=(List.replicate a.Next.length [],0)) ⟨Nat.zero_le _,by simp⟩ (by have:=fuel_big;simp only;omega)
 obtain ⟨row,r1,r2,r3⟩:=(seenG_nil a.Next.length b.Next.length).at_ _ _ h1 h2
 have hS:=(seenG_nil a.Next.length b.Next.length).push h1 h2 r1
 rw [chk_pos ⟨by omega,by omega,by unfold capOk;omega⟩,grid,obind]
 simp only
 rw [idx_at rfl r1,idx_at rfl r3,Int.toNat_natCast,Int.toNat_natCast]
 obtain ⟨r,hr,hq⟩:=iter_post (step:=fun (s:List (List Bool)×List T_equiv_place×Nat)=>equiv_search.s22 a b s.1 s.2.1 s.2.2) (fun s=>s.2.2≤(pB a b p0 (s.2.2*a.Inputs.toNat)).length∧s.2.1=(pB a b p0 (s.2.2*a.Inputs.toNat)).map plC∧SeenG a.Next.length b.Next.length s.1 ((pB a b p0 (s.2.2*a.Inputs.toNat)).map Prod.fst)∧∀ r,r<s.2.2*a.Inputs.toNat→difB a b p0 r=false) (fun s=>a.Next.length*b.Next.length+1-s.2.2) (fun r=>(r=.inl ()∧Fst a b p0 ([],false))∨∃ res,r=.inr res∧Fst a b p0 res) (fun s ⟨q1,q2,q3,q4⟩=>by
  obtain ⟨y,l,i⟩:=s
  simp only at q1 q2 q3 q4
  subst q2
  simp only [equiv_search.s22]
  have hlen:=pB_len T h1 h2 (i*a.Inputs.toNat)
  by_cases g:i<(pB a b p0 (i*a.Inputs.toNat)).length
  ·have hx:=get_at g
   generalize (pB a b p0 (i*a.Inputs.toNat))[i]=x at hx
   obtain ⟨r,z1,z2⟩:=search_row T h1 h2 (by omega) hx q3 q4
   rw [decide_eq_true (by rw [List.length_map];omega),cond_true,idxn_at (map_get hx),z1,obind]
   rcases z2 with ⟨y',rfl,z3,z4⟩ | ⟨res,rfl,z3⟩
   ·left
    have hmono:=(bfs_pre (e:=pE a b) (K:=a.Inputs.toNat) (s0:=p0) (show i*a.Inputs.toNat≤(i+1)*a.Inputs.toNat by rw [Nat.succ_mul];omega)).length_le
    exact ⟨(y',(pB a b p0 ((i+1)*a.Inputs.toNat)).map plC,i+1),rfl,⟨by simp only;unfold pB at g ⊢;omega,rfl,z3,z4⟩,by simp only;omega⟩
   ·right
    exact ⟨.inr res,rfl,Or.inr ⟨res,rfl,z3⟩⟩
  ·right
   refine ⟨.inl (),by rw [decide_eq_false (by rw [List.length_map];omega),cond_false],Or.inl ⟨rfl,Or.inr ⟨pB a b p0 (i*a.Inputs.toNat),⟨?_⟩,?_,rfl⟩⟩⟩
   ·rw [show (pB a b p0 (i*a.Inputs.toNat)).length=i by omega]
    rfl
   ·rw [show (pB a b p0 (i*a.Inputs.toNat)).length=i by omega]
    exact q4) fuel ((List.replicate a.Next.length (List.replicate b.Next.length false)).set p0.1 (row.set p0.2 true),[(⟨(⟨(↑p0.1:Int),(↑p0.2:Int)⟩:T_equiv_pair),[]⟩:T_equiv_place)],0) ⟨Nat.zero_le _,by simp only;rw [Nat.zero_mul];simp [pB,bfsB,plC],by
    simp only
    rw [Nat.zero_mul]
    exact hS,fun r hr=>by simp only at hr;omega⟩ (by have:=fuel_big;simp only;omega)
 rw [hr,obind]
 rcases hq with ⟨rfl,hq⟩ | ⟨res,rfl,hq⟩
 ·exact ⟨_,rfl,hq⟩
 ·exact ⟨_,rfl,hq⟩
end
end Go.Proofs.Ytkfaepfljlphoaa.Sym

/-
 The first word that has different outputs: the document's search, and what it says. Plain laws.
-/
namespace Go.Proofs.Ytkfaepfljlphoaa.Sym
set_option maxRecDepth 100000
section
variable {a b:T_api_Mealy}
theorem fst_word (T:Two a b) {p0:Nat×Nat} (h1:p0.1<a.Next.length) (h2:p0.2<b.Next.length) {w:List Int} (h:Fst a b p0 (w,true)):WOk a.Inputs w∧w.length≤1048640∧∃ (v:List Int) (c:Nat),w=v++[(↑c:Int)]∧c<a.Inputs.toNat∧ot a (dest a p0.1 v) c≠ot b (dest b p0.2 v) c:=by
 rcases h with ⟨i,c,x,g1,g2,g3,g4,g5⟩ | ⟨L,_,_,g⟩
 ·injection g5 with g5 _
  have hr:=pB_rng T h1 h2 _ x (List.mem_of_getElem? g2)
  have hlen:=pB_len T h1 h2 (i*a.Inputs.toNat+c)
  have hi:=(List.getElem?_eq_some_iff.1 g2).1
  have:=big_sum (c:=c+1) (i:=i) (by omega) T.a1.n2 T.b1.n2 (K:=a.Inputs.toNat) (by have:=T.a1.i2;omega) (by have:=T.a1.i2;omega)
  refine ⟨?_,?_,x.2,c,g5,g1,by rw [hr.2.2.2.1,hr.2.2.2.2.1];exact g3⟩
  ·rw [g5]
   refine WOk.append hr.2.2.2.2.2 fun z hz=>?_
   have:z=(↑c:Int):=by simpa using hz
   omega
  ·rw [g5]
   simp
   omega
 ·injection g with _ g
  cases g
theorem outs_snoc {m:T_api_Mealy} {v:List Int} {c:Nat} {s:Nat}:outs m s (v++[(↑c:Int)])=outs m s v++[ot m (dest m s v) c]:=by
 rw [outs_append]
 show _++[ot m (dest m s v) (Int.toNat ↑c)]=_
 rw [Int.toNat_natCast]
theorem fst_ne (T:Two a b) {p0:Nat×Nat} (h1:p0.1<a.Next.length) (h2:p0.2<b.Next.length) {w:List Int} (h:Fst a b p0 (w,true)):outs a p0.1 w≠outs b p0.2 w:=by
 obtain ⟨_,_,v,c,rfl,_,h3⟩:=fst_word T h1 h2 h
 intro he
 rw [outs_snoc,outs_snoc] at he
 have:=List.append_inj_right' he rfl
 injection this with this _
 exact h3 this
theorem fst_none {p0:Nat×Nat} {w0:List Int} (h:Fst a b p0 (w0,false)):∀ w,WOk a.Inputs w→outs a p0.1 w=outs b p0.2 w:=by
 rcases h with ⟨i,c,x,_,_,_,_,g⟩ | ⟨L,g1,g2,_⟩
 ·injection g with _ g
  cases g
 ·have key:∀ (w:List Int) (i:Nat) (x:(Nat×Nat)×List Int),L[i]?=some x→WOk a.Inputs w→outs a x.1.1 w=outs b x.1.2 w:=by
   intro w
   induction w with
   | nil=>intro _ _ _ _;rfl
   | cons z w ih =>
    intro i x hx hw
    have hz:=hw.head
    have hc:z.toNat<a.Inputs.toNat:=by omega
    have hi:=(List.getElem?_eq_some_iff.1 hx).1
    obtain ⟨x',e1,e2⟩:=g1.long hi hc
    rw [hx] at e1
    injection e1 with e1
    subst e1
    have hd:=g2 (i*a.Inputs.toNat+z.toNat) (mem_lt hi hc)
    rw [difB_at hc e2] at hd
    have hot:ot a x.1.1 z.toNat=ot b x.1.2 z.toNat:=Classical.byContradiction fun q=>by
     rw [decide_eq_true q] at hd
     cases hd
    obtain ⟨j,y,f1,f2,_⟩:=g1.closed hx hc
    have:=ih j y f1 hw.tail
    rw [f2] at this
    show ot a x.1.1 z.toNat::outs a (nx a x.1.1 z.toNat) w=ot b x.1.2 z.toNat::outs b (nx b x.1.2 z.toNat) w
    rw [hot]
    congr 1
  exact fun w hw=>key w 0 _ g1.first hw
end
end Go.Proofs.Ytkfaepfljlphoaa.Sym

/-
 The minimal machine with its states in the order of their first words is one. Plain laws.
-/
namespace Go.Proofs.Ytkfaepfljlphoaa.Sym
set_option maxRecDepth 100000
structure Can (M:T_api_Mealy):Prop where
 c4:∀ i a u,i<M.Next.length→a<M.Inputs.toNat→0<u→u≤nx M i a→∃ i' a',a'<M.Inputs.toNat∧i'*M.Inputs.toNat+a'≤i*M.Inputs.toNat+a∧i'<u∧nx M i' a'=u
 c5:∀ u,0<u→u<M.Next.length→∃ i a,i<u∧a<M.Inputs.toNat∧nx M i a=u
def Eqv (a:T_api_Mealy) (s:Nat) (b:T_api_Mealy) (t:Nat):Prop:=∀ w,WOk a.Inputs w→outs a s w=outs b t w
structure MinSem (m M:T_api_Mealy):Prop where
 ok:MacOk M
 inp:M.Inputs=m.Inputs
 start:M.Start=0
 eqv:Eqv M 0 m m.Start.toNat
 min:∀ i j,i<M.Next.length→j<M.Next.length→Eqv M i M j→i=j
 can:Can M
theorem Eqv.step {a b:T_api_Mealy} (hi:a.Inputs=b.Inputs) {s t c:Nat} (h:Eqv a s b t) (hc:c<a.Inputs.toNat):ot a s c=ot b t c∧Eqv a (nx a s c) b (nx b t c):=by
 have key:∀ w,WOk a.Inputs w→ot a s c::outs a (nx a s c) w=ot b t c::outs b (nx b t c) w:=fun w hw=>by
  have:=h ((↑c:Int)::w) (fun x hx=>by
   rcases List.mem_cons.1 hx with rfl | hx
   ·omega
   ·exact hw x hx)
  exact this
 have h0:=key [] (fun x hx=>by cases hx)
 injection h0 with h0 _
 refine ⟨h0,fun w hw=>?_⟩
 have:=key w hw
 injection this with _ this
theorem Eqv.symm {a b:T_api_Mealy} (hi:a.Inputs=b.Inputs) {s t:Nat} (h:Eqv a s b t):Eqv b t a s:=fun w hw=>(h w (by rw [hi];exact hw)).symm
theorem Eqv.trans {a b c:T_api_Mealy} (hi:a.Inputs=b.Inputs) {s t u:Nat} (h:Eqv a s b t) (g:Eqv b t c u):Eqv a s c u:=fun w hw=>(h w hw).trans (g w (by rw [← hi];exact hw))
theorem Eqv.refl (a:T_api_Mealy) (s:Nat):Eqv a s a s:=fun _ _=>rfl
theorem Eqv.dest {a b:T_api_Mealy} (hi:a.Inputs=b.Inputs) {s t:Nat} (h:Eqv a s b t) {w:List Int} (hw:WOk a.Inputs w):Eqv a (dest a s w) b (dest b t w):=fun v hv=>by
 have:=h (w++v) (hw.append hv)
 rw [outs_append,outs_append] at this
 exact List.append_inj_right this (by rw [outs_len,outs_len])
section
variable {M M':T_api_Mealy}
end
structure Shape {A:Type} [DecidableEq A] (e:A→Nat→A) (o:A→Nat→Int) (L:List (A×List Int)) (M:T_api_Mealy):Prop where
 len:M.Next.length=L.length
 row:∀ i x a,L[i]?=some x→a<M.Inputs.toNat→∃ y,L[nx M i a]?=some y∧y.1=e x.1 a∧ot M i a=o x.1 a
theorem nodup_at {A:Type} {l:List A} (h:l.Nodup) {i j:Nat} {x:A} (hi:l[i]?=some x) (hj:l[j]?=some x):i=j:=by
 have h1:=(List.getElem?_eq_some_iff.1 hi)
 have h2:=(List.getElem?_eq_some_iff.1 hj)
 obtain ⟨a1,a2⟩:=h1
 obtain ⟨b1,b2⟩:=h2
 rcases Nat.lt_trichotomy i j with q | q | q
 ·exact absurd (a2.trans b2.symm) (List.pairwise_iff_getElem.1 h i j a1 b1 q)
 ·exact q
 ·exact absurd (b2.trans a2.symm) (List.pairwise_iff_getElem.1 h j i b1 a1 q)
theorem shape_can {A:Type} [DecidableEq A] {e:A→Nat→A} {o:A→Nat→Int} {s0:A} {L:List (A×List Int)} {M:T_api_Mealy} (hE:BfsEnd e M.Inputs.toNat s0 L) (S:Shape e o L M) (hK:0<M.Inputs.toNat):Can M:=by
 have at_:∀ i a x y j,L[i]?=some x→a<M.Inputs.toNat→L[j]?=some y→y.1=e x.1 a→nx M i a=j:=fun i a x y j hx ha hj he=>by
  obtain ⟨y',h1,h2,_⟩:=S.row i x a hx ha
  exact nodup_at hE.nodup (x:=e x.1 a) (by rw [List.getElem?_map,h1,← h2];rfl) (by rw [List.getElem?_map,hj,← he];rfl)
 refine ⟨fun i a u hi ha hu hle=>?_,fun u hu hlt=>?_⟩
 ·have hx:=get_at (l:=L) (i:=i) (by rw [← S.len];exact hi)
  obtain ⟨j,y,h1,h2,h3⟩:=hE.closed hx ha
  rw [at_ i a _ y j hx ha h1 h2] at hle
  obtain ⟨i',a',z,w,g1,g2,g3,g4,g5,g6⟩:=h3 u hu hle
  exact ⟨i',a',g1,g2,g3,at_ i' a' z w u g4 g1 g5 g6⟩
 ·have hx:=get_at (l:=L) (i:=u) (by rw [← S.len];exact hlt)
  rcases hE.from hK hx with q | ⟨i,a,y,g1,g2,g3,g4⟩
  ·omega
  ·exact ⟨i,a,g1,g2,at_ i a y _ u g3 g2 hx (by rw [g4])⟩
end Go.Proofs.Ytkfaepfljlphoaa.Sym

/-
 The machine of what is reached: the program's Trim. Plain laws.
-/
namespace Go.Proofs.Ytkfaepfljlphoaa.Sym
set_option maxRecDepth 100000
section
variable {m:T_api_Mealy}
theorem libclone_w {w:List Int} (h:w.length≤1000000):lib_Clone_int w=some w:=libclone_word (by unfold SmW;omega)
structure TrimOk (m t:T_api_Mealy) (L:List (Nat×List Int)):Prop where
 end_:MEnd m m.Start.toNat L
 inp:t.Inputs=m.Inputs
 start:t.Start=0
 ok:MacOk t
 shape:Shape (nx m) (ot m) L t
theorem mEnd_rng (H:MacOk m) {s0:Nat} {L:List (Nat×List Int)} (hs:s0<m.Next.length) (hE:MEnd m s0 L):L.length≤m.Next.length∧∀ x∈L,x.1<m.Next.length∧dest m s0 x.2=x.1∧WOk m.Inputs x.2:=by
 refine ⟨?_,fun x hx=>?_⟩
 ·rw [hE.eq]
  exact mB_len H hs _
 ·rw [hE.eq] at hx
  have:=mB_rng H hs _ x hx
  exact ⟨this.1,this.2.2⟩
theorem mealy_Trim_eq (hv:validM m=0):∃ t L,mealy_Trim m=some (t,0)∧TrimOk m t L:=by
 have H:=valid_ok hv
 have hst:=H.st
 have hn:=H.n2
 have hI:=H.i2
 have hI1:=H.i1
 have hs:m.Start.toNat<m.Next.length:=by omega
 obtain ⟨L,hE,hR⟩:=mealy_Reach_eq hv
 obtain ⟨hLn,hLr⟩:=mEnd_rng H hs hE
 have hnd:=hE.nodup
 unfold mealy_Trim
 rw [mealy_Valid_eq,obind,hv,decide_eq_false (by decide),cond_false,hR,obind,chk_pos ⟨by omega,by omega,by unfold capOk;omega⟩]
 -- the numbers
 obtain ⟨num,hnum,hnl,hna⟩:=iter_post (step:=fun (s:List Int×Nat)=>mealy_Trim.s2 (natI (L.map Prod.fst)) s.1 s.2) (fun s=>s.2≤L.length∧s.1.length=m.Next.length∧∀ (j:Nat) (x:Nat×List Int),j<s.2→L[j]?=some x→s.1[x.1]?=some (↑j:Int)) (fun s=>L.length-s.2) (fun r=>r.length=m.Next.length∧∀ (j:Nat) (x:Nat×List Int),L[j]?=some x→r[x.1]?=some (↑j:Int)) (fun s ⟨q1,q2,q3⟩=>by
  obtain ⟨y,i⟩:=s
  simp only at q1 q2 q3
  simp only [mealy_Trim.s2]
  by_cases g:i<L.length
  ·left
   have hx:=get_at g
   generalize L[i]=x at hx
   have hxr:=(hLr x (List.mem_of_getElem? hx)).1
   have hy:=get_at (l:=y) (i:=x.1) (by omega)
   refine ⟨(y.set x.1 (↑i:Int),i+1),?_,⟨g,by simp [q2],fun j z hj hz=>?_⟩,by simp only;omega⟩
   ·rw [decide_eq_true (by rw [natI_len,List.length_map];omega),cond_true,idxn_at (natI_at (i:=i) (u:=x.1) (by rw [List.getElem?_map,hx];rfl)),idx_at rfl hy,Int.toNat_natCast]
   ·simp only
    by_cases e:x.1=z.1
    ·have:i=j:=nodup_at hnd (x:=x.1) (by rw [List.getElem?_map,hx];rfl) (by rw [List.getElem?_map,hz,e];rfl)
     subst this
     rw [← e,List.getElem?_set_self (by omega)]
    ·rw [List.getElem?_set_ne e]
     rcases Nat.lt_or_ge j i with h | h
     ·exact q3 j z h hz
     ·have:j=i:=by simp only at hj;omega
      subst this
      rw [hx] at hz
      injection hz with hz
      rw [hz] at e
      exact absurd rfl e
  ·right
   exact ⟨y,by rw [decide_eq_false (by rw [natI_len,List.length_map];omega),cond_false],q2,fun j x hx=>q3 j x (by have:=(List.getElem?_eq_some_iff.1 hx).1;omega) hx⟩) fuel (List.replicate m.Next.length 0,0) ⟨Nat.zero_le _,by simp,fun j x h=>absurd h (Nat.not_lt_zero _)⟩ (by have:=fuel_big;simp only;omega)
 rw [hnum,obind]
 -- one row
 have row1:∀ (x:Nat×List Int) (row:List Int),x∈L→m.Next[x.1]?=some row→∃ r,iter (fun (s:List Int×Nat)=>mealy_Trim.s15 num row s.1 s.2) fuel (List.replicate (Int.toNat m.Inputs) 0,0)=some r∧r.length=m.Inputs.toNat∧∀ a,a<m.Inputs.toNat→∃ (j:Nat) (y:Nat×List Int),L[j]?=some y∧y.1=nx m x.1 a∧r[a]?=some (↑j:Int):=by
  intro x row hx hrow
  have hxr:=(hLr x hx).1
  have hrl:row.length=m.Inputs.toNat:=by
   obtain ⟨x',y',h1,_,h3,_⟩:=H.row x.1 hxr
   rw [hrow] at h1
   injection h1 with h1
   subst h1
   omega
  obtain ⟨i,hi⟩:=List.mem_iff_getElem?.1 hx
  exact iter_post (step:=fun (s:List Int×Nat)=>mealy_Trim.s15 num row s.1 s.2) (fun s=>s.2≤m.Inputs.toNat∧s.1.length=m.Inputs.toNat∧∀ a,a<s.2→∃ (j:Nat) (y:Nat×List Int),L[j]?=some y∧y.1=nx m x.1 a∧s.1[a]?=some (↑j:Int)) (fun s=>m.Inputs.toNat-s.2) (fun r=>r.length=m.Inputs.toNat∧∀ a,a<m.Inputs.toNat→∃ (j:Nat) (y:Nat×List Int),L[j]?=some y∧y.1=nx m x.1 a∧r[a]?=some (↑j:Int)) (fun s ⟨q1,q2,q3⟩=>by
   obtain ⟨y,a⟩:=s
   simp only at q1 q2 q3
   simp only [mealy_Trim.s15]
   by_cases g:a<m.Inputs.toNat
   ·left
    obtain ⟨h1,_,_,x',y',h2,_,h4,_⟩:=H.at hxr g
    rw [hrow] at h2
    injection h2 with h2
    subst h2
    obtain ⟨j,z,z1,z2,_⟩:=hE.closed hi g
    have hy:=get_at (l:=y) (i:=a) (by omega)
    have hnz:=hna j z z1
    rw [z2] at hnz
    refine ⟨(y.set a (↑j:Int),a+1),?_,⟨g,by simp [q2],fun b hb=>?_⟩,by simp only;omega⟩
    ·rw [decide_eq_true (by omega),cond_true,idxn_at h4,idx_at rfl hnz,idxn_at hy]
    ·simp only
     by_cases e:a=b
     ·subst e
      exact ⟨j,z,z1,z2,by rw [List.getElem?_set_self (by omega)]⟩
     ·obtain ⟨j',z',w1,w2,w3⟩:=q3 b (by simp only at hb;omega)
      exact ⟨j',z',w1,w2,by rw [List.getElem?_set_ne e,w3]⟩
   ·right
    have:a=m.Inputs.toNat:=by omega
    subst this
    exact ⟨y,by rw [decide_eq_false (by omega),cond_false],q2,q3⟩) fuel (List.replicate (Int.toNat m.Inputs) 0,0) ⟨Nat.zero_le _,by simp,fun a h=>absurd h (Nat.not_lt_zero _)⟩ (by have:=fuel_big;simp only;omega)
 -- all rows
 obtain ⟨r,hr,P,Q,rfl,p1,p2,p3⟩:=iter_post (step:=fun (s:List (List Int)×List (List Int)×Nat)=>mealy_Trim.s16 m (natI (L.map Prod.fst)) num s.1 s.2.1 s.2.2) (fun s=>s.2.2≤L.length∧s.1.length=s.2.2∧s.2.1.length=s.2.2∧∀ (i:Nat) (x:Nat×List Int),i<s.2.2→L[i]?=some x→(∃ r,s.1[i]?=some r∧r.length=m.Inputs.toNat∧∀ a,a<m.Inputs.toNat→∃ (j:Nat) (y:Nat×List Int),L[j]?=some y∧y.1=nx m x.1 a∧r[a]?=some (↑j:Int))∧s.2.1[i]?=m.Out[x.1]?) (fun s=>L.length-s.2.2) (fun r=>∃ P Q,r=(P,Q)∧P.length=L.length∧Q.length=L.length∧∀ (i:Nat) (x:Nat×List Int),L[i]?=some x→(∃ r,P[i]?=some r∧r.length=m.Inputs.toNat∧∀ a,a<m.Inputs.toNat→∃ (j:Nat) (y:Nat×List Int),L[j]?=some y∧y.1=nx m x.1 a∧r[a]?=some (↑j:Int))∧Q[i]?=m.Out[x.1]?) (fun s ⟨q1,q2,q3,q4⟩=>by
  obtain ⟨P,Q,i⟩:=s
  simp only at q1 q2 q3 q4
  simp only [mealy_Trim.s16]
  by_cases g:i<L.length
  ·left
   have hx:=get_at g
   generalize L[i]=x at hx
   have hxm:=List.mem_of_getElem? hx
   have hxr:=(hLr x hxm).1
   obtain ⟨row,out,e1,e2,e3,e4,_⟩:=H.row x.1 hxr
   obtain ⟨r,f1,f2,f3⟩:=row1 x row hxm e1
   refine ⟨(P++[r],Q++[out],i+1),?_,⟨g,by simp [q2],by simp [q3],fun j z hj hz=>?_⟩,by simp only;omega⟩
   ·rw [decide_eq_true (by rw [natI_len,List.length_map];omega),cond_true,idxn_at (natI_at (i:=i) (u:=x.1) (by rw [List.getElem?_map,hx];rfl)),chk_pos ⟨by omega,by omega,by unfold capOk;omega⟩,idx_at rfl e1,f1,obind,chk_pos (by unfold capOk;omega),idx_at rfl e2,libclone_w (by omega),obind,chk_pos (by unfold capOk;omega)]
   ·simp only
    rcases Nat.lt_or_ge j i with h | h
    ·obtain ⟨⟨r',w1,w2⟩,w3⟩:=q4 j z h hz
     exact ⟨⟨r',by rw [List.getElem?_append_left (by omega),w1],w2⟩,by rw [List.getElem?_append_left (by omega),w3]⟩
    ·have:j=i:=by simp only at hj;omega
     subst this
     rw [hx] at hz
     injection hz with hz
     subst hz
     refine ⟨⟨r,?_,f2,f3⟩,?_⟩
     ·rw [List.getElem?_append_right (by omega),q2,Nat.sub_self]
      rfl
     ·rw [List.getElem?_append_right (by omega),q3,Nat.sub_self,e2]
      rfl
  ·right
   have:i=L.length:=by omega
   subst this
   exact ⟨_,by rw [decide_eq_false (by rw [natI_len,List.length_map];omega),cond_false],P,Q,rfl,q2,q3,fun j x hx=>q4 j x (List.getElem?_eq_some_iff.1 hx).1 hx⟩) fuel ([],[],0) ⟨Nat.zero_le _,rfl,rfl,fun i x h=>absurd h (Nat.not_lt_zero _)⟩ (by have:=fuel_big;simp only;omega)
 rw [hr,obind]
 have hL0:0<L.length:=(List.getElem?_eq_some_iff.1 hE.first).1
 have hsh:∀ i x a,L[i]?=some x→a<m.Inputs.toNat→∃ (j:Nat) (y:Nat×List Int),L[j]?=some y∧y.1=nx m x.1 a∧nx (⟨m.Inputs,0,P,Q⟩:T_api_Mealy) i a=j∧ot (⟨m.Inputs,0,P,Q⟩:T_api_Mealy) i a=ot m x.1 a:=fun i x a hx ha=>by
  obtain ⟨⟨r,w1,w2,w3⟩,w4⟩:=p3 i x hx
  obtain ⟨j,y,z1,z2,z3⟩:=w3 a ha
  refine ⟨j,y,z1,z2,?_,?_⟩
  ·unfold nx
   simp only
   rw [w1,Option.getD_some,z3,Option.getD_some,Int.toNat_natCast]
  ·unfold ot
   simp only
   rw [w4]
 refine ⟨⟨m.Inputs,0,P,Q⟩,L,rfl,hE,rfl,rfl,⟨hI1,hI,by simp only;omega,by simp only;omega,⟨Int.le_refl 0,by simp only;omega⟩,by simp only;omega,fun i hi=>?_⟩,⟨p1,fun i x a hx ha=>?_⟩⟩
 ·simp only at hi ⊢
  have hx:=get_at (l:=L) (i:=i) (by omega)
  obtain ⟨⟨r,w1,w2,w3⟩,w4⟩:=p3 i _ hx
  obtain ⟨row,out,e1,e2,e3,e4,e5,e6⟩:=H.row L[i].1 (hLr _ (List.mem_of_getElem? hx)).1
  refine ⟨r,out,w1,by rw [w4,e2],by omega,e4,fun u hu=>?_,e6⟩
  obtain ⟨a,ha,rfl⟩:=List.mem_iff_getElem.1 hu
  obtain ⟨j,y,z1,z2,z3⟩:=w3 a (by omega)
  rw [get_at ha] at z3
  injection z3 with z3
  have:=(List.getElem?_eq_some_iff.1 z1).1
  omega
 ·obtain ⟨j,y,z1,z2,z3,z4⟩:=hsh i x a hx ha
  exact ⟨y,by rw [z3];exact z1,z2,z4⟩
theorem trim_outs {t:T_api_Mealy} {L:List (Nat×List Int)} (T:TrimOk m t L):∀ (w:List Int) (i:Nat) (x:Nat×List Int),L[i]?=some x→WOk m.Inputs w→outs t i w=outs m x.1 w
 | [],_,_,_,_=>rfl
 | z::w,i,x,hx,hw=>by
  have hz:=hw.head
  obtain ⟨y,h1,h2,h3⟩:=T.shape.row i x z.toNat hx (by rw [T.inp];omega)
  have:=trim_outs T w _ y h1 hw.tail
  show ot t i z.toNat::outs t (nx t i z.toNat) w=ot m x.1 z.toNat::outs m (nx m x.1 z.toNat) w
  rw [h3,this,h2]
end
end Go.Proofs.Ytkfaepfljlphoaa.Sym

/-
 Classes of equivalent states: the program's refinement. Plain laws.
-/
namespace Go.Proofs.Ytkfaepfljlphoaa.Sym
set_option maxRecDepth 100000
section
variable {κ ν:Type} [BEq κ]
theorem mset_new {k:κ} {v:ν}:∀ {m:List (κ×ν)},mget k m=none→mset k v m=m++[(k,v)]
 | [],_=>rfl
 | p::m,h=>by
  unfold mget at h
  unfold mset
  cases e:k==p.1 with
  | true=>rw [e] at h;cases h
  | false =>
   rw [e] at h
   show p::mset k v m=_
   rw [mset_new h]
   rfl
end
theorem li_beq (a b:List Int):(a==b)=true↔a=b:=beq_iff_eq
section
variable {m:T_api_Mealy} {c:List Int}
def sigV (m:T_api_Mealy) (c:List Int) (s a p:Nat):Int:=if p<a then ot m s p else if 64≤p∧p-64<a then (c[nx m s (p-64)]?).getD 0 else 0
def sigA (m:T_api_Mealy) (c:List Int) (s:Nat):List Int:=(List.range 128).map (sigV m c s m.Inputs.toNat)
theorem sigA_at (s:Nat) {p:Nat} (hp:p<128):(sigA m c s)[p]?=some (sigV m c s m.Inputs.toNat p):=by
 unfold sigA
 rw [List.getElem?_map,List.getElem?_range hp]
 rfl
theorem sigA_len (s:Nat):(sigA m c s).length=128:=by simp [sigA]
theorem sigV_lo {s a K:Nat} (h:a<K):sigV m c s K a=ot m s a:=if_pos h
theorem sigV_hi {s a K:Nat} (h:a<K) (hK:K≤64):sigV m c s K (64+a)=(c[nx m s a]?).getD 0:=by
 unfold sigV
 have h1:¬ 64+a<K:=by omega
 have h2:64≤64+a∧64+a-64<K:=by omega
 have h3:64+a-64=a:=by omega
 rw [if_neg h1,if_pos h2,h3]
theorem sigA_eq (hI:m.Inputs≤64) {s t:Nat}:sigA m c s=sigA m c t↔∀ a,a<m.Inputs.toNat→ot m s a=ot m t a∧(c[nx m s a]?).getD 0=(c[nx m t a]?).getD 0:=by
 constructor
 ·intro h a ha
  have h1:=sigA_at (m:=m) (c:=c) s (p:=a) (by omega)
  rw [h,sigA_at t (by omega)] at h1
  injection h1 with h1
  rw [sigV_lo ha,sigV_lo ha] at h1
  have h2:=sigA_at (m:=m) (c:=c) s (p:=64+a) (by omega)
  rw [h,sigA_at t (by omega)] at h2
  injection h2 with h2
  rw [sigV_hi ha (by omega),sigV_hi ha (by omega)] at h2
  exact ⟨h1.symm,h2.symm⟩
 ·intro h
  unfold sigA
  refine List.map_congr_left fun p _=>?_
  unfold sigV
  by_cases h1:p<m.Inputs.toNat
  ·rw [if_pos h1,if_pos h1,(h p h1).1]
  ·rw [if_neg h1,if_neg h1]
   by_cases h2:64≤p∧p-64<m.Inputs.toNat
   ·rw [if_pos h2,if_pos h2,(h _ h2.2).2]
   ·rw [if_neg h2,if_neg h2]
theorem sig_loop (H:MacOk m) (hc:c.length=m.Next.length) {s:Nat} (hs:s<m.Next.length):iter (fun (q:List Int×Nat)=>minimize_next.s18 m c s q.1 q.2) fuel (List.replicate 128 0,0)=some (sigA m c s):=by
 have hI:=H.i2
 refine iter_eq (fun q=>q.2≤m.Inputs.toNat∧q.1=(List.range 128).map (sigV m c s q.2)) (fun q=>m.Inputs.toNat-q.2) (fun q hq=>?_) ⟨Nat.zero_le _,?_⟩ (by have:=fuel_big;simp only;omega)
 ·obtain ⟨y,a⟩:=q
  obtain ⟨q1,q2⟩:=hq
  simp only at q1 q2
  rw [q2]
  simp only [minimize_next.s18]
  by_cases g:a<m.Inputs.toNat
  ·left
   obtain ⟨h1,_,_,x,o,e1,e2,e3,e4⟩:=H.at hs g
   have hcx:=get_at (l:=c) (i:=nx m s a) (by omega)
   have hr:∀ p,p<128→((List.range 128).map (sigV m c s a))[p]?=some (sigV m c s a p):=fun p hp=>by
    rw [List.getElem?_map,List.getElem?_range hp]
    rfl
   refine ⟨((List.range 128).map (sigV m c s (a+1)),a+1),?_,⟨g,rfl⟩,by simp only;omega⟩
   rw [decide_eq_true (by omega),cond_true,idxn_at e2,idxn_at e4,chk_pos (by omega),idxn_at (hr a (by omega)),chk_pos (by unfold inR;omega),idxn_at e1,idxn_at e3,idx_at rfl hcx,chk_pos (by omega),idxn_at (x:=sigV m c s a (64+a)) (by rw [List.getElem?_set_ne (by omega),hr _ (by omega)]),chk_pos (by unfold inR;omega)]
   congr 4
   refine List.ext_getElem? fun p=>?_
   rcases Nat.lt_or_ge p 128 with hp | hp
   ·rw [List.getElem?_map (f:=sigV m c s (a+1)),List.getElem?_range hp,Option.map_some]
    by_cases p1:64+a=p
    ·subst p1
     rw [List.getElem?_set_self (by simp;omega)]
     congr 1
     unfold sigV
     rw [if_neg (by omega),if_pos (by omega),show 64+a-64=a by omega,hcx,Option.getD_some]
    ·rw [List.getElem?_set_ne p1]
     by_cases p2:a=p
     ·subst p2
      rw [List.getElem?_set_self (by simp;omega)]
      congr 1
      unfold sigV
      rw [if_pos (by omega)]
     ·rw [List.getElem?_set_ne p2,hr p hp]
      congr 1
      unfold sigV
      by_cases p3:p<a
      ·rw [if_pos p3,if_pos (by omega)]
      ·have p5:¬ p<a+1:=by omega
       rw [if_neg p3,if_neg p5]
       by_cases p4:64≤p∧p-64<a
       ·have p6:64≤p∧p-64<a+1:=by omega
        rw [if_pos p4,if_pos p6]
       ·have p6:¬ (64≤p∧p-64<a+1):=by omega
        rw [if_neg p4,if_neg p6]
   ·rw [List.getElem?_eq_none (by simp;omega),List.getElem?_eq_none (by simp;omega)]
  ·right
   have:a=m.Inputs.toNat:=by omega
   subst this
   rw [decide_eq_false (by omega),cond_false]
   rfl
 ·simp only
  refine List.ext_getElem? fun p=>?_
  rcases Nat.lt_or_ge p 128 with hp | hp
  ·rw [List.getElem?_replicate,if_pos hp,List.getElem?_map,List.getElem?_range hp,Option.map_some]
   unfold sigV
   rw [if_neg (by omega),if_neg (by omega)]
  ·rw [List.getElem?_eq_none (by simp;omega),List.getElem?_eq_none (by simp;omega)]
def FirstOcc (o:List Int):Prop:=∀ (s x:Nat),o[s]?=some (↑x:Int)→∀ u:Nat,u<x→∃ s',s'<s∧o[s']?=some (↑u:Int)
structure ClsF (m:T_api_Mealy) (k:Nat) (c:List Int):Prop where
 cls:ClsOk m k c
 first:FirstOcc c
theorem E_of_next (H:MacOk m):∀ {k s t:Nat},s<m.Next.length→t<m.Next.length→(∀ a,a<m.Inputs.toNat→ot m s a=ot m t a∧E m k (nx m s a) (nx m t a))→E m (k+1) s t
 | 0,_,_,_,_,h=>⟨trivial,h⟩
 | _+1,_,_,hs,ht,h=>⟨E_of_next H hs ht fun a ha=>⟨(h a ha).1,(h a ha).2.1⟩,h⟩
theorem sig_iff (H:MacOk m) {k:Nat} (C:ClsOk m k c) {s t:Nat} (hs:s<m.Next.length) (ht:t<m.Next.length):sigA m c s=sigA m c t↔E m (k+1) s t:=by
 rw [sigA_eq H.i2]
 have hq:∀ a,a<m.Inputs.toNat→((c[nx m s a]?).getD 0=(c[nx m t a]?).getD 0↔E m k (nx m s a) (nx m t a)):=fun a ha=>by
  have h1:=(H.at hs ha).1
  have h2:=(H.at ht ha).1
  rw [← C.cls _ _ h1 h2]
  obtain ⟨x,x1,_⟩:=C.rng _ h1
  obtain ⟨y,y1,_⟩:=C.rng _ h2
  rw [x1,y1,Option.getD_some,Option.getD_some]
  exact ⟨fun h=>by rw [h],fun h=>by injection h⟩
 constructor
 ·exact fun h=>E_of_next H hs ht fun a ha=>⟨(h a ha).1,(hq a ha).1 (h a ha).2⟩
 ·exact fun h a ha=>⟨(h.2 a ha).1,(hq a ha).2 (h.2 a ha).2⟩
structure Giv (m:T_api_Mealy) (c:List Int) (mp:List (List Int×Int)) (o:List Int) (s:Nat):Prop where
 len:o.length=m.Next.length
 keys:∀ p∈mp,p.1.length=128
 le:mp.length≤s
 get:∀ s',s'<s→∃ x:Nat,x<mp.length∧o[s']?=some (↑x:Int)∧mget (sigA m c s') mp=some (↑x:Int)
 org:∀ k v,mget k mp=some v→∃ s',s'<s∧sigA m c s'=k
 inj:∀ s' s'',s'<s→s''<s→o[s']?=o[s'']?→sigA m c s'=sigA m c s''
 first:∀ (s' x:Nat),s'<s→o[s']?=some (↑x:Int)→∀ u:Nat,u<x→∃ s'',s''<s'∧o[s'']?=some (↑u:Int)
 all:∀ u:Nat,u<mp.length→∃ s',s'<s∧o[s']?=some (↑u:Int)
open Classical in
theorem minimize_next_eq (H:MacOk m) {k:Nat} (C:ClsOk m k c):∃ (c':List Int) (n:Nat),minimize_next m c=some (c',(↑n:Int))∧ClsF m (k+1) c'∧n=nreps m (k+1):=by
 have hn:=H.n2
 have hc:=C.len
 unfold minimize_next
 rw [chk_pos ⟨by omega,by omega,by unfold capOk;omega⟩]
 obtain ⟨r,hr,mp,o,rfl,G,hcnt⟩:=iter_post (step:=fun (s:(List (List Int×Int))×List Int×Nat)=>minimize_next.s20 m c s.1 s.2.1 s.2.2) (fun s=>s.2.2≤m.Next.length∧Giv m c s.1 s.2.1 s.2.2∧s.1.length=(List.range s.2.2).countP fun s=>decide (Rep m (k+1) s)) (fun s=>m.Next.length-s.2.2) (fun r=>∃ mp o,r=(mp,o)∧Giv m c mp o m.Next.length∧mp.length=nreps m (k+1)) (fun s ⟨q1,G,q3⟩=>by
  obtain ⟨mp,o,s⟩:=s
  simp only at q1 G q3
  simp only [minimize_next.s20]
  by_cases g:s<m.Next.length
  ·left
   have hlen:=sigA_len (m:=m) (c:=c) s
   have hmle:=G.le
   have ho:=get_at (l:=o) (i:=s) (by rw [G.len];exact g)
   rw [decide_eq_true (by omega),cond_true,sig_loop H hc g,obind,chk_pos hlen,chk_pos ⟨hlen,G.keys⟩]
   have hrep:(mget (sigA m c s) mp=none)↔Rep m (k+1) s:=by
    constructor
    ·intro h t ht hE
     obtain ⟨x,_,_,x3⟩:=G.get t ht
     rw [← (sig_iff H C g (by omega)).2 hE,h] at x3
     cases x3
    ·intro h
     cases e:mget (sigA m c s) mp with
     | none=>rfl
     | some v =>
      obtain ⟨s',h1,h2⟩:=G.org _ _ e
      exact absurd ((sig_iff H C g (by omega)).1 h2.symm) (h s' h1)
   have hcount:(List.range (s+1)).countP (fun s=>decide (Rep m (k+1) s))=(List.range s).countP (fun s=>decide (Rep m (k+1) s))+if Rep m (k+1) s then 1 else 0:=by
    rw [List.range_succ,List.countP_append]
    congr 1
    by_cases h:Rep m (k+1) s
    ·rw [if_pos h,List.countP_singleton,decide_eq_true h]
     rfl
    ·rw [if_neg h,List.countP_singleton,decide_eq_false h]
     rfl
   have setlt:∀ {s':Nat} {v:Int},s'<s→(o.set s v)[s']?=o[s']?:=fun h=>List.getElem?_set_ne (by omega)
   have setat:∀ {v:Int},(o.set s v)[s]?=some v:=List.getElem?_set_self (by rw [G.len];exact g)
   cases e:mget (sigA m c s) mp with
   | none =>
    have hR:=hrep.1 e
    have hms:mset (sigA m c s) (↑mp.length:Int) mp=mp++[(sigA m c s,(↑mp.length:Int))]:=mset_new e
    refine ⟨(mset (sigA m c s) (↑mp.length:Int) mp,o.set s (↑mp.length:Int),s+1),?_,⟨g,?_,?_⟩,by simp only;omega⟩
    ·rw [Option.isSome_none,Bool.not_false,cond_true,chk_pos hlen,chk_pos ⟨hlen,G.keys⟩,obind]
     simp only [minimize_next.k19]
     rw [idxn_at ho]
    ·simp only
     refine ⟨by simp [G.len],?_,by rw [hms];simp;omega,?_,?_,?_,?_,?_⟩
     ·intro p hp
      rw [hms] at hp
      rcases List.mem_append.1 hp with h | h
      ·exact G.keys p h
      ·have:p=(sigA m c s,(↑mp.length:Int)):=by simpa using h
       rw [this]
       exact hlen
     ·intro s' hs'
      by_cases h:s'<s
      ·obtain ⟨x,x1,x2,x3⟩:=G.get s' h
       refine ⟨x,by rw [hms];simp;omega,by rw [setlt h,x2],?_⟩
       rw [mget_mset_ne li_beq (fun q=>?_),x3]
       rw [q,e] at x3
       cases x3
      ·have:s'=s:=by omega
       subst this
       exact ⟨mp.length,by rw [hms];simp,setat,mget_mset_same li_beq mp⟩
     ·intro kk v hv
      by_cases h:kk=sigA m c s
      ·exact ⟨s,by omega,h.symm⟩
      ·rw [mget_mset_ne li_beq h] at hv
       obtain ⟨s',h1,h2⟩:=G.org _ _ hv
       exact ⟨s',by omega,h2⟩
     ·have fresh:∀ s',s'<s→o[s']?≠some (↑mp.length:Int):=fun s' h q=>by
       obtain ⟨x,x1,x2,_⟩:=G.get s' h
       rw [x2] at q
       injection q with q
       omega
      intro s' s'' h1 h2 h3
      by_cases a1:s'<s<;>by_cases a2:s''<s
      ·rw [setlt a1,setlt a2] at h3
       exact G.inj _ _ a1 a2 h3
      ·have:s''=s:=by omega
       subst this
       rw [setlt a1,setat] at h3
       exact absurd h3 (fresh s' a1)
      ·have:s'=s:=by omega
       subst this
       rw [setlt a2,setat] at h3
       exact absurd h3.symm (fresh s'' a2)
      ·have:s'=s'':=by omega
       rw [this]
     ·intro s' x h1 h2 u hu
      by_cases a1:s'<s
      ·rw [setlt a1] at h2
       obtain ⟨s'',z1,z2⟩:=G.first s' x a1 h2 u hu
       exact ⟨s'',z1,by rw [setlt (by omega),z2]⟩
      ·have:s'=s:=by omega
       subst this
       rw [setat] at h2
       injection h2 with h2
       obtain ⟨s'',z1,z2⟩:=G.all u (by omega)
       exact ⟨s'',z1,by rw [setlt z1,z2]⟩
     ·intro u hu
      rw [hms] at hu
      simp at hu
      rcases Nat.lt_or_ge u mp.length with h | h
      ·obtain ⟨s',z1,z2⟩:=G.all u h
       exact ⟨s',by omega,by rw [setlt z1,z2]⟩
      ·have:u=mp.length:=by omega
       subst this
       exact ⟨s,by omega,setat⟩
    ·simp only
     rw [hcount,if_pos hR,hms,← q3]
     simp
   | some v =>
    have hR:¬ Rep m (k+1) s:=fun q=>by
     rw [hrep.2 q] at e
     cases e
    obtain ⟨t,ht,hts⟩:=G.org _ _ e
    obtain ⟨x,x1,x2,x3⟩:=G.get t ht
    have hv:v=(↑x:Int):=by
     rw [hts,e] at x3
     injection x3
    refine ⟨(mp,o.set s v,s+1),?_,⟨g,?_,?_⟩,by simp only;omega⟩
    ·rw [Option.isSome_some,Bool.not_true,cond_false,Option.getD_some,obind]
     simp only [minimize_next.k19]
     rw [idxn_at ho]
    ·simp only
     refine ⟨by simp [G.len],G.keys,by omega,?_,?_,?_,?_,?_⟩
     ·intro s' hs'
      by_cases h:s'<s
      ·obtain ⟨x,y1,y2,y3⟩:=G.get s' h
       exact ⟨x,y1,by rw [setlt h,y2],y3⟩
      ·have:s'=s:=by omega
       subst this
       exact ⟨x,x1,by rw [setat,hv],by rw [e,hv]⟩
     ·intro kk v hv
      obtain ⟨s',h1,h2⟩:=G.org _ _ hv
      exact ⟨s',by omega,h2⟩
     ·intro s' s'' h1 h2 h3
      by_cases a1:s'<s<;>by_cases a2:s''<s
      ·rw [setlt a1,setlt a2] at h3
       exact G.inj _ _ a1 a2 h3
      ·have:s''=s:=by omega
       subst this
       rw [setlt a1,setat,hv,← x2] at h3
       rw [← hts]
       exact G.inj _ _ a1 ht h3
      ·have:s'=s:=by omega
       subst this
       rw [setlt a2,setat,hv,← x2] at h3
       rw [← hts]
       exact G.inj _ _ ht a2 h3
      ·have:s'=s'':=by omega
       rw [this]
     ·intro s' y h1 h2 u hu
      by_cases a1:s'<s
      ·rw [setlt a1] at h2
       obtain ⟨s'',z1,z2⟩:=G.first s' y a1 h2 u hu
       exact ⟨s'',z1,by rw [setlt (by omega),z2]⟩
      ·have:s'=s:=by omega
       subst this
       rw [setat] at h2
       injection h2 with h2
       obtain ⟨s'',z1,z2⟩:=G.first t x ht x2 u (by omega)
       exact ⟨s'',by omega,by rw [setlt (by omega),z2]⟩
     ·intro u hu
      obtain ⟨s',z1,z2⟩:=G.all u hu
      exact ⟨s',by omega,by rw [setlt z1,z2]⟩
    ·simp only
     rw [hcount,if_neg hR,← q3,Nat.add_zero]
  ·right
   have:s=m.Next.length:=by omega
   subst this
   exact ⟨_,by rw [decide_eq_false (by omega),cond_false],mp,o,rfl,G,q3⟩) fuel ([],List.replicate c.length 0,0) ⟨Nat.zero_le _,⟨by simp [hc],fun p hp=>(by cases hp),Nat.le_refl _,fun s' h=>absurd h (Nat.not_lt_zero _),fun k v h=>(by cases h),fun s' _ h=>absurd h (Nat.not_lt_zero _),fun s' _ h=>absurd h (Nat.not_lt_zero _),fun u h=>absurd h (Nat.not_lt_zero _)⟩,rfl⟩ (by have:=fuel_big;simp only;omega)
 refine ⟨o,mp.length,by rw [hr,obind];rfl,⟨⟨G.len,fun s hs=>?_,fun s t hs ht=>?_⟩,fun s x hx=>G.first s x (by rw [← G.len];exact (List.getElem?_eq_some_iff.1 hx).1) hx⟩,hcnt⟩
 ·obtain ⟨x,x1,x2,_⟩:=G.get s hs
  have:=G.le
  exact ⟨x,x2,by omega⟩
 ·rw [← sig_iff H C hs ht]
  constructor
  ·exact G.inj s t hs ht
  ·intro h
   obtain ⟨x,_,x2,x3⟩:=G.get s hs
   obtain ⟨y,_,y2,y3⟩:=G.get t ht
   rw [h,y3] at x3
   rw [x2,y2,x3]
open Classical in
theorem minimize_refine_eq (H:MacOk m):∃ c i,minimize_refine m 128=some (c,i)∧ClsF m m.Next.length c:=by
 have hn:=H.n2
 have hn1:=H.n1
 have hmin:(min (max (128:Int) 0) (↑m.Next.length:Int))=(↑m.Next.length:Int):=by omega
 unfold minimize_refine
 rw [chk_pos ⟨by omega,by omega,by unfold capOk;omega⟩]
 obtain ⟨r,hr,hq⟩:=iter_post (step:=fun (s:List Int×Int×Nat)=>minimize_refine.s2 m 128 s.1 s.2.1 s.2.2) (fun s=>s.2.2≤m.Next.length∧ClsF m s.2.2 s.1∧s.2.1=(↑(nreps m s.2.2):Int)) (fun s=>m.Next.length-s.2.2) (fun r=>(∃ c,r=.inl c∧ClsF m m.Next.length c)∨∃ c i,r=.inr (c,i)∧ClsF m m.Next.length c) (fun s ⟨q1,q2,q3⟩=>by
  obtain ⟨c,n,i⟩:=s
  simp only at q1 q2 q3
  simp only [minimize_refine.s2]
  rw [hmin]
  by_cases g:i<m.Next.length
  ·obtain ⟨c',n',h1,h2,h3⟩:=minimize_next_eq H q2.cls
   rw [decide_eq_true (by omega),cond_true,h1,obind]
   by_cases e:n'=nreps m i
   ·right
    rw [decide_eq_true (by simp only;omega),cond_true]
    refine ⟨_,rfl,Or.inr ⟨c,_,rfl,⟨⟨q2.cls.len,q2.cls.rng,fun s t hs ht=>?_⟩,q2.first⟩⟩⟩
    rw [q2.cls.cls s t hs ht]
    have hS:Stab m i:=stab_of (by omega)
    constructor
    ·intro h
     have key:∀ j,E m (i+j) s t:=by
      intro j
      induction j with
      | zero=>exact h
      | succ j ih=>exact stab_add H hS j s t hs ht ih
     have:=key (m.Next.length-i)
     rwa [show i+(m.Next.length-i)=m.Next.length by omega] at this
    ·exact E_mono (by omega)
   ·left
    exact ⟨(c',(↑n':Int),i+1),by rw [decide_eq_false (by simp only;omega),cond_false],⟨g,h2,by simp only;rw [h3]⟩,by simp only;omega⟩
  ·right
   have:i=m.Next.length:=by omega
   subst this
   exact ⟨_,by rw [decide_eq_false (by omega),cond_false],Or.inl ⟨c,rfl,q2⟩⟩) fuel (List.replicate m.Next.length 0,1,0) ⟨Nat.zero_le _,⟨⟨by simp,fun s hs=>⟨0,by simp [hs],hn1⟩,fun s t hs ht=>⟨fun _=>trivial,fun _=>by simp [hs,ht]⟩⟩,fun s x hx u hu=>by
    have:=(List.getElem?_eq_some_iff.1 hx).2
    simp at this
    omega⟩,by
    simp only
    have:nreps m 0=1:=by
     unfold nreps
     have h0:∀ n,0<n→(List.range n).countP (fun s=>decide (Rep m 0 s))=1:=by
      intro n
      induction n with
      | zero=>intro h;omega
      | succ n ih =>
       intro _
       rw [List.range_succ,List.countP_append,List.countP_singleton]
       by_cases hz:n=0
       ·subst hz
        rw [decide_eq_true (show Rep m 0 0 from fun t ht=>absurd ht (Nat.not_lt_zero _))]
        rfl
       ·rw [ih (by omega),decide_eq_false (show ¬ Rep m 0 n from fun q=>q 0 (by omega) trivial)]
        rfl
     exact h0 _ hn1
    rw [this]
    rfl⟩ (by have:=fuel_big;simp only;omega)
 rw [hr,obind]
 rcases hq with ⟨c,rfl,h⟩ | ⟨c,i,rfl,h⟩
 ·exact ⟨c,_,rfl,h⟩
 ·exact ⟨c,i,rfl,h⟩
theorem minimize_Classes_eq (hv:validM m=0):∃ c,minimize_Classes m=some (c,0)∧ClsF m m.Next.length c:=by
 obtain ⟨c,i,h1,h2⟩:=minimize_refine_eq (valid_ok hv)
 refine ⟨c,?_,h2⟩
 unfold minimize_Classes minimize_Partition
 rw [mealy_Valid_eq,obind,hv,decide_eq_false (by decide),cond_false,h1,obind,obind]
end
end Go.Proofs.Ytkfaepfljlphoaa.Sym

/-
 The program's minimal machine. Plain laws.
-/
namespace Go.Proofs.Ytkfaepfljlphoaa.Sym
set_option maxRecDepth 100000
section
variable {m t:T_api_Mealy} {c:List Int}
def IsFirst (c:List Int) (s u:Nat):Prop:=c[s]?=some (↑u:Int)∧∀ s',s'<s→c[s']?≠some (↑u:Int)
theorem first_lt (F:FirstOcc c) {s u i v:Nat} (hs:IsFirst c s u) (hi:i<s) (hv:c[i]?=some (↑v:Int)):v<u:=by
 rcases Nat.lt_trichotomy v u with h | h | h
 ·exact h
 ·rw [h] at hv
  exact absurd hv (hs.2 i hi)
 ·obtain ⟨s',h1,h2⟩:=F i v hv u h
  exact absurd h2 (hs.2 s' (by omega))
theorem first_le (F:FirstOcc c) {s u i v:Nat} (hs:IsFirst c s u) (hv:c[i]?=some (↑v:Int)) (hu:u≤v):s≤i:=by
 rcases Nat.lt_or_ge i s with h | h
 ·have:=first_lt F hs h hv
  omega
 ·exact h
structure Quo (t M:T_api_Mealy) (c:List Int):Prop where
 inp:M.Inputs=t.Inputs
 start:M.Start=0
 len:M.Out.length=M.Next.length
 ub:∀ s,s<t.Next.length→∃ x:Nat,c[s]?=some (↑x:Int)∧x<M.Next.length
 row:∀ u,u<M.Next.length→∃ s r o,s<t.Next.length∧IsFirst c s u∧M.Next[u]?=some r∧M.Out[u]?=some o∧r.length=t.Inputs.toNat∧(∀ a,a<t.Inputs.toNat→r[a]?=c[nx t s a]?)∧t.Out[s]?=some o
 le:M.Next.length≤t.Next.length
variable {M:T_api_Mealy}
theorem quo_nx (H:MacOk t) (Q:Quo t M c) {u:Nat} (hu:u<M.Next.length):∃ s,s<t.Next.length∧IsFirst c s u∧∀ a,a<t.Inputs.toNat→c[nx t s a]?=some (↑(nx M u a):Int)∧ot M u a=ot t s a:=by
 obtain ⟨s,r,o,h1,h2,h3,h4,h5,h6,h7⟩:=Q.row u hu
 refine ⟨s,h1,h2,fun a ha=>?_⟩
 obtain ⟨x,x1,_⟩:=Q.ub _ (H.at h1 ha).1
 have hr:=h6 a ha
 rw [x1] at hr
 refine ⟨?_,?_⟩
 ·rw [x1]
  unfold nx
  rw [h3,Option.getD_some,hr,Option.getD_some,Int.toNat_natCast]
 ·unfold ot
  rw [h4,h7]
theorem quo_step (H:MacOk t) (C:ClsF t t.Next.length c) {s s' a:Nat} (hs:s<t.Next.length) (hs':s'<t.Next.length) (h:c[s]?=c[s']?) (ha:a<t.Inputs.toNat):ot t s a=ot t s' a∧c[nx t s a]?=c[nx t s' a]?:=by
 have h1:=E_all H hs hs' ((C.cls.cls s s' hs hs').1 h) (t.Next.length+1)
 exact ⟨(h1.2 a ha).1,(C.cls.cls _ _ (H.at hs ha).1 (H.at hs' ha).1).2 (h1.2 a ha).2⟩
theorem quo_outs (H:MacOk t) (C:ClsF t t.Next.length c) (Q:Quo t M c):∀ (w:List Int) (s u:Nat),s<t.Next.length→c[s]?=some (↑u:Int)→WOk t.Inputs w→outs M u w=outs t s w
 | [],_,_,_,_,_=>rfl
 | z::w,s,u,hs,hu,hw=>by
  have hz:=hw.head
  have ha:z.toNat<t.Inputs.toNat:=by omega
  obtain ⟨x,x1,x2⟩:=Q.ub s hs
  have hux:u<M.Next.length:=by
   rw [hu] at x1
   injection x1 with x1
   omega
  obtain ⟨s',h1,h2,h3⟩:=quo_nx H Q hux
  obtain ⟨e1,e2⟩:=quo_step H C hs h1 (hu.trans h2.1.symm) ha
  have h4:=h3 _ ha
  have:=quo_outs H C Q w (nx t s z.toNat) (nx M u z.toNat) (H.at hs ha).1 (by rw [e2,h4.1]) hw.tail
  show ot M u z.toNat::outs M (nx M u z.toNat) w=ot t s z.toNat::outs t (nx t s z.toNat) w
  rw [this,h4.2,e1]
theorem quo_ok (H:MacOk t) (Q:Quo t M c):MacOk M:=by
 have hn:=H.n1
 have hn2:=H.n2
 obtain ⟨x,_,x2⟩:=Q.ub 0 hn
 have hle:=Q.le
 refine ⟨by rw [Q.inp];exact H.i1,by rw [Q.inp];exact H.i2,by omega,by omega,by rw [Q.start];omega,Q.len,fun u hu=>?_⟩
 have hi1:=H.i1
 obtain ⟨s,r,o,h1,h2,h3,h4,h5,h6,h7⟩:=Q.row u hu
 obtain ⟨x',y',e1,e2,e3,e4,e5,e6⟩:=H.row s h1
 rw [h7] at e2
 injection e2 with e2
 subst e2
 refine ⟨r,o,h3,h4,by rw [Q.inp];omega,by rw [Q.inp];exact e4,fun v hv=>?_,e6⟩
 obtain ⟨a,ha,rfl⟩:=List.mem_iff_getElem.1 hv
 obtain ⟨z,z1,z2⟩:=Q.ub _ (H.at h1 (a:=a) (by omega)).1
 have hr:=h6 a (by omega)
 rw [get_at ha,z1] at hr
 injection hr with hr
 omega
theorem quo_can (H:MacOk t) (C:ClsF t t.Next.length c) (Q:Quo t M c) (K:Can t):Can M:=by
 have hzero:∀ s,IsFirst c s 0→s=0:=fun s hs=>by
  obtain ⟨x,x1,_⟩:=Q.ub 0 H.n1
  have:=first_le C.first hs x1 (Nat.zero_le _)
  omega
 have hpos:∀ s u,IsFirst c s u→0<u→0<s:=fun s u hs hu=>by
  rcases Nat.eq_zero_or_pos s with h | h
  ·subst h
   obtain ⟨s',h1,_⟩:=C.first 0 u hs.1 0 hu
   omega
  ·exact h
 have back:∀ {i a s u:Nat},i<s→i<t.Next.length→a<t.Inputs.toNat→IsFirst c s u→nx t i a=s→∃ v:Nat,c[i]?=some (↑v:Int)∧v<u∧nx M v a=u:=fun {i a s u} h1 h2 h3 h4 h5=>by
  obtain ⟨v,v1,v2⟩:=Q.ub i h2
  refine ⟨v,v1,first_lt C.first h4 h1 v1,?_⟩
  obtain ⟨s',g1,g2,g3⟩:=quo_nx H Q v2
  have e:=(quo_step H C h2 g1 (v1.trans g2.1.symm) h3).2
  have g4:=(g3 a h3).1
  rw [← e,h5,h4.1] at g4
  injection g4 with g4
  omega
 refine ⟨fun i a u hi ha hu hle=>?_,fun u hu hlt=>?_⟩
 ·rw [Q.inp] at ha ⊢
  obtain ⟨s,h1,h2,h3⟩:=quo_nx H Q hi
  have hD:=(h3 a ha).1
  have hn1:=(H.at h1 ha).1
  have huM:u<M.Next.length:=by
   have:=(quo_ok H Q).at hi (a:=a) (by rw [Q.inp];exact ha)
   omega
  obtain ⟨su,g1,g2,g3⟩:=quo_nx H Q huM
  have hsu:=first_le C.first g2 hD hle
  obtain ⟨i',a',z1,z2,z3,z4⟩:=K.c4 s a su h1 ha (hpos su u g2 hu) hsu
  obtain ⟨v,v1,v2,v3⟩:=back z3 (by omega) z1 g2 z4
  refine ⟨v,a',z1,?_,v2,v3⟩
  have hle':i'≤s:=by
   rcases Nat.lt_or_ge s i' with q | q
   ·have:=mem_lt q ha
    omega
   ·exact q
  rcases Nat.lt_or_ge i' s with q | q
  ·have:=first_lt C.first h2 q v1
   have:=mem_lt this z1
   omega
  ·have e:i'=s:=by omega
   subst e
   have hv:=h2.1
   rw [v1] at hv
   injection hv with hv
   have:v=i:=by omega
   subst this
   omega
 ·rw [Q.inp]
  obtain ⟨su,g1,g2,g3⟩:=quo_nx H Q hlt
  obtain ⟨i,a,z1,z2,z3⟩:=K.c5 su (hpos su u g2 hu) g1
  obtain ⟨v,v1,v2,v3⟩:=back z1 (by omega) z2 g2 z3
  exact ⟨v,a,v2,z2,v3⟩
theorem quo_min (H:MacOk t) (C:ClsF t t.Next.length c) (Q:Quo t M c) {i j:Nat} (hi:i<M.Next.length) (hj:j<M.Next.length) (h:Eqv M i M j):i=j:=by
 obtain ⟨s,h1,h2,_⟩:=quo_nx H Q hi
 obtain ⟨s',g1,g2,_⟩:=quo_nx H Q hj
 have he:E t t.Next.length s s':=E_of_outs fun w _ hw=>by
  rw [← quo_outs H C Q w s i h1 h2.1 hw,← quo_outs H C Q w s' j g1 g2.1 hw]
  exact h w (by rw [Q.inp];exact hw)
 have:=(C.cls.cls s s' h1 g1).2 he
 rw [h2.1,g2.1] at this
 injection this with this
 omega
theorem quo_sem {L:List (Nat×List Int)} (T:TrimOk m t L) (C:ClsF t t.Next.length c) (Q:Quo t M c):MinSem m M:=by
 have H:=T.ok
 have hK:0<t.Inputs.toNat:=by have:=H.i1;omega
 have hE:BfsEnd (nx m) t.Inputs.toNat m.Start.toNat L:=by rw [T.inp];exact T.end_
 have hcan:=shape_can hE T.shape hK
 have h0:c[0]?=some (↑(0:Nat):Int):=by
  obtain ⟨x,x1,_⟩:=Q.ub 0 H.n1
  rcases Nat.eq_zero_or_pos x with h | h
  ·rw [x1,h]
  ·obtain ⟨s',h1,_⟩:=C.first 0 x x1 0 h
   omega
 refine ⟨quo_ok H Q,Q.inp.trans T.inp,Q.start,fun w hw=>?_,fun i j hi hj h=>quo_min H C Q hi hj h,quo_can H C Q hcan⟩
 have hw':WOk t.Inputs w:=by rw [← Q.inp];exact hw
 rw [quo_outs H C Q w 0 0 H.n1 h0 hw',trim_outs T w 0 _ T.end_.first (by rw [← T.inp];exact hw')]
theorem min_loop (H:MacOk t) (C:ClsF t t.Next.length c) (e e2:Int):∃ P R,iter (fun (s:List (List Int)×List (List Int)×Nat)=>minimize_Min.s32 (t,e) (c,e2) s.1 s.2.1 s.2.2) fuel ([],[],0)=some (P,R)∧Quo t (⟨t.Inputs,0,P,R⟩:T_api_Mealy) c:=by
 have hn:=H.n2
 have hn1:=H.n1
 have hI:=H.i2
 have hI1:=H.i1
 have hc:=C.cls.len
 obtain ⟨r,hr,P,R,rfl,hQ⟩:=iter_post (step:=fun (s:List (List Int)×List (List Int)×Nat)=>minimize_Min.s32 (t,e) (c,e2) s.1 s.2.1 s.2.2) (fun s=>s.2.2≤t.Next.length∧s.2.1.length=s.1.length∧s.1.length≤s.2.2∧(∀ s',s'<s.2.2→∃ x:Nat,c[s']?=some (↑x:Int)∧x<s.1.length)∧∀ u,u<s.1.length→∃ s' r o,s'<s.2.2∧IsFirst c s' u∧s.1[u]?=some r∧s.2.1[u]?=some o∧r.length=t.Inputs.toNat∧(∀ a,a<t.Inputs.toNat→r[a]?=c[nx t s' a]?)∧t.Out[s']?=some o) (fun s=>t.Next.length-s.2.2) (fun r=>∃ P R,r=(P,R)∧Quo t (⟨t.Inputs,0,P,R⟩:T_api_Mealy) c) (fun s ⟨q1,q2,q3,q4,q5⟩=>by
  obtain ⟨P,R,s⟩:=s
  simp only at q1 q2 q3 q4 q5
  simp only [minimize_Min.s32]
  by_cases g:s<t.Next.length
  ·left
   obtain ⟨x,x1,x2⟩:=C.cls.rng s g
   rw [decide_eq_true (by omega),cond_true,idxn_at x1]
   by_cases hx:x<P.length
   ·refine ⟨(P,R,s+1),?_,⟨g,q2,by simp only;omega,fun s' hs'=>?_,fun u hu=>?_⟩,by simp only;omega⟩
    ·rw [decide_eq_true (by omega),cond_true,obind]
     rfl
    ·simp only at hs' ⊢
     rcases Nat.lt_or_ge s' s with h | h
     ·exact q4 s' h
     ·have:s'=s:=by omega
      subst this
      exact ⟨x,x1,hx⟩
    ·obtain ⟨s',r,o,z1,z2⟩:=q5 u hu
     exact ⟨s',r,o,by simp only;omega,z2⟩
   ·have hxe:x=P.length:=by
     rcases Nat.lt_or_ge P.length x with h | h
     ·obtain ⟨s',h1,h2⟩:=C.first s x x1 P.length h
      obtain ⟨y,y1,y2⟩:=q4 s' h1
      rw [h2] at y1
      injection y1 with y1
      omega
     ·omega
    subst hxe
    obtain ⟨row,out,e1,e2',e3,e4,e5,e6⟩:=H.row s g
    obtain ⟨r,hr,hrl,hra⟩:=iter_post (step:=fun (q:List Int×Nat)=>minimize_Min.s30 (c,e2) row q.1 q.2) (fun q=>q.2≤t.Inputs.toNat∧q.1.length=q.2∧∀ a,a<q.2→q.1[a]?=c[nx t s a]?) (fun q=>t.Inputs.toNat-q.2) (fun r=>r.length=t.Inputs.toNat∧∀ a,a<t.Inputs.toNat→r[a]?=c[nx t s a]?) (fun q ⟨w1,w2,w3⟩=>by
     obtain ⟨y,a⟩:=q
     simp only at w1 w2 w3
     simp only [minimize_Min.s30]
     by_cases f:a<t.Inputs.toNat
     ·left
      obtain ⟨h1,_,_,x',y',h2,_,h4,_⟩:=H.at g f
      rw [e1] at h2
      injection h2 with h2
      subst h2
      have hcx:=get_at (l:=c) (i:=nx t s a) (by omega)
      refine ⟨(y++[c[nx t s a]'(by omega)],a+1),?_,⟨f,by simp [w2],fun b hb=>?_⟩,by simp only;omega⟩
      ·rw [decide_eq_true (by omega),cond_true,idxn_at h4,idx_at rfl hcx,chk_pos (by unfold capOk;omega)]
      ·simp only at hb ⊢
       rcases Nat.lt_or_ge b a with h | h
       ·rw [List.getElem?_append_left (by omega),w3 b h]
       ·have:b=a:=by omega
        subst this
        rw [List.getElem?_append_right (by omega),w2,Nat.sub_self,hcx]
        rfl
     ·right
      have:a=t.Inputs.toNat:=by omega
      subst this
      exact ⟨y,by rw [decide_eq_false (by omega),cond_false],w2,w3⟩) fuel ([],0) ⟨Nat.zero_le _,rfl,fun a h=>absurd h (Nat.not_lt_zero _)⟩ (by have:=fuel_big;simp only;omega)
    refine ⟨(P++[r],R++[out],s+1),?_,⟨g,by simp [q2],by simp;omega,fun s' hs'=>?_,fun u hu=>?_⟩,by simp only;omega⟩
    ·rw [decide_eq_false (by omega),cond_false,idxn_at e1,hr,obind,chk_pos (by unfold capOk;omega),idxn_at e2',chk_pos (by unfold capOk;simp;omega),chk_pos (by unfold capOk;omega),obind]
     rfl
    ·simp only at hs' ⊢
     rw [List.length_append,List.length_singleton]
     rcases Nat.lt_or_ge s' s with h | h
     ·obtain ⟨y,y1,y2⟩:=q4 s' h
      exact ⟨y,y1,by omega⟩
     ·have:s'=s:=by omega
      subst this
      exact ⟨_,x1,by omega⟩
    ·simp only at hu ⊢
     rw [List.length_append,List.length_singleton] at hu
     rcases Nat.lt_or_ge u P.length with h | h
     ·obtain ⟨s',r',o,z1,z2,z3,z4,z5⟩:=q5 u h
      exact ⟨s',r',o,by omega,z2,by rw [List.getElem?_append_left h,z3],by rw [List.getElem?_append_left (by omega),z4],z5⟩
     ·have:u=P.length:=by omega
      subst this
      refine ⟨s,r,out,by omega,⟨x1,fun s' hs' q=>?_⟩,by simp,?_,hrl,hra,e2'⟩
      ·obtain ⟨y,y1,y2⟩:=q4 s' hs'
       rw [q] at y1
       injection y1 with y1
       omega
      ·rw [List.getElem?_append_right (by omega),q2,Nat.sub_self]
       rfl
  ·right
   have:s=t.Next.length:=by omega
   subst this
   exact ⟨_,by rw [decide_eq_false (by omega),cond_false],P,R,rfl,⟨rfl,rfl,q2,q4,q5,q3⟩⟩) fuel ([],[],0) ⟨Nat.zero_le _,rfl,Nat.le_refl _,fun s' h=>absurd h (Nat.not_lt_zero _),fun u h=>absurd h (Nat.not_lt_zero _)⟩ (by have:=fuel_big;simp only;omega)
 exact ⟨P,R,hr,hQ⟩
theorem validM_of (H:MacOk m):validM m=0:=by
 have:=mealy_Valid_ok H
 rw [mealy_Valid_eq] at this
 injection this
theorem minimize_Min_eq (hv:validM m=0):∃ M,minimize_Min m=some (M,0)∧MinSem m M:=by
 obtain ⟨t,L,h1,T⟩:=mealy_Trim_eq hv
 obtain ⟨c,h2,C⟩:=minimize_Classes_eq (validM_of T.ok)
 obtain ⟨P,R,h3,Q⟩:=min_loop T.ok C 0 0
 refine ⟨⟨t.Inputs,0,P,R⟩,?_,quo_sem T C Q⟩
 unfold minimize_Min
 rw [h1,obind,decide_eq_false (fun h=>h rfl),cond_false,h2,obind,decide_eq_false (fun h=>h rfl),cond_false,h3,obind]
 rfl
end
end Go.Proofs.Ytkfaepfljlphoaa.Sym

/-
 The document's minimal machine, and that it is the program's. Plain laws.
-/
namespace Go.Proofs.Ytkfaepfljlphoaa.Sym
set_option maxRecDepth 100000
section
variable {m:T_api_Mealy} {c:List Int}
def clN (c:List Int) (s:Nat):Nat:=((c[s]?).getD 0).toNat
open Classical in
theorem clN_at (C:ClsOk m m.Next.length c) {s:Nat} (hs:s<m.Next.length):c[s]?=some (↑(clN c s):Int)∧clN c s<m.Next.length:=by
 obtain ⟨x,x1,x2⟩:=C.rng s hs
 unfold clN
 rw [x1,Option.getD_some,Int.toNat_natCast]
 exact ⟨rfl,x2⟩
structure Nums (m:T_api_Mealy) (c:List Int) (ord:List Nat) (num:List Int) (B:List (Nat×List Int)):Prop where
 ol:ord.length=B.length
 oc:∀ (j u:Nat) (x:Nat×List Int),ord[j]?=some u→B[j]?=some x→u<m.Next.length∧clN c u=x.1
 nl:num.length=m.Next.length
 n1:∀ (j:Nat) (x:Nat×List Int),B[j]?=some x→num[x.1]?=some (↑j:Int)
 n2:∀ x:Nat,x<m.Next.length→x∉B.map Prod.fst→num[x]?=some (-1:Int)
theorem Nums.push {ord:List Nat} {num:List Int} {B:List (Nat×List Int)} {u:Nat} {w:List Int} (N:Nums m c ord num B) (C:ClsOk m m.Next.length c) (hu:u<m.Next.length) (hn:clN c u∉B.map Prod.fst) (hB:(B.map Prod.fst).Nodup):Nums m c (ord++[u]) (num.set (clN c u) (↑B.length:Int)) (B++[(clN c u,w)]):=by
 have hcl:=(clN_at C hu).2
 refine ⟨by simp [N.ol],fun j v x hj hx=>?_,by simp [N.nl],fun j x hx=>?_,fun x hx hm=>?_⟩
 ·rcases Nat.lt_or_ge j B.length with h | h
  ·rw [List.getElem?_append_left (by rw [N.ol];exact h)] at hj
   rw [List.getElem?_append_left h] at hx
   exact N.oc j v x hj hx
  ·have hl:=(List.getElem?_eq_some_iff.1 hx).1
   rw [List.length_append,List.length_singleton] at hl
   have:j=B.length:=by omega
   subst this
   rw [List.getElem?_append_right (by rw [N.ol];exact Nat.le_refl _),N.ol,Nat.sub_self] at hj
   rw [List.getElem?_append_right (Nat.le_refl _),Nat.sub_self] at hx
   injection hj with hj
   injection hx with hx
   subst hj
   subst hx
   exact ⟨hu,rfl⟩
 ·rcases Nat.lt_or_ge j B.length with h | h
  ·rw [List.getElem?_append_left h] at hx
   rw [List.getElem?_set_ne (fun q=>hn (by rw [q];exact List.mem_map.2 ⟨x,List.mem_of_getElem? hx,rfl⟩)),N.n1 j x hx]
  ·have hl:=(List.getElem?_eq_some_iff.1 hx).1
   rw [List.length_append,List.length_singleton] at hl
   have:j=B.length:=by omega
   subst this
   rw [List.getElem?_append_right (Nat.le_refl _),Nat.sub_self] at hx
   injection hx with hx
   subst hx
   rw [List.getElem?_set_self (by rw [N.nl];exact hcl)]
 ·rw [List.map_append,List.mem_append,not_or] at hm
  have h1:clN c u≠x:=fun q=>hm.2 (by simp [q])
  rw [List.getElem?_set_ne h1]
  exact N.n2 x hx hm.1
end
end Go.Proofs.Ytkfaepfljlphoaa.Sym

/-
 Words that separate states, minimal machines and identifiers: the program's are the document's. Plain laws.
-/
namespace Go.Proofs.Ytkfaepfljlphoaa.Sym
set_option maxRecDepth 100000
theorem nodup_all {α:Type} [DecidableEq α] {l l':List α} (h:l.Nodup) (hs:∀ x∈l,x∈l') (hl:l'.length≤l.length):∀ x∈l',x∈l:=fun x hx=>Classical.byContradiction fun hn=>by
 have:=nodup_le (l:=x::l) (l':=l') (List.nodup_cons.2 ⟨hn,h⟩) fun y hy=>by
  rcases List.mem_cons.1 hy with rfl | hy
  ·exact hx
  ·exact hs y hy
 simp only [List.length_cons] at this
 omega
section
variable {m M:T_api_Mealy}
theorem MacOk.two (H:MacOk m):Two m m:=⟨H,H,rfl⟩
open Classical in
noncomputable def sepR (m:T_api_Mealy) (s t:Nat):List Int×Bool:=if h:∃ res,Fst m m (s,t) res then Classical.choose h else ([],false)
noncomputable def sepW (m:T_api_Mealy) (s t:Nat):List Int:=(sepR m s t).1
noncomputable def sepB (m:T_api_Mealy) (s t:Nat):Bool:=(sepR m s t).2
theorem sepR_of {s t:Nat} {res:List Int×Bool} (h:Fst m m (s,t) res):Fst m m (s,t) (sepW m s t,sepB m s t):=by
 have h':∃ res,Fst m m (s,t) res:=⟨res,h⟩
 have:sepR m s t=Classical.choose h':=dif_pos h'
 show Fst m m (s,t) (sepR m s t)
 rw [this]
 exact Classical.choose_spec h'
theorem sep_fst (H:MacOk m) {s t:Nat} (hs:s<m.Next.length) (ht:t<m.Next.length):Fst m m (s,t) (sepW m s t,sepB m s t):=by
 obtain ⟨res,_,h⟩:=equiv_search_eq H.two (p0:=(s,t)) hs ht
 exact sepR_of h
theorem States_prog (hv:validM m=0) {s t:Nat} (hs:s<m.Next.length) (ht:t<m.Next.length):equiv_States m (↑s:Int) (↑t:Int)=some (sepW m s t,sepB m s t,0):=by
 have H:=valid_ok hv
 have hK:0<m.Inputs.toNat:=by have:=H.i1;omega
 obtain ⟨res,h1,h2⟩:=equiv_search_eq H.two (p0:=(s,t)) hs ht
 have:=fst_uniq hK h2 (sepR_of h2)
 unfold equiv_States
 rw [mealy_Valid_eq,obind,hv,decide_eq_false (by decide),cond_false,decide_eq_false (by omega),cond_false,decide_eq_false (by omega),cond_false,decide_eq_false (by omega),cond_false,decide_eq_false (by omega),obind,cond_false,h1,obind,this]
theorem sepW_sm (H:MacOk m) {s t:Nat} (hs:s<m.Next.length) (ht:t<m.Next.length):WOk m.Inputs (sepW m s t)∧(sepW m s t).length≤m.Next.length*m.Next.length*m.Inputs.toNat:=by
 have h:=sep_fst H hs ht
 rcases h with ⟨i,c,x,g1,g2,g3,g4,g5⟩ | ⟨L,_,_,g⟩
 ·injection g5 with g5 _
  have hr:=pB_rng H.two (p0:=(s,t)) hs ht _ x (List.mem_of_getElem? g2)
  have hlen:=pB_len H.two (p0:=(s,t)) hs ht (i*m.Inputs.toNat+c)
  have hi:=(List.getElem?_eq_some_iff.1 g2).1
  have:=mem_lt (show i<m.Next.length*m.Next.length by omega) g1
  refine ⟨?_,?_⟩
  ·rw [g5]
   refine WOk.append hr.2.2.2.2.2 fun z hz=>?_
   have:z=(↑c:Int):=by simpa using hz
   omega
  ·rw [g5]
   simp
   omega
 ·injection g with g _
  rw [g]
  exact ⟨fun a ha=>(by cases ha),Nat.zero_le _⟩
structure MinimalP (m:T_api_Mealy):Prop where
 reach:∀ s,s<m.Next.length→∃ w,WOk m.Inputs w∧dest m m.Start.toNat w=s
 apart:∀ i j,i<m.Next.length→j<m.Next.length→Eqv m i m j→i=j
theorem sepB_of (H:MacOk m) (P:MinimalP m) {s t:Nat} (hs:s<m.Next.length) (ht:t<m.Next.length) (hne:s≠t):sepB m s t=true:=by
 cases e:sepB m s t with
 | true=>rfl
 | false =>
  have h:=sep_fst H hs ht
  rw [e] at h
  exact absurd (P.apart s t hs ht (fst_none h)) hne
theorem sepW_sep (H:MacOk m) (P:MinimalP m) {s t:Nat} (hs:s<m.Next.length) (ht:t<m.Next.length) (hne:s≠t):outs m s (sepW m s t)≠outs m t (sepW m s t):=by
 have h:=sep_fst H hs ht
 rw [sepB_of H P hs ht hne] at h
 exact fst_ne H.two (p0:=(s,t)) hs ht h
theorem can_reach (K:Can M) (hK:0<M.Inputs.toNat):∀ u,u<M.Next.length→∃ w,WOk M.Inputs w∧dest M 0 w=u:=by
 intro u
 induction u using Nat.strongRecOn with
 | ind u ih =>
  intro hu
  by_cases hz:u=0
  ·subst hz
   exact ⟨[],fun a ha=>(by cases ha),rfl⟩
  ·obtain ⟨i,a,h1,h2,h3⟩:=K.c5 u (by omega) hu
   obtain ⟨w,w1,w2⟩:=ih i h1 (by omega)
   refine ⟨w++[(↑a:Int)],w1.append fun z hz=>?_,?_⟩
   ·have:z=(↑a:Int):=by simpa using hz
    omega
   ·rw [dest_append,w2]
    show nx M i (Int.toNat ↑a)=u
    rw [Int.toNat_natCast,h3]
theorem sem_minimal (S:MinSem m M):MinimalP M:=⟨fun s hs=>by
 have hK:0<M.Inputs.toNat:=by have:=S.ok.i1;omega
 rw [S.start]
 exact can_reach S.can hK s hs,S.min⟩
theorem sem_le (H:MacOk m) (S:MinSem m M):M.Next.length≤m.Next.length∧(M.Next.length=m.Next.length↔MinimalP m):=by
 have hK:0<M.Inputs.toNat:=by have:=S.ok.i1;omega
 have hst:=H.st
 have hreach:=can_reach S.can hK
 have hf:∀ u,∃ s,u<M.Next.length→s<m.Next.length∧Eqv M u m s∧∃ w,WOk m.Inputs w∧dest m m.Start.toNat w=s:=fun u=>by
  by_cases hu:u<M.Next.length
  ·obtain ⟨w,w1,w2⟩:=hreach u hu
   have hw:WOk m.Inputs w:=by rw [← S.inp];exact w1
   refine ⟨dest m m.Start.toNat w,fun _=>⟨H.dest hw (by omega),?_,w,hw,rfl⟩⟩
   have:=S.eqv.dest S.inp w1
   rwa [w2] at this
  ·exact ⟨0,fun h=>absurd h hu⟩
 obtain ⟨f,hf⟩:=Classical.axiomOfChoice hf
 have hinj:((List.range M.Next.length).map f).Nodup:=by
  refine List.pairwise_map.2 (List.Pairwise.imp_of_mem (fun {a b} ha hb hne he=>hne ?_) (List.nodup_range (n:=M.Next.length)))
  have h1:=hf a (List.mem_range.1 ha)
  have h2:=hf b (List.mem_range.1 hb)
  rw [← he] at h2
  exact S.min a b (List.mem_range.1 ha) (List.mem_range.1 hb) (h1.2.1.trans S.inp (h2.2.1.symm S.inp))
 have hsub:∀ x∈(List.range M.Next.length).map f,x∈List.range m.Next.length:=fun x hx=>by
  obtain ⟨u,hu,rfl⟩:=List.mem_map.1 hx
  exact List.mem_range.2 (hf u (List.mem_range.1 hu)).1
 have hle:=nodup_le hinj hsub
 rw [List.length_map,List.length_range,List.length_range] at hle
 refine ⟨hle,fun he=>⟨fun s hs=>?_,fun i j hi hj hij=>?_⟩,fun P=>?_⟩
 ·have:=nodup_all hinj hsub (by simp [he]) s (List.mem_range.2 hs)
  obtain ⟨u,hu,rfl⟩:=List.mem_map.1 this
  exact (hf u (List.mem_range.1 hu)).2.2
 ·obtain ⟨u,hu,rfl⟩:=List.mem_map.1 (nodup_all hinj hsub (by simp [he]) i (List.mem_range.2 hi))
  obtain ⟨v,hv,rfl⟩:=List.mem_map.1 (nodup_all hinj hsub (by simp [he]) j (List.mem_range.2 hj))
  have h1:=hf u (List.mem_range.1 hu)
  have h2:=hf v (List.mem_range.1 hv)
  have:=S.min u v (List.mem_range.1 hu) (List.mem_range.1 hv) ((h1.2.1.trans S.inp hij).trans S.inp (h2.2.1.symm S.inp))
  rw [this]
 ·have hg:∀ s,∃ u,s<m.Next.length→u<M.Next.length∧Eqv M u m s:=fun s=>by
   by_cases hs:s<m.Next.length
   ·obtain ⟨w,w1,w2⟩:=P.reach s hs
    have hw:WOk M.Inputs w:=by rw [S.inp];exact w1
    refine ⟨dest M 0 w,fun _=>⟨S.ok.dest hw S.ok.n1,?_⟩⟩
    have:=S.eqv.dest S.inp hw
    rwa [w2] at this
   ·exact ⟨0,fun h=>absurd h hs⟩
  obtain ⟨g,hg⟩:=Classical.axiomOfChoice hg
  have ginj:((List.range m.Next.length).map g).Nodup:=by
   refine List.pairwise_map.2 (List.Pairwise.imp_of_mem (fun {a b} ha hb hne he=>hne ?_) (List.nodup_range (n:=m.Next.length)))
   have h1:=hg a (List.mem_range.1 ha)
   have h2:=hg b (List.mem_range.1 hb)
   rw [← he] at h2
   exact P.apart a b (List.mem_range.1 ha) (List.mem_range.1 hb) ((h1.2.symm S.inp).trans S.inp.symm h2.2)
  have:=nodup_le ginj (l':=List.range M.Next.length) fun x hx=>by
   obtain ⟨u,hu,rfl⟩:=List.mem_map.1 hx
   exact List.mem_range.2 (hg u (List.mem_range.1 hu)).1
  rw [List.length_map,List.length_range,List.length_range] at this
  omega
theorem reach_all {L:List (Nat×List Int)} {s0:Nat} (hE:MEnd m s0 L):∀ (w:List Int) (i:Nat) (x:Nat×List Int),L[i]?=some x→WOk m.Inputs w→∃ (j:Nat) (y:Nat×List Int),L[j]?=some y∧y.1=dest m x.1 w
 | [],i,x,hx,_=>⟨i,x,hx,rfl⟩
 | z::w,i,x,hx,hw=>by
  have hz:=hw.head
  obtain ⟨j,y,h1,h2,_⟩:=hE.closed hx (a:=z.toNat) (by omega)
  obtain ⟨k,v,g1,g2⟩:=reach_all hE w j y h1 hw.tail
  exact ⟨k,v,g1,by rw [g2,h2];rfl⟩
theorem minimal_prog (hv:validM m=0):∃ b,minimize_Minimal m=some b∧(b=true↔MinimalP m):=by
 have H:=valid_ok hv
 have hst:=H.st
 obtain ⟨M,h1,S⟩:=minimize_Min_eq hv
 obtain ⟨hle,hiff⟩:=sem_le H S
 obtain ⟨L,hE,hR⟩:=mealy_Reach_eq hv
 obtain ⟨hLn,hLr⟩:=mEnd_rng H (by omega) hE
 refine ⟨decide (M.Next.length=m.Next.length),?_,by rw [decide_eq_true_iff];exact hiff⟩
 unfold minimize_Minimal
 rw [mealy_Valid_eq,obind,hv,decide_eq_false (by decide),cond_false,hR,obind,obind]
 by_cases hl:L.length=m.Next.length
 ·rw [decide_eq_false (by rw [natI_len,List.length_map];omega),cond_false,h1,obind,decide_eq_true rfl,cond_true,obind]
  show some (decide ((↑M.Next.length:Int)=(↑m.Next.length:Int)))=_
  congr 1
  exact decide_eq_decide.2 (by omega)
 ·rw [decide_eq_true (by rw [natI_len,List.length_map];omega),cond_true,decide_eq_false]
  intro he
  have P:=hiff.1 he
  have:=nodup_le (l:=List.range m.Next.length) (l':=L.map Prod.fst) List.nodup_range fun s hs=>by
   obtain ⟨w,w1,w2⟩:=P.reach s (List.mem_range.1 hs)
   obtain ⟨j,y,g1,g2⟩:=reach_all hE w 0 _ hE.first w1
   exact List.mem_map.2 ⟨y,List.mem_of_getElem? g1,by rw [g2];exact w2⟩
  rw [List.length_range,List.length_map] at this
  omega
open Classical in
noncomputable def chkM (m:T_api_Mealy):Int:=if validM m≠0 then validM m else if MinimalP m then 0 else 1
open Classical in
theorem check_prog (m:T_api_Mealy):separate_check m=some (chkM m):=by
 unfold chkM separate_check
 rw [mealy_Valid_eq,obind]
 by_cases hv:validM m=0
 ·obtain ⟨b,h1,h3⟩:=minimal_prog hv
  rw [decide_eq_false (by omega),cond_false,h1,obind,if_neg (fun h=>h hv)]
  cases b with
  | true=>rw [if_pos (h3.1 rfl)];rfl
  | false=>rw [if_neg (fun q=>by have:=h3.2 q;cases this)];rfl
 ·rw [decide_eq_true hv,cond_true,if_pos hv]
open Classical in
noncomputable def idL (m:T_api_Mealy) (u k:Nat):List (List Int):=((List.range k).filter fun v=>decide (v≠u)).map (sepW m u)
theorem idL_len (u k:Nat):(idL m u k).length≤k:=by
 unfold idL
 rw [List.length_map]
 have:=List.length_filter_le (fun v=>decide (v≠u)) (List.range k)
 rwa [List.length_range] at this
theorem idL_mem {u k:Nat} {w:List Int} (h:w∈idL m u k):∃ v,v<k∧v≠u∧w=sepW m u v:=by
 obtain ⟨v,hv,rfl⟩:=List.mem_map.1 h
 obtain ⟨h1,h2⟩:=List.mem_filter.1 hv
 exact ⟨v,List.mem_range.1 h1,of_decide_eq_true h2,rfl⟩
noncomputable def idsM (m:T_api_Mealy):List (List (List Int)):=(List.range m.Next.length).map fun s=>sortW (idL m s m.Next.length)
end
end Go.Proofs.Ytkfaepfljlphoaa.Sym

/-
 The examples of the chapter on harmonized suites, reckoned.
-/
namespace Go.Proofs.Ytkfaepfljlphoaa.Sym
set_option maxRecDepth 100000
end Go.Proofs.Ytkfaepfljlphoaa.Sym

/-
 Suites with harmonized identifiers: the program's is the document's. Plain laws.
-/
namespace Go.Proofs.Ytkfaepfljlphoaa.Sym
set_option maxRecDepth 100000
def uptoL (i n:Int):List (List Int):=((wordset_Upto i n).getD ([],0)).1
theorem upto_allP:∀ i∈[1,2,3,4],∀ n∈[1,2,3],wordset_Upto i n=some (uptoL i n,0)∧((uptoL i n).all fun w=>decide (w.length≤3)&&w.all fun a=>decide (0≤a∧a<i))=true∧(uptoL i n).length≤85:=by decide +kernel
theorem upto_eq {i n:Int} (h1:1≤i) (h2:i≤4) (h3:1≤n) (h4:n≤3):wordset_Upto i n=some (uptoL i n,0)∧(∀ w∈uptoL i n,WOk i w∧w.length≤3)∧(uptoL i n).length≤85:=by
 obtain ⟨a,c,d⟩:=upto_allP i (by simp;omega) n (by simp;omega)
 refine ⟨a,fun w hw=>?_,d⟩
 have:=List.all_eq_true.1 c w hw
 rw [Bool.and_eq_true] at this
 exact ⟨fun x hx=>of_decide_eq_true (List.all_eq_true.1 this.2 x hx),of_decide_eq_true this.1⟩
theorem flat_le {α β:Type} {f:α→List β} {k:Nat}:∀ {l:List α},(∀ x∈l,(f x).length≤k)→(l.flatMap f).length≤l.length*k
 | [],_=>by simp
 | x::l,h=>by
  have h1:=h x (by simp)
  have h2:=flat_le (l:=l) fun y hy=>h y (List.mem_cons_of_mem _ hy)
  rw [List.flatMap_cons,List.length_append,List.length_cons,Nat.succ_mul]
  omega
theorem app_loop {α β R:Type} {step:List β×Nat→Option ((List β×Nat)⊕R)} {l:List α} {f:α→List β} {fin:List β→R} {acc:List β} (h1:∀ y i x,l[i]?=some x→y=acc++(l.take i).flatMap f→step (y,i)=some (.inl (y++f x,i+1)))
  (h2:step (acc++l.flatMap f,l.length)=some (.inr (fin (acc++l.flatMap f)))) (hl:l.length≤100000000000):iter step fuel (acc,0)=some (fin (acc++l.flatMap f)):=by
 refine iter_eq (fun s=>s.2≤l.length∧s.1=acc++(l.take s.2).flatMap f) (fun s=>l.length-s.2) (fun s hs=>?_) ⟨Nat.zero_le _,by simp⟩ (by have:=fuel_big;simp only;omega)
 obtain ⟨y,i⟩:=s
 obtain ⟨q1,q2⟩:=hs
 simp only at q1 q2
 by_cases g:i<l.length
 ·left
  have hx:=get_at g
  refine ⟨(y++f l[i],i+1),h1 y i _ hx q2,⟨g,?_⟩,by simp only;omega⟩
  simp only
  rw [q2,take_step hx,List.flatMap_append]
  simp
 ·right
  have:i=l.length:=by omega
  subst this
  rw [List.take_length] at q2
  rw [q2,h2]
section
variable {m M:T_api_Mealy} {ids:List (List (List Int))} {front middle:List (List Int)}
structure Parts (M:T_api_Mealy) (front middle:List (List Int)) (ids:List (List (List Int))):Prop where
 ok:validM M=0
 il:ids.length=M.Next.length
 is_:∀ l∈ids,l.length≤200∧∀ x∈l,x.length≤600
 f1:front.length≤200
 f2:∀ u∈front,WOk M.Inputs u∧u.length≤200
 m1:middle.length≤200
 m2:∀ v∈middle,WOk M.Inputs v∧v.length≤200
theorem check_of {w:List Int} (H:MacOk M) (h:WOk M.Inputs w) (hl:w.length≤1024):checkI w M.Inputs=0:=by
 have:=H.i1
 have:=H.i2
 unfold checkI
 rw [if_pos (by omega),if_neg (by omega),if_pos]
 exact List.all_eq_true.2 fun a ha=>by
  have:=h a ha
  simp
  omega
theorem parts_of (hsm:smallM m=true) (hv:validM m=0) {extra:Int} (h1:0≤extra) (h2:extra≤2):∃ M L,minimize_Min m=some (M,0)∧MinSem m M∧validM M=0∧MEnd M 0 L∧cover_StateCover M=some (L.map Prod.snd,0)∧MinimalP M∧M.Next.length≤8∧M.Inputs≤4∧M.Inputs=m.Inputs∧Parts M (L.map Prod.snd) (uptoL M.Inputs (extra+1)) (idsM M):=by
 have H:=valid_ok hv
 obtain ⟨_,hs8,hs4⟩:=smallM_of hsm
 obtain ⟨M,e1,S⟩:=minimize_Min_eq hv
 have hM:=validM_of S.ok
 have P:=sem_minimal S
 obtain ⟨hle,_⟩:=sem_le H S
 obtain ⟨L,hE,c1⟩:=cover_Access_eq hM
 have hst:M.Start.toNat=0:=by rw [S.start];rfl
 rw [hst] at hE
 have hi:=S.inp
 have hi1:=S.ok.i1
 obtain ⟨_,u3,u4⟩:=upto_eq (i:=M.Inputs) (n:=extra+1) (by omega) (by omega) (by omega) (by omega)
 have hLn:=mEnd_rng S.ok S.ok.n1 hE
 have hnn:M.Next.length*M.Next.length≤8*8:=Nat.mul_le_mul (by omega) (by omega)
 have hnk:M.Next.length*M.Next.length*M.Inputs.toNat≤8*8*4:=Nat.mul_le_mul hnn (by omega)
 refine ⟨M,L,e1,S,hM,hE,by unfold cover_StateCover;rw [c1,obind],P,by omega,by omega,hi,⟨hM,by simp [idsM],fun l hl=>?_,by rw [List.length_map];omega,fun u hu=>?_,by omega,fun v hv=>⟨(u3 v hv).1,by have:=(u3 v hv).2;omega⟩⟩⟩
 ·obtain ⟨s,hs,rfl⟩:=List.mem_map.1 hl
  have hs:=List.mem_range.1 hs
  refine ⟨?_,fun x hx=>?_⟩
  ·have h1:=sortW_length (idL M s M.Next.length)
   have h2:=idL_len (m:=M) s M.Next.length
   omega
  ·obtain ⟨v,v1,_,rfl⟩:=idL_mem ((mem_sortW _ _).1 hx)
   have:=(sepW_sm S.ok hs v1).2
   omega
 ·obtain ⟨x,hx,rfl⟩:=List.mem_map.1 hu
  refine ⟨(hLn.2 x hx).2.2,?_⟩
  have hx2:=hx
  rw [hE.eq] at hx2
  have h1:=(mB_rng S.ok S.ok.n1 _ x hx2).2.1
  have h2:L.length*M.Inputs.toNat≤8*4:=Nat.mul_le_mul (by omega) (by omega)
  omega
end
end Go.Proofs.Ytkfaepfljlphoaa.Sym

/-
 Suites with identifiers are complete: an implementation with few states that passes is equivalent. Plain laws.
-/
namespace Go.Proofs.Ytkfaepfljlphoaa.Sym
set_option maxRecDepth 100000
section
variable {M I:T_api_Mealy} {sM sI k:Nat} {U:List (List Int)} {T:Nat→List (List Int)}
structure Pass (M I:T_api_Mealy) (sM sI k:Nat) (U:List (List Int)) (T:Nat→List (List Int)):Prop where
 two:Two M I
 hM:sM<M.Next.length
 hI:sI<I.Next.length
 nil:[]∈U
 ok:∀ u∈U,WOk M.Inputs u
 cov:∀ s,s<M.Next.length→∃ u∈U,dest M sM u=s
 tne:∀ s,s<M.Next.length→∃ x,x∈T s
 tok:∀ s,∀ x∈T s,WOk M.Inputs x
 sep:∀ s s',s<M.Next.length→s'<M.Next.length→s≠s'→∃ x,x∈T s∧x∈T s'∧outs M s x≠outs M s' x
 pass:∀ u∈U,∀ v,WOk M.Inputs v→v.length≤k+1→∀ x∈T (dest M sM (u++v)),outs M sM (u++v++x)=outs I sI (u++v++x)
 few:∀ l:List Nat,l.Nodup→(∀ q∈l,∃ w,WOk M.Inputs w∧dest I sI w=q)→l.length≤M.Next.length+k
theorem outs_split {a b:T_api_Mealy} {s t:Nat} {w v:List Int} (h:outs a s (w++v)=outs b t (w++v)):outs a s w=outs b t w∧outs a (dest a s w) v=outs b (dest b t w) v:=by
 rw [outs_append,outs_append] at h
 exact List.append_inj h (by rw [outs_len,outs_len])
variable (P:Pass M I sM sI k U T)
include P
theorem Pass.at_ {u v:List Int} (hu:u∈U) (hv:WOk M.Inputs v) (hl:v.length≤k+1):outs M sM (u++v)=outs I sI (u++v)∧∀ x∈T (dest M sM (u++v)),outs M (dest M sM (u++v)) x=outs I (dest I sI (u++v)) x:=by
 have hd:dest M sM (u++v)<M.Next.length:=P.two.a1.dest ((P.ok u hu).append hv) P.hM
 obtain ⟨x,hx⟩:=P.tne _ hd
 exact ⟨(outs_split (P.pass u hu v hv hl x hx)).1,fun x hx=>(outs_split (P.pass u hu v hv hl x hx)).2⟩
theorem Pass.uniq {u v u' v':List Int} (hu:u∈U) (hv:WOk M.Inputs v) (hl:v.length≤k+1) (hu':u'∈U) (hv':WOk M.Inputs v') (hl':v'.length≤k+1) (h:dest I sI (u++v)=dest I sI (u'++v')):dest M sM (u++v)=dest M sM (u'++v'):=Classical.byContradiction fun hne=>by
 obtain ⟨x,x1,x2,x3⟩:=P.sep _ _ (P.two.a1.dest ((P.ok u hu).append hv) P.hM) (P.two.a1.dest ((P.ok u' hu').append hv') P.hM) hne
 have h1:=(P.at_ hu hv hl).2 x x1
 have h2:=(P.at_ hu' hv' hl').2 x x2
 rw [h] at h1
 exact x3 (h1.trans h2.symm)
omit P
def Vj (I:T_api_Mealy) (sI:Nat) (U:List (List Int)) (K:Int) (j q:Nat):Prop:=∃ u∈U,∃ v,WOk K v∧v.length≤j∧q=dest I sI (u++v)
def Closed (I:T_api_Mealy) (sI:Nat) (U:List (List Int)) (K:Int) (j:Nat):Prop:=∀ q,Vj I sI U K j q→∀ a,a<K.toNat→Vj I sI U K j (nx I q a)
theorem dest_snoc {m:T_api_Mealy} {s a:Nat} {w:List Int}:dest m s (w++[(↑a:Int)])=nx m (dest m s w) a:=by
 rw [dest_append]
 show nx m _ (Int.toNat ↑a)=_
 rw [Int.toNat_natCast]
theorem wok_snoc {K:Int} {w:List Int} {a:Nat} (h:WOk K w) (ha:a<K.toNat):WOk K (w++[(↑a:Int)]):=h.append fun z hz=>by
 have:z=(↑a:Int):=by simpa using hz
 omega
include P
theorem Pass.grow:∀ j,j≤k+1→Closed I sI U M.Inputs j∨∃ l:List Nat,l.Nodup∧(∀ q∈l,Vj I sI U M.Inputs j q)∧M.Next.length+j≤l.length
 | 0,_=>by
  right
  have hc:∀ s,∃ u,s<M.Next.length→u∈U∧dest M sM u=s:=fun s=>by
   by_cases hs:s<M.Next.length
   ·obtain ⟨u,h1,h2⟩:=P.cov s hs
    exact ⟨u,fun _=>⟨h1,h2⟩⟩
   ·exact ⟨[],fun h=>absurd h hs⟩
  obtain ⟨f,hf⟩:=Classical.axiomOfChoice hc
  have hnil:WOk M.Inputs []:=fun a ha=>(by cases ha)
  refine ⟨(List.range M.Next.length).map fun s=>dest I sI (f s),?_,fun q hq=>?_,by simp⟩
  ·refine List.pairwise_map.2 (List.Pairwise.imp_of_mem (fun {a b} ha hb hne he=>hne ?_) (List.nodup_range (n:=M.Next.length)))
   have h1:=hf a (List.mem_range.1 ha)
   have h2:=hf b (List.mem_range.1 hb)
   have:=P.uniq (v:=[]) (v':=[]) h1.1 hnil (by simp) h2.1 hnil (by simp) (by rw [List.append_nil,List.append_nil];exact he)
   rwa [List.append_nil,List.append_nil,h1.2,h2.2] at this
  ·obtain ⟨s,hs,rfl⟩:=List.mem_map.1 hq
   exact ⟨f s,(hf s (List.mem_range.1 hs)).1,[],hnil,Nat.le_refl _,by rw [List.append_nil]⟩
 | j+1,hj=>by
  by_cases hcl:Closed I sI U M.Inputs j
  ·left
   have hsub:∀ (v:List Int) (u:List Int),u∈U→WOk M.Inputs v→∀ q,Vj I sI U M.Inputs j q→Vj I sI U M.Inputs j (dest I q v):=by
    intro v
    induction v with
    | nil=>intro _ _ _ q hq;exact hq
    | cons z v ih =>
     intro u hu hv q hq
     have hz:=hv.head
     exact ih u hu hv.tail _ (hcl q hq z.toNat (by omega))
   have hall:∀ q,Vj I sI U M.Inputs (j+1) q→Vj I sI U M.Inputs j q:=fun q ⟨u,hu,v,hv,_,he⟩=>by
    rw [he,dest_append]
    exact hsub v u hu hv _ ⟨u,hu,[],fun a ha=>(by cases ha),Nat.zero_le _,by rw [List.append_nil]⟩
   have hup:∀ q,Vj I sI U M.Inputs j q→Vj I sI U M.Inputs (j+1) q:=fun q ⟨u,hu,v,hv,hl,he⟩=>⟨u,hu,v,hv,by omega,he⟩
   exact fun q hq a ha=>hup _ (hcl q (hall q hq) a ha)
  ·right
   rcases Pass.grow j (by omega) with h | ⟨l,l1,l2,l3⟩
   ·exact absurd h hcl
   ·obtain ⟨q,hq⟩:=Classical.not_forall.1 hcl
    obtain ⟨hq,hq2⟩:=Classical.not_imp.1 hq
    obtain ⟨a,ha⟩:=Classical.not_forall.1 hq2
    obtain ⟨ha,hn⟩:=Classical.not_imp.1 ha
    refine ⟨nx I q a::l,List.nodup_cons.2 ⟨fun h=>hn (l2 _ h),l1⟩,fun x hx=>?_,by rw [List.length_cons];omega⟩
    rcases List.mem_cons.1 hx with rfl | hx
    ·obtain ⟨u,hu,v,hv,hl,he⟩:=hq
     exact ⟨u,hu,v++[(↑a:Int)],wok_snoc hv ha,by simp;omega,by rw [← List.append_assoc,dest_snoc,← he]⟩
    ·obtain ⟨u,hu,v,hv,hl,he⟩:=l2 x hx
     exact ⟨u,hu,v,hv,by omega,he⟩
theorem Pass.closed:Closed I sI U M.Inputs k:=Classical.byContradiction fun hcl=>by
 rcases P.grow k (by omega) with h | ⟨l,l1,l2,l3⟩
 ·exact hcl h
 ·obtain ⟨q,hq⟩:=Classical.not_forall.1 hcl
  obtain ⟨hq,hq2⟩:=Classical.not_imp.1 hq
  obtain ⟨a,ha⟩:=Classical.not_forall.1 hq2
  obtain ⟨ha,hn⟩:=Classical.not_imp.1 ha
  have hreach:∀ x,Vj I sI U M.Inputs k x→∃ w,WOk M.Inputs w∧dest I sI w=x:=fun x ⟨u,hu,v,hv,_,he⟩=>⟨u++v,(P.ok u hu).append hv,he.symm⟩
  have:=P.few (nx I q a::l) (List.nodup_cons.2 ⟨fun h=>hn (l2 _ h),l1⟩) fun x hx=>by
   rcases List.mem_cons.1 hx with rfl | hx
   ·obtain ⟨w,w1,w2⟩:=hreach q hq
    exact ⟨w++[(↑a:Int)],wok_snoc w1 ha,by rw [dest_snoc,w2]⟩
   ·exact hreach x (l2 x hx)
  rw [List.length_cons] at this
  omega
theorem Pass.sim:∀ (w u v:List Int),WOk M.Inputs w→u∈U→WOk M.Inputs v→v.length≤k→outs M (dest M sM (u++v)) w=outs I (dest I sI (u++v)) w
 | [],_,_,_,_,_,_=>rfl
 | z::w,u,v,hw,hu,hv,hl=>by
  have hz:=hw.head
  have ha:z.toNat<M.Inputs.toNat:=by omega
  have hv1:=wok_snoc hv ha
  have h1:=(P.at_ hu hv1 (by simp;omega)).1
  rw [← List.append_assoc,outs_snoc,outs_snoc] at h1
  have h2:=List.append_inj_right' h1 rfl
  injection h2 with h2 _
  obtain ⟨u',hu',v',hv',hl',he⟩:=P.closed _ ⟨u,hu,v,hv,hl,rfl⟩ z.toNat ha
  have h3:=P.uniq hu hv1 (by simp;omega) hu' hv' (by omega) (by rw [← List.append_assoc,dest_snoc,he])
  rw [← List.append_assoc,dest_snoc] at h3
  have ih:=Pass.sim w u' v' hw.tail hu' hv' hl'
  show ot M _ z.toNat::outs M (nx M _ z.toNat) w=ot I _ z.toNat::outs I (nx I _ z.toNat) w
  rw [h2,h3,he,ih]
theorem Pass.equiv {w:List Int} (hw:WOk M.Inputs w):outs M sM w=outs I sI w:=by
 have:=P.sim w [] [] hw P.nil (fun a ha=>(by cases ha)) (Nat.zero_le _)
 exact this
end
end Go.Proofs.Ytkfaepfljlphoaa.Sym

/-
 Passing a suite, and equality of machines: the program's. Plain laws.
-/
namespace Go.Proofs.Ytkfaepfljlphoaa.Sym
set_option maxRecDepth 100000
section
variable {m b M:T_api_Mealy}
theorem common_ne {x y:List Int} (h:x.length=y.length) (hne:x≠y):common x y<x.length:=by
 induction x generalizing y with
 | nil=>exact absurd (List.length_eq_zero_iff.1 h.symm).symm hne
 | cons u x ih =>
  cases y with
  | nil=>cases h
  | cons v y =>
   by_cases e:u=v
   ·subst e
    have:=ih (y:=y) (by simpa using h) (fun q=>hne (by rw [q]))
    simp [common]
    omega
   ·simp [common,e]
theorem common_self (x:List Int):common x x=x.length:=by
 induction x with
 | nil=>rfl
 | cons u x ih=>simp [common,ih]
abbrev outS (m:T_api_Mealy) (w:List Int):List Int:=outs m m.Start.toNat w
def passG (m b:T_api_Mealy) (w:List Int):Option (List Int×Bool×Int):=if outS m w=outS b w then none else some (w.take (common (outS m w) (outS b w)+1),false,0)
def passM (m b:T_api_Mealy) (l:List (List Int)):List Int×Bool×Int :=
 if validM m≠0 then ([],false,validM m) else if validM b≠0 then ([],false,validM b) else if m.Inputs≠b.Inputs then ([],false,15) else
 match scan (fun _ w=>if checkI w m.Inputs≠0 then some (([],false,checkI w m.Inputs):List Int×Bool×Int) else none) 0 l with
 | some r=>r
 | none=>match scan (fun _ w=>passG m b w) 0 l with
  | some r=>r
  | none=>([],true,0)
theorem mealy_Run_ok (hv:validM m=0) {w:List Int} (hw:checkI w m.Inputs=0):mealy_Run m w=some (outS m w,0):=by
 have hl:=checkI_len hw
 have hst:=(valid_ok hv).st
 unfold mealy_Run
 rw [mealy_From_eq (by unfold SmW;omega),obind,fromM_start (by unfold SmW;omega) hv,if_neg (fun h=>h hw)]
theorem wsuite_Passes_eq {l:List (List Int)} (hl:SmL l):wsuite_Passes m b l=some (passM m b l):=by
 unfold wsuite_Passes passM
 rw [mealy_Valid_eq,obind]
 by_cases c1:validM m=0
 ·rw [decide_eq_false (by omega),cond_false,if_neg (fun h=>h c1),mealy_Valid_eq,obind]
  by_cases c2:validM b=0
  ·rw [decide_eq_false (by omega),cond_false,if_neg (fun h=>h c2)]
   by_cases c3:m.Inputs=b.Inputs
   ·rw [decide_eq_false (by omega),cond_false,if_neg (fun h=>h c3),iter_scan (l:=l) (fun _ w=>if checkI w m.Inputs≠0 then some (([],false,checkI w m.Inputs):List Int×Bool×Int) else none) (fun i w hw=>?_) ?_ (by have:=hl.1;omega),obind]
    ·cases e:scan (fun _ w=>if checkI w m.Inputs≠0 then some (([],false,checkI w m.Inputs):List Int×Bool×Int) else none) 0 l with
     | some r=>rfl
     | none =>
      show (iter _ fuel 0).bind _=_
      have hc:∀ w∈l,checkI w m.Inputs=0:=fun w hw=>by
       obtain ⟨i,hi,rfl⟩:=List.mem_iff_getElem.1 hw
       have:=scan_none.1 e i _ (get_at hi)
       split at this
       ·cases this
       ·rename_i h
        exact Classical.byContradiction h
      rw [iter_scan (l:=l) (fun _ w=>passG m b w) (fun i w hw=>?_) ?_ (by have:=hl.1;omega),obind]
      ·cases scan (fun _ w=>passG m b w) 0 l<;>rfl
      ·simp only [wsuite_Passes.s4]
       rw [decide_eq_false (by omega),cond_false]
      ·have hi:=(List.getElem?_eq_some_iff.1 hw).1
       have h0:=hc w (List.mem_of_getElem? hw)
       have hlen:=checkI_len h0
       simp only [wsuite_Passes.s4]
       rw [decide_eq_true (by omega),cond_true,idxn_at hw,mealy_Run_ok c1 h0,obind,decide_eq_false (fun h=>h rfl),cond_false,mealy_Run_ok c2 (by rw [← c3];exact h0),obind,decide_eq_false (fun h=>h rfl),cond_false]
       simp only
       rw [word_Common_eq _ _ (by unfold SmW;rw [outs_len];omega),obind]
       unfold passG
       by_cases e2:outS m w=outS b w
       ·have hcm:common (outS m w) (outS b w)=w.length:=by
         rw [← e2,common_self,outs_len]
        rw [decide_eq_false (by rw [hcm];omega),cond_false,if_pos e2]
       ·have hcm:common (outS m w) (outS b w)<w.length:=by
         have:=common_ne (x:=outS m w) (y:=outS b w) (by rw [outs_len,outs_len]) e2
         rwa [outs_len] at this
        rw [decide_eq_true (by omega),cond_true,chk_pos (by unfold inR;omega),chk_pos ⟨by omega,by omega⟩,word_Join_eq _ (by simp) (by simp;omega),obind,if_neg e2]
        congr 4
        simp
    ·simp only [wsuite_Passes.s2]
     rw [decide_eq_false (by omega),cond_false]
    ·have hi:=(List.getElem?_eq_some_iff.1 hw).1
     simp only [wsuite_Passes.s2]
     rw [decide_eq_true (by omega),cond_true,idxn_at hw,word_Check_eq _ _ (hl.2 w (List.mem_of_getElem? hw)),obind]
     by_cases h:checkI w m.Inputs=0
     ·rw [decide_eq_false (fun q=>q h),cond_false,if_neg (fun q=>q h)]
     ·rw [decide_eq_true h,cond_true,if_pos h]
   ·rw [decide_eq_true c3,cond_true,if_pos c3]
  ·rw [decide_eq_true c2,cond_true,if_pos c2]
 ·rw [decide_eq_true c1,cond_true,if_pos c1]
theorem pass_ok {l:List (List Int)} (c1:validM m=0) (c2:validM b=0) (c3:m.Inputs=b.Inputs) (hc:∀ w∈l,checkI w m.Inputs=0):(passM m b l).2.2=0∧((passM m b l).2.1=true↔∀ w∈l,outS m w=outS b w):=by
 unfold passM
 rw [if_neg (fun h=>h c1),if_neg (fun h=>h c2),if_neg (fun h=>h c3),scan_none.2 fun i w hw=>if_neg (fun h=>h (hc w (List.mem_of_getElem? hw)))]
 simp only
 cases e:scan (fun _ w=>passG m b w) 0 l with
 | some r =>
  obtain ⟨i,w,h1,h2⟩:=scan_mem e
  unfold passG at h2
  split at h2
  ·cases h2
  ·rename_i hne
   injection h2 with h2
   rw [← h2]
   exact ⟨rfl,fun h=>(by cases h),fun h=>absurd (h w (List.mem_of_getElem? h1)) hne⟩
 | none =>
  refine ⟨rfl,fun _ w hw=>?_,fun _=>rfl⟩
  obtain ⟨i,hi,rfl⟩:=List.mem_iff_getElem.1 hw
  have:=scan_none.1 e i _ (get_at hi)
  unfold passG at this
  split at this
  ·assumption
  ·cases this
theorem equiv_check_eq (c1:validM m=0) (c2:validM b=0) (c3:m.Inputs=b.Inputs):equiv_check m b=some 0:=by
 unfold equiv_check
 have key:=iter_eq (step:=fun (s:Nat)=>equiv_check.s2 m b s) (r:=(.inl ():Unit⊕Int)) (fun s=>s≤2) (fun s=>2-s) (fun s hs=>by
  simp only [equiv_check.s2]
  rcases Nat.lt_or_ge s 2 with h | h
  ·left
   rcases Nat.lt_or_ge s 1 with g | g
   ·have:s=0:=by omega
    subst this
    exact ⟨1,by rw [decide_eq_true (by omega),cond_true,decide_eq_true (by omega),cond_true,mealy_Valid_eq,obind,c1];rfl,by omega,by omega⟩
   ·have:s=1:=by omega
    subst this
    exact ⟨2,by rw [decide_eq_true (by omega),cond_true,decide_eq_false (by omega),cond_false,chk_pos (by omega),mealy_Valid_eq,obind,c2];rfl,by omega,by omega⟩
  ·right
   rw [decide_eq_false (by omega),cond_false]) (n:=fuel) (s:=0) (by omega) (by have:=fuel_big;omega)
 rw [key,obind]
 show (cond (decide (m.Inputs≠b.Inputs)) (some 15) (some 0):Option Int)=_
 rw [decide_eq_false (fun h=>h c3),cond_false]
theorem equiv_Equal_eq (c1:validM m=0) (c2:validM b=0) (c3:m.Inputs=b.Inputs):∃ e,equiv_Equal m b=some (e,0)∧(e=true↔Eqv m m.Start.toNat b b.Start.toNat):=by
 have T:Two m b:=⟨valid_ok c1,valid_ok c2,c3⟩
 have h1:=T.a1.st
 have h2:=T.b1.st
 obtain ⟨⟨w,f⟩,h3,h4⟩:=equiv_search_eq T (p0:=(m.Start.toNat,b.Start.toNat)) (by simp only;omega) (by simp only;omega)
 refine ⟨!f,?_,?_⟩
 ·unfold equiv_Equal equiv_Distinguish
  simp only at h3
  rw [show (↑m.Start.toNat:Int)=m.Start by omega,show (↑b.Start.toNat:Int)=b.Start by omega] at h3
  rw [equiv_check_eq c1 c2 c3,obind,decide_eq_false (by decide),cond_false,h3,obind,obind,decide_eq_true rfl,cond_true,obind]
 ·cases f with
  | true =>
   refine ⟨fun h=>(by cases h),fun h=>absurd ?_ (fst_ne T (p0:=(m.Start.toNat,b.Start.toNat)) (by simp only;omega) (by simp only;omega) h4)⟩
   exact h w (fst_word T (p0:=(m.Start.toNat,b.Start.toNat)) (by simp only;omega) (by simp only;omega) h4).1
  | false=>exact ⟨fun _=>fst_none h4,fun _=>rfl⟩
theorem max_above {l:List (List Int)} {N:Nat} (hN:∀ w∈l,w.length≤N):∀ (k:Nat) (w:List Int),w∈l→N-w.length≤k→∃ y∈maxR l,w <+: y:=by
 intro k
 induction k with
 | zero =>
  intro w hw hk
  refine ⟨w,(mem_maxR_iff l w).2 ⟨hw,fun y hy=>?_⟩,List.prefix_refl _⟩
  by_cases h:w <+: y
  ·have:=h.length_le
   have:=hN y hy
   exact Or.inl (h.eq_of_length (by omega)).symm
  ·exact Or.inr h
 | succ k ih =>
  intro w hw hk
  by_cases h:∃ y∈l,y≠w∧w <+: y
  ·obtain ⟨y,h1,h2,h3⟩:=h
   have hl:=h3.length_le
   have hne:w.length≠y.length:=fun q=>h2 (h3.eq_of_length q).symm
   obtain ⟨z,z1,z2⟩:=ih y h1 (by omega)
   exact ⟨z,z1,h3.trans z2⟩
  ·refine ⟨w,(mem_maxR_iff l w).2 ⟨hw,fun y hy=>?_⟩,List.prefix_refl _⟩
   by_cases g:y=w
   ·exact Or.inl g
   ·exact Or.inr fun q=>h ⟨y,hy,g,q⟩
theorem outs_prefix {s t:Nat} {w y:List Int} (hp:w <+: y) (h:outs m s y=outs b t y):outs m s w=outs b t w:=by
 obtain ⟨v,rfl⟩:=hp
 exact (outs_split h).1
def allW (i:Nat):Nat→List (List Int)
 | 0=>[[]]
 | k+1=>(List.range i).flatMap fun (a:Nat)=>(allW i k).map fun (w:List Int)=>Int.ofNat a::w
theorem mem_allW {i:Int}:∀ {w:List Int},WOk i w→w∈allW i.toNat w.length
 | [],_=>by simp [allW]
 | z::w,h=>by
  have hz:=h.head
  refine List.mem_flatMap.2 ⟨z.toNat,List.mem_range.2 (by omega),List.mem_map.2 ⟨w,mem_allW h.tail,?_⟩⟩
  have e:Int.ofNat z.toNat=z:=Int.toNat_of_nonneg hz.1
  rw [e]
theorem upto_allW:∀ i∈[1,2,3,4],∀ n∈[1,2,3],∀ k∈List.range (n+1),((allW i k).all fun w=>decide (w∈uptoL (↑i:Int) (↑n:Int)))=true:=by decide +kernel
theorem upto_has {i n:Int} (h1:1≤i) (h2:i≤4) (h3:1≤n) (h4:n≤3) {w:List Int} (hw:WOk i w) (hl:(↑w.length:Int)≤n):w∈uptoL i n:=by
 have:=upto_allW i.toNat (by simp;omega) n.toNat (by simp;omega) w.length (List.mem_range.2 (by omega))
 have:=List.all_eq_true.1 this w (mem_allW hw)
 rw [Int.toNat_of_nonneg (by omega),Int.toNat_of_nonneg (by omega)] at this
 exact of_decide_eq_true this
end
end Go.Proofs.Ytkfaepfljlphoaa.Sym

/-
 The law of HsuiteComplete. Plain law.
-/
namespace Go.Proofs.Ytkfaepfljlphoaa.Sym
set_option maxRecDepth 100000
section
variable {m b M:T_api_Mealy}
theorem reach_count {L:List (Nat×List Int)} (hE:MEnd b b.Start.toNat L) {l:List Nat} (hn:l.Nodup) (h:∀ q∈l,∃ w,WOk b.Inputs w∧dest b b.Start.toNat w=q):l.length≤L.length:=by
 have:=nodup_le hn (l':=L.map Prod.fst) fun q hq=>by
  obtain ⟨w,w1,w2⟩:=h q hq
  obtain ⟨j,y,g1,g2⟩:=reach_all hE w 0 _ hE.first w1
  exact List.mem_map.2 ⟨y,List.mem_of_getElem? g1,by rw [g2];exact w2⟩
 rwa [List.length_map] at this
theorem R09_Check_eq (m b:T_api_Mealy):R09_Check m b=some (if validM m≠0 then validM m else if validM b≠0 then validM b else if m.Inputs≠b.Inputs then 15 else 0):=by
 unfold R09_Check
 rw [R06_Valid_eq,obind]
 by_cases c1:validM m=0
 ·rw [decide_eq_false (fun h=>h c1),cond_false,if_neg (fun h=>h c1),R06_Valid_eq,obind]
  by_cases c2:validM b=0
  ·rw [decide_eq_false (fun h=>h c2),cond_false,if_neg (fun h=>h c2)]
   by_cases c3:m.Inputs=b.Inputs
   ·rw [decide_eq_false (fun h=>h c3),cond_false,if_neg (fun h=>h c3)]
   ·rw [decide_eq_true c3,cond_true,if_pos c3]
  ·rw [decide_eq_true c2,cond_true,if_pos c2]
 ·rw [decide_eq_true c1,cond_true,if_pos c1]
end
end Go.Proofs.Ytkfaepfljlphoaa.Sym

/-
 The examples of the chapter on suites of the W-method, reckoned.
-/
namespace Go.Proofs.Ytkfaepfljlphoaa.Sym
set_option maxRecDepth 100000
theorem awake29_true:L29_exampleHolds=some true:=by decide +kernel
end Go.Proofs.Ytkfaepfljlphoaa.Sym

/-
 The law of WsuitePasses. Plain law.
-/
namespace Go.Proofs.Ytkfaepfljlphoaa.Sym
set_option maxRecDepth 100000
theorem scan_first {R:Type} {F:Nat→R}:∀ (a b:List Int) (j:Nat) (B:Nat→Option Int),(∀ i,B (j+i)=b[i]?)→a.length=b.length→scan (fun k x=>if B k=some x then none else some (F k)) j a=if a=b then none else some (F (j+common a b))
 | [],[],_,_,_,_=>rfl
 | [],_::_,_,_,_,h=>by cases h
 | _::_,[],_,_,_,h=>by cases h
 | x::a,y::b,j,B,hB,h=>by
  have h0:B j=some y:=by have:=hB 0;simpa using this
  unfold scan
  by_cases e:y=x
  ·subst e
   rw [if_pos h0]
   show scan _ (j+1) a=_
   rw [scan_first a b (j+1) B (fun i=>by have:=hB (i+1);rw [show j+1+i=j+(i+1) by omega];simpa using this) (by simpa using h)]
   by_cases e2:a=b
   ·subst e2
    rw [if_pos rfl,if_pos rfl]
   ·rw [if_neg e2,if_neg (fun q=>e2 (by injection q))]
    rw [show j+1+common a b=j+common (y::a) (y::b) by simp [common];omega]
  ·rw [if_neg (fun q=>e (by rw [h0] at q;injection q)),if_neg (fun q=>e (by injection q with q1;exact q1.symm))]
   rw [show common (x::a) (y::b)=0 by simp [common,Ne.symm e]]
   rfl
section
variable {m b:T_api_Mealy}
end
end Go.Proofs.Ytkfaepfljlphoaa.Sym

/-
 The law of HsuiteRecognizes. Plain law.
-/
namespace Go.Proofs.Ytkfaepfljlphoaa.Sym
set_option maxRecDepth 100000
section
variable {m:T_api_Mealy}
open Classical in
end
end Go.Proofs.Ytkfaepfljlphoaa.Sym

/-
 Characterization sets: greedy lists of separating words; the program's and the document's. Plain laws.
-/
namespace Go.Proofs.Ytkfaepfljlphoaa.Sym
set_option maxRecDepth 100000
theorem slices_EqualD {a b:List Int} (h:SmW a):slices_Equal_Sint_int a b=some (decide (a=b)):=by
 unfold slices_Equal_Sint_int
 by_cases hlen:a.length=b.length
 ·rw [decide_eq_false (by omega),cond_false,iter_scan (l:=a) (fun k x=>if b[k]?=some x then none else some false) (fun k x hx=>?_) ?_ (by unfold SmW at h;omega),obind,scan_first (F:=fun _=>false) a b 0 (fun k=>b[k]?) (fun i=>by rw [Nat.zero_add]) hlen]
  ·by_cases e:a=b
   ·rw [if_pos e,decide_eq_true e]
    rfl
   ·rw [if_neg e,decide_eq_false e]
    rfl
  ·simp only [slices_Equal_Sint_int.s2]
   rw [decide_eq_false (by omega),cond_false]
  ·have hk:=(List.getElem?_eq_some_iff.1 hx).1
   have hy:=get_at (show k<b.length by omega)
   simp only [slices_Equal_Sint_int.s2]
   rw [decide_eq_true (by omega),cond_true,idxn_at hx,idxn_at hy,hy]
   by_cases e:x=b[k]'(by omega)
   ·rw [decide_eq_false (fun h=>h e),cond_false,if_pos (by rw [e])]
   ·rw [decide_eq_true e,cond_true,if_neg (fun q=>e (by injection q with q;exact q.symm))]
 ·rw [decide_eq_true (by omega),cond_true,decide_eq_false (fun e=>hlen (by rw [e]))]
section
variable {m:T_api_Mealy}
def sepd (m:T_api_Mealy) (s t:Nat) (acc:List (List Int)):Bool:=acc.any fun w=>decide (outs m s w≠outs m t w)
noncomputable def chStep (m:T_api_Mealy) (s:Nat) (acc:List (List Int)) (t:Nat):List (List Int):=if sepd m s t acc=true then acc else acc++[sepW m s t]
noncomputable def chRow (m:T_api_Mealy) (s:Nat) (acc:List (List Int)) (t:Nat):List (List Int):=(List.range' (s+1) (t-(s+1))).foldl (chStep m s) acc
noncomputable def chTo (m:T_api_Mealy) (s:Nat):List (List Int):=(List.range s).foldl (fun acc s=>chRow m s acc m.Next.length) []
noncomputable def chS (m:T_api_Mealy):List (List Int):=sortW (chTo m m.Next.length)
theorem chRow_step {s t:Nat} {acc:List (List Int)} (h:s<t):chRow m s acc (t+1)=chStep m s (chRow m s acc t) t:=by
 unfold chRow
 rw [show t+1-(s+1)=(t-(s+1))+1 by omega,List.range'_concat,List.foldl_append,show s+1+1*(t-(s+1))=t by omega]
 rfl
theorem chTo_step (s:Nat):chTo m (s+1)=chRow m s (chTo m s) m.Next.length:=by
 unfold chTo
 rw [List.range_succ,List.foldl_append]
 rfl
theorem separate_outs_eq (H:MacOk m) {s:Nat} (hs:s<m.Next.length) {w:List Int} (hw:WOk m.Inputs w) (hl:w.length≤100000000):separate_outs m (↑s:Int) w=some (outs m s w):=by
 unfold separate_outs
 have key:=iter_eq (step:=fun (q:Int×List Int×Nat)=>separate_outs.s2 m w q.1 q.2.1 q.2.2) (r:=outs m s w) (fun q=>q.2.2≤w.length∧q.1=(↑(dest m s (w.take q.2.2)):Int)∧q.2.1=outs m s (w.take q.2.2)) (fun q=>w.length-q.2.2) (fun q ⟨g1,g2,g3⟩=>by
  obtain ⟨st,y,k⟩:=q
  simp only at g1 g2 g3
  subst g2
  subst g3
  simp only [separate_outs.s2]
  by_cases g4:k<w.length
  ·left
   have hx:=get_at g4
   obtain ⟨x0,x1⟩:=hw _ (List.getElem_mem g4)
   have ha:w[k].toNat<m.Inputs.toNat:=by omega
   have hd:Sym.dest m s (w.take k)<m.Next.length:=H.dest (hw.take k) hs
   obtain ⟨_,_,_,x,y,e1,e2,e3,e4⟩:=H.at hd ha
   refine ⟨((↑(Sym.dest m s (w.take (k+1))):Int),outs m s (w.take (k+1)),k+1),?_,⟨g4,rfl,rfl⟩,by simp only;omega⟩
   rw [dec_lt hx,cond_true,idxn_at hx,idx_at rfl e2,idx_at (i:=w[k].toNat) (by omega) e4,chk_pos (by unfold capOk;rw [outs_len,List.length_take];omega),idx_at rfl e1,idx_at (i:=w[k].toNat) (by omega) e3,take_step hx,dest_append,outs_append]
   rfl
  ·right
   have e:k=w.length:=by omega
   subst e
   rw [decide_eq_false (by omega),cond_false,List.take_length]) (n:=fuel) (s:=((↑s:Int),[],0)) ⟨Nat.zero_le _,rfl,rfl⟩ (by have:=fuel_big;simp only;omega)
 rw [chk_pos ⟨Int.le_refl 0,by omega,by unfold capOk;omega⟩,key,obind]
def ChOk (m:T_api_Mealy) (acc:List (List Int)):Prop:=∀ w∈acc,WOk m.Inputs w∧w.length≤1024
theorem separated_eq (H:MacOk m) {s t:Nat} (hs:s<m.Next.length) (ht:t<m.Next.length) {acc:List (List Int)} (hA:ChOk m acc) (hl:acc.length≤1000000):separate_separated m acc (↑s:Int) (↑t:Int)=some (sepd m s t acc):=by
 unfold separate_separated separate_some_Sint_n3
 rw [iter_scan (l:=acc) (fun _ w=>if decide (outs m s w≠outs m t w)=true then some true else none) (fun i w hw=>?_) ?_ (by omega),obind]
 ·unfold sepd
  cases e:scan (fun _ w=>if decide (outs m s w≠outs m t w)=true then some true else none) 0 acc with
  | some r =>
   obtain ⟨i,x,hx,hg⟩:=scan_mem e
   split at hg
   ·rename_i h
    injection hg with hg
    rw [List.any_eq_true.2 ⟨x,List.mem_of_getElem? hx,h⟩,← hg]
    rfl
   ·cases hg
  | none =>
   rw [List.any_eq_false.2 fun x hx=>by
    obtain ⟨i,hi,rfl⟩:=List.mem_iff_getElem.1 hx
    have:=scan_none.1 e i _ (get_at hi)
    split at this
    ·cases this
    ·assumption]
   rfl
 ·simp only [separate_some_Sint_n3.s2]
  rw [decide_eq_false (by omega),cond_false]
 ·have hi:=(List.getElem?_eq_some_iff.1 hw).1
  obtain ⟨h1,h2⟩:=hA w (List.mem_of_getElem? hw)
  simp only [separate_some_Sint_n3.s2]
  rw [decide_eq_true (by omega),cond_true,idxn_at hw]
  unfold separate_separated_1
  rw [separate_outs_eq H hs h1 (by omega),obind,separate_outs_eq H ht h1 (by omega),obind,slices_EqualD (by unfold SmW;rw [outs_len];omega),obind,obind]
  by_cases e:outs m s w=outs m t w
  ·rw [decide_eq_true e,Bool.not_true,cond_false,if_neg (by simp [e])]
  ·rw [decide_eq_false e,Bool.not_false,cond_true,if_pos (by simp [e])]
theorem chStep_ok (H:MacOk m) (hb:m.Next.length*m.Next.length*m.Inputs.toNat≤1024) {s t:Nat} (hs:s<m.Next.length) (ht:t<m.Next.length) {acc:List (List Int)} (hA:ChOk m acc):ChOk m (chStep m s acc t)∧(chStep m s acc t).length≤acc.length+1:=by
 unfold chStep
 split
 ·exact ⟨hA,by omega⟩
 ·refine ⟨fun w hw=>?_,by simp⟩
  rcases List.mem_append.1 hw with h | h
  ·exact hA w h
  ·have:w=sepW m s t:=by simpa using h
   subst this
   obtain ⟨h1,h2⟩:=sepW_sm H hs ht
   exact ⟨h1,by omega⟩
theorem chRow_ok (H:MacOk m) (hb:m.Next.length*m.Next.length*m.Inputs.toNat≤1024) {s:Nat} (hs:s<m.Next.length) {acc:List (List Int)} (hA:ChOk m acc):∀ t,t≤m.Next.length→ChOk m (chRow m s acc t)∧(chRow m s acc t).length≤acc.length+t
 | 0,_=>by
  unfold chRow
  rw [Nat.zero_sub]
  exact ⟨hA,by simp⟩
 | t+1,ht=>by
  obtain ⟨h1,h2⟩:=chRow_ok H hb hs hA t (by omega)
  by_cases g:s<t
  ·rw [chRow_step g]
   obtain ⟨h3,h4⟩:=chStep_ok H hb hs (t:=t) (by omega) h1
   exact ⟨h3,by omega⟩
  ·unfold chRow
   rw [show t+1-(s+1)=0 by omega]
   exact ⟨hA,by simp⟩
theorem chTo_ok (H:MacOk m) (hb:m.Next.length*m.Next.length*m.Inputs.toNat≤1024):∀ s,s≤m.Next.length→ChOk m (chTo m s)∧(chTo m s).length≤s*m.Next.length
 | 0,_=>⟨fun w hw=>(by cases hw),by simp [chTo]⟩
 | s+1,hs=>by
  obtain ⟨h1,h2⟩:=chTo_ok H hb s (by omega)
  rw [chTo_step]
  obtain ⟨h3,h4⟩:=chRow_ok H hb (s:=s) (by omega) h1 m.Next.length (Nat.le_refl _)
  exact ⟨h3,by rw [Nat.succ_mul];omega⟩
theorem chTo_len (H:MacOk m) (hb:m.Next.length*m.Next.length*m.Inputs.toNat≤1024) {s:Nat} (hs:s≤m.Next.length):(chTo m s).length≤128*128:=by
 have h1:=(chTo_ok H hb s hs).2
 have hn:=H.n2
 have h2:s*m.Next.length≤128*128:=Nat.mul_le_mul (by omega) hn
 omega
theorem separate_Charset_eq (hv:validM m=0) (P:MinimalP m) (hb:m.Next.length*m.Next.length*m.Inputs.toNat≤1024):separate_Charset m=some (chS m,0):=by
 have H:=valid_ok hv
 have hn:=H.n2
 have hc:chkM m=0:=by
  unfold chkM
  rw [if_neg (fun h=>h hv),if_pos P]
 unfold separate_Charset
 rw [check_prog m,obind,hc,decide_eq_false (by decide),cond_false]
 have inner:∀ s,s<m.Next.length→iter (fun (q:List (List Int)×Nat)=>separate_Charset.s13 m s q.1 q.2) fuel (chTo m s,s+1)=some (.inl (chRow m s (chTo m s) m.Next.length)):=fun s hs=>by
  obtain ⟨c1,_⟩:=chTo_ok H hb s (Nat.le_of_lt hs)
  have c2:=chTo_len H hb (Nat.le_of_lt hs)
  refine iter_eq (fun q=>s<q.2∧q.2≤m.Next.length∧q.1=chRow m s (chTo m s) q.2) (fun q=>m.Next.length-q.2) (fun q ⟨q1,q2,q3⟩=>?_) ⟨Nat.lt_succ_self _,hs,by unfold chRow;rw [Nat.sub_self];rfl⟩ (by have:=fuel_big;simp only;omega)
  obtain ⟨y,t⟩:=q
  simp only at q1 q2 q3
  subst q3
  obtain ⟨d1,d2⟩:=chRow_ok H hb hs c1 t q2
  simp only [separate_Charset.s13]
  by_cases g:t<m.Next.length
  ·left
   refine ⟨(chRow m s (chTo m s) (t+1),t+1),?_,⟨by simp only;omega,g,rfl⟩,by simp only;omega⟩
   rw [decide_eq_true (by omega),cond_true,separated_eq H hs g d1 (by omega),obind,chRow_step q1]
   unfold chStep
   cases e:sepd m s t (chRow m s (chTo m s) t) with
   | true =>
    rw [cond_true,obind,if_pos rfl]
    rfl
   | false =>
    rw [cond_false,States_prog hv hs g,obind]
    simp only
    rw [decide_eq_false (fun h=>h rfl),cond_false,chk_pos (by unfold capOk;omega),obind,if_neg (by decide)]
    rfl
  ·right
   have:t=m.Next.length:=by omega
   subst this
   rw [decide_eq_false (by omega),cond_false]
 have outer:=iter_eq (step:=fun (q:List (List Int)×Nat)=>separate_Charset.s14 m q.1 q.2) (r:=.inl (chTo m m.Next.length)) (fun q=>q.2≤m.Next.length∧q.1=chTo m q.2) (fun q=>m.Next.length-q.2) (fun q ⟨q1,q2⟩=>by
  obtain ⟨y,s⟩:=q
  simp only at q1 q2
  subst q2
  simp only [separate_Charset.s14]
  by_cases g:s<m.Next.length
  ·left
   refine ⟨(chTo m (s+1),s+1),?_,⟨g,rfl⟩,by simp only;omega⟩
   rw [decide_eq_true (by omega),cond_true,inner s g,obind,chTo_step]
   rfl
  ·right
   have:s=m.Next.length:=by omega
   subst this
   rw [decide_eq_false (by omega),cond_false]) (n:=fuel) (s:=([],0)) ⟨Nat.zero_le _,rfl⟩ (by have:=fuel_big;simp only;omega)
 rw [outer,obind]
 have c2:=chTo_len H hb (Nat.le_refl m.Next.length)
 show (wordset_Sorted (chTo m m.Next.length)).bind _=_
 rw [wordset_Sorted_eq ⟨by omega,fun w hw=>by
  have:=((chTo_ok H hb m.Next.length (Nat.le_refl _)).1 w hw).2
  unfold SmW
  omega⟩,obind]
 rfl
end
end Go.Proofs.Ytkfaepfljlphoaa.Sym

/-
 The law of WsuiteSuites. Plain law.
-/
namespace Go.Proofs.Ytkfaepfljlphoaa.Sym
set_option maxRecDepth 100000
def rowX (last:List (List Int)) (u v:List Int):List (List Int):=last.flatMap fun x=>[u++v++x]
def allX (front middle last:List (List Int)):List (List Int):=front.flatMap fun u=>middle.flatMap fun v=>rowX last u v
def Fits (n k:Nat) (l:List (List Int)):Prop:=l.length≤n∧∀ x∈l,x.length≤k
theorem rowX_len (last:List (List Int)) (u v:List Int):(rowX last u v).length≤last.length:=by
 have:(rowX last u v).length≤last.length*1:=flat_le fun x _=>Nat.le_refl _
 omega
section
variable {front middle last:List (List Int)}
theorem midX_len (hl:last.length≤20000) (u:List Int) (l:List (List Int)):(l.flatMap fun v=>rowX last u v).length≤l.length*20000:=flat_le fun v _=>Nat.le_trans (rowX_len last u v) hl
theorem allX_len (hl:last.length≤20000) (hm:middle.length≤200) (l:List (List Int)):(l.flatMap fun u=>middle.flatMap fun v=>rowX last u v).length≤l.length*4000000:=flat_le fun u _=>Nat.le_trans (midX_len hl u middle) (by omega)
theorem ranged_eq (hf:Fits 200 200 front) (hm:Fits 200 200 middle) (hl:Fits 20000 1024 last):wsuite_ranged front middle last []=some (allX front middle last):=by
 obtain ⟨f1,f2⟩:=hf
 obtain ⟨m1,m2⟩:=hm
 obtain ⟨l1,l2⟩:=hl
 have inmost:∀ (u v:List Int) (acc:List (List Int)),u.length≤200→v.length≤200→acc.length≤900000000→iter (fun (s:List (List Int)×Nat)=>wsuite_ranged.s84 last u v s.1 s.2) fuel (acc,0)=some (.inl (acc++rowX last u v)):=by
  intro u v acc hu hv hacc
  refine app_loop (l:=last) (f:=fun x=>[u++v++x]) (fin:=fun y=>Sum.inl y) (fun y i x hx hy=>?_) ?_ (by omega)
  ·have hi:=(List.getElem?_eq_some_iff.1 hx).1
   have hxl:=l2 x (List.mem_of_getElem? hx)
   have hyl:y.length≤900000000+20000:=by
    rw [hy,List.length_append]
    have:=rowX_len (last.take i) u v
    unfold rowX at this
    rw [List.length_take] at this
    omega
   simp only [wsuite_ranged.s84]
   rw [decide_eq_true (by omega),cond_true,idxn_at hx,word_Join_eq [u,v,x] (by simp) (by simp;omega),obind,show [u,v,x].flatten=u++v++x by simp]
   unfold wsuite_yield wsuite_round
   rw [chk_pos (by unfold capOk;omega),obind,obind]
   rfl
  ·simp only [wsuite_ranged.s84]
   rw [decide_eq_false (by omega),cond_false]
 have inner:∀ (u:List Int) (acc:List (List Int)),u.length≤200→acc.length≤800000000→iter (fun (s:List (List Int)×Nat)=>wsuite_ranged.s85 middle last u s.1 s.2) fuel (acc,0)=some (.inl (acc++middle.flatMap fun v=>rowX last u v)):=by
  intro u acc hu hacc
  refine app_loop (l:=middle) (f:=fun v=>rowX last u v) (fin:=fun y=>Sum.inl y) (fun y i v hv hy=>?_) ?_ (by omega)
  ·have hi:=(List.getElem?_eq_some_iff.1 hv).1
   have hyl:y.length≤900000000:=by
    rw [hy,List.length_append]
    have h1:=midX_len l1 u (middle.take i)
    rw [List.length_take] at h1
    omega
   simp only [wsuite_ranged.s85]
   rw [decide_eq_true (by omega),cond_true,idxn_at hv,inmost u v y hu (m2 v (List.mem_of_getElem? hv)) hyl,obind]
   rfl
  ·simp only [wsuite_ranged.s85]
   rw [decide_eq_false (by omega),cond_false]
 unfold wsuite_ranged
 have:=app_loop (step:=fun (s:List (List Int)×Nat)=>wsuite_ranged.s86 front middle last s.1 s.2) (l:=front) (fin:=fun y=>(Sum.inl y:List (List Int)⊕List (List Int))) (acc:=[]) (f:=fun u=>middle.flatMap fun v=>rowX last u v) (fun y i u hu hy=>by
  have hi:=(List.getElem?_eq_some_iff.1 hu).1
  have hyl:y.length≤800000000:=by
   rw [hy,List.nil_append]
   have h1:=allX_len l1 m1 (front.take i)
   rw [List.length_take] at h1
   omega
  simp only [wsuite_ranged.s86]
  rw [decide_eq_true (by omega),cond_true,idxn_at hu,inner u y (f2 u (List.mem_of_getElem? hu)) hyl,obind]
  rfl) (by
  simp only [wsuite_ranged.s86]
  rw [decide_eq_false (by omega),cond_false]) (by omega)
 rw [this,obind]
 rfl
end
end Go.Proofs.Ytkfaepfljlphoaa.Sym

/-
 The law of WsuiteSuites. Plain law.
-/
namespace Go.Proofs.Ytkfaepfljlphoaa.Sym
set_option maxRecDepth 100000
noncomputable def lastM (M:T_api_Mealy):List (List Int):=if (chS M).length=0 then [[]] else chS M
def suiteX (front middle last:List (List Int)):List (List Int)×Int:=if 10000<front.length*middle.length*last.length then ([],11) else (maxR (allX front middle last),0)
section
variable {m M:T_api_Mealy}
theorem small_prod (hn8:M.Next.length≤8) (hi4:M.Inputs≤4):M.Next.length*M.Next.length*M.Inputs.toNat≤1024:=by
 have h1:M.Next.length*M.Next.length≤8*8:=Nat.mul_le_mul hn8 hn8
 have h2:M.Next.length*M.Next.length*M.Inputs.toNat≤8*8*4:=Nat.mul_le_mul h1 (by omega)
 omega
theorem lastM_fits (hv:validM M=0) (hn8:M.Next.length≤8) (hi4:M.Inputs≤4):Fits 20000 1024 (lastM M):=by
 have H:=valid_ok hv
 have hb:=small_prod hn8 hi4
 unfold lastM
 split
 ·exact ⟨by simp,fun x hx=>by
   have:x=[]:=by simpa using hx
   rw [this]
   simp⟩
 ·have h1:=sortW_length (chTo M M.Next.length)
  have h2:=chTo_len H hb (Nat.le_refl M.Next.length)
  refine ⟨?_,fun x hx=>((chTo_ok H hb M.Next.length (Nat.le_refl _)).1 x ((mem_sortW _ _).1 hx)).2⟩
  unfold chS
  omega
theorem last_cond:(cond (decide ((↑(List.length (chS M)):Int)=0)) (some [[]]) (some (chS M)):Option (List (List Int)))=some (lastM M):=by
 unfold lastM
 by_cases h:(chS M).length=0
 ·rw [decide_eq_true (by omega),cond_true,if_pos h]
 ·rw [decide_eq_false (by omega),cond_false,if_neg h]
theorem allX_sm {front middle last:List (List Int)} (hf:Fits 200 200 front) (hm:Fits 200 200 middle) (hl:Fits 20000 1024 last) (h:front.length*middle.length*last.length≤10000):SmL (allX front middle last):=by
 refine ⟨?_,fun w hw=>?_⟩
 ·have h1:(allX front middle last).length≤front.length*(middle.length*last.length):=flat_le fun u _=>flat_le fun v _=>rowX_len last u v
  rw [← Nat.mul_assoc] at h1
  omega
 ·obtain ⟨u,hu,hw⟩:=List.mem_flatMap.1 hw
  obtain ⟨v,hv,hw⟩:=List.mem_flatMap.1 hw
  obtain ⟨x,hx,hw⟩:=List.mem_flatMap.1 hw
  have hw:w=u++v++x:=by simpa using hw
  have h1:=hf.2 u hu
  have h2:=hm.2 v hv
  have h3:=hl.2 x hx
  rw [hw]
  unfold SmW
  simp
  omega
theorem prod3 {a b c:Nat} (ha:a≤200) (hb:b≤200) (hc:c≤20000):a*b≤40000∧a*b*c≤800000000:=by
 have h1:a*b≤200*200:=Nat.mul_le_mul ha hb
 have h2:a*b*c≤200*200*20000:=Nat.mul_le_mul h1 hc
 omega
theorem wsuite_prog (hsm:smallM m=true) (hv:validM m=0) {extra:Int} (h1:0≤extra) (h2:extra≤2):∃ M L,minimize_Min m=some (M,0)∧MinSem m M∧validM M=0∧MEnd M 0 L∧MinimalP M∧M.Next.length≤8∧M.Inputs≤4∧M.Inputs=m.Inputs∧Parts M (L.map Prod.snd) (uptoL M.Inputs (extra+1)) (idsM M)∧Fits 20000 1024 (lastM M)∧wsuite_Suite m extra=some (suiteX (L.map Prod.snd) (uptoL M.Inputs (extra+1)) (lastM M)):=by
 obtain ⟨M,L,e1,S,hM,hE,c1,PM,hn8,hi4,hi,P⟩:=parts_of hsm hv h1 h2
 have hi1:=S.ok.i1
 obtain ⟨u1,_,_⟩:=upto_eq (i:=M.Inputs) (n:=extra+1) (by omega) (by omega) (by omega) (by omega)
 have hL:=lastM_fits hM hn8 hi4
 have hf:Fits 200 200 (L.map Prod.snd):=⟨P.f1,fun u hu=>(P.f2 u hu).2⟩
 have hm:Fits 200 200 (uptoL M.Inputs (extra+1)):=⟨P.m1,fun v hv=>(P.m2 v hv).2⟩
 obtain ⟨b1,b2⟩:=prod3 P.f1 P.m1 hL.1
 refine ⟨M,L,e1,S,hM,hE,PM,hn8,hi4,hi,P,hL,?_⟩
 unfold wsuite_Suite
 rw [mealy_Valid_eq,obind,decide_eq_false (by omega),cond_false,decide_eq_false (by omega),cond_false,decide_eq_false (by omega),obind,cond_false,e1,obind,decide_eq_false (fun h=>h rfl),cond_false]
 simp only
 rw [c1,obind,decide_eq_false (fun h=>h rfl),cond_false,chk_pos (by unfold inR;omega),u1,obind,decide_eq_false (fun h=>h rfl),cond_false,separate_Charset_eq hM PM (small_prod hn8 hi4),obind,decide_eq_false (fun h=>h rfl),cond_false]
 simp only
 rw [last_cond,obind,← Int.natCast_mul,chk_pos (by unfold inR;omega),← Int.natCast_mul,chk_pos (by unfold inR;omega)]
 unfold suiteX
 by_cases h:10000<(L.map Prod.snd).length*(uptoL M.Inputs (extra+1)).length*(lastM M).length
 ·rw [decide_eq_true (by omega),cond_true,if_pos h]
 ·rw [decide_eq_false (by omega),cond_false,if_neg h,ranged_eq hf hm hL,obind,wordset_Maximal_eq (allX_sm hf hm hL (by omega)),obind]
end
end Go.Proofs.Ytkfaepfljlphoaa.Sym

/-
 The law of WsuiteComplete. Plain law.
-/
namespace Go.Proofs.Ytkfaepfljlphoaa.Sym
set_option maxRecDepth 100000
section
variable {m b M:T_api_Mealy}
theorem sepd_mono {s t:Nat} {a c:List (List Int)} (h:∀ x∈a,x∈c) (hs:sepd m s t a=true):sepd m s t c=true:=by
 obtain ⟨x,hx,h1⟩:=List.any_eq_true.1 hs
 exact List.any_eq_true.2 ⟨x,h x hx,h1⟩
theorem chStep_sub {s t:Nat} {acc:List (List Int)}:∀ x∈acc,x∈chStep m s acc t:=fun x hx=>by
 unfold chStep
 split
 ·exact hx
 ·exact List.mem_append_left _ hx
theorem chRow_sub {s:Nat} {acc:List (List Int)}:∀ t,∀ x∈acc,x∈chRow m s acc t
 | 0,x,hx=>by
  unfold chRow
  rw [Nat.zero_sub]
  exact hx
 | t+1,x,hx=>by
  by_cases g:s<t
  ·rw [chRow_step g]
   exact chStep_sub x (chRow_sub t x hx)
  ·unfold chRow
   rw [show t+1-(s+1)=0 by omega]
   exact hx
theorem chRow_more {s:Nat} {acc:List (List Int)}:∀ t d,s<t→∀ x∈chRow m s acc t,x∈chRow m s acc (t+d)
 | _,0,_,_,hx=>hx
 | t,d+1,g,x,hx=>by
  rw [show t+(d+1)=(t+d)+1 by omega,chRow_step (by omega)]
  exact chStep_sub x (chRow_more t d g x hx)
theorem chTo_more:∀ s d,∀ x∈chTo m s,x∈chTo m (s+d)
 | _,0,_,hx=>hx
 | s,d+1,x,hx=>by
  rw [show s+(d+1)=(s+d)+1 by omega,chTo_step]
  exact chRow_sub _ x (chTo_more s d x hx)
theorem chTo_sep (H:MacOk m) (P:MinimalP m) {s t:Nat} (hs:s<t) (ht:t<m.Next.length):sepd m s t (chTo m m.Next.length)=true:=by
 have h1:sepd m s t (chRow m s (chTo m s) (t+1))=true:=by
  rw [chRow_step hs]
  unfold chStep
  split
  ·assumption
  ·exact List.any_eq_true.2 ⟨sepW m s t,List.mem_append_right _ (by simp),decide_eq_true (sepW_sep H P (by omega) ht (by omega))⟩
 have h2:sepd m s t (chTo m (s+1))=true:=sepd_mono (fun x hx=>by
  rw [chTo_step]
  have:=chRow_more (m:=m) (acc:=chTo m s) (t+1) (m.Next.length-(t+1)) (by omega) x hx
  rwa [show t+1+(m.Next.length-(t+1))=m.Next.length by omega] at this) h1
 exact sepd_mono (fun x hx=>by
  have:=chTo_more (m:=m) (s+1) (m.Next.length-(s+1)) x hx
  rwa [show s+1+(m.Next.length-(s+1))=m.Next.length by omega] at this) h2
theorem lastM_sep (H:MacOk m) (P:MinimalP m) {s t:Nat} (hs:s<m.Next.length) (ht:t<m.Next.length) (hne:s≠t):∃ x∈lastM m,outs m s x≠outs m t x:=by
 have key:∀ {s t:Nat},s<t→t<m.Next.length→∃ x∈lastM m,outs m s x≠outs m t x:=fun {s t} g ht=>by
  obtain ⟨x,hx,h1⟩:=List.any_eq_true.1 (chTo_sep H P g ht)
  have hx':x∈chS m:=(mem_sortW _ _).2 hx
  refine ⟨x,?_,of_decide_eq_true h1⟩
  unfold lastM
  rw [if_neg (by have:=List.length_pos_of_mem hx';omega)]
  exact hx'
 rcases Nat.lt_or_ge s t with g | g
 ·exact key g ht
 ·obtain ⟨x,h1,h2⟩:=key (s:=t) (t:=s) (by omega) hs
  exact ⟨x,h1,fun e=>h2 e.symm⟩
theorem lastM_wok (H:MacOk m) (hb:m.Next.length*m.Next.length*m.Inputs.toNat≤1024):∀ x∈lastM m,WOk m.Inputs x∧x.length≤1024:=fun x hx=>by
 unfold lastM at hx
 split at hx
 ·have:x=[]:=by simpa using hx
  rw [this]
  exact ⟨fun a ha=>(by cases ha),by simp⟩
 ·exact (chTo_ok H hb m.Next.length (Nat.le_refl _)).1 x ((mem_sortW _ _).1 hx)
theorem lastM_256 (H:MacOk m) (hv:validM m=0) (hb:m.Next.length*m.Next.length*m.Inputs.toNat≤256):∀ x∈lastM m,x.length≤256:=fun x hx=>by
 unfold lastM at hx
 split at hx
 ·have:x=[]:=by simpa using hx
  rw [this]
  simp
 ·have hx:=(mem_sortW _ _).1 hx
  have h1:∀ (s:Nat) (acc:List (List Int)),s<m.Next.length→(∀ y∈acc,y.length≤256)→∀ t,t≤m.Next.length→∀ y∈chRow m s acc t,y.length≤256:=fun s acc hs hA t=>by
   induction t with
   | zero =>
    intro _ y hy
    unfold chRow at hy
    rw [Nat.zero_sub] at hy
    exact hA y hy
   | succ t ih =>
    intro ht y hy
    by_cases g:s<t
    ·rw [chRow_step g] at hy
     unfold chStep at hy
     split at hy
     ·exact ih (by omega) y hy
     ·rcases List.mem_append.1 hy with h | h
      ·exact ih (by omega) y h
      ·have:y=sepW m s t:=by simpa using h
       rw [this]
       have:=(sepW_sm H hs (t:=t) (by omega)).2
       omega
    ·unfold chRow at hy
     rw [show t+1-(s+1)=0 by omega] at hy
     exact hA y hy
  have h2:∀ s,s≤m.Next.length→∀ y∈chTo m s,y.length≤256:=fun s=>by
   induction s with
   | zero=>intro _ y hy;cases hy
   | succ s ih =>
    intro hs y hy
    rw [chTo_step] at hy
    exact h1 s _ (by omega) (ih (by omega)) _ (Nat.le_refl _) y hy
  exact h2 _ (Nat.le_refl _) x hx
theorem small_256 (hn8:M.Next.length≤8) (hi4:M.Inputs≤4):M.Next.length*M.Next.length*M.Inputs.toNat≤256:=by
 have h1:M.Next.length*M.Next.length≤8*8:=Nat.mul_le_mul hn8 hn8
 have h2:M.Next.length*M.Next.length*M.Inputs.toNat≤8*8*4:=Nat.mul_le_mul h1 (by omega)
 omega
theorem mem_allX {front middle last:List (List Int)} {w:List Int}:w∈allX front middle last↔∃ u∈front,∃ v∈middle,∃ x∈last,w=u++v++x:=by
 unfold allX rowX
 rw [List.mem_flatMap]
 constructor
 ·rintro ⟨u,hu,h⟩
  obtain ⟨v,hv,h⟩:=List.mem_flatMap.1 h
  obtain ⟨x,hx,h⟩:=List.mem_flatMap.1 h
  exact ⟨u,hu,v,hv,x,hx,by simpa using h⟩
 ·rintro ⟨u,hu,v,hv,x,hx,rfl⟩
  exact ⟨u,hu,List.mem_flatMap.2 ⟨v,hv,List.mem_flatMap.2 ⟨x,hx,by simp⟩⟩⟩
theorem wsuite_words {front middle:List (List Int)} {ids:List (List (List Int))} (hv:validM M=0) (P:Parts M front middle ids) (hb:M.Next.length*M.Next.length*M.Inputs.toNat≤256):∀ w∈allX front middle (lastM M),checkI w M.Inputs=0:=fun w hw=>by
 have H:=valid_ok hv
 obtain ⟨u,hu,v,hv',x,hx,rfl⟩:=mem_allX.1 hw
 have h1:=P.f2 u hu
 have h2:=P.m2 v hv'
 have h3:=(lastM_wok H (by omega) x hx).1
 have h4:=lastM_256 H hv hb x hx
 exact check_of H ((h1.1.append h2.1).append h3) (by simp;omega)
theorem wsuite_all {front middle last:List (List Int)} (hf:Fits 200 200 front) (hm:Fits 200 200 middle) (hL:Fits 20000 1024 last) (hl:front.length*middle.length*last.length≤10000) {s t:Nat} (h:∀ w∈maxR (allX front middle last),outs m s w=outs b t w):∀ w∈allX front middle last,outs m s w=outs b t w:=fun w hw=>by
 have hS:=allX_sm hf hm hL hl
 obtain ⟨y,h1,h2⟩:=max_above (N:=2000000) (fun x hx=>hS.2 x hx) 2000000 w hw (by omega)
 exact outs_prefix h2 (h y h1)
theorem wpass_of {L:List (Nat×List Int)} {extra:Int} (h1:0≤extra) (h2:extra≤2) (hv:validM M=0) (hst:M.Start=0) (hE:MEnd M 0 L) (PM:MinimalP M) (hi4:M.Inputs≤4) (hsz:M.Next.length*M.Next.length*M.Inputs.toNat≤256) (hb:MacOk b) (hi:M.Inputs=b.Inputs)
  (hp:∀ w∈allX (L.map Prod.snd) (uptoL M.Inputs (extra+1)) (lastM M),outs M 0 w=outs b b.Start.toNat w)
  (hf:∀ l:List Nat,l.Nodup→(∀ q∈l,∃ w,WOk M.Inputs w∧dest b b.Start.toNat w=q)→l.length≤M.Next.length+extra.toNat):Pass M b 0 b.Start.toNat extra.toNat (L.map Prod.snd) (fun _=>lastM M):=by
 have hM:=valid_ok hv
 have hi1:=hM.i1
 have hbs:=hb.st
 have hLr:=mEnd_rng hM hM.n1 hE
 have hst':M.Start.toNat=0:=by rw [hst];rfl
 refine ⟨⟨hM,hb,hi⟩,hM.n1,by omega,List.mem_map.2 ⟨_,List.mem_of_getElem? hE.first,rfl⟩,fun u hu=>?_,fun s hs=>?_,fun s _=>?_,fun s x hx=>(lastM_wok hM (by omega) x hx).1,fun s s' hs hs' hne=>?_,fun u hu v hv hl x hx=>hp _ ?_,hf⟩
 ·obtain ⟨x,hx,rfl⟩:=List.mem_map.1 hu
  exact (hLr.2 x hx).2.2
 ·obtain ⟨w,w1,w2⟩:=PM.reach s hs
  rw [hst'] at w2
  obtain ⟨j,y,g1,g2⟩:=reach_all hE w 0 _ hE.first w1
  refine ⟨y.2,List.mem_map.2 ⟨y,List.mem_of_getElem? g1,rfl⟩,?_⟩
  rw [(hLr.2 y (List.mem_of_getElem? g1)).2.1,g2]
  exact w2
 ·unfold lastM
  split
  ·exact ⟨[],by simp⟩
  ·rename_i h
   exact List.exists_mem_of_length_pos (Nat.pos_of_ne_zero h)
 ·obtain ⟨x,x1,x2⟩:=lastM_sep hM PM hs hs' hne
  exact ⟨x,x1,x1,x2⟩
 ·exact mem_allX.2 ⟨u,hu,v,upto_has (by omega) hi4 (by omega) (by omega) hv (by omega),x,hx,rfl⟩
theorem plain_WsuiteComplete (m b:T_api_Mealy) (extra:Int) (h0:0≤extra) (hx:extra≤255):L29_WsuiteComplete m b extra=some true:=by
 unfold L29_WsuiteComplete
 rw [L11_Small_eq,obind]
 cases hsm:smallM m with
 | false=>rw [Bool.not_false,cond_true,obind,cond_true,awake29_true,obind]
 | true =>
  rw [Bool.not_true,cond_false,L11_Small_eq,obind]
  cases hsb':smallM b with
  | false=>rw [Bool.not_false,cond_true,obind,cond_true,awake29_true,obind]
  | true =>
   rw [Bool.not_true,cond_false]
   by_cases h2:2<extra
   ·rw [decide_eq_true h2,cond_true,obind,cond_true,awake29_true,obind]
   rw [decide_eq_false h2,cond_false,R09_Check_eq,obind,obind]
   by_cases c1:validM m=0
   ·by_cases c2:validM b=0
    ·by_cases c3:m.Inputs=b.Inputs
     ·rw [if_neg (fun h=>h c1),if_neg (fun h=>h c2),if_neg (fun h=>h c3),decide_eq_false (by decide),cond_false,chk_pos (by unfold inR;omega)]
      obtain ⟨M,L,e1,S,hM,hE,PM,hn8,hi4,hi,P,hL,hs⟩:=wsuite_prog hsm c1 (extra:=extra) h0 (by omega)
      have hfF:Fits 200 200 (L.map Prod.snd):=⟨P.f1,fun u hu=>(P.f2 u hu).2⟩
      have hmF:Fits 200 200 (uptoL M.Inputs (extra+1)):=⟨P.m1,fun v hv=>(P.m2 v hv).2⟩
      have hsb:=small_256 hn8 hi4
      have Hb:=valid_ok c2
      obtain ⟨_,hb8,_⟩:=smallM_of hsb'
      have hbs:=Hb.st
      rw [hs,obind]
      unfold suiteX
      by_cases hbig:10000<(L.map Prod.snd).length*(uptoL M.Inputs (extra+1)).length*(lastM M).length
      ·rw [if_pos hbig,decide_eq_true (by decide),cond_true]
       simp [awake29_true]
      ·rw [if_neg hbig,decide_eq_false (fun h=>h rfl),cond_false,e1,obind]
       have hsml:=allX_sm hfF hmF hL (by omega)
       have hmx:SmL (maxR (allX (L.map Prod.snd) (uptoL M.Inputs (extra+1)) (lastM M))):=⟨Nat.le_trans (maxR_length _) hsml.1,fun x hx=>hsml.2 x (mem_maxR hx)⟩
       have hch:∀ w∈maxR (allX (L.map Prod.snd) (uptoL M.Inputs (extra+1)) (lastM M)),checkI w m.Inputs=0:=fun w hw=>by
        rw [← hi]
        exact wsuite_words hM P hsb w (mem_maxR hw)
       obtain ⟨k1,k2⟩:=pass_ok (l:=maxR (allX (L.map Prod.snd) (uptoL M.Inputs (extra+1)) (lastM M))) c1 c2 c3 hch
       obtain ⟨e,g1,g2⟩:=equiv_Equal_eq c1 c2 c3
       obtain ⟨L',hE',hR'⟩:=mealy_Reach_eq c2
       have hLb:=mEnd_rng Hb (by omega) hE'
       rw [wsuite_Passes_eq hmx,obind,g1,obind]
       generalize hpm:passM m b (maxR (allX (L.map Prod.snd) (uptoL M.Inputs (extra+1)) (lastM M)))=pm at k1 k2
       obtain ⟨pw,pb,pe⟩:=pm
       simp only at k1 k2
       subst k1
       have hgo:∀ {x:Option Bool},(cond (decide (((M,(0:Int)).2)≠0)) (some true) (cond (decide (((pw,pb,(0:Int)).2.2)≠0)) (some true) (cond (decide (((e,(0:Int)).2)≠0)) (some true) x)):Option Bool)=x:=fun {x}=>by
        rw [decide_eq_false (fun h=>h rfl),cond_false,cond_false,cond_false]
       rw [hgo]
       cases e with
       | true =>
        have hq:=g2.1 rfl
        have hpb:pb=true:=k2.2 fun w hw=>hq w (check_mem (hch w hw))
        subst hpb
        rw [cond_true,obind,Bool.not_true,cond_false,cond_true,awake29_true,obind,obind]
       | false =>
        rw [cond_false,obind,cond_false,cond_false]
        cases pb with
        | false=>rw [Bool.not_false,cond_true,awake29_true,obind,obind]
        | true =>
         have hag:=k2.1 rfl
         have hfar:M.Next.length+extra.toNat<L'.length:=Classical.byContradiction fun hle=>by
          have hp:∀ w∈allX (L.map Prod.snd) (uptoL M.Inputs (extra+1)) (lastM M),outs M 0 w=outs b b.Start.toNat w:=fun w hw=>by
           rw [← wsuite_all hfF hmF hL (by omega) (m:=m) (b:=b) (s:=m.Start.toNat) (t:=b.Start.toNat) hag w hw]
           exact S.eqv w (check_mem (wsuite_words hM P hsb w hw))
          have hP:=wpass_of h0 (by omega) hM S.start hE PM hi4 hsb Hb (hi.trans c3) hp fun l l1 l2=>by
           have:=reach_count hE' l1 fun q hq=>by
            obtain ⟨w,w1,w2⟩:=l2 q hq
            exact ⟨w,by rw [← c3,← hi];exact w1,w2⟩
           omega
          have hall:Eqv m m.Start.toNat b b.Start.toNat:=fun w hw=>by
           have hw':WOk M.Inputs w:=by rw [hi];exact hw
           rw [← hP.equiv hw',S.eqv w hw']
          have:=g2.2 hall
          cases this
         rw [Bool.not_true,cond_false,hR',obind]
         simp only
         rw [chk_pos (by unfold inR;omega),chk_pos (by unfold inR;omega),decide_eq_true (by rw [natI_len,List.length_map];omega),cond_true,awake29_true,obind,obind]
     ·rw [if_neg (fun h=>h c1),if_neg (fun h=>h c2),if_pos c3,decide_eq_true (by decide),cond_true,awake29_true,obind]
    ·rw [if_neg (fun h=>h c1),if_pos c2,decide_eq_true c2,cond_true,awake29_true,obind]
   ·rw [if_pos c1,decide_eq_true c1,cond_true,awake29_true,obind]
end
end Go.Proofs.Ytkfaepfljlphoaa.Sym

/-
 The law of WsuiteComplete, for arguments within the bound.
-/
namespace Go.Proofs.Ytkfaepfljlphoaa.Sym
theorem law_L29_WsuiteComplete (x0:T_api_Mealy) (x1:T_api_Mealy) (x2:Int) (_:ok_api_Mealy x0) (_:sz_api_Mealy x0≤1048576) (_:ok_api_Mealy x1) (_:sz_api_Mealy x1≤1048576) (k2:okY x2):L29_WsuiteComplete x0 x1 x2=some true :=
 plain_WsuiteComplete x0 x1 x2 k2.1 k2.2
end Go.Proofs.Ytkfaepfljlphoaa.Sym

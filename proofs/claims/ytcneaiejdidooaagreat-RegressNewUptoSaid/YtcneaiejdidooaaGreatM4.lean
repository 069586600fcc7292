/-
 Validity of machines: the program's and the document's error. Plain laws.
-/
import Derived.Test.YtcneaiejdidooaaGreatM3
set_option linter.all false
namespace Go.Proofs.YtcneaiejdidooaaGreat.Sym
set_option maxRecDepth 100000
theorem scan_map {α R R':Type} {g:Nat→α→Option R} {f:R→R'}:∀ (l:List α) (j:Nat),scan (fun i x=>(g i x).map f) j l=(scan g j l).map f
 | [],_=>rfl
 | x::l,j=>by
  unfold scan
  cases g j x with
  | some r=>rfl
  | none=>exact scan_map l (j+1)
theorem scan_mem {α R:Type} {g:Nat→α→Option R} {r:R}:∀ {l:List α} {j:Nat},scan g j l=some r→∃ i x,l[i]?=some x∧g (j+i) x=some r
 | [],_,h=>by cases h
 | x::l,j,h=>by
  unfold scan at h
  cases e:g j x with
  | some q =>
   rw [e] at h
   exact ⟨0,x,rfl,by rw [Nat.add_zero,e];exact h⟩
  | none =>
   rw [e] at h
   obtain ⟨i,y,h1,h2⟩:=scan_mem (j:=j+1) h
   exact ⟨i+1,y,by simpa using h1,by rw [show j+(i+1)=j+1+i by omega,h2]⟩
def celE (n:Nat) (u v:Int):Option Int:=if u<0∨(↑n:Int)≤u∨v<0∨1048576<v then some 2 else none
def rowE (m:zaa) (s:Nat) (x:List Int):Option Int :=
 if (↑x.length:Int)≠m.Inputs∨(↑((m.Out[s]?).getD []).length:Int)≠m.Inputs then some 1 else scan (fun a u=>celE m.Next.length u ((((m.Out[s]?).getD [])[a]?).getD 0)) 0 x
def validM (m:zaa):Int :=
 if m.Inputs<1∨64<m.Inputs then 2 else if m.Next.length=0 then 19 else if 128<m.Next.length then 11 else if m.Start<0∨(↑m.Next.length:Int)≤m.Start then 2 else if m.Out.length≠m.Next.length then 1
 else match scan (rowE m) 0 m.Next with | some e=>e | none=>0
section
variable {m:zaa}
theorem rowE_ne {s:Nat} {x:List Int} {e:Int} (h:rowE m s x=some e):e≠0:=by
 unfold rowE at h
 split at h
 ·injection h with h
  omega
 ·obtain ⟨i,u,_,h2⟩:=scan_mem h
  unfold celE at h2
  split at h2
  ·injection h2 with h2
   omega
  ·cases h2
theorem cel_cond {n:Nat} {u v:Int}:(cond (decide (u<0)) (some true) (cond (decide ((↑n:Int)≤u)) (some true) (cond (decide (v<0)) (some true) (some (decide (1048576<v))))):Option Bool)=some (celE n u v).isSome:=by
 unfold celE
 by_cases h1:u<0<;>by_cases h2:(↑n:Int)≤u<;>by_cases h3:v<0<;>by_cases h4:1048576<v<;>simp [h1,h2,h3,h4]
theorem celE_two {n:Nat} {u v:Int}:celE n u v=if (celE n u v).isSome=true then some 2 else none:=by
 unfold celE
 split<;>rfl
theorem row_len {s:Nat} {x y:List Int} (hx:m.Next[s]?=some x) (hy:m.Out[s]?=some y) :
  (idxn m.Next s fun e57=>cond (decide ((↑e57.length:Int)≠m.Inputs)) (some true) (idxn m.Out s fun e59=>some (decide ((↑e59.length:Int)≠m.Inputs))):Option Bool)=some (decide ((↑x.length:Int)≠m.Inputs∨(↑y.length:Int)≠m.Inputs)):=by
 rw [idxn_at hx]
 by_cases h:(↑x.length:Int)=m.Inputs
 ·rw [decide_eq_false (fun k=>k h),cond_false,idxn_at hy]
  simp [h]
 ·rw [decide_eq_true h,cond_true]
  simp [h]
theorem idx_nat {α β:Type} {l:List α} {i:Nat} {k:α→Option β}:idx l (↑i:Int) k=idxn l i k:=by
 cases h:l[i]? with
 | some x=>rw [idx_at rfl h,idxn_at h]
 | none =>
  unfold idx idxn
  rw [h,if_pos (by omega),Int.toNat_natCast,h]
theorem R06_row_eq (hi:m.Inputs≤64) {s:Nat} {x y:List Int} (hx:m.Next[s]?=some x) (hy:m.Out[s]?=some y):R06_row m (↑s:Int)=some (match rowE m s x with | some e=>e | none=>0):=by
 unfold R06_row
 rw [idx_nat]
 simp only [idx_nat]
 rw [row_len hx hy,obind]
 unfold rowE
 rw [hy,Option.getD_some]
 by_cases h:(↑x.length:Int)≠m.Inputs∨(↑y.length:Int)≠m.Inputs
 ·rw [decide_eq_true h,cond_true,if_pos h]
 ·rw [decide_eq_false h,cond_false,if_neg h]
  have h1:(↑x.length:Int)=m.Inputs:=Classical.byContradiction fun q=>h (Or.inl q)
  have h2:(↑y.length:Int)=m.Inputs:=Classical.byContradiction fun q=>h (Or.inr q)
  rw [zcz (l:=x) (fun a u=>celE m.Next.length u ((y[a]?).getD 0)) (fun a u hu=>?_) ?_ (by omega),obind]
  ·cases scan (fun a u=>celE m.Next.length u ((y[a]?).getD 0)) 0 x<;>rfl
  ·simp only [R06_row.s2]
   rw [decide_eq_false (by omega),cond_false]
  ·have ha:=(List.getElem?_eq_some_iff.1 hu).1
   have hv:y[a]?=some y[a]:=get_at (by omega)
   rw [hv,Option.getD_some]
   simp only [R06_row.s2,idx_nat]
   rw [decide_eq_true (by omega),cond_true]
   simp only [idxn_at hx,idxn_at hy,idxn_at hu,idxn_at hv]
   rw [cel_cond,obind]
   cases e:celE m.Next.length u y[a] with
   | none =>
    rw [Option.isSome_none,cond_false,chk_pos (by unfold inR;omega)]
   | some r =>
    have:=celE_two (n:=m.Next.length) (u:=u) (v:=y[a])
    rw [e] at this
    injection this with this
    rw [this,Option.isSome_some,cond_true]
theorem mealy_row_eq (hi:m.Inputs≤64) {s:Nat} {x y:List Int} (hx:m.Next[s]?=some x) (hy:m.Out[s]?=some y):zat.s14 m s=some (match rowE m s x with | some e=>.inr (.inr e) | none=>.inl (s+1)):=by
 have hs:=(List.getElem?_eq_some_iff.1 hx).1
 simp only [zat.s14]
 rw [decide_eq_true (by omega),cond_true,row_len hx hy,obind]
 unfold rowE
 rw [hy,Option.getD_some]
 by_cases h:(↑x.length:Int)≠m.Inputs∨(↑y.length:Int)≠m.Inputs
 ·rw [decide_eq_true h,cond_true,if_pos h]
 ·rw [decide_eq_false h,cond_false,if_neg h]
  have h1:(↑x.length:Int)=m.Inputs:=Classical.byContradiction fun q=>h (Or.inl q)
  have h2:(↑y.length:Int)=m.Inputs:=Classical.byContradiction fun q=>h (Or.inr q)
  rw [zcz (l:=x) (fun a u=>(celE m.Next.length u ((y[a]?).getD 0)).map fun r=>(.inr (.inr r):Nat⊕(Unit⊕Int))) (fun a u hu=>?_) ?_ (by omega),obind,scan_map]
  ·cases scan (fun a u=>celE m.Next.length u ((y[a]?).getD 0)) 0 x<;>rfl
  ·simp only [zat.s13]
   rw [decide_eq_false (by omega),cond_false]
  ·have ha:=(List.getElem?_eq_some_iff.1 hu).1
   have hv:y[a]?=some y[a]:=get_at (by omega)
   rw [hv,Option.getD_some]
   simp only [zat.s13]
   rw [decide_eq_true (by omega),cond_true]
   simp only [idxn_at hx,idxn_at hy,idxn_at hu,idxn_at hv]
   rw [cel_cond,obind]
   cases e:celE m.Next.length u y[a] with
   | none =>
    rw [Option.isSome_none,cond_false,chk_pos (by unfold inR;omega)]
    rfl
   | some r =>
    have:=celE_two (n:=m.Next.length) (u:=u) (v:=y[a])
    rw [e] at this
    injection this with this
    rw [this,Option.isSome_some,cond_true]
    rfl
theorem zcg (m:zaa):zbf m=some (validM m):=by
 unfold zbf validM
 by_cases c1:m.Inputs<1
 ·rw [decide_eq_true c1,if_pos (Or.inl c1)];rfl
 rw [decide_eq_false c1,cond_false]
 by_cases c2:64<m.Inputs
 ·rw [decide_eq_true c2,if_pos (Or.inr c2)];rfl
 rw [decide_eq_false c2,obind,cond_false,if_neg (by omega)]
 by_cases c3:m.Next.length=0
 ·rw [decide_eq_true (by omega),if_pos c3];rfl
 rw [decide_eq_false (by omega),cond_false,if_neg c3]
 by_cases c4:128<m.Next.length
 ·rw [decide_eq_true (by omega),if_pos c4];rfl
 rw [decide_eq_false (by omega),cond_false,if_neg c4]
 by_cases c5:m.Start<0
 ·rw [decide_eq_true c5,if_pos (Or.inl c5)];rfl
 rw [decide_eq_false c5,cond_false]
 by_cases c6:(↑m.Next.length:Int)≤m.Start
 ·rw [decide_eq_true c6,if_pos (Or.inr c6)];rfl
 rw [decide_eq_false c6,obind,cond_false,if_neg (by omega)]
 by_cases c7:m.Out.length=m.Next.length
 ·rw [decide_eq_false (by omega),cond_false,if_neg (by omega),zcz (l:=m.Next) (rowE m) (fun s x hx=>?_) ?_ (by omega),obind]
  ·cases scan (rowE m) 0 m.Next<;>rfl
  ·simp only [zbf.s2]
   rw [decide_eq_false (by omega),cond_false]
  ·have hs:=(List.getElem?_eq_some_iff.1 hx).1
   simp only [zbf.s2]
   rw [decide_eq_true (by omega),cond_true,R06_row_eq (by omega) hx (get_at (l:=m.Out) (by omega)),obind]
   cases e:rowE m s x with
   | none=>rfl
   | some r=>rw [decide_eq_true (rowE_ne e),cond_true]
 ·rw [decide_eq_true (by omega),if_pos c7];rfl
theorem za5 (m:zaa):zat m=some (validM m):=by
 unfold zat validM
 by_cases c1:m.Inputs<1
 ·rw [decide_eq_true c1,if_pos (Or.inl c1)];rfl
 rw [decide_eq_false c1,cond_false]
 by_cases c2:64<m.Inputs
 ·rw [decide_eq_true c2,if_pos (Or.inr c2)];rfl
 rw [decide_eq_false c2,obind,cond_false,if_neg (by omega)]
 by_cases c3:m.Next.length=0
 ·rw [decide_eq_true (by omega),if_pos c3];rfl
 rw [decide_eq_false (by omega),cond_false,if_neg c3]
 by_cases c4:128<m.Next.length
 ·rw [decide_eq_true (by omega),if_pos c4];rfl
 rw [decide_eq_false (by omega),cond_false,if_neg c4]
 by_cases c5:m.Start<0
 ·rw [decide_eq_true c5,if_pos (Or.inl c5)];rfl
 rw [decide_eq_false c5,cond_false]
 by_cases c6:(↑m.Next.length:Int)≤m.Start
 ·rw [decide_eq_true c6,if_pos (Or.inr c6)];rfl
 rw [decide_eq_false c6,obind,cond_false,if_neg (by omega)]
 by_cases c7:m.Out.length=m.Next.length
 ·rw [decide_eq_false (by omega),cond_false,if_neg (by omega),zcz (l:=m.Next) (rowE m) (fun s x hx=>?_) ?_ (by omega),obind]
  ·cases scan (rowE m) 0 m.Next<;>rfl
  ·simp only [zat.s14]
   rw [decide_eq_false (by omega),cond_false]
  ·have hs:=(List.getElem?_eq_some_iff.1 hx).1
   rw [mealy_row_eq (by omega) hx (get_at (l:=m.Out) (by omega))]
   cases rowE m s x<;>rfl
 ·rw [decide_eq_true (by omega),if_pos c7];rfl
theorem valid_ok (h:validM m=0):MacOk m:=macOk_of (by rw [zcg,h])
def fromM (m:zaa) (s:Int) (w:List Int):List Int×Int×Int :=
 if validM m≠0 then ([],0,validM m) else if s<0∨(↑m.Next.length:Int)≤s then ([],0,2) else if checkI w m.Inputs≠0 then ([],0,checkI w m.Inputs) else (outs m s.toNat w,(↑(dest m s.toNat w):Int),0)
theorem zdb {w:List Int} {n:Int} (h:checkI w n=0):w.length≤1024:=by
 unfold checkI at h
 split at h
 ·split at h
  ·cases h
  ·omega
 ·cases h
theorem R06_From_eq {s:Int} {w:List Int} (hw:SmW w):R06_From m s w=some (fromM m s w):=by
 unfold R06_From fromM
 rw [zcg,obind]
 by_cases c1:validM m=0
 ·rw [decide_eq_false (by omega),cond_false,if_neg (by omega)]
  by_cases c2:s<0
  ·rw [decide_eq_true c2,if_pos (Or.inl c2)];rfl
  rw [decide_eq_false c2,cond_false]
  by_cases c3:(↑m.Next.length:Int)≤s
  ·rw [decide_eq_true c3,if_pos (Or.inr c3)];rfl
  rw [decide_eq_false c3,obind,cond_false,if_neg (by omega),R01_Check_eq _ _ hw,obind]
  by_cases c4:checkI w m.Inputs=0
  ·have:=zdb c4
   have hO:=zkn (valid_ok c1) (s:=s.toNat) (by omega) (w:=w) (zez c4) (by omega)
   rw [show (↑s.toNat:Int)=s by omega] at hO
   rw [decide_eq_false (by omega),cond_false,if_neg (by omega),hO,obind]
  ·rw [decide_eq_true c4,cond_true,if_pos c4]
 ·rw [decide_eq_true c1,cond_true,if_pos c1]
theorem runner_eq (H:MacOk m) {s:Nat} (hs:s<m.Next.length) {w:List Int} (hw:WOk m.Inputs w) (hl:w.length≤100000000):za2 (⟨(⟨m⟩:zbt),(↑s:Int)⟩:zbj) w=some (outs m s w,(⟨(⟨m⟩:zbt),(↑(dest m s w):Int)⟩:zbj)):=by
 unfold za2
 have key:=iter_eq (step:=fun (q:Int×List Int×Nat)=>za2.s2 (⟨(⟨m⟩:zbt),(↑s:Int)⟩:zbj) w q.1 q.2.1 q.2.2) (r:=((↑(dest m s w):Int),outs m s w)) (fun q=>q.2.2≤w.length∧q.1=(↑(dest m s (w.take q.2.2)):Int)∧q.2.1=outs m s (w.take q.2.2)) (fun q=>w.length-q.2.2) (fun q ⟨g1,g2,g3⟩=>by
  obtain ⟨st,y,k⟩:=q
  simp only at g1 g2 g3
  subst g2
  subst g3
  simp only [za2.s2,zcv]
  by_cases g4:k<w.length
  ·left
   have hx:=get_at g4
   obtain ⟨x0,x1⟩:=hw _ (List.getElem_mem g4)
   have ha:w[k].toNat<m.Inputs.toNat:=by omega
   have hd:Sym.dest m s (w.take k)<m.Next.length:=H.dest (hw.take k) hs
   obtain ⟨_,_,_,x,y,e1,e2,e3,e4⟩:=H.at hd ha
   refine ⟨((↑(Sym.dest m s (w.take (k+1))):Int),outs m s (w.take (k+1)),k+1),?_,⟨g4,rfl,rfl⟩,by simp only;omega⟩
   rw [dec_lt hx,cond_true,idxn_at hx,idx_at rfl e1,idx_at (i:=w[k].toNat) (by omega) e3,idx_at rfl e2,idx_at (i:=w[k].toNat) (by omega) e4,obind,chk_pos (by unfold capOk;rw [outs_len,List.length_take];omega),zbz hx,zck,zc9]
   rfl
  ·right
   have e:k=w.length:=by omega
   subst e
   rw [decide_eq_false (by omega),cond_false,List.take_length]) (n:=fuel) (s:=((↑s:Int),[],0)) ⟨Nat.zero_le _,rfl,rfl⟩ (by have:=fuel_big;simp only;omega)
 rw [key,obind]
 rfl
theorem zhq {s:Int} {w:List Int} (hw:SmW w):zd2 m s w=some (fromM m s w):=by
 unfold zd2 ze4 fromM
 rw [za5,obind]
 by_cases c1:validM m=0
 ·rw [decide_eq_false (by omega),cond_false,if_neg (by omega)]
  by_cases c2:s<0
  ·rw [decide_eq_true c2,if_pos (Or.inl c2)];rfl
  rw [decide_eq_false c2,cond_false]
  by_cases c3:(↑m.Next.length:Int)≤s
  ·rw [decide_eq_true c3,if_pos (Or.inr c3)];rfl
  rw [decide_eq_false c3,obind,cond_false,if_neg (by omega),obind,decide_eq_false (by omega),cond_false,word_Check_eq _ _ hw,obind]
  by_cases c4:checkI w m.Inputs=0
  ·have:=zdb c4
   have hO:=runner_eq (valid_ok c1) (s:=s.toNat) (by omega) (w:=w) (zez c4) (by omega)
   rw [show (↑s.toNat:Int)=s by omega] at hO
   rw [decide_eq_false (by omega),cond_false,if_neg (by omega),hO,obind]
  ·rw [decide_eq_true c4,cond_true,if_pos c4]
 ·rw [decide_eq_true c1,cond_true,if_pos c1,obind,decide_eq_true c1,cond_true]
end
end Go.Proofs.YtcneaiejdidooaaGreat.Sym

/-
 Lists of words compared, small machines, tails. Plain laws.
-/
namespace Go.Proofs.YtcneaiejdidooaaGreat.Sym
set_option maxRecDepth 100000
def greatM (m:zaa):Bool:=decide (12<m.Next.length∨12<m.Out.length∨6<m.Inputs∨(∃ x∈m.Next,12<x.length)∨∃ x∈m.Out,12<x.length)
def smallM (m:zaa):Bool:=!greatM m&&decide (m.Next.length≤8)&&decide (m.Inputs≤4)
theorem smallM_of {m:zaa} (h:smallM m=true):greatM m=false∧m.Next.length≤8∧m.Inputs≤4:=by
 unfold smallM at h
 rw [Bool.and_eq_true,Bool.and_eq_true,Bool.not_eq_true'] at h
 exact ⟨h.1.1,of_decide_eq_true h.1.2,of_decide_eq_true h.2⟩
theorem behind_eq {u:List Int} {l:List (List Int)} (hu:u.length≤100000) (hl:l.length≤1000000) (hw:∀ x∈l,x.length≤100000):zbl u l=some (l.map fun x=>u++x):=by
 unfold zbl
 have key:=(iter_fold (step:=fun (s:List (List Int)×Nat)=>zbl.s2 u l s.1 s.2) (l:=l) (fun a _ x=>a++[u++x]) (fun a=>a) (fun a i=>a.length=i) (fun a i x ha hx=>by
  have hi:=(List.getElem?_eq_some_iff.1 hx).1
  have:=hw x (List.mem_of_getElem? hx)
  refine ⟨?_,by simp [ha]⟩
  simp only [zbl.s2]
  rw [decide_eq_true (by omega),cond_true,idxn_at hx,zdr [u,x] (by simp) (by simp;omega),obind,chk_pos (by unfold capOk;omega)]
  simp) (fun a ha=>by
  simp only [zbl.s2]
  rw [decide_eq_false (by omega),cond_false]) (by omega) (a0:=[]) rfl).1
 rw [key,obind,foldi_eq]
 have:∀ (l acc:List (List Int)),l.foldl (fun a x=>a++[u++x]) acc=acc++l.map fun x=>u++x:=by
  intro l
  induction l with
  | nil=>intro acc;simp
  | cons x l ih=>intro acc;simp [ih]
 rw [this,List.nil_append]
def tailsM (m:zaa) (ids:List (List (List Int))) (w:List Int):List (List Int) :=
 if ((ids[dest m m.Start.toNat w]?).getD []).length=0 then [[]] else (ids[dest m m.Start.toNat w]?).getD []
def tailsE (m:zaa) (ids:List (List (List Int))) (w:List Int):List (List Int)×Int :=
 if validM m≠0 then ([],validM m) else if checkI w m.Inputs≠0 then ([],checkI w m.Inputs) else if ids.length≠m.Next.length then ([],1) else (tailsM m ids w,0)
def SmI (ids:List (List (List Int))):Prop:=ids.length≤1000000∧∀ l∈ids,l.length≤1000000∧∀ x∈l,x.length≤100000
section
variable {m:zaa} {ids:List (List (List Int))} {w:List Int}
theorem zfb (hw:SmW w) (h:validM m=0):fromM m m.Start w=if checkI w m.Inputs≠0 then ([],0,checkI w m.Inputs) else (outs m m.Start.toNat w,(↑(dest m m.Start.toNat w):Int),0):=by
 have H:=valid_ok h
 have:=H.st
 unfold fromM
 rw [if_neg (by omega),if_neg (by omega)]
theorem zko (hI:SmI ids) (hw:SmW w):zdt m ids w=some (tailsE m ids w):=by
 unfold zdt tailsE
 rw [zhq hw,obind]
 by_cases c1:validM m=0
 ·have H:=valid_ok c1
  have hst:=H.st
  rw [if_neg (fun h=>h c1)]
  by_cases c2:checkI w m.Inputs=0
  ·rw [zfb hw c1,if_neg (fun h=>h c2),if_neg (fun h=>h c2)]
   simp only
   rw [decide_eq_false (by omega),cond_false]
   by_cases c3:ids.length=m.Next.length
   ·have hd:dest m m.Start.toNat w<m.Next.length:=H.dest (zez c2) (by omega)
    have hx:ids[dest m m.Start.toNat w]?=some (ids[dest m m.Start.toNat w]'(by omega)):=get_at (by omega)
    have hm:=hI.2 _ (List.mem_of_getElem? hx)
    unfold tailsM
    generalize ids[dest m m.Start.toNat w]'(by omega)=l at hx hm
    rw [decide_eq_false (by omega),cond_false,if_neg (by omega),idx_at rfl hx,hx,Option.getD_some]
    by_cases c4:l.length=0
    ·rw [decide_eq_true (by omega),cond_true,if_pos c4]
    ·rw [decide_eq_false (by omega),cond_false,if_neg c4,idx_at rfl hx,behind_eq (by simp) hm.1 hm.2,obind]
     simp
   ·rw [decide_eq_true (by omega),cond_true,if_pos c3]
  ·rw [zfb hw c1,if_pos c2,if_pos c2]
   simp only
   rw [decide_eq_true c2,cond_true]
 ·unfold fromM
  rw [if_pos c1,if_pos c1,decide_eq_true c1,cond_true]
theorem R30_tails_eq (hv:validM m=0) (hc:checkI w m.Inputs=0) (hl:ids.length=m.Next.length):zf0 m ids w=some (tailsM m ids w):=by
 have H:=valid_ok hv
 have hst:=H.st
 have:=zdb hc
 have hd:dest m m.Start.toNat w<m.Next.length:=H.dest (zez hc) (by omega)
 have hx:ids[dest m m.Start.toNat w]?=some (ids[dest m m.Start.toNat w]'(by omega)):=get_at (by omega)
 unfold zf0 tailsM
 generalize ids[dest m m.Start.toNat w]'(by omega)=l at hx
 rw [R06_From_eq (by unfold SmW;omega),obind,zfb (by unfold SmW;omega) hv,if_neg (by omega),idx_at rfl hx,hx,Option.getD_some]
 by_cases c4:l.length=0
 ·rw [decide_eq_true (by omega),cond_true,if_pos c4]
 ·rw [decide_eq_false (by omega),cond_false,if_neg c4,idx_at rfl hx]
end
end Go.Proofs.YtcneaiejdidooaaGreat.Sym

/-
 Search in breadth, step by step. Plain laws.
-/
namespace Go.Proofs.YtcneaiejdidooaaGreat.Sym
set_option maxRecDepth 100000
section
variable {A:Type} [DecidableEq A]
def bfsB (e:A→Nat→A) (K:Nat) (s0:A):Nat→List (A×List Int)
 | 0=>[(s0,[])]
 | r+1=>match (bfsB e K s0 r)[r / K]? with
  | none=>bfsB e K s0 r
  | some x=>if e x.1 (r%K)∈(bfsB e K s0 r).map Prod.fst then bfsB e K s0 r else bfsB e K s0 r++[(e x.1 (r%K),x.2++[(↑(r%K):Int)])]
theorem dm_div {K i a:Nat} (h:a<K):(i*K+a) / K=i:=by
 rw [Nat.add_comm,Nat.add_mul_div_right _ _ (by omega),Nat.div_eq_of_lt h,Nat.zero_add]
theorem dm_mod {K i a:Nat} (h:a<K):(i*K+a)%K=a:=by
 rw [Nat.add_comm,Nat.add_mul_mod_self_right,Nat.mod_eq_of_lt h]
theorem mem_lt {i n a K:Nat} (hi:i<n) (ha:a<K):i*K+a<n*K:=by
 have:(i+1)*K≤n*K:=Nat.mul_le_mul_right K hi
 rw [Nat.succ_mul] at this
 omega
variable {e:A→Nat→A} {K:Nat} {s0:A}
theorem bfs_step {i a:Nat} {x:A×List Int} (ha:a<K) (hx:(bfsB e K s0 (i*K+a))[i]?=some x) :
  bfsB e K s0 (i*K+(a+1))=if e x.1 a∈(bfsB e K s0 (i*K+a)).map Prod.fst then bfsB e K s0 (i*K+a) else bfsB e K s0 (i*K+a)++[(e x.1 a,x.2++[(↑a:Int)])]:=by
 show bfsB e K s0 ((i*K+a)+1)=_
 rw [bfsB,dm_div ha,hx,dm_mod ha]
theorem bfs_pre1 (r:Nat):bfsB e K s0 r <+: bfsB e K s0 (r+1):=by
 rw [bfsB]
 split
 ·exact List.prefix_refl _
 ·split
  ·exact List.prefix_refl _
  ·exact List.prefix_append _ _
theorem bfs_pre {r:Nat}:∀ {r':Nat},r≤r'→bfsB e K s0 r <+: bfsB e K s0 r'
 | 0,h=>by
  have:r=0:=by omega
  subst this
  exact List.prefix_refl _
 | r'+1,h=>by
  rcases Nat.lt_or_ge r (r'+1) with g | g
  ·exact (bfs_pre (r':=r') (by omega)).trans (bfs_pre1 r')
  ·have:r=r'+1:=by omega
   subst this
   exact List.prefix_refl _
theorem pre_get {α:Type} {l l':List α} (h:l <+: l') {i:Nat} {x:α} (hx:l[i]?=some x):l'[i]?=some x:=by
 obtain ⟨t,rfl⟩:=h
 rw [List.getElem?_append_left (List.getElem?_eq_some_iff.1 hx).1,hx]
theorem bfs_pos (r:Nat):(bfsB e K s0 r)[0]?=some (s0,[]):=pre_get (bfs_pre (Nat.zero_le r)) rfl
theorem ze2:∀ r:Nat,((bfsB e K s0 r).map Prod.fst).Nodup
 | 0=>by simp [bfsB]
 | r+1=>by
  have ih:=ze2 r
  rw [bfsB]
  split
  ·exact ih
  ·split
   ·exact ih
   ·rename_i x _ hn
    rw [List.map_append,List.nodup_append]
    refine ⟨ih,by simp,fun a ha b hb hab=>hn ?_⟩
    have:b=e x.1 (r%K):=by simpa using hb
    rw [← this,← hab]
    exact ha
theorem bfs_from:∀ {r u:Nat} {x:A×List Int},(bfsB e K s0 r)[u]?=some x→u=0∨∃ r' y,r'<r∧r' / K<u∧(bfsB e K s0 r)[r' / K]?=some y∧x=(e y.1 (r'%K),y.2++[(↑(r'%K):Int)])
 | 0,u,x,h=>by
  left
  have:=(List.getElem?_eq_some_iff.1 h).1
  simp [bfsB] at this
  exact this
 | r+1,u,x,h=>by
  have old:(bfsB e K s0 r)[u]?=some x→u=0∨∃ r' y,r'<r+1∧r' / K<u∧(bfsB e K s0 (r+1))[r' / K]?=some y∧x=(e y.1 (r'%K),y.2++[(↑(r'%K):Int)]):=fun h=>by
   rcases bfs_from h with h | ⟨r',y,h1,h2,h3,h4⟩
   ·exact Or.inl h
   ·exact Or.inr ⟨r',y,by omega,h2,pre_get (bfs_pre1 r) h3,h4⟩
  have hh:=h
  rw [bfsB] at h
  split at h
  ·exact old h
  ·rename_i y hy
   split at h
   ·exact old h
   ·rename_i hn
    rcases Nat.lt_or_ge u (bfsB e K s0 r).length with g | g
    ·rw [List.getElem?_append_left g] at h
     exact old h
    ·right
     rw [List.getElem?_append_right g] at h
     have hu:u-(bfsB e K s0 r).length=0:=by
      have:=(List.getElem?_eq_some_iff.1 h).1
      simpa using this
     rw [hu] at h
     have hx:x=(e y.1 (r%K),y.2++[(↑(r%K):Int)]):=by
      simp at h
      exact h.symm
     have hk:=(List.getElem?_eq_some_iff.1 hy).1
     exact ⟨r,y,by omega,by omega,pre_get (bfs_pre1 r) hy,hx⟩
theorem bfs_to {r:Nat} {x:A×List Int} (hx:(bfsB e K s0 r)[r / K]?=some x):e x.1 (r%K)∈(bfsB e K s0 (r+1)).map Prod.fst:=by
 rw [bfsB,hx]
 simp only
 split
 ·assumption
 ·simp
structure BfsEnd (e:A→Nat→A) (K:Nat) (s0:A) (L:List (A×List Int)):Prop where
 eq:L=bfsB e K s0 (L.length*K)
variable {L:List (A×List Int)}
theorem BfsEnd.at (h:BfsEnd e K s0 L) {r:Nat} (hr:r≤L.length*K):bfsB e K s0 r <+: L:=by
 have:=bfs_pre (e:=e) (K:=K) (s0:=s0) hr
 rw [← h.eq] at this
 exact this
theorem BfsEnd.first (h:BfsEnd e K s0 L):L[0]?=some (s0,[]):=by
 rw [h.eq]
 exact bfs_pos _
theorem BfsEnd.nodup (h:BfsEnd e K s0 L):(L.map Prod.fst).Nodup:=by
 rw [h.eq]
 exact ze2 _
theorem BfsEnd.long (h:BfsEnd e K s0 L) {i a:Nat} (hi:i<L.length) (ha:a<K):∃ x,L[i]?=some x∧(bfsB e K s0 (i*K+a))[i]?=some x:=by
 refine ⟨_,List.getElem?_eq_getElem hi,?_⟩
 have hpre:=h.at (r:=i*K+a) (by have:=mem_lt hi ha;omega)
 rcases Nat.lt_or_ge i (bfsB e K s0 (i*K+a)).length with g | g
 ·have:=pre_get hpre (List.getElem?_eq_getElem g)
  rw [List.getElem?_eq_getElem hi] at this
  rw [List.getElem?_eq_getElem g,this]
 ·exfalso
  have stay:∀ d,bfsB e K s0 (i*K+a+d)=bfsB e K s0 (i*K+a):=by
   intro d
   induction d with
   | zero=>rfl
   | succ d ih =>
    show bfsB e K s0 (i*K+a+d+1)=_
    rw [bfsB,ih,List.getElem?_eq_none ?_]
    have h1:(i*K+a) / K≤(i*K+a+d) / K:=Nat.div_le_div_right (by omega)
    rw [dm_div ha] at h1
    omega
  have h2:=stay (L.length*K-(i*K+a))
  rw [show i*K+a+(L.length*K-(i*K+a))=L.length*K by have:=mem_lt hi ha;omega,← h.eq] at h2
  rw [← h2] at g
  omega
theorem BfsEnd.closed (h:BfsEnd e K s0 L) {i a:Nat} {x:A×List Int} (hx:L[i]?=some x) (ha:a<K):∃ j y,L[j]?=some y∧y.1=e x.1 a∧∀ u,0<u→u≤j→∃ i' a' z w,a'<K∧i'*K+a'≤i*K+a∧i'<u∧L[i']?=some z∧L[u]?=some w∧w.1=e z.1 a':=by
 have hi:=(List.getElem?_eq_some_iff.1 hx).1
 obtain ⟨x',h1,h2⟩:=h.long hi ha
 rw [hx] at h1
 injection h1 with h1
 subst h1
 have hlt:=mem_lt hi ha
 have hpre:=h.at (r:=i*K+a+1) (by omega)
 have h3:=bfs_to (e:=e) (K:=K) (s0:=s0) (r:=i*K+a) (x:=x) (by rw [dm_div ha];exact h2)
 rw [dm_mod ha] at h3
 obtain ⟨y,hy,hye⟩:=List.mem_map.1 h3
 obtain ⟨j,hj,hjy⟩:=List.mem_iff_getElem.1 hy
 have hjy':(bfsB e K s0 (i*K+a+1))[j]?=some y:=by rw [List.getElem?_eq_getElem hj,hjy]
 refine ⟨j,y,pre_get hpre hjy',hye,fun u hu huj=>?_⟩
 have hul:u<(bfsB e K s0 (i*K+a+1)).length:=by omega
 have hw:=List.getElem?_eq_getElem hul
 rcases bfs_from hw with q | ⟨r',z,q1,q2,q3,q4⟩
 ·omega
 ·have hK:0<K:=by omega
  refine ⟨r' / K,r'%K,z,_,Nat.mod_lt _ hK,?_,q2,pre_get hpre q3,pre_get hpre hw,by rw [q4]⟩
  have:=Nat.div_add_mod r' K
  rw [Nat.mul_comm] at this
  omega
theorem BfsEnd.from (h:BfsEnd e K s0 L) (hK:0<K) {u:Nat} {x:A×List Int} (hx:L[u]?=some x):u=0∨∃ i a y,i<u∧a<K∧L[i]?=some y∧x=(e y.1 a,y.2++[(↑a:Int)]):=by
 have hx':=hx
 rw [h.eq] at hx'
 rcases bfs_from hx' with q | ⟨r',z,q1,q2,q3,q4⟩
 ·exact Or.inl q
 ·rw [← h.eq] at q3
  exact Or.inr ⟨r' / K,r'%K,z,q2,Nat.mod_lt _ hK,q3,q4⟩
theorem BfsEnd.uniq {L':List (A×List Int)} (hK:0<K) (h:BfsEnd e K s0 L) (h':BfsEnd e K s0 L'):L=L':=by
 have key:∀ {L L':List (A×List Int)},BfsEnd e K s0 L→BfsEnd e K s0 L'→L.length≤L'.length→L=L':=fun {L L'} h h' hl=>by
  rcases Nat.lt_or_ge L.length L'.length with g | g
  ·exfalso
   have hpre:L <+: L':=by
    have:=h'.at (r:=L.length*K) (Nat.mul_le_mul_right K hl)
    rwa [← h.eq] at this
   obtain ⟨x,_,hx⟩:=h'.long g hK
   rw [Nat.add_zero,← h.eq,List.getElem?_eq_none (Nat.le_refl _)] at hx
   cases hx
  ·have e1:L.length=L'.length:=by omega
   rw [h.eq,h'.eq,e1]
 rcases Nat.le_total L.length L'.length with g | g
 ·exact key h h' g
 ·exact (key h' h g).symm
end
end Go.Proofs.YtcneaiejdidooaaGreat.Sym

/-
 Machines: equivalence of states, and its classes. Plain laws.
-/
namespace Go.Proofs.YtcneaiejdidooaaGreat.Sym
set_option maxRecDepth 100000
def E (m:zaa):Nat→Nat→Nat→Prop
 | 0,_,_=>True
 | k+1,s,t=>E m k s t∧∀ a,a<m.Inputs.toNat→ot m s a=ot m t a∧E m k (nx m s a) (nx m t a)
section
variable {m:zaa}
theorem E_refl:∀ (k s:Nat),E m k s s
 | 0,_=>trivial
 | k+1,s=>⟨E_refl k s,fun _ _=>⟨rfl,E_refl k _⟩⟩
theorem E_symm:∀ {k s t:Nat},E m k s t→E m k t s
 | 0,_,_,_=>trivial
 | _+1,_,_,h=>⟨E_symm h.1,fun a ha=>⟨(h.2 a ha).1.symm,E_symm (h.2 a ha).2⟩⟩
theorem E_trans:∀ {k s t u:Nat},E m k s t→E m k t u→E m k s u
 | 0,_,_,_,_,_=>trivial
 | _+1,_,_,_,h,g=>⟨E_trans h.1 g.1,fun a ha=>⟨(h.2 a ha).1.trans (g.2 a ha).1,E_trans (h.2 a ha).2 (g.2 a ha).2⟩⟩
theorem E_mono {k j s t:Nat} (hk:k≤j) (h:E m j s t):E m k s t:=by
 induction j with
 | zero =>
  have e:k=0:=by omega
  subst e
  exact h
 | succ j ih =>
  rcases Nat.lt_or_ge k (j+1) with h1 | h1
  ·exact ih (by omega) h.1
  ·have e:k=j+1:=by omega
   subst e
   exact h
theorem zg9:∀ {k s t:Nat},(∀ w,w.length≤k→WOk m.Inputs w→outs m s w=outs m t w)→E m k s t
 | 0,_,_,_=>trivial
 | k+1,s,t,h=>⟨zg9 fun w hl hw=>h w (by omega) hw,fun a ha=>by
  have hx:∀ w,w.length≤k→WOk m.Inputs w→ot m s a=ot m t a∧outs m (nx m s a) w=outs m (nx m t a) w:=fun w hl hw=>by
   have h1:=h ((↑a:Int)::w) (by simp;omega) (fun x hx=>by
    rcases List.mem_cons.1 hx with rfl | hx
    ·exact ⟨by omega,by omega⟩
    ·exact hw x hx)
   have h2:ot m s a::outs m (nx m s a) w=ot m t a::outs m (nx m t a) w:=h1
   injection h2 with h3 h4
   exact ⟨h3,h4⟩
  exact ⟨(hx [] (Nat.zero_le _) (fun x hx=>by cases hx)).1,zg9 fun w hl hw=>(hx w hl hw).2⟩⟩
structure ClsOk (m:zaa) (k:Nat) (c:List Int):Prop where
 len:c.length=m.Next.length
 rng:∀ s,s<m.Next.length→∃ x:Nat,c[s]?=some (↑x:Int)∧x<m.Next.length
 cls:∀ s t,s<m.Next.length→t<m.Next.length→(c[s]?=c[t]?↔E m k s t)
def Alike (m:zaa) (c:List Int) (s t a:Nat):Prop:=c[s]?=c[t]?∧∀ b,b<a→ot m s b=ot m t b∧c[nx m s b]?=c[nx m t b]?
theorem alike_iff (H:MacOk m) {k:Nat} {c:List Int} (C:ClsOk m k c) {s t:Nat} (hs:s<m.Next.length) (ht:t<m.Next.length):Alike m c s t m.Inputs.toNat↔E m (k+1) s t:=by
 constructor
 ·rintro ⟨h1,h2⟩
  exact ⟨(C.cls s t hs ht).1 h1,fun a ha=>⟨(h2 a ha).1,(C.cls _ _ (H.at hs ha).1 (H.at ht ha).1).1 (h2 a ha).2⟩⟩
 ·rintro ⟨h1,h2⟩
  exact ⟨(C.cls s t hs ht).2 h1,fun a ha=>⟨(h2 a ha).1,(C.cls _ _ (H.at hs ha).1 (H.at ht ha).1).2 (h2 a ha).2⟩⟩
theorem finer_same (H:MacOk m) {k:Nat} {c:List Int} (C:ClsOk m k c) {s t:Nat} (hs:s<m.Next.length) (ht:t<m.Next.length) {b0:Bool} (hb:b0=true↔c[s]?=c[t]?) :
  ∃ r:Bool,iter (fun (q:Bool×Nat)=>za3.s89 m c s (↑t:Int) q.1 q.2) fuel (b0,0)=some r∧(r=true↔E m (k+1) s t):=by
 have hI:=H.i2
 obtain ⟨r,hr,hq⟩:=za4 (step:=fun (q:Bool×Nat)=>za3.s89 m c s (↑t:Int) q.1 q.2) (fun q=>q.2≤m.Inputs.toNat∧(q.1=true↔Alike m c s t q.2)) (fun q=>m.Inputs.toNat-q.2) (fun r=>r=true↔Alike m c s t m.Inputs.toNat) (fun q ⟨g1,g2⟩=>by
  obtain ⟨b,a⟩:=q
  simp only at g1 g2
  simp only [za3.s89]
  by_cases g3:a<m.Inputs.toNat
  ·rw [decide_eq_true (by omega),cond_true,obind]
   cases b with
   | false =>
    right
    rw [cond_false]
    exact ⟨false,rfl,⟨fun h=>(by cases h),fun h=>absurd (g2.2 ⟨h.1,fun b hb=>h.2 b (by omega)⟩) (by simp)⟩⟩
   | true =>
    left
    obtain ⟨s1,_,_,x,y,e1,e2,e3,e4⟩:=H.at hs g3
    obtain ⟨t1,_,_,x',y',f1,f2,f3,f4⟩:=H.at ht g3
    obtain ⟨u,u1,u2⟩:=C.rng _ s1
    obtain ⟨v,v1,v2⟩:=C.rng _ t1
    have g2:=g2.1 rfl
    rw [cond_true,idxn_at e2,idxn_at e4,idx_at rfl f2,idxn_at f4]
    by_cases g4:ot m s a=ot m t a
    ·refine ⟨(decide ((↑u:Int)=(↑v:Int)),a+1),?_,⟨g3,?_⟩,by simp only;omega⟩
     ·rw [decide_eq_true g4,cond_true,idxn_at e1,idxn_at e3,idx_at rfl u1,idx_at rfl f1,idxn_at f3,idx_at rfl v1,chk_pos (by unfold inR;omega)]
     ·simp only [decide_eq_true_eq]
      constructor
      ·intro h
       refine ⟨g2.1,fun b hb=>?_⟩
       rcases Nat.lt_or_ge b a with h1 | h1
       ·exact g2.2 b h1
       ·have e:b=a:=by omega
        subst e
        exact ⟨g4,by rw [u1,v1,h]⟩
      ·intro h
       have h1:=(h.2 a (by omega)).2
       rw [u1,v1] at h1
       injection h1
    ·refine ⟨(false,a+1),?_,⟨g3,?_⟩,by simp only;omega⟩
     ·rw [decide_eq_false g4,cond_false,chk_pos (by unfold inR;omega)]
     ·exact ⟨fun h=>(by cases h),fun h=>absurd (h.2 a (by omega)).1 g4⟩
  ·right
   have e:a=m.Inputs.toNat:=by omega
   subst e
   exact ⟨b,by rw [decide_eq_false (by omega),cond_false,obind,cond_false],g2⟩) fuel (b0,0) ⟨Nat.zero_le _,by rw [hb];exact ⟨fun h=>⟨h,fun b hb=>absurd hb (Nat.not_lt_zero _)⟩,fun h=>h.1⟩⟩ (by have:=fuel_big;simp only;omega)
 exact ⟨r,hr,hq.trans (alike_iff H C hs ht)⟩
theorem finer_found (H:MacOk m) {k:Nat} {c:List Int} (C:ClsOk m k c) {s:Nat} (hs:s<m.Next.length) {y:List Int} (hy:y.length=s) :
  ∃ r:Int,iter (fun (q:Int×Int)=>za3.s90 m c y s q.1 q.2) fuel ((-1:Int),(↑s:Int)-1)=some r∧((r=-1∧∀ t,t<s→¬ E m (k+1) s t)∨∃ t,t<s∧E m (k+1) s t∧y[t]?=some r):=by
 have hn:=H.n2
 obtain ⟨r,hr,hq⟩:=za4 (step:=fun (q:Int×Int)=>za3.s90 m c y s q.1 q.2) (fun q=>-1≤q.2∧q.2<(↑s:Int)∧((q.1=-1∧∀ t:Nat,q.2<(↑t:Int)→t<s→¬ E m (k+1) s t)∨∃ t,t<s∧E m (k+1) s t∧y[t]?=some q.1)) (fun q=>(q.2+1).toNat) (fun r=>(r=-1∧∀ t,t<s→¬ E m (k+1) s t)∨∃ t,t<s∧E m (k+1) s t∧y[t]?=some r) (fun q ⟨g1,g2,g3⟩=>by
  obtain ⟨f,t⟩:=q
  simp only at g1 g2 g3
  simp only [za3.s90]
  by_cases g4:0≤t
  ·left
   obtain ⟨t,rfl⟩:∃ t':Nat,t=(↑t':Int):=⟨t.toNat,by omega⟩
   have hts:t<s:=by omega
   have ht:t<m.Next.length:=by omega
   obtain ⟨u,u1,u2⟩:=C.rng s hs
   obtain ⟨v,v1,v2⟩:=C.rng t ht
   obtain ⟨b,b1,b2⟩:=finer_same H C hs ht (b0:=decide ((↑u:Int)=(↑v:Int))) (by
    rw [u1,v1,decide_eq_true_eq]
    exact ⟨fun h=>by rw [h],fun h=>by injection h⟩)
   have hyt:=get_at (l:=y) (i:=t) (by omega)
   rw [decide_eq_true g4,cond_true,idxn_at u1,idx_at rfl v1,b1,obind]
   cases b with
   | true =>
    refine ⟨(y[t]'(by omega),(↑t:Int)-1),by rw [cond_true,idx_at rfl hyt,chk_pos (by unfold inR;omega)],⟨by simp only;omega,by simp only;omega,Or.inr ⟨t,hts,b2.1 rfl,hyt⟩⟩,by simp only;omega⟩
   | false =>
    refine ⟨(f,(↑t:Int)-1),by rw [cond_false,chk_pos (by unfold inR;omega)],⟨by simp only;omega,by simp only;omega,?_⟩,by simp only;omega⟩
    rcases g3 with ⟨h1,h2⟩ | h
    ·refine Or.inl ⟨h1,fun t' h3 h4=>?_⟩
     simp only at h3
     by_cases e:t'=t
     ·subst e
      exact fun h=>absurd (b2.2 h) (by simp)
     ·exact h2 t' (by omega) h4
    ·exact Or.inr h
  ·right
   have e:t=-1:=by omega
   subst e
   refine ⟨f,by rw [decide_eq_false (by omega),cond_false],?_⟩
   rcases g3 with ⟨h1,h2⟩ | h
   ·exact Or.inl ⟨h1,fun t' h4=>h2 t' (by omega) h4⟩
   ·exact Or.inr h) fuel ((-1:Int),(↑s:Int)-1) ⟨by simp only;omega,by simp only;omega,Or.inl ⟨rfl,fun t h1 h2=>by simp only at h1;omega⟩⟩ (by have:=fuel_big;simp only;omega)
 exact ⟨r,hr,hq⟩
structure FinOk (m:zaa) (k:Nat) (y:List Int) (n s:Nat):Prop where
 ls:s≤m.Next.length
 len:y.length=s
 cnt:n≤s
 rng:∀ i,i<s→∃ x:Nat,y[i]?=some (↑x:Int)∧x<n
 cls:∀ i j,i<s→j<s→(y[i]?=y[j]?↔E m k i j)
theorem R08_finer_eq (H:MacOk m) {k:Nat} {c:List Int} (C:ClsOk m k c):∃ c',za3 m c=some c'∧ClsOk m (k+1) c':=by
 have hn:=H.n2
 unfold za3
 obtain ⟨r,hr,n,hq⟩:=za4 (step:=fun (q:List Int×Nat×Nat)=>za3.s92 m c q.1 q.2.1 q.2.2) (fun q=>FinOk m (k+1) q.1 q.2.1 q.2.2) (fun q=>m.Next.length-q.2.2) (fun r=>∃ n,FinOk m (k+1) r n m.Next.length) (fun q Q=>by
  obtain ⟨y,n,s⟩:=q
  simp only at Q
  have hc:=Q.cnt
  have hl:=Q.len
  have hls:=Q.ls
  simp only [za3.s92]
  rw [C.len]
  by_cases g1:s<m.Next.length
  ·left
   obtain ⟨f,f1,f2⟩:=finer_found H C g1 Q.len
   rw [decide_eq_true (by omega),cond_true,f1,obind]
   rcases f2 with ⟨rfl,f2⟩ | ⟨t,ht,hE,f2⟩
   ·-- a class of its own
    rw [decide_eq_true (by omega),cond_true,chk_pos (by unfold inR;omega),obind]
    refine ⟨(y++[(↑n:Int)],n+1,s+1),by simp only [za3.k91];rw [chk_pos (by unfold capOk;omega)],(show FinOk m (k+1) (y++[(↑n:Int)]) (n+1) (s+1) from ⟨g1,by simp [Q.len],by omega,fun i hi=>?_,fun i j hi hj=>?_⟩),by simp only;omega⟩
    ·rcases Nat.lt_or_ge i s with h | h
     ·obtain ⟨x,x1,x2⟩:=Q.rng i h
      exact ⟨x,by rw [List.getElem?_append_left (by omega),x1],by omega⟩
     ·have e:i=y.length:=by omega
      subst e
      exact ⟨n,by simp,by omega⟩
    ·have old:∀ i,i<s→(y++[(↑n:Int)])[i]?=y[i]?:=fun i hi=>List.getElem?_append_left (by omega)
     have new:(y++[(↑n:Int)])[s]?=some (↑n:Int):=by rw [List.getElem?_append_right (by omega),hl,Nat.sub_self];rfl
     have ne:∀ i,i<s→y[i]?≠some (↑n:Int):=fun i hi h=>by
      obtain ⟨x,x1,x2⟩:=Q.rng i hi
      rw [x1] at h
      injection h with h
      omega
     rcases Nat.lt_or_ge i s with h | h<;>rcases Nat.lt_or_ge j s with h' | h'
     ·rw [old i h,old j h']
      exact Q.cls i j h h'
     ·have e:j=s:=by omega
      subst e
      rw [old i h,new]
      exact ⟨fun h2=>absurd h2 (ne i h),fun h2=>absurd (E_symm h2) (f2 i h)⟩
     ·have e:i=s:=by omega
      subst e
      rw [old j h',new]
      exact ⟨fun h2=>absurd h2.symm (ne j h'),fun h2=>absurd h2 (f2 j h')⟩
     ·have e:i=s:=by omega
      have e':j=s:=by omega
      subst e
      subst e'
      exact ⟨fun _=>E_refl _ _,fun _=>rfl⟩
   ·obtain ⟨x,x1,x2⟩:=Q.rng t ht
    rw [f2] at x1
    injection x1 with x1
    subst x1
    rw [decide_eq_false (by omega),cond_false,obind]
    refine ⟨(y++[(↑x:Int)],n,s+1),by simp only [za3.k91];rw [chk_pos (by unfold capOk;omega)],(show FinOk m (k+1) (y++[(↑x:Int)]) n (s+1) from ⟨g1,by simp [Q.len],by omega,fun i hi=>?_,fun i j hi hj=>?_⟩),by simp only;omega⟩
    ·rcases Nat.lt_or_ge i s with h | h
     ·obtain ⟨z,z1,z2⟩:=Q.rng i h
      exact ⟨z,by rw [List.getElem?_append_left (by omega),z1],z2⟩
     ·have e:i=y.length:=by omega
      subst e
      exact ⟨x,by simp,x2⟩
    ·have old:∀ i,i<s→(y++[(↑x:Int)])[i]?=y[i]?:=fun i hi=>List.getElem?_append_left (by omega)
     have new:(y++[(↑x:Int)])[s]?=y[t]?:=by rw [List.getElem?_append_right (by omega),hl,Nat.sub_self,f2];rfl
     rcases Nat.lt_or_ge i s with h | h<;>rcases Nat.lt_or_ge j s with h' | h'
     ·rw [old i h,old j h']
      exact Q.cls i j h h'
     ·have e:j=s:=by omega
      subst e
      rw [old i h,new,Q.cls i t h ht]
      exact ⟨fun h2=>E_trans h2 (E_symm hE),fun h2=>E_trans h2 hE⟩
     ·have e:i=s:=by omega
      subst e
      rw [old j h',new,Q.cls t j ht h']
      exact ⟨fun h2=>E_trans hE h2,fun h2=>E_trans (E_symm hE) h2⟩
     ·have e:i=s:=by omega
      have e':j=s:=by omega
      subst e
      subst e'
      exact ⟨fun _=>E_refl _ _,fun _=>rfl⟩
  ·right
   have e:s=m.Next.length:=by omega
   subst e
   exact ⟨y,by rw [decide_eq_false (by omega),cond_false],n,Q⟩) fuel ([],0,0) ⟨Nat.zero_le _,rfl,Nat.le_refl _,fun i h=>absurd h (Nat.not_lt_zero _),fun i j h=>absurd h (Nat.not_lt_zero _)⟩ (by have:=fuel_big;simp only;omega)
 refine ⟨r,by rw [hr,obind],hq.len,fun s hs=>?_,fun s t hs ht=>hq.cls s t hs ht⟩
 obtain ⟨x,x1,x2⟩:=hq.rng s hs
 have:=hq.cnt
 exact ⟨x,x1,by omega⟩
theorem zi2 (hv:zbf m=some 0) (k:Nat):∃ c,zbp m (↑k:Int)=some (c,0)∧ClsOk m (min k m.Next.length) c:=by
 have H:=macOk_of hv
 have hn:=H.n2
 unfold zbp
 rw [hv,obind,decide_eq_false (by simp),cond_false,chk_pos ⟨by omega,by omega,by unfold capOk;omega⟩]
 obtain ⟨r,hr,hq⟩:=za4 (step:=fun (q:List Int×Nat)=>zbp.s2 m (↑k:Int) q.1 q.2) (fun q=>q.2≤min k m.Next.length∧ClsOk m q.2 q.1) (fun q=>min k m.Next.length-q.2) (fun r=>ClsOk m (min k m.Next.length) r) (fun q ⟨g1,g2⟩=>by
  obtain ⟨y,i⟩:=q
  simp only at g1 g2
  simp only [zbp.s2]
  by_cases g3:i<min k m.Next.length
  ·left
   obtain ⟨c',e1,e2⟩:=R08_finer_eq H g2
   refine ⟨(c',i+1),?_,⟨g3,e2⟩,by simp only;omega⟩
   rw [decide_eq_true (by omega),cond_true,obind,decide_eq_true (by omega),cond_true,e1,obind,chk_pos (by unfold inR;omega)]
  ·right
   have e:i=min k m.Next.length:=by omega
   refine ⟨y,?_,e ▸ g2⟩
   by_cases h:i<k
   ·rw [decide_eq_true (by omega),cond_true,obind,decide_eq_false (by omega),cond_false]
   ·rw [decide_eq_false (by omega),cond_false,obind,cond_false]) fuel ((List.replicate m.Next.length 0),0) ⟨Nat.zero_le _,⟨by simp,fun s hs=>⟨0,by simp [hs],H.n1⟩,fun s t hs ht=>⟨fun _=>trivial,fun _=>by simp [hs,ht]⟩⟩⟩ (by have:=fuel_big;simp only;omega)
 exact ⟨r,by rw [hr,obind],hq⟩
/-! Words of as many symbols as there are states separate all that can be separated. -/
theorem zix {α:Type} {p q:α→Bool}:∀ {l:List α},(∀ x∈l,p x=true→q x=true)→l.countP q≤l.countP p→∀ x∈l,q x=true→p x=true
 | [],_,_,x,hx,_=>by cases hx
 | y::l,h,hc,x,hx,hq=>by
  have h1:l.countP p≤l.countP q:=List.countP_mono_left fun x hx=>h x (List.mem_cons_of_mem _ hx)
  rw [List.countP_cons,List.countP_cons] at hc
  have h2:=h y (List.mem_cons_self ..)
  have h3:l.countP q≤l.countP p∧(q y=true→p y=true):=by
   cases e1:q y<;>cases e2:p y<;>simp [e1,e2] at hc h2 ⊢<;>omega
  rcases List.mem_cons.1 hx with rfl | hx
  ·exact h3.2 hq
  ·exact zix (fun x hx=>h x (List.mem_cons_of_mem _ hx)) h3.1 x hx hq
def Rep (m:zaa) (k s:Nat):Prop:=∀ t,t<s→¬ E m k s t
open Classical in
noncomputable def nreps (m:zaa) (k:Nat):Nat:=(List.range m.Next.length).countP fun s=>decide (Rep m k s)
theorem zlk (k:Nat):∀ (s:Nat),∃ r,r≤s∧Rep m k r∧E m k s r:=by
 intro s
 induction s using Nat.strongRecOn with
 | ind s ih =>
  by_cases h:Rep m k s
  ·exact ⟨s,Nat.le_refl _,h,E_refl _ _⟩
  ·have ⟨t,h1⟩:=Classical.not_forall.1 h
   obtain ⟨h2,h3⟩:=Classical.not_imp.1 h1
   have h3:=Classical.not_not.1 h3
   obtain ⟨r,r1,r2,r3⟩:=ih t h2
   exact ⟨r,by omega,r2,E_trans h3 r3⟩
def Stab (m:zaa) (k:Nat):Prop:=∀ s t,s<m.Next.length→t<m.Next.length→E m k s t→E m (k+1) s t
theorem rep_succ {k s:Nat} (h:Rep m k s):Rep m (k+1) s:=fun t ht hE=>h t ht hE.1
open Classical in
open Classical in
theorem stab_of {k:Nat} (h:nreps m (k+1)≤nreps m k):Stab m k:=by
 intro s t hs ht hE
 unfold nreps at h
 have key:=zix (l:=List.range m.Next.length) (fun s _ h=>decide_eq_true (rep_succ (of_decide_eq_true h))) h
 obtain ⟨r,r1,r2,r3⟩:=zlk (m:=m) (k+1) s
 obtain ⟨u,u1,u2,u3⟩:=zlk (m:=m) (k+1) t
 have r4:Rep m k r:=of_decide_eq_true (key r (List.mem_range.2 (by omega)) (decide_eq_true r2))
 have u4:Rep m k u:=of_decide_eq_true (key u (List.mem_range.2 (by omega)) (decide_eq_true u2))
 have hru:E m k r u:=E_trans (E_symm r3.1) (E_trans hE u3.1)
 have e:r=u:=by
  rcases Nat.lt_trichotomy r u with h1 | h1 | h1
  ·exact absurd (E_symm hru) (u4 r h1)
  ·exact h1
  ·exact absurd hru (r4 u h1)
 subst e
 exact E_trans r3 (E_symm u3)
theorem stab_succ (H:MacOk m) {k:Nat} (h:Stab m k):Stab m (k+1):=fun s t hs ht hE =>
 ⟨hE,fun a ha=>⟨(hE.2 a ha).1,h _ _ (H.at hs ha).1 (H.at ht ha).1 (hE.2 a ha).2⟩⟩
theorem stab_add (H:MacOk m) {k:Nat} (h:Stab m k):∀ j,Stab m (k+j)
 | 0=>h
 | j+1=>stab_succ H (stab_add H h j)
open Classical in
theorem stab_exists (H:MacOk m):∃ k,k<m.Next.length∧Stab m k:=by
 refine Classical.byContradiction fun hno=>?_
 have hall:∀ k,k≤m.Next.length→k+1≤nreps m k:=by
  intro k
  induction k with
  | zero =>
   intro _
   unfold nreps
   have:0<(List.range m.Next.length).countP fun s=>@decide (Rep m 0 s) (Classical.propDecidable _):=List.countP_pos_iff.2 ⟨0,List.mem_range.2 H.n1,decide_eq_true fun t ht=>absurd ht (Nat.not_lt_zero _)⟩
   exact this
  | succ k ih =>
   intro hk
   have h1:=ih (by omega)
   rcases Nat.lt_or_ge (nreps m k) (nreps m (k+1)) with h2 | h2
   ·omega
   ·exact absurd ⟨k,by omega,stab_of h2⟩ hno
 have h1:=hall _ (Nat.le_refl _)
 have h2:nreps m m.Next.length≤(List.range m.Next.length).length:=List.countP_le_length
 rw [List.length_range] at h2
 omega
theorem E_all (H:MacOk m) {s t:Nat} (hs:s<m.Next.length) (ht:t<m.Next.length) (h:E m m.Next.length s t) (j:Nat):E m j s t:=by
 obtain ⟨k,hk,hS⟩:=stab_exists H
 have key:∀ i,E m (k+i) s t:=by
  intro i
  induction i with
  | zero=>exact E_mono (by omega) h
  | succ i ih=>exact stab_add H hS i s t hs ht ih
 exact E_mono (by omega) (key j)
end
end Go.Proofs.YtcneaiejdidooaaGreat.Sym

/-
 Machines: the minimal machine, each class by its first state. Plain laws.
-/
namespace Go.Proofs.YtcneaiejdidooaaGreat.Sym
set_option maxRecDepth 100000
theorem nodup_le {α:Type} [DecidableEq α]:∀ {l l':List α},l.Nodup→(∀ x∈l,x∈l')→l.length≤l'.length
 | [],_,_,_=>Nat.zero_le _
 | x::l,l',h,hs=>by
  have h1:=List.nodup_cons.1 h
  have hx:=hs x (by simp)
  have ih:=nodup_le (l:=l) (l':=l'.erase x) h1.2 (fun y hy=>(List.mem_erase_of_ne (fun e=>h1.1 (by rw [← e];exact hy))).2 (hs y (List.mem_cons_of_mem _ hy)))
  rw [List.length_erase_of_mem hx] at ih
  have:=List.length_pos_of_mem hx
  simp only [List.length_cons]
  omega
def natI (l:List Nat):List Int:=l.map fun (x:Nat)=>(↑x:Int)
theorem natI_at {l:List Nat} {i u:Nat} (h:l[i]?=some u):(natI l)[i]?=some (↑u:Int):=by
 unfold natI
 rw [List.getElem?_map,h]
 rfl
theorem zkz (l:List Nat) (t:Nat):natI l++[(↑t:Int)]=natI (l++[t]):=by simp [natI]
theorem natI_len (l:List Nat):(natI l).length=l.length:=by simp [natI]
def Ext (l l':List Nat):Prop:=∀ j u:Nat,l[j]?=some u→l'[j]?=some u
theorem Ext.rfl' {l:List Nat}:Ext l l:=fun _ _ h=>h
theorem Ext.trans {l l' l'':List Nat} (h:Ext l l') (g:Ext l' l''):Ext l l'':=fun j u e=>g j u (h j u e)
theorem Ext.push (l:List Nat) (t:Nat):Ext l (l++[t]):=fun j u h=>by
 have:=(List.getElem?_eq_some_iff.1 h).1
 rw [List.getElem?_append_left this,h]
structure Num (m:zaa) (c:List Int) (ord:List Nat) (num:List Int):Prop where
 rng:∀ u∈ord,u<m.Next.length
 start:ord[0]?=some m.Start.toNat
 len:num.length=m.Next.length
 n1:∀ j u x:Nat,ord[j]?=some u→c[u]?=some (↑x:Int)→num[x]?=some (↑j:Int)
 n2:∀ x:Nat,x<m.Next.length→num[x]?=some (-1:Int)∨∃ j u:Nat,num[x]?=some (↑j:Int)∧ord[j]?=some u∧c[u]?=some (↑x:Int)
 reach:∀ j u:Nat,ord[j]?=some u→j=0∨∃ i v a:Nat,i<j∧ord[i]?=some v∧a<m.Inputs.toNat∧u=nx m v a
section
variable {m:zaa} {c num:List Int} {ord:List Nat} {k:Nat}
theorem Num.inj (N:Num m c ord num) (C:ClsOk m k c) {i j u v:Nat} (hi:ord[i]?=some u) (hj:ord[j]?=some v) (h:c[u]?=c[v]?):i=j:=by
 obtain ⟨x,x1,_⟩:=C.rng u (N.rng u (List.mem_of_getElem? hi))
 have h1:=N.n1 i u x hi x1
 have h2:=N.n1 j v x hj (by rw [← h,x1])
 rw [h1] at h2
 injection h2 with h2
 omega
theorem Num.nodup (N:Num m c ord num) (C:ClsOk m k c):ord.Nodup:=by
 refine List.pairwise_iff_getElem.2 fun i j hi hj hij h=>?_
 have:=N.inj C (get_at hi) (get_at hj) (by rw [h])
 omega
theorem Num.le (N:Num m c ord num) (C:ClsOk m k c):ord.length≤m.Next.length:=by
 have:=nodup_le (N.nodup C) (l':=List.range m.Next.length) fun x hx=>List.mem_range.2 (N.rng x hx)
 rwa [List.length_range] at this
theorem Num.push (N:Num m c ord num) {i v a t x:Nat} (hi:ord[i]?=some v) (ha:a<m.Inputs.toNat) (ht:t=nx m v a) (htn:t<m.Next.length) (hx:c[t]?=some (↑x:Int)) (hxn:x<m.Next.length) (hn:num[x]?=some (-1:Int)):Num m c (ord++[t]) (num.set x (↑ord.length:Int)) where
 rng:=fun u hu=>by
  rcases List.mem_append.1 hu with h | h
  ·exact N.rng u h
  ·rw [List.mem_singleton.1 h]
   exact htn
 start:=Ext.push ord t 0 _ N.start
 len:=by rw [List.length_set,N.len]
 n1:=fun j u y hj hc=>by
  rcases Nat.lt_or_ge j ord.length with h | h
  ·rw [List.getElem?_append_left h] at hj
   have h1:=N.n1 j u y hj hc
   have hne:x≠y:=fun e=>by
    subst e
    rw [hn] at h1
    injection h1 with h1
    omega
   rw [List.getElem?_set_ne hne]
   exact h1
  ·have h2:=(List.getElem?_eq_some_iff.1 hj).1
   rw [List.length_append,List.length_singleton] at h2
   have e:j=ord.length:=by omega
   subst e
   rw [List.getElem?_append_right (Nat.le_refl _),Nat.sub_self] at hj
   injection hj with hj
   subst hj
   rw [hx] at hc
   injection hc with hc
   have e:x=y:=by omega
   subst e
   rw [List.getElem?_set_self (by rw [N.len];exact hxn)]
 n2:=fun y hy=>by
  by_cases e:x=y
  ·subst e
   exact Or.inr ⟨ord.length,t,by rw [List.getElem?_set_self (by rw [N.len];exact hxn)],by simp,hx⟩
  ·rw [List.getElem?_set_ne e]
   rcases N.n2 y hy with h | ⟨j,u,h1,h2,h3⟩
   ·exact Or.inl h
   ·exact Or.inr ⟨j,u,h1,Ext.push ord t j u h2,h3⟩
 reach:=fun j u hj=>by
  rcases Nat.lt_or_ge j ord.length with h | h
  ·rw [List.getElem?_append_left h] at hj
   rcases N.reach j u hj with h1 | ⟨i',v',a',h1,h2,h3,h4⟩
   ·exact Or.inl h1
   ·exact Or.inr ⟨i',v',a',h1,Ext.push ord t i' v' h2,h3,h4⟩
  ·have h2:=(List.getElem?_eq_some_iff.1 hj).1
   rw [List.length_append,List.length_singleton] at h2
   have e:j=ord.length:=by omega
   subst e
   rw [List.getElem?_append_right (Nat.le_refl _),Nat.sub_self] at hj
   injection hj with hj
   exact Or.inr ⟨i,v,a,(List.getElem?_eq_some_iff.1 hi).1,Ext.push ord t i v hi,ha,by rw [← hj,ht]⟩
structure RowAt (m:zaa) (c:List Int) (ord:List Nat) (v:Nat) (row out:List Int) (a:Nat):Prop where
 l1:row.length=a
 l2:out.length=a
 cell:∀ b,b<a→∃ j u:Nat,row[b]?=some (↑j:Int)∧ord[j]?=some u∧c[u]?=c[nx m v b]?∧out[b]?=some (ot m v b)
theorem RowAt.mono {v:Nat} {row out:List Int} {a:Nat} {ord':List Nat} (h:Ext ord ord') (R:RowAt m c ord v row out a):RowAt m c ord' v row out a :=
 ⟨R.l1,R.l2,fun b hb=>by
  obtain ⟨j,u,h1,h2,h3⟩:=R.cell b hb
  exact ⟨j,u,h1,h j u h2,h3⟩⟩
structure MinOk (m M:zaa) (c:List Int) (ord:List Nat) (num:List Int):Prop where
 cls:ClsOk m m.Next.length c
 num:Num m c ord num
 inp:M.Inputs=m.Inputs
 start:M.Start=0
 l1:M.Next.length=ord.length
 l2:M.Out.length=ord.length
 row:∀ i v:Nat,ord[i]?=some v→∃ row out,M.Next[i]?=some row∧M.Out[i]?=some out∧RowAt m c ord v row out m.Inputs.toNat
end
end Go.Proofs.YtcneaiejdidooaaGreat.Sym

/-
 What a machine reaches: the program's and the document's searches. Plain laws.
-/
namespace Go.Proofs.YtcneaiejdidooaaGreat.Sym
set_option maxRecDepth 100000
section
variable {m:zaa}
def mB (m:zaa) (s0 r:Nat):List (Nat×List Int):=bfsB (nx m) m.Inputs.toNat s0 r
abbrev MEnd (m:zaa) (s0:Nat) (L:List (Nat×List Int)):Prop:=BfsEnd (nx m) m.Inputs.toNat s0 L
theorem mB_rng (H:MacOk m) {s0:Nat} (hs:s0<m.Next.length):∀ (r:Nat),∀ x∈mB m s0 r,x.1<m.Next.length∧x.2.length≤r∧dest m s0 x.2=x.1∧WOk m.Inputs x.2
 | 0,x,hx=>by
  have:x=(s0,[]):=by simpa [mB,bfsB] using hx
  subst this
  exact ⟨hs,Nat.le_refl _,rfl,fun a ha=>by cases ha⟩
 | r+1,x,hx=>by
  have ih:=mB_rng H hs r
  have old:x∈mB m s0 r→x.1<m.Next.length∧x.2.length≤r+1∧dest m s0 x.2=x.1∧WOk m.Inputs x.2:=fun h=>by
   have:=ih x h
   exact ⟨this.1,by omega,this.2.2⟩
  unfold mB at hx
  rw [bfsB] at hx
  split at hx
  ·exact old hx
  ·rename_i y hy
   split at hx
   ·exact old hx
   ·rcases List.mem_append.1 hx with h | h
    ·exact old h
    ·have hK:0<m.Inputs.toNat:=by have:=H.i1;omega
     have hy':=ih y (List.mem_of_getElem? hy)
     have ha:=Nat.mod_lt r hK
     have hxe:x=(nx m y.1 (r%m.Inputs.toNat),y.2++[(↑(r%m.Inputs.toNat):Int)]):=by simpa using h
     subst hxe
     refine ⟨(H.at hy'.1 ha).1,by simp;omega,?_,?_⟩
     ·simp only
      rw [zck,hy'.2.2.1]
      show nx m y.1 (Int.toNat _)=_
      rw [Int.toNat_natCast]
     ·refine WOk.append hy'.2.2.2 fun a ha'=>?_
      have:a=(↑(r%m.Inputs.toNat):Int):=by simpa using ha'
      subst this
      omega
theorem mB_len (H:MacOk m) {s0:Nat} (hs:s0<m.Next.length) (r:Nat):(mB m s0 r).length≤m.Next.length:=by
 have:=nodup_le (ze2 (e:=nx m) (K:=m.Inputs.toNat) (s0:=s0) r) (l':=List.range m.Next.length) fun x hx=>by
  obtain ⟨y,hy,rfl⟩:=List.mem_map.1 hx
  exact List.mem_range.2 (mB_rng H hs r y hy).1
 rwa [List.length_map,List.length_range] at this
theorem mB_step {s0 i a:Nat} {x:Nat×List Int} (ha:a<m.Inputs.toNat) (hx:(mB m s0 (i*m.Inputs.toNat+a))[i]?=some x) :
  mB m s0 (i*m.Inputs.toNat+(a+1))=if nx m x.1 a∈(mB m s0 (i*m.Inputs.toNat+a)).map Prod.fst then mB m s0 (i*m.Inputs.toNat+a) else mB m s0 (i*m.Inputs.toNat+a)++[(nx m x.1 a,x.2++[(↑a:Int)])]:=bfs_step ha hx
theorem mB_next {s0 i:Nat}:mB m s0 (i*m.Inputs.toNat+m.Inputs.toNat)=mB m s0 ((i+1)*m.Inputs.toNat):=by rw [Nat.succ_mul]
theorem mB_get {s0 i r:Nat} {x:Nat×List Int} (hx:(mB m s0 (i*m.Inputs.toNat))[i]?=some x) (hr:i*m.Inputs.toNat≤r):(mB m s0 r)[i]?=some x:=pre_get (bfs_pre hr) hx
structure SeenOk (n:Nat) (y:List Bool) (l:List Nat):Prop where
 len:y.length=n
 at_:∀ t,t<n→y[t]?=some (decide (t∈l))
theorem SeenOk.push {n t:Nat} {y:List Bool} {l:List Nat} (S:SeenOk n y l) (ht:t<n):SeenOk n (y.set t true) (l++[t]):=by
 refine ⟨by simp [S.len],fun u hu=>?_⟩
 by_cases h:t=u
 ·subst h
  rw [List.getElem?_set_self (by rw [S.len];exact ht)]
  simp
 ·rw [List.getElem?_set_ne h,S.at_ u hu]
  congr 1
  apply decide_eq_decide.2
  rw [List.mem_append]
  constructor
  ·exact Or.inl
  ·rintro (q | q)
   ·exact q
   ·exact absurd (by simpa using q:u=t).symm h
theorem seen_nil (n:Nat):SeenOk n (List.replicate n false) []:=⟨by simp,fun t ht=>by simp [ht]⟩
theorem zgr (hv:validM m=0):∃ L,MEnd m m.Start.toNat L∧za6 m=some (natI (L.map Prod.fst)):=by
 have H:=valid_ok hv
 have hst:=H.st
 have hn:=H.n2
 have hs:m.Start.toNat<m.Next.length:=by omega
 have inner:∀ (i:Nat) (x:Nat×List Int) (row:List Int) (y:List Bool),(mB m m.Start.toNat (i*m.Inputs.toNat))[i]?=some x→m.Next[x.1]?=some row→SeenOk m.Next.length y ((mB m m.Start.toNat (i*m.Inputs.toNat)).map Prod.fst) →
   ∃ y',iter (fun (s:List Bool×List Int×Nat)=>za6.s18 row s.1 s.2.1 s.2.2) fuel (y,natI ((mB m m.Start.toNat (i*m.Inputs.toNat)).map Prod.fst),0)=some (y',natI ((mB m m.Start.toNat ((i+1)*m.Inputs.toNat)).map Prod.fst))∧SeenOk m.Next.length y' ((mB m m.Start.toNat ((i+1)*m.Inputs.toNat)).map Prod.fst):=by
  intro i x row y hx hrow S
  have hxs:=(mB_rng H hs _ x (List.mem_of_getElem? hx)).1
  have hrl:row.length=m.Inputs.toNat:=by
   obtain ⟨x',y',h1,_,h3,_⟩:=H.row x.1 hxs
   rw [hrow] at h1
   injection h1 with h1
   subst h1
   omega
  obtain ⟨r,hr,y',rfl,hq⟩:=za4 (step:=fun (s:List Bool×List Int×Nat)=>za6.s18 row s.1 s.2.1 s.2.2) (fun s=>s.2.2≤m.Inputs.toNat∧s.2.1=natI ((mB m m.Start.toNat (i*m.Inputs.toNat+s.2.2)).map Prod.fst)∧SeenOk m.Next.length s.1 ((mB m m.Start.toNat (i*m.Inputs.toNat+s.2.2)).map Prod.fst)) (fun s=>m.Inputs.toNat-s.2.2) (fun r=>∃ y',r=(y',natI ((mB m m.Start.toNat ((i+1)*m.Inputs.toNat)).map Prod.fst))∧SeenOk m.Next.length y' ((mB m m.Start.toNat ((i+1)*m.Inputs.toNat)).map Prod.fst)) (fun s ⟨q1,q2,q3⟩=>by
   obtain ⟨y,l,a⟩:=s
   simp only at q1 q2 q3
   subst q2
   simp only [za6.s18]
   by_cases g:a<m.Inputs.toNat
   ·left
    have hxa:=mB_get hx (r:=i*m.Inputs.toNat+a) (by omega)
    obtain ⟨h1,_,_,x',y',h2,_,h4,_⟩:=H.at hxs g
    rw [hrow] at h2
    injection h2 with h2
    subst h2
    have hlen:=mB_len H hs (i*m.Inputs.toNat+a)
    have hstep:=mB_step g hxa
    rw [decide_eq_true (by omega),cond_true,idxn_at h4,idx_at rfl (q3.at_ _ h1)]
    by_cases hm:nx m x.1 a∈(mB m m.Start.toNat (i*m.Inputs.toNat+a)).map Prod.fst
    ·rw [if_pos hm] at hstep
     refine ⟨(y,natI ((mB m m.Start.toNat (i*m.Inputs.toNat+a)).map Prod.fst),a+1),by rw [decide_eq_true hm];rfl,⟨g,by simp only;rw [hstep],by simp only;rw [hstep];exact q3⟩,by simp only;omega⟩
    ·rw [if_neg hm] at hstep
     refine ⟨(y.set (nx m x.1 a) true,natI ((mB m m.Start.toNat (i*m.Inputs.toNat+a)).map Prod.fst++[nx m x.1 a]),a+1),?_,⟨g,by simp only;rw [hstep,List.map_append];rfl,by simp only;rw [hstep,List.map_append];exact q3.push h1⟩,by simp only;omega⟩
     rw [decide_eq_false hm,Bool.not_false,cond_true,idx_at rfl (q3.at_ _ h1),chk_pos (by unfold capOk;rw [natI_len,List.length_map];omega),zkz,Int.toNat_natCast]
   ·right
    have e':a=m.Inputs.toNat:=by omega
    subst e'
    rw [mB_next] at q3 ⊢
    exact ⟨_,by rw [decide_eq_false (by omega),cond_false],_,rfl,q3⟩) fuel (y,natI ((mB m m.Start.toNat (i*m.Inputs.toNat)).map Prod.fst),0) ⟨Nat.zero_le _,rfl,S⟩ (by have:=fuel_big;have:=H.i2;simp only;omega)
  exact ⟨y',hr,hq⟩
 unfold za6
 rw [za5,obind,hv,decide_eq_false (by decide),cond_false,chk_pos ⟨by omega,by omega,by unfold capOk;omega⟩,idx_at (i:=m.Start.toNat) (x:=false) (by omega) (by rw [List.getElem?_replicate,if_pos hs])]
 obtain ⟨r,hr,L,hL,rfl⟩:=za4 (step:=fun (s:List Bool×List Int×Nat)=>za6.s20 m s.1 s.2.1 s.2.2) (fun s=>s.2.2≤(mB m m.Start.toNat (s.2.2*m.Inputs.toNat)).length∧s.2.1=natI ((mB m m.Start.toNat (s.2.2*m.Inputs.toNat)).map Prod.fst)∧SeenOk m.Next.length s.1 ((mB m m.Start.toNat (s.2.2*m.Inputs.toNat)).map Prod.fst)) (fun s=>m.Next.length+1-s.2.2) (fun r=>∃ L,MEnd m m.Start.toNat L∧r=natI (L.map Prod.fst)) (fun s ⟨q1,q2,q3⟩=>by
  obtain ⟨y,l,i⟩:=s
  simp only at q1 q2 q3
  subst q2
  simp only [za6.s20]
  have hlen:=mB_len H hs (i*m.Inputs.toNat)
  by_cases g:i<(mB m m.Start.toNat (i*m.Inputs.toNat)).length
  ·left
   have hx:=get_at g
   generalize (mB m m.Start.toNat (i*m.Inputs.toNat))[i]=x at hx
   have hxs:=(mB_rng H hs _ x (List.mem_of_getElem? hx)).1
   have hrow:=get_at hxs
   obtain ⟨y',h1,h2⟩:=inner i x _ y hx hrow q3
   have hmono:=(bfs_pre (e:=nx m) (K:=m.Inputs.toNat) (s0:=m.Start.toNat) (show i*m.Inputs.toNat≤(i+1)*m.Inputs.toNat by rw [Nat.succ_mul];omega)).length_le
   refine ⟨(y',natI ((mB m m.Start.toNat ((i+1)*m.Inputs.toNat)).map Prod.fst),i+1),?_,⟨by simp only;unfold mB at g ⊢;omega,rfl,h2⟩,by simp only;omega⟩
   rw [decide_eq_true (by rw [natI_len,List.length_map];omega),cond_true,idxn_at (natI_at (i:=i) (u:=x.1) (by rw [List.getElem?_map,hx];rfl)),idx_at rfl hrow,h1,obind]
   rfl
  ·right
   refine ⟨_,by rw [decide_eq_false (by rw [natI_len,List.length_map];omega),cond_false],mB m m.Start.toNat (i*m.Inputs.toNat),⟨?_⟩,rfl⟩
   rw [show (mB m m.Start.toNat (i*m.Inputs.toNat)).length=i by omega]
   rfl) fuel ((List.replicate m.Next.length false).set m.Start.toNat true,[m.Start],0) ⟨Nat.zero_le _,by simp only;rw [Nat.zero_mul];simp [mB,bfsB,natI];omega,by
    simp only
    rw [Nat.zero_mul]
    exact (seen_nil m.Next.length).push hs⟩ (by have:=fuel_big;simp only;omega)
 exact ⟨L,hL,by rw [hr,obind]⟩
end
end Go.Proofs.YtcneaiejdidooaaGreat.Sym

/-
 Access words: the program's and the document's. Plain laws.
-/
namespace Go.Proofs.YtcneaiejdidooaaGreat.Sym
set_option maxRecDepth 100000
section
variable {m:zaa}
def placeC (x:Nat×List Int):zap:=⟨(↑x.1:Int),x.2⟩
theorem zj1 {l:List (Nat×List Int)} {i:Nat} {x:Nat×List Int} (h:l[i]?=some x):(l.map placeC)[i]?=some (placeC x):=by rw [List.getElem?_map,h];rfl
theorem zkf (H:MacOk m) {s0:Nat} (hs:s0<m.Next.length):∃ L,MEnd m s0 L∧za1 m (↑s0:Int)=some (L.map placeC):=by
 have hn:=H.n2
 have hI:=H.i2
 have inner:∀ (i:Nat) (x:Nat×List Int) (row:List Int) (y:List Bool),i≤m.Next.length→(mB m s0 (i*m.Inputs.toNat))[i]?=some x→m.Next[x.1]?=some row→SeenOk m.Next.length y ((mB m s0 (i*m.Inputs.toNat)).map Prod.fst) →
   ∃ y',iter (fun (s:List Bool×List zap×Nat)=>za1.s18 i row s.1 s.2.1 s.2.2) fuel (y,(mB m s0 (i*m.Inputs.toNat)).map placeC,0)=some (y',(mB m s0 ((i+1)*m.Inputs.toNat)).map placeC)∧SeenOk m.Next.length y' ((mB m s0 ((i+1)*m.Inputs.toNat)).map Prod.fst):=by
  intro i x row y hin hx hrow S
  have hxs:=(mB_rng H hs _ x (List.mem_of_getElem? hx)).1
  have hxl:=(mB_rng H hs _ x (List.mem_of_getElem? hx)).2.1
  have hiK:i*m.Inputs.toNat≤128*64:=Nat.mul_le_mul (by omega) (by omega)
  have hrl:row.length=m.Inputs.toNat:=by
   obtain ⟨x',y',h1,_,h3,_⟩:=H.row x.1 hxs
   rw [hrow] at h1
   injection h1 with h1
   subst h1
   omega
  obtain ⟨r,hr,y',rfl,hq⟩:=za4 (step:=fun (s:List Bool×List zap×Nat)=>za1.s18 i row s.1 s.2.1 s.2.2) (fun s=>s.2.2≤m.Inputs.toNat∧s.2.1=(mB m s0 (i*m.Inputs.toNat+s.2.2)).map placeC∧SeenOk m.Next.length s.1 ((mB m s0 (i*m.Inputs.toNat+s.2.2)).map Prod.fst)) (fun s=>m.Inputs.toNat-s.2.2) (fun r=>∃ y',r=(y',(mB m s0 ((i+1)*m.Inputs.toNat)).map placeC)∧SeenOk m.Next.length y' ((mB m s0 ((i+1)*m.Inputs.toNat)).map Prod.fst)) (fun s ⟨q1,q2,q3⟩=>by
   obtain ⟨y,l,a⟩:=s
   simp only at q1 q2 q3
   subst q2
   simp only [za1.s18]
   by_cases g:a<m.Inputs.toNat
   ·left
    have hxa:=mB_get hx (r:=i*m.Inputs.toNat+a) (by omega)
    obtain ⟨h1,_,_,x',y',h2,_,h4,_⟩:=H.at hxs g
    rw [hrow] at h2
    injection h2 with h2
    subst h2
    have hlen:=mB_len H hs (i*m.Inputs.toNat+a)
    have hstep:=mB_step g hxa
    rw [decide_eq_true (by omega),cond_true,idxn_at h4,idx_at rfl (q3.at_ _ h1)]
    by_cases hm:nx m x.1 a∈(mB m s0 (i*m.Inputs.toNat+a)).map Prod.fst
    ·rw [if_pos hm] at hstep
     refine ⟨(y,(mB m s0 (i*m.Inputs.toNat+a)).map placeC,a+1),by rw [decide_eq_true hm];rfl,⟨g,by simp only;rw [hstep],by simp only;rw [hstep];exact q3⟩,by simp only;omega⟩
    ·rw [if_neg hm] at hstep
     refine ⟨(y.set (nx m x.1 a) true,(mB m s0 (i*m.Inputs.toNat+a)).map placeC++[placeC (nx m x.1 a,x.2++[(↑a:Int)])],a+1),?_,⟨g,by simp only;rw [hstep,List.map_append];rfl,by simp only;rw [hstep,List.map_append];exact q3.push h1⟩,by simp only;omega⟩
     rw [decide_eq_false hm,Bool.not_false,cond_true,idx_at rfl (q3.at_ _ h1),idxn_at (zj1 hxa)]
     show (zcq [x.2,[(↑a:Int)]]).bind _=_
     rw [zdr _ (by simp) (by simp;omega),obind,chk_pos (by unfold capOk;rw [List.length_map];omega),Int.toNat_natCast]
     simp [placeC]
   ·right
    have e':a=m.Inputs.toNat:=by omega
    subst e'
    rw [mB_next] at q3 ⊢
    exact ⟨_,by rw [decide_eq_false (by omega),cond_false],_,rfl,q3⟩) fuel (y,(mB m s0 (i*m.Inputs.toNat)).map placeC,0) ⟨Nat.zero_le _,rfl,S⟩ (by have:=fuel_big;have:=H.i2;simp only;omega)
  exact ⟨y',hr,hq⟩
 unfold za1
 rw [chk_pos ⟨by omega,by omega,by unfold capOk;omega⟩,idx_at (i:=s0) (x:=false) rfl (by rw [List.getElem?_replicate,if_pos hs])]
 obtain ⟨r,hr,L,hL,rfl⟩:=za4 (step:=fun (s:List Bool×List zap×Nat)=>za1.s20 m s.1 s.2.1 s.2.2) (fun s=>s.2.2≤(mB m s0 (s.2.2*m.Inputs.toNat)).length∧s.2.1=(mB m s0 (s.2.2*m.Inputs.toNat)).map placeC∧SeenOk m.Next.length s.1 ((mB m s0 (s.2.2*m.Inputs.toNat)).map Prod.fst)) (fun s=>m.Next.length+1-s.2.2) (fun r=>∃ L,MEnd m s0 L∧r=L.map placeC) (fun s ⟨q1,q2,q3⟩=>by
  obtain ⟨y,l,i⟩:=s
  simp only at q1 q2 q3
  subst q2
  simp only [za1.s20]
  have hlen:=mB_len H hs (i*m.Inputs.toNat)
  by_cases g:i<(mB m s0 (i*m.Inputs.toNat)).length
  ·left
   have hx:=get_at g
   generalize (mB m s0 (i*m.Inputs.toNat))[i]=x at hx
   have hxs:=(mB_rng H hs _ x (List.mem_of_getElem? hx)).1
   have hrow:=get_at hxs
   obtain ⟨y',h1,h2⟩:=inner i x _ y (by omega) hx hrow q3
   have hmono:=(bfs_pre (e:=nx m) (K:=m.Inputs.toNat) (s0:=s0) (show i*m.Inputs.toNat≤(i+1)*m.Inputs.toNat by rw [Nat.succ_mul];omega)).length_le
   refine ⟨(y',(mB m s0 ((i+1)*m.Inputs.toNat)).map placeC,i+1),?_,⟨by simp only;unfold mB at g ⊢;omega,rfl,h2⟩,by simp only;omega⟩
   rw [decide_eq_true (by rw [List.length_map];omega),cond_true,idxn_at (zj1 hx),idx_at (n:=(placeC x).state) (i:=x.1) rfl hrow,h1,obind]
   rfl
  ·right
   refine ⟨_,by rw [decide_eq_false (by rw [List.length_map];omega),cond_false],mB m s0 (i*m.Inputs.toNat),⟨?_⟩,rfl⟩
   rw [show (mB m s0 (i*m.Inputs.toNat)).length=i by omega]
   rfl) fuel ((List.replicate m.Next.length false).set s0 true,[(⟨(↑s0:Int),[]⟩:zap)],0) ⟨Nat.zero_le _,by simp only;rw [Nat.zero_mul];simp [mB,bfsB,placeC],by
    simp only
    rw [Nat.zero_mul]
    exact (seen_nil m.Next.length).push hs⟩ (by have:=fuel_big;simp only;omega)
 exact ⟨L,hL,by rw [Int.toNat_natCast,hr,obind]⟩
theorem zkv (hv:validM m=0):∃ L,MEnd m m.Start.toNat L∧zbk m=some (natI (L.map Prod.fst),L.map Prod.snd,0):=by
 have H:=valid_ok hv
 have hst:=H.st
 obtain ⟨L,hL,he⟩:=zkf H (s0:=m.Start.toNat) (by omega)
 rw [show (↑m.Start.toNat:Int)=m.Start by omega] at he
 have hlen:L.length≤m.Next.length:=by
  rw [hL.eq]
  exact mB_len H (by omega) _
 have hn:=H.n2
 refine ⟨L,hL,?_⟩
 unfold zbk
 rw [za5,obind,hv,decide_eq_false (by decide),cond_false,he,obind]
 have key:=iter_eq (step:=fun (s:List Int×List (List Int)×Nat)=>zbk.s2 (L.map placeC) s.1 s.2.1 s.2.2) (r:=(natI (L.map Prod.fst),L.map Prod.snd)) (fun s=>s.2.2≤L.length∧s.1=natI ((L.take s.2.2).map Prod.fst)∧s.2.1=(L.take s.2.2).map Prod.snd) (fun s=>L.length-s.2.2) (fun s ⟨q1,q2,q3⟩=>by
  obtain ⟨a,b,i⟩:=s
  simp only at q1 q2 q3
  subst q2
  subst q3
  simp only [zbk.s2]
  by_cases g:i<L.length
  ·left
   have hx:=get_at g
   refine ⟨(natI ((L.take (i+1)).map Prod.fst),(L.take (i+1)).map Prod.snd,i+1),?_,⟨g,rfl,rfl⟩,by simp only;omega⟩
   rw [decide_eq_true (by rw [List.length_map];omega),cond_true,idxn_at (zj1 hx),chk_pos (by unfold capOk;rw [natI_len,List.length_map,List.length_take];omega),chk_pos (by unfold capOk;rw [List.length_map,List.length_take];omega),zbz hx,List.map_append,List.map_append]
   simp [natI,placeC]
  ·right
   have:i=L.length:=by omega
   subst this
   rw [decide_eq_false (by rw [List.length_map];omega),cond_false,List.take_length]) (n:=fuel) (s:=([],[],0)) ⟨Nat.zero_le _,rfl,rfl⟩ (by have:=fuel_big;simp only;omega)
 rw [key,obind]
 rfl
theorem R10_has_eq {l:List Int} {t:Int} (hl:l.length≤1000000):R10_has l t=some (decide (t∈l)):=by
 unfold R10_has
 rw [zcz (l:=l) (fun _ u=>if u=t then some true else none) (fun i u hu=>?_) ?_ (by omega),obind]
 ·by_cases h:t∈l
  ·rw [decide_eq_true h]
   cases e:scan (fun _ u=>if u=t then some true else none) 0 l with
   | some r =>
    obtain ⟨i,u,_,h2⟩:=scan_mem e
    split at h2
    ·injection h2 with h2
     subst h2
     rfl
    ·cases h2
   | none =>
    obtain ⟨i,hi,hit⟩:=List.mem_iff_getElem.1 h
    have:=zds.1 e i _ (get_at hi)
    rw [if_pos hit] at this
    cases this
  ·rw [decide_eq_false h,zds.2 fun i u hu=>if_neg fun q=>h (by rw [← q];exact List.mem_of_getElem? hu)]
   rfl
 ·simp only [R10_has.s2]
  rw [decide_eq_false (by omega),cond_false]
 ·have hi:=(List.getElem?_eq_some_iff.1 hu).1
  simp only [R10_has.s2]
  rw [decide_eq_true (by omega),cond_true,idxn_at hu]
  by_cases e:u=t
  ·rw [decide_eq_true e,cond_true,if_pos e]
  ·rw [decide_eq_false e,cond_false,if_neg e]
theorem mem_natI {l:List Nat} {t:Nat}:(↑t:Int)∈natI l↔t∈l:=by
 unfold natI
 rw [List.mem_map]
 constructor
 ·rintro ⟨u,hu,he⟩
  have:u=t:=by omega
  rw [← this]
  exact hu
 ·exact fun h=>⟨t,h,rfl⟩
theorem R10_Access_eq (hv:validM m=0):∃ L,MEnd m m.Start.toNat L∧za8 m=some (natI (L.map Prod.fst),L.map Prod.snd,0):=by
 have H:=valid_ok hv
 have hst:=H.st
 have hn:=H.n2
 have hI:=H.i2
 have hs:m.Start.toNat<m.Next.length:=by omega
 have inner:∀ (i:Nat) (x:Nat×List Int),i≤m.Next.length→(mB m m.Start.toNat (i*m.Inputs.toNat))[i]?=some x →
   iter (fun (s:List Int×List (List Int)×Nat)=>za8.s18 m i s.1 s.2.1 s.2.2) fuel (natI ((mB m m.Start.toNat (i*m.Inputs.toNat)).map Prod.fst),(mB m m.Start.toNat (i*m.Inputs.toNat)).map Prod.snd,0)=some (natI ((mB m m.Start.toNat ((i+1)*m.Inputs.toNat)).map Prod.fst),(mB m m.Start.toNat ((i+1)*m.Inputs.toNat)).map Prod.snd):=by
  intro i x hin hx
  have hxs:=(mB_rng H hs _ x (List.mem_of_getElem? hx)).1
  have hxl:=(mB_rng H hs _ x (List.mem_of_getElem? hx)).2.1
  have hiK:i*m.Inputs.toNat≤128*64:=Nat.mul_le_mul (by omega) (by omega)
  exact iter_eq (step:=fun (s:List Int×List (List Int)×Nat)=>za8.s18 m i s.1 s.2.1 s.2.2) (fun s=>s.2.2≤m.Inputs.toNat∧s.1=natI ((mB m m.Start.toNat (i*m.Inputs.toNat+s.2.2)).map Prod.fst)∧s.2.1=(mB m m.Start.toNat (i*m.Inputs.toNat+s.2.2)).map Prod.snd) (fun s=>m.Inputs.toNat-s.2.2) (fun s ⟨q1,q2,q3⟩=>by
   obtain ⟨l,w,a⟩:=s
   simp only at q1 q2 q3
   subst q2
   subst q3
   simp only [za8.s18]
   by_cases g:a<m.Inputs.toNat
   ·left
    have hxa:=mB_get hx (r:=i*m.Inputs.toNat+a) (by omega)
    obtain ⟨h1,_,_,x',y',h2,_,h4,_⟩:=H.at hxs g
    have hlen:=mB_len H hs (i*m.Inputs.toNat+a)
    have hstep:=mB_step g hxa
    rw [decide_eq_true (by omega),cond_true,idxn_at (natI_at (i:=i) (u:=x.1) (by rw [List.getElem?_map,hxa];rfl)),idx_at rfl h2,idxn_at h4,R10_has_eq (by rw [natI_len,List.length_map];omega),obind]
    by_cases hm:nx m x.1 a∈(mB m m.Start.toNat (i*m.Inputs.toNat+a)).map Prod.fst
    ·rw [if_pos hm] at hstep
     refine ⟨(natI ((mB m m.Start.toNat (i*m.Inputs.toNat+a)).map Prod.fst),(mB m m.Start.toNat (i*m.Inputs.toNat+a)).map Prod.snd,a+1),?_,⟨g,by simp only;rw [hstep],by simp only;rw [hstep]⟩,by simp only;omega⟩
     rw [decide_eq_true (mem_natI.2 hm),Bool.not_true,cond_false,chk_pos (by unfold inR;omega)]
    ·rw [if_neg hm] at hstep
     refine ⟨(natI ((mB m m.Start.toNat (i*m.Inputs.toNat+a)).map Prod.fst++[nx m x.1 a]),(mB m m.Start.toNat (i*m.Inputs.toNat+a)).map Prod.snd++[x.2++[(↑a:Int)]],a+1),?_,⟨g,by simp only;rw [hstep,List.map_append];rfl,by simp only;rw [hstep,List.map_append];rfl⟩,by simp only;omega⟩
     rw [decide_eq_false (fun q=>hm (mem_natI.1 q)),Bool.not_false,cond_true,chk_pos (by unfold capOk;rw [natI_len,List.length_map];omega),idxn_at (x:=x.2) (by rw [List.getElem?_map,hxa];rfl)]
     unfold zc0
     rw [chk_pos (by unfold capOk;omega),chk_pos (by unfold capOk;omega),obind,chk_pos (by unfold capOk;rw [List.length_map];omega),chk_pos (by unfold inR;omega),zkz]
   ·right
    have e':a=m.Inputs.toNat:=by omega
    subst e'
    rw [mB_next,decide_eq_false (by omega),cond_false]) (n:=fuel) ⟨Nat.zero_le _,rfl,rfl⟩ (by have:=fuel_big;simp only;omega)
 unfold za8
 rw [zcg,obind,hv,decide_eq_false (by decide),cond_false]
 obtain ⟨r,hr,L,hL,rfl⟩:=za4 (step:=fun (s:List Int×List (List Int)×Nat)=>za8.s20 m s.1 s.2.1 s.2.2) (fun s=>s.2.2≤(mB m m.Start.toNat (s.2.2*m.Inputs.toNat)).length∧s.1=natI ((mB m m.Start.toNat (s.2.2*m.Inputs.toNat)).map Prod.fst)∧s.2.1=(mB m m.Start.toNat (s.2.2*m.Inputs.toNat)).map Prod.snd) (fun s=>m.Next.length+1-s.2.2) (fun r=>∃ L,MEnd m m.Start.toNat L∧r=(natI (L.map Prod.fst),L.map Prod.snd)) (fun s ⟨q1,q2,q3⟩=>by
  obtain ⟨l,w,i⟩:=s
  simp only at q1 q2 q3
  subst q2
  subst q3
  simp only [za8.s20]
  have hlen:=mB_len H hs (i*m.Inputs.toNat)
  by_cases g:i<(mB m m.Start.toNat (i*m.Inputs.toNat)).length
  ·left
   have hx:=get_at g
   have h1:=inner i _ (by omega) hx
   have hmono:=(bfs_pre (e:=nx m) (K:=m.Inputs.toNat) (s0:=m.Start.toNat) (show i*m.Inputs.toNat≤(i+1)*m.Inputs.toNat by rw [Nat.succ_mul];omega)).length_le
   refine ⟨(natI ((mB m m.Start.toNat ((i+1)*m.Inputs.toNat)).map Prod.fst),(mB m m.Start.toNat ((i+1)*m.Inputs.toNat)).map Prod.snd,i+1),?_,⟨by simp only;unfold mB at g ⊢;omega,rfl,rfl⟩,by simp only;omega⟩
   rw [decide_eq_true (by rw [natI_len,List.length_map];omega),cond_true,h1,obind]
   rfl
  ·right
   refine ⟨_,by rw [decide_eq_false (by rw [natI_len,List.length_map];omega),cond_false],mB m m.Start.toNat (i*m.Inputs.toNat),⟨?_⟩,rfl⟩
   rw [show (mB m m.Start.toNat (i*m.Inputs.toNat)).length=i by omega]
   rfl) fuel ([m.Start],[[]],0) ⟨Nat.zero_le _,by simp only;rw [Nat.zero_mul];simp [mB,bfsB,natI];omega,by simp only;rw [Nat.zero_mul];simp [mB,bfsB]⟩ (by have:=fuel_big;simp only;omega)
 exact ⟨L,hL,by rw [hr,obind];rfl⟩
end
end Go.Proofs.YtcneaiejdidooaaGreat.Sym

/-
 The first word that has different outputs: the program's and the document's. Plain laws.
-/
namespace Go.Proofs.YtcneaiejdidooaaGreat.Sym
set_option maxRecDepth 100000
theorem bfs_stay {A:Type} [DecidableEq A] {e:A→Nat→A} {K:Nat} {s0:A} {L:List (A×List Int)} (h:BfsEnd e K s0 L) (hK:0<K):∀ d,bfsB e K s0 (L.length*K+d)=L
 | 0=>h.eq.symm
 | d+1=>by
  have ih:=bfs_stay h hK d
  show bfsB e K s0 (L.length*K+d+1)=L
  rw [bfsB,ih,List.getElem?_eq_none ?_]
  have h1:(L.length*K) / K≤(L.length*K+d) / K:=Nat.div_le_div_right (by omega)
  rw [Nat.mul_div_cancel _ hK] at h1
  exact h1
section
variable {a b:zaa}
def pE (a b:zaa) (p:Nat×Nat) (x:Nat):Nat×Nat:=(nx a p.1 x,nx b p.2 x)
def pB (a b:zaa) (p0:Nat×Nat) (r:Nat):List ((Nat×Nat)×List Int):=bfsB (pE a b) a.Inputs.toNat p0 r
abbrev PEnd (a b:zaa) (p0:Nat×Nat) (L:List ((Nat×Nat)×List Int)):Prop:=BfsEnd (pE a b) a.Inputs.toNat p0 L
def difB (a b:zaa) (p0:Nat×Nat) (r:Nat):Bool:=match (pB a b p0 r)[r / a.Inputs.toNat]? with
 | some x=>decide (ot a x.1.1 (r%a.Inputs.toNat)≠ot b x.1.2 (r%a.Inputs.toNat))
 | none=>false
theorem difB_at {p0:Nat×Nat} {i c:Nat} {x:(Nat×Nat)×List Int} (hc:c<a.Inputs.toNat) (hx:(pB a b p0 (i*a.Inputs.toNat+c))[i]?=some x):difB a b p0 (i*a.Inputs.toNat+c)=decide (ot a x.1.1 c≠ot b x.1.2 c):=by
 unfold difB
 rw [dm_div hc,hx,dm_mod hc]
structure Two (a b:zaa):Prop where
 a1:MacOk a
 b1:MacOk b
 inp:a.Inputs=b.Inputs
theorem pB_rng (T:Two a b) {p0:Nat×Nat} (h1:p0.1<a.Next.length) (h2:p0.2<b.Next.length):∀ (r:Nat),∀ x∈pB a b p0 r,x.1.1<a.Next.length∧x.1.2<b.Next.length∧x.2.length≤r∧dest a p0.1 x.2=x.1.1∧dest b p0.2 x.2=x.1.2∧WOk a.Inputs x.2
 | 0,x,hx=>by
  have:x=(p0,[]):=by simpa [pB,bfsB] using hx
  subst this
  exact ⟨h1,h2,Nat.le_refl _,rfl,rfl,fun a ha=>by cases ha⟩
 | r+1,x,hx=>by
  have ih:=pB_rng T h1 h2 r
  have old:x∈pB a b p0 r→x.1.1<a.Next.length∧x.1.2<b.Next.length∧x.2.length≤r+1∧dest a p0.1 x.2=x.1.1∧dest b p0.2 x.2=x.1.2∧WOk a.Inputs x.2:=fun h=>by
   have:=ih x h
   exact ⟨this.1,this.2.1,by omega,this.2.2.2⟩
  unfold pB at hx
  rw [bfsB] at hx
  split at hx
  ·exact old hx
  ·rename_i y hy
   split at hx
   ·exact old hx
   ·rcases List.mem_append.1 hx with h | h
    ·exact old h
    ·have hK:0<a.Inputs.toNat:=by have:=T.a1.i1;omega
     have hy':=ih y (List.mem_of_getElem? hy)
     have ha:=Nat.mod_lt r hK
     have hxe:x=(pE a b y.1 (r%a.Inputs.toNat),y.2++[(↑(r%a.Inputs.toNat):Int)]):=by simpa using h
     subst hxe
     refine ⟨(T.a1.at hy'.1 ha).1,(T.b1.at hy'.2.1 (by rw [← T.inp];exact ha)).1,by simp;omega,?_,?_,?_⟩
     ·simp only
      rw [zck,hy'.2.2.2.1]
      show nx a y.1.1 (Int.toNat _)=_
      rw [Int.toNat_natCast]
      rfl
     ·simp only
      rw [zck,hy'.2.2.2.2.1]
      show nx b y.1.2 (Int.toNat _)=_
      rw [Int.toNat_natCast]
      rfl
     ·refine WOk.append hy'.2.2.2.2.2 fun z ha'=>?_
      have:z=(↑(r%a.Inputs.toNat):Int):=by simpa using ha'
      subst this
      omega
theorem pB_len (T:Two a b) {p0:Nat×Nat} (h1:p0.1<a.Next.length) (h2:p0.2<b.Next.length) (r:Nat):(pB a b p0 r).length≤a.Next.length*b.Next.length:=by
 have hn:=ze2 (e:=pE a b) (K:=a.Inputs.toNat) (s0:=p0) r
 have:=nodup_le (l:=(((pB a b p0 r).map Prod.fst).map fun p=>p.1*b.Next.length+p.2)) (l':=List.range (a.Next.length*b.Next.length)) ?_ fun x hx=>?_
 ·rwa [List.length_map,List.length_map,List.length_range] at this
 ·refine List.Pairwise.map _ (R:=fun p q=>p∈(pB a b p0 r).map Prod.fst∧q∈(pB a b p0 r).map Prod.fst∧p≠q) (fun p q ⟨hp,hq,hne⟩ he=>?_) (List.Pairwise.imp_of_mem (fun {p q} hp hq hne=>⟨hp,hq,hne⟩) hn)
  obtain ⟨x,hx,rfl⟩:=List.mem_map.1 hp
  obtain ⟨y,hy,rfl⟩:=List.mem_map.1 hq
  have hx2:=(pB_rng T h1 h2 r x hx).2.1
  have hy2:=(pB_rng T h1 h2 r y hy).2.1
  have he:x.1.1*b.Next.length+x.1.2=y.1.1*b.Next.length+y.1.2:=he
  have e1:=dm_div (i:=x.1.1) hx2
  have e2:=dm_div (i:=y.1.1) hy2
  have e3:=dm_mod (i:=x.1.1) hx2
  have e4:=dm_mod (i:=y.1.1) hy2
  rw [he] at e1 e3
  exact hne (Prod.ext (by rw [← e1,e2]) (by rw [← e3,e4]))
 ·obtain ⟨p,hp,rfl⟩:=List.mem_map.1 hx
  obtain ⟨y,hy,rfl⟩:=List.mem_map.1 hp
  exact List.mem_range.2 (mem_lt (pB_rng T h1 h2 r y hy).1 (pB_rng T h1 h2 r y hy).2.1)
theorem pB_step {p0:Nat×Nat} {i c:Nat} {x:(Nat×Nat)×List Int} (hc:c<a.Inputs.toNat) (hx:(pB a b p0 (i*a.Inputs.toNat+c))[i]?=some x) :
  pB a b p0 (i*a.Inputs.toNat+(c+1))=if pE a b x.1 c∈(pB a b p0 (i*a.Inputs.toNat+c)).map Prod.fst then pB a b p0 (i*a.Inputs.toNat+c) else pB a b p0 (i*a.Inputs.toNat+c)++[(pE a b x.1 c,x.2++[(↑c:Int)])]:=by
 have h:=bfs_step (e:=pE a b) (s0:=p0) hc hx
 by_cases g:pE a b x.1 c∈(pB a b p0 (i*a.Inputs.toNat+c)).map Prod.fst
 ·rw [if_pos g]
  exact h.trans (if_pos g)
 ·rw [if_neg g]
  exact h.trans (if_neg g)
theorem pB_next {p0:Nat×Nat} {i:Nat}:pB a b p0 (i*a.Inputs.toNat+a.Inputs.toNat)=pB a b p0 ((i+1)*a.Inputs.toNat):=by rw [Nat.succ_mul]
theorem pB_get {p0:Nat×Nat} {i r:Nat} {x:(Nat×Nat)×List Int} (hx:(pB a b p0 (i*a.Inputs.toNat))[i]?=some x) (hr:i*a.Inputs.toNat≤r):(pB a b p0 r)[i]?=some x:=pre_get (bfs_pre hr) hx
def Fst (a b:zaa) (p0:Nat×Nat) (res:List Int×Bool):Prop :=
 (∃ i c x,c<a.Inputs.toNat∧(pB a b p0 (i*a.Inputs.toNat+c))[i]?=some x∧ot a x.1.1 c≠ot b x.1.2 c∧(∀ r,r<i*a.Inputs.toNat+c→difB a b p0 r=false)∧res=(x.2++[(↑c:Int)],true)) ∨
 (∃ L,PEnd a b p0 L∧(∀ r,r<L.length*a.Inputs.toNat→difB a b p0 r=false)∧res=([],false))
theorem fst_uniq (hK:0<a.Inputs.toNat) {p0:Nat×Nat} {u v:List Int×Bool} (hu:Fst a b p0 u) (hv:Fst a b p0 v):u=v:=by
 have cross:∀ {u v:List Int×Bool},(∃ i c x,c<a.Inputs.toNat∧(pB a b p0 (i*a.Inputs.toNat+c))[i]?=some x∧ot a x.1.1 c≠ot b x.1.2 c∧(∀ r,r<i*a.Inputs.toNat+c→difB a b p0 r=false)∧u=(x.2++[(↑c:Int)],true))→(∃ L,PEnd a b p0 L∧(∀ r,r<L.length*a.Inputs.toNat→difB a b p0 r=false)∧v=([],false))→False:=by
  rintro u v ⟨i,c,x,h1,h2,h3,h4,_⟩ ⟨L,h6,h7,_⟩
  rcases Nat.lt_or_ge (i*a.Inputs.toNat+c) (L.length*a.Inputs.toNat) with g | g
  ·have:=h7 _ g
   rw [difB_at h1 h2,decide_eq_true h3] at this
   cases this
  ·have hs:=bfs_stay h6 hK (i*a.Inputs.toNat+c-L.length*a.Inputs.toNat)
   rw [show L.length*a.Inputs.toNat+(i*a.Inputs.toNat+c-L.length*a.Inputs.toNat)=i*a.Inputs.toNat+c by omega] at hs
   have h2':(bfsB (pE a b) a.Inputs.toNat p0 (i*a.Inputs.toNat+c))[i]?=some x:=h2
   rw [hs] at h2'
   have hi:=(List.getElem?_eq_some_iff.1 h2').1
   have:=mem_lt hi h1
   omega
 rcases hu with hu | hu<;>rcases hv with hv | hv
 ·obtain ⟨i,c,x,h1,h2,h3,h4,rfl⟩:=hu
  obtain ⟨i',c',x',g1,g2,g3,g4,rfl⟩:=hv
  have hr:i*a.Inputs.toNat+c=i'*a.Inputs.toNat+c':=by
   rcases Nat.lt_trichotomy (i*a.Inputs.toNat+c) (i'*a.Inputs.toNat+c') with q | q | q
   ·have:=g4 _ q
    rw [difB_at h1 h2,decide_eq_true h3] at this
    cases this
   ·exact q
   ·have:=h4 _ q
    rw [difB_at g1 g2,decide_eq_true g3] at this
    cases this
  have e1:i=i':=by rw [← dm_div (i:=i) h1,hr,dm_div g1]
  subst e1
  have e2:c=c':=by omega
  subst e2
  rw [h2] at g2
  injection g2 with g2
  rw [g2]
 ·exact (cross hu hv).elim
 ·exact (cross hv hu).elim
 ·obtain ⟨_,_,_,rfl⟩:=hu
  obtain ⟨_,_,_,rfl⟩:=hv
  rfl
end
end Go.Proofs.YtcneaiejdidooaaGreat.Sym

/-
 The first word that has different outputs: the loops. Plain laws.
-/
namespace Go.Proofs.YtcneaiejdidooaaGreat.Sym
set_option maxRecDepth 100000
section
variable {a b:zaa}
def plC (x:(Nat×Nat)×List Int):zar:=⟨⟨(↑x.1.1:Int),(↑x.1.2:Int)⟩,x.2⟩
def prC (x:(Nat×Nat)×List Int):zai:=⟨(↑x.1.1:Int),(↑x.1.2:Int),x.2⟩
theorem map_get {α β:Type} {f:α→β} {l:List α} {i:Nat} {x:α} (h:l[i]?=some x):(l.map f)[i]?=some (f x):=by rw [List.getElem?_map,h];rfl
structure SeenG (n k:Nat) (y:List (List Bool)) (l:List (Nat×Nat)):Prop where
 len:y.length=n
 at_:∀ s t,s<n→t<k→∃ row,y[s]?=some row∧row.length=k∧row[t]?=some (decide ((s,t)∈l))
theorem pair_mem {l:List (Nat×Nat)} {p q:Nat×Nat} (h:p≠q):p∈l↔p∈l++[q]:=by
 rw [List.mem_append,List.mem_singleton]
 exact ⟨Or.inl,fun z=>z.elim id fun e=>absurd e h⟩
theorem SeenG.push {n k s t:Nat} {y:List (List Bool)} {l:List (Nat×Nat)} {row:List Bool} (S:SeenG n k y l) (hs:s<n) (ht:t<k) (hr:y[s]?=some row):SeenG n k (y.set s (row.set t true)) (l++[(s,t)]):=by
 refine ⟨by simp [S.len],fun u v hu hv=>?_⟩
 obtain ⟨row',h1,h2,h3⟩:=S.at_ u v hu hv
 by_cases h:s=u
 ·subst h
  rw [hr] at h1
  injection h1 with h1
  subst h1
  refine ⟨row.set t true,by rw [List.getElem?_set_self (by rw [S.len];exact hs)],by simp [h2],?_⟩
  by_cases g:t=v
  ·subst g
   rw [List.getElem?_set_self (by omega)]
   simp
  ·rw [List.getElem?_set_ne g,h3]
   congr 1
   apply decide_eq_decide.2
   exact pair_mem fun e=>g (congrArg Prod.snd e).symm
 ·refine ⟨row',by rw [List.getElem?_set_ne h,h1],h2,?_⟩
  rw [h3]
  congr 1
  apply decide_eq_decide.2
  exact pair_mem fun e=>h (congrArg Prod.fst e).symm
theorem seenG_nil (n k:Nat):SeenG n k (List.replicate n (List.replicate k false)) []:=⟨by simp,fun s t hs ht=>⟨List.replicate k false,by simp [hs],by simp,by simp [ht]⟩⟩
theorem big_sum {i c n k K:Nat} (hi:i≤n*k) (hn:n≤128) (hk:k≤128) (hK:K≤64) (hc:c≤64):i*K+c≤1048640:=by
 have h1:n*k≤128*128:=Nat.mul_le_mul hn hk
 have h2:i*K≤(128*128)*64:=Nat.mul_le_mul (by omega) hK
 omega
theorem search_row (T:Two a b) {p0:Nat×Nat} (h1:p0.1<a.Next.length) (h2:p0.2<b.Next.length) {i:Nat} {x:(Nat×Nat)×List Int} {y:List (List Bool)} (hi:i≤a.Next.length*b.Next.length)
  (hx:(pB a b p0 (i*a.Inputs.toNat))[i]?=some x) (S:SeenG a.Next.length b.Next.length y ((pB a b p0 (i*a.Inputs.toNat)).map Prod.fst)) (hd:∀ r,r<i*a.Inputs.toNat→difB a b p0 r=false) :
  ∃ r,iter (fun (s:List (List Bool)×List zar×Nat)=>zas.s20 a b i (plC x) s.1 s.2.1 s.2.2) fuel (y,(pB a b p0 (i*a.Inputs.toNat)).map plC,0)=some r ∧
   ((∃ y',r=.inl (y',(pB a b p0 ((i+1)*a.Inputs.toNat)).map plC)∧SeenG a.Next.length b.Next.length y' ((pB a b p0 ((i+1)*a.Inputs.toNat)).map Prod.fst)∧∀ r,r<(i+1)*a.Inputs.toNat→difB a b p0 r=false) ∨
   (∃ res,r=.inr (.inr (.inr res))∧Fst a b p0 res)):=by
 have han:=T.a1.n2
 have hbn:=T.b1.n2
 have hI:=T.a1.i2
 have hxr:=pB_rng T h1 h2 _ x (List.mem_of_getElem? hx)
 obtain ⟨r,hr,hq⟩:=za4 (step:=fun (s:List (List Bool)×List zar×Nat)=>zas.s20 a b i (plC x) s.1 s.2.1 s.2.2) (fun s=>s.2.2≤a.Inputs.toNat∧s.2.1=(pB a b p0 (i*a.Inputs.toNat+s.2.2)).map plC∧SeenG a.Next.length b.Next.length s.1 ((pB a b p0 (i*a.Inputs.toNat+s.2.2)).map Prod.fst)∧∀ r,r<i*a.Inputs.toNat+s.2.2→difB a b p0 r=false) (fun s=>a.Inputs.toNat-s.2.2) (fun r=>(∃ y',r=.inl (y',(pB a b p0 ((i+1)*a.Inputs.toNat)).map plC)∧SeenG a.Next.length b.Next.length y' ((pB a b p0 ((i+1)*a.Inputs.toNat)).map Prod.fst)∧∀ r,r<(i+1)*a.Inputs.toNat→difB a b p0 r=false)∨(∃ res,r=.inr (.inr (.inr res))∧Fst a b p0 res)) (fun s ⟨q1,q2,q3,q4⟩=>by
  obtain ⟨y,l,c⟩:=s
  simp only at q1 q2 q3 q4
  subst q2
  simp only [zas.s20]
  by_cases g:c<a.Inputs.toNat
  ·have hxc:=pB_get hx (r:=i*a.Inputs.toNat+c) (by omega)
   obtain ⟨g1,_,_,ra,oa,e1,e2,e3,e4⟩:=T.a1.at hxr.1 g
   obtain ⟨f1,_,_,rb,ob,d1,d2,d3,d4⟩:=T.b1.at hxr.2.1 (a:=c) (by rw [← T.inp];exact g)
   have hbig:=big_sum (c:=c) hi han hbn (K:=a.Inputs.toNat) (by omega) (by omega)
   have hlen:=pB_len T h1 h2 (i*a.Inputs.toNat+c)
   have hnn:a.Next.length*b.Next.length≤128*128:=Nat.mul_le_mul han hbn
   rw [decide_eq_true (by omega),cond_true,idx_at (n:=(plC x).at_.s) (i:=x.1.1) rfl e2,idxn_at e4,idx_at (n:=(plC x).at_.t) (i:=x.1.2) rfl d2,idxn_at d4]
   by_cases hne:ot a x.1.1 c≠ot b x.1.2 c
   ·right
    rw [decide_eq_true hne,cond_true,idxn_at (map_get hxc)]
    show ∃ r,((zcq [x.2,[(↑c:Int)]]).bind _:Option _)=_∧_
    rw [zdr _ (by simp) (by simp;omega),obind]
    refine ⟨_,rfl,Or.inr ⟨_,rfl,Or.inl ⟨i,c,x,g,hxc,hne,q4,?_⟩⟩⟩
    simp
   ·left
    have heq:ot a x.1.1 c=ot b x.1.2 c:=Classical.byContradiction hne
    have hd':∀ r,r<i*a.Inputs.toNat+(c+1)→difB a b p0 r=false:=fun r hr=>by
     rcases Nat.lt_or_ge r (i*a.Inputs.toNat+c) with q | q
     ·exact q4 r q
     ·have:r=i*a.Inputs.toNat+c:=by omega
      rw [this,difB_at g hxc,decide_eq_false hne]
    have hstep:=pB_step g hxc
    obtain ⟨row,r1,r2,r3⟩:=q3.at_ _ _ g1 f1
    have hxm:x.1∈(pB a b p0 (i*a.Inputs.toNat+c)).map Prod.fst:=List.mem_map.2 ⟨x,List.mem_of_getElem? hxc,rfl⟩
    have htest:((cond (!(decide ((↑(nx a x.1.1 c):Int)=(plC x).at_.s)&&(decide ((↑(nx b x.1.2 c):Int)=(plC x).at_.t)&&true))) (idx y (↑(nx a x.1.1 c):Int) fun e1288=>idx e1288 (↑(nx b x.1.2 c):Int) fun e1289=>some (!e1289)) (some false):Option Bool))=some (!decide (pE a b x.1 c∈(pB a b p0 (i*a.Inputs.toNat+c)).map Prod.fst)):=by
     by_cases z:pE a b x.1 c=x.1
     ·have z1:nx a x.1.1 c=x.1.1:=congrArg Prod.fst z
      have z2:nx b x.1.2 c=x.1.2:=congrArg Prod.snd z
      rw [decide_eq_true (show (↑(nx a x.1.1 c):Int)=(plC x).at_.s by rw [z1];rfl),decide_eq_true (show (↑(nx b x.1.2 c):Int)=(plC x).at_.t by rw [z2];rfl),z,decide_eq_true hxm]
      rfl
     ·have:(!(decide ((↑(nx a x.1.1 c):Int)=(plC x).at_.s)&&(decide ((↑(nx b x.1.2 c):Int)=(plC x).at_.t)&&true)))=true:=by
       by_cases z1:nx a x.1.1 c=x.1.1
       ·have z2:nx b x.1.2 c≠x.1.2:=fun q=>z (Prod.ext z1 q)
        rw [decide_eq_false (show ¬ (↑(nx b x.1.2 c):Int)=(plC x).at_.t from fun q=>z2 (Int.ofNat_inj.1 q))]
        simp
       ·rw [decide_eq_false (show ¬ (↑(nx a x.1.1 c):Int)=(plC x).at_.s from fun q=>z1 (Int.ofNat_inj.1 q))]
        rfl
      rw [this,cond_true,idx_at rfl r1,idx_at rfl r3]
      rfl
    rw [decide_eq_false hne,cond_false,idx_at (n:=(plC x).at_.s) (i:=x.1.1) rfl e1,idxn_at e3,idx_at (n:=(plC x).at_.t) (i:=x.1.2) rfl d1,idxn_at d3,htest,obind]
    by_cases hm:pE a b x.1 c∈(pB a b p0 (i*a.Inputs.toNat+c)).map Prod.fst
    ·rw [if_pos hm] at hstep
     refine ⟨(y,(pB a b p0 (i*a.Inputs.toNat+c)).map plC,c+1),by rw [decide_eq_true hm,Bool.not_true,cond_false,chk_pos (by unfold inR;omega)],⟨g,by simp only;rw [hstep],by simp only;rw [hstep];exact q3,hd'⟩,by simp only;omega⟩
    ·rw [if_neg hm] at hstep
     refine ⟨(y.set (nx a x.1.1 c) (row.set (nx b x.1.2 c) true),(pB a b p0 (i*a.Inputs.toNat+c)).map plC++[plC (pE a b x.1 c,x.2++[(↑c:Int)])],c+1),?_,⟨g,by simp only;rw [hstep,List.map_append];rfl,by simp only;rw [hstep,List.map_append];exact q3.push g1 f1 r1,hd'⟩,by simp only;omega⟩
     rw [decide_eq_false hm,Bool.not_false,cond_true,idx_at rfl r1,idx_at rfl r3,idxn_at (map_get hxc)]
     show (zcq [x.2,[(↑c:Int)]]).bind _=_
     rw [zdr _ (by simp) (by simp;omega),obind,chk_pos (by unfold capOk;rw [List.length_map];omega),chk_pos (by unfold inR;omega),Int.toNat_natCast,Int.toNat_natCast]
     simp [plC,pE]
  ·right
   have e':c=a.Inputs.toNat:=by omega
   subst e'
   rw [pB_next] at q3 ⊢
   exact ⟨_,by rw [decide_eq_false (by omega),cond_false],Or.inl ⟨_,rfl,q3,by rw [Nat.succ_mul];exact q4⟩⟩) fuel (y,(pB a b p0 (i*a.Inputs.toNat)).map plC,0) ⟨Nat.zero_le _,rfl,S,hd⟩ (by have:=fuel_big;simp only;omega)
 exact ⟨r,hr,hq⟩
theorem zfn (T:Two a b) {p0:Nat×Nat} (h1:p0.1<a.Next.length) (h2:p0.2<b.Next.length):∃ res,zas a b (⟨(↑p0.1:Int),(↑p0.2:Int)⟩:zbu)=some res∧Fst a b p0 res:=by
 have han:=T.a1.n2
 have hbn:=T.b1.n2
 have hI:=T.a1.i2
 have hnn:a.Next.length*b.Next.length≤128*128:=Nat.mul_le_mul han hbn
 unfold zas
 have grid:=iter_eq (step:=fun (s:List (List Bool)×Nat)=>zas.s2 a b s.1 s.2) (r:=List.replicate a.Next.length (List.replicate b.Next.length false)) (fun s=>s.2≤a.Next.length∧s.1=List.replicate s.2 (List.replicate b.Next.length false)++List.replicate (a.Next.length-s.2) []) (fun s=>a.Next.length-s.2) (fun s ⟨q1,q2⟩=>by
  obtain ⟨y,k⟩:=s
  simp only at q1 q2
  subst q2
  simp only [zas.s2]
  by_cases g:k<a.Next.length
  ·left
   refine ⟨(List.replicate (k+1) (List.replicate b.Next.length false)++List.replicate (a.Next.length-(k+1)) [],k+1),?_,⟨g,rfl⟩,by simp only;omega⟩
   have hk:(List.replicate k (List.replicate b.Next.length false)++List.replicate (a.Next.length-k) [])[k]?=some []:=by
    rw [List.getElem?_append_right (by simp),List.length_replicate,Nat.sub_self,List.getElem?_replicate,if_pos (by omega)]
   rw [List.length_replicate,decide_eq_true (by omega),cond_true,chk_pos ⟨by omega,by omega,by unfold capOk;omega⟩,idxn_at hk,chk_pos (by unfold inR;omega)]
   congr 4
   rw [List.set_append_right _ _ (by simp),List.length_replicate,Nat.sub_self,show a.Next.length-k=(a.Next.length-(k+1))+1 by omega,List.replicate_succ,List.set_cons_zero,List.replicate_succ' (n:=k)]
   simp
  ·right
   have:k=a.Next.length:=by omega
   subst this
   rw [List.length_replicate,decide_eq_false (by omega),cond_false]
   simp) (n:=fuel) (s:=(List.replicate a.Next.length [],0)) ⟨Nat.zero_le _,by simp⟩ (by have:=fuel_big;simp only;omega)
 obtain ⟨row,r1,r2,r3⟩:=(seenG_nil a.Next.length b.Next.length).at_ _ _ h1 h2
 have hS:=(seenG_nil a.Next.length b.Next.length).push h1 h2 r1
 rw [chk_pos ⟨by omega,by omega,by unfold capOk;omega⟩,grid,obind]
 simp only
 rw [idx_at rfl r1,idx_at rfl r3,Int.toNat_natCast,Int.toNat_natCast]
 obtain ⟨r,hr,hq⟩:=za4 (step:=fun (s:List (List Bool)×List zar×Nat)=>zas.s22 a b s.1 s.2.1 s.2.2) (fun s=>s.2.2≤(pB a b p0 (s.2.2*a.Inputs.toNat)).length∧s.2.1=(pB a b p0 (s.2.2*a.Inputs.toNat)).map plC∧SeenG a.Next.length b.Next.length s.1 ((pB a b p0 (s.2.2*a.Inputs.toNat)).map Prod.fst)∧∀ r,r<s.2.2*a.Inputs.toNat→difB a b p0 r=false) (fun s=>a.Next.length*b.Next.length+1-s.2.2) (fun r=>(r=.inl ()∧Fst a b p0 ([],false))∨∃ res,r=.inr res∧Fst a b p0 res) (fun s ⟨q1,q2,q3,q4⟩=>by
  obtain ⟨y,l,i⟩:=s
  simp only at q1 q2 q3 q4
  subst q2
  simp only [zas.s22]
  have hlen:=pB_len T h1 h2 (i*a.Inputs.toNat)
  by_cases g:i<(pB a b p0 (i*a.Inputs.toNat)).length
  ·have hx:=get_at g
   generalize (pB a b p0 (i*a.Inputs.toNat))[i]=x at hx
   obtain ⟨r,z1,z2⟩:=search_row T h1 h2 (by omega) hx q3 q4
   rw [decide_eq_true (by rw [List.length_map];omega),cond_true,idxn_at (map_get hx),z1,obind]
   rcases z2 with ⟨y',rfl,z3,z4⟩ | ⟨res,rfl,z3⟩
   ·left
    have hmono:=(bfs_pre (e:=pE a b) (K:=a.Inputs.toNat) (s0:=p0) (show i*a.Inputs.toNat≤(i+1)*a.Inputs.toNat by rw [Nat.succ_mul];omega)).length_le
    exact ⟨(y',(pB a b p0 ((i+1)*a.Inputs.toNat)).map plC,i+1),rfl,⟨by simp only;unfold pB at g ⊢;omega,rfl,z3,z4⟩,by simp only;omega⟩
   ·right
    exact ⟨.inr res,rfl,Or.inr ⟨res,rfl,z3⟩⟩
  ·right
   refine ⟨.inl (),by rw [decide_eq_false (by rw [List.length_map];omega),cond_false],Or.inl ⟨rfl,Or.inr ⟨pB a b p0 (i*a.Inputs.toNat),⟨?_⟩,?_,rfl⟩⟩⟩
   ·rw [show (pB a b p0 (i*a.Inputs.toNat)).length=i by omega]
    rfl
   ·rw [show (pB a b p0 (i*a.Inputs.toNat)).length=i by omega]
    exact q4) fuel ((List.replicate a.Next.length (List.replicate b.Next.length false)).set p0.1 (row.set p0.2 true),[(⟨(⟨(↑p0.1:Int),(↑p0.2:Int)⟩:zbu),[]⟩:zar)],0) ⟨Nat.zero_le _,by simp only;rw [Nat.zero_mul];simp [pB,bfsB,plC],by
    simp only
    rw [Nat.zero_mul]
    exact hS,fun r hr=>by simp only at hr;omega⟩ (by have:=fuel_big;simp only;omega)
 rw [hr,obind]
 rcases hq with ⟨rfl,hq⟩ | ⟨res,rfl,hq⟩
 ·exact ⟨_,rfl,hq⟩
 ·exact ⟨_,rfl,hq⟩
end
end Go.Proofs.YtcneaiejdidooaaGreat.Sym

/-
 The first word that has different outputs: the document's search, and what it says. Plain laws.
-/
namespace Go.Proofs.YtcneaiejdidooaaGreat.Sym
set_option maxRecDepth 100000
section
variable {a b:zaa}
theorem known_eq {l:List ((Nat×Nat)×List Int)} {p q:Nat} (hl:l.length≤1000000):iter (fun (s:Bool×Nat)=>zbc.s84 (l.map prC) (↑p:Int) (↑q:Int) s.1 s.2) fuel (false,0)=some (decide ((p,q)∈l.map Prod.fst)):=by
 refine iter_eq (fun s=>s.2≤l.length∧(s.1=true↔(p,q)∈(l.take s.2).map Prod.fst)) (fun s=>l.length-s.2) (fun s hs=>?_) ⟨Nat.zero_le _,by simp⟩ (by have:=fuel_big;simp only;omega)
 obtain ⟨kn,k⟩:=s
 obtain ⟨q1,q2⟩:=hs
 simp only at q1 q2
 simp only [zbc.s84]
 by_cases g:k<l.length
 ·left
  have hx:=get_at g
  generalize l[k]=x at hx
  have ht:(l.take (k+1)).map Prod.fst=(l.take k).map Prod.fst++[x.1]:=by
   rw [zbz hx,List.map_append]
   rfl
  rw [decide_eq_true (by rw [List.length_map];omega),cond_true]
  cases kn with
  | true =>
   exact ⟨(true,k+1),by rw [cond_true],⟨g,by simp only;rw [ht];exact ⟨fun _=>List.mem_append_left _ (q2.1 rfl),fun _=>trivial⟩⟩,by simp only;omega⟩
  | false =>
   have hn:¬ (p,q)∈(l.take k).map Prod.fst:=fun z=>by have:=q2.2 z;cases this
   have e1:((p,q)∈(l.take (k+1)).map Prod.fst)↔x.1.1=p∧x.1.2=q:=by
    rw [ht,List.mem_append]
    constructor
    ·rintro (z | z)
     ·exact absurd z hn
     ·have z:(p,q)=x.1:=by simpa using z
      rw [← z]
      exact ⟨rfl,rfl⟩
    ·rintro ⟨z1,z2⟩
     right
     simp [← z1,← z2]
   rw [cond_false,idxn_at (map_get hx),idxn_at (map_get hx)]
   have hS:(prC x).S=(↑x.1.1:Int):=rfl
   have hT:(prC x).T=(↑x.1.2:Int):=rfl
   by_cases z1:x.1.1=p
   ·refine ⟨(decide ((prC x).T=(↑q:Int)),k+1),by rw [decide_eq_true (show (prC x).S=(↑p:Int) by omega),cond_true],⟨g,?_⟩,by simp only;omega⟩
    show decide ((prC x).T=(↑q:Int))=true↔_
    rw [e1,decide_eq_true_iff]
    constructor
    ·exact fun z=>⟨z1,by omega⟩
    ·exact fun z=>by have:=z.2;omega
   ·refine ⟨(false,k+1),by rw [decide_eq_false (show ¬ (prC x).S=(↑p:Int) by omega),cond_false],⟨g,?_⟩,by simp only;omega⟩
    show false=true↔_
    rw [e1]
    exact ⟨fun z=>(by cases z),fun z=>absurd z.1 z1⟩
 ·right
  have:k=l.length:=by omega
  subst this
  rw [List.take_length] at q2
  rw [decide_eq_false (by rw [List.length_map];omega),cond_false]
  cases kn with
  | true=>rw [decide_eq_true (q2.1 rfl)]
  | false=>rw [decide_eq_false (fun z=>by have:=q2.2 z;cases this)]
theorem first_row (T:Two a b) {p0:Nat×Nat} (h1:p0.1<a.Next.length) (h2:p0.2<b.Next.length) {i:Nat} {x:(Nat×Nat)×List Int} (hi:i≤a.Next.length*b.Next.length)
  (hx:(pB a b p0 (i*a.Inputs.toNat))[i]?=some x) (hd:∀ r,r<i*a.Inputs.toNat→difB a b p0 r=false) :
  ∃ r,iter (fun (s:List zai×Nat)=>zbc.s85 a b i s.1 s.2) fuel ((pB a b p0 (i*a.Inputs.toNat)).map prC,0)=some r ∧
   ((r=.inl ((pB a b p0 ((i+1)*a.Inputs.toNat)).map prC)∧∀ r,r<(i+1)*a.Inputs.toNat→difB a b p0 r=false) ∨
   (∃ res,r=.inr (.inr (.inr res))∧Fst a b p0 res)):=by
 have han:=T.a1.n2
 have hbn:=T.b1.n2
 have hI:=T.a1.i2
 have hxr:=pB_rng T h1 h2 _ x (List.mem_of_getElem? hx)
 obtain ⟨r,hr,hq⟩:=za4 (step:=fun (s:List zai×Nat)=>zbc.s85 a b i s.1 s.2) (fun s=>s.2≤a.Inputs.toNat∧s.1=(pB a b p0 (i*a.Inputs.toNat+s.2)).map prC∧∀ r,r<i*a.Inputs.toNat+s.2→difB a b p0 r=false) (fun s=>a.Inputs.toNat-s.2) (fun r=>(r=.inl ((pB a b p0 ((i+1)*a.Inputs.toNat)).map prC)∧∀ r,r<(i+1)*a.Inputs.toNat→difB a b p0 r=false)∨(∃ res,r=.inr (.inr (.inr res))∧Fst a b p0 res)) (fun s ⟨q1,q2,q4⟩=>by
  obtain ⟨l,c⟩:=s
  simp only at q1 q2 q4
  subst q2
  simp only [zbc.s85]
  by_cases g:c<a.Inputs.toNat
  ·have hxc:=pB_get hx (r:=i*a.Inputs.toNat+c) (by omega)
   obtain ⟨g1,_,_,ra,oa,e1,e2,e3,e4⟩:=T.a1.at hxr.1 g
   obtain ⟨f1,_,_,rb,ob,d1,d2,d3,d4⟩:=T.b1.at hxr.2.1 (a:=c) (by rw [← T.inp];exact g)
   have hbig:=big_sum (c:=c) hi han hbn (K:=a.Inputs.toNat) (by omega) (by omega)
   have hlen:=pB_len T h1 h2 (i*a.Inputs.toNat+c)
   have hnn:a.Next.length*b.Next.length≤128*128:=Nat.mul_le_mul han hbn
   have hext:zc0 (prC x).Word (↑c:Int)=some (x.2++[(↑c:Int)]):=by
    unfold zc0
    show chk (capOk x.2.length 8) (chk (capOk (x.2.length+1) 8) _)=_
    rw [chk_pos (by unfold capOk;omega),chk_pos (by unfold capOk;omega)]
    rfl
   rw [decide_eq_true (by omega),cond_true,idxn_at (map_get hxc),hext,obind,idxn_at (map_get hxc),idx_at (n:=(prC x).S) (i:=x.1.1) rfl e2,idxn_at e4,idxn_at (map_get hxc),idx_at (n:=(prC x).T) (i:=x.1.2) rfl d2,idxn_at d4]
   by_cases hne:ot a x.1.1 c≠ot b x.1.2 c
   ·right
    rw [decide_eq_true hne,cond_true]
    exact ⟨_,rfl,Or.inr ⟨_,rfl,Or.inl ⟨i,c,x,g,hxc,hne,q4,rfl⟩⟩⟩
   ·left
    have hd':∀ r,r<i*a.Inputs.toNat+(c+1)→difB a b p0 r=false:=fun r hr=>by
     rcases Nat.lt_or_ge r (i*a.Inputs.toNat+c) with q | q
     ·exact q4 r q
     ·have:r=i*a.Inputs.toNat+c:=by omega
      rw [this,difB_at g hxc,decide_eq_false hne]
    have hstep:=pB_step g hxc
    rw [decide_eq_false hne,cond_false,idxn_at (map_get hxc),idx_at (n:=(prC x).S) (i:=x.1.1) rfl e1,idxn_at e3,idxn_at (map_get hxc),idx_at (n:=(prC x).T) (i:=x.1.2) rfl d1,idxn_at d3,known_eq (by omega),obind]
    by_cases hm:pE a b x.1 c∈(pB a b p0 (i*a.Inputs.toNat+c)).map Prod.fst
    ·rw [if_pos hm] at hstep
     refine ⟨((pB a b p0 (i*a.Inputs.toNat+c)).map prC,c+1),by rw [decide_eq_true (show (nx a x.1.1 c,nx b x.1.2 c)∈_ from hm),Bool.not_true,cond_false,chk_pos (by unfold inR;omega)],⟨g,by simp only;rw [hstep],hd'⟩,by simp only;omega⟩
    ·rw [if_neg hm] at hstep
     refine ⟨((pB a b p0 (i*a.Inputs.toNat+c)).map prC++[prC (pE a b x.1 c,x.2++[(↑c:Int)])],c+1),?_,⟨g,by simp only;rw [hstep,List.map_append];rfl,hd'⟩,by simp only;omega⟩
     rw [decide_eq_false (show ¬ (nx a x.1.1 c,nx b x.1.2 c)∈_ from hm),Bool.not_false,cond_true,chk_pos (by unfold capOk;rw [List.length_map];omega),chk_pos (by unfold inR;omega)]
     rfl
  ·right
   have e':c=a.Inputs.toNat:=by omega
   subst e'
   rw [pB_next]
   exact ⟨_,by rw [decide_eq_false (by omega),cond_false],Or.inl ⟨rfl,by rw [Nat.succ_mul];exact q4⟩⟩) fuel ((pB a b p0 (i*a.Inputs.toNat)).map prC,0) ⟨Nat.zero_le _,rfl,hd⟩ (by have:=fuel_big;simp only;omega)
 exact ⟨r,hr,hq⟩
theorem R09_first_eq (T:Two a b) {p0:Nat×Nat} (h1:p0.1<a.Next.length) (h2:p0.2<b.Next.length):∃ res,zbc a b (↑p0.1:Int) (↑p0.2:Int)=some res∧Fst a b p0 res:=by
 have han:=T.a1.n2
 have hbn:=T.b1.n2
 have hnn:a.Next.length*b.Next.length≤128*128:=Nat.mul_le_mul han hbn
 unfold zbc
 obtain ⟨r,hr,hq⟩:=za4 (step:=fun (s:List zai×Nat)=>zbc.s86 a b s.1 s.2) (fun s=>s.2≤(pB a b p0 (s.2*a.Inputs.toNat)).length∧s.1=(pB a b p0 (s.2*a.Inputs.toNat)).map prC∧∀ r,r<s.2*a.Inputs.toNat→difB a b p0 r=false) (fun s=>a.Next.length*b.Next.length+1-s.2) (fun r=>(r=.inl ()∧Fst a b p0 ([],false))∨∃ res,r=.inr res∧Fst a b p0 res) (fun s ⟨q1,q2,q4⟩=>by
  obtain ⟨l,i⟩:=s
  simp only at q1 q2 q4
  subst q2
  simp only [zbc.s86]
  have hlen:=pB_len T h1 h2 (i*a.Inputs.toNat)
  by_cases g:i<(pB a b p0 (i*a.Inputs.toNat)).length
  ·have hx:=get_at g
   generalize (pB a b p0 (i*a.Inputs.toNat))[i]=x at hx
   obtain ⟨r,z1,z2⟩:=first_row T h1 h2 (by omega) hx q4
   rw [decide_eq_true (by rw [List.length_map];omega),cond_true,z1,obind]
   rcases z2 with ⟨rfl,z4⟩ | ⟨res,rfl,z3⟩
   ·left
    have hmono:=(bfs_pre (e:=pE a b) (K:=a.Inputs.toNat) (s0:=p0) (show i*a.Inputs.toNat≤(i+1)*a.Inputs.toNat by rw [Nat.succ_mul];omega)).length_le
    exact ⟨((pB a b p0 ((i+1)*a.Inputs.toNat)).map prC,i+1),rfl,⟨by simp only;unfold pB at g ⊢;omega,rfl,z4⟩,by simp only;omega⟩
   ·right
    exact ⟨.inr res,rfl,Or.inr ⟨res,rfl,z3⟩⟩
  ·right
   refine ⟨.inl (),by rw [decide_eq_false (by rw [List.length_map];omega),cond_false],Or.inl ⟨rfl,Or.inr ⟨pB a b p0 (i*a.Inputs.toNat),⟨?_⟩,?_,rfl⟩⟩⟩
   ·rw [show (pB a b p0 (i*a.Inputs.toNat)).length=i by omega]
    rfl
   ·rw [show (pB a b p0 (i*a.Inputs.toNat)).length=i by omega]
    exact q4) fuel ([(⟨(↑p0.1:Int),(↑p0.2:Int),[]⟩:zai)],0) ⟨Nat.zero_le _,by simp only;rw [Nat.zero_mul];simp [pB,bfsB,prC],fun r hr=>by simp only at hr;omega⟩ (by have:=fuel_big;simp only;omega)
 rw [hr,obind]
 rcases hq with ⟨rfl,hq⟩ | ⟨res,rfl,hq⟩
 ·exact ⟨_,rfl,hq⟩
 ·exact ⟨_,rfl,hq⟩
end
end Go.Proofs.YtcneaiejdidooaaGreat.Sym

/-
 The minimal machine with its states in the order of their first words is one. Plain laws.
-/
namespace Go.Proofs.YtcneaiejdidooaaGreat.Sym
set_option maxRecDepth 100000
theorem leastR {p:Nat→Prop}:∀ {r:Nat},p r→∃ q,p q∧∀ q',q'<q→¬ p q':=fun {r} h=>by
 induction r using Nat.strongRecOn with
 | ind r ih =>
  by_cases g:∃ q,q<r∧p q
  ·obtain ⟨q,h1,h2⟩:=g
   exact ih q h1 h2
  ·exact ⟨r,h,fun q' hq hp=>g ⟨q',hq,hp⟩⟩
structure Can (M:zaa):Prop where
 c4:∀ i a u,i<M.Next.length→a<M.Inputs.toNat→0<u→u≤nx M i a→∃ i' a',a'<M.Inputs.toNat∧i'*M.Inputs.toNat+a'≤i*M.Inputs.toNat+a∧i'<u∧nx M i' a'=u
 c5:∀ u,0<u→u<M.Next.length→∃ i a,i<u∧a<M.Inputs.toNat∧nx M i a=u
def Eqv (a:zaa) (s:Nat) (b:zaa) (t:Nat):Prop:=∀ w,WOk a.Inputs w→outs a s w=outs b t w
structure MinSem (m M:zaa):Prop where
 ok:MacOk M
 inp:M.Inputs=m.Inputs
 start:M.Start=0
 eqv:Eqv M 0 m m.Start.toNat
 min:∀ i j,i<M.Next.length→j<M.Next.length→Eqv M i M j→i=j
 can:Can M
theorem Eqv.step {a b:zaa} (hi:a.Inputs=b.Inputs) {s t c:Nat} (h:Eqv a s b t) (hc:c<a.Inputs.toNat):ot a s c=ot b t c∧Eqv a (nx a s c) b (nx b t c):=by
 have key:∀ w,WOk a.Inputs w→ot a s c::outs a (nx a s c) w=ot b t c::outs b (nx b t c) w:=fun w hw=>by
  have:=h ((↑c:Int)::w) (fun x hx=>by
   rcases List.mem_cons.1 hx with rfl | hx
   ·omega
   ·exact hw x hx)
  exact this
 have h0:=key [] (fun x hx=>by cases hx)
 injection h0 with h0 _
 refine ⟨h0,fun w hw=>?_⟩
 have:=key w hw
 injection this with _ this
theorem Eqv.symm {a b:zaa} (hi:a.Inputs=b.Inputs) {s t:Nat} (h:Eqv a s b t):Eqv b t a s:=fun w hw=>(h w (by rw [hi];exact hw)).symm
theorem Eqv.trans {a b c:zaa} (hi:a.Inputs=b.Inputs) {s t u:Nat} (h:Eqv a s b t) (g:Eqv b t c u):Eqv a s c u:=fun w hw=>(h w hw).trans (g w (by rw [← hi];exact hw))
theorem Eqv.refl (a:zaa) (s:Nat):Eqv a s a s:=fun _ _=>rfl
theorem Eqv.dest {a b:zaa} (hi:a.Inputs=b.Inputs) {s t:Nat} (h:Eqv a s b t) {w:List Int} (hw:WOk a.Inputs w):Eqv a (dest a s w) b (dest b t w):=fun v hv=>by
 have:=h (w++v) (hw.append hv)
 rw [zc9,zc9] at this
 exact List.append_inj_right this (by rw [outs_len,outs_len])
section
variable {M M':zaa}
theorem can_match (HM:MacOk M) (HM':MacOk M') (hi:M.Inputs=M'.Inputs) (hmin:∀ i j,i<M.Next.length→j<M.Next.length→Eqv M i M j→i=j) (hmin':∀ i j,i<M'.Next.length→j<M'.Next.length→Eqv M' i M' j→i=j) (C:Can M) (C':Can M') (h0:Eqv M 0 M' 0) :
  ∀ u,u<M.Next.length→u<M'.Next.length∧Eqv M u M' u:=by
 intro u
 induction u using Nat.strongRecOn with
 | ind u ih =>
  intro hu
  by_cases hz:u=0
  ·subst hz
   exact ⟨HM'.n1,h0⟩
  obtain ⟨i0,a0,b1,b2,b3⟩:=C.c5 u (by omega) hu
  have hK:0<M.Inputs.toNat:=by omega
  obtain ⟨r,⟨⟨i,a,p1,p2,p3,p4⟩,hleast⟩⟩:∃ r,(∃ i a,i<M.Next.length∧a<M.Inputs.toNat∧r=i*M.Inputs.toNat+a∧nx M i a=u)∧∀ r',r'<r→¬ ∃ i a,i<M.Next.length∧a<M.Inputs.toNat∧r'=i*M.Inputs.toNat+a∧nx M i a=u :=
   leastR (p:=fun r=>∃ i a,i<M.Next.length∧a<M.Inputs.toNat∧r=i*M.Inputs.toNat+a∧nx M i a=u) (r:=i0*M.Inputs.toNat+a0) ⟨i0,a0,by omega,b2,rfl,b3⟩
  have hiu:i<u:=by
   rcases Nat.lt_or_ge i u with q | q
   ·exact q
   ·exfalso
    refine hleast (i0*M.Inputs.toNat+a0) ?_ ⟨i0,a0,by omega,b2,rfl,b3⟩
    have:=mem_lt (show i0<i by omega) b2
    omega
  obtain ⟨hi',hR⟩:=ih i hiu p1
  obtain ⟨_,hR2⟩:=hR.step hi p2
  rw [p4] at hR2
  have ha':a<M'.Inputs.toNat:=by rw [← hi];exact p2
  have hu':=(HM'.at hi' ha').1
  have hlow:∀ i' a',i'<M.Next.length→a'<M.Inputs.toNat→i'*M.Inputs.toNat+a'<r→nx M i' a'<u:=fun i' a' g1 g2 g3=>by
   rcases Nat.lt_or_ge (nx M i' a') u with q | q
   ·exact q
   ·exfalso
    obtain ⟨i2,a2,z1,z2,z3,z4⟩:=C.c4 i' a' u g1 g2 (by omega) q
    exact hleast (i2*M.Inputs.toNat+a2) (by omega) ⟨i2,a2,by omega,z1,rfl,z4⟩
  rcases Nat.lt_trichotomy (nx M' i a) u with q | q | q
  ·exfalso
   obtain ⟨_,hv⟩:=ih _ q (by omega)
   have:=hmin u (nx M' i a) hu (by omega) (hR2.trans hi (hv.symm hi))
   omega
  ·rw [q] at hR2 hu'
   exact ⟨hu',hR2⟩
  ·exfalso
   obtain ⟨i2,a2,z1,z2,z3,z4⟩:=C'.c4 i a u hi' ha' (by omega) (by omega)
   rw [← hi] at z1 z2
   obtain ⟨w1,w2⟩:=ih i2 z3 (by omega)
   obtain ⟨_,w3⟩:=w2.step hi z1
   rw [z4] at w3
   have hlt:i2*M.Inputs.toNat+a2<r:=by
    rcases Nat.lt_or_ge (i2*M.Inputs.toNat+a2) r with g | g
    ·exact g
    ·exfalso
     have he:i2*M.Inputs.toNat+a2=i*M.Inputs.toNat+a:=by omega
     have e1:i2=i:=by rw [← dm_div (i:=i2) z1,he,dm_div p2]
     subst e1
     have e2:a2=a:=by omega
     subst e2
     omega
   have hv:=hlow i2 a2 (by omega) z1 hlt
   obtain ⟨v1,v2⟩:=ih _ hv (by omega)
   have hN':u<M'.Next.length:=by omega
   have:=hmin' (nx M i2 a2) u v1 hN' ((v2.symm hi).trans hi.symm w3)
   omega
theorem row_ext {l l':List (List Int)} {n k:Nat} {g:Nat→Nat→Int} (h1:l.length=n) (h2:l'.length=n) (h:∀ i,i<n→∃ x y,l[i]?=some x∧l'[i]?=some y∧x.length=k∧y.length=k∧∀ a,a<k→x[a]?=some (g i a)∧y[a]?=some (g i a)):l=l':=by
 refine List.ext_getElem? fun i=>?_
 rcases Nat.lt_or_ge i n with g1 | g1
 ·obtain ⟨x,y,e1,e2,e3,e4,e5⟩:=h i g1
  rw [e1,e2]
  congr 1
  refine List.ext_getElem? fun a=>?_
  rcases Nat.lt_or_ge a k with g2 | g2
  ·rw [(e5 a g2).1,(e5 a g2).2]
  ·rw [List.getElem?_eq_none (by omega),List.getElem?_eq_none (by omega)]
 ·rw [List.getElem?_eq_none (by omega),List.getElem?_eq_none (by omega)]
theorem zj7 {m:zaa} (S:MinSem m M) (S':MinSem m M'):M=M':=by
 have hi:M.Inputs=M'.Inputs:=S.inp.trans S'.inp.symm
 have h0:Eqv M 0 M' 0:=S.eqv.trans S.inp (S'.eqv.symm S'.inp)
 have A:=can_match S.ok S'.ok hi S.min S'.min S.can S'.can h0
 have B:=can_match S'.ok S.ok hi.symm S'.min S.min S'.can S.can (h0.symm hi)
 have hn:M.Next.length=M'.Next.length:=by
  have p1:=S.ok.n1
  have p2:=S'.ok.n1
  have a1:=(A (M.Next.length-1) (by omega)).1
  have b1:=(B (M'.Next.length-1) (by omega)).1
  omega
 have hx:∀ i a,i<M.Next.length→a<M.Inputs.toNat→nx M i a=nx M' i a∧ot M i a=ot M' i a:=fun i a h1 h2=>by
  obtain ⟨e1,e2⟩:=(A i h1).2.step hi h2
  refine ⟨?_,e1⟩
  have g1:=(S.ok.at h1 h2).1
  have g2:=(S'.ok.at (show i<M'.Next.length by omega) (a:=a) (by rw [← hi];exact h2)).1
  have e3:=(A _ g1).2
  exact S'.min _ _ (by omega) g2 ((e3.symm hi).trans hi.symm e2)
 have hN:M.Next=M'.Next:=row_ext (n:=M.Next.length) (k:=M.Inputs.toNat) (g:=fun i a=>(↑(nx M i a):Int)) rfl hn.symm fun i h=>by
  obtain ⟨x,y,e1,e2,e3,e4,_⟩:=S.ok.row i h
  obtain ⟨x',y',f1,f2,f3,f4,_⟩:=S'.ok.row i (by omega)
  refine ⟨x,x',e1,f1,by omega,by omega,fun a ha=>?_⟩
  obtain ⟨_,_,_,z,z',g1,_,g2,_⟩:=S.ok.at h ha
  obtain ⟨_,_,_,v,v',k1,_,k2,_⟩:=S'.ok.at (show i<M'.Next.length by omega) (a:=a) (by rw [← hi];exact ha)
  rw [e1] at g1
  rw [f1] at k1
  injection g1 with g1
  injection k1 with k1
  subst g1
  subst k1
  exact ⟨g2,by rw [k2,(hx i a h ha).1]⟩
 have hO:M.Out=M'.Out:=row_ext (n:=M.Next.length) (k:=M.Inputs.toNat) (g:=fun i a=>ot M i a) S.ok.ol (S'.ok.ol.trans hn.symm) fun i h=>by
  obtain ⟨x,y,e1,e2,e3,e4,_⟩:=S.ok.row i h
  obtain ⟨x',y',f1,f2,f3,f4,_⟩:=S'.ok.row i (by omega)
  refine ⟨y,y',e2,f2,by omega,by omega,fun a ha=>?_⟩
  obtain ⟨_,_,_,z,z',_,g1,_,g2⟩:=S.ok.at h ha
  obtain ⟨_,_,_,v,v',_,k1,_,k2⟩:=S'.ok.at (show i<M'.Next.length by omega) (a:=a) (by rw [← hi];exact ha)
  rw [e2] at g1
  rw [f2] at k1
  injection g1 with g1
  injection k1 with k1
  subst g1
  subst k1
  exact ⟨g2,by rw [k2,(hx i a h ha).2]⟩
 have hs:M.Start=M'.Start:=S.start.trans S'.start.symm
 obtain ⟨a1,a2,a3,a4⟩:=M
 obtain ⟨b1,b2,b3,b4⟩:=M'
 simp only at hi hs hN hO
 rw [hi,hs,hN,hO]
end
structure Shape {A:Type} [DecidableEq A] (e:A→Nat→A) (o:A→Nat→Int) (L:List (A×List Int)) (M:zaa):Prop where
 len:M.Next.length=L.length
 row:∀ i x a,L[i]?=some x→a<M.Inputs.toNat→∃ y,L[nx M i a]?=some y∧y.1=e x.1 a∧ot M i a=o x.1 a
theorem nodup_at {A:Type} {l:List A} (h:l.Nodup) {i j:Nat} {x:A} (hi:l[i]?=some x) (hj:l[j]?=some x):i=j:=by
 have h1:=(List.getElem?_eq_some_iff.1 hi)
 have h2:=(List.getElem?_eq_some_iff.1 hj)
 obtain ⟨a1,a2⟩:=h1
 obtain ⟨b1,b2⟩:=h2
 rcases Nat.lt_trichotomy i j with q | q | q
 ·exact absurd (a2.trans b2.symm) (List.pairwise_iff_getElem.1 h i j a1 b1 q)
 ·exact q
 ·exact absurd (b2.trans a2.symm) (List.pairwise_iff_getElem.1 h j i b1 a1 q)
theorem shape_can {A:Type} [DecidableEq A] {e:A→Nat→A} {o:A→Nat→Int} {s0:A} {L:List (A×List Int)} {M:zaa} (hE:BfsEnd e M.Inputs.toNat s0 L) (S:Shape e o L M) (hK:0<M.Inputs.toNat):Can M:=by
 have at_:∀ i a x y j,L[i]?=some x→a<M.Inputs.toNat→L[j]?=some y→y.1=e x.1 a→nx M i a=j:=fun i a x y j hx ha hj he=>by
  obtain ⟨y',h1,h2,_⟩:=S.row i x a hx ha
  exact nodup_at hE.nodup (x:=e x.1 a) (by rw [List.getElem?_map,h1,← h2];rfl) (by rw [List.getElem?_map,hj,← he];rfl)
 refine ⟨fun i a u hi ha hu hle=>?_,fun u hu hlt=>?_⟩
 ·have hx:=get_at (l:=L) (i:=i) (by rw [← S.len];exact hi)
  obtain ⟨j,y,h1,h2,h3⟩:=hE.closed hx ha
  rw [at_ i a _ y j hx ha h1 h2] at hle
  obtain ⟨i',a',z,w,g1,g2,g3,g4,g5,g6⟩:=h3 u hu hle
  exact ⟨i',a',g1,g2,g3,at_ i' a' z w u g4 g1 g5 g6⟩
 ·have hx:=get_at (l:=L) (i:=u) (by rw [← S.len];exact hlt)
  rcases hE.from hK hx with q | ⟨i,a,y,g1,g2,g3,g4⟩
  ·omega
  ·exact ⟨i,a,g1,g2,at_ i a y _ u g3 g2 hx (by rw [g4])⟩
end Go.Proofs.YtcneaiejdidooaaGreat.Sym

/-
 The machine of what is reached: the program's Trim. Plain laws.
-/
namespace Go.Proofs.YtcneaiejdidooaaGreat.Sym
set_option maxRecDepth 100000
section
variable {m:zaa}
theorem libclone_w {w:List Int} (h:w.length≤1000000):zcl w=some w:=zhs (by unfold SmW;omega)
structure TrimOk (m t:zaa) (L:List (Nat×List Int)):Prop where
 end_:MEnd m m.Start.toNat L
 inp:t.Inputs=m.Inputs
 start:t.Start=0
 ok:MacOk t
 shape:Shape (nx m) (ot m) L t
theorem mEnd_rng (H:MacOk m) {s0:Nat} {L:List (Nat×List Int)} (hs:s0<m.Next.length) (hE:MEnd m s0 L):L.length≤m.Next.length∧∀ x∈L,x.1<m.Next.length∧dest m s0 x.2=x.1∧WOk m.Inputs x.2:=by
 refine ⟨?_,fun x hx=>?_⟩
 ·rw [hE.eq]
  exact mB_len H hs _
 ·rw [hE.eq] at hx
  have:=mB_rng H hs _ x hx
  exact ⟨this.1,this.2.2⟩
theorem mealy_Trim_eq (hv:validM m=0):∃ t L,za0 m=some (t,0)∧TrimOk m t L:=by
 have H:=valid_ok hv
 have hst:=H.st
 have hn:=H.n2
 have hI:=H.i2
 have hI1:=H.i1
 have hs:m.Start.toNat<m.Next.length:=by omega
 obtain ⟨L,hE,hR⟩:=zgr hv
 obtain ⟨hLn,hLr⟩:=mEnd_rng H hs hE
 have hnd:=hE.nodup
 unfold za0
 rw [za5,obind,hv,decide_eq_false (by decide),cond_false,hR,obind,chk_pos ⟨by omega,by omega,by unfold capOk;omega⟩]
 -- the numbers
 obtain ⟨num,hnum,hnl,hna⟩:=za4 (step:=fun (s:List Int×Nat)=>za0.s2 (natI (L.map Prod.fst)) s.1 s.2) (fun s=>s.2≤L.length∧s.1.length=m.Next.length∧∀ (j:Nat) (x:Nat×List Int),j<s.2→L[j]?=some x→s.1[x.1]?=some (↑j:Int)) (fun s=>L.length-s.2) (fun r=>r.length=m.Next.length∧∀ (j:Nat) (x:Nat×List Int),L[j]?=some x→r[x.1]?=some (↑j:Int)) (fun s ⟨q1,q2,q3⟩=>by
  obtain ⟨y,i⟩:=s
  simp only at q1 q2 q3
  simp only [za0.s2]
  by_cases g:i<L.length
  ·left
   have hx:=get_at g
   generalize L[i]=x at hx
   have hxr:=(hLr x (List.mem_of_getElem? hx)).1
   have hy:=get_at (l:=y) (i:=x.1) (by omega)
   refine ⟨(y.set x.1 (↑i:Int),i+1),?_,⟨g,by simp [q2],fun j z hj hz=>?_⟩,by simp only;omega⟩
   ·rw [decide_eq_true (by rw [natI_len,List.length_map];omega),cond_true,idxn_at (natI_at (i:=i) (u:=x.1) (by rw [List.getElem?_map,hx];rfl)),idx_at rfl hy,Int.toNat_natCast]
   ·simp only
    by_cases e:x.1=z.1
    ·have:i=j:=nodup_at hnd (x:=x.1) (by rw [List.getElem?_map,hx];rfl) (by rw [List.getElem?_map,hz,e];rfl)
     subst this
     rw [← e,List.getElem?_set_self (by omega)]
    ·rw [List.getElem?_set_ne e]
     rcases Nat.lt_or_ge j i with h | h
     ·exact q3 j z h hz
     ·have:j=i:=by simp only at hj;omega
      subst this
      rw [hx] at hz
      injection hz with hz
      rw [hz] at e
      exact absurd rfl e
  ·right
   exact ⟨y,by rw [decide_eq_false (by rw [natI_len,List.length_map];omega),cond_false],q2,fun j x hx=>q3 j x (by have:=(List.getElem?_eq_some_iff.1 hx).1;omega) hx⟩) fuel (List.replicate m.Next.length 0,0) ⟨Nat.zero_le _,by simp,fun j x h=>absurd h (Nat.not_lt_zero _)⟩ (by have:=fuel_big;simp only;omega)
 rw [hnum,obind]
 -- one row
 have row1:∀ (x:Nat×List Int) (row:List Int),x∈L→m.Next[x.1]?=some row→∃ r,iter (fun (s:List Int×Nat)=>za0.s15 num row s.1 s.2) fuel (List.replicate (Int.toNat m.Inputs) 0,0)=some r∧r.length=m.Inputs.toNat∧∀ a,a<m.Inputs.toNat→∃ (j:Nat) (y:Nat×List Int),L[j]?=some y∧y.1=nx m x.1 a∧r[a]?=some (↑j:Int):=by
  intro x row hx hrow
  have hxr:=(hLr x hx).1
  have hrl:row.length=m.Inputs.toNat:=by
   obtain ⟨x',y',h1,_,h3,_⟩:=H.row x.1 hxr
   rw [hrow] at h1
   injection h1 with h1
   subst h1
   omega
  obtain ⟨i,hi⟩:=List.mem_iff_getElem?.1 hx
  exact za4 (step:=fun (s:List Int×Nat)=>za0.s15 num row s.1 s.2) (fun s=>s.2≤m.Inputs.toNat∧s.1.length=m.Inputs.toNat∧∀ a,a<s.2→∃ (j:Nat) (y:Nat×List Int),L[j]?=some y∧y.1=nx m x.1 a∧s.1[a]?=some (↑j:Int)) (fun s=>m.Inputs.toNat-s.2) (fun r=>r.length=m.Inputs.toNat∧∀ a,a<m.Inputs.toNat→∃ (j:Nat) (y:Nat×List Int),L[j]?=some y∧y.1=nx m x.1 a∧r[a]?=some (↑j:Int)) (fun s ⟨q1,q2,q3⟩=>by
   obtain ⟨y,a⟩:=s
   simp only at q1 q2 q3
   simp only [za0.s15]
   by_cases g:a<m.Inputs.toNat
   ·left
    obtain ⟨h1,_,_,x',y',h2,_,h4,_⟩:=H.at hxr g
    rw [hrow] at h2
    injection h2 with h2
    subst h2
    obtain ⟨j,z,z1,z2,_⟩:=hE.closed hi g
    have hy:=get_at (l:=y) (i:=a) (by omega)
    have hnz:=hna j z z1
    rw [z2] at hnz
    refine ⟨(y.set a (↑j:Int),a+1),?_,⟨g,by simp [q2],fun b hb=>?_⟩,by simp only;omega⟩
    ·rw [decide_eq_true (by omega),cond_true,idxn_at h4,idx_at rfl hnz,idxn_at hy]
    ·simp only
     by_cases e:a=b
     ·subst e
      exact ⟨j,z,z1,z2,by rw [List.getElem?_set_self (by omega)]⟩
     ·obtain ⟨j',z',w1,w2,w3⟩:=q3 b (by simp only at hb;omega)
      exact ⟨j',z',w1,w2,by rw [List.getElem?_set_ne e,w3]⟩
   ·right
    have:a=m.Inputs.toNat:=by omega
    subst this
    exact ⟨y,by rw [decide_eq_false (by omega),cond_false],q2,q3⟩) fuel (List.replicate (Int.toNat m.Inputs) 0,0) ⟨Nat.zero_le _,by simp,fun a h=>absurd h (Nat.not_lt_zero _)⟩ (by have:=fuel_big;simp only;omega)
 -- all rows
 obtain ⟨r,hr,P,Q,rfl,p1,p2,p3⟩:=za4 (step:=fun (s:List (List Int)×List (List Int)×Nat)=>za0.s16 m (natI (L.map Prod.fst)) num s.1 s.2.1 s.2.2) (fun s=>s.2.2≤L.length∧s.1.length=s.2.2∧s.2.1.length=s.2.2∧∀ (i:Nat) (x:Nat×List Int),i<s.2.2→L[i]?=some x→(∃ r,s.1[i]?=some r∧r.length=m.Inputs.toNat∧∀ a,a<m.Inputs.toNat→∃ (j:Nat) (y:Nat×List Int),L[j]?=some y∧y.1=nx m x.1 a∧r[a]?=some (↑j:Int))∧s.2.1[i]?=m.Out[x.1]?) (fun s=>L.length-s.2.2) (fun r=>∃ P Q,r=(P,Q)∧P.length=L.length∧Q.length=L.length∧∀ (i:Nat) (x:Nat×List Int),L[i]?=some x→(∃ r,P[i]?=some r∧r.length=m.Inputs.toNat∧∀ a,a<m.Inputs.toNat→∃ (j:Nat) (y:Nat×List Int),L[j]?=some y∧y.1=nx m x.1 a∧r[a]?=some (↑j:Int))∧Q[i]?=m.Out[x.1]?) (fun s ⟨q1,q2,q3,q4⟩=>by
  obtain ⟨P,Q,i⟩:=s
  simp only at q1 q2 q3 q4
  simp only [za0.s16]
  by_cases g:i<L.length
  ·left
   have hx:=get_at g
   generalize L[i]=x at hx
   have hxm:=List.mem_of_getElem? hx
   have hxr:=(hLr x hxm).1
   obtain ⟨row,out,e1,e2,e3,e4,_⟩:=H.row x.1 hxr
   obtain ⟨r,f1,f2,f3⟩:=row1 x row hxm e1
   refine ⟨(P++[r],Q++[out],i+1),?_,⟨g,by simp [q2],by simp [q3],fun j z hj hz=>?_⟩,by simp only;omega⟩
   ·rw [decide_eq_true (by rw [natI_len,List.length_map];omega),cond_true,idxn_at (natI_at (i:=i) (u:=x.1) (by rw [List.getElem?_map,hx];rfl)),chk_pos ⟨by omega,by omega,by unfold capOk;omega⟩,idx_at rfl e1,f1,obind,chk_pos (by unfold capOk;omega),idx_at rfl e2,libclone_w (by omega),obind,chk_pos (by unfold capOk;omega)]
   ·simp only
    rcases Nat.lt_or_ge j i with h | h
    ·obtain ⟨⟨r',w1,w2⟩,w3⟩:=q4 j z h hz
     exact ⟨⟨r',by rw [List.getElem?_append_left (by omega),w1],w2⟩,by rw [List.getElem?_append_left (by omega),w3]⟩
    ·have:j=i:=by simp only at hj;omega
     subst this
     rw [hx] at hz
     injection hz with hz
     subst hz
     refine ⟨⟨r,?_,f2,f3⟩,?_⟩
     ·rw [List.getElem?_append_right (by omega),q2,Nat.sub_self]
      rfl
     ·rw [List.getElem?_append_right (by omega),q3,Nat.sub_self,e2]
      rfl
  ·right
   have:i=L.length:=by omega
   subst this
   exact ⟨_,by rw [decide_eq_false (by rw [natI_len,List.length_map];omega),cond_false],P,Q,rfl,q2,q3,fun j x hx=>q4 j x (List.getElem?_eq_some_iff.1 hx).1 hx⟩) fuel ([],[],0) ⟨Nat.zero_le _,rfl,rfl,fun i x h=>absurd h (Nat.not_lt_zero _)⟩ (by have:=fuel_big;simp only;omega)
 rw [hr,obind]
 have hL0:0<L.length:=(List.getElem?_eq_some_iff.1 hE.first).1
 have hsh:∀ i x a,L[i]?=some x→a<m.Inputs.toNat→∃ (j:Nat) (y:Nat×List Int),L[j]?=some y∧y.1=nx m x.1 a∧nx (⟨m.Inputs,0,P,Q⟩:zaa) i a=j∧ot (⟨m.Inputs,0,P,Q⟩:zaa) i a=ot m x.1 a:=fun i x a hx ha=>by
  obtain ⟨⟨r,w1,w2,w3⟩,w4⟩:=p3 i x hx
  obtain ⟨j,y,z1,z2,z3⟩:=w3 a ha
  refine ⟨j,y,z1,z2,?_,?_⟩
  ·unfold nx
   simp only
   rw [w1,Option.getD_some,z3,Option.getD_some,Int.toNat_natCast]
  ·unfold ot
   simp only
   rw [w4]
 refine ⟨⟨m.Inputs,0,P,Q⟩,L,rfl,hE,rfl,rfl,⟨hI1,hI,by simp only;omega,by simp only;omega,⟨Int.le_refl 0,by simp only;omega⟩,by simp only;omega,fun i hi=>?_⟩,⟨p1,fun i x a hx ha=>?_⟩⟩
 ·simp only at hi ⊢
  have hx:=get_at (l:=L) (i:=i) (by omega)
  obtain ⟨⟨r,w1,w2,w3⟩,w4⟩:=p3 i _ hx
  obtain ⟨row,out,e1,e2,e3,e4,e5,e6⟩:=H.row L[i].1 (hLr _ (List.mem_of_getElem? hx)).1
  refine ⟨r,out,w1,by rw [w4,e2],by omega,e4,fun u hu=>?_,e6⟩
  obtain ⟨a,ha,rfl⟩:=List.mem_iff_getElem.1 hu
  obtain ⟨j,y,z1,z2,z3⟩:=w3 a (by omega)
  rw [get_at ha] at z3
  injection z3 with z3
  have:=(List.getElem?_eq_some_iff.1 z1).1
  omega
 ·obtain ⟨j,y,z1,z2,z3,z4⟩:=hsh i x a hx ha
  exact ⟨y,by rw [z3];exact z1,z2,z4⟩
theorem trim_outs {t:zaa} {L:List (Nat×List Int)} (T:TrimOk m t L):∀ (w:List Int) (i:Nat) (x:Nat×List Int),L[i]?=some x→WOk m.Inputs w→outs t i w=outs m x.1 w
 | [],_,_,_,_=>rfl
 | z::w,i,x,hx,hw=>by
  have hz:=hw.head
  obtain ⟨y,h1,h2,h3⟩:=T.shape.row i x z.toNat hx (by rw [T.inp];omega)
  have:=trim_outs T w _ y h1 hw.tail
  show ot t i z.toNat::outs t (nx t i z.toNat) w=ot m x.1 z.toNat::outs m (nx m x.1 z.toNat) w
  rw [h3,this,h2]
end
end Go.Proofs.YtcneaiejdidooaaGreat.Sym

/-
 Classes of equivalent states: the program's refinement. Plain laws.
-/
namespace Go.Proofs.YtcneaiejdidooaaGreat.Sym
set_option maxRecDepth 100000
section
variable {κ ν:Type} [BEq κ]
theorem mset_new {k:κ} {v:ν}:∀ {m:List (κ×ν)},mget k m=none→mset k v m=m++[(k,v)]
 | [],_=>rfl
 | p::m,h=>by
  unfold mget at h
  unfold mset
  cases e:k==p.1 with
  | true=>rw [e] at h;cases h
  | false =>
   rw [e] at h
   show p::mset k v m=_
   rw [mset_new h]
   rfl
end
theorem li_beq (a b:List Int):(a==b)=true↔a=b:=beq_iff_eq
section
variable {m:zaa} {c:List Int}
def sigV (m:zaa) (c:List Int) (s a p:Nat):Int:=if p<a then ot m s p else if 64≤p∧p-64<a then (c[nx m s (p-64)]?).getD 0 else 0
def sigA (m:zaa) (c:List Int) (s:Nat):List Int:=(List.range 128).map (sigV m c s m.Inputs.toNat)
theorem sigA_at (s:Nat) {p:Nat} (hp:p<128):(sigA m c s)[p]?=some (sigV m c s m.Inputs.toNat p):=by
 unfold sigA
 rw [List.getElem?_map,List.getElem?_range hp]
 rfl
theorem sigA_len (s:Nat):(sigA m c s).length=128:=by simp [sigA]
theorem sigV_lo {s a K:Nat} (h:a<K):sigV m c s K a=ot m s a:=if_pos h
theorem sigV_hi {s a K:Nat} (h:a<K) (hK:K≤64):sigV m c s K (64+a)=(c[nx m s a]?).getD 0:=by
 unfold sigV
 have h1:¬ 64+a<K:=by omega
 have h2:64≤64+a∧64+a-64<K:=by omega
 have h3:64+a-64=a:=by omega
 rw [if_neg h1,if_pos h2,h3]
theorem sigA_eq (hI:m.Inputs≤64) {s t:Nat}:sigA m c s=sigA m c t↔∀ a,a<m.Inputs.toNat→ot m s a=ot m t a∧(c[nx m s a]?).getD 0=(c[nx m t a]?).getD 0:=by
 constructor
 ·intro h a ha
  have h1:=sigA_at (m:=m) (c:=c) s (p:=a) (by omega)
  rw [h,sigA_at t (by omega)] at h1
  injection h1 with h1
  rw [sigV_lo ha,sigV_lo ha] at h1
  have h2:=sigA_at (m:=m) (c:=c) s (p:=64+a) (by omega)
  rw [h,sigA_at t (by omega)] at h2
  injection h2 with h2
  rw [sigV_hi ha (by omega),sigV_hi ha (by omega)] at h2
  exact ⟨h1.symm,h2.symm⟩
 ·intro h
  unfold sigA
  refine List.map_congr_left fun p _=>?_
  unfold sigV
  by_cases h1:p<m.Inputs.toNat
  ·rw [if_pos h1,if_pos h1,(h p h1).1]
  ·rw [if_neg h1,if_neg h1]
   by_cases h2:64≤p∧p-64<m.Inputs.toNat
   ·rw [if_pos h2,if_pos h2,(h _ h2.2).2]
   ·rw [if_neg h2,if_neg h2]
theorem sig_loop (H:MacOk m) (hc:c.length=m.Next.length) {s:Nat} (hs:s<m.Next.length):iter (fun (q:List Int×Nat)=>zaq.s18 m c s q.1 q.2) fuel (List.replicate 128 0,0)=some (sigA m c s):=by
 have hI:=H.i2
 refine iter_eq (fun q=>q.2≤m.Inputs.toNat∧q.1=(List.range 128).map (sigV m c s q.2)) (fun q=>m.Inputs.toNat-q.2) (fun q hq=>?_) ⟨Nat.zero_le _,?_⟩ (by have:=fuel_big;simp only;omega)
 ·obtain ⟨y,a⟩:=q
  obtain ⟨q1,q2⟩:=hq
  simp only at q1 q2
  rw [q2]
  simp only [zaq.s18]
  by_cases g:a<m.Inputs.toNat
  ·left
   obtain ⟨h1,_,_,x,o,e1,e2,e3,e4⟩:=H.at hs g
   have hcx:=get_at (l:=c) (i:=nx m s a) (by omega)
   have hr:∀ p,p<128→((List.range 128).map (sigV m c s a))[p]?=some (sigV m c s a p):=fun p hp=>by
    rw [List.getElem?_map,List.getElem?_range hp]
    rfl
   refine ⟨((List.range 128).map (sigV m c s (a+1)),a+1),?_,⟨g,rfl⟩,by simp only;omega⟩
   rw [decide_eq_true (by omega),cond_true,idxn_at e2,idxn_at e4,chk_pos (by omega),idxn_at (hr a (by omega)),chk_pos (by unfold inR;omega),idxn_at e1,idxn_at e3,idx_at rfl hcx,chk_pos (by omega),idxn_at (x:=sigV m c s a (64+a)) (by rw [List.getElem?_set_ne (by omega),hr _ (by omega)]),chk_pos (by unfold inR;omega)]
   congr 4
   refine List.ext_getElem? fun p=>?_
   rcases Nat.lt_or_ge p 128 with hp | hp
   ·rw [List.getElem?_map (f:=sigV m c s (a+1)),List.getElem?_range hp,Option.map_some]
    by_cases p1:64+a=p
    ·subst p1
     rw [List.getElem?_set_self (by simp;omega)]
     congr 1
     unfold sigV
     rw [if_neg (by omega),if_pos (by omega),show 64+a-64=a by omega,hcx,Option.getD_some]
    ·rw [List.getElem?_set_ne p1]
     by_cases p2:a=p
     ·subst p2
      rw [List.getElem?_set_self (by simp;omega)]
      congr 1
      unfold sigV
      rw [if_pos (by omega)]
     ·rw [List.getElem?_set_ne p2,hr p hp]
      congr 1
      unfold sigV
      by_cases p3:p<a
      ·rw [if_pos p3,if_pos (by omega)]
      ·have p5:¬ p<a+1:=by omega
       rw [if_neg p3,if_neg p5]
       by_cases p4:64≤p∧p-64<a
       ·have p6:64≤p∧p-64<a+1:=by omega
        rw [if_pos p4,if_pos p6]
       ·have p6:¬ (64≤p∧p-64<a+1):=by omega
        rw [if_neg p4,if_neg p6]
   ·rw [List.getElem?_eq_none (by simp;omega),List.getElem?_eq_none (by simp;omega)]
  ·right
   have:a=m.Inputs.toNat:=by omega
   subst this
   rw [decide_eq_false (by omega),cond_false]
   rfl
 ·simp only
  refine List.ext_getElem? fun p=>?_
  rcases Nat.lt_or_ge p 128 with hp | hp
  ·rw [List.getElem?_replicate,if_pos hp,List.getElem?_map,List.getElem?_range hp,Option.map_some]
   unfold sigV
   rw [if_neg (by omega),if_neg (by omega)]
  ·rw [List.getElem?_eq_none (by simp;omega),List.getElem?_eq_none (by simp;omega)]
def FirstOcc (o:List Int):Prop:=∀ (s x:Nat),o[s]?=some (↑x:Int)→∀ u:Nat,u<x→∃ s',s'<s∧o[s']?=some (↑u:Int)
structure ClsF (m:zaa) (k:Nat) (c:List Int):Prop where
 cls:ClsOk m k c
 first:FirstOcc c
theorem E_of_next (H:MacOk m):∀ {k s t:Nat},s<m.Next.length→t<m.Next.length→(∀ a,a<m.Inputs.toNat→ot m s a=ot m t a∧E m k (nx m s a) (nx m t a))→E m (k+1) s t
 | 0,_,_,_,_,h=>⟨trivial,h⟩
 | _+1,_,_,hs,ht,h=>⟨E_of_next H hs ht fun a ha=>⟨(h a ha).1,(h a ha).2.1⟩,h⟩
theorem sig_iff (H:MacOk m) {k:Nat} (C:ClsOk m k c) {s t:Nat} (hs:s<m.Next.length) (ht:t<m.Next.length):sigA m c s=sigA m c t↔E m (k+1) s t:=by
 rw [sigA_eq H.i2]
 have hq:∀ a,a<m.Inputs.toNat→((c[nx m s a]?).getD 0=(c[nx m t a]?).getD 0↔E m k (nx m s a) (nx m t a)):=fun a ha=>by
  have h1:=(H.at hs ha).1
  have h2:=(H.at ht ha).1
  rw [← C.cls _ _ h1 h2]
  obtain ⟨x,x1,_⟩:=C.rng _ h1
  obtain ⟨y,y1,_⟩:=C.rng _ h2
  rw [x1,y1,Option.getD_some,Option.getD_some]
  exact ⟨fun h=>by rw [h],fun h=>by injection h⟩
 constructor
 ·exact fun h=>E_of_next H hs ht fun a ha=>⟨(h a ha).1,(hq a ha).1 (h a ha).2⟩
 ·exact fun h a ha=>⟨(h.2 a ha).1,(hq a ha).2 (h.2 a ha).2⟩
structure Giv (m:zaa) (c:List Int) (mp:List (List Int×Int)) (o:List Int) (s:Nat):Prop where
 len:o.length=m.Next.length
 keys:∀ p∈mp,p.1.length=128
 le:mp.length≤s
 get:∀ s',s'<s→∃ x:Nat,x<mp.length∧o[s']?=some (↑x:Int)∧mget (sigA m c s') mp=some (↑x:Int)
 org:∀ k v,mget k mp=some v→∃ s',s'<s∧sigA m c s'=k
 inj:∀ s' s'',s'<s→s''<s→o[s']?=o[s'']?→sigA m c s'=sigA m c s''
 first:∀ (s' x:Nat),s'<s→o[s']?=some (↑x:Int)→∀ u:Nat,u<x→∃ s'',s''<s'∧o[s'']?=some (↑u:Int)
 all:∀ u:Nat,u<mp.length→∃ s',s'<s∧o[s']?=some (↑u:Int)
open Classical in
theorem zi5 (H:MacOk m) {k:Nat} (C:ClsOk m k c):∃ (c':List Int) (n:Nat),zaq m c=some (c',(↑n:Int))∧ClsF m (k+1) c'∧n=nreps m (k+1):=by
 have hn:=H.n2
 have hc:=C.len
 unfold zaq
 rw [chk_pos ⟨by omega,by omega,by unfold capOk;omega⟩]
 obtain ⟨r,hr,mp,o,rfl,G,hcnt⟩:=za4 (step:=fun (s:(List (List Int×Int))×List Int×Nat)=>zaq.s20 m c s.1 s.2.1 s.2.2) (fun s=>s.2.2≤m.Next.length∧Giv m c s.1 s.2.1 s.2.2∧s.1.length=(List.range s.2.2).countP fun s=>decide (Rep m (k+1) s)) (fun s=>m.Next.length-s.2.2) (fun r=>∃ mp o,r=(mp,o)∧Giv m c mp o m.Next.length∧mp.length=nreps m (k+1)) (fun s ⟨q1,G,q3⟩=>by
  obtain ⟨mp,o,s⟩:=s
  simp only at q1 G q3
  simp only [zaq.s20]
  by_cases g:s<m.Next.length
  ·left
   have hlen:=sigA_len (m:=m) (c:=c) s
   have hmle:=G.le
   have ho:=get_at (l:=o) (i:=s) (by rw [G.len];exact g)
   rw [decide_eq_true (by omega),cond_true,sig_loop H hc g,obind,chk_pos hlen,chk_pos ⟨hlen,G.keys⟩]
   have hrep:(mget (sigA m c s) mp=none)↔Rep m (k+1) s:=by
    constructor
    ·intro h t ht hE
     obtain ⟨x,_,_,x3⟩:=G.get t ht
     rw [← (sig_iff H C g (by omega)).2 hE,h] at x3
     cases x3
    ·intro h
     cases e:mget (sigA m c s) mp with
     | none=>rfl
     | some v =>
      obtain ⟨s',h1,h2⟩:=G.org _ _ e
      exact absurd ((sig_iff H C g (by omega)).1 h2.symm) (h s' h1)
   have hcount:(List.range (s+1)).countP (fun s=>decide (Rep m (k+1) s))=(List.range s).countP (fun s=>decide (Rep m (k+1) s))+if Rep m (k+1) s then 1 else 0:=by
    rw [List.range_succ,List.countP_append]
    congr 1
    by_cases h:Rep m (k+1) s
    ·rw [if_pos h,List.countP_singleton,decide_eq_true h]
     rfl
    ·rw [if_neg h,List.countP_singleton,decide_eq_false h]
     rfl
   have setlt:∀ {s':Nat} {v:Int},s'<s→(o.set s v)[s']?=o[s']?:=fun h=>List.getElem?_set_ne (by omega)
   have setat:∀ {v:Int},(o.set s v)[s]?=some v:=List.getElem?_set_self (by rw [G.len];exact g)
   cases e:mget (sigA m c s) mp with
   | none =>
    have hR:=hrep.1 e
    have hms:mset (sigA m c s) (↑mp.length:Int) mp=mp++[(sigA m c s,(↑mp.length:Int))]:=mset_new e
    refine ⟨(mset (sigA m c s) (↑mp.length:Int) mp,o.set s (↑mp.length:Int),s+1),?_,⟨g,?_,?_⟩,by simp only;omega⟩
    ·rw [Option.isSome_none,Bool.not_false,cond_true,chk_pos hlen,chk_pos ⟨hlen,G.keys⟩,obind]
     simp only [zaq.k19]
     rw [idxn_at ho]
    ·simp only
     refine ⟨by simp [G.len],?_,by rw [hms];simp;omega,?_,?_,?_,?_,?_⟩
     ·intro p hp
      rw [hms] at hp
      rcases List.mem_append.1 hp with h | h
      ·exact G.keys p h
      ·have:p=(sigA m c s,(↑mp.length:Int)):=by simpa using h
       rw [this]
       exact hlen
     ·intro s' hs'
      by_cases h:s'<s
      ·obtain ⟨x,x1,x2,x3⟩:=G.get s' h
       refine ⟨x,by rw [hms];simp;omega,by rw [setlt h,x2],?_⟩
       rw [zgd li_beq (fun q=>?_),x3]
       rw [q,e] at x3
       cases x3
      ·have:s'=s:=by omega
       subst this
       exact ⟨mp.length,by rw [hms];simp,setat,zgt li_beq mp⟩
     ·intro kk v hv
      by_cases h:kk=sigA m c s
      ·exact ⟨s,by omega,h.symm⟩
      ·rw [zgd li_beq h] at hv
       obtain ⟨s',h1,h2⟩:=G.org _ _ hv
       exact ⟨s',by omega,h2⟩
     ·have fresh:∀ s',s'<s→o[s']?≠some (↑mp.length:Int):=fun s' h q=>by
       obtain ⟨x,x1,x2,_⟩:=G.get s' h
       rw [x2] at q
       injection q with q
       omega
      intro s' s'' h1 h2 h3
      by_cases a1:s'<s<;>by_cases a2:s''<s
      ·rw [setlt a1,setlt a2] at h3
       exact G.inj _ _ a1 a2 h3
      ·have:s''=s:=by omega
       subst this
       rw [setlt a1,setat] at h3
       exact absurd h3 (fresh s' a1)
      ·have:s'=s:=by omega
       subst this
       rw [setlt a2,setat] at h3
       exact absurd h3.symm (fresh s'' a2)
      ·have:s'=s'':=by omega
       rw [this]
     ·intro s' x h1 h2 u hu
      by_cases a1:s'<s
      ·rw [setlt a1] at h2
       obtain ⟨s'',z1,z2⟩:=G.first s' x a1 h2 u hu
       exact ⟨s'',z1,by rw [setlt (by omega),z2]⟩
      ·have:s'=s:=by omega
       subst this
       rw [setat] at h2
       injection h2 with h2
       obtain ⟨s'',z1,z2⟩:=G.all u (by omega)
       exact ⟨s'',z1,by rw [setlt z1,z2]⟩
     ·intro u hu
      rw [hms] at hu
      simp at hu
      rcases Nat.lt_or_ge u mp.length with h | h
      ·obtain ⟨s',z1,z2⟩:=G.all u h
       exact ⟨s',by omega,by rw [setlt z1,z2]⟩
      ·have:u=mp.length:=by omega
       subst this
       exact ⟨s,by omega,setat⟩
    ·simp only
     rw [hcount,if_pos hR,hms,← q3]
     simp
   | some v =>
    have hR:¬ Rep m (k+1) s:=fun q=>by
     rw [hrep.2 q] at e
     cases e
    obtain ⟨t,ht,hts⟩:=G.org _ _ e
    obtain ⟨x,x1,x2,x3⟩:=G.get t ht
    have hv:v=(↑x:Int):=by
     rw [hts,e] at x3
     injection x3
    refine ⟨(mp,o.set s v,s+1),?_,⟨g,?_,?_⟩,by simp only;omega⟩
    ·rw [Option.isSome_some,Bool.not_true,cond_false,Option.getD_some,obind]
     simp only [zaq.k19]
     rw [idxn_at ho]
    ·simp only
     refine ⟨by simp [G.len],G.keys,by omega,?_,?_,?_,?_,?_⟩
     ·intro s' hs'
      by_cases h:s'<s
      ·obtain ⟨x,y1,y2,y3⟩:=G.get s' h
       exact ⟨x,y1,by rw [setlt h,y2],y3⟩
      ·have:s'=s:=by omega
       subst this
       exact ⟨x,x1,by rw [setat,hv],by rw [e,hv]⟩
     ·intro kk v hv
      obtain ⟨s',h1,h2⟩:=G.org _ _ hv
      exact ⟨s',by omega,h2⟩
     ·intro s' s'' h1 h2 h3
      by_cases a1:s'<s<;>by_cases a2:s''<s
      ·rw [setlt a1,setlt a2] at h3
       exact G.inj _ _ a1 a2 h3
      ·have:s''=s:=by omega
       subst this
       rw [setlt a1,setat,hv,← x2] at h3
       rw [← hts]
       exact G.inj _ _ a1 ht h3
      ·have:s'=s:=by omega
       subst this
       rw [setlt a2,setat,hv,← x2] at h3
       rw [← hts]
       exact G.inj _ _ ht a2 h3
      ·have:s'=s'':=by omega
       rw [this]
     ·intro s' y h1 h2 u hu
      by_cases a1:s'<s
      ·rw [setlt a1] at h2
       obtain ⟨s'',z1,z2⟩:=G.first s' y a1 h2 u hu
       exact ⟨s'',z1,by rw [setlt (by omega),z2]⟩
      ·have:s'=s:=by omega
       subst this
       rw [setat] at h2
       injection h2 with h2
       obtain ⟨s'',z1,z2⟩:=G.first t x ht x2 u (by omega)
       exact ⟨s'',by omega,by rw [setlt (by omega),z2]⟩
     ·intro u hu
      obtain ⟨s',z1,z2⟩:=G.all u hu
      exact ⟨s',by omega,by rw [setlt z1,z2]⟩
    ·simp only
     rw [hcount,if_neg hR,← q3,Nat.add_zero]
  ·right
   have:s=m.Next.length:=by omega
   subst this
   exact ⟨_,by rw [decide_eq_false (by omega),cond_false],mp,o,rfl,G,q3⟩) fuel ([],List.replicate c.length 0,0) ⟨Nat.zero_le _,⟨by simp [hc],fun p hp=>(by cases hp),Nat.le_refl _,fun s' h=>absurd h (Nat.not_lt_zero _),fun k v h=>(by cases h),fun s' _ h=>absurd h (Nat.not_lt_zero _),fun s' _ h=>absurd h (Nat.not_lt_zero _),fun u h=>absurd h (Nat.not_lt_zero _)⟩,rfl⟩ (by have:=fuel_big;simp only;omega)
 refine ⟨o,mp.length,by rw [hr,obind];rfl,⟨⟨G.len,fun s hs=>?_,fun s t hs ht=>?_⟩,fun s x hx=>G.first s x (by rw [← G.len];exact (List.getElem?_eq_some_iff.1 hx).1) hx⟩,hcnt⟩
 ·obtain ⟨x,x1,x2,_⟩:=G.get s hs
  have:=G.le
  exact ⟨x,x2,by omega⟩
 ·rw [← sig_iff H C hs ht]
  constructor
  ·exact G.inj s t hs ht
  ·intro h
   obtain ⟨x,_,x2,x3⟩:=G.get s hs
   obtain ⟨y,_,y2,y3⟩:=G.get t ht
   rw [h,y3] at x3
   rw [x2,y2,x3]
open Classical in
theorem zhr (H:MacOk m):∃ c i,zbg m 128=some (c,i)∧ClsF m m.Next.length c:=by
 have hn:=H.n2
 have hn1:=H.n1
 have hmin:(min (max (128:Int) 0) (↑m.Next.length:Int))=(↑m.Next.length:Int):=by omega
 unfold zbg
 rw [chk_pos ⟨by omega,by omega,by unfold capOk;omega⟩]
 obtain ⟨r,hr,hq⟩:=za4 (step:=fun (s:List Int×Int×Nat)=>zbg.s2 m 128 s.1 s.2.1 s.2.2) (fun s=>s.2.2≤m.Next.length∧ClsF m s.2.2 s.1∧s.2.1=(↑(nreps m s.2.2):Int)) (fun s=>m.Next.length-s.2.2) (fun r=>(∃ c,r=.inl c∧ClsF m m.Next.length c)∨∃ c i,r=.inr (c,i)∧ClsF m m.Next.length c) (fun s ⟨q1,q2,q3⟩=>by
  obtain ⟨c,n,i⟩:=s
  simp only at q1 q2 q3
  simp only [zbg.s2]
  rw [hmin]
  by_cases g:i<m.Next.length
  ·obtain ⟨c',n',h1,h2,h3⟩:=zi5 H q2.cls
   rw [decide_eq_true (by omega),cond_true,h1,obind]
   by_cases e:n'=nreps m i
   ·right
    rw [decide_eq_true (by simp only;omega),cond_true]
    refine ⟨_,rfl,Or.inr ⟨c,_,rfl,⟨⟨q2.cls.len,q2.cls.rng,fun s t hs ht=>?_⟩,q2.first⟩⟩⟩
    rw [q2.cls.cls s t hs ht]
    have hS:Stab m i:=stab_of (by omega)
    constructor
    ·intro h
     have key:∀ j,E m (i+j) s t:=by
      intro j
      induction j with
      | zero=>exact h
      | succ j ih=>exact stab_add H hS j s t hs ht ih
     have:=key (m.Next.length-i)
     rwa [show i+(m.Next.length-i)=m.Next.length by omega] at this
    ·exact E_mono (by omega)
   ·left
    exact ⟨(c',(↑n':Int),i+1),by rw [decide_eq_false (by simp only;omega),cond_false],⟨g,h2,by simp only;rw [h3]⟩,by simp only;omega⟩
  ·right
   have:i=m.Next.length:=by omega
   subst this
   exact ⟨_,by rw [decide_eq_false (by omega),cond_false],Or.inl ⟨c,rfl,q2⟩⟩) fuel (List.replicate m.Next.length 0,1,0) ⟨Nat.zero_le _,⟨⟨by simp,fun s hs=>⟨0,by simp [hs],hn1⟩,fun s t hs ht=>⟨fun _=>trivial,fun _=>by simp [hs,ht]⟩⟩,fun s x hx u hu=>by
    have:=(List.getElem?_eq_some_iff.1 hx).2
    simp at this
    omega⟩,by
    simp only
    have:nreps m 0=1:=by
     unfold nreps
     have h0:∀ n,0<n→(List.range n).countP (fun s=>decide (Rep m 0 s))=1:=by
      intro n
      induction n with
      | zero=>intro h;omega
      | succ n ih =>
       intro _
       rw [List.range_succ,List.countP_append,List.countP_singleton]
       by_cases hz:n=0
       ·subst hz
        rw [decide_eq_true (show Rep m 0 0 from fun t ht=>absurd ht (Nat.not_lt_zero _))]
        rfl
       ·rw [ih (by omega),decide_eq_false (show ¬ Rep m 0 n from fun q=>q 0 (by omega) trivial)]
        rfl
     exact h0 _ hn1
    rw [this]
    rfl⟩ (by have:=fuel_big;simp only;omega)
 rw [hr,obind]
 rcases hq with ⟨c,rfl,h⟩ | ⟨c,i,rfl,h⟩
 ·exact ⟨c,_,rfl,h⟩
 ·exact ⟨c,i,rfl,h⟩
theorem zg4 (hv:validM m=0):∃ c,zcn m=some (c,0)∧ClsF m m.Next.length c:=by
 obtain ⟨c,i,h1,h2⟩:=zhr (valid_ok hv)
 refine ⟨c,?_,h2⟩
 unfold zcn zcu
 rw [za5,obind,hv,decide_eq_false (by decide),cond_false,h1,obind,obind]
end
end Go.Proofs.YtcneaiejdidooaaGreat.Sym

/-
 The program's minimal machine. Plain laws.
-/
namespace Go.Proofs.YtcneaiejdidooaaGreat.Sym
set_option maxRecDepth 100000
section
variable {m t:zaa} {c:List Int}
def IsFirst (c:List Int) (s u:Nat):Prop:=c[s]?=some (↑u:Int)∧∀ s',s'<s→c[s']?≠some (↑u:Int)
theorem first_lt (F:FirstOcc c) {s u i v:Nat} (hs:IsFirst c s u) (hi:i<s) (hv:c[i]?=some (↑v:Int)):v<u:=by
 rcases Nat.lt_trichotomy v u with h | h | h
 ·exact h
 ·rw [h] at hv
  exact absurd hv (hs.2 i hi)
 ·obtain ⟨s',h1,h2⟩:=F i v hv u h
  exact absurd h2 (hs.2 s' (by omega))
theorem first_le (F:FirstOcc c) {s u i v:Nat} (hs:IsFirst c s u) (hv:c[i]?=some (↑v:Int)) (hu:u≤v):s≤i:=by
 rcases Nat.lt_or_ge i s with h | h
 ·have:=first_lt F hs h hv
  omega
 ·exact h
structure Quo (t M:zaa) (c:List Int):Prop where
 inp:M.Inputs=t.Inputs
 start:M.Start=0
 len:M.Out.length=M.Next.length
 ub:∀ s,s<t.Next.length→∃ x:Nat,c[s]?=some (↑x:Int)∧x<M.Next.length
 row:∀ u,u<M.Next.length→∃ s r o,s<t.Next.length∧IsFirst c s u∧M.Next[u]?=some r∧M.Out[u]?=some o∧r.length=t.Inputs.toNat∧(∀ a,a<t.Inputs.toNat→r[a]?=c[nx t s a]?)∧t.Out[s]?=some o
 le:M.Next.length≤t.Next.length
variable {M:zaa}
theorem quo_nx (H:MacOk t) (Q:Quo t M c) {u:Nat} (hu:u<M.Next.length):∃ s,s<t.Next.length∧IsFirst c s u∧∀ a,a<t.Inputs.toNat→c[nx t s a]?=some (↑(nx M u a):Int)∧ot M u a=ot t s a:=by
 obtain ⟨s,r,o,h1,h2,h3,h4,h5,h6,h7⟩:=Q.row u hu
 refine ⟨s,h1,h2,fun a ha=>?_⟩
 obtain ⟨x,x1,_⟩:=Q.ub _ (H.at h1 ha).1
 have hr:=h6 a ha
 rw [x1] at hr
 refine ⟨?_,?_⟩
 ·rw [x1]
  unfold nx
  rw [h3,Option.getD_some,hr,Option.getD_some,Int.toNat_natCast]
 ·unfold ot
  rw [h4,h7]
theorem quo_step (H:MacOk t) (C:ClsF t t.Next.length c) {s s' a:Nat} (hs:s<t.Next.length) (hs':s'<t.Next.length) (h:c[s]?=c[s']?) (ha:a<t.Inputs.toNat):ot t s a=ot t s' a∧c[nx t s a]?=c[nx t s' a]?:=by
 have h1:=E_all H hs hs' ((C.cls.cls s s' hs hs').1 h) (t.Next.length+1)
 exact ⟨(h1.2 a ha).1,(C.cls.cls _ _ (H.at hs ha).1 (H.at hs' ha).1).2 (h1.2 a ha).2⟩
theorem quo_outs (H:MacOk t) (C:ClsF t t.Next.length c) (Q:Quo t M c):∀ (w:List Int) (s u:Nat),s<t.Next.length→c[s]?=some (↑u:Int)→WOk t.Inputs w→outs M u w=outs t s w
 | [],_,_,_,_,_=>rfl
 | z::w,s,u,hs,hu,hw=>by
  have hz:=hw.head
  have ha:z.toNat<t.Inputs.toNat:=by omega
  obtain ⟨x,x1,x2⟩:=Q.ub s hs
  have hux:u<M.Next.length:=by
   rw [hu] at x1
   injection x1 with x1
   omega
  obtain ⟨s',h1,h2,h3⟩:=quo_nx H Q hux
  obtain ⟨e1,e2⟩:=quo_step H C hs h1 (hu.trans h2.1.symm) ha
  have h4:=h3 _ ha
  have:=quo_outs H C Q w (nx t s z.toNat) (nx M u z.toNat) (H.at hs ha).1 (by rw [e2,h4.1]) hw.tail
  show ot M u z.toNat::outs M (nx M u z.toNat) w=ot t s z.toNat::outs t (nx t s z.toNat) w
  rw [this,h4.2,e1]
theorem quo_ok (H:MacOk t) (Q:Quo t M c):MacOk M:=by
 have hn:=H.n1
 have hn2:=H.n2
 obtain ⟨x,_,x2⟩:=Q.ub 0 hn
 have hle:=Q.le
 refine ⟨by rw [Q.inp];exact H.i1,by rw [Q.inp];exact H.i2,by omega,by omega,by rw [Q.start];omega,Q.len,fun u hu=>?_⟩
 have hi1:=H.i1
 obtain ⟨s,r,o,h1,h2,h3,h4,h5,h6,h7⟩:=Q.row u hu
 obtain ⟨x',y',e1,e2,e3,e4,e5,e6⟩:=H.row s h1
 rw [h7] at e2
 injection e2 with e2
 subst e2
 refine ⟨r,o,h3,h4,by rw [Q.inp];omega,by rw [Q.inp];exact e4,fun v hv=>?_,e6⟩
 obtain ⟨a,ha,rfl⟩:=List.mem_iff_getElem.1 hv
 obtain ⟨z,z1,z2⟩:=Q.ub _ (H.at h1 (a:=a) (by omega)).1
 have hr:=h6 a (by omega)
 rw [get_at ha,z1] at hr
 injection hr with hr
 omega
theorem quo_can (H:MacOk t) (C:ClsF t t.Next.length c) (Q:Quo t M c) (K:Can t):Can M:=by
 have hzero:∀ s,IsFirst c s 0→s=0:=fun s hs=>by
  obtain ⟨x,x1,_⟩:=Q.ub 0 H.n1
  have:=first_le C.first hs x1 (Nat.zero_le _)
  omega
 have hpos:∀ s u,IsFirst c s u→0<u→0<s:=fun s u hs hu=>by
  rcases Nat.eq_zero_or_pos s with h | h
  ·subst h
   obtain ⟨s',h1,_⟩:=C.first 0 u hs.1 0 hu
   omega
  ·exact h
 have back:∀ {i a s u:Nat},i<s→i<t.Next.length→a<t.Inputs.toNat→IsFirst c s u→nx t i a=s→∃ v:Nat,c[i]?=some (↑v:Int)∧v<u∧nx M v a=u:=fun {i a s u} h1 h2 h3 h4 h5=>by
  obtain ⟨v,v1,v2⟩:=Q.ub i h2
  refine ⟨v,v1,first_lt C.first h4 h1 v1,?_⟩
  obtain ⟨s',g1,g2,g3⟩:=quo_nx H Q v2
  have e:=(quo_step H C h2 g1 (v1.trans g2.1.symm) h3).2
  have g4:=(g3 a h3).1
  rw [← e,h5,h4.1] at g4
  injection g4 with g4
  omega
 refine ⟨fun i a u hi ha hu hle=>?_,fun u hu hlt=>?_⟩
 ·rw [Q.inp] at ha ⊢
  obtain ⟨s,h1,h2,h3⟩:=quo_nx H Q hi
  have hD:=(h3 a ha).1
  have hn1:=(H.at h1 ha).1
  have huM:u<M.Next.length:=by
   have:=(quo_ok H Q).at hi (a:=a) (by rw [Q.inp];exact ha)
   omega
  obtain ⟨su,g1,g2,g3⟩:=quo_nx H Q huM
  have hsu:=first_le C.first g2 hD hle
  obtain ⟨i',a',z1,z2,z3,z4⟩:=K.c4 s a su h1 ha (hpos su u g2 hu) hsu
  obtain ⟨v,v1,v2,v3⟩:=back z3 (by omega) z1 g2 z4
  refine ⟨v,a',z1,?_,v2,v3⟩
  have hle':i'≤s:=by
   rcases Nat.lt_or_ge s i' with q | q
   ·have:=mem_lt q ha
    omega
   ·exact q
  rcases Nat.lt_or_ge i' s with q | q
  ·have:=first_lt C.first h2 q v1
   have:=mem_lt this z1
   omega
  ·have e:i'=s:=by omega
   subst e
   have hv:=h2.1
   rw [v1] at hv
   injection hv with hv
   have:v=i:=by omega
   subst this
   omega
 ·rw [Q.inp]
  obtain ⟨su,g1,g2,g3⟩:=quo_nx H Q hlt
  obtain ⟨i,a,z1,z2,z3⟩:=K.c5 su (hpos su u g2 hu) g1
  obtain ⟨v,v1,v2,v3⟩:=back z1 (by omega) z2 g2 z3
  exact ⟨v,a,v2,z2,v3⟩
theorem quo_min (H:MacOk t) (C:ClsF t t.Next.length c) (Q:Quo t M c) {i j:Nat} (hi:i<M.Next.length) (hj:j<M.Next.length) (h:Eqv M i M j):i=j:=by
 obtain ⟨s,h1,h2,_⟩:=quo_nx H Q hi
 obtain ⟨s',g1,g2,_⟩:=quo_nx H Q hj
 have he:E t t.Next.length s s':=zg9 fun w _ hw=>by
  rw [← quo_outs H C Q w s i h1 h2.1 hw,← quo_outs H C Q w s' j g1 g2.1 hw]
  exact h w (by rw [Q.inp];exact hw)
 have:=(C.cls.cls s s' h1 g1).2 he
 rw [h2.1,g2.1] at this
 injection this with this
 omega
theorem quo_sem {L:List (Nat×List Int)} (T:TrimOk m t L) (C:ClsF t t.Next.length c) (Q:Quo t M c):MinSem m M:=by
 have H:=T.ok
 have hK:0<t.Inputs.toNat:=by have:=H.i1;omega
 have hE:BfsEnd (nx m) t.Inputs.toNat m.Start.toNat L:=by rw [T.inp];exact T.end_
 have hcan:=shape_can hE T.shape hK
 have h0:c[0]?=some (↑(0:Nat):Int):=by
  obtain ⟨x,x1,_⟩:=Q.ub 0 H.n1
  rcases Nat.eq_zero_or_pos x with h | h
  ·rw [x1,h]
  ·obtain ⟨s',h1,_⟩:=C.first 0 x x1 0 h
   omega
 refine ⟨quo_ok H Q,Q.inp.trans T.inp,Q.start,fun w hw=>?_,fun i j hi hj h=>quo_min H C Q hi hj h,quo_can H C Q hcan⟩
 have hw':WOk t.Inputs w:=by rw [← Q.inp];exact hw
 rw [quo_outs H C Q w 0 0 H.n1 h0 hw',trim_outs T w 0 _ T.end_.first (by rw [← T.inp];exact hw')]
theorem min_loop (H:MacOk t) (C:ClsF t t.Next.length c) (e e2:Int):∃ P R,iter (fun (s:List (List Int)×List (List Int)×Nat)=>zam.s32 (t,e) (c,e2) s.1 s.2.1 s.2.2) fuel ([],[],0)=some (P,R)∧Quo t (⟨t.Inputs,0,P,R⟩:zaa) c:=by
 have hn:=H.n2
 have hn1:=H.n1
 have hI:=H.i2
 have hI1:=H.i1
 have hc:=C.cls.len
 obtain ⟨r,hr,P,R,rfl,hQ⟩:=za4 (step:=fun (s:List (List Int)×List (List Int)×Nat)=>zam.s32 (t,e) (c,e2) s.1 s.2.1 s.2.2) (fun s=>s.2.2≤t.Next.length∧s.2.1.length=s.1.length∧s.1.length≤s.2.2∧(∀ s',s'<s.2.2→∃ x:Nat,c[s']?=some (↑x:Int)∧x<s.1.length)∧∀ u,u<s.1.length→∃ s' r o,s'<s.2.2∧IsFirst c s' u∧s.1[u]?=some r∧s.2.1[u]?=some o∧r.length=t.Inputs.toNat∧(∀ a,a<t.Inputs.toNat→r[a]?=c[nx t s' a]?)∧t.Out[s']?=some o) (fun s=>t.Next.length-s.2.2) (fun r=>∃ P R,r=(P,R)∧Quo t (⟨t.Inputs,0,P,R⟩:zaa) c) (fun s ⟨q1,q2,q3,q4,q5⟩=>by
  obtain ⟨P,R,s⟩:=s
  simp only at q1 q2 q3 q4 q5
  simp only [zam.s32]
  by_cases g:s<t.Next.length
  ·left
   obtain ⟨x,x1,x2⟩:=C.cls.rng s g
   rw [decide_eq_true (by omega),cond_true,idxn_at x1]
   by_cases hx:x<P.length
   ·refine ⟨(P,R,s+1),?_,⟨g,q2,by simp only;omega,fun s' hs'=>?_,fun u hu=>?_⟩,by simp only;omega⟩
    ·rw [decide_eq_true (by omega),cond_true,obind]
     rfl
    ·simp only at hs' ⊢
     rcases Nat.lt_or_ge s' s with h | h
     ·exact q4 s' h
     ·have:s'=s:=by omega
      subst this
      exact ⟨x,x1,hx⟩
    ·obtain ⟨s',r,o,z1,z2⟩:=q5 u hu
     exact ⟨s',r,o,by simp only;omega,z2⟩
   ·have hxe:x=P.length:=by
     rcases Nat.lt_or_ge P.length x with h | h
     ·obtain ⟨s',h1,h2⟩:=C.first s x x1 P.length h
      obtain ⟨y,y1,y2⟩:=q4 s' h1
      rw [h2] at y1
      injection y1 with y1
      omega
     ·omega
    subst hxe
    obtain ⟨row,out,e1,e2',e3,e4,e5,e6⟩:=H.row s g
    obtain ⟨r,hr,hrl,hra⟩:=za4 (step:=fun (q:List Int×Nat)=>zam.s30 (c,e2) row q.1 q.2) (fun q=>q.2≤t.Inputs.toNat∧q.1.length=q.2∧∀ a,a<q.2→q.1[a]?=c[nx t s a]?) (fun q=>t.Inputs.toNat-q.2) (fun r=>r.length=t.Inputs.toNat∧∀ a,a<t.Inputs.toNat→r[a]?=c[nx t s a]?) (fun q ⟨w1,w2,w3⟩=>by
     obtain ⟨y,a⟩:=q
     simp only at w1 w2 w3
     simp only [zam.s30]
     by_cases f:a<t.Inputs.toNat
     ·left
      obtain ⟨h1,_,_,x',y',h2,_,h4,_⟩:=H.at g f
      rw [e1] at h2
      injection h2 with h2
      subst h2
      have hcx:=get_at (l:=c) (i:=nx t s a) (by omega)
      refine ⟨(y++[c[nx t s a]'(by omega)],a+1),?_,⟨f,by simp [w2],fun b hb=>?_⟩,by simp only;omega⟩
      ·rw [decide_eq_true (by omega),cond_true,idxn_at h4,idx_at rfl hcx,chk_pos (by unfold capOk;omega)]
      ·simp only at hb ⊢
       rcases Nat.lt_or_ge b a with h | h
       ·rw [List.getElem?_append_left (by omega),w3 b h]
       ·have:b=a:=by omega
        subst this
        rw [List.getElem?_append_right (by omega),w2,Nat.sub_self,hcx]
        rfl
     ·right
      have:a=t.Inputs.toNat:=by omega
      subst this
      exact ⟨y,by rw [decide_eq_false (by omega),cond_false],w2,w3⟩) fuel ([],0) ⟨Nat.zero_le _,rfl,fun a h=>absurd h (Nat.not_lt_zero _)⟩ (by have:=fuel_big;simp only;omega)
    refine ⟨(P++[r],R++[out],s+1),?_,⟨g,by simp [q2],by simp;omega,fun s' hs'=>?_,fun u hu=>?_⟩,by simp only;omega⟩
    ·rw [decide_eq_false (by omega),cond_false,idxn_at e1,hr,obind,chk_pos (by unfold capOk;omega),idxn_at e2',chk_pos (by unfold capOk;simp;omega),chk_pos (by unfold capOk;omega),obind]
     rfl
    ·simp only at hs' ⊢
     rw [List.length_append,List.length_singleton]
     rcases Nat.lt_or_ge s' s with h | h
     ·obtain ⟨y,y1,y2⟩:=q4 s' h
      exact ⟨y,y1,by omega⟩
     ·have:s'=s:=by omega
      subst this
      exact ⟨_,x1,by omega⟩
    ·simp only at hu ⊢
     rw [List.length_append,List.length_singleton] at hu
     rcases Nat.lt_or_ge u P.length with h | h
     ·obtain ⟨s',r',o,z1,z2,z3,z4,z5⟩:=q5 u h
      exact ⟨s',r',o,by omega,z2,by rw [List.getElem?_append_left h,z3],by rw [List.getElem?_append_left (by omega),z4],z5⟩
     ·have:u=P.length:=by omega
      subst this
      refine ⟨s,r,out,by omega,⟨x1,fun s' hs' q=>?_⟩,by simp,?_,hrl,hra,e2'⟩
      ·obtain ⟨y,y1,y2⟩:=q4 s' hs'
       rw [q] at y1
       injection y1 with y1
       omega
      ·rw [List.getElem?_append_right (by omega),q2,Nat.sub_self]
       rfl
  ·right
   have:s=t.Next.length:=by omega
   subst this
   exact ⟨_,by rw [decide_eq_false (by omega),cond_false],P,R,rfl,⟨rfl,rfl,q2,q4,q5,q3⟩⟩) fuel ([],[],0) ⟨Nat.zero_le _,rfl,Nat.le_refl _,fun s' h=>absurd h (Nat.not_lt_zero _),fun u h=>absurd h (Nat.not_lt_zero _)⟩ (by have:=fuel_big;simp only;omega)
 exact ⟨P,R,hr,hQ⟩
theorem validM_of (H:MacOk m):validM m=0:=by
 have:=zli H
 rw [za5] at this
 injection this
theorem zdh (hv:validM m=0):∃ M,zam m=some (M,0)∧MinSem m M:=by
 obtain ⟨t,L,h1,T⟩:=mealy_Trim_eq hv
 obtain ⟨c,h2,C⟩:=zg4 (validM_of T.ok)
 obtain ⟨P,R,h3,Q⟩:=min_loop T.ok C 0 0
 refine ⟨⟨t.Inputs,0,P,R⟩,?_,quo_sem T C Q⟩
 unfold zam
 rw [h1,obind,decide_eq_false (fun h=>h rfl),cond_false,h2,obind,decide_eq_false (fun h=>h rfl),cond_false,h3,obind]
 rfl
theorem zi6 (hv:validM m≠0):zam m=some (⟨0,0,[],[]⟩,validM m):=by
 unfold zam za0
 rw [za5,obind,decide_eq_true hv,cond_true,obind,decide_eq_true (by exact hv),cond_true]
end
end Go.Proofs.YtcneaiejdidooaaGreat.Sym

/-
 The document's minimal machine, and that it is the program's. Plain laws.
-/
namespace Go.Proofs.YtcneaiejdidooaaGreat.Sym
set_option maxRecDepth 100000
section
variable {m:zaa} {c:List Int}
def clN (c:List Int) (s:Nat):Nat:=((c[s]?).getD 0).toNat
open Classical in
noncomputable def rpN (m:zaa) (c:List Int) (x:Nat):Nat:=if h:∃ s,s<m.Next.length∧clN c s=x then Classical.choose h else 0
noncomputable def qE (m:zaa) (c:List Int) (x a:Nat):Nat:=clN c (nx m (rpN m c x) a)
noncomputable def qO (m:zaa) (c:List Int) (x a:Nat):Int:=ot m (rpN m c x) a
theorem clN_at (C:ClsOk m m.Next.length c) {s:Nat} (hs:s<m.Next.length):c[s]?=some (↑(clN c s):Int)∧clN c s<m.Next.length:=by
 obtain ⟨x,x1,x2⟩:=C.rng s hs
 unfold clN
 rw [x1,Option.getD_some,Int.toNat_natCast]
 exact ⟨rfl,x2⟩
theorem clN_iff (C:ClsOk m m.Next.length c) {s t:Nat} (hs:s<m.Next.length) (ht:t<m.Next.length):clN c s=clN c t↔E m m.Next.length s t:=by
 rw [← C.cls s t hs ht,(clN_at C hs).1,(clN_at C ht).1]
 exact ⟨fun h=>by rw [h],fun h=>by injection h with h;omega⟩
theorem rpN_spec {s:Nat} (hs:s<m.Next.length):rpN m c (clN c s)<m.Next.length∧clN c (rpN m c (clN c s))=clN c s:=by
 have h:∃ s',s'<m.Next.length∧clN c s'=clN c s:=⟨s,hs,rfl⟩
 unfold rpN
 rw [dif_pos h]
 exact Classical.choose_spec h
theorem qE_eq (H:MacOk m) (C:ClsOk m m.Next.length c) {s a:Nat} (hs:s<m.Next.length) (ha:a<m.Inputs.toNat):qE m c (clN c s) a=clN c (nx m s a)∧qO m c (clN c s) a=ot m s a:=by
 obtain ⟨h1,h2⟩:=rpN_spec (c:=c) hs
 have h3:=E_all H h1 hs ((clN_iff C h1 hs).1 h2) (m.Next.length+1)
 exact ⟨(clN_iff C (H.at h1 ha).1 (H.at hs ha).1).2 (h3.2 a ha).2,(h3.2 a ha).1⟩
noncomputable def qB (m:zaa) (c:List Int) (r:Nat):List (Nat×List Int):=bfsB (qE m c) m.Inputs.toNat (clN c m.Start.toNat) r
theorem qB_rng (H:MacOk m) (C:ClsOk m m.Next.length c):∀ (r:Nat),∀ x∈qB m c r,∃ s,s<m.Next.length∧clN c s=x.1
 | 0,x,hx=>by
  have:x=(clN c m.Start.toNat,[]):=by simpa [qB,bfsB] using hx
  subst this
  exact ⟨m.Start.toNat,by have:=H.st;omega,rfl⟩
 | r+1,x,hx=>by
  have ih:=qB_rng H C r
  unfold qB at hx
  rw [bfsB] at hx
  split at hx
  ·exact ih x hx
  ·rename_i y hy
   split at hx
   ·exact ih x hx
   ·rcases List.mem_append.1 hx with h | h
    ·exact ih x h
    ·have hK:0<m.Inputs.toNat:=by have:=H.i1;omega
     obtain ⟨s,s1,s2⟩:=ih y (List.mem_of_getElem? hy)
     have ha:=Nat.mod_lt r hK
     have hxe:x=(qE m c y.1 (r%m.Inputs.toNat),y.2++[(↑(r%m.Inputs.toNat):Int)]):=by simpa using h
     subst hxe
     exact ⟨nx m s (r%m.Inputs.toNat),(H.at s1 ha).1,by rw [← s2,(qE_eq H C s1 ha).1]⟩
theorem qB_len (H:MacOk m) (C:ClsOk m m.Next.length c) (r:Nat):(qB m c r).length≤m.Next.length:=by
 have:=nodup_le (ze2 (e:=qE m c) (K:=m.Inputs.toNat) (s0:=clN c m.Start.toNat) r) (l':=List.range m.Next.length) fun x hx=>by
  obtain ⟨y,hy,rfl⟩:=List.mem_map.1 hx
  obtain ⟨s,s1,s2⟩:=qB_rng H C r y hy
  rw [← s2]
  exact List.mem_range.2 (clN_at C s1).2
 rwa [List.length_map,List.length_range] at this
theorem qB_step {i a:Nat} {x:Nat×List Int} (ha:a<m.Inputs.toNat) (hx:(qB m c (i*m.Inputs.toNat+a))[i]?=some x) :
  qB m c (i*m.Inputs.toNat+(a+1))=if qE m c x.1 a∈(qB m c (i*m.Inputs.toNat+a)).map Prod.fst then qB m c (i*m.Inputs.toNat+a) else qB m c (i*m.Inputs.toNat+a)++[(qE m c x.1 a,x.2++[(↑a:Int)])]:=bfs_step ha hx
theorem qB_next {i:Nat}:qB m c (i*m.Inputs.toNat+m.Inputs.toNat)=qB m c ((i+1)*m.Inputs.toNat):=by rw [Nat.succ_mul]
theorem qB_get {i r:Nat} {x:Nat×List Int} (hx:(qB m c (i*m.Inputs.toNat))[i]?=some x) (hr:i*m.Inputs.toNat≤r):(qB m c r)[i]?=some x:=pre_get (bfs_pre hr) hx
structure Nums (m:zaa) (c:List Int) (ord:List Nat) (num:List Int) (B:List (Nat×List Int)):Prop where
 ol:ord.length=B.length
 oc:∀ (j u:Nat) (x:Nat×List Int),ord[j]?=some u→B[j]?=some x→u<m.Next.length∧clN c u=x.1
 nl:num.length=m.Next.length
 n1:∀ (j:Nat) (x:Nat×List Int),B[j]?=some x→num[x.1]?=some (↑j:Int)
 n2:∀ x:Nat,x<m.Next.length→x∉B.map Prod.fst→num[x]?=some (-1:Int)
theorem Nums.push {ord:List Nat} {num:List Int} {B:List (Nat×List Int)} {u:Nat} {w:List Int} (N:Nums m c ord num B) (C:ClsOk m m.Next.length c) (hu:u<m.Next.length) (hn:clN c u∉B.map Prod.fst) (hB:(B.map Prod.fst).Nodup):Nums m c (ord++[u]) (num.set (clN c u) (↑B.length:Int)) (B++[(clN c u,w)]):=by
 have hcl:=(clN_at C hu).2
 refine ⟨by simp [N.ol],fun j v x hj hx=>?_,by simp [N.nl],fun j x hx=>?_,fun x hx hm=>?_⟩
 ·rcases Nat.lt_or_ge j B.length with h | h
  ·rw [List.getElem?_append_left (by rw [N.ol];exact h)] at hj
   rw [List.getElem?_append_left h] at hx
   exact N.oc j v x hj hx
  ·have hl:=(List.getElem?_eq_some_iff.1 hx).1
   rw [List.length_append,List.length_singleton] at hl
   have:j=B.length:=by omega
   subst this
   rw [List.getElem?_append_right (by rw [N.ol];exact Nat.le_refl _),N.ol,Nat.sub_self] at hj
   rw [List.getElem?_append_right (Nat.le_refl _),Nat.sub_self] at hx
   injection hj with hj
   injection hx with hx
   subst hj
   subst hx
   exact ⟨hu,rfl⟩
 ·rcases Nat.lt_or_ge j B.length with h | h
  ·rw [List.getElem?_append_left h] at hx
   rw [List.getElem?_set_ne (fun q=>hn (by rw [q];exact List.mem_map.2 ⟨x,List.mem_of_getElem? hx,rfl⟩)),N.n1 j x hx]
  ·have hl:=(List.getElem?_eq_some_iff.1 hx).1
   rw [List.length_append,List.length_singleton] at hl
   have:j=B.length:=by omega
   subst this
   rw [List.getElem?_append_right (Nat.le_refl _),Nat.sub_self] at hx
   injection hx with hx
   subst hx
   rw [List.getElem?_set_self (by rw [N.nl];exact hcl)]
 ·rw [List.map_append,List.mem_append,not_or] at hm
  have h1:clN c u≠x:=fun q=>hm.2 (by simp [q])
  rw [List.getElem?_set_ne h1]
  exact N.n2 x hx hm.1
theorem rmin_row (H:MacOk m) (C:ClsOk m m.Next.length c) {e:Int} {i:Nat} {x:Nat×List Int} {ord:List Nat} {num:List Int} (hx:(qB m c (i*m.Inputs.toNat))[i]?=some x) (N:Nums m c ord num (qB m c (i*m.Inputs.toNat))) :
  ∃ (ord':List Nat) (num' row out:List Int),iter (fun (s:List Int×List Int×List Int×List Int×Nat)=>R08_Min.s56 m (c,e) i s.1 s.2.1 s.2.2.1 s.2.2.2.1 s.2.2.2.2) fuel (natI ord,num,[],[],0)=some (natI ord',num',row,out)∧Nums m c ord' num' (qB m c ((i+1)*m.Inputs.toNat))∧row.length=m.Inputs.toNat∧out.length=m.Inputs.toNat ∧
   ∀ a,a<m.Inputs.toNat→∃ (j:Nat) (z:Nat×List Int),(qB m c ((i+1)*m.Inputs.toNat))[j]?=some z∧z.1=qE m c x.1 a∧row[a]?=some (↑j:Int)∧out[a]?=some (qO m c x.1 a):=by
 have hI:=H.i2
 have hn:=H.n2
 obtain ⟨r,hr,ord',num',row,out,rfl,g1,g2,g3,g4⟩:=za4 (step:=fun (s:List Int×List Int×List Int×List Int×Nat)=>R08_Min.s56 m (c,e) i s.1 s.2.1 s.2.2.1 s.2.2.2.1 s.2.2.2.2) (fun s=>∃ ord':List Nat,s.1=natI ord'∧s.2.2.2.2≤m.Inputs.toNat∧Nums m c ord' s.2.1 (qB m c (i*m.Inputs.toNat+s.2.2.2.2))∧s.2.2.1.length=s.2.2.2.2∧s.2.2.2.1.length=s.2.2.2.2 ∧
   ∀ a,a<s.2.2.2.2→∃ (j:Nat) (z:Nat×List Int),(qB m c (i*m.Inputs.toNat+s.2.2.2.2))[j]?=some z∧z.1=qE m c x.1 a∧s.2.2.1[a]?=some (↑j:Int)∧s.2.2.2.1[a]?=some (qO m c x.1 a)) (fun s=>m.Inputs.toNat-s.2.2.2.2) (fun r=>∃ (ord':List Nat) (num' row out:List Int),r=(natI ord',num',row,out)∧Nums m c ord' num' (qB m c ((i+1)*m.Inputs.toNat))∧row.length=m.Inputs.toNat∧out.length=m.Inputs.toNat ∧
   ∀ a,a<m.Inputs.toNat→∃ (j:Nat) (z:Nat×List Int),(qB m c ((i+1)*m.Inputs.toNat))[j]?=some z∧z.1=qE m c x.1 a∧row[a]?=some (↑j:Int)∧out[a]?=some (qO m c x.1 a)) (fun s ⟨ord',q1,q2,q3,q4,q5,q6⟩=>by
  obtain ⟨o,num',row,out,a⟩:=s
  simp only at q1 q2 q3 q4 q5 q6
  subst q1
  simp only [R08_Min.s56]
  by_cases g:a<m.Inputs.toNat
  ·left
   have hxa:=qB_get hx (r:=i*m.Inputs.toNat+a) (by omega)
   have hlen:=qB_len H C (i*m.Inputs.toNat+a)
   have hil:=(List.getElem?_eq_some_iff.1 hxa).1
   have hv:=get_at (l:=ord') (i:=i) (by rw [q3.ol];exact hil)
   generalize ord'[i]'(by rw [q3.ol];exact hil)=v at hv
   obtain ⟨hvn,hvc⟩:=q3.oc i v x hv hxa
   obtain ⟨t1,_,_,xr,yr,e1,e2,e3,e4⟩:=H.at hvn g
   have hcE:=qE_eq H C hvn g
   rw [hvc] at hcE
   have hct:=clN_at C t1
   have hstep:=qB_step g hxa
   rw [hcE.1] at hstep
   have hol:=q3.ol
   rw [decide_eq_true (by omega),cond_true,idxn_at (natI_at hv),idx_at rfl e1,idxn_at e3]
   have fin:∀ {ord2:List Nat} {num2:List Int} {B2:List (Nat×List Int)} {j:Nat} {z:Nat×List Int},qB m c (i*m.Inputs.toNat+(a+1))=B2→Nums m c ord2 num2 B2→B2[j]?=some z→z.1=clN c (nx m v a)→ord2[i]?=some v→(∀ (j:Nat) (z:Nat×List Int),(qB m c (i*m.Inputs.toNat+a))[j]?=some z→B2[j]?=some z) →
     R08_Min.k55 m (c,e) i row out a (↑(nx m v a):Int) (natI ord2) num2=some (.inl (natI ord2,num2,row++[(↑j:Int)],out++[ot m v a],a+1)) ∧
     (∃ ord'':List Nat,natI ord2=natI ord''∧a+1≤m.Inputs.toNat∧Nums m c ord'' num2 (qB m c (i*m.Inputs.toNat+(a+1)))∧(row++[(↑j:Int)]).length=a+1∧(out++[ot m v a]).length=a+1∧∀ b,b<a+1→∃ (j':Nat) (z:Nat×List Int),(qB m c (i*m.Inputs.toNat+(a+1)))[j']?=some z∧z.1=qE m c x.1 b∧(row++[(↑j:Int)])[b]?=some (↑j':Int)∧(out++[ot m v a])[b]?=some (qO m c x.1 b)):=by
    intro ord2 num2 B2 j z hB N2 hz hz1 hv2 hmono
    refine ⟨?_,ord2,rfl,g,by rw [hB];exact N2,by simp [q4],by simp [q5],fun b hb=>?_⟩
    ·simp only [R08_Min.k55]
     have:=N2.n1 j z hz
     rw [hz1] at this
     rw [idx_at rfl hct.1,idx_at rfl this,chk_pos (by unfold capOk;omega),idxn_at (natI_at hv2),idx_at rfl e2,idxn_at e4,chk_pos (by unfold capOk;omega),chk_pos (by unfold inR;omega)]
    ·rw [hB]
     rcases Nat.lt_or_ge b a with h | h
     ·obtain ⟨j',z',w1,w2,w3,w4⟩:=q6 b h
      exact ⟨j',z',hmono _ _ w1,w2,by rw [List.getElem?_append_left (by omega),w3],by rw [List.getElem?_append_left (by omega),w4]⟩
     ·have:b=a:=by omega
      subst this
      exact ⟨j,z,hz,by rw [hz1,hcE.1],by rw [List.getElem?_append_right (by omega),q4,Nat.sub_self];rfl,by rw [List.getElem?_append_right (by omega),q5,Nat.sub_self,hcE.2];rfl⟩
   by_cases hm:clN c (nx m v a)∈(qB m c (i*m.Inputs.toNat+a)).map Prod.fst
   ·rw [if_pos hm] at hstep
    obtain ⟨z,hz,hz1⟩:=List.mem_map.1 hm
    obtain ⟨j,hj⟩:=List.mem_iff_getElem?.1 hz
    have hnum:=q3.n1 j z hj
    rw [hz1] at hnum
    obtain ⟨f1,f2⟩:=fin hstep q3 hj hz1 hv (fun _ _ h=>h)
    refine ⟨(natI ord',num',row++[(↑j:Int)],out++[ot m v a],a+1),?_,f2,by simp only;omega⟩
    rw [idx_at rfl hct.1,idx_at rfl hnum,decide_eq_false (by omega),cond_false,obind]
    exact f1
   ·rw [if_neg hm] at hstep
    have hnum:=q3.n2 _ hct.2 hm
    have N2:=q3.push (w:=x.2++[(↑a:Int)]) C t1 hm (ze2 _)
    obtain ⟨f1,f2⟩:=fin (j:=(qB m c (i*m.Inputs.toNat+a)).length) (z:=(clN c (nx m v a),x.2++[(↑a:Int)])) hstep N2 (by simp) rfl (by rw [List.getElem?_append_left (by omega),hv]) (fun j z h=>by rw [List.getElem?_append_left (List.getElem?_eq_some_iff.1 h).1,h])
    refine ⟨(natI (ord'++[nx m v a]),num'.set (clN c (nx m v a)) (↑(qB m c (i*m.Inputs.toNat+a)).length:Int),row++[(↑(qB m c (i*m.Inputs.toNat+a)).length:Int)],out++[ot m v a],a+1),?_,f2,by simp only;omega⟩
    rw [idx_at rfl hct.1,idx_at rfl hnum,decide_eq_true (by omega),cond_true,idx_at rfl hct.1,idx_at rfl hnum,chk_pos (by unfold capOk;rw [natI_len];omega),zkz,natI_len,obind,hol]
    exact f1
  ·right
   have:a=m.Inputs.toNat:=by omega
   subst this
   rw [qB_next] at q3 q6
   exact ⟨_,by rw [decide_eq_false (by omega),cond_false],ord',num',row,out,rfl,q3,q4,q5,q6⟩) fuel (natI ord,num,[],[],0) ⟨ord,rfl,Nat.zero_le _,N,rfl,rfl,fun a h=>absurd h (Nat.not_lt_zero _)⟩ (by have:=fuel_big;simp only;omega)
 exact ⟨ord',num',row,out,hr,g1,g2,g3,g4⟩
theorem zff (hv:validM m=0):∃ M,R08_Min m=some (M,0)∧MinSem m M:=by
 have hv':zbf m=some 0:=by rw [zcg,hv]
 have H:=valid_ok hv
 have hn:=H.n2
 have hst:=H.st
 have hi1:=H.i1
 have hi2:=H.i2
 obtain ⟨c,c1,C⟩:=zi2 hv' m.Next.length
 rw [Nat.min_self] at C
 have hcl:zdk m=some (c,0):=by
  unfold zdk
  rw [c1,obind]
 unfold R08_Min
 rw [hcl,obind,decide_eq_false (by simp),cond_false,chk_pos ⟨by omega,by omega,by unfold capOk;omega⟩]
 obtain ⟨y,hy,y1,y2⟩:=za4 (step:=fun (s:List Int×Nat)=>R08_Min.s2 s.1 s.2) (fun s=>s.1.length=m.Next.length∧s.2≤m.Next.length∧∀ x,x<s.2→s.1[x]?=some (-1:Int)) (fun s=>m.Next.length-s.2) (fun r=>r.length=m.Next.length∧∀ x,x<m.Next.length→r[x]?=some (-1:Int)) (fun s ⟨g1,g2,g3⟩=>by
  obtain ⟨y,i⟩:=s
  simp only at g1 g2 g3
  simp only [R08_Min.s2]
  by_cases g:i<y.length
  ·left
   have hx:=get_at g
   refine ⟨(y.set i (-1),i+1),by rw [dec_lt hx,cond_true,idxn_at hx],⟨by simp [g1],by simp only;omega,fun x hx'=>?_⟩,by simp only;omega⟩
   simp only
   by_cases e:i=x
   ·subst e
    rw [List.getElem?_set_self g]
   ·rw [List.getElem?_set_ne e]
    exact g3 x (by simp only at hx';omega)
  ·right
   exact ⟨y,by rw [decide_eq_false (by omega),cond_false],g1,fun x hx=>g3 x (by omega)⟩) fuel ((List.replicate m.Next.length 0),0) ⟨by simp,Nat.zero_le _,fun x h=>absurd h (Nat.not_lt_zero _)⟩ (by have:=fuel_big;simp only;omega)
 have hs:m.Start.toNat<m.Next.length:=by omega
 obtain ⟨x1,x2⟩:=clN_at C hs
 rw [hy,obind,idx_at (i:=m.Start.toNat) (by omega) x1,idx_at rfl (y2 _ x2)]
 have N0:Nums m c [m.Start.toNat] (y.set (clN c m.Start.toNat) 0) (qB m c 0):=by
  have hB0:qB m c 0=[(clN c m.Start.toNat,[])]:=rfl
  refine ⟨rfl,fun j u x hj hx=>?_,by simp [y1],fun j x hx=>?_,fun x hx hm=>?_⟩
  ·have hl:=(List.getElem?_eq_some_iff.1 hj).1
   rw [List.length_singleton] at hl
   have:j=0:=by omega
   subst this
   rw [hB0] at hx
   injection hj with hj
   injection hx with hx
   subst hj
   subst hx
   exact ⟨hs,rfl⟩
  ·rw [hB0] at hx
   have hl:=(List.getElem?_eq_some_iff.1 hx).1
   rw [List.length_singleton] at hl
   have:j=0:=by omega
   subst this
   injection hx with hx
   subst hx
   rw [List.getElem?_set_self (by omega)]
   rfl
  ·rw [hB0] at hm
   rw [List.getElem?_set_ne (fun q=>hm (by simp [q])),y2 x hx]
 obtain ⟨r,hr,L,P,R,rfl,hE,p1,p2,p3⟩:=za4 (step:=fun (s:List Int×List Int×List (List Int)×List (List Int)×Nat)=>R08_Min.s58 m (c,0) s.1 s.2.1 s.2.2.1 s.2.2.2.1 s.2.2.2.2) (fun s=>∃ ord:List Nat,s.1=natI ord∧Nums m c ord s.2.1 (qB m c (s.2.2.2.2*m.Inputs.toNat))∧s.2.2.2.2≤(qB m c (s.2.2.2.2*m.Inputs.toNat)).length∧s.2.2.1.length=s.2.2.2.2∧s.2.2.2.1.length=s.2.2.2.2 ∧
   ∀ (i:Nat) (x:Nat×List Int),i<s.2.2.2.2→(qB m c (s.2.2.2.2*m.Inputs.toNat))[i]?=some x→∃ row out,s.2.2.1[i]?=some row∧s.2.2.2.1[i]?=some out∧row.length=m.Inputs.toNat∧out.length=m.Inputs.toNat∧∀ a,a<m.Inputs.toNat→∃ (j:Nat) (z:Nat×List Int),(qB m c (s.2.2.2.2*m.Inputs.toNat))[j]?=some z∧z.1=qE m c x.1 a∧row[a]?=some (↑j:Int)∧out[a]?=some (qO m c x.1 a)) (fun s=>m.Next.length+1-s.2.2.2.2) (fun r=>∃ L P R,r=(P,R)∧BfsEnd (qE m c) m.Inputs.toNat (clN c m.Start.toNat) L∧P.length=L.length∧R.length=L.length ∧
   ∀ (i:Nat) (x:Nat×List Int),L[i]?=some x→∃ row out,P[i]?=some row∧R[i]?=some out∧row.length=m.Inputs.toNat∧out.length=m.Inputs.toNat∧∀ a,a<m.Inputs.toNat→∃ (j:Nat) (z:Nat×List Int),L[j]?=some z∧z.1=qE m c x.1 a∧row[a]?=some (↑j:Int)∧out[a]?=some (qO m c x.1 a)) (fun s ⟨ord,q1,q2,q3,q4,q5,q6⟩=>by
  obtain ⟨o,num,P,R,i⟩:=s
  simp only at q1 q2 q3 q4 q5 q6
  subst q1
  have hlen:=qB_len H C (i*m.Inputs.toNat)
  have hol:=q2.ol
  simp only [R08_Min.s58]
  by_cases g:i<(qB m c (i*m.Inputs.toNat)).length
  ·left
   have hx:=get_at g
   generalize (qB m c (i*m.Inputs.toNat))[i]=x at hx
   obtain ⟨ord',num',row,out,f1,f2,f3,f4,f5⟩:=rmin_row H C (e:=0) hx q2
   have hpre:qB m c (i*m.Inputs.toNat) <+: qB m c ((i+1)*m.Inputs.toNat):=bfs_pre (by rw [Nat.succ_mul];omega)
   have hmono:=hpre.length_le
   refine ⟨(natI ord',num',P++[row],R++[out],i+1),?_,⟨ord',rfl,f2,by simp only;omega,by simp [q4],by simp [q5],fun k z hk hz=>?_⟩,by simp only;omega⟩
   ·rw [natI_len,decide_eq_true (by omega),cond_true,f1,obind]
    simp only [R08_Min.k57]
    rw [chk_pos (by unfold capOk;omega),chk_pos (by unfold capOk;omega)]
   ·simp only at hk hz ⊢
    rcases Nat.lt_or_ge k i with h | h
    ·have hz0:=get_at (l:=qB m c (i*m.Inputs.toNat)) (i:=k) (by omega)
     have hz1:=pre_get hpre hz0
     rw [hz] at hz1
     injection hz1 with hz1
     rw [← hz1] at hz0
     obtain ⟨row',out',w1,w2,w3,w4,w5⟩:=q6 k z h hz0
     refine ⟨row',out',by rw [List.getElem?_append_left (by omega),w1],by rw [List.getElem?_append_left (by omega),w2],w3,w4,fun a ha=>?_⟩
     obtain ⟨j,z',v1,v2⟩:=w5 a ha
     exact ⟨j,z',pre_get hpre v1,v2⟩
    ·have:k=i:=by omega
     subst this
     have hx':=pre_get hpre hx
     rw [hz] at hx'
     injection hx' with hx'
     subst hx'
     exact ⟨row,out,by rw [List.getElem?_append_right (by omega),q4,Nat.sub_self];rfl,by rw [List.getElem?_append_right (by omega),q5,Nat.sub_self];rfl,f3,f4,f5⟩
  ·right
   have he:(qB m c (i*m.Inputs.toNat)).length=i:=by omega
   refine ⟨(P,R),by rw [natI_len,decide_eq_false (by omega),cond_false],qB m c (i*m.Inputs.toNat),P,R,rfl,⟨?_⟩,by omega,by omega,fun k x hx=>q6 k x (by have:=(List.getElem?_eq_some_iff.1 hx).1;omega) hx⟩
   rw [he]
   rfl) fuel ([m.Start],y.set (clN c m.Start.toNat) 0,[],[],0) ⟨[m.Start.toNat],by simp [natI];omega,by simp only;rw [Nat.zero_mul];exact N0,Nat.zero_le _,rfl,rfl,fun i x h=>absurd h (Nat.not_lt_zero _)⟩ (by have:=fuel_big;simp only;omega)
 have hLn:L.length≤m.Next.length:=by
  rw [hE.eq]
  exact qB_len H C _
 have hLr:∀ x∈L,∃ s,s<m.Next.length∧clN c s=x.1:=by
  rw [hE.eq]
  exact qB_rng H C _
 have hL0:0<L.length:=(List.getElem?_eq_some_iff.1 hE.first).1
 have hsh:Shape (qE m c) (qO m c) L (⟨m.Inputs,0,P,R⟩:zaa):=⟨p1,fun i x a hx ha=>by
  obtain ⟨row,out,w1,w2,w3,w4,w5⟩:=p3 i x hx
  obtain ⟨j,z,z1,z2,z3,z4⟩:=w5 a ha
  have e1:nx (⟨m.Inputs,0,P,R⟩:zaa) i a=j:=by
   unfold nx
   simp only
   rw [w1,Option.getD_some,z3,Option.getD_some,Int.toNat_natCast]
  refine ⟨z,by rw [e1];exact z1,z2,?_⟩
  unfold ot
  simp only
  rw [w2,Option.getD_some,z4,Option.getD_some]⟩
 have hok:MacOk (⟨m.Inputs,0,P,R⟩:zaa):=by
  refine ⟨hi1,hi2,by simp only;omega,by simp only;omega,⟨Int.le_refl 0,by simp only;omega⟩,by simp only;omega,fun i hi=>?_⟩
  simp only at hi ⊢
  have hx:=get_at (l:=L) (i:=i) (by omega)
  obtain ⟨row,out,w1,w2,w3,w4,w5⟩:=p3 i _ hx
  refine ⟨row,out,w1,w2,by omega,by omega,fun u hu=>?_,fun v hv=>?_⟩
  ·obtain ⟨a,ha,rfl⟩:=List.mem_iff_getElem.1 hu
   obtain ⟨j,z,z1,_,z3,_⟩:=w5 a (by omega)
   rw [get_at ha] at z3
   injection z3 with z3
   have:=(List.getElem?_eq_some_iff.1 z1).1
   omega
  ·obtain ⟨a,ha,rfl⟩:=List.mem_iff_getElem.1 hv
   obtain ⟨j,z,_,_,_,z4⟩:=w5 a (by omega)
   rw [get_at ha] at z4
   injection z4 with z4
   obtain ⟨s,s1,s2⟩:=hLr _ (List.mem_of_getElem? hx)
   have h:=H.at s1 (a:=a) (by omega)
   rw [← s2,(qE_eq H C s1 (a:=a) (by omega)).2] at z4
   omega
 have houts:∀ (w:List Int) (i:Nat) (x:Nat×List Int) (s:Nat),L[i]?=some x→s<m.Next.length→clN c s=x.1→WOk m.Inputs w→outs (⟨m.Inputs,0,P,R⟩:zaa) i w=outs m s w:=by
  intro w
  induction w with
  | nil=>intro _ _ _ _ _ _ _;rfl
  | cons z w ih =>
   intro i x s hx hs hc hw
   have hz:=hw.head
   have ha:z.toNat<m.Inputs.toNat:=by omega
   obtain ⟨y,g1,g2,g3⟩:=hsh.row i x z.toNat hx ha
   have hcE:=qE_eq H C hs ha
   rw [hc] at hcE
   have:=ih _ y (nx m s z.toNat) g1 (H.at hs ha).1 (by rw [g2,hcE.1]) hw.tail
   show ot (⟨m.Inputs,0,P,R⟩:zaa) i z.toNat::outs _ (nx (⟨m.Inputs,0,P,R⟩:zaa) i z.toNat) w=ot m s z.toNat::outs m (nx m s z.toNat) w
   rw [this,g3,hcE.2]
 refine ⟨⟨m.Inputs,0,P,R⟩,by rw [Int.toNat_natCast,hr,obind];rfl,⟨hok,rfl,rfl,fun w hw=>houts w 0 _ _ hE.first hs rfl hw,fun i j hi hj h=>?_,shape_can (M:=(⟨m.Inputs,0,P,R⟩:zaa)) hE hsh (by simp only;omega)⟩⟩
 simp only at hi hj
 have hx:=get_at (l:=L) (i:=i) (by omega)
 have hy':=get_at (l:=L) (i:=j) (by omega)
 obtain ⟨s,s1,s2⟩:=hLr _ (List.mem_of_getElem? hx)
 obtain ⟨t,t1,t2⟩:=hLr _ (List.mem_of_getElem? hy')
 have he:E m m.Next.length s t:=zg9 fun w _ hw=>by
  rw [← houts w i _ s hx s1 s2 hw,← houts w j _ t hy' t1 t2 hw]
  exact h w hw
 have hc:=(clN_iff C s1 t1).2 he
 exact nodup_at hE.nodup (x:=clN c s) (by rw [List.getElem?_map,hx,s2];rfl) (by rw [List.getElem?_map,hy',hc,t2];rfl)
theorem min_same (hv:validM m=0):∃ M,zam m=some (M,0)∧R08_Min m=some (M,0)∧MinSem m M:=by
 obtain ⟨M,h1,h2⟩:=zdh hv
 obtain ⟨M',h3,h4⟩:=zff hv
 have:=zj7 h2 h4
 subst this
 exact ⟨M,h1,h3,h2⟩
theorem zkc (hv:validM m≠0):R08_Min m=some (⟨0,0,[],[]⟩,validM m):=by
 unfold R08_Min zdk zbp
 rw [zcg,obind,decide_eq_true hv,cond_true,obind,obind,decide_eq_true (by exact hv),cond_true]
end
end Go.Proofs.YtcneaiejdidooaaGreat.Sym

/-
 Words that separate states, minimal machines and identifiers: the program's are the document's. Plain laws.
-/
namespace Go.Proofs.YtcneaiejdidooaaGreat.Sym
set_option maxRecDepth 100000
theorem zj9 {α:Type} [DecidableEq α] {l l':List α} (h:l.Nodup) (hs:∀ x∈l,x∈l') (hl:l'.length≤l.length):∀ x∈l',x∈l:=fun x hx=>Classical.byContradiction fun hn=>by
 have:=nodup_le (l:=x::l) (l':=l') (List.nodup_cons.2 ⟨hn,h⟩) fun y hy=>by
  rcases List.mem_cons.1 hy with rfl | hy
  ·exact hx
  ·exact hs y hy
 simp only [List.length_cons] at this
 omega
section
variable {m M:zaa}
theorem MacOk.two (H:MacOk m):Two m m:=⟨H,H,rfl⟩
open Classical in
noncomputable def sepR (m:zaa) (s t:Nat):List Int×Bool:=if h:∃ res,Fst m m (s,t) res then Classical.choose h else ([],false)
noncomputable def sepW (m:zaa) (s t:Nat):List Int:=(sepR m s t).1
noncomputable def sepB (m:zaa) (s t:Nat):Bool:=(sepR m s t).2
theorem sepR_of {s t:Nat} {res:List Int×Bool} (h:Fst m m (s,t) res):Fst m m (s,t) (sepW m s t,sepB m s t):=by
 have h':∃ res,Fst m m (s,t) res:=⟨res,h⟩
 have:sepR m s t=Classical.choose h':=dif_pos h'
 show Fst m m (s,t) (sepR m s t)
 rw [this]
 exact Classical.choose_spec h'
theorem sep_fst (H:MacOk m) {s t:Nat} (hs:s<m.Next.length) (ht:t<m.Next.length):Fst m m (s,t) (sepW m s t,sepB m s t):=by
 obtain ⟨res,_,h⟩:=zfn H.two (p0:=(s,t)) hs ht
 exact sepR_of h
theorem States_prog (hv:validM m=0) {s t:Nat} (hs:s<m.Next.length) (ht:t<m.Next.length):zdw m (↑s:Int) (↑t:Int)=some (sepW m s t,sepB m s t,0):=by
 have H:=valid_ok hv
 have hK:0<m.Inputs.toNat:=by have:=H.i1;omega
 obtain ⟨res,h1,h2⟩:=zfn H.two (p0:=(s,t)) hs ht
 have:=fst_uniq hK h2 (sepR_of h2)
 unfold zdw
 rw [za5,obind,hv,decide_eq_false (by decide),cond_false,decide_eq_false (by omega),cond_false,decide_eq_false (by omega),cond_false,decide_eq_false (by omega),cond_false,decide_eq_false (by omega),obind,cond_false,h1,obind,this]
theorem States_ref (hv:validM m=0) {s t:Nat} (hs:s<m.Next.length) (ht:t<m.Next.length):zer m (↑s:Int) (↑t:Int)=some (sepW m s t,sepB m s t,0):=by
 have H:=valid_ok hv
 have hK:0<m.Inputs.toNat:=by have:=H.i1;omega
 obtain ⟨res,h1,h2⟩:=R09_first_eq H.two (p0:=(s,t)) hs ht
 have:=fst_uniq hK h2 (sepR_of h2)
 unfold zer
 rw [zcg,obind,hv,decide_eq_false (by decide),cond_false,decide_eq_false (by omega),cond_false,decide_eq_false (by omega),cond_false,decide_eq_false (by omega),cond_false,decide_eq_false (by omega),obind,cond_false,h1,obind,this]
theorem pB_swap (r:Nat) (s t:Nat):pB m m (t,s) r=(pB m m (s,t) r).map fun x=>((x.1.2,x.1.1),x.2):=by
 induction r with
 | zero=>rfl
 | succ r ih =>
  have e1:∀ p0,pB m m p0 (r+1)=match (pB m m p0 r)[r / m.Inputs.toNat]? with
    | none=>pB m m p0 r
    | some x=>if pE m m x.1 (r%m.Inputs.toNat)∈(pB m m p0 r).map Prod.fst then pB m m p0 r else pB m m p0 r++[(pE m m x.1 (r%m.Inputs.toNat),x.2++[(↑(r%m.Inputs.toNat):Int)])]:=fun p0=>by
   unfold pB
   rw [bfsB]
   cases (bfsB (pE m m) m.Inputs.toNat p0 r)[r / m.Inputs.toNat]? with
   | none=>rfl
   | some x =>
    simp only
    by_cases h:pE m m x.1 (r%m.Inputs.toNat)∈(bfsB (pE m m) m.Inputs.toNat p0 r).map Prod.fst
    ·rw [if_pos h,if_pos h]
    ·rw [if_neg h,if_neg h]
  rw [e1,e1,ih,List.getElem?_map]
  cases (pB m m (s,t) r)[r / m.Inputs.toNat]? with
  | none=>rfl
  | some x =>
   simp only [Option.map_some]
   have hm:pE m m (x.1.2,x.1.1) (r%m.Inputs.toNat)∈((pB m m (s,t) r).map fun x=>((x.1.2,x.1.1),x.2)).map Prod.fst↔pE m m x.1 (r%m.Inputs.toNat)∈(pB m m (s,t) r).map Prod.fst:=by
    rw [List.map_map]
    constructor
    ·intro h
     obtain ⟨y,hy,he⟩:=List.mem_map.1 h
     refine List.mem_map.2 ⟨y,hy,?_⟩
     have he:((y.1.2,y.1.1):Nat×Nat)=(nx m x.1.2 (r%m.Inputs.toNat),nx m x.1.1 (r%m.Inputs.toNat)):=he
     injection he with h1 h2
     exact Prod.ext h2 h1
    ·intro h
     obtain ⟨y,hy,he⟩:=List.mem_map.1 h
     refine List.mem_map.2 ⟨y,hy,?_⟩
     have h1:=congrArg Prod.fst he
     have h2:=congrArg Prod.snd he
     exact Prod.ext h2 h1
   by_cases h:pE m m x.1 (r%m.Inputs.toNat)∈(pB m m (s,t) r).map Prod.fst
   ·rw [if_pos (hm.2 h),if_pos h]
   ·rw [if_neg (fun q=>h (hm.1 q)),if_neg h,List.map_append]
    rfl
theorem dif_swap (r:Nat) (s t:Nat):difB m m (t,s) r=difB m m (s,t) r:=by
 unfold difB
 rw [pB_swap,List.getElem?_map]
 cases (pB m m (s,t) r)[r / m.Inputs.toNat]? with
 | none=>rfl
 | some x =>
  show decide (ot m x.1.2 _≠ot m x.1.1 _)=decide (ot m x.1.1 _≠ot m x.1.2 _)
  exact decide_eq_decide.2 ⟨fun h q=>h q.symm,fun h q=>h q.symm⟩
theorem fst_swap {s t:Nat} {res:List Int×Bool} (h:Fst m m (s,t) res):Fst m m (t,s) res:=by
 rcases h with ⟨i,c,x,h1,h2,h3,h4,h5⟩ | ⟨L,h1,h2,h3⟩
 ·exact Or.inl ⟨i,c,((x.1.2,x.1.1),x.2),h1,by rw [pB_swap,List.getElem?_map,h2];rfl,fun q=>h3 q.symm,fun r hr=>by rw [dif_swap];exact h4 r hr,h5⟩
 ·refine Or.inr ⟨L.map fun x=>((x.1.2,x.1.1),x.2),⟨?_⟩,fun r hr=>by rw [dif_swap];exact h2 r (by rwa [List.length_map] at hr),h3⟩
  rw [List.length_map]
  have:=pB_swap (m:=m) (L.length*m.Inputs.toNat) s t
  unfold pB at this
  rw [this,← h1.eq]
theorem sepW_symm (H:MacOk m) {s t:Nat} (hs:s<m.Next.length) (ht:t<m.Next.length):sepW m t s=sepW m s t:=by
 have hK:0<m.Inputs.toNat:=by have:=H.i1;omega
 have:=fst_uniq hK (sep_fst H ht hs) (fst_swap (sep_fst H hs ht))
 injection this
theorem sepW_sm (H:MacOk m) {s t:Nat} (hs:s<m.Next.length) (ht:t<m.Next.length):WOk m.Inputs (sepW m s t)∧(sepW m s t).length≤m.Next.length*m.Next.length*m.Inputs.toNat:=by
 have h:=sep_fst H hs ht
 rcases h with ⟨i,c,x,g1,g2,g3,g4,g5⟩ | ⟨L,_,_,g⟩
 ·injection g5 with g5 _
  have hr:=pB_rng H.two (p0:=(s,t)) hs ht _ x (List.mem_of_getElem? g2)
  have hlen:=pB_len H.two (p0:=(s,t)) hs ht (i*m.Inputs.toNat+c)
  have hi:=(List.getElem?_eq_some_iff.1 g2).1
  have:=mem_lt (show i<m.Next.length*m.Next.length by omega) g1
  refine ⟨?_,?_⟩
  ·rw [g5]
   refine WOk.append hr.2.2.2.2.2 fun z hz=>?_
   have:z=(↑c:Int):=by simpa using hz
   omega
  ·rw [g5]
   simp
   omega
 ·injection g with g _
  rw [g]
  exact ⟨fun a ha=>(by cases ha),Nat.zero_le _⟩
structure MinimalP (m:zaa):Prop where
 reach:∀ s,s<m.Next.length→∃ w,WOk m.Inputs w∧dest m m.Start.toNat w=s
 apart:∀ i j,i<m.Next.length→j<m.Next.length→Eqv m i m j→i=j
theorem can_reach (K:Can M) (hK:0<M.Inputs.toNat):∀ u,u<M.Next.length→∃ w,WOk M.Inputs w∧dest M 0 w=u:=by
 intro u
 induction u using Nat.strongRecOn with
 | ind u ih =>
  intro hu
  by_cases hz:u=0
  ·subst hz
   exact ⟨[],fun a ha=>(by cases ha),rfl⟩
  ·obtain ⟨i,a,h1,h2,h3⟩:=K.c5 u (by omega) hu
   obtain ⟨w,w1,w2⟩:=ih i h1 (by omega)
   refine ⟨w++[(↑a:Int)],w1.append fun z hz=>?_,?_⟩
   ·have:z=(↑a:Int):=by simpa using hz
    omega
   ·rw [zck,w2]
    show nx M i (Int.toNat ↑a)=u
    rw [Int.toNat_natCast,h3]
theorem zj4 (S:MinSem m M):MinimalP M:=⟨fun s hs=>by
 have hK:0<M.Inputs.toNat:=by have:=S.ok.i1;omega
 rw [S.start]
 exact can_reach S.can hK s hs,S.min⟩
theorem sem_le (H:MacOk m) (S:MinSem m M):M.Next.length≤m.Next.length∧(M.Next.length=m.Next.length↔MinimalP m):=by
 have hK:0<M.Inputs.toNat:=by have:=S.ok.i1;omega
 have hst:=H.st
 have hreach:=can_reach S.can hK
 have hf:∀ u,∃ s,u<M.Next.length→s<m.Next.length∧Eqv M u m s∧∃ w,WOk m.Inputs w∧dest m m.Start.toNat w=s:=fun u=>by
  by_cases hu:u<M.Next.length
  ·obtain ⟨w,w1,w2⟩:=hreach u hu
   have hw:WOk m.Inputs w:=by rw [← S.inp];exact w1
   refine ⟨dest m m.Start.toNat w,fun _=>⟨H.dest hw (by omega),?_,w,hw,rfl⟩⟩
   have:=S.eqv.dest S.inp w1
   rwa [w2] at this
  ·exact ⟨0,fun h=>absurd h hu⟩
 obtain ⟨f,hf⟩:=Classical.axiomOfChoice hf
 have hinj:((List.range M.Next.length).map f).Nodup:=by
  refine List.pairwise_map.2 (List.Pairwise.imp_of_mem (fun {a b} ha hb hne he=>hne ?_) (List.nodup_range (n:=M.Next.length)))
  have h1:=hf a (List.mem_range.1 ha)
  have h2:=hf b (List.mem_range.1 hb)
  rw [← he] at h2
  exact S.min a b (List.mem_range.1 ha) (List.mem_range.1 hb) (h1.2.1.trans S.inp (h2.2.1.symm S.inp))
 have hsub:∀ x∈(List.range M.Next.length).map f,x∈List.range m.Next.length:=fun x hx=>by
  obtain ⟨u,hu,rfl⟩:=List.mem_map.1 hx
  exact List.mem_range.2 (hf u (List.mem_range.1 hu)).1
 have hle:=nodup_le hinj hsub
 rw [List.length_map,List.length_range,List.length_range] at hle
 refine ⟨hle,fun he=>⟨fun s hs=>?_,fun i j hi hj hij=>?_⟩,fun P=>?_⟩
 ·have:=zj9 hinj hsub (by simp [he]) s (List.mem_range.2 hs)
  obtain ⟨u,hu,rfl⟩:=List.mem_map.1 this
  exact (hf u (List.mem_range.1 hu)).2.2
 ·obtain ⟨u,hu,rfl⟩:=List.mem_map.1 (zj9 hinj hsub (by simp [he]) i (List.mem_range.2 hi))
  obtain ⟨v,hv,rfl⟩:=List.mem_map.1 (zj9 hinj hsub (by simp [he]) j (List.mem_range.2 hj))
  have h1:=hf u (List.mem_range.1 hu)
  have h2:=hf v (List.mem_range.1 hv)
  have:=S.min u v (List.mem_range.1 hu) (List.mem_range.1 hv) ((h1.2.1.trans S.inp hij).trans S.inp (h2.2.1.symm S.inp))
  rw [this]
 ·have hg:∀ s,∃ u,s<m.Next.length→u<M.Next.length∧Eqv M u m s:=fun s=>by
   by_cases hs:s<m.Next.length
   ·obtain ⟨w,w1,w2⟩:=P.reach s hs
    have hw:WOk M.Inputs w:=by rw [S.inp];exact w1
    refine ⟨dest M 0 w,fun _=>⟨S.ok.dest hw S.ok.n1,?_⟩⟩
    have:=S.eqv.dest S.inp hw
    rwa [w2] at this
   ·exact ⟨0,fun h=>absurd h hs⟩
  obtain ⟨g,hg⟩:=Classical.axiomOfChoice hg
  have ginj:((List.range m.Next.length).map g).Nodup:=by
   refine List.pairwise_map.2 (List.Pairwise.imp_of_mem (fun {a b} ha hb hne he=>hne ?_) (List.nodup_range (n:=m.Next.length)))
   have h1:=hg a (List.mem_range.1 ha)
   have h2:=hg b (List.mem_range.1 hb)
   rw [← he] at h2
   exact P.apart a b (List.mem_range.1 ha) (List.mem_range.1 hb) ((h1.2.symm S.inp).trans S.inp.symm h2.2)
  have:=nodup_le ginj (l':=List.range M.Next.length) fun x hx=>by
   obtain ⟨u,hu,rfl⟩:=List.mem_map.1 hx
   exact List.mem_range.2 (hg u (List.mem_range.1 hu)).1
  rw [List.length_map,List.length_range,List.length_range] at this
  omega
theorem reach_all {L:List (Nat×List Int)} {s0:Nat} (hE:MEnd m s0 L):∀ (w:List Int) (i:Nat) (x:Nat×List Int),L[i]?=some x→WOk m.Inputs w→∃ (j:Nat) (y:Nat×List Int),L[j]?=some y∧y.1=dest m x.1 w
 | [],i,x,hx,_=>⟨i,x,hx,rfl⟩
 | z::w,i,x,hx,hw=>by
  have hz:=hw.head
  obtain ⟨j,y,h1,h2,_⟩:=hE.closed hx (a:=z.toNat) (by omega)
  obtain ⟨k,v,g1,g2⟩:=reach_all hE w j y h1 hw.tail
  exact ⟨k,v,g1,by rw [g2,h2];rfl⟩
theorem minimal_prog (hv:validM m=0):∃ b,zco m=some b∧(b=true↔MinimalP m):=by
 have H:=valid_ok hv
 have hst:=H.st
 obtain ⟨M,h1,S⟩:=zdh hv
 obtain ⟨hle,hiff⟩:=sem_le H S
 obtain ⟨L,hE,hR⟩:=zgr hv
 obtain ⟨hLn,hLr⟩:=mEnd_rng H (by omega) hE
 refine ⟨decide (M.Next.length=m.Next.length),?_,by rw [decide_eq_true_iff];exact hiff⟩
 unfold zco
 rw [za5,obind,hv,decide_eq_false (by decide),cond_false,hR,obind,obind]
 by_cases hl:L.length=m.Next.length
 ·rw [decide_eq_false (by rw [natI_len,List.length_map];omega),cond_false,h1,obind,decide_eq_true rfl,cond_true,obind]
  show some (decide ((↑M.Next.length:Int)=(↑m.Next.length:Int)))=_
  congr 1
  exact decide_eq_decide.2 (by omega)
 ·rw [decide_eq_true (by rw [natI_len,List.length_map];omega),cond_true,decide_eq_false]
  intro he
  have P:=hiff.1 he
  have:=nodup_le (l:=List.range m.Next.length) (l':=L.map Prod.fst) List.nodup_range fun s hs=>by
   obtain ⟨w,w1,w2⟩:=P.reach s (List.mem_range.1 hs)
   obtain ⟨j,y,g1,g2⟩:=reach_all hE w 0 _ hE.first w1
   exact List.mem_map.2 ⟨y,List.mem_of_getElem? g1,by rw [g2];exact w2⟩
  rw [List.length_range,List.length_map] at this
  omega
theorem minimal_ref (hv:validM m=0):∃ b,zd6 m=some b∧(b=true↔MinimalP m):=by
 obtain ⟨M,h2,S⟩:=zff hv
 obtain ⟨hle,hiff⟩:=sem_le (valid_ok hv) S
 refine ⟨decide (M.Next.length=m.Next.length),?_,by rw [decide_eq_true_iff];exact hiff⟩
 unfold zd6
 rw [h2,obind,decide_eq_true rfl,cond_true,obind]
 show some (decide ((↑M.Next.length:Int)=(↑m.Next.length:Int)))=_
 congr 1
 exact decide_eq_decide.2 (by omega)
open Classical in
noncomputable def chkM (m:zaa):Int:=if validM m≠0 then validM m else if MinimalP m then 0 else 1
open Classical in
theorem check_prog (m:zaa):zc5 m=some (chkM m):=by
 unfold chkM zc5
 rw [za5,obind]
 by_cases hv:validM m=0
 ·obtain ⟨b,h1,h3⟩:=minimal_prog hv
  rw [decide_eq_false (by omega),cond_false,h1,obind,if_neg (fun h=>h hv)]
  cases b with
  | true=>rw [if_pos (h3.1 rfl)];rfl
  | false=>rw [if_neg (fun q=>by have:=h3.2 q;cases this)];rfl
 ·rw [decide_eq_true hv,cond_true,if_pos hv]
open Classical in
theorem check_ref (m:zaa):zf9 m=some (chkM m):=by
 unfold chkM zf9
 rw [zcg,obind]
 by_cases hv:validM m=0
 ·obtain ⟨b,h1,h3⟩:=minimal_ref hv
  rw [decide_eq_false (by omega),cond_false,h1,obind,if_neg (fun h=>h hv)]
  cases b with
  | true=>rw [if_pos (h3.1 rfl)];rfl
  | false=>rw [if_neg (fun q=>by have:=h3.2 q;cases this)];rfl
 ·rw [decide_eq_true hv,cond_true,if_pos hv]
noncomputable def idL (m:zaa) (u k:Nat):List (List Int):=((List.range k).filter fun v=>decide (v≠u)).map (sepW m u)
theorem idL_succ {u k:Nat} (h:k≠u):idL m u (k+1)=idL m u k++[sepW m u k]:=by
 unfold idL
 rw [List.range_succ,List.filter_append,List.map_append]
 simp [h]
theorem idL_self (u:Nat):idL m u (u+1)=idL m u u:=by
 unfold idL
 rw [List.range_succ,List.filter_append,List.map_append]
 simp
theorem idL_len (u k:Nat):(idL m u k).length≤k:=by
 unfold idL
 rw [List.length_map]
 have:=List.length_filter_le (fun v=>decide (v≠u)) (List.range k)
 rwa [List.length_range] at this
theorem idL_mem {u k:Nat} {w:List Int} (h:w∈idL m u k):∃ v,v<k∧v≠u∧w=sepW m u v:=by
 obtain ⟨v,hv,rfl⟩:=List.mem_map.1 h
 obtain ⟨h1,h2⟩:=List.mem_filter.1 hv
 exact ⟨v,List.mem_range.1 h1,of_decide_eq_true h2,rfl⟩
theorem idL_sm (H:MacOk m) {u k:Nat} (hu:u<m.Next.length) (hk:k≤m.Next.length):SmL (idL m u k):=by
 have hn:=H.n2
 have hI:=H.i2
 refine ⟨by have:=idL_len (m:=m) u k;omega,fun w hw=>?_⟩
 obtain ⟨v,h1,_,rfl⟩:=idL_mem hw
 have h:=(sepW_sm H hu (t:=v) (by omega)).2
 have h1:m.Next.length*m.Next.length≤128*128:=Nat.mul_le_mul hn hn
 have h2:m.Next.length*m.Next.length*m.Inputs.toNat≤128*128*64:=Nat.mul_le_mul h1 (by omega)
 unfold SmW
 omega
noncomputable def idsM (m:zaa):List (List (List Int)):=(List.range m.Next.length).map fun s=>sortW (idL m s m.Next.length)
theorem R11_ids (hv:validM m=0) (P:MinimalP m):zax m=some (idsM m,0):=by
 have H:=valid_ok hv
 have hn:=H.n2
 have hc:chkM m=0:=by
  unfold chkM
  rw [if_neg (fun h=>h hv),if_pos P]
 unfold zax
 rw [check_ref m,obind,hc,decide_eq_false (by decide),cond_false]
 have inner:∀ s,s<m.Next.length→iter (fun (q:List (List Int)×Nat)=>zax.s13 m s q.1 q.2) fuel ([],0)=some (idL m s m.Next.length):=fun s hs =>
  iter_eq (fun q=>q.2≤m.Next.length∧q.1=idL m s q.2) (fun q=>m.Next.length-q.2) (fun q ⟨q1,q2⟩=>by
   obtain ⟨y,t⟩:=q
   simp only at q1 q2
   subst q2
   simp only [zax.s13]
   by_cases g:t<m.Next.length
   ·left
    rw [decide_eq_true (by omega),cond_true]
    by_cases e:t=s
    ·subst e
     exact ⟨(idL m t t,t+1),by rw [decide_eq_false (by omega),cond_false],⟨g,by simp only;rw [idL_self]⟩,by simp only;omega⟩
    ·have:=idL_len (m:=m) s t
     refine ⟨(idL m s (t+1),t+1),?_,⟨g,rfl⟩,by simp only;omega⟩
     rw [decide_eq_true (by omega),cond_true,States_ref hv hs g,obind,chk_pos (by unfold capOk;omega),idL_succ e]
   ·right
    have:t=m.Next.length:=by omega
    subst this
    rw [decide_eq_false (by omega),cond_false]) (n:=fuel) (s:=([],0)) ⟨Nat.zero_le _,rfl⟩ (by have:=fuel_big;simp only;omega)
 have outer:=iter_eq (step:=fun (q:List (List (List Int))×Nat)=>zax.s14 m q.1 q.2) (r:=idsM m) (fun q=>q.2≤m.Next.length∧q.1=(List.range q.2).map fun s=>sortW (idL m s m.Next.length)) (fun q=>m.Next.length-q.2) (fun q ⟨q1,q2⟩=>by
   obtain ⟨y,s⟩:=q
   simp only at q1 q2
   subst q2
   simp only [zax.s14]
   by_cases g:s<m.Next.length
   ·left
    refine ⟨((List.range (s+1)).map fun s=>sortW (idL m s m.Next.length),s+1),?_,⟨g,rfl⟩,by simp only;omega⟩
    rw [decide_eq_true (by omega),cond_true,inner s g,obind,zhx (idL_sm H g (Nat.le_refl _)),obind,chk_pos (by unfold capOk;simp;omega),List.range_succ,List.map_append]
    rfl
   ·right
    have:s=m.Next.length:=by omega
    subst this
    rw [decide_eq_false (by omega),cond_false]
    rfl) (n:=fuel) (s:=([],0)) ⟨Nat.zero_le _,rfl⟩ (by have:=fuel_big;simp only;omega)
 rw [outer,obind]
def kU (n s t u:Nat):Nat:=if u<s then n else if u=s then t else if u<t then s+1 else s
theorem ids_row (hv:validM m=0) {s:Nat} (hs:s<m.Next.length) {S:List (List (List Int))} (hl:S.length=m.Next.length) (hS:∀ u,u<m.Next.length→S[u]?=some (idL m u (kU m.Next.length s (s+1) u))) :
  ∃ S',iter (fun (q:List (List (List Int))×Nat)=>zah.s13 m s q.1 q.2) fuel (S,s+1)=some (.inl S')∧S'.length=m.Next.length∧∀ u,u<m.Next.length→S'[u]?=some (idL m u (kU m.Next.length s m.Next.length u)):=by
 have H:=valid_ok hv
 have hn:=H.n2
 obtain ⟨r,hr,S',rfl,h1,h2⟩:=za4 (step:=fun (q:List (List (List Int))×Nat)=>zah.s13 m s q.1 q.2) (fun q=>s<q.2∧q.2≤m.Next.length∧q.1.length=m.Next.length∧∀ u,u<m.Next.length→q.1[u]?=some (idL m u (kU m.Next.length s q.2 u))) (fun q=>m.Next.length-q.2) (fun r=>∃ S',r=.inl S'∧S'.length=m.Next.length∧∀ u,u<m.Next.length→S'[u]?=some (idL m u (kU m.Next.length s m.Next.length u))) (fun q ⟨q1,q2,q3,q4⟩=>by
  obtain ⟨S,t⟩:=q
  simp only at q1 q2 q3 q4
  simp only [zah.s13]
  by_cases g:t<m.Next.length
  ·left
   have e1:=q4 s hs
   have e2:=q4 t g
   have k1:kU m.Next.length s t s=t:=by unfold kU;rw [if_neg (by omega),if_pos rfl]
   have k2:kU m.Next.length s t t=s:=by unfold kU;rw [if_neg (by omega),if_neg (by omega),if_neg (by omega)]
   rw [k1] at e1
   rw [k2] at e2
   have l1:=idL_len (m:=m) s t
   have l2:=idL_len (m:=m) t s
   have e3:(S.set s (idL m s t++[sepW m s t]))[t]?=some (idL m t s):=by rw [List.getElem?_set_ne (by omega),e2]
   refine ⟨((S.set s (idL m s t++[sepW m s t])).set t (idL m t s++[sepW m s t]),t+1),?_,⟨by simp only;omega,g,by simp [q3],fun u hu=>?_⟩,by simp only;omega⟩
   ·rw [decide_eq_true (by omega),cond_true,States_prog hv hs g,obind,decide_eq_false (fun h=>h rfl),cond_false,idxn_at e1,chk_pos (by unfold capOk;omega),idxn_at e1]
    simp only
    rw [idxn_at e3,chk_pos (by unfold capOk;omega),idxn_at e3]
   ·simp only
    by_cases a1:t=u
    ·subst a1
     rw [List.getElem?_set_self (by simp [q3];omega)]
     have:kU m.Next.length s (t+1) t=s+1:=by unfold kU;rw [if_neg (by omega),if_neg (by omega),if_pos (by omega)]
     rw [this,idL_succ (by omega),sepW_symm H hs g]
    ·rw [List.getElem?_set_ne a1]
     by_cases a2:s=u
     ·subst a2
      rw [List.getElem?_set_self (by omega)]
      have:kU m.Next.length s (t+1) s=t+1:=by unfold kU;rw [if_neg (by omega),if_pos rfl]
      rw [this,idL_succ (by omega)]
     ·rw [List.getElem?_set_ne a2,q4 u hu]
      have:kU m.Next.length s (t+1) u=kU m.Next.length s t u:=by
       unfold kU
       by_cases b1:u<s
       ·rw [if_pos b1,if_pos b1]
       ·have b4:¬ u=s:=by omega
        rw [if_neg b1,if_neg b1,if_neg b4,if_neg b4]
        by_cases b2:u<t
        ·have b5:u<t+1:=by omega
         rw [if_pos b2,if_pos b5]
        ·have b5:¬ u<t+1:=by omega
         rw [if_neg b2,if_neg b5]
      rw [this]
  ·right
   have:t=m.Next.length:=by omega
   subst this
   exact ⟨_,by rw [decide_eq_false (by omega),cond_false],S,rfl,q3,q4⟩) fuel (S,s+1) ⟨by simp only;omega,hs,hl,hS⟩ (by have:=fuel_big;simp only;omega)
 exact ⟨S',hr,h1,h2⟩
theorem separate_ids (hv:validM m=0) (P:MinimalP m):zah m=some (idsM m,0):=by
 have H:=valid_ok hv
 have hn:=H.n2
 have hn1:=H.n1
 have hc:chkM m=0:=by
  unfold chkM
  rw [if_neg (fun h=>h hv),if_pos P]
 unfold zah
 rw [check_prog m,obind,hc,decide_eq_false (by decide),cond_false,chk_pos ⟨by omega,by omega,by unfold capOk;omega⟩]
 obtain ⟨r,hr,S,rfl,h1,h2⟩:=za4 (step:=fun (q:List (List (List Int))×Nat)=>zah.s14 m q.1 q.2) (fun q=>q.2≤m.Next.length∧q.1.length=m.Next.length∧∀ u,u<m.Next.length→q.1[u]?=some (idL m u (kU m.Next.length q.2 (q.2+1) u))) (fun q=>m.Next.length-q.2) (fun r=>∃ S,r=.inl S∧S.length=m.Next.length∧∀ u,u<m.Next.length→S[u]?=some (idL m u m.Next.length)) (fun q ⟨q1,q3,q4⟩=>by
  obtain ⟨S,s⟩:=q
  simp only at q1 q3 q4
  simp only [zah.s14]
  by_cases g:s<m.Next.length
  ·left
   obtain ⟨S',z1,z2,z3⟩:=ids_row hv g q3 q4
   refine ⟨(S',s+1),by rw [decide_eq_true (by omega),cond_true,z1,obind];rfl,⟨g,z2,fun u hu=>?_⟩,by simp only;omega⟩
   simp only
   rw [z3 u hu]
   by_cases b1:u<s
   ·rw [show kU m.Next.length s m.Next.length u=m.Next.length by unfold kU;rw [if_pos b1],show kU m.Next.length (s+1) (s+1+1) u=m.Next.length by unfold kU;rw [if_pos (by omega)]]
   ·by_cases b2:u=s
    ·rw [show kU m.Next.length s m.Next.length u=m.Next.length by unfold kU;rw [if_neg b1,if_pos b2],show kU m.Next.length (s+1) (s+1+1) u=m.Next.length by unfold kU;rw [if_pos (by omega)]]
    ·rw [show kU m.Next.length s m.Next.length u=s+1 by unfold kU;rw [if_neg b1,if_neg b2,if_pos hu]]
     by_cases b3:u=s+1
     ·rw [show kU m.Next.length (s+1) (s+1+1) u=s+1+1 by unfold kU;rw [if_neg (by omega),if_pos b3],b3,idL_self]
     ·rw [show kU m.Next.length (s+1) (s+1+1) u=s+1 by unfold kU;rw [if_neg (by omega),if_neg b3,if_neg (by omega)]]
  ·right
   have:s=m.Next.length:=by omega
   subst this
   refine ⟨_,by rw [decide_eq_false (by omega),cond_false],S,rfl,q3,fun u hu=>?_⟩
   rw [q4 u hu]
   rw [show kU m.Next.length m.Next.length (m.Next.length+1) u=m.Next.length by unfold kU;rw [if_pos hu]]) fuel (List.replicate m.Next.length [],0) ⟨Nat.zero_le _,by simp,fun u hu=>by
    simp only
    rw [List.getElem?_replicate,if_pos hu]
    congr 1
    by_cases b:u=0
    ·subst b
     show []=idL m 0 1
     rw [idL_self]
     rfl
    ·rw [show kU m.Next.length 0 (0+1) u=0 by unfold kU;rw [if_neg (by omega),if_neg b,if_neg (by omega)]]
     rfl⟩ (by have:=fuel_big;simp only;omega)
 rw [hr,obind]
 show (chk _ _:Option _)=_
 rw [chk_pos ⟨by omega,by omega,by unfold capOk;omega⟩]
 have last:=iter_eq (step:=fun (q:List (List (List Int))×Nat)=>zah.s16 S q.1 q.2) (r:=idsM m) (fun q=>q.2≤m.Next.length∧q.1=(List.range q.2).map fun s=>sortW (idL m s m.Next.length)) (fun q=>m.Next.length-q.2) (fun q ⟨q1,q2⟩=>by
   obtain ⟨y,s⟩:=q
   simp only at q1 q2
   subst q2
   simp only [zah.s16]
   by_cases g:s<m.Next.length
   ·left
    refine ⟨((List.range (s+1)).map fun s=>sortW (idL m s m.Next.length),s+1),?_,⟨g,rfl⟩,by simp only;omega⟩
    rw [decide_eq_true (by omega),cond_true,idxn_at (h2 s g),zeo (idL_sm H g (Nat.le_refl _)),obind,chk_pos (by unfold capOk;simp;omega),List.range_succ,List.map_append]
    rfl
   ·right
    have:s=m.Next.length:=by omega
    subst this
    rw [decide_eq_false (by omega),cond_false]
    rfl) (n:=fuel) (s:=([],0)) ⟨Nat.zero_le _,rfl⟩ (by have:=fuel_big;simp only;omega)
 rw [last,obind]
end
end Go.Proofs.YtcneaiejdidooaaGreat.Sym

/-
 The examples of the chapter on harmonized suites, reckoned.
-/
namespace Go.Proofs.YtcneaiejdidooaaGreat.Sym
set_option maxRecDepth 100000
end Go.Proofs.YtcneaiejdidooaaGreat.Sym

/-
 Suites with harmonized identifiers: the program's is the document's. Plain laws.
-/
namespace Go.Proofs.YtcneaiejdidooaaGreat.Sym
set_option maxRecDepth 100000
def uptoL (i n:Int):List (List Int):=((zby i n).getD ([],0)).1
theorem upto_allP:∀ i∈[1,2,3,4],∀ n∈[1,2,3],zby i n=some (uptoL i n,0)∧((uptoL i n).all fun w=>decide (w.length≤3)&&w.all fun a=>decide (0≤a∧a<i))=true∧(uptoL i n).length≤85:=by decide +kernel
theorem upto_allR:∀ i∈[1,2,3,4],∀ n∈[1,2,3],R02_Upto i n=some (uptoL i n,0):=by decide +kernel
theorem upto_eq {i n:Int} (h1:1≤i) (h2:i≤4) (h3:1≤n) (h4:n≤3):zby i n=some (uptoL i n,0)∧(∀ w∈uptoL i n,WOk i w∧w.length≤3)∧(uptoL i n).length≤85:=by
 obtain ⟨a,c,d⟩:=upto_allP i (by simp;omega) n (by simp;omega)
 refine ⟨a,fun w hw=>?_,d⟩
 have:=List.all_eq_true.1 c w hw
 rw [Bool.and_eq_true] at this
 exact ⟨fun x hx=>of_decide_eq_true (List.all_eq_true.1 this.2 x hx),of_decide_eq_true this.1⟩
theorem upto_ref {i n:Int} (h1:1≤i) (h2:i≤4) (h3:1≤n) (h4:n≤3):R02_Upto i n=some (uptoL i n,0):=upto_allR i (by simp;omega) n (by simp;omega)
theorem flat_le {α β:Type} {f:α→List β} {k:Nat}:∀ {l:List α},(∀ x∈l,(f x).length≤k)→(l.flatMap f).length≤l.length*k
 | [],_=>by simp
 | x::l,h=>by
  have h1:=h x (by simp)
  have h2:=flat_le (l:=l) fun y hy=>h y (List.mem_cons_of_mem _ hy)
  rw [List.flatMap_cons,List.length_append,List.length_cons,Nat.succ_mul]
  omega
theorem app_loop {α β R:Type} {step:List β×Nat→Option ((List β×Nat)⊕R)} {l:List α} {f:α→List β} {fin:List β→R} {acc:List β} (h1:∀ y i x,l[i]?=some x→y=acc++(l.take i).flatMap f→step (y,i)=some (.inl (y++f x,i+1)))
  (h2:step (acc++l.flatMap f,l.length)=some (.inr (fin (acc++l.flatMap f)))) (hl:l.length≤100000000000):iter step fuel (acc,0)=some (fin (acc++l.flatMap f)):=by
 refine iter_eq (fun s=>s.2≤l.length∧s.1=acc++(l.take s.2).flatMap f) (fun s=>l.length-s.2) (fun s hs=>?_) ⟨Nat.zero_le _,by simp⟩ (by have:=fuel_big;simp only;omega)
 obtain ⟨y,i⟩:=s
 obtain ⟨q1,q2⟩:=hs
 simp only at q1 q2
 by_cases g:i<l.length
 ·left
  have hx:=get_at g
  refine ⟨(y++f l[i],i+1),h1 y i _ hx q2,⟨g,?_⟩,by simp only;omega⟩
  simp only
  rw [q2,zbz hx,List.flatMap_append]
  simp
 ·right
  have:i=l.length:=by omega
  subst this
  rw [List.take_length] at q2
  rw [q2,h2]
section
variable {m M:zaa} {ids:List (List (List Int))} {front middle:List (List Int)}
def mostL (ids:List (List (List Int))):Nat:=ids.foldl (fun n l=>max n l.length) 1
theorem most_step (l:List (List (List Int))) (x:List (List Int)):mostL (l++[x])=max (mostL l) x.length:=by
 unfold mostL
 rw [List.foldl_append]
 rfl
theorem most_pos:∀ (l:List (List (List Int))) (n:Nat),n≤l.foldl (fun n l=>max n l.length) n
 | [],_=>Nat.le_refl _
 | x::l,n=>Nat.le_trans (Nat.le_max_left _ _) (most_pos l (max n x.length))
theorem most_mem:∀ {l:List (List (List Int))} {x:List (List Int)} {n:Nat},x∈l→x.length≤l.foldl (fun n l=>max n l.length) n
 | y::l,x,n,h=>by
  rcases List.mem_cons.1 h with rfl | h
  ·exact Nat.le_trans (Nat.le_max_right _ _) (most_pos l _)
  ·exact most_mem (n:=max n y.length) h
theorem most_le {k:Nat}:∀ {l:List (List (List Int))} {n:Nat},n≤k→(∀ x∈l,x.length≤k)→l.foldl (fun n l=>max n l.length) n≤k
 | [],_,h,_=>h
 | x::l,n,h,g=>most_le (l:=l) (n:=max n x.length) (Nat.max_le.2 ⟨h,g x (by simp)⟩) fun y hy=>g y (List.mem_cons_of_mem _ hy)
theorem zk5 (hl:ids.length≤1000):zb2 ids=some (↑(mostL ids):Int):=by
 unfold zb2
 have key:=iter_eq (step:=fun (s:Int×Nat)=>zb2.s2 ids s.1 s.2) (r:=(↑(mostL ids):Int)) (fun s=>s.2≤ids.length∧s.1=(↑(mostL (ids.take s.2)):Int)) (fun s=>ids.length-s.2) (fun s ⟨q1,q2⟩=>by
  obtain ⟨n,i⟩:=s
  simp only at q1 q2
  subst q2
  simp only [zb2.s2]
  by_cases g:i<ids.length
  ·left
   have hx:=get_at g
   refine ⟨((↑(mostL (ids.take (i+1))):Int),i+1),?_,⟨g,rfl⟩,by simp only;omega⟩
   rw [decide_eq_true (by omega),cond_true,idxn_at hx,zbz hx,most_step]
   congr 4
   omega
  ·right
   have:i=ids.length:=by omega
   subst this
   rw [decide_eq_false (by omega),cond_false,List.take_length]) (n:=fuel) (s:=(1,0)) ⟨Nat.zero_le _,rfl⟩ (by have:=fuel_big;simp only;omega)
 rw [key,obind]
theorem R30_most_eq (hl:ids.length≤1000):iter (fun (s:Int×Nat)=>R30_Made.s2 ids s.1 s.2) fuel (1,0)=some (↑(mostL ids):Int):=by
 refine iter_eq (fun s=>s.2≤ids.length∧s.1=(↑(mostL (ids.take s.2)):Int)) (fun s=>ids.length-s.2) (fun s hs=>?_) ⟨Nat.zero_le _,rfl⟩ (by have:=fuel_big;simp only;omega)
 obtain ⟨n,i⟩:=s
 obtain ⟨q1,q2⟩:=hs
 simp only at q1 q2
 subst q2
 simp only [R30_Made.s2]
 by_cases g:i<ids.length
 ·left
  have hx:=get_at g
  refine ⟨((↑(mostL (ids.take (i+1))):Int),i+1),?_,⟨g,rfl⟩,by simp only;omega⟩
  rw [decide_eq_true (by omega),cond_true,idxn_at hx,zbz hx,most_step]
  congr 4
  omega
 ·right
  have:i=ids.length:=by omega
  subst this
  rw [decide_eq_false (by omega),cond_false,List.take_length]
structure Parts (M:zaa) (front middle:List (List Int)) (ids:List (List (List Int))):Prop where
 ok:validM M=0
 il:ids.length=M.Next.length
 is_:∀ l∈ids,l.length≤200∧∀ x∈l,x.length≤600
 f1:front.length≤200
 f2:∀ u∈front,WOk M.Inputs u∧u.length≤200
 m1:middle.length≤200
 m2:∀ v∈middle,WOk M.Inputs v∧v.length≤200
theorem check_of {w:List Int} (H:MacOk M) (h:WOk M.Inputs w) (hl:w.length≤1024):checkI w M.Inputs=0:=by
 have:=H.i1
 have:=H.i2
 unfold checkI
 rw [if_pos (by omega),if_neg (by omega),if_pos]
 exact List.all_eq_true.2 fun a ha=>by
  have:=h a ha
  simp
  omega
def rowS (M:zaa) (ids:List (List (List Int))) (u v:List Int):List (List Int):=(tailsM M ids (u++v)).map fun x=>u++v++x
def allS (M:zaa) (front middle:List (List Int)) (ids:List (List (List Int))):List (List Int):=front.flatMap fun u=>middle.flatMap fun v=>rowS M ids u v
theorem zfl (P:Parts M front middle ids) (w:List Int):(tailsM M ids w).length≤mostL ids∧∀ x∈tailsM M ids w,x.length≤600:=by
 unfold tailsM
 split
 ·exact ⟨by simp;exact most_pos ids 1,fun x hx=>by
   have:x=[]:=by simpa using hx
   rw [this]
   simp⟩
 ·cases e:ids[dest M M.Start.toNat w]? with
  | none=>exact ⟨Nat.zero_le _,fun x hx=>by cases hx⟩
  | some l =>
   have hm:=List.mem_of_getElem? e
   exact ⟨most_mem hm,(P.is_ l hm).2⟩
theorem most_200 (P:Parts M front middle ids):mostL ids≤200:=most_le (by omega) fun l hl=>(P.is_ l hl).1
theorem rowS_le (P:Parts M front middle ids) (u v:List Int):(rowS M ids u v).length≤mostL ids:=by
 unfold rowS
 rw [List.length_map]
 exact (zfl P _).1
theorem mid_le (P:Parts M front middle ids) (u:List Int) (l:List (List Int)):(l.flatMap fun v=>rowS M ids u v).length≤l.length*mostL ids:=flat_le fun v _=>rowS_le P u v
theorem made_prog (P:Parts M front middle ids):iter (fun (s:List (List Int)×Nat)=>zav.s14 (M,0) (front,0) (middle,0) (ids,0) s.1 s.2) fuel ([],0)=some (.inl (allS M front middle ids)):=by
 have H:=valid_ok P.ok
 have hms:=most_200 P
 have inner:∀ (u:List Int) (acc:List (List Int)),u∈front→acc.length≤10000000→iter (fun (s:List (List Int)×Nat)=>zav.s13 (M,0) (middle,0) (ids,0) u s.1 s.2) fuel (acc,0)=some (.inl (acc++middle.flatMap fun v=>rowS M ids u v)):=by
  intro u acc hu hacc
  have hfu:=P.f2 u hu
  refine app_loop (l:=middle) (f:=fun v=>rowS M ids u v) (fin:=fun y=>Sum.inl y) (fun y i v hv hy=>?_) ?_ (by have:=P.m1;omega)
  ·have hi:=(List.getElem?_eq_some_iff.1 hv).1
   have hmv:=P.m2 v (List.mem_of_getElem? hv)
   have hc:checkI (u++v) M.Inputs=0:=check_of H (hfu.1.append hmv.1) (by rw [List.length_append];omega)
   have ht:=zfl P (u++v)
   have hyl:y.length≤10000000+200*200:=by
    rw [hy,List.length_append]
    have h1:=mid_le P u (middle.take i)
    have h2:(middle.take i).length*mostL ids≤200*200:=Nat.mul_le_mul (by rw [List.length_take];have:=P.m1;omega) hms
    omega
   have hrl:=rowS_le P u v
   simp only [zav.s13]
   rw [decide_eq_true (by omega),cond_true,idxn_at hv,zdr [u,v] (by simp) (by simp;omega),obind,show [u,v].flatten=u++v by simp,zko ⟨by rw [P.il];have:=H.n2;omega,fun l hl=>⟨by have:=(P.is_ l hl).1;omega,fun x hx=>by have:=(P.is_ l hl).2 x hx;omega⟩⟩ (by unfold SmW;rw [List.length_append];omega),obind]
   have hE:tailsE M ids (u++v)=(tailsM M ids (u++v),0):=by
    unfold tailsE
    rw [if_neg (fun h=>h P.ok),if_neg (fun h=>h hc),if_neg (fun h=>h P.il)]
   rw [hE,decide_eq_false (fun h=>h rfl),cond_false]
   simp only
   rw [behind_eq (by rw [List.length_append];omega) (by omega) (fun x hx=>by have:=ht.2 x hx;omega),obind,chk_pos (by unfold capOk;rw [List.length_map];omega)]
   rfl
  ·simp only [zav.s13]
   rw [decide_eq_false (by omega),cond_false]
 refine app_loop (l:=front) (fin:=fun y=>Sum.inl y) (acc:=[]) (f:=fun u=>middle.flatMap fun v=>rowS M ids u v) (fun y i u hu hy=>?_) ?_ (by have:=P.f1;omega)
 ·have hi:=(List.getElem?_eq_some_iff.1 hu).1
  have hyl:y.length≤10000000:=by
   rw [hy,List.nil_append]
   have h1:(((front.take i).flatMap fun u=>middle.flatMap fun v=>rowS M ids u v)).length≤(front.take i).length*(200*200):=flat_le fun u _=>Nat.le_trans (mid_le P u middle) (Nat.mul_le_mul P.m1 hms)
   have h2:(front.take i).length*(200*200)≤200*(200*200):=Nat.mul_le_mul (by rw [List.length_take];have:=P.f1;omega) (Nat.le_refl _)
   omega
  simp only [zav.s14]
  rw [decide_eq_true (by omega),cond_true,idxn_at hu,inner u y (List.mem_of_getElem? hu) hyl,obind]
  rfl
 ·simp only [zav.s14]
  rw [decide_eq_false (by omega),cond_false]
theorem joined_eq {a b c:List Int} (h:a.length+b.length+c.length≤1000000):zd4 a b c=some (a++b++c):=by
 unfold zd4
 rw [chk_pos (by unfold capOk;omega),chk_pos (by unfold capOk;omega),chk_pos (by unfold capOk;rw [List.length_append];omega)]
theorem made_ref (P:Parts M front middle ids):iter (fun (s:List (List Int)×Nat)=>R30_Made.s88 M front middle ids s.1 s.2) fuel ([],0)=some (allS M front middle ids):=by
 have H:=valid_ok P.ok
 have hms:=most_200 P
 have inmost:∀ (i j:Nat) (u v:List Int) (acc:List (List Int)),front[i]?=some u→middle[j]?=some v→acc.length≤10100000→iter (fun (s:List (List Int)×Nat)=>R30_Made.s86 front middle i j (tailsM M ids (u++v)) s.1 s.2) fuel (acc,0)=some (acc++rowS M ids u v):=by
  intro i j u v acc hu hv hacc
  have ht:=zfl P (u++v)
  have hfu:=P.f2 u (List.mem_of_getElem? hu)
  have hmv:=P.m2 v (List.mem_of_getElem? hv)
  have hrow:rowS M ids u v=(tailsM M ids (u++v)).flatMap fun x=>[u++v++x]:=by
   unfold rowS
   rw [List.map_eq_flatMap]
  rw [hrow]
  refine app_loop (fin:=fun y=>y) (fun y k x hx hy=>?_) ?_ (by omega)
  ·have hk:=(List.getElem?_eq_some_iff.1 hx).1
   have hxl:=ht.2 x (List.mem_of_getElem? hx)
   have hyl:y.length≤10100000+200:=by
    rw [hy,List.length_append]
    have h1:(((tailsM M ids (u++v)).take k).flatMap fun x=>[u++v++x]).length≤((tailsM M ids (u++v)).take k).length*1:=flat_le fun x _=>Nat.le_refl _
    rw [List.length_take] at h1
    omega
   simp only [R30_Made.s86]
   rw [decide_eq_true (by omega),cond_true,idxn_at hu,idxn_at hv,idxn_at hx,joined_eq (by omega),obind,chk_pos (by unfold capOk;omega)]
  ·simp only [R30_Made.s86]
   rw [decide_eq_false (by omega),cond_false]
 have inner:∀ (i:Nat) (u:List Int) (acc:List (List Int)),front[i]?=some u→acc.length≤10000000→iter (fun (s:List (List Int)×Nat)=>R30_Made.s87 M front middle ids i s.1 s.2) fuel (acc,0)=some (acc++middle.flatMap fun v=>rowS M ids u v):=by
  intro i u acc hu hacc
  have hfu:=P.f2 u (List.mem_of_getElem? hu)
  refine app_loop (fin:=fun y=>y) (fun y j v hv hy=>?_) ?_ (by have:=P.m1;omega)
  ·have hj:=(List.getElem?_eq_some_iff.1 hv).1
   have hmv:=P.m2 v (List.mem_of_getElem? hv)
   have hc:checkI (u++v++[]) M.Inputs=0:=check_of H (by rw [List.append_nil];exact hfu.1.append hmv.1) (by rw [List.append_nil,List.length_append];omega)
   have hyl:y.length≤10100000:=by
    rw [hy,List.length_append]
    have h1:=mid_le P u (middle.take j)
    have h2:(middle.take j).length*mostL ids≤200*200:=Nat.mul_le_mul (by rw [List.length_take];have:=P.m1;omega) hms
    omega
   simp only [R30_Made.s87]
   rw [decide_eq_true (by omega),cond_true,idxn_at hu,idxn_at hv,joined_eq (by simp;omega),obind,R30_tails_eq P.ok hc P.il,obind,List.append_nil,inmost i j u v y hu hv hyl,obind]
  ·simp only [R30_Made.s87]
   rw [decide_eq_false (by omega),cond_false]
 refine app_loop (fin:=fun y=>y) (acc:=[]) (f:=fun u=>middle.flatMap fun v=>rowS M ids u v) (fun y i u hu hy=>?_) ?_ (by have:=P.f1;omega)
 ·have hi:=(List.getElem?_eq_some_iff.1 hu).1
  have hyl:y.length≤10000000:=by
   rw [hy,List.nil_append]
   have h1:(((front.take i).flatMap fun u=>middle.flatMap fun v=>rowS M ids u v)).length≤(front.take i).length*(200*200):=flat_le fun u _=>Nat.le_trans (mid_le P u middle) (Nat.mul_le_mul P.m1 hms)
   have h2:(front.take i).length*(200*200)≤200*(200*200):=Nat.mul_le_mul (by rw [List.length_take];have:=P.f1;omega) (Nat.le_refl _)
   omega
  simp only [R30_Made.s88]
  rw [decide_eq_true (by omega),cond_true,inner i u y hu hyl,obind]
 ·simp only [R30_Made.s88]
  rw [decide_eq_false (by omega),cond_false]
theorem allS_sm (P:Parts M front middle ids) (hl:front.length*middle.length*mostL ids≤10000):SmL (allS M front middle ids):=by
 refine ⟨?_,fun w hw=>?_⟩
 ·have h1:(allS M front middle ids).length≤front.length*(middle.length*mostL ids):=flat_le fun u _=>mid_le P u middle
  rw [← Nat.mul_assoc] at h1
  omega
 ·obtain ⟨u,hu,hw⟩:=List.mem_flatMap.1 hw
  obtain ⟨v,hv,hw⟩:=List.mem_flatMap.1 hw
  obtain ⟨x,hx,rfl⟩:=List.mem_map.1 hw
  have h1:=(P.f2 u hu).2
  have h2:=(P.m2 v hv).2
  have h3:=(zfl P (u++v)).2 x hx
  unfold SmW
  simp
  omega
def suiteH (M:zaa) (front middle:List (List Int)) (ids:List (List (List Int))):List (List Int)×Int :=
 if 10000<front.length*middle.length*mostL ids then ([],11) else (maxR (allS M front middle ids),0)
theorem R30_Made_eq (P:Parts M front middle ids):R30_Made M front middle ids=some (suiteH M front middle ids):=by
 have hms:=most_200 P
 have h1:front.length*middle.length≤200*200:=Nat.mul_le_mul P.f1 P.m1
 have h2:front.length*middle.length*mostL ids≤200*200*200:=Nat.mul_le_mul h1 hms
 unfold R30_Made suiteH
 rw [R30_most_eq (by rw [P.il];have:=(valid_ok P.ok).n2;omega),obind,← Int.natCast_mul,chk_pos (by unfold inR;omega),← Int.natCast_mul,chk_pos (by unfold inR;omega)]
 by_cases h:10000<front.length*middle.length*mostL ids
 ·rw [decide_eq_true (by omega),cond_true,if_pos h]
 ·rw [decide_eq_false (by omega),cond_false,if_neg h,made_ref P,obind,zlg (allS_sm P (by omega)),obind]
theorem parts_of (hsm:smallM m=true) (hv:validM m=0) {extra:Int} (h1:0≤extra) (h2:extra≤2):∃ M L,zam m=some (M,0)∧MinSem m M∧validM M=0∧MEnd M 0 L∧zcr M=some (L.map Prod.snd,0)∧MinimalP M∧M.Next.length≤8∧M.Inputs≤4∧M.Inputs=m.Inputs∧Parts M (L.map Prod.snd) (uptoL M.Inputs (extra+1)) (idsM M):=by
 have H:=valid_ok hv
 obtain ⟨_,hs8,hs4⟩:=smallM_of hsm
 obtain ⟨M,e1,S⟩:=zdh hv
 have hM:=validM_of S.ok
 have P:=zj4 S
 obtain ⟨hle,_⟩:=sem_le H S
 obtain ⟨L,hE,c1⟩:=zkv hM
 have hst:M.Start.toNat=0:=by rw [S.start];rfl
 rw [hst] at hE
 have hi:=S.inp
 have hi1:=S.ok.i1
 obtain ⟨_,u3,u4⟩:=upto_eq (i:=M.Inputs) (n:=extra+1) (by omega) (by omega) (by omega) (by omega)
 have hLn:=mEnd_rng S.ok S.ok.n1 hE
 have hnn:M.Next.length*M.Next.length≤8*8:=Nat.mul_le_mul (by omega) (by omega)
 have hnk:M.Next.length*M.Next.length*M.Inputs.toNat≤8*8*4:=Nat.mul_le_mul hnn (by omega)
 refine ⟨M,L,e1,S,hM,hE,by unfold zcr;rw [c1,obind],P,by omega,by omega,hi,⟨hM,by simp [idsM],fun l hl=>?_,by rw [List.length_map];omega,fun u hu=>?_,by omega,fun v hv=>⟨(u3 v hv).1,by have:=(u3 v hv).2;omega⟩⟩⟩
 ·obtain ⟨s,hs,rfl⟩:=List.mem_map.1 hl
  have hs:=List.mem_range.1 hs
  refine ⟨?_,fun x hx=>?_⟩
  ·have h1:=zf6 (idL M s M.Next.length)
   have h2:=idL_len (m:=M) s M.Next.length
   omega
  ·obtain ⟨v,v1,_,rfl⟩:=idL_mem ((zdq _ _).1 hx)
   have:=(sepW_sm S.ok hs v1).2
   omega
 ·obtain ⟨x,hx,rfl⟩:=List.mem_map.1 hu
  refine ⟨(hLn.2 x hx).2.2,?_⟩
  have hx2:=hx
  rw [hE.eq] at hx2
  have h1:=(mB_rng S.ok S.ok.n1 _ x hx2).2.1
  have h2:L.length*M.Inputs.toNat≤8*4:=Nat.mul_le_mul (by omega) (by omega)
  omega
theorem zlv (hsm:smallM m=true) (hv:validM m=0) {extra:Int} (h1:0≤extra) (h2:extra≤2):∃ M L,zam m=some (M,0)∧MinSem m M∧validM M=0∧MEnd M 0 L∧MinimalP M∧M.Next.length≤8∧M.Inputs≤4∧M.Inputs=m.Inputs∧Parts M (L.map Prod.snd) (uptoL M.Inputs (extra+1)) (idsM M)∧zav m extra=some (suiteH M (L.map Prod.snd) (uptoL M.Inputs (extra+1)) (idsM M)):=by
 obtain ⟨M,L,e1,S,hM,hE,c1,PM,hn8,hi4,hi,P⟩:=parts_of hsm hv h1 h2
 have hi1:=S.ok.i1
 obtain ⟨u1,_,_⟩:=upto_eq (i:=M.Inputs) (n:=extra+1) (by omega) (by omega) (by omega) (by omega)
 have hms:=most_200 P
 have b1:(L.map Prod.snd).length*(uptoL M.Inputs (extra+1)).length≤200*200:=Nat.mul_le_mul P.f1 P.m1
 have b2:(L.map Prod.snd).length*(uptoL M.Inputs (extra+1)).length*mostL (idsM M)≤200*200*200:=Nat.mul_le_mul b1 hms
 refine ⟨M,L,e1,S,hM,hE,PM,hn8,hi4,hi,P,?_⟩
 unfold zav
 rw [za5,obind,decide_eq_false (by omega),cond_false,decide_eq_false (by omega),cond_false,decide_eq_false (by omega),obind,cond_false,e1,obind,decide_eq_false (fun h=>h rfl),cond_false]
 simp only
 rw [c1,obind,decide_eq_false (fun h=>h rfl),cond_false,chk_pos (by unfold inR;omega),u1,obind,decide_eq_false (fun h=>h rfl),cond_false,separate_ids hM PM,obind,decide_eq_false (fun h=>h rfl),cond_false]
 simp only
 rw [← Int.natCast_mul,chk_pos (by unfold inR;omega),zk5 (by rw [P.il];omega),obind,← Int.natCast_mul,chk_pos (by unfold inR;omega)]
 unfold suiteH
 by_cases h:10000<(L.map Prod.snd).length*(uptoL M.Inputs (extra+1)).length*mostL (idsM M)
 ·rw [decide_eq_true (by omega),cond_true,if_pos h]
 ·rw [decide_eq_false (by omega),cond_false,if_neg h,made_prog P,obind]
  show (zbb _).bind _=_
  rw [zhp (allS_sm P (by omega)),obind]
theorem suite_ref {L:List (Nat×List Int)} (hv:validM m=0) {extra:Int} (h1:0≤extra) (h2:extra≤2) (S:MinSem m M) (hE:MEnd M 0 L) (hi4:M.Inputs≤4) (P:Parts M (L.map Prod.snd) (uptoL M.Inputs (extra+1)) (idsM M)):zcx m extra=some (suiteH M (L.map Prod.snd) (uptoL M.Inputs (extra+1)) (idsM M)):=by
 have hi1:=S.ok.i1
 obtain ⟨M',e2,S'⟩:=zff hv
 have:=zj7 S' S
 subst this
 obtain ⟨L',hE',c2⟩:=R10_Access_eq P.ok
 have hst:M'.Start.toNat=0:=by rw [S.start];rfl
 rw [hst] at hE'
 have:=BfsEnd.uniq (by omega) hE' hE
 subst this
 have c3:zc3 M'=some (L'.map Prod.snd,0):=by
  unfold zc3
  rw [c2,obind]
 unfold zcx zdp
 rw [e2,obind,decide_eq_false (fun h=>h rfl),cond_false,decide_eq_false (by omega),cond_false,decide_eq_false (by omega),obind,cond_false,chk_pos (by unfold inR;omega),← S.inp,upto_ref (by omega) hi4 (by omega) (by omega),obind,decide_eq_false (fun h=>h rfl),cond_false,c3,obind,obind,decide_eq_false (fun h=>h rfl),cond_false]
 simp only
 rw [R11_ids P.ok (zj4 S),obind]
 simp only
 rw [R30_Made_eq P,obind]
theorem suiteH_sm (P:Parts M front middle ids):SmL (suiteH M front middle ids).1:=by
 unfold suiteH
 by_cases h:10000<front.length*middle.length*mostL ids
 ·rw [if_pos h]
  exact ⟨by simp,fun x hx=>by cases hx⟩
 ·rw [if_neg h]
  have:=allS_sm P (by omega)
  exact ⟨Nat.le_trans (zja _) this.1,fun x hx=>this.2 x (mem_maxR hx)⟩
theorem suites_same (hsm:smallM m=true) {extra:Int} (hx:¬ (2<extra∧extra≤3)):∃ r,zav m extra=some r∧zcx m extra=some r∧SmL r.1:=by
 have hnil:SmL []:=⟨by simp,fun x hx=>by cases hx⟩
 by_cases hv:validM m=0
 ·obtain ⟨M0,f2,_⟩:=zff hv
  by_cases h1:extra<0
  ·refine ⟨([],2),?_,?_,hnil⟩
   ·unfold zav
    rw [za5,obind,decide_eq_false (by omega),cond_false,decide_eq_true h1]
    rfl
   ·unfold zcx zdp
    rw [f2,obind,decide_eq_false (fun h=>h rfl),cond_false,decide_eq_true h1]
    rfl
  by_cases h3:3<extra
  ·refine ⟨([],2),?_,?_,hnil⟩
   ·unfold zav
    rw [za5,obind,decide_eq_false (by omega),cond_false,decide_eq_false h1,cond_false,decide_eq_true h3]
    rfl
   ·unfold zcx zdp
    rw [f2,obind,decide_eq_false (fun h=>h rfl),cond_false,decide_eq_false h1,cond_false,decide_eq_true h3]
    rfl
  obtain ⟨M,L,e1,S,hM,hE,PM,hn8,hi4,hi,P,hs⟩:=zlv hsm hv (extra:=extra) (by omega) (by omega)
  exact ⟨_,hs,suite_ref hv (by omega) (by omega) S hE hi4 P,suiteH_sm P⟩
 ·exact ⟨([],validM m),by unfold zav;rw [za5,obind,decide_eq_true hv,cond_true],by unfold zcx zdp;rw [zkc hv,obind,decide_eq_true (by exact hv),cond_true,obind,decide_eq_true (by exact hv),cond_true],hnil⟩
end
end Go.Proofs.YtcneaiejdidooaaGreat.Sym

/-
 Suites with identifiers are complete: an implementation with few states that passes is equivalent. Plain laws.
-/
namespace Go.Proofs.YtcneaiejdidooaaGreat.Sym
set_option maxRecDepth 100000
section
variable {M I:zaa} {sM sI k:Nat} {U:List (List Int)} {T:Nat→List (List Int)}
structure Pass (M I:zaa) (sM sI k:Nat) (U:List (List Int)) (T:Nat→List (List Int)):Prop where
 two:Two M I
 hM:sM<M.Next.length
 hI:sI<I.Next.length
 nil:[]∈U
 ok:∀ u∈U,WOk M.Inputs u
 cov:∀ s,s<M.Next.length→∃ u∈U,dest M sM u=s
 tne:∀ s,s<M.Next.length→∃ x,x∈T s
 tok:∀ s,∀ x∈T s,WOk M.Inputs x
 sep:∀ s s',s<M.Next.length→s'<M.Next.length→s≠s'→∃ x,x∈T s∧x∈T s'∧outs M s x≠outs M s' x
 pass:∀ u∈U,∀ v,WOk M.Inputs v→v.length≤k+1→∀ x∈T (dest M sM (u++v)),outs M sM (u++v++x)=outs I sI (u++v++x)
 few:∀ l:List Nat,l.Nodup→(∀ q∈l,∃ w,WOk M.Inputs w∧dest I sI w=q)→l.length≤M.Next.length+k
theorem zlq {a b:zaa} {s t:Nat} {w v:List Int} (h:outs a s (w++v)=outs b t (w++v)):outs a s w=outs b t w∧outs a (dest a s w) v=outs b (dest b t w) v:=by
 rw [zc9,zc9] at h
 exact List.append_inj h (by rw [outs_len,outs_len])
variable (P:Pass M I sM sI k U T)
include P
theorem Pass.at_ {u v:List Int} (hu:u∈U) (hv:WOk M.Inputs v) (hl:v.length≤k+1):outs M sM (u++v)=outs I sI (u++v)∧∀ x∈T (dest M sM (u++v)),outs M (dest M sM (u++v)) x=outs I (dest I sI (u++v)) x:=by
 have hd:dest M sM (u++v)<M.Next.length:=P.two.a1.dest ((P.ok u hu).append hv) P.hM
 obtain ⟨x,hx⟩:=P.tne _ hd
 exact ⟨(zlq (P.pass u hu v hv hl x hx)).1,fun x hx=>(zlq (P.pass u hu v hv hl x hx)).2⟩
theorem Pass.uniq {u v u' v':List Int} (hu:u∈U) (hv:WOk M.Inputs v) (hl:v.length≤k+1) (hu':u'∈U) (hv':WOk M.Inputs v') (hl':v'.length≤k+1) (h:dest I sI (u++v)=dest I sI (u'++v')):dest M sM (u++v)=dest M sM (u'++v'):=Classical.byContradiction fun hne=>by
 obtain ⟨x,x1,x2,x3⟩:=P.sep _ _ (P.two.a1.dest ((P.ok u hu).append hv) P.hM) (P.two.a1.dest ((P.ok u' hu').append hv') P.hM) hne
 have h1:=(P.at_ hu hv hl).2 x x1
 have h2:=(P.at_ hu' hv' hl').2 x x2
 rw [h] at h1
 exact x3 (h1.trans h2.symm)
omit P
def Vj (I:zaa) (sI:Nat) (U:List (List Int)) (K:Int) (j q:Nat):Prop:=∃ u∈U,∃ v,WOk K v∧v.length≤j∧q=dest I sI (u++v)
def Closed (I:zaa) (sI:Nat) (U:List (List Int)) (K:Int) (j:Nat):Prop:=∀ q,Vj I sI U K j q→∀ a,a<K.toNat→Vj I sI U K j (nx I q a)
theorem dest_snoc {m:zaa} {s a:Nat} {w:List Int}:dest m s (w++[(↑a:Int)])=nx m (dest m s w) a:=by
 rw [zck]
 show nx m _ (Int.toNat ↑a)=_
 rw [Int.toNat_natCast]
theorem wok_snoc {K:Int} {w:List Int} {a:Nat} (h:WOk K w) (ha:a<K.toNat):WOk K (w++[(↑a:Int)]):=h.append fun z hz=>by
 have:z=(↑a:Int):=by simpa using hz
 omega
include P
theorem Pass.grow:∀ j,j≤k+1→Closed I sI U M.Inputs j∨∃ l:List Nat,l.Nodup∧(∀ q∈l,Vj I sI U M.Inputs j q)∧M.Next.length+j≤l.length
 | 0,_=>by
  right
  have hc:∀ s,∃ u,s<M.Next.length→u∈U∧dest M sM u=s:=fun s=>by
   by_cases hs:s<M.Next.length
   ·obtain ⟨u,h1,h2⟩:=P.cov s hs
    exact ⟨u,fun _=>⟨h1,h2⟩⟩
   ·exact ⟨[],fun h=>absurd h hs⟩
  obtain ⟨f,hf⟩:=Classical.axiomOfChoice hc
  have hnil:WOk M.Inputs []:=fun a ha=>(by cases ha)
  refine ⟨(List.range M.Next.length).map fun s=>dest I sI (f s),?_,fun q hq=>?_,by simp⟩
  ·refine List.pairwise_map.2 (List.Pairwise.imp_of_mem (fun {a b} ha hb hne he=>hne ?_) (List.nodup_range (n:=M.Next.length)))
   have h1:=hf a (List.mem_range.1 ha)
   have h2:=hf b (List.mem_range.1 hb)
   have:=P.uniq (v:=[]) (v':=[]) h1.1 hnil (by simp) h2.1 hnil (by simp) (by rw [List.append_nil,List.append_nil];exact he)
   rwa [List.append_nil,List.append_nil,h1.2,h2.2] at this
  ·obtain ⟨s,hs,rfl⟩:=List.mem_map.1 hq
   exact ⟨f s,(hf s (List.mem_range.1 hs)).1,[],hnil,Nat.le_refl _,by rw [List.append_nil]⟩
 | j+1,hj=>by
  by_cases hcl:Closed I sI U M.Inputs j
  ·left
   have hsub:∀ (v:List Int) (u:List Int),u∈U→WOk M.Inputs v→∀ q,Vj I sI U M.Inputs j q→Vj I sI U M.Inputs j (dest I q v):=by
    intro v
    induction v with
    | nil=>intro _ _ _ q hq;exact hq
    | cons z v ih =>
     intro u hu hv q hq
     have hz:=hv.head
     exact ih u hu hv.tail _ (hcl q hq z.toNat (by omega))
   have hall:∀ q,Vj I sI U M.Inputs (j+1) q→Vj I sI U M.Inputs j q:=fun q ⟨u,hu,v,hv,_,he⟩=>by
    rw [he,zck]
    exact hsub v u hu hv _ ⟨u,hu,[],fun a ha=>(by cases ha),Nat.zero_le _,by rw [List.append_nil]⟩
   have hup:∀ q,Vj I sI U M.Inputs j q→Vj I sI U M.Inputs (j+1) q:=fun q ⟨u,hu,v,hv,hl,he⟩=>⟨u,hu,v,hv,by omega,he⟩
   exact fun q hq a ha=>hup _ (hcl q (hall q hq) a ha)
  ·right
   rcases Pass.grow j (by omega) with h | ⟨l,l1,l2,l3⟩
   ·exact absurd h hcl
   ·obtain ⟨q,hq⟩:=Classical.not_forall.1 hcl
    obtain ⟨hq,hq2⟩:=Classical.not_imp.1 hq
    obtain ⟨a,ha⟩:=Classical.not_forall.1 hq2
    obtain ⟨ha,hn⟩:=Classical.not_imp.1 ha
    refine ⟨nx I q a::l,List.nodup_cons.2 ⟨fun h=>hn (l2 _ h),l1⟩,fun x hx=>?_,by rw [List.length_cons];omega⟩
    rcases List.mem_cons.1 hx with rfl | hx
    ·obtain ⟨u,hu,v,hv,hl,he⟩:=hq
     exact ⟨u,hu,v++[(↑a:Int)],wok_snoc hv ha,by simp;omega,by rw [← List.append_assoc,dest_snoc,← he]⟩
    ·obtain ⟨u,hu,v,hv,hl,he⟩:=l2 x hx
     exact ⟨u,hu,v,hv,by omega,he⟩
theorem Pass.closed:Closed I sI U M.Inputs k:=Classical.byContradiction fun hcl=>by
 rcases P.grow k (by omega) with h | ⟨l,l1,l2,l3⟩
 ·exact hcl h
 ·obtain ⟨q,hq⟩:=Classical.not_forall.1 hcl
  obtain ⟨hq,hq2⟩:=Classical.not_imp.1 hq
  obtain ⟨a,ha⟩:=Classical.not_forall.1 hq2
  obtain ⟨ha,hn⟩:=Classical.not_imp.1 ha
  have hreach:∀ x,Vj I sI U M.Inputs k x→∃ w,WOk M.Inputs w∧dest I sI w=x:=fun x ⟨u,hu,v,hv,_,he⟩=>⟨u++v,(P.ok u hu).append hv,he.symm⟩
  have:=P.few (nx I q a::l) (List.nodup_cons.2 ⟨fun h=>hn (l2 _ h),l1⟩) fun x hx=>by
   rcases List.mem_cons.1 hx with rfl | hx
   ·obtain ⟨w,w1,w2⟩:=hreach q hq
    exact ⟨w++[(↑a:Int)],wok_snoc w1 ha,by rw [dest_snoc,w2]⟩
   ·exact hreach x (l2 x hx)
  rw [List.length_cons] at this
  omega
end
end Go.Proofs.YtcneaiejdidooaaGreat.Sym

/-
 Passing a suite, and equality of machines: the program's. Plain laws.
-/
namespace Go.Proofs.YtcneaiejdidooaaGreat.Sym
set_option maxRecDepth 100000
section
variable {m b M:zaa}
theorem ze9 (x:List Int):common x x=x.length:=by
 induction x with
 | nil=>rfl
 | cons u x ih=>simp [common,ih]
abbrev outS (m:zaa) (w:List Int):List Int:=outs m m.Start.toNat w
theorem ziu (hv:validM m=0) {w:List Int} (hw:checkI w m.Inputs=0):ze1 m w=some (outS m w,0):=by
 have hl:=zdb hw
 have hst:=(valid_ok hv).st
 unfold ze1
 rw [zhq (by unfold SmW;omega),obind,zfb (by unfold SmW;omega) hv,if_neg (fun h=>h hw)]
end
end Go.Proofs.YtcneaiejdidooaaGreat.Sym

/-
 Regression runs: what Run computes. Plain laws.
-/
namespace Go.Proofs.YtcneaiejdidooaaGreat.Sym
set_option maxRecDepth 100000
theorem take_tk {α:Type} {l:List α} {i j:Nat} (h:i≤j):(l.take j).take i=l.take i:=by rw [List.take_take,Nat.min_eq_left h]
theorem zjy:∀ {u a b:List Int},u <+: a→u <+: b→u.length≤common a b
 | [],_,_,_,_=>Nat.zero_le _
 | x::u,a,b,⟨v,hv⟩,⟨w,hw⟩=>by
  subst hv
  subst hw
  have:=zjy (u:=u) (a:=u++v) (b:=u++w) ⟨v,rfl⟩ ⟨w,rfl⟩
  show u.length+1≤common (x::(u++v)) (x::(u++w))
  simp only [common,if_true]
  omega
theorem agree_two {o:zbv} (hv:ObsOk o) {a b:zad} (ha:a∈o.Traces) (hb:b∈o.Traces):Agree a b:=by
 obtain ⟨i,hi,rfl⟩:=List.getElem_of_mem ha
 obtain ⟨j,hj,rfl⟩:=List.getElem_of_mem hb
 rcases Nat.lt_trichotomy i j with h | h | h
 ·exact (hv.apart i j _ _ h (get_at hi) (get_at hj)).2
 ·subst h
  unfold Agree
  rfl
 ·exact (hv.apart j i _ _ h (get_at hj) (get_at hi)).2.symm
theorem agree_cut {a b:zad} {v:List Int} (h:Agree a b) (ha:v <+: a.In) (hb:v <+: b.In):a.Out.take v.length=b.Out.take v.length:=by
 have h2:=zjy ha hb
 unfold Agree at h
 rw [← take_tk h2,h,take_tk h2]
theorem ansO_at {o:zbv} (hv:ObsOk o) {u:zad} {v:List Int} (hu:u∈o.Traces) (hp:v <+: u.In):ansO o v=some (u.Out.take v.length):=by
 unfold ansO
 by_cases h0:v=[]
 ·subst h0
  simp
 ·rw [if_neg h0]
  cases hb:o.Traces.find? fun t=>decide (v <+: t.In) with
  | none =>
   have:=List.find?_eq_none.1 hb u hu
   simp [hp] at this
  | some b =>
   have hub:v <+: b.In:=by simpa using List.find?_some hb
   exact congrArg some (agree_cut (agree_two hv (List.mem_of_find?_eq_some hb) hu) hub hp)
theorem ansO_tr {o:zbv} {v r:List Int} (h:ansO o v=some r) (h0:v≠[]):∃ u∈o.Traces,v <+: u.In∧u.Out.take v.length=r:=by
 unfold ansO at h
 rw [if_neg h0] at h
 obtain ⟨a,ha,rfl⟩:=Option.map_eq_some_iff.1 h
 exact ⟨a,List.mem_of_find?_eq_some ha,by simpa using List.find?_some ha,rfl⟩
theorem ansO_cut {o:zbv} (hv:ObsOk o) {u w r:List Int} (h:ansO o w=some r) (hp:u <+: w):ansO o u=some (r.take u.length):=by
 by_cases h0:w=[]
 ·subst h0
  have:u=[]:=by simpa using hp
  subst this
  unfold ansO
  simp
 ·obtain ⟨t,h1,h2,rfl⟩:=ansO_tr h h0
  rw [ansO_at hv h1 (hp.trans h2),take_tk hp.length_le]
section
variable {q:zb6} {w:List Int}
end
def knownR (l:List zad) (w:List Int):Bool:=l.any fun t=>decide (t.In <+: w)
def noteR (m:zaa) (r:zaf) (w out:List Int):zaf :=
 ⟨r.Run+1,if common (outS m w) out<w.length then r.Changes++[⟨w.take (common (outS m w) out+1),out.take (common (outS m w) out+1)⟩] else r.Changes⟩
def RepOk (r:zaf) (n:Nat):Prop:=0≤r.Run∧r.Run≤(↑n:Int)∧r.Changes.length≤n
theorem RepOk.note {m:zaa} {r:zaf} {n:Nat} {w out:List Int} (h:RepOk r n):RepOk (noteR m r w out) (n+1):=by
 obtain ⟨h1,h2,h3⟩:=h
 unfold noteR
 refine ⟨by simp only;omega,by simp only;omega,?_⟩
 simp only
 split
 ·simp only [List.length_append,List.length_singleton];omega
 ·omega
theorem tcontains_eq {l:List zad} {f:zad→Option Bool} {p:zad→Bool} (hl:l.length≤100000000000000) (hf:∀ x∈l,f x=some (p x)) :
  zaw l f=some (l.any p):=by
 unfold zaw
 rw [tindex_eq hl hf,obind]
 cases h:l.any p with
 | true=>rw [if_pos rfl,decide_eq_true (by omega)]
 | false=>rw [if_neg Bool.false_ne_true,decide_eq_false (by omega)]
theorem needed_eq {m:zaa} {r:zaf} {w:List Int} (hl:r.Changes.length≤1000000) (hw:SmW w) :
  zbx (⟨m,r⟩:zay) w=some (!knownR r.Changes w,(⟨m,r⟩:zay)):=by
 unfold zbx
 rw [tcontains_eq (p:=fun t=>decide (t.In <+: w)) (by simp only;omega) fun x _=>by
  unfold zbs
  rw [zep _ _ hw,obind],obind]
 rfl
theorem cut_eq {l:List Int} {n:Int} (h1:1≤n) (h2:n≤(↑l.length:Int)) (hl:l.length≤100000):zdi l n=some (l.take n.toNat):=by
 unfold zdi
 rw [chk_pos ⟨by omega,by omega,by unfold capOk;omega⟩,List.length_replicate,chk_pos ⟨by omega,by omega⟩,List.drop_eq_nil_of_le (by rw [List.length_replicate];omega),List.append_nil]
theorem note_eq {m:zaa} {r:zaf} {w out:List Int} (hv:validM m=0) (hw:checkI w m.Inputs=0) (ho:out.length=w.length) {n:Nat} (hr:RepOk r n) (hn:n≤100000) :
  zb8 (⟨m,r⟩:zay) w out=some (0,(⟨m,noteR m r w out⟩:zay)):=by
 obtain ⟨h1,h2,h3⟩:=hr
 have hl:=zdb hw
 have hol:(outS m w).length=w.length:=outs_len _ _
 have hc:=zf5 (outS m w) out
 unfold zb8
 simp only
 rw [ziu hv hw,obind,decide_eq_false (fun h=>h rfl),cond_false,chk_pos (by unfold inR;omega)]
 simp only
 rw [zgp _ _ (by unfold SmW;omega),obind]
 unfold noteR
 by_cases g:common (outS m w) out<w.length
 ·rw [decide_eq_true (by omega),cond_true,chk_pos (by unfold inR;omega),cut_eq (by omega) (by omega) (by omega),obind,chk_pos (by unfold inR;omega),cut_eq (by omega) (by omega) (by omega),obind,chk_pos (by unfold capOk;omega),obind,if_pos g]
  rfl
 ·rw [decide_eq_false (by omega),cond_false,obind,if_neg g]
section
variable {σ ρ:Type} {tup:zb6→zaf→Nat→σ} {fin:zb6→zaf→ρ} {m:zaa} {L:List (List Int)}
end
end Go.Proofs.YtcneaiejdidooaaGreat.Sym

/-
 The examples of the chapter on regression runs, reckoned.
-/
namespace Go.Proofs.YtcneaiejdidooaaGreat.Sym
set_option maxRecDepth 100000
theorem awake50_true:zf2=some true:=by decide +kernel
end Go.Proofs.YtcneaiejdidooaaGreat.Sym

/-
 Regression runs: the changes of a report. The plain law of RegressReports.
-/
namespace Go.Proofs.YtcneaiejdidooaaGreat.Sym
set_option maxRecDepth 100000
theorem zfs:∀ (a b:List Int),a.take (common a b)=b.take (common a b)
 | [],b=>by simp [common]
 | x::a,[]=>by simp [common]
 | x::a,y::b=>by
  unfold common
  by_cases h:x=y
  ·rw [if_pos h,h,List.take_succ_cons,List.take_succ_cons,zfs a b]
  ·rw [if_neg h]
   rfl
theorem commonR_off {a b:List Int} (ha:common a b<a.length) (hb:common a b<b.length):a[common a b]≠b[common a b]:=fun e=>by
 have h:a.take (common a b+1)=b.take (common a b+1):=by
  rw [List.take_succ,List.take_succ,zfs,get_at ha,get_at hb,e]
 have:=zjy (u:=a.take (common a b+1)) (a:=a) (b:=b) (List.take_prefix _ _) (by rw [h];exact List.take_prefix _ _)
 rw [List.length_take] at this
 omega
theorem zly {m:zaa}:∀ (w:List Int) (s k:Nat),outs m s (w.take k)=(outs m s w).take k
 | [],_,_=>by simp [outs]
 | a::w,s,0=>by simp [outs]
 | a::w,s,k+1=>by
  show ot m s a.toNat::outs m (nx m s a.toNat) (w.take k)=(ot m s a.toNat::outs m (nx m s a.toNat) w).take (k+1)
  rw [zly w,List.take_succ_cons]
theorem zkp {m:zaa} {w:List Int} {k:Nat}:outS m (w.take k)=(outS m w).take k:=zly w _ k
structure ChgOk (m:zaa) (o:zbv) (c:zad):Prop where
 ck:checkI c.In m.Inputs=0
 ne:c.In≠[]
 ans:ansO o c.In=some c.Out
 len:c.Out.length=c.In.length
 same:c.Out.take (c.In.length-1)=(outS m c.In).take (c.In.length-1)
 last:c.Out[c.In.length-1]?≠(outS m c.In)[c.In.length-1]?
structure RepFine (m:zaa) (o:zbv) (r:zaf) (n:Nat):Prop where
 all:∀ c∈r.Changes,ChgOk m o c
 ord:r.Changes.Pairwise fun c d=>¬ c.In <+: d.In
 cnt:(↑r.Changes.length:Int)≤r.Run
 run:r.Run≤(↑n:Int)
theorem RepFine.keep {m:zaa} {o o':zbv} {r:zaf} {n:Nat} (h:RepFine m o r n) (hk:∀ v x,ansO o v=some x→ansO o' v=some x):RepFine m o' r n :=
 ⟨fun c hc=>have H:=h.all c hc;⟨H.ck,H.ne,hk _ _ H.ans,H.len,H.same,H.last⟩,h.ord,h.cnt,h.run⟩
theorem RepFine.note {m:zaa} {o:zbv} {r:zaf} {n:Nat} {w out:List Int} (h:RepFine m o r n) (hm:1≤m.Inputs∧m.Inputs≤1024) (hv:ObsOk o) (hw:checkI w m.Inputs=0) (hn:knownR r.Changes w=false) (ha:ansO o w=some out) (hl:out.length=w.length):RepFine m o (noteR m r w out) (n+1):=by
 have hyl:(outS m w).length=w.length:=outs_len _ _
 unfold noteR
 by_cases g:common (outS m w) out<w.length
 ·rw [if_pos g]
  have hc:=h.cnt
  have hr:=h.run
  have hil:(w.take (common (outS m w) out+1)).length=common (outS m w) out+1:=by rw [List.length_take];omega
  have hpre:w.take (common (outS m w) out+1) <+: w:=List.take_prefix _ _
  refine ⟨fun c hc=>?_,?_,by simp only [List.length_append,List.length_singleton];omega,by simp only;omega⟩
  ·rcases List.mem_append.1 hc with hc | hc
   ·exact h.all c hc
   ·rw [List.mem_singleton] at hc
    subst hc
    refine ⟨check_pre hpre hw hm,fun e=>?_,?_,?_,?_,?_⟩
    ·simp only at e
     rw [e] at hil
     simp at hil
    ·have:=ansO_cut hv ha hpre
     rw [hil] at this
     exact this
    ·simp only
     rw [List.length_take,hil]
     omega
    ·simp only
     rw [hil,Nat.add_sub_cancel,zkp,take_tk (Nat.le_succ _),take_tk (Nat.le_succ _)]
     exact (zfs _ _).symm
    ·simp only
     rw [hil,Nat.add_sub_cancel,zkp,List.getElem?_take,if_pos (Nat.lt_succ_self _),List.getElem?_take,if_pos (Nat.lt_succ_self _),get_at (l:=out) (by omega),get_at (l:=outS m w) (by omega)]
     exact fun e=>commonR_off (by omega) (by omega) (Option.some.inj e).symm
  ·refine List.pairwise_append.2 ⟨h.ord,List.pairwise_singleton _ _,fun c hc d hd=>?_⟩
   rw [List.mem_singleton] at hd
   subst hd
   intro hp
   have:knownR r.Changes w=true:=List.any_eq_true.2 ⟨c,hc,decide_eq_true (hp.trans hpre)⟩
   rw [hn] at this
   cases this
 ·rw [if_neg g]
  have hc:=h.cnt
  have hr:=h.run
  exact ⟨h.all,h.ord,by simp only;omega,by simp only;omega⟩
theorem RepFine.apart {m:zaa} {o:zbv} {r:zaf} {n:Nat} (h:RepFine m o r n) (hv:ObsOk o) {i k:Nat} {c d:zad} (hk:k<i) (hc:r.Changes[k]?=some c) (hd:r.Changes[i]?=some d):¬ c.In <+: d.In∧¬ d.In <+: c.In:=by
 have h1:¬ c.In <+: d.In:=by
  obtain ⟨k1,rfl⟩:=List.getElem?_eq_some_iff.1 hc
  obtain ⟨i1,rfl⟩:=List.getElem?_eq_some_iff.1 hd
  exact List.pairwise_iff_getElem.1 h.ord k i k1 i1 hk
 refine ⟨h1,fun hp=>?_⟩
 have C:=h.all c (List.mem_of_getElem? hc)
 have D:=h.all d (List.mem_of_getElem? hd)
 have hle:=hp.length_le
 have hdn:0<d.In.length:=List.length_pos_iff.2 D.ne
 have hlt:d.In.length<c.In.length:=by
  rcases Nat.lt_or_ge d.In.length c.In.length with e | e
  ·exact e
  ·have:d.In=c.In:=hp.eq_of_length (by omega)
   exact absurd (by rw [this];exact List.prefix_refl _) h1
 have e1:=ansO_cut hv C.ans hp
 rw [D.ans] at e1
 have e1:=Option.some.inj e1
 have e2:d.In=c.In.take d.In.length:=(List.prefix_iff_eq_take.1 hp)
 apply D.last
 have e3:c.Out.take d.In.length=(outS m c.In).take d.In.length:=by
  have:=congrArg (List.take d.In.length) C.same
  rwa [take_tk (by omega),take_tk (by omega)] at this
 have e4:outS m d.In=(outS m c.In).take d.In.length:=by
  conv=>lhs;rw [e2]
  exact zkp
 rw [e4,← e3,← e1]
theorem L06_Great_tot (m:zaa):∃ b,zf7 m=some b:=by
 unfold zf7
 by_cases g1:40<(↑m.Next.length:Int)
 ·exact ⟨true,by rw [decide_eq_true g1];rfl⟩
 rw [decide_eq_false g1,cond_false]
 by_cases g2:40<(↑m.Out.length:Int)
 ·exact ⟨true,by rw [decide_eq_true g2];rfl⟩
 rw [decide_eq_false g2,cond_false,obind]
 exact ⟨_,rfl⟩
end Go.Proofs.YtcneaiejdidooaaGreat.Sym

/-
 Regression runs: a device without faults answers as its machine, and Compare tells what Run over it tells. Plain laws.
-/
namespace Go.Proofs.YtcneaiejdidooaaGreat.Sym
set_option maxRecDepth 100000
structure Free (M:zaa) (d:za7) (n:Nat):Prop where
 ok:DevOk d
 seed:SeedOk d
 mac:d.M=M
 fl:d.Faults.Lost=0∧d.Faults.Wrong=0∧d.Faults.Crash=0
 s:d.Steps+↑n≤1125899906842624
 r:d.Resets+↑n≤1125899906842624
 t:d.Time+↑n*1048576≤1125899906842624
structure FreeQ (M:zaa) (q:zb6) (n:Nat):Prop where
 ok:OrOk q
 dev:Free M q.Device (n*1025)
 v:q.Votes=1
 t:q.Tries=1
 ex:∀ t∈q.Obs.Traces,t.Out=outS M t.In
 num:q.Obs.Traces.length+n≤10000
theorem Free.less {M:zaa} {d:za7} {n k:Nat} (h:Free M d n) (hk:k≤n):Free M d k :=
 ⟨h.ok,h.seed,h.mac,h.fl,by have:=h.s;omega,by have:=h.r;omega,by have:=h.t;omega⟩
def cmpL (m b:zaa):zaf→List (List Int)→zaf
 | r,[]=>r
 | r,w::ws=>cmpL m b (if knownR r.Changes w=true then r else noteR m r w (outS b w)) ws
section
variable {σ ρ:Type} {tup:zaf→Nat→σ} {fin:zaf→ρ} {m b:zaa} {L:List (List Int)}
theorem cmp_iter {S2:σ→Option (σ⊕ρ)}
  (h1:∀ (r:zaf) (i:Nat) (w:List Int),RepOk r i→L[i]?=some w→S2 (tup r i)=some (.inl (tup (if knownR r.Changes w=true then r else noteR m r w (outS b w)) (i+1))))
  (h2:∀ r,S2 (tup r L.length)=some (.inr (fin r))) :
  ∀ (n i:Nat) (r:zaf),RepOk r i→i≤L.length→L.length-i<n→iter S2 n (tup r i)=some (fin (cmpL m b r (L.drop i)))
 | 0,_,_,_,_,h=>absurd h (Nat.not_lt_zero _)
 | n+1,i,r,R,hi,hn=>by
  unfold iter
  rcases Nat.lt_or_ge i L.length with h | h
  ·have hx:=get_at h
   have R1:RepOk r (i+1):=⟨R.1,by have:=R.2.1;omega,by have:=R.2.2;omega⟩
   rw [h1 r i _ R hx,List.drop_eq_getElem_cons h]
   unfold cmpL
   refine cmp_iter h1 h2 n (i+1) _ ?_ h (by omega)
   split
   ·exact R1
   ·exact R.note
  ·have e:i=L.length:=by omega
   subst e
   rw [h2,List.drop_length]
   rfl
end
theorem cmpL_rep {m b:zaa}:∀ (ws:List (List Int)) (r:zaf) (n:Nat),RepOk r n→(∀ w∈ws,w.length≤1024)→(∀ c∈r.Changes,SmX c)→RepOk (cmpL m b r ws) (n+ws.length)∧∀ c∈(cmpL m b r ws).Changes,SmX c
 | [],r,n,R,_,hc=>⟨R,hc⟩
 | w::ws,r,n,R,hw,hc=>by
  have hwl:=hw w (by simp)
  unfold cmpL
  rw [List.length_cons,show n+(ws.length+1)=n+1+ws.length by omega]
  refine cmpL_rep ws _ (n+1) ?_ (fun v hv=>hw v (by simp [hv])) ?_
  ·split
   ·exact ⟨R.1,by have:=R.2.1;omega,by have:=R.2.2;omega⟩
   ·exact R.note
  ·split
   ·exact hc
   ·unfold noteR
    simp only
    split
    ·intro c h
     rcases List.mem_append.1 h with h | h
     ·exact hc c h
     ·rw [List.mem_singleton] at h
      rw [h]
      have hbl:(outS b w).length=w.length:=outs_len _ _
      refine ⟨?_,?_⟩<;>(unfold SmW;simp only [List.length_take];omega)
    ·exact hc
end Go.Proofs.YtcneaiejdidooaaGreat.Sym

/-
 The law of HsuiteComplete. Plain law.
-/
namespace Go.Proofs.YtcneaiejdidooaaGreat.Sym
set_option maxRecDepth 100000
section
variable {m b M:zaa}
noncomputable def tlS (M:zaa) (s:Nat):List (List Int):=if (((idsM M)[s]?).getD []).length=0 then [[]] else ((idsM M)[s]?).getD []
theorem tlS_eq (w:List Int):tailsM M (idsM M) w=tlS M (dest M M.Start.toNat w):=rfl
theorem ids_at {s:Nat} (hs:s<M.Next.length):(idsM M)[s]?=some (sortW (idL M s M.Next.length)):=by
 unfold idsM
 rw [List.getElem?_map,List.getElem?_range hs]
 rfl
theorem tlS_mem {s:Nat} {x:List Int} (hx:x∈tlS M s):x=[]∨∃ v,s<M.Next.length∧v<M.Next.length∧x=sepW M s v:=by
 unfold tlS at hx
 split at hx
 ·exact Or.inl (by simpa using hx)
 ·by_cases hs:s<M.Next.length
  ·rw [ids_at hs,Option.getD_some] at hx
   obtain ⟨v,v1,_,rfl⟩:=idL_mem ((zdq _ _).1 hx)
   exact Or.inr ⟨v,hs,v1,rfl⟩
  ·rw [List.getElem?_eq_none (by simp [idsM];omega)] at hx
   cases hx
theorem suite_words {front middle:List (List Int)} (P:Parts M front middle (idsM M)):∀ w∈allS M front middle (idsM M),checkI w M.Inputs=0:=fun w hw=>by
 have H:=valid_ok P.ok
 obtain ⟨u,hu,hw⟩:=List.mem_flatMap.1 hw
 obtain ⟨v,hv,hw⟩:=List.mem_flatMap.1 hw
 obtain ⟨x,hx,rfl⟩:=List.mem_map.1 hw
 have h1:=P.f2 u hu
 have h2:=P.m2 v hv
 have h3:=(zfl P (u++v)).2 x hx
 have h4:WOk M.Inputs x:=by
  rw [tlS_eq] at hx
  rcases tlS_mem hx with rfl | ⟨v,v1,v2,rfl⟩
  ·exact fun a ha=>(by cases ha)
  ·exact (sepW_sm H v1 v2).1
 exact check_of H ((h1.1.append h2.1).append h4) (by simp;omega)
end
end Go.Proofs.YtcneaiejdidooaaGreat.Sym

/-
 Regression runs: the plain law of RegressDetects.
-/
namespace Go.Proofs.YtcneaiejdidooaaGreat.Sym
set_option maxRecDepth 100000
theorem small_ok {m:zaa} (hv:validM m=0) (h1:m.Next.length≤6) (h2:m.Inputs≤3):smallM m=true:=by
 have H:=valid_ok hv
 have ol:=H.ol
 have hg:greatM m=false:=decide_eq_false (by
  rintro (h | h | h | ⟨x,hx,h⟩ | ⟨x,hx,h⟩)
  ·omega
  ·omega
  ·omega
  ·obtain ⟨s,hs⟩:=List.mem_iff_getElem?.1 hx
   have hl:=(List.getElem?_eq_some_iff.1 hs).1
   obtain ⟨u,v,r1,r2,r3,r4,_⟩:=H.row s (by omega)
   rw [hs] at r1
   injection r1 with r1
   subst r1
   omega
  ·obtain ⟨s,hs⟩:=List.mem_iff_getElem?.1 hx
   have hl:=(List.getElem?_eq_some_iff.1 hs).1
   obtain ⟨u,v,r1,r2,r3,r4,_⟩:=H.row s (by omega)
   rw [hs] at r2
   injection r2 with r2
   subst r2
   omega)
 unfold smallM
 rw [hg,decide_eq_true (by omega),decide_eq_true (by omega)]
 rfl
structure NewOk (a:zaa) (extra:Int) (M:zaa) (L:List (Nat×List Int)):Prop where
 va:validM a=0
 sem:MinSem a M
 vm:validM M=0
 fin:MEnd M 0 L
 min:MinimalP M
 i4:M.Inputs≤4
 inp:M.Inputs=a.Inputs
 parts:Parts M (L.map Prod.snd) (uptoL M.Inputs (extra+1)) (idsM M)
 few:(L.map Prod.snd).length*(uptoL M.Inputs (extra+1)).length*mostL (idsM M)≤10000
 e1:0≤extra
 run:zam a=some (M,0)
noncomputable abbrev wordsN (extra:Int) (M:zaa) (L:List (Nat×List Int)):List (List Int):=maxR (allS M (L.map Prod.snd) (uptoL M.Inputs (extra+1)) (idsM M))
theorem zlf {a:zaa} {extra:Int} (h6:a.Next.length≤6) (h3:a.Inputs≤3) (hx:extra≤2) :
  (∃ e c,zb7 a extra=some (⟨⟨0,0,[],[]⟩,[]⟩,e)∧e≠0∧zam a=some c)∨∃ M L,NewOk a extra M L∧zb7 a extra=some (⟨M,wordsN extra M L⟩,0):=by
 unfold zb7
 by_cases hv:validM a=0
 ·obtain ⟨M0,f1,_⟩:=zdh hv
  by_cases hn:extra<0
  ·left
   refine ⟨2,_,?_,by decide,f1⟩
   unfold zav
   rw [za5,obind,decide_eq_false (by omega),cond_false,decide_eq_true hn]
   rfl
  ·obtain ⟨M,L,e1,S,hM,hE,PM,hn8,hi4,hi,P,hs⟩:=zlv (small_ok hv h6 h3) hv (extra:=extra) (by omega) hx
   rw [hs,obind]
   unfold suiteH
   by_cases hbig:10000<(L.map Prod.snd).length*(uptoL M.Inputs (extra+1)).length*mostL (idsM M)
   ·left
    rw [if_pos hbig]
    exact ⟨11,_,rfl,by decide,e1⟩
   ·right
    rw [if_neg hbig,decide_eq_false (fun h=>h rfl),cond_false,e1,obind,decide_eq_false (fun h=>h rfl),cond_false]
    exact ⟨M,L,⟨hv,S,hM,hE,PM,hi4,hi,P,by omega,by omega,e1⟩,rfl⟩
 ·left
  refine ⟨validM a,_,?_,hv,zi6 hv⟩
  unfold zav
  rw [za5,obind,decide_eq_true hv,cond_true,obind,decide_eq_true hv,cond_true]
section
variable {a M b:zaa} {extra:Int} {L:List (Nat×List Int)}
theorem NewOk.sm (N:NewOk a extra M L):SmL (wordsN extra M L)∧(wordsN extra M L).length≤10000∧∀ w∈wordsN extra M L,checkI w M.Inputs=0:=by
 have h:=allS_sm N.parts N.few
 have h1:(allS M (L.map Prod.snd) (uptoL M.Inputs (extra+1)) (idsM M)).length≤(L.map Prod.snd).length*((uptoL M.Inputs (extra+1)).length*mostL (idsM M)):=flat_le fun u _=>mid_le N.parts u _
 rw [← Nat.mul_assoc] at h1
 have h2:=zja (allS M (L.map Prod.snd) (uptoL M.Inputs (extra+1)) (idsM M))
 have h3:=N.few
 exact ⟨⟨Nat.le_trans h2 h.1,fun x hx=>h.2 x (mem_maxR hx)⟩,by unfold wordsN;omega,fun w hw=>suite_words N.parts w (mem_maxR hw)⟩
abbrev tupC6 (m:zaa) (r:zaf) (i:Nat):=(m.Inputs,m.Start,m.Next,m.Out,r.Run,r.Changes,i)
theorem zh0 (N:NewOk a extra M L) (hN:zb7 a extra=some (⟨M,wordsN extra M L⟩,0)) :
  zaj a b extra=some (if validM b≠0 then (⟨0,[]⟩,validM b) else if a.Inputs≠b.Inputs then (⟨0,[]⟩,15) else (cmpL M b ⟨0,[]⟩ (wordsN extra M L),0)):=by
 have hf:=fuel_big
 obtain ⟨s1,s2,s3⟩:=N.sm
 unfold zaj
 rw [hN,obind,decide_eq_false (fun h=>h rfl),cond_false,za5,obind]
 by_cases c1:validM b=0
 ·rw [decide_eq_false (fun h=>h c1),cond_false,if_neg (fun h=>h c1)]
  by_cases c2:a.Inputs=b.Inputs
  ·rw [decide_eq_false (fun h=>h c2),cond_false,if_neg (fun h=>h c2)]
   have hib:b.Inputs=M.Inputs:=by rw [N.inp,c2]
   have A:=cmp_iter (tup:=tupC6 M) (m:=M) (b:=b) (L:=wordsN extra M L) (fin:=fun r=>(.inl (M.Inputs,M.Start,M.Next,M.Out,r.Run,r.Changes):(Int×Int×List (List Int)×List (List Int)×Int×List zad)⊕(zaf×Int))) (S2:=fun s=>zaj.s20 b (⟨M,wordsN extra M L⟩,0) s.1 s.2.1 s.2.2.1 s.2.2.2.1 s.2.2.2.2.1 s.2.2.2.2.2.1 s.2.2.2.2.2.2) (fun r i w R hx=>by
    have hm:=List.mem_of_getElem? hx
    have hcw:=s3 w hm
    have hcb:checkI w b.Inputs=0:=by rw [hib];exact hcw
    have hin:i<(wordsN extra M L).length:=(List.getElem?_eq_some_iff.1 hx).1
    have r3:=R.2.2
    show zaj.s20 b (⟨M,wordsN extra M L⟩,0) _ _ _ _ _ _ _=_
    unfold zaj.s20
    simp only
    rw [dec_lt hx,cond_true,idxn_at hx,needed_eq (by simp only;omega) (s1.2 w hm),obind]
    simp only
    by_cases g0:knownR r.Changes w=true
    ·rw [g0,if_pos rfl]
     rfl
    ·rw [if_neg g0,Bool.not_eq_true _ |>.mp g0,Bool.not_false,Bool.not_true,cond_false,ziu c1 hcb,obind,decide_eq_true rfl,cond_true]
     simp only
     rw [note_eq N.vm hcw (outs_len _ _) R (by omega),obind,obind]
     rfl) (fun r=>by
    show zaj.s20 b (⟨M,wordsN extra M L⟩,0) _ _ _ _ _ _ _=_
    unfold zaj.s20
    rw [dec_end,cond_false]) fuel 0 ⟨0,[]⟩ ⟨by simp,by simp,by simp⟩ (Nat.zero_le _) (by omega)
   rw [List.drop_zero] at A
   refine (congrArg (fun z=>Option.bind z _) A).trans ?_
   rfl
  ·rw [decide_eq_true c2,cond_true,if_pos c2]
 ·rw [decide_eq_true c1,cond_true,if_pos c1]
end
end Go.Proofs.YtcneaiejdidooaaGreat.Sym

/-
 Regression runs: the document's parts, and the plain law of RegressNew.
-/
namespace Go.Proofs.YtcneaiejdidooaaGreat.Sym
set_option maxRecDepth 100000
theorem scan_some {α R:Type} {p:α→Bool} {r:R}:∀ (l:List α) (j:Nat),scan (fun _ x=>if p x=true then some r else none) j l=if l.any p=true then some r else none
 | [],_=>rfl
 | x::l,j=>by
  unfold scan
  by_cases h:p x=true
  ·rw [if_pos h,List.any_cons,h,Bool.true_or,if_pos rfl]
  ·rw [if_neg h,List.any_cons,Bool.not_eq_true _ |>.mp h,Bool.false_or]
   exact scan_some l (j+1)
theorem R50_known_eq {r:zaf} {w:List Int} (hl:r.Changes.length≤1000000) (hw:SmW w):zcf r w=some (knownR r.Changes w):=by
 unfold zcf
 have key:=zcz (step:=fun s=>zcf.s2 r w s) (l:=r.Changes) (fun _ t=>if decide (t.In <+: w)=true then some true else none) (fun i x hx=>by
  simp only [zcf.s2]
  rw [dec_lt hx,cond_true,idxn_at hx,zfg _ _ hw,obind]
  by_cases g:x.In <+: w
  ·rw [decide_eq_true g,if_pos rfl]
   rfl
  ·rw [decide_eq_false g,if_neg Bool.false_ne_true]
   rfl) (by
  simp only [zcf.s2]
  rw [dec_end]
  rfl) (by omega)
 rw [key,scan_some (p:=fun t:zad=>decide (t.In <+: w))]
 unfold knownR
 cases h:r.Changes.any fun t=>decide (t.In <+: w) with
 | true=>rw [if_pos rfl];rfl
 | false=>rw [if_neg Bool.false_ne_true];rfl
theorem outsR_eq {m:zaa} {w:List Int} (hv:validM m=0) (hw:checkI w m.Inputs=0):R06_Outs m m.Start w=some (outS m w,(↑(dest m m.Start.toNat w):Int)):=by
 have H:=valid_ok hv
 have st:=H.st
 have hl:=zdb hw
 have hs:m.Start=(↑m.Start.toNat:Int):=by omega
 have:=zkn H (s:=m.Start.toNat) (by omega) (zez hw) (by omega)
 rw [← hs] at this
 exact this
theorem R50_with_eq {m:zaa} {r:zaf} {w out:List Int} (hv:validM m=0) (hw:checkI w m.Inputs=0) (ho:out.length=w.length) {n:Nat} (hr:RepOk r n) (hn:n≤100000) :
  R50_with r m w out=some (noteR m r w out):=by
 obtain ⟨h1,h2,h3⟩:=hr
 have hl:=zdb hw
 have hol:(outS m w).length=w.length:=outs_len _ _
 have hc:=zf5 (outS m w) out
 unfold R50_with
 rw [chk_pos (by unfold inR;omega),outsR_eq hv hw,obind]
 simp only
 rw [zd1 _ _ (by unfold SmW;omega),obind]
 unfold noteR
 by_cases g:common (outS m w) out<w.length
 ·have hj:∀ l:List Int,l.length≤1024→R01_Join [l]=some l:=fun l hl=>by
   rw [R01_Join_eq _ (by simp) (by simp;omega)]
   simp
  have ht:Int.toNat ((↑(common (outS m w) out):Int)+1)=common (outS m w) out+1:=by omega
  rw [decide_eq_true (by omega),cond_true,chk_pos (by unfold inR;omega),chk_pos ⟨by omega,by omega⟩,hj _ (by rw [List.length_take];omega),obind,chk_pos (by unfold inR;omega),chk_pos ⟨by omega,by omega⟩,hj _ (by rw [List.length_take];omega),obind,chk_pos (by unfold capOk;omega),obind,if_pos g,ht]
 ·rw [decide_eq_false (by omega),cond_false,obind,if_neg g]
theorem R30_Suite_err {m:zaa} {extra:Int} (hv:validM m≠0):zcx m extra=some ([],validM m):=by
 unfold zcx zdp
 rw [zkc hv,obind,decide_eq_true (by exact hv),cond_true,obind,decide_eq_true (by exact hv),cond_true]
theorem R50_New_eq {a:zaa} {extra:Int} (h6:a.Next.length≤6) (h3:a.Inputs≤3) (hx:extra≤2):R50_New a extra=zb7 a extra:=by
 unfold R50_New zb7
 by_cases hv:validM a=0
 ·obtain ⟨r,e1,e2,_⟩:=suites_same (small_ok hv h6 h3) (extra:=extra) (by omega)
  obtain ⟨M,f1,f2,_⟩:=min_same hv
  rw [e1,e2,obind,obind,f1,f2]
 ·rw [R30_Suite_err hv,obind,decide_eq_true (by exact hv),cond_true]
  unfold zav
  rw [za5,obind,decide_eq_true hv,cond_true,obind,decide_eq_true (by exact hv),cond_true]
section
variable {a M b:zaa} {extra:Int} {L:List (Nat×List Int)}
theorem zk4 (N:NewOk a extra M L) (hN:R50_New a extra=some (⟨M,wordsN extra M L⟩,0)) :
  za9 a b extra=some (if validM b≠0 then (⟨0,[]⟩,validM b) else if a.Inputs≠b.Inputs then (⟨0,[]⟩,15) else (cmpL M b ⟨0,[]⟩ (wordsN extra M L),0)):=by
 have hf:=fuel_big
 obtain ⟨s1,s2,s3⟩:=N.sm
 unfold za9
 rw [hN,obind,decide_eq_false (fun h=>h rfl),cond_false,zcg,obind]
 by_cases c1:validM b=0
 ·rw [decide_eq_false (fun h=>h c1),cond_false,if_neg (fun h=>h c1)]
  by_cases c2:a.Inputs=b.Inputs
  ·rw [decide_eq_false (fun h=>h c2),cond_false,if_neg (fun h=>h c2)]
   have hib:b.Inputs=M.Inputs:=by rw [N.inp,c2]
   have A:=cmp_iter (tup:=fun r i=>(r.Run,r.Changes,i)) (m:=M) (b:=b) (L:=wordsN extra M L) (fin:=fun r=>(r.Run,r.Changes)) (S2:=fun s=>za9.s2 b (⟨M,wordsN extra M L⟩,0) s.1 s.2.1 s.2.2) (fun r i w R hx=>by
    have hm:=List.mem_of_getElem? hx
    have hcw:=s3 w hm
    have hcb:checkI w b.Inputs=0:=by rw [hib];exact hcw
    have hin:i<(wordsN extra M L).length:=(List.getElem?_eq_some_iff.1 hx).1
    have r3:=R.2.2
    show za9.s2 b (⟨M,wordsN extra M L⟩,0) _ _ _=_
    unfold za9.s2
    simp only
    rw [dec_lt hx,cond_true,idxn_at hx,R50_known_eq (by simp only;omega) (s1.2 w hm),obind]
    by_cases g0:knownR r.Changes w=true
    ·rw [g0,if_pos rfl]
     rfl
    ·rw [if_neg g0,Bool.not_eq_true _ |>.mp g0,Bool.not_false,cond_true,idxn_at hx,outsR_eq c1 hcb,obind,idxn_at hx]
     simp only
     rw [R50_with_eq N.vm hcw (outs_len _ _) R (by omega),obind]) (fun r=>by
    show za9.s2 b (⟨M,wordsN extra M L⟩,0) _ _ _=_
    unfold za9.s2
    rw [dec_end,cond_false]) fuel 0 ⟨0,[]⟩ ⟨by simp,by simp,by simp⟩ (Nat.zero_le _) (by omega)
   rw [List.drop_zero] at A
   refine (congrArg (fun z=>Option.bind z _) A).trans ?_
   rfl
  ·rw [decide_eq_true c2,cond_true,if_pos c2]
 ·rw [decide_eq_true c1,cond_true,if_pos c1]
end
theorem same_zero:zcc ⟨0,[]⟩ ⟨0,[]⟩=some true:=by decide +kernel
theorem same_self {r:zaf} (h:SmTr r.Changes):zcc r r=some true:=by
 unfold zcc
 rw [decide_eq_true rfl,cond_true,zgx h]
 rfl
theorem zi4 (a b:zaa) (extra:Int):zc4 a b extra=some true:=by
 have hA:=awake50_true
 obtain ⟨bb,eb⟩:=L06_Great_tot b
 unfold zc4 zhj
 rw [hA,eb]
 by_cases s1:(↑a.Next.length:Int)≤6
 ·by_cases s2:a.Inputs≤3
  ·by_cases s3:extra≤2
   ·rw [decide_eq_true s1,cond_true,decide_eq_true s2,cond_true,decide_eq_true s3,obind,obind,Bool.not_true,cond_false,obind,obind]
    cases bb with
    | true=>rfl
    | false =>
     rw [cond_false]
     have hR:=R50_New_eq (a:=a) (extra:=extra) (by omega) s2 s3
     rcases zlf (a:=a) (extra:=extra) (by omega) s2 s3 with ⟨e,c,hN,he,hm⟩ | ⟨M,L,N,hN⟩
     ·have hC:zaj a b extra=some (⟨0,[]⟩,e):=by
       unfold zaj
       rw [hN,obind,decide_eq_true he,cond_true]
      have hD:za9 a b extra=some (⟨0,[]⟩,e):=by
       unfold za9
       rw [hR,hN,obind,decide_eq_true he,cond_true]
      have h1:R06_Same ⟨0,0,[],[]⟩ ⟨0,0,[],[]⟩=some true:=by decide +kernel
      have h2:zb3 [] []=some true:=by decide +kernel
      rw [hR,hN,obind,obind,hC,obind,hD,obind]
      simp only
      rw [h1,obind,cond_true,h2,obind,cond_true,same_zero]
      simp
     ·have hC:=zh0 (b:=b) N hN
      have hD:=zk4 (b:=b) N (by rw [hR,hN])
      obtain ⟨w1,w2,w3⟩:=N.sm
      rw [hR,hN,obind,obind,hC,obind,hD,obind]
      simp only
      have hw1:=w1.1
      rw [R06_Same_self N.sem.ok,obind,cond_true,zga _ _ (by omega) (fun x hx=>by have:=w1.2 x hx;unfold SmW at this;omega),obind]
      have hs:∀ x:zaf×Int,SmTr x.1.Changes→zcc x.1 x.1=some true:=fun x hx=>same_self hx
      rw [hs _ ?_]
      ·simp
      ·obtain ⟨p1,p2⟩:=cmpL_rep (m:=M) (b:=b) (wordsN extra M L) ⟨0,[]⟩ 0 ⟨by simp,by simp,by simp⟩ (fun w hw=>zdb (w3 w hw)) (fun c hc=>by cases hc)
       have p3:=p1.2.2
       have hnil:SmTr ([]:List zad):=⟨by simp,fun c hc=>by cases hc⟩
       split
       ·exact hnil
       ·split
        ·exact hnil
        ·exact (show SmTr (cmpL M b ⟨0,[]⟩ (wordsN extra M L)).Changes from ⟨by omega,p2⟩)
   ·rw [decide_eq_true s1,cond_true,decide_eq_true s2,cond_true,decide_eq_false s3]
    rfl
  ·rw [decide_eq_true s1,cond_true,decide_eq_false s2]
   rfl
 ·rw [decide_eq_false s1]
  rfl
end Go.Proofs.YtcneaiejdidooaaGreat.Sym

/-
 The law of RegressNew, for arguments within the bound.
-/
namespace Go.Proofs.YtcneaiejdidooaaGreat.Sym
theorem zhm (x0:zaa) (x1:zaa) (x2:Int) (_:zgb x0) (_:zgc x0≤1048576) (_:zgb x1) (_:zgc x1≤1048576) (_:inR x2):zc4 x0 x1 x2=some true :=
 zi4 x0 x1 x2
end Go.Proofs.YtcneaiejdidooaaGreat.Sym

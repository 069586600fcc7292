/-
  Parts of the proof, behind each other.
-/
import Derived.Test.YtedabpfahmealaaGreatDoorM3
set_option linter.all false
namespace Go.Proofs.YtedabpfahmealaaGreatDoor.Sym
section
set_option maxRecDepth 100000
section
variable {α:Type} [DecidableEq α]
def pos (r:α):List α→Nat
 | []=>0
 | x::l=>if x=r then 0 else pos r l+1
theorem zn6 {r:α}:∀ {l:List α},r∈l→l[pos r l]?=some r
 | x::l,h=>by
  unfold pos;by_cases e:x=r
  ·simp [e]
  ·rw [if_neg e];rcases List.mem_cons.1 h with h | h
   ·exact absurd h.symm e
   ·simpa using zn6 h
theorem pos_lt {r:α} {l:List α} (h:r∈l):pos r l<l.length:=(zkI.1 (zn6 h)).1
theorem zsu {r:α}:∀ {l m:List α},r∈l→pos r (l++m)=pos r l
 | x::l,m,h=>by
  rw [List.cons_append];unfold pos;by_cases e:x=r
  ·simp [e]
  ·rw [if_neg e,if_neg e];rcases List.mem_cons.1 h with h | h
   ·exact absurd h.symm e
   ·rw [zsu h]
theorem pos_new {r:α}:∀ {l:List α},r∉l→pos r (l++[r])=l.length
 | [],_=>by simp [pos]
 | x::l,h=>by
  rw [List.cons_append];unfold pos;have h1:¬ x=r:=fun e=>h (by simp [e]);have h2:r∉l:=fun e=>h (by simp [e]);rw [if_neg h1,pos_new h2];rfl
theorem pos_inj {r s:α} {l:List α} (hr:r∈l) (hs:s∈l) (h:pos r l=pos s l):r=s:=by
 have h1:=zn6 hr;rw [h,zn6 hs] at h1;injection h1 with h1
 exact h1.symm
def addR (R:List α) (r:α):List α:=if r∈R then R else R++[r]
theorem mem_addR {R:List α} {r x:α}:x∈addR R r↔x∈R∨x=r:=by
 unfold addR;split
 ·constructor
  ·exact Or.inl
  ·rintro (h | rfl)
   ·exact h
   ·assumption
 ·simp
theorem pos_addR {R:List α} {r x:α} (h:x∈R):pos x (addR R r)=pos x R:=by
 unfold addR;split
 ·rfl
 ·exact zsu h
theorem addR_len (R:List α) (r:α):(addR R r).length≤R.length+1:=by
 unfold addR;split
 ·omega
 ·simp
end
def zpx:List (List Int)→List UInt8
 | []=>[]
 | o::r=>keyL o++47::zpx r
theorem rkeyL_append (a b:List (List Int)):zpx (a++b)=zpx a++zpx b:=by
 induction a with
 | nil=>rfl
 | cons o a ih=>simp [zpx,ih]
theorem zwx:∀ (w:List Int),∀ c∈keyL w,c≠47
 | [],c,h=>by cases h
 | a::w,c,h=>by
  simp only [keyL] at h;rcases List.mem_append.1 h with h | h
  ·intro e;subst e;unfold zm8 at h;split at h
   ·rcases List.mem_cons.1 h with h | h
    ·cases h
    ·have:=zn3 _ _ h
     revert this
     decide
   ·have:=zn3 _ _ h
    revert this
    decide
  ·rcases List.mem_cons.1 h with h | h
   ·subst h;decide
   ·exact zwx w c h
theorem rkeyL_inj:∀ {a b:List (List Int)},zpx a=zpx b→a=b
 | [],[],_=>rfl
 | [],o::b,h=>by
  simp only [zpx] at h;have:=congrArg List.length h;simp at this
 | o::a,[],h=>by
  simp only [zpx] at h;have:=congrArg List.length h;simp at this
 | o::a,u::b,h=>by
  simp only [zpx] at h;obtain ⟨h1,h2⟩:=split_at (zwx o) (zwx u) h;rw [keyL_inj h1,rkeyL_inj h2]
def rkey (r:List (List Int)):ByteArray:=⟨(zpx r).toArray⟩
theorem rkey_inj {a b:List (List Int)} (h:rkey a=rkey b):a=b:=rkeyL_inj (by
 unfold rkey at h
 injection h with h
 injection h)
def RowSm (r:List (List Int)):Prop:=r.length≤100∧∀ x∈r,x.length≤1000∧∀ a∈x,inR a
theorem rkeyL_len {r:List (List Int)} (h:∀ x∈r,x.length≤1000∧∀ a∈x,inR a):(zpx r).length≤15001*r.length:=by
 induction r with
 | nil=>simp [zpx]
 | cons o r ih =>
  have h1:=h o (by simp);have h2:=zt4 (xs:=o) h1.2;have h3:=ih fun x hx=>h x (by simp [hx]);simp only [zpx,zkJ,zkL];omega
theorem bytes_append (a b:List UInt8):((⟨a.toArray⟩:ByteArray)++⟨b.toArray⟩)=⟨(a++b).toArray⟩:=by
 apply ByteArray.ext;simp
theorem zrw (a:List UInt8):(⟨a.toArray⟩:ByteArray).size=a.length:=by simp [ByteArray.size]
theorem row_key_eq {r:List (List Int)} (h:RowSm r):iter (fun (s:ByteArray×Nat)=>zb4.s2 r s.1 s.2) fuel ((⟨#[]⟩:ByteArray),0)=some (rkey r):=by
 obtain ⟨hl,hr⟩:=h;refine zdy (fun s=>s.2≤r.length∧s.1=rkey (r.take s.2)) (fun s=>r.length-s.2) (fun s ⟨g1,g2⟩=>?_) ⟨Nat.zero_le _,rfl⟩ (by have:=za4;simp only;omega);obtain ⟨z,k⟩:=s;simp only at g1 g2;subst g2;simp only [zb4.s2];by_cases g4:k<r.length
 ·left;have hx:=get_at g4;have hxr:=hr _ (List.getElem_mem g4);have hkl:=zt4 (xs:=r[k]) hxr.2;have hrl:=rkeyL_len (r:=r.take k) fun x hx=>hr x (List.mem_of_mem_take hx);rw [List.length_take] at hrl;have e1:((⟨(keyL r[k]).toArray⟩:ByteArray)++⟨#[47]⟩)=⟨(keyL r[k]++[47]).toArray⟩:=bytes_append (keyL r[k]) [47];refine ⟨(rkey (r.take (k+1)),k+1),?_,⟨by simp only;omega,rfl⟩,by simp only;omega⟩;rw [zbw hx,zkD,zaq hx,zoe (by unfold SmW;omega) hxr.2,zan,e1];have e2:(⟨#[47]⟩:ByteArray).size=1:=rfl
  rw [zav (by rw [zrw,e2];omega),zav (by
   unfold rkey
   rw [zrw,zrw,zkJ,List.length_singleton]
   omega)]
  unfold rkey;rw [bytes_append,zbp hx,rkeyL_append];simp [zpx]
 ·right;have e:k=r.length:=by omega
  subst e;rw [zkA (by omega),zkC,List.take_length]
def NumOk (R:List (List (List Int))) (m:List (ByteArray×Int)):Prop:=∀ r,mget (rkey r) m=if r∈R then some (↑(pos r R):Int) else none
theorem zwu {v:zay} {r:List (List Int)} (h:RowSm r) (hn:NumOk v.rows v.number) (hl:v.rows.length≤100000) :
  ∃ m,zb4 v r=some ((↑(pos r (addR v.rows r)):Int),⟨addR v.rows r,v.prefixes,v.next,m⟩)∧NumOk (addR v.rows r) m:=by
 unfold zb4;rw [row_key_eq h,zan];have hr:=hn r;by_cases hm:r∈v.rows
 ·rw [if_pos hm] at hr;refine ⟨v.number,?_,?_⟩
  ·rw [hr];simp only [Option.isSome_some,Bool.not_true,zkC,Option.getD_some];unfold addR;rw [if_pos hm];rfl
  ·unfold addR;rw [if_pos hm];exact hn
 ·rw [if_neg hm] at hr;refine ⟨mset (rkey r) (↑v.rows.length:Int) v.number,?_,fun x=>?_⟩
  ·rw [hr];simp only [Option.isSome_none,Bool.not_false,zkD];rw [zav (by unfold zbm;omega),zan];unfold addR;rw [if_neg hm,pos_new hm];rfl
  ·unfold addR;rw [if_neg hm];by_cases hx:x=r
   ·subst hx;rw [zk4 ba_beq,if_pos (by simp),pos_new hm]
   ·rw [znw ba_beq (fun e=>hx (rkey_inj e)),hn x];by_cases hxm:x∈v.rows
    ·rw [if_pos hxm,if_pos (by simp [hxm]),zsu hxm]
    ·rw [if_neg hxm,if_neg (by simp [hxm,hx])]
end
section
set_option maxRecDepth 100000
def zhv (o:zab) (S:List (List Int)):List (List Int)→Option (List (List (List Int)))
 | []=>some []
 | w::ws=>match rowO o w S with
  | none=>none
  | some r=>(zhv o S ws).map fun l=>r::l
theorem zi0 {o:zab} {S:List (List Int)}:∀ {ws:List (List Int)} {rs:List (List (List Int))},zhv o S ws=some rs→rs.length=ws.length∧∀ (i:Nat) w,ws[i]?=some w→∃ r,rs[i]?=some r∧rowO o w S=some r
 | [],rs,h=>by
  injection h with h
  subst h;exact ⟨rfl,fun i w hw=>by simp at hw⟩
 | w::ws,rs,h=>by
  unfold zhv at h;cases hr:rowO o w S with
  | none=>rw [hr] at h;cases h
  | some r =>
   rw [hr] at h;obtain ⟨rs',h1,rfl⟩:=Option.map_eq_some_iff.1 h;obtain ⟨h2,h3⟩:=zi0 h1;refine ⟨by simp [h2],fun i u hu=>?_⟩;cases i with
   | zero =>
    simp at hu;subst hu;exact ⟨r,rfl,hr⟩
   | succ i=>simpa using h3 i u (by simpa using hu)
theorem zx1 {o:zab} {S:List (List Int)} {ws:List (List Int)} {w:List Int} (hw:w∈ws) (h:rowO o w S=none):zhv o S ws=none:=by
 cases hr:zhv o S ws with
 | none=>rfl
 | some rs =>
  obtain ⟨i,hi,rfl⟩:=List.mem_iff_getElem.1 hw;obtain ⟨r,_,h2⟩:=(zi0 hr).2 i _ (get_at hi);rw [h] at h2;cases h2
theorem zsp {o:zab} {S:List (List Int)} {w:List Int} {r:List (List Int)} (h:rowO o w S=some r):∀ {ws:List (List Int)} {rs:List (List (List Int))},zhv o S ws=some rs→zhv o S (ws++[w])=some (rs++[r])
 | [],rs,h1=>by
  injection h1 with h1
  subst h1;simp [zhv,h]
 | u::ws,rs,h1=>by
  rw [List.cons_append];unfold zhv at h1 ⊢;cases hr:rowO o u S with
  | none=>rw [hr] at h1;cases h1
  | some r' =>
   rw [hr] at h1;obtain ⟨rs',h2,rfl⟩:=Option.map_eq_some_iff.1 h1;simp only [zsp h h2];rfl
theorem ansO_rng {o:zab} (hv:zc2 o) {w r:List Int} (h:ansO o w=some r):∀ a∈r,inR a:=by
 unfold ansO at h;split at h
 ·injection h with h
  subst h;intro a ha;cases ha
 ·obtain ⟨t,ht,rfl⟩:=Option.map_eq_some_iff.1 h;intro a ha;have hm:=List.mem_of_find?_eq_some ht;have:=(hv.prop t hm).1.2.2 a (List.mem_of_mem_take ha);unfold inR;omega
theorem rowO_rng {o:zab} (hv:zc2 o) {w:List Int}:∀ {S:List (List Int)} {l:List (List Int)},rowO o w S=some l→∀ x∈l,∀ a∈x,inR a
 | [],l,h=>by
  injection h with h
  subst h;intro x hx;cases hx
 | e::S,l,h=>by
  unfold rowO at h;cases ha:ansO o (w++e) with
  | none=>rw [ha] at h;cases h
  | some r =>
   rw [ha] at h;obtain ⟨l',h1,rfl⟩:=Option.map_eq_some_iff.1 h;intro x hx a hax;rcases List.mem_cons.1 hx with rfl | hx
   ·exact ansO_rng hv ha a (List.mem_of_mem_drop hax)
   ·exact rowO_rng hv h1 x hx a hax
theorem zl7 {o:zab} {t:zac} (hv:zc2 o) (ht:zev t) {w:List Int} {r:List (List Int)} (h:rowO o w t.Suffixes=some r):RowSm r:=by
 obtain ⟨h1,h2⟩:=zgp hv h;refine ⟨by have:=ht.s;omega,fun x hx=>⟨?_,rowO_rng hv h x hx⟩⟩;obtain ⟨e,he,hl⟩:=h2 x hx;have:=ht.sw e he;omega
abbrev v0:zay:=⟨[],[],[],[]⟩
abbrev Row:Type:=List (List Int)
def zbs (R:List Row) (rs:List Row):List Row:=rs.foldl addR R
theorem zj9 (R:List Row) (rs:List Row) (r:Row):zbs R (rs++[r])=addR (zbs R rs) r:=by simp [zbs]
theorem zqo (R:List Row) (a b:List Row):zbs R (a++b)=zbs (zbs R a) b:=by simp [zbs]
theorem zfz {R:List Row} {x:Row}:∀ {rs:List Row},x∈zbs R rs↔x∈R∨x∈rs:=by
 intro rs
 induction rs generalizing R with
 | nil=>simp [zbs]
 | cons r rs ih =>
  show x∈zbs (addR R r) rs↔_;rw [ih,mem_addR,List.mem_cons];constructor
  ·rintro ((h | h) | h)
   ·exact Or.inl h
   ·exact Or.inr (Or.inl h)
   ·exact Or.inr (Or.inr h)
  ·rintro (h | h | h)
   ·exact Or.inl (Or.inl h)
   ·exact Or.inl (Or.inr h)
   ·exact Or.inr h
theorem zx5 {R:List Row} {x:Row} (h:x∈R):∀ rs:List Row,pos x (zbs R rs)=pos x R:=by
 intro rs
 induction rs generalizing R with
 | nil=>rfl
 | cons r rs ih =>
  show pos x (zbs (addR R r) rs)=_;rw [ih (mem_addR.2 (Or.inl h)),pos_addR h]
theorem zow (R:List Row) (rs:List Row):(zbs R rs).length≤R.length+rs.length:=by
 induction rs generalizing R with
 | nil=>simp [zbs]
 | cons r rs ih =>
  have h1:=ih (R:=addR R r);have h2:=addR_len R r;show (zbs (addR R r) rs).length≤_;rw [zkL];omega
def nums (R:List Row) (rs:List Row):List Int:=rs.map fun r=>(↑(pos r R):Int)
theorem zud {R:List Row} {rs:List Row} (h:∀ x∈rs,x∈R) (X:List Row):nums (zbs R X) rs=nums R rs:=by
 unfold nums;refine List.map_congr_left fun x hx=>?_;rw [zx5 (h x hx)]
theorem look_first {o:zab} {t:zac} {F:List zaa} (ht:zev t) (ho:SmO o) (hv:zc2 o) (hF:zs2 o F) :
  ∃ res,iter (fun (s:List (List (List Int))×List Int×(List (ByteArray×Int))×Nat)=>za7.s2 t F s.1 s.2.1 s.2.2.1 s.2.2.2) fuel ([],[],([]:List (ByteArray×Int)),0)=some res ∧
   match zhv o t.Suffixes t.Prefixes with
   | none=>res=.inr (v0,12)
   | some rs=>∃ m,res=.inl (zbs [] rs,nums (zbs [] rs) rs,m)∧NumOk (zbs [] rs) m:=by
 have hp:=ht.p;have hS:=ht.sm.2.2.1
 refine zbq (step:=fun (s:List (List (List Int))×List Int×(List (ByteArray×Int))×Nat)=>za7.s2 t F s.1 s.2.1 s.2.2.1 s.2.2.2)
  (fun s=>s.2.2.2≤t.Prefixes.length∧∃ rs,zhv o t.Suffixes (t.Prefixes.take s.2.2.2)=some rs∧s.1=zbs [] rs∧s.2.1=nums (zbs [] rs) rs∧NumOk (zbs [] rs) s.2.2.1) (fun s=>t.Prefixes.length-s.2.2.2) _ (fun s ⟨g1,rs,g2,g3,g4,g5⟩=>?_) fuel _ ⟨Nat.zero_le _,[],rfl,rfl,rfl,fun r=>by simp [zbs,mget]⟩ (by have:=za4;simp only;omega)
 obtain ⟨R,N,m,k⟩:=s;simp only at g1 g2 g3 g4 g5;subst g3 g4
 have hrl:rs.length=k:=by
  have:=(zi0 g2).1;rw [List.length_take] at this;omega
 have hRl:=zow [] rs;simp only [List.length_nil] at hRl;simp only [za7.s2];by_cases h:k<t.Prefixes.length
 ·have hx:=get_at h;have hxs:SmW t.Prefixes[k]:=ht.sm.2.1.2 _ (List.getElem_mem _);rw [zbw hx,zkD,zaq hx,zmn ho hv hF hS hxs,zan];cases hr:rowO o t.Prefixes[k] t.Suffixes with
  | none =>
   right;refine ⟨.inr (v0,12),rfl,?_⟩;rw [zx1 (List.getElem_mem h) hr]
  | some r =>
   left;have hsm:=zl7 hv ht hr;obtain ⟨m',e,hm'⟩:=zwu (v:=⟨zbs [] rs,nums (zbs [] rs) rs,[],m⟩) hsm g5 (by simp only;omega);simp only at e hm';refine ⟨(zbs [] (rs++[r]),nums (zbs [] (rs++[r])) (rs++[r]),m',k+1),?_,⟨h,rs++[r],?_,rfl,rfl,?_⟩,by simp only;omega⟩
   ·simp only [tw,Bool.not_true,zkC];rw [e,zan,zav (by unfold nums zbm;rw [zkK];omega),zj9]
    have h1:nums (addR (zbs [] rs) r) (rs++[r])=nums (zbs [] rs) rs++[(↑(pos r (addR (zbs [] rs) r)):Int)]:=by
     have h2:=zud (R:=zbs [] rs) (rs:=rs) (fun x hx=>zfz.2 (Or.inr hx)) [r];have h3:zbs (zbs [] rs) [r]=addR (zbs [] rs) r:=rfl;rw [h3] at h2;rw [← h2];simp [nums]
    rw [h1]
   ·simp only;rw [zbp hx];exact zsp hr g2
   ·simp only;rw [zj9];exact hm'
 ·right;have e:k=t.Prefixes.length:=by omega
  subst e;rw [List.take_length] at g2;refine ⟨.inl (zbs [] rs,nums (zbs [] rs) rs,m),by rw [zkA (by omega),zkC],?_⟩;rw [g2];exact ⟨m,rfl,g5⟩
def exts (n:Nat) (p:List Int):List (List Int):=(List.range n).map fun (a:Nat)=>p++[(↑a:Int)]
theorem look_inner {o:zab} {t:zac} {F:List zaa} (ht:zev t) (ho:SmO o) (hv:zc2 o) (hF:zs2 o F) (P:List Int) (Q:List (List Int)) {p:List Int} (hp:SmW p) (hp1:p.length≤1000000) {R:List Row} {m:List (ByteArray×Int)} (hm:NumOk R m) (hR:R.length≤10000) :
  ∃ res,iter (fun (s:List (List (List Int))×(List (ByteArray×Int))×List Int×Nat)=>za7.s20 t F P Q p s.1 s.2.1 s.2.2.1 s.2.2.2) fuel (R,m,[],0)=some res ∧
   match zhv o t.Suffixes (exts t.Inputs.toNat p) with
   | none=>res=.inr (.inr (.inr (v0,12)))
   | some rs=>∃ m',res=.inl (zbs R rs,m',nums (zbs R rs) rs)∧NumOk (zbs R rs) m':=by
 have hn:=ht.n;have hS:=ht.sm.2.2.1
 refine zbq (step:=fun (s:List (List (List Int))×(List (ByteArray×Int))×List Int×Nat)=>za7.s20 t F P Q p s.1 s.2.1 s.2.2.1 s.2.2.2)
  (fun s=>s.2.2.2≤t.Inputs.toNat∧∃ rs,zhv o t.Suffixes (exts s.2.2.2 p)=some rs∧s.1=zbs R rs∧s.2.2.1=nums (zbs R rs) rs∧NumOk (zbs R rs) s.2.1) (fun s=>t.Inputs.toNat-s.2.2.2) _ (fun s ⟨g1,rs,g2,g3,g4,g5⟩=>?_) fuel _ ⟨Nat.zero_le _,[],rfl,rfl,rfl,hm⟩ (by have:=za4;simp only;omega)
 obtain ⟨R',m1,N,k⟩:=s;simp only at g1 g2 g3 g4 g5;subst g3 g4
 have hrl:rs.length=k:=by
  have:=(zi0 g2).1;unfold exts at this;simpa using this
 have hRl:=zow R rs;simp only [za7.s20];by_cases h:k<t.Inputs.toNat
 ·have hxs:SmW (p++[(↑k:Int)]):=by
   show (p++[(↑k:Int)]).length≤2000000;simp;omega
  have hst:exts (k+1) p=exts k p++[p++[(↑k:Int)]]:=by simp [exts,List.range_succ]
  rw [zkB (by omega),zkD,zim hp,zan,zmn ho hv hF hS hxs,zan];cases hr:rowO o (p++[(↑k:Int)]) t.Suffixes with
  | none =>
   right;refine ⟨.inr (.inr (.inr (v0,12))),rfl,?_⟩;rw [zx1 (ws:=exts t.Inputs.toNat p) (w:=p++[(↑k:Int)]) (List.mem_map.2 ⟨k,List.mem_range.2 h,rfl⟩) hr]
  | some r =>
   left;have hsm:=zl7 hv ht hr;obtain ⟨m',e,hm'⟩:=zwu (v:=⟨zbs R rs,P,Q,m1⟩) hsm g5 (by simp only;omega);simp only at e hm';refine ⟨(zbs R (rs++[r]),m',nums (zbs R (rs++[r])) (rs++[r]),k+1),?_,⟨h,rs++[r],?_,rfl,rfl,?_⟩,by simp only;omega⟩
   ·simp only [tw,Bool.not_true,zkC];rw [e,zan,zav (by unfold nums zbm;rw [zkK];omega),zav (by unfold inR;omega),zj9]
    have h1:nums (addR (zbs R rs) r) (rs++[r])=nums (zbs R rs) rs++[(↑(pos r (addR (zbs R rs) r)):Int)]:=by
     have h2:=zud (R:=zbs R rs) (rs:=rs) (fun x hx=>zfz.2 (Or.inr hx)) [r];have h3:zbs (zbs R rs) [r]=addR (zbs R rs) r:=rfl;rw [h3] at h2;rw [← h2];simp [nums]
    rw [h1]
   ·simp only;rw [hst];exact zsp hr g2
   ·simp only;rw [zj9];exact hm'
 ·right;have e:k=t.Inputs.toNat:=by omega
  subst e;refine ⟨.inl (zbs R rs,m1,nums (zbs R rs) rs),by rw [zkA (by omega),zkC],?_⟩;rw [g2];exact ⟨m1,rfl,g5⟩
def zgz (o:zab) (S:List (List Int)) (n:Nat):List (List Int)→Option (List (List Row))
 | []=>some []
 | p::ps=>match zhv o S (exts n p) with
  | none=>none
  | some rs=>(zgz o S n ps).map fun l=>rs::l
theorem zl3 {o:zab} {S:List (List Int)} {n:Nat}:∀ {ps:List (List Int)} {rss:List (List Row)},zgz o S n ps=some rss→rss.length=ps.length∧∀ (i:Nat) p,ps[i]?=some p→∃ rs,rss[i]?=some rs∧zhv o S (exts n p)=some rs
 | [],rss,h=>by
  injection h with h
  subst h;exact ⟨rfl,fun i w hw=>by simp at hw⟩
 | p::ps,rss,h=>by
  unfold zgz at h;cases hr:zhv o S (exts n p) with
  | none=>rw [hr] at h;cases h
  | some r =>
   rw [hr] at h;obtain ⟨rs',h1,rfl⟩:=Option.map_eq_some_iff.1 h;obtain ⟨h2,h3⟩:=zl3 h1;refine ⟨by simp [h2],fun i u hu=>?_⟩;cases i with
   | zero =>
    simp at hu;subst hu;exact ⟨r,rfl,hr⟩
   | succ i=>simpa using h3 i u (by simpa using hu)
theorem extRows_none {o:zab} {S:List (List Int)} {n:Nat} {ps:List (List Int)} {p:List Int} (hw:p∈ps) (h:zhv o S (exts n p)=none):zgz o S n ps=none:=by
 cases hr:zgz o S n ps with
 | none=>rfl
 | some rs =>
  obtain ⟨i,hi,rfl⟩:=List.mem_iff_getElem.1 hw;obtain ⟨r,_,h2⟩:=(zl3 hr).2 i _ (get_at hi);rw [h] at h2;cases h2
theorem zte {o:zab} {S:List (List Int)} {n:Nat} {p:List Int} {r:List Row} (h:zhv o S (exts n p)=some r):∀ {ps:List (List Int)} {rs:List (List Row)},zgz o S n ps=some rs→zgz o S n (ps++[p])=some (rs++[r])
 | [],rs,h1=>by
  injection h1 with h1
  subst h1;simp [zgz,h]
 | u::ps,rs,h1=>by
  rw [List.cons_append];unfold zgz at h1 ⊢;cases hr:zhv o S (exts n u) with
  | none=>rw [hr] at h1;cases h1
  | some r' =>
   rw [hr] at h1;obtain ⟨rs',h2,rfl⟩:=Option.map_eq_some_iff.1 h1;simp only [zte h h2];rfl
theorem look_second {o:zab} {t:zac} {F:List zaa} (ht:zev t) (ho:SmO o) (hv:zc2 o) (hF:zs2 o F) (P:List Int) {R:List Row} {m:List (ByteArray×Int)} (hm:NumOk R m) (hR:R.length≤1000) :
  ∃ res,iter (fun (s:List (List (List Int))×List (List Int)×(List (ByteArray×Int))×Nat)=>za7.s22 t F P s.1 s.2.1 s.2.2.1 s.2.2.2) fuel (R,[],m,0)=some res ∧
   match zgz o t.Suffixes t.Inputs.toNat t.Prefixes with
   | none=>res=.inr (v0,12)
   | some rss=>∃ m',res=.inl (zbs R rss.flatten,rss.map (nums (zbs R rss.flatten)),m'):=by
 have hn:=ht.n;have hp:=ht.p
 refine zbq (step:=fun (s:List (List (List Int))×List (List Int)×(List (ByteArray×Int))×Nat)=>za7.s22 t F P s.1 s.2.1 s.2.2.1 s.2.2.2)
  (fun s=>s.2.2.2≤t.Prefixes.length∧∃ rss,zgz o t.Suffixes t.Inputs.toNat (t.Prefixes.take s.2.2.2)=some rss∧rss.flatten.length≤4*s.2.2.2∧s.1=zbs R rss.flatten∧s.2.1=rss.map (nums (zbs R rss.flatten))∧NumOk (zbs R rss.flatten) s.2.2.1) (fun s=>t.Prefixes.length-s.2.2.2) _ (fun s ⟨g1,rss,g2,g6,g3,g4,g5⟩=>?_) fuel _ ⟨Nat.zero_le _,[],rfl,by simp,rfl,rfl,hm⟩ (by have:=za4;simp only;omega)
 obtain ⟨R',N,m1,k⟩:=s;simp only at g1 g2 g3 g4 g5 g6;subst g3 g4
 have hrl:rss.length=k:=by
  have:=(zl3 g2).1;rw [List.length_take] at this;omega
 have hRl:=zow R rss.flatten;simp only [za7.s22];by_cases h:k<t.Prefixes.length
 ·have hx:=get_at h;have hxs:SmW t.Prefixes[k]:=ht.sm.2.1.2 _ (List.getElem_mem _);have hxl:=ht.pw _ (List.getElem_mem h);obtain ⟨res,e,hres⟩:=look_inner ht ho hv hF P (rss.map (nums (zbs R rss.flatten))) hxs (by omega) g5 (by omega);rw [zbw hx,zkD,zaq hx,e,zan];cases hr:zhv o t.Suffixes (exts t.Inputs.toNat t.Prefixes[k]) with
  | none =>
   rw [hr] at hres;right;refine ⟨.inr (v0,12),by rw [hres];rfl,?_⟩;rw [extRows_none (List.getElem_mem h) hr]
  | some rs =>
   rw [hr] at hres;obtain ⟨m',h1,h2⟩:=hres;left
   have hsl:rs.length=t.Inputs.toNat:=by
    have:=(zi0 hr).1;unfold exts at this;simpa using this
   have hfl:(rss++[rs]).flatten=rss.flatten++rs:=by simp
   refine ⟨(zbs R (rss++[rs]).flatten,(rss++[rs]).map (nums (zbs R (rss++[rs]).flatten)),m',k+1),?_,⟨h,rss++[rs],?_,?_,rfl,rfl,?_⟩,by simp only;omega⟩
   ·rw [h1];simp only [Sum.elim_inl,za7.k21];rw [zav (by rw [zkK];unfold zbm;omega),hfl,zqo]
    have h3:rss.map (nums (zbs (zbs R rss.flatten) rs))=rss.map (nums (zbs R rss.flatten)):=by
     refine List.map_congr_left fun x hx=>?_;exact zud (fun y hy=>zfz.2 (Or.inr (List.mem_flatten.2 ⟨x,hx,hy⟩))) rs
    rw [List.map_append,h3];rfl
   ·simp only;rw [zbp hx];exact zte hr g2
   ·simp only;rw [hfl,zkJ];omega
   ·simp only;rw [hfl,zqo];exact h2
 ·right;have e:k=t.Prefixes.length:=by omega
  subst e;rw [List.take_length] at g2;refine ⟨.inl (zbs R rss.flatten,rss.map (nums (zbs R rss.flatten)),m1),by rw [zkA (by omega),zkC],?_⟩;rw [g2];exact ⟨m1,rfl⟩
def LookSpec (t:zac) (o:zab) (v:zay) (e:Int):Prop :=
 (chkT t o≠0∧e=chkT t o) ∨
 (chkT t o=0∧e=12∧(zhv o t.Suffixes t.Prefixes=none∨zgz o t.Suffixes t.Inputs.toNat t.Prefixes=none)) ∨
 (chkT t o=0∧e=0∧∃ rs rss,zhv o t.Suffixes t.Prefixes=some rs∧zgz o t.Suffixes t.Inputs.toNat t.Prefixes=some rss ∧
  v.rows=zbs (zbs [] rs) rss.flatten∧v.prefixes=nums v.rows rs∧v.next=rss.map (nums v.rows))
theorem zqr {t:zac} {o:zab} (ht:zev t) (ho:SmO o) (hv:zc2 o):∃ v e,za7 t o=some (v,e)∧LookSpec t o v e:=by
 obtain ⟨F,hF1,hF⟩:=zmo ho hv;have hp:=ht.p;unfold za7;rw [zk6 ht.sm,zan];by_cases h:chkT t o=0
 ·rw [zkA (by simpa using h),zkC,hF1,zan];obtain ⟨res,e,hres⟩:=look_first ht ho hv hF;rw [e,zan];cases hr:zhv o t.Suffixes t.Prefixes with
  | none =>
   rw [hr] at hres;subst hres;exact ⟨v0,12,rfl,.inr (.inl ⟨h,rfl,.inl hr⟩)⟩
  | some rs =>
   rw [hr] at hres;obtain ⟨m,h1,h2⟩:=hres;subst h1;have hrl:=(zi0 hr).1;have hRl:=zow [] rs;simp only [List.length_nil] at hRl;simp only [Sum.elim_inl,za7.k24];obtain ⟨res2,e2,hres2⟩:=look_second ht ho hv hF (nums (zbs [] rs) rs) h2 (by omega);rw [e2,zan];cases hr2:zgz o t.Suffixes t.Inputs.toNat t.Prefixes with
   | none =>
    rw [hr2] at hres2;subst hres2;exact ⟨v0,12,rfl,.inr (.inl ⟨h,rfl,.inr hr2⟩)⟩
   | some rss =>
    rw [hr2] at hres2;obtain ⟨m',h3⟩:=hres2;subst h3;refine ⟨_,0,rfl,.inr (.inr ⟨h,rfl,rs,rss,hr,hr2,rfl,?_,rfl⟩)⟩;exact (zud (fun x hx=>zfz.2 (Or.inr hx)) rss.flatten).symm
 ·rw [zkB h,zkD];exact ⟨_,_,rfl,.inl ⟨h,rfl⟩⟩
end
section
set_option maxRecDepth 100000
theorem zre {o:zab} {w:List Int}:∀ {S:List (List Int)},(∀ e∈S,ansO o (w++e)≠none)→∃ r,rowO o w S=some r
 | [],_=>⟨[],rfl⟩
 | e::S,h=>by
  obtain ⟨l,hl⟩:=zre (S:=S) fun e he=>h e (List.mem_cons_of_mem _ he);unfold rowO;cases ha:ansO o (w++e) with
  | none=>exact absurd ha (h e (by simp))
  | some r =>
   rw [hl];exact ⟨_,rfl⟩
theorem zoj {o:zab} {w:List Int}:∀ {S:List (List Int)} {r:Row},rowO o w S=some r→∀ e∈S,ansO o (w++e)≠none
 | [],_,_,e,he=>by cases he
 | u::S,r,h,e,he=>by
  unfold rowO at h;cases ha:ansO o (w++u) with
  | none=>rw [ha] at h;cases h
  | some x =>
   rw [ha] at h;obtain ⟨l,h1,_⟩:=Option.map_eq_some_iff.1 h;rcases List.mem_cons.1 he with rfl | he
   ·rw [ha];simp
   ·exact zoj h1 e he
def zj3 (t:zac) (o:zab):Prop:=∀ p∈t.Prefixes,∀ w∈zh6 t.Inputs.toNat p,∃ r,rowO o w t.Suffixes=some r
theorem zrh {t:zac} {o:zab}:zdv o t t.Prefixes=[]↔zj3 t o:=by
 constructor
 ·intro h p hp w hw;refine zre fun e he hn=>?_;have:w++e∈zdv o t t.Prefixes:=List.mem_flatMap.2 ⟨p,hp,List.mem_flatMap.2 ⟨w,hw,zg3.2 ⟨⟨e,he,rfl⟩,hn⟩⟩⟩;rw [h] at this;cases this
 ·intro h;refine List.eq_nil_iff_forall_not_mem.2 fun v hv=>?_;obtain ⟨p,hp,h2⟩:=List.mem_flatMap.1 hv;obtain ⟨w,hw,h3⟩:=List.mem_flatMap.1 h2;obtain ⟨⟨e,he,rfl⟩,hn⟩:=zg3.1 h3;obtain ⟨r,hr⟩:=h p hp w hw;exact zoj hr e he hn
theorem zta:∀ {l:List (List Int)},l≠[]→∃ y∈l,∀ z∈l,z.length≤y.length
 | [x],_=>⟨x,by simp,fun z hz=>by rw [List.mem_singleton.1 hz];exact Nat.le_refl _⟩
 | x::u::l,_=>by
  obtain ⟨y,hy,h⟩:=zta (l:=u::l) (by simp);by_cases h1:y.length≤x.length
  ·refine ⟨x,by simp,fun z hz=>?_⟩;rcases List.mem_cons.1 hz with rfl | hz
   ·exact Nat.le_refl _
   ·exact Nat.le_trans (h z hz) h1
  ·refine ⟨y,List.mem_cons_of_mem _ hy,fun z hz=>?_⟩;rcases List.mem_cons.1 hz with rfl | hz
   ·omega
   ·exact h z hz
theorem zks {l:List (List Int)}:maxR l=[]↔l=[]:=by
 constructor
 ·intro h;refine Classical.byContradiction fun hne=>?_;obtain ⟨y,hy,hmax⟩:=zta hne
  have:y∈maxR l:=(znc l y).2 ⟨hy,fun z hz=>by
   by_cases hp:y <+: z
   ·left
    have h1:=hmax z hz
    have h2:=hp.length_le
    exact (hp.eq_of_length (by omega)).symm
   ·exact Or.inr hp⟩
  rw [h] at this;cases this
 ·rintro rfl;rfl
def zi3 (t:zac) (o:zab):Int:=if chkT t o≠0 then chkT t o else if zdv o t t.Prefixes=[] then 0 else 12
theorem znm {t:zac} {o:zab} (ht:zev t) (ho:SmO o) (hv:zc2 o):zhp t o=some (zi3 t o):=by
 unfold zhp zi3;rw [zqe ht ho hv,zan];by_cases h:chkT t o=0
 ·rw [if_neg (by simpa using h),if_neg (by simpa using h)];by_cases hn:zdv o t t.Prefixes=[]
  ·rw [if_pos hn,hn];rfl
  ·rw [if_neg hn];have:maxR (zdv o t t.Prefixes)≠[]:=fun e=>hn (zks.1 e);have hl:0<(maxR (zdv o t t.Prefixes)).length:=List.length_pos_iff.2 this;rw [zkA (by simp),zkC,zkB (by simp only;omega),zkD]
 ·rw [if_pos h,if_pos h,zkB h,zkD]
structure zyg (t:zac) (o:zab) (v:zay):Prop where
 pl:v.prefixes.length=t.Prefixes.length
 nl:v.next.length=t.Prefixes.length
 pre:∀ (i:Nat) p,t.Prefixes[i]?=some p→∃ r,rowO o p t.Suffixes=some r∧r∈v.rows∧v.prefixes[i]?=some (↑(pos r v.rows):Int)
 nxt:∀ (i:Nat) p,t.Prefixes[i]?=some p→∃ l,v.next[i]?=some l∧l.length=t.Inputs.toNat∧∀ a,a<t.Inputs.toNat→∃ r,rowO o (p++[(↑a:Int)]) t.Suffixes=some r∧r∈v.rows∧l[a]?=some (↑(pos r v.rows):Int)
theorem look_view {t:zac} {o:zab} {v:zay} {e:Int} (h:LookSpec t o v e):e=zi3 t o∧(e=0→zyg t o v∧zj3 t o∧chkT t o=0):=by
 unfold zi3;rcases h with ⟨h1,rfl⟩ | ⟨h1,rfl,h2⟩ | ⟨h1,rfl,rs,rss,h2,h3,h4,h5,h6⟩
 ·exact ⟨by rw [if_pos h1],fun h=>absurd h h1⟩
 ·have hn:zdv o t t.Prefixes≠[]:=fun hn=>by
   have hA:=zrh.1 hn;rcases h2 with h2 | h2
   ·have:∀ (ps:List (List Int)),(∀ p∈ps,∃ r,rowO o p t.Suffixes=some r)→zhv o t.Suffixes ps≠none:=by
     intro ps
     induction ps with
     | nil=>intro _ h;cases h
     | cons p ps ih =>
      intro hp h;obtain ⟨r,hr⟩:=hp p (by simp);unfold zhv at h;rw [hr] at h;exact ih (fun q hq=>hp q (List.mem_cons_of_mem _ hq)) (by simpa using h)
    exact this _ (fun p hp=>hA p hp p (by simp [zh6])) h2
   ·have hone:∀ p∈t.Prefixes,zhv o t.Suffixes (exts t.Inputs.toNat p)≠none:=fun p hp=>by
     have:∀ (ps:List (List Int)),(∀ p∈ps,∃ r,rowO o p t.Suffixes=some r)→zhv o t.Suffixes ps≠none:=by
      intro ps
      induction ps with
      | nil=>intro _ h;cases h
      | cons p ps ih =>
       intro hp h;obtain ⟨r,hr⟩:=hp p (by simp);unfold zhv at h;rw [hr] at h;exact ih (fun q hq=>hp q (List.mem_cons_of_mem _ hq)) (by simpa using h)
     exact this _ fun w hw=>hA p hp w (List.mem_cons_of_mem _ hw)
    have:∀ (ps:List (List Int)),(∀ p∈ps,zhv o t.Suffixes (exts t.Inputs.toNat p)≠none)→zgz o t.Suffixes t.Inputs.toNat ps≠none:=by
     intro ps
     induction ps with
     | nil=>intro _ h;cases h
     | cons p ps ih =>
      intro hp h;unfold zgz at h;cases hr:zhv o t.Suffixes (exts t.Inputs.toNat p) with
      | none=>exact hp p (by simp) hr
      | some r =>
       rw [hr] at h;exact ih (fun q hq=>hp q (List.mem_cons_of_mem _ hq)) (by simpa using h)
    exact this _ hone h2
  exact ⟨by rw [if_neg (by simpa using h1),if_neg hn],fun h=>by cases h⟩
 ·have hP:=zi0 h2;have hE:=zl3 h3;have hmem1:∀ r∈rs,r∈v.rows:=fun r hr=>by rw [h4];exact zfz.2 (Or.inl (zfz.2 (Or.inr hr)))
  have hmem2:∀ l∈rss,∀ r∈l,r∈v.rows:=fun l hl r hr=>by rw [h4];exact zfz.2 (Or.inr (List.mem_flatten.2 ⟨l,hl,hr⟩))
  have hV:zyg t o v:=by
   refine ⟨by rw [h5];unfold nums;rw [zkK,hP.1],by rw [h6,zkK,hE.1],fun i p hp=>?_,fun i p hp=>?_⟩
   ·obtain ⟨r,hr1,hr2⟩:=hP.2 i p hp;refine ⟨r,hr2,hmem1 r (zkH hr1),?_⟩;rw [h5];unfold nums;rw [List.getElem?_map,hr1];rfl
   ·obtain ⟨l,hl1,hl2⟩:=hE.2 i p hp;have hL:=zi0 hl2;refine ⟨nums v.rows l,by rw [h6,List.getElem?_map,hl1];rfl,by unfold nums;rw [zkK,hL.1];simp [exts],fun a ha=>?_⟩
    have hx:(exts t.Inputs.toNat p)[a]?=some (p++[(↑a:Int)]):=by
     unfold exts;rw [List.getElem?_map,List.getElem?_range ha];rfl
    obtain ⟨r,hr1,hr2⟩:=hL.2 a _ hx;refine ⟨r,hr2,hmem2 l (zkH hl1) r (zkH hr1),?_⟩;unfold nums;rw [List.getElem?_map,hr1];rfl
  have hA:zj3 t o:=fun p hp w hw=>by
   obtain ⟨i,hi,rfl⟩:=List.mem_iff_getElem.1 hp;unfold zh6 at hw;rcases List.mem_cons.1 hw with rfl | hw
   ·obtain ⟨r,hr,_⟩:=hV.pre i _ (get_at hi);exact ⟨r,hr⟩
   ·obtain ⟨a,ha,rfl⟩:=List.mem_map.1 hw;obtain ⟨l,_,_,h7⟩:=hV.nxt i _ (get_at hi);obtain ⟨r,hr,_⟩:=h7 a (List.mem_range.1 ha);exact ⟨r,hr⟩
  exact ⟨by rw [if_neg (by simpa using h1),if_pos (zrh.2 hA)],fun _=>⟨hV,hA,h1⟩⟩
theorem zez {t:zac} (h:zdn t=0):1≤t.Inputs∧t.Inputs≤64∧Asc t.Prefixes∧Asc t.Suffixes∧(∀ a∈List.range t.Inputs.toNat,[(↑a:Int)]∈t.Suffixes)∧scan (preG t fun w=>decide (w∈t.Prefixes)) 0 t.Prefixes=none∧scan (sufG t) 0 t.Suffixes=none∧t.Prefixes≠[]:=by
 unfold zdn at h;split at h
 ·cases h
 ·rename_i h1;split at h
  ·cases h
  ·rename_i h2;split at h
   ·cases h
   ·cases e1:scan (preG t fun w=>decide (w∈t.Prefixes)) 0 t.Prefixes with
    | some e =>
     exfalso;rw [e1] at h;simp only at h;subst h
     have key:∀ (l:List (List Int)) (j:Nat),scan (preG t fun w=>decide (w∈t.Prefixes)) j l≠some 0:=by
      intro l
      induction l with
      | nil=>intro j h;cases h
      | cons x l ih =>
       intro j h;unfold scan at h;split at h
       ·rename_i r' h3;injection h with h
        subst h;unfold preG at h3;split at h3
        ·rename_i h4;injection h3 with h3
         exact h4 h3
        ·split at h3
         ·cases h3
         ·split at h3
          ·cases h3
          ·cases h3
       ·exact ih _ h
     exact key _ _ e1
    | none =>
     rw [e1] at h;cases e2:scan (sufG t) 0 t.Suffixes with
     | some e =>
      exfalso;rw [e2] at h;simp only at h;subst h
      have key:∀ (l:List (List Int)) (j:Nat),scan (sufG t) j l≠some 0:=by
       intro l
       induction l with
       | nil=>intro j h;cases h
       | cons x l ih =>
        intro j h;unfold scan at h;split at h
        ·rename_i r' h3;injection h with h
         subst h;unfold sufG at h3;split at h3
         ·rename_i h4;injection h3 with h3
          exact h4 h3
         ·split at h3
          ·cases h3
          ·split at h3
           ·cases h3
           ·cases h3
        ·exact ih _ h
      exact key _ _ e2
     | none =>
      rw [e2] at h;simp only at h;split at h
      ·rename_i h5;refine ⟨by omega,by omega,zui fun i w hw=>?_,(zut e2).1,h5,rfl,rfl,fun e=>h2 (by rw [e];rfl)⟩;have:=zd5.1 e1 i w hw;rw [Nat.zero_add] at this;unfold preG at this;split at this
       ·cases this
       ·split at this
        ·cases this
        ·rename_i h6;cases hpv:zfx t.Prefixes i w with
         | true=>rfl
         | false=>exact absurd (Or.inr hpv) h6
      ·cases h
theorem lex_snoc {a b:Int}:∀ {p q:List Int},p.length=q.length→lexI p q=-1→lexI (p++[a]) (q++[b])=-1
 | [],[],_,h=>by simp [lexI] at h
 | [],_::_,h,_=>by simp at h
 | _::_,[],h,_=>by simp at h
 | x::p,y::q,hl,h=>by
  simp only [lexI,List.cons_append] at h ⊢;by_cases h1:x<y
  ·rw [if_pos h1]
  ·rw [if_neg h1] at h ⊢;by_cases h2:y<x
   ·rw [if_pos h2] at h;cases h
   ·rw [if_neg h2] at h ⊢;exact lex_snoc (by simpa using hl) h
theorem cmp_snoc {p q:List Int} {a b:Int} (h:cmpW p q=-1):cmpW (p++[a]) (q++[b])=-1:=by
 unfold cmpW at h ⊢;rw [zkJ,zkJ];simp only [List.length_singleton];by_cases h1:p.length<q.length
 ·rw [if_pos (by omega)]
 ·rw [if_neg h1] at h;by_cases h2:q.length<p.length
  ·rw [if_pos h2] at h;cases h
  ·rw [if_neg h2] at h;rw [if_neg (by omega),if_neg (by omega)];exact lex_snoc (by omega) h
theorem cmp_same {p:List Int} {a b:Int} (h:a<b):cmpW (p++[a]) (p++[b])=-1:=by
 unfold cmpW;rw [zkJ,zkJ];simp only [List.length_singleton,Nat.lt_irrefl,if_false]
 induction p with
 | nil=>simp [lexI,h]
 | cons x p ih =>
  simp only [List.cons_append,lexI,Int.lt_irrefl,if_false];exact ih
theorem extL_asc {t:zac} (h:Asc t.Prefixes):Asc (extL t):=by
 unfold extL Asc at *;rw [List.pairwise_flatMap];refine ⟨fun p _=>?_,h.imp fun {p q} hpq x hx y hy=>?_⟩
 ·rw [List.pairwise_map];exact (List.pairwise_lt_range (n:=t.Inputs.toNat)).imp fun {a b} hab=>cmp_same (by omega)
 ·obtain ⟨a,_,rfl⟩:=List.mem_map.1 hx;obtain ⟨b,_,rfl⟩:=List.mem_map.1 hy;exact cmp_snoc hpq
theorem zf8 {l:List (List Int)} (h:Asc l):sortW l=l:=zpn (zet l) h fun x=>zdd l x
def newRow (t:zac) (o:zab) (w:List Int):Bool:=decide (rowO o w t.Suffixes∉t.Prefixes.map fun p=>rowO o p t.Suffixes)
def unclT (t:zac) (o:zab):List Int×Bool×Int:=if zi3 t o≠0 then ([],false,zi3 t o) else match (extL t).find? (newRow t o) with | none=>([],false,0) | some w=>(w,true,0)
theorem contains_eq {l:List Int} {x:Int} (hl:l.length≤2000000):zdk l x=some (decide (x∈l)):=by
 unfold zdk zbx
 have key:=zbq (step:=fun s=>zbx.s2 l x s) (fun k=>k≤l.length∧x∉l.take k) (fun k=>l.length-k) (fun r=>match r with | .inl ()=>x∉l | .inr n=>0≤n∧x∈l) (fun k ⟨g1,g2⟩=>by
  simp only [zbx.s2]
  by_cases g3:k<l.length
  ·have hx:=get_at g3
   rw [zbw hx,zkD,zaq hx]
   by_cases e:x=l[k]
   ·right
    exact ⟨.inr (k:Int),by rw [zkB e,zkD],by omega,by rw [e];exact List.getElem_mem _⟩
   ·left
    refine ⟨k+1,by rw [zkA e,zkC],⟨g3,?_⟩,by omega⟩
    rw [zbp hx]
    exact fun h=>(List.mem_append.1 h).elim g2 fun h=>e (List.mem_singleton.1 h)
  ·right
   rw [List.take_of_length_le (by omega)] at g2
   exact ⟨.inl (),by rw [zkA (by omega),zkC],g2⟩) fuel 0 ⟨Nat.zero_le _,by simp⟩ (by have:=za4;omega)
 obtain ⟨r,e,hq⟩:=key;rw [e,zan];cases r with
 | inl u =>
  have hq:x∉l:=hq;simp only [Sum.elim_inl];rw [zan,zkA hq];rfl
 | inr n =>
  have hq:0≤n∧x∈l:=hq;simp only [Sum.elim_inr];rw [zan,zkB hq.1,zkB hq.2]
theorem view_has {t:zac} {o:zab} {v:zay} (hV:zyg t o v) {r:Row} {w:List Int} (hr:rowO o w t.Suffixes=some r) (hm:r∈v.rows):((↑(pos r v.rows):Int)∈v.prefixes)↔newRow t o w=false:=by
 unfold newRow;rw [decide_eq_false_iff_not,Classical.not_not,hr,List.mem_map];constructor
 ·intro h;obtain ⟨i,hi,e⟩:=List.mem_iff_getElem.1 h;have hp:=get_at (l:=t.Prefixes) (i:=i) (by rw [← hV.pl];exact hi);obtain ⟨r',h1,h2,h3⟩:=hV.pre i _ hp;rw [get_at hi,e] at h3;injection h3 with h3
  have h4:=pos_inj hm h2 (by omega);exact ⟨_,List.getElem_mem _,by rw [h1,h4]⟩
 ·rintro ⟨p,hp,h⟩;obtain ⟨i,hi,rfl⟩:=List.mem_iff_getElem.1 hp;obtain ⟨r',h1,h2,h3⟩:=hV.pre i _ (get_at hi);rw [h1] at h;injection h with h
  subst h;exact zkH h3
theorem ztx {t:zac} {o:zab} {v:zay} (ht:zev t) (hV:zyg t o v):∃ i a b,za5 v=some (i,a,b) ∧
  match (extL t).find? (newRow t o) with
  | none=>b=false
  | some w=>b=true∧∃ (k:Nat) (p:List Int),i=(k:Int)∧t.Prefixes[k]?=some p∧w=p++[a]:=by
 have hn:=ht.n;have hp:=ht.p;unfold za5
 have key:=zbq (step:=fun s=>za5.s14 v s) (fun k=>k≤t.Prefixes.length∧((t.Prefixes.take k).flatMap (exts t.Inputs.toNat)).find? (newRow t o)=none) (fun k=>t.Prefixes.length-k)
  (fun r=>match r with | .inl ()=>(extL t).find? (newRow t o)=none | .inr x=>x.2.2=true∧∃ w,(extL t).find? (newRow t o)=some w∧∃ (k:Nat) (p:List Int),x.1=(k:Int)∧t.Prefixes[k]?=some p∧w=p++[x.2.1]) (fun k ⟨g1,g2⟩=>by
   simp only [za5.s14]
   rw [hV.nl]
   by_cases g3:k<t.Prefixes.length
   ·have hx:=get_at g3
    obtain ⟨l,hl1,hl2,hl3⟩:=hV.nxt k _ hx
    rw [zkB (by omega),zkD,zaq hl1]
    have hsplit:extL t=(t.Prefixes.take k).flatMap (exts t.Inputs.toNat)++(exts t.Inputs.toNat t.Prefixes[k]++(t.Prefixes.drop (k+1)).flatMap (exts t.Inputs.toNat)):=by
     have h1:t.Prefixes=t.Prefixes.take k++t.Prefixes[k]::t.Prefixes.drop (k+1):=by
      rw [← List.drop_eq_getElem_cons g3,List.take_append_drop]
     have h2:extL t=t.Prefixes.flatMap (exts t.Inputs.toNat):=rfl
     rw [h2]
     conv=>lhs;rw [h1]
     rw [List.flatMap_append,List.flatMap_cons]
    have inner:=zbq (step:=fun s=>za5.s13 v k l s) (fun a=>a≤t.Inputs.toNat∧(exts a t.Prefixes[k]).find? (newRow t o)=none) (fun a=>t.Inputs.toNat-a)
     (fun r=>match r with | .inl ()=>(exts t.Inputs.toNat t.Prefixes[k]).find? (newRow t o)=none | .inr x=>∃ a:Nat,x=.inr (.inr ((k:Int),(a:Int),true))∧(exts t.Inputs.toNat t.Prefixes[k]).find? (newRow t o)=some (t.Prefixes[k]++[(↑a:Int)])) (fun a ⟨q1,q2⟩=>by
      simp only [za5.s13]
      rw [hl2]
      by_cases q3:a<t.Inputs.toNat
      ·obtain ⟨r,hr1,hr2,hr3⟩:=hl3 a q3
       have hst:exts (a+1) t.Prefixes[k]=exts a t.Prefixes[k]++[t.Prefixes[k]++[(↑a:Int)]]:=by simp [exts,List.range_succ]
       have hiff:=view_has hV hr1 hr2
       rw [zkB (by omega),zkD,zaq hr3,contains_eq (by rw [hV.pl];omega),zan]
       cases hnw:newRow t o (t.Prefixes[k]++[(↑a:Int)]) with
       | true =>
        right
        have hno:¬ (↑(pos r v.rows):Int)∈v.prefixes:=fun h=>by
         have:=hiff.1 h
         rw [hnw] at this
         cases this
        refine ⟨.inr (.inr (.inr ((k:Int),(a:Int),true))),by rw [zkA hno];rfl,a,rfl,?_⟩
        have hfull:exts t.Inputs.toNat t.Prefixes[k]=exts a t.Prefixes[k]++((t.Prefixes[k]++[(↑a:Int)])::((List.range' (a+1) (t.Inputs.toNat-(a+1))).map fun (b:Nat)=>t.Prefixes[k]++[(↑b:Int)])):=by
         have h1:List.range t.Inputs.toNat=List.range a++a::List.range' (a+1) (t.Inputs.toNat-(a+1)):=by
          rw [List.range_eq_range',List.range_eq_range',← List.range'_succ,show t.Inputs.toNat-(a+1)+1=t.Inputs.toNat-a by omega]
          have:=List.range'_append_1 (s:=0) (m:=a) (n:=t.Inputs.toNat-a)
          rw [Nat.zero_add,show a+(t.Inputs.toNat-a)=t.Inputs.toNat by omega] at this
          exact this.symm
         unfold exts
         rw [h1,List.map_append,List.map_cons]
        rw [hfull,List.find?_append,q2,List.find?_cons_of_pos (by rw [hnw])]
        rfl
       | false =>
        left
        refine ⟨a+1,by rw [zkB (hiff.2 hnw)];rfl,⟨q3,?_⟩,by omega⟩
        rw [hst,List.find?_append,q2,List.find?_cons_of_neg (by rw [hnw];simp)]
        rfl
      ·right
       have e:a=t.Inputs.toNat:=by omega
       subst e
       exact ⟨.inl (),by rw [zkA (by omega),zkC],q2⟩) fuel 0 ⟨Nat.zero_le _,rfl⟩ (by have:=za4;omega)
    obtain ⟨r,e,hq⟩:=inner
    rw [e,zan]
    cases r with
    | inl u =>
     have hq:(exts t.Inputs.toNat t.Prefixes[k]).find? (newRow t o)=none:=hq
     left
     refine ⟨k+1,rfl,⟨g3,?_⟩,by omega⟩
     rw [zbp hx,List.flatMap_append,List.find?_append,g2]
     simp [hq]
    | inr x =>
     right
     obtain ⟨a,rfl,h2⟩:=hq
     refine ⟨.inr ((k:Int),(a:Int),true),rfl,rfl,t.Prefixes[k]++[(↑a:Int)],?_,k,_,rfl,hx,rfl⟩
     rw [hsplit,List.find?_append,g2,List.find?_append,h2]
     rfl
   ·right
    have e:k=t.Prefixes.length:=by omega
    subst e
    rw [List.take_length] at g2
    exact ⟨.inl (),by rw [zkA (by omega),zkC],g2⟩) fuel 0 ⟨Nat.zero_le _,rfl⟩ (by have:=za4;omega)
 obtain ⟨r,e,hq⟩:=key;rw [e,zan];cases r with
 | inl u =>
  have hq:(extL t).find? (newRow t o)=none:=hq;refine ⟨0,0,false,rfl,?_⟩;rw [hq]
 | inr x =>
  obtain ⟨h1,w,h2,h3⟩:=hq;obtain ⟨i,a,b⟩:=x;refine ⟨i,a,b,rfl,?_⟩;rw [h2];exact ⟨h1,h3⟩
theorem zr5 {t:zac} {o:zab} (ht:zev t) (ho:SmO o) (hv:zc2 o):zg5 t o=some (unclT t o):=by
 obtain ⟨v,e,h1,h2⟩:=zqr ht ho hv;obtain ⟨h3,h4⟩:=look_view h2;unfold zg5 unclT;rw [h1,zan];simp only;rw [h3] at h4 ⊢;by_cases h:zi3 t o=0
 ·obtain ⟨hV,_,_⟩:=h4 h;obtain ⟨i,a,b,h5,h6⟩:=ztx ht hV;rw [zkA (by simpa using h),zkC,if_neg (by simpa using h),h5,zan];cases hf:(extL t).find? (newRow t o) with
  | none =>
   rw [hf] at h6;subst h6;rfl
  | some w =>
   rw [hf] at h6;obtain ⟨rfl,k,p,rfl,hp,rfl⟩:=h6;simp only [Bool.not_true,zkC];rw [zb2 rfl hp,zim (ht.sm.2.1.2 p (zkH hp)),zan]
 ·rw [zkB h,zkD,if_pos h]
theorem R23_find_eq {t:zac} {o:zab} {w:List Int} (ht:zev t) (ho:SmO o) (hv:zc2 o) (hA:zj3 t o) {r:Row} (hw:SmW w) (hr:rowO o w t.Suffixes=some r) :
  ∃ n,zhd t o w=some n∧((n<0↔newRow t o w=true)∧∀ k:Nat,n=(k:Int)→(∃ p,t.Prefixes[k]?=some p∧rowO o p t.Suffixes=some r)∧∀ j p,j<k→t.Prefixes[j]?=some p→rowO o p t.Suffixes≠some r):=by
 have hS:=ht.sm.2.2.1;have hp:=ht.p;unfold zhd;rw [zju ho hv hS hw,zan,hr]
 have key:=zbq (step:=fun s=>zhd.s2 t o (tw (some r)) s) (fun k=>k≤t.Prefixes.length∧∀ j p,j<k→t.Prefixes[j]?=some p→rowO o p t.Suffixes≠some r) (fun k=>t.Prefixes.length-k)
  (fun x=>match x with | .inl ()=>∀ p∈t.Prefixes,rowO o p t.Suffixes≠some r | .inr n=>∃ k:Nat,n=(k:Int)∧(∃ p,t.Prefixes[k]?=some p∧rowO o p t.Suffixes=some r)∧∀ j p,j<k→t.Prefixes[j]?=some p→rowO o p t.Suffixes≠some r) (fun k ⟨g1,g2⟩=>by
   simp only [zhd.s2]
   by_cases g3:k<t.Prefixes.length
   ·have hx:=get_at g3
    have hxm:SmW t.Prefixes[k]:=ht.sm.2.1.2 _ (List.getElem_mem _)
    obtain ⟨q,hq⟩:=hA _ (List.getElem_mem g3) _ (by simp [zh6]:t.Prefixes[k]∈zh6 t.Inputs.toNat t.Prefixes[k])
    have hqs:=zl7 hv ht hq
    rw [zbw hx,zkD,zaq hx,zju ho hv hS hxm,zan,hq]
    simp only [tw]
    rw [ztj q r (by have:=hqs.1;omega) (fun x hx=>by have:=(hqs.2 x hx).1;omega),zan]
    by_cases e:q=r
    ·right
     subst e
     refine ⟨.inr (k:Int),by rw [zkB rfl,zkD],k,rfl,⟨_,hx,hq⟩,g2⟩
    ·left
     refine ⟨k+1,by rw [zkA e,zkC],⟨g3,fun j p hj hpj=>?_⟩,by omega⟩
     rcases Nat.lt_or_ge j k with h | h
     ·exact g2 j p h hpj
     ·have ej:j=k:=by omega
      subst ej
      rw [hx] at hpj
      injection hpj with hpj
      subst hpj
      rw [hq]
      simpa using e
   ·right
    refine ⟨.inl (),by rw [zkA (by omega),zkC],fun p hpm=>?_⟩
    obtain ⟨j,hj,rfl⟩:=List.mem_iff_getElem.1 hpm
    exact g2 j _ (by omega) (get_at hj)) fuel 0 ⟨Nat.zero_le _,fun j p h=>by omega⟩ (by have:=za4;omega)
 obtain ⟨x,e,hq⟩:=key;rw [e,zan];cases x with
 | inl u =>
  have hq:∀ p∈t.Prefixes,rowO o p t.Suffixes≠some r:=hq;refine ⟨-1,rfl,⟨fun _=>?_,fun _=>by decide⟩,fun k hk=>by omega⟩;unfold newRow;rw [hr]
  exact zkB fun h=>by
   obtain ⟨p,hp,h2⟩:=List.mem_map.1 h;exact hq p hp h2
 | inr n =>
  obtain ⟨k,rfl,⟨p,hp1,hp2⟩,h3⟩:=hq;refine ⟨k,rfl,⟨fun h=>by omega,fun h=>?_⟩,fun k' hk=>?_⟩
  ·unfold newRow at h;rw [hr] at h;exact absurd (List.mem_map.2 ⟨p,zkH hp1,hp2⟩) (of_decide_eq_true h)
  ·have:k'=k:=by omega
   subst this;exact ⟨⟨p,hp1,hp2⟩,h3⟩
theorem zvh {t:zac} {o:zab} (ht:zev t) (ho:SmO o) (hv:zc2 o):zdf t o=some (unclT t o):=by
 unfold zdf unclT;rw [znm ht ho hv,zan];by_cases h:zi3 t o=0
 ·rw [zkA (by simpa using h),zkC,if_neg (by simpa using h)]
  have hc:chkT t o=0∧zj3 t o:=by
   unfold zi3 at h;split at h
   ·rename_i h1;exact absurd h h1
   ·rename_i h1;split at h
    ·rename_i h2;exact ⟨by simpa using h1,zrh.1 h2⟩
    ·cases h
  have hval:zdn t=0:=by
   have:=hc.1;unfold chkT at this;split at this
   ·rename_i h1;exact absurd this h1
   ·rename_i h1;simpa using h1
  obtain ⟨_,_,hAp,_⟩:=zez hval;obtain ⟨hE1,hE2⟩:=zlt ht;have hE3:(extL t).length≤2000000:=hE2.1;rw [hE1,zan,zf8 (extL_asc hAp)]
  have key:=zce (step:=fun s=>zdf.s2 t o (extL t) s) (l:=extL t) (fun _ w=>if newRow t o w=true then some (w,true,(0:Int)) else none) (fun i w hw=>by
   have hwm:=zkH hw
   obtain ⟨p,hpm,h2⟩:=List.mem_flatMap.1 hwm
   obtain ⟨r,hr⟩:=hc.2 p hpm w (List.mem_cons_of_mem _ h2)
   obtain ⟨n,h3,h4,_⟩:=R23_find_eq ht ho hv hc.2 (hE2.2 w hwm) hr
   simp only [zdf.s2]
   rw [zbw hw,zkD,zaq hw,h3,zan]
   by_cases hn:n<0
   ·rw [zkB hn,zkD,zaq hw,if_pos (h4.1 hn)]
   ·rw [zkA hn,zkC,if_neg (fun h=>hn (h4.2 h))]) (by
   simp only [zdf.s2]
   rw [zcr]
   rfl) (by omega)
  rw [key,zan]
  have key2:∀ (l:List (List Int)) (j:Nat),scan (fun _ w=>if newRow t o w=true then some (w,true,(0:Int)) else none) j l=(l.find? (newRow t o)).map fun w=>(w,true,(0:Int)):=by
   intro l
   induction l with
   | nil=>intro j;rfl
   | cons w l ih =>
    intro j;unfold scan;by_cases h:newRow t o w=true
    ·rw [if_pos h,List.find?_cons_of_pos h];rfl
    ·rw [if_neg h,List.find?_cons_of_neg h];exact ih _
  rw [key2];cases (extL t).find? (newRow t o)<;>rfl
 ·rw [zkB h,zkD,if_pos h]
end
section
set_option maxRecDepth 100000
section
variable {α R T:Type}
theorem zku {g:Nat→α→Option R} {f:R→T}:∀ (l:List α) (j:Nat),scan (fun i x=>(g i x).map f) j l=(scan g j l).map f
 | [],_=>rfl
 | x::l,j=>by
  unfold scan;cases g j x with
  | some r=>rfl
  | none=>exact zku l (j+1)
theorem elim_l {α β γ:Type} {f:α→γ} {g:β→γ} {a:α}:Sum.elim f g (Sum.inl a)=f a:=(Sum.elim_inl f g a).trans (Eq.trans rfl rfl)
theorem ztf {step:Nat→Option (Nat⊕(Unit⊕R))} {l:List α} (g:Nat→α→Option R) (j:Nat) (hj:j≤l.length) (h1:∀ i x,j≤i→l[i]?=some x→step i=some (match g i x with | some r=>.inr (.inr r) | none=>.inl (i+1))) (h2:step l.length=some (.inr (.inl ()))) (hl:l.length≤100000000000000) :
  iter step fuel j=some (match scan g j (l.drop j) with | some r=>.inr r | none=>.inl ()):=by
 have key:∀ (n i:Nat),j≤i→i≤l.length→l.length-i<n→iter step n i=some (match scan g i (l.drop i) with | some r=>.inr r | none=>.inl ()):=by
  intro n
  induction n with
  | zero=>intro i _ _ h;omega
  | succ n ih =>
   intro i hji hi hn;rcases Nat.lt_or_ge i l.length with h | h
   ·rw [List.drop_eq_getElem_cons h];unfold iter scan;rw [h1 i _ hji (zkM h)];cases g i l[i] with
    | some r=>rfl
    | none=>exact ih (i+1) (by omega) h (by omega)
   ·have e:i=l.length:=by omega
    subst e;rw [List.drop_length];unfold iter scan;rw [h2]
 exact key fuel j (Nat.le_refl _) hj (by have:=za4;omega)
end
def rowG (t:zac) (o:zab) (w:List Int):Row:=(rowO o w t.Suffixes).getD []
def dP (a:Nat) (x y:Row):Option (Int×Int×Bool):=scan (fun e u=>if y[e]?=some u then none else some ((↑a:Int),(↑e:Int),true)) 0 x
def pP (t:zac) (o:zab) (p q:List Int):Option (Int×Int×Bool):=scan (fun _ (a:Nat)=>dP a (rowG t o (p++[(↑a:Int)])) (rowG t o (q++[(↑a:Int)]))) 0 (List.range t.Inputs.toNat)
def iP (t:zac) (o:zab):Option (Int×Int×Bool):=scan (fun i p=>scan (fun _ q=>if rowO o p t.Suffixes=rowO o q t.Suffixes then pP t o p q else none) (i+1) (t.Prefixes.drop (i+1))) 0 t.Prefixes
def toW (t:zac) (x:Int×Int×Bool):List Int:=x.1::(t.Suffixes[x.2.1.toNat]?).getD []
def incT (t:zac) (o:zab):List Int×Bool×Int:=if zi3 t o≠0 then ([],false,zi3 t o) else match iP t o with | none=>([],false,0) | some x=>(toW t x,true,0)
theorem zgg (a b:List Int) (hl:a.length≤100000000000000):za8 a b=some (decide (a=b)):=by
 unfold za8;by_cases hlen:a.length=b.length
 ·rw [zkA (by omega),zkC];refine zra hlen (fun i x y hx hy=>?_) ?_ hl
  ·simp only [za8.s2];rw [zbw hx,zkD,zaq hx,zaq hy];by_cases h:x=y<;>simp [h]
  ·simp only [za8.s2];rw [zcr];rfl
 ·rw [zkB (by omega),zkD];have:a≠b:=fun h=>hlen (by rw [h]);simp [this]
theorem zg8 {α R:Type} {g:Nat→α→Option R} {Q:R→Prop}:∀ {l:List α} {j:Nat} {r:R},scan g j l=some r→(∀ i x r,l[i]?=some x→g (j+i) x=some r→Q r)→Q r
 | [],_,_,h,_=>by cases h
 | x::l,j,r,h,hQ=>by
  unfold scan at h;cases e:g j x with
  | some r' =>
   rw [e] at h;injection h with h
   subst h;exact hQ 0 x _ rfl (by simpa using e)
  | none =>
   rw [e] at h;exact zg8 h fun i y r hy hg=>hQ (i+1) y r (by simpa using hy) (by rw [show j+(i+1)=j+1+i by omega];exact hg)
def zws (x y:Row):Prop:=x.length=y.length∧RowSm x∧RowSm y
theorem dP_prog {a:Nat} {x y:Row} (h:zws x y):iter (fun s=>zag.s1019 a x y s) fuel 0=some (match (dP a x y).map fun r=>(.inr (.inr (.inr (.inr (.inr (.inr (.inr r)))))):Nat⊕(Unit⊕(Unit⊕(Nat⊕(Unit⊕(Nat⊕(Unit⊕(Int×Int×Bool)))))))) with | some r=>.inr r | none=>.inl ()):=by
 obtain ⟨h1,h2,h3⟩:=h;have hx0:=h2.1
 have key:=zce (step:=fun s=>zag.s1019 a x y s) (l:=x) (fun e u=>(if y[e]?=some u then none else some ((↑a:Int),(↑e:Int),true)).map fun r=>(.inr (.inr (.inr (.inr (.inr (.inr (.inr r)))))):Nat⊕(Unit⊕(Unit⊕(Nat⊕(Unit⊕(Nat⊕(Unit⊕(Int×Int×Bool))))))))) (fun e u hu=>by
  have he:=(zkI.1 hu).1
  have hw:=get_at (l:=y) (i:=e) (by omega)
  have hus:=(h2.2 u (zkH hu)).1
  simp only [zag.s1019]
  rw [zbw hu,zkD,zaq hu,zaq hw,zgg _ _ (by omega),zan]
  by_cases h4:u=y[e]'(by omega)
  ·rw [zkB h4,if_pos (by rw [hw,h4])]
   rfl
  ·rw [zkA h4,if_neg (fun h=>h4 (by rw [hw] at h;injection h with h;exact h.symm))]
   rfl) (by
  simp only [zag.s1019]
  rw [zcr]
  rfl) (by omega)
 rw [key,zku];unfold dP;cases scan (fun e u=>if y[e]?=some u then none else some ((↑a:Int),(↑e:Int),true)) 0 x<;>rfl
theorem zh5 {t:zac} {o:zab} {w:List Int} {r:Row} (h:rowO o w t.Suffixes=some r):rowG t o w=r:=by unfold rowG;rw [h];rfl
theorem zx8 {t:zac} {o:zab} (ht:zev t) (hv:zc2 o) {u w:List Int} {x y:Row} (hx:rowO o u t.Suffixes=some x) (hy:rowO o w t.Suffixes=some y):zws x y :=
 ⟨by rw [(zgp hv hx).1,(zgp hv hy).1],zl7 hv ht hx,zl7 hv ht hy⟩
theorem pP_prog {t:zac} {o:zab} {v:zay} (ht:zev t) (hv:zc2 o) (hV:zyg t o v) {i k:Nat} {p q:List Int} (hp:t.Prefixes[i]?=some p) (hq:t.Prefixes[k]?=some q) {l:List Int} (hl:v.next[i]?=some l) :
  iter (fun s=>zag.s1020 v i k l s) fuel 0=some (match (pP t o p q).map fun r=>(.inr (.inr (.inr (.inr (.inr r)))):Unit⊕(Nat⊕(Unit⊕(Nat⊕(Unit⊕(Int×Int×Bool)))))) with | some r=>.inr r | none=>.inl ()):=by
 have hn:=ht.n;obtain ⟨l1,g1,g2,g3⟩:=hV.nxt i p hp;rw [hl] at g1;injection g1 with g1
 subst g1;obtain ⟨l2,f1,f2,f3⟩:=hV.nxt k q hq
 have key:=zce (step:=fun s=>zag.s1020 v i k l s) (l:=List.range t.Inputs.toNat) (fun _ (a:Nat)=>(dP a (rowG t o (p++[(↑a:Int)])) (rowG t o (q++[(↑a:Int)]))).map fun r=>(.inr (.inr (.inr (.inr (.inr r)))):Unit⊕(Nat⊕(Unit⊕(Nat⊕(Unit⊕(Int×Int×Bool))))))) (fun a a' ha=>by
  have han:a<t.Inputs.toNat:=by
   have:=(zkI.1 ha).1
   simpa using this
  rw [List.getElem?_range han] at ha
  injection ha with ha
  subst ha
  obtain ⟨x,x1,x2,x3⟩:=g3 a han
  obtain ⟨y,y1,y2,y3⟩:=f3 a han
  simp only [zag.s1020]
  rw [g2,zkB (by omega),zkD,zaq hl,zaq x3,zb2 rfl (zn6 x2),zaq f1,zaq y3,zb2 rfl (zn6 y2),dP_prog (zx8 ht hv x1 y1),zan,zh5 x1,zh5 y1]
  cases dP a x y with
  | some r=>rfl
  | none =>
   show Sum.elim _ _ (Sum.inl ())=_
   rw [elim_l,zav (by unfold inR;omega)]
   rfl) (by
  simp only [zag.s1020]
  rw [g2,List.length_range,zkA (by omega)]
  rfl) (by simp;omega)
 rw [key,zku];unfold pP;cases scan (fun _ (a:Nat)=>dP a (rowG t o (p++[(↑a:Int)])) (rowG t o (q++[(↑a:Int)]))) 0 (List.range t.Inputs.toNat)<;>rfl
theorem iP_prog {t:zac} {o:zab} {v:zay} (ht:zev t) (hv:zc2 o) (hV:zyg t o v):zag v=some (match iP t o with | some r=>r | none=>(0,0,false)):=by
 have hpl:=ht.p;unfold zag
 have outer:=zce (step:=fun s=>zag.s1022 v s) (l:=t.Prefixes) (fun i p=>scan (fun _ q=>if rowO o p t.Suffixes=rowO o q t.Suffixes then pP t o p q else none) (i+1) (t.Prefixes.drop (i+1))) (fun i p hp=>by
  have hi:=(zkI.1 hp).1
  obtain ⟨r,r1,r2,r3⟩:=hV.pre i p hp
  obtain ⟨l,l1,l2,l3⟩:=hV.nxt i p hp
  have inner:=ztf (step:=fun s=>zag.s1021 v i (↑(pos r v.rows):Int) s) (l:=t.Prefixes) (fun _ q=>(if rowO o p t.Suffixes=rowO o q t.Suffixes then pP t o p q else none).map fun r=>(.inr (.inr r):Nat⊕(Unit⊕(Int×Int×Bool)))) (i+1) (by omega) (fun k q _ hq=>by
   have hk:=(zkI.1 hq).1
   obtain ⟨s,s1,s2,s3⟩:=hV.pre k q hq
   simp only [zag.s1021]
   rw [hV.pl,zkB (by omega),zkD,zaq s3]
   by_cases h:r=s
   ·subst h
    rw [zkA (by simp),zkC,zaq l1,pP_prog ht hv hV hp hq l1,zan,if_pos (by rw [r1,s1])]
    cases pP t o p q<;>rfl
   ·have h2:¬ (↑(pos s v.rows):Int)=↑(pos r v.rows):=fun e=>h (pos_inj r2 s2 (by omega))
    rw [zkB h2,zkD,if_neg (by rw [r1,s1];simpa using h)]
    rfl) (by
   simp only [zag.s1021]
   rw [hV.pl,zkA (by omega),zkC]) (by omega)
  simp only [zag.s1022]
  rw [hV.pl,zkB (by omega),zkD,zaq r3,inner,zan,zku]
  cases scan (fun _ q=>if rowO o p t.Suffixes=rowO o q t.Suffixes then pP t o p q else none) (i+1) (t.Prefixes.drop (i+1))<;>rfl) (by
  simp only [zag.s1022]
  rw [hV.pl,zkA (by omega),zkC]) (by omega)
 rw [outer,zan];unfold iP;cases scan (fun i p=>scan (fun _ q=>if rowO o p t.Suffixes=rowO o q t.Suffixes then pP t o p q else none) (i+1) (t.Prefixes.drop (i+1))) 0 t.Prefixes<;>rfl
theorem iP_range {t:zac} {o:zab} (hv:zc2 o) (hA:zj3 t o) {x:Int×Int×Bool} (h:iP t o=some x):x.2.2=true∧∃ a e:Nat,x.1=(a:Int)∧x.2.1=(e:Int)∧a<t.Inputs.toNat∧e<t.Suffixes.length:=by
 refine zg8 (Q:=fun x=>x.2.2=true∧∃ a e:Nat,x.1=(a:Int)∧x.2.1=(e:Int)∧a<t.Inputs.toNat∧e<t.Suffixes.length) h fun i p r hp hr=>?_;refine zg8 (Q:=fun x=>x.2.2=true∧∃ a e:Nat,x.1=(a:Int)∧x.2.1=(e:Int)∧a<t.Inputs.toNat∧e<t.Suffixes.length) hr fun k q r hq hr=>?_;split at hr
 ·refine zg8 (Q:=fun x=>x.2.2=true∧∃ a e:Nat,x.1=(a:Int)∧x.2.1=(e:Int)∧a<t.Inputs.toNat∧e<t.Suffixes.length) hr fun a a' r ha hr=>?_
  have han:a<t.Inputs.toNat:=by
   have:=(zkI.1 ha).1;simpa using this
  rw [List.getElem?_range han] at ha;injection ha with ha
  subst ha;refine zg8 (Q:=fun x=>x.2.2=true∧∃ a e:Nat,x.1=(a:Int)∧x.2.1=(e:Int)∧a<t.Inputs.toNat∧e<t.Suffixes.length) hr fun e u r hu hr=>?_;split at hr
  ·cases hr
  ·injection hr with hr
   subst hr;refine ⟨rfl,a,0+e,rfl,rfl,han,?_⟩;obtain ⟨z,hz⟩:=hA p (zkH hp) (p++[(↑a:Int)]) (List.mem_cons_of_mem _ (List.mem_map.2 ⟨a,List.mem_range.2 han,rfl⟩));rw [zh5 hz] at hu;have h1:=(zkI.1 hu).1;have h2:=(zgp hv hz).1;omega
 ·cases hr
theorem znu {t:zac} {o:zab} (ht:zev t) (ho:SmO o) (hv:zc2 o):ze0 t o=some (incT t o):=by
 obtain ⟨v,e,h1,h2⟩:=zqr ht ho hv;obtain ⟨h3,h4⟩:=look_view h2;unfold ze0 incT;rw [h1,zan];simp only;rw [h3] at h4 ⊢;by_cases h:zi3 t o=0
 ·obtain ⟨hV,hA,_⟩:=h4 h;rw [zkA (by simpa using h),zkC,if_neg (by simpa using h),iP_prog ht hv hV,zan];cases hi:iP t o with
  | none=>rfl
  | some x =>
   obtain ⟨hb,a,e,ha,he,_,hes⟩:=iP_range hv hA hi;obtain ⟨x1,x2,x3⟩:=x;simp only at hb ha he;subst hb ha he;have hx:=get_at hes;have hxl:=ht.sw _ (List.getElem_mem hes);simp only [Bool.not_true,zkC];rw [zb2 rfl hx,zfi _ (by simp) (by simp;omega),zan];unfold toW;simp [hx]
 ·rw [zkB h,zkD,if_pos h]
theorem dP_ref {t:zac} {a:Nat} {x y:Row} (ht:zev t) (h:zws x y) (hx:x.length=t.Suffixes.length):iter (fun s=>zb9.s13 t a (x,true) (y,true) s) fuel 0=some (match (dP a x y).map fun r=>(.inr (.inr (toW t r,true)):Nat⊕(Unit⊕(List Int×Bool))) with | some r=>.inr r | none=>.inl ()):=by
 obtain ⟨h1,h2,h3⟩:=h;have hx0:=h2.1
 have key:=zce (step:=fun s=>zb9.s13 t a (x,true) (y,true) s) (l:=x) (fun e u=>(if y[e]?=some u then none else some ((↑a:Int),(↑e:Int),true)).map fun r=>(.inr (.inr (toW t r,true)):Nat⊕(Unit⊕(List Int×Bool)))) (fun e u hu=>by
  have he:=(zkI.1 hu).1
  have hw:=get_at (l:=y) (i:=e) (by omega)
  have hse:=get_at (l:=t.Suffixes) (i:=e) (by omega)
  have hus:=(h2.2 u (zkH hu)).1
  simp only [zb9.s13]
  rw [zbw hu,zkD,zaq hu,zaq hw,zp3 _ _ (by omega),zan]
  by_cases h4:u=y[e]'(by omega)
  ·rw [zkB h4,if_pos (by rw [hw,h4])]
   rfl
  ·rw [zkA h4,if_neg (fun h=>h4 (by rw [hw] at h;injection h with h;exact h.symm))]
   simp only [Bool.not_false,zkD]
   rw [zaq hse,zfp (by simp [SmW]) (ht.sm.2.2.1.2 _ (List.getElem_mem _)),zan]
   simp [toW,hse]) (by
  simp only [zb9.s13]
  rw [zcr]
  rfl) (by omega)
 rw [key,zku];unfold dP;cases scan (fun e u=>if y[e]?=some u then none else some ((↑a:Int),(↑e:Int),true)) 0 x<;>rfl
theorem pP_ref {t:zac} {o:zab} (ht:zev t) (ho:SmO o) (hv:zc2 o) (hA:zj3 t o) {p q:List Int} (hp:p∈t.Prefixes) (hq:q∈t.Prefixes):zb9 t o p q=some (match pP t o p q with | some r=>(toW t r,true) | none=>([],false)):=by
 have hn:=ht.n;have hS:=ht.sm.2.2.1;have hpl:=ht.pw p hp;have hql:=ht.pw q hq;unfold zb9
 have key:=zce (step:=fun s=>zb9.s14 t o p q s) (l:=List.range t.Inputs.toNat) (fun _ (a:Nat)=>(dP a (rowG t o (p++[(↑a:Int)])) (rowG t o (q++[(↑a:Int)]))).map fun r=>(toW t r,true)) (fun a a' ha=>by
  have han:a<t.Inputs.toNat:=by
   have:=(zkI.1 ha).1
   simpa using this
  rw [List.getElem?_range han] at ha
  injection ha with ha
  subst ha
  obtain ⟨x,hx⟩:=hA p hp (p++[(↑a:Int)]) (List.mem_cons_of_mem _ (List.mem_map.2 ⟨a,List.mem_range.2 han,rfl⟩))
  obtain ⟨y,hy⟩:=hA q hq (q++[(↑a:Int)]) (List.mem_cons_of_mem _ (List.mem_map.2 ⟨a,List.mem_range.2 han,rfl⟩))
  have hpw:SmW (p++[(↑a:Int)]):=by unfold SmW;simp;omega
  have hqw:SmW (q++[(↑a:Int)]):=by unfold SmW;simp;omega
  simp only [zb9.s14]
  rw [zkB (by omega),zkD,zfp (by unfold SmW;omega) (by simp [SmW]),zan,zju ho hv hS hpw,zan,zfp (by unfold SmW;omega) (by simp [SmW]),zan,zju ho hv hS hqw,zan,hx,hy,dP_ref ht (zx8 ht hv hx hy) (zgp hv hx).1,zan,zh5 hx,zh5 hy]
  cases dP a x y with
  | some r=>rfl
  | none =>
   show Sum.elim _ _ (Sum.inl ())=_
   rw [elim_l,zav (by unfold inR;omega)]
   rfl) (by
  simp only [zb9.s14]
  rw [List.length_range,zkA (by omega)]
  rfl) (by simp;omega)
 rw [key,zan,zku];unfold pP;cases scan (fun _ (a:Nat)=>dP a (rowG t o (p++[(↑a:Int)])) (rowG t o (q++[(↑a:Int)]))) 0 (List.range t.Inputs.toNat)<;>rfl
theorem zpv {t:zac} {o:zab} (ht:zev t) (ho:SmO o) (hv:zc2 o):zbd t o=some (incT t o):=by
 have hpl:=ht.p;have hS:=ht.sm.2.2.1;unfold zbd incT;rw [znm ht ho hv,zan];by_cases h:zi3 t o=0
 ·rw [zkA (by simpa using h),zkC,if_neg (by simpa using h)]
  have hA:zj3 t o:=by
   unfold zi3 at h;split at h
   ·rename_i h1;exact absurd h h1
   ·split at h
    ·rename_i h2;exact zrh.1 h2
    ·cases h
  have hrow:∀ p∈t.Prefixes,∃ r,rowO o p t.Suffixes=some r:=fun p hp=>hA p hp p (by simp [zh6])
  have outer:=zce (step:=fun s=>zbd.s14 t o s) (l:=t.Prefixes) (fun i p=>(scan (fun _ q=>if rowO o p t.Suffixes=rowO o q t.Suffixes then pP t o p q else none) (i+1) (t.Prefixes.drop (i+1))).map fun r=>(toW t r,true,(0:Int))) (fun i p hp=>by
   have hi:=(zkI.1 hp).1
   have hpm:=zkH hp
   obtain ⟨r,hr⟩:=hrow p hpm
   have inner:=ztf (step:=fun s=>zbd.s13 t o i s) (l:=t.Prefixes) (fun _ q=>(if rowO o p t.Suffixes=rowO o q t.Suffixes then pP t o p q else none).map fun r=>(.inr (.inr (toW t r,true,(0:Int))):Nat⊕(Unit⊕(List Int×Bool×Int)))) (i+1) (by omega) (fun k q _ hq=>by
    have hqm:=zkH hq
    obtain ⟨s,hs⟩:=hrow q hqm
    have hrs:=zl7 hv ht hr
    simp only [zbd.s13]
    rw [zbw hq,zkD,zaq hp,zju ho hv hS (ht.sm.2.1.2 p hpm),zan,zaq hq,zju ho hv hS (ht.sm.2.1.2 q hqm),zan,hr,hs]
    simp only [tw]
    rw [ztj r s (by have:=hrs.1;omega) (fun x hx=>by have:=(hrs.2 x hx).1;omega),zan]
    by_cases h:r=s
    ·subst h
     rw [zkB rfl,if_pos rfl]
     simp only [Bool.not_true,zkC]
     rw [zaq hp,zaq hq,pP_ref ht ho hv hA hpm hqm,zan]
     cases pP t o p q<;>rfl
    ·rw [zkA h,if_neg (by simpa using h)]
     rfl) (by
    simp only [zbd.s13]
    rw [zcr]
    rfl) (by omega)
   simp only [zbd.s14]
   rw [zbw hp,zkD,inner,zan,zku]
   cases scan (fun _ q=>if rowO o p t.Suffixes=rowO o q t.Suffixes then pP t o p q else none) (i+1) (t.Prefixes.drop (i+1))<;>rfl) (by
   simp only [zbd.s14]
   rw [zcr]
   rfl) (by omega)
  rw [outer,zan,zku];unfold iP;cases scan (fun i p=>scan (fun _ q=>if rowO o p t.Suffixes=rowO o q t.Suffixes then pP t o p q else none) (i+1) (t.Prefixes.drop (i+1))) 0 t.Prefixes<;>rfl
 ·rw [zkB h,zkD,if_pos h]
end
section
set_option maxRecDepth 100000
theorem zc5 {t:zac} {o:zab} (h:zi3 t o=0):zdn t=0∧t.Inputs=o.Inputs∧zj3 t o:=by
 unfold zi3 at h;split at h
 ·rename_i h1;exact absurd h h1
 ·rename_i h1;split at h
  ·rename_i h2;have h1:chkT t o=0:=by simpa using h1
   unfold chkT at h1;split at h1
   ·rename_i h3;exact absurd h1 h3
   ·rename_i h3;split at h1
    ·cases h1
    ·rename_i h4;exact ⟨by simpa using h3,by simpa using h4,zrh.1 h2⟩
  ·cases h
theorem zqc {l:List (List Int)} (h:Asc l) {i:Nat} {w:List Int} (hw:l[i]?=some w):zfx l i w=true:=by
 unfold zfx;cases i with
 | zero=>rfl
 | succ i =>
  have hi:=(zkI.1 hw).1;have hp:=get_at (l:=l) (i:=i) (by omega);simp only [hp];have:=h.get (Nat.lt_succ_self i) hp hw;exact zkB (by omega)
theorem zuo {t:zac} (h1:1≤t.Inputs) (h2:t.Inputs≤4) (hp0:t.Prefixes≠[]) (hp:t.Prefixes.length≤81) (hs:t.Suffixes.length≤13) (hA:Asc t.Prefixes) (hB:Asc t.Suffixes)
  (hc:∀ w∈t.Prefixes,zbn w t.Inputs=0∧w.length≤81) (hd:∀ w∈t.Suffixes,zbn w t.Inputs=0∧w.length≠0∧w.length≤31) (he:∀ w∈t.Prefixes,0<w.length→w.take (w.length-1)∈t.Prefixes) (h0:[]∈t.Prefixes)
  (hf:∀ a∈List.range t.Inputs.toNat,[(↑a:Int)]∈t.Suffixes):zdn t=0:=by
 unfold zdn;have hpl:0<t.Prefixes.length:=List.length_pos_iff.2 hp0
 have hprod:¬ 160000<(↑t.Prefixes.length:Int)*(t.Inputs+1)*↑t.Suffixes.length:=by
  have a1:(↑t.Prefixes.length:Int)*(t.Inputs+1)≤81*5:=Int.mul_le_mul (by omega) (by omega) (by omega) (by omega);have a2:(↑t.Prefixes.length:Int)*(t.Inputs+1)*↑t.Suffixes.length≤81*5*13:=Int.mul_le_mul a1 (by omega) (by omega) (by omega);omega
 rw [if_neg (by omega),if_neg (by omega),if_neg (by rintro (h | h | h);omega;omega;exact hprod h)]
 have e1:scan (preG t fun w=>decide (w∈t.Prefixes)) 0 t.Prefixes=none:=zd5.2 fun i w hw=>by
  have hwm:=zkH hw;rw [Nat.zero_add];unfold preG;rw [if_neg (by simpa using (hc w hwm).1)]
  have hz:¬ ((i=0∧0<w.length)∨zfx t.Prefixes i w=false):=by
   rintro (⟨rfl,h⟩ | h)
   ·obtain ⟨j,hj,e⟩:=List.mem_iff_getElem.1 h0;have ej:=get_at hj;rw [e] at ej;rcases Nat.eq_zero_or_pos j with rfl | hj0
    ·rw [hw] at ej;injection ej with ej
     subst ej;simp at h
    ·have:=hA.get hj0 hw ej;have:=zu1 this;simp at this;rw [this] at h;simp at h
   ·rw [zqc hA hw] at h;cases h
  rw [if_neg hz,if_neg];rintro ⟨h,h'⟩;exact of_decide_eq_false h' (he w hwm h)
 have e2:scan (sufG t) 0 t.Suffixes=none:=zd5.2 fun i w hw=>by
  have hwm:=zkH hw;rw [Nat.zero_add];unfold sufG;rw [if_neg (by simpa using (hd w hwm).1),if_neg (hd w hwm).2.1,if_neg (by rw [zqc hB hw];simp)]
 rw [e1,e2];simp only;rw [if_pos hf];have l1:=(zp2 t.Prefixes 81).2 fun x hx=>(hc x hx).2;have l2:=(zp2 t.Suffixes 31).2 fun x hx=>(hd x hx).2.2;rw [if_neg (by omega)]
theorem zeq {t:zac} (h:zdn t=0):(∀ w∈t.Prefixes,zbn w t.Inputs=0)∧(∀ w∈t.Prefixes,0<w.length→w.take (w.length-1)∈t.Prefixes)∧[]∈t.Prefixes∧∀ w∈t.Suffixes,zbn w t.Inputs=0∧w.length≠0:=by
 obtain ⟨_,_,_,_,_,e1,e2,hne⟩:=zez h
 have key:∀ (i:Nat) w,t.Prefixes[i]?=some w→zbn w t.Inputs=0∧¬ (i=0∧0<w.length)∧(0<w.length→w.take (w.length-1)∈t.Prefixes):=fun i w hw=>by
  have:=zd5.1 e1 i w hw;rw [Nat.zero_add] at this;unfold preG at this;split at this
  ·cases this
  ·rename_i h1;split at this
   ·cases this
   ·rename_i h2;split at this
    ·cases this
    ·rename_i h3;refine ⟨by simpa using h1,fun h4=>h2 (Or.inl h4),fun h4=>?_⟩;refine Classical.byContradiction fun h5=>h3 ⟨h4,zkA h5⟩
 refine ⟨fun w hw=>?_,fun w hw=>?_,?_,(zut e2).2⟩
 ·obtain ⟨i,hi,rfl⟩:=List.mem_iff_getElem.1 hw;exact (key i _ (get_at hi)).1
 ·obtain ⟨i,hi,rfl⟩:=List.mem_iff_getElem.1 hw;exact (key i _ (get_at hi)).2.2
 ·have hl:0<t.Prefixes.length:=List.length_pos_iff.2 hne;have:=(key 0 _ (get_at hl)).2.1
  have he:t.Prefixes[0].length=0:=by
   rcases Nat.eq_zero_or_pos t.Prefixes[0].length with h | h
   ·exact h
   ·exact absurd ⟨rfl,h⟩ this
  have:=List.eq_nil_of_length_eq_zero he;rw [← this];exact List.getElem_mem _
theorem zlg {t:zac} (h:zdn t=0):∀ (n:Nat) (p:List Int),p∈t.Prefixes→∀ k,p.length-k=n→k≤p.length→p.take k∈t.Prefixes:=by
 obtain ⟨_,hc,_,_⟩:=zeq h;intro n
 induction n with
 | zero=>intro p hp k hk hkl;rw [List.take_of_length_le (by omega)];exact hp
 | succ n ih =>
  intro p hp k hk hkl;have h1:=hc p hp (by omega);have h2:=ih _ h1 k (by rw [List.length_take];omega) (by rw [List.length_take];omega);rw [List.take_take,Nat.min_eq_left (by omega)] at h2;exact h2
theorem zxt {p:List Int} {n:Int} {a:Nat} (hp:zbn p n=0) (hl:p.length≤100) (ha:(↑a:Int)<n):zbn (p++[(↑a:Int)]) n=0:=by
 have hm:=zdh hp;unfold zbn at hp ⊢;split at hp
 ·rename_i h1;rw [if_pos h1,if_neg (by simp;omega),if_pos];refine List.all_eq_true.2 fun x hx=>zkB ?_;rcases List.mem_append.1 hx with hx | hx
  ·exact hm x hx
  ·rw [List.mem_singleton.1 hx];omega
 ·cases hp
theorem zx6 {p:List Int} {n:Int} {a:Nat} (hp:zbn p n=0) (hl:p.length≤100) (ha:(↑a:Int)<n):zbn ((↑a:Int)::p) n=0:=by
 have hm:=zdh hp;unfold zbn at hp ⊢;split at hp
 ·rename_i h1;rw [if_pos h1,if_neg (by simp;omega),if_pos];refine List.all_eq_true.2 fun x hx=>zkB ?_;rcases List.mem_cons.1 hx with rfl | hx
  ·omega
  ·exact hm x hx
 ·cases hp
theorem sort_more {l m:List (List Int)} {w:List Int} (h:Asc l) (hw:w∉l) (hm:∀ x,x∈m↔x∈l∨x=w):(sortW m).length=l.length+1∧∀ x,x∈sortW m↔x∈l∨x=w:=by
 have hmem:∀ x,x∈sortW m↔x∈l∨x=w:=fun x=>by rw [zdd,hm]
 have e:sortW m=insW l w:=zpn (zet m) (h.insW w) fun x=>by rw [hmem,zfo]
 refine ⟨?_,hmem⟩;rw [e];unfold insW;rw [if_neg hw];have:=zqd l w;simp [zkJ,List.length_take,List.length_drop];omega
theorem uncl_progress {t:zac} {o:zab} {w:List Int} (ht:zev t) (hz:zi3 t o=0) (hf:(extL t).find? (newRow t o)=some w) :
  (zij t w).2=0∧w∉t.Prefixes∧w∈(zij t w).1.Prefixes∧(zij t w).1.Prefixes.length=t.Prefixes.length+1∧(zij t w).1.Suffixes.length=t.Suffixes.length:=by
 obtain ⟨hval,_,hA⟩:=zc5 hz;obtain ⟨hn1,_,hAp,hAs,hsing,_,_,hne⟩:=zez hval;obtain ⟨hck,hcl,hnil,hsc⟩:=zeq hval;have hnew:newRow t o w=true:=List.find?_some hf;have hwm:=List.mem_of_find?_eq_some hf;obtain ⟨p,hp,h2⟩:=List.mem_flatMap.1 hwm;obtain ⟨a,ha,rfl⟩:=List.mem_map.1 h2;have ha:=List.mem_range.1 ha;have hpl:=ht.pw p hp;have hnot:p++[(↑a:Int)]∉t.Prefixes:=fun hm=>of_decide_eq_true hnew (List.mem_map.2 ⟨_,hm,rfl⟩);have hcw:=zxt (hck p hp) (by omega) (show (↑a:Int)<t.Inputs by omega)
 have hmm:∀ x,x∈t.Prefixes++sortW (preL [p++[(↑a:Int)]])↔x∈t.Prefixes∨x=p++[(↑a:Int)]:=fun x=>by
  rw [List.mem_append,zdd,zor];unfold prefixes;constructor
  ·rintro (h | h)
   ·exact Or.inl h
   ·obtain ⟨k,hk,rfl⟩:=List.mem_map.1 h;have hk:=List.mem_range.1 hk;rw [zkJ,List.length_singleton] at hk;rcases Nat.lt_or_ge p.length k with h3 | h3
    ·right;rw [List.take_of_length_le (by rw [zkJ,List.length_singleton];omega)]
    ·left;rw [List.take_append_of_le_length h3];exact zlg hval _ p hp k rfl h3
  ·rintro (h | rfl)
   ·exact Or.inl h
   ·exact Or.inr (List.mem_map.2 ⟨p.length+1,by simp,by rw [List.take_of_length_le (by simp)]⟩)
 obtain ⟨hlen,hmem⟩:=sort_more hAp hnot hmm;have hsuf:sortW (t.Suffixes++[])=t.Suffixes:=by rw [List.append_nil,zf8 hAs]
 have hv2:zdn ⟨t.Inputs,sortW (t.Prefixes++sortW (preL [p++[(↑a:Int)]])),sortW (t.Suffixes++[])⟩=0:=by
  refine zuo hn1 ht.n (fun e=>?_) ?_ ?_ (zet _) (zet _) (fun u hu=>?_) (fun u hu=>?_) (fun u hu h0=>?_) ((hmem _).2 (Or.inl hnil)) ?_
  ·have:p++[(↑a:Int)]∈sortW (t.Prefixes++sortW (preL [p++[(↑a:Int)]])):=(hmem _).2 (Or.inr rfl);rw [show sortW (t.Prefixes++sortW (preL [p++[(↑a:Int)]]))=[] from e] at this;cases this
  ·show (sortW (t.Prefixes++sortW (preL [p++[(↑a:Int)]]))).length≤81;rw [hlen];have:=ht.p;omega
  ·show (sortW (t.Suffixes++[])).length≤13;rw [hsuf];have:=ht.s;omega
  ·rcases (hmem u).1 hu with h | rfl
   ·exact ⟨hck u h,by have:=ht.pw u h;omega⟩
   ·exact ⟨hcw,by simp;omega⟩
  ·have hu:u∈sortW (t.Suffixes++[]):=hu;rw [hsuf] at hu;exact ⟨(hsc u hu).1,(hsc u hu).2,by have:=ht.sw u hu;omega⟩
  ·refine (hmem _).2 (Or.inl ?_);rcases (hmem u).1 hu with h | rfl
   ·exact hcl u h h0
   ·rw [zkJ,List.length_singleton,Nat.add_sub_cancel,List.take_append_of_le_length (Nat.le_refl _),List.take_length];exact hp
  ·show ∀ a∈List.range t.Inputs.toNat,[(↑a:Int)]∈sortW (t.Suffixes++[]);rw [hsuf];exact hsing
 have hP:zij t (p++[(↑a:Int)])=(⟨t.Inputs,sortW (t.Prefixes++sortW (preL [p++[(↑a:Int)]])),sortW (t.Suffixes++[])⟩,0):=by
  unfold zij zxd;rw [if_neg (by simpa using hval),if_neg (by simpa using hcw),if_neg (by simpa using hv2)]
 rw [hP];exact ⟨rfl,hnot,(hmem _).2 (Or.inr rfl),hlen,by show (sortW (t.Suffixes++[])).length=_;rw [hsuf]⟩
theorem zmp {o:zab} {w:List Int}:∀ {S:List (List Int)} {r:Row},rowO o w S=some r→∀ (i:Nat) e,S[i]?=some e→∃ x,ansO o (w++e)=some x∧r[i]?=some (x.drop w.length)
 | [],_,_,i,e,he=>by simp at he
 | u::S,r,h,i,e,he=>by
  unfold rowO at h;cases ha:ansO o (w++u) with
  | none=>rw [ha] at h;cases h
  | some x =>
   rw [ha] at h;obtain ⟨l,h1,rfl⟩:=Option.map_eq_some_iff.1 h;cases i with
   | zero =>
    simp at he;subst he;exact ⟨x,ha,rfl⟩
   | succ i =>
    obtain ⟨y,h2,h3⟩:=zmp h1 i e (by simpa using he);exact ⟨y,h2,by simpa using h3⟩
theorem iP_parts {t:zac} {o:zab} (hA:zj3 t o) {x:Int×Int×Bool} (h:iP t o=some x) :
  ∃ p q,p∈t.Prefixes∧q∈t.Prefixes∧rowO o p t.Suffixes=rowO o q t.Suffixes∧∃ a e:Nat,x=((a:Int),(e:Int),true)∧a<t.Inputs.toNat∧∃ X Y u,rowO o (p++[(↑a:Int)]) t.Suffixes=some X∧rowO o (q++[(↑a:Int)]) t.Suffixes=some Y∧X[e]?=some u∧Y[e]?≠some u:=by
 refine zg8 (Q:=fun x=>∃ p q,p∈t.Prefixes∧q∈t.Prefixes∧rowO o p t.Suffixes=rowO o q t.Suffixes∧∃ a e:Nat,x=((a:Int),(e:Int),true)∧a<t.Inputs.toNat∧∃ X Y u,rowO o (p++[(↑a:Int)]) t.Suffixes=some X∧rowO o (q++[(↑a:Int)]) t.Suffixes=some Y∧X[e]?=some u∧Y[e]?≠some u) h fun i p r hp hr=>?_;refine zg8 (Q:=fun x=>∃ p q,p∈t.Prefixes∧q∈t.Prefixes∧rowO o p t.Suffixes=rowO o q t.Suffixes∧∃ a e:Nat,x=((a:Int),(e:Int),true)∧a<t.Inputs.toNat∧∃ X Y u,rowO o (p++[(↑a:Int)]) t.Suffixes=some X∧rowO o (q++[(↑a:Int)]) t.Suffixes=some Y∧X[e]?=some u∧Y[e]?≠some u) hr fun k q r hq hr=>?_;have hpm:=zkH hp;have hqm:q∈t.Prefixes:=List.mem_of_mem_drop (zkH hq);split at hr
 ·rename_i heq;refine zg8 (Q:=fun x=>∃ p q,p∈t.Prefixes∧q∈t.Prefixes∧rowO o p t.Suffixes=rowO o q t.Suffixes∧∃ a e:Nat,x=((a:Int),(e:Int),true)∧a<t.Inputs.toNat∧∃ X Y u,rowO o (p++[(↑a:Int)]) t.Suffixes=some X∧rowO o (q++[(↑a:Int)]) t.Suffixes=some Y∧X[e]?=some u∧Y[e]?≠some u) hr fun a a' r ha hr=>?_
  have han:a<t.Inputs.toNat:=by
   have:=(zkI.1 ha).1;simpa using this
  rw [List.getElem?_range han] at ha;injection ha with ha
  subst ha;obtain ⟨X,hX⟩:=hA p hpm (p++[(↑a:Int)]) (List.mem_cons_of_mem _ (List.mem_map.2 ⟨a,List.mem_range.2 han,rfl⟩));obtain ⟨Y,hY⟩:=hA q hqm (q++[(↑a:Int)]) (List.mem_cons_of_mem _ (List.mem_map.2 ⟨a,List.mem_range.2 han,rfl⟩));rw [zh5 hX,zh5 hY] at hr;refine zg8 (Q:=fun x=>∃ p q,p∈t.Prefixes∧q∈t.Prefixes∧rowO o p t.Suffixes=rowO o q t.Suffixes∧∃ a e:Nat,x=((a:Int),(e:Int),true)∧a<t.Inputs.toNat∧∃ X Y u,rowO o (p++[(↑a:Int)]) t.Suffixes=some X∧rowO o (q++[(↑a:Int)]) t.Suffixes=some Y∧X[e]?=some u∧Y[e]?≠some u) hr fun e u r hu hr=>?_;split at hr
  ·cases hr
  ·rename_i hne;injection hr with hr
   subst hr;rw [Nat.zero_add] at hne ⊢;exact ⟨p,q,hpm,hqm,heq,a,e,rfl,han,X,Y,u,hX,hY,hu,hne⟩
 ·cases hr
theorem ztr {t:zac} {o:zab} {x:Int×Int×Bool} (ht:zev t) (hv:zc2 o) (hz:zi3 t o=0) (hf:iP t o=some x) :
  (zhi t (toW t x)).2=0∧toW t x∉t.Suffixes∧toW t x∈(zhi t (toW t x)).1.Suffixes∧(zhi t (toW t x)).1.Suffixes.length=t.Suffixes.length+1∧(zhi t (toW t x)).1.Prefixes.length=t.Prefixes.length:=by
 obtain ⟨hval,_,hA⟩:=zc5 hz;obtain ⟨hn1,_,hAp,hAs,hsing,_,_,hne⟩:=zez hval;obtain ⟨hck,hcl,hnil,hsc⟩:=zeq hval;obtain ⟨p,q,hp,hq,hpq,a,e,rfl,ha,X,Y,u,hX,hY,hu,hne2⟩:=iP_parts hA hf
 have he:e<t.Suffixes.length:=by
  have h1:=(zkI.1 hu).1;rw [(zgp hv hX).1] at h1;exact h1
 have hse:=get_at he
 have hW:toW t ((a:Int),(e:Int),true)=(↑a:Int)::t.Suffixes[e]:=by
  unfold toW;simp [hse]
 rw [hW];have hel:=ht.sw _ (List.getElem_mem he);have hcw:=zx6 (hsc _ (List.getElem_mem he)).1 (by omega) (show (↑a:Int)<t.Inputs by omega)
 have hnot:(↑a:Int)::t.Suffixes[e]∉t.Suffixes:=fun hm=>by
  obtain ⟨j,hj,ej⟩:=List.mem_iff_getElem.1 hm;have hsj:=get_at hj;rw [ej] at hsj;obtain ⟨r,hr⟩:=hA p hp p (by simp [zh6]);have hr2:rowO o q t.Suffixes=some r:=by rw [← hpq];exact hr
  obtain ⟨z1,h1,h2⟩:=zmp hr j _ hsj;obtain ⟨z2,h3,h4⟩:=zmp hr2 j _ hsj;obtain ⟨y1,k1,k2⟩:=zmp hX e _ hse;obtain ⟨y2,k3,k4⟩:=zmp hY e _ hse;rw [List.append_assoc] at k1 k3;have e1:p++(↑a:Int)::t.Suffixes[e]=p++([(↑a:Int)]++t.Suffixes[e]):=rfl;have e2:q++(↑a:Int)::t.Suffixes[e]=q++([(↑a:Int)]++t.Suffixes[e]):=rfl;rw [e1,k1] at h1;rw [e2,k3] at h3;injection h1 with h1
  injection h3 with h3
  subst h1 h3;rw [h2] at h4;injection h4 with h4
  have h5:=congrArg (List.drop 1) h4;rw [List.drop_drop,List.drop_drop] at h5;rw [hu] at k2;injection k2 with k2
  apply hne2;rw [k4,k2];congr 1;rw [zkJ,zkJ,List.length_singleton];exact h5.symm
 have hmm:∀ x,x∈t.Suffixes++[(↑a:Int)::t.Suffixes[e]]↔x∈t.Suffixes∨x=(↑a:Int)::t.Suffixes[e]:=fun x=>by
  rw [List.mem_append,List.mem_singleton]
 obtain ⟨hlen,hmem⟩:=sort_more hAs hnot hmm;have hpre:sortW (t.Prefixes++[])=t.Prefixes:=by rw [List.append_nil,zf8 hAp]
 have hv2:zdn ⟨t.Inputs,sortW (t.Prefixes++[]),sortW (t.Suffixes++[(↑a:Int)::t.Suffixes[e]])⟩=0:=by
  refine zuo hn1 ht.n ?_ ?_ ?_ (zet _) (zet _) (fun u hu=>?_) (fun u hu=>?_) (fun u hu h0=>?_) ?_ (fun b hb=>(hmem _).2 (Or.inl (hsing b hb)))
  ·show sortW (t.Prefixes++[])≠[];rw [hpre];exact hne
  ·show (sortW (t.Prefixes++[])).length≤81;rw [hpre];have:=ht.p;omega
  ·show (sortW (t.Suffixes++[(↑a:Int)::t.Suffixes[e]])).length≤13;rw [hlen];have:=ht.s;omega
  ·have hu:u∈sortW (t.Prefixes++[]):=hu;rw [hpre] at hu;exact ⟨hck u hu,by have:=ht.pw u hu;omega⟩
  ·rcases (hmem u).1 hu with h | rfl
   ·exact ⟨(hsc u h).1,(hsc u h).2,by have:=ht.sw u h;omega⟩
   ·exact ⟨hcw,by simp,by simp;omega⟩
  ·have hu:u∈sortW (t.Prefixes++[]):=hu;show u.take (u.length-1)∈sortW (t.Prefixes++[]);rw [hpre] at hu ⊢;exact hcl u hu h0
  ·show []∈sortW (t.Prefixes++[]);rw [hpre];exact hnil
 have hP:zhi t ((↑a:Int)::t.Suffixes[e])=(⟨t.Inputs,sortW (t.Prefixes++[]),sortW (t.Suffixes++[(↑a:Int)::t.Suffixes[e]])⟩,0):=by
  unfold zhi zxd;rw [if_neg (by simpa using hval),if_neg (by simp),if_neg (by simpa using hcw),if_neg (by simpa using hv2)]
 rw [hP];exact ⟨rfl,hnot,(hmem _).2 (Or.inr rfl),hlen,by show (sortW (t.Prefixes++[])).length=_;rw [hpre]⟩
theorem zpk {t:zac} (ht:zev t) {w:List Int} (h:w∈extL t):w.length≤81∧∀ a∈w,inR a:=by
 obtain ⟨p,hp,h2⟩:=List.mem_flatMap.1 h;obtain ⟨a,ha,rfl⟩:=List.mem_map.1 h2;have ha:=List.mem_range.1 ha;have:=ht.pw p hp;have hn:=ht.n;refine ⟨by simp;omega,fun b hb=>?_⟩;rcases List.mem_append.1 hb with hb | hb
 ·exact ht.sm.2.2.2 p hp b hb
 ·rw [List.mem_singleton.1 hb];unfold inR;omega
end
section
set_option maxRecDepth 100000
theorem zx2 {l:List (List Int)} {n:Int} (hA:Asc l) (hc:∀ w∈l,zbn w n=0∧w.length≠0) (h:∀ a∈List.range n.toNat,[(↑a:Int)]∈l):∀ a,a<n.toNat→l[a]?=some [(↑a:Int)]:=by
 intro a
 induction a using Nat.strongRecOn with
 | _ a ih =>
  intro ha;obtain ⟨j,hj,e⟩:=List.mem_iff_getElem.1 (h a (List.mem_range.2 ha));have ej:l[j]?=some [(↑a:Int)]:=by rw [get_at hj,e]
  rcases Nat.lt_trichotomy j a with hlt | heq | hgt
  ·have:=ih j hlt (by omega);rw [ej] at this;injection this with this
   injection this with this
   omega
  ·rw [← heq,ej,heq]
  ·have hx:=get_at (l:=l) (i:=a) (by omega);have hcmp:=hA.get hgt hx ej;have hxm:=zkH hx;obtain ⟨b,hb⟩:=one_of (hc _ hxm).2 (zu1 hcmp);rw [hb] at hcmp hx;have hlt:=zox.1 hcmp;have hr:=zdh (hc _ hxm).1 b (by rw [hb];simp);have hbb:=ih b.toNat (by omega) (by omega);rw [show ((b.toNat:Nat):Int)=b by omega] at hbb;have:=hA.get (show b.toNat<a by omega) hbb hx;rw [zga] at this;cases this
def newAt (rs:List Row) (i:Nat):Bool:=match rs[i]? with | some r=>decide (r∉rs.take i) | none=>false
def fstI (rs:List Row) (k:Nat):List Nat:=(List.range k).filter (newAt rs)
theorem fstI_succ (rs:List Row) (k:Nat):fstI rs (k+1)=fstI rs k++if newAt rs k=true then [k] else []:=by
 unfold fstI;rw [List.range_succ,List.filter_append];simp only [List.filter_cons,List.filter_nil]
theorem addAll_fst (rs:List Row):∀ k,k≤rs.length→zbs [] (rs.take k)=(fstI rs k).map fun i=>(rs[i]?).getD []:=by
 intro k
 induction k with
 | zero=>intro _;rfl
 | succ k ih =>
  intro hk;have hx:=get_at (l:=rs) (i:=k) (by omega);rw [zbp hx,zj9,ih (by omega),fstI_succ,List.map_append]
  have hiff:newAt rs k=true↔rs[k]∉zbs [] (rs.take k):=by
   unfold newAt;rw [hx];simp only;rw [decide_eq_true_iff,zfz];simp
  rw [ih (by omega)] at hiff;unfold addR;by_cases h:newAt rs k=true
  ·rw [if_neg (hiff.1 h),if_pos h];simp [hx]
  ·rw [if_pos (Classical.byContradiction fun h2=>h (hiff.2 h2)),if_neg h];simp
theorem fstI_len (rs:List Row) (k:Nat):(fstI rs k).length≤k:=by
 unfold fstI;have:=List.length_filter_le (newAt rs) (List.range k);rw [List.length_range] at this;exact this
theorem mem_fstI {rs:List Row} {k i:Nat}:i∈fstI rs k↔i<k∧newAt rs i=true:=by
 unfold fstI;rw [List.mem_filter,List.mem_range]
def zlp (t:zac) (o:zab):List Row:=t.Prefixes.map (rowG t o)
def zhw (t:zac) (o:zab):List Row:=zbs [] (zlp t o)
def zxi (t:zac) (o:zab) (p:List Int):List Int:=(List.range t.Inputs.toNat).map fun (a:Nat)=>(↑(pos (rowG t o (p++[(↑a:Int)])) (zhw t o)):Int)
def outT (t:zac) (o:zab) (p:List Int):List Int:=(List.range t.Inputs.toNat).map fun (a:Nat)=>(((rowG t o p)[a]?).getD []).headD 0
def zwh (t:zac) (i:Nat):List Int:=(t.Prefixes[i]?).getD []
def hypT (t:zac) (o:zab):zer :=
 ⟨⟨t.Inputs,0,(fstI (zlp t o) t.Prefixes.length).map fun i=>zxi t o (zwh t i),(fstI (zlp t o) t.Prefixes.length).map fun i=>outT t o (zwh t i)⟩,(fstI (zlp t o) t.Prefixes.length).map (zwh t)⟩
abbrev h0:zer:=⟨⟨0,0,[],[]⟩,[]⟩
def hypR (t:zac) (o:zab):zer×Int :=
 if zi3 t o≠0 then (h0,zi3 t o) else if (extL t).find? (newRow t o)≠none∨iP t o≠none then (h0,10) else (hypT t o,0)
theorem row_out {t:zac} {o:zab} (hv:zc2 o) {p:List Int} {r:Row} (hr:rowO o p t.Suffixes=some r) {a:Nat} (hs:t.Suffixes[a]?=some [(↑a:Int)]):∃ y z,r[a]?=some [y]∧ansO o (p++[(↑a:Int)])=some z∧z.drop p.length=[y]:=by
 obtain ⟨z,h1,h2⟩:=zmp hr a _ hs;have hl:=zkq hv h1;rw [zkJ,List.length_singleton] at hl;have hd:(z.drop p.length).length=1:=by rw [List.length_drop];omega
 match hq:z.drop p.length,hd with
 | [y],_=>exact ⟨y,z,by rw [h2,hq],h1,hq⟩
end
section
set_option maxRecDepth 100000
theorem rowG_eq {t:zac} {o:zab} {p:List Int} (h:∃ r,rowO o p t.Suffixes=some r):rowO o p t.Suffixes=some (rowG t o p):=by
 obtain ⟨r,hr⟩:=h;rw [hr,zh5 hr]
end
section
set_option maxRecDepth 100000
structure zds (t:zac) (o:zab):Prop where
 ht:zev t
 ho:SmO o
 hv:zc2 o
 hz:zi3 t o=0
 hf:(extL t).find? (newRow t o)=none
 hi:iP t o=none
section
variable {t:zac} {o:zab}
theorem zds.all (H:zds t o):zj3 t o:=(zc5 H.hz).2.2
theorem zds.row (H:zds t o) {p:List Int} (hp:p∈t.Prefixes):rowO o p t.Suffixes=some (rowG t o p):=rowG_eq (H.all p hp p (by simp [zh6]))
theorem zds.ext (H:zds t o) {p:List Int} (hp:p∈t.Prefixes) {a:Nat} (ha:a<t.Inputs.toNat):rowO o (p++[(↑a:Int)]) t.Suffixes=some (rowG t o (p++[(↑a:Int)])) :=
 rowG_eq (H.all p hp _ (List.mem_cons_of_mem _ (List.mem_map.2 ⟨a,List.mem_range.2 ha,rfl⟩)))
theorem zds.closed (H:zds t o) {p:List Int} (hp:p∈t.Prefixes) {a:Nat} (ha:a<t.Inputs.toNat):rowG t o (p++[(↑a:Int)])∈zhw t o:=by
 have h1:=List.find?_eq_none.1 H.hf (p++[(↑a:Int)]) (List.mem_flatMap.2 ⟨p,hp,List.mem_map.2 ⟨a,List.mem_range.2 ha,rfl⟩⟩);have h2:newRow t o (p++[(↑a:Int)])=false:=by simpa using h1
 unfold newRow at h2;obtain ⟨q,hq,h3⟩:=List.mem_map.1 (Classical.not_not.1 (of_decide_eq_false h2));rw [H.ext hp ha] at h3;unfold zhw;exact zfz.2 (Or.inr (List.mem_map.2 ⟨q,hq,zh5 h3⟩))
theorem zds.mem (H:zds t o) {p:List Int} (hp:p∈t.Prefixes):rowG t o p∈zhw t o:=by
 unfold zhw;exact zfz.2 (Or.inr (List.mem_map.2 ⟨p,hp,rfl⟩))
theorem dP_none {a:Nat} {x y:Row} (hl:x.length=y.length) (h:dP a x y=none):x=y:=by
 have h1:=zd5.1 h;apply List.ext_getElem?;intro e;rcases Nat.lt_or_ge e x.length with he | he
 ·have hx:=get_at he;have:=h1 e _ hx;rw [Nat.zero_add] at this;split at this
  ·rename_i h2;rw [hx,h2]
  ·cases this
 ·rw [List.getElem?_eq_none he,List.getElem?_eq_none (by omega)]
theorem zds.cons (H:zds t o) {p q:List Int} (hp:p∈t.Prefixes) (hq:q∈t.Prefixes) (h:rowG t o p=rowG t o q) {a:Nat} (ha:a<t.Inputs.toNat):rowG t o (p++[(↑a:Int)])=rowG t o (q++[(↑a:Int)]):=by
 have key:∀ (i k:Nat) p q,i<k→t.Prefixes[i]?=some p→t.Prefixes[k]?=some q→rowG t o p=rowG t o q→rowG t o (p++[(↑a:Int)])=rowG t o (q++[(↑a:Int)]):=by
  intro i k p q hik hp hq h;have hpm:=zkH hp;have hqm:=zkH hq;have h1:=zd5.1 H.hi i p hp;rw [Nat.zero_add] at h1
  have hq2:(t.Prefixes.drop (i+1))[k-(i+1)]?=some q:=by
   rw [List.getElem?_drop,show i+1+(k-(i+1))=k by omega];exact hq
  have h2:=zd5.1 h1 _ q hq2;rw [if_pos (by rw [H.row hpm,H.row hqm,h])] at h2;have h3:=zd5.1 h2 a a (List.getElem?_range ha);refine dP_none ?_ h3;rw [(zgp H.hv (H.ext hpm ha)).1,(zgp H.hv (H.ext hqm ha)).1]
 obtain ⟨i,hi,rfl⟩:=List.mem_iff_getElem.1 hp;obtain ⟨k,hk,rfl⟩:=List.mem_iff_getElem.1 hq;rcases Nat.lt_trichotomy i k with hlt | heq | hgt
 ·exact key i k _ _ hlt (get_at hi) (get_at hk) h
 ·subst heq;rfl
 ·exact (key k i _ _ hgt (get_at hk) (get_at hi) h.symm).symm
def stt (t:zac) (o:zab) (w:List Int):Nat:=pos (rowG t o w) (zhw t o)
theorem rowsA_map:zhw t o=(fstI (zlp t o) t.Prefixes.length).map fun i=>((zlp t o)[i]?).getD []:=by
 have:=addAll_fst (zlp t o) t.Prefixes.length (by simp [zlp]);rw [List.take_of_length_le (by simp [zlp])] at this;exact this
theorem rep_of {r:Row} (h:r∈zhw t o):∃ i,(fstI (zlp t o) t.Prefixes.length)[pos r (zhw t o)]?=some i∧i<t.Prefixes.length∧zwh t i∈t.Prefixes∧rowG t o (zwh t i)=r:=by
 have h1:=zn6 h;have h2:=@rowsA_map t o;rw [h2,List.getElem?_map] at h1;rw [← h2] at h1;obtain ⟨i,hi,h3⟩:=Option.map_eq_some_iff.1 h1;have hm:=mem_fstI.1 (zkH hi);have hp:=get_at hm.1;have hpa:zwh t i=t.Prefixes[i]:=by unfold zwh;rw [hp];rfl
 refine ⟨i,hi,hm.1,by rw [hpa];exact List.getElem_mem _,?_⟩;rw [hpa,← h3];unfold zlp;rw [List.getElem?_map,hp];rfl
theorem zds.at (H:zds t o) {r:Row} (h:r∈zhw t o):∃ q∈t.Prefixes,rowG t o q=r∧(hypT t o).M.Next[pos r (zhw t o)]?=some (zxi t o q)∧(hypT t o).M.Out[pos r (zhw t o)]?=some (outT t o q)∧(hypT t o).Access[pos r (zhw t o)]?=some q:=by
 obtain ⟨i,hi,_,h2,h3⟩:=rep_of h;refine ⟨zwh t i,h2,h3,?_,?_,?_⟩
 ·show ((fstI (zlp t o) t.Prefixes.length).map fun i=>zxi t o (zwh t i))[_]?=_;rw [List.getElem?_map,hi];rfl
 ·show ((fstI (zlp t o) t.Prefixes.length).map fun i=>outT t o (zwh t i))[_]?=_;rw [List.getElem?_map,hi];rfl
 ·show ((fstI (zlp t o) t.Prefixes.length).map (zwh t))[_]?=_;rw [List.getElem?_map,hi];rfl
theorem zt0 {q:List Int} {a:Nat} (ha:a<t.Inputs.toNat):(zxi t o q)[a]?=some (↑(stt t o (q++[(↑a:Int)])):Int):=by
 unfold zxi stt;rw [List.getElem?_map,List.getElem?_range ha];rfl
theorem outT_at {q:List Int} {a:Nat} (ha:a<t.Inputs.toNat):(outT t o q)[a]?=some ((((rowG t o q)[a]?).getD []).headD 0):=by
 unfold outT;rw [List.getElem?_map,List.getElem?_range ha];rfl
theorem zds.sym (H:zds t o) {p:List Int} (hp:p∈t.Prefixes) {k:Nat} {x:Int} (hx:p[k]?=some x):0≤x∧x<t.Inputs :=
 zdh ((zeq (zc5 H.hz).1).1 p hp) x (zkH hx)
theorem zds.nil (H:zds t o):t.Prefixes[0]?=some []:=by
 obtain ⟨hval,_,_⟩:=zc5 H.hz;obtain ⟨_,_,hA,_,_,_,_,hne⟩:=zez hval;obtain ⟨_,_,h0,_⟩:=zeq hval;have hl:0<t.Prefixes.length:=List.length_pos_iff.2 hne;obtain ⟨j,hj,e⟩:=List.mem_iff_getElem.1 h0;rcases Nat.eq_zero_or_pos j with rfl | hj0
 ·rw [get_at hj,e]
 ·have:=zu1 (hA.get hj0 (get_at hl) (get_at hj));rw [e] at this;have h2:=List.eq_nil_of_length_eq_zero (Nat.le_zero.1 this);rw [get_at hl,h2]
theorem zds.start (H:zds t o):stt t o []=0:=by
 have h0:=H.nil;unfold stt zhw
 have hp:zlp t o=rowG t o []::(zlp t o).drop 1:=by
  unfold zlp;cases hP:t.Prefixes with
  | nil=>rw [hP] at h0;cases h0
  | cons p ps =>
   rw [hP] at h0;injection h0 with h0
   subst h0;rfl
 rw [hp];show pos (rowG t o []) (zbs (addR [] (rowG t o [])) _)=0;rw [zx5 (mem_addR.2 (Or.inr rfl))];simp [addR,pos]
theorem zds.outs (H:zds t o) {p:List Int} (hp:p∈t.Prefixes):∃ ys,zd2 (hypT t o).M 0 p=some (ys,(↑(stt t o p):Int)):=by
 have hpw:=H.ht.pw p hp;have hval:=(zc5 H.hz).1;unfold zd2
 have key:=zbq (step:=fun (s:Int×List Int×Nat)=>zd2.s2 (hypT t o).M p s.1 s.2.1 s.2.2) (fun s=>s.2.2≤p.length∧s.1=(↑(stt t o (p.take s.2.2)):Int)∧s.2.1.length=s.2.2) (fun s=>p.length-s.2.2) (fun r=>r.1=(↑(stt t o p):Int)) (fun s ⟨g1,g2,g3⟩=>by
  obtain ⟨st,y,k⟩:=s
  simp only at g1 g2 g3
  subst g2
  simp only [zd2.s2]
  by_cases g4:k<p.length
  ·left
   have hx:=get_at g4
   obtain ⟨hx0,hx1⟩:=H.sym hp hx
   have hpre:=zlg hval _ p hp k rfl (by omega)
   have hpre1:=zlg hval _ p hp (k+1) rfl (by omega)
   have hxa:p[k]=((p[k].toNat:Nat):Int):=by omega
   have han:p[k].toNat<t.Inputs.toNat:=by omega
   obtain ⟨q,hq,q1,q2,q3,_⟩:=H.at (H.mem hpre)
   have q2:(hypT t o).M.Next[stt t o (p.take k)]?=some (zxi t o q):=q2
   have q3:(hypT t o).M.Out[stt t o (p.take k)]?=some (outT t o q):=q3
   have hcons:=H.cons hq hpre q1 han
   have hst:stt t o (q++[((p[k].toNat:Nat):Int)])=stt t o (p.take (k+1)):=by
    unfold stt
    rw [hcons,zbp hx,← hxa]
   refine ⟨((↑(stt t o (p.take (k+1))):Int),y++[(((rowG t o q)[p[k].toNat]?).getD []).headD 0],k+1),?_,⟨g4,rfl,by simp [g3]⟩,by simp only;omega⟩
   rw [zbw hx,zkD,zb2 rfl q3,zaq hx,zb2 hxa (outT_at han),zav (by unfold zbm;omega),zb2 rfl q2,zaq hx,zb2 hxa (zt0 han),hst]
  ·right
   have e:k=p.length:=by omega
   subst e
   rw [List.take_length]
   exact ⟨_,by rw [zkA (by omega),zkC],rfl⟩) fuel ((0:Int),[],0) ⟨Nat.zero_le _,by simp [H.start],rfl⟩ (by have:=za4;simp only;omega)
 obtain ⟨⟨st,ys⟩,e,hq⟩:=key;rw [e,zan];simp only at hq;subst hq;exact ⟨ys,rfl⟩
theorem zds.num (H:zds t o):(zhw t o).length=(fstI (zlp t o) t.Prefixes.length).length∧0<(zhw t o).length∧(zhw t o).length≤80:=by
 have h1:=@rowsA_map t o;have h2:=fstI_len (zlp t o) t.Prefixes.length;have h3:=H.ht.p;have h4:(zhw t o).length=(fstI (zlp t o) t.Prefixes.length).length:=by rw [h1,zkK]
 have h5:rowG t o []∈zhw t o:=H.mem (zkH H.nil);have h6:=List.length_pos_of_mem h5;omega
theorem zds.nlen (H:zds t o):(hypT t o).M.Next.length=(zhw t o).length∧(hypT t o).M.Out.length=(zhw t o).length∧(hypT t o).Access.length=(zhw t o).length:=by
 have:=H.num.1;unfold hypT;simp only [zkK];omega
theorem zds.state (H:zds t o) {s:Nat} (hs:s<(zhw t o).length):∃ q∈t.Prefixes,stt t o q=s∧(hypT t o).M.Next[s]?=some (zxi t o q)∧(hypT t o).M.Out[s]?=some (outT t o q)∧(hypT t o).Access[s]?=some q:=by
 have hm:=List.getElem_mem hs
 have hpos:pos (zhw t o)[s] (zhw t o)=s:=by
  -- the rows are all different
  have hnd:∀ (rs R:List Row),R.Nodup→(zbs R rs).Nodup:=by
   intro rs
   induction rs with
   | nil=>intro R h;exact h
   | cons r rs ih =>
    intro R h;show (zbs (addR R r) rs).Nodup;refine ih _ ?_;unfold addR;split
    ·exact h
    ·rename_i hn;rw [List.nodup_append]
     exact ⟨h,by simp,fun x hx y hy=>by
      rw [List.mem_singleton.1 hy]
      exact fun e=>hn (e ▸ hx)⟩
  have hN:(zhw t o).Nodup:=hnd _ _ List.nodup_nil;have h1:=zn6 hm;have h2:=pos_lt hm;have h3:=get_at h2;rw [h1] at h3;injection h3 with h3
  rcases Nat.lt_trichotomy (pos (zhw t o)[s] (zhw t o)) s with hlt | heq | hgt
  ·exact absurd h3.symm (List.pairwise_iff_getElem.1 hN _ _ h2 hs hlt)
  ·exact heq
  ·exact absurd h3 (List.pairwise_iff_getElem.1 hN _ _ hs h2 hgt)
 obtain ⟨q,hq,q1,q2,q3,q4⟩:=H.at hm;rw [hpos] at q2 q3 q4;exact ⟨q,hq,by unfold stt;rw [q1,hpos],q2,q3,q4⟩
theorem zds.out_rng (H:zds t o) {q:List Int} (hq:q∈t.Prefixes) {a:Nat} (ha:a<t.Inputs.toNat):0≤((((rowG t o q)[a]?).getD []).headD 0)∧((((rowG t o q)[a]?).getD []).headD 0)≤1048576:=by
 obtain ⟨hval,_,_⟩:=zc5 H.hz;obtain ⟨_,_,_,hAs,hsing,_⟩:=zez hval;obtain ⟨_,_,_,hsc⟩:=zeq hval;obtain ⟨y,z,y1,y2,y3⟩:=row_out H.hv (H.row hq) (zx2 hAs hsc hsing a ha);rw [y1];show 0≤y∧y≤1048576;have hy:y∈z:=List.mem_of_mem_drop (by rw [y3];simp);unfold ansO at y2;split at y2
 ·injection y2 with y2
  subst y2;cases hy
 ·obtain ⟨tr,htr,rfl⟩:=Option.map_eq_some_iff.1 y2;exact (H.hv.prop tr (List.mem_of_find?_eq_some htr)).1.2.2 y (List.mem_of_mem_take hy)
theorem zds.row_valid (H:zds t o) {s:Nat} (hs:s<(zhw t o).length):zgx (hypT t o).M (↑s:Int)=some 0:=by
 have hn:=H.ht.n;have hn1:1≤t.Inputs:=(zez (zc5 H.hz).1).1;obtain ⟨q,hq,_,q2,q3,_⟩:=H.state hs;have hl1:(zxi t o q).length=t.Inputs.toNat:=by simp [zxi]
 have hl2:(outT t o q).length=t.Inputs.toNat:=by simp [outT]
 have hI:(hypT t o).M.Inputs=t.Inputs:=rfl;have hnum:=H.num;unfold zgx;rw [hI,zb2 rfl q2,zkA (by omega),zkC,zb2 rfl q3,zkA (by omega),zan,zkC]
 have key:=zdy (step:=fun a=>zgx.s2 (hypT t o).M (↑s:Int) a) (r:=.inl ()) (fun a=>a≤t.Inputs.toNat) (fun a=>t.Inputs.toNat-a) (fun a g1=>by
  simp only [zgx.s2]
  rw [hI]
  by_cases g2:a<t.Inputs.toNat
  ·left
   have hlt:stt t o (q++[(↑a:Int)])<(zhw t o).length:=pos_lt (H.closed hq g2)
   obtain ⟨o1,o2⟩:=H.out_rng hq g2
   refine ⟨a+1,?_,by omega,by omega⟩
   rw [zkB (by omega),zkD,zb2 rfl q2,zaq (zt0 g2),zkA (by omega),zkC,zb2 rfl q2,zaq (zt0 g2),H.nlen.1,zkA (by omega),zkC,zb2 rfl q3,zaq (outT_at g2),zkA (by omega),zkC,zb2 rfl q3,zaq (outT_at g2),zkA (by omega),zan,zkC,zav (by unfold inR;omega)]
  ·right
   have e:a=t.Inputs.toNat:=by omega
   subst e
   rw [zkA (by omega),zkC]) (n:=fuel) (s:=0) (Nat.zero_le _) (by have:=za4;omega)
 rw [key,zan];rfl
theorem zds.valid6 (H:zds t o):zb6 (hypT t o).M=some 0:=by
 have hn:=H.ht.n;have hn1:1≤t.Inputs:=(zez (zc5 H.hz).1).1;have hI:(hypT t o).M.Inputs=t.Inputs:=rfl;have hS:(hypT t o).M.Start=0:=rfl;obtain ⟨l1,l2,l3⟩:=H.nlen;obtain ⟨_,n1,n2⟩:=H.num;unfold zb6;rw [hI,hS,l1,l2,zkA (by omega),zkC,zkA (by omega),zan,zkC,zkA (by omega),zkC,zkA (by omega),zkC,zkA (by omega),zkC,zkA (by omega),zan,zkC,zkA (by omega),zkC]
 have key:=zce (step:=fun s=>zb6.s2 (hypT t o).M s) (l:=(hypT t o).M.Next) (fun _ _=>(none:Option Int)) (fun i x hx=>by
  have hi:=(zkI.1 hx).1
  simp only [zb6.s2]
  rw [zbw hx,zkD,H.row_valid (by omega),zan]
  rfl) (by
  simp only [zb6.s2]
  rw [zcr]
  rfl) (by omega)
 rw [key,zan,zd5.2 fun i x _=>rfl];rfl
end
end
section
set_option maxRecDepth 100000
structure zhk (m:zal):Prop where
 i1:1≤m.Inputs
 i2:m.Inputs≤64
 n1:0<m.Next.length
 n2:m.Next.length≤128
 st:0≤m.Start∧m.Start<(↑m.Next.length:Int)
 ol:m.Out.length=m.Next.length
 row:∀ s,s<m.Next.length→∃ x y,m.Next[s]?=some x∧m.Out[s]?=some y∧(↑x.length:Int)=m.Inputs∧(↑y.length:Int)=m.Inputs∧(∀ u∈x,0≤u∧u<(↑m.Next.length:Int))∧∀ v∈y,0≤v∧v≤1048576
def nx (m:zal) (s a:Nat):Nat:=((((m.Next[s]?).getD [])[a]?).getD 0).toNat
def ot (m:zal) (s a:Nat):Int:=(((m.Out[s]?).getD [])[a]?).getD 0
section
variable {m:zal}
theorem zhk.at (H:zhk m) {s a:Nat} (hs:s<m.Next.length) (ha:a<m.Inputs.toNat):nx m s a<m.Next.length∧0≤ot m s a∧ot m s a≤1048576∧∃ x y,m.Next[s]?=some x∧m.Out[s]?=some y∧x[a]?=some (↑(nx m s a):Int)∧y[a]?=some (ot m s a):=by
 obtain ⟨x,y,h1,h2,h3,h4,h5,h6⟩:=H.row s hs;have hx:=get_at (l:=x) (i:=a) (by omega);have hy:=get_at (l:=y) (i:=a) (by omega)
 have e1:nx m s a=(x[a]'(by omega)).toNat:=by
  unfold nx;rw [h1,Option.getD_some,hx,Option.getD_some]
 have e2:ot m s a=y[a]'(by omega):=by
  unfold ot;rw [h2,Option.getD_some,hy,Option.getD_some]
 have g1:=h5 _ (List.getElem_mem (by omega:a<x.length));have g2:=h6 _ (List.getElem_mem (by omega:a<y.length));refine ⟨by rw [e1];omega,by rw [e2];exact g2.1,by rw [e2];exact g2.2,x,y,h1,h2,?_,by rw [e2];exact hy⟩;rw [hx,e1];congr 1;omega
def outs (m:zal):Nat→List Int→List Int
 | _,[]=>[]
 | s,a::w=>ot m s a.toNat::outs m (nx m s a.toNat) w
def dest (m:zal):Nat→List Int→Nat
 | s,[]=>s
 | s,a::w=>dest m (nx m s a.toNat) w
def WOk (n:Int) (w:List Int):Prop:=∀ a∈w,0≤a∧a<n
theorem zhh:∀ (w v:List Int) (s:Nat),outs m s (w++v)=outs m s w++outs m (dest m s w) v
 | [],_,_=>rfl
 | a::w,v,s=>by
  show ot m s a.toNat::outs m (nx m s a.toNat) (w++v)=_;rw [zhh w v];rfl
theorem zkd:∀ (w v:List Int) (s:Nat),dest m s (w++v)=dest m (dest m s w) v
 | [],_,_=>rfl
 | _::w,v,_=>zkd w v _
theorem zis:∀ (w:List Int) (s:Nat),(outs m s w).length=w.length
 | [],_=>rfl
 | a::w,s=>by
  show (outs m (nx m s a.toNat) w).length+1=w.length+1;rw [zis w]
theorem WOk.tail {n:Int} {a:Int} {w:List Int} (h:WOk n (a::w)):WOk n w:=fun x hx=>h x (List.mem_cons_of_mem _ hx)
theorem WOk.head {n:Int} {a:Int} {w:List Int} (h:WOk n (a::w)):0≤a∧a<n:=h a (by simp)
theorem WOk.take {n:Int} {w:List Int} (h:WOk n w) (k:Nat):WOk n (w.take k):=fun x hx=>h x (List.mem_of_mem_take hx)
theorem WOk.append {n:Int} {w v:List Int} (h:WOk n w) (g:WOk n v):WOk n (w++v):=fun x hx=>(List.mem_append.1 hx).elim (h x) (g x)
theorem zhk.dest (H:zhk m):∀ {w:List Int} {s:Nat},WOk m.Inputs w→s<m.Next.length→dest m s w<m.Next.length
 | [],_,_,hs=>hs
 | a::w,s,hw,hs=>by
  have:=hw.head;exact H.dest (w:=w) hw.tail (H.at hs (a:=a.toNat) (by omega)).1
theorem zv6 (H:zhk m) {s:Nat} (hs:s<m.Next.length) {w:List Int} (hw:WOk m.Inputs w) (hl:w.length≤100000000):zd2 m (↑s:Int) w=some (outs m s w,(↑(dest m s w):Int)):=by
 unfold zd2
 have key:=zdy (step:=fun (q:Int×List Int×Nat)=>zd2.s2 m w q.1 q.2.1 q.2.2) (r:=((↑(dest m s w):Int),outs m s w)) (fun q=>q.2.2≤w.length∧q.1=(↑(dest m s (w.take q.2.2)):Int)∧q.2.1=outs m s (w.take q.2.2)) (fun q=>w.length-q.2.2) (fun q ⟨g1,g2,g3⟩=>by
  obtain ⟨st,y,k⟩:=q
  simp only at g1 g2 g3
  subst g2
  subst g3
  simp only [zd2.s2]
  by_cases g4:k<w.length
  ·left
   have hx:=get_at g4
   obtain ⟨x0,x1⟩:=hw _ (List.getElem_mem g4)
   have ha:w[k].toNat<m.Inputs.toNat:=by omega
   have hd:Sym.dest m s (w.take k)<m.Next.length:=H.dest (hw.take k) hs
   obtain ⟨_,_,_,x,y,e1,e2,e3,e4⟩:=H.at hd ha
   refine ⟨((↑(Sym.dest m s (w.take (k+1))):Int),outs m s (w.take (k+1)),k+1),?_,⟨g4,rfl,rfl⟩,by simp only;omega⟩
   rw [zbw hx,zkD,zb2 rfl e2,zaq hx,zb2 (i:=w[k].toNat) (by omega) e4,zav (by unfold zbm;rw [zis,List.length_take];omega),zb2 rfl e1,zaq hx,zb2 (i:=w[k].toNat) (by omega) e3,zbp hx,zkd,zhh]
   rfl
  ·right
   have e:k=w.length:=by omega
   subst e
   rw [zkA (by omega),zkC,List.take_length]) (n:=fuel) (s:=((↑s:Int),[],0)) ⟨Nat.zero_le _,rfl,rfl⟩ (by have:=za4;simp only;omega)
 rw [key,zan];rfl
def RowRng (n:Nat) (u v:Int):Prop:=(0≤u∧u<(↑n:Int))∧0≤v∧v≤1048576
theorem R06_row_tot (h1:m.Inputs≤64) {s:Nat} (hs:s<m.Next.length) (ho:m.Out.length=m.Next.length):∃ e,zgx m (↑s:Int)=some e∧(e=0→∃ x y,m.Next[s]?=some x∧m.Out[s]?=some y∧(↑x.length:Int)=m.Inputs∧(↑y.length:Int)=m.Inputs∧(∀ u∈x,0≤u∧u<(↑m.Next.length:Int))∧∀ v∈y,0≤v∧v≤1048576):=by
 obtain ⟨x,hx⟩:∃ x,m.Next[s]?=some x:=⟨_,get_at hs⟩;obtain ⟨y,hy⟩:∃ y,m.Out[s]?=some y:=⟨_,get_at (l:=m.Out) (i:=s) (by omega)⟩;unfold zgx;rw [zb2 rfl hx];by_cases g1:(↑x.length:Int)=m.Inputs
 ·by_cases g2:(↑y.length:Int)=m.Inputs
  ·rw [zkA (fun h=>h g1),zkC,zb2 rfl hy,zkA (fun h=>h g2),zan,zkC]
   obtain ⟨r,hr,hq⟩:=zbq (step:=fun a=>zgx.s2 m (↑s:Int) a) (fun a=>a≤x.length∧∀ b u v,b<a→x[b]?=some u→y[b]?=some v→RowRng m.Next.length u v) (fun a=>x.length-a) (fun r=>r=.inr 2∨(r=.inl ()∧∀ b u v,b<x.length→x[b]?=some u→y[b]?=some v→RowRng m.Next.length u v)) (fun a ⟨q1,q2⟩=>by
    simp only [zgx.s2]
    by_cases q3:a<x.length
    ·obtain ⟨u,ha⟩:∃ u,x[a]?=some u:=⟨_,get_at q3⟩
     obtain ⟨v,hb⟩:∃ v,y[a]?=some v:=⟨_,get_at (l:=y) (i:=a) (by omega)⟩
     rw [zkB (by omega),zkD,zb2 rfl hx,zaq ha]
     by_cases z1:u<0
     ·right
      exact ⟨.inr 2,by rw [zkB z1];rfl,Or.inl rfl⟩
     rw [zkA z1,zkC,zb2 rfl hx,zaq ha]
     by_cases z2:(↑m.Next.length:Int)≤u
     ·right
      exact ⟨.inr 2,by rw [zkB z2];rfl,Or.inl rfl⟩
     rw [zkA z2,zkC,zb2 rfl hy,zaq hb]
     by_cases z3:v<0
     ·right
      exact ⟨.inr 2,by rw [zkB z3];rfl,Or.inl rfl⟩
     rw [zkA z3,zkC,zb2 rfl hy,zaq hb]
     by_cases z4:1048576<v
     ·right
      exact ⟨.inr 2,by rw [zkB z4];rfl,Or.inl rfl⟩
     left
     refine ⟨a+1,by rw [zkA z4,zan,zkC,zav (by unfold inR;omega)],⟨q3,fun b u' v' hb' hu hv=>?_⟩,by omega⟩
     rcases Nat.lt_or_ge b a with h | h
     ·exact q2 b u' v' h hu hv
     ·have e:b=a:=by omega
      subst e
      rw [ha] at hu
      rw [hb] at hv
      injection hu with hu
      injection hv with hv
      subst hu
      subst hv
      exact ⟨⟨by omega,by omega⟩,by omega,by omega⟩
    ·right
     have e:a=x.length:=by omega
     subst e
     exact ⟨.inl (),by rw [zkA (by omega),zkC],Or.inr ⟨rfl,q2⟩⟩) fuel 0 ⟨Nat.zero_le _,fun b _ _ h=>absurd h (Nat.not_lt_zero _)⟩ (by have:=za4;omega)
   rw [hr,zan];rcases hq with rfl | ⟨rfl,hq⟩
   ·exact ⟨2,rfl,fun h=>by cases h⟩
   ·refine ⟨0,rfl,fun _=>⟨x,y,hx,hy,g1,g2,fun u hu=>?_,fun v hv=>?_⟩⟩
    ·obtain ⟨b,hb,rfl⟩:=List.mem_iff_getElem.1 hu;exact (hq b _ _ hb (get_at hb) (get_at (l:=y) (by omega))).1
    ·obtain ⟨b,hb,rfl⟩:=List.mem_iff_getElem.1 hv;exact (hq b _ _ (by omega) (get_at (l:=x) (by omega)) (get_at hb)).2
  ·exact ⟨1,by rw [zkA (fun h=>h g1),zkC,zb2 rfl hy,zkB g2];rfl,fun h=>by cases h⟩
 ·exact ⟨1,by rw [zkB g1];rfl,fun h=>by cases h⟩
theorem zq4 (m:zal):∃ e,zb6 m=some e∧(e=0→zhk m):=by
 unfold zb6;by_cases c1:m.Inputs<1
 ·exact ⟨2,by rw [zkB c1];rfl,fun h=>by cases h⟩
 rw [zkA c1,zkC];by_cases c2:64<m.Inputs
 ·exact ⟨2,by rw [zkB c2];rfl,fun h=>by cases h⟩
 rw [zkA c2,zan,zkC];by_cases c3:(↑m.Next.length:Int)=0
 ·exact ⟨19,by rw [zkB c3];rfl,fun h=>by cases h⟩
 rw [zkA c3,zkC];by_cases c4:128<(↑m.Next.length:Int)
 ·exact ⟨11,by rw [zkB c4];rfl,fun h=>by cases h⟩
 rw [zkA c4,zkC];by_cases c5:m.Start<0
 ·exact ⟨2,by rw [zkB c5];rfl,fun h=>by cases h⟩
 rw [zkA c5,zkC];by_cases c6:(↑m.Next.length:Int)≤m.Start
 ·exact ⟨2,by rw [zkB c6];rfl,fun h=>by cases h⟩
 rw [zkA c6,zan,zkC];by_cases c7:(↑m.Out.length:Int)=(↑m.Next.length:Int)
 ·rw [zkA (fun h=>h c7),zkC];have ho:m.Out.length=m.Next.length:=by omega
  obtain ⟨r,hr,hq⟩:=zbq (step:=fun s=>zb6.s2 m s) (fun a=>a≤m.Next.length∧∀ s,s<a→∃ x y,m.Next[s]?=some x∧m.Out[s]?=some y∧(↑x.length:Int)=m.Inputs∧(↑y.length:Int)=m.Inputs∧(∀ u∈x,0≤u∧u<(↑m.Next.length:Int))∧∀ v∈y,0≤v∧v≤1048576) (fun a=>m.Next.length-a) (fun r=>(∃ e,r=.inr e∧e≠0)∨(r=.inl ()∧∀ s,s<m.Next.length→∃ x y,m.Next[s]?=some x∧m.Out[s]?=some y∧(↑x.length:Int)=m.Inputs∧(↑y.length:Int)=m.Inputs∧(∀ u∈x,0≤u∧u<(↑m.Next.length:Int))∧∀ v∈y,0≤v∧v≤1048576)) (fun a ⟨q1,q2⟩=>by
   simp only [zb6.s2]
   by_cases q3:a<m.Next.length
   ·obtain ⟨e,he,hz⟩:=R06_row_tot (m:=m) (by omega) q3 ho
    rw [zkB (by omega),zkD,he,zan]
    by_cases z:e=0
    ·left
     refine ⟨a+1,by rw [zkA (fun h=>h z),zkC],⟨q3,fun s hs=>?_⟩,by omega⟩
     rcases Nat.lt_or_ge s a with h | h
     ·exact q2 s h
     ·have e2:s=a:=by omega
      subst e2
      exact hz z
    ·right
     exact ⟨.inr e,by rw [zkB z,zkD],Or.inl ⟨e,rfl,z⟩⟩
   ·right
    have e:a=m.Next.length:=by omega
    subst e
    exact ⟨.inl (),by rw [zkA (by omega),zkC],Or.inr ⟨rfl,q2⟩⟩) fuel 0 ⟨Nat.zero_le _,fun s h=>absurd h (Nat.not_lt_zero _)⟩ (by have:=za4;omega)
  rw [hr,zan];rcases hq with ⟨e,rfl,hz⟩ | ⟨rfl,hq⟩
  ·exact ⟨e,rfl,fun h=>absurd h hz⟩
  ·exact ⟨0,rfl,fun _=>⟨by omega,by omega,by omega,by omega,⟨by omega,by omega⟩,ho,hq⟩⟩
 ·exact ⟨1,by rw [zkB c7];rfl,fun h=>by cases h⟩
theorem zrk (h:zb6 m=some 0):zhk m:=by
 obtain ⟨e,he,hz⟩:=zq4 m;rw [h] at he;injection he with he
 exact hz he.symm
end
end
section
set_option maxRecDepth 100000
def E (m:zal):Nat→Nat→Nat→Prop
 | 0,_,_=>True
 | k+1,s,t=>E m k s t∧∀ a,a<m.Inputs.toNat→ot m s a=ot m t a∧E m k (nx m s a) (nx m t a)
section
variable {m:zal}
theorem E_refl:∀ (k s:Nat),E m k s s
 | 0,_=>trivial
 | k+1,s=>⟨E_refl k s,fun _ _=>⟨rfl,E_refl k _⟩⟩
theorem zs8:∀ {k s t:Nat},E m k s t→E m k t s
 | 0,_,_,_=>trivial
 | _+1,_,_,h=>⟨zs8 h.1,fun a ha=>⟨(h.2 a ha).1.symm,zs8 (h.2 a ha).2⟩⟩
theorem zk9:∀ {k s t u:Nat},E m k s t→E m k t u→E m k s u
 | 0,_,_,_,_,_=>trivial
 | _+1,_,_,_,h,g=>⟨zk9 h.1 g.1,fun a ha=>⟨(h.2 a ha).1.trans (g.2 a ha).1,zk9 (h.2 a ha).2 (g.2 a ha).2⟩⟩
theorem E_mono {k j s t:Nat} (hk:k≤j) (h:E m j s t):E m k s t:=by
 induction j with
 | zero =>
  have e:k=0:=by omega
  subst e;exact h
 | succ j ih =>
  rcases Nat.lt_or_ge k (j+1) with h1 | h1
  ·exact ih (by omega) h.1
  ·have e:k=j+1:=by omega
   subst e;exact h
theorem E_outs:∀ {w:List Int} {s t:Nat},E m w.length s t→WOk m.Inputs w→outs m s w=outs m t w
 | [],_,_,_,_=>rfl
 | a::w,s,t,h,hw=>by
  have ha:=hw.head;obtain ⟨h1,h2⟩:=h.2 a.toNat (by omega);show ot m s a.toNat::outs m _ w=ot m t a.toNat::outs m _ w;rw [h1,E_outs (w:=w) h2 hw.tail]
structure zqh (m:zal) (k:Nat) (c:List Int):Prop where
 len:c.length=m.Next.length
 rng:∀ s,s<m.Next.length→∃ x:Nat,c[s]?=some (↑x:Int)∧x<m.Next.length
 cls:∀ s t,s<m.Next.length→t<m.Next.length→(c[s]?=c[t]?↔E m k s t)
def Alike (m:zal) (c:List Int) (s t a:Nat):Prop:=c[s]?=c[t]?∧∀ b,b<a→ot m s b=ot m t b∧c[nx m s b]?=c[nx m t b]?
theorem alike_iff (H:zhk m) {k:Nat} {c:List Int} (C:zqh m k c) {s t:Nat} (hs:s<m.Next.length) (ht:t<m.Next.length):Alike m c s t m.Inputs.toNat↔E m (k+1) s t:=by
 constructor
 ·rintro ⟨h1,h2⟩;exact ⟨(C.cls s t hs ht).1 h1,fun a ha=>⟨(h2 a ha).1,(C.cls _ _ (H.at hs ha).1 (H.at ht ha).1).1 (h2 a ha).2⟩⟩
 ·rintro ⟨h1,h2⟩;exact ⟨(C.cls s t hs ht).2 h1,fun a ha=>⟨(h2 a ha).1,(C.cls _ _ (H.at hs ha).1 (H.at ht ha).1).2 (h2 a ha).2⟩⟩
theorem finer_same (H:zhk m) {k:Nat} {c:List Int} (C:zqh m k c) {s t:Nat} (hs:s<m.Next.length) (ht:t<m.Next.length) {b0:Bool} (hb:b0=true↔c[s]?=c[t]?) :
  ∃ r:Bool,iter (fun (q:Bool×Nat)=>zc9.s89 m c s (↑t:Int) q.1 q.2) fuel (b0,0)=some r∧(r=true↔E m (k+1) s t):=by
 have hI:=H.i2
 obtain ⟨r,hr,hq⟩:=zbq (step:=fun (q:Bool×Nat)=>zc9.s89 m c s (↑t:Int) q.1 q.2) (fun q=>q.2≤m.Inputs.toNat∧(q.1=true↔Alike m c s t q.2)) (fun q=>m.Inputs.toNat-q.2) (fun r=>r=true↔Alike m c s t m.Inputs.toNat) (fun q ⟨g1,g2⟩=>by
  obtain ⟨b,a⟩:=q
  simp only at g1 g2
  simp only [zc9.s89]
  by_cases g3:a<m.Inputs.toNat
  ·rw [zkB (by omega),zkD,zan]
   cases b with
   | false =>
    right
    rw [zkC]
    exact ⟨false,rfl,⟨fun h=>(by cases h),fun h=>absurd (g2.2 ⟨h.1,fun b hb=>h.2 b (by omega)⟩) (by simp)⟩⟩
   | true =>
    left
    obtain ⟨s1,_,_,x,y,e1,e2,e3,e4⟩:=H.at hs g3
    obtain ⟨t1,_,_,x',y',f1,f2,f3,f4⟩:=H.at ht g3
    obtain ⟨u,u1,u2⟩:=C.rng _ s1
    obtain ⟨v,v1,v2⟩:=C.rng _ t1
    have g2:=g2.1 rfl
    rw [zkD,zaq e2,zaq e4,zb2 rfl f2,zaq f4]
    by_cases g4:ot m s a=ot m t a
    ·refine ⟨(decide ((↑u:Int)=(↑v:Int)),a+1),?_,⟨g3,?_⟩,by simp only;omega⟩
     ·rw [zkB g4,zkD,zaq e1,zaq e3,zb2 rfl u1,zb2 rfl f1,zaq f3,zb2 rfl v1,zav (by unfold inR;omega)]
     ·simp only [decide_eq_true_eq]
      constructor
      ·intro h
       refine ⟨g2.1,fun b hb=>?_⟩
       rcases Nat.lt_or_ge b a with h1 | h1
       ·exact g2.2 b h1
       ·have e:b=a:=by omega
        subst e
        exact ⟨g4,by rw [u1,v1,h]⟩
      ·intro h
       have h1:=(h.2 a (by omega)).2
       rw [u1,v1] at h1
       injection h1
    ·refine ⟨(false,a+1),?_,⟨g3,?_⟩,by simp only;omega⟩
     ·rw [zkA g4,zkC,zav (by unfold inR;omega)]
     ·exact ⟨fun h=>(by cases h),fun h=>absurd (h.2 a (by omega)).1 g4⟩
  ·right
   have e:a=m.Inputs.toNat:=by omega
   subst e
   exact ⟨b,by rw [zkA (by omega),zkC,zan,zkC],g2⟩) fuel (b0,0) ⟨Nat.zero_le _,by rw [hb];exact ⟨fun h=>⟨h,fun b hb=>absurd hb (Nat.not_lt_zero _)⟩,fun h=>h.1⟩⟩ (by have:=za4;simp only;omega)
 exact ⟨r,hr,hq.trans (alike_iff H C hs ht)⟩
theorem finer_found (H:zhk m) {k:Nat} {c:List Int} (C:zqh m k c) {s:Nat} (hs:s<m.Next.length) {y:List Int} (hy:y.length=s) :
  ∃ r:Int,iter (fun (q:Int×Int)=>zc9.s90 m c y s q.1 q.2) fuel ((-1:Int),(↑s:Int)-1)=some r∧((r=-1∧∀ t,t<s→¬ E m (k+1) s t)∨∃ t,t<s∧E m (k+1) s t∧y[t]?=some r):=by
 have hn:=H.n2
 obtain ⟨r,hr,hq⟩:=zbq (step:=fun (q:Int×Int)=>zc9.s90 m c y s q.1 q.2) (fun q=>-1≤q.2∧q.2<(↑s:Int)∧((q.1=-1∧∀ t:Nat,q.2<(↑t:Int)→t<s→¬ E m (k+1) s t)∨∃ t,t<s∧E m (k+1) s t∧y[t]?=some q.1)) (fun q=>(q.2+1).toNat) (fun r=>(r=-1∧∀ t,t<s→¬ E m (k+1) s t)∨∃ t,t<s∧E m (k+1) s t∧y[t]?=some r) (fun q ⟨g1,g2,g3⟩=>by
  obtain ⟨f,t⟩:=q
  simp only at g1 g2 g3
  simp only [zc9.s90]
  by_cases g4:0≤t
  ·left
   obtain ⟨t,rfl⟩:∃ t':Nat,t=(↑t':Int):=⟨t.toNat,by omega⟩
   have hts:t<s:=by omega
   have ht:t<m.Next.length:=by omega
   obtain ⟨u,u1,u2⟩:=C.rng s hs
   obtain ⟨v,v1,v2⟩:=C.rng t ht
   obtain ⟨b,b1,b2⟩:=finer_same H C hs ht (b0:=decide ((↑u:Int)=(↑v:Int))) (by
    rw [u1,v1,decide_eq_true_eq]
    exact ⟨fun h=>by rw [h],fun h=>by injection h⟩)
   have hyt:=get_at (l:=y) (i:=t) (by omega)
   rw [zkB g4,zkD,zaq u1,zb2 rfl v1,b1,zan]
   cases b with
   | true =>
    refine ⟨(y[t]'(by omega),(↑t:Int)-1),by rw [zkD,zb2 rfl hyt,zav (by unfold inR;omega)],⟨by simp only;omega,by simp only;omega,Or.inr ⟨t,hts,b2.1 rfl,hyt⟩⟩,by simp only;omega⟩
   | false =>
    refine ⟨(f,(↑t:Int)-1),by rw [zkC,zav (by unfold inR;omega)],⟨by simp only;omega,by simp only;omega,?_⟩,by simp only;omega⟩
    rcases g3 with ⟨h1,h2⟩ | h
    ·refine Or.inl ⟨h1,fun t' h3 h4=>?_⟩
     simp only at h3
     by_cases e:t'=t
     ·subst e
      exact fun h=>absurd (b2.2 h) (by simp)
     ·exact h2 t' (by omega) h4
    ·exact Or.inr h
  ·right
   have e:t=-1:=by omega
   subst e
   refine ⟨f,by rw [zkA (by omega),zkC],?_⟩
   rcases g3 with ⟨h1,h2⟩ | h
   ·exact Or.inl ⟨h1,fun t' h4=>h2 t' (by omega) h4⟩
   ·exact Or.inr h) fuel ((-1:Int),(↑s:Int)-1) ⟨by simp only;omega,by simp only;omega,Or.inl ⟨rfl,fun t h1 h2=>by simp only at h1;omega⟩⟩ (by have:=za4;simp only;omega)
 exact ⟨r,hr,hq⟩
structure FinOk (m:zal) (k:Nat) (y:List Int) (n s:Nat):Prop where
 ls:s≤m.Next.length
 len:y.length=s
 cnt:n≤s
 rng:∀ i,i<s→∃ x:Nat,y[i]?=some (↑x:Int)∧x<n
 cls:∀ i j,i<s→j<s→(y[i]?=y[j]?↔E m k i j)
theorem R08_finer_eq (H:zhk m) {k:Nat} {c:List Int} (C:zqh m k c):∃ c',zc9 m c=some c'∧zqh m (k+1) c':=by
 have hn:=H.n2;unfold zc9
 obtain ⟨r,hr,n,hq⟩:=zbq (step:=fun (q:List Int×Nat×Nat)=>zc9.s92 m c q.1 q.2.1 q.2.2) (fun q=>FinOk m (k+1) q.1 q.2.1 q.2.2) (fun q=>m.Next.length-q.2.2) (fun r=>∃ n,FinOk m (k+1) r n m.Next.length) (fun q Q=>by
  obtain ⟨y,n,s⟩:=q
  simp only at Q
  have hc:=Q.cnt
  have hl:=Q.len
  have hls:=Q.ls
  simp only [zc9.s92]
  rw [C.len]
  by_cases g1:s<m.Next.length
  ·left
   obtain ⟨f,f1,f2⟩:=finer_found H C g1 Q.len
   rw [zkB (by omega),zkD,f1,zan]
   rcases f2 with ⟨rfl,f2⟩ | ⟨t,ht,hE,f2⟩
   ·-- a class of its own
    rw [zkB (by omega),zkD,zav (by unfold inR;omega),zan]
    refine ⟨(y++[(↑n:Int)],n+1,s+1),by simp only [zc9.k91];rw [zav (by unfold zbm;omega)],(show FinOk m (k+1) (y++[(↑n:Int)]) (n+1) (s+1) from ⟨g1,by simp [Q.len],by omega,fun i hi=>?_,fun i j hi hj=>?_⟩),by simp only;omega⟩
    ·rcases Nat.lt_or_ge i s with h | h
     ·obtain ⟨x,x1,x2⟩:=Q.rng i h
      exact ⟨x,by rw [List.getElem?_append_left (by omega),x1],by omega⟩
     ·have e:i=y.length:=by omega
      subst e
      exact ⟨n,by simp,by omega⟩
    ·have old:∀ i,i<s→(y++[(↑n:Int)])[i]?=y[i]?:=fun i hi=>List.getElem?_append_left (by omega)
     have new:(y++[(↑n:Int)])[s]?=some (↑n:Int):=by rw [List.getElem?_append_right (by omega),hl,Nat.sub_self];rfl
     have ne:∀ i,i<s→y[i]?≠some (↑n:Int):=fun i hi h=>by
      obtain ⟨x,x1,x2⟩:=Q.rng i hi
      rw [x1] at h
      injection h with h
      omega
     rcases Nat.lt_or_ge i s with h | h<;>rcases Nat.lt_or_ge j s with h' | h'
     ·rw [old i h,old j h']
      exact Q.cls i j h h'
     ·have e:j=s:=by omega
      subst e
      rw [old i h,new]
      exact ⟨fun h2=>absurd h2 (ne i h),fun h2=>absurd (zs8 h2) (f2 i h)⟩
     ·have e:i=s:=by omega
      subst e
      rw [old j h',new]
      exact ⟨fun h2=>absurd h2.symm (ne j h'),fun h2=>absurd h2 (f2 j h')⟩
     ·have e:i=s:=by omega
      have e':j=s:=by omega
      subst e
      subst e'
      exact ⟨fun _=>E_refl _ _,fun _=>rfl⟩
   ·obtain ⟨x,x1,x2⟩:=Q.rng t ht
    rw [f2] at x1
    injection x1 with x1
    subst x1
    rw [zkA (by omega),zkC,zan]
    refine ⟨(y++[(↑x:Int)],n,s+1),by simp only [zc9.k91];rw [zav (by unfold zbm;omega)],(show FinOk m (k+1) (y++[(↑x:Int)]) n (s+1) from ⟨g1,by simp [Q.len],by omega,fun i hi=>?_,fun i j hi hj=>?_⟩),by simp only;omega⟩
    ·rcases Nat.lt_or_ge i s with h | h
     ·obtain ⟨z,z1,z2⟩:=Q.rng i h
      exact ⟨z,by rw [List.getElem?_append_left (by omega),z1],z2⟩
     ·have e:i=y.length:=by omega
      subst e
      exact ⟨x,by simp,x2⟩
    ·have old:∀ i,i<s→(y++[(↑x:Int)])[i]?=y[i]?:=fun i hi=>List.getElem?_append_left (by omega)
     have new:(y++[(↑x:Int)])[s]?=y[t]?:=by rw [List.getElem?_append_right (by omega),hl,Nat.sub_self,f2];rfl
     rcases Nat.lt_or_ge i s with h | h<;>rcases Nat.lt_or_ge j s with h' | h'
     ·rw [old i h,old j h']
      exact Q.cls i j h h'
     ·have e:j=s:=by omega
      subst e
      rw [old i h,new,Q.cls i t h ht]
      exact ⟨fun h2=>zk9 h2 (zs8 hE),fun h2=>zk9 h2 hE⟩
     ·have e:i=s:=by omega
      subst e
      rw [old j h',new,Q.cls t j ht h']
      exact ⟨fun h2=>zk9 hE h2,fun h2=>zk9 (zs8 hE) h2⟩
     ·have e:i=s:=by omega
      have e':j=s:=by omega
      subst e
      subst e'
      exact ⟨fun _=>E_refl _ _,fun _=>rfl⟩
  ·right
   have e:s=m.Next.length:=by omega
   subst e
   exact ⟨y,by rw [zkA (by omega),zkC],n,Q⟩) fuel ([],0,0) ⟨Nat.zero_le _,rfl,Nat.le_refl _,fun i h=>absurd h (Nat.not_lt_zero _),fun i j h=>absurd h (Nat.not_lt_zero _)⟩ (by have:=za4;simp only;omega)
 refine ⟨r,by rw [hr,zan],hq.len,fun s hs=>?_,fun s t hs ht=>hq.cls s t hs ht⟩;obtain ⟨x,x1,x2⟩:=hq.rng s hs;have:=hq.cnt;exact ⟨x,x1,by omega⟩
theorem ztw (hv:zb6 m=some 0) (k:Nat):∃ c,zfq m (↑k:Int)=some (c,0)∧zqh m (min k m.Next.length) c:=by
 have H:=zrk hv;have hn:=H.n2;unfold zfq;rw [hv,zan,zkA (by simp),zkC,zav ⟨by omega,by omega,by unfold zbm;omega⟩]
 obtain ⟨r,hr,hq⟩:=zbq (step:=fun (q:List Int×Nat)=>zfq.s2 m (↑k:Int) q.1 q.2) (fun q=>q.2≤min k m.Next.length∧zqh m q.2 q.1) (fun q=>min k m.Next.length-q.2) (fun r=>zqh m (min k m.Next.length) r) (fun q ⟨g1,g2⟩=>by
  obtain ⟨y,i⟩:=q
  simp only at g1 g2
  simp only [zfq.s2]
  by_cases g3:i<min k m.Next.length
  ·left
   obtain ⟨c',e1,e2⟩:=R08_finer_eq H g2
   refine ⟨(c',i+1),?_,⟨g3,e2⟩,by simp only;omega⟩
   rw [zkB (by omega),zkD,zan,zkB (by omega),zkD,e1,zan,zav (by unfold inR;omega)]
  ·right
   have e:i=min k m.Next.length:=by omega
   refine ⟨y,?_,e ▸ g2⟩
   by_cases h:i<k
   ·rw [zkB (by omega),zkD,zan,zkA (by omega),zkC]
   ·rw [zkA (by omega),zkC,zan,zkC]) fuel ((List.replicate m.Next.length 0),0) ⟨Nat.zero_le _,⟨by simp,fun s hs=>⟨0,by simp [hs],H.n1⟩,fun s t hs ht=>⟨fun _=>trivial,fun _=>by simp [hs,ht]⟩⟩⟩ (by have:=za4;simp only;omega)
 exact ⟨r,by rw [hr,zan],hq⟩
theorem ztd {α:Type} {p q:α→Bool}:∀ {l:List α},(∀ x∈l,p x=true→q x=true)→l.countP q≤l.countP p→∀ x∈l,q x=true→p x=true
 | [],_,_,x,hx,_=>by cases hx
 | y::l,h,hc,x,hx,hq=>by
  have h1:l.countP p≤l.countP q:=List.countP_mono_left fun x hx=>h x (List.mem_cons_of_mem _ hx);rw [List.countP_cons,List.countP_cons] at hc;have h2:=h y (List.mem_cons_self ..)
  have h3:l.countP q≤l.countP p∧(q y=true→p y=true):=by
   cases e1:q y<;>cases e2:p y<;>simp [e1,e2] at hc h2 ⊢<;>omega
  rcases List.mem_cons.1 hx with rfl | hx
  ·exact h3.2 hq
  ·exact ztd (fun x hx=>h x (List.mem_cons_of_mem _ hx)) h3.1 x hx hq
def Rep (m:zal) (k s:Nat):Prop:=∀ t,t<s→¬ E m k s t
open Classical in
noncomputable def nreps (m:zal) (k:Nat):Nat:=(List.range m.Next.length).countP fun s=>decide (Rep m k s)
theorem zxy (k:Nat):∀ (s:Nat),∃ r,r≤s∧Rep m k r∧E m k s r:=by
 intro s
 induction s using Nat.strongRecOn with
 | ind s ih =>
  by_cases h:Rep m k s
  ·exact ⟨s,Nat.le_refl _,h,E_refl _ _⟩
  ·have ⟨t,h1⟩:=Classical.not_forall.1 h;obtain ⟨h2,h3⟩:=Classical.not_imp.1 h1;have h3:=Classical.not_not.1 h3;obtain ⟨r,r1,r2,r3⟩:=ih t h2;exact ⟨r,by omega,r2,zk9 h3 r3⟩
def Stab (m:zal) (k:Nat):Prop:=∀ s t,s<m.Next.length→t<m.Next.length→E m k s t→E m (k+1) s t
theorem rep_succ {k s:Nat} (h:Rep m k s):Rep m (k+1) s:=fun t ht hE=>h t ht hE.1
open Classical in
open Classical in
theorem stab_of {k:Nat} (h:nreps m (k+1)≤nreps m k):Stab m k:=by
 intro s t hs ht hE;unfold nreps at h;have key:=ztd (l:=List.range m.Next.length) (fun s _ h=>zkB (rep_succ (of_decide_eq_true h))) h;obtain ⟨r,r1,r2,r3⟩:=zxy (m:=m) (k+1) s;obtain ⟨u,u1,u2,u3⟩:=zxy (m:=m) (k+1) t;have r4:Rep m k r:=of_decide_eq_true (key r (List.mem_range.2 (by omega)) (zkB r2));have u4:Rep m k u:=of_decide_eq_true (key u (List.mem_range.2 (by omega)) (zkB u2));have hru:E m k r u:=zk9 (zs8 r3.1) (zk9 hE u3.1)
 have e:r=u:=by
  rcases Nat.lt_trichotomy r u with h1 | h1 | h1
  ·exact absurd (zs8 hru) (u4 r h1)
  ·exact h1
  ·exact absurd hru (r4 u h1)
 subst e;exact zk9 r3 (zs8 u3)
theorem stab_succ (H:zhk m) {k:Nat} (h:Stab m k):Stab m (k+1):=fun s t hs ht hE =>
 ⟨hE,fun a ha=>⟨(hE.2 a ha).1,h _ _ (H.at hs ha).1 (H.at ht ha).1 (hE.2 a ha).2⟩⟩
theorem stab_add (H:zhk m) {k:Nat} (h:Stab m k):∀ j,Stab m (k+j)
 | 0=>h
 | j+1=>stab_succ H (stab_add H h j)
open Classical in
theorem stab_exists (H:zhk m):∃ k,k<m.Next.length∧Stab m k:=by
 refine Classical.byContradiction fun hno=>?_
 have hall:∀ k,k≤m.Next.length→k+1≤nreps m k:=by
  intro k
  induction k with
  | zero =>
   intro _;unfold nreps;have:0<(List.range m.Next.length).countP fun s=>@decide (Rep m 0 s) (Classical.propDecidable _):=List.countP_pos_iff.2 ⟨0,List.mem_range.2 H.n1,zkB fun t ht=>absurd ht (Nat.not_lt_zero _)⟩;exact this
  | succ k ih =>
   intro hk;have h1:=ih (by omega);rcases Nat.lt_or_ge (nreps m k) (nreps m (k+1)) with h2 | h2
   ·omega
   ·exact absurd ⟨k,by omega,stab_of h2⟩ hno
 have h1:=hall _ (Nat.le_refl _);have h2:nreps m m.Next.length≤(List.range m.Next.length).length:=List.countP_le_length;rw [List.length_range] at h2;omega
theorem E_all (H:zhk m) {s t:Nat} (hs:s<m.Next.length) (ht:t<m.Next.length) (h:E m m.Next.length s t) (j:Nat):E m j s t:=by
 obtain ⟨k,hk,hS⟩:=stab_exists H
 have key:∀ i,E m (k+i) s t:=by
  intro i
  induction i with
  | zero=>exact E_mono (by omega) h
  | succ i ih=>exact stab_add H hS i s t hs ht ih
 exact E_mono (by omega) (key j)
end
end
section
set_option maxRecDepth 100000
theorem nodup_le {α:Type} [DecidableEq α]:∀ {l l':List α},l.Nodup→(∀ x∈l,x∈l')→l.length≤l'.length
 | [],_,_,_=>Nat.zero_le _
 | x::l,l',h,hs=>by
  have h1:=List.nodup_cons.1 h;have hx:=hs x (by simp);have ih:=nodup_le (l:=l) (l':=l'.erase x) h1.2 (fun y hy=>(List.mem_erase_of_ne (fun e=>h1.1 (by rw [← e];exact hy))).2 (hs y (List.mem_cons_of_mem _ hy)));rw [List.length_erase_of_mem hx] at ih;have:=List.length_pos_of_mem hx;simp only [zkL];omega
def natI (l:List Nat):List Int:=l.map fun (x:Nat)=>(↑x:Int)
theorem natI_at {l:List Nat} {i u:Nat} (h:l[i]?=some u):(natI l)[i]?=some (↑u:Int):=by
 unfold natI;rw [List.getElem?_map,h];rfl
theorem natI_push (l:List Nat) (t:Nat):natI l++[(↑t:Int)]=natI (l++[t]):=by simp [natI]
theorem natI_len (l:List Nat):(natI l).length=l.length:=by simp [natI]
def Ext (l l':List Nat):Prop:=∀ j u:Nat,l[j]?=some u→l'[j]?=some u
theorem Ext.rfl' {l:List Nat}:Ext l l:=fun _ _ h=>h
theorem Ext.trans {l l' l'':List Nat} (h:Ext l l') (g:Ext l' l''):Ext l l'':=fun j u e=>g j u (h j u e)
theorem Ext.push (l:List Nat) (t:Nat):Ext l (l++[t]):=fun j u h=>by
 have:=(zkI.1 h).1;rw [List.getElem?_append_left this,h]
structure Num (m:zal) (c:List Int) (ord:List Nat) (num:List Int):Prop where
 rng:∀ u∈ord,u<m.Next.length
 start:ord[0]?=some m.Start.toNat
 len:num.length=m.Next.length
 n1:∀ j u x:Nat,ord[j]?=some u→c[u]?=some (↑x:Int)→num[x]?=some (↑j:Int)
 n2:∀ x:Nat,x<m.Next.length→num[x]?=some (-1:Int)∨∃ j u:Nat,num[x]?=some (↑j:Int)∧ord[j]?=some u∧c[u]?=some (↑x:Int)
 reach:∀ j u:Nat,ord[j]?=some u→j=0∨∃ i v a:Nat,i<j∧ord[i]?=some v∧a<m.Inputs.toNat∧u=nx m v a
section
variable {m:zal} {c num:List Int} {ord:List Nat} {k:Nat}
theorem Num.inj (N:Num m c ord num) (C:zqh m k c) {i j u v:Nat} (hi:ord[i]?=some u) (hj:ord[j]?=some v) (h:c[u]?=c[v]?):i=j:=by
 obtain ⟨x,x1,_⟩:=C.rng u (N.rng u (zkH hi));have h1:=N.n1 i u x hi x1;have h2:=N.n1 j v x hj (by rw [← h,x1]);rw [h1] at h2;injection h2 with h2
 omega
theorem Num.nodup (N:Num m c ord num) (C:zqh m k c):ord.Nodup:=by
 refine List.pairwise_iff_getElem.2 fun i j hi hj hij h=>?_;have:=N.inj C (get_at hi) (get_at hj) (by rw [h]);omega
theorem Num.le (N:Num m c ord num) (C:zqh m k c):ord.length≤m.Next.length:=by
 have:=nodup_le (N.nodup C) (l':=List.range m.Next.length) fun x hx=>List.mem_range.2 (N.rng x hx)
 rwa [List.length_range] at this
theorem Num.push (N:Num m c ord num) {i v a t x:Nat} (hi:ord[i]?=some v) (ha:a<m.Inputs.toNat) (ht:t=nx m v a) (htn:t<m.Next.length) (hx:c[t]?=some (↑x:Int)) (hxn:x<m.Next.length) (hn:num[x]?=some (-1:Int)):Num m c (ord++[t]) (num.set x (↑ord.length:Int)) where
 rng:=fun u hu=>by
  rcases List.mem_append.1 hu with h | h
  ·exact N.rng u h
  ·rw [List.mem_singleton.1 h];exact htn
 start:=Ext.push ord t 0 _ N.start
 len:=by rw [List.length_set,N.len]
 n1:=fun j u y hj hc=>by
  rcases Nat.lt_or_ge j ord.length with h | h
  ·rw [List.getElem?_append_left h] at hj;have h1:=N.n1 j u y hj hc
   have hne:x≠y:=fun e=>by
    subst e;rw [hn] at h1;injection h1 with h1
    omega
   rw [List.getElem?_set_ne hne];exact h1
  ·have h2:=(zkI.1 hj).1;rw [zkJ,List.length_singleton] at h2;have e:j=ord.length:=by omega
   subst e;rw [List.getElem?_append_right (Nat.le_refl _),Nat.sub_self] at hj;injection hj with hj
   subst hj;rw [hx] at hc;injection hc with hc
   have e:x=y:=by omega
   subst e;rw [List.getElem?_set_self (by rw [N.len];exact hxn)]
 n2:=fun y hy=>by
  by_cases e:x=y
  ·subst e;exact Or.inr ⟨ord.length,t,by rw [List.getElem?_set_self (by rw [N.len];exact hxn)],by simp,hx⟩
  ·rw [List.getElem?_set_ne e];rcases N.n2 y hy with h | ⟨j,u,h1,h2,h3⟩
   ·exact Or.inl h
   ·exact Or.inr ⟨j,u,h1,Ext.push ord t j u h2,h3⟩
 reach:=fun j u hj=>by
  rcases Nat.lt_or_ge j ord.length with h | h
  ·rw [List.getElem?_append_left h] at hj;rcases N.reach j u hj with h1 | ⟨i',v',a',h1,h2,h3,h4⟩
   ·exact Or.inl h1
   ·exact Or.inr ⟨i',v',a',h1,Ext.push ord t i' v' h2,h3,h4⟩
  ·have h2:=(zkI.1 hj).1;rw [zkJ,List.length_singleton] at h2;have e:j=ord.length:=by omega
   subst e;rw [List.getElem?_append_right (Nat.le_refl _),Nat.sub_self] at hj;injection hj with hj
   exact Or.inr ⟨i,v,a,(zkI.1 hi).1,Ext.push ord t i v hi,ha,by rw [← hj,ht]⟩
structure zxf (m:zal) (c:List Int) (ord:List Nat) (v:Nat) (row out:List Int) (a:Nat):Prop where
 l1:row.length=a
 l2:out.length=a
 cell:∀ b,b<a→∃ j u:Nat,row[b]?=some (↑j:Int)∧ord[j]?=some u∧c[u]?=c[nx m v b]?∧out[b]?=some (ot m v b)
theorem zxf.mono {v:Nat} {row out:List Int} {a:Nat} {ord':List Nat} (h:Ext ord ord') (R:zxf m c ord v row out a):zxf m c ord' v row out a :=
 ⟨R.l1,R.l2,fun b hb=>by
  obtain ⟨j,u,h1,h2,h3⟩:=R.cell b hb
  exact ⟨j,u,h1,h j u h2,h3⟩⟩
theorem min_number (H:zhk m) (C:zqh m k c) (N:Num m c ord num) {i v a:Nat} (hi:ord[i]?=some v) (ha:a<m.Inputs.toNat) {e:Int} :
  ∃ (ord':List Nat) (num':List Int) (x j u:Nat),(idx (c,e).1 (↑(nx m v a):Int) fun e1474=>idx num e1474 fun e1475=>cond (decide (e1475<0)) (idx (c,e).1 (↑(nx m v a):Int) fun e1477=>idx num e1477 fun e1478=>chk (zbm (List.length (natI ord)+1) 8) (some ((natI ord++[(↑(nx m v a):Int)]),(List.set num e1477.toNat (↑(List.length (natI ord)):Int))))) (some (natI ord,num)):Option (List Int×List Int))=some (natI ord',num')∧Num m c ord' num'∧Ext ord ord'∧c[nx m v a]?=some (↑x:Int)∧num'[x]?=some (↑j:Int)∧ord'[j]?=some u∧c[u]?=some (↑x:Int):=by
 have hn:=H.n2;have hv:=N.rng v (zkH hi);have htn:=(H.at hv ha).1;obtain ⟨x,x1,x2⟩:=C.rng _ htn;have hle:=N.le C;rcases N.n2 x x2 with h | ⟨j,u,h1,h2,h3⟩
 ·refine ⟨ord++[nx m v a],num.set x (↑ord.length:Int),x,ord.length,nx m v a,?_,N.push hi ha rfl htn x1 x2 h,Ext.push _ _,x1,by rw [List.getElem?_set_self (by rw [N.len];exact x2)],by simp,x1⟩;rw [zb2 rfl x1,zb2 rfl h,zkB (by omega),zkD,zb2 rfl x1,zb2 rfl h,natI_len,zav (by unfold zbm;omega),natI_push,Int.toNat_natCast]
 ·exact ⟨ord,num,x,j,u,by rw [zb2 rfl x1,zb2 rfl h1,zkA (by omega),zkC],N,Ext.rfl',x1,h1,h2,h3⟩
theorem min_row (H:zhk m) (C:zqh m k c) (N:Num m c ord num) {i v:Nat} (hi:ord[i]?=some v) {e:Int} :
  ∃ (ord':List Nat) (num' row out:List Int),iter (fun (s:List Int×List Int×List Int×List Int×Nat)=>zec.s56 m (c,e) i s.1 s.2.1 s.2.2.1 s.2.2.2.1 s.2.2.2.2) fuel (natI ord,num,[],[],0)=some (natI ord',num',row,out)∧Num m c ord' num'∧Ext ord ord'∧zxf m c ord' v row out m.Inputs.toNat:=by
 have hI:=H.i2;have hv:=N.rng v (zkH hi)
 obtain ⟨r,hr,ord',num',row,out,rfl,h1,h2,h3⟩:=zbq (step:=fun (s:List Int×List Int×List Int×List Int×Nat)=>zec.s56 m (c,e) i s.1 s.2.1 s.2.2.1 s.2.2.2.1 s.2.2.2.2) (fun s=>∃ ord':List Nat,s.1=natI ord'∧Num m c ord' s.2.1∧Ext ord ord'∧s.2.2.2.2≤m.Inputs.toNat∧zxf m c ord' v s.2.2.1 s.2.2.2.1 s.2.2.2.2) (fun s=>m.Inputs.toNat-s.2.2.2.2) (fun r=>∃ (ord':List Nat) (num' row out:List Int),r=(natI ord',num',row,out)∧Num m c ord' num'∧Ext ord ord'∧zxf m c ord' v row out m.Inputs.toNat) (fun s ⟨ord',q1,q2,q3,q4,q5⟩=>by
  obtain ⟨o,num',row,out,a⟩:=s
  simp only at q1 q2 q4 q5
  subst q1
  simp only [zec.s56]
  by_cases g:a<m.Inputs.toNat
  ·left
   have hi':=q3 i v hi
   obtain ⟨_,_,_,x,y,e1,e2,e3,e4⟩:=H.at hv g
   obtain ⟨ord2,num2,z,j,u,f1,f2,f3,f4,f5,f6,f7⟩:=min_number H C q2 hi' g (e:=e)
   have l1:=q5.l1
   have l2:=q5.l2
   refine ⟨(natI ord2,num2,row++[(↑j:Int)],out++[ot m v a],a+1),?_,⟨ord2,rfl,f2,q3.trans f3,g,(show zxf m c ord2 v (row++[(↑j:Int)]) (out++[ot m v a]) (a+1) from ⟨by simp [l1],by simp [l2],fun b hb=>?_⟩)⟩,by simp only;omega⟩
   ·rw [zkB (by omega),zkD,zaq (natI_at hi'),zb2 rfl e1,zaq e3,f1,zan]
    simp only [zec.k55]
    rw [zb2 rfl f4,zb2 rfl f5,zav (by unfold zbm;omega),zaq (natI_at (f3 i v hi')),zb2 rfl e2,zaq e4,zav (by unfold zbm;omega),zav (by unfold inR;omega)]
   ·rcases Nat.lt_or_ge b a with h | h
    ·obtain ⟨j',u',c1,c2,c3,c4⟩:=q5.cell b h
     exact ⟨j',u',by rw [List.getElem?_append_left (by omega),c1],f3 _ _ c2,c3,by rw [List.getElem?_append_left (by omega),c4]⟩
    ·have e':b=a:=by omega
     subst e'
     exact ⟨j,u,by rw [List.getElem?_append_right (by omega),l1,Nat.sub_self];rfl,f6,by rw [f7,f4],by rw [List.getElem?_append_right (by omega),l2,Nat.sub_self];rfl⟩
  ·right
   have e':a=m.Inputs.toNat:=by omega
   subst e'
   exact ⟨_,by rw [zkA (by omega),zkC],ord',num',row,out,rfl,q2,q3,q5⟩) fuel (natI ord,num,[],[],0) ⟨ord,rfl,N,Ext.rfl',Nat.zero_le _,rfl,rfl,fun b hb=>absurd hb (Nat.not_lt_zero _)⟩ (by have:=za4;simp only;omega)
 exact ⟨ord',num',row,out,hr,h1,h2,h3⟩
structure MinOk (m M:zal) (c:List Int) (ord:List Nat) (num:List Int):Prop where
 cls:zqh m m.Next.length c
 num:Num m c ord num
 inp:M.Inputs=m.Inputs
 start:M.Start=0
 l1:M.Next.length=ord.length
 l2:M.Out.length=ord.length
 row:∀ i v:Nat,ord[i]?=some v→∃ row out,M.Next[i]?=some row∧M.Out[i]?=some out∧zxf m c ord v row out m.Inputs.toNat
theorem R08_Min_eq (hv:zb6 m=some 0):∃ M c ord num,zec m=some (M,0)∧MinOk m M c ord num:=by
 have H:=zrk hv;have hn:=H.n2;have hst:=H.st;obtain ⟨c,c1,C⟩:=ztw hv m.Next.length;rw [Nat.min_self] at C
 have hcl:zp7 m=some (c,0):=by
  unfold zp7;rw [c1,zan]
 unfold zec;rw [hcl,zan,zkA (by simp),zkC,zav ⟨by omega,by omega,by unfold zbm;omega⟩]
 obtain ⟨y,hy,y1,y2⟩:=zbq (step:=fun (s:List Int×Nat)=>zec.s2 s.1 s.2) (fun s=>s.1.length=m.Next.length∧s.2≤m.Next.length∧∀ x,x<s.2→s.1[x]?=some (-1:Int)) (fun s=>m.Next.length-s.2) (fun r=>r.length=m.Next.length∧∀ x,x<m.Next.length→r[x]?=some (-1:Int)) (fun s ⟨g1,g2,g3⟩=>by
  obtain ⟨y,i⟩:=s
  simp only at g1 g2 g3
  simp only [zec.s2]
  by_cases g:i<y.length
  ·left
   have hx:=get_at g
   refine ⟨(y.set i (-1),i+1),by rw [zbw hx,zkD,zaq hx],⟨by simp [g1],by simp only;omega,fun x hx'=>?_⟩,by simp only;omega⟩
   simp only
   by_cases e:i=x
   ·subst e
    rw [List.getElem?_set_self g]
   ·rw [List.getElem?_set_ne e]
    exact g3 x (by simp only at hx';omega)
  ·right
   exact ⟨y,by rw [zkA (by omega),zkC],g1,fun x hx=>g3 x (by omega)⟩) fuel ((List.replicate m.Next.length 0),0) ⟨by simp,Nat.zero_le _,fun x h=>absurd h (Nat.not_lt_zero _)⟩ (by have:=za4;simp only;omega)
 have hs:m.Start.toNat<m.Next.length:=by omega
 obtain ⟨x0,x1,x2⟩:=C.rng _ hs;rw [hy,zan,zb2 (i:=m.Start.toNat) (by omega) x1,zb2 rfl (y2 x0 x2)]
 have N0:Num m c [m.Start.toNat] (y.set x0 0):=⟨fun u hu=>by rw [List.mem_singleton.1 hu];exact hs,rfl,by rw [List.length_set,y1],fun j u x hj hc=>by
  have hj0:=(zkI.1 hj).1
  rw [List.length_singleton] at hj0
  have e:j=0:=by omega
  subst e
  injection hj with hj
  subst hj
  rw [x1] at hc
  injection hc with hc
  have e:x0=x:=by omega
  subst e
  rw [List.getElem?_set_self (by omega)]
  rfl,fun x hx=>by
  by_cases e:x0=x
  ·subst e
   exact Or.inr ⟨0,_,by rw [List.getElem?_set_self (by omega)];rfl,rfl,x1⟩
  ·rw [List.getElem?_set_ne e]
   exact Or.inl (y2 x hx),fun j u hj=>by
  have hj0:=(zkI.1 hj).1
  rw [List.length_singleton] at hj0
  exact Or.inl (by omega)⟩
 obtain ⟨r,hr,ord,num,q1,q2,q3,q4⟩:=zbq (step:=fun (s:List Int×List Int×List (List Int)×List (List Int)×Nat)=>zec.s58 m (c,0) s.1 s.2.1 s.2.2.1 s.2.2.2.1 s.2.2.2.2) (fun s=>∃ ord:List Nat,s.1=natI ord∧Num m c ord s.2.1∧s.2.2.2.2≤ord.length∧s.2.2.1.length=s.2.2.2.2∧s.2.2.2.1.length=s.2.2.2.2∧∀ i v:Nat,i<s.2.2.2.2→ord[i]?=some v→∃ row out,s.2.2.1[i]?=some row∧s.2.2.2.1[i]?=some out∧zxf m c ord v row out m.Inputs.toNat) (fun s=>m.Next.length-s.2.2.2.2) (fun r=>∃ (ord:List Nat) (num:List Int),Num m c ord num∧r.1.length=ord.length∧r.2.length=ord.length∧∀ i v:Nat,ord[i]?=some v→∃ row out,r.1[i]?=some row∧r.2[i]?=some out∧zxf m c ord v row out m.Inputs.toNat) (fun s ⟨ord,g1,g2,g3,g4,g5,g6⟩=>by
  obtain ⟨o,num,next,os,i⟩:=s
  simp only at g1 g2 g3 g4 g5 g6
  subst g1
  have hle:=g2.le C
  simp only [zec.s58]
  by_cases g:i<ord.length
  ·left
   have hi:=get_at g
   obtain ⟨ord',num',row,out,f1,f2,f3,f4⟩:=min_row H C g2 hi (e:=0)
   have hi':=f3 _ _ hi
   have hl':=(zkI.1 hi').1
   refine ⟨(natI ord',num',next++[row],os++[out],i+1),?_,⟨ord',rfl,f2,hl',by simp [g4],by simp [g5],fun i' v' hi2 hv2=>?_⟩,by simp only;omega⟩
   ·rw [natI_len,zkB (by omega),zkD,f1,zan]
    simp only [zec.k57]
    rw [zav (by unfold zbm;omega),zav (by unfold zbm;omega)]
   ·simp only at hi2 ⊢
    rcases Nat.lt_or_ge i' i with h | h
    ·obtain ⟨w,hw⟩:∃ w,ord[i']?=some w:=⟨_,get_at (l:=ord) (i:=i') (by omega)⟩
     have hw':=f3 _ _ hw
     rw [hv2] at hw'
     injection hw' with hw'
     subst hw'
     obtain ⟨row',out',z1,z2,z3⟩:=g6 i' v' h hw
     exact ⟨row',out',by rw [List.getElem?_append_left (by omega),z1],by rw [List.getElem?_append_left (by omega),z2],z3.mono f3⟩
    ·have e:i'=i:=by omega
     subst e
     rw [hi'] at hv2
     injection hv2 with hv2
     subst hv2
     exact ⟨row,out,by rw [List.getElem?_append_right (by omega),g4,Nat.sub_self];rfl,by rw [List.getElem?_append_right (by omega),g5,Nat.sub_self];rfl,f4⟩
  ·right
   have e:i=ord.length:=by omega
   subst e
   exact ⟨(next,os),by rw [natI_len,zkA (by omega),zkC],ord,num,g2,g4,g5,fun i' v' hv'=>g6 i' v' (zkI.1 hv').1 hv'⟩) fuel ([m.Start],(y.set x0 0),[],[],0) ⟨[m.Start.toNat],by simp only [natI,List.map_cons,List.map_nil];rw [Int.toNat_of_nonneg hst.1],N0,Nat.zero_le _,rfl,rfl,fun i v h=>absurd h (Nat.not_lt_zero _)⟩ (by have:=za4;simp only;omega)
 refine ⟨⟨m.Inputs,0,r.1,r.2⟩,c,ord,num,?_,C,q1,rfl,rfl,q2,q3,q4⟩;rw [Int.toNat_natCast,hr,zan];rfl
theorem zw2 (hv:zb6 m=some 0):∃ M c ord num,zec m=some (M,0)∧MinOk m M c ord num∧zmm m=some (decide (ord.length=m.Next.length)):=by
 obtain ⟨M,c,ord,num,h1,h2⟩:=R08_Min_eq hv;refine ⟨M,c,ord,num,h1,h2,?_⟩;unfold zmm;rw [h1,zan,zkB rfl,zkD,zan,h2.l1];congr 1;by_cases h:ord.length=m.Next.length
 ·rw [zkB h,zkB (by omega)]
 ·rw [zkA h,zkA (by omega)]
theorem zw5 (hv:zb6 m=some 0) (h1:∀ s,s<m.Next.length→∃ w,WOk m.Inputs w∧dest m m.Start.toNat w=s) (h2:∀ s t,s<m.Next.length→t<m.Next.length→E m m.Next.length s t→s=t):zmm m=some true:=by
 have H:=zrk hv;obtain ⟨M,c,ord,num,_,K,hk⟩:=zw2 hv;rw [hk,zkB];have hle:=K.num.le K.cls;have hst:=H.st
 -- every state that is reached has a number
 have key:∀ (w:List Int) (v i:Nat),ord[i]?=some v→WOk m.Inputs w→dest m v w∈ord:=by
  intro w
  induction w with
  | nil=>intro v i hi _;exact zkH hi
  | cons a w ih =>
   intro v i hi hw;have ha:=hw.head;obtain ⟨row,out,r1,r2,R⟩:=K.row i v hi;obtain ⟨j,u,j1,j2,j3,j4⟩:=R.cell a.toNat (by omega);have hvn:=K.num.rng v (zkH hi);have hun:=K.num.rng u (zkH j2);have hnn:=(H.at hvn (a:=a.toNat) (by omega)).1;have e:u=nx m v a.toNat:=h2 _ _ hun hnn ((K.cls.cls _ _ hun hnn).1 j3);subst e;exact ih _ j j2 hw.tail
 have hall:∀ s∈List.range m.Next.length,s∈ord:=fun s hs=>by
  obtain ⟨w,w1,w2⟩:=h1 s (List.mem_range.1 hs);rw [← w2];exact key w _ 0 K.num.start w1
 have:=nodup_le (List.nodup_range (n:=m.Next.length)) hall;rw [List.length_range] at this;omega
end
end
section
set_option maxRecDepth 100000
theorem zsq:∀ {u a b:List Int},u <+: a→u <+: b→u.length≤za9 a b
 | [],_,_,_,_=>Nat.zero_le _
 | x::u,a,b,⟨v,hv⟩,⟨w,hw⟩=>by
  subst hv;subst hw;have:=zsq (u:=u) (a:=u++v) (b:=u++w) ⟨v,rfl⟩ ⟨w,rfl⟩;show u.length+1≤za9 (x::(u++v)) (x::(u++w));simp only [za9,if_true];omega
theorem zi4 {α:Type} {l:List α} {i j:Nat} (h:i≤j):(l.take j).take i=l.take i:=by
 rw [List.take_take,Nat.min_eq_left h]
theorem agree_all {o:zab} (hv:zc2 o) {a b:zaa} (ha:a∈o.Traces) (hb:b∈o.Traces):Agree a b∨Agree b a:=by
 obtain ⟨i,hi,rfl⟩:=List.mem_iff_getElem.1 ha;obtain ⟨j,hj,rfl⟩:=List.mem_iff_getElem.1 hb;rcases Nat.lt_trichotomy i j with h | h | h
 ·exact Or.inl (hv.apart i j _ _ h (get_at hi) (get_at hj)).2
 ·subst h;exact Or.inl rfl
 ·exact Or.inr (hv.apart j i _ _ h (get_at hj) (get_at hi)).2
theorem ansO_pre {o:zab} (hv:zc2 o) {u v r:List Int} (h:ansO o (u++v)=some r):ansO o u=some (r.take u.length):=by
 unfold ansO at h ⊢;by_cases h0:u=[]
 ·subst h0;simp
 ·rw [if_neg (by simp [h0])] at h;rw [if_neg h0];obtain ⟨a,ha,rfl⟩:=Option.map_eq_some_iff.1 h;have hma:=List.mem_of_find?_eq_some ha;have hpa:u++v <+: a.In:=by simpa using List.find?_some ha
  have hua:u <+: a.In:=(List.prefix_append u v).trans hpa;cases hb:o.Traces.find? fun t=>decide (u <+: t.In) with
  | none =>
   have:=List.find?_eq_none.1 hb a hma;simp [hua] at this
  | some b =>
   have hmb:=List.mem_of_find?_eq_some hb;have hub:u <+: b.In:=by simpa using List.find?_some hb
   show some (b.Out.take u.length)=some ((a.Out.take (u++v).length).take u.length);rw [zi4 (by rw [zkJ];omega)];congr 1;rcases agree_all hv hma hmb with h1 | h1
   ·have h2:=zsq hua hub;unfold Agree at h1;rw [← zi4 h2,← h1,zi4 h2]
   ·have h2:=zsq hub hua;unfold Agree at h1;rw [← zi4 h2,h1,zi4 h2]
def tailA (o:zab) (w e:List Int):List Int:=((ansO o (w++e)).getD []).drop w.length
theorem zvp {o:zab} (hv:zc2 o) (w:List Int):tailA o w []=[]:=by
 unfold tailA;rw [List.append_nil];cases h:ansO o w with
 | none=>simp
 | some r =>
  rw [Option.getD_some,List.drop_eq_nil_of_le (by rw [zkq hv h];exact Nat.le_refl _)]
theorem zvx {o:zab} {w:List Int} {S:List (List Int)} {r:Row} (h:rowO o w S=some r) {i:Nat} {e:List Int} (he:S[i]?=some e):r[i]?=some (tailA o w e):=by
 obtain ⟨x,x1,x2⟩:=zmp h i e he;rw [x2];unfold tailA;rw [x1];rfl
theorem tailA_cons {o:zab} (hv:zc2 o) {w e:List Int} {a y:Int} (h:ansO o (w++a::e)≠none) (hy:tailA o w [a]=[y]):tailA o w (a::e)=y::tailA o (w++[a]) e:=by
 cases hr:ansO o (w++a::e) with
 | none=>exact absurd hr h
 | some r =>
  have hl:=zkq hv hr;have h1:w++a::e=(w++[a])++e:=by simp
  have h2:=hr;rw [h1] at h2;have h3:=ansO_pre hv h2;unfold tailA at hy ⊢;rw [h3] at hy;rw [hr,h2];simp only [Option.getD_some] at hy ⊢;rw [zkJ,List.length_singleton] at hy ⊢;rw [zkJ,zkL] at hl;have h4:r.drop w.length=r[w.length]'(by omega)::r.drop (w.length+1):=List.drop_eq_getElem_cons (by omega);rw [h4];congr 1
  have h5:(List.drop w.length (List.take (w.length+1) r))[0]?=some (r[w.length]'(by omega)):=by
   rw [List.getElem?_drop,List.getElem?_take_of_lt (by omega),get_at (by omega)];rfl
  rw [hy] at h5;injection h5 with h5
  exact h5.symm
theorem zvi {o:zab} (hv:zc2 o) {w e r:List Int} (hw:ansO o w=some r) (h:ansO o (w++e)≠none):ansO o (w++e)=some (r++tailA o w e):=by
 cases hr:ansO o (w++e) with
 | none=>exact absurd hr h
 | some z =>
  have h1:=ansO_pre hv hr;rw [hw] at h1;injection h1 with h1
  unfold tailA;rw [hr,h1,Option.getD_some,List.take_append_drop]
section
variable {t:zac} {o:zab}
theorem zds.mac (H:zds t o):zhk (hypT t o).M:=zrk H.valid6
theorem zds.sing (H:zds t o) {a:Nat} (ha:a<t.Inputs.toNat):t.Suffixes[a]?=some [(↑a:Int)]:=by
 have hval:=(zc5 H.hz).1;obtain ⟨_,_,_,hAs,hsing,_⟩:=zez hval;obtain ⟨_,_,_,hsc⟩:=zeq hval;exact zx2 hAs hsc hsing a ha
theorem zds.lt (H:zds t o) {p:List Int} (hp:p∈t.Prefixes):stt t o p<(hypT t o).M.Next.length:=by
 rw [H.nlen.1];exact pos_lt (H.mem hp)
theorem zds.nx_ot (H:zds t o) {p:List Int} (hp:p∈t.Prefixes) {a:Nat} (ha:a<t.Inputs.toNat):nx (hypT t o).M (stt t o p) a=stt t o (p++[(↑a:Int)])∧tailA o p [(↑a:Int)]=[ot (hypT t o).M (stt t o p) a]:=by
 obtain ⟨q,hq,q1,q2,q3,_⟩:=H.at (H.mem hp);have q2:(hypT t o).M.Next[stt t o p]?=some (zxi t o q):=q2;have q3:(hypT t o).M.Out[stt t o p]?=some (outT t o q):=q3;constructor
 ·unfold nx;rw [q2,Option.getD_some,zt0 ha,Option.getD_some,Int.toNat_natCast];unfold stt;rw [H.cons hq hp q1 ha]
 ·obtain ⟨y,z,y1,y2,y3⟩:=row_out H.hv (H.row hp) (H.sing ha);unfold ot;rw [q3,Option.getD_some,outT_at ha,Option.getD_some,q1,y1];unfold tailA;rw [y2,Option.getD_some,y3];rfl
theorem zds.rep (H:zds t o) {p:List Int} (hp:p∈t.Prefixes) {a:Nat} (ha:a<t.Inputs.toNat):∃ q∈t.Prefixes,rowG t o q=rowG t o (p++[(↑a:Int)])∧stt t o q=stt t o (p++[(↑a:Int)]):=by
 obtain ⟨q,hq,q1,_⟩:=H.at (H.closed hp ha);exact ⟨q,hq,q1,by unfold stt;rw [q1]⟩
theorem zds.sufs (H:zds t o) {e:List Int} (he:e∈t.Suffixes):WOk t.Inputs e:=zdh ((zeq (zc5 H.hz).1).2.2.2 e he).1
theorem same_tail {p q:List Int} {r:Row} (hp:rowO o p t.Suffixes=some r) (hq:rowO o q t.Suffixes=some r) {e:List Int} (he:e∈t.Suffixes):tailA o p e=tailA o q e:=by
 obtain ⟨i,hi,rfl⟩:=List.mem_iff_getElem.1 he;have h1:=zvx hp (get_at hi);rw [zvx hq (get_at hi)] at h1;injection h1 with h1
 exact h1.symm
theorem zds.along (H:zds t o) (hc:∀ e∈t.Suffixes,e.drop 1∈t.Suffixes∨e.drop 1=[]):∀ (e:List Int),e∈t.Suffixes∨e=[]→∀ p∈t.Prefixes,Sym.outs (hypT t o).M (stt t o p) e=tailA o p e
 | [],_,p,_=>(zvp H.hv p).symm
 | a::e,he,p,hp=>by
  have he:=he.resolve_right (by simp);have ha:=(H.sufs he).head;have han:a.toNat<t.Inputs.toNat:=by omega
  have haa:a=((a.toNat:Nat):Int):=by omega
  obtain ⟨n1,n2⟩:=H.nx_ot hp han;rw [← haa] at n1 n2;obtain ⟨q,hq,q1,q2⟩:=H.rep hp han;rw [← haa] at q1 q2;have hans:=zoj (H.row hp) _ he;rw [tailA_cons H.hv hans n2];show ot (hypT t o).M (stt t o p) a.toNat::Sym.outs (hypT t o).M (nx (hypT t o).M (stt t o p) a.toNat) e=_;rw [n1,← q2,H.along hc e (hc _ he) q hq];congr 1;rcases hc _ he with h | h
  ·have hx:=H.ext hp han;rw [← haa] at hx;exact same_tail (t:=t) (by rw [H.row hq,q1]) hx h
  ·have h:e=[]:=h;subst h;rw [zvp H.hv,zvp H.hv]
theorem zds.walk (H:zds t o):∀ (k:Nat) (p:List Int),p.length=k→p∈t.Prefixes→ansO o p=some (Sym.outs (hypT t o).M 0 p)∧dest (hypT t o).M 0 p=stt t o p:=by
 intro k
 induction k with
 | zero =>
  intro p hl _;have e:=List.eq_nil_of_length_eq_zero hl;subst e;exact ⟨rfl,H.start.symm⟩
 | succ k ih =>
  intro p hl hp;have hval:=(zc5 H.hz).1;have hpre:=zlg hval _ p hp k rfl (by omega);have hx:=get_at (l:=p) (i:=k) (by omega);obtain ⟨x0,x1⟩:=H.sym hp hx
  have hpe:p=p.take k++[p[k]'(by omega)]:=by
   rw [← zbp hx,← hl,List.take_length]
  have han:(p[k]'(by omega)).toNat<t.Inputs.toNat:=by omega
  have haa:(p[k]'(by omega))=(((p[k]'(by omega)).toNat:Nat):Int):=by omega
  obtain ⟨i1,i2⟩:=ih (p.take k) (by rw [List.length_take];omega) hpre;obtain ⟨n1,n2⟩:=H.nx_ot hpre han;rw [← haa,← hpe] at n1;rw [← haa] at n2;have hmem:=zkH (H.sing han);rw [← haa] at hmem;have hs:=zvi H.hv i1 (zoj (H.row hpre) _ hmem);rw [n2,← hpe] at hs;constructor
  ·rw [hs]
   conv=>rhs;rw [hpe,zhh,i2]
   rfl
  ·conv=>lhs;rw [hpe,zkd,i2]
   show nx (hypT t o).M (stt t o (p.take k)) _=_;rw [n1]
theorem zds.word (H:zds t o) {w:List Int} (hw:w∈t.Prefixes∨w∈extL t):WOk t.Inputs w∧w.length≤81∧ansO o w=some (Sym.outs (hypT t o).M 0 w)∧∃ q∈t.Prefixes,dest (hypT t o).M 0 w=stt t o q∧∃ r,rowO o w t.Suffixes=some r∧rowO o q t.Suffixes=some r:=by
 rcases hw with hp | hx
 ·obtain ⟨w1,w2⟩:=H.walk _ w rfl hp;have:=H.ht.pw w hp;exact ⟨zdh ((zeq (zc5 H.hz).1).1 w hp),by omega,w1,w,hp,w2,_,H.row hp,H.row hp⟩
 ·obtain ⟨p,hp,h2⟩:=List.mem_flatMap.1 hx;obtain ⟨a,ha,rfl⟩:=List.mem_map.1 h2;have ha:=List.mem_range.1 ha;obtain ⟨w1,w2⟩:=H.walk _ p rfl hp;obtain ⟨n1,n2⟩:=H.nx_ot hp ha;obtain ⟨q,hq,q1,q2⟩:=H.rep hp ha;have hl:=H.ht.pw p hp;have hc:WOk t.Inputs p:=zdh ((zeq (zc5 H.hz).1).1 p hp);have hs:=zvi H.hv w1 (zoj (H.row hp) _ (zkH (H.sing ha)));refine ⟨hc.append fun x hx=>by rw [List.mem_singleton.1 hx];omega,by rw [zkJ,List.length_singleton];omega,?_,q,hq,?_,_,H.ext hp ha,by rw [H.row hq,q1]⟩
  ·rw [hs,n2,zhh,w2];rfl
  ·rw [zkd,w2,q2,← n1];rfl
theorem zds.cell (H:zds t o) (hc:∀ e∈t.Suffixes,e.drop 1∈t.Suffixes∨e.drop 1=[]) {w e:List Int} (hw:w∈t.Prefixes∨w∈extL t) (he:e∈t.Suffixes):ansO o (w++e)=some (Sym.outs (hypT t o).M 0 (w++e)):=by
 obtain ⟨_,_,w1,q,hq,w2,r,r1,r2⟩:=H.word hw;rw [zvi H.hv w1 (zoj r1 _ he),zhh,w2,H.along hc e (Or.inl he) q hq,same_tail (t:=t) r1 r2 he]
theorem zds.minimal (H:zds t o) (hc:∀ e∈t.Suffixes,e.drop 1∈t.Suffixes∨e.drop 1=[]):zmm (hypT t o).M=some true:=by
 have hI:(hypT t o).M.Inputs=t.Inputs:=rfl;refine zw5 H.valid6 (fun s hs=>?_) fun s u hs hu hE=>?_
 ·rw [H.nlen.1] at hs;obtain ⟨q,hq,q1,_⟩:=H.state hs
  exact ⟨q,zdh ((zeq (zc5 H.hz).1).1 q hq),by
   show dest (hypT t o).M 0 q=s
   rw [(H.walk _ q rfl hq).2,q1]⟩
 ·rw [H.nlen.1] at hs hu;obtain ⟨p,hp,p1,_⟩:=H.state hs;obtain ⟨q,hq,q1,_⟩:=H.state hu;subst p1;subst q1
  have hrow:rowG t o p=rowG t o q:=by
   have l1:=(zgp H.hv (H.row hp)).1;have l2:=(zgp H.hv (H.row hq)).1;apply List.ext_getElem?;intro i;rcases Nat.lt_or_ge i t.Suffixes.length with hi | hi
   ·have hg:=get_at hi;have he:=List.getElem_mem hi;rw [zvx (H.row hp) hg,zvx (H.row hq) hg,← H.along hc _ (Or.inl he) p hp,← H.along hc _ (Or.inl he) q hq];rw [E_outs (E_all H.mac (H.lt hp) (H.lt hq) hE _) (H.sufs he)]
   ·rw [List.getElem?_eq_none (by omega),List.getElem?_eq_none (by omega)]
  unfold stt;rw [hrow]
theorem zq0 (a b:List Int):[a,b].flatten=a++b:=by simp
end
end
section
set_option maxRecDepth 100000
end
section
set_option maxRecDepth 100000
def stepT (t:zac) (o:zab):zac×List (List Int)×Bool×Int :=
 if chkT t o≠0 then (t,[],false,chkT t o)
 else if zdv o t t.Prefixes≠[] then (t,maxR (zdv o t t.Prefixes),false,0)
 else match (extL t).find? (newRow t o) with
  | some w=>((zij t w).1,[],false,(zij t w).2)
  | none=>match iP t o with
   | some x=>((zhi t (toW t x)).1,[],false,(zhi t (toW t x)).2)
   | none=>(t,[],true,0)
section
variable {t:zac} {o:zab}
theorem zt3 (h1:chkT t o=0) (h2:zdv o t t.Prefixes=[]):zi3 t o=0:=by
 unfold zi3;rw [if_neg (by simpa using h1),if_pos h2]
theorem toW_len (ht:zev t) (x:Int×Int×Bool):(toW t x).length≤81:=by
 unfold toW;cases h2:t.Suffixes[x.2.1.toNat]? with
 | none=>simp
 | some e =>
  have:=ht.sw e (zkH h2);simp;omega
theorem zuq {l:List (List Int)} (h:l≠[]):(0:Int)<(↑l.length:Int):=by
 have:=List.length_pos_iff.2 h;omega
theorem R24_Step_eq (ht:zev t) (ho:SmO o) (hv:zc2 o):zqz t o=some (stepT t o):=by
 have hp:=ht.p;have hs:=ht.s;unfold zqz;rw [zqe ht ho hv,zan];unfold stepT;by_cases h1:chkT t o=0
 ·rw [if_neg (by simpa using h1),if_neg (by simpa using h1)];by_cases h2:zdv o t t.Prefixes=[]
  ·rw [if_neg (by simpa using h2),zks.2 h2];have hz:=zt3 h1 h2;simp only [ne_eq,not_true_eq_false,decide_false,zkC,List.length_nil,Int.ofNat_zero,Int.natCast_zero,Int.lt_irrefl];rw [zan,zkC,zvh ht ho hv];unfold unclT;rw [if_neg (by simpa using hz)];cases hf:(extL t).find? (newRow t o) with
   | some w =>
    obtain ⟨w1,w2⟩:=zpk ht (List.mem_of_find?_eq_some hf);simp only [zan,zkD];rw [R23_Prefix_eq ht.sm (by omega) w2 (by omega)];rfl
   | none =>
    simp only [zan,zkC];rw [zpv ht ho hv];unfold incT;rw [if_neg (by simpa using hz)];cases hi:iP t o with
    | some x =>
     have:=toW_len ht x;simp only [zan,zkD];rw [R23_Suffix_eq ht.sm (by omega) (by omega)];rfl
    | none=>rfl
  ·rw [if_pos h2,zkA (by simp),zkC,zkB (zuq fun h=>h2 (zks.1 h))];rfl
 ·rw [if_pos h1,if_pos h1,zkB h1];rfl
structure Kept (t u:zac):Prop where
 p:∀ x∈t.Prefixes,x∈u.Prefixes
 s:∀ x∈t.Suffixes,x∈u.Suffixes
 i:t.Inputs=u.Inputs
theorem Kept.self:Kept t t:=⟨fun _ h=>h,fun _ h=>h,rfl⟩
structure StepSm (r:zac×List (List Int)×Bool×Int):Prop where
 p:SmL r.1.Prefixes
 s:SmL r.1.Suffixes
 w:SmL r.2.1
structure StepOk (t:zac) (o:zab) (r:zac×List (List Int)×Bool×Int):Prop where
 p:SmL r.1.Prefixes
 s:SmL r.1.Suffixes
 w:SmL r.2.1
 k:Kept t r.1
 n:t.Prefixes.length+t.Suffixes.length≤r.1.Prefixes.length+r.1.Suffixes.length
 d:r.2.2.1=true→r.2.2.2=0∧(hypR t o).2=0
end
end
section
set_option maxRecDepth 100000
theorem zlx {n:Nat} (h:n≤3000000):zbm n 24:=by unfold zbm;omega
theorem wsearch_eq {l:List (List Int)} {w:List Int} (hs:Asc l) (hl:SmL l):zaw l w (fun u0 u1=>zcw u0 u1)=some ((↑(zci l w):Int),decide (w∈l)):=by
 have hc:∀ x∈l,zcw x w=some (cmpW x w):=fun x hx=>zh1 _ _ (by have:=hl.2 x hx;unfold SmW at this;omega);have hl1:=hl.1
 have key:=zbq (step:=fun (s:Int×Int)=>zaw.s2 l w (fun u0 u1=>zcw u0 u1) s.1 s.2)
  (fun s=>∃ i j:Nat,s.1=(i:Int)∧s.2=(j:Int)∧i≤j∧j≤l.length∧(∀ k t,k<i→l[k]?=some t→cmpW t w=-1)∧∀ k t,j≤k→l[k]?=some t→cmpW t w≠-1) (fun s=>(s.2-s.1).toNat)
  (fun r=>∃ k:Nat,r=(k:Int)∧k≤l.length∧(∀ j t,j<k→l[j]?=some t→cmpW t w=-1)∧∀ t,l[k]?=some t→cmpW t w≠-1) (fun s ⟨i,j,g1,g2,g3,g4,g5,g6⟩=>by
   obtain ⟨si,sj⟩:=s
   simp only at g1 g2
   subst g1 g2
   simp only [zaw.s2]
   by_cases g7:i<j
   ·left
    have hmid:((↑i:Int)+↑j) / 2^1=((i+j) / 2:Nat):=by omega
    have hx:=get_at (l:=l) (i:=(i+j) / 2) (by omega)
    rw [zkB (by omega),zkD,zav (by unfold inR;omega),zav (by omega),zav (by omega),zav (by unfold inR;omega),zb2 hmid hx,hc _ (List.getElem_mem _),zan]
    have r:=zhm (l[(i+j) / 2]'(by omega)) w
    by_cases g8:cmpW (l[(i+j) / 2]'(by omega)) w<0
    ·refine ⟨(((i+j) / 2+1:Nat),(j:Int)),?_,⟨(i+j) / 2+1,j,rfl,rfl,by omega,g4,fun k t hk ht=>?_,g6⟩,by simp only;omega⟩
     ·rw [zkB g8,zkD,zav (by unfold inR;omega),hmid]
      simp
     ·rcases Nat.lt_or_ge k ((i+j) / 2) with h | h
      ·exact zgl _ _ _ (hs.get h ht hx) (by omega)
      ·have e:k=(i+j) / 2:=by omega
       subst e
       rw [hx] at ht
       injection ht with ht
       subst ht
       omega
    ·refine ⟨((i:Int),(((i+j) / 2:Nat):Int)),?_,⟨i,(i+j) / 2,rfl,rfl,by omega,by omega,g5,fun k t hk ht=>?_⟩,by simp only;omega⟩
     ·rw [zkA g8,zkC,hmid]
     ·intro h9
      rcases Nat.lt_or_ge ((i+j) / 2) k with h | h
      ·have:=zgl _ _ _ (hs.get h hx ht) h9
       omega
      ·have e:k=(i+j) / 2:=by omega
       subst e
       rw [hx] at ht
       injection ht with ht
       subst ht
       omega
   ·right
    have e:i=j:=by omega
    subst e
    refine ⟨(i:Int),by rw [zkA (by omega),zkC],i,rfl,g4,g5,fun t ht=>g6 i t (Nat.le_refl _) ht⟩) fuel (0,(↑(List.length l):Int)) ⟨0,l.length,rfl,rfl,Nat.zero_le _,Nat.le_refl _,fun k t h=>by omega,fun k t h ht=>by
    have:=(zkI.1 ht).1
    omega⟩ (by have:=za4;simp only;omega)
 obtain ⟨r,e,k,hk,h1,h2,h3⟩:=key;subst hk;have hpl:=placeL_of h1 (fun i x hi hx=>h2 i x hi hx) h3;have hmem:=hs.mem_place w;rw [hpl] at hmem ⊢;unfold zaw;rw [e,zan];by_cases h4:k<l.length
 ·have hx:=get_at h4;rw [zkB (by omega),zkD,zb2 rfl hx,show (fun (u0:List Int) (u1:List Int)=>zcw u0 u1) l[k] w=some (cmpW l[k] w) from hc _ (List.getElem_mem _),zan,zan];rw [hx] at hmem;by_cases h5:w∈l
  ·have:=hmem.1 h5;injection this with this
   rw [zkB h5,this,zkB (zga w)]
  ·rw [zkA h5,zkA fun h6=>h5 (hmem.2 (by rw [(znz _ _).1 h6]))]
 ·have h5:¬ w∈l:=fun h=>by
   have:=hmem.1 h;exact h4 (zkI.1 this).1
  rw [zkA (by omega),zkC,zan,zkA h5]
theorem zn8 {l:List (List Int)} {w:List Int} (hs:Asc l) (hl:SmL l) (hw:SmW w):zj8 l w=some (insW l w):=by
 have hl1:=hl.1;have hp:=zqd l w;unfold zj8;rw [wsearch_eq hs hl,zan];unfold insW;by_cases h:w∈l
 ·rw [if_pos h,zkB h,zkD]
 ·rw [if_neg h,zkA h,zkC,zav (by omega),zh4 hw,zan];simp only [Int.toNat_natCast];rw [zav (zlx (by rw [List.length_take];omega)),zav (by omega),zav (zlx (by simp only [zkJ,List.length_take,List.length_drop,zkL,List.length_nil];omega)),List.append_assoc];rfl
theorem zw4 (l:List (List Int)) (w:List Int) (hl:SmL l):zke l w=some (decide (w∈l)):=by
 unfold zke zcs za2
 have key:=zce (step:=fun s=>za2.s2 l (fun u0=>zgr u0 w) s) (l:=l) (fun i x=>if x=w then some (i:Int) else none) (fun i x hx=>by
  simp only [za2.s2,zgr]
  rw [zbw hx,zkD,zaq hx,zgg _ _ (by have:=hl.2 x (zkH hx);unfold SmW at this;omega),zan,zan]
  by_cases h:x=w
  ·rw [zkB h,zkD,if_pos h]
  ·rw [zkA h,zkC,if_neg h]) (by
  simp only [za2.s2]
  rw [zcr]
  rfl) (by have:=hl.1;omega)
 rw [key];cases e:scan (fun i x=>if x=w then some (i:Int) else none) 0 l with
 | none =>
  have h3:=zd5.1 e
  have h:w∉l:=fun hm=>by
   obtain ⟨i,hi⟩:=List.mem_iff_getElem?.1 hm;have:=h3 i w hi;simp at this
  rw [zkA h];rfl
 | some r =>
  have h:w∈l∧0≤r:=zg8 (Q:=fun r=>w∈l∧0≤r) e fun i x r hx hr=>by
   split at hr
   ·rename_i he;injection hr with hr
    subst he;exact ⟨zkH hx,by omega⟩
   ·cases hr
  rw [zkB h.1];simp only [zan,Sum.elim_inr];rw [zkB h.2]
def lazT (l:zai):zac:=⟨l.Inputs,l.Short,l.Suffixes⟩
def ofT (t:zac):zai:=⟨t.Inputs,t.Prefixes,t.Suffixes⟩
def sufB (S:List (List Int)):Bool:=S.all fun e=>decide (e.length≤1)||decide (e.drop 1∈S)
def zf9 (l:zai):Int:=if zdn (lazT l)≠0 then zdn (lazT l) else if sufB l.Suffixes=true then 0 else 1
def chkL (l:zai) (o:zab):Int:=if zf9 l≠0 then zf9 l else if l.Inputs≠o.Inputs then 15 else 0
theorem suf_step {S:List (List Int)} {R:Type} {f:Bool} (e:List Int) (k:Bool→Option R):((cond (decide (1<(↑(List.length e):Int))) (chk ((0:Int)≤1∧1≤(↑(List.length e):Int)) ((some (decide (e.drop 1∈S))).bind fun c=>some (!c))) (some false):Option Bool)).bind k=k (!(decide (e.length≤1)||decide (e.drop 1∈S))):=by
 by_cases h:1<e.length
 ·rw [zkB (by omega),zkD,zav (by omega),zan,zan,show decide (e.length≤1)=false from zkA (by omega),Bool.false_or]
 ·rw [show decide (1<(↑(List.length e):Int))=false from zkA (by omega),zkC,zan,show decide (e.length≤1)=true from zkB (by omega)];rfl
theorem zjk {l:zai} (ht:SmT (lazT l)):zdw l=some (zf9 l):=by
 have hs:SmL l.Suffixes:=ht.2.2.1;have hs1:=hs.1;unfold zdw zgm zf9;rw [zan,show (⟨l.Inputs,l.Short,l.Suffixes⟩:zac)=lazT l from rfl,zpf _ ht,zan];by_cases h:zdn (lazT l)=0
 ·rw [zkA (by simpa using h),zkC,if_neg (by simpa using h)]
  have key:=zce (step:=fun s=>zdw.s2 l s) (l:=l.Suffixes) (fun _ e=>if (decide (e.length≤1)||decide (e.drop 1∈l.Suffixes))=true then none else some (1:Int)) (fun i x hx=>by
   simp only [zdw.s2]
   rw [zbw hx,zkD,zaq hx,zw4 _ _ hs,suf_step (f:=true)]
   cases (decide (x.length≤1)||decide (x.drop 1∈l.Suffixes))<;>rfl) (by
   simp only [zdw.s2]
   rw [zcr]
   rfl) (by omega)
  rw [key,zh8 (p:=fun (e:List Int)=>decide (e.length≤1)||decide (e.drop 1∈l.Suffixes))]
  unfold sufB;cases (l.Suffixes.all fun e=>decide (e.length≤1)||decide (e.drop 1∈l.Suffixes))<;>rfl
 ·rw [zkB h,zkD,if_pos h]
theorem R28_Valid_eq {l:zai} (ht:SmT (lazT l)):ze9 l=some (zf9 l):=by
 have hs:SmL l.Suffixes:=ht.2.2.1;have hs1:=hs.1;unfold ze9 zi1 zf9;rw [zan,show (⟨l.Inputs,l.Short,l.Suffixes⟩:zac)=lazT l from rfl,zht _ ht,zan];by_cases h:zdn (lazT l)=0
 ·rw [zkA (by simpa using h),zkC,if_neg (by simpa using h)]
  have key:=zce (step:=fun s=>ze9.s2 l s) (l:=l.Suffixes) (fun _ e=>if (decide (e.length≤1)||decide (e.drop 1∈l.Suffixes))=true then none else some (1:Int)) (fun i x hx=>by
   simp only [ze9.s2]
   rw [zbw hx,zkD,zaq hx,zr8 _ _ hs,suf_step (f:=true)]
   cases (decide (x.length≤1)||decide (x.drop 1∈l.Suffixes))<;>rfl) (by
   simp only [ze9.s2]
   rw [zcr]
   rfl) (by omega)
  rw [key,zh8 (p:=fun (e:List Int)=>decide (e.length≤1)||decide (e.drop 1∈l.Suffixes))]
  unfold sufB;cases (l.Suffixes.all fun e=>decide (e.length≤1)||decide (e.drop 1∈l.Suffixes))<;>rfl
 ·rw [zkB h,zkD,if_pos h]
theorem zq7 {l:zai} {o:zab} (ht:SmT (lazT l)):ziq l o=some (chkL l o):=by
 unfold ziq chkL;rw [zjk ht,zan];by_cases h:zf9 l=0
 ·rw [zkA (by simpa using h),zkC,if_neg (by simpa using h)];by_cases h2:l.Inputs=o.Inputs
  ·rw [zkA (by simpa using h2),if_neg (by simpa using h2)];rfl
  ·rw [zkB h2,if_pos h2];rfl
 ·rw [zkB h,zkD,if_pos h]
theorem zxa {l:zai} {o:zab} (ht:SmT (lazT l)):zki l o=some (chkL l o):=by
 unfold zki chkL;rw [R28_Valid_eq ht,zan];by_cases h:zf9 l=0
 ·rw [zkA (by simpa using h),zkC,if_neg (by simpa using h)];by_cases h2:l.Inputs=o.Inputs
  ·rw [zkA (by simpa using h2),if_neg (by simpa using h2)];rfl
  ·rw [zkB h2,if_pos h2];rfl
 ·rw [zkB h,zkD,if_pos h]
theorem zpc {l:List (List Int)} (hl:SmL l):zef l=some l:=by
 have hl1:l.length≤2000000:=hl.1;unfold zef
 rw [zdy (r:=l) (fun s=>s.2≤l.length∧s.1=l.take s.2) (fun s=>l.length-s.2) (fun s ⟨h1,h2⟩=>by
  simp only [zef.s2]
  by_cases h3:s.2<l.length
  ·left
   have hx:=get_at h3
   refine ⟨(l.take (s.2+1),s.2+1),?_,⟨by omega,rfl⟩,by simp only;omega⟩
   rw [zbw hx,zkD,zaq hx,zh4 (hl.2 _ (List.getElem_mem _))]
   simp only [zan]
   rw [zav (by rw [h2,List.length_take];unfold zbm;omega),zbp hx,h2]
  ·right
   have e:s.2=l.length:=by omega
   rw [zkA (by omega),zkC,h2,e,List.take_length]) (s:=([],0)) ⟨Nat.zero_le _,by simp⟩ (by have:=za4;simp only;omega)]
 rfl
theorem zma {l:zai} (h1:SmL l.Short) (h2:SmL l.Suffixes):zjx l=some l:=by
 unfold zjx;rw [zpc h1,zpc h2];rfl
theorem uncl_ins {t:zac} {o:zab} {w:List Int} (ht:zev t) (hz:zi3 t o=0) (hf:(extL t).find? (newRow t o)=some w) :
  zij t w=(⟨t.Inputs,insW t.Prefixes w,t.Suffixes⟩,0)∧zdn ⟨t.Inputs,insW t.Prefixes w,t.Suffixes⟩=0:=by
 obtain ⟨hval,_,hA⟩:=zc5 hz;obtain ⟨hn1,_,hAp,hAs,hsing,_,_,hne⟩:=zez hval;obtain ⟨hck,hcl,hnil,hsc⟩:=zeq hval;obtain ⟨g1,g2,_⟩:=uncl_progress ht hz hf;have hwm:=List.mem_of_find?_eq_some hf;obtain ⟨p,hp,h2⟩:=List.mem_flatMap.1 hwm;obtain ⟨a,ha,rfl⟩:=List.mem_map.1 h2;have ha:=List.mem_range.1 ha;have hpl:=ht.pw p hp;have hcw:=zxt (hck p hp) (by omega) (show (↑a:Int)<t.Inputs by omega)
 have e1:sortW (t.Prefixes++sortW (preL [p++[(↑a:Int)]]))=insW t.Prefixes (p++[(↑a:Int)]):=zpn (zet _) (hAp.insW _) fun x=>by
  rw [zdd,List.mem_append,zdd,zor,zfo];unfold prefixes;constructor
  ·rintro (h | h)
   ·exact Or.inl h
   ·obtain ⟨k,hk,rfl⟩:=List.mem_map.1 h;have hk:=List.mem_range.1 hk;rw [zkJ,List.length_singleton] at hk;rcases Nat.lt_or_ge p.length k with h3 | h3
    ·right;rw [List.take_of_length_le (by rw [zkJ,List.length_singleton];omega)]
    ·left;rw [List.take_append_of_le_length h3];exact zlg hval _ p hp k rfl h3
  ·rintro (h | rfl)
   ·exact Or.inl h
   ·exact Or.inr (List.mem_map.2 ⟨p.length+1,by simp,by rw [List.take_of_length_le (by simp)]⟩)
 have e2:sortW (t.Suffixes++[])=t.Suffixes:=by rw [List.append_nil,zf8 hAs]
 have hP:zij t (p++[(↑a:Int)])=zxd t (sortW (preL [p++[(↑a:Int)]])) []:=by
  unfold zij;rw [if_neg (by simpa using hval),if_neg (by simpa using hcw)]
 rw [hP] at g1 ⊢;unfold zxd at g1 ⊢;rw [e1,e2] at g1 ⊢;by_cases h:zdn ⟨t.Inputs,insW t.Prefixes (p++[(↑a:Int)]),t.Suffixes⟩=0
 ·rw [if_neg (by simpa using h)];exact ⟨rfl,h⟩
 ·rw [if_pos h] at g1;exact absurd g1 h
theorem inc_ins {t:zac} {o:zab} {x:Int×Int×Bool} (ht:zev t) (hv:zc2 o) (hz:zi3 t o=0) (hf:iP t o=some x) :
  zhi t (toW t x)=(⟨t.Inputs,t.Prefixes,insW t.Suffixes (toW t x)⟩,0)∧zdn ⟨t.Inputs,t.Prefixes,insW t.Suffixes (toW t x)⟩=0∧(toW t x).drop 1∈t.Suffixes:=by
 obtain ⟨hval,_,hA⟩:=zc5 hz;obtain ⟨hn1,_,hAp,hAs,hsing,_,_,hne⟩:=zez hval;obtain ⟨hck,hcl,hnil,hsc⟩:=zeq hval;obtain ⟨g1,g2,_⟩:=ztr ht hv hz hf;obtain ⟨_,a,e,h1,h2,ha,he⟩:=iP_range hv hA hf;have hse:=get_at he
 have hW:toW t x=(↑a:Int)::t.Suffixes[e]:=by
  unfold toW;rw [h1,h2];simp [hse]
 have hm:=List.getElem_mem he;have hel:=ht.sw _ hm;have hcw:=zx6 (hsc _ hm).1 (by omega) (show (↑a:Int)<t.Inputs by omega);have e1:sortW (t.Prefixes++[])=t.Prefixes:=by rw [List.append_nil,zf8 hAp]
 have e2:sortW (t.Suffixes++[toW t x])=insW t.Suffixes (toW t x):=by rw [zr0,zf8 hAs]
 have hP:zhi t (toW t x)=zxd t [] [toW t x]:=by
  unfold zhi;rw [if_neg (by simpa using hval),if_neg (by rw [hW];simp),if_neg (by rw [hW];simpa using hcw)]
 rw [hP] at g1 ⊢;unfold zxd at g1 ⊢;rw [e1,e2] at g1 ⊢;by_cases h:zdn ⟨t.Inputs,t.Prefixes,insW t.Suffixes (toW t x)⟩=0
 ·rw [if_neg (by simpa using h)];exact ⟨rfl,h,by rw [hW];simpa using hm⟩
 ·rw [if_pos h] at g1;exact absurd g1 h
theorem sufB_ins {S:List (List Int)} {w:List Int} (h:sufB S=true) (hw:w.drop 1∈S):sufB (insW S w)=true:=by
 unfold sufB at h ⊢;refine List.all_eq_true.2 fun e he=>?_;rw [Bool.or_eq_true,decide_eq_true_eq,decide_eq_true_eq];rcases (zfo S w e).1 he with he | rfl
 ·have:=List.all_eq_true.1 h e he;rw [Bool.or_eq_true,decide_eq_true_eq,decide_eq_true_eq] at this;exact this.imp_right fun h=>(zfo S w _).2 (Or.inl h)
 ·exact Or.inr ((zfo S _ _).2 (Or.inl hw))
def zk8 (l:zai) (o:zab):zai×List (List Int)×Bool×Int :=
 if chkL l o≠0 then (l,[],false,chkL l o) else (ofT (stepT (lazT l) o).1,(stepT (lazT l) o).2)
section
variable {l:zai} {o:zab}
theorem zrq (h:chkL l o=0):chkT (lazT l) o=0∧zf9 l=0∧sufB l.Suffixes=true∧zdn (lazT l)=0:=by
 unfold chkL at h;split at h
 ·rename_i h1;exact absurd h h1
 ·rename_i h1;have h1:zf9 l=0:=Classical.not_not.1 h1;have h2:=h1;unfold zf9 at h2;split at h2
  ·rename_i h3;exact absurd h2 h3
  ·rename_i h3;have h3:zdn (lazT l)=0:=Classical.not_not.1 h3;split at h2
   ·rename_i h4;refine ⟨?_,h1,h4,h3⟩;unfold chkT;rw [if_neg (by simpa using h3)];exact h
   ·cases h2
theorem zrf {n:Int} {p s:List (List Int)} (h:zdn ⟨n,p,s⟩=0) (h2:sufB s=true):zf9 ⟨n,p,s⟩=0:=by
 unfold zf9 lazT;rw [if_neg (by simpa using h),if_pos h2]
theorem R28_Step_eq (ht:zev (lazT l)) (ho:SmO o) (hv:zc2 o):zqp l o=some (zk8 l o):=by
 unfold zqp zk8 zi1 R28_Of;rw [zxa ht.sm,zan];by_cases h:chkL l o=0
 ·rw [zkA (by simpa using h),zkC,if_neg (by simpa using h),zan,show (⟨l.Inputs,l.Short,l.Suffixes⟩:zac)=lazT l from rfl,R24_Step_eq ht ho hv];rfl
 ·rw [zkB h,zkD,if_pos h]
theorem lazy_Step_eq (ht:zev (lazT l)) (ho:SmO o) (hv:zc2 o):zfe l o=some (zk8 l o):=by
 have hp:=ht.p;have hs:=ht.s;have hT:(⟨l.Inputs,l.Short,l.Suffixes⟩:zac)=lazT l:=rfl;unfold zfe zk8 zgm;rw [zq7 ht.sm,zan];by_cases h:chkL l o=0
 ·obtain ⟨h1,h3,h4,h5⟩:=zrq h;rw [zkA (by simpa using h),zkC,if_neg (by simpa using h),zan,hT,zwe ht ho hv,zan,if_neg (by simpa using h1)];unfold stepT;rw [if_neg (by simpa using h1)];by_cases h2:zdv o (lazT l) (lazT l).Prefixes=[]
  ·rw [if_neg (by simpa using h2),zks.2 h2];have hz:=zt3 h1 h2;obtain ⟨_,_,hAp,hAs,_⟩:=zez h5;simp only [ne_eq,not_true_eq_false,decide_false,zkC,List.length_nil,Int.ofNat_zero,Int.natCast_zero,Int.lt_irrefl];rw [zan,zkC,zr5 ht ho hv];unfold unclT;rw [if_neg (by simpa using hz)];cases hf:(extL (lazT l)).find? (newRow (lazT l) o) with
   | some w =>
    obtain ⟨w1,w2⟩:=zpk ht (List.mem_of_find?_eq_some hf);obtain ⟨u1,u2⟩:=uncl_ins ht hz hf;have sm1:SmL (insW l.Short w):=sml_ins ⟨by have:l.Short.length≤80:=hp;omega,ht.sm.2.1.2⟩ (by unfold SmW;omega)
    have sm2:SmT (lazT ⟨l.Inputs,insW l.Short w,l.Suffixes⟩):=⟨ht.sm.1,sm1,ht.sm.2.2.1,fun x hx a ha=>by
     rcases (zfo _ _ _).1 hx with hx | rfl
     ·exact ht.sm.2.2.2 x hx a ha
     ·exact w2 a ha⟩
    simp only [zan,ne_eq,not_true_eq_false,decide_false,zkC,zkD];rw [zn8 (l:=l.Short) hAp ht.sm.2.1 (by unfold SmW;omega),zan];simp only [Sum.elim_inl,zfe.k1,zan];rw [zjk sm2,zan,zrf (n:=l.Inputs) (p:=insW l.Short w) (s:=l.Suffixes) u2 h4];simp only [ne_eq,not_true_eq_false,decide_false,zkC];rw [zma (l:=⟨l.Inputs,insW l.Short w,l.Suffixes⟩) sm1 ht.sm.2.2.1,zan,u1];rfl
   | none =>
    simp only [zan,ne_eq,not_true_eq_false,decide_false,zkC];rw [znu ht ho hv];unfold incT;rw [if_neg (by simpa using hz)];cases hi:iP (lazT l) o with
    | some x =>
     have hwl:=toW_len ht x;obtain ⟨u1,u2,u3⟩:=inc_ins ht hv hz hi;have sm1:SmL (insW l.Suffixes (toW (lazT l) x)):=sml_ins ⟨by have:l.Suffixes.length≤12:=hs;omega,ht.sm.2.2.1.2⟩ (by unfold SmW;omega);have sm2:SmT (lazT ⟨l.Inputs,l.Short,insW l.Suffixes (toW (lazT l) x)⟩):=⟨ht.sm.1,ht.sm.2.1,sm1,ht.sm.2.2.2⟩;simp only [zan,ne_eq,not_true_eq_false,decide_false,zkC,Bool.not_true];rw [zn8 (l:=l.Suffixes) hAs ht.sm.2.2.1 (by unfold SmW;omega),zan,zan];simp only [Sum.elim_inl,zfe.k1,zan];rw [zjk sm2,zan,zrf (n:=l.Inputs) (p:=l.Short) (s:=insW l.Suffixes (toW (lazT l) x)) u2 (sufB_ins h4 u3)];simp only [ne_eq,not_true_eq_false,decide_false,zkC];rw [zma (l:=⟨l.Inputs,l.Short,insW l.Suffixes (toW (lazT l) x)⟩) ht.sm.2.1 sm1,zan,u1];rfl
    | none=>rfl
  ·rw [if_pos h2,zkA (by simp),zkC,zkB (zuq fun h=>h2 (zks.1 h))];rfl
 ·rw [zkB h,zkD,if_pos h]
end
end
section
theorem sum_mem {α:Type} {f:α→Nat}:∀ {l:List α} {x:α},x∈l→f x≤(l.map f).sum
 | y::l,x,h=>by
  rw [List.map_cons,List.sum_cons];rcases List.mem_cons.1 h with rfl | h
  ·omega
  ·have:=sum_mem (f:=f) h;omega
theorem sum_len {α:Type} {f:α→Nat} (hf:∀ x,1≤f x):∀ l:List α,l.length≤(l.map f).sum
 | []=>by simp
 | y::l=>by
  have:=sum_len hf l;have:=hf y;rw [List.map_cons,List.sum_cons,zkL];omega
theorem zse {x:List Int}:x.length+1=szL sz1 x:=by
 unfold szL sz1
 induction x with
 | nil=>rfl
 | cons y l ih=>simp at ih ⊢;omega
theorem sml_of {l:List (List Int)} {N:Nat} (h:szL (szL sz1) l≤N) (hN:N≤2000000):SmL l:=by
 unfold szL at h;refine ⟨?_,fun x hx=>?_⟩
 ·have:=sum_len (f:=szL sz1) (fun x=>by rw [← zse];omega) l;unfold szL at this;omega
 ·have:=sum_mem (f:=szL sz1) hx;rw [← zse] at this;unfold szL at this;unfold SmW;omega
theorem trace_pos (t:zaa):1≤zek t:=by unfold zek;omega
theorem smo_of {o:zab} (s:zoq o≤1048576):SmO o:=by
 unfold zoq at s;have s1:szL zek o.Traces≤1048576:=by omega
 refine ⟨?_,fun t ht=>?_⟩
 ·have:=sum_len (f:=zek) trace_pos o.Traces;unfold szL at s1;omega
 ·have h1:=sum_mem (f:=zek) ht;have h2:=zse (x:=t.In);have h3:=zse (x:=t.Out);have h4:(o.Traces.map zek).sum+1≤1048576:=s1;have h5:zek t=(szL sz1 t.In+(szL sz1 t.Out+0))+1:=rfl;omega
theorem lzt_of {t:zai} (k:zpp t) (s:zmt t≤1048576):SmT (lazT t):=by
 unfold zmt at s;obtain ⟨k1,k2,k3⟩:=k;have h2:SmL t.Short:=sml_of (N:=1048576) (by omega) (by omega);have h3:SmL t.Suffixes:=sml_of (N:=1048576) (by omega) (by omega);exact ⟨k1,h2,h3,k2⟩
theorem spl_of {x:zd1} (s:zk2 x≤1048576):SmW x.Prefix∧SmW x.Suffix:=by
 unfold zk2 at s;have h1:=zse (x:=x.Prefix);have h2:=zse (x:=x.Suffix);unfold SmW;omega
end
end Go.Proofs.YtedabpfahmealaaGreatDoor.Sym
namespace Go.Proofs.YtedabpfahmealaaGreatDoor
section
def M64:Nat:=18446744073709551616
def gold:Nat:=11400714819323198485
def mulA:Nat:=13787848793156543929
def mulB:Nat:=10723151780598845931
def mix (y:Nat):Nat :=
 let z:=(y ^^^ (y >>> 30))*mulA%M64
 let u:=(z ^^^ (z >>> 27))*mulB%M64
 u ^^^ (u >>> 31)
theorem few:∀ (k a:Nat) (l:List Nat),l.Nodup→(∀ x∈l,a≤x∧x<a+k)→l.length≤k
 | 0,a,l,_,h=>by
  cases l with
  | nil=>simp
  | cons x l=>have:=h x (by simp);omega
 | k+1,a,l,hn,h=>by
  have h1:=few k a (l.erase (a+k)) (hn.erase _) fun x hx=>by
   have h2:=(hn.mem_erase_iff).1 hx;have h3:=h x h2.2;have h4:=h2.1;omega
  by_cases hm:a+k∈l
  ·have:=List.length_erase_of_mem hm;omega
  ·rw [List.erase_of_not_mem hm] at h1;omega
def drawF:Nat→Nat→Nat×Nat
 | 0,s=>(0,s)
 | f+1,s=>if mix ((s+gold)%M64)<M64-1616 then (mix ((s+gold)%M64)%10000,(s+gold)%M64) else drawF f ((s+gold)%M64)
def draw (s:Nat):Nat×Nat:=drawF 1617 s
end
end Go.Proofs.YtedabpfahmealaaGreatDoor
namespace Go.Proofs.YtedabpfahmealaaGreatDoor.Sym
section
set_option maxRecDepth 100000
def goOn (good:Nat→Bool) (nx:Nat→Nat):Nat→Nat→Nat
 | 0,s=>s
 | f+1,s=>cond (good s) s (goOn good nx f (nx s))
def steps (nx:Nat→Nat):Nat→Nat→Nat
 | 0,s=>s
 | j+1,s=>steps nx j (nx s)
def nxt (s:Nat):Nat:=(s+gold)%M64
def hitN (s:Nat):Bool:=decide (mix s<M64-1616)
def drawS (s:Nat):Nat:=goOn (fun s=>hitN (nxt s)) nxt 1617 s
def drawN (s:Nat):Nat×Nat:=(mix (nxt (drawS s))%10000,nxt (drawS s))
theorem nxt_lt (s:Nat):nxt s<18446744073709551616:=Nat.mod_lt _ (by decide)
theorem draw_lt (s:Nat):(drawN s).1<10000∧(drawN s).2<18446744073709551616:=⟨Nat.mod_lt _ (by decide),nxt_lt _⟩
end
section
set_option maxRecDepth 100000
def propI (t:zaa) (n:Int):Int :=
 if zbn t.In n≠0 then zbn t.In n else if t.Out.length≠t.In.length then 1 else if (t.Out.all fun y=>decide (0≤y∧y≤1048576))=true then 0 else 2
theorem zrx {t:zaa} {n:Int}:propI t n=0↔zo2 n t:=by
 unfold propI zo2;by_cases h1:zbn t.In n=0
 ·rw [if_neg (by simpa using h1)];by_cases h2:t.Out.length=t.In.length
  ·rw [if_neg (by simpa using h2)];by_cases h3:(t.Out.all fun y=>decide (0≤y∧y≤1048576))=true
   ·rw [if_pos h3];exact ⟨fun _=>⟨h1,h2,fun y hy=>of_decide_eq_true (List.all_eq_true.1 h3 y hy)⟩,fun _=>rfl⟩
   ·rw [if_neg h3];exact ⟨fun h=>(by cases h),fun h=>absurd (List.all_eq_true.2 fun y hy=>zkB (h.2.2 y hy)) h3⟩
  ·rw [if_pos h2];exact ⟨fun h=>(by cases h),fun h=>absurd h.2.1 h2⟩
 ·rw [if_pos h1];exact ⟨fun h=>absurd h h1,fun h=>absurd h.1 h1⟩
theorem R16_Proper_eq (t:zaa) (n:Int) (h1:SmW t.In) (h2:SmW t.Out):zcz t n=some (propI t n):=by
 unfold zcz propI;rw [zfh _ _ h1,zan];by_cases g1:zbn t.In n=0
 ·rw [zkA (by simpa using g1),zkC,if_neg (by simpa using g1)];by_cases g2:t.Out.length=t.In.length
  ·rw [zkA (by omega),zkC,if_neg (by simpa using g2)]
   have key:=zce (step:=fun s=>zcz.s2 t s) (l:=t.Out) (fun _ y=>if decide (0≤y∧y≤1048576)=true then none else some (2:Int)) (fun i y hy=>by
    simp only [zcz.s2]
    rw [zbw hy,zkD,zaq hy,zaq hy]
    by_cases a1:y<0
    ·rw [zkB a1,zkD,zan,zkD,zkA (show ¬ (0≤y∧y≤1048576) by omega)];rfl
    ·by_cases a2:1048576<y
     ·rw [zkA a1,zkC,zkB a2,zan,zkD,zkA (show ¬ (0≤y∧y≤1048576) by omega)];rfl
     ·rw [zkA a1,zkC,zkA a2,zan,zkC,zkB (show (0≤y∧y≤1048576) by omega)];rfl) (by
    simp only [zcz.s2]
    rw [zcr]
    rfl) (by unfold SmW at h2;omega)
   rw [key,zh8 (p:=fun y=>decide (0≤y∧y≤1048576)),zan];by_cases h:(t.Out.all fun y=>decide (0≤y∧y≤1048576))=true
   ·rw [if_pos h,if_pos h];rfl
   ·rw [if_neg h,if_neg h];rfl
  ·rw [zkB (by omega),zkD,if_pos g2]
 ·rw [zkB g1,zkD,if_pos g1]
theorem zup:∀ a b:List Int,za9 a b=za9 b a
 | [],[]=>rfl
 | [],_::_=>rfl
 | _::_,[]=>rfl
 | x::a,y::b=>by
  unfold za9;by_cases h:x=y
  ·rw [if_pos h,if_pos h.symm,zup a b]
  ·rw [if_neg h,if_neg fun e=>h e.symm]
theorem Agree.symm {a b:zaa} (h:Agree a b):Agree b a:=by
 unfold Agree at h ⊢;rw [zup];exact h.symm
theorem zw9 (a b:zaa) {n:Int} (ha:zo2 n a) (hb:zo2 n b) (h1:SmW a.In):∃ d,zdg a b=some d∧(0≤d↔¬ Agree a b):=by
 have h1':a.In.length≤2000000:=h1;have hc:=zoc a.In b.In;have la:=ha.2.1;have lb:=hb.2.1;unfold zdg;rw [zhz _ _ h1,zan]
 have key:=zbq (step:=fun k=>zdg.s2 a b (↑(za9 a.In b.In):Int) k) (fun k=>k≤za9 a.In b.In∧a.Out.take k=b.Out.take k) (fun k=>za9 a.In b.In-k) (fun r=>match r with | .inl ()=>Agree a b | .inr d=>0≤d∧¬ Agree a b) (fun k ⟨g1,g2⟩=>by
  simp only [zdg.s2]
  by_cases g3:k<za9 a.In b.In
  ·have hx:=get_at (l:=a.Out) (i:=k) (by omega)
   have hy:=get_at (l:=b.Out) (i:=k) (by omega)
   rw [zkB (by omega),zkD,zaq hx,zaq hy]
   by_cases e:a.Out[k]'(by omega)=b.Out[k]'(by omega)
   ·left
    refine ⟨k+1,by rw [zkA (by simpa using e),zkC,zav (by unfold inR;omega)],⟨g3,?_⟩,by omega⟩
    rw [zbp hx,zbp hy,g2,e]
   ·right
    refine ⟨.inr (k:Int),by rw [zkB e,zkD],by simp,fun hA=>e ?_⟩
    have h3:(a.Out.take (za9 a.In b.In))[k]?=(b.Out.take (za9 a.In b.In))[k]?:=by rw [hA]
    rw [List.getElem?_take,List.getElem?_take,if_pos g3,if_pos g3,hx,hy] at h3
    injection h3
  ·right
   have e:k=za9 a.In b.In:=by omega
   subst e
   exact ⟨.inl (),by rw [zkA (by omega),zkC],g2⟩) fuel 0 ⟨Nat.zero_le _,by simp⟩ (by have:=za4;omega)
 obtain ⟨r,e,hq⟩:=key;rw [e];cases r with
 | inl u=>exact ⟨-1,rfl,fun h=>absurd h (by decide),fun h=>absurd hq h⟩
 | inr d=>exact ⟨d,rfl,fun _=>hq.2,fun _=>hq.1⟩
def zx4 (l:List zaa) (t:zaa):Prop:=∃ u∈l,¬ Agree u t
def zgw (l:List zaa) (w:List Int):Bool:=l.any fun u=>decide (w <+: u.In)
def insT:List zaa→zaa→List zaa
 | [],t=>[t]
 | x::r,t=>if cmpW t.In x.In=-1 then t::x::r else x::insT r t
def restT (l:List zaa) (t:zaa):List zaa:=l.filter fun u=>!decide (u.In <+: t.In)
def addL (l:List zaa) (t:zaa):List zaa:=if zgw l t.In=true∨t.In=[] then l else insT (restT l t) t
instance (a b:zaa):Decidable (Agree a b):=by unfold Agree;infer_instance
instance (l:List zaa) (t:zaa):Decidable (zx4 l t):=by unfold zx4;infer_instance
def addO (o:zab) (t:zaa):zab×Int :=
 if propI t o.Inputs≠0 then (o,propI t o.Inputs) else if zx4 o.Traces t then (o,13) else if 10000<(addL o.Traces t).length then (o,11) else (⟨o.Inputs,addL o.Traces t⟩,0)
theorem insT_length (l:List zaa) (t:zaa):(insT l t).length=l.length+1:=by
 induction l with
 | nil=>rfl
 | cons x r ih =>
  unfold insT;split
  ·rfl
  ·simp [ih]
theorem restT_length (l:List zaa) (t:zaa):(restT l t).length≤l.length:=List.length_filter_le _ _
theorem zmw (l:List zaa) (t:zaa):(addL l t).length≤l.length+1:=by
 unfold addL;split
 ·omega
 ·rw [insT_length];have:=restT_length l t;omega
theorem zkv {l:List zaa} {t x:zaa}:x∈insT l t↔x=t∨x∈l:=by
 induction l with
 | nil=>simp [insT]
 | cons y r ih =>
  unfold insT;split
  ·simp
  ·simp only [List.mem_cons,ih];constructor
   ·rintro (h | h | h)
    ·exact .inr (.inl h)
    ·exact .inl h
    ·exact .inr (.inr h)
   ·rintro (h | h | h)
    ·exact .inr (.inl h)
    ·exact .inl h
    ·exact .inr (.inr h)
theorem insT_pair {S:zaa→zaa→Prop} {t:zaa}:∀ {l:List zaa},l.Pairwise S→(∀ x∈l,S x t∧S t x)→(insT l t).Pairwise S
 | [],_,_=>by simp [insT]
 | x::r,h,ht=>by
  unfold insT;have hx:=List.pairwise_cons.1 h;split
  ·exact List.pairwise_cons.2 ⟨fun y hy=>(ht y hy).2,h⟩
  ·refine List.pairwise_cons.2 ⟨fun y hy=>?_,insT_pair hx.2 fun y hy=>ht y (by simp [hy])⟩;rcases zkv.1 hy with e | e
   ·subst e;exact (ht x (by simp)).1
   ·exact hx.1 y e
theorem insT_asc {t:zaa}:∀ {l:List zaa},l.Pairwise (fun a b=>cmpW a.In b.In=-1)→(∀ x∈l,x.In≠t.In)→(insT l t).Pairwise (fun a b=>cmpW a.In b.In=-1)
 | [],_,_=>by simp [insT]
 | x::r,h,hn=>by
  unfold insT;have hx:=List.pairwise_cons.1 h;split
  ·rename_i h1;refine List.pairwise_cons.2 ⟨fun y hy=>?_,h⟩;rcases List.mem_cons.1 hy with e | e
   ·rw [e];exact h1
   ·exact zgl _ _ _ h1 (hx.1 y e)
  ·rename_i h1;refine List.pairwise_cons.2 ⟨fun y hy=>?_,insT_asc hx.2 fun y hy=>hn y (by simp [hy])⟩;rcases zkv.1 hy with e | e
   ·subst e;have r1:=zhm x.In y.In;have z1:=znz x.In y.In;have s1:=zq3 x.In y.In;have h6:¬ cmpW x.In y.In=0:=fun e=>hn x (by simp) (z1.1 e);omega
   ·exact hx.1 y e
theorem zc2.pw {o:zab} (hv:zc2 o):o.Traces.Pairwise (fun a b=>cmpW a.In b.In=-1)∧o.Traces.Pairwise (fun a b=>¬ a.In <+: b.In∧Agree a b) :=
 ⟨List.pairwise_iff_getElem.2 fun i j hi hj hij=>hv.asc i j _ _ hij (get_at hi) (get_at hj),List.pairwise_iff_getElem.2 fun i j hi hj hij=>hv.apart i j _ _ hij (get_at hi) (get_at hj)⟩
theorem obsOk_of {o:zab} (h1:1≤o.Inputs∧o.Inputs≤64) (h2:o.Traces.length≤10000) (h3:∀ t∈o.Traces,zo2 o.Inputs t∧t.In≠[]) (h4:o.Traces.Pairwise (fun a b=>cmpW a.In b.In=-1)) (h5:o.Traces.Pairwise (fun a b=>¬ a.In <+: b.In∧Agree a b)):zc2 o:=by
 refine ⟨h1,h2,h3,fun i j a b hij ha hb=>?_,fun i j a b hij ha hb=>?_⟩
 all_goals
  obtain ⟨hi,rfl⟩:=zkI.1 ha;obtain ⟨hj,rfl⟩:=zkI.1 hb
 ·exact List.pairwise_iff_getElem.1 h4 i j hi hj hij
 ·exact List.pairwise_iff_getElem.1 h5 i j hi hj hij
theorem insideO_false {l:List zaa} {w:List Int} (h:¬ zgw l w=true):∀ u∈l,¬ w <+: u.In:=fun u hu hp=>h (List.any_eq_true.2 ⟨u,hu,zkB hp⟩)
theorem addO_ok {o:zab} {t:zaa} (hv:zc2 o):zc2 (addO o t).1:=by
 unfold addO;split
 ·exact hv
 rename_i hp;have hp:zo2 o.Inputs t:=zrx.1 (by simpa using hp);split
 ·exact hv
 rename_i hc;split
 ·exact hv
 rename_i hn;have hn:(addL o.Traces t).length≤10000:=by omega
 unfold addL at hn ⊢;by_cases h:zgw o.Traces t.In=true∨t.In=[]
 ·rw [if_pos h];exact hv
 ·rw [if_neg h] at hn ⊢;have h1:=insideO_false fun e=>h (.inl e);have h2:t.In≠[]:=fun e=>h (.inr e);have hsub:(restT o.Traces t).Sublist o.Traces:=List.filter_sublist
  have hrest:∀ x∈restT o.Traces t,x∈o.Traces∧¬ x.In <+: t.In:=fun x hx=>by
   have:=List.mem_filter.1 hx;refine ⟨this.1,fun e=>?_⟩;rw [zkB e] at this;exact Bool.false_ne_true this.2
  have hag:∀ x∈o.Traces,Agree x t:=fun x hx=>Classical.byContradiction fun e=>hc ⟨x,hx,e⟩;refine obsOk_of hv.inp hn (fun x hx=>?_) (insT_asc (hv.pw.1.sublist hsub) fun x hx e=>(hrest x hx).2 (e ▸ List.prefix_refl _)) (insT_pair (hv.pw.2.sublist hsub) fun x hx=>⟨⟨(hrest x hx).2,hag x (hrest x hx).1⟩,h1 x (hrest x hx).1,(hag x (hrest x hx).1).symm⟩);rcases zkv.1 hx with e | e
  ·rw [e];exact ⟨hp,h2⟩
  ·exact hv.prop x (hrest x e).1
end
section
set_option maxRecDepth 100000
def SmX (t:zaa):Prop:=SmW t.In∧SmW t.Out
def SmTr (l:List zaa):Prop:=l.length≤1200000∧∀ t∈l,SmX t
theorem SmO.tr {o:zab} (h:SmO o):SmTr o.Traces:=⟨by have:=h.1;omega,fun t ht=>⟨by have:=(h.2 t ht).1;unfold SmW;omega,(h.2 t ht).2⟩⟩
theorem capT {n:Nat} (h:n≤3000000):zbm n 48:=by unfold zbm;omega
theorem zmv {t:zaa} (h:SmX t):zih t=some t:=by
 have h1:=h.1;have h2:=h.2;unfold SmW at h1 h2;unfold zih;rw [zl8 _ (by simp) (by simp;omega),zan,zl8 _ (by simp) (by simp;omega),zan];simp
def zqy (t x:zaa):Bool:=decide (¬ x.In <+: t.In∨t.In.length=x.In.length)
def zrj (t:zaa):Bool→List zaa→List zaa
 | done,[]=>if done=true then [] else [t]
 | done,x::r=>(if done=false∧cmpW t.In x.In=-1 then [t] else [])++((if zqy t x=true then [x] else [])++zrj t (done||decide (cmpW t.In x.In=-1)) r)
theorem zr2 {t:zaa}:∀ (l:List zaa),zrj t true l=l.filter (zqy t)
 | []=>rfl
 | x::r=>by
  unfold zrj;rw [if_neg (by simp),List.filter_cons,Bool.true_or,zr2 r];split<;>rfl
theorem zuz {t:zaa}:∀ (l:List zaa),(∀ x∈l,x.In≠t.In)→zrj t false l=insT (restT l t) t
 | [],_=>rfl
 | x::r,hn=>by
  have hne:=hn x (by simp)
  have hk:zqy t x=!decide (x.In <+: t.In):=by
   unfold zqy;by_cases h:x.In <+: t.In
   ·rw [zkB h,Bool.not_true];refine zkA fun e=>?_;rcases e with e | e
    ·exact e h
    ·exact hne (h.eq_of_length (by omega))
   ·rw [zkA h,zkB (.inl h)];rfl
  have hrr:∀ l:List zaa,(∀ x∈l,x.In≠t.In)→l.filter (zqy t)=restT l t:=fun l hl=>by
   unfold restT;refine List.filter_congr fun y hy=>?_;unfold zqy;by_cases h:y.In <+: t.In
   ·rw [zkB h,Bool.not_true];refine zkA fun e=>?_;rcases e with e | e
    ·exact e h
    ·exact hl y hy (h.eq_of_length (by omega))
   ·rw [zkA h,zkB (.inl h)];rfl
  have hr:∀ y∈r,y.In≠t.In:=fun y hy=>hn y (by simp [hy]);unfold zrj restT;rw [List.filter_cons,hk];by_cases h:x.In <+: t.In
  ·have h1:¬ cmpW t.In x.In=-1:=fun e=>by
    have:=h.length_le;unfold cmpW at e;split at e
    ·omega
    ·split at e
     ·cases e
     ·have h2:=h.eq_of_length (by omega);exact hne h2
   rw [if_neg fun e=>h1 e.2,zkB h,zkA h1,Bool.not_true,if_neg Bool.false_ne_true,if_neg Bool.false_ne_true,Bool.or_false];exact zuz r hr
  ·rw [zkA h,Bool.not_false,if_pos rfl,if_pos rfl];unfold insT;by_cases h1:cmpW t.In x.In=-1
   ·rw [if_pos ⟨rfl,h1⟩,if_pos h1,zkB h1,Bool.or_true,zr2,hrr r hr];rfl
   ·rw [if_neg fun e=>h1 e.2,if_neg h1,zkA h1,Bool.or_false,zuz r hr];rfl
theorem keep_all {o:zab} {t:zaa} (hv:zc2 o) (h:zgw o.Traces t.In=true∨t.In=[]):o.Traces.filter (zqy t)=o.Traces:=by
 refine List.filter_eq_self.2 fun x hx=>zkB ?_;refine Classical.byContradiction fun hn=>?_;have h1:x.In <+: t.In:=Classical.byContradiction fun e=>hn (.inl e);have h2:¬ t.In.length=x.In.length:=fun e=>hn (.inr e);have hl:=h1.length_le;rcases h with h | h
 ·obtain ⟨u,hu,hp⟩:=List.any_eq_true.1 h;have hp:t.In <+: u.In:=of_decide_eq_true hp;have hl2:=hp.length_le;obtain ⟨i,hi,rfl⟩:=List.mem_iff_getElem.1 hx;obtain ⟨j,hj,rfl⟩:=List.mem_iff_getElem.1 hu;rcases Nat.lt_trichotomy i j with e | e | e
  ·exact (hv.apart i j _ _ e (get_at hi) (get_at hj)).1 (h1.trans hp)
  ·subst e;omega
  ·have:=hv.asc j i _ _ e (get_at hj) (get_at hi);unfold cmpW at this;split at this
   ·omega
   ·split at this
    ·cases this
    ·omega
 ·rw [h] at h2 hl;simp at h2 hl;exact h2 (by rw [hl];rfl)
theorem R16_add_eq {o:zab} {t:zaa} (ho:SmTr o.Traces) (hv:zc2 o) (ht:SmX t):zdm o t=some ⟨o.Inputs,addL o.Traces t⟩:=by
 have hl:=ho.1;unfold zdm
 have key:=zbq (step:=fun (s:Bool×Nat)=>zdm.s2 o t s.1 s.2) (fun s=>s.2≤o.Traces.length∧s.1=(decide (t.In=[])||zgw (o.Traces.take s.2) t.In)) (fun s=>o.Traces.length-s.2) (fun r=>r=(decide (t.In=[])||zgw o.Traces t.In)) (fun ⟨b,i⟩ ⟨g1,g2⟩=>by
  simp only at g1 g2
  simp only [zdm.s2]
  by_cases g4:i<o.Traces.length
  ·left
   have hx:=get_at g4
   have hxm:=List.getElem_mem g4
   have hst:zgw (o.Traces.take (i+1)) t.In=(zgw (o.Traces.take i) t.In||decide (t.In <+: o.Traces[i].In)):=by
    rw [zbp hx]
    unfold zgw
    rw [List.any_append]
    simp
   refine ⟨(decide (t.In=[])||zgw (o.Traces.take (i+1)) t.In,i+1),?_,⟨g4,rfl⟩,by simp only;omega⟩
   rw [zbw hx,zkD,hst,← Bool.or_assoc,← g2]
   cases b with
   | true=>rfl
   | false =>
    rw [zkC,zaq hx,zfu _ _ (ho.2 _ hxm).1,zan]
    rfl
  ·right
   have e:i=o.Traces.length:=by omega
   subst e
   rw [List.take_length] at g2
   exact ⟨b,by rw [zcr,zkC],g2⟩) fuel (decide ((↑(List.length t.In):Int)=0),0) ⟨Nat.zero_le _,by
    simp only [List.take_zero,zgw,List.any_nil,Bool.or_false]
    exact decide_eq_decide.2 ⟨fun h=>List.eq_nil_of_length_eq_zero (by omega),fun h=>by rw [h];rfl⟩⟩ (by have:=za4;simp only;omega)
 obtain ⟨d0,e,rfl⟩:=key;rw [e,zan];generalize hd:(decide (t.In=[])||zgw o.Traces t.In)=d0
 have key2:=zbq (step:=fun (s:List zaa×Bool×Nat)=>zdm.s10 o t s.1 s.2.1 s.2.2) (fun s=>s.2.2≤o.Traces.length∧s.1.length≤2*s.2.2∧s.1++zrj t s.2.1 (o.Traces.drop s.2.2)=zrj t d0 o.Traces) (fun s=>o.Traces.length-s.2.2) (fun r=>r.1.length≤2400000∧r.1++zrj t r.2 []=zrj t d0 o.Traces) (fun ⟨y,b,i⟩ ⟨g1,g2,g3⟩=>by
  simp only at g1 g2 g3
  simp only [zdm.s10]
  by_cases g4:i<o.Traces.length
  ·left
   have hx:=get_at g4
   have hxm:=List.getElem_mem g4
   rw [List.drop_eq_getElem_cons g4] at g3
   rw [zbw hx,zkD,zaq hx]
   have hkeep:((zdp t.In o.Traces[i].In).bind fun c367=>cond (!c367) (some true) (some (decide ((↑(List.length t.In):Int)=(↑(List.length o.Traces[i].In):Int)))):Option Bool)=some (zqy t o.Traces[i]):=by
    unfold zqy
    rw [zfu _ _ ht.1,zan]
    by_cases h:o.Traces[i].In <+: t.In
    ·rw [zkB h,Bool.not_true,zkC]
     congr 1
     exact decide_eq_decide.2 ⟨fun e=>.inr (by omega),fun e=>by rcases e with e | e;exact absurd h e;omega⟩
    ·rw [zkA h,Bool.not_false,zkD,zkB (.inl h)]
   have hk9:∀ (z:List zaa) (c:Bool),z.length≤2*i+1→zdm.k9 t i o.Traces[i] z c=some (.inl (z++(if zqy t o.Traces[i]=true then [o.Traces[i]] else []),c,i+1)):=fun z c hz=>by
    unfold zdm.k9
    rw [hkeep,zan]
    cases zqy t o.Traces[i] with
    | true=>rw [zkD,zmv (ho.2 _ hxm),zan,zav (capT (by omega)),if_pos rfl]
    | false=>rw [zkC,if_neg Bool.false_ne_true,List.append_nil]
   have hcmp:((cond (!b) ((zdx t.In o.Traces[i].In).bind fun c352=>some (decide (c352<0))) (some false)):Option Bool)=some (decide (b=false∧cmpW t.In o.Traces[i].In=-1)):=by
    cases b with
    | true=>rfl
    | false =>
     have r1:=zhm t.In o.Traces[i].In
     rw [Bool.not_false,zkD,zg2 _ _ ht.1,zan]
     congr 1
     exact decide_eq_decide.2 ⟨fun e=>⟨rfl,by omega⟩,fun e=>by have:=e.2;omega⟩
   rw [hcmp,zan]
   have hps:zrj t b (o.Traces[i]::o.Traces.drop (i+1))=(if b=false∧cmpW t.In o.Traces[i].In=-1 then [t] else [])++((if zqy t o.Traces[i]=true then [o.Traces[i]] else [])++zrj t (b||decide (cmpW t.In o.Traces[i].In=-1)) (o.Traces.drop (i+1))):=rfl
   rw [hps] at g3
   by_cases hc:b=false∧cmpW t.In o.Traces[i].In=-1
   ·rw [if_pos hc,hc.1,Bool.false_or,zkB hc.2] at g3
    refine ⟨(y++[t]++(if zqy t o.Traces[i]=true then [o.Traces[i]] else []),true,i+1),?_,⟨g4,?_,?_⟩,by simp only;omega⟩
    ·rw [zkB hc,zkD,zmv ht,zan,zav (capT (by omega)),zan]
     exact hk9 _ _ (by rw [zkJ,List.length_singleton];omega)
    ·simp only [zkJ,List.length_singleton]
     split<;>simp<;>omega
    ·simp only
     rw [← g3]
     simp only [List.append_assoc]
   ·rw [if_neg hc,List.nil_append] at g3
    have hb:(b||decide (cmpW t.In o.Traces[i].In=-1))=b:=by
     cases b with
     | true=>rfl
     | false =>
      rw [Bool.false_or]
      exact zkA fun e=>hc ⟨rfl,e⟩
    rw [hb] at g3
    refine ⟨(y++(if zqy t o.Traces[i]=true then [o.Traces[i]] else []),b,i+1),?_,⟨g4,?_,?_⟩,by simp only;omega⟩
    ·rw [zkA hc,zkC,zan]
     exact hk9 y b (by omega)
    ·simp only [zkJ]
     split<;>simp<;>omega
    ·simp only
     rw [← g3]
     simp only [List.append_assoc]
  ·right
   have e:i=o.Traces.length:=by omega
   subst e
   rw [List.drop_length] at g3
   exact ⟨(y,b),by rw [zcr,zkC],by simp only;omega,g3⟩) fuel ([],d0,0) ⟨Nat.zero_le _,by simp,by simp⟩ (by have:=za4;simp only;omega)
 obtain ⟨⟨y,b⟩,e2,k1,k2⟩:=key2;simp only at k1 k2;rw [e2,zan]
 have hfin:zrj t d0 o.Traces=addL o.Traces t:=by
  unfold addL;by_cases h:zgw o.Traces t.In=true∨t.In=[]
  ·have h0:d0=true:=by
    rw [← hd];rcases h with h | h
    ·rw [h,Bool.or_true]
    ·rw [zkB h,Bool.true_or]
   rw [h0,zr2,if_pos h,keep_all hv h]
  ·have h1:zgw o.Traces t.In=false:=by
    cases hi:zgw o.Traces t.In with
    | true=>exact absurd (.inl hi) h
    | false=>rfl
   have h0:d0=false:=by
    rw [← hd,h1,zkA fun e=>h (.inr e)];rfl
   rw [h0,zuz _ fun x hx e=>h (.inl (List.any_eq_true.2 ⟨x,hx,zkB (e ▸ List.prefix_refl _)⟩)),if_neg h]
 rw [hfin] at k2;simp only [zdm.k11];cases b with
 | true =>
  rw [Bool.not_true,zkC,zan,← k2];simp [zrj]
 | false =>
  rw [Bool.not_false,zkD,zmv ht,zan,zav (capT (by omega)),zan,← k2];simp [zrj]
theorem R16_Add_eq {o:zab} {t:zaa} (ho:SmTr o.Traces) (hv:zc2 o) (ht:SmX t):zi8 o t=some (addO o t):=by
 have hl:=ho.1;unfold zi8 addO;rw [R16_Proper_eq _ _ ht.1 ht.2,zan];by_cases g1:propI t o.Inputs=0
 ·rw [zkA (by simpa using g1),zkC,if_neg (by simpa using g1)];have hp:=zrx.1 g1
  have key:=zbq (step:=fun i=>zi8.s2 o t i) (fun i=>i≤o.Traces.length∧∀ u∈o.Traces.take i,Agree u t) (fun i=>o.Traces.length-i) (fun r=>match r with | .inl ()=>¬ zx4 o.Traces t | .inr x=>zx4 o.Traces t∧x=(o,13)) (fun i ⟨g2,g3⟩=>by
   simp only [zi8.s2]
   by_cases g4:i<o.Traces.length
   ·have hx:=get_at g4
    have hxm:=List.getElem_mem g4
    obtain ⟨d,hd,hd2⟩:=zw9 o.Traces[i] t (hv.prop _ hxm).1 hp (ho.2 _ hxm).1
    rw [zbw hx,zkD,zaq hx,hd,zan]
    by_cases g5:0≤d
    ·exact .inr ⟨.inr (o,13),by rw [zkB g5,zkD],⟨_,hxm,hd2.1 g5⟩,rfl⟩
    ·left
     have hA:Agree o.Traces[i] t:=Classical.byContradiction fun e=>g5 (hd2.2 e)
     refine ⟨i+1,by rw [zkA g5,zkC],⟨g4,fun u hu=>?_⟩,by omega⟩
     rw [zbp hx] at hu
     rcases List.mem_append.1 hu with h | h
     ·exact g3 u h
     ·rw [List.mem_singleton.1 h]
      exact hA
   ·right
    have e:i=o.Traces.length:=by omega
    subst e
    rw [List.take_length] at g3
    exact ⟨.inl (),by rw [zcr,zkC],fun ⟨u,hu,h⟩=>h (g3 u hu)⟩) fuel 0 ⟨Nat.zero_le _,fun u hu=>by simp at hu⟩ (by have:=za4;omega)
  obtain ⟨r,e,hq⟩:=key;rw [e,zan];cases r with
  | inr x =>
   rw [if_pos hq.1,hq.2];rfl
  | inl u =>
   rw [if_neg hq];simp only [Sum.elim_inl];rw [R16_add_eq ho hv ht,zan];simp only;by_cases g2:10000<(addL o.Traces t).length
   ·rw [zkB (by omega),zkD,if_pos g2]
   ·rw [zkA (by omega),zkC,if_neg g2]
 ·rw [zkB g1,zkD,if_pos g1]
end
section
set_option maxRecDepth 100000
abbrev costOk (l:zqk):Prop:=(∀ c∈l.Step,0≤c∧c≤1048576)∧0≤l.Reset∧l.Reset≤1048576
abbrev cntOk (n:Int):Prop:=0≤n∧n≤1125899906842624
abbrev faultOk (f:zky):Prop:=(0≤f.Lost∧f.Lost≤10000)∧(0≤f.Wrong∧f.Wrong≤10000)∧(0≤f.Crash∧f.Crash≤10000)∧f.Lost+f.Wrong+f.Crash≤10000
structure zo6 (d:zb0):Prop where
 v6:zb6 d.M=some 0
 st:0≤d.State∧d.State<(↑d.M.Next.length:Int)
 ll:(↑d.Latency.Step.length:Int)=d.M.Inputs
 lc:costOk d.Latency
 fl:faultOk d.Faults
 c1:cntOk d.Steps
 c2:cntOk d.Resets
 c3:cntOk d.Time
theorem zo6.mac {d:zb0} (H:zo6 d):zhk d.M:=zrk H.v6
theorem zo6.lat {d:zb0} (H:zo6 d):d.Latency.Step.length≤64:=by
 have:=H.ll;have:=H.mac.i2;omega
def zqj (d:zb0):zb0×Int :=
 if cntOk (d.Resets+1)∧cntOk (d.Time+d.Latency.Reset) then (⟨d.M,d.M.Start,true,d.Latency,d.Faults,d.Seed,d.Steps,d.Resets+1,d.Time+d.Latency.Reset⟩,0) else (d,11)
def costD (d:zb0) (a:Int):Int:=(d.Latency.Step[a.toNat]?).getD 0
def outD (f:zky) (x o:Int):Int:=if x<f.Lost then -1 else if x<f.Lost+f.Wrong then (if o=1048576 then o-1 else o+1) else o
def readyD (f:zky) (x:Int) (b:Bool):Bool:=if x<f.Lost+f.Wrong then b else if x<f.Lost+f.Wrong+f.Crash then false else b
def zlb (d:zb0) (a:Int):zb0×Int×Int :=
 if d.Ready=false then (d,0,10) else if cntOk (d.Steps+1)∧cntOk (d.Time+costD d a) then
  (⟨d.M,(↑(nx d.M d.State.toNat a.toNat):Int),readyD d.Faults (↑(drawN d.Seed.toNat).1:Int) d.Ready,d.Latency,d.Faults,(↑(drawN d.Seed.toNat).2:Int),d.Steps+1,d.Resets,d.Time+costD d a⟩,outD d.Faults (↑(drawN d.Seed.toNat).1:Int) (ot d.M d.State.toNat a.toNat),0)
 else (d,0,11)
section
variable {d:zb0}
theorem resetD_ok (H:zo6 d):zo6 (zqj d).1:=by
 unfold zqj;split
 ·rename_i h;exact ⟨H.v6,H.mac.st,H.ll,H.lc,H.fl,H.c1,h.1,h.2⟩
 ·exact H
theorem stepD_ok (H:zo6 d) (hs:0≤d.Seed∧d.Seed<18446744073709551616) {a:Int} (ha:0≤a∧a<d.M.Inputs):zo6 (zlb d a).1∧(0≤(zlb d a).1.Seed∧(zlb d a).1.Seed<18446744073709551616)∧(zlb d a).1.M=d.M∧(-1≤(zlb d a).2.1∧(zlb d a).2.1≤1048576):=by
 have st:=H.st;obtain ⟨h1,h2,h3,_⟩:=H.mac.at (s:=d.State.toNat) (a:=a.toNat) (by omega) (by omega);have hd:=draw_lt d.Seed.toNat;unfold zlb;split
 ·exact ⟨H,hs,rfl,by simp,by simp⟩
 split
 ·rename_i h;refine ⟨⟨H.v6,⟨by simp only;omega,by simp only;omega⟩,H.ll,H.lc,H.fl,h.1,H.c2,h.2⟩,⟨by simp only;omega,by simp only;omega⟩,rfl,?_⟩;simp only;unfold outD;split
  ·decide
  ·split
   ·split<;>omega
   ·omega
 ·exact ⟨H,hs,rfl,by simp,by simp⟩
end
end
section
set_option maxRecDepth 100000
theorem zo6.sw {d:zb0} (H:zo6 d):SmW d.Latency.Step:=by
 have:=H.lat;unfold SmW;omega
def qryD:zb0→List Int→List Int→zb0×List Int×Int
 | d,ys,[]=>(d,ys,0)
 | d,ys,a::w=>if (zlb d a).2.2≠0 then ((zlb d a).1,[],(zlb d a).2.2) else if (zlb d a).2.1<0∨((zlb d a).1.Ready=false∧w≠[]) then ((zlb d a).1,[],14) else qryD (zlb d a).1 (ys++[(zlb d a).2.1]) w
def ziw (d:zb0) (w:List Int):zb0×List Int×Int :=
 if (zqj d).2≠0 then (d,[],(zqj d).2) else qryD (zqj d).1 [] w
abbrev zti (d:zb0):Prop:=0≤d.Seed∧d.Seed<18446744073709551616
theorem qryD_ok:∀ (w ys:List Int) (d:zb0),zo6 d→zti d→WOk d.M.Inputs w→(∀ y∈ys,0≤y∧y≤1048576) →
  zo6 (qryD d ys w).1∧zti (qryD d ys w).1∧(qryD d ys w).1.M=d.M∧((qryD d ys w).2.2=0→(qryD d ys w).2.1.length=ys.length+w.length∧∀ y∈(qryD d ys w).2.1,0≤y∧y≤1048576)∧((qryD d ys w).2.2=0∨(qryD d ys w).2.2=10∨(qryD d ys w).2.2=11∨(qryD d ys w).2.2=14)
 | [],ys,d,H,S,_,hy=>⟨H,S,rfl,fun _=>⟨rfl,hy⟩,.inl rfl⟩
 | a::w,ys,d,H,S,hw,hy=>by
  obtain ⟨h1,h2,h3,h4⟩:=stepD_ok H S hw.head;unfold qryD;by_cases g1:(zlb d a).2.2≠0
  ·rw [if_pos g1];refine ⟨h1,h2,h3,fun e=>absurd e g1,?_⟩;simp only;unfold zlb;split
   ·exact .inr (.inl rfl)
   ·split
    ·exact .inl rfl
    ·exact .inr (.inr (.inl rfl))
  ·rw [if_neg g1];by_cases g2:(zlb d a).2.1<0∨((zlb d a).1.Ready=false∧w≠[])
   ·rw [if_pos g2];exact ⟨h1,h2,h3,fun e=>(by cases e),.inr (.inr (.inr rfl))⟩
   ·rw [if_neg g2]
    obtain ⟨k1,k2,k3,k4,k5⟩:=qryD_ok w (ys++[(zlb d a).2.1]) (zlb d a).1 h1 h2 (by rw [h3];exact hw.tail) fun y hy'=>by
     rcases List.mem_append.1 hy' with e | e
     ·exact hy y e
     ·rw [List.mem_singleton.1 e];exact ⟨by omega,h4.2⟩
    refine ⟨k1,k2,by rw [k3,h3],fun e=>⟨?_,(k4 e).2⟩,k5⟩;rw [(k4 e).1,zkJ,zkL];simp;omega
section
variable {d:zb0} {w ys:List Int}
end
theorem check_wok {w:List Int} {n:Int} (h:zbn w n=0):WOk n w:=zdh h
theorem queryD_ok {d:zb0} {w:List Int} (H:zo6 d) (S:zti d) (hw:zbn w d.M.Inputs=0) :
  zo6 (ziw d w).1∧zti (ziw d w).1∧(ziw d w).1.M=d.M∧((ziw d w).2.2=0→(ziw d w).2.1.length=w.length∧∀ y∈(ziw d w).2.1,0≤y∧y≤1048576):=by
 have hM:(zqj d).1.M=d.M∧zti (zqj d).1:=by
  unfold zqj;split
  ·exact ⟨rfl,S⟩
  ·exact ⟨rfl,S⟩
 unfold ziw;split
 ·rename_i g;exact ⟨H,S,rfl,fun e=>absurd e g⟩
 ·obtain ⟨k1,k2,k3,k4,_⟩:=qryD_ok w [] (zqj d).1 (resetD_ok H) hM.2 (by rw [hM.1];exact check_wok hw) fun y hy=>by simp at hy
  exact ⟨k1,k2,by rw [k3,hM.1],fun e=>⟨by rw [(k4 e).1];simp,(k4 e).2⟩⟩
def WrdOk (w:List Int):Prop:=w.length≤100000∧∀ x∈w,inR x
def Few (need:Int) (l:List (List Int)):Prop:=∀ w,(↑(l.count w):Int)<need
theorem few_add {need:Int} {l:List (List Int)} {x:List Int} (h:Few need l) (hx:(↑((l++[x]).count x):Int)<need):Few need (l++[x]):=fun w=>by
 by_cases e:x=w
 ·rw [← e];exact hx
 ·have:=h w;rw [List.count_append];simp [e];exact this
end
section
set_option maxRecDepth 100000
structure OrOk (q:zi7):Prop where
 dev:zo6 q.Device
 seed:zti q.Device
 obs:zc2 q.Obs
 tr:SmTr q.Obs.Traces
 inp:q.Obs.Inputs=q.Device.M.Inputs
 v1:1≤q.Votes
 v2:q.Votes≤9
 t1:q.Votes≤q.Tries
 t2:q.Tries≤64
structure TryOk (q:zi7) (w:List Int) (d:zb0) (ys:List (List Int)) (i:Int):Prop where
 dev:zo6 d
 seed:zti d
 mac:d.M=q.Device.M
 i0:0≤i
 i1:i≤q.Tries
 len:(↑ys.length:Int)≤i
 wrd:∀ y∈ys,WrdOk y
 few:Few q.Votes ys
section
variable {q:zi7} {w:List Int} {d:zb0} {ys:List (List Int)} {i n:Int}
theorem TryOk.out (Q:OrOk q) (hw:zbn w q.Device.M.Inputs=0) (hl:w.length≤1024) (T:TryOk q w d ys i) (h:(ziw d w).2.2=0):WrdOk (ziw d w).2.1∧(ziw d w).2.1.length=w.length∧∀ y∈(ziw d w).2.1,0≤y∧y≤1048576:=by
 have hM:=T.mac;obtain ⟨_,_,_,k4⟩:=queryD_ok (w:=w) T.dev T.seed (by rw [hM];exact hw);obtain ⟨g1,g2⟩:=k4 h;exact ⟨⟨by omega,fun x hx=>by have:=g2 x hx;unfold inR;omega⟩,g1,g2⟩
theorem TryOk.next (Q:OrOk q) (hw:zbn w q.Device.M.Inputs=0) (hl:w.length≤1024) (T:TryOk q w d ys i) (hi:i<q.Tries):TryOk q w (ziw d w).1 ys (i+1):=by
 have hM:=T.mac;have h0:=T.i0;have h1:=T.len;obtain ⟨k1,k2,k3,_⟩:=queryD_ok (w:=w) T.dev T.seed (by rw [hM];exact hw);exact ⟨k1,k2,by rw [k3,hM],by omega,by omega,by omega,T.wrd,T.few⟩
theorem TryOk.more (Q:OrOk q) (hw:zbn w q.Device.M.Inputs=0) (hl:w.length≤1024) (T:TryOk q w d ys i) (hi:i<q.Tries) (h:(ziw d w).2.2=0) (hc:(↑((ys++[(ziw d w).2.1]).count (ziw d w).2.1):Int)<q.Votes):TryOk q w (ziw d w).1 (ys++[(ziw d w).2.1]) (i+1):=by
 have T2:=T.next Q hw hl hi;have h1:=T.len;refine ⟨T2.dev,T2.seed,T2.mac,T2.i0,T2.i1,by rw [zkJ,List.length_singleton];omega,fun y hy=>?_,few_add T.few hc⟩;rcases List.mem_append.1 hy with e | e
 ·exact T.wrd y e
 ·rw [List.mem_singleton.1 e];exact (T.out Q hw hl h).1
end
end
section
set_option maxRecDepth 100000
end
section
set_option maxRecDepth 100000
structure SmQ (q:zi7):Prop where
 n:q.Device.M.Next.length≤2000000
 s:q.Device.Latency.Step.length≤2000000
 o:SmO q.Obs
 seed:zti q.Device
theorem addO_len {o:zab} {t:zaa}:(addO o t).1.Traces.length≤o.Traces.length+1:=by
 unfold addO;split
 ·simp only;omega
 ·split
  ·simp only;omega
  ·split
   ·simp only;omega
   ·exact zmw _ _
theorem addO_tr {o:zab} {t:zaa} (h:SmTr o.Traces) (hn:o.Traces.length≤1000000) (ht:SmX t):SmTr (addO o t).1.Traces:=by
 refine ⟨by have:=addO_len (o:=o) (t:=t);omega,?_⟩;unfold addO;split
 ·exact h.2
 ·split
  ·exact h.2
  ·split
   ·exact h.2
   ·intro x hx;have hx:x∈addL o.Traces t:=hx;unfold addL at hx;split at hx
    ·exact h.2 x hx
    ·rcases zkv.1 hx with e | e
     ·rw [e];exact ht
     ·exact h.2 x (List.filter_sublist.subset e)
section
variable {q:zi7} {w:List Int}
end
end
section
set_option maxRecDepth 100000
theorem zqx {m:zal}:∀ (w:List Int) (s k:Nat),(outs m s w).take k=outs m s (w.take k)
 | [],s,k=>by simp [outs]
 | a::w,s,0=>by simp [outs]
 | a::w,s,k+1=>by
  show (ot m s a.toNat::outs m (nx m s a.toNat) w).take (k+1)=ot m s a.toNat::outs m (nx m s a.toNat) (w.take k);rw [List.take_succ_cons,zqx w]
theorem zv5:∀ (a b:List Int),a.take (za9 a b)=b.take (za9 a b)
 | [],b=>by simp [za9]
 | x::a,[]=>by simp [za9]
 | x::a,y::b=>by
  unfold za9;by_cases h:x=y
  ·rw [if_pos h,h,List.take_succ_cons,List.take_succ_cons,zv5 a b]
  ·rw [if_neg h];rfl
def Expl (m:zal) (o:zab):Prop:=∀ t∈o.Traces,t.Out=outs m m.Start.toNat t.In
def Kn (o:zab) (w:List Int):Prop:=w=[]∨∃ t∈o.Traces,w <+: t.In
section
variable {m:zal} {o:zab} {w:List Int}
theorem expl_agree {a b:zaa} (ha:a.Out=outs m m.Start.toNat a.In) (hb:b.Out=outs m m.Start.toNat b.In):Agree a b:=by
 unfold Agree;rw [ha,hb,zqx,zqx,zv5]
theorem zoz (hE:Expl m o):(Kn o w→ansO o w=some (outs m m.Start.toNat w))∧(¬ Kn o w→ansO o w=none):=by
 unfold ansO Kn;by_cases h0:w=[]
 ·rw [if_pos h0,h0];exact ⟨fun _=>rfl,fun h=>absurd (.inl rfl) h⟩
 ·rw [if_neg h0];cases hf:o.Traces.find? fun t=>decide (w <+: t.In) with
  | none =>
   refine ⟨fun h=>?_,fun _=>rfl⟩;rcases h with h | ⟨t,ht,hp⟩
   ·exact absurd h h0
   ·exact absurd (zkB hp) (List.find?_eq_none.1 hf t ht)
  | some t =>
   have ht:=List.mem_of_find?_eq_some hf;have hp:decide (w <+: t.In)=true:=List.find?_some (p:=fun (t:zaa)=>decide (w <+: t.In)) hf;have hp:=of_decide_eq_true hp;refine ⟨fun _=>?_,fun h=>absurd (.inr ⟨t,ht,hp⟩) h⟩;show some (t.Out.take w.length)=_;rw [hE t ht,zqx,← List.prefix_iff_eq_take.1 hp]
theorem Kn.pre {v:List Int} (h:Kn o w) (hp:v <+: w):Kn o v:=by
 rcases h with h | ⟨t,ht,h2⟩
 ·rw [h] at hp;exact .inl (List.prefix_nil.1 hp)
 ·exact .inr ⟨t,ht,hp.trans h2⟩
def tr (m:zal) (w:List Int):zaa:=⟨w,outs m m.Start.toNat w⟩
theorem prop_tr (H:zhk m) {n:Int} (hn:n=m.Inputs) (hw:zbn w n=0):zo2 n (tr m w):=by
 refine ⟨hw,by simp only [tr];rw [zis],fun y hy=>?_⟩;have hwk:WOk m.Inputs w:=by rw [← hn];exact zdh hw
 have hst:=H.st
 have key:∀ (w:List Int) (s:Nat),s<m.Next.length→WOk m.Inputs w→∀ y∈outs m s w,0≤y∧y≤1048576:=by
  intro w
  induction w with
  | nil=>intro s _ _ y hy;simp [outs] at hy
  | cons a w ih =>
   intro s hs hwk y hy;have ha:=hwk.head;obtain ⟨h1,h2,h3,_⟩:=H.at hs (a:=a.toNat) (by omega);have hy:y∈ot m s a.toNat::outs m (nx m s a.toNat) w:=hy;rcases List.mem_cons.1 hy with e | e
   ·rw [e];exact ⟨h2,h3⟩
   ·exact ih _ h1 hwk.tail y e
 exact key w _ (by omega) hwk y hy
theorem add_tr (H:zhk m) (hE:Expl m o) (hn:o.Inputs=m.Inputs) (hw:zbn w m.Inputs=0) (hl:o.Traces.length+1≤10000) :
  addO o (tr m w)=(⟨o.Inputs,addL o.Traces (tr m w)⟩,0):=by
 have hp:propI (tr m w) o.Inputs=0:=zrx.2 (prop_tr H hn (by rw [hn];exact hw));have hc:¬ zx4 o.Traces (tr m w):=fun ⟨u,hu,h⟩=>h (expl_agree (m:=m) (hE u hu) rfl);have:=zmw o.Traces (tr m w);unfold addO;rw [if_neg (by simpa using hp),if_neg hc,if_neg (by omega)]
theorem mem_addL {l:List zaa} {t x:zaa} (h:x∈addL l t):x=t∨x∈l:=by
 unfold addL at h;split at h
 ·exact .inr h
 ·rcases zkv.1 h with e | e
  ·exact .inl e
  ·exact .inr (List.filter_sublist.subset e)
theorem expl_add (hE:Expl m o) {n:Int}:Expl m ⟨n,addL o.Traces (tr m w)⟩:=fun x hx=>by
 rcases mem_addL hx with e | e
 ·rw [e];rfl
 ·exact hE x e
theorem kn_add {n:Int} {v:List Int}:Kn ⟨n,addL o.Traces (tr m w)⟩ v↔Kn o v∨v <+: w:=by
 unfold Kn;simp only;constructor
 ·rintro (h | ⟨x,hx,hp⟩)
  ·exact .inl (.inl h)
  ·rcases mem_addL hx with e | e
   ·exact .inr (by rw [e] at hp;exact hp)
   ·exact .inl (.inr ⟨x,e,hp⟩)
 ·unfold addL;by_cases g:zgw o.Traces (tr m w).In=true∨(tr m w).In=[]
  ·rw [if_pos g];rintro (h | h)
   ·exact h
   ·rcases g with g | g
    ·obtain ⟨u,hu,hp⟩:=List.any_eq_true.1 g;exact .inr ⟨u,hu,h.trans (of_decide_eq_true hp)⟩
    ·have g:w=[]:=g;rw [g] at h;exact .inl (List.prefix_nil.1 h)
  ·rw [if_neg g];rintro ((h | ⟨x,hx,hp⟩) | h)
   ·exact .inl h
   ·by_cases hk:x.In <+: w
    ·exact .inr ⟨tr m w,zkv.2 (.inl rfl),hp.trans hk⟩
    ·refine .inr ⟨x,zkv.2 (.inr (List.mem_filter.2 ⟨hx,?_⟩)),hp⟩;rw [zkA (show ¬ x.In <+: (tr m w).In from hk)];rfl
   ·exact .inr ⟨tr m w,zkv.2 (.inl rfl),h⟩
def zl4 (m:zal):zab→List (List Int)→zab
 | o,[]=>o
 | o,w::r=>zl4 m ⟨o.Inputs,addL o.Traces (tr m w)⟩ r
theorem toldO_kn {v:List Int}:∀ (ws:List (List Int)) (o:zab),Kn (zl4 m o ws) v↔Kn o v∨∃ w∈ws,v <+: w
 | [],o=>by simp [zl4]
 | w::ws,o=>by
  unfold zl4;rw [toldO_kn ws,kn_add];constructor
  ·rintro ((h | h) | ⟨x,hx,h⟩)
   ·exact .inl h
   ·exact .inr ⟨w,by simp,h⟩
   ·exact .inr ⟨x,by simp [hx],h⟩
  ·rintro (h | ⟨x,hx,h⟩)
   ·exact .inl (.inl h)
   ·rcases List.mem_cons.1 hx with e | e
    ·exact .inl (.inr (by rw [← e];exact h))
    ·exact .inr ⟨x,e,h⟩
theorem toldO_mem {x:zaa}:∀ (ws:List (List Int)) (o:zab),x∈(zl4 m o ws).Traces→x∈o.Traces∨x.In∈ws
 | [],_,h=>.inl h
 | w::ws,o,h=>by
  unfold zl4 at h;rcases toldO_mem ws _ h with e | e
  ·rcases mem_addL e with e | e
   ·exact .inr (by rw [e];simp [tr])
   ·exact .inl e
  ·exact .inr (by simp [e])
structure zq5 (m:zal) (o:zab):Prop where
 ok:zc2 o
 tr:SmTr o.Traces
 ex:Expl m o
 inp:o.Inputs=m.Inputs
theorem zxv (H:zhk m) (T:zq5 m o) (hw:zbn w m.Inputs=0) (hl:o.Traces.length+1≤10000):zq5 m ⟨o.Inputs,addL o.Traces (tr m w)⟩:=by
 have hwl:w.length≤1024:=by
  unfold zbn at hw;split at hw
  ·split at hw
   ·cases hw
   ·omega
  ·cases hw
 have hadd:=add_tr H T.ex T.inp hw hl;have h1:=addO_ok (t:=Sym.tr m w) T.ok;have h2:=addO_tr (t:=Sym.tr m w) T.tr (by omega) ⟨show SmW w by unfold SmW;omega,show SmW (outs m m.Start.toNat w) by unfold SmW;rw [zis];omega⟩;rw [hadd] at h1 h2;exact ⟨h1,h2,expl_add T.ex,T.inp⟩
theorem zx0 (H:zhk m):∀ (ws:List (List Int)) (o:zab),zq5 m o→(∀ w∈ws,zbn w m.Inputs=0)→o.Traces.length+ws.length≤10000→zq5 m (zl4 m o ws)
 | [],_,T,_,_=>T
 | w::ws,o,T,hw,hl=>by
  have hl:o.Traces.length+(ws.length+1)≤10000:=hl;have:=zmw o.Traces (Sym.tr m w);exact zx0 H ws _ (zxv H T (hw w (by simp)) (by omega)) (fun x hx=>hw x (by simp [hx])) (by simp only;omega)
theorem R06_Run_eq (H:zhk m) (hv:zb6 m=some 0) (hw:zbn w m.Inputs=0):zuj m w=some (outs m m.Start.toNat w,0):=by
 have hst:=H.st;have hi1:=H.i1;have hi2:=H.i2
 have hwl:w.length≤1024:=by
  unfold zbn at hw;rw [if_pos (by omega)] at hw;split at hw
  ·cases hw
  ·omega
 have hS:m.Start=(↑m.Start.toNat:Int):=by omega
 have hO:=zv6 H (s:=m.Start.toNat) (by omega) (w:=w) (zdh hw) (by omega);rw [← hS] at hO;unfold zuj zub;rw [hv,zan,zkA (by decide),zkC,zkA (by omega),zkC,zkA (by omega),zan,zkC,zfh _ _ (by unfold SmW;omega),zan,hw,zkA (by decide),zkC,hO,zan,zan]
theorem zv3 (H:zhk m) (hv:zb6 m=some 0) {ws:List (List Int)} (T:zq5 m o) (hw:∀ w∈ws,zbn w m.Inputs=0) (hl:o.Traces.length+ws.length≤10000):zej o m ws=some (zl4 m o ws,0):=by
 unfold zej
 have key:∀ (n i:Nat) (o:zab),zq5 m o→i≤ws.length→o.Traces.length+(ws.length-i)≤10000→ws.length-i<n→iter (fun (s:Int×List zaa×Nat)=>zej.s2 m ws s.1 s.2.1 s.2.2) n (o.Inputs,o.Traces,i)=some (.inl ((zl4 m o (ws.drop i)).Inputs,(zl4 m o (ws.drop i)).Traces)):=by
  intro n
  induction n with
  | zero=>intro i o _ _ _ h;omega
  | succ n ih =>
   intro i o T hi hs hn;unfold iter;simp only [zej.s2];rcases Nat.lt_or_ge i ws.length with h | h
   ·have hx:=get_at h;have hc:=hw _ (List.getElem_mem h)
    have hcl:ws[i].length≤1024:=by
     unfold zbn at hc;split at hc
     ·split at hc
      ·cases hc
      ·omega
     ·cases hc
    have ho:(⟨o.Inputs,o.Traces⟩:zab)=o:=rfl;rw [zbw hx,zkD,zaq hx,R06_Run_eq H hv hc,zan];simp only;rw [zkA (by decide),zkC,zaq hx,ho,show (⟨ws[i],outs m m.Start.toNat ws[i]⟩:zaa)=Sym.tr m ws[i] from rfl,R16_Add_eq T.tr T.ok ⟨show SmW ws[i] by unfold SmW;omega,show SmW (outs m m.Start.toNat ws[i]) by unfold SmW;rw [zis];omega⟩,zan,add_tr H T.ex T.inp hc (by omega),List.drop_eq_getElem_cons h];simp only;rw [zkA (by decide),zkC];unfold zl4;have hadd:=zmw o.Traces (Sym.tr m ws[i]);exact ih (i+1) ⟨o.Inputs,addL o.Traces (Sym.tr m ws[i])⟩ (zxv H T hc (by omega)) h (by simp only;omega) (by omega)
   ·have e:i=ws.length:=by omega
    subst e;rw [zcr,zkC,List.drop_length];rfl
 have:=key fuel 0 o T (Nat.zero_le _) (by omega) (by have:=za4;omega);rw [this,zan];rfl
end
end
section
set_option maxRecDepth 100000
theorem scan_find {α:Type} {p:α→Bool}:∀ (L:List α) (j:Nat),(scan (fun i x=>if p x=true then some (↑i:Int) else none) j L=none∧L.find? p=none)∨∃ i f,scan (fun i x=>if p x=true then some (↑i:Int) else none) j L=some (↑(j+i):Int)∧L[i]?=some f∧L.find? p=some f∧p f=true
 | [],_=>.inl ⟨rfl,rfl⟩
 | x::L,j=>by
  unfold scan;cases h:p x with
  | true=>exact .inr ⟨0,x,by simp,rfl,by simp [h],h⟩
  | false =>
   rw [List.find?_cons_of_neg (by simp [h])];simp only [Bool.false_eq_true,if_false];rcases scan_find L (j+1) with ⟨h1,h2⟩ | ⟨i,f,h1,h2,h3,h4⟩
   ·exact .inl ⟨h1,h2⟩
   ·exact .inr ⟨i+1,f,by rw [h1];congr 2;omega,h2,h3,h4⟩
theorem zsw {o:zab} {w:List Int} (ho:SmO o) (hv:zc2 o):zg9 o w=some (tw (ansO o w)):=by
 have hl:=ho.1;unfold zg9 ansO;by_cases h0:w=[]
 ·subst h0;rfl
 ·rw [if_neg h0,zkA (by
   intro h
   exact h0 (List.eq_nil_of_length_eq_zero (by omega))),zkC]
  unfold zat
  have key:=zce (step:=fun s=>zat.s2 o.Traces (fun u0=>zex u0 w) s) (l:=o.Traces) (fun i t=>if (fun t:zaa=>decide (w <+: t.In)) t=true then some (↑i:Int) else none) (fun i t ht=>by
   have htm:=zkH ht
   simp only [zat.s2,zex]
   rw [zbw ht,zkD,zaq ht,zgk _ _ (zyb ho htm),zan,zan]
   by_cases h:w <+: t.In<;>simp [h]) (by
   simp only [zat.s2]
   rw [zcr]
   rfl) (by omega)
  rw [key];rcases scan_find (p:=fun t:zaa=>decide (w <+: t.In)) o.Traces 0 with ⟨h1,h2⟩ | ⟨i,t,h1,h2,h3,h4⟩
  ·rw [h1,h2];simp only [zan,Sum.elim_inl];rfl
  ·rw [h1,h3];have htm:=zkH h2;have hP:=(hv.prop t htm).1;have hlen:=zug (of_decide_eq_true h4);have hol:=hP.2.1;have h5:=(ho.2 t htm).1;have hmin:min (↑(List.length w):Int) (↑(List.length t.Out):Int)=(↑w.length:Int):=by omega
   simp only [zan,Sum.elim_inr,Nat.zero_add,Option.map_some];rw [zkA (by omega),zkC,zb2 rfl h2,hmin,zav (by omega),Int.toNat_natCast,zh4 (by unfold SmW;rw [List.length_take];omega),zan]
theorem ans_nil_tail {o:zab} {w e:List Int} (h:ansO o (w++e)=none):tailA o w e=[]:=by unfold tailA;rw [h];exact List.drop_nil
theorem ans_tail {o:zab} {w e r:List Int} (h:ansO o (w++e)=some r):tailA o w e=r.drop w.length:=by unfold tailA;rw [h];rfl
def zgq (w:List Int) (S:List (List Int)):Bool:=S.any fun e=>decide (1024<(w++e).length)
def zf5 (o:zab) (w:List Int) (S:List (List Int)):List (List Int):=((S.filter fun e=>!decide (1024<(w++e).length)).map fun e=>w++e).filter fun v=>(ansO o v).isNone
theorem zn9 (o:zab) (w:List Int) (S:List (List Int)):(zf5 o w S).length≤S.length:=by
 unfold zf5;refine Nat.le_trans (List.length_filter_le _ _) ?_;rw [zkK];exact List.length_filter_le _ _
theorem zv1 {o:zab} {w:List Int} {S:List (List Int)} (h:zgq w S=false):zf5 o w S=zeh o w S:=by
 unfold zf5 zeh
 have:(S.filter fun e=>!decide (1024<(w++e).length))=S:=List.filter_eq_self.2 fun e he=>by
  have:=List.any_eq_false.1 h e he;simpa using this
 rw [this]
theorem missB_mem {o:zab} {w:List Int} {S:List (List Int)} {v:List Int} (h:v∈zf5 o w S):v.length≤1024:=by
 unfold zf5 at h;obtain ⟨e,he,rfl⟩:=List.mem_map.1 (List.mem_filter.1 h).1;have:=(List.mem_filter.1 he).2;simp only [Bool.not_eq_true',decide_eq_false_iff_not] at this;omega
section
variable {l:zai} {o:zab}
def outR (o:zab) (w v:List Int) (M:List (List Int)) (b:Bool):List Int×List (List Int)×Bool :=
 if 1024<(w++v).length then ([],M,true) else if (ansO o (w++v)).isNone=true then ([],M++[w++v],b) else (tailA o w v,M,b)
theorem zg6 (ho:SmO o) (hv:zc2 o) {w v:List Int} {M:List (List Int)} {b:Bool} (hw:SmW w) (hvl:SmW v) (hM:M.length≤100000) :
  zdb ⟨l,o,M,b⟩ w v=some ((outR o w v M b).1,⟨l,o,(outR o w v M b).2.1,(outR o w v M b).2.2⟩):=by
 have hw1:w.length≤2000000:=hw;have hv1:v.length≤2000000:=hvl;unfold zdb outR;rw [zfi _ (by simp) (by simp;omega),zan,zq0];by_cases h:1024<(w++v).length
 ·rw [if_pos h,zkB (by omega),zkD]
 ·rw [if_neg h,zkA (by omega),zkC,zsw ho hv,zan];cases ha:ansO o (w++v) with
  | none =>
   simp only [tw,Bool.not_false,zkD,Option.isNone_none,if_true];rw [zav (zlx (by omega))]
  | some r =>
   have hrl:=zkq hv ha;rw [zkJ] at hrl;simp only [tw,Bool.not_true,zkC,Option.isNone_some,Bool.false_eq_true,if_false];rw [zav (by omega),ans_tail ha]
theorem zof (w v:List Int) (M:List (List Int)) (b:Bool):(outR o w v M b).2.1=M++zf5 o w [v]∧(outR o w v M b).2.2=(b||zgq w [v])∧(zgq w [v]=false→zeh o w [v]=[]→(outR o w v M b).1=tailA o w v):=by
 unfold outR;by_cases h:1024<(w++v).length
 ·rw [if_pos h];refine ⟨?_,?_,fun hf=>?_⟩
  ·have:zf5 o w [v]=[]:=by
    unfold zf5;rw [List.filter_cons_of_neg (by simpa using h)];rfl
   rw [this,List.append_nil]
  ·have:zgq w [v]=true:=by unfold zgq;simpa using h
   rw [this,Bool.or_true]
  ·unfold zgq at hf;simp at hf h;omega
 ·have hl:zgq w [v]=false:=by unfold zgq;simp at h ⊢;omega
  rw [if_neg h,zv1 hl,hl,Bool.or_false];unfold zeh;cases ha:ansO o (w++v) with
  | none=>simp [ha]
  | some r=>simp [ha]
theorem longB_step {w e:List Int} {S:List (List Int)} {k:Nat} (h:S[k]?=some e):zgq w (S.take (k+1))=(zgq w (S.take k)||zgq w [e]):=by
 unfold zgq;rw [zbp h,List.any_append]
theorem missB_step {w e:List Int} {S:List (List Int)} {k:Nat} (h:S[k]?=some e):zf5 o w (S.take (k+1))=zf5 o w (S.take k)++zf5 o w [e]:=by
 unfold zf5;rw [zbp h,List.filter_append,List.map_append,List.filter_append]
theorem zmx (ho:SmO o) (hv:zc2 o) (ht:zev (lazT l)) {w:List Int} {M:List (List Int)} {b:Bool} (hw:SmW w) (hM:M.length≤90000) :
  ∃ rows,zbu ⟨l,o,M,b⟩ w=some (rows,⟨l,o,M++zf5 o w l.Suffixes,b||zgq w l.Suffixes⟩)∧(zgq w l.Suffixes=false→zeh o w l.Suffixes=[]→rowO o w l.Suffixes=some rows):=by
 have hs:l.Suffixes.length≤12:=ht.s;have hS:SmL l.Suffixes:=ht.sm.2.2.1
 have key:=zbq (step:=fun (s:Int×List zaa×List (List Int)×Bool×List (List Int)×Nat)=>zbu.s2 ⟨l,o,M,b⟩ w s.1 s.2.1 s.2.2.1 s.2.2.2.1 s.2.2.2.2.1 s.2.2.2.2.2)
  (fun s=>∃ k:Nat,s.2.2.2.2.2=k∧k≤l.Suffixes.length∧s.1=o.Inputs∧s.2.1=o.Traces∧s.2.2.1=M++zf5 o w (l.Suffixes.take k)∧s.2.2.2.1=(b||zgq w (l.Suffixes.take k))∧s.2.2.2.2.1.length=k ∧
   (zgq w l.Suffixes=false→zeh o w l.Suffixes=[]→s.2.2.2.2.1=(l.Suffixes.take k).map fun e=>tailA o w e)) (fun s=>l.Suffixes.length-s.2.2.2.2.2)
  (fun r=>∃ rows,r=(o.Inputs,o.Traces,M++zf5 o w l.Suffixes,(b||zgq w l.Suffixes),rows)∧(zgq w l.Suffixes=false→zeh o w l.Suffixes=[]→rows=l.Suffixes.map fun e=>tailA o w e)) (fun s ⟨k,g1,g2,g3,g4,g5,g6,g7,g8⟩=>by
   obtain ⟨s1,s2,s3,s4,s5,s6⟩:=s
   simp only at g1 g3 g4 g5 g6 g7 g8
   subst g1 g3 g4 g5 g6
   simp only [zbu.s2]
   by_cases g9:s6<l.Suffixes.length
   ·left
    have hx:=get_at g9
    have hxs:SmW l.Suffixes[s6]:=hS.2 _ (List.getElem_mem _)
    have hml:=zn9 o w (l.Suffixes.take s6)
    rw [List.length_take] at hml
    obtain ⟨q1,q2,q3⟩:=zof (o:=o) w l.Suffixes[s6] (M++zf5 o w (l.Suffixes.take s6)) (b||zgq w (l.Suffixes.take s6))
    refine ⟨(o.Inputs,o.Traces,M++zf5 o w (l.Suffixes.take (s6+1)),(b||zgq w (l.Suffixes.take (s6+1))),s5++[(outR o w l.Suffixes[s6] (M++zf5 o w (l.Suffixes.take s6)) (b||zgq w (l.Suffixes.take s6))).1],s6+1),?_,⟨s6+1,rfl,g9,rfl,rfl,rfl,rfl,by simp [g7],fun z1 z2=>?_⟩,by simp only;omega⟩
    ·rw [zbw hx,zkD,zaq hx]
     have:=zg6 (l:=l) ho hv hw hxs (M:=M++zf5 o w (l.Suffixes.take s6)) (b:=b||zgq w (l.Suffixes.take s6)) (by rw [zkJ];omega)
     rw [show (⟨o.Inputs,o.Traces⟩:zab)=o from rfl,this,zan,zav (zlx (by omega)),q1,q2,missB_step hx,longB_step hx,List.append_assoc,Bool.or_assoc]
    ·simp only
     rw [zbp hx,List.map_append,← g8 z1 z2]
     have hm:=List.getElem_mem g9
     rw [q3 (by
      have:=List.any_eq_false.1 z1 _ hm
      unfold zgq
      simpa using this) (by
      have hsub:∀ v,v∈zeh o w [l.Suffixes[s6]]→v∈zeh o w l.Suffixes:=fun v hv=>by
       obtain ⟨⟨e,he,h1⟩,h2⟩:=zg3.1 hv
       exact zg3.2 ⟨⟨e,by rw [List.mem_singleton.1 he];exact hm,h1⟩,h2⟩
      rw [z2] at hsub
      exact List.eq_nil_iff_forall_not_mem.2 fun v hv=>by cases hsub v hv)]
     rfl
   ·right
    have e:s6=l.Suffixes.length:=by omega
    subst e
    rw [zkA (by omega),zkC]
    refine ⟨_,rfl,s5,by rw [List.take_length],fun z1 z2=>by rw [g8 z1 z2,List.take_length]⟩) fuel (o.Inputs,o.Traces,M,b,[],0) ⟨0,rfl,Nat.zero_le _,rfl,rfl,by simp [zf5],by simp [zgq],rfl,fun _ _=>rfl⟩ (by have:=za4;simp only;omega)
 obtain ⟨r,e,rows,rfl,h2⟩:=key;refine ⟨rows,?_,fun z1 z2=>?_⟩
 ·unfold zbu;rw [e,zan];rfl
 ·rw [h2 z1 z2]
  have hex:∀ e∈l.Suffixes,ansO o (w++e)≠none:=fun e he h=>by
   have:w++e∈zeh o w l.Suffixes:=zg3.2 ⟨⟨e,he,rfl⟩,h⟩;rw [z2] at this;cases this
  obtain ⟨R,hR⟩:=zre hex;rw [hR];congr 1;apply List.ext_getElem?;intro i;rw [List.getElem?_map];cases hi:l.Suffixes[i]? with
  | none =>
   rw [Option.map_none,List.getElem?_eq_none];rw [(zgp hv hR).1];exact List.getElem?_eq_none_iff.1 hi
  | some e'=>rw [Option.map_some,zvx hR hi]
theorem zh9 (M:List (List Int)) (b:Bool):zde ⟨l,o,M,b⟩=some (b||decide (M≠[]),⟨l,o,M,b⟩):=by
 unfold zde;cases b with
 | true=>rfl
 | false =>
  cases M with
  | nil=>rfl
  | cons x M =>
   simp only [zkC];rw [zkB (zuq (by simp)),zan];rfl
theorem ztl (a b:List (List Int)) (ha:SmL a):zlz a b=some (decide (a=b)):=by
 have h1:=ha.1;unfold zlz zax;by_cases hlen:a.length=b.length
 ·rw [show decide ((↑(List.length a):Int)≠(↑(List.length b):Int))=false by simp [hlen],zkC]
  have key:=zra (a:=a) (b:=b) (step:=fun s=>zax.s2 a b (fun u0 u1=>zin u0 u1) s) hlen (fun i x y hx hy=>by
   simp only [zax.s2,zin]
   rw [zbw hx,zkD,zaq hx,zaq hy,zgg x y (by have:=ha.2 x (zkH hx);unfold SmW at this;omega)]
   by_cases h:x=y<;>simp [h]) (by
   simp only [zax.s2]
   rw [zcr]
   rfl) (by omega)
  rw [key,zan]
 ·rw [show decide ((↑(List.length a):Int)≠(↑(List.length b):Int))=true by simp;omega,zkD,zan];have:a≠b:=fun h=>hlen (by rw [h]);simp [this]
def clsW (l:zai) (o:zab) (R:Row):Option (List Int):=l.Short.find? fun s=>decide (rowO o s l.Suffixes=some R)
theorem zno (ho:SmO o) (hv:zc2 o) (ht:zev (lazT l)) (hc:chkL l o=0) {R:Row} (hR:SmL R) {M:List (List Int)} {b:Bool} :
  zby ⟨l,o,M,b⟩ R=some ((clsW l o R).getD [],(clsW l o R).isSome,⟨l,o,M,b⟩):=by
 have hp:l.Short.length≤80:=ht.p;obtain ⟨h1,_,_,_⟩:=zrq hc;unfold zby
 have key:=zce (step:=fun s=>zby.s2 ⟨l,o,M,b⟩ R s) (l:=l.Short) (fun _ s=>if rowO o s l.Suffixes=some R then some (s,true,(⟨l,o,M,b⟩:zaj)) else none) (fun i s hs=>by
  have hsm:=zkH hs
  have hsl:=ht.pw s hsm
  simp only [zby.s2,zgm]
  rw [zbw hs,zkD,zaq hs,zan,show (⟨l.Inputs,l.Short,l.Suffixes⟩:zac)=lazT l from rfl,table_Row_eq ht.sm ho hv (by unfold SmW;omega),zan]
  unfold rowT
  rw [if_neg (by simpa using h1),show (lazT l).Suffixes=l.Suffixes from rfl]
  cases hr:rowO o s l.Suffixes with
  | none=>simp
  | some Q =>
   have hQ:SmL Q:=by
    have:=rowT_sml hv ht.sm s
    unfold rowT at this
    rw [if_neg (by simpa using h1),show (lazT l).Suffixes=l.Suffixes from rfl,hr] at this
    exact this
   simp only [tw,zkD]
   rw [ztl _ _ hQ,zan,zan]
   by_cases h:Q=R
   ·rw [zkB h,zkD,if_pos (by rw [h])]
   ·rw [zkA h,zkC,if_neg (by simpa using h)]) (by
  simp only [zby.s2]
  rw [zcr]
  rfl) (by omega)
 rw [key]
 have key2:∀ (L:List (List Int)) (j:Nat),scan (fun _ s=>if rowO o s l.Suffixes=some R then some (s,true,(⟨l,o,M,b⟩:zaj)) else none) j L=(L.find? fun s=>decide (rowO o s l.Suffixes=some R)).map fun s=>(s,true,⟨l,o,M,b⟩):=by
  intro L
  induction L with
  | nil=>intro j;rfl
  | cons s L ih =>
   intro j;unfold scan;by_cases h:rowO o s l.Suffixes=some R
   ·rw [if_pos h,List.find?_cons_of_pos (by simpa using h)];rfl
   ·rw [if_neg h,List.find?_cons_of_neg (by simpa using h)];exact ih _
 rw [key2];unfold clsW;cases l.Short.find? fun s=>decide (rowO o s l.Suffixes=some R)<;>rfl
def anyL (ws S:List (List Int)):Bool:=ws.any fun w=>zgq w S
def zf6 (o:zab) (ws S:List (List Int)):List (List Int)×Int:=if anyL ws S=true then ([],3) else (maxR (ws.flatMap fun w=>zeh o w S),0)
end
end
section
set_option maxRecDepth 100000
def zdc (x:List (List Int)×Int):Bool:=decide (x.2≠0)||decide (x.1≠[])
theorem stuck_step {R:Type} (x:List (List Int)×Int) (k:Bool→Option R):((cond (decide (x.2≠0)) (some true) (some (decide (0<(↑(List.length x.1):Int)))):Option Bool)).bind k=k (zdc x):=by
 unfold zdc;cases decide (x.2≠0) with
 | true=>rfl
 | false =>
  rw [zkC,zan,Bool.false_or];congr 1;cases x.1<;>simp
section
variable {l:zai} {o:zab}
theorem zkz {ws S:List (List Int)} (h:zdc (zf6 o ws S)=false):∀ w∈ws,zgq w S=false∧zeh o w S=[]:=by
 unfold zdc zf6 at h;cases ha:anyL ws S with
 | true=>rw [ha] at h;simp at h
 | false =>
  rw [ha] at h;simp only [Bool.false_eq_true,if_false,ne_eq,not_true_eq_false,decide_false,Bool.false_or,decide_eq_false_iff_not,Classical.not_not] at h;have h:=zks.1 h;intro w hw;refine ⟨?_,?_⟩
  ·cases hb:zgq w S with
   | false=>rfl
   | true=>rw [show anyL ws S=true from List.any_eq_true.2 ⟨w,hw,hb⟩] at ha;cases ha
  ·refine List.eq_nil_iff_forall_not_mem.2 fun v hv=>?_;have:v∈ws.flatMap fun w=>zeh o w S:=List.mem_flatMap.2 ⟨w,hw,hv⟩;rw [h] at this;cases this
theorem miss_row {w:List Int} {S:List (List Int)} (h:zeh o w S=[]):∃ R,rowO o w S=some R :=
 zre fun e he h2=>by
  have:w++e∈zeh o w S:=zg3.2 ⟨⟨e,he,rfl⟩,h2⟩;rw [h] at this;cases this
def ProgOk (res:List (List Int)×List (List Int)×Int) (added:List (List Int)) (err:Int) (M:List (List Int)) (b:Bool):Prop :=
 (b=true∧res.2=([],3))∨(b=false∧err≠0∧res.2=([],err))∨(b=false∧err=0∧M≠[]∧SmL M∧res.2=(maxR M,0))∨(b=false∧err=0∧M=[]∧res=(added,[],0))
theorem zn2 {ws S:List (List Int)} (h1:ws.length≤100) (h2:S.length≤100) (added:List (List Int)) :
  zdc (zf6 o ws S)=(anyL ws S||decide (ws.flatMap (fun w=>zf5 o w S)≠[]))∧(zdc (zf6 o ws S)=true→ProgOk ([],zf6 o ws S) added 0 (ws.flatMap fun w=>zf5 o w S) (anyL ws S)):=by
 have missL:∀ W:List (List Int),(W.flatMap fun w=>zf5 o w S).length≤100*W.length:=fun W=>by
  induction W with
  | nil=>simp
  | cons w W ih =>
   have:=zn9 o w S;rw [List.flatMap_cons,zkJ,zkL];omega
 unfold zdc zf6 ProgOk;cases ha:anyL ws S with
 | true=>exact ⟨by simp,fun _=>.inl ⟨rfl,rfl⟩⟩
 | false =>
  have he:(ws.flatMap fun w=>zeh o w S)=ws.flatMap fun w=>zf5 o w S:=by
   rw [List.flatMap_def,List.flatMap_def];congr 1;refine List.map_congr_left fun w hw=>(zv1 ?_).symm;cases hb:zgq w S with
   | false=>rfl
   | true=>rw [show anyL ws S=true from List.any_eq_true.2 ⟨w,hw,hb⟩] at ha;cases ha
  simp only [Bool.false_eq_true,if_false,ne_eq,not_true_eq_false,decide_false,Bool.false_or];rw [he];refine ⟨?_,fun h=>?_⟩
  ·by_cases hm:(ws.flatMap fun w=>zf5 o w S)=[]
   ·rw [hm];rfl
   ·have hne:maxR (ws.flatMap fun w=>zf5 o w S)≠[]:=fun h=>hm (zks.1 h);simp only [hm,hne,not_false_eq_true,decide_true]
  ·have h:=of_decide_eq_true h;refine .inr (.inr (.inl ⟨trivial,trivial,fun h3=>h (by rw [h3];rfl),⟨by have:=missL ws;omega,fun x hx=>?_⟩,rfl⟩));obtain ⟨w,hw,hx⟩:=List.mem_flatMap.1 hx;have:=missB_mem hx;unfold SmW;omega
def ziz (l:zai) (o:zab):List Int→List Int→List Int→List (List Int)→List (List Int)×List (List Int)×Int
 | a::b::v,u,r,A =>
  if zdc (zf6 o [u++[a],r++[a]] l.Suffixes)=true then ([],zf6 o [u++[a],r++[a]] l.Suffixes)
  else if rowO o (u++[a]) l.Suffixes≠rowO o (r++[a]) l.Suffixes then (A,[],0)
  else match clsW l o ((rowO o (u++[a]) l.Suffixes).getD []) with
   | none=>([],[],10)
   | some f=>if zdc (zf6 o [u++[a],f] [b::v])=true then ([],zf6 o [u++[a],f] [b::v])
    else ziz l o (b::v) (if tailA o (u++[a]) (b::v)=tailA o f (b::v) then r++[a] else u++[a]) f (A++[if tailA o (u++[a]) (b::v)=tailA o f (b::v) then r++[a] else u++[a]])
 | _,_,_,A=>(A,[],0)
theorem zsr {a b:Int} {v u r:List Int} {A:List (List Int)}:ziz l o (a::b::v) u r A =
  if zdc (zf6 o [u++[a],r++[a]] l.Suffixes)=true then ([],zf6 o [u++[a],r++[a]] l.Suffixes)
  else if rowO o (u++[a]) l.Suffixes≠rowO o (r++[a]) l.Suffixes then (A,[],0)
  else match clsW l o ((rowO o (u++[a]) l.Suffixes).getD []) with
   | none=>([],[],10)
   | some f=>if zdc (zf6 o [u++[a],f] [b::v])=true then ([],zf6 o [u++[a],f] [b::v])
    else ziz l o (b::v) (if tailA o (u++[a]) (b::v)=tailA o f (b::v) then r++[a] else u++[a]) f (A++[if tailA o (u++[a]) (b::v)=tailA o f (b::v) then r++[a] else u++[a]]):=rfl
def RngW (w:List Int):Prop:=∀ a∈w,inR a
structure ChOk (l:zai) (v u r:List Int) (A:List (List Int)):Prop where
 h1:u.length+v.length≤2100
 h2:r.length≤80
 h3:A.length+v.length≤1200
 h4:RngW v∧RngW u∧RngW r
 h5:∀ x∈A,x.length≤2100∧RngW x
theorem RngW.snoc {w:List Int} {a:Int} (h:RngW w) (ha:inR a):RngW (w++[a]):=fun x hx=>by
 rcases List.mem_append.1 hx with hx | hx
 ·exact h x hx
 ·rw [List.mem_singleton.1 hx];exact ha
theorem zoi {R:Row} {f:List Int} (h:clsW l o R=some f):f∈l.Short:=List.mem_of_find?_eq_some h
theorem ChOk.next {a b:Int} {v u r f:List Int} {A:List (List Int)} (H:ChOk l (a::b::v) u r A) (ht:zev (lazT l)) (hf:f∈l.Short) (c:Prop) [Decidable c]:ChOk l (b::v) (if c then r++[a] else u++[a]) f (A++[if c then r++[a] else u++[a]]):=by
 obtain ⟨h1,h2,h3,⟨h4,h5,h6⟩,h7⟩:=H;simp only [zkL] at h1 h3;have ha:=h4 a (by simp)
 have hl:(if c then r++[a] else u++[a]).length≤81∨(if c then r++[a] else u++[a]).length=u.length+1:=by
  split
  ·left;simp;omega
  ·right;simp
 have hr:RngW (if c then r++[a] else u++[a]):=by
  split
  ·exact h6.snoc ha
  ·exact h5.snoc ha
 refine ⟨by simp only [zkL];omega,ht.pw f hf,by simp only [zkJ,zkL,List.length_nil];omega,⟨fun x hx=>h4 x (List.mem_cons_of_mem _ hx),hr,ht.sm.2.2.2 f hf⟩,fun x hx=>?_⟩;rcases List.mem_append.1 hx with hx | hx
 ·exact h7 x hx
 ·rw [List.mem_singleton.1 hx];exact ⟨by omega,hr⟩
theorem row_sml (hv:zc2 o) (ht:zev (lazT l)) {w:List Int} {R:Row} (h:rowO o w l.Suffixes=some R):SmL R:=by
 have h1:=zl7 hv ht h;exact ⟨by have:=h1.1;omega,fun x hx=>by have:=(h1.2 x hx).1;unfold SmW;omega⟩
def refR (l:zai) (o:zab) (u v:List Int):List (List Int)×List (List Int)×Int :=
 if zdc (zf6 o [u] l.Suffixes)=true then ([],zf6 o [u] l.Suffixes)
 else match clsW l o ((rowO o u l.Suffixes).getD []) with
  | none=>([],[],10)
  | some f=>if zdc (zf6 o [u,f] [v])=true then ([],zf6 o [u,f] [v])
   else if tailA o u v=tailA o f v then ([],[],15)
   else ziz l o v u f [u]
theorem laz_eta:(⟨l.Inputs,l.Short,l.Suffixes⟩:zai)=l:=rfl
theorem obs_eta:(⟨o.Inputs,o.Traces⟩:zab)=o:=rfl
theorem flat2 (a b:List Int) (S:List (List Int)):([a,b].flatMap fun w=>zf5 o w S)=zf5 o a S++zf5 o b S:=by simp
theorem any2 (a b:List Int) (S:List (List Int)):anyL [a,b] S=(zgq a S||zgq b S):=by simp [anyL]
theorem flat1 (a:List Int) (S:List (List Int)):([a].flatMap fun w=>zf5 o w S)=zf5 o a S:=by simp
theorem any1 (a:List Int) (S:List (List Int)):anyL [a] S=zgq a S:=by simp [anyL]
theorem tailA_len (hv:zc2 o) (w e:List Int):(tailA o w e).length≤e.length:=by
 cases ha:ansO o (w++e) with
 | none=>rw [ans_nil_tail ha];simp
 | some q =>
  have:=zkq hv ha;rw [ans_tail ha,List.length_drop,this,zkJ];omega
theorem zot {w:List (List Int)} {S:List (List Int)} (h:zdc (zf6 o w S)=false) (h1:w.length≤100) (h2:S.length≤100):anyL w S=false∧(w.flatMap fun w=>zf5 o w S)=[]:=by
 have:=(zn2 (o:=o) h1 h2 []).1;rw [h] at this;have:=this.symm;rw [Bool.or_eq_false_iff] at this;exact ⟨this.1,Classical.not_not.1 (of_decide_eq_false this.2)⟩
theorem zv4 (ho:SmO o) (hv:zc2 o) (ht:zev (lazT l)) (hc:chkL l o=0) {v u r:List Int} {A:List (List Int)} (H:ChOk l v u r A) (hA:A=[u]) :
  ∃ added err M b,(iter (fun (s:Int×List (List Int)×List (List Int)×Int×List zaa×List (List Int)×Bool×List Int×List Int×List Int×List (List Int))=>zbf.s2 s.1 s.2.1 s.2.2.1 s.2.2.2.1 s.2.2.2.2.1 s.2.2.2.2.2.1 s.2.2.2.2.2.2.1 s.2.2.2.2.2.2.2.1 s.2.2.2.2.2.2.2.2.1 s.2.2.2.2.2.2.2.2.2.1 s.2.2.2.2.2.2.2.2.2.2) fuel (l.Inputs,l.Short,l.Suffixes,o.Inputs,o.Traces,[],false,u,v,r,[u])).bind
   (Sum.elim (fun (s:Int×List (List Int)×List (List Int)×Int×List zaa×List (List Int)×Bool×List (List Int))=>zbf.k3 s.1 s.2.1 s.2.2.1 s.2.2.2.1 s.2.2.2.2.1 s.2.2.2.2.2.1 s.2.2.2.2.2.2.1 s.2.2.2.2.2.2.2) some)=some (added,err,⟨l,o,M,b⟩)∧ProgOk (ziz l o v u r A) added err M b:=by
 have hs:l.Suffixes.length≤12:=ht.s;have hS:SmL l.Suffixes:=ht.sm.2.2.1;generalize hres:ziz l o v u r A=res
 have key:=zbq (step:=fun (s:Int×List (List Int)×List (List Int)×Int×List zaa×List (List Int)×Bool×List Int×List Int×List Int×List (List Int))=>zbf.s2 s.1 s.2.1 s.2.2.1 s.2.2.2.1 s.2.2.2.2.1 s.2.2.2.2.2.1 s.2.2.2.2.2.2.1 s.2.2.2.2.2.2.2.1 s.2.2.2.2.2.2.2.2.1 s.2.2.2.2.2.2.2.2.2.1 s.2.2.2.2.2.2.2.2.2.2)
  (fun s=>∃ u v r A,s=(l.Inputs,l.Short,l.Suffixes,o.Inputs,o.Traces,[],false,u,v,r,A)∧ChOk l v u r A∧ziz l o v u r A=res) (fun s=>s.2.2.2.2.2.2.2.2.1.length)
  (fun q=>∃ added err M b,ProgOk res added err M b∧((q=.inl (l.Inputs,l.Short,l.Suffixes,o.Inputs,o.Traces,M,b,added)∧err=0)∨q=.inr (added,err,⟨l,o,M,b⟩))) (fun s ⟨u,v,r,A,hs0,H,hres⟩=>by
   subst hs0
   have h1:=H.h1
   have h2:=H.h2
   simp only [zbf.s2]
   have fin:v.length≤1→(cond (decide (1<(↑(List.length v):Int))))=fun (_:Option ((Int×List (List Int)×List (List Int)×Int×List zaa×List (List Int)×Bool×List Int×List Int×List Int×List (List Int))⊕((Int×List (List Int)×List (List Int)×Int×List zaa×List (List Int)×Bool×List (List Int))⊕(List (List Int)×Int×zaj)))) x=>x:=fun h=>by
    funext x y
    rw [zkA (by omega)]
    rfl
   match v,H,hres,fin with
   | [],_,hres,_=>exact .inr ⟨_,rfl,A,0,[],false,.inr (.inr (.inr ⟨rfl,rfl,rfl,hres.symm⟩)),.inl ⟨rfl,rfl⟩⟩
   | [_],_,hres,_=>exact .inr ⟨_,rfl,A,0,[],false,.inr (.inr (.inr ⟨rfl,rfl,rfl,hres.symm⟩)),.inl ⟨rfl,rfl⟩⟩
   | a::b::v,H,hres,_ =>
    have h1:=H.h1
    have h3:=H.h3
    simp only [zkL] at h1 h3
    have hub:SmW (u++[a]):=by unfold SmW;simp;omega
    have hrb:SmW (r++[a]):=by unfold SmW;simp;omega
    have hv':SmW (b::v):=by unfold SmW;simp;omega
    rw [zkB (by simp only [zkL];omega),zkD,zav (by simp only [zkL];omega),show List.take 1 (a::b::v)=[a] from rfl,show List.drop 1 (a::b::v)=b::v from rfl]
    rw [zfi _ (by simp) (by simp;omega),zan,zav (by simp only [zkL];omega),zfi _ (by simp) (by simp;omega),zan,zq0,zq0,zav (by simp only [zkL];omega)]
    have hml:=zn9 o (u++[a]) l.Suffixes
    obtain ⟨R1,e1,f1⟩:=zmx (l:=l) (M:=[]) (b:=false) ho hv ht hub (by simp)
    obtain ⟨R2,e2,f2⟩:=zmx (l:=l) (M:=[]++zf5 o (u++[a]) l.Suffixes) (b:=false||zgq (u++[a]) l.Suffixes) ho hv ht hrb (by simp;omega)
    simp only [laz_eta,obs_eta]
    rw [e1,zan]
    simp only [laz_eta,obs_eta]
    rw [e2,zan]
    simp only [laz_eta,obs_eta]
    rw [zh9,zan]
    simp only [List.nil_append,Bool.false_or]
    obtain ⟨p1,p2⟩:=zn2 (o:=o) (ws:=[u++[a],r++[a]]) (S:=l.Suffixes) (by simp) (by omega) []
    rw [flat2,any2] at p1 p2
    rw [← p1]
    rw [zsr] at hres
    cases hst:zdc (zf6 o [u++[a],r++[a]] l.Suffixes) with
    | true =>
     right
     rw [hst,if_pos rfl] at hres
     exact ⟨_,rfl,[],0,_,_,hres ▸ p2 hst,.inr rfl⟩
    | false =>
     rw [hst,if_neg (by simp)] at hres
     obtain ⟨z1,z2⟩:=zot hst (by simp) (by omega)
     rw [any2] at z1
     rw [flat2] at z2
     rw [z1,z2]
     obtain ⟨l1,m1⟩:=zkz hst (u++[a]) (by simp)
     obtain ⟨l2,m2⟩:=zkz hst (r++[a]) (by simp)
     have hR1:=f1 l1 m1
     have hR2:=f2 l2 m2
     have hsm1:=row_sml hv ht hR1
     simp only [zkC]
     rw [ztl _ _ hsm1,zan]
     rw [hR1,hR2] at hres
     by_cases hR:R1=R2
     ·subst hR
      rw [zkB rfl]
      rw [if_neg (by simp)] at hres
      simp only [Option.getD_some] at hres
      rw [Bool.not_true,zkC]
      rw [zno ho hv ht hc hsm1,zan]
      cases hcl:clsW l o R1 with
      | none =>
       right
       rw [hcl] at hres
       exact ⟨_,rfl,[],10,[],false,.inr (.inl ⟨rfl,by decide,hres ▸ rfl⟩),.inr rfl⟩
      | some f =>
       have hf:=zoi hcl
       have hfl:f.length≤80:=ht.pw f hf
       have hfs:SmW f:=by unfold SmW;omega
       rw [hcl] at hres
       simp only [Option.isSome_some,Bool.not_true,zkC,Option.getD_some] at hres ⊢
       obtain ⟨s1,s2,s3⟩:=zof (o:=o) (u++[a]) (b::v) [] false
       have hml2:=zn9 o (u++[a]) [b::v]
       simp only [List.length_singleton] at hml2
       obtain ⟨t1,t2,t3⟩:=zof (o:=o) f (b::v) ([]++zf5 o (u++[a]) [b::v]) (false||zgq (u++[a]) [b::v])
       rw [zg6 ho hv hub hv' (by simp),zan]
       simp only [s1,s2]
       rw [zg6 ho hv hfs hv' (by simp;omega),zan]
       simp only [t1,t2]
       rw [zh9,zan]
       simp only [List.nil_append,Bool.false_or]
       obtain ⟨p1,p2⟩:=zn2 (o:=o) (ws:=[u++[a],f]) (S:=[b::v]) (by simp) (by simp) []
       rw [flat2,any2] at p1 p2
       rw [← p1]
       cases hst2:zdc (zf6 o [u++[a],f] [b::v]) with
       | true =>
        right
        rw [hst2,if_pos rfl] at hres
        exact ⟨_,rfl,[],0,_,_,hres ▸ p2 hst2,.inr rfl⟩
       | false =>
        left
        rw [hst2,if_neg (by simp)] at hres
        obtain ⟨z1,z2⟩:=zot hst2 (by simp) (by simp)
        rw [any2] at z1
        rw [flat2] at z2
        obtain ⟨l3,m3⟩:=zkz hst2 (u++[a]) (by simp)
        obtain ⟨l4,m4⟩:=zkz hst2 f (by simp)
        simp only [List.nil_append,Bool.false_or] at t3
        refine ⟨_,?_,⟨_,_,_,_,rfl,H.next ht hf _,hres⟩,by simp⟩
        have hta:=tailA_len hv (u++[a]) (b::v)
        simp only [zkL] at hta
        rw [zkC,s3 l3 m3,t3 l4 m4,zgg _ _ (by omega),zan,z1,z2]
        by_cases ht2:tailA o (u++[a]) (b::v)=tailA o f (b::v)
        ·rw [zkB ht2,Bool.not_true,zkC,zan,zav (zlx (by omega)),if_pos ht2]
        ·rw [zkA ht2,Bool.not_false,zkD,zan,zav (zlx (by omega)),if_neg ht2]
     ·right
      rw [zkA hR]
      rw [if_pos (by simpa using hR)] at hres
      exact ⟨_,rfl,A,0,[],false,.inr (.inr (.inr ⟨rfl,rfl,rfl,hres.symm⟩)),.inr rfl⟩) fuel (l.Inputs,l.Short,l.Suffixes,o.Inputs,o.Traces,[],false,u,v,r,[u]) ⟨u,v,r,[u],rfl,hA ▸ H,hA ▸ hres⟩ (by have:=za4;have:=H.h3;simp only;omega)
 obtain ⟨q,e,added,err,M,b,hp,hq⟩:=key;refine ⟨added,err,M,b,?_,hp⟩;rw [e,zan];rcases hq with ⟨rfl,rfl⟩ | rfl
 ·rfl
 ·rfl
end
end
section
set_option maxRecDepth 100000
theorem zs0:zix=some true:=by decide +kernel
end
section
set_option maxRecDepth 100000
section
variable {l:zai} {o:zab}
theorem zu0 (ht:zev (lazT l)):∀ (v u r:List Int) (A:List (List Int)),ChOk l v u r A→(ziz l o v u r A).1.length≤1200∧∀ x∈(ziz l o v u r A).1,x.length≤2100∧RngW x
 | [],u,r,A,H=>⟨by have:=H.h3;exact Nat.le_trans (Nat.le_add_right _ _) this,H.h5⟩
 | [_],u,r,A,H=>⟨by have:=H.h3;exact Nat.le_trans (Nat.le_add_right _ _) this,H.h5⟩
 | a::b::v,u,r,A,H=>by
  have h0:∀ x:List (List Int)×Int,(([]:List (List Int)),x).1.length≤1200∧∀ y∈(([]:List (List Int)),x).1,y.length≤2100∧RngW y:=fun x=>⟨by simp,fun y hy=>by cases hy⟩;rw [zsr];split
  ·exact h0 _
  ·split
   ·exact ⟨by have:=H.h3;exact Nat.le_trans (Nat.le_add_right _ _) this,H.h5⟩
   ·cases hcl:clsW l o ((rowO o (u++[a]) l.Suffixes).getD []) with
    | none=>exact h0 _
    | some f =>
     simp only;split
     ·exact h0 _
     ·exact zu0 ht (b::v) _ _ _ (H.next ht (zoi hcl) _)
structure RefIn (u v:List Int):Prop where
 h1:u.length≤1025
 h2:v.length≤1024
 h3:RngW u
 h4:RngW v
theorem RefIn.ch {u v f:List Int} (H:RefIn u v) (ht:zev (lazT l)) (hf:f∈l.Short):ChOk l v u f [u] :=
 ⟨by have:=H.h1;have:=H.h2;omega,ht.pw f hf,by have:=H.h2;simp;omega,⟨H.h4,H.h3,ht.sm.2.2.2 f hf⟩,fun x hx=>by rw [List.mem_singleton.1 hx];exact ⟨by have:=H.h1;omega,H.h3⟩⟩
theorem zyi (ht:zev (lazT l)) {u v:List Int} (H:RefIn u v):(refR l o u v).1.length≤1200∧∀ x∈(refR l o u v).1,x.length≤2100∧RngW x:=by
 have h0:∀ x:List (List Int)×Int,(([]:List (List Int)),x).1.length≤1200∧∀ y∈(([]:List (List Int)),x).1,y.length≤2100∧RngW y:=fun x=>⟨by simp,fun y hy=>by cases hy⟩;unfold refR;split
 ·exact h0 _
 ·cases hcl:clsW l o ((rowO o u l.Suffixes).getD []) with
  | none=>exact h0 _
  | some f =>
   simp only;split
   ·exact h0 _
   ·split
    ·exact h0 _
    ·exact zu0 ht _ _ _ _ (H.ch ht (zoi hcl))
theorem ztu (ho:SmO o) (hv:zc2 o) (ht:zev (lazT l)) (hc:chkL l o=0) {u v:List Int} (H:RefIn u v) :
  ∃ added err M b,zbf ⟨l,o,[],false⟩ u v=some (added,err,⟨l,o,M,b⟩)∧ProgOk (refR l o u v) added err M b:=by
 have hs:l.Suffixes.length≤12:=ht.s;have h1:=H.h1;have h2:=H.h2;have hu:SmW u:=by unfold SmW;omega
 have hv':SmW v:=by unfold SmW;omega
 obtain ⟨R1,e1,f1⟩:=zmx (l:=l) (M:=[]) (b:=false) ho hv ht hu (by simp);unfold zbf refR;rw [e1,zan];simp only [laz_eta,obs_eta];rw [zh9,zan];simp only [List.nil_append,Bool.false_or];obtain ⟨p1,p2⟩:=zn2 (o:=o) (ws:=[u]) (S:=l.Suffixes) (by simp) (by omega) [];rw [flat1,any1] at p1 p2;rw [← p1];cases hst:zdc (zf6 o [u] l.Suffixes) with
 | true=>exact ⟨[],0,_,_,rfl,by rw [if_pos rfl];exact p2 hst⟩
 | false =>
  rw [if_neg (by simp)];obtain ⟨z1,z2⟩:=zot hst (by simp) (by omega);rw [any1] at z1;rw [flat1] at z2;rw [z1,z2];obtain ⟨l1,m1⟩:=zkz hst u (by simp);have hR1:=f1 l1 m1;have hsm1:=row_sml hv ht hR1;simp only [zkC];rw [zno ho hv ht hc hsm1,zan,hR1,Option.getD_some];cases hcl:clsW l o R1 with
  | none=>exact ⟨[],10,[],false,rfl,.inr (.inl ⟨rfl,by decide,rfl⟩)⟩
  | some f =>
   have hf:=zoi hcl;have hfl:f.length≤80:=ht.pw f hf;have hfs:SmW f:=by unfold SmW;omega
   simp only [Option.isSome_some,Bool.not_true,zkC,Option.getD_some];obtain ⟨s1,s2,s3⟩:=zof (o:=o) u v [] false;have hml2:=zn9 o u [v];simp only [List.length_singleton] at hml2;obtain ⟨t1,t2,t3⟩:=zof (o:=o) f v ([]++zf5 o u [v]) (false||zgq u [v]);rw [zg6 ho hv hu hv' (by simp),zan];simp only [s1,s2];rw [zg6 ho hv hfs hv' (by simp;omega),zan];simp only [t1,t2];rw [zh9,zan];simp only [List.nil_append,Bool.false_or];obtain ⟨p1,p2⟩:=zn2 (o:=o) (ws:=[u,f]) (S:=[v]) (by simp) (by simp) [];rw [flat2,any2] at p1 p2;rw [← p1];cases hst2:zdc (zf6 o [u,f] [v]) with
   | true=>exact ⟨[],0,_,_,rfl,by rw [if_pos rfl];exact p2 hst2⟩
   | false =>
    rw [if_neg (by simp)];obtain ⟨z1,z2⟩:=zot hst2 (by simp) (by simp);rw [any2] at z1;rw [flat2] at z2;obtain ⟨l3,m3⟩:=zkz hst2 u (by simp);obtain ⟨l4,m4⟩:=zkz hst2 f (by simp);simp only [List.nil_append,Bool.false_or] at t3;have hta:=tailA_len hv u v;rw [zkC,s3 l3 m3,t3 l4 m4,zgg _ _ (by omega),zan,z1,z2];by_cases ht2:tailA o u v=tailA o f v
    ·rw [zkB ht2,zkD,if_pos ht2];exact ⟨[],15,[],false,rfl,.inr (.inl ⟨rfl,by decide,rfl⟩)⟩
    ·rw [zkA ht2,zkC,if_neg ht2];exact zv4 ho hv ht hc (H.ch ht hf) rfl
def zpi (s:zd1) (n:Int):Int:=if zbn s.Prefix n≠0 then zbn s.Prefix n else if s.Symbol<0∨n≤s.Symbol then 2 else if s.Suffix=[] then 19 else zbn s.Suffix n
theorem zq8 {w:List Int} {n:Int} (h:zbn w n=0):w.length≤1024:=by
 unfold zbn at h;split at h
 ·split at h
  ·cases h
  ·omega
 ·cases h
theorem or_step {R:Type} (a b:Prop) [Decidable a] [Decidable b] (k:Bool→Option R):((cond (decide a) (some true) (some (decide b)):Option Bool)).bind k=k (decide (a∨b)):=by
 by_cases h:a
 ·rw [zkB h,zkB (Or.inl h)];rfl
 ·rw [zkA h,zkC,zan];congr 1;simp [h]
theorem proper_in {s:zd1} {n:Int} (h:zpi s n=0) (hn:n≤1024):RefIn (s.Prefix++[s.Symbol]) s.Suffix∧zbn s.Prefix n=0∧zbn s.Suffix n=0∧0≤s.Symbol∧s.Symbol<n∧s.Suffix≠[]:=by
 unfold zpi at h;split at h
 ·rename_i c;exact absurd h c
 ·rename_i c1;have c1:zbn s.Prefix n=0:=Classical.not_not.1 c1;split at h
  ·cases h
  ·rename_i c2;split at h
   ·cases h
   ·rename_i c3;have r1:RngW s.Prefix:=fun a ha=>by have:=zdh c1 a ha;unfold inR;omega
    have r2:RngW s.Suffix:=fun a ha=>by have:=zdh h a ha;unfold inR;omega
    have l1:=zq8 c1;have l2:=zq8 h;exact ⟨⟨by simp;omega,l2,r1.snoc (by unfold inR;omega),r2⟩,c1,h,by omega,by omega,c3⟩
def zth (l:zai) (A:List (List Int)):zai:=⟨l.Inputs,sortW (l.Short++A),l.Suffixes⟩
def refineL (l:zai) (o:zab) (s:zd1):zai×List (List Int)×Int :=
 if chkL l o≠0 then (l,[],chkL l o) else if zpi s l.Inputs≠0 then (l,[],zpi s l.Inputs)
 else if zdc (refR l o (s.Prefix++[s.Symbol]) s.Suffix).2=true then (l,(refR l o (s.Prefix++[s.Symbol]) s.Suffix).2)
 else if zf9 (zth l (refR l o (s.Prefix++[s.Symbol]) s.Suffix).1)≠0 then (l,[],zf9 (zth l (refR l o (s.Prefix++[s.Symbol]) s.Suffix).1))
 else (zth l (refR l o (s.Prefix++[s.Symbol]) s.Suffix).1,[],0)
theorem grownL_sm (ht:zev (lazT l)) {A:List (List Int)} (h1:A.length≤1200) (h2:∀ x∈A,x.length≤2100∧RngW x):SmT (lazT (zth l A)):=by
 have hp:l.Short.length≤80:=ht.p;refine ⟨ht.sm.1,zkn (zjy (by omega) ht.sm.2.1 ⟨by omega,fun x hx=>by have:=(h2 x hx).1;unfold SmW;omega⟩),ht.sm.2.2.1,fun x hx a ha=>?_⟩;rcases List.mem_append.1 ((zdd _ _).1 hx) with hx | hx
 ·exact ht.sm.2.2.2 x hx a ha
 ·exact (h2 x hx).2 a ha
theorem with_all (ht:zev (lazT l)) (hAp:Asc l.Short) {A:List (List Int)} (h1:A.length≤1200) (h2:∀ x∈A,x.length≤2100∧RngW x) (c:List (List Int)×Int×zaj) (hcA:c.1=A) :
  iter (fun (s:List (List Int)×Nat)=>zdz.s2 c s.1 s.2) fuel (l.Short,0)=some (sortW (l.Short++A)):=by
 have hp:l.Short.length≤80:=ht.p;have hmem:∀ i x,x∈(A.take i).foldl insW l.Short→x∈l.Short∨x∈A:=fun i x hx=>((zjs (A.take i) l.Short hAp).2.1 x).1 hx |>.imp_right List.mem_of_mem_take
 refine zdy (fun s=>s.2≤A.length∧s.1=(A.take s.2).foldl insW l.Short) (fun s=>A.length-s.2) (fun s ⟨g1,g2⟩=>?_) ⟨Nat.zero_le _,rfl⟩ (by have:=za4;simp only;omega);obtain ⟨y,i⟩:=s;simp only at g1 g2;subst g2;obtain ⟨q1,q2,q3⟩:=zjs (A.take i) l.Short hAp;simp only [zdz.s2];rw [hcA];by_cases g3:i<A.length
 ·left;have hx:=get_at g3;have hlx:=h2 _ (List.getElem_mem g3);refine ⟨((A.take (i+1)).foldl insW l.Short,i+1),?_,⟨g3,rfl⟩,by simp only;omega⟩;rw [zbw hx,zkD,zaq hx,zn8 q1 ⟨by rw [List.length_take] at q3;omega,fun x hx=>?_⟩ (by unfold SmW;omega),zan,zbp hx,List.foldl_append]
  ·rfl
  ·rcases hmem i x hx with h | h
   ·exact ht.sm.2.1.2 x h
   ·have:=(h2 x h).1;unfold SmW;omega
 ·right;have e:i=A.length:=by omega
  subst e;rw [zkA (by omega),zkC,List.take_length,sortW_append,zf8 hAp]
theorem zw1 (ho:SmO o) (hv:zc2 o) (ht:zev (lazT l)) {s:zd1} (h1:SmW s.Prefix) (h2:SmW s.Suffix):zdz l o s=some (refineL l o s):=by
 have hS:SmL l.Suffixes:=ht.sm.2.2.1;have hn:l.Inputs≤4:=ht.n;unfold zdz refineL;rw [zq7 ht.sm,zan];by_cases hc:chkL l o=0
 ·obtain ⟨_,_,_,hval⟩:=zrq hc;obtain ⟨_,_,hAp,hAs,_⟩:=zez hval;rw [zkA (by simpa using hc),zkC,if_neg (by simpa using hc),zid _ _ h1,zan];by_cases hpr:zpi s l.Inputs=0
  ·rw [if_neg (by simpa using hpr)];obtain ⟨H,c1,c2,c3,c4,c5⟩:=proper_in hpr (by omega);rw [zkA (by simpa using c1),zkC,or_step,zkA (by omega),zkC,zkA (fun h=>c5 (List.eq_nil_of_length_eq_zero (by omega))),zkC,zid _ _ h2,zan,zkA (by simpa using c2),zkC];rw [zfi _ (by simp) (by unfold SmW at h1;simp;omega),zan,zq0];obtain ⟨added,err,M,b,e,P⟩:=ztu ho hv ht hc H;have hA:=zyi (o:=o) ht H;rw [e,zan];generalize refR l o (s.Prefix++[s.Symbol]) s.Suffix=res at P hA ⊢;rcases P with ⟨rfl,p⟩ | ⟨rfl,p1,p2⟩ | ⟨rfl,rfl,p1,p2,p3⟩ | ⟨rfl,rfl,rfl,rfl⟩
   ·simp only [zkD];rw [p];rfl
   ·simp only [zkC];rw [zkB p1,zkD,p2];unfold zdc;rw [zkB p1];rfl
   ·simp only [zkC,ne_eq,not_true_eq_false,decide_false];rw [zkB (zuq p1),zkD,zkr p2,zan,p3];have hne:maxR M≠[]:=fun h=>p1 (zks.1 h);rw [if_pos (by unfold zdc;simp [hne])]
   ·have hsm:=grownL_sm ht hA.1 hA.2;simp only [zkC,ne_eq,not_true_eq_false,decide_false,List.length_nil,Int.natCast_zero,Int.ofNat_zero,Int.lt_irrefl];rw [with_all ht hAp hA.1 hA.2 _ rfl,zan,show (⟨l.Inputs,sortW (l.Short++added),l.Suffixes⟩:zai)=zth l added from rfl,zjk hsm,zan];have hst:zdc (([]:List (List Int)),(0:Int))=false:=rfl;rw [hst,if_neg (by simp)];by_cases c5:zf9 (zth l added)=0
    ·rw [zkA (by simpa using c5),zkC,if_neg (by simpa using c5),zma hsm.2.1 hS,zan]
    ·rw [zkB c5,zkD,if_pos c5]
  ·rw [if_pos hpr];unfold zpi at hpr ⊢;by_cases c1:zbn s.Prefix l.Inputs=0
   ·rw [if_neg (by simpa using c1)] at hpr ⊢;rw [zkA (by simpa using c1),zkC,or_step];by_cases c2:s.Symbol<0∨l.Inputs≤s.Symbol
    ·rw [if_pos c2,zkB c2];rfl
    ·rw [if_neg c2] at hpr ⊢;rw [zkA c2,zkC];by_cases c3:s.Suffix=[]
     ·rw [if_pos c3,c3];rfl
     ·rw [if_neg c3] at hpr ⊢;rw [zkA (fun h=>c3 (List.eq_nil_of_length_eq_zero (by omega))),zkC,zid _ _ h2,zan,zkB hpr,zkD]
   ·rw [if_pos c1,zkB c1,zkD]
 ·rw [zkB hc,zkD,if_pos hc]
end
end
section
set_option maxRecDepth 100000
structure GrowOk (l u:zai):Prop where
 v:zf9 u=0
 sm:SmT (lazT u)
 p:∀ x∈l.Short,x∈u.Short
 s:∀ x∈l.Suffixes,x∈u.Suffixes
section
variable {l u:zai} {o:zab}
theorem GrowOk.self (h:zf9 l=0) (ht:SmT (lazT l)):GrowOk l l:=⟨h,ht,fun _ h=>h,fun _ h=>h⟩
theorem znd (h:zf9 u=0):zdn (lazT u)=0∧sufB u.Suffixes=true:=by
 unfold zf9 at h;split at h
 ·rename_i h1;exact absurd h h1
 ·rename_i h1;split at h
  ·rename_i h2;exact ⟨Classical.not_not.1 h1,h2⟩
  ·cases h
theorem stepL_grow (ht:zev (lazT l)) (hv:zc2 o) (hval:zf9 l=0):GrowOk l (zk8 l o).1∧((zk8 l o).2.2.1=true∨(zk8 l o).2.1≠[]→(zk8 l o).1=l):=by
 obtain ⟨hvt,hsuf⟩:=znd hval;have self:=GrowOk.self hval ht.sm;unfold zk8;split
 ·exact ⟨self,fun _=>rfl⟩
 ·rename_i hc;obtain ⟨h1,_⟩:=zrq (Classical.not_not.1 hc);unfold stepT;rw [if_neg (by simpa using h1)];by_cases h2:zdv o (lazT l) (lazT l).Prefixes=[]
  ·rw [if_neg (by simpa using h2)];have hz:=zt3 h1 h2;cases hf:(extL (lazT l)).find? (newRow (lazT l) o) with
   | some w =>
    obtain ⟨w1,w2⟩:=zpk ht (List.mem_of_find?_eq_some hf);obtain ⟨u1,u2⟩:=uncl_ins ht hz hf;simp only;rw [u1];have hp:l.Short.length≤80:=ht.p;refine ⟨⟨zrf (n:=l.Inputs) (p:=insW l.Short w) (s:=l.Suffixes) u2 hsuf,⟨ht.sm.1,sml_ins (l:=l.Short) ⟨by omega,ht.sm.2.1.2⟩ (by unfold SmW;omega),ht.sm.2.2.1,fun x hx a ha=>?_⟩,fun x hx=>(zfo _ _ _).2 (Or.inl hx),fun _ h=>h⟩,fun h=>by rcases h with h | h<;>simp at h⟩
    rcases (zfo _ _ _).1 hx with hx | rfl
    ·exact ht.sm.2.2.2 x hx a ha
    ·exact w2 a ha
   | none =>
    cases hi:iP (lazT l) o with
    | some x =>
     have hwl:=toW_len ht x;obtain ⟨u1,u2,u3⟩:=inc_ins ht hv hz hi;simp only;rw [u1];have hs:l.Suffixes.length≤12:=ht.s;exact ⟨⟨zrf (n:=l.Inputs) (p:=l.Short) (s:=insW l.Suffixes (toW (lazT l) x)) u2 (sufB_ins hsuf u3),⟨ht.sm.1,ht.sm.2.1,sml_ins (l:=l.Suffixes) ⟨by omega,ht.sm.2.2.1.2⟩ (by unfold SmW;omega),ht.sm.2.2.2⟩,fun _ h=>h,fun x hx=>(zfo _ _ _).2 (Or.inl hx)⟩,fun h=>by rcases h with h | h<;>simp at h⟩
    | none=>exact ⟨self,fun _=>rfl⟩
  ·rw [if_pos h2];exact ⟨self,fun _=>rfl⟩
end
end
section
set_option maxRecDepth 100000
def trow (m:zal) (S:List (List Int)) (w:List Int):Row:=S.map fun e=>outs m (dest m m.Start.toNat w) e
def KnS (o:zab) (S:List (List Int)) (w:List Int):Prop:=∀ e∈S,Kn o (w++e)
section
variable {m:zal} {o:zab} {S:List (List Int)} {w:List Int}
theorem zjf (hE:Expl m o) {e:List Int} (h:Kn o (w++e)):tailA o w e=outs m (dest m m.Start.toNat w) e:=by
 unfold tailA;rw [(zoz hE).1 h,Option.getD_some,zhh,List.drop_append_of_le_length (by rw [zis];exact Nat.le_refl _),List.drop_of_length_le (by rw [zis];exact Nat.le_refl _),List.nil_append]
theorem zkb (hE:Expl m o):∀ (S:List (List Int)),(KnS o S w→rowO o w S=some (trow m S w))∧(∀ R,rowO o w S=some R→KnS o S w)
 | []=>⟨fun _=>rfl,fun R _ e he=>by cases he⟩
 | e::S=>by
  obtain ⟨h1,h2⟩:=zkb hE S;constructor
  ·intro h;have hk:=h e (by simp);unfold rowO;rw [(zoz hE).1 hk,h1 fun x hx=>h x (by simp [hx])];simp only [Option.map_some,trow,List.map_cons];congr 2;rw [zhh,List.drop_append_of_le_length (by rw [zis];exact Nat.le_refl _),List.drop_of_length_le (by rw [zis];exact Nat.le_refl _),List.nil_append]
  ·intro R hR x hx;unfold rowO at hR;by_cases hk:Kn o (w++e)
   ·rw [(zoz hE).1 hk] at hR;simp only at hR;cases hr:rowO o w S with
    | none=>rw [hr] at hR;cases hR
    | some R' =>
     rcases List.mem_cons.1 hx with g | g
     ·rw [g];exact hk
     ·exact h2 R' hr x g
   ·rw [(zoz hE).2 hk] at hR;cases hR
theorem zpq (hE:Expl m o) {R:Row} (h:rowO o w S=some R):R=trow m S w:=by
 have:=(zkb hE S).1 ((zkb hE S).2 R h);rw [this] at h;injection h with h
 exact h.symm
theorem zpl (hE:Expl m o) (h:zeh o w S=[]):KnS o S w:=by
 obtain ⟨R,hR⟩:=miss_row h;exact (zkb hE S).2 R hR
def zwk (m:zal) (S P:List (List Int)):Prop:=∃ p∈P,∃ q∈P,trow m S p=trow m S q∧∃ a:Nat,(↑a:Int)<m.Inputs∧trow m S (p++[(↑a:Int)])≠trow m S (q++[(↑a:Int)])
theorem zwk.mono {P Q:List (List Int)} (h:zwk m S P) (hs:∀ x∈P,x∈Q):zwk m S Q:=by
 obtain ⟨p,hp,q,hq,h1,h2⟩:=h;exact ⟨p,hs p hp,q,hs q hq,h1,h2⟩
theorem trow_at {p q:List Int} (h:trow m S p=trow m S q) {e:List Int} (he:e∈S):outs m (dest m m.Start.toNat p) e=outs m (dest m m.Start.toNat q) e:=by
 unfold trow at h;exact List.map_inj_left.1 h e he
theorem dest_snoc (w:List Int) (a:Int):dest m m.Start.toNat (w++[a])=nx m (dest m m.Start.toNat w) a.toNat:=by
 rw [zkd];rfl
theorem zqs (s:Nat) (a:Int) (w:List Int):outs m s (a::w)=ot m s a.toNat::outs m (nx m s a.toNat) w:=rfl
structure ChIn (m:zal) (l:zai) (o:zab) (v u r:List Int) (A:List (List Int)) (K:Nat):Prop where
 row:trow m l.Suffixes u=trow m l.Suffixes r
 rs:r∈l.Short
 ua:u∈A
 tl:outs m (dest m m.Start.toNat u) v≠outs m (dest m m.Start.toNat r) v
 ku:Kn o (u++v)
 kr:Kn o (r++v)
 vw:WOk m.Inputs v
 ul:u.length≤K
 al:∀ x∈A,x.length≤K
theorem zyh {l:zai} (hE:Expl m o) (hsing:∀ a:Nat,(↑a:Int)<m.Inputs→[(↑a:Int)]∈l.Suffixes) (hpl:∀ x∈l.Short,x.length≤30):∀ (v u r:List Int) (A:List (List Int)) (K:Nat),30≤K→ChIn m l o v u r A K→zdc (ziz l o v u r A).2=false →
  zwk m l.Suffixes (l.Short++(ziz l o v u r A).1)∧(ziz l o v u r A).1.length≤A.length+v.length∧∀ x∈(ziz l o v u r A).1,x.length≤K+v.length
 | [],u,r,A,K,_,H,_=>absurd rfl H.tl
 | [a],u,r,A,K,_,H,_=>by
  have ha:=H.vw.head;have hs:=hsing a.toNat (by omega);rw [show (↑a.toNat:Int)=a by omega] at hs;exact absurd (trow_at H.row hs) H.tl
 | a::b::v,u,r,A,K,hK,H,hst=>by
  have ha:=H.vw.head;have ea:a=(↑a.toNat:Int):=by omega
  rw [zsr] at hst ⊢;by_cases g1:zdc (zf6 o [u++[a],r++[a]] l.Suffixes)=true
  ·rw [if_pos g1] at hst;have hst:zdc (zf6 o [u++[a],r++[a]] l.Suffixes)=false:=hst;rw [g1] at hst;cases hst
  ·rw [if_neg g1] at hst ⊢;have g1':zdc (zf6 o [u++[a],r++[a]] l.Suffixes)=false:=by simpa using g1
   have hku:=zpl hE (zkz g1' (u++[a]) (by simp)).2;have hkr:=zpl hE (zkz g1' (r++[a]) (by simp)).2;have hru:=(zkb hE l.Suffixes).1 hku;have hrr:=(zkb hE l.Suffixes).1 hkr;rw [hru,hrr] at hst ⊢;by_cases g2:some (trow m l.Suffixes (u++[a]))≠some (trow m l.Suffixes (r++[a]))
   ·rw [if_pos g2];refine ⟨⟨u,List.mem_append.2 (.inr H.ua),r,List.mem_append.2 (.inl H.rs),H.row,a.toNat,by omega,?_⟩,by simp only;omega,fun x hx=>by have:=H.al x hx;omega⟩;rw [← ea];exact fun e=>g2 (by rw [e])
   ·rw [if_neg g2] at hst ⊢
    have g2':trow m l.Suffixes (u++[a])=trow m l.Suffixes (r++[a]):=by
     have:=Classical.not_not.1 g2;injection this
    rw [Option.getD_some] at hst ⊢;cases hc:clsW l o (trow m l.Suffixes (u++[a])) with
    | none =>
     rw [hc] at hst;simp only [zdc] at hst;exact absurd hst (by simp)
    | some f =>
     rw [hc] at hst;simp only at hst ⊢;by_cases g3:zdc (zf6 o [u++[a],f] [b::v])=true
     ·rw [if_pos g3] at hst;have hst:zdc (zf6 o [u++[a],f] [b::v])=false:=hst;rw [g3] at hst;cases hst
     ·rw [if_neg g3] at hst ⊢;have g3':zdc (zf6 o [u++[a],f] [b::v])=false:=by simpa using g3
      have hk1:Kn o ((u++[a])++(b::v)):=zpl hE (zkz g3' (u++[a]) (by simp)).2 (b::v) (by simp);have hk2:Kn o (f++(b::v)):=zpl hE (zkz g3' f (by simp)).2 (b::v) (by simp);have hfs:f∈l.Short:=zoi hc
      have hfr:trow m l.Suffixes f=trow m l.Suffixes (u++[a]):=by
       have:=List.find?_some (p:=fun s=>decide (rowO o s l.Suffixes=some (trow m l.Suffixes (u++[a])))) hc;exact (zpq hE (of_decide_eq_true this)).symm
      rw [zjf hE hk1,zjf hE hk2] at hst ⊢
      -- the first outputs are the same, so what follows differs
      have hs:=hsing a.toNat (by omega);rw [← ea] at hs;have hfst:=trow_at H.row hs;have htl:=H.tl;rw [zqs (m:=m) (dest m m.Start.toNat u) a (b::v),zqs (m:=m) (dest m m.Start.toNat r) a (b::v)] at htl;rw [zqs (m:=m) (dest m m.Start.toNat u) a [],zqs (m:=m) (dest m m.Start.toNat r) a []] at hfst;have hot:ot m (dest m m.Start.toNat u) a.toNat=ot m (dest m m.Start.toNat r) a.toNat:=by injection hfst
      have htl2:outs m (dest m m.Start.toNat (u++[a])) (b::v)≠outs m (dest m m.Start.toNat (r++[a])) (b::v):=by
       rw [dest_snoc,dest_snoc];exact fun e=>htl (by rw [hot,e])
      have hrl:=hpl r H.rs;have hul:=H.ul
      have hkr2:Kn o ((r++[a])++(b::v)):=by
       rw [List.append_assoc];exact H.kr
      have hku2:Kn o ((u++[a])++(b::v)):=hk1
      have key:∀ x:List Int,(x=u++[a]∨x=r++[a])→outs m (dest m m.Start.toNat x) (b::v)≠outs m (dest m m.Start.toNat f) (b::v)→zdc (ziz l o (b::v) x f (A++[x])).2=false →
        zwk m l.Suffixes (l.Short++(ziz l o (b::v) x f (A++[x])).1)∧(ziz l o (b::v) x f (A++[x])).1.length≤A.length+(a::b::v).length∧∀ y∈(ziz l o (b::v) x f (A++[x])).1,y.length≤K+(a::b::v).length:=by
       intro x hx ht hs2
       have hxl:x.length≤K+1:=by
        rcases hx with e | e
        ·rw [e,zkJ,List.length_singleton];omega
        ·rw [e,zkJ,List.length_singleton];omega
       have:=zyh hE hsing hpl (b::v) x f (A++[x]) (K+1) (by omega) ⟨by
        rw [hfr]
        rcases hx with e | e
        ·rw [e]
        ·rw [e,g2'],hfs,by simp,ht,by
        rcases hx with e | e
        ·rw [e];exact hku2
        ·rw [e];exact hkr2,hk2,H.vw.tail,hxl,fun y hy=>by
        rcases List.mem_append.1 hy with e | e
        ·have:=H.al y e;omega
        ·rw [List.mem_singleton.1 e];exact hxl⟩ hs2
       refine ⟨this.1,?_,fun y hy=>?_⟩
       ·have h1:=this.2.1;rw [zkJ,List.length_singleton] at h1;simp only [zkL] at h1 ⊢;omega
       ·have h1:=this.2.2 y hy;simp only [zkL] at h1 ⊢;omega
      by_cases g4:outs m (dest m m.Start.toNat (u++[a])) (b::v)=outs m (dest m m.Start.toNat f) (b::v)
      ·rw [if_pos g4] at hst ⊢;exact key (r++[a]) (.inr rfl) (fun e=>htl2 (by rw [g4,e])) hst
      ·rw [if_neg g4] at hst ⊢;exact key (u++[a]) (.inl rfl) g4 hst
theorem refR_pair {l:zai} (hE:Expl m o) (hsing:∀ a:Nat,(↑a:Int)<m.Inputs→[(↑a:Int)]∈l.Suffixes) (hpl:∀ x∈l.Short,x.length≤30) {u v:List Int} (hv:WOk m.Inputs v) (hu:u.length≤31) (hst:zdc (refR l o u v).2=false) :
  zwk m l.Suffixes (l.Short++(refR l o u v).1)∧(refR l o u v).1.length≤1+v.length∧∀ x∈(refR l o u v).1,x.length≤31+v.length:=by
 unfold refR at hst ⊢;by_cases g1:zdc (zf6 o [u] l.Suffixes)=true
 ·rw [if_pos g1] at hst;have hst:zdc (zf6 o [u] l.Suffixes)=false:=hst;rw [g1] at hst;cases hst
 ·rw [if_neg g1] at hst ⊢;have g1':zdc (zf6 o [u] l.Suffixes)=false:=by simpa using g1
  have hku:=zpl hE (zkz g1' u (by simp)).2;rw [(zkb hE l.Suffixes).1 hku,Option.getD_some] at hst ⊢;cases hc:clsW l o (trow m l.Suffixes u) with
  | none =>
   rw [hc] at hst;simp only [zdc] at hst;exact absurd hst (by simp)
  | some f =>
   rw [hc] at hst;simp only at hst ⊢;by_cases g3:zdc (zf6 o [u,f] [v])=true
   ·rw [if_pos g3] at hst;have hst:zdc (zf6 o [u,f] [v])=false:=hst;rw [g3] at hst;cases hst
   ·rw [if_neg g3] at hst ⊢;have g3':zdc (zf6 o [u,f] [v])=false:=by simpa using g3
    have hk1:Kn o (u++v):=zpl hE (zkz g3' u (by simp)).2 v (by simp);have hk2:Kn o (f++v):=zpl hE (zkz g3' f (by simp)).2 v (by simp);rw [zjf hE hk1,zjf hE hk2] at hst ⊢;by_cases g4:outs m (dest m m.Start.toNat u) v=outs m (dest m m.Start.toNat f) v
    ·rw [if_pos g4] at hst;simp only [zdc] at hst;exact absurd hst (by simp)
    ·rw [if_neg g4] at hst ⊢
     have hfr:trow m l.Suffixes f=trow m l.Suffixes u:=by
      have:=List.find?_some (p:=fun s=>decide (rowO o s l.Suffixes=some (trow m l.Suffixes u))) hc;exact (zpq hE (of_decide_eq_true this)).symm
     have:=zyh hE hsing hpl v u f [u] 31 (by omega) ⟨hfr.symm,zoi hc,by simp,g4,hk1,hk2,hv,hu,fun x hx=>by rw [List.mem_singleton.1 hx];exact hu⟩ hst;exact ⟨this.1,this.2.1,this.2.2⟩
end
theorem nodup_len {α:Type} [DecidableEq α]:∀ {l k:List α},l.Nodup→(∀ x∈l,x∈k)→l.length≤k.length
 | [],_,_,_=>Nat.zero_le _
 | x::l,k,h,hs=>by
  have hx:=hs x (by simp);have hn:=List.nodup_cons.1 h;have:=nodup_len (l:=l) (k:=k.erase x) hn.2 fun y hy=>(List.mem_erase_of_ne (fun e=>hn.1 (by rw [← e];exact hy))).2 (hs y (by simp [hy]));rw [List.length_erase_of_mem hx] at this;have hp:0<k.length:=List.length_pos_of_mem hx;simp only [zkL];omega
theorem zwr {α:Type} {P Q:α→Bool}:∀ {l:List α},(∀ x∈l,P x=true→Q x=true)→(l.filter P).length≤(l.filter Q).length∧((∃ x∈l,Q x=true∧P x=false)→(l.filter P).length+1≤(l.filter Q).length)
 | [],_=>⟨Nat.le_refl _,fun ⟨x,hx,_⟩=>by cases hx⟩
 | y::l,h=>by
  obtain ⟨h1,h2⟩:=zwr (l:=l) fun x hx=>h x (by simp [hx]);have hy:=h y (by simp);constructor
  ·rw [List.filter_cons,List.filter_cons];cases hP:P y with
   | true =>
    rw [hy hP];simp only [if_true,zkL];omega
   | false =>
    rw [if_neg Bool.false_ne_true];split
    ·simp only [zkL];omega
    ·exact h1
  ·rintro ⟨x,hx,hq,hp⟩;rw [List.filter_cons,List.filter_cons];rcases List.mem_cons.1 hx with e | e
   ·subst e;rw [hp,hq];simp only [if_true,zkL,if_neg Bool.false_ne_true];omega
   ·have h3:=h2 ⟨x,e,hq,hp⟩;cases hP:P y with
    | true =>
     rw [hy hP];simp only [if_true,zkL];omega
    | false =>
     rw [if_neg Bool.false_ne_true];split
     ·simp only [zkL];omega
     ·exact h3
def zqa (m:zal) (S P:List (List Int)):Nat:=((List.range m.Next.length).filter fun s=>decide ((S.map fun e=>outs m s e)∈P.map (trow m S))).length
theorem zlm (m:zal) (S P:List (List Int)):zqa m S P≤m.Next.length:=by
 have:=List.length_filter_le (fun s=>decide ((S.map fun e=>outs m s e)∈P.map (trow m S))) (List.range m.Next.length);unfold zqa;rw [List.length_range] at this;exact this
theorem reachN_ins {m:zal} (H:zhk m) {S P:List (List Int)} {w:List Int} (hw:WOk m.Inputs w) (hn:trow m S w∉P.map (trow m S)):zqa m S P+1≤zqa m S (insW P w):=by
 have hst:=H.st;have hd:dest m m.Start.toNat w<m.Next.length:=H.dest hw (by omega);refine (zwr (l:=List.range m.Next.length) (P:=fun s=>decide ((S.map fun e=>outs m s e)∈P.map (trow m S))) (Q:=fun s=>decide ((S.map fun e=>outs m s e)∈(insW P w).map (trow m S))) fun x _ hx=>?_).2 ⟨dest m m.Start.toNat w,List.mem_range.2 hd,?_,?_⟩
 ·obtain ⟨p,hp,e⟩:=List.mem_map.1 (of_decide_eq_true hx);exact zkB (List.mem_map.2 ⟨p,(zfo P w p).2 (.inl hp),e⟩)
 ·exact zkB (List.mem_map.2 ⟨w,(zfo P w w).2 (.inr rfl),rfl⟩)
 ·exact zkA hn
end
section
set_option maxRecDepth 100000
def zl1 (n:Nat) (S P:List (List Int)):List (List Int):=P.flatMap fun p=>(zh6 n p).flatMap fun w=>S.map fun e=>w++e
theorem zsx {n:Nat} (hn:n≤4) {S:List (List Int)} (hS:S.length≤12):∀ P:List (List Int),(zl1 n S P).length≤60*P.length
 | []=>by simp [zl1]
 | p::P=>by
  have ih:=zsx hn hS P
  have inner:∀ W:List (List Int),(W.flatMap fun w=>S.map fun e=>w++e).length≤12*W.length:=by
   intro W
   induction W with
   | nil=>simp
   | cons w W h =>
    rw [List.flatMap_cons,zkJ,zkK,zkL];omega
  have h1:=inner (zh6 n p)
  have h2:(zh6 n p).length≤5:=by
   unfold zh6;rw [zkL,zkK,List.length_range];omega
  unfold zl1 at ih ⊢;rw [List.flatMap_cons,zkJ,zkL];omega
theorem zol {n:Nat} {S P:List (List Int)} {v:List Int}:v∈zl1 n S P↔∃ p∈P,∃ w∈zh6 n p,∃ e∈S,w++e=v:=by
 unfold zl1;simp only [List.mem_flatMap,List.mem_map]
theorem mem_needL {o:zab} {t:zac} {P:List (List Int)} {v:List Int}:v∈zdv o t P↔v∈zl1 t.Inputs.toNat t.Suffixes P∧ansO o v=none:=by
 unfold zdv;rw [zol];constructor
 ·intro h;obtain ⟨p,hp,h⟩:=List.mem_flatMap.1 h;obtain ⟨w,hw,h⟩:=List.mem_flatMap.1 h;obtain ⟨⟨e,he,h1⟩,h2⟩:=zg3.1 h;exact ⟨⟨p,hp,w,hw,e,he,h1.symm⟩,h2⟩
 ·rintro ⟨⟨p,hp,w,hw,e,he,h1⟩,h2⟩;exact List.mem_flatMap.2 ⟨p,hp,List.mem_flatMap.2 ⟨w,hw,zg3.2 ⟨⟨e,he,h1.symm⟩,h2⟩⟩⟩
theorem maxR_up {l:List (List Int)} (L:Nat) (hL:∀ x∈l,x.length≤L):∀ (k:Nat) (v:List Int),v∈l→L-v.length≤k→∃ y∈maxR l,v <+: y
 | k,v,hv,hk=>by
  by_cases h:∀ y∈l,y=v∨¬ v <+: y
  ·exact ⟨v,(znc l v).2 ⟨hv,h⟩,List.prefix_refl _⟩
  ·have:∃ y∈l,y≠v∧v <+: y:=Classical.byContradiction fun hn=>h fun y hy=>Classical.byContradiction fun hn2=>hn ⟨y,hy,fun e=>hn2 (.inl e),Classical.byContradiction fun e=>hn2 (.inr e)⟩;obtain ⟨y,hy,hne,hp⟩:=this
   have hlt:v.length<y.length:=by
    rcases Nat.lt_or_ge v.length y.length with g | g
    ·exact g
    ·have:=hp.length_le;exact absurd (hp.eq_of_length (by omega)).symm hne
   have:=hL y hy;cases k with
   | zero=>omega
   | succ k =>
    obtain ⟨z,hz,hp2⟩:=maxR_up L hL k y hy (by omega);exact ⟨z,hz,hp.trans hp2⟩
theorem check_of {w:List Int} {n:Int} (hn:1≤n∧n≤1024) (hw:WOk n w) (hl:w.length≤1024):zbn w n=0:=by
 unfold zbn;rw [if_pos hn,if_neg (by omega),if_pos (List.all_eq_true.2 fun x hx=>zkB (hw x hx))]
structure SpIn (m:zal) (S I0:List (List Int)) (l:zai) (o:zab):Prop where
 told:zq5 m o
 suf:l.Suffixes=S
 inp:l.Inputs=m.Inputs
 n4:m.Inputs≤4
 val:zf9 l=0
 sm:SmT (lazT l)
 pl:l.Short.length≤61+zqa m S l.Short
 pw:∀ x∈l.Short,x.length≤61+zqa m S l.Short
 sl:S.length≤12
 sw:∀ x∈S,x.length≤30
 pair:zwk m S l.Short
 ins:∀ t∈o.Traces,t.In∈I0∨t.In∈zl1 m.Inputs.toNat S l.Short
 i0:I0.length≤400
 N:m.Next.length≤12
section
variable {m:zal} {S I0:List (List Int)} {l:zai} {o:zab}
theorem SpIn.tab (J:SpIn m S I0 l o):zev (lazT l):=by
 have h1:=zlm m S l.Short;have h2:=J.N;have h3:=J.pl;exact ⟨J.sm,by show l.Inputs≤4;rw [J.inp];exact J.n4,by show l.Short.length≤80;omega,by show l.Suffixes.length≤12;rw [J.suf];exact J.sl,fun x hx=>by have:=J.pw x hx;omega,fun x hx=>J.sw x (by rw [← J.suf];exact hx)⟩
theorem SpIn.chk (J:SpIn m S I0 l o):chkL l o=0:=by
 unfold chkL;rw [if_neg (by simpa using J.val),if_neg (by rw [J.inp,J.told.inp];simp)]
theorem zq5.smo (T:zq5 m o):SmO o:=by
 refine ⟨by have:=T.ok.num;omega,fun t ht=>?_⟩;have h1:=zq8 (T.ok.prop t ht).1.1;have h2:=(T.tr.2 t ht).2;unfold SmW at h2;exact ⟨by omega,h2⟩
theorem SpIn.count (J:SpIn m S I0 l o):o.Traces.length≤4780:=by
 have hn:(o.Traces.map fun t=>t.In).Nodup:=by
  rw [List.Nodup,List.pairwise_map];refine J.told.ok.pw.1.imp fun {a b} h e=>?_;rw [e,zga] at h;cases h
 have:=nodup_len (k:=I0++zl1 m.Inputs.toNat S l.Short) hn fun x hx=>by
  obtain ⟨t,ht,rfl⟩:=List.mem_map.1 hx;rcases J.ins t ht with h | h
  ·exact List.mem_append.2 (.inl h)
  ·exact List.mem_append.2 (.inr h)
 rw [zkK,zkJ] at this;have h1:=zsx (n:=m.Inputs.toNat) (by have:=J.n4;omega) J.sl l.Short;have h2:=zlm m S l.Short;have h3:=J.N;have h4:=J.pl;have h5:=J.i0;omega
theorem SpIn.cell (J:SpIn m S I0 l o) (H:zhk m) {v:List Int} (hv:v∈zl1 m.Inputs.toNat S l.Short):zbn v m.Inputs=0∧v.length≤200:=by
 have i1:=H.i1;have i2:=H.i2;obtain ⟨hck,_,_,hsc⟩:=zeq (znd J.val).1;obtain ⟨p,hp,w,hw,e,he,rfl⟩:=zol.1 hv;have h2:=zlm m S l.Short;have h3:=J.N;have hpl:=J.pw p hp;have hel:=J.sw e he
 have hpc:WOk m.Inputs p:=by
  have:=zdh (hck p hp);rw [show (lazT l).Inputs=m.Inputs from J.inp] at this;exact this
 have hec:WOk m.Inputs e:=by
  have:=zdh (hsc e (by show e∈l.Suffixes;rw [J.suf];exact he)).1;rw [show (lazT l).Inputs=m.Inputs from J.inp] at this;exact this
 have hwc:WOk m.Inputs w∧w.length≤p.length+1:=by
  unfold zh6 at hw;rcases List.mem_cons.1 hw with g | g
  ·rw [g];exact ⟨hpc,by omega⟩
  ·obtain ⟨a,ha,rfl⟩:=List.mem_map.1 g;have ha:=List.mem_range.1 ha;refine ⟨hpc.append fun x hx=>?_,by rw [zkJ,List.length_singleton];omega⟩;rw [List.mem_singleton.1 hx];omega
 have hl:(w++e).length≤200:=by
  rw [zkJ];have:=hwc.2;omega
 exact ⟨check_of (by omega) (hwc.1.append hec) (by omega),hl⟩
theorem SpIn.ask (J:SpIn m S I0 l o) (H:zhk m) (hv6:zb6 m=some 0):zej o m (maxR (zdv o (lazT l) l.Short))=some (zl4 m o (maxR (zdv o (lazT l) l.Short)),0)∧SpIn m S I0 l (zl4 m o (maxR (zdv o (lazT l) l.Short)))∧zdv (zl4 m o (maxR (zdv o (lazT l) l.Short))) (lazT l) l.Short=[]:=by
 have hin:(lazT l).Inputs.toNat=m.Inputs.toNat:=by rw [show (lazT l).Inputs=m.Inputs from J.inp]
 have hsu:(lazT l).Suffixes=S:=J.suf;have hmem:∀ v,v∈zdv o (lazT l) l.Short↔v∈zl1 m.Inputs.toNat S l.Short∧ansO o v=none:=fun v=>by rw [mem_needL,hin,hsu]
 have hcell:∀ w∈maxR (zdv o (lazT l) l.Short),w∈zl1 m.Inputs.toNat S l.Short:=fun w hw=>((hmem w).1 (mem_maxR hw)).1;have hck:∀ w∈maxR (zdv o (lazT l) l.Short),zbn w m.Inputs=0:=fun w hw=>(J.cell H (hcell w hw)).1;have hc:=J.count
 have hlen:(maxR (zdv o (lazT l) l.Short)).length≤4380:=by
  have h1:=maxR_length (zdv o (lazT l) l.Short)
  have h2:(zdv o (lazT l) l.Short).length≤(zl1 m.Inputs.toNat S l.Short).length:=by
   unfold zdv zl1;rw [hin,hsu]
   have key:∀ (W:List (List Int)),(W.flatMap fun w=>zeh o w S).length≤(W.flatMap fun w=>S.map fun e=>w++e).length:=by
    intro W
    induction W with
    | nil=>simp
    | cons w W h =>
     rw [List.flatMap_cons,List.flatMap_cons,zkJ,zkJ,zkK];have:=zj4 o w S;omega
   generalize l.Short=P
   induction P with
   | nil=>simp
   | cons p P h =>
    rw [List.flatMap_cons,List.flatMap_cons,zkJ,zkJ];have:=key (zh6 m.Inputs.toNat p);omega
  have h3:=zsx (n:=m.Inputs.toNat) (by have:=J.n4;omega) J.sl l.Short;have h4:=zlm m S l.Short;have h5:=J.N;have h6:=J.pl;omega
 have T2:=zx0 H (maxR (zdv o (lazT l) l.Short)) o J.told hck (by omega);refine ⟨zv3 H hv6 J.told hck (by omega),⟨T2,J.suf,J.inp,J.n4,J.val,J.sm,J.pl,J.pw,J.sl,J.sw,J.pair,fun t ht=>?_,J.i0,J.N⟩,?_⟩
 ·rcases toldO_mem _ _ ht with h | h
  ·exact J.ins t h
  ·exact .inr (hcell _ h)
 ·refine List.eq_nil_iff_forall_not_mem.2 fun v hv=>?_;rw [mem_needL,hin,hsu] at hv
  have hk:Kn (zl4 m o (maxR (zdv o (lazT l) l.Short))) v:=by
   rw [toldO_kn];by_cases g:Kn o v
   ·exact .inl g
   ·obtain ⟨y,hy,hp⟩:=maxR_up 200 (fun x hx=>(J.cell H ((hmem x).1 hx).1).2) 200 v ((hmem v).2 ⟨hv.1,(zoz J.told.ex).2 g⟩) (by omega);exact .inr ⟨y,hy,hp⟩
  rw [(zoz T2.ex).1 hk] at hv;cases hv.2
theorem SpIn.step (J:SpIn m S I0 l o) (H:zhk m) (hv6:zb6 m=some 0) :
  (zdv o (lazT l) l.Short≠[]∧zk8 l o=(l,maxR (zdv o (lazT l) l.Short),false,0)) ∨
  (zdv o (lazT l) l.Short=[]∧∃ w,zk8 l o=(⟨l.Inputs,insW l.Short w,l.Suffixes⟩,[],false,0)∧SpIn m S I0 ⟨l.Inputs,insW l.Short w,l.Suffixes⟩ o∧zqa m S l.Short+1≤zqa m S (insW l.Short w)) ∨
  (∃ u,zk8 l o=(u,[],false,0)∧u.Suffixes.length=S.length+1):=by
 have hc:=J.chk;have hT:=J.tab;have hcT:=(zrq hc).1;have hgrow:=(stepL_grow hT J.told.ok J.val).1
 have hS:zk8 l o=(ofT (stepT (lazT l) o).1,(stepT (lazT l) o).2):=by
  unfold zk8;rw [if_neg (by simpa using hc)]
 rw [hS] at hgrow ⊢;unfold stepT at hgrow ⊢;rw [if_neg (by simpa using hcT)] at hgrow ⊢;by_cases g1:zdv o (lazT l) (lazT l).Prefixes≠[]
 ·rw [if_pos g1];exact .inl ⟨g1,rfl⟩
 ·rw [if_neg g1] at hgrow ⊢;have g1':zdv o (lazT l) (lazT l).Prefixes=[]:=Classical.not_not.1 g1;have hz:zi3 (lazT l) o=0:=zt3 hcT g1';have hA:=(zc5 hz).2.2;right;cases hf:(extL (lazT l)).find? (newRow (lazT l) o) with
  | some w =>
   left;rw [hf] at hgrow;obtain ⟨e1,e2⟩:=uncl_ins hT hz hf;simp only at hgrow ⊢;rw [e1] at hgrow ⊢;have hwm:=List.mem_of_find?_eq_some hf;obtain ⟨p,hp,h2⟩:=List.mem_flatMap.1 hwm;obtain ⟨a,ha,rfl⟩:=List.mem_map.1 h2;have ha:=List.mem_range.1 ha;have hin:(lazT l).Inputs=m.Inputs:=J.inp;rw [hin] at ha;obtain ⟨hck,_,_,_⟩:=zeq (znd J.val).1;have hpc:=zdh (hck p hp);rw [hin] at hpc
   have hwk:WOk m.Inputs (p++[(↑a:Int)]):=WOk.append hpc fun x hx=>by
    rw [List.mem_singleton.1 hx];omega
   have hnew:=List.find?_some hf;have hnew:rowO o (p++[(↑a:Int)]) l.Suffixes∉l.Short.map fun p=>rowO o p l.Suffixes:=of_decide_eq_true hnew
   have hrow:∀ q∈l.Short,∀ v∈zh6 m.Inputs.toNat q,rowO o v l.Suffixes=some (trow m S v):=fun q hq v hv=>by
    obtain ⟨R,hR⟩:=hA q hq v (by rw [hin];exact hv);have hR:rowO o v l.Suffixes=some R:=hR;rw [J.suf] at hR ⊢;rw [hR,zpq J.told.ex hR]
   have hnt:trow m S (p++[(↑a:Int)])∉l.Short.map (trow m S):=fun h=>hnew (by
    obtain ⟨q,hq,e⟩:=List.mem_map.1 h
    refine List.mem_map.2 ⟨q,hq,?_⟩
    rw [hrow q hq q (by simp [zh6]),hrow p hp (p++[(↑a:Int)]) (by
     unfold zh6
     exact List.mem_cons.2 (.inr (List.mem_map.2 ⟨a,List.mem_range.2 (by omega),rfl⟩))),e])
   have hre:=reachN_ins H hwk hnt;have hsub:∀ x∈l.Short,x∈insW l.Short (p++[(↑a:Int)]):=fun x hx=>(zfo _ _ _).2 (.inl hx)
   have hil:(insW l.Short (p++[(↑a:Int)])).length≤l.Short.length+1:=by
    unfold insW;split
    ·omega
    ·simp only [zkJ,zkL,List.length_take,List.length_drop];omega
   refine ⟨g1',p++[(↑a:Int)],rfl,⟨J.told,J.suf,J.inp,J.n4,hgrow.1,hgrow.2,by have:=J.pl;simp only;omega,fun x hx=>?_,J.sl,J.sw,J.pair.mono hsub,fun t ht=>?_,J.i0,J.N⟩,hre⟩
   ·rcases (zfo _ _ _).1 hx with e | e
    ·have:=J.pw x e;simp only;omega
    ·have:=J.pw p hp;rw [e,zkJ,List.length_singleton];simp only;omega
   ·rcases J.ins t ht with h | h
    ·exact .inl h
    ·obtain ⟨q,hq,h3⟩:=zol.1 h;exact .inr (zol.2 ⟨q,hsub q hq,h3⟩)
  | none =>
   right;simp only;cases hi:iP (lazT l) o with
   | none =>
    have HO:zds (lazT l) o:=⟨hT,J.told.smo,J.told.ok,hz,hf,hi⟩;obtain ⟨p,hp,q,hq,h1,a,ha,h2⟩:=J.pair;have hin:(lazT l).Inputs=m.Inputs:=J.inp;have hsu:(lazT l).Suffixes=S:=J.suf;have e1:rowG (lazT l) o p=trow m S p:=zpq J.told.ex (by rw [← hsu];exact HO.row hp);have e2:rowG (lazT l) o q=trow m S q:=zpq J.told.ex (by rw [← hsu];exact HO.row hq);have ha2:a<(lazT l).Inputs.toNat:=by rw [hin];omega
    have e3:rowG (lazT l) o (p++[(↑a:Int)])=trow m S (p++[(↑a:Int)]):=zpq J.told.ex (by rw [← hsu];exact HO.ext hp ha2);have e4:rowG (lazT l) o (q++[(↑a:Int)])=trow m S (q++[(↑a:Int)]):=zpq J.told.ex (by rw [← hsu];exact HO.ext hq ha2);have:=HO.cons hp hq (by rw [e1,e2,h1]) ha2;rw [e3,e4] at this;exact absurd this h2
   | some x =>
    obtain ⟨e1,_,_⟩:=inc_ins hT J.told.ok hz hi;obtain ⟨_,_,_,g4,_⟩:=ztr hT J.told.ok hz hi;simp only;refine ⟨ofT (zhi (lazT l) (toW (lazT l) x)).1,by rw [e1],?_⟩;show (zhi (lazT l) (toW (lazT l) x)).1.Suffixes.length=S.length+1;rw [g4];show l.Suffixes.length+1=S.length+1;rw [J.suf]
end
end
section
set_option maxRecDepth 100000
theorem great_more {t:zac} {o:zab} (h:zv2 t o=false):t.Prefixes.length≤30∧(∀ x∈t.Prefixes,x.length≤30)∧o.Traces.length≤400:=by
 unfold zv2 at h;simp only [Bool.or_eq_false_iff,decide_eq_false_iff_not,Bool.not_eq_false'] at h;obtain ⟨⟨⟨⟨h1,h2,h3⟩,h4,h5⟩,h6⟩,h7⟩:=h;exact ⟨by omega,fun x hx=>of_decide_eq_true (List.all_eq_true.1 h3 x hx),by omega⟩
theorem zxl (l:zai) (o:zab) (ht:SmT (lazT l)) (ho:SmO o):∃ b,znh l o=some b∧(b=false→(zev (lazT l)∧zc2 o)∧l.Short.length≤30∧(∀ x∈l.Short,x.length≤30)∧o.Traces.length≤400):=by
 have hl:=ho.1;obtain ⟨ev,hev,hv⟩:=R16_Valid_tot o ho;unfold znh zi1;rw [zan,show (⟨l.Inputs,l.Short,l.Suffixes⟩:zac)=lazT l from rfl,L23_Great_eq _ _ ht.2.1.1 ht.2.2.1.1 (by omega),zan];cases hg:zv2 (lazT l) o with
 | true=>exact ⟨true,rfl,fun h=>by cases h⟩
 | false =>
  rw [zkC,hev,zan];exact ⟨decide (ev≠0),rfl,fun h=>⟨⟨(tabOk_of ht hg).1,hv (Classical.not_not.1 (of_decide_eq_false h))⟩,great_more hg⟩⟩
theorem L24_Small_eq (m:zal):zn5 m=some (decide (m.Next.length≤12∧m.Out.length≤12∧m.Inputs≤4)):=by
 unfold zn5;by_cases h1:m.Next.length≤12
 ·rw [zkB (by omega),zkD];by_cases h2:m.Out.length≤12
  ·rw [zkB (by omega),zkD,zan];congr 1;exact decide_eq_decide.2 ⟨fun h=>⟨h1,h2,h⟩,fun h=>h.2.2⟩
  ·rw [zkA (by omega),zkC,zan,zkA fun h=>h2 h.2.1]
 ·rw [zkA (by omega),zkC,zan,zkA fun h=>h1 h.1]
theorem zss {m:zal} {o:zab} (H:zhk m) (hv:zc2 o) (ho:SmO o) (hin:o.Inputs=m.Inputs):∃ b,zc0 m o=some b∧(b=true→Expl m o):=by
 have hl:=ho.1;have hst:=H.st;have hS:m.Start=(↑m.Start.toNat:Int):=by omega
 unfold zc0
 have key:=zce (step:=fun s=>zc0.s2 m o s) (l:=o.Traces) (fun _ t=>if decide (outs m m.Start.toNat t.In=t.Out)=true then none else some false) (fun i t hx=>by
  have ht:=zkH hx
  have hP:=(hv.prop t ht).1
  have hw:WOk m.Inputs t.In:=by
   rw [← hin]
   exact zdh hP.1
  have hlen:=zq8 hP.1
  have hO:=zv6 H (s:=m.Start.toNat) (by omega) hw (by omega)
  rw [← hS] at hO
  simp only [zc0.s2]
  rw [zbw hx,zkD,zaq hx,hO,zan,zaq hx,zp3 _ _ (by rw [zis];omega),zan]
  by_cases g:outs m m.Start.toNat t.In=t.Out
  ·rw [zkB g]
   rfl
  ·rw [zkA g]
   rfl) (by
  simp only [zc0.s2]
  rw [zcr]
  rfl) (by omega)
 rw [key,zh8 (p:=fun (t:zaa)=>decide (outs m m.Start.toNat t.In=t.Out)),zan];by_cases h:(o.Traces.all fun t=>decide (outs m m.Start.toNat t.In=t.Out))=true
 ·rw [if_pos h];exact ⟨true,rfl,fun _ t ht=>(of_decide_eq_true (List.all_eq_true.1 h t ht)).symm⟩
 ·rw [if_neg h];exact ⟨false,rfl,fun e=>by cases e⟩
def muS (m:zal) (S:List (List Int)) (l:zai) (o:zab):Nat:=2*(12-zqa m S l.Short)+(if zdv o (lazT l) l.Short=[] then 0 else 1)
theorem split_loop {c:zcl} {I0:List (List Int)} {l:zai} (H:zhk c.M) (hv6:zb6 c.M=some 0) (J:SpIn c.M c.L.Suffixes I0 l c.O) :
  iter (fun (s:Int×List (List Int)×List (List Int)×Int×List zaa×Nat)=>zcy.s2 c s.1 s.2.1 s.2.2.1 s.2.2.2.1 s.2.2.2.2.1 s.2.2.2.2.2) fuel (l.Inputs,l.Short,l.Suffixes,c.O.Inputs,c.O.Traces,0)=some (.inr true) :=
 zdy (fun s=>∃ (l:zai) (o:zab) (i:Nat),s=(l.Inputs,l.Short,l.Suffixes,o.Inputs,o.Traces,i)∧SpIn c.M c.L.Suffixes I0 l o∧i+muS c.M c.L.Suffixes l o≤25) (fun s=>100-s.2.2.2.2.2) (fun s ⟨l,o,i,hs,J,hi⟩=>by
  subst hs
  simp only
  have hst:zfe ⟨l.Inputs,l.Short,l.Suffixes⟩ ⟨o.Inputs,o.Traces⟩=some (zk8 l o):=lazy_Step_eq J.tab J.told.smo J.told.ok
  have hr:=zlm c.M c.L.Suffixes l.Short
  have hN:=J.N
  have hsuf:=J.suf
  unfold zcy.s2
  rw [zkB (show (↑i:Int)<40 by omega),zkD,hst,zan]
  rcases J.step H hv6 with ⟨g1,g2⟩ | ⟨g1,w,g2,J2,g3⟩ | ⟨u,g2,g3⟩
  ·left
   obtain ⟨a1,a2,a3⟩:=J.ask H hv6
   have a1:zej ⟨o.Inputs,o.Traces⟩ c.M (maxR (zdv o (lazT l) l.Short))=some (zl4 c.M o (maxR (zdv o (lazT l) l.Short)),0):=a1
   rw [g2]
   simp only
   refine ⟨(l.Inputs,l.Short,l.Suffixes,(zl4 c.M o (maxR (zdv o (lazT l) l.Short))).Inputs,(zl4 c.M o (maxR (zdv o (lazT l) l.Short))).Traces,i+1),?_,⟨l,zl4 c.M o (maxR (zdv o (lazT l) l.Short)),i+1,rfl,a2,?_⟩,by simp only;omega⟩
   ·rw [zkA (by decide),zkC,zan,zkC,zkA (by rw [hsuf];omega),zkC,a1,zan]
    rfl
   ·unfold muS at hi ⊢
    rw [if_neg g1] at hi
    rw [if_pos a3]
    omega
  ·left
   have a1:zej ⟨o.Inputs,o.Traces⟩ c.M []=some (o,0):=by
    have:=zv3 H hv6 (ws:=[]) J.told (fun w hw=>by cases hw) (by have:=J.count;simp;omega)
    exact this
   rw [g2]
   simp only
   have hr2:=zlm c.M c.L.Suffixes (insW l.Short w)
   refine ⟨(l.Inputs,insW l.Short w,l.Suffixes,o.Inputs,o.Traces,i+1),?_,⟨⟨l.Inputs,insW l.Short w,l.Suffixes⟩,o,i+1,rfl,J2,?_⟩,by simp only;omega⟩
   ·rw [zkA (by decide),zkC,zan,zkC,zkA (by rw [hsuf];omega),zkC,a1,zan]
    rfl
   ·unfold muS at hi ⊢
    rw [if_pos g1] at hi
    simp only
    split
    ·omega
    ·omega
  ·right
   rw [g2]
   simp only
   rw [zkA (by decide),zkC,zan,zkC,zkB (by omega),zkD,zs0,zan]) ⟨l,c.O,0,rfl,J,by
  unfold muS
  split<;>omega⟩ (by have:=za4;simp only;omega)
theorem ztt (c:zcl) (ht:SmT (lazT c.L)) (ho:SmO c.O) (h1:SmW c.S.Prefix) (h2:SmW c.S.Suffix):zcy c=some true:=by
 have hA:((zix).bind fun c77=>some c77)=some true:=by rw [zs0];rfl
 obtain ⟨b,hb,hz⟩:=zxl c.L c.O ht ho;unfold zcy;rw [hb,zan,hA];cases b with
 | true=>rfl
 | false =>
  obtain ⟨⟨hT,hv⟩,hp1,hp2,htr⟩:=hz rfl;rw [zkC,L24_Small_eq,zan];by_cases g1:c.M.Next.length≤12∧c.M.Out.length≤12∧c.M.Inputs≤4
  ·rw [zkB g1,Bool.not_true,zkC];obtain ⟨e6,he6,hz6⟩:=zq4 c.M;rw [he6,zan];by_cases g2:e6=0
   ·have H:=hz6 g2;have hv6:zb6 c.M=some 0:=by rw [he6,g2]
    rw [zkA (by simpa using g2),zkC];by_cases g3:c.O.Inputs=c.M.Inputs
    ·rw [zkA (fun h=>h g3),zkC];obtain ⟨ex,hex,hexz⟩:=zss H hv ho g3;rw [hex,zan];cases ex with
     | false=>rfl
     | true =>
      have hE:=hexz rfl;rw [Bool.not_true,zkC];by_cases g4:30<(↑c.S.Prefix.length:Int)
      ·rw [zkB g4];rfl
      by_cases g5:30<(↑c.S.Suffix.length:Int)
      ·rw [zkA g4,zkC,zkB g5];rfl
      rw [zkA g4,zkC,zkA g5,zan,zkC,R28_Step_eq hT ho hv,zan];by_cases g6:(zk8 c.L c.O).2.2.2=0∧(zk8 c.L c.O).2.2.1=true∧(zk8 c.L c.O).2.1=[]
      ·rw [zkA (fun h=>h g6.1),zkC,g6.2.1,Bool.not_true,zkC,g6.2.2,zan,zkA (by simp),zkC,zw1 ho hv hT h1 h2,zan];unfold refineL;by_cases k1:chkL c.L c.O=0
       ·rw [if_neg (by simpa using k1)];by_cases k2:zpi c.S c.L.Inputs=0
        ·rw [if_neg (by simpa using k2)];have hck:=zrq k1
         have hinp:c.L.Inputs=c.M.Inputs:=by
          rw [← g3];unfold chkL at k1;split at k1
          ·rename_i h;exact absurd k1 h
          ·split at k1
           ·cases k1
           ·rename_i h;exact Classical.not_not.1 h
         have i1:=H.i1;have i2:=H.i2;obtain ⟨q1,q2,q3,q4,q5,q6⟩:=proper_in k2 (by omega);by_cases k3:zdc (refR c.L c.O (c.S.Prefix++[c.S.Symbol]) c.S.Suffix).2=true
         ·rw [if_pos k3];have:decide ((refR c.L c.O (c.S.Prefix++[c.S.Symbol]) c.S.Suffix).2.2≠0)||decide ((refR c.L c.O (c.S.Prefix++[c.S.Symbol]) c.S.Suffix).2.1≠[]):=k3
          rw [stuck_step,k3];rfl
         ·rw [if_neg k3];have k3':zdc (refR c.L c.O (c.S.Prefix++[c.S.Symbol]) c.S.Suffix).2=false:=by simpa using k3
          by_cases k4:zf9 (zth c.L (refR c.L c.O (c.S.Prefix++[c.S.Symbol]) c.S.Suffix).1)=0
          ·rw [if_neg (by simpa using k4)];simp only;rw [zkA (by decide),zkC,zan,zkA (by simp),zkC];have hva:=zez hck.2.2.2
           have hsing:∀ a:Nat,(↑a:Int)<c.M.Inputs→[(↑a:Int)]∈c.L.Suffixes:=fun a ha=>hva.2.2.2.2.1 a (List.mem_range.2 (by
            show a<c.L.Inputs.toNat
            rw [hinp]
            omega))
           have hsv:WOk c.M.Inputs c.S.Suffix:=by
            rw [← hinp];exact zdh q3
           obtain ⟨p1,p2,p3⟩:=refR_pair hE hsing hp2 (u:=c.S.Prefix++[c.S.Symbol]) hsv (by rw [zkJ,List.length_singleton];omega) k3';obtain ⟨r1,r2⟩:=zyi (o:=c.O) hT q1;have hlen:=zhu (c.L.Short++(refR c.L c.O (c.S.Prefix++[c.S.Symbol]) c.S.Suffix).1);rw [zkJ] at hlen
           have J:SpIn c.M c.L.Suffixes (c.O.Traces.map fun t=>t.In) (zth c.L (refR c.L c.O (c.S.Prefix++[c.S.Symbol]) c.S.Suffix).1) c.O:=by
            refine ⟨⟨hv,ho.tr,hE,g3⟩,rfl,hinp,g1.2.2,k4,grownL_sm hT r1 r2,?_,fun x hx=>?_,hT.s,hT.sw,p1.mono fun x hx=>(zdd _ _).2 hx,fun t ht=>.inl (List.mem_map.2 ⟨t,ht,rfl⟩),by rw [zkK];exact htr,g1.1⟩
            ·show (sortW (c.L.Short++(refR c.L c.O (c.S.Prefix++[c.S.Symbol]) c.S.Suffix).1)).length≤_;omega
            ·rcases List.mem_append.1 ((zdd _ _).1 hx) with h | h
             ·have:=hp2 x h;omega
             ·have:=p3 x h;omega
           have:=split_loop H hv6 J;refine (congrArg (fun z=>Option.bind z _) this).trans ?_;rfl
          ·rw [if_pos k4];simp only;rw [zkB k4];rfl
        ·rw [if_pos k2];simp only;rw [zkB k2];rfl
       ·rw [if_pos k1];simp only;rw [zkB k1];rfl
      ·by_cases f1:(zk8 c.L c.O).2.2.2=0
       ·rw [zkA (fun h=>h f1),zkC];cases f2:(zk8 c.L c.O).2.2.1 with
        | false=>rfl
        | true =>
         rw [Bool.not_true,zkC];have f3:(zk8 c.L c.O).2.1≠[]:=fun e=>g6 ⟨f1,f2,e⟩;rw [zkB (zuq f3)];rfl
       ·rw [zkB f1];rfl
    ·rw [zkB g3];rfl
   ·rw [zkB g2];rfl
  ·rw [zkA g1];rfl
end
section
theorem zp9 (x0:zcl) (k0:zjc x0) (s0:zg0 x0≤1048576):zcy x0=some true:=by
 unfold zg0 at s0;have h:=spl_of (x:=x0.S) (by omega);exact ztt x0 (lzt_of k0.2.2.1 (by omega)) (smo_of (by omega)) h.1 h.2
end
end Go.Proofs.YtedabpfahmealaaGreatDoor.Sym
